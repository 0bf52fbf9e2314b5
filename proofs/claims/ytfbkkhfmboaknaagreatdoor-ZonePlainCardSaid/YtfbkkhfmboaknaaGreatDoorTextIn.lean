/-
  A region that draws its order, within a fence that lets everything: walked in the order of the text.
-/
import Derived.Test.YtfbkkhfmboaknaaGreatDoorSerialC
import Derived.Test.YtfbkkhfmboaknaaGreatDoorFrm
namespace Go.Proofs.YtfbkkhfmboaknaaGreatDoor
open Go Go.RowKit

section
variable {P : Program} {n : Nat} {ops : Array Oper}
/-- A fence that lets everything. -/
def Wide (F : Fence) : Prop := F = Fence.wide ∨ ∃ l, F = Fence.wide.inRound l
theorem wide0 : Wide Fence.wide := .inl rfl
theorem wide1 (l : Nat) : Wide (Fence.wide.inRound l) := .inr ⟨l, rfl⟩
theorem Wide.fn {F : Fence} (h : Wide F) (f : FuncId) : F.fn f := by rcases h with rfl | ⟨l, rfl⟩ <;> trivial
theorem Wide.depth {F : Fence} (h : Wide F) : F.depth = none := by rcases h with rfl | ⟨l, rfl⟩ <;> rfl
theorem Wide.calls {F : Fence} (h : Wide F) {f : FuncId} {args : Array Value} {w : World} {R : Ending → World → Prop} (hc : Calls P f args w R) : CallsIn F n P f args w R := by
  rcases h with rfl | ⟨l, rfl⟩
  · exact callsIn_wide.2 hc
  · exact (callsIn_wide.2 hc).inRound l
theorem Wide.rows {F : Fence} (h : Wide F) {row : String} {args : Array Value} {w : World} {R : Value → World → Prop} (hc : Rows P row args w R) : RowsIn F n P row args w R := by
  have h0 : RowsIn Fence.wide n P row args w R := fun c cs _ => by
    obtain ⟨v, w', r, s⟩ := hc c cs
    exact ⟨v, w', r, stepsIn_wide.2 s⟩
  rcases h with rfl | ⟨l, rfl⟩
  · exact h0
  · exact h0
def noDefer (op : Op) : Bool := match op with | .defer .. => false | _ => true
theorem upon_in {F : Fence} (hF : Wide F) {o : Oper} {a : Act} {next next' : Act → World → Prop} {R : Act → World → Prop} (hn : ∀ a w, next a w → next' a w) {r : Result Next}
    (h : o.upon P a next (Exit.then R (fun _ _ _ => False)) r) : o.uponIn F n P a next' (Exit.then R (fun _ _ _ => False)) r := by
  have hd : F.depth.isSome = true → 1 ≤ n := fun h => by rw [hF.depth] at h; cases h
  cases r with
  | halt hh w' =>
    cases hh <;> simp only [Oper.upon] at h
    exact h
  | ok x w' =>
    cases x <;> simp only [Oper.upon] at h
    case value v => exact hn _ _ h
    case skip => exact hn _ _ h
    case defer d => exact hn _ _ h
    case enter f args =>
      refine ⟨hd, (hF.calls h).mono ?_⟩
      intro e w'' he
      cases e with
      | returned v => exact hn _ _ he
      | panicked c => exact he
      | outgrown => exact he
    case row r args => exact ⟨hd, (hF.rows h).mono fun v w'' he => hn _ _ he⟩
theorem ops_in {F : Fence} (hF : Wide F) (hnd : ∀ (i : Nat) (o : Oper), ops[i]? = some o → noDefer o.op = true) {R : Act → World → Prop} : ∀ (l : List Nat) (a : Act) (w : World),
    wpOps P ops (Exit.then R (fun _ _ _ => False)) l a w → wpOpsIn F n P ops (Exit.then R (fun _ _ _ => False)) l a w
  | [], a, w, h => h
  | i :: l, a, w, h => by
    rw [wpOps_cons] at h
    unfold wpOp at h
    simp only [wpOpsIn]
    cases ho : ops[i]? with
    | none =>
      simp only [ho] at h
      exact ops_in hF hnd l a w h
    | some o =>
      simp only [ho] at h
      by_cases hw : Region.wanted o (yielded ops a.tmps) = true
      · rw [if_pos hw] at h
        dsimp only
        rw [if_pos hw]
        rcases h with h | ⟨_, h⟩
        · refine ⟨fun f _ => hF.fn f, ?_⟩
          rw [Oper.semAt_plain F a.eval o (fun c hc => by have := hnd i o ho; rw [hc] at this; cases this)]
          exact upon_in hF (fun a w h => ops_in hF hnd l a w h) h
        · exact (straight_out h).elim
      · rw [if_neg hw] at h
        dsimp only
        rw [if_neg hw]
        exact ⟨fun f _ => hF.fn f, ops_in hF hnd l _ w h⟩
/-- A REGION THAT DRAWS ITS ORDER, WITHIN A FENCE, WALKED IN THE ORDER OF THE TEXT (by the walk without a fence). -/
theorem wpIn_text {F : Fence} (hF : Wide F) {id : Nat} {l : List Oper} {Q : Exit → Act → World → Prop} {a : Act} {w : World} (hm : P.follows .mixedOrders = true) (hs : serialB P l.toArray (maskOf l.toArray) = true) (hd : (l.all fun o => noDefer o.op) = true)
    (h : ∀ R : Act → World → Prop, (∀ a w, goodB P l.toArray a = true ∧ Q .normal a w → R a w) → wpList P l.toArray (Exit.then R (fun _ _ _ => False)) l a w.drew) : (Code.region id l.toArray true).wpIn F n P Q a w := by
  have hS := serial_of hs
  have h := h _ (fun _ _ h => h)
  have hl : wpOps P l.toArray (Exit.then (fun a w => goodB P l.toArray a = true ∧ Q .normal a w) (fun _ _ _ => False)) (unl l.toArray.size (Array.replicate l.toArray.size false)) a w.drew := by
    have e : unl l.toArray.size (Array.replicate l.toArray.size false) = List.range' 0 l.length := by
      unfold unl
      rw [List.filter_eq_self.2 fun k hk => by have := List.mem_range.1 hk; simp [Array.getD]; simpa using this, List.range_eq_range']
      simp
    rw [e, wpOps_eq_wpList l 0 (by simp)]
    exact h
  have hany := any_of_text hS (fun a w h => h.1) l.toArray.size (Array.replicate l.toArray.size false) (by simp) (fun i oi hi hl => by
      have : i < l.toArray.size := (Array.getElem?_eq_some_iff.1 hi).1
      simp [Array.getD] at hl) (by
        refine Nat.le_trans (List.length_filter_le _ _) ?_
        simp) a w.drew hl
  have hnd : ∀ (i : Nat) (o : Oper), l.toArray[i]? = some o → noDefer o.op = true := fun i o hi => List.all_eq_true.1 hd o (by
    rw [List.getElem?_toArray] at hi
    exact List.mem_of_getElem? hi)
  refine wpIn_mono (wpIn_region_draw (Q := Exit.then (fun a w => goodB P l.toArray a = true ∧ Q .normal a w) (fun _ _ _ => False)) fun t => ?_) fun e a w q => ?_
  · simp only [Region.schedule, hm, Bool.true_or, if_true]
    exact ops_in hF hnd _ _ _ (wpAny_sound l.toArray.size t _ a _ hany)
  · cases e with
    | normal => exact q.2
    | _ => exact q.elim
end
end Go.Proofs.YtfbkkhfmboaknaaGreatDoor
