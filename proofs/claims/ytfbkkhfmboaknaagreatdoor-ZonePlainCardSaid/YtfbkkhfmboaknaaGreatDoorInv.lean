/-
  A region that draws its order, walked operation by operation: each one leaves what is known of its own slot, whatever came up ahead of it.
-/
import Derived.Orders
import Derived.Tactics
import Derived.Below
import Derived.WalkKit
import Derived.Test.YtfbkkhfmboaknaaGreatDoorBase
namespace Go.Proofs.YtfbkkhfmboaknaaGreatDoor
open Go Go.RowKit

/-- What is known of a slot's value, and stays known while other memory is made. -/
structure Fact where
  p : Value → World → Prop
  keep : ∀ v w w', p v w → Below w.heap.size w w' → p v w'
def Fact.any : Fact := ⟨fun _ _ => True, fun _ _ _ _ _ => trivial⟩
def Fact.is (u : Value) : Fact := ⟨fun v _ => v = u, fun _ _ _ h _ => h⟩
def Fact.bytes (l : List UInt8) : Fact := ⟨fun v w => Bytes w w.heap.size v l, fun _ _ _ h hb => (h.below hb).more hb.size⟩
def upd (x : Nat → Value) (d : Nat) (v : Value) : Nat → Value := fun j => if j = d then v else x j
theorem upd_same (x : Nat → Value) (d : Nat) (v : Value) : upd x d v d = v := by simp [upd]
theorem upd_other (x : Nat → Value) {d j : Nat} (v : Value) (h : j ≠ d) : upd x d v j = x j := by simp [upd, h]
/-- The frame whose slots D hold what x says. -/
def frameOf (a : Act) (D : List Nat) (x : Nat → Value) : Act := D.foldl (fun a d => a.put (some d) (x d)) a
theorem frameOf_self (D : List Nat) : ∀ a : Act, frameOf a D (fun j => a.tmps.getD j undef) = a := by
  intro a
  have h : ∀ d, a.put (some d) (a.tmps.getD d undef) = a := fun d => by
    have e : a.tmps.setIfInBounds d (a.tmps.getD d undef) = a.tmps := by
      apply Array.ext_getElem?
      intro i
      rw [Array.getElem?_setIfInBounds]
      split
      · rename_i hi
        subst hi
        split
        · rename_i hl; simp [Array.getD, hl]
        · rename_i hl; rw [Array.getElem?_eq_none (by omega)]
      · rfl
    unfold Act.put
    simp only [e]
  unfold frameOf
  induction D with
  | nil => rfl
  | cons d D ih => rw [List.foldl_cons, h]; exact ih

/-- What is still to come. -/
def unlisted (listed : Array Bool) : List Nat := (List.range listed.size).filter fun k => !listed.getD k false
theorem getD_set' (listed : Array Bool) (i k : Nat) (d : Bool) : (listed.setIfInBounds i true).getD k d = if i = k ∧ i < listed.size then true else listed.getD k d := by
  simp only [Array.getD_eq_getD_getElem?, Array.getElem?_setIfInBounds]
  split
  · rename_i h
    subst h
    split
    · rename_i h; simp [h]
    · rename_i h; rw [if_neg (fun hh => h hh.2), Array.getElem?_eq_none (by omega)]
  · rename_i h; rw [if_neg (fun hh => h hh.1)]
theorem filter_less (l : List Nat) (p q : Nat → Bool) (hpq : ∀ k, q k = true → p k = true) (i : Nat) (hi : i ∈ l) (h1 : p i = true) (h2 : q i = false) : (l.filter q).length < (l.filter p).length := by
  induction l with
  | nil => cases hi
  | cons a l ih =>
    have hle : (l.filter q).length ≤ (l.filter p).length := by
      clear ih hi
      induction l with
      | nil => exact Nat.le_refl _
      | cons b l ih =>
        simp only [List.filter_cons]
        cases hq : q b with
        | true => rw [hpq b hq]; simpa using ih
        | false => cases p b <;> simp <;> omega
    simp only [List.filter_cons]
    rcases List.mem_cons.1 hi with rfl | hi
    · rw [h1, h2]; simp; omega
    · have := ih hi
      cases hq : q a with
      | true => rw [hpq a hq]; simpa using this
      | false => cases p a <;> simp <;> omega
theorem unlisted_set {listed : Array Bool} {i : Nat} (hi : i < listed.size) (h : listed.getD i false = false) : (unlisted (listed.setIfInBounds i true)).length < (unlisted listed).length := by
  unfold unlisted
  rw [Array.size_setIfInBounds]
  refine filter_less _ _ _ (fun k hk => ?_) i (List.mem_range.2 hi) (by rw [h]; rfl) (by rw [getD_set', if_pos ⟨rfl, hi⟩]; rfl)
  rw [getD_set'] at hk
  split at hk
  · cases hk
  · exact hk

section
variable {P : Program} {ops : Array Oper}
/-- One operation's step, whatever came up ahead of it. -/
def Step (P : Program) (ops : Array Oper) (a : Act) (D : List Nat) (F : List Fact) (w0 : World) (i : Nat) (o : Oper) : Prop :=
  ∀ (x : Nat → Value) (w : World) (R : Act → World → Prop), Below w0.heap.size w0 w → (∀ j, (o.after.any fun e => Region.binds .any e && e.on == j) = true → (F.getD j .any).p (x (D.getD j 0)) w) →
    (∀ v w', (F.getD i .any).p v w' → Below w.heap.size w w' → R (frameOf a D (upd x (D.getD i 0) v)) w') → wpList P ops (Exit.then R (fun _ _ _ => False)) [o] (frameOf a D x) w
def Steps (P : Program) (ops : Array Oper) (a : Act) (D : List Nat) (F : List Fact) (w0 : World) : Nat → List Oper → Prop
  | _, [] => True
  | k, o :: l => Step P ops a D F w0 k o ∧ Steps P ops a D F w0 (k + 1) l
theorem steps_at {a : Act} {D : List Nat} {F : List Fact} {w0 : World} : ∀ {l : List Oper} {k : Nat}, Steps P ops a D F w0 k l → ∀ {j : Nat} {o : Oper}, l[j]? = some o → Step P ops a D F w0 (k + j) o
  | [], _, _, _, _, h => by simp at h
  | x :: l, k, hs, 0, o, h => by
    simp only [List.getElem?_cons_zero, Option.some.injEq] at h
    subst h
    exact hs.1
  | x :: l, k, hs, j + 1, o, h => by
    rw [List.getElem?_cons_succ] at h
    have := steps_at hs.2 h
    rwa [show k + 1 + j = k + (j + 1) by omega] at this
/-- What is asked of the region itself: no operation waits for one behind it; each has a slot of its own. -/
def invB (ops : Array Oper) (D : List Nat) : Bool :=
  (List.range ops.size).all (fun i => match ops[i]? with | some o => o.after.all fun e => !Region.binds .any e || decide (e.on < i) | none => true) && decide (D.length = ops.size) && decide (D.Nodup)
theorem wp_swapR {o : Oper} {K R R' : Act → World → Prop} {a : Act} {w : World} (hh : o.wp P a w K (Exit.then R (fun _ _ _ => False))) : o.wp P a w K (Exit.then R' (fun _ _ _ => False)) := by
  unfold Oper.wp at *
  generalize (execOp a.eval o).run P w = r at *
  cases r with
  | ok n w' =>
    cases n <;> simp only [Oper.upon] at hh ⊢ <;>
      first
        | exact hh
        | exact Calls.mono hh (fun e w'' he => by
            cases e
            · exact he
            · exact False.elim he
            · exact absurd he (fun ⟨_, _, h⟩ => h))
        | exact Rows.mono hh (fun _ _ he => he)
  | halt x w' => cases x <;> simp only [Oper.upon] at hh ⊢ <;> first | exact hh | exact False.elim hh
theorem wpOp_of_list {i : Nat} {o : Oper} (hi : ops[i]? = some o) {K : Act → World → Prop} {a : Act} {w : World} (R0 : Act → World → Prop)
    (h : wpList P ops (Exit.then K (fun _ _ _ => False)) [o] a w) : wpOp P ops (Exit.then R0 (fun _ _ _ => False)) i K a w := by
  unfold wpOp
  rw [hi]
  unfold wpList at h
  dsimp only
  split at h
  · rename_i hc
    rw [if_pos hc]
    rcases h with h | h
    · exact .inl (wp_swapR h)
    · exact absurd h.2 (fun ⟨_, _, h⟩ => h)
  · rename_i hc
    rw [if_neg hc]
    exact h
theorem any_inv {a : Act} {D : List Nat} {F : List Fact} {w0 : World} {l : List Oper} (ho : ops = l.toArray) (hb : invB ops D = true) (hstep : Steps P ops a D F w0 0 l) {R0 : Act → World → Prop}
    (hend : ∀ x w', Below w0.heap.size w0 w' → (∀ i, i < ops.size → (F.getD i .any).p (x (D.getD i 0)) w') → R0 (frameOf a D x) w') :
    ∀ (fuel : Nat) (listed : Array Bool), listed.size = ops.size → (unlisted listed).length ≤ fuel → ∀ (x : Nat → Value) (w : World), Below w0.heap.size w0 w →
      (∀ i, listed.getD i false = true → (F.getD i .any).p (x (D.getD i 0)) w) → wpAny P .any ops (Exit.then R0 (fun _ _ _ => False)) fuel listed (frameOf a D x) w := by
  simp only [invB, Bool.and_eq_true, decide_eq_true_eq, List.all_eq_true, List.mem_range] at hb
  obtain ⟨⟨hb, hlen⟩, hnd⟩ := hb
  have hnone : ∀ (listed : Array Bool), listed.size = ops.size → Region.ready .any ops listed = [] → ∀ i, i < ops.size → listed.getD i false = true := fun listed hsz hr i => by
    induction i using Nat.strongRecOn with
    | _ i ih =>
      intro hi
      cases hl : listed.getD i true with
      | true =>
        have : i < listed.size := by omega
        simpa [Array.getD, this] using hl
      | false =>
        exfalso
        have : i ∈ Region.ready .any ops listed := mem_ready.2 ⟨hl, _, Array.getElem?_eq_getElem hi, fun e he hbd => by
          have h1 := hb i hi
          rw [Array.getElem?_eq_getElem hi] at h1
          have h2 := Array.all_eq_true_iff_forall_mem.1 h1 e he
          simp only [hbd, Bool.not_true, Bool.false_or, decide_eq_true_eq] at h2
          exact ih e.on h2 (by omega)⟩
        rw [hr] at this
        cases this
  intro fuel
  induction fuel with
  | zero =>
    intro listed hsz hf x w hB hF
    have hall : ∀ i, i < ops.size → listed.getD i false = true := fun i hi => by
      cases hl : listed.getD i false with
      | true => rfl
      | false =>
        have : i ∈ unlisted listed := by
          simp only [unlisted, List.mem_filter, List.mem_range]
          refine ⟨by omega, by rw [hl]; rfl⟩
        rw [List.eq_nil_of_length_eq_zero (Nat.le_zero.1 hf)] at this
        cases this
    refine ⟨?_, hend x w hB fun i hi => hF i (hall i hi)⟩
    rcases hr : Region.ready .any ops listed with _ | ⟨i, l'⟩
    · rfl
    · have hi : i ∈ Region.ready .any ops listed := by rw [hr]; exact List.mem_cons_self ..
      obtain ⟨h0, o, ho, _⟩ := mem_ready.1 hi
      have hi := (Array.getElem?_eq_some_iff.1 ho).1
      have h1 := hall i hi
      have : i < listed.size := by omega
      simp only [Array.getD, this, dif_pos] at h0 h1
      rw [h0] at h1
      cases h1
  | succ fuel ih =>
    intro listed hsz hf x w hB hF
    refine ⟨fun hr => hend x w hB fun i hi => hF i (hnone listed hsz hr i hi), fun i hi => ?_⟩
    obtain ⟨h0, o, hio, hall⟩ := mem_ready.1 hi
    have hin := (Array.getElem?_eq_some_iff.1 hio).1
    have hl : l[i]? = some o := by rw [ho] at hio; simpa using hio
    have hst := steps_at hstep hl
    rw [Nat.zero_add] at hst
    refine wpOp_of_list hio _ (hst x w _ hB (fun j hj => ?_) fun v w' hv hw => ih (listed.setIfInBounds i true) (by simpa using hsz) ?_ _ w' (hB.trans (hw.mono hB.size)) fun k hk => ?_)
    · obtain ⟨e, he, hej⟩ := Array.any_eq_true'.1 hj
      simp only [Bool.and_eq_true, beq_iff_eq] at hej
      have := hall e he hej.1
      rw [hej.2] at this
      exact hF j this
    · have := unlisted_set (listed := listed) (i := i) (by omega) (by
        have : i < listed.size := by omega
        simpa [Array.getD, this] using h0)
      omega
    · rw [getD_set'] at hk
      by_cases hik : i = k
      · subst hik
        rw [upd_same]
        exact hv
      · rw [if_neg (fun h => hik h.1)] at hk
        have hks : k < listed.size := by
          refine Nat.lt_of_not_le fun h => ?_
          simp [Array.getD, show ¬ k < listed.size by omega] at hk
        have hne : D.getD k 0 ≠ D.getD i 0 := by
          rw [List.getD_eq_getElem?_getD, List.getD_eq_getElem?_getD, List.getElem?_eq_getElem (show k < D.length by omega), List.getElem?_eq_getElem (show i < D.length by omega)]
          intro e
          simp only [Option.getD_some] at e
          have hp := List.pairwise_iff_getElem.1 hnd
          rcases Nat.lt_or_ge k i with h | h
          · exact hp k i (by omega) (by omega) h e
          · exact hp i k (by omega) (by omega) (by omega) e.symm
        rw [upd_other x v hne]
        exact (F.getD k .any).keep _ _ _ (hF k hk) hw
/-- A REGION THAT DRAWS ITS ORDER, OPERATION BY OPERATION. D: each one's slot; F: what each one leaves there. -/
theorem wp_inv {id : Nat} {l : List Oper} {Q : Exit → Act → World → Prop} {a : Act} {w : World} (hm : P.follows .mixedOrders = true) (D : List Nat) (F : List Fact) (hb : invB l.toArray D = true)
    (hstep : Steps P l.toArray a D F w 0 l)
    (hend : ∀ x w', Below w.heap.size w w' → (∀ i, i < l.toArray.size → (F.getD i .any).p (x (D.getD i 0)) w') → Q .normal (frameOf a D x) w') : (Code.region id l.toArray true).wp P Q a w := by
  have h := any_inv (ops := l.toArray) (R0 := fun b w' => Q .normal b w') rfl hb hstep hend l.toArray.size (Array.replicate l.toArray.size false) (by simp) (by
    refine Nat.le_trans (List.length_filter_le _ _) ?_
    simp) (fun j => a.tmps.getD j undef) w.drew ((Below.refl _ _).drew) (fun i hi => by simp [Array.getD] at hi)
  rw [frameOf_self] at h
  refine wp_mono (wp_region_any (id := id) hm h) fun e a w q => ?_
  cases e with
  | normal => exact q
  | _ => exact q.elim
end
end Go.Proofs.YtfbkkhfmboaknaaGreatDoor
