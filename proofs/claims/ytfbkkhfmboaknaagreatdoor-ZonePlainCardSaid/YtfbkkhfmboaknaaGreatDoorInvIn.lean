/-
  A region that draws its order, inside a fence, walked operation by operation under an invariant of what has come up.
-/
import Derived.OrdersIn
import Derived.TacticsIn
import Derived.Test.YtfbkkhfmboaknaaGreatDoorInv
namespace Go.Proofs.YtfbkkhfmboaknaaGreatDoor
open Go Go.RowKit

section
variable {F : Fence} {n : Nat} {P : Program} {ops : Array Oper}
/-- What has come up, and one more. -/
def more (L : Nat → Bool) (i : Nat) : Nat → Bool := fun j => decide (j = i) || L j
/-- Operation i stands directly behind j. -/
def depB (ops : Array Oper) (i j : Nat) : Bool := match ops[i]? with | some o => o.after.any fun e => Region.binds .any e && e.on == j | none => false
/-- What has come up came up behind what it stands behind. -/
def ShutI (ops : Array Oper) (L : Nat → Bool) : Prop := ∀ i j, depB ops i j = true → L i = true → L j = true
/-- One operation's step. -/
def StepI (F : Fence) (n : Nat) (P : Program) (ops : Array Oper) (a : Act) (D : List Nat) (Inv : (Nat → Bool) → (Nat → Value) → World → Prop) (i : Nat) (o : Oper) : Prop :=
  ∀ (L : Nat → Bool) (x : Nat → Value) (w : World) (R : Act → World → Prop), Inv L x w → ShutI ops L → L i = false → (∀ j, (o.after.any fun e => Region.binds .any e && e.on == j) = true → L j = true) →
    (∀ v w', Inv (more L i) (upd x (D.getD i 0) v) w' → R (frameOf a D (upd x (D.getD i 0) v)) w') → wpListIn F n P ops (Exit.then R (fun _ _ _ => False)) [o] (frameOf a D x) w
def StepsI (F : Fence) (n : Nat) (P : Program) (ops : Array Oper) (a : Act) (D : List Nat) (Inv : (Nat → Bool) → (Nat → Value) → World → Prop) : Nat → List Oper → Prop
  | _, [] => True
  | k, o :: l => StepI F n P ops a D Inv k o ∧ StepsI F n P ops a D Inv (k + 1) l
theorem stepsI_at {a : Act} {D : List Nat} {Inv : (Nat → Bool) → (Nat → Value) → World → Prop} : ∀ {l : List Oper} {k : Nat}, StepsI F n P ops a D Inv k l → ∀ {j : Nat} {o : Oper}, l[j]? = some o → StepI F n P ops a D Inv (k + j) o
  | [], _, _, _, _, h => by simp at h
  | x :: l, k, hs, 0, o, h => by
    simp only [List.getElem?_cons_zero, Option.some.injEq] at h
    subst h
    exact hs.1
  | x :: l, k, hs, j + 1, o, h => by
    rw [List.getElem?_cons_succ] at h
    have := stepsI_at hs.2 h
    rwa [show k + 1 + j = k + (j + 1) by omega] at this
theorem wpIn_swapR {o : Oper} {K R R' : Act → World → Prop} {a : Act} {w : World} (hh : o.wpIn F n P a w K (Exit.then R (fun _ _ _ => False))) : o.wpIn F n P a w K (Exit.then R' (fun _ _ _ => False)) := by
  unfold Oper.wpIn at *
  refine ⟨hh.1, ?_⟩
  have hh := hh.2
  generalize (o.semAt F.round a.eval).run P w = r at *
  cases r with
  | ok x w' =>
    cases x <;> simp only [Oper.uponIn] at hh ⊢ <;>
      first
        | exact hh
        | exact ⟨hh.1, CallsIn.mono hh.2 (fun e w'' he => by
            cases e
            · exact he
            · exact False.elim he
            · exact absurd he (fun ⟨_, _, h⟩ => h))⟩
        | exact ⟨hh.1, RowsIn.mono hh.2 (fun _ _ he => he)⟩
        | exact ⟨hh.1, RoundIn.mono hh.2 (fun e w'' he => by
            cases e
            · exact he
            · exact False.elim he
            · exact absurd he (fun ⟨_, _, h⟩ => h))⟩
  | halt x w' => cases x <;> simp only [Oper.uponIn] at hh ⊢ <;> first | exact hh | exact False.elim hh
theorem wpOpIn_of_list {i : Nat} {o : Oper} (hi : ops[i]? = some o) {K : Act → World → Prop} {a : Act} {w : World} (R0 : Act → World → Prop)
    (h : wpListIn F n P ops (Exit.then K (fun _ _ _ => False)) [o] a w) : wpOpIn F n P ops (Exit.then R0 (fun _ _ _ => False)) i K a w := by
  unfold wpOpIn
  rw [hi]
  unfold wpListIn at h
  dsimp only
  split at h
  · rename_i hc
    rw [if_pos hc]
    exact wpIn_swapR h
  · rename_i hc
    rw [if_neg hc]
    exact h
def seen (listed : Array Bool) : Nat → Bool := fun i => listed.getD i false
theorem seen_set {listed : Array Bool} {i : Nat} (hi : i < listed.size) : seen (listed.setIfInBounds i true) = more (seen listed) i := by
  funext k
  unfold seen more
  rw [getD_set']
  by_cases h : i = k
  · subst h; rw [if_pos ⟨rfl, hi⟩]; simp
  · rw [if_neg (fun hh => h hh.1)]
    have : decide (k = i) = false := decide_eq_false (fun e => h e.symm)
    rw [this]; rfl
theorem anyIn_inv {a : Act} {D : List Nat} {Inv : (Nat → Bool) → (Nat → Value) → World → Prop} {l : List Oper} (ho : ops = l.toArray) (hb : invB ops D = true) (hstep : StepsI F n P ops a D Inv 0 l) {R0 : Act → World → Prop}
    (hend : ∀ x w' L, (∀ i, i < ops.size → L i = true) → Inv L x w' → R0 (frameOf a D x) w') :
    ∀ (fuel : Nat) (listed : Array Bool), listed.size = ops.size → (unlisted listed).length ≤ fuel → ∀ (x : Nat → Value) (w : World), ShutI ops (seen listed) → Inv (seen listed) x w → wpAnyIn F n P .any ops (Exit.then R0 (fun _ _ _ => False)) fuel listed (frameOf a D x) w := by
  simp only [invB, Bool.and_eq_true, decide_eq_true_eq, List.all_eq_true, List.mem_range] at hb
  obtain ⟨⟨hb, hlen⟩, hnd⟩ := hb
  have hnone : ∀ (listed : Array Bool), listed.size = ops.size → Region.ready .any ops listed = [] → ∀ i, i < ops.size → listed.getD i false = true := fun listed hsz hr i => by
    induction i using Nat.strongRecOn with
    | _ i ih =>
      intro hi
      cases hl : listed.getD i true with
      | true =>
        have : i < listed.size := by omega
        simpa [Array.getD, this] using hl
      | false =>
        exfalso
        have : i ∈ Region.ready .any ops listed := mem_ready.2 ⟨hl, _, Array.getElem?_eq_getElem hi, fun e he hbd => by
          have h1 := hb i hi
          rw [Array.getElem?_eq_getElem hi] at h1
          have h2 := Array.all_eq_true_iff_forall_mem.1 h1 e he
          simp only [hbd, Bool.not_true, Bool.false_or, decide_eq_true_eq] at h2
          exact ih e.on h2 (by omega)⟩
        rw [hr] at this
        cases this
  intro fuel
  induction fuel with
  | zero =>
    intro listed hsz hf x w hsh hI
    have hall : ∀ i, i < ops.size → listed.getD i false = true := fun i hi => by
      cases hl : listed.getD i false with
      | true => rfl
      | false =>
        have : i ∈ unlisted listed := by
          simp only [unlisted, List.mem_filter, List.mem_range]
          refine ⟨by omega, by rw [hl]; rfl⟩
        rw [List.eq_nil_of_length_eq_zero (Nat.le_zero.1 hf)] at this
        cases this
    refine ⟨?_, hend x w _ hall hI⟩
    rcases hr : Region.ready .any ops listed with _ | ⟨i, l'⟩
    · rfl
    · have hi : i ∈ Region.ready .any ops listed := by rw [hr]; exact List.mem_cons_self ..
      obtain ⟨h0, o, ho, _⟩ := mem_ready.1 hi
      have hi := (Array.getElem?_eq_some_iff.1 ho).1
      have h1 := hall i hi
      have : i < listed.size := by omega
      simp only [Array.getD, this, dif_pos] at h0 h1
      rw [h0] at h1
      cases h1
  | succ fuel ih =>
    intro listed hsz hf x w hsh hI
    refine ⟨fun hr => hend x w _ (hnone listed hsz hr) hI, fun i hi => ?_⟩
    obtain ⟨h0, o, hio, hall⟩ := mem_ready.1 hi
    have hin := (Array.getElem?_eq_some_iff.1 hio).1
    have hl : l[i]? = some o := by rw [ho] at hio; simpa using hio
    have hst := stepsI_at hstep hl
    rw [Nat.zero_add] at hst
    have hli : seen listed i = false := by
      have : i < listed.size := by omega
      unfold seen
      simpa [Array.getD, this] using h0
    have hsh2 : ShutI ops (more (seen listed) i) := by
      intro i' j hd hm
      unfold more at hm ⊢
      by_cases hi' : i' = i
      · subst hi'
        unfold depB at hd
        rw [hio] at hd
        obtain ⟨e, he, hej⟩ := Array.any_eq_true'.1 hd
        simp only [Bool.and_eq_true, beq_iff_eq] at hej
        have := hall e he hej.1
        rw [hej.2] at this
        have h3 : seen listed j = true := this
        rw [h3]; simp
      · rw [decide_eq_false hi'] at hm
        rw [hsh i' j hd (by simpa using hm)]
        simp
    refine wpOpIn_of_list hio _ (hst (seen listed) x w _ hI hsh hli (fun j hj => ?_) fun v w' hv => ih (listed.setIfInBounds i true) (by simpa using hsz) ?_ _ w' (by rw [seen_set (by omega)]; exact hsh2) (by rw [seen_set (by omega)]; exact hv))
    · obtain ⟨e, he, hej⟩ := Array.any_eq_true'.1 hj
      simp only [Bool.and_eq_true, beq_iff_eq] at hej
      have := hall e he hej.1
      rw [hej.2] at this
      exact this
    · have := unlisted_set (listed := listed) (i := i) (by omega) hli
      omega
/-- A REGION THAT DRAWS ITS ORDER, INSIDE A FENCE. D: each operation's slot (one that the frame has not, where it has none). -/
theorem wpIn_inv {id : Nat} {l : List Oper} {Q : Exit → Act → World → Prop} {a : Act} {w : World} (hm : P.follows .mixedOrders = true) (D : List Nat) (Inv : (Nat → Bool) → (Nat → Value) → World → Prop) (hb : invB l.toArray D = true)
    (h0 : ∀ x, Inv (fun _ => false) x w.drew) (hstep : StepsI F n P l.toArray a D Inv 0 l)
    (hend : ∀ x w' L, (∀ i, i < l.toArray.size → L i = true) → Inv L x w' → Q .normal (frameOf a D x) w') : (Code.region id l.toArray true).wpIn F n P Q a w := by
  have hs : seen (Array.replicate l.toArray.size false) = fun _ => false := by
    funext i
    unfold seen
    simp [Array.getD]
  have h := anyIn_inv (F := F) (n := n) (P := P) (ops := l.toArray) (R0 := fun b w' => Q .normal b w') rfl hb hstep hend l.toArray.size (Array.replicate l.toArray.size false) (by simp) (by
    refine Nat.le_trans (List.length_filter_le _ _) ?_
    simp) (fun j => a.tmps.getD j undef) w.drew (by rw [hs]; exact fun i j _ h => by cases h) (by rw [hs]; exact h0 _)
  rw [frameOf_self] at h
  refine wpIn_mono (wpIn_region_any (id := id) hm h) fun e a w q => ?_
  cases e with
  | normal => exact q
  | _ => exact q.elim
/-- One operation's step, by what is known of each slot. -/
def StepF (F : Fence) (n : Nat) (P : Program) (ops : Array Oper) (a : Act) (D : List Nat) (Fs : List Fact) (w0 : World) (i : Nat) (o : Oper) : Prop :=
  ∀ (x : Nat → Value) (w : World) (R : Act → World → Prop), Below w0.heap.size w0 w → (∀ j, (o.after.any fun e => Region.binds .any e && e.on == j) = true → (Fs.getD j .any).p (x (D.getD j 0)) w) →
    (∀ v w', (Fs.getD i .any).p v w' → Below w.heap.size w w' → R (frameOf a D (upd x (D.getD i 0) v)) w') → wpListIn F n P ops (Exit.then R (fun _ _ _ => False)) [o] (frameOf a D x) w
def StepsF (F : Fence) (n : Nat) (P : Program) (ops : Array Oper) (a : Act) (D : List Nat) (Fs : List Fact) (w0 : World) : Nat → List Oper → Prop
  | _, [] => True
  | k, o :: l => StepF F n P ops a D Fs w0 k o ∧ StepsF F n P ops a D Fs w0 (k + 1) l
def InvF (D : List Nat) (Fs : List Fact) (w0 : World) (m : Nat) (L : Nat → Bool) (x : Nat → Value) (w : World) : Prop := Below w0.heap.size w0 w ∧ ∀ i, i < m → L i = true → (Fs.getD i .any).p (x (D.getD i 0)) w
theorem stepsI_of_F {a : Act} {D : List Nat} {Fs : List Fact} {w0 : World} {m : Nat} (hl : D.length = m) (hnd : D.Nodup) (hon : ∀ (i : Nat) o, ops[i]? = some o → ∀ e ∈ o.after, Region.binds .any e = true → e.on < m) : ∀ (l : List Oper) (k : Nat), (∀ j, l[j]? = ops[k + j]?) → StepsF F n P ops a D Fs w0 k l → k + l.length ≤ m → StepsI F n P ops a D (InvF D Fs w0 m) k l
  | [], _, _, _, _ => trivial
  | o :: l, k, hk, hs, hm => by
    rw [List.length_cons] at hm
    refine ⟨?_, stepsI_of_F hl hnd hon l (k + 1) (fun j => by have := hk (j + 1); simpa [Nat.add_assoc, Nat.add_comm 1 j] using this) hs.2 (by omega)⟩
    intro L x w R hI _ hL hr hR
    have ho : ops[k]? = some o := by simpa using (hk 0).symm
    refine hs.1 x w R hI.1 (fun j hj => hI.2 j ?_ (hr j hj)) fun v w' hv hw => hR v w' ⟨hI.1.trans (hw.mono hI.1.size), fun i hi hLi => ?_⟩
    · obtain ⟨e, he, hej⟩ := Array.any_eq_true'.1 hj
      simp only [Bool.and_eq_true, beq_iff_eq] at hej
      have := hon k o ho e he hej.1
      omega
    · by_cases hik : i = k
      · subst hik; rw [upd_same]; exact hv
      · have hne : D.getD i 0 ≠ D.getD k 0 := by
          rw [List.getD_eq_getElem?_getD, List.getD_eq_getElem?_getD, List.getElem?_eq_getElem (show i < D.length by omega), List.getElem?_eq_getElem (show k < D.length by omega)]
          intro e
          simp only [Option.getD_some] at e
          have hp := List.pairwise_iff_getElem.1 hnd
          rcases Nat.lt_or_ge i k with h | h
          · exact hp i k (by omega) (by omega) h e
          · exact hp k i (by omega) (by omega) (by omega) e.symm
        rw [upd_other x v hne]
        have : L i = true := by
          unfold more at hLi
          rw [decide_eq_false hik] at hLi
          simpa using hLi
        exact (Fs.getD i .any).keep _ _ _ (hI.2 i hi this) hw
theorem wpIn_facts {id : Nat} {l : List Oper} {Q : Exit → Act → World → Prop} {a : Act} {w : World} (hm : P.follows .mixedOrders = true) (D : List Nat) (Fs : List Fact) (hb : invB l.toArray D = true)
    (hstep : StepsF F n P l.toArray a D Fs w 0 l)
    (hend : ∀ x w', Below w.heap.size w w' → (∀ i, i < l.toArray.size → (Fs.getD i .any).p (x (D.getD i 0)) w') → Q .normal (frameOf a D x) w') : (Code.region id l.toArray true).wpIn F n P Q a w := by
  have hb' := hb
  simp only [invB, Bool.and_eq_true, decide_eq_true_eq, List.all_eq_true, List.mem_range] at hb'
  obtain ⟨⟨hb1, hlen⟩, hnd⟩ := hb'
  refine wpIn_inv hm D (InvF D Fs w l.toArray.size) hb (fun x => ⟨(Below.refl _ _).drew, fun i _ h => by cases h⟩) (stepsI_of_F hlen hnd (fun i o ho e he hbd => ?_) l 0 (fun j => by simp) hstep (by simp)) fun x w' L hL hI => hend x w' hI.1 fun i hi => hI.2 i hi (hL i hi)
  have hi := (Array.getElem?_eq_some_iff.1 ho).1
  have h1 := hb1 i hi
  rw [ho] at h1
  have h2 := Array.all_eq_true_iff_forall_mem.1 h1 e he
  simp only [hbd, Bool.not_true, Bool.false_or, decide_eq_true_eq] at h2
  omega
end
end Go.Proofs.YtfbkkhfmboaknaaGreatDoor
