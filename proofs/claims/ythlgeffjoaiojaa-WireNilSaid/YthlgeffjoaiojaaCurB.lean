/-
  Layer 5's cursor: the next number's pieces.
-/
import Derived.Test.YthlgeffjoaiojaaCurA
namespace Go.Proofs.Ythlgeffjoaiojaa
open Go Go.RowKit Go.Shelf
attribute [local go_sem] Oper.semAt_some

/-- Bytes of seven bits as a number. -/
def val : List UInt8 → Nat
  | [] => 0
  | x :: r => x.toNat % 128 + 128 * val r
theorem val_append (a : List UInt8) (x : UInt8) : val (a ++ [x]) = val a + 128 ^ a.length * (x.toNat % 128) := by
  induction a with
  | nil => simp [val]
  | cons y r ih => simp only [List.cons_append, val, ih, List.length_cons, Nat.pow_succ, Nat.mul_add]; rw [Nat.mul_comm (128 ^ r.length) 128, Nat.mul_assoc]; omega
theorem val_lt (a : List UInt8) : val a < 128 ^ a.length := by
  induction a with
  | nil => simp [val]
  | cons y r ih => simp only [val, List.length_cons, Nat.pow_succ]; have := Nat.mod_lt y.toNat (show 0 < 128 by decide); omega
/-- Whether a last piece may not be the last one: nothing in it, or too much. -/
def bad (j x : Nat) : Bool := decide (0 < j ∧ x = 0 ∨ j = 9 ∧ 1 < x)
/-- The number that bytes begin with: what is wrong; how many bytes; which one. -/
def numOf (r : List UInt8) : Nat × Nat × Nat :=
  let j := r.findIdx fun x => decide (x.toNat < 128)
  if 10 ≤ j then (12, 0, 0)
  else if h : j < r.length then (if bad j r[j].toNat then (12, 0, 0) else (0, j + 1, val (r.take (j + 1))))
  else (20, 0, 0)
theorem numOf_end {r : List UInt8} (h : ∀ i (hi : i < r.length), 128 ≤ r[i].toNat) (hl : r.length < 10) : numOf r = (20, 0, 0) := by
  have e : (r.findIdx fun x => decide (x.toNat < 128)) = r.length := by
    rw [List.findIdx_eq_length]
    intro x hx
    obtain ⟨i, hi, rfl⟩ := List.getElem_of_mem hx
    have := h i hi
    simp; omega
  simp only [numOf, e]
  rw [if_neg (by omega), dif_neg (by omega)]
theorem numOf_long {r : List UInt8} (hl : 10 ≤ r.length) (h : ∀ i (hi : i < r.length), i < 10 → 128 ≤ r[i].toNat) : numOf r = (12, 0, 0) := by
  have e : 10 ≤ (r.findIdx fun x => decide (x.toNat < 128)) := by
    refine Nat.le_of_not_lt fun h1 => ?_
    have h2 : (r.findIdx fun x => decide (x.toNat < 128)) < r.length := by omega
    have h3 := List.findIdx_getElem (w := h2)
    have h4 := h _ h2 h1
    simp only [decide_eq_true_eq] at h3
    omega
  simp only [numOf]
  rw [if_pos e]
theorem numOf_at {r : List UInt8} {j : Nat} (hj : j < r.length) (hj9 : j ≤ 9) (h : ∀ i (hi : i < r.length), i < j → 128 ≤ r[i].toNat) (hx : r[j].toNat < 128) :
    numOf r = if bad j r[j].toNat then (12, 0, 0) else (0, j + 1, val (r.take (j + 1))) := by
  have e : (r.findIdx fun x => decide (x.toNat < 128)) = j := by
    rw [List.findIdx_eq hj]
    refine ⟨by simpa using hx, fun i hi => ?_⟩
    have := h i (by omega) hi
    simp; omega
  simp only [numOf, e]
  rw [if_neg (by omega), dif_pos hj]

/-- What the loop keeps, of the pieces that have come. -/
def Good (r : List UInt8) (pre : List (_root_.Fin r.length)) : Prop := pre = (List.finRange r.length).take pre.length
def NumI (r : List UInt8) (pre : List (_root_.Fin r.length)) (a m : Int) : Prop :=
  Good r pre → (∀ i (hi : i < r.length), i < pre.length → 128 ≤ r[i].toNat) ∧ pre.length ≤ 9 ∧ a = (val (r.take pre.length) : Int) ∧ m = (pre.length : Int)
/-- A number's end. -/
def NumR (r : List UInt8) (a m : Int) (e : Nat) : Prop := (numOf r).1 = e ∧ (e = 0 → ∃ n k : Nat, a = n ∧ m = k ∧ numOf r = (0, k, n))
def NumX (r : List UInt8) (pre : List (_root_.Fin r.length)) (a m : Int) (e : Nat) : Prop := Good r pre → NumR r a m e

theorem num_start (r : List UInt8) : NumI r [] 0 0 := fun _ => ⟨fun i _ h => absurd h (by simp), by simp, by simp [val], rfl⟩
/-- A round's index, if what has come is in order. -/
theorem fin_good {r : List UInt8} {pre : List (_root_.Fin r.length)} {x : _root_.Fin r.length} (h : Good r (pre ++ [x])) : Good r pre ∧ x.1 = pre.length := by
  unfold Good at h ⊢
  have hlt : pre.length < r.length := by
    have := congrArg List.length h
    simp at this
    omega
  rw [List.length_append, List.length_singleton, take_fin hlt] at h
  have := List.append_inj' h rfl
  exact ⟨this.1, by simpa using congrArg _root_.Fin.val (List.head_eq_of_cons_eq this.2)⟩
/-- What a round adds. -/
theorem piece_or {a x k : Nat} (ha : a < 128 ^ k) (hk : k ≤ 9) (hx : x < 256) (h9 : k = 9 → x % 128 ≤ 1) :
    bits .or .u64 (a : Int) (IntKind.u64.wrap (bits .and .u8 (x : Int) 127 * 2 ^ (7 * (k : Int)).toNat)) = ((a + 128 ^ k * (x % 128) : Nat) : Int) ∧ a + 128 ^ k * (x % 128) < 18446744073709551616 := by
  have h1 : bits .and .u8 (x : Int) 127 = ((x % 128 : Nat) : Int) := by
    rw [show (127 : Int) = ((127 : Nat) : Int) from rfl, u8_and_nat x 127 hx (by omega), Nat.and_two_pow_sub_one_eq_mod x 7]
  have hy : x % 128 < 128 := Nat.mod_lt _ (by decide)
  have hb : 128 ^ k * (x % 128) ≤ 9223372036854775808 ∧ 128 ^ k * (x % 128) + 128 ^ k ≤ 18446744073709551616 := by
    rcases Nat.lt_or_ge k 9 with h | h
    · have p1 : 128 ^ k ≤ 128 ^ 8 := Nat.pow_le_pow_right (by decide) (by omega)
      have p2 : 128 ^ k * (x % 128) ≤ 128 ^ 8 * 127 := Nat.mul_le_mul p1 (by omega)
      omega
    · obtain rfl : k = 9 := by omega
      have p2 : 128 ^ 9 * (x % 128) ≤ 128 ^ 9 * 1 := Nat.mul_le_mul (Nat.le_refl _) (h9 rfl)
      omega
  have hp : (2 : Nat) ^ (7 * k) = 128 ^ k := by rw [Nat.pow_mul]
  have h2 : ((x % 128 : Nat) : Int) * 2 ^ (7 * (k : Int)).toNat = ((128 ^ k * (x % 128) : Nat) : Int) := by
    rw [show (7 * (k : Int)).toNat = 7 * k by omega, Int.natCast_mul, ← hp, Int.natCast_pow, Int.mul_comm]
    rfl
  rw [h1, h2]
  generalize hz : x % 128 = z at *
  have h3 : IntKind.u64.wrap ((128 ^ k * z : Nat) : Int) = ((128 ^ k * z : Nat) : Int) := by rw [IntKind.wrap_u64]; omega
  rw [h3, u64_or_nat _ _ (by omega) (by omega)]
  have h4 : a ||| 128 ^ k * z = a + 128 ^ k * z := by
    rw [← hp, Nat.or_comm, ← Nat.two_pow_add_eq_or_of_lt (by rw [hp]; exact ha), Nat.add_comm]
  rw [h4]
  exact ⟨rfl, by omega⟩
theorem num_next {r : List UInt8} {pre : List (_root_.Fin r.length)} {j : Nat} {hj : j < r.length} {a m t z a2 : Int} (h : NumI r pre a m) (hg : Good r (pre ++ [⟨j, hj⟩]))
    (ht : bits .and .u8 ((r[j].toNat : Nat) : Int) 127 = t) (hz : IntKind.u64.wrap (t * 2 ^ min (7 * (j : Int)).toNat 64) = z) (ha : bits .or .u64 a z = a2) :
    j = pre.length ∧ j ≤ 9 ∧ (∀ i (hi : i < r.length), i < j → 128 ≤ r[i].toNat) ∧ (r[j].toNat % 128 ≤ 1 ∨ j < 9 → a2 = (val (r.take (j + 1)) : Int)) := by
  obtain ⟨hg1, hjp⟩ := fin_good hg
  dsimp only at hjp
  obtain ⟨h1, h2, h3, h4⟩ := h hg1
  rw [← hjp] at h1 h2 h3
  refine ⟨hjp, h2, h1, fun hs => ?_⟩
  have hlt : val (r.take j) < 128 ^ j := by have := val_lt (r.take j); rwa [List.length_take, Nat.min_eq_left (by omega)] at this
  obtain ⟨p1, p2⟩ := piece_or hlt h2 (r[j]).toNat_lt (fun h9 => by omega)
  rw [show min (7 * (j : Int)).toNat 64 = (7 * (j : Int)).toNat by omega, ← ht] at hz
  rw [hz, ← h3, ha] at p1
  rw [p1, List.take_succ_eq_append_getElem hj, val_append, List.length_take, Nat.min_eq_left (by omega)]
theorem num_bad {r : List UInt8} {pre : List (_root_.Fin r.length)} {j : Nat} {hj : j < r.length} {a m t z a2 m2 : Int} (h : NumI r pre a m)
    (ht : bits .and .u8 ((r[j].toNat : Nat) : Int) 127 = t) (hz : IntKind.u64.wrap (t * 2 ^ min (7 * (j : Int)).toNat 64) = z) (ha : bits .or .u64 a z = a2)
    (hx : r[j].toNat < 128) (hb : bad j r[j].toNat = true) : NumX r (pre ++ [⟨j, hj⟩]) a2 m2 12 := fun hg => by
  obtain ⟨h1, h2, h3, -⟩ := num_next h hg ht hz ha
  have e := numOf_at hj h2 h3 hx
  rw [if_pos hb] at e
  exact ⟨by rw [e], fun h => absurd h (by decide)⟩
theorem num_many {r : List UInt8} {pre : List (_root_.Fin r.length)} {j : Nat} {hj : j < r.length} {a m t z a2 m2 : Int} (h : NumI r pre a m)
    (ht : bits .and .u8 ((r[j].toNat : Nat) : Int) 127 = t) (hz : IntKind.u64.wrap (t * 2 ^ min (7 * (j : Int)).toNat 64) = z) (ha : bits .or .u64 a z = a2)
    (hx : 128 ≤ r[j].toNat) (hb : j = 9) : NumX r (pre ++ [⟨j, hj⟩]) a2 m2 12 := fun hg => by
  obtain ⟨h1, h2, h3, -⟩ := num_next h hg ht hz ha
  subst hb
  have e := numOf_long (r := r) (by omega) (fun i hi h10 => by
    rcases Nat.lt_or_ge i 9 with h | h
    · exact h3 i hi h
    · obtain rfl : i = 9 := by omega
      exact hx)
  exact ⟨by rw [e], fun h => absurd h (by decide)⟩
theorem num_ok {r : List UInt8} {pre : List (_root_.Fin r.length)} {j : Nat} {hj : j < r.length} {a m t z a2 : Int} (h : NumI r pre a m)
    (ht : bits .and .u8 ((r[j].toNat : Nat) : Int) 127 = t) (hz : IntKind.u64.wrap (t * 2 ^ min (7 * (j : Int)).toNat 64) = z) (ha : bits .or .u64 a z = a2)
    (hx : r[j].toNat < 128) (hb : bad j r[j].toNat = false) : NumX r (pre ++ [⟨j, hj⟩]) a2 ((j : Int) + 1) 0 := fun hg => by
  obtain ⟨h1, h2, h3, h4⟩ := num_next h hg ht hz ha
  have e := numOf_at hj h2 h3 hx
  rw [hb, if_neg (by simp)] at e
  refine ⟨by rw [e], fun _ => ⟨_, j + 1, h4 ?_, by omega, e⟩⟩
  simp [bad] at hb
  omega
theorem num_go {r : List UInt8} {pre : List (_root_.Fin r.length)} {j : Nat} {hj : j < r.length} {a m t z a2 : Int} (h : NumI r pre a m)
    (ht : bits .and .u8 ((r[j].toNat : Nat) : Int) 127 = t) (hz : IntKind.u64.wrap (t * 2 ^ min (7 * (j : Int)).toNat 64) = z) (ha : bits .or .u64 a z = a2)
    (hx : 128 ≤ r[j].toNat) (hb : j ≠ 9) : NumI r (pre ++ [⟨j, hj⟩]) a2 ((j : Int) + 1) := fun hg => by
  obtain ⟨h1, h2, h3, h4⟩ := num_next h hg ht hz ha
  have hl : (pre ++ [(⟨j, hj⟩ : _root_.Fin r.length)]).length = j + 1 := by simp [h1]
  rw [hl]
  refine ⟨fun i hi hij => ?_, by omega, h4 (.inr (by omega)), by omega⟩
  rcases Nat.lt_or_ge i j with h | h
  · exact h3 i hi h
  · obtain rfl : i = j := by omega
    exact hx
theorem num_done {r : List UInt8} {a m : Int} (h : NumI r (List.finRange r.length) a m) : NumR r a m 20 := by
  obtain ⟨h1, h2, h3, h4⟩ := h (by unfold Good; rw [List.take_of_length_le (by simp)])
  rw [List.length_finRange] at h1 h2
  have e := numOf_end (r := r) (fun i hi => h1 i hi hi) (by omega)
  exact ⟨by rw [e], fun h => absurd h (by decide)⟩
theorem num_stop {r : List UInt8} {pre : List (_root_.Fin r.length)} {a m : Int} {e : Nat} (hp : pre <+: List.finRange r.length) (h : NumX r pre a m e) : NumR r a m e :=
  h (List.prefix_iff_eq_take.1 hp)
end Go.Proofs.Ythlgeffjoaiojaa
