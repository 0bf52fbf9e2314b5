/-
  Plain law of layer 5: what was written is read, and what was read is written so.
-/
import Derived.Test.YthlgeffjoaiojaaCurG
namespace Go.Proofs.Ythlgeffjoaiojaa
open Go

/-! ### What was read is written so -/
/-- Pieces the last one of which is not nothing. -/
def Tail : List UInt8 → Prop
  | [] => False
  | [x] => 0 < x.toNat ∧ x.toNat < 128
  | x :: y :: r => 128 ≤ x.toNat ∧ Tail (y :: r)
theorem tail_pos : ∀ l : List UInt8, Tail l → 0 < val l
  | [], h => h.elim
  | [x], h => by simp only [val]; have := h.1; have := h.2; omega
  | x :: y :: r, h => by have := tail_pos (y :: r) h.2; rw [val]; omega
theorem ofNat_byte (x : UInt8) (n : Nat) (h : n = x.toNat) : UInt8.ofNat n = x := by
  subst h
  simp
theorem pcs_tail : ∀ l : List UInt8, Tail l → pcs (val l) = l
  | [], h => h.elim
  | [x], h => by
    have h1 := h.1
    have h2 := h.2
    have hv : val [x] = x.toNat := by simp only [val]; omega
    rw [hv, pcs_small (by omega)]
    simp
  | x :: y :: r, h => by
    have hp := tail_pos (y :: r) h.2
    have ih := pcs_tail (y :: r) h.2
    have h1 := h.1
    have h3 := x.toNat_lt
    have hv : val (x :: y :: r) = x.toNat % 128 + 128 * val (y :: r) := rfl
    generalize val (y :: r) = q at *
    rw [hv, pcs_big (by omega), show (x.toNat % 128 + 128 * q) / 128 = q by omega, ih, ofNat_byte x _ (by omega)]
theorem tail_of : ∀ (j : Nat) (r : List UInt8) (hj : j < r.length), (∀ i (hi : i < r.length), i < j → 128 ≤ r[i].toNat) → 0 < r[j].toNat → r[j].toNat < 128 → Tail (r.take (j + 1))
  | _, [], hj, _, _, _ => absurd hj (by simp)
  | 0, x :: r, _, _, h1, h2 => ⟨h1, h2⟩
  | j + 1, [x], hj, _, _, _ => absurd hj (by simp)
  | j + 1, x :: y :: r, hj, ha, h1, h2 => by
    have h := tail_of j (y :: r) (by simpa using hj) (fun i hi hij => by have := ha (i + 1) (by simpa using hi) (by omega); simpa using this) (by simpa using h1) (by simpa using h2)
    have h0 := ha 0 (by simp) (by omega)
    rw [List.take_succ_cons] at h ⊢
    rw [List.take_succ_cons]
    exact ⟨by simpa using h0, h⟩
theorem num_pcs {r : List UInt8} {k n : Nat} (h : numOf r = (0, k, n)) : pcs n = r.take k := by
  unfold numOf at h
  simp only at h
  have hlt : ∀ i (hi : i < r.length), i < (r.findIdx fun x => decide (x.toNat < 128)) → 128 ≤ r[i].toNat := fun i hi hij => by
    have := List.not_of_lt_findIdx hij
    simp at this
    omega
  have hat : ∀ hi : (r.findIdx fun x => decide (x.toNat < 128)) < r.length, r[r.findIdx fun x => decide (x.toNat < 128)].toNat < 128 := fun hi => by
    have := List.findIdx_getElem (w := hi)
    simpa using this
  generalize (r.findIdx fun x => decide (x.toNat < 128)) = j at *
  split at h
  · simp at h
  · split at h
    · rename_i hj
      split at h
      · simp at h
      · rename_i hb
        simp only [Prod.mk.injEq, true_and] at h
        obtain ⟨rfl, rfl⟩ := h
        have hx := hat hj
        rcases Nat.eq_zero_or_pos j with rfl | hj0
        · have ht : r.take 1 = [r[0]] := by
            rw [List.take_succ_eq_append_getElem hj]; simp
          rw [show 0 + 1 = 1 from rfl, ht]
          have hv : val [r[0]] = r[0].toNat := by simp only [val]; omega
          rw [hv, pcs_small (by omega)]
          simp
        · refine pcs_tail _ (tail_of j r hj hlt ?_ hx)
          simp [bad] at hb
          omega
    · simp at h
theorem zig_unzig (n : Nat) : zig (unzig n) = n := by
  unfold zig unzig
  split <;> split <;> omega
theorem unzig_zig (x : Int) : unzig (zig x) = x := by
  unfold zig unzig
  split <;> split <;> omega
theorem fixedL_fval : ∀ (l : List UInt8), fixedL (fval l) l.length = l := by
  intro l
  apply List.ext_getElem
  · rw [length_fixedL]
  · intro i h1 h2
    simp only [fixedL, List.getElem_map, List.getElem_range]
    have key : ∀ (l : List UInt8) (i : Nat) (h : i < l.length), fval l / 256 ^ i % 256 = l[i].toNat := by
      intro l
      induction l with
      | nil => intro i h; exact absurd h (by simp)
      | cons x r ih =>
        intro i h
        have hx := x.toNat_lt
        rcases i with _ | i
        · simp [fval]
        · rw [Nat.pow_succ, Nat.mul_comm, ← Nat.div_div_eq_div_mul]
          have : fval (x :: r) / 256 = fval r := by simp only [fval]; omega
          rw [this, ih i (by simpa using h)]
          simp
    rw [key l i h2]
    simp

/-! ### What was written is read -/
theorem val_pcs (n : Nat) : val (pcs n) = n := by
  induction n using Nat.strongRecOn with
  | _ n ih =>
    rcases Nat.lt_or_ge 127 n with h | h
    · rw [pcs_big h, val, ih (n / 128) (by omega), UInt8.toNat_ofNat']
      omega
    · rw [pcs_small h]
      simp only [val, UInt8.toNat_ofNat']
      omega
theorem pcs_parts (n : Nat) : ∃ (init : List UInt8) (x : UInt8), pcs n = init ++ [x] ∧ (∀ y ∈ init, 128 ≤ y.toNat) ∧ x.toNat < 128 ∧ (0 < n → 0 < x.toNat) ∧ (n = 0 → init = []) := by
  induction n using Nat.strongRecOn with
  | _ n ih =>
    rcases Nat.lt_or_ge 127 n with h | h
    · obtain ⟨init, x, h1, h2, h3, h4, -⟩ := ih (n / 128) (by omega)
      refine ⟨UInt8.ofNat (n % 128 + 128) :: init, x, by rw [pcs_big h, h1]; rfl, fun y hy => ?_, h3, fun _ => h4 (by omega), fun h0 => by omega⟩
      rcases List.mem_cons.1 hy with rfl | hy
      · rw [UInt8.toNat_ofNat']; omega
      · exact h2 y hy
    · refine ⟨[], UInt8.ofNat n, by rw [pcs_small h]; rfl, fun y hy => absurd hy (by simp), ?_, ?_, fun _ => rfl⟩ <;> rw [UInt8.toNat_ofNat'] <;> omega
theorem num_of_pcs {n : Nat} (hn : n < 18446744073709551616) (rest : List UInt8) : numOf (pcs n ++ rest) = (0, (pcs n).length, n) := by
  obtain ⟨init, x, h1, h2, h3, h4, h5⟩ := pcs_parts n
  have hlen := pcs_len_le 9 n (Nat.lt_trans hn (by decide))
  have hval := val_pcs n
  have hll : (pcs n).length = init.length + 1 := by rw [h1]; simp
  have hj : init.length < (pcs n ++ rest).length := by rw [List.length_append]; omega
  have hget : (pcs n ++ rest)[init.length] = x := by
    simp [h1]
  have htake : (pcs n ++ rest).take (init.length + 1) = pcs n := by
    rw [← hll]; simp
  rw [numOf_at hj (by omega) (fun i hi hij => by
    have : (pcs n ++ rest)[i] = init[i] := by simp [h1, hij]
    rw [this]
    exact h2 _ (List.getElem_mem hij)) (by rw [hget]; exact h3), hget, htake, hval, ← hll]
  rw [if_neg]
  rw [Bool.not_eq_true, bad, decide_eq_false_iff_not]
  rintro (⟨ha, hb⟩ | ⟨ha, hb⟩)
  · rcases Nat.eq_zero_or_pos n with h | h
    · rw [h5 h] at ha; simp at ha
    · have := h4 h; omega
  · rw [h1, val_append, ha] at hval
    have p : 128 ^ 9 * 2 ≤ 128 ^ 9 * (x.toNat % 128) := Nat.mul_le_mul (Nat.le_refl _) (by omega)
    omega
theorem fval_fixedL (n s : Nat) (h : n < 256 ^ s) : fval (fixedL n s) = n := by
  induction s generalizing n with
  | zero => simp at h; subst h; rfl
  | succ s ih =>
    have e : fixedL n (s + 1) = UInt8.ofNat (n % 256) :: fixedL (n / 256) s := by
      apply List.ext_getElem
      · simp [length_fixedL]
      · intro i h1 h2
        rcases i with _ | i
        · simp [fixedL]
        · simp only [fixedL, List.getElem_map, List.getElem_range, List.getElem_cons_succ]
          rw [Nat.pow_succ, Nat.mul_comm, ← Nat.div_div_eq_div_mul]
    rw [e, fval, ih _ (by rw [Nat.pow_succ] at h; omega), UInt8.toNat_ofNat']
    omega

/-- What is written of a number, by its place. -/
def wrote (i : Nat) (x : Int) : List UInt8 := if i % 3 = 0 then pcs (zig x) else if i % 3 = 1 then uintL x else fixedB x 8
def wroteAll : Nat → List Int → List UInt8
  | _, [] => []
  | i, x :: r => wrote i x ++ wroteAll (i + 1) r
theorem wroteAll_drop {l : List Int} {i : Nat} (h : i < l.length) : wroteAll i (l.drop i) = wrote i l[i] ++ wroteAll (i + 1) (l.drop (i + 1)) := by
  rw [List.drop_eq_getElem_cons h]; rfl
theorem wrote_len (i : Nat) (x : Int) (hx : -9223372036854775808 ≤ x ∧ x ≤ 9223372036854775807) : (wrote i x).length ≤ 10 := by
  unfold wrote
  split
  · exact pcs_len_le 9 _ (Nat.lt_trans (zig_lt hx.1 hx.2) (by decide))
  · split
    · unfold uintL
      split
      · exact pcs_len_le 9 _ (by have : x.toNat < 18446744073709551616 := by omega
                                 exact Nat.lt_trans this (by decide))
      · simp
    · unfold fixedB
      split
      · rw [length_fixedL]; decide
      · simp
theorem ans_int (x : Int) (hx : -9223372036854775808 ≤ x ∧ x ≤ 9223372036854775807) (rest : List UInt8) : ansInt (pcs (zig x) ++ rest) = (0, (pcs (zig x)).length, x) := by
  unfold ansInt
  rw [num_of_pcs (zig_lt hx.1 hx.2)]
  simp only [unzig_zig]
theorem ans_uint (x : Int) (hx : 0 ≤ x ∧ x ≤ 9223372036854775807) (rest : List UInt8) : ansUint (uintL x ++ rest) = (0, (uintL x).length, x) := by
  obtain ⟨k, rfl⟩ := Int.eq_ofNat_of_zero_le hx.1
  unfold ansUint
  rw [uintL_nat, num_of_pcs (by omega)]
  rw [if_neg (by simp; omega)]
theorem fixed_eight {x : Int} (hx : 0 ≤ x ∧ x ≤ 9223372036854775807) : fixedB x 8 = fixedL x.toNat 8 := by
  unfold fixedB fixedOk
  rw [if_pos (by simp; omega)]
  rfl
theorem ans_fixed (x : Int) (hx : 0 ≤ x ∧ x ≤ 9223372036854775807) (rest : List UInt8) : ansFixed 8 (fixedB x 8 ++ rest) = (0, (fixedB x 8).length, x) := by
  obtain ⟨k, rfl⟩ := Int.eq_ofNat_of_zero_le hx.1
  rw [fixed_eight hx]
  have ht : (fixedL k 8 ++ rest).take 8 = fixedL k 8 := by
    have := List.take_left' (l₂ := rest) (length_fixedL k 8)
    exact this
  have hf := fval_fixedL k 8 (by omega)
  unfold ansFixed
  simp only [Int.toNat_natCast, show (8 : Int).toNat = 8 from rfl, ht, hf, length_fixedL, List.length_append]
  rw [if_neg (by omega), if_neg (by omega), if_neg (by omega)]
end Go.Proofs.Ythlgeffjoaiojaa
