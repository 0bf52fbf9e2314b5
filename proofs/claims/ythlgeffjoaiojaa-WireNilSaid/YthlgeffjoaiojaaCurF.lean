/-
  Layer 5's reference: bits as a number.
-/
import Derived.Test.YthlgeffjoaiojaaLawW
import Derived.Test.YthlgeffjoaiojaaCurB
namespace Go.Proofs.Ythlgeffjoaiojaa
open Go Go.RowKit

theorem half_mod (m p : Nat) : m % 9223372036854775808 / 2 ^ p % 2 = if p < 63 then m / 2 ^ p % 2 else 0 := by
  rw [show (9223372036854775808 : Nat) = 2 ^ 63 from rfl]
  have h := Nat.testBit_mod_two_pow m 63 p
  simp only [Nat.testBit_eq_decide_div_mod_eq] at h
  split
  · rename_i hp
    rw [decide_eq_true hp, Bool.true_and, decide_eq_decide] at h
    have h1 := Nat.mod_lt (m % 2 ^ 63 / 2 ^ p) (show 0 < 2 by decide)
    have h2 := Nat.mod_lt (m / 2 ^ p) (show 0 < 2 by decide)
    omega
  · rename_i hp
    rw [decide_eq_false hp, Bool.false_and, decide_eq_false_iff_not] at h
    have h1 := Nat.mod_lt (m % 2 ^ 63 / 2 ^ p) (show 0 < 2 by decide)
    omega
theorem number_step {m p : Nat} (hp : p < 63) : 2 * (m % 9223372036854775808 / 2 ^ (p + 1)) + m / 2 ^ p % 2 = m % 9223372036854775808 / 2 ^ p := by
  have h := half_mod m p
  rw [if_pos hp] at h
  rw [← h, Nat.pow_succ, ← Nat.div_div_eq_div_mul]
  omega
theorem number_start (m : Nat) : m % 9223372036854775808 / 2 ^ 63 = 0 := Nat.div_eq_of_lt (Nat.mod_lt _ (by decide))
theorem number_end (m : Nat) : m % 9223372036854775808 / 2 ^ 0 = m % 9223372036854775808 := by simp

set_option maxHeartbeats 1000000 in
theorem number_ref (K m : Nat) (hK : 63 ≤ K) (w : World) (v : Value) (hv : Sl w w.heap.size 1 v K (natsV (bitsL K m))) :
    Calls Try.prog 31 #[v] w fun e w' => e = .returned (.int .i64 ((m % 9223372036854775808 : Nat) : Int)) ∧ Below w.heap.size w w' := by
  obtain ⟨b, o, c, rfl, hbB, hc⟩ := hv.at_ (by omega)
  have hKm := hv.le
  unfold maxLen at hKm
  have HC := Lib.hid hc; clear hc hv
  go_enter Try.func31, Try.ntmps31
  go_wp2_with fail
  go_loopw [3, 4] (fun x i wr => ∃ j q : Nat, j ≤ 63 ∧ i = .int .i64 ((j : Int) - 1) ∧ x = .int .i64 q ∧ q < 9223372036854775808 ∧ q = m % 9223372036854775808 / 2 ^ j ∧ Below w.heap.size w wr) (fun _ i _ => (intOf i + 1).toNat)
  case atStart => exact ⟨63, 0, by omega, rfl, rfl, by decide, (number_start m).symm, Below.refl _ _⟩
  case round =>
    obtain ⟨j, q, hj, rfl, rfl, hq, hqe, hbel⟩ := hrel
    rcases Nat.eq_zero_or_pos j with rfl | hj0
    · rw [number_end] at hqe
      have HQ := Lib.hid hqe
      clear hqe
      rw [show ((0 : Nat) : Int) - 1 = -1 from rfl]
      go_wp2_with fail
      go_ret
      exact ⟨ret_int (by rw [HQ.out]), hbel⟩
    · obtain ⟨p, rfl⟩ : ∃ p, j = p + 1 := ⟨j - 1, by omega⟩
      have hcell := (hbel.cell (p := ⟨b, o + p, none⟩) hbB).trans (HC.out p _ (bitsL_at (show p < K by omega)))
      have hx : m / 2 ^ p % 2 < 2 := Nat.mod_lt _ (by decide)
      have HS := Lib.hid (number_step (m := m) (show p < 63 by omega))
      rw [← hqe] at HS
      have hle : m % 9223372036854775808 / 2 ^ p < 9223372036854775808 := Nat.lt_of_le_of_lt (Nat.div_le_self _ _) (Nat.mod_lt _ (by decide))
      clear hqe
      obtain ⟨z, hz⟩ : ∃ z, m % 9223372036854775808 / 2 ^ p = z := ⟨_, rfl⟩
      rw [hz] at HS hle
      have hs := HS.out
      have HZ := Lib.hid hz
      clear hz
      rw [show (((p + 1 : Nat) : Int) - 1) = (p : Int) by omega]
      generalize m / 2 ^ p % 2 = y at *
      have hlt : 2 * q + y < 9223372036854775808 := by omega
      clear hs
      go_wp2_with fail
      go_roundw
      case rel => exact ⟨p, 2 * q + y, by omega, by go_num, by go_num, hlt, HS.out.trans HZ.out.symm, hbel⟩
      case measure => simp [intOf]

theorem bits_tail {w : World} {B b o c : Nat} {m : Nat} (h : Sl w B 1 (.slice (some ⟨b, o, none⟩) 64 c) 64 (natsV (bitsL 64 m))) : Sl w B 1 (.slice (some ⟨b, o + 1, none⟩) 63 (c - 1)) 63 (natsV (bitsL 63 (m / 2))) := by
  obtain ⟨A, c', e, h1, h2, -, hA⟩ := h
  cases e
  obtain ⟨b', o', e, hB, hc⟩ := hA (by omega)
  cases e
  refine Sl.mk_ (by omega) (by omega) (by rw [length_natsV, length_bitsL]) hB (fun j u hu => ?_)
  have hj : j < 63 := by
    have := (List.getElem?_eq_some_iff.1 hu).1
    rw [length_natsV, length_bitsL] at this
    exact this
  rw [bitsL_at hj] at hu
  have := hc (1 + j) u (by
    rw [bitsL_at (show 1 + j < 64 by omega), ← hu, Nat.pow_add, ← Nat.div_div_eq_div_mul])
  rw [← this, Nat.add_assoc]

set_option maxHeartbeats 1000000 in
theorem back_ref (m : Nat) (hm : m < 18446744073709551616) (w : World) (v : Value) (hv : Sl w w.heap.size 1 v 64 (natsV (bitsL 64 m))) :
    Calls Try.prog 30 #[v] w fun e w' => e = .returned (.int .i64 (if m % 2 = 0 then ((m / 2 : Nat) : Int) else -((m / 2 : Nat) : Int) - 1)) ∧ Below w.heap.size w w' := by
  obtain ⟨b, o, c, rfl, hbB, hc⟩ := hv.at_ (by omega)
  have hv' := hv
  obtain ⟨A, c', e, h1, h2, -, -⟩ := hv'
  cases e
  unfold maxLen at h2
  have hcell := hc 0 _ (bitsL_at (show 0 < 64 by omega))
  have HR := Lib.hid (number_ref 63 (m / 2) (by omega) w _ (bits_tail hv))
  rw [Nat.mod_eq_of_lt (show m / 2 < 9223372036854775808 by omega)] at HR
  rw [Nat.pow_zero, Nat.div_one, Nat.add_zero] at hcell
  clear hc hv
  have hq : m / 2 < 9223372036854775808 := by omega
  rcases Nat.mod_two_eq_zero_or_one m with h | h
  · rw [if_pos h]
    rw [h] at hcell
    generalize m / 2 = q at *
    go_enter Try.func30, Try.ntmps30
    go_wp2_with fail
    refine HR.out.mono ?_
    rintro e w1 ⟨rfl, hb1⟩
    have hcell1 := (hb1.cell (p := ⟨b, o, none⟩) hbB).trans hcell
    go_wp2_with fail
    go_ret
    exact ⟨rfl, hb1⟩
  · rw [if_neg (by omega)]
    rw [h] at hcell
    generalize m / 2 = q at *
    go_enter Try.func30, Try.ntmps30
    go_wp2_with fail
    refine HR.out.mono ?_
    rintro e w1 ⟨rfl, hb1⟩
    have hcell1 := (hb1.cell (p := ⟨b, o, none⟩) hbB).trans hcell
    go_wp2_with fail
    go_ret
    exact ⟨rfl, hb1⟩
end Go.Proofs.Ythlgeffjoaiojaa
