/-
  Layer 5's Fixed, walked once.
-/
import Derived.Test.YthlgeffjoaiojaaWalkW
namespace Go.Proofs.Ythlgeffjoaiojaa
open Go Go.RowKit

theorem pow256 (s : Nat) : ((256 ^ s : Nat) : Int) = 256 ^ s := Int.natCast_pow 256 s
theorem fixedB_none {n size : Int} (h : fixedOk n size = false) : fixedB n size = [] := by simp [fixedB, h]
theorem fixedB_some {n s : Nat} (h1 : 1 ≤ s) (h2 : s ≤ 8) (h3 : n < 256 ^ s) : fixedB n s = fixedL n s := by
  have : fixedOk n s = true := by simp only [fixedOk, decide_eq_true_eq]; refine ⟨by omega, by omega, by omega, ?_⟩; rw [Int.toNat_natCast, ← pow256]; exact Int.ofNat_lt.2 h3
  simp [fixedB, this]
theorem shr8 (n k : Nat) : (n : Int) / 2 ^ (8 * (k : Int)).toNat = ((n / 256 ^ k : Nat) : Int) := by
  have h : (256 : Nat) ^ k = 2 ^ (8 * k) := by rw [Nat.pow_mul]
  rw [show (8 * (k : Int)).toNat = 8 * k by omega, h, Int.natCast_ediv, Int.natCast_pow]
  rfl

theorem fixedL_succ (m k : Nat) : fixedL m (k + 1) = fixedL m k ++ [UInt8.ofNat (m / 256 ^ k % 256)] := by simp [fixedL, List.range_succ]
theorem fixed_step {m s k : Nat} (hk : k < s) : (bytesV (fixedL m k ++ List.replicate (s - k) 0)).set k (.int .u8 ((m / 256 ^ k % 256 : Nat) : Int)) = bytesV (fixedL m (k + 1) ++ List.replicate (s - (k + 1)) 0) := by
  have hu : (UInt8.ofNat (m / 256 ^ k % 256)).toNat = m / 256 ^ k % 256 := by rw [UInt8.toNat_ofNat']; omega
  obtain ⟨d, rfl⟩ : ∃ d, s = k + 1 + d := ⟨s - (k + 1), by omega⟩
  rw [show k + 1 + d - k = d + 1 by omega, show k + 1 + d - (k + 1) = d by omega, fixedL_succ, List.replicate_succ, bytesV_append]
  have hl : (bytesV (fixedL m k)).length = k := by rw [length_bytesV, length_fixedL]
  rw [List.set_append_right _ _ (by omega), hl, Nat.sub_self]
  simp only [bytesV, List.map_cons, List.set_cons_zero, List.append_assoc, List.map_append, List.singleton_append, hu]
theorem fixed_end (m s : Nat) : fixedL m s ++ List.replicate (s - s) 0 = fixedL m s := by simp

set_option maxHeartbeats 1000000 in
theorem fixed_any (n size : Int) (hn : -9223372036854775808 ≤ n ∧ n ≤ 9223372036854775807) (hs : -9223372036854775808 ≤ size ∧ size ≤ 9223372036854775807) (w : World) :
    Calls Try.prog 15 #[.int .i64 n, .int .i64 size] w (Rets fun v' w' => Bytes w' w'.heap.size v' (fixedB n size) ∧ Below w.heap.size w w') := by
  obtain ⟨i0, hi, hz0, hz1, hz2⟩ := info_parts infoByte
  by_cases hs1 : size < 1
  · have HB := Lib.hid (fixedB_none (n := n) (size := size) (by simp [fixedOk]; omega))
    go_enter Try.func15, Try.ntmps15
    go_wp2_with fail
    go_ret
    exact ⟨_, rfl, by rw [HB.out]; exact Bytes.nil _ _, Below.refl _ _⟩
  by_cases hs8 : 8 < size
  · have HB := Lib.hid (fixedB_none (n := n) (size := size) (by simp [fixedOk]; omega))
    go_enter Try.func15, Try.ntmps15
    go_wp2_with fail
    go_ret
    exact ⟨_, rfl, by rw [HB.out]; exact Bytes.nil _ _, Below.refl _ _⟩
  by_cases hn0 : n < 0
  · have HB := Lib.hid (fixedB_none (n := n) (size := size) (by simp [fixedOk]; omega))
    go_enter Try.func15, Try.ntmps15
    go_wp2_with fail
    go_ret
    exact ⟨_, rfl, by rw [HB.out]; exact Bytes.nil _ _, Below.refl _ _⟩
  obtain ⟨s, rfl⟩ := Int.eq_ofNat_of_zero_le (show 0 ≤ size by omega)
  obtain ⟨m, rfl⟩ := Int.eq_ofNat_of_zero_le (show 0 ≤ n by omega)
  have hs1' : 1 ≤ s := by omega
  have hs8' : s ≤ 8 := by omega
  have hm : m < 9223372036854775808 := by omega
  clear hs1 hs8 hn0 hn hs
  have hsh := shr8 m s
  by_cases hfit : m < 256 ^ s
  · have HB := Lib.hid (fixedB_some hs1' hs8' hfit)
    have hq : m / 256 ^ s = 0 := Nat.div_eq_of_lt hfit
    rw [hq] at hsh
    clear hq hfit
    rcases Nat.lt_or_ge s 8 with h8 | h8 <;> (
      go_enter Try.func15, Try.ntmps15
      go_wp2_with (at_make; go_loud (refine wpList_make_full _ rfl _ _ 22 rfl w.heap.size 5 i0 (.int .u8 0) 1 rfl hi hz0 hz1 .i64 .i64 _ _ s rfl rfl rfl rfl (by rw [hz2]; omega) (by unfold maxLen; omega) (Nat.le_refl _) ?_); intro w1 hown hgrow)
      rw [show (madeCells (Value.int .u8 0).cells (s * 1)).toList = bytesV (fixedL m 0 ++ List.replicate (s - 0) 0) by
        rw [Nat.mul_one, show (Value.int .u8 0).cells = #[.int .u8 0] from rfl, toList_madeCells_one]; simp [bytesV, fixedL]] at hown
      go_loopw [32] (fun i wr => ∃ k : Nat, k ≤ s ∧ i = .int .i64 k ∧ wr.ownsRow w.heap.size 5 1 (.slice (some ⟨w.heap.size, 0, none⟩) s s) s (bytesV (fixedL m k ++ List.replicate (s - k) 0)) ∧ Below w.heap.size w wr) (fun i _ => s - (intOf i).toNat)
      case atStart => exact ⟨0, by omega, rfl, hown, (Below.refl w.heap.size w).grown hgrow (by omega) (fun g hg => by cases hg)⟩
      case round =>
        obtain ⟨k, hk, rfl, ho, hbel⟩ := hrel
        by_cases hlt : k < s
        · have hst := Lib.hid (fixed_step (m := m) hlt)
          have hq := shr8 m k
          have hfr := own_free ho k
          have hcell := own_cell ho k (.int .u8 0) (by
            have hl : (bytesV (fixedL m k)).length = k := by rw [length_bytesV, length_fixedL]
            rw [bytesV_append, List.getElem?_append_right (by omega), hl, Nat.sub_self, show s - k = (s - k - 1) + 1 by omega, List.replicate_succ]
            rfl)
          have HO := Lib.hid ho; clear ho
          clear hsh
          generalize m / 256 ^ k = q at *
          go_wp2_with fail
          go_roundw
          case rel =>
            refine ⟨k + 1, by omega, by go_num, ?_, hbel.setCell (by simp) _⟩
            rw [← hst.out]
            exact own_set HO.out k _
          case measure => simp [intOf]; omega
        · obtain rfl : k = s := by omega
          rw [fixed_end] at ho
          have HO := Lib.hid ho; clear ho
          go_wp2_with fail
          go_ret
          exact ⟨_, rfl, by rw [HB.out]; exact bytes_of_own HO.out (length_fixedL _ _).symm, hbel⟩
      )
  · have HB := Lib.hid (fixedB_none (n := m) (size := s) (by simp only [fixedOk, decide_eq_false_iff_not]; intro h; apply hfit; have h5 := h.2.2.2; rw [Int.toNat_natCast, ← pow256] at h5; exact Int.ofNat_lt.1 h5))
    have hq : 0 < m / 256 ^ s := Nat.div_pos (by omega) (Nat.pow_pos (by decide))
    have h8 : s < 8 := by
      rcases Nat.lt_or_ge s 8 with h | h
      · exact h
      · obtain rfl : s = 8 := by omega
        omega
    have hqn : (((m / 256 ^ s : Nat) : Int) != 0) = true := by rw [bne_iff_ne]; omega
    generalize m / 256 ^ s = q at *
    clear hfit
    go_enter Try.func15, Try.ntmps15
    go_wp2_with fail
    go_ret
    exact ⟨_, rfl, by rw [HB.out]; exact Bytes.nil _ _, Below.refl _ _⟩
end Go.Proofs.Ythlgeffjoaiojaa
