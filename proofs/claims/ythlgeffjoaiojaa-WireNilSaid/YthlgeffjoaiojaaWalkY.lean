/-
  The reference of layer 5, walked: Bits, Turned, Fixed.
-/
import Derived.Test.YthlgeffjoaiojaaWalkX
namespace Go.Proofs.Ythlgeffjoaiojaa
open Go Go.RowKit

def bitsL (k n : Nat) : List Nat := (List.range k).map fun i => n / 2 ^ i % 2
theorem length_bitsL (k n : Nat) : (bitsL k n).length = k := by simp [bitsL]
theorem bitsL_succ (k n : Nat) : bitsL (k + 1) n = bitsL k n ++ [n / 2 ^ k % 2] := by simp [bitsL, List.range_succ]
theorem bitsL_cons (k n b : Nat) (hb : b < 2) : b :: bitsL k n = bitsL (k + 1) (2 * n + b) := by
  unfold bitsL
  rw [List.range_succ_eq_map, List.map_cons, List.map_map]
  congr 1
  · omega
  · refine List.map_congr_left fun i _ => ?_
    show n / 2 ^ i % 2 = (2 * n + b) / 2 ^ (i + 1) % 2
    rw [Nat.pow_succ', ← Nat.div_div_eq_div_mul, show (2 * n + b) / 2 = n by omega]
theorem bitsL_at {k n j : Nat} (h : j < k) : (natsV (bitsL k n))[j]? = some (.int .i64 (n / 2 ^ j % 2 : Nat)) := by
  rw [natsV_at _ _ (by rw [length_bitsL]; exact h)]
  simp [bitsL]
theorem ints_of_own {w : World} {base : Nat} {e : TypeId} {v : Value} {n : Nat} {l : List Nat} (h : w.ownsRow base e 1 v n (natsV l)) : Sl w w.heap.size 1 v n (natsV l) := Sl.of_own h
theorem own_int {w : World} {base : Nat} {e : TypeId} {v : Value} {l : List Nat} {x : Nat} (h : w.ownsRow base e 1 v (l.length + 1) (natsV l ++ [.int .i64 (x : Int)])) :
    w.ownsRow base e 1 v (l ++ [x]).length (natsV (l ++ [x])) := by
  rw [natsV_append, List.length_append]
  exact h

set_option maxHeartbeats 1000000 in
theorem rbits_any (n : Nat) (hn : n < 9223372036854775808) (w : World) :
    Calls Try.prog 10 #[.int .i64 n] w (Rets fun v' w' => Sl w' w'.heap.size 1 v' 63 (natsV (bitsL 63 n)) ∧ Below w.heap.size w w') := by
  obtain ⟨i0, hi, hz0, hz1, hz2⟩ := info_parts infoInt
  go_enter Try.func10, Try.ntmps10
  go_wp2
  go_loopw [0, 3, 4] (fun x v i wr => ∃ (k q : Nat) (l : List Nat), k ≤ 63 ∧ i = .int .i64 k ∧ q < 9223372036854775808 ∧ x = .int .i64 q ∧ q = n / 2 ^ k ∧ l.length = k ∧ l = bitsL k n ∧ wr.ownsRow w.heap.size 3 1 v l.length (natsV l) ∧ Below w.heap.size w wr) (fun _ _ i _ => 63 - (intOf i).toNat)
  case atStart => exact ⟨0, n, [], by omega, rfl, hn, rfl, by simp, rfl, rfl, World.ownsRow_nil _ _ _ _, Below.refl _ _⟩
  case round =>
    obtain ⟨k, q, l, hk, rfl, hq, rfl, hqe, hll, hle, hown, hbel⟩ := hrel
    by_cases hlt : k < 63
    · have HN := Lib.hid (show q / 2 = n / 2 ^ (k + 1) by rw [hqe, Nat.pow_succ, Nat.div_div_eq_div_mul])
      have HL := Lib.hid (show l ++ [q % 2] = bitsL (k + 1) n by rw [hle, hqe, bitsL_succ])
      have h1 : q % 2 < 2 := Nat.mod_lt _ (by decide)
      have hd2 : q / 2 ≤ q := by omega
      clear hqe hle
      go_wp2_with (at_builtin; refine wpList_append_own _ rfl _ _ 24 rfl (w.heap.size) 3 i0 (.int .i64 0) 1 8 Try.underlying24 hi hz0 hz1 hz2 rfl (by decide) _ _ _ rfl (hown.alloc _) ⟨wr.heap.size, 0, none⟩ 1 1 [.int .i64 ((q : Int) % 2)] rfl rfl (cell_one_new _ _ _) (by simp [Value.oneCell']) (by unfold maxLen; omega) (by omega) (by have := hbel.size; simp <;> omega) ?_; intro v' w1 hown' hgrow _)
      go_roundw
      case rel =>
        refine ⟨k + 1, q / 2, l ++ [q % 2], by omega, by go_num, by omega, by go_num, HN.out, by simp [hll], HL.out, own_int hown', ?_⟩
        exact (hbel.alloc hbel.size _).grown hgrow (by have := hbel.size; simp <;> omega) (fun g hg => (hown.lt g hg).1)
      case measure => simp [intOf]; omega
    · obtain rfl : k = 63 := by omega
      clear hqe
      have HL := Lib.hid hle; clear hle
      go_wp2_with fail
      go_ret
      refine ⟨_, rfl, ?_, hbel⟩
      rw [← HL.out, show (63 : Nat) = l.length by omega]
      exact Sl.of_own hown

set_option maxHeartbeats 1000000 in
theorem rfixed_any (n size : Int) (hn : -9223372036854775808 ≤ n ∧ n ≤ 9223372036854775807) (hs : -9223372036854775808 ≤ size ∧ size ≤ 9223372036854775807) (w : World) :
    Calls Try.prog 16 #[.int .i64 n, .int .i64 size] w (Rets fun v' w' => Bytes w' w'.heap.size v' (fixedB n size) ∧ Below w.heap.size w w') := by
  obtain ⟨i0, hi, hz0, hz1, hz2⟩ := info_parts infoByte
  by_cases hs1 : size < 1
  · have HB := Lib.hid (fixedB_none (n := n) (size := size) (by simp [fixedOk]; omega))
    go_enter Try.func16, Try.ntmps16
    go_wp2_with fail
    go_ret
    exact ⟨_, rfl, by rw [HB.out]; exact Bytes.nil _ _, Below.refl _ _⟩
  by_cases hs8 : 8 < size
  · have HB := Lib.hid (fixedB_none (n := n) (size := size) (by simp [fixedOk]; omega))
    go_enter Try.func16, Try.ntmps16
    go_wp2_with fail
    go_ret
    exact ⟨_, rfl, by rw [HB.out]; exact Bytes.nil _ _, Below.refl _ _⟩
  by_cases hn0 : n < 0
  · have HB := Lib.hid (fixedB_none (n := n) (size := size) (by simp [fixedOk]; omega))
    go_enter Try.func16, Try.ntmps16
    go_wp2_with fail
    go_ret
    exact ⟨_, rfl, by rw [HB.out]; exact Bytes.nil _ _, Below.refl _ _⟩
  obtain ⟨s, rfl⟩ := Int.eq_ofNat_of_zero_le (show 0 ≤ size by omega)
  obtain ⟨m, rfl⟩ := Int.eq_ofNat_of_zero_le (show 0 ≤ n by omega)
  have hs1' : 1 ≤ s := by omega
  have hs8' : s ≤ 8 := by omega
  have hm : m < 9223372036854775808 := by omega
  clear hs1 hs8 hn0 hn hs
  go_enter Try.func16, Try.ntmps16
  go_wp2_with fail
  go_loopw [0, 5, 6] (fun x v i wr => ∃ (k q : Nat) (l : List UInt8), k ≤ s ∧ i = .int .i64 k ∧ q < 9223372036854775808 ∧ x = .int .i64 q ∧ q = m / 256 ^ k ∧ l.length = k ∧ l = fixedL m k ∧ wr.ownsRow w.heap.size 5 1 v l.length (bytesV l) ∧ Below w.heap.size w wr) (fun _ _ i _ => s - (intOf i).toNat)
  case atStart => exact ⟨0, m, [], by omega, rfl, hm, rfl, by simp, rfl, rfl, World.ownsRow_nil _ _ _ _, Below.refl _ _⟩
  case round =>
    obtain ⟨k, q, l, hk, rfl, hq, rfl, hqe, hll, hle, hown, hbel⟩ := hrel
    by_cases hlt : k < s
    · have HN := Lib.hid (show q / 256 = m / 256 ^ (k + 1) by rw [hqe, Nat.pow_succ, Nat.div_div_eq_div_mul])
      have HL := Lib.hid (show l ++ [UInt8.ofNat (q % 256)] = fixedL m (k + 1) by rw [hle, hqe, fixedL_succ])
      have hd2 : q / 256 ≤ q := by omega
      have HU : Hid ((UInt8.ofNat (q % 256)).toNat = q % 256) := by show _ = _; rw [UInt8.toNat_ofNat']; omega
      generalize UInt8.ofNat (q % 256) = y at *
      clear hqe hle
      go_wp2_with (at_builtin; refine wpList_append_own _ rfl _ _ 22 rfl (w.heap.size) 5 i0 (.int .u8 0) 1 1 Try.underlying22 hi hz0 hz1 hz2 rfl (by decide) _ _ _ rfl (hown.alloc _) ⟨wr.heap.size, 0, none⟩ 1 1 [.int .u8 ((q : Int) % 256)] rfl rfl (cell_one_new _ _ _) (by simp [Value.oneCell']) (by unfold maxLen; omega) (by omega) (by have := hbel.size; simp <;> omega) ?_; intro v' w1 hown' hgrow _)
      go_roundw
      case rel =>
        refine ⟨k + 1, q / 256, l ++ [y], by omega, by go_num, by omega, by go_num, HN.out, by simp [hll], HL.out, own_byte (x := q % 256) hown' HU.out, ?_⟩
        exact (hbel.alloc hbel.size _).grown hgrow (by have := hbel.size; simp <;> omega) (fun g hg => (hown.lt g hg).1)
      case measure => simp [intOf]; omega
    · obtain rfl : k = s := by omega
      by_cases hq0 : 0 < q
      · have HB := Lib.hid (fixedB_none (n := m) (size := k) (by
          simp only [fixedOk, decide_eq_false_iff_not]; intro h
          have h5 := h.2.2.2; rw [Int.toNat_natCast, ← pow256] at h5
          have := Nat.div_eq_of_lt (Int.ofNat_lt.1 h5)
          omega))
        clear hqe hle
        go_wp2_with fail
        go_ret
        exact ⟨_, rfl, by rw [HB.out]; exact Bytes.nil _ _, hbel⟩
      · have HB := Lib.hid (fixedB_some (n := m) hs1' hs8' (by
          rcases Nat.lt_or_ge m (256 ^ k) with h | h
          · exact h
          · have := Nat.div_pos h (Nat.pow_pos (by decide)); omega))
        have HL := Lib.hid hle
        clear hqe hle
        go_wp2_with fail
        go_ret
        exact ⟨_, rfl, by rw [HB.out, ← HL.out]; exact bytes_of_own hown rfl, hbel⟩
end Go.Proofs.Ythlgeffjoaiojaa
