import Derived.Test.YthlgeffjoaiojaaDoorWalkC
namespace Go.Proofs.YthlgeffjoaiojaaDoor
open Go.RowKit

set_option maxHeartbeats 400000 in
theorem long_any (n : Nat) (hn : n < 9223372036854775808) (w : World) :
    Calls Tryd.prog 20 #[.int .i64 n] w fun e w' => e = .returned (.int .i64 (bitLen n : Nat)) ∧ w = w' := by
  have hb := bitLen_le n hn
  go_enter Tryd.func20, Tryd.ntmps20
  go_wp2
  go_loop [0, 3] (fun x k => ∃ m j : Nat, m ≤ n ∧ j + bitLen m = bitLen n ∧ x = .int .i64 m ∧ k = .int .i64 j) (fun x _ => (intOf x).toNat)
  case atStart => exact ⟨n, 0, by omega, by omega, rfl, rfl⟩
  case round =>
    obtain ⟨m, j, hm, hj, rfl, rfl⟩ := hrel
    rcases Nat.lt_or_ge 0 m with h | h
    · have HJ := Lib.hid hj
      have hj' : j ≤ 64 := by omega
      clear hj
      have HB := Lib.hid (bitLen_pos m h)
      go_wp2
      go_round
      case rel => exact ⟨m / 2, j + 1, by omega, by have := HJ.out; have := HB.out; omega, by go_num, by go_num⟩
      case measure => simp [intOf]; omega
    · obtain rfl : m = 0 := by omega
      have HJ : Hid (j = bitLen n) := by show _ = _; rw [← hj, show bitLen 0 = 0 by unfold bitLen; rfl]; omega
      clear hj
      go_wp2
      go_ret
      exact ⟨ret_int (by rw [HJ.out]), rfl⟩

set_option maxHeartbeats 400000 in
theorem rlong_any (n : Nat) (hn : n < 9223372036854775808) (w : World) :
    Calls Tryd.prog 15 #[.int .i64 n] w fun e w' => e = .returned (.int .i64 (bitLen n : Nat)) ∧ w = w' := by
  have hb := bitLen_le n hn
  go_enter Tryd.func15, Tryd.ntmps15
  go_wp2
  go_loop [0, 3] (fun x k => ∃ m j : Nat, m ≤ n ∧ j + bitLen m = bitLen n ∧ x = .int .i64 m ∧ k = .int .i64 j) (fun x _ => (intOf x).toNat)
  case atStart => exact ⟨n, 0, by omega, by omega, rfl, rfl⟩
  case round =>
    obtain ⟨m, j, hm, hj, rfl, rfl⟩ := hrel
    rcases Nat.lt_or_ge 0 m with h | h
    · have HJ := Lib.hid hj
      have hj' : j ≤ 64 := by omega
      clear hj
      have HB := Lib.hid (bitLen_pos m h)
      go_wp2
      go_round
      case rel => exact ⟨m / 2, j + 1, by omega, by have := HJ.out; have := HB.out; omega, by go_num, by go_num⟩
      case measure => simp [intOf]; omega
    · obtain rfl : m = 0 := by omega
      have HJ : Hid (j = bitLen n) := by show _ = _; rw [← hj, show bitLen 0 = 0 by unfold bitLen; rfl]; omega
      clear hj
      go_wp2
      go_ret
      exact ⟨ret_int (by rw [HJ.out]), rfl⟩

set_option maxHeartbeats 1000000 in
theorem rshift_any (c n : Nat) (hc : c < 4294967296) (hn : n ≤ 1048576) (w : World) :
    Calls Tryd.prog 13 #[.int .i64 c, .int .i64 n] w fun e w' => e = .returned (.int .i64 (Ls (8 * n) c : Nat)) ∧ w = w' := by
  go_enter Tryd.func13, Tryd.ntmps13
  go_wp2
  go_loop [0, 5] (fun x i => ∃ k : Nat, k ≤ 8 * n ∧ x = .int .i64 (Ls k c : Nat) ∧ i = .int .i64 k) (fun _ i => 8 * n - (intOf i).toNat)
  case atStart => exact ⟨0, by omega, rfl, rfl⟩
  case round =>
    obtain ⟨k, hk, rfl, rfl⟩ := hrel
    have HL := Lib.hid (Ls_add k 1 c)
    have HL2 := Lib.hid (Ls_lt k c hc)
    by_cases hlt : k < 8 * n
    · generalize Ls k c = x at *
      go_wp2_with fail
      refine (rstep_any x 0 HL2.out (by omega) w).mono ?_
      rintro e w' ⟨rfl, rfl⟩
      go_wp2
      go_round
      case rel => exact ⟨k + 1, by omega, by rw [HL.out]; simp [Ls, step1_eq], by go_num⟩
      case measure => simp [intOf]; omega
    · obtain rfl : k = 8 * n := by omega
      clear HL
      go_wp2
      go_ret
      exact ⟨rfl, rfl⟩

set_option maxHeartbeats 1000000 in
theorem shift_bad (c n : Int) (h : c < 0 ∨ 4294967295 < c ∨ n < 0 ∨ 1048576 < n) (w : World) :
    Calls Tryd.prog 12 #[.int .i64 c, .int .i64 n] w fun e w' => e = .returned (.tuple #[.int .i64 0, .int .i64 1]) ∧ w = w' := by
  have h' : c < 0 ∨ (0 ≤ c ∧ 4294967295 < c) ∨ (0 ≤ c ∧ c ≤ 4294967295 ∧ n < 0) ∨ (0 ≤ c ∧ c ≤ 4294967295 ∧ 0 ≤ n ∧ 1048576 < n) := by omega
  clear h
  rcases h' with h | ⟨h1, h⟩ | ⟨h1, h2, h⟩ | ⟨h1, h2, h3, h⟩
  all_goals
    go_enter Tryd.func12, Tryd.ntmps12
    go_wp2
    go_step3
    go_wp2
    try rw [Exit.noGoto_ret]
    go_ret2
    exact ⟨rfl, rfl⟩

set_option maxHeartbeats 1000000 in
theorem shift_any (c n : Nat) (hc : c ≤ 4294967295) (hn : n ≤ 1048576) (w : World) (hF : Fours w) :
    Calls Tryd.prog 12 #[.int .i64 c, .int .i64 n] w fun e w' => e = .returned (.tuple #[.int .i64 (Ls (8 * n) c : Nat), .int .i64 0]) ∧ w = w' := by
  go_enter Tryd.func12, Tryd.ntmps12
  go_wp2
  go_step3
  go_wp2
  go_step3
  go_wp2
  go_loop [0, 21] (fun x i => ∃ k : Nat, k ≤ n ∧ x = .int .i64 (Ls (8 * k) c : Nat) ∧ i = .int .i64 k) (fun _ i => n - (intOf i).toNat)
  case atStart => exact ⟨0, by omega, rfl, rfl⟩
  case round =>
    obtain ⟨k, hk, rfl, rfl⟩ := hrel
    have HL := Lib.hid (Ls_add (8 * k) 8 c)
    have HL2 := Lib.hid (Ls_lt (8 * k) c (by omega))
    by_cases hlt : k < n
    · have HL3 := Lib.hid (Ls_add (8 * k) (8 * n - 8 * k) c)
      generalize Ls (8 * k) c = x at *
      by_cases hx : x = 0
      · subst hx
        have HZ : Hid (Ls (8 * n) c = 0) := by
          show _ = _
          have := HL3.out
          rwa [show 8 * k + (8 * n - 8 * k) = 8 * n by omega, Ls_zero] at this
        go_wp2
        try rw [Exit.noGoto_ret]
        go_ret2
        exact ⟨by rw [HZ.out]; rfl, rfl⟩
      · go_wp2_with fail
        refine (put_any x 0 HL2.out (by omega) w hF).mono ?_
        rintro e w' ⟨rfl, rfl⟩
        go_wp2
        go_round
        case rel => exact ⟨k + 1, by omega, by rw [show 8 * (k + 1) = 8 * k + 8 by omega, HL.out, put8_eq, Nat.xor_zero], by go_num⟩
        case measure => simp [intOf]; omega
    · obtain rfl : k = n := by omega
      clear HL
      go_wp2
      try rw [Exit.noGoto_ret]
      go_ret2
      exact ⟨rfl, rfl⟩

end Go.Proofs.YthlgeffjoaiojaaDoor
