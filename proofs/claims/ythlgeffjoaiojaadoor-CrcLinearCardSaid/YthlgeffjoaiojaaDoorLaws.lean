import Derived.Test.YthlgeffjoaiojaaDoorLawSums
namespace Go.Proofs.YthlgeffjoaiojaaDoor
open Go.RowKit

/-! ### The plain laws -/
theorem xor_cancel (x m y : Nat) : (x ^^^ m) ^^^ (m ^^^ y) = x ^^^ y := by rw [Nat.xor_assoc, ← Nat.xor_assoc m, Nat.xor_self, Nat.zero_xor]
theorem joins_law (la lb : List UInt8) : sums 4294967295 (la ++ lb) ^^^ 4294967295 = Ls (8 * lb.length) (sums 4294967295 la ^^^ 4294967295) ^^^ (sums 4294967295 lb ^^^ 4294967295) := by
  rw [sums_append, sums_eq lb, sums_eq lb, Ls_xor, Ls_xor, Ls_xor]
  symm
  rw [← Nat.xor_assoc, xor_cancel]
theorem turns_law (l : List UInt8) (a r : Nat) (hr : r ≤ 4294967295) (ha : a + bitLen r ≤ 8 * l.length) :
    (sums 4294967295 l ^^^ 4294967295) ^^^ (sums 4294967295 (turnedTo l a r 32) ^^^ 4294967295) = Ls (8 * l.length - a) r := by
  have e : (sums 4294967295 l ^^^ 4294967295) ^^^ (sums 4294967295 (turnedTo l a r 32) ^^^ 4294967295) = sums 4294967295 l ^^^ sums 4294967295 (turnedTo l a r 32) := by
    rw [Nat.xor_assoc, Nat.xor_comm (sums 4294967295 (turnedTo l a r 32)), ← Nat.xor_assoc 4294967295, Nat.xor_self, Nat.zero_xor]
  rw [e, sums_eq, sums_eq, length_turnedTo, ← Ls_xor, num_turnedTo l a r ha, Nat.mod_eq_of_lt (by omega), ← Nat.xor_assoc 4294967295, ← Nat.xor_assoc, Nat.xor_self, Nat.zero_xor]
  rw [show 8 * l.length = a + (8 * l.length - a) by omega, Ls_add, Ls_shift]
  congr 1
  omega
theorem turns_ne (n a r : Nat) (hr : 1 ≤ r) (hr' : r ≤ 4294967295) : Ls (8 * n - a) r ≠ 0 := Ls_ne _ _ (by omega) (by omega)
theorem xor_eq_zero {a b : Nat} (h : a ^^^ b = 0) : a = b := by
  have := congrArg (· ^^^ b) h
  simpa [Nat.xor_assoc] using this

theorem awake_bool (w : World) (hF : Fours w) : Calls Tryd.prog 9 #[] w fun e w' => e = .returned (.bool true) ∧ Below w.heap.size w w' := awake_any w hF

/-! ### The walks -/
set_option maxHeartbeats 1000000 in
theorem shifts_walk (w : World) (a b : Int) (_ : -9223372036854775808 ≤ a ∧ a ≤ 9223372036854775807) (_ : -9223372036854775808 ≤ b ∧ b ≤ 9223372036854775807) (hF : Fours w) :
    Calls Tryd.prog 4 #[.int .i64 a, .int .i64 b] w fun e w' => e = .returned (.bool true) ∧ Below w.heap.size w w' := by
  by_cases h0 : 300 < b ∧ b ≤ 1048576
  · obtain ⟨h1, h2⟩ := h0
    go_enter Tryd.func4, Tryd.ntmps4
    go_wp2_with (go_at_call 9; refine (awake_any _ hF).mono ?_; rintro e w' ⟨rfl, hb⟩)
    go_ret
    exact ⟨rfl, hb⟩
  by_cases hbad : a < 0 ∨ 4294967295 < a ∨ b < 0 ∨ 1048576 < b
  · have h' : (a < 0 ∧ b ≤ 300) ∨ (a < 0 ∧ 300 < b ∧ 1048576 < b) ∨ (0 ≤ a ∧ 4294967295 < a ∧ b ≤ 300) ∨ (0 ≤ a ∧ 4294967295 < a ∧ 300 < b ∧ 1048576 < b) ∨ (0 ≤ a ∧ a ≤ 4294967295 ∧ b ≤ 300 ∧ b < 0) ∨ (0 ≤ a ∧ a ≤ 4294967295 ∧ 0 ≤ b ∧ 300 < b ∧ 1048576 < b) := by omega
    have HS := Lib.hid (shift_bad a b hbad w)
    clear h0 hbad
    rcases h' with ⟨h1, h2⟩ | ⟨h1, h2, h3⟩ | ⟨h1, h2, h3⟩ | ⟨h1, h2, h3, h4⟩ | ⟨h1, h2, h3, h4⟩ | ⟨h1, h2, h3, h4, h5⟩
    all_goals
      go_enter Tryd.func4, Tryd.ntmps4
      go_wp2_with (first | (go_at_call 12; refine HS.out.mono ?_; rintro e w' ⟨rfl, rfl⟩) | (go_at_call 9; refine (awake_any _ hF).mono ?_; rintro e w' ⟨rfl, hb⟩))
      go_ret
      exact ⟨rfl, hb⟩
  · obtain ⟨c, rfl⟩ := Int.eq_ofNat_of_zero_le (show 0 ≤ a by omega)
    obtain ⟨n, rfl⟩ := Int.eq_ofNat_of_zero_le (show 0 ≤ b by omega)
    have h1 : c ≤ 4294967295 := by omega
    have h2 : n ≤ 300 := by omega
    clear h0 hbad
    go_enter Tryd.func4, Tryd.ntmps4
    go_wp2_with (first | (go_at_call 12; refine (shift_any c n h1 (by omega) w hF).mono ?_; rintro e w' ⟨rfl, rfl⟩) | (go_at_call 13; refine (rshift_any c n (by omega) (by omega) w).mono ?_; rintro e w' ⟨rfl, rfl⟩) | (go_at_call 9; refine (awake_any _ hF).mono ?_; rintro e w' ⟨rfl, hb⟩))
    go_ret
    exact ⟨rfl, hb⟩

set_option maxHeartbeats 1000000 in
theorem joins_walk (w : World) (v : Value) (la : List UInt8) (u : Value) (lb : List UInt8) (hv : Bytes w w.heap.size v la) (hu : Bytes w w.heap.size u lb) (hF : Fours w) :
    Calls Tryd.prog 5 #[v, u] w fun e w' => e = .returned (.bool true) ∧ Below w.heap.size w w' := by
  have HV := Lib.hid hv
  have HU := Lib.hid hu
  obtain ⟨A, c, rfl, -, -⟩ := hv.form
  obtain ⟨A', c', rfl, -, -⟩ := hu.form
  clear hv hu
  have hla := HV.out.le
  have hlb := HU.out.le
  unfold maxLen at hla hlb
  by_cases h0 : 300 < la.length ∨ 300 < lb.length
  · have h' : 300 < la.length ∨ (la.length ≤ 300 ∧ 300 < lb.length) := by omega
    clear h0
    rcases h' with h1 | ⟨h1, h2⟩
    all_goals
      go_enter Tryd.func5, Tryd.ntmps5
      go_wp2_with (go_at_call 9; refine (awake_any _ hF).mono ?_; rintro e w' ⟨rfl, hb⟩)
      go_ret
      exact ⟨rfl, hb⟩
  have h1 : la.length ≤ 300 := by omega
  have h2 : lb.length ≤ 300 := by omega
  clear h0
  have hs1 : sums 4294967295 la ^^^ 4294967295 < 4294967296 := Nat.xor_lt_two_pow (n := 32) (sums_lt _ _ (by decide)) (by decide)
  have hs2 : sums 4294967295 lb ^^^ 4294967295 < 4294967296 := Nat.xor_lt_two_pow (n := 32) (sums_lt _ _ (by decide)) (by decide)
  have hs3 := Ls_lt (8 * lb.length) _ hs1
  have HJ := Lib.hid (joins_law la lb)
  have HX := i64_xor_nat (Ls (8 * lb.length) (sums 4294967295 la ^^^ 4294967295)) (sums 4294967295 lb ^^^ 4294967295) (by omega) (by omega)
  rw [← HJ.out] at HX
  clear hs3
  go_enter Tryd.func5, Tryd.ntmps5
  go_wp2_with fail
  refine (sum1 _ _ w.heap.size (.slice A la.length c) la ?_ ?_ ?_).mono ?_
  · go_simp
  · exact HV.out.alloc (Nat.le_refl _) _
  · exact hF.alloc _
  rintro e w'' ⟨rfl, rfl⟩
  generalize sums 4294967295 la ^^^ 4294967295 = s1 at *
  go_wp2_with fail
  refine (shift_any s1 lb.length (by omega) (by omega) _ (hF.alloc _)).mono ?_
  rintro e w'' ⟨rfl, rfl⟩
  generalize Ls (8 * lb.length) s1 = s3 at *
  go_wp2_with fail
  refine (sum2 _ _ w.heap.size (.slice A la.length c) (.slice A' lb.length c') la lb ?_ ?_ ?_ ?_ ?_).mono ?_
  · go_simp
  · go_simp
  · exact (HV.out.alloc (Nat.le_refl _) _).alloc (by simp) _
  · exact (HU.out.alloc (Nat.le_refl _) _).alloc (by simp) _
  · exact (hF.alloc _).alloc _
  rintro e w'' ⟨rfl, rfl⟩
  go_wp2_with fail
  refine (sum1 _ _ w.heap.size (.slice A' lb.length c') lb ?_ ?_ ?_).mono ?_
  · go_simp
  · exact ((HU.out.alloc (Nat.le_refl _) _).alloc (by simp) _).alloc (by simp; omega) _
  · exact ((hF.alloc _).alloc _).alloc _
  rintro e w'' ⟨rfl, rfl⟩
  generalize sums 4294967295 lb ^^^ 4294967295 = s2 at *
  go_wp2_with fail
  refine (awake_any _ (((hF.alloc _).alloc _).alloc _)).mono ?_
  rintro e w'' ⟨rfl, hb2⟩
  go_wp2
  go_ret
  exact ⟨rfl, ((((Below.refl _ _).alloc (Nat.le_refl _) _).alloc (by simp) _).alloc (by simp; omega) _).trans (hb2.mono (by simp; omega))⟩

end Go.Proofs.YthlgeffjoaiojaaDoor
