import Derived.Test.YthlgeffjoaiojaaDoorLawsB
namespace Go.Proofs.YthlgeffjoaiojaaDoor
open Go.RowKit

set_option maxHeartbeats 2000000 in
theorem finds_walk (w : World) (v : Value) (l : List UInt8) (a r : Int) (hv : Bytes w w.heap.size v l) (ha : -9223372036854775808 ≤ a ∧ a ≤ 9223372036854775807) (hr : -9223372036854775808 ≤ r ∧ r ≤ 9223372036854775807) (hF : Fours w) :
    Calls Tryd.prog 7 #[v, .int .i64 a, .int .i64 r] w fun e w' => e = .returned (.bool true) ∧ Below w.heap.size w w' := by
  have HV := Lib.hid hv
  obtain ⟨A, c, rfl, -, -⟩ := hv.form
  clear hv
  have hl := HV.out.le
  unfold maxLen at hl
  by_cases hbad : 600 < l.length ∨ r < 1 ∨ 4294967295 < r ∨ a < 0 ∨ (8 * l.length : Int) - bitLen r.toNat < a
  · have h' : 600 < l.length ∨ (l.length ≤ 600 ∧ r < 1) ∨ (l.length ≤ 600 ∧ 1 ≤ r ∧ 4294967295 < r) ∨ (l.length ≤ 600 ∧ 1 ≤ r ∧ r ≤ 4294967295 ∧ a < 0) ∨ (l.length ≤ 600 ∧ 1 ≤ r ∧ r ≤ 4294967295 ∧ 0 ≤ a ∧ (8 * l.length : Int) - bitLen r.toNat < a) := by omega
    clear hbad
    rcases h' with h | ⟨h1, h⟩ | ⟨h1, h2, h⟩ | ⟨h1, h2, h3, h⟩ | ⟨h1, h2, h3, h4, h⟩
    case inr.inr.inr.inr =>
      obtain ⟨k, rfl⟩ := Int.eq_ofNat_of_zero_le (show 0 ≤ r by omega)
      have hb := bitLen_le k (by omega)
      have HR := Lib.hid (rlong_any k (by omega))
      rw [Int.toNat_natCast] at h
      generalize bitLen k = b at *
      go_enter Tryd.func7, Tryd.ntmps7
      go_wp2_with (first | (go_at_call 15; refine (HR.out _).mono ?_; rintro e w' ⟨rfl, rfl⟩) | (go_at_call 9; refine (awake_any _ hF).mono ?_; rintro e w' ⟨rfl, hb⟩))
      go_ret
      exact ⟨rfl, hb⟩
    all_goals
      go_enter Tryd.func7, Tryd.ntmps7
      go_wp2_with (go_at_call 9; refine (awake_any _ hF).mono ?_; rintro e w' ⟨rfl, hb⟩)
      go_ret
      exact ⟨rfl, hb⟩
  · obtain ⟨k, rfl⟩ := Int.eq_ofNat_of_zero_le (show 0 ≤ r by omega)
    obtain ⟨n, rfl⟩ := Int.eq_ofNat_of_zero_le (show 0 ≤ a by omega)
    rw [Int.toNat_natCast] at hbad
    have h1 : l.length ≤ 600 := by omega
    have h2 : 1 ≤ k := by omega
    have h3 : k ≤ 4294967295 := by omega
    have h4 : n + bitLen k ≤ 8 * l.length := by omega
    clear hbad ha hr
    have hL := turns_law l n k h3 h4
    have hne := turns_ne l.length n k h2 h3
    have hlt1 : sums 4294967295 l ^^^ 4294967295 < 4294967296 := Nat.xor_lt_two_pow (n := 32) (sums_lt _ _ (by decide)) (by decide)
    have hlt2 : sums 4294967295 (turnedTo l n k 32) ^^^ 4294967295 < 4294967296 := Nat.xor_lt_two_pow (n := 32) (sums_lt _ _ (by decide)) (by decide)
    have hlt3 := Ls_lt (8 * l.length - n) k (by omega)
    have HX := i64_xor_nat (sums 4294967295 l ^^^ 4294967295) (Ls (8 * l.length - n) k) (by omega) (by omega)
    have he : (sums 4294967295 l ^^^ 4294967295) ^^^ Ls (8 * l.length - n) k = sums 4294967295 (turnedTo l n k 32) ^^^ 4294967295 := by
      rw [← hL, ← Nat.xor_assoc, Nat.xor_self, Nat.zero_xor]
    have hdiff : sums 4294967295 (turnedTo l n k 32) ^^^ 4294967295 ≠ sums 4294967295 l ^^^ 4294967295 := fun e => hne (by rw [← hL, e, Nat.xor_self])
    rw [he] at HX
    have HT := Lib.hid (fun w1 (hb1 : Below w.heap.size w w1) => turn_any l.length n k (by omega) h2 h3 h4 w1 (hF.below hb1))
    have HU := Lib.hid (turned_any w w.heap.size (.slice A l.length c) l n k HV.out (by omega) h2 h3 h4)
    have HR := Lib.hid (rlong_any k (by omega))
    have HLen := Lib.hid (length_turnedTo l n k 32)
    have hb := bitLen_le k (by omega)
    clear hL he
    generalize bitLen k = b at *
    generalize hm : turnedTo l n k 32 = m at *
    clear hm
    have HSL : ∃ x, x = sums 4294967295 l ^^^ 4294967295 := ⟨_, rfl⟩
    have HSM : ∃ x, x = sums 4294967295 m ^^^ 4294967295 := ⟨_, rfl⟩
    obtain ⟨sl, hsl⟩ := HSL
    obtain ⟨sm, hsm⟩ := HSM
    rw [← hsl] at hlt1 HX hdiff
    rw [← hsm] at hlt2 HX hdiff
    have HSL := Lib.hid hsl; clear hsl
    have HSM := Lib.hid hsm; clear hsm
    have hd1 : ((sm : Int) != sl) = true := by rw [bne_iff_ne]; omega
    have hd2 : ((Ls (8 * l.length - n) k : Int) != 0) = true := by rw [bne_iff_ne]; omega
    clear hdiff hne
    generalize Ls (8 * l.length - n) k = t at *
    go_enter Tryd.func7, Tryd.ntmps7
    go_wp2_with (first | (go_at_call 15; refine (HR.out _).mono ?_; rintro e w' ⟨rfl, rfl⟩))
    refine HU.out.mono ?_
    rintro e w1 ⟨u, rfl, hu, hb1⟩
    have hsz := hb1.size
    have HU1 := Lib.hid hu
    obtain ⟨A1, c1, rfl, -, -⟩ := hu.form
    clear hu
    have HF1 := Lib.hid (hF.below hb1)
    have HV1 := Lib.hid (HV.out.below hb1)
    go_wp2_with fail
    refine (HT.out w1 hb1).mono ?_
    rintro e w2 ⟨rfl, rfl⟩
    go_wp2_with fail
    refine (sum1 _ _ w1.heap.size (.slice A1 m.length c1) m ?_ ?_ ?_).mono ?_
    · go_simp
    · exact HU1.out.alloc (Nat.le_refl _) _
    · exact (HF1.out.alloc _)
    rintro e w2 ⟨rfl, rfl⟩
    rw [← HSM.out]
    go_wp2_with fail
    refine (sum1 _ _ w.heap.size (.slice A l.length c) l ?_ ?_ ?_).mono ?_
    · go_simp
    · exact (HV1.out.alloc hsz _).alloc (by simp <;> omega) _
    · exact ((HF1.out.alloc _).alloc _)
    rintro e w2 ⟨rfl, rfl⟩
    rw [← HSL.out]
    go_wp2_with fail
    refine (sum1 _ _ w.heap.size (.slice A l.length c) l ?_ ?_ ?_).mono ?_
    · go_simp
    · exact ((HV1.out.alloc hsz _).alloc (by simp <;> omega) _).alloc (by simp <;> omega) _
    · exact (((HF1.out.alloc _).alloc _).alloc _)
    rintro e w2 ⟨rfl, rfl⟩
    rw [← HSL.out]
    go_wp2_with fail
    refine (sum1 _ _ w1.heap.size (.slice A1 m.length c1) m ?_ ?_ ?_).mono ?_
    · go_simp
    · exact (((HU1.out.alloc (Nat.le_refl _) _).alloc (by simp <;> omega) _).alloc (by simp <;> omega) _).alloc (by simp <;> omega) _
    · exact ((((HF1.out.alloc _).alloc _).alloc _).alloc _)
    rintro e w2 ⟨rfl, rfl⟩
    rw [← HSM.out]
    go_wp2_with fail
    refine (awake_any _ ((((HF1.out.alloc _).alloc _).alloc _).alloc _)).mono ?_
    rintro e w4 ⟨rfl, hb4⟩
    go_wp2
    go_ret
    exact ⟨rfl, ((((hb1.alloc hsz _).alloc (by simp <;> omega) _).alloc (by simp <;> omega) _).alloc (by simp <;> omega) _).trans (hb4.mono (by simp <;> omega))⟩

set_option maxHeartbeats 2000000 in
theorem linear_walk (w : World) (n a r s : Int) (hn : -9223372036854775808 ≤ n ∧ n ≤ 9223372036854775807) (ha : -9223372036854775808 ≤ a ∧ a ≤ 9223372036854775807) (hr : -9223372036854775808 ≤ r ∧ r ≤ 9223372036854775807) (hs : -9223372036854775808 ≤ s ∧ s ≤ 9223372036854775807) (hF : Fours w) :
    Calls Tryd.prog 8 #[.int .i64 n, .int .i64 a, .agg #[.int .i64 r, .int .i64 s]] w fun e w' => e = .returned (.bool true) ∧ Below w.heap.size w w' := by
  have HF1 := Lib.hid (hF.alloc (.cells #[.int .i64 r, .int .i64 s] 37))
  have HB1 : Below w.heap.size w (w.alloc (.cells #[.int .i64 r, .int .i64 s] 37)) := (Below.refl _ _).alloc (Nat.le_refl _) _
  by_cases h0 : n < 0 ∨ 300 < n
  · have h' : n < 0 ∨ (0 ≤ n ∧ 300 < n) := by omega
    clear h0
    rcases h' with h1 | ⟨h1, h2⟩
    all_goals
      go_enter Tryd.func8, Tryd.ntmps8
      go_wp2_with fail
      refine (awake_any _ HF1.out).mono ?_
      rintro e w' ⟨rfl, hb⟩
      go_wp2
      go_ret
      exact ⟨rfl, HB1.trans (hb.mono (by simp))⟩
  obtain ⟨n, rfl⟩ := Int.eq_ofNat_of_zero_le (show 0 ≤ n by omega)
  have h1 : n ≤ 300 := by omega
  clear h0 hn
  have HBad := Lib.hid (fun (r : Int) (h : r < 1 ∨ 4294967295 < r ∨ a < 0 ∨ (8 * n : Int) - bitLen r.toNat < a) (w : World) => turn_bad n a r (by omega) ha.2 h w)
  by_cases hr0 : r < 1 ∨ 4294967295 < r ∨ a < 0 ∨ (8 * n : Int) - bitLen r.toNat < a
  · have HR := Lib.hid (HBad.out r hr0)
    obtain ⟨t, e', HS⟩ : ∃ t e' : Int, Hid (Calls Tryd.prog 14 #[.int .i64 n, .int .i64 a, .int .i64 s] (w.alloc (.cells #[.int .i64 r, .int .i64 s] 37)) fun e w' => e = .returned (.tuple #[.int .i64 t, .int .i64 e']) ∧ (w.alloc (.cells #[.int .i64 r, .int .i64 s] 37)) = w') := by
      by_cases hs0 : s < 1 ∨ 4294967295 < s ∨ a < 0 ∨ (8 * n : Int) - bitLen s.toNat < a
      · exact ⟨0, 1, HBad.out s hs0 _⟩
      · obtain ⟨k, rfl⟩ := Int.eq_ofNat_of_zero_le (show 0 ≤ s by omega)
        obtain ⟨b, rfl⟩ := Int.eq_ofNat_of_zero_le (show 0 ≤ a by omega)
        rw [Int.toNat_natCast] at hs0
        exact ⟨_, _, turn_any n b k (by omega) (by omega) (by omega) (by omega) _ HF1.out⟩
    clear hr0 HBad
    go_enter Tryd.func8, Tryd.ntmps8
    go_wp2_with fail
    refine (HR.out _).mono ?_
    rintro e w' ⟨rfl, rfl⟩
    go_wp2_with fail
    refine HS.out.mono ?_
    rintro e w' ⟨rfl, rfl⟩
    go_wp2_with fail
    refine (awake_any _ HF1.out).mono ?_
    rintro e w' ⟨rfl, hb⟩
    go_wp2
    go_ret
    exact ⟨rfl, HB1.trans (hb.mono (by simp))⟩
  obtain ⟨j, rfl⟩ := Int.eq_ofNat_of_zero_le (show 0 ≤ r by omega)
  obtain ⟨b, rfl⟩ := Int.eq_ofNat_of_zero_le (show 0 ≤ a by omega)
  rw [Int.toNat_natCast] at hr0
  have h2 : 1 ≤ j := by omega
  have h3 : j ≤ 4294967295 := by omega
  have h4 : b + bitLen j ≤ 8 * n := by omega
  clear hr0 hr
  have HR := Lib.hid (turn_any n b j (by omega) h2 h3 h4 _ HF1.out)
  by_cases hs0 : s < 1 ∨ 4294967295 < s ∨ (b : Int) < 0 ∨ (8 * n : Int) - bitLen s.toNat < b
  · have HS := Lib.hid (HBad.out s hs0)
    clear hs0 HBad h4
    generalize Ls (8 * n - b) j = t at *
    go_enter Tryd.func8, Tryd.ntmps8
    go_wp2_with fail
    refine HR.out.mono ?_
    rintro e w' ⟨rfl, rfl⟩
    go_wp2_with fail
    refine (HS.out _).mono ?_
    rintro e w' ⟨rfl, rfl⟩
    go_wp2_with fail
    refine (awake_any _ HF1.out).mono ?_
    rintro e w' ⟨rfl, hb⟩
    go_wp2
    go_ret
    exact ⟨rfl, HB1.trans (hb.mono (by simp))⟩
  obtain ⟨k, rfl⟩ := Int.eq_ofNat_of_zero_le (show 0 ≤ s by omega)
  rw [Int.toNat_natCast] at hs0
  have h5 : 1 ≤ k := by omega
  have h6 : k ≤ 4294967295 := by omega
  have h7 : b + bitLen k ≤ 8 * n := by omega
  clear hs0 hs
  have HS := Lib.hid (turn_any n b k (by omega) h5 h6 h7 _ HF1.out)
  have hb8 : b ≤ 2400 := by omega
  have hl1 := Ls_lt (8 * n - b) j (by omega)
  have hl2 := Ls_lt (8 * n - b) k (by omega)
  have HA1 := Lib.hid (shift_any (Ls (8 * n - b) j) n (by omega) (by omega) _ HF1.out)
  have hl3 := Ls_lt (8 * n) (Ls (8 * n - b) j) (by omega)
  have HA2 := Lib.hid (shift_any (Ls (8 * n) (Ls (8 * n - b) j)) b (by omega) (by omega) _ HF1.out)
  have HA3 := Lib.hid (shift_any (Ls (8 * n - b) j) (n + b) (by omega) (by omega) _ HF1.out)
  have HE : Hid (Ls (8 * (n + b)) (Ls (8 * n - b) j) = Ls (8 * b) (Ls (8 * n) (Ls (8 * n - b) j))) := by
    show _ = _
    rw [Nat.mul_add, Ls_add]
  rw [HE.out] at HA3
  have hx := i64_xor_nat (Ls (8 * n - b) j) (Ls (8 * n - b) k) (by omega) (by omega)
  have hy := i64_xor_nat j k (by omega) (by omega)
  by_cases hjk : j = k
  · subst hjk
    have HZ := Lib.hid (HBad.out 0 (by omega))
    rw [Nat.xor_self] at hx hy
    clear hl3 HE h4 h7
    generalize Ls (8 * b) (Ls (8 * n) (Ls (8 * n - b) j)) = t3 at *
    generalize Ls (8 * n) (Ls (8 * n - b) j) = t2 at *
    generalize Ls (8 * n - b) j = t1 at *
    go_enter Tryd.func8, Tryd.ntmps8
    go_wp2_with fail
    refine HR.out.mono ?_
    rintro e w' ⟨rfl, rfl⟩
    go_wp2_with fail
    refine HS.out.mono ?_
    rintro e w' ⟨rfl, rfl⟩
    go_wp2_with fail
    refine (HZ.out _).mono ?_
    rintro e w' ⟨rfl, rfl⟩
    go_wp2_with fail
    refine HA1.out.mono ?_
    rintro e w' ⟨rfl, rfl⟩
    go_wp2_with fail
    refine HA2.out.mono ?_
    rintro e w' ⟨rfl, rfl⟩
    go_wp2_with fail
    refine HA3.out.mono ?_
    rintro e w' ⟨rfl, rfl⟩
    go_wp2_with fail
    refine (awake_any _ HF1.out).mono ?_
    rintro e w' ⟨rfl, hb⟩
    go_wp2
    go_ret
    exact ⟨rfl, HB1.trans (hb.mono (by simp))⟩
  · have hjk' : ((j : Int) == (k : Int)) = false := by rw [beq_eq_false_iff_ne]; omega
    have hx0 : j ^^^ k ≠ 0 := fun e => hjk (xor_eq_zero e)
    have hx1 : j ^^^ k < 4294967296 := Nat.xor_lt_two_pow (n := 32) (by omega) (by omega)
    have hx2 : bitLen (j ^^^ k) ≤ max (bitLen j) (bitLen k) := bitLen_le_of _ _ (Nat.xor_lt_two_pow (Nat.lt_of_lt_of_le (lt_bitLen j) (Nat.pow_le_pow_right (by decide) (by omega))) (Nat.lt_of_lt_of_le (lt_bitLen k) (Nat.pow_le_pow_right (by decide) (by omega))))
    have HZ := Lib.hid (turn_any n b (j ^^^ k) (by omega) (by omega) (by omega) (by omega) _ HF1.out)
    rw [Ls_xor] at HZ
    clear hl3 HE h4 h7 hjk hx0 hx2
    generalize j ^^^ k = jk at *
    generalize Ls (8 * b) (Ls (8 * n) (Ls (8 * n - b) j)) = t3 at *
    generalize Ls (8 * n) (Ls (8 * n - b) j) = t2 at *
    generalize Ls (8 * n - b) j = t1 at *
    generalize Ls (8 * n - b) k = u1 at *
    generalize t1 ^^^ u1 = tu at *
    go_enter Tryd.func8, Tryd.ntmps8
    go_wp2_with fail
    refine HR.out.mono ?_
    rintro e w' ⟨rfl, rfl⟩
    go_wp2_with fail
    refine HS.out.mono ?_
    rintro e w' ⟨rfl, rfl⟩
    go_wp2_with fail
    refine HZ.out.mono ?_
    rintro e w' ⟨rfl, rfl⟩
    go_wp2_with fail
    refine HA1.out.mono ?_
    rintro e w' ⟨rfl, rfl⟩
    go_wp2_with fail
    refine HA2.out.mono ?_
    rintro e w' ⟨rfl, rfl⟩
    go_wp2_with fail
    refine HA3.out.mono ?_
    rintro e w' ⟨rfl, rfl⟩
    go_wp2_with fail
    refine (awake_any _ HF1.out).mono ?_
    rintro e w' ⟨rfl, hb⟩
    go_wp2
    go_ret
    exact ⟨rfl, HB1.trans (hb.mono (by simp))⟩
end Go.Proofs.YthlgeffjoaiojaaDoor
