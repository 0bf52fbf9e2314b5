import Derived.Test.YthlgeffjoaiojaaDoorLaws
namespace Go.Proofs.YthlgeffjoaiojaaDoor
open Go.RowKit

set_option maxHeartbeats 2000000 in
theorem turns_walk (w : World) (v : Value) (l : List UInt8) (a r : Int) (hv : Bytes w w.heap.size v l) (ha : -9223372036854775808 ≤ a ∧ a ≤ 9223372036854775807) (hr : -9223372036854775808 ≤ r ∧ r ≤ 9223372036854775807) (hF : Fours w) :
    Calls Tryd.prog 6 #[v, .int .i64 a, .int .i64 r] w fun e w' => e = .returned (.bool true) ∧ Below w.heap.size w w' := by
  have HV := Lib.hid hv
  obtain ⟨A, c, rfl, -, -⟩ := hv.form
  clear hv
  have hl := HV.out.le
  unfold maxLen at hl
  by_cases h0 : 300 < l.length
  · go_enter Tryd.func6, Tryd.ntmps6
    go_wp2_with (go_at_call 9; refine (awake_any _ hF).mono ?_; rintro e w' ⟨rfl, hb⟩)
    go_ret
    exact ⟨rfl, hb⟩
  have h1 : l.length ≤ 300 := by omega
  clear h0
  by_cases hbad : r < 1 ∨ 4294967295 < r ∨ a < 0 ∨ (8 * l.length : Int) - bitLen r.toNat < a
  · have HS := Lib.hid (turn_bad l.length a r (by omega) ha.2 hbad w)
    have h' : r < 1 ∨ (1 ≤ r ∧ 4294967295 < r) ∨ (1 ≤ r ∧ r ≤ 4294967295 ∧ a < 0) ∨ (1 ≤ r ∧ r ≤ 4294967295 ∧ 0 ≤ a ∧ (8 * l.length : Int) - bitLen r.toNat < a) := by omega
    clear hbad
    rcases h' with h | ⟨h2, h⟩ | ⟨h2, h3, h⟩ | ⟨h2, h3, h4, h⟩
    case inr.inr.inr =>
      obtain ⟨k, rfl⟩ := Int.eq_ofNat_of_zero_le (show 0 ≤ r by omega)
      have hb := bitLen_le k (by omega)
      have HR := Lib.hid (rlong_any k (by omega))
      rw [Int.toNat_natCast] at h
      generalize bitLen k = b at *
      go_enter Tryd.func6, Tryd.ntmps6
      go_wp2_with (first | (go_at_call 14; refine HS.out.mono ?_; rintro e w' ⟨rfl, rfl⟩) | (go_at_call 15; refine (HR.out _).mono ?_; rintro e w' ⟨rfl, rfl⟩) | (go_at_call 9; refine (awake_any _ hF).mono ?_; rintro e w' ⟨rfl, hb⟩))
      go_ret
      exact ⟨rfl, hb⟩
    all_goals
      go_enter Tryd.func6, Tryd.ntmps6
      go_wp2_with (first | (go_at_call 14; refine HS.out.mono ?_; rintro e w' ⟨rfl, rfl⟩) | (go_at_call 9; refine (awake_any _ hF).mono ?_; rintro e w' ⟨rfl, hb⟩))
      go_ret
      exact ⟨rfl, hb⟩
  · obtain ⟨k, rfl⟩ := Int.eq_ofNat_of_zero_le (show 0 ≤ r by omega)
    obtain ⟨n, rfl⟩ := Int.eq_ofNat_of_zero_le (show 0 ≤ a by omega)
    rw [Int.toNat_natCast] at hbad
    have h2 : 1 ≤ k := by omega
    have h3 : k ≤ 4294967295 := by omega
    have h4 : n + bitLen k ≤ 8 * l.length := by omega
    clear hbad ha hr
    have HL := Lib.hid (turns_law l n k h3 h4)
    have hlt1 : sums 4294967295 l ^^^ 4294967295 < 4294967296 := Nat.xor_lt_two_pow (n := 32) (sums_lt _ _ (by decide)) (by decide)
    have hlt2 : sums 4294967295 (turnedTo l n k 32) ^^^ 4294967295 < 4294967296 := Nat.xor_lt_two_pow (n := 32) (sums_lt _ _ (by decide)) (by decide)
    have HX := i64_xor_nat (sums 4294967295 l ^^^ 4294967295) (sums 4294967295 (turnedTo l n k 32) ^^^ 4294967295) (by omega) (by omega)
    rw [HL.out] at HX
    have HT := Lib.hid (turn_any l.length n k (by omega) h2 h3 h4 w hF)
    have HR := Lib.hid (rlong_any k (by omega))
    have HLen := Lib.hid (length_turnedTo l n k 32)
    have hb := bitLen_le k (by omega)
    have HU := Lib.hid (fun w1 (hb1 : Below w.heap.size w w1) => turned_any w1 w.heap.size (.slice A l.length c) l n k (HV.out.below hb1) (by omega) h2 h3 h4)
    generalize bitLen k = b at *
    generalize hm : turnedTo l n k 32 = m at *
    clear hm
    generalize Ls (8 * l.length - n) k = t at *
    go_enter Tryd.func6, Tryd.ntmps6
    go_wp2_with (first | (go_at_call 14; refine HT.out.mono ?_; rintro e w' ⟨rfl, rfl⟩) | (go_at_call 15; refine (HR.out _).mono ?_; rintro e w' ⟨rfl, rfl⟩))
    refine (rsum_any _ _ _ l HV.out (Nat.le_refl _) (by omega)).mono ?_
    rintro e w1 ⟨rfl, hb1⟩
    go_wp2_with fail
    refine (HU.out w1 hb1).mono ?_
    rintro e w2 ⟨u, rfl, hu, hb2⟩
    have hsz1 := hb1.size
    have hsz2 := hb2.size
    have hlm : m.length ≤ 100000 := by rw [HLen.out]; omega
    go_wp2_with fail
    refine (rsum_any _ _ _ m hu (Nat.le_refl _) hlm).mono ?_
    rintro e w3 ⟨rfl, hb3⟩
    have hb12 := (hb1.trans (hb2.mono hsz1)).trans (hb3.mono (by omega))
    go_wp2_with fail
    refine (awake_any _ (hF.below hb12)).mono ?_
    rintro e w4 ⟨rfl, hb4⟩
    go_wp2
    go_ret
    exact ⟨rfl, hb12.trans (hb4.mono hb12.size)⟩
end Go.Proofs.YthlgeffjoaiojaaDoor
