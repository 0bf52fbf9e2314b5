/-
  Layer 20: the reference's Gap, and which rows are right, walked.
-/
import Derived.Test.YtlkpkmdomecopaaLRef
namespace Go.Proofs.Ytlkpkmdomecopaa
open Go Go.RowKit Go.Shelf
set_option maxRecDepth 100000

set_option maxHeartbeats 4000000 in
theorem rgap_any (w : World) (B : Nat) (v : Value) (l : List Chg) (s : Int) (hv : Chgs w B v l) (hrow : Row l) (h1 : -2199022895552 < s) (h2 : s < 2199022895552) (k0 j : Nat) (hk0 : IsAt l (s - 180000) k0) (hj : j < l.length) (hkj : k0 < j) (hsj : skips l s j = true)
    (hno : ∀ i, k0 < i → i < j → skips l s i = false) : Calls Try.prog 14 #[v, .int .i64 s] w fun e w' => e = .returned (.int .i64 j) ∧ ∃ n, w' = w.drewN n := by
  obtain ⟨b, o, c, rfl, hb, hc⟩ := hv.cells hrow.pos
  obtain ⟨A, c', e, hlc, hcm⟩ := hv.form
  cases e
  unfold maxLen at hcm
  have HC := Lib.hid hc
  have hl60 := hrow.few
  clear hc hv
  go_enter Try.func14, Try.ntmps14
  go_wp2_with fail
  go_loopw [5] (fun i wr => ∃ q : Nat, q + 1 ≤ j ∧ i = .int .i64 ((q : Int) + 1) ∧ ∃ n, wr = w.drewN n) (fun i _ => l.length - (intOf i).toNat)
  case atStart => exact ⟨0, by omega, rfl, 0, rfl⟩
  case round =>
    obtain ⟨q, hq, rfl, n, rfl⟩ := hrel
    have hlt : q + 1 < l.length := by omega
    obtain ⟨c0, c1, -, -⟩ := HC.out (q + 1) hlt
    obtain ⟨-, d1, -, -⟩ := HC.out q (by omega)
    have hoff := hrow.off (q + 1) hlt
    have hatl := hrow.at_lo (q + 1) hlt
    have hql : q < l.length := by omega
    have hoff1 := hrow.off q hql
    have HK := Lib.hid (show skips l s (q + 1) = true ↔ (l[q + 1]).at_ + (l[q]).loc.off ≤ s ∧ s < (l[q + 1]).at_ + (l[q + 1]).loc.off from skips_iff hlt)
    have HLE := Lib.hid (show q + 1 ≤ k0 → (l[q + 1]).at_ ≤ s - 180000 from fun h => by
      have := hrow.rise.le hk0.1 h
      have := hk0.2.1
      omega)
    have HGT := Lib.hid (show k0 < q + 1 → s - 180000 < (l[q + 1]).at_ from fun h => hk0.2.2 _ hlt h)
    have n1 : ((q : Int) + 1 < (l.length : Int)) := by omega
    generalize (l[q + 1]).at_ = a at *
    generalize (l[q + 1]).loc.off = f at *
    generalize (l[q]).loc.off = g at *
    rcases Nat.lt_or_ge k0 (q + 1) with hgt | hle
    · have g1 := HGT.out hgt
      by_cases g2 : a + g ≤ s
      · by_cases g3 : s < a + f
        · have hqj : q + 1 = j := by
            rcases Nat.lt_or_ge (q + 1) j with h | h
            · have := hno (q + 1) hgt h
              rw [HK.out.2 ⟨g2, g3⟩] at this
              cases this
            · omega
          have HQ := Lib.hid (show ((q : Int) + 1) = (j : Nat) by omega)
          clear hqj
          go_wp2_with fail
          go_quiet (fail)
          go_wp2_with fail
          go_ret
          exact ⟨by rw [← HQ.out]; rfl, dn2 w _ _⟩
        · have hqj : q + 2 ≤ j := by
            rcases Nat.lt_or_ge (q + 1) j with h | h
            · omega
            · obtain rfl : q + 1 = j := by omega
              exact absurd (HK.out.1 hsj).2 g3
          have hd3 : decide (s < a + f) = false := by simpa using g3
          go_wp2_with fail
          go_quiet (fail)
          go_wp2_with fail
          go_roundw
          case rel => exact ⟨q + 1, by omega, by go_num, _, rfl⟩
          case measure => first | (simp [intOf]; done) | (simp [intOf]; omega)
      · have hqj : q + 2 ≤ j := by
          rcases Nat.lt_or_ge (q + 1) j with h | h
          · omega
          · obtain rfl : q + 1 = j := by omega
            exact absurd (HK.out.1 hsj).1 g2
        have hd2 : decide (a + g ≤ s) = false := by simpa using g2
        go_wp2_with fail
        go_quiet (fail)
        go_wp2_with fail
        go_roundw
        case rel => exact ⟨q + 1, by omega, by go_num, _, rfl⟩
        case measure => first | (simp [intOf]; done) | (simp [intOf]; omega)
    · have g1 := HLE.out hle
      have hd1 : decide (s - 180000 < a) = false := by rw [decide_eq_false_iff_not]; omega
      go_wp2_with fail
      go_quiet (fail)
      go_wp2_with fail
      go_roundw
      case rel => exact ⟨q + 1, by omega, by go_num, _, rfl⟩
      case measure => first | (simp [intOf]; done) | (simp [intOf]; omega)
end Go.Proofs.Ytlkpkmdomecopaa
