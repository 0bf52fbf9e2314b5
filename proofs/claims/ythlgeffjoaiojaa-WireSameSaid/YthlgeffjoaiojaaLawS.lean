/-
  Layer 5: the law WireSame, walked.
-/
import Derived.Test.YthlgeffjoaiojaaLawR
import Derived.Test.YthlgeffjoaiojaaWMathB
namespace Go.Proofs.Ythlgeffjoaiojaa
open Go Go.RowKit

/-- What is written again, by the kind. -/
def againL (kind : Nat) (n size : Int) : List UInt8 := if kind = 0 then uintL n else if kind = 1 then pcs (zig n) else fixedB n size
theorem again_same {kind : Nat} (hk : kind < 3) {size : Int} {r : List UInt8} {k : Nat} {n : Int} (h : ansOf (kind : Int) size r = (0, k, n)) : againL kind n size = r.take k ∧ k ≤ r.length ∧ -9223372036854775808 ≤ n ∧ n ≤ 9223372036854775807 := by
  have hle : k ≤ r.length := by have := ans_le (kind : Int) size r; rw [h] at this; exact this
  unfold againL
  rcases (show kind = 0 ∨ kind = 1 ∨ kind = 2 by omega) with rfl | rfl | rfl
  · have h' : ansUint r = (0, k, n) := h
    unfold ansUint at h'
    split at h'
    · simp at h'
    · rename_i hn
      simp only [Prod.mk.injEq] at h'
      obtain ⟨h1, h2, h3⟩ := h'
      have hq : numOf r = (0, k, (numOf r).2.2) := by rw [← h1, ← h2]
      have := num_pcs hq
      rw [if_pos rfl, ← h3, uintL_nat]
      exact ⟨this, hle, by omega⟩
  · have h' : ansInt r = (0, k, n) := h
    unfold ansInt at h'
    simp only [Prod.mk.injEq] at h'
    obtain ⟨h1, h2, h3⟩ := h'
    have hq : numOf r = (0, k, (numOf r).2.2) := by rw [← h1, ← h2]
    have hlt := numOf_lt r
    have := num_pcs hq
    rw [if_neg (by decide), if_pos rfl, ← h3, zig_unzig]
    refine ⟨this, hle, ?_⟩
    unfold unzig
    split <;> omega
  · have h' : ansFixed size r = (0, k, n) := h
    unfold ansFixed at h'
    split at h'
    · simp at h'
    · split at h'
      · simp at h'
      · split at h'
        · simp at h'
        · rename_i hs hl hf
          simp only [Prod.mk.injEq, true_and] at h'
          obtain ⟨rfl, rfl⟩ := h'
          rw [if_neg (by decide), if_neg (by decide)]
          have hlen : (r.take size.toNat).length = size.toNat := by rw [List.length_take]; omega
          have hlt := fval_lt (r.take size.toNat)
          rw [hlen] at hlt
          refine ⟨?_, hle, by omega⟩
          unfold fixedB
          rw [if_pos]
          · rw [Int.toNat_natCast]
            have := fixedL_fval (r.take size.toNat)
            rw [hlen] at this
            exact this
          · unfold fixedOk
            rw [decide_eq_true_iff]
            refine ⟨by omega, by omega, by omega, ?_⟩
            rw [← pow256]
            exact Int.ofNat_lt.2 hlt

set_option maxRecDepth 4000 in
set_option maxHeartbeats 1000000 in
theorem same_walk (w : World) (v : Value) (l : List UInt8) (size : Int) (hv : Bytes w w.heap.size v l) (hs : -9223372036854775808 ≤ size ∧ size ≤ 9223372036854775807) :
    Calls Try.prog 7 #[v, .int .i64 size] w fun e w' => e = .returned (.bool true) ∧ Below w.heap.size w w' := by
  obtain ⟨A, c, rfl, hlc, hcm⟩ := hv.form
  unfold maxLen at hcm
  have HV := Lib.hid hv; clear hv
  rcases (show (100 < l.length) ∨ (l.length ≤ 100 ∧ size < 1) ∨ (l.length ≤ 100 ∧ 1 ≤ size ∧ 8 < size) ∨ (l.length ≤ 100 ∧ 1 ≤ size ∧ size ≤ 8) by omega) with h1 | h1 | h1 | h1
  · go_enter Try.func7, Try.ntmps7
    go_wp2_with fail
    refine (awake_walk _).mono ?_
    rintro e w12 ⟨rfl, hb12⟩
    go_wp2_with fail
    go_ret
    exact ⟨rfl, hb12⟩
  · go_enter Try.func7, Try.ntmps7
    go_wp2_with fail
    refine (awake_walk _).mono ?_
    rintro e w12 ⟨rfl, hb12⟩
    go_wp2_with fail
    go_ret
    exact ⟨rfl, hb12⟩
  · go_enter Try.func7, Try.ntmps7
    go_wp2_with fail
    refine (awake_walk _).mono ?_
    rintro e w12 ⟨rfl, hb12⟩
    go_wp2_with fail
    go_ret
    exact ⟨rfl, hb12⟩
  · obtain ⟨h100, hs1, hs8⟩ := h1
    have HS := Lib.hid hs
    clear hs
    go_enter Try.func7, Try.ntmps7
    go_wp2_with fail
    go_loopw [5] (fun i wr => ∃ k : Nat, k ≤ 3 ∧ i = .int .i64 k ∧ Below w.heap.size w wr) (fun i _ => 3 - (intOf i).toNat)
    case atStart => exact ⟨0, by omega, rfl, Below.refl _ _⟩
    case round =>
      obtain ⟨k, hk, rfl, hbel⟩ := hrel
      rcases (show k = 3 ∨ k < 3 by omega) with hk3 | hk3
      · subst hk3
        go_wp2_with fail
        refine (awake_walk _).mono ?_
        rintro e w12 ⟨rfl, hb12⟩
        go_wp2_with fail
        go_ret
        exact ⟨rfl, hbel.trans (hb12.mono hbel.size)⟩
      · have hB := (HV.out.below hbel).more hbel.size
        go_wp2_with fail
        refine (new_any hB).mono ?_
        rintro e w1 ⟨rfl, hc1, hb1⟩
        have hbel1 := hbel.trans (hb1.mono hbel.size)
        have HD := Lib.hid (does_any hc1 (by omega) (k : Int) size (by omega) HS.out)
        have hD0 : doesB (k : Int) size 0 (l.drop 0) = [] := by unfold doesB; rw [if_pos (by omega)]
        clear hc1 hb1 hB
        obtain ⟨ee, kk, nn, hans⟩ : ∃ ee kk nn, ansOf (k : Int) size (l.drop 0) = (ee, kk, nn) := ⟨_, _, _, rfl⟩
        have HANS := Lib.hid hans
        have hzero := ans_zero (ask := (k : Int)) (n := size) (r := l.drop 0)
        rw [hans] at hzero
        dsimp only at hzero
        have HZ := Lib.hid hzero
        clear hans hzero hD0
        go_wp2_with fail
        refine HD.out.mono ?_
        rintro e w2 ⟨⟨A', N, rfl, hx⟩, hc2, hb2⟩
        rw [HANS.out] at hc2 ⊢
        have hbel2 := hbel1.trans (hb2.mono hbel.size)
        clear hx hb2
        by_cases he : ee = 0
        · subst he
          have hn0 : stepN 0 (0, kk, nn) = nn := rfl
          have hk0 : stepK 0 (0, kk, nn) 0 = kk := by unfold stepK; rw [if_pos ⟨rfl, rfl⟩, Nat.zero_add]
          have he0 : stepE 0 (0, kk, nn) = 0 := rfl
          rw [hk0, he0] at hc2
          rw [hn0]
          obtain ⟨hag, hkl, hnn⟩ := again_same hk3 HANS.out
          rw [List.drop_zero] at hag hkl
          have HAG := Lib.hid hag
          have HC2 := Lib.hid hc2
          have HNN := Lib.hid hnn
          clear hn0 hk0 he0 hc2 hag hnn
          go_wp2_with fail
          refine (cur_err HC2.out).mono ?_
          rintro e w7 ⟨rfl, rfl⟩
          go_wp2_with fail
          refine (fixed_any nn size HNN.out HS.out _).mono ?_
          rintro e w3 ⟨v3, rfl, hv3, hb3⟩
          have hbel3 := hbel2.trans (hb3.mono hbel2.size)
          have HC3 := Lib.hid (HC2.out.belowC hb3 (cur_size HC2.out))
          rcases (show k = 0 ∨ k = 1 ∨ k = 2 by omega) with rfl | rfl | rfl
          · have hage : uintL nn = l.take kk := HAG.out
            clear hv3
            go_wp2_with fail
            refine (uint_any nn HNN.out _).mono ?_
            rintro e w4 ⟨v4, rfl, hv4, hb4⟩
            have hbel4 := hbel3.trans (hb4.mono hbel3.size)
            have HC4 := Lib.hid (HC3.out.belowC hb4 (cur_size HC3.out))
            rw [hage] at hv4
            clear hage
            obtain ⟨A4, c4, hve, -, -⟩ := hv4.form
            rw [List.length_take, Nat.min_eq_left hkl] at hve
            subst hve
            have HY := Lib.hid hv4
            have HT := Lib.hid (((HV.out.below hbel4).take hkl).more (hbel4).size)
            clear hv4
            go_wp2_with fail
            refine (cur_at HC4.out).mono ?_
            rintro e w7 ⟨rfl, rfl⟩
            go_wp2_with fail
            refine (cur_at HC4.out).mono ?_
            rintro e w7 ⟨rfl, rfl⟩
            go_wp2_with fail
            refine (bytes_same _ _ _ _ HY.out HT.out).mono ?_
            rintro e w8 ⟨rfl, hb8⟩
            have hbel8 := hbel4.trans (hb8.mono hbel4.size)
            go_wp2_with fail
            go_roundw
            case rel => exact ⟨0 + 1, by omega, by go_num, hbel8⟩
            case measure => first | (simp [intOf]; done) | (simp [intOf]; omega)
          · have hage : pcs (zig nn) = l.take kk := HAG.out
            clear hv3
            go_wp2_with fail
            refine (int_any nn HNN.out _).mono ?_
            rintro e w4 ⟨v4, rfl, hv4, hb4⟩
            have hbel4 := hbel3.trans (hb4.mono hbel3.size)
            have HC4 := Lib.hid (HC3.out.belowC hb4 (cur_size HC3.out))
            rw [hage] at hv4
            clear hage
            obtain ⟨A4, c4, hve, -, -⟩ := hv4.form
            rw [List.length_take, Nat.min_eq_left hkl] at hve
            subst hve
            have HY := Lib.hid hv4
            have HT := Lib.hid (((HV.out.below hbel4).take hkl).more (hbel4).size)
            clear hv4
            go_wp2_with fail
            refine (cur_at HC4.out).mono ?_
            rintro e w7 ⟨rfl, rfl⟩
            go_wp2_with fail
            refine (cur_at HC4.out).mono ?_
            rintro e w7 ⟨rfl, rfl⟩
            go_wp2_with fail
            refine (bytes_same _ _ _ _ HY.out HT.out).mono ?_
            rintro e w8 ⟨rfl, hb8⟩
            have hbel8 := hbel4.trans (hb8.mono hbel4.size)
            go_wp2_with fail
            go_roundw
            case rel => exact ⟨1 + 1, by omega, by go_num, hbel8⟩
            case measure => first | (simp [intOf]; done) | (simp [intOf]; omega)
          · have hage : fixedB nn size = l.take kk := HAG.out
            rw [hage] at hv3
            clear hage
            obtain ⟨A4, c4, hve, -, -⟩ := hv3.form
            rw [List.length_take, Nat.min_eq_left hkl] at hve
            subst hve
            have HY := Lib.hid hv3
            have HT := Lib.hid (((HV.out.below hbel3).take hkl).more (hbel3).size)
            clear hv3
            go_wp2_with fail
            refine (cur_at HC3.out).mono ?_
            rintro e w7 ⟨rfl, rfl⟩
            go_wp2_with fail
            refine (cur_at HC3.out).mono ?_
            rintro e w7 ⟨rfl, rfl⟩
            go_wp2_with fail
            refine (bytes_same _ _ _ _ HY.out HT.out).mono ?_
            rintro e w8 ⟨rfl, hb8⟩
            have hbel8 := hbel3.trans (hb8.mono hbel3.size)
            go_wp2_with fail
            go_roundw
            case rel => exact ⟨2 + 1, by omega, by go_num, hbel8⟩
            case measure => first | (simp [intOf]; done) | (simp [intOf]; omega)
        · have hn0 : stepN 0 (ee, kk, nn) = 0 := by unfold stepN; rw [if_neg (by simp [he])]
          have hk0 : stepK 0 (ee, kk, nn) 0 = 0 := by unfold stepK; rw [if_neg (by simp [he])]
          have he0 : stepE 0 (ee, kk, nn) = ee := rfl
          rw [hk0, he0] at hc2
          rw [hn0]
          have HC2 := Lib.hid hc2
          have hne : ((ee : Int) != 0) = true := by rw [bne_iff_ne]; omega
          clear hn0 hk0 he0 hc2
          go_wp2_with fail
          refine (cur_err HC2.out).mono ?_
          rintro e w7 ⟨rfl, rfl⟩
          go_wp2_with fail
          refine (cur_at HC2.out).mono ?_
          rintro e w7 ⟨rfl, rfl⟩
          go_wp2_with fail
          go_roundw
          case rel => exact ⟨k + 1, by omega, by go_num, hbel2⟩
          case measure => first | (simp [intOf]; done) | (simp [intOf]; omega)
end Go.Proofs.Ythlgeffjoaiojaa
