/-
  Layer 5: the law WireReads, walked.
-/
import Derived.Test.YthlgeffjoaiojaaCurJ
import Derived.Test.YthlgeffjoaiojaaPairs
namespace Go.Proofs.Ythlgeffjoaiojaa
open Go Go.RowKit

theorem below_any {w w' : World} {B C : Nat} (h : Below B w w') (hC : C ≤ B) : Below C w w' := below_low h hC
theorem bytes_drew {w : World} {v : Value} {l : List UInt8} (h : Bytes w w.heap.size v l) : Bytes w.drew w.drew.heap.size v l := h
theorem below_drew_l {B : Nat} {w w' : World} (h : Below B w.drew w') : Below B w w' := ⟨h.os, h.tape, h.output, h.size, h.block⟩
theorem cur_size {w : World} {cb : Nat} {l : List UInt8} {k e : Nat} (h : Cur w cb l k e) : cb < w.heap.size := by obtain ⟨_, _, _, h, _⟩ := h; exact h
theorem ans_zero {ask n : Int} {r : List UInt8} (h : (ansOf ask n r).1 ≠ 0) : (ansOf ask n r).2 = (0, 0) := by
  revert h
  unfold ansOf
  split
  · exact ansUint_zero
  · split
    · exact ansInt_zero
    · split
      · exact ansFixed_zero
      · exact ansBytes_zero
theorem doesB_err {ask n : Int} {e : Nat} {r : List UInt8} (he : e ≠ 0) : doesB ask n e r = [] := by
  unfold doesB
  split
  · rfl
  · unfold cutN; rw [if_neg (by omega)]

theorem cur_at {w : World} {cb : Nat} {l : List UInt8} {k e : Nat} (h : Cur w cb l k e) : Calls Try.prog 21 #[.pointer (some ⟨cb, 0, none⟩)] w fun r w' => r = .returned (.int .i64 k) ∧ w = w' := by
  obtain ⟨v, h1, -⟩ := h
  exact at_any h1
theorem cur_err {w : World} {cb : Nat} {l : List UInt8} {k e : Nat} (h : Cur w cb l k e) : Calls Try.prog 23 #[.pointer (some ⟨cb, 0, none⟩)] w fun r w' => r = .returned (.int .i64 e) ∧ w = w' := by
  obtain ⟨v, h1, -⟩ := h
  exact err_any h1
theorem cur_left {w : World} {cb : Nat} {l : List UInt8} {k e : Nat} (h : Cur w cb l k e) (hl : l.length ≤ 1000000) : Calls Try.prog 22 #[.pointer (some ⟨cb, 0, none⟩)] w fun r w' => r = .returned (.int .i64 ((l.length : Int) - k)) ∧ ∃ m, w' = w.drewN m := by
  obtain ⟨v, h1, h2, -, h4⟩ := h
  obtain ⟨A, c, rfl, -, -⟩ := h2.form
  exact left_any h1 h4 (by omega)

set_option maxRecDepth 4000 in
set_option maxHeartbeats 400000 in
theorem reads_walk (w : World) (v : Value) (b : List UInt8) (u : Value) (l : List (Int × Int)) (hv : Bytes w w.heap.size v b) (hu : Ops w w.heap.size u l)
    (hr : ∀ p ∈ l, Wide p.1 ∧ Wide p.2) :
    Calls Try.prog 5 #[v, u] w fun e w' => e = .returned (.bool true) ∧ Below w.heap.size w w' := by
  have HNEW := Lib.hid (new_any hv)
  obtain ⟨A, c, rfl, hbc, hcm⟩ := hv.form
  obtain ⟨A2, c2, rfl, hlc, hlm, -, hA2⟩ := hu
  unfold maxLen at hcm hlm
  have HV := Lib.hid hv
  have HA := Lib.hid hA2
  have HR := Lib.hid hr
  clear hv hA2 hr
  by_cases hbig : b.length ≤ 200 ∧ l.length ≤ 40
  · obtain ⟨hb200, hl40⟩ := hbig
    go_enter Try.func5, Try.ntmps5
    go_wp2_with fail
    refine HNEW.out.mono ?_
    rintro e w1 ⟨rfl, hc1, hb1⟩
    have hs1 : w.heap.size < w1.heap.size := by obtain ⟨_, _, _, h, _⟩ := hc1; exact h
    have HC1 := Lib.hid hc1
    clear hc1
    go_wp2_with fail
    go_loopw [6, 7, 8] (fun a e i wr => ∃ k e' j : Nat, k ≤ b.length ∧ j ≤ l.length ∧ a = .int .i64 k ∧ e = .int .i64 e' ∧ i = .int .i64 j ∧ Cur wr w.heap.size b k e' ∧ Below w.heap.size w wr) (fun _ _ i _ => l.length - (intOf i).toNat)
    case atStart => exact ⟨0, 0, 0, by omega, by omega, rfl, rfl, rfl, HC1.out, hb1⟩
    case round =>
      obtain ⟨k, e', j, hk, hj, rfl, rfl, rfl, hcur, hbel⟩ := hrel
      by_cases hjl : j < l.length
      · obtain ⟨hra, hrn⟩ := HR.out l[j] (List.getElem_mem hjl)
        unfold Wide at hra hrn
        obtain ⟨bb, oo, hA, hbB, hc⟩ := HA.out (by omega)
        subst hA
        have hca := (hbel.cell (p := ⟨bb, oo + j * 2, none⟩) hbB).trans (hc _ _ (opsV_fst l j hjl).1)
        have hcn := (hbel.cell (p := ⟨bb, oo + j * 2 + 1, none⟩) hbB).trans (hc (j * 2 + 1) _ (opsV_fst l j hjl).2)
        obtain ⟨ask, n, hp⟩ : ∃ ask n, l[j] = (ask, n) := ⟨_, _, rfl⟩
        rw [hp] at hra hrn hca hcn
        dsimp only at hra hrn hca hcn
        have HD := Lib.hid (does_any hcur (by omega) ask n hra hrn)
        have HRA := Lib.hid hra
        have HRN := Lib.hid hrn
        clear hcur hra hrn hc hp
        have HCA := Lib.hid hca
        have HCN := Lib.hid hcn
        go_wp2_with fail
        refine HD.out.mono ?_
        rintro e ww2 ⟨⟨A', N, rfl, hx⟩, hcur2, hb2⟩
        have hbel2 := hbel.trans hb2
        have HX := Lib.hid hx
        clear hx hb2 hca hcn
        rcases Nat.eq_zero_or_pos e' with rfl | he
        · obtain ⟨ee, kk, nn, hans⟩ : ∃ ee kk nn, ansOf ask n (b.drop k) = (ee, kk, nn) := ⟨_, _, _, rfl⟩
          have hzero := ans_zero (ask := ask) (n := n) (r := b.drop k)
          rw [hans] at hzero
          dsimp only at hzero
          have hle := ans_le ask n (b.drop k)
          rw [hans, List.length_drop] at hle
          dsimp only at hle
          have hsn : stepN 0 (ee, kk, nn) = nn := by
            unfold stepN
            split
            · rfl
            · rename_i h
              have := hzero (fun h2 => h ⟨rfl, h2⟩)
              rw [Prod.mk.injEq] at this
              exact this.2.symm
          have hsk : stepK 0 (ee, kk, nn) k = k + kk := by
            unfold stepK
            split
            · rfl
            · rename_i h
              have := hzero (fun h2 => h ⟨rfl, h2⟩)
              rw [Prod.mk.injEq] at this
              rw [this.1, Nat.add_zero]
          have hse : stepE 0 (ee, kk, nn) = ee := rfl
          rw [hans, hsk, hse] at hcur2
          rw [hans, hsn]
          have HANS := Lib.hid hans
          have HCUR2 := Lib.hid hcur2
          have hca2 := (hbel2.cell (p := ⟨bb, oo + j * 2, none⟩) hbB).trans (((hbel.cell (p := ⟨bb, oo + j * 2, none⟩) hbB).symm).trans HCA.out)
          have hcn2 := (hbel2.cell (p := ⟨bb, oo + j * 2 + 1, none⟩) hbB).trans (((hbel.cell (p := ⟨bb, oo + j * 2 + 1, none⟩) hbB).symm).trans HCN.out)
          have hbW := (HV.out.below hbel2).more hbel2.size
          have HDR := Lib.hid (hbW.drop hk)
          clear hans hzero hsn hsk hse hcur2 hbW
          go_wp2_with fail
          refine wp_text (by kernel_rfl) (by kernel_rfl) ?_
          intro R hR
          rcases A with _ | ⟨ab, ao, sp⟩
          · have HDR := Lib.hid (show Bytes ww2 ww2.heap.size (.slice none (b.length - k) (c - k)) (b.drop k) by simpa using HDR.out)
            go_wp2_with fail
            refine (law_read _ _ (b.drop k) (bytes_drew HDR.out) (by rw [List.length_drop]; omega) ask n HRA.out HRN.out).mono ?_
            rintro e ww3 ⟨⟨A3, N3, c3, rfl, hy⟩, hb3⟩
            rw [HANS.out]
            dsimp only
            go_wp2_with fail
            refine ⟨by simp [goodB, fits, plainPair, isSeqV, isFuncV, isIntV, quiet, Act.eval], ?_⟩
            have hb3' : Below ww2.heap.size ww2 ww3 := below_drew_l hb3
            have hbel3 := hbel2.trans (hb3'.mono hbel2.size)
            have HC3 := Lib.hid (HCUR2.out.belowC hb3' (cur_size HCUR2.out))
            have HX3 := Lib.hid (HX.out.below (hb3'.mono (Nat.le_of_lt (cur_size HCUR2.out))))
            have HY3 := Lib.hid hy
            clear hy hb3 hb3'
            go_wp2_with fail
            refine (bytes_same _ _ _ _ (HX3.out.more (Nat.le_of_lt (cur_size HC3.out))) HY3.out).mono ?_
            rintro e ww4 ⟨rfl, hb4⟩
            have hbel4 := hbel3.trans (hb4.mono hbel3.size)
            have HC4 := Lib.hid (HC3.out.belowC hb4 (cur_size HC3.out))
            go_wp2_with fail
            refine (cur_at HC4.out).mono ?_
            rintro e ww5 ⟨rfl, rfl⟩
            go_wp2_with fail
            refine (cur_left HC4.out (by omega)).mono ?_
            rintro e ww6 ⟨rfl, nq, rfl⟩
            have HC6 := Lib.hid (cur_drewN HC4.out nq)
            have hbel6 := below_drewN hbel4 nq
            go_wp2_with fail
            refine (cur_err HC6.out).mono ?_
            rintro e ww7 ⟨rfl, rfl⟩
            go_wp2_with fail
            go_roundw
            case rel => exact ⟨_, _, j + 1, by omega, by omega, by go_num, rfl, by go_num, HC6.out, hbel6⟩
            case measure => first | (simp [intOf]; done) | (simp [intOf]; omega)
          · rcases (show k = c ∨ k < c by omega) with hck | hck
            · rw [if_pos hck.symm, show c - k = 0 by omega, show b.length - k = 0 by omega] at HDR
              subst hck
              go_wp2_with fail
              refine (law_read _ _ (b.drop k) (bytes_drew HDR.out) (by rw [List.length_drop]; omega) ask n HRA.out HRN.out).mono ?_
              rintro e ww3 ⟨⟨A3, N3, c3, rfl, hy⟩, hb3⟩
              rw [HANS.out]
              dsimp only
              go_wp2_with fail
              refine ⟨by simp [goodB, fits, plainPair, isSeqV, isFuncV, isIntV, quiet, Act.eval], ?_⟩
              have hb3' : Below ww2.heap.size ww2 ww3 := below_drew_l hb3
              have hbel3 := hbel2.trans (hb3'.mono hbel2.size)
              have HC3 := Lib.hid (HCUR2.out.belowC hb3' (cur_size HCUR2.out))
              have HX3 := Lib.hid (HX.out.below (hb3'.mono (Nat.le_of_lt (cur_size HCUR2.out))))
              have HY3 := Lib.hid hy
              clear hy hb3 hb3'
              go_wp2_with fail
              refine (bytes_same _ _ _ _ (HX3.out.more (Nat.le_of_lt (cur_size HC3.out))) HY3.out).mono ?_
              rintro e ww4 ⟨rfl, hb4⟩
              have hbel4 := hbel3.trans (hb4.mono hbel3.size)
              have HC4 := Lib.hid (HC3.out.belowC hb4 (cur_size HC3.out))
              go_wp2_with fail
              refine (cur_at HC4.out).mono ?_
              rintro e ww5 ⟨rfl, rfl⟩
              go_wp2_with fail
              refine (cur_left HC4.out (by omega)).mono ?_
              rintro e ww6 ⟨rfl, nq, rfl⟩
              have HC6 := Lib.hid (cur_drewN HC4.out nq)
              have hbel6 := below_drewN hbel4 nq
              go_wp2_with fail
              refine (cur_err HC6.out).mono ?_
              rintro e ww7 ⟨rfl, rfl⟩
              go_wp2_with fail
              go_roundw
              case rel => exact ⟨_, _, j + 1, by omega, by omega, by go_num, rfl, by go_num, HC6.out, hbel6⟩
              case measure => first | (simp [intOf]; done) | (simp [intOf]; omega)
            · rw [if_neg (by omega), Option.map_some] at HDR
              go_wp2_with fail
              refine (law_read _ _ (b.drop k) (bytes_drew HDR.out) (by rw [List.length_drop]; omega) ask n HRA.out HRN.out).mono ?_
              rintro e ww3 ⟨⟨A3, N3, c3, rfl, hy⟩, hb3⟩
              rw [HANS.out]
              dsimp only
              go_wp2_with fail
              refine ⟨by simp [goodB, fits, plainPair, isSeqV, isFuncV, isIntV, quiet, Act.eval], ?_⟩
              have hb3' : Below ww2.heap.size ww2 ww3 := below_drew_l hb3
              have hbel3 := hbel2.trans (hb3'.mono hbel2.size)
              have HC3 := Lib.hid (HCUR2.out.belowC hb3' (cur_size HCUR2.out))
              have HX3 := Lib.hid (HX.out.below (hb3'.mono (Nat.le_of_lt (cur_size HCUR2.out))))
              have HY3 := Lib.hid hy
              clear hy hb3 hb3'
              go_wp2_with fail
              refine (bytes_same _ _ _ _ (HX3.out.more (Nat.le_of_lt (cur_size HC3.out))) HY3.out).mono ?_
              rintro e ww4 ⟨rfl, hb4⟩
              have hbel4 := hbel3.trans (hb4.mono hbel3.size)
              have HC4 := Lib.hid (HC3.out.belowC hb4 (cur_size HC3.out))
              go_wp2_with fail
              refine (cur_at HC4.out).mono ?_
              rintro e ww5 ⟨rfl, rfl⟩
              go_wp2_with fail
              refine (cur_left HC4.out (by omega)).mono ?_
              rintro e ww6 ⟨rfl, nq, rfl⟩
              have HC6 := Lib.hid (cur_drewN HC4.out nq)
              have hbel6 := below_drewN hbel4 nq
              go_wp2_with fail
              refine (cur_err HC6.out).mono ?_
              rintro e ww7 ⟨rfl, rfl⟩
              go_wp2_with fail
              go_roundw
              case rel => exact ⟨_, _, j + 1, by omega, by omega, by go_num, rfl, by go_num, HC6.out, hbel6⟩
              case measure => first | (simp [intOf]; done) | (simp [intOf]; omega)
        · have hse : stepE e' (ansOf ask n (b.drop k)) = e' := by unfold stepE; rw [if_neg (by omega)]
          have hsk : stepK e' (ansOf ask n (b.drop k)) k = k := by unfold stepK; rw [if_neg (by omega)]
          have hsn : stepN e' (ansOf ask n (b.drop k)) = 0 := by unfold stepN; rw [if_neg (by omega)]
          rw [hse, hsk] at hcur2
          rw [hsn]
          have hX := HX.out
          rw [doesB_err (by omega)] at hX
          have HX3 := Lib.hid hX
          have HC3 := Lib.hid hcur2
          have hne : ((e' : Int) == 0) = false := by rw [beq_eq_false_iff_ne]; omega
          clear hse hsk hsn hcur2 hX
          have HY3 : Hid (Bytes ww2 ww2.heap.size (.slice none 0 0) []) := Bytes.nil _ _
          have hbel3 := hbel2
          go_wp2_with fail
          refine (bytes_same _ _ _ _ (HX3.out.more (Nat.le_of_lt (cur_size HC3.out))) HY3.out).mono ?_
          rintro e ww4 ⟨rfl, hb4⟩
          have hbel4 := hbel3.trans (hb4.mono hbel3.size)
          have HC4 := Lib.hid (HC3.out.belowC hb4 (cur_size HC3.out))
          go_wp2_with fail
          refine (cur_at HC4.out).mono ?_
          rintro e ww5 ⟨rfl, rfl⟩
          go_wp2_with fail
          refine (cur_left HC4.out (by omega)).mono ?_
          rintro e ww6 ⟨rfl, nq, rfl⟩
          have HC6 := Lib.hid (cur_drewN HC4.out nq)
          have hbel6 := below_drewN hbel4 nq
          go_wp2_with fail
          refine (cur_err HC6.out).mono ?_
          rintro e ww7 ⟨rfl, rfl⟩
          go_wp2_with fail
          go_roundw
          case rel => exact ⟨_, _, j + 1, by omega, by omega, by go_num, rfl, by go_num, HC6.out, hbel6⟩
          case measure => first | (simp [intOf]; done) | (simp [intOf]; omega)
      · go_wp2_with fail
        refine (awake_walk _).mono ?_
        rintro e w12 ⟨rfl, hb12⟩
        go_wp2_with fail
        go_ret
        exact ⟨rfl, hbel.trans (hb12.mono hbel.size)⟩
  · have hbig' : 200 < b.length ∨ b.length ≤ 200 ∧ 40 < l.length := by omega
    clear hbig
    rcases hbig' with h1 | ⟨h1, h2⟩ <;> (
      go_enter Try.func5, Try.ntmps5
      go_wp2_with fail
      refine HNEW.out.mono ?_
      rintro e w1 ⟨rfl, hc1, hb1⟩
      go_wp2_with fail
      refine (awake_walk _).mono ?_
      rintro e w12 ⟨rfl, hb12⟩
      go_wp2_with fail
      go_ret
      exact ⟨rfl, hb1.trans (hb12.mono hb1.size)⟩)
end Go.Proofs.Ythlgeffjoaiojaa
