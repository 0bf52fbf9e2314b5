/-
  The law TableMerges, walked.
-/
import Derived.Test.YtekeaphbmkfogaaGreatDoorTMergeMath
import Derived.Test.YtekeaphbmkfogaaGreatDoorTAwake
import Derived.Test.YtekeaphbmkfogaaGreatDoorTBehind
namespace Go.Proofs.YtekeaphbmkfogaaGreatDoor
open Go Go.RowKit
set_option maxRecDepth 100000

set_option maxHeartbeats 4000000 in
theorem merges_walk (w : World) (v : Value) (l : List Chg) (i : Int) (hv : Chgs w w.heap.size v l) (_ : -9223372036854775808 ≤ i ∧ i ≤ 9223372036854775807) (hm : Tryz.MaxL w) :
    Calls Tryz.prog 7 #[v, .int .i64 i] w fun e w' => e = .returned (.bool true) ∧ Below w.heap.size w w' := by
  have HM := Lib.hid hm
  have HV := Lib.hid hv
  have HRI := Lib.hid (fun (W : World) (hb : Below w.heap.size w W) => rise_any W _ v l (hv.below hb))
  obtain ⟨A, c, rfl, hlc, hcm⟩ := hv.form
  unfold maxLen at hcm
  clear hm
  by_cases hl : 60 < (l.length : Int)
  · clear hv
    go_enter Tryz.func7, Tryz.ntmps7
    go_wp2_with fail
    refine (awake_any _ (HM.out.below (Below.refl w.heap.size w) (Nat.le_refl _))).mono ?_
    rintro e wz ⟨rfl, hbz⟩
    have hb9 := ((Below.refl w.heap.size w)).trans (hbz.mono ((Below.refl w.heap.size w)).size)
    clear hbz
    go_wp2_with fail
    go_ret
    exact ⟨rfl, hb9⟩
  · have HM1 := Lib.hid (merge_any w w.heap.size _ l hv (Nat.le_refl _) (by omega))
    clear hv
    cases hr : riseB l with
    | false =>
      have hE : mergeE l = 17 := by unfold mergeE; rw [hr]; rfl
      have hT : mergeT l = [] := by unfold mergeT; rw [hr]; rfl
      unfold MergePost at HM1
      rw [hE, hT] at HM1
      rw [hr] at HRI
      clear hr hE hT
      go_enter Tryz.func7, Tryz.ntmps7
      go_wp2_with fail
      refine HM1.out.mono ?_
      rintro e w1 ⟨v1, rfl, hv1, hb1⟩
      obtain ⟨A1, c1, rfl, -, -⟩ := hv1.form
      have HB1 := Lib.hid hb1
      clear hv1 hb1
      go_wp2_with fail
      refine (HRI.out _ HB1.out).mono ?_
      rintro e w2 ⟨rfl, n, rfl⟩
      have HB2 := Lib.hid (below_drewN HB1.out n)
      go_wp2_with fail
      refine (awake_any _ (HM.out.below HB2.out (Nat.le_refl _))).mono ?_
      rintro e wz ⟨rfl, hbz⟩
      have hb9 := (HB2.out).trans (hbz.mono (HB2.out).size)
      clear hbz
      go_wp2_with fail
      go_ret
      exact ⟨rfl, hb9⟩
    | true =>
      have hris := (riseB_iff l).1 hr
      obtain ⟨T, hT, hmT, hrT, hlT, hE2, hT2, hsh⟩ := mergeT_facts hris
      have hE : mergeE l = 0 := by unfold mergeE; rw [hr]; rfl
      unfold MergePost at HM1
      rw [hE, hT] at HM1
      rw [hr] at HRI
      have HRD := Lib.hid (fun k (hk : k < l.length) => mg_round hris hmT hk)
      have HRE := Lib.hid (show (mg l l.length).length = T.length by rw [hmT])
      have HML := Lib.hid (mg_len l)
      have HAT1 := Lib.hid (fun (W : World) (hb : Below w.heap.size w W) => tat_any W w.heap.size _ l i (HV.out.below hb) hb.size (by omega) hris)
      have HAT2 := Lib.hid (fun (W : World) (B : Nat) (v : Value) (hv : Chgs W B v T) (hB : B ≤ W.heap.size) => tat_any W B v T i hv hB (by omega) hrT)
      rw [hsh] at HAT2
      have HM2 := Lib.hid (fun (W : World) (B : Nat) (v : Value) (hv : Chgs W B v T) (hB : B ≤ W.heap.size) => merge_any W B v T hv hB (by omega))
      unfold MergePost at HM2
      rw [hE2, hT2] at HM2
      clear hr hE hT hmT hrT hE2 hT2 hsh hris
      go_enter Tryz.func7, Tryz.ntmps7
      go_wp2_with fail
      refine HM1.out.mono ?_
      rintro e w1 ⟨v1, rfl, hv1, hb1⟩
      obtain ⟨A2, c2, rfl, hlc2, hcm2⟩ := hv1.form
      unfold maxLen at hcm2
      have HB1 := Lib.hid hb1
      have HV1 := Lib.hid hv1
      clear hv1 hb1 HM1
      go_wp2_with fail
      refine (HRI.out _ HB1.out).mono ?_
      rintro e w2 ⟨rfl, n, rfl⟩
      have HB2 := Lib.hid (below_drewN HB1.out n)
      have HV2 := Lib.hid (HV1.out.drewN n)
      obtain ⟨W2, hW2⟩ : ∃ W, w1.drewN n = W := ⟨_, rfl⟩
      have hs2 : w1.heap.size = W2.heap.size := by rw [← hW2]; rfl
      rw [hW2] at HB2 HV2 ⊢
      clear hW2 HB1 HV1 HRI
      go_wp2_with fail
      refine (HM2.out W2 _ _ HV2.out (Nat.le_of_eq hs2)).mono ?_
      rintro e w3 ⟨v3, rfl, hv3, hb3⟩
      have HB3 := Lib.hid (HB2.out.trans (hb3.mono HB2.out.size))
      have HV2' := Lib.hid (HV2.out.below (hb3.mono (Nat.le_of_eq hs2)))
      have hle3 := hb3.size
      obtain ⟨A3, c3, rfl, -, -⟩ := hv3.form
      have HV3 := Lib.hid hv3
      clear hv3 hb3 HB2 HV2 HM2
      go_wp2_with fail
      refine (same_any w3 w3.heap.size _ _ T T (HV2'.out.more (by omega)) HV3.out (Nat.le_refl _)).mono ?_
      rintro e w4 ⟨rfl, hb4⟩
      rw [sameB_iff.2 rfl]
      have HB4 := Lib.hid (HB3.out.trans (hb4.mono HB3.out.size))
      have HV4 := Lib.hid ((HV2'.out.more (show w1.heap.size ≤ w3.heap.size by omega)).below hb4)
      have hle4 := hb4.size
      clear hb4 HB3 HV2' HV3
      go_wp2_with fail
      go_loopw [9, 10] (fun qv iv wr => ∃ k : Nat, k ≤ l.length ∧ iv = .int .i64 k ∧ qv = .int .i64 ((mg l k).length : Nat) ∧ Below w4.heap.size w4 wr) (fun _ iv _ => l.length - (intOf iv).toNat)
      case atStart => exact ⟨0, by omega, rfl, rfl, Below.refl _ _⟩
      case round =>
        obtain ⟨k, hk, rfl, rfl, hbr⟩ := hrel
        have HBR := Lib.hid hbr
        have HBW := Lib.hid (HB4.out.trans (hbr.mono HB4.out.size))
        have HVR := Lib.hid (HV4.out.below (hbr.mono hle4))
        have hler := hbr.size
        clear hbr
        by_cases hlt : k < l.length
        · have hl0 : 0 < l.length := by omega
          obtain ⟨b, o, c', e, hb, -⟩ := HV.out.cells hl0
          cases e
          have HC := Lib.hid (fun j (hj : j < l.length) (W : World) (h : Below wr.heap.size wr W) => show _ ∧ _ ∧ _ ∧ _ by
            have hbW := HBW.out.trans (h.mono HBW.out.size)
            obtain ⟨_, _, _, e1, -, h1⟩ := (HV.out.below hbW).cells hl0
            cases e1
            exact h1 j hj)
          obtain ⟨x, hx⟩ : ∃ x, l[k] = x := ⟨_, rfl⟩
          have HX := Lib.hid hx
          clear hx
          have hrd := HRD.out k hlt
          obtain ⟨q, hq⟩ : ∃ q, (mg l k).length = q := ⟨_, rfl⟩
          have HQL := Lib.hid hq
          rw [hq] at hrd ⊢
          have hqk := (HML.out k).1
          rw [hq] at hqk
          clear hq
          have hT14 : ∀ hq : q < T.length, T[q] = x → ∃ b2 o2, A2 = some ⟨b2, o2, none⟩ ∧ ∀ (W : World), Below wr.heap.size wr W → W.cell? ⟨b2, o2 + q * 4, none⟩ = some (.int .i64 x.at_) ∧ W.cell? ⟨b2, o2 + q * 4 + 1, none⟩ = some (.int .i64 x.loc.off) ∧ W.cell? ⟨b2, o2 + q * 4 + 2, none⟩ = some (.bool x.loc.dst) ∧ W.cell? ⟨b2, o2 + q * 4 + 3, none⟩ = some (.string x.loc.abbr) := by
            intro hq hxq
            obtain ⟨b2, o2, c9, e, -, -⟩ := HVR.out.cells (by omega)
            cases e
            refine ⟨b2, o2, rfl, fun W h => ?_⟩
            obtain ⟨_, _, _, e1, -, h1⟩ := (HVR.out.below (h.mono (by omega))).cells (by omega)
            cases e1
            rw [← hxq]
            exact h1 q hq
          by_cases h0 : k = 0
          · rcases hrd with ⟨⟨h1, -⟩, -⟩ | ⟨-, hql, hqT, hxq⟩
            · omega
            · rw [HX.out] at hxq
              obtain ⟨b2, o2, rfl, hct⟩ := hT14 hqT hxq
              have HCT := Lib.hid hct
              have HQN := Lib.hid hql
              have hd : decide (0 < k) = false := decide_eq_false (by omega)
              have H0 := Lib.hid h0
              clear hct hxq hql hT14 h0
              go_wp2_with fail
              go_quiet (fail)
              go_wp2_with fail
              have HB14 := Lib.hid (below_drewN (Below.refl wr.heap.size wr) nq)
              refine wp_env (fin := ?fnA) (by kernel_rfl) [76, 77, 78, 79, 80, 81, 82, 83, 84, 85, 86, 87, 88, 89, 90]
                [.int .i64 q, .slice (some ⟨b2, o2, none⟩) T.length c2, .int .i64 T.length, .bool false, .bool false, .slice (some ⟨b2, o2, none⟩) T.length c2, .int .i64 q, .pointer (some ⟨b2, o2 + q * 4, none⟩), chgA x, .slice (some ⟨b, o, none⟩) l.length c, .int .i64 k, .pointer (some ⟨b, o + k * 4, none⟩), chgA x, .bool false, .bool false] (by kernel_rfl) ?finA ?stepsA ?nextA
              case finA =>
                simp only [putAll, Act.put, List.setIfInBounds_toArray, List.set_cons_succ, List.set_cons_zero]
                rfl
              case stepsA =>
                unfold chgA
                refine ⟨?_, ?_, ?_, ?_, ?_, ?_, ?_, ?_, ?_, ?_, ?_, ?_, ?_, ?_, ?_, trivial⟩
                all_goals
                  refine .inr ⟨by kernel_rfl, fun w1_ hB_ => ?_⟩
                  obtain ⟨c0, c1, c2_, c3⟩ := HC.out k hlt w1_ (HB14.out.trans (hB_.mono HB14.out.size))
                  obtain ⟨g0, g1, g2, g3⟩ := HCT.out w1_ (HB14.out.trans (hB_.mono HB14.out.size))
                  rw [HX.out] at c0 c1 c2_ c3
                  go_simp
                  first
                    | exact ⟨rfl, Below.refl _ _⟩
                    | (rw [decide_eq_false (by omega)]; exact ⟨rfl, Below.refl _ _⟩)
                    | (rw [if_pos (by omega)]; exact ⟨rfl, Below.refl _ _⟩)
              case nextA =>
              intro w5 hb5
              have HB5 := Lib.hid ((HBR.out.trans ((below_drewN (Below.refl wr.heap.size wr) nq).mono HBR.out.size)).trans (hb5.mono hler))
              clear hb5
              go_wp2_with fail
              go_roundw
              case rel => exact ⟨k + 1, by omega, by go_num, by rw [HQN.out]; go_num, HB5.out⟩
              case measure => first | (simp [intOf]; done) | (simp [intOf]; omega)
          · obtain ⟨j, hj⟩ : ∃ j, k = j + 1 := ⟨k - 1, by omega⟩
            have hjl : j < l.length := by omega
            have e1 : (k : Int) - 1 = (j : Nat) := by omega
            obtain ⟨y, hy⟩ : ∃ y, l[j] = y := ⟨_, rfl⟩
            have HY := Lib.hid hy
            have hy2 : l.getD (k - 1) .zero = y := by rw [show k - 1 = j by omega, getD_at hjl, hy]
            clear hy
            have HJ := Lib.hid hj
            clear hj
            rw [HX.out, hy2] at hrd
            clear hy2
            rcases hrd with ⟨⟨-, he⟩, hql⟩ | ⟨hne, hql, hqT, hxq⟩
            · have HQ := Lib.hid (locEq_iff.2 he)
              have HQN := Lib.hid hql
              clear he hql hT14
              go_wp2_with fail
              refine wp_env (fin := ?fnB) (by kernel_rfl) [60, 61, 62, 63, 64, 65, 66, 67, 68, 69, 70, 71, 72, 73, 74, 75]
                [.int .i64 k, .bool true, .bool true, .slice (some ⟨b, o, none⟩) l.length c, .int .i64 k, .pointer (some ⟨b, o + k * 4, none⟩), .pointer (some ⟨b, o + k * 4 + 1, none⟩), locA x.loc, .slice (some ⟨b, o, none⟩) l.length c, .int .i64 k, .int .i64 j, .pointer (some ⟨b, o + j * 4, none⟩), .pointer (some ⟨b, o + j * 4 + 1, none⟩), locA y.loc, .bool true, .bool true] (by kernel_rfl) ?finB ?stepsB ?nextB
              case finB =>
                simp only [putAll, Act.put, List.setIfInBounds_toArray, List.set_cons_succ, List.set_cons_zero]
                rfl
              case stepsB =>
                unfold locA
                refine ⟨?_, ?_, ?_, ?_, ?_, ?_, ?_, ?_, ?_, ?_, ?_, ?_, ?_, ?_, ?_, ?_, trivial⟩
                all_goals
                  refine .inr ⟨by kernel_rfl, fun w1_ hB_ => ?_⟩
                  obtain ⟨c1, c2_, c3⟩ := (HC.out k hlt w1_ hB_).2
                  obtain ⟨g1, g2, g3⟩ := (HC.out j hjl w1_ hB_).2
                  rw [HX.out] at c1 c2_ c3
                  rw [HY.out] at g1 g2 g3
                  go_simp
                  first
                    | exact ⟨rfl, Below.refl _ _⟩
                    | (rw [IntWalk.i64_in _ (by omega)]; exact ⟨rfl, Below.refl _ _⟩)
                    | (rw [if_pos (by omega)]; exact ⟨rfl, Below.refl _ _⟩)
                    | (rw [decide_eq_true (by omega)]; exact ⟨rfl, Below.refl _ _⟩)
                    | (have hq := HQ.out
                       unfold locEq at hq
                       simp only [decide_eq_true_eq, decide_eq_false_iff_not] at hq
                       repeat' split
                       all_goals first | exact ⟨rfl, Below.refl _ _⟩ | (exfalso; simp_all; done))
              case nextB =>
              intro w5 hb5
              have HB5 := Lib.hid (HBR.out.trans (hb5.mono hler))
              clear hb5
              go_wp2_with fail
              go_roundw
              case rel => exact ⟨k + 1, by omega, by go_num, by rw [HQN.out], HB5.out⟩
              case measure => first | (simp [intOf]; done) | (simp [intOf]; omega)
            · have HQ := Lib.hid (show locEq x.loc y.loc = false by
                cases hb : locEq x.loc y.loc
                · rfl
                · exact absurd (locEq_iff.1 hb) (hne (by omega)))
              obtain ⟨b2, o2, rfl, hct⟩ := hT14 hqT hxq
              have HCT := Lib.hid hct
              have HQN := Lib.hid hql
              clear hct hxq hql hT14 hne
              go_wp2_with fail
              refine wp_env (fin := ?fnC) (by kernel_rfl) [60, 61, 62, 63, 64, 65, 66, 67, 68, 69, 70, 71, 72, 73, 74, 75]
                [.int .i64 k, .bool true, .bool true, .slice (some ⟨b, o, none⟩) l.length c, .int .i64 k, .pointer (some ⟨b, o + k * 4, none⟩), .pointer (some ⟨b, o + k * 4 + 1, none⟩), locA x.loc, .slice (some ⟨b, o, none⟩) l.length c, .int .i64 k, .int .i64 j, .pointer (some ⟨b, o + j * 4, none⟩), .pointer (some ⟨b, o + j * 4 + 1, none⟩), locA y.loc, .bool false, .bool false] (by kernel_rfl) ?finC ?stepsC ?nextC
              case finC =>
                simp only [putAll, Act.put, List.setIfInBounds_toArray, List.set_cons_succ, List.set_cons_zero]
                rfl
              case stepsC =>
                unfold locA
                refine ⟨?_, ?_, ?_, ?_, ?_, ?_, ?_, ?_, ?_, ?_, ?_, ?_, ?_, ?_, ?_, ?_, trivial⟩
                all_goals
                  refine .inr ⟨by kernel_rfl, fun w1_ hB_ => ?_⟩
                  obtain ⟨c1, c2_, c3⟩ := (HC.out k hlt w1_ hB_).2
                  obtain ⟨g1, g2, g3⟩ := (HC.out j hjl w1_ hB_).2
                  rw [HX.out] at c1 c2_ c3
                  rw [HY.out] at g1 g2 g3
                  go_simp
                  first
                    | exact ⟨rfl, Below.refl _ _⟩
                    | (rw [IntWalk.i64_in _ (by omega)]; exact ⟨rfl, Below.refl _ _⟩)
                    | (rw [if_pos (by omega)]; exact ⟨rfl, Below.refl _ _⟩)
                    | (rw [decide_eq_true (by omega)]; exact ⟨rfl, Below.refl _ _⟩)
                    | (have hq := HQ.out
                       unfold locEq at hq
                       simp only [decide_eq_true_eq, decide_eq_false_iff_not] at hq
                       repeat' split
                       all_goals first | exact ⟨rfl, Below.refl _ _⟩ | (exfalso; simp_all; done))
              case nextC =>
              intro w5 hb5
              have HB15 := Lib.hid hb5
              clear hb5
              go_wp2_with fail
              refine wp_env (fin := ?fnD) (by kernel_rfl) [76, 77, 78, 79, 80, 81, 82, 83, 84, 85, 86, 87, 88, 89, 90]
                [.int .i64 q, .slice (some ⟨b2, o2, none⟩) T.length c2, .int .i64 T.length, .bool false, .bool false, .slice (some ⟨b2, o2, none⟩) T.length c2, .int .i64 q, .pointer (some ⟨b2, o2 + q * 4, none⟩), chgA x, .slice (some ⟨b, o, none⟩) l.length c, .int .i64 k, .pointer (some ⟨b, o + k * 4, none⟩), chgA x, .bool false, .bool false] (by kernel_rfl) ?finD ?stepsD ?nextD
              case finD =>
                simp only [putAll, Act.put, List.setIfInBounds_toArray, List.set_cons_succ, List.set_cons_zero]
                rfl
              case stepsD =>
                unfold chgA
                refine ⟨?_, ?_, ?_, ?_, ?_, ?_, ?_, ?_, ?_, ?_, ?_, ?_, ?_, ?_, ?_, trivial⟩
                all_goals
                  refine .inr ⟨by kernel_rfl, fun w1_ hB_ => ?_⟩
                  obtain ⟨c0, c1, c2_, c3⟩ := HC.out k hlt w1_ (HB15.out.trans (hB_.mono HB15.out.size))
                  obtain ⟨g0, g1, g2, g3⟩ := HCT.out w1_ (HB15.out.trans (hB_.mono HB15.out.size))
                  rw [HX.out] at c0 c1 c2_ c3
                  go_simp
                  first
                    | exact ⟨rfl, Below.refl _ _⟩
                    | (rw [decide_eq_false (by omega)]; exact ⟨rfl, Below.refl _ _⟩)
                    | (rw [if_pos (by omega)]; exact ⟨rfl, Below.refl _ _⟩)
              case nextD =>
              intro w6 hb6
              have HB6 := Lib.hid ((HBR.out.trans (HB15.out.mono hler)).trans (hb6.mono (Nat.le_trans hler HB15.out.size)))
              clear hb6
              go_wp2_with fail
              go_roundw
              case rel => exact ⟨k + 1, by omega, by go_num, by rw [HQN.out]; go_num, HB6.out⟩
              case measure => first | (simp [intOf]; done) | (simp [intOf]; omega)
        · obtain rfl : k = l.length := by omega
          rw [HRE.out]
          generalize atV l i = xe at HAT1 HAT2
          obtain ⟨x, er⟩ := xe
          unfold locA at HAT1 HAT2
          go_wp2_with fail
          refine (HAT1.out _ HBW.out).mono ?_
          rintro e w5 ⟨rfl, hb5⟩
          have hx5 := Blk.new w5 42 #[.int .i64 x.off, .bool x.dst, .string x.abbr]
          have hb5' := hb5.alloc hb5.size (.cells #[.int .i64 x.off, .bool x.dst, .string x.abbr] 42)
          obtain ⟨W5, hW5⟩ : ∃ W, w5.alloc (.cells #[.int .i64 x.off, .bool x.dst, .string x.abbr] 42) = W := ⟨_, rfl⟩
          have hl5 : w5.heap.size < W5.heap.size := by rw [← hW5]; simp
          rw [hW5] at hx5 hb5'
          go_wp2_with fail
          clear hW5
          refine (HAT2.out W5 _ _ (HVR.out.below (hb5'.mono (by omega))) (by have := hb5'.size; omega)).mono ?_
          rintro e w6 ⟨rfl, hb6⟩
          have hx6 := hx5.below hb6 hx5.lt
          have x0 := hx6.cell 0 (v := .int .i64 x.off) rfl
          have x1 := hx6.cell 1 (v := .bool x.dst) rfl
          have x2 := hx6.cell 2 (v := .string x.abbr) rfl
          have hl6 := hx6.lt
          have hb7 := HBW.out.trans ((hb5'.trans (hb6.mono hb5'.size)).mono HBW.out.size)
          have HB7 := Lib.hid (hb7.alloc hb7.size (.cells #[.int .i64 x.off, .bool x.dst, .string x.abbr] 42))
          clear hb5 hb5' hb6 hx5 hx6 HAT1 HAT2 hb7
          go_wp2_with fail
          refine (awake_any _ (HM.out.below HB7.out (Nat.le_refl _))).mono ?_
          rintro e wz ⟨rfl, hbz⟩
          have hb9 := (HB7.out).trans (hbz.mono (HB7.out).size)
          clear hbz
          go_wp2_with fail
          go_ret
          exact ⟨rfl, hb9⟩
end Go.Proofs.YtekeaphbmkfogaaGreatDoor
