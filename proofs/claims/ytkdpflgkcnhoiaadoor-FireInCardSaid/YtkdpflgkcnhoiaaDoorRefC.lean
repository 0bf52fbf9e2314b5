/-
  Layer 11's reference walked: the day of a day form.
-/
import Derived.Test.YtkdpflgkcnhoiaaDoorRef
import Derived.Test.YtkdpflgkcnhoiaaDoorFire
namespace Go.Proofs.YtkdpflgkcnhoiaaDoor
open Go Go.RowKit Go.Shelf
set_option maxRecDepth 100000

/-- What Day answers. -/
def RDay (k wk n y m : Int) : Value := if n ≤ lenV y m then .tuple #[.int .i64 (inDay k wk n y m), .bool true] else .tuple #[.int .i64 0, .bool false]
set_option maxHeartbeats 2000000 in
theorem rday_any (k wk n y m : Int) (hok : dayOkB k wk n = true) (hy1 : 1 ≤ y) (hy2 : y ≤ 4000) (h1 : 1 ≤ m) (h2 : m ≤ 12) (w : World) :
    Calls Tryd.prog 16 #[dayA k wk n, .int .i64 y, .int .i64 m] w fun e w' => e = .returned (RDay k wk n y m) ∧ Below w.heap.size w w' := by
  have HB0 := Lib.hid ((Below.refl w.heap.size w).alloc (Nat.le_refl _) (.cells #[.int .i64 k, .int .i64 wk, .int .i64 n] 42))
  have HX := Lib.hid (Blk.new w 42 #[.int .i64 k, .int .i64 wk, .int .i64 n])
  have HD := Lib.hid (fun W => rdays_any y m hy1 hy2 h1 h2 W)
  have HL := Lib.hid (fun W => rlong_any y m h1 h2 W)
  have hyb := yearV_in (y := y) (by omega) (by omega)
  have hsb := startV_in y m
  have hlb := lenV_in (y := y) h1 h2
  obtain ⟨f, hf⟩ : ∃ f, yearV y + startV y m = f := ⟨_, rfl⟩
  have hyb2 : -2000000 ≤ yearV y ∧ yearV y ≤ 2000000 := by unfold yearV; omega
  have hfb : -10000000 ≤ f ∧ f ≤ 10000000 := by omega
  have HDV := Lib.hid (fun d => show dayV y m d = f + d - 1 by unfold dayV; omega)
  rw [hf] at HD
  obtain ⟨R, hR⟩ : ∃ R, RDay k wk n y m = R := ⟨_, rfl⟩
  rw [hR]
  unfold RDay at hR
  have HRD := Lib.hid hR
  clear hR
  clear hf hyb hyb2 hsb hy1 hy2
  obtain ⟨ln, hln⟩ : ∃ ln, lenV y m = ln := ⟨_, rfl⟩
  rw [hln] at HL hlb HRD
  have HLN := Lib.hid hln
  clear hln h1 h2
  unfold dayOkB at hok
  rw [decide_eq_true_eq] at hok
  by_cases hn : n ≤ ln
  · rw [if_pos hn] at HRD
    rcases hok with ⟨rfl, h3, h4, rfl⟩ | ⟨rfl, rfl, h3, h4⟩ | ⟨rfl | rfl, h3, h4, h5, h6⟩
    · have HV := Lib.hid (show inDay 0 0 n y m = f + n - 1 by unfold inDay; rw [if_pos rfl, HDV.out])
      have hd1 : decide (n < 1) = false := decide_eq_false (by omega)
      have hd2 : decide (ln < n) = false := decide_eq_false (by omega)
      rw [HV.out] at HRD
      unfold dayA
      go_enter Tryd.func16, Tryd.ntmps16
      go_wp2_with fail
      refine (HD.out _).mono ?_
      rintro e w1 ⟨rfl, hb⟩
      have h1 := HX.out.below hb HX.out.lt
      have HB1 := Lib.hid (HB0.out.trans (hb.mono HB0.out.size))
      have q0 := h1.cell 0 (v := .int .i64 0) rfl
      have q1 := h1.cell 1 (v := .int .i64 (0)) rfl
      have q2 := h1.cell 2 (v := .int .i64 (n)) rfl
      have HX1 := Lib.hid h1
      clear hb h1
      go_wp2_with fail
      refine (HL.out _).mono ?_
      rintro e w2 ⟨rfl, hb⟩
      have h1 := HX1.out.below hb HX1.out.lt
      have HB2 := Lib.hid (HB1.out.trans (hb.mono HB1.out.size))
      have q0 := h1.cell 0 (v := .int .i64 0) rfl
      have q1 := h1.cell 1 (v := .int .i64 (0)) rfl
      have q2 := h1.cell 2 (v := .int .i64 (n)) rfl
      have HX2 := Lib.hid h1
      have hs2 := HB2.out.size
      clear hb h1
      go_wp2_with fail
      refine bodyPost_ret (v := .tuple #[.int .i64 (f + n - 1), .bool true]) ?_ rfl ⟨by rw [← HRD.out], HB2.out⟩
      simp [results, Tryd.f16, go_sem]
    · skip
      obtain ⟨K, hK7, hsk, hwK, hnK⟩ := seek_spec (a := (f + ln - 1)) (st := (-1)) (wk := wk) (by omega) (by omega) (by omega)
      have HSK := Lib.hid (And.intro hwK hnK)
      have HV := Lib.hid (show inDay 1 wk (0) y m = (f + ln - 1) + (-1) * K by unfold inDay; rw [if_neg (by decide), if_neg (by decide), if_pos rfl, HLN.out, HDV.out]; exact hsk)
      rw [HV.out] at HRD
      clear hsk hwK hnK
      unfold dayA
      go_enter Tryd.func16, Tryd.ntmps16
      go_wp2_with fail
      refine (HD.out _).mono ?_
      rintro e w1 ⟨rfl, hb⟩
      have h1 := HX.out.below hb HX.out.lt
      have HB1 := Lib.hid (HB0.out.trans (hb.mono HB0.out.size))
      have q0 := h1.cell 0 (v := .int .i64 1) rfl
      have q1 := h1.cell 1 (v := .int .i64 (wk)) rfl
      have q2 := h1.cell 2 (v := .int .i64 (0)) rfl
      have HX1 := Lib.hid h1
      clear hb h1
      go_wp2_with fail
      refine (HL.out _).mono ?_
      rintro e w2 ⟨rfl, hb⟩
      have h1 := HX1.out.below hb HX1.out.lt
      have HB2 := Lib.hid (HB1.out.trans (hb.mono HB1.out.size))
      have q0 := h1.cell 0 (v := .int .i64 1) rfl
      have q1 := h1.cell 1 (v := .int .i64 (wk)) rfl
      have q2 := h1.cell 2 (v := .int .i64 (0)) rfl
      have HX2 := Lib.hid h1
      have hs2 := HB2.out.size
      clear hb h1
      go_wp2_with fail
      go_loopw [10] (fun dv wr => ∃ j : Nat, j ≤ K ∧ dv = .int .i64 ((f + ln - 1) + (-1) * j) ∧ Below w2.heap.size w2 wr) (fun dv _ => (- ((f + ln - 1) + (-1) * K - intOf dv)).toNat)
      case atStart => exact ⟨0, Nat.zero_le _, by first | rfl | simp, Below.refl _ _⟩
      case round =>
        obtain ⟨j, hj, rfl, hbw⟩ := hrel
        have HBW := Lib.hid hbw
        have hxr := HX2.out.below hbw HX2.out.lt
        clear hbw
        have q0 := hxr.cell 0 (v := .int .i64 1) rfl
        have q1 := hxr.cell 1 (v := .int .i64 wk) rfl
        have q2 := hxr.cell 2 (v := .int .i64 (0)) rfl
        have HXR := Lib.hid hxr
        have hws := HBW.out.size
        clear hxr
        obtain ⟨d, hdd⟩ : ∃ d : Int, (f + ln - 1) + (-1) * j = d := ⟨_, rfl⟩
        rw [hdd]
        have hdb : -20000000 ≤ d ∧ d ≤ 20000000 := by omega
        have HJ := Lib.hid hdd
        clear hdd
        have HCQ := Lib.hid (fun (W : World) (h : Below wr.heap.size wr W) => (h.cell (p := ⟨w.heap.size, 1, none⟩) HXR.out.lt).trans q1)
        have HWK := Lib.hid (fun (W : World) => (rweek_any d (by omega) (by omega) W).mono (R' := fun e w' => e = .returned (.int .i64 (weekV d)) ∧ Below W.heap.size W w') (fun e w' h => ⟨h.1, h.2 ▸ Below.refl _ _⟩))
        go_wp2_with fail
        by_cases hjK : j = K
        · have hne : (weekV d != wk) = false := by
            have h := HSK.out.1
            rw [← hjK, HJ.out] at h
            simpa using h
          have hE : d = (f + ln - 1) + (-1) * K := by rw [← HJ.out, hjK]
          have HE := Lib.hid hE
          clear hE hjK
          refine wp_env (fin := ?fna1) (by kernel_rfl) [47, 48, 49, 50, 51]
            [.int .i64 d, .int .i64 (weekV d), .pointer (some ⟨w.heap.size, 1, none⟩), .int .i64 wk, .bool false] (by kernel_rfl) ?fina1 ?stepsa1 ?nexta1
          case fina1 =>
            simp only [putAll, Act.put, List.setIfInBounds_toArray, List.set_cons_succ, List.set_cons_zero]
            rfl
          case stepsa1 =>
            refine ⟨.inr ⟨by kernel_rfl, fun w1_ hB_ => ?_⟩, .inr ⟨by kernel_rfl, fun w1_ hB_ => ?_⟩, .inr ⟨by kernel_rfl, fun w1_ hB_ => ?_⟩, .inr ⟨by kernel_rfl, fun w1_ hB_ => ?_⟩, .inr ⟨by kernel_rfl, fun w1_ hB_ => ?_⟩, trivial⟩
            all_goals
              have q1 := HCQ.out w1_ hB_
              go_simp
              first
                | exact ⟨rfl, Below.refl _ _⟩
                | exact ⟨rfl, HWK.out w1_⟩
                | (rw [decide_eq_true (by omega)]; exact ⟨rfl, Below.refl _ _⟩)
                | (rw [decide_eq_false (by omega)]; exact ⟨rfl, Below.refl _ _⟩)
                | (rw [if_pos (by omega)]; exact ⟨rfl, Below.refl _ _⟩)
                | (rw [IntWalk.i64_in _ (by omega)]; exact ⟨rfl, Below.refl _ _⟩)
                | done
          case nexta1 =>
          intro w5 hb5
          have HB5 := Lib.hid (HBW.out.trans (hb5.mono HBW.out.size))
          clear hb5
          go_wp2_with fail
          rw [HE.out]
          refine bodyPost_ret (v := .tuple #[.int .i64 ((f + ln - 1) + (-1) * K), .bool true]) ?_ rfl ⟨by rw [← HRD.out], HB2.out.trans (HB5.out.mono hs2)⟩
          simp [results, Tryd.f16, go_sem]
        · have hne : (weekV d != wk) = true := by
            have h := HSK.out.2 j (by omega)
            rw [HJ.out] at h
            simpa using h
          have HNE := Lib.hid hne
          refine wp_env (fin := ?fnb1) (by kernel_rfl) [47, 48, 49, 50, 51]
            [.int .i64 d, .int .i64 (weekV d), .pointer (some ⟨w.heap.size, 1, none⟩), .int .i64 wk, .bool true] (by kernel_rfl) ?finb1 ?stepsb1 ?nextb1
          case finb1 =>
            simp only [putAll, Act.put, List.setIfInBounds_toArray, List.set_cons_succ, List.set_cons_zero]
            rfl
          case stepsb1 =>
            refine ⟨.inr ⟨by kernel_rfl, fun w1_ hB_ => ?_⟩, .inr ⟨by kernel_rfl, fun w1_ hB_ => ?_⟩, .inr ⟨by kernel_rfl, fun w1_ hB_ => ?_⟩, .inr ⟨by kernel_rfl, fun w1_ hB_ => ?_⟩, .inr ⟨by kernel_rfl, fun w1_ hB_ => ?_⟩, trivial⟩
            all_goals
              have q1 := HCQ.out w1_ hB_
              go_simp
              first
                | exact ⟨rfl, Below.refl _ _⟩
                | exact ⟨rfl, HWK.out w1_⟩
                | (rw [decide_eq_true (by omega)]; exact ⟨rfl, Below.refl _ _⟩)
                | (rw [decide_eq_false (by omega)]; exact ⟨rfl, Below.refl _ _⟩)
                | (rw [if_pos (by omega)]; exact ⟨rfl, Below.refl _ _⟩)
                | (rw [IntWalk.i64_in _ (by omega)]; exact ⟨rfl, Below.refl _ _⟩)
                | done
          case nextb1 =>
          intro w5 hb5
          have HB5 := Lib.hid (HBW.out.trans (hb5.mono HBW.out.size))
          have h5 := HXR.out.below hb5 HXR.out.lt
          have q0 := h5.cell 0 (v := .int .i64 1) rfl
          clear hb5 h5 hne
          go_wp2_with fail
          go_roundw
          case rel => exact ⟨j + 1, by omega, by first | rfl | go_num | (have := HJ.out; congr 1; omega), HB5.out⟩
          case measure => have := HJ.out; simp [intOf]; omega
    · have hd1 : decide (n < 1) = false := decide_eq_false (by omega)
      have hd2 : decide (ln < n) = false := decide_eq_false (by omega)
      obtain ⟨K, hK7, hsk, hwK, hnK⟩ := seek_spec (a := (f + n - 1)) (st := 1) (wk := wk) (by omega) (by omega) (by omega)
      have HSK := Lib.hid (And.intro hwK hnK)
      have HV := Lib.hid (show inDay 2 wk (n) y m = (f + n - 1) + 1 * K by unfold inDay; rw [if_neg (by decide), if_pos rfl, HDV.out]; exact hsk)
      rw [HV.out] at HRD
      clear hsk hwK hnK
      unfold dayA
      go_enter Tryd.func16, Tryd.ntmps16
      go_wp2_with fail
      refine (HD.out _).mono ?_
      rintro e w1 ⟨rfl, hb⟩
      have h1 := HX.out.below hb HX.out.lt
      have HB1 := Lib.hid (HB0.out.trans (hb.mono HB0.out.size))
      have q0 := h1.cell 0 (v := .int .i64 2) rfl
      have q1 := h1.cell 1 (v := .int .i64 (wk)) rfl
      have q2 := h1.cell 2 (v := .int .i64 (n)) rfl
      have HX1 := Lib.hid h1
      clear hb h1
      go_wp2_with fail
      refine (HL.out _).mono ?_
      rintro e w2 ⟨rfl, hb⟩
      have h1 := HX1.out.below hb HX1.out.lt
      have HB2 := Lib.hid (HB1.out.trans (hb.mono HB1.out.size))
      have q0 := h1.cell 0 (v := .int .i64 2) rfl
      have q1 := h1.cell 1 (v := .int .i64 (wk)) rfl
      have q2 := h1.cell 2 (v := .int .i64 (n)) rfl
      have HX2 := Lib.hid h1
      have hs2 := HB2.out.size
      clear hb h1
      go_wp2_with fail
      go_loopw [10] (fun dv wr => ∃ j : Nat, j ≤ K ∧ dv = .int .i64 ((f + n - 1) + 1 * j) ∧ Below w2.heap.size w2 wr) (fun dv _ => ( ((f + n - 1) + 1 * K - intOf dv)).toNat)
      case atStart => exact ⟨0, Nat.zero_le _, by first | rfl | simp, Below.refl _ _⟩
      case round =>
        obtain ⟨j, hj, rfl, hbw⟩ := hrel
        have HBW := Lib.hid hbw
        have hxr := HX2.out.below hbw HX2.out.lt
        clear hbw
        have q0 := hxr.cell 0 (v := .int .i64 2) rfl
        have q1 := hxr.cell 1 (v := .int .i64 wk) rfl
        have q2 := hxr.cell 2 (v := .int .i64 (n)) rfl
        have HXR := Lib.hid hxr
        have hws := HBW.out.size
        clear hxr
        obtain ⟨d, hdd⟩ : ∃ d : Int, (f + n - 1) + 1 * j = d := ⟨_, rfl⟩
        rw [hdd]
        have hdb : -20000000 ≤ d ∧ d ≤ 20000000 := by omega
        have HJ := Lib.hid hdd
        clear hdd
        have HCQ := Lib.hid (fun (W : World) (h : Below wr.heap.size wr W) => (h.cell (p := ⟨w.heap.size, 1, none⟩) HXR.out.lt).trans q1)
        have HWK := Lib.hid (fun (W : World) => (rweek_any d (by omega) (by omega) W).mono (R' := fun e w' => e = .returned (.int .i64 (weekV d)) ∧ Below W.heap.size W w') (fun e w' h => ⟨h.1, h.2 ▸ Below.refl _ _⟩))
        go_wp2_with fail
        by_cases hjK : j = K
        · have hne : (weekV d != wk) = false := by
            have h := HSK.out.1
            rw [← hjK, HJ.out] at h
            simpa using h
          have hE : d = (f + n - 1) + 1 * K := by rw [← HJ.out, hjK]
          have HE := Lib.hid hE
          clear hE hjK
          refine wp_env (fin := ?fna2) (by kernel_rfl) [47, 48, 49, 50, 51]
            [.int .i64 d, .int .i64 (weekV d), .pointer (some ⟨w.heap.size, 1, none⟩), .int .i64 wk, .bool false] (by kernel_rfl) ?fina2 ?stepsa2 ?nexta2
          case fina2 =>
            simp only [putAll, Act.put, List.setIfInBounds_toArray, List.set_cons_succ, List.set_cons_zero]
            rfl
          case stepsa2 =>
            refine ⟨.inr ⟨by kernel_rfl, fun w1_ hB_ => ?_⟩, .inr ⟨by kernel_rfl, fun w1_ hB_ => ?_⟩, .inr ⟨by kernel_rfl, fun w1_ hB_ => ?_⟩, .inr ⟨by kernel_rfl, fun w1_ hB_ => ?_⟩, .inr ⟨by kernel_rfl, fun w1_ hB_ => ?_⟩, trivial⟩
            all_goals
              have q1 := HCQ.out w1_ hB_
              go_simp
              first
                | exact ⟨rfl, Below.refl _ _⟩
                | exact ⟨rfl, HWK.out w1_⟩
                | (rw [decide_eq_true (by omega)]; exact ⟨rfl, Below.refl _ _⟩)
                | (rw [decide_eq_false (by omega)]; exact ⟨rfl, Below.refl _ _⟩)
                | (rw [if_pos (by omega)]; exact ⟨rfl, Below.refl _ _⟩)
                | (rw [IntWalk.i64_in _ (by omega)]; exact ⟨rfl, Below.refl _ _⟩)
                | done
          case nexta2 =>
          intro w5 hb5
          have HB5 := Lib.hid (HBW.out.trans (hb5.mono HBW.out.size))
          clear hb5
          go_wp2_with fail
          rw [HE.out]
          refine bodyPost_ret (v := .tuple #[.int .i64 ((f + n - 1) + 1 * K), .bool true]) ?_ rfl ⟨by rw [← HRD.out], HB2.out.trans (HB5.out.mono hs2)⟩
          simp [results, Tryd.f16, go_sem]
        · have hne : (weekV d != wk) = true := by
            have h := HSK.out.2 j (by omega)
            rw [HJ.out] at h
            simpa using h
          have HNE := Lib.hid hne
          refine wp_env (fin := ?fnb2) (by kernel_rfl) [47, 48, 49, 50, 51]
            [.int .i64 d, .int .i64 (weekV d), .pointer (some ⟨w.heap.size, 1, none⟩), .int .i64 wk, .bool true] (by kernel_rfl) ?finb2 ?stepsb2 ?nextb2
          case finb2 =>
            simp only [putAll, Act.put, List.setIfInBounds_toArray, List.set_cons_succ, List.set_cons_zero]
            rfl
          case stepsb2 =>
            refine ⟨.inr ⟨by kernel_rfl, fun w1_ hB_ => ?_⟩, .inr ⟨by kernel_rfl, fun w1_ hB_ => ?_⟩, .inr ⟨by kernel_rfl, fun w1_ hB_ => ?_⟩, .inr ⟨by kernel_rfl, fun w1_ hB_ => ?_⟩, .inr ⟨by kernel_rfl, fun w1_ hB_ => ?_⟩, trivial⟩
            all_goals
              have q1 := HCQ.out w1_ hB_
              go_simp
              first
                | exact ⟨rfl, Below.refl _ _⟩
                | exact ⟨rfl, HWK.out w1_⟩
                | (rw [decide_eq_true (by omega)]; exact ⟨rfl, Below.refl _ _⟩)
                | (rw [decide_eq_false (by omega)]; exact ⟨rfl, Below.refl _ _⟩)
                | (rw [if_pos (by omega)]; exact ⟨rfl, Below.refl _ _⟩)
                | (rw [IntWalk.i64_in _ (by omega)]; exact ⟨rfl, Below.refl _ _⟩)
                | done
          case nextb2 =>
          intro w5 hb5
          have HB5 := Lib.hid (HBW.out.trans (hb5.mono HBW.out.size))
          have h5 := HXR.out.below hb5 HXR.out.lt
          have q0 := h5.cell 0 (v := .int .i64 2) rfl
          clear hb5 h5 hne
          go_wp2_with fail
          go_roundw
          case rel => exact ⟨j + 1, by omega, by first | rfl | go_num | (have := HJ.out; congr 1; omega), HB5.out⟩
          case measure => have := HJ.out; simp [intOf]; omega
    · have hd1 : decide (n < 1) = false := decide_eq_false (by omega)
      have hd2 : decide (ln < n) = false := decide_eq_false (by omega)
      obtain ⟨K, hK7, hsk, hwK, hnK⟩ := seek_spec (a := (f + n - 1)) (st := (-1)) (wk := wk) (by omega) (by omega) (by omega)
      have HSK := Lib.hid (And.intro hwK hnK)
      have HV := Lib.hid (show inDay 3 wk (n) y m = (f + n - 1) + (-1) * K by unfold inDay; rw [if_neg (by decide), if_neg (by decide), if_neg (by decide), HDV.out]; exact hsk)
      rw [HV.out] at HRD
      clear hsk hwK hnK
      unfold dayA
      go_enter Tryd.func16, Tryd.ntmps16
      go_wp2_with fail
      refine (HD.out _).mono ?_
      rintro e w1 ⟨rfl, hb⟩
      have h1 := HX.out.below hb HX.out.lt
      have HB1 := Lib.hid (HB0.out.trans (hb.mono HB0.out.size))
      have q0 := h1.cell 0 (v := .int .i64 3) rfl
      have q1 := h1.cell 1 (v := .int .i64 (wk)) rfl
      have q2 := h1.cell 2 (v := .int .i64 (n)) rfl
      have HX1 := Lib.hid h1
      clear hb h1
      go_wp2_with fail
      refine (HL.out _).mono ?_
      rintro e w2 ⟨rfl, hb⟩
      have h1 := HX1.out.below hb HX1.out.lt
      have HB2 := Lib.hid (HB1.out.trans (hb.mono HB1.out.size))
      have q0 := h1.cell 0 (v := .int .i64 3) rfl
      have q1 := h1.cell 1 (v := .int .i64 (wk)) rfl
      have q2 := h1.cell 2 (v := .int .i64 (n)) rfl
      have HX2 := Lib.hid h1
      have hs2 := HB2.out.size
      clear hb h1
      go_wp2_with fail
      go_loopw [10] (fun dv wr => ∃ j : Nat, j ≤ K ∧ dv = .int .i64 ((f + n - 1) + (-1) * j) ∧ Below w2.heap.size w2 wr) (fun dv _ => (- ((f + n - 1) + (-1) * K - intOf dv)).toNat)
      case atStart => exact ⟨0, Nat.zero_le _, by first | rfl | simp, Below.refl _ _⟩
      case round =>
        obtain ⟨j, hj, rfl, hbw⟩ := hrel
        have HBW := Lib.hid hbw
        have hxr := HX2.out.below hbw HX2.out.lt
        clear hbw
        have q0 := hxr.cell 0 (v := .int .i64 3) rfl
        have q1 := hxr.cell 1 (v := .int .i64 wk) rfl
        have q2 := hxr.cell 2 (v := .int .i64 (n)) rfl
        have HXR := Lib.hid hxr
        have hws := HBW.out.size
        clear hxr
        obtain ⟨d, hdd⟩ : ∃ d : Int, (f + n - 1) + (-1) * j = d := ⟨_, rfl⟩
        rw [hdd]
        have hdb : -20000000 ≤ d ∧ d ≤ 20000000 := by omega
        have HJ := Lib.hid hdd
        clear hdd
        have HCQ := Lib.hid (fun (W : World) (h : Below wr.heap.size wr W) => (h.cell (p := ⟨w.heap.size, 1, none⟩) HXR.out.lt).trans q1)
        have HWK := Lib.hid (fun (W : World) => (rweek_any d (by omega) (by omega) W).mono (R' := fun e w' => e = .returned (.int .i64 (weekV d)) ∧ Below W.heap.size W w') (fun e w' h => ⟨h.1, h.2 ▸ Below.refl _ _⟩))
        go_wp2_with fail
        by_cases hjK : j = K
        · have hne : (weekV d != wk) = false := by
            have h := HSK.out.1
            rw [← hjK, HJ.out] at h
            simpa using h
          have hE : d = (f + n - 1) + (-1) * K := by rw [← HJ.out, hjK]
          have HE := Lib.hid hE
          clear hE hjK
          refine wp_env (fin := ?fna3) (by kernel_rfl) [47, 48, 49, 50, 51]
            [.int .i64 d, .int .i64 (weekV d), .pointer (some ⟨w.heap.size, 1, none⟩), .int .i64 wk, .bool false] (by kernel_rfl) ?fina3 ?stepsa3 ?nexta3
          case fina3 =>
            simp only [putAll, Act.put, List.setIfInBounds_toArray, List.set_cons_succ, List.set_cons_zero]
            rfl
          case stepsa3 =>
            refine ⟨.inr ⟨by kernel_rfl, fun w1_ hB_ => ?_⟩, .inr ⟨by kernel_rfl, fun w1_ hB_ => ?_⟩, .inr ⟨by kernel_rfl, fun w1_ hB_ => ?_⟩, .inr ⟨by kernel_rfl, fun w1_ hB_ => ?_⟩, .inr ⟨by kernel_rfl, fun w1_ hB_ => ?_⟩, trivial⟩
            all_goals
              have q1 := HCQ.out w1_ hB_
              go_simp
              first
                | exact ⟨rfl, Below.refl _ _⟩
                | exact ⟨rfl, HWK.out w1_⟩
                | (rw [decide_eq_true (by omega)]; exact ⟨rfl, Below.refl _ _⟩)
                | (rw [decide_eq_false (by omega)]; exact ⟨rfl, Below.refl _ _⟩)
                | (rw [if_pos (by omega)]; exact ⟨rfl, Below.refl _ _⟩)
                | (rw [IntWalk.i64_in _ (by omega)]; exact ⟨rfl, Below.refl _ _⟩)
                | done
          case nexta3 =>
          intro w5 hb5
          have HB5 := Lib.hid (HBW.out.trans (hb5.mono HBW.out.size))
          clear hb5
          go_wp2_with fail
          rw [HE.out]
          refine bodyPost_ret (v := .tuple #[.int .i64 ((f + n - 1) + (-1) * K), .bool true]) ?_ rfl ⟨by rw [← HRD.out], HB2.out.trans (HB5.out.mono hs2)⟩
          simp [results, Tryd.f16, go_sem]
        · have hne : (weekV d != wk) = true := by
            have h := HSK.out.2 j (by omega)
            rw [HJ.out] at h
            simpa using h
          have HNE := Lib.hid hne
          refine wp_env (fin := ?fnb3) (by kernel_rfl) [47, 48, 49, 50, 51]
            [.int .i64 d, .int .i64 (weekV d), .pointer (some ⟨w.heap.size, 1, none⟩), .int .i64 wk, .bool true] (by kernel_rfl) ?finb3 ?stepsb3 ?nextb3
          case finb3 =>
            simp only [putAll, Act.put, List.setIfInBounds_toArray, List.set_cons_succ, List.set_cons_zero]
            rfl
          case stepsb3 =>
            refine ⟨.inr ⟨by kernel_rfl, fun w1_ hB_ => ?_⟩, .inr ⟨by kernel_rfl, fun w1_ hB_ => ?_⟩, .inr ⟨by kernel_rfl, fun w1_ hB_ => ?_⟩, .inr ⟨by kernel_rfl, fun w1_ hB_ => ?_⟩, .inr ⟨by kernel_rfl, fun w1_ hB_ => ?_⟩, trivial⟩
            all_goals
              have q1 := HCQ.out w1_ hB_
              go_simp
              first
                | exact ⟨rfl, Below.refl _ _⟩
                | exact ⟨rfl, HWK.out w1_⟩
                | (rw [decide_eq_true (by omega)]; exact ⟨rfl, Below.refl _ _⟩)
                | (rw [decide_eq_false (by omega)]; exact ⟨rfl, Below.refl _ _⟩)
                | (rw [if_pos (by omega)]; exact ⟨rfl, Below.refl _ _⟩)
                | (rw [IntWalk.i64_in _ (by omega)]; exact ⟨rfl, Below.refl _ _⟩)
                | done
          case nextb3 =>
          intro w5 hb5
          have HB5 := Lib.hid (HBW.out.trans (hb5.mono HBW.out.size))
          have h5 := HXR.out.below hb5 HXR.out.lt
          have q0 := h5.cell 0 (v := .int .i64 3) rfl
          clear hb5 h5 hne
          go_wp2_with fail
          go_roundw
          case rel => exact ⟨j + 1, by omega, by first | rfl | go_num | (have := HJ.out; congr 1; omega), HB5.out⟩
          case measure => have := HJ.out; simp [intOf]; omega
  · rw [if_neg hn] at HRD
    have hd2 : decide (ln < n) = true := decide_eq_true (by omega)
    rcases hok with ⟨rfl, h3, h4, rfl⟩ | ⟨rfl, rfl, h3, h4⟩ | ⟨rfl | rfl, h3, h4, h5, h6⟩
    · have hd1 : decide (n < 1) = false := decide_eq_false (by omega)
      unfold dayA
      go_enter Tryd.func16, Tryd.ntmps16
      go_wp2_with fail
      refine (HD.out _).mono ?_
      rintro e w1 ⟨rfl, hb⟩
      have h1 := HX.out.below hb HX.out.lt
      have HB1 := Lib.hid (HB0.out.trans (hb.mono HB0.out.size))
      have q0 := h1.cell 0 (v := .int .i64 0) rfl
      have q1 := h1.cell 1 (v := .int .i64 (0)) rfl
      have q2 := h1.cell 2 (v := .int .i64 (n)) rfl
      have HX1 := Lib.hid h1
      clear hb h1
      go_wp2_with fail
      refine (HL.out _).mono ?_
      rintro e w2 ⟨rfl, hb⟩
      have h1 := HX1.out.below hb HX1.out.lt
      have HB2 := Lib.hid (HB1.out.trans (hb.mono HB1.out.size))
      have q0 := h1.cell 0 (v := .int .i64 0) rfl
      have q1 := h1.cell 1 (v := .int .i64 (0)) rfl
      have q2 := h1.cell 2 (v := .int .i64 (n)) rfl
      have HX2 := Lib.hid h1
      have hs2 := HB2.out.size
      clear hb h1
      go_wp2_with fail
      refine bodyPost_ret (v := .tuple #[.int .i64 (0), .bool false]) ?_ rfl ⟨by rw [← HRD.out], HB2.out⟩
      simp [results, Tryd.f16, go_sem]
    · omega
    · have hd1 : decide (n < 1) = false := decide_eq_false (by omega)
      unfold dayA
      go_enter Tryd.func16, Tryd.ntmps16
      go_wp2_with fail
      refine (HD.out _).mono ?_
      rintro e w1 ⟨rfl, hb⟩
      have h1 := HX.out.below hb HX.out.lt
      have HB1 := Lib.hid (HB0.out.trans (hb.mono HB0.out.size))
      have q0 := h1.cell 0 (v := .int .i64 2) rfl
      have q1 := h1.cell 1 (v := .int .i64 (wk)) rfl
      have q2 := h1.cell 2 (v := .int .i64 (n)) rfl
      have HX1 := Lib.hid h1
      clear hb h1
      go_wp2_with fail
      refine (HL.out _).mono ?_
      rintro e w2 ⟨rfl, hb⟩
      have h1 := HX1.out.below hb HX1.out.lt
      have HB2 := Lib.hid (HB1.out.trans (hb.mono HB1.out.size))
      have q0 := h1.cell 0 (v := .int .i64 2) rfl
      have q1 := h1.cell 1 (v := .int .i64 (wk)) rfl
      have q2 := h1.cell 2 (v := .int .i64 (n)) rfl
      have HX2 := Lib.hid h1
      have hs2 := HB2.out.size
      clear hb h1
      go_wp2_with fail
      refine bodyPost_ret (v := .tuple #[.int .i64 (0), .bool false]) ?_ rfl ⟨by rw [← HRD.out], HB2.out⟩
      simp [results, Tryd.f16, go_sem]
    · have hd1 : decide (n < 1) = false := decide_eq_false (by omega)
      unfold dayA
      go_enter Tryd.func16, Tryd.ntmps16
      go_wp2_with fail
      refine (HD.out _).mono ?_
      rintro e w1 ⟨rfl, hb⟩
      have h1 := HX.out.below hb HX.out.lt
      have HB1 := Lib.hid (HB0.out.trans (hb.mono HB0.out.size))
      have q0 := h1.cell 0 (v := .int .i64 3) rfl
      have q1 := h1.cell 1 (v := .int .i64 (wk)) rfl
      have q2 := h1.cell 2 (v := .int .i64 (n)) rfl
      have HX1 := Lib.hid h1
      clear hb h1
      go_wp2_with fail
      refine (HL.out _).mono ?_
      rintro e w2 ⟨rfl, hb⟩
      have h1 := HX1.out.below hb HX1.out.lt
      have HB2 := Lib.hid (HB1.out.trans (hb.mono HB1.out.size))
      have q0 := h1.cell 0 (v := .int .i64 3) rfl
      have q1 := h1.cell 1 (v := .int .i64 (wk)) rfl
      have q2 := h1.cell 2 (v := .int .i64 (n)) rfl
      have HX2 := Lib.hid h1
      have hs2 := HB2.out.size
      clear hb h1
      go_wp2_with fail
      refine bodyPost_ret (v := .tuple #[.int .i64 (0), .bool false]) ?_ rfl ⟨by rw [← HRD.out], HB2.out⟩
      simp [results, Tryd.f16, go_sem]
end Go.Proofs.YtkdpflgkcnhoiaaDoor
