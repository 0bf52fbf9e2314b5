/-
  Layer 2 walked: Of.
-/
import Derived.Test.YtfbkkhfmboaknaaGreatDoorCivilC
import Derived.Test.YtfbkkhfmboaknaaGreatDoorCMathB
namespace Go.Proofs.YtfbkkhfmboaknaaGreatDoor
open Go Go.RowKit Go.Shelf
set_option maxRecDepth 100000

set_option maxHeartbeats 4000000 in
theorem of_any (n : Int) (h1 : -37243778 ≤ n) (h2 : n < 35805088) (w : World) (ha : Ahead w) :
    Calls Tryz.prog 48 #[.int .i64 n] w fun e w' => e = .returned (.tuple #[dateA (ofYear n) (ofMon n) (ofDay n), .int .i64 0]) ∧ Below w.heap.size w w' := by
  have e1 : yearV (-100000) = -37243778 := by decide
  have e2 : yearV 100001 = 35805088 := by decide
  have HY1 := Lib.hid (fun W => year_any (-100000) (by omega) (by omega) W)
  have HY2 := Lib.hid (fun W => year_any 100001 (by omega) (by omega) W)
  rw [e1] at HY1
  rw [e2] at HY2
  have HF := Lib.hid (fun W => floor_any (n + 719162) 146097 (by omega) (by omega) (by omega) W)
  have hc : 0 ≤ n + 719162 - ofC n * 146097 ∧ n + 719162 - ofC n * 146097 < 146097 ∧ -260 ≤ ofC n ∧ ofC n ≤ 260 := by unfold ofC; omega
  rw [show (n + 719162) / 146097 = ofC n from rfl] at HF
  clear e1 e2
  go_enter Tryz.func48, Tryz.ntmps48
  go_wp2_with fail
  refine (HY1.out _).mono ?_
  rintro e w1 ⟨rfl, rfl⟩
  go_wp2_with fail
  refine (HY2.out _).mono ?_
  rintro e w1 ⟨rfl, rfl⟩
  go_wp2_with fail
  refine (HF.out _).mono ?_
  rintro e w1 ⟨rfl, rfl⟩
  go_wp2_with fail
  have eE : min ((n + 719162 - ofC n * 146097) / 36524) 3 = ofE n := rfl
  have eO : (n + 719162 - ofC n * 146097 - ofE n * 36524) / 1461 = ofO n := rfl
  have eY : min ((n + 719162 - ofC n * 146097 - ofE n * 36524 - ofO n * 1461) / 365) 3 = ofY n := rfl
  have eR : n + 719162 - ofC n * 146097 - ofE n * 36524 - ofO n * 1461 - ofY n * 365 = ofR n := rfl
  have eN : ofC n * 400 + ofE n * 100 + ofO n * 4 + ofY n + 1 = ofYear n := rfl
  rw [eE, eO, eY, eR, eN]
  have hp := of_parts n
  have hr0 := hp.2.2.2.2.2.2.1
  have hr1 := hp.2.2.2.2.2.2.2.1
  have HOM := Lib.hid (show ofMon n = monV (ofYear n) (ofR n) 12 from rfl)
  have HOD := Lib.hid (show ofDay n = ofR n - startV (ofYear n) (ofMon n) + 1 from rfl)
  clear hp hc eE eO eY eR eN HY1 HY2 HF
  have hb0 := (Blk.new w 78 #[.int .i64 0, .int .i64 0, .int .i64 0]).alloc (.cells #[.int .i64 (ofYear n), .int .i64 12, .int .i64 0] 78)
  have hb1 := Blk.new (w.alloc (.cells #[.int .i64 0, .int .i64 0, .int .i64 0] 78)) 78 #[.int .i64 (ofYear n), .int .i64 12, .int .i64 0]
  rw [World.size_alloc] at hb1
  have HI := Lib.hid (And.intro hb0 hb1)
  clear hb0 hb1
  generalize hY : ofYear n = Y at *
  generalize ofR n = R at *
  generalize hM : ofMon n = M at *
  generalize hD : ofDay n = D at *
  have HYMD := Lib.hid (And.intro hY (And.intro hM hD))
  clear hY hM hD
  go_loopw [65] (fun _ wr => ∃ k : Nat, k < 12 ∧ Below w.heap.size w wr ∧ Blk wr w.heap.size 78 #[.int .i64 0, .int .i64 0, .int .i64 0] ∧ Blk wr (w.heap.size + 1) 78 #[.int .i64 Y, .int .i64 ((k : Int) + 1), .int .i64 0] ∧ monV Y R 12 = monV Y R (k + 1)) (fun _ wr => (intOf ((wr.cell? ⟨w.heap.size + 1, 1, none⟩).getD undef)).toNat)
  case atStart => exact ⟨11, by omega, ((Below.refl _ _).alloc (Nat.le_refl _) _).alloc (by simp) _, HI.out.1, HI.out.2, rfl⟩
  case round =>
    obtain ⟨k, hk, hbw, hres, hbox, hmon⟩ := hrel
    have HB := Lib.hid hbw
    have HRS := Lib.hid hres
    have HBX := Lib.hid hbox
    have HST := Lib.hid (start_any Y ((k : Int) + 1) (by omega) (by omega) wr (ha.below hbw (Nat.le_refl _)))
    have c0 := hbox.cell 0 (v := .int .i64 Y) rfl
    have c1 := hbox.cell 1 (v := .int .i64 ((k : Int) + 1)) rfl
    have c2 := hbox.cell 2 (v := .int .i64 0) rfl
    have f1 := hbox.frozen 1
    have f2 := hbox.frozen 2
    have r0 := hres.cell 0 (v := .int .i64 0) rfl
    have r1 := hres.cell 1 (v := .int .i64 0) rfl
    have r2 := hres.cell 2 (v := .int .i64 0) rfl
    have g0 := hres.frozen 0
    have g1 := hres.frozen 1
    have g2 := hres.frozen 2
    have hsz := hbox.lt
    have hs := startV_in Y ((k : Int) + 1)
    have HMN := Lib.hid hmon
    have HS1 := Lib.hid (startV_one Y)
    obtain ⟨s, hsv⟩ : ∃ s, startV Y ((k : Int) + 1) = s := ⟨_, rfl⟩
    rw [hsv] at HST hs
    have HSV := Lib.hid hsv
    clear hbw hres hbox hmon hsv
    go_wp2_with fail
    refine HST.out.mono ?_
    rintro e w1 ⟨rfl, rfl⟩
    by_cases hlt : R < s
    · rcases k with _ | k
      · have h1 := HSV.out
        rw [show ((0 : Nat) : Int) + 1 = 1 from rfl, HS1.out] at h1
        omega
      · have HM2 := Lib.hid (show monV Y R 12 = monV Y R (k + 1) by
          rw [HMN.out]
          show (if R < startV Y (((k + 1 : Nat) : Int) + 1) then monV Y R (k + 1) else _) = _
          rw [HSV.out, if_pos hlt])
        have e1 : ((k + 1 : Nat) : Int) + 1 - 1 = (k : Int) + 1 := by omega
        go_wp2_with fail
        go_roundw
        case rel => exact ⟨k, by omega, HB.out.setCell (by show w.heap.size ≤ w.heap.size + 1; omega) _, HRS.out.other (by omega) _ _, by have h := HBX.out.set 1 (.int .i64 ((k : Int) + 1)); exact h, HM2.out⟩
        case measure =>
          rw [(HBX.out.set 1 (.int .i64 ((k : Int) + 1))).cell 1 (v := .int .i64 ((k : Int) + 1)) rfl, c1]
          simp only [Option.getD_some, intOf]
          omega
    · have HM2 := Lib.hid (show M = (k : Int) + 1 by
        rw [HOM.out, HMN.out]
        show (if R < startV Y ((k : Int) + 1) then monV Y R k else _) = _
        rw [HSV.out, if_neg hlt])
      have HD2 := Lib.hid (show D = R - s + 1 by rw [HOD.out, HM2.out, HSV.out])
      go_wp2_with fail
      refine (HST.out).mono ?_
      rintro e w1 ⟨rfl, rfl⟩
      go_wp2_with fail
      have hbx := HBX.out.set 2 (.int .i64 (R - s + 1))
      have HW := (((HRS.out.other (show w.heap.size ≠ w.heap.size + 1 by omega) 2 (.int .i64 (R - s + 1))).set 0 (.int .i64 Y)).set 1 (.int .i64 ((k : Int) + 1))).set 2 (.int .i64 (R - s + 1))
      have hbf := below_set3 (HB.out.setCell (show w.heap.size ≤ w.heap.size + 1 by omega) (p := ⟨w.heap.size + 1, 2, none⟩) (.int .i64 (R - s + 1))) (Nat.le_refl w.heap.size) (.int .i64 Y) (.int .i64 ((k : Int) + 1)) (.int .i64 (R - s + 1))
      refine bodyPost_ret (v := .tuple #[dateA Y ((k : Int) + 1) (R - s + 1), .int .i64 0]) ?_ rfl ⟨by rw [HYMD.out.1, HYMD.out.2.1, HYMD.out.2.2, HM2.out, HD2.out], hbf⟩
      have w0 := HW.cell 0 (v := .int .i64 Y) rfl
      have w1 := HW.cell 1 (v := .int .i64 ((k : Int) + 1)) rfl
      have w2 := HW.cell 2 (v := .int .i64 (R - s + 1)) rfl
      simp [results, Tryz.f48, go_sem, w0, w1, w2, dateA]
theorem of_out (n : Int) (h : ¬ (-37243778 ≤ n ∧ n < 35805088)) (w : World) :
    Calls Tryz.prog 48 #[.int .i64 n] w fun e w' => e = .returned (.tuple #[dateA 0 0 0, .int .i64 10]) ∧ Below w.heap.size w w' := by
  have e1 : yearV (-100000) = -37243778 := by decide
  have e2 : yearV 100001 = 35805088 := by decide
  have HY1 := Lib.hid (fun W => year_any (-100000) (by omega) (by omega) W)
  have HY2 := Lib.hid (fun W => year_any 100001 (by omega) (by omega) W)
  rw [e1] at HY1
  rw [e2] at HY2
  have hb0 := Blk.new w 78 #[.int .i64 0, .int .i64 0, .int .i64 0]
  have r0 := hb0.cell 0 (v := .int .i64 0) rfl
  have r1 := hb0.cell 1 (v := .int .i64 0) rfl
  have r2 := hb0.cell 2 (v := .int .i64 0) rfl
  have g0 := hb0.frozen 0
  have g1 := hb0.frozen 1
  have g2 := hb0.frozen 2
  have HI := Lib.hid hb0
  clear hb0 e1 e2
  by_cases h1 : n < -37243778
  · clear h
    go_enter Tryz.func48, Tryz.ntmps48
    go_wp2_with fail
    refine (HY1.out _).mono ?_
    rintro e w1 ⟨rfl, rfl⟩
    go_wp2_with fail
    all_goals try (refine (HY2.out _).mono ?_; rintro e w1 ⟨rfl, rfl⟩; go_wp2_with fail)
    refine bodyPost_ret (v := .tuple #[dateA 0 0 0, .int .i64 10]) ?_ rfl ⟨rfl, (Below.refl _ _).alloc (Nat.le_refl _) _⟩
    simp [results, Tryz.f48, go_sem, dateA]
  · have h2 : 35805088 ≤ n := by omega
    clear h
    go_enter Tryz.func48, Tryz.ntmps48
    go_wp2_with fail
    refine (HY1.out _).mono ?_
    rintro e w1 ⟨rfl, rfl⟩
    go_wp2_with fail
    all_goals try (refine (HY2.out _).mono ?_; rintro e w1 ⟨rfl, rfl⟩; go_wp2_with fail)
    refine bodyPost_ret (v := .tuple #[dateA 0 0 0, .int .i64 10]) ?_ rfl ⟨rfl, (Below.refl _ _).alloc (Nat.le_refl _) _⟩
    simp [results, Tryz.f48, go_sem, dateA]
end Go.Proofs.YtfbkkhfmboaknaaGreatDoor
