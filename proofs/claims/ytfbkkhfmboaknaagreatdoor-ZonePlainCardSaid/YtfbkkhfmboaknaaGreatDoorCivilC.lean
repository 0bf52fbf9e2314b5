/-
  Layer 2 walked: Check, Days.
-/
import Derived.Test.YtfbkkhfmboaknaaGreatDoorCivilB
namespace Go.Proofs.YtfbkkhfmboaknaaGreatDoor
open Go Go.RowKit Go.Shelf
set_option maxRecDepth 100000

def dateA (y m d : Int) : Value := .agg #[.int .i64 y, .int .i64 m, .int .i64 d]
def checkV (y m d : Int) : Int := if dateB y m d then 0 else 10
theorem below_drewN' {B : Nat} {w w' : World} (h : Below B w w') (n : Nat) : Below B w (w'.drewN n) := below_drewN h n
set_option maxHeartbeats 1000000 in
theorem dcheck_any (y m d : Int) (w : World) (ha : Ahead w) :
    Calls Tryz.prog 121 #[dateA y m d] w fun e w' => e = .returned (.int .i64 (checkV y m d)) ∧ Below w.heap.size w w' := by
  have HB0 := Lib.hid ((Below.refl w.heap.size w).alloc (Nat.le_refl _) (.cells #[.int .i64 y, .int .i64 m, .int .i64 d] 78))
  have HQ0 := Blk.new w 78 #[.int .i64 y, .int .i64 m, .int .i64 d]
  have HL := Lib.hid (long_any y m (w.alloc (.cells #[.int .i64 y, .int .i64 m, .int .i64 d] 78)) (ha.below HB0.out (Nat.le_refl _)))
  have HD := Lib.hid (fun n => (HQ0.drewN n).cell 2 (v := .int .i64 d) rfl)
  clear HQ0
  unfold dateA
  by_cases h : ymB y m = true
  · have hE : longV y m = (lenV y m, 0) := by unfold longV; rw [if_pos h]
    rw [hE] at HL
    have HV := Lib.hid (show checkV y m d = if 1 ≤ d ∧ d ≤ lenV y m then 0 else 10 by unfold checkV dateB; rw [h, Bool.true_and]; simp only [decide_eq_true_eq])
    clear hE h
    generalize lenV y m = l at *
    by_cases h1 : 1 ≤ d
    · by_cases h2 : d ≤ l
      · rw [if_pos ⟨h1, h2⟩] at HV
        go_enter Tryz.func121, Tryz.ntmps121
        go_wp2_with fail
        refine HL.out.mono ?_
        rintro e w1 ⟨rfl, n, rfl⟩
        have d2 := HD.out n
        have HB1 := Lib.hid (below_drewN HB0.out n)
        go_wp2_with fail
        go_ret
        exact ⟨by rw [HV.out]; rfl, HB1.out⟩
      · rw [if_neg (by omega)] at HV
        go_enter Tryz.func121, Tryz.ntmps121
        go_wp2_with fail
        refine HL.out.mono ?_
        rintro e w1 ⟨rfl, n, rfl⟩
        have d2 := HD.out n
        have HB1 := Lib.hid (below_drewN HB0.out n)
        go_wp2_with fail
        go_ret
        exact ⟨by rw [HV.out]; rfl, HB1.out⟩
    · rw [if_neg (by omega)] at HV
      go_enter Tryz.func121, Tryz.ntmps121
      go_wp2_with fail
      refine HL.out.mono ?_
      rintro e w1 ⟨rfl, n, rfl⟩
      have d2 := HD.out n
      have HB1 := Lib.hid (below_drewN HB0.out n)
      go_wp2_with fail
      go_ret
      exact ⟨by rw [HV.out]; rfl, HB1.out⟩
  · have hE : longV y m = (0, 10) := by unfold longV; rw [if_neg h]
    rw [hE] at HL
    have HV := Lib.hid (show checkV y m d = 10 by unfold checkV dateB; rw [Bool.eq_false_iff.2 h]; rfl)
    clear hE h
    go_enter Tryz.func121, Tryz.ntmps121
    go_wp2_with fail
    refine HL.out.mono ?_
    rintro e w1 ⟨rfl, n, rfl⟩
    have d2 := HD.out n
    have HB1 := Lib.hid (below_drewN HB0.out n)
    go_wp2_with fail
    go_ret
    exact ⟨by rw [HV.out]; rfl, HB1.out⟩
set_option maxHeartbeats 1000000 in
theorem days_any (y m d : Int) (w : World) (ha : Ahead w) :
    Calls Tryz.prog 96 #[dateA y m d] w fun e w' => e = .returned (if dateB y m d then .tuple #[.int .i64 (dayV y m d), .int .i64 0] else .tuple #[.int .i64 0, .int .i64 10]) ∧ Below w.heap.size w w' := by
  have HB0 := Lib.hid ((Below.refl w.heap.size w).alloc (Nat.le_refl _) (.cells #[.int .i64 y, .int .i64 m, .int .i64 d] 78))
  have HQ0 := Lib.hid (Blk.new w 78 #[.int .i64 y, .int .i64 m, .int .i64 d])
  have HA := Lib.hid (ha.below HB0.out (Nat.le_refl _))
  have HL := Lib.hid (dcheck_any y m d _ HA.out)
  unfold checkV at HL
  unfold dateA at *
  cases h : dateB y m d
  · rw [h] at HL
    clear h
    go_enter Tryz.func96, Tryz.ntmps96
    go_wp2_with fail
    refine HL.out.mono ?_
    rintro e w1 ⟨rfl, hb⟩
    have HB1 := Lib.hid (HB0.out.trans (hb.mono HB0.out.size))
    clear hb
    go_wp2_with fail
    refine bodyPost_ret (v := .tuple #[.int .i64 0, .int .i64 10]) ?_ rfl ⟨rfl, HB1.out⟩
    simp [results, Tryz.f96, go_sem]
  · rw [h] at HL
    obtain ⟨h1, h2, h3, h4, h5, h6⟩ := dateB_in h
    have hy := yearV_in (y := y) (by omega) (by omega)
    have hs := startV_in y m
    have hlen := lenV_in (y := y) h3 h4
    have HY := Lib.hid (fun W => year_any y (by omega) (by omega) W)
    have HS := Lib.hid (fun W ha => start_any y m h3 h4 W ha)
    have HV := Lib.hid (show dayV y m d = yearV y + startV y m + d - 1 from rfl)
    clear h
    generalize dayV y m d = v at *
    generalize yearV y = a at *
    generalize startV y m = b at *
    generalize lenV y m = c at *
    go_enter Tryz.func96, Tryz.ntmps96
    go_wp2_with fail
    refine HL.out.mono ?_
    rintro e w1 ⟨rfl, hb⟩
    have HB1 := Lib.hid (HB0.out.trans (hb.mono HB0.out.size))
    have hQ1 := HQ0.out.below hb HQ0.out.lt
    have HA1 := Lib.hid (HA.out.below hb (Nat.le_refl _))
    have q0 := hQ1.cell 0 (v := .int .i64 y) rfl
    have q1 := hQ1.cell 1 (v := .int .i64 m) rfl
    have q2 := hQ1.cell 2 (v := .int .i64 d) rfl
    clear hb hQ1
    go_wp2_with fail
    go_quiet (first
      | (go_at_call 81; exact Calls.quiet_of_same (HY.out _))
      | (go_at_call 83; exact Calls.quiet_of_same (HS.out _ HA1.out)))
    go_wp2_with fail
    refine bodyPost_ret (v := .tuple #[.int .i64 v, .int .i64 0]) ?_ rfl ⟨rfl, below_drewN HB1.out _⟩
    rw [HV.out]
    simp [results, Tryz.f96, go_sem]
end Go.Proofs.YtfbkkhfmboaknaaGreatDoor
