/-
  Layers 1 and 2 walked: quotients, the calendar.
-/
import Derived.Deep.QuietTactic
import Derived.BigQuiet
import Derived.Shelf.RegionOpen
import Derived.WalkKit
import Derived.WalkSpells
import Derived.WalkLawsBesides
import Derived.Lib.Hide
import Derived.Lib.Walk
import Derived.Lib.MinMax
import Derived.IntWalk
import Derived.Test.YtfbkkhfmboaknaaGreatDoorBase
import Derived.Test.YtfbkkhfmboaknaaGreatDoorCMath
import Derived.Test.YtfbkkhfmboaknaaGreatDoorChecked
namespace Go.Proofs.YtfbkkhfmboaknaaGreatDoor
open Go Go.RowKit Go.Shelf
set_option maxRecDepth 100000

theorem div_ge {a b : Int} (hb : 0 < b) (ha : a ≤ 0) : a ≤ a / b := by
  refine (Int.le_ediv_iff_mul_le hb).2 ?_
  have : a * b ≤ a * 1 := Int.mul_le_mul_of_nonpos_left ha (show (1 : Int) ≤ b by omega)
  omega
set_option maxHeartbeats 1000000 in
theorem leap_any (y : Int) (w : World) :
    Calls Tryz.prog 135 #[.int .i64 y] w fun e w' => e = .returned (.bool (leapB y)) ∧ w' = w := by
  have z4 := tmod_zero y 4
  have z1 := tmod_zero y 100
  have z0 := tmod_zero y 400
  by_cases h4 : y.tmod 4 = 0
  · by_cases h1 : y.tmod 100 = 0
    · by_cases h0 : y.tmod 400 = 0
      · have HL := Lib.hid (show leapB y = true by unfold leapB; rw [decide_eq_true_eq]; omega)
        clear z4 z1 z0
        go_enter Tryz.func135, Tryz.ntmps135
        go_wp2_with fail
        go_ret
        exact ⟨by rw [HL.out]; rfl, rfl⟩
      · have HL := Lib.hid (show leapB y = false by unfold leapB; rw [decide_eq_false_iff_not]; omega)
        have e0 : (y.tmod 400 == 0) = false := by simpa using h0
        clear z4 z1 z0
        go_enter Tryz.func135, Tryz.ntmps135
        go_wp2_with fail
        go_ret
        exact ⟨by rw [HL.out]; rfl, rfl⟩
    · have HL := Lib.hid (show leapB y = true by unfold leapB; rw [decide_eq_true_eq]; omega)
      have e1 : (y.tmod 100 != 0) = true := by simpa using h1
      clear z4 z1 z0
      go_enter Tryz.func135, Tryz.ntmps135
      go_wp2_with fail
      go_ret
      exact ⟨by rw [HL.out]; rfl, rfl⟩
  · have HL := Lib.hid (show leapB y = false by unfold leapB; rw [decide_eq_false_iff_not]; omega)
    have e4 : (y.tmod 4 == 0) = false := by simpa using h4
    clear z4 z1 z0
    go_enter Tryz.func135, Tryz.ntmps135
    go_wp2_with fail
    go_ret
    exact ⟨by rw [HL.out]; rfl, rfl⟩
theorem leaps_any (y : Int) (w : World) :
    Calls Tryz.prog 112 #[.int .i64 y] w fun e w' => e = .returned (.int .i64 (leapsV y)) ∧ w' = w := by
  have HL := Lib.hid (leap_any y w)
  cases h : leapB y
  · have HV := Lib.hid (show leapsV y = 0 by unfold leapsV; rw [h]; rfl)
    rw [h] at HL
    clear h
    go_enter Tryz.func112, Tryz.ntmps112
    go_wp2_with fail
    refine HL.out.mono ?_
    rintro e w1 ⟨rfl, rfl⟩
    go_wp2_with fail
    go_ret
    exact ⟨by rw [HV.out]; rfl, rfl⟩
  · have HV := Lib.hid (show leapsV y = 1 by unfold leapsV; rw [h]; rfl)
    rw [h] at HL
    clear h
    go_enter Tryz.func112, Tryz.ntmps112
    go_wp2_with fail
    refine HL.out.mono ?_
    rintro e w1 ⟨rfl, rfl⟩
    go_wp2_with fail
    go_ret
    exact ⟨by rw [HV.out]; rfl, rfl⟩
set_option maxHeartbeats 1000000 in
theorem div_any (a b : Int) (hb : 0 < b) (ha : -9223372036854775808 ≤ a) (ha2 : a ≤ 9223372036854775807) (w : World) :
    Calls Tryz.prog 47 #[.int .i64 a, .int .i64 b] w fun e w' => e = .returned (.tuple #[.int .i64 (a / b), .int .i64 0]) ∧ w' = w := by
  have hF := floor_eq (a := a) hb
  have hG := fun h => div_ge (a := a) hb h
  have e1 : (b == 0) = false := by simp; omega
  have e2 : (b == -1) = false := by simp; omega
  have e3 : decide (b < 0) = false := by simp; omega
  by_cases h : a.tmod b = 0
  · rw [if_neg (by omega)] at hF
    rw [hF]
    have e4 : (a.tmod b != 0) = false := by simpa using h
    clear hF hG h
    go_enter Tryz.func47, Tryz.ntmps47
    go_wp2_with fail
    refine bodyPost_ret (v := .tuple #[.int .i64 (a.tdiv b), .int .i64 0]) ?_ rfl ⟨rfl, rfl⟩
    simp [results, Tryz.f47, go_sem, *]
  · have e4 : (a.tmod b != 0) = true := by simpa using h
    by_cases h2 : a < 0
    · rw [if_pos ⟨h, h2⟩] at hF
      have hg := hG (by omega)
      have hq : wrap64 (a.tdiv b - 1) = a.tdiv b - 1 := IntWalk.wrap64_in _ (by
        have := Int.ediv_neg_of_neg_of_pos h2 hb
        omega)
      rw [hF]
      have e5 : decide (a < 0) = true := decide_eq_true h2
      clear hF hG h hg h2
      go_enter Tryz.func47, Tryz.ntmps47
      go_wp2_with fail
      refine bodyPost_ret (v := .tuple #[.int .i64 (a.tdiv b - 1), .int .i64 0]) ?_ rfl ⟨rfl, rfl⟩
      simp [results, Tryz.f47, go_sem, *]
    · rw [if_neg (by omega)] at hF
      rw [hF]
      have e5 : decide (a < 0) = false := decide_eq_false h2
      clear hF hG h h2
      go_enter Tryz.func47, Tryz.ntmps47
      go_wp2_with fail
      refine bodyPost_ret (v := .tuple #[.int .i64 (a.tdiv b), .int .i64 0]) ?_ rfl ⟨rfl, rfl⟩
      simp [results, Tryz.f47, go_sem, *]
theorem floor_any (a b : Int) (hb : 0 < b) (ha : -9223372036854775808 ≤ a) (ha2 : a ≤ 9223372036854775807) (w : World) :
    Calls Tryz.prog 82 #[.int .i64 a, .int .i64 b] w fun e w' => e = .returned (.int .i64 (a / b)) ∧ w' = w := by
  have HD := Lib.hid (div_any a b hb ha ha2 w)
  generalize a / b = q at *
  go_enter Tryz.func82, Tryz.ntmps82
  go_wp2_with fail
  refine HD.out.mono ?_
  rintro e w1 ⟨rfl, rfl⟩
  go_wp2_with fail
  go_ret
  exact ⟨rfl, rfl⟩
set_option maxHeartbeats 1000000 in
theorem mod_any (a b : Int) (hb : 0 < b) (hb2 : b < 4611686018427387904) (w : World) :
    Calls Tryz.prog 123 #[.int .i64 a, .int .i64 b] w fun e w' => e = .returned (.tuple #[.int .i64 (a % b), .int .i64 0]) ∧ w' = w := by
  have hF := mod_eq (a := a) hb
  have h6 := Int.lt_tmod_of_pos a hb
  have h7 := Int.tmod_lt_of_pos a hb
  have e1 : (b == 0) = false := by simp; omega
  have e3 : decide (b < 0) = false := by simp; omega
  by_cases h : a.tmod b = 0
  · rw [if_neg (by omega)] at hF
    rw [hF]
    have e4 : (a.tmod b != 0) = false := by simpa using h
    clear hF h h6 h7
    go_enter Tryz.func123, Tryz.ntmps123
    go_wp2_with fail
    refine bodyPost_ret (v := .tuple #[.int .i64 (a.tmod b), .int .i64 0]) ?_ rfl ⟨rfl, rfl⟩
    simp [results, Tryz.f123, go_sem, *]
  · have e4 : (a.tmod b != 0) = true := by simpa using h
    by_cases h2 : a.tmod b < 0
    · rw [if_pos ⟨h, h2⟩] at hF
      have hq : wrap64 (a.tmod b + b) = a.tmod b + b := IntWalk.wrap64_in _ ⟨by omega, by omega⟩
      rw [hF]
      have e5 : decide (a.tmod b < 0) = true := decide_eq_true h2
      clear hF h h2 h6 h7
      go_enter Tryz.func123, Tryz.ntmps123
      go_wp2_with fail
      refine bodyPost_ret (v := .tuple #[.int .i64 (a.tmod b + b), .int .i64 0]) ?_ rfl ⟨rfl, rfl⟩
      simp [results, Tryz.f123, go_sem, *]
    · rw [if_neg (by omega)] at hF
      rw [hF]
      have e5 : decide (a.tmod b < 0) = false := decide_eq_false h2
      clear hF h h2 h6 h7
      go_enter Tryz.func123, Tryz.ntmps123
      go_wp2_with fail
      refine bodyPost_ret (v := .tuple #[.int .i64 (a.tmod b), .int .i64 0]) ?_ rfl ⟨rfl, rfl⟩
      simp [results, Tryz.f123, go_sem, *]
theorem weekday_any (n : Int) (w : World) :
    Calls Tryz.prog 98 #[.int .i64 n] w fun e w' => e = .returned (.int .i64 (weekV n)) ∧ w' = w := by
  have HD := Lib.hid (mod_any n 7 (by omega) (by omega) w)
  have h1 : 0 ≤ n % 7 := by omega
  have h2 : n % 7 < 7 := by omega
  have HV := Lib.hid (show weekV n = (n % 7 + 4) % 7 from rfl)
  generalize n % 7 = q at *
  go_enter Tryz.func98, Tryz.ntmps98
  go_wp2_with fail
  refine HD.out.mono ?_
  rintro e w1 ⟨rfl, rfl⟩
  go_wp2_with fail
  go_ret
  exact ⟨by rw [HV.out]; rfl, rfl⟩
set_option maxHeartbeats 1000000 in
theorem year_any (y : Int) (h1 : -100001 ≤ y) (h2 : y ≤ 100001) (w : World) :
    Calls Tryz.prog 81 #[.int .i64 y] w fun e w' => e = .returned (.int .i64 (yearV y)) ∧ w' = w := by
  have H4 := Lib.hid (floor_any (y - 1) 4 (by omega) (by omega) (by omega) w)
  have H1 := Lib.hid (floor_any (y - 1) 100 (by omega) (by omega) (by omega) w)
  have H0 := Lib.hid (floor_any (y - 1) 400 (by omega) (by omega) (by omega) w)
  have HV := Lib.hid (show yearV y = (y - 1) * 365 + (y - 1) / 4 - (y - 1) / 100 + (y - 1) / 400 - 719162 from rfl)
  have b4 : -100002 ≤ (y - 1) / 4 ∧ (y - 1) / 4 ≤ 100002 := by omega
  have b1 : -100002 ≤ (y - 1) / 100 ∧ (y - 1) / 100 ≤ 100002 := by omega
  have b0 : -100002 ≤ (y - 1) / 400 ∧ (y - 1) / 400 ≤ 100002 := by omega
  have b3 : -100002 ≤ (y - 1) ∧ (y - 1) ≤ 100002 := by omega
  generalize (y - 1) / 4 = q4 at *
  generalize (y - 1) / 100 = q1 at *
  generalize (y - 1) / 400 = q0 at *
  go_enter Tryz.func81, Tryz.ntmps81
  go_wp2_with fail
  refine H4.out.mono ?_
  rintro e w1 ⟨rfl, rfl⟩
  go_wp2_with fail
  refine H1.out.mono ?_
  rintro e w1 ⟨rfl, rfl⟩
  go_wp2_with fail
  refine H0.out.mono ?_
  rintro e w1 ⟨rfl, rfl⟩
  go_wp2_with fail
  go_ret
  exact ⟨by rw [HV.out]; rfl, rfl⟩
end Go.Proofs.YtfbkkhfmboaknaaGreatDoor
