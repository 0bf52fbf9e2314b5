/-
  Layer 11's reference walked: days, weekdays.
-/
import Derived.Test.YtkdpflgkcnhoiaaDoorFRules
namespace Go.Proofs.YtkdpflgkcnhoiaaDoor
open Go Go.RowKit Go.Shelf
set_option maxRecDepth 100000

set_option maxHeartbeats 1000000 in
theorem rleap_any (y : Int) (w : World) :
    Calls Tryd.prog 42 #[.int .i64 y] w fun e w' => e = .returned (.bool (leapB y)) ∧ w' = w := by
  have z4 := tmod_zero y 4
  have z1 := tmod_zero y 100
  have z0 := tmod_zero y 400
  by_cases h4 : y.tmod 4 = 0
  · by_cases h1 : y.tmod 100 = 0
    · by_cases h0 : y.tmod 400 = 0
      · have HL := Lib.hid (show leapB y = true by unfold leapB; rw [decide_eq_true_eq]; omega)
        clear z4 z1 z0
        go_enter Tryd.func42, Tryd.ntmps42
        go_wp2_with fail
        go_ret
        exact ⟨by rw [HL.out]; rfl, rfl⟩
      · have HL := Lib.hid (show leapB y = false by unfold leapB; rw [decide_eq_false_iff_not]; omega)
        have e0 : (y.tmod 400 == 0) = false := by simpa using h0
        clear z4 z1 z0
        go_enter Tryd.func42, Tryd.ntmps42
        go_wp2_with fail
        go_ret
        exact ⟨by rw [HL.out]; rfl, rfl⟩
    · have HL := Lib.hid (show leapB y = true by unfold leapB; rw [decide_eq_true_eq]; omega)
      have e1 : (y.tmod 100 != 0) = true := by simpa using h1
      clear z4 z1 z0
      go_enter Tryd.func42, Tryd.ntmps42
      go_wp2_with fail
      go_ret
      exact ⟨by rw [HL.out]; rfl, rfl⟩
  · have h0 : ¬ y.tmod 400 = 0 := fun h => h4 (by rw [tmod_zero] at h ⊢; omega)
    have HL := Lib.hid (show leapB y = false by unfold leapB; rw [decide_eq_false_iff_not]; omega)
    have e4 : (y.tmod 4 == 0) = false := by simpa using h4
    have e0 : (y.tmod 400 == 0) = false := by simpa using h0
    clear z4 z1 z0
    go_enter Tryd.func42, Tryd.ntmps42
    go_wp2_with fail
    go_ret
    exact ⟨by rw [HL.out]; rfl, rfl⟩
theorem lens_at (w : World) (k : Nat) (hk : k < 12) : (w.alloc (.cells #[.int .i64 31, .int .i64 28, .int .i64 31, .int .i64 30, .int .i64 31, .int .i64 30, .int .i64 31, .int .i64 31, .int .i64 30, .int .i64 31, .int .i64 30, .int .i64 31] 3)).cell? ⟨w.heap.size, k, none⟩ = some (.int .i64 (aheadV (k + 1) - aheadV k)) := by
  refine (Blk.new w 3 _).cell k ?_
  have : k = 0 ∨ k = 1 ∨ k = 2 ∨ k = 3 ∨ k = 4 ∨ k = 5 ∨ k = 6 ∨ k = 7 ∨ k = 8 ∨ k = 9 ∨ k = 10 ∨ k = 11 := by omega
  rcases this with h | h | h | h | h | h | h | h | h | h | h | h <;> subst h <;> rfl
set_option maxHeartbeats 1000000 in
theorem rlong_any (y m : Int) (h1 : 1 ≤ m) (h2 : m ≤ 12) (w : World) :
    Calls Tryd.prog 29 #[.int .i64 y, .int .i64 m] w fun e w' => e = .returned (.int .i64 (lenV y m)) ∧ Below w.heap.size w w' := by
  obtain ⟨k, rfl, hk⟩ := aheadV_at m h1 h2
  have c := lens_at w k hk
  have HB := Lib.hid ((Below.refl w.heap.size w).alloc (Nat.le_refl _) (.cells #[.int .i64 31, .int .i64 28, .int .i64 31, .int .i64 30, .int .i64 31, .int .i64 30, .int .i64 31, .int .i64 31, .int .i64 30, .int .i64 31, .int .i64 30, .int .i64 31] 3))
  have HL := Lib.hid (fun W => rleap_any y W)
  have HV := Lib.hid (show lenV y (k + 1) = aheadV (k + 1) - aheadV k + if (k : Int) + 1 = 2 then leapsV y else 0 by unfold lenV; rw [show ((k : Int) + 1 - 1).toNat = k by omega, show ((k : Int) + 1).toNat = k + 1 by omega])
  have e1 : (k : Int) + 1 - 1 = k := by omega
  clear h1 h2
  by_cases hk2 : k = 1
  · subst hk2
    cases hl : leapB y with
    | true =>
      have HV2 := Lib.hid (show lenV y ((1 : Nat) + 1) = 29 by rw [HV.out, if_pos (by omega)]; unfold leapsV; rw [hl]; rfl)
      rw [hl] at HL
      clear hl
      go_enter Tryd.func29, Tryd.ntmps29
      go_wp2_with fail
      refine (HL.out _).mono ?_
      rintro e w1 ⟨rfl, rfl⟩
      go_wp2_with fail
      go_ret
      exact ⟨by rw [HV2.out]; rfl, HB.out⟩
    | false =>
      have HV2 := Lib.hid (show lenV y ((1 : Nat) + 1) = aheadV (1 + 1) - aheadV 1 by rw [HV.out, if_pos (by omega)]; unfold leapsV; rw [hl]; rfl)
      rw [hl] at HL
      clear hl
      generalize aheadV (1 + 1) - aheadV 1 = q at *
      go_enter Tryd.func29, Tryd.ntmps29
      go_wp2_with fail
      refine (HL.out _).mono ?_
      rintro e w1 ⟨rfl, rfl⟩
      go_wp2_with fail
      go_ret
      exact ⟨by rw [HV2.out]; rfl, HB.out⟩
  · have hd : ((k : Int) + 1 == 2) = false := by simp; omega
    rw [if_neg (by omega), Int.add_zero] at HV
    generalize aheadV (k + 1) - aheadV k = q at *
    go_enter Tryd.func29, Tryd.ntmps29
    go_wp2_with fail
    go_ret
    exact ⟨by rw [HV.out]; rfl, HB.out⟩
theorem rweek_any (n : Int) (h1 : -1000000000 ≤ n) (h2 : n ≤ 1000000000) (w : World) :
    Calls Tryd.prog 30 #[.int .i64 n] w fun e w' => e = .returned (.int .i64 (weekV n)) ∧ w' = w := by
  have hm := mod_eq (a := n + 4) (b := 7) (by omega)
  have h6 := Int.lt_tmod_of_pos (n + 4) (b := 7) (by omega)
  have h7 := Int.tmod_lt_of_pos (n + 4) (b := 7) (by omega)
  obtain ⟨t, ht⟩ : ∃ t, (n + 4).tmod 7 = t := ⟨_, rfl⟩
  rw [ht] at hm h6 h7
  have HV := Lib.hid (show weekV n = (t + 7) % 7 by
    unfold weekV
    split at hm <;> omega)
  clear hm
  go_enter Tryd.func30, Tryd.ntmps30
  go_wp2_with fail
  go_ret
  exact ⟨by rw [HV.out]; rfl, rfl⟩
set_option maxHeartbeats 2000000 in
theorem rdays_any (y m : Int) (hy1 : 1 ≤ y) (hy2 : y ≤ 4000) (h1 : 1 ≤ m) (h2 : m ≤ 12) (w : World) :
    Calls Tryd.prog 28 #[.int .i64 y, .int .i64 m] w fun e w' => e = .returned (.int .i64 (yearV y + startV y m)) ∧ Below w.heap.size w w' := by
  have HLP := Lib.hid (fun z W => rleap_any z W)
  have HY0 := Lib.hid (show yearV 1970 = 0 by decide)
  have hyb := yearV_in (y := y) (by omega) (by omega)
  have HYM := Lib.hid (show ∀ z, 1 ≤ z → z ≤ 4000 → -2000000 ≤ yearV z ∧ yearV z ≤ 2000000 from fun z h3 h4 => by unfold yearV; omega)
  go_enter Tryd.func28, Tryd.ntmps28
  go_wp2_with fail
  go_loopw [5, 6] (fun nv zv wr => ∃ z : Int, zv = .int .i64 z ∧ 1970 ≤ z ∧ (z ≤ y ∨ z = 1970) ∧ nv = .int .i64 (yearV z) ∧ Below w.heap.size w wr) (fun _ zv _ => (y - intOf zv).toNat)
  case atStart => exact ⟨1970, rfl, by omega, .inr rfl, by rw [HY0.out], Below.refl _ _⟩
  case round =>
    obtain ⟨z, rfl, hz1, hz2, rfl, hbw⟩ := hrel
    have HBW := Lib.hid hbw
    clear hbw
    have hb1 := HYM.out z (by omega) (by omega)
    by_cases hlt : z < y
    · have hd : decide (z < y) = true := decide_eq_true hlt
      have HN := Lib.hid (yearV_next z)
      cases hl : leapB z with
      | true =>
        have HN2 := Lib.hid (show yearV (z + 1) = yearV z + 365 + 1 by rw [HN.out]; unfold leapsV; rw [hl]; rfl)
        have HC := Lib.hid (HLP.out z wr)
        rw [hl] at HC
        clear hl
        generalize yearV z = q at *
        go_wp2_with fail
        refine HC.out.mono ?_
        rintro e w1 ⟨rfl, rfl⟩
        go_wp2_with fail
        go_roundw
        case rel => exact ⟨z + 1, by first | rfl | go_num, by omega, .inl (by omega), by rw [HN2.out], HBW.out⟩
        case measure => simp [intOf]; omega
      | false =>
        have HN2 := Lib.hid (show yearV (z + 1) = yearV z + 365 by rw [HN.out]; unfold leapsV; rw [hl]; simp)
        have HC := Lib.hid (HLP.out z wr)
        rw [hl] at HC
        clear hl
        generalize yearV z = q at *
        go_wp2_with fail
        refine HC.out.mono ?_
        rintro e w1 ⟨rfl, rfl⟩
        go_wp2_with fail
        go_roundw
        case rel => exact ⟨z + 1, by first | rfl | go_num, by omega, .inl (by omega), by rw [HN2.out], HBW.out⟩
        case measure => simp [intOf]; omega
    · have hd : decide (z < y) = false := decide_eq_false hlt
      go_wp2_with fail
      go_loopw [5, 7] (fun nv zv wi => ∃ z2 : Int, zv = .int .i64 z2 ∧ y ≤ z2 ∧ (z2 ≤ 1970 ∨ z2 = y) ∧ nv = .int .i64 (yearV z + yearV y - yearV z2) ∧ Below w.heap.size w wi) (fun _ zv _ => (1970 - intOf zv).toNat)
      case atStart => exact ⟨y, rfl, Int.le_refl _, .inr rfl, by rw [show yearV z + yearV y - yearV y = yearV z by omega], HBW.out⟩
      case round =>
        obtain ⟨z2, rfl, hz3, hz4, rfl, hbi⟩ := hrel
        have HBI := Lib.hid hbi
        clear hbi
        have hb2 := HYM.out z2 (by omega) (by omega)
        by_cases hlt2 : z2 < 1970
        · have hd2 : decide (z2 < 1970) = true := decide_eq_true hlt2
          have HN := Lib.hid (yearV_next z2)
          cases hl : leapB z2 with
          | true =>
            have HN2 := Lib.hid (show yearV z + yearV y - yearV (z2 + 1) = yearV z + yearV y - yearV z2 - 365 - 1 by rw [HN.out]; unfold leapsV; rw [hl]; simp; omega)
            have HC := Lib.hid (HLP.out z2 wr)
            rw [hl] at HC
            clear hl
            obtain ⟨q, hq⟩ : ∃ q, yearV z + yearV y - yearV z2 = q := ⟨_, rfl⟩
            rw [hq] at HN2 ⊢
            have hqb : -90000000 ≤ q ∧ q ≤ 90000000 := by omega
            clear hq
            go_wp2_with fail
            refine HC.out.mono ?_
            rintro e w1 ⟨rfl, rfl⟩
            go_wp2_with fail
            go_roundw
            case rel => exact ⟨z2 + 1, by first | rfl | go_num, by omega, .inl (by omega), by rw [HN2.out], HBI.out⟩
            case measure => simp [intOf]; omega
          | false =>
            have HN2 := Lib.hid (show yearV z + yearV y - yearV (z2 + 1) = yearV z + yearV y - yearV z2 - 365 by rw [HN.out]; unfold leapsV; rw [hl]; simp; omega)
            have HC := Lib.hid (HLP.out z2 wr)
            rw [hl] at HC
            clear hl
            obtain ⟨q, hq⟩ : ∃ q, yearV z + yearV y - yearV z2 = q := ⟨_, rfl⟩
            rw [hq] at HN2 ⊢
            have hqb : -90000000 ≤ q ∧ q ≤ 90000000 := by omega
            clear hq
            go_wp2_with fail
            refine HC.out.mono ?_
            rintro e w1 ⟨rfl, rfl⟩
            go_wp2_with fail
            go_roundw
            case rel => exact ⟨z2 + 1, by first | rfl | go_num, by omega, .inl (by omega), by rw [HN2.out], HBI.out⟩
            case measure => simp [intOf]; omega
        · have hd2 : decide (z2 < 1970) = false := decide_eq_false hlt2
          have hval : yearV z + yearV y - yearV z2 = yearV y := by
            by_cases h3 : y ≤ 1970
            · rw [show z = 1970 by omega, show z2 = 1970 by omega]
              omega
            · rw [show z = y by omega, show z2 = y by omega]
              omega
          rw [hval]
          have HS1 := Lib.hid (startV_one y)
          clear hval
          go_wp2_with fail
          go_loopw [5, 8] (fun nv mv wj => ∃ k : Int, mv = .int .i64 k ∧ 1 ≤ k ∧ k ≤ m ∧ nv = .int .i64 (yearV y + startV y k) ∧ Below w.heap.size w wj) (fun _ mv _ => (m - intOf mv).toNat)
          case atStart => exact ⟨1, rfl, by omega, h1, by rw [HS1.out, Int.add_zero], HBI.out⟩
          case round =>
            obtain ⟨k, rfl, hk1, hk2, rfl, hbj⟩ := hrel
            have HBJ := Lib.hid hbj
            have hsz := hbj.size
            clear hbj
            have hsb := startV_in y k
            by_cases hlt3 : k < m
            · have hd3 : decide (k < m) = true := decide_eq_true hlt3
              have HL := Lib.hid (rlong_any y k hk1 (by omega) wr)
              have hlb := lenV_in (y := y) hk1 (show k ≤ 12 by omega)
              have HN := Lib.hid (show yearV y + startV y (k + 1) = yearV y + startV y k + lenV y k by rw [startV_next hk1 (by omega)]; omega)
              obtain ⟨q, hq⟩ : ∃ q, yearV y + startV y k = q := ⟨_, rfl⟩
              rw [hq] at HN ⊢
              have hqb : -10000000 ≤ q ∧ q ≤ 10000000 := by have := HYM.out y hy1 hy2; omega
              generalize lenV y k = ln at *
              clear hq
              go_wp2_with fail
              refine HL.out.mono ?_
              rintro e w1 ⟨rfl, hb⟩
              have HB1 := Lib.hid (HBJ.out.trans (hb.mono hsz))
              clear hb
              go_wp2_with fail
              go_roundw
              case rel => exact ⟨k + 1, by first | rfl | go_num, by omega, by omega, by rw [HN.out], HB1.out⟩
              case measure => simp [intOf]; omega
            · obtain rfl : k = m := by omega
              have hd3 : decide (k < k) = false := decide_eq_false hlt3
              go_wp2_with fail
              go_ret
              exact ⟨rfl, HBJ.out⟩
end Go.Proofs.YtkdpflgkcnhoiaaDoor
