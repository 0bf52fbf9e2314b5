/-
  Layer 2 walked: how long a month is, which day a date is.
-/
import Derived.Test.YtfbkkhfmboaknaaGreatDoorCivil
import Derived.Test.YtfbkkhfmboaknaaGreatDoorEnv
import Derived.Test.YtfbkkhfmboaknaaGreatDoorSerialC
import Derived.Test.YtfbkkhfmboaknaaGreatDoorNBase
namespace Go.Proofs.YtfbkkhfmboaknaaGreatDoor
open Go Go.RowKit Go.Shelf
set_option maxRecDepth 100000

/-- The package's table reads as its text lays it. -/
def Ahead (w : World) : Prop := ∀ k, k < 13 → w.cell? ⟨0, k, none⟩ = some (.int .i64 (aheadV k))
theorem Ahead.below {B : Nat} {w w' : World} (h : Ahead w) (hb : Below B w w') (hB : w.heap.size ≤ B) : Ahead w' := fun k hk =>
  (hb.cell (Nat.lt_of_lt_of_le (World.block_lt_of_cell? w _ (h k hk)) hB)).trans (h k hk)
theorem Ahead.drewN {w : World} (h : Ahead w) (n : Nat) : Ahead (w.drewN n) := h
theorem aheadV_at (m : Int) (h1 : 1 ≤ m) (h2 : m ≤ 12) : ∃ k : Nat, m = (k : Int) + 1 ∧ k < 12 := ⟨(m - 1).toNat, by omega, by omega⟩
set_option maxHeartbeats 1000000 in
theorem start_any (y m : Int) (h1 : 1 ≤ m) (h2 : m ≤ 12) (w : World) (ha : Ahead w) :
    Calls Tryz.prog 83 #[.int .i64 y, .int .i64 m] w fun e w' => e = .returned (.int .i64 (startV y m)) ∧ w' = w := by
  obtain ⟨k, rfl, hk⟩ := aheadV_at m h1 h2
  have c := ha k (by omega)
  have HL := Lib.hid (leaps_any y w)
  have hl := leapsV_in y
  have hv := aheadV_in k
  have HV := Lib.hid (show startV y (k + 1) = aheadV k + if 2 < (k : Int) + 1 then leapsV y else 0 by unfold startV; rw [show ((k : Int) + 1 - 1).toNat = k by omega])
  have e1 : (k : Int) + 1 - 1 = k := by omega
  generalize aheadV k = a at *
  generalize leapsV y = q at *
  clear ha h1 h2
  by_cases h : 2 < (k : Int) + 1
  · rw [if_pos h] at HV
    go_enter Tryz.func83, Tryz.ntmps83
    go_wp2_with fail
    refine HL.out.mono ?_
    rintro e w1 ⟨rfl, rfl⟩
    go_wp2_with fail
    go_ret
    exact ⟨by rw [HV.out]; rfl, rfl⟩
  · rw [if_neg h, Int.add_zero] at HV
    go_enter Tryz.func83, Tryz.ntmps83
    go_wp2_with fail
    go_ret
    exact ⟨by rw [HV.out]; rfl, rfl⟩
set_option maxHeartbeats 1000000 in
theorem long_any (y m : Int) (w : World) (ha : Ahead w) :
    Calls Tryz.prog 95 #[.int .i64 y, .int .i64 m] w fun e w' => e = .returned (.tuple #[.int .i64 (longV y m).1, .int .i64 (longV y m).2]) ∧ ∃ n, w' = w.drewN n := by
  by_cases h : ymB y m = true
  · have hE : longV y m = (lenV y m, 0) := by unfold longV; rw [if_pos h]
    rw [hE]
    unfold ymB at h
    rw [decide_eq_true_eq] at h
    obtain ⟨h1, h2, h3, h4⟩ := h
    obtain ⟨k, rfl, hk⟩ := aheadV_at m h3 h4
    have c := ha k (by omega)
    have d := ha (k + 1) (by omega)
    have HL := Lib.hid (fun W => leaps_any y W)
    have hl := leapsV_in y
    have hv := aheadV_in k
    have hu := aheadV_in (k + 1)
    have HV := Lib.hid (show lenV y (k + 1) = aheadV (k + 1) - aheadV k + if (k : Int) + 1 = 2 then leapsV y else 0 by unfold lenV; rw [show ((k : Int) + 1 - 1).toNat = k by omega, show ((k : Int) + 1).toNat = k + 1 by omega])
    have e1 : (k : Int) + 1 - 1 = k := by omega
    clear hE
    generalize aheadV k = a at *
    generalize aheadV (k + 1) = b at *
    generalize leapsV y = q at *
    clear ha h3 h4
    by_cases h : (k : Int) + 1 = 2
    · rw [if_pos h] at HV
      obtain rfl : k = 1 := by omega
      go_enter Tryz.func95, Tryz.ntmps95
      go_wp2_with fail
      go_quiet (fail)
      go_wp2_with fail
      refine (HL.out _).mono ?_
      rintro e w1 ⟨rfl, rfl⟩
      go_wp2_with fail
      refine bodyPost_ret (v := .tuple #[.int .i64 (b - a + q), .int .i64 0]) ?_ rfl ⟨by rw [HV.out], _, rfl⟩
      simp [results, Tryz.f95, go_sem]
    · rw [if_neg h, Int.add_zero] at HV
      have hk1 : ((k : Int) + 1 == 2) = false := by simpa using h
      go_enter Tryz.func95, Tryz.ntmps95
      go_wp2_with fail
      go_quiet (fail)
      go_wp2_with fail
      refine bodyPost_ret (v := .tuple #[.int .i64 (b - a), .int .i64 0]) ?_ rfl ⟨by rw [HV.out], _, rfl⟩
      simp [results, Tryz.f95, go_sem]
  · have hE : longV y m = (0, 10) := by unfold longV; rw [if_neg h]
    rw [hE]
    have HE : ∀ c : Array Value, c = #[.int .i64 0, .int .i64 10] → c = #[.int .i64 (0, (10 : Int)).1, .int .i64 ((0 : Int), (10 : Int)).2] := fun c h => h
    unfold ymB at h
    rw [decide_eq_true_eq] at h
    by_cases h1 : y < -100000
    · clear h
      go_enter Tryz.func95, Tryz.ntmps95
      go_wp2_with fail
      refine bodyPost_ret (v := .tuple #[.int .i64 0, .int .i64 10]) ?_ rfl ⟨rfl, 0, rfl⟩
      simp [results, Tryz.f95, go_sem]
    · by_cases h2 : 100000 < y
      · clear h
        go_enter Tryz.func95, Tryz.ntmps95
        go_wp2_with fail
        refine bodyPost_ret (v := .tuple #[.int .i64 0, .int .i64 10]) ?_ rfl ⟨rfl, 0, rfl⟩
        simp [results, Tryz.f95, go_sem]
      · by_cases h3 : m < 1
        · clear h
          go_enter Tryz.func95, Tryz.ntmps95
          go_wp2_with fail
          refine bodyPost_ret (v := .tuple #[.int .i64 0, .int .i64 10]) ?_ rfl ⟨rfl, 0, rfl⟩
          simp [results, Tryz.f95, go_sem]
        · have h4 : 12 < m := by omega
          clear h
          go_enter Tryz.func95, Tryz.ntmps95
          go_wp2_with fail
          refine bodyPost_ret (v := .tuple #[.int .i64 0, .int .i64 10]) ?_ rfl ⟨rfl, 0, rfl⟩
          simp [results, Tryz.f95, go_sem]
end Go.Proofs.YtfbkkhfmboaknaaGreatDoor
