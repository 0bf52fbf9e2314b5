/-
  The calendar, as numbers: which date a day is.
-/
import Derived.Test.YtfbkkhfmboaknaaGreatDoorCMath
namespace Go.Proofs.YtfbkkhfmboaknaaGreatDoor
open Go
set_option maxRecDepth 100000

/-- The month of a day of a year (counted from 0 on), no later than the k-th. -/
def monV (y n : Int) : Nat → Int
  | 0 => 0
  | k + 1 => if n < startV y ((k : Int) + 1) then monV y n k else (k : Int) + 1
/-- Which year a day is in, and which day of it, from 0 on. -/
def ofC (n : Int) : Int := (n + 719162) / 146097
def ofE (n : Int) : Int := min ((n + 719162 - ofC n * 146097) / 36524) 3
def ofO (n : Int) : Int := (n + 719162 - ofC n * 146097 - ofE n * 36524) / 1461
def ofY (n : Int) : Int := min ((n + 719162 - ofC n * 146097 - ofE n * 36524 - ofO n * 1461) / 365) 3
def ofR (n : Int) : Int := n + 719162 - ofC n * 146097 - ofE n * 36524 - ofO n * 1461 - ofY n * 365
def ofYear (n : Int) : Int := ofC n * 400 + ofE n * 100 + ofO n * 4 + ofY n + 1
theorem startV_one (y : Int) : startV y 1 = 0 := by unfold startV; simp [aheadV]
theorem startV_mono {y : Int} : ∀ (k : Nat) {j : Nat}, k < 12 → j ≤ k → startV y ((j : Int) + 1) ≤ startV y ((k : Int) + 1)
  | 0, j, _, h => by obtain rfl : j = 0 := by omega
                     exact Int.le_refl _
  | k + 1, j, hk, h => by
    by_cases e : j = k + 1
    · subst e; exact Int.le_refl _
    · have h1 := startV_mono (y := y) k (j := j) (by omega) (by omega)
      have h2 := startV_next (y := y) (m := (k : Int) + 1) (by omega) (by omega)
      have h3 := lenV_in (y := y) (m := (k : Int) + 1) (by omega) (by omega)
      rw [show ((k + 1 : Nat) : Int) + 1 = (k : Int) + 1 + 1 by omega]
      omega
theorem monV_spec {y n : Int} (h0 : 0 ≤ n) : ∀ (k : Nat), 1 ≤ k → k ≤ 12 → 1 ≤ monV y n k ∧ monV y n k ≤ k ∧ startV y (monV y n k) ≤ n ∧ (monV y n k < k → n < startV y (monV y n k + 1))
  | 0, h, _ => by omega
  | k + 1, _, hk => by
    unfold monV
    by_cases h : n < startV y ((k : Int) + 1)
    · rw [if_pos h]
      have hk1 : 1 ≤ k := by
        rcases k with _ | k
        · rw [show ((0 : Nat) : Int) + 1 = 1 from rfl, startV_one] at h
          omega
        · omega
      obtain ⟨a, b, c, d⟩ := monV_spec (y := y) h0 k hk1 (by omega)
      refine ⟨a, by omega, c, fun _ => ?_⟩
      by_cases e : monV y n k < k
      · exact d e
      · rw [show monV y n k = (k : Int) by omega]
        exact h
    · rw [if_neg h]
      exact ⟨by omega, by omega, by omega, fun h => by omega⟩
theorem of_parts (n : Int) : 0 ≤ ofE n ∧ ofE n ≤ 3 ∧ 0 ≤ ofO n ∧ ofO n ≤ 24 ∧ 0 ≤ ofY n ∧ ofY n ≤ 3 ∧ 0 ≤ ofR n ∧ ofR n ≤ 365 ∧ (ofR n = 365 → ofY n = 3 ∧ (ofO n = 24 → ofE n = 3)) := by
  unfold ofR ofY ofO ofE ofC
  omega
theorem of_back (n : Int) : yearV (ofYear n) + ofR n = n := by
  have h := of_parts n
  have hr : ofR n = n + 719162 - ofC n * 146097 - ofE n * 36524 - ofO n * 1461 - ofY n * 365 := rfl
  unfold yearV ofYear
  generalize ofE n = e at *
  generalize ofO n = o at *
  generalize ofY n = y at *
  generalize ofC n = c at *
  generalize ofR n = r at *
  have h4 : (c * 400 + e * 100 + o * 4 + y + 1 - 1) / 4 = c * 100 + e * 25 + o := by omega
  have h1 : (c * 400 + e * 100 + o * 4 + y + 1 - 1) / 100 = c * 4 + e := by omega
  have h0 : (c * 400 + e * 100 + o * 4 + y + 1 - 1) / 400 = c := by omega
  rw [h4, h1, h0]
  omega
theorem of_rest (n : Int) : ofR n < 365 + leapsV (ofYear n) := by
  have h := of_parts n
  have hl := leapsV_in (ofYear n)
  by_cases h5 : ofR n = 365
  · have hy := h.2.2.2.2.2.2.2.2 h5
    have : leapB (ofYear n) = true := by
      unfold leapB ofYear
      rw [decide_eq_true_eq]
      generalize ofE n = e at *
      generalize ofO n = o at *
      generalize ofC n = c at *
      by_cases h24 : o = 24
      · have := hy.2 h24
        omega
      · omega
    unfold leapsV
    rw [if_pos this]
    omega
  · omega
theorem yearV_mono {a b : Int} (h : a ≤ b) : yearV a ≤ yearV b := by unfold yearV; omega
theorem yearV_next (y : Int) : yearV (y + 1) = yearV y + 365 + leapsV y := by
  unfold yearV leapsV leapB
  split <;> simp only [decide_eq_true_eq] at * <;> omega
/-- The date of a day. -/
def ofMon (n : Int) : Int := monV (ofYear n) (ofR n) 12
def ofDay (n : Int) : Int := ofR n - startV (ofYear n) (ofMon n) + 1
theorem of_date {n : Int} (h1 : -37243778 ≤ n) (h2 : n < 35805088) : dateB (ofYear n) (ofMon n) (ofDay n) = true ∧ dayV (ofYear n) (ofMon n) (ofDay n) = n := by
  have hb := of_back n
  have hr := of_rest n
  have hp := of_parts n
  have hy : -100000 ≤ ofYear n ∧ ofYear n ≤ 100000 := by
    have h3 := yearV_next (ofYear n)
    have h4 := yearV_mono (a := ofYear n + 1) (b := -100000)
    have h5 := yearV_mono (a := 100001) (b := ofYear n)
    have e1 : yearV (-100000) = -37243778 := by decide
    have e2 : yearV 100001 = 35805088 := by decide
    omega
  obtain ⟨m1, m2, m3, m4⟩ := monV_spec (y := ofYear n) (n := ofR n) (by omega) 12 (by omega) (by omega)
  have hm : monV (ofYear n) (ofR n) 12 = ofMon n := rfl
  rw [hm] at m1 m2 m3 m4
  have m2 : ofMon n ≤ 12 := m2
  have hd : ofR n < startV (ofYear n) (ofMon n) + lenV (ofYear n) (ofMon n) := by
    by_cases e : ofMon n < 12
    · rw [← startV_next (by omega) e]
      exact m4 e
    · rw [show ofMon n = 12 by omega, startV_dec]
      exact hr
  constructor
  · unfold dateB ymB ofDay
    rw [Bool.and_eq_true, decide_eq_true_eq, decide_eq_true_eq]
    omega
  · unfold dayV ofDay
    omega
end Go.Proofs.YtfbkkhfmboaknaaGreatDoor
