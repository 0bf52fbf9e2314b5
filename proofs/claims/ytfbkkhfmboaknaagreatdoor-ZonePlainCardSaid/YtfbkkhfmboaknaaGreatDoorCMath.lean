/-
  The calendar, as numbers: what layer 2 answers.
-/
import Derived.Test.YtfbkkhfmboaknaaGreatDoorBase
namespace Go.Proofs.YtfbkkhfmboaknaaGreatDoor
open Go
set_option maxRecDepth 100000

/-- How many days of a year are ahead of each month. -/
def aheadV : Nat → Int
  | 0 => 0 | 1 => 31 | 2 => 59 | 3 => 90 | 4 => 120 | 5 => 151 | 6 => 181 | 7 => 212 | 8 => 243 | 9 => 273 | 10 => 304 | 11 => 334 | _ => 365
/-- Has a year 366 days? -/
def leapB (y : Int) : Bool := decide (y % 4 = 0 ∧ (y % 100 ≠ 0 ∨ y % 400 = 0))
def leapsV (y : Int) : Int := if leapB y then 1 else 0
theorem leapsV_in (y : Int) : 0 ≤ leapsV y ∧ leapsV y ≤ 1 := by unfold leapsV; split <;> omega
def yearV (y : Int) : Int := (y - 1) * 365 + (y - 1) / 4 - (y - 1) / 100 + (y - 1) / 400 - 719162
def startV (y m : Int) : Int := aheadV (m - 1).toNat + if 2 < m then leapsV y else 0
def lenV (y m : Int) : Int := aheadV m.toNat - aheadV (m - 1).toNat + if m = 2 then leapsV y else 0
def ymB (y m : Int) : Bool := decide (-100000 ≤ y ∧ y ≤ 100000 ∧ 1 ≤ m ∧ m ≤ 12)
def longV (y m : Int) : Int × Int := if ymB y m then (lenV y m, 0) else (0, 10)
def dateB (y m d : Int) : Bool := ymB y m && decide (1 ≤ d ∧ d ≤ lenV y m)
def dayV (y m d : Int) : Int := yearV y + startV y m + d - 1
def weekV (n : Int) : Int := (n % 7 + 4) % 7
theorem tmod_zero (a b : Int) : a.tmod b = 0 ↔ a % b = 0 := ⟨fun h => Int.emod_eq_zero_of_dvd (Int.dvd_of_tmod_eq_zero h), fun h => Int.tmod_eq_zero_of_dvd (Int.dvd_of_emod_eq_zero h)⟩
theorem aheadV_in (k : Nat) : 0 ≤ aheadV k ∧ aheadV k ≤ 365 := by
  unfold aheadV
  split <;> omega
theorem lenV_in {y m : Int} (h1 : 1 ≤ m) (h2 : m ≤ 12) : 28 ≤ lenV y m ∧ lenV y m ≤ 31 := by
  have hl := leapsV_in y
  unfold lenV
  rcases (by omega : m = 1 ∨ m = 2 ∨ m = 3 ∨ m = 4 ∨ m = 5 ∨ m = 6 ∨ m = 7 ∨ m = 8 ∨ m = 9 ∨ m = 10 ∨ m = 11 ∨ m = 12) with h | h | h | h | h | h | h | h | h | h | h | h <;> subst h <;> simp [aheadV] <;> omega
theorem startV_in (y m : Int) : 0 ≤ startV y m ∧ startV y m ≤ 366 := by
  have hl := leapsV_in y
  have ha := aheadV_in (m - 1).toNat
  unfold startV
  split <;> omega
theorem startV_next {y m : Int} (h1 : 1 ≤ m) (h2 : m < 12) : startV y (m + 1) = startV y m + lenV y m := by
  have hl := leapsV_in y
  unfold lenV startV
  rcases (by omega : m = 1 ∨ m = 2 ∨ m = 3 ∨ m = 4 ∨ m = 5 ∨ m = 6 ∨ m = 7 ∨ m = 8 ∨ m = 9 ∨ m = 10 ∨ m = 11) with h | h | h | h | h | h | h | h | h | h | h <;> subst h <;> simp [aheadV] <;> omega
theorem startV_dec {y : Int} : startV y 12 + lenV y 12 = 365 + leapsV y := by
  unfold lenV startV
  simp [aheadV]
  omega
theorem yearV_in {y : Int} (h1 : -100001 ≤ y) (h2 : y ≤ 100001) : -40000000 ≤ yearV y ∧ yearV y ≤ 40000000 := by
  unfold yearV
  omega
theorem dateB_in {y m d : Int} (h : dateB y m d = true) : -100000 ≤ y ∧ y ≤ 100000 ∧ 1 ≤ m ∧ m ≤ 12 ∧ 1 ≤ d ∧ d ≤ lenV y m := by
  unfold dateB ymB at h
  simp only [Bool.and_eq_true, decide_eq_true_eq] at h
  exact ⟨h.1.1, h.1.2.1, h.1.2.2.1, h.1.2.2.2, h.2.1, h.2.2⟩
theorem dayV_in {y m d : Int} (h : dateB y m d = true) : -50000000 ≤ dayV y m d ∧ dayV y m d ≤ 50000000 := by
  obtain ⟨a, b, c, e, f, g⟩ := dateB_in h
  have h1 := yearV_in (y := y) (by omega) (by omega)
  have h2 := startV_in y m
  have h3 := lenV_in (y := y) c e
  unfold dayV
  omega
theorem weekV_in (n : Int) : 0 ≤ weekV n ∧ weekV n ≤ 6 := by unfold weekV; omega
/-- The quotient, rounded down, as layer 1 computes it. -/
theorem floor_eq {a b : Int} (hb : 0 < b) : a / b = if a.tmod b ≠ 0 ∧ a < 0 then a.tdiv b - 1 else a.tdiv b := by
  have hs : b.sign = 1 := Int.sign_eq_one_of_pos hb
  rw [Int.tdiv_eq_ediv, hs]
  by_cases h0 : a.tmod b = 0
  · rw [if_neg (by omega), if_pos (Or.inr (Int.dvd_of_tmod_eq_zero h0))]
    omega
  · have hd : ¬ b ∣ a := fun h => h0 (Int.tmod_eq_zero_of_dvd h)
    by_cases ha : a < 0
    · rw [if_pos ⟨h0, ha⟩, if_neg (by rintro (h | h); omega; exact hd h)]
      omega
    · rw [if_neg (by omega), if_pos (Or.inl (by omega))]
      omega
theorem mod_eq {a b : Int} (hb : 0 < b) : a % b = if a.tmod b ≠ 0 ∧ a.tmod b < 0 then a.tmod b + b else a.tmod b := by
  have h2 := Int.tmod_eq_emod (a := a) (b := b)
  have h5 := Int.emod_nonneg a (show b ≠ 0 by omega)
  have h6 := Int.emod_lt_of_pos a hb
  have h7 := Int.lt_tmod_of_pos a hb
  by_cases h0 : a.tmod b = 0
  · rw [if_neg (by omega), h0]
    exact (tmod_zero a b).1 h0
  · have hd : ¬ b ∣ a := fun h => h0 (Int.tmod_eq_zero_of_dvd h)
    by_cases ha : 0 ≤ a
    · rw [if_pos (Or.inl ha)] at h2
      rw [if_neg (by omega)]
      omega
    · rw [if_neg (by rintro (h | h); exact ha h; exact hd h)] at h2
      rw [if_pos (by omega)]
      omega
end Go.Proofs.YtfbkkhfmboaknaaGreatDoor
