/-
  Plain words of layer 12: which kind a format is.
-/
import Derived.Lib.Strings
import Derived.Lib.Slices
import Derived.Lib.IndexMore
import Derived.Lib.SlTrimSet
import Derived.Lib.Replace
import Derived.Test.YtfbkkhfmboaknaaGreatDoorBase
namespace Go.Proofs.YtfbkkhfmboaknaaGreatDoor
open Go

def abcB : List UInt8 := [97, 98, 99, 100, 101, 102, 103, 104, 105, 106, 107, 108, 109, 110, 111, 112, 113, 114, 115, 116, 117, 118, 119, 120, 121, 122, 65, 66, 67, 68, 69, 70, 71, 72, 73, 74, 75, 76, 77, 78, 79, 80, 81, 82, 83, 84, 85, 86, 87, 88, 89, 90, 48, 49, 50, 51, 52, 53, 54, 55, 56, 57, 43, 45]
/-- Which kind, and what is left without its mark. -/
def kindP (f : List UInt8) : Int × List UInt8 :=
  if Lib.contains f [37, 115] then (1, Lib.replace f [37, 115] [] 1) else if Lib.contains f [37, 122] then (2, Lib.replace f [37, 122] [] 1) else if Lib.contains f [47] then (3, Lib.replace f [47] [] 1) else (0, f)
def edgeB (f : List UInt8) : Bool := decide ((kindP f).1 = 3) && (f.headD 0 == 47 || f.getLastD 0 == 47)
def badB (f : List UInt8) : Bool := f.isEmpty || decide (64 < f.length) || edgeB f || !(Lib.trimS (kindP f).2 abcB).isEmpty
/-- What Kind answers. -/
def kindR (f : List UInt8) : Int × Int := if badB f then (0, 12) else ((kindP f).1, 0)
theorem kindR_bad {f : List UInt8} (h : badB f = true) : kindR f = (0, 12) := by unfold kindR; rw [if_pos h]
theorem kindR_ok {f : List UInt8} {k : Int} {p : List UInt8} (h : badB f = false) (hk : kindP f = (k, p)) : kindR f = (k, 0) := by unfold kindR; rw [if_neg (by rw [h]; simp), hk]
theorem bad_empty {f : List UInt8} (h : f = []) : badB f = true := by subst h; rfl
theorem bad_long {f : List UInt8} (h : 64 < f.length) : badB f = true := by unfold badB; rw [decide_eq_true h]; simp
theorem bad_edge {f : List UInt8} (h : edgeB f = true) : badB f = true := by unfold badB; rw [h]; simp
theorem bad_trim {f : List UInt8} {k : Int} {p : List UInt8} (hk : kindP f = (k, p)) (h : Lib.trimS p abcB ≠ []) : badB f = true := by
  unfold badB
  rw [hk]
  have : (Lib.trimS p abcB).isEmpty = false := by cases e : Lib.trimS p abcB with | nil => exact absurd e h | cons a l => rfl
  rw [this]
  simp
theorem bad_not {f : List UInt8} {k : Int} {p : List UInt8} (hk : kindP f = (k, p)) (h0 : f ≠ []) (h1 : ¬ 64 < f.length) (h2 : edgeB f = false) (h3 : Lib.trimS p abcB = []) : badB f = false := by
  unfold badB
  rw [hk, h2, h3, decide_eq_false h1]
  cases f with
  | nil => exact absurd rfl h0
  | cons a l => rfl
theorem edge_not {f : List UInt8} {k : Int} {p : List UInt8} (hk : kindP f = (k, p)) (h : k ≠ 3) : edgeB f = false := by
  unfold edgeB
  rw [hk, decide_eq_false h]
  rfl
theorem contains_ne {f m : List UInt8} (hm : m ≠ []) (h : Lib.contains f m = true) : f ≠ [] := by
  rintro rfl
  cases m with
  | nil => exact hm rfl
  | cons a l => simp [Lib.contains, Lib.index] at h
theorem edge_at {f : ByteArray} {p : List UInt8} (hk : kindP f.data.toList = (3, p)) (h0 : 0 < f.size) : edgeB f.data.toList = (decide ((f[0].toNat : Int) = 47) || decide ((f[f.size - 1].toNat : Int) = 47)) := by
  have e0 : f.data.toList.headD 0 = f[0] := by
    have h1 : 0 < f.data.toList.length := by simpa using h0
    rw [List.headD_eq_head?_getD, List.head?_eq_getElem?, List.getElem?_eq_getElem h1]
    rfl
  have e1 : f.data.toList.getLastD 0 = f[f.size - 1] := by
    have h1 : f.size - 1 < f.data.toList.length := by simp; omega
    rw [List.getLastD_eq_getLast?, List.getLast?_eq_getElem?]
    have h2 : f.data.toList.length - 1 = f.size - 1 := by simp
    rw [h2, List.getElem?_eq_getElem h1]
    rfl
  have eq : ∀ c : UInt8, (c == 47) = decide ((c.toNat : Int) = 47) := by
    intro c
    rw [Bool.eq_iff_iff]
    simp only [beq_iff_eq, decide_eq_true_eq]
    constructor
    · rintro rfl; rfl
    · intro h
      apply UInt8.toNat_inj.1
      have : c.toNat = 47 := by omega
      rw [this]
      rfl
  unfold edgeB
  rw [hk, e0, e1, eq, eq]
  simp
end Go.Proofs.YtfbkkhfmboaknaaGreatDoor
