/-
  Plain law of layer 16: which members may be.
-/
import Derived.Lib.SlTrimSet
import Derived.Lib.SlicesCompact
import Derived.Test.YtmhadkdbonfmdaaDoorBase
namespace Go.Proofs.YtmhadkdbonfmdaaDoor
open Go

abbrev Row := List (List UInt8)
def sortL (l : Row) : Row := l.mergeSort fun x y => decide (x ≤ y)
theorem sortL_len (l : Row) : (sortL l).length = l.length := List.length_mergeSort _
theorem sortL_perm (l : Row) : (sortL l).Perm l := List.mergeSort_perm l _
theorem sortL_sorted (l : Row) : (sortL l).Pairwise (· ≤ ·) := by
  have tr : ∀ a b c : List UInt8, decide (a ≤ b) = true → decide (b ≤ c) = true → decide (a ≤ c) = true := fun a b c h1 h2 => by simp only [decide_eq_true_eq] at *; exact List.le_trans h1 h2
  have to : ∀ a b : List UInt8, (decide (a ≤ b) || decide (b ≤ a)) = true := fun a b => by simp only [Bool.or_eq_true, decide_eq_true_eq]; exact List.le_total a b
  have h := List.pairwise_mergeSort tr to l
  exact h.imp fun h => of_decide_eq_true h
/-- Fewer are left where two are alike. -/
theorem compact_less (l : Row) : (Lib.compact (sortL l)).length < l.length ↔ ¬ l.Nodup := by
  have hlen := sortL_len l
  have hp := sortL_perm l
  have hs := sortL_sorted l
  rw [← hp.nodup_iff, ← hlen]
  generalize sortL l = z at *
  clear hlen hp
  have hsz : z.toArray.size = z.length := rfl
  have e : (Lib.compact z).length = ((List.range z.length).filter (Lib.keeps z.toArray)).length := by simp [Lib.compact, Lib.compactUpTo]
  rw [e]
  have hk : ∀ j, 0 < j → (hj : j < z.length) → (Lib.keeps z.toArray j = false ↔ z[j] = z[j - 1]'(by omega)) := fun j h0 hj => by
    have h1 : z.toArray[j]! = z[j] := by simp [hj]
    have h2 : z.toArray[j - 1]! = z[j - 1]'(by omega) := by
      have : j - 1 < z.length := by omega
      simp [this]
    simp only [Lib.keeps, h1, h2, decide_eq_false_iff_not]
    constructor
    · intro h
      refine Decidable.byContradiction fun hne => h (.inr hne)
    · rintro h (h3 | h3)
      · omega
      · exact h3 h
  have hcount : ((List.range z.length).filter (Lib.keeps z.toArray)).length < z.length ↔ ∃ j, j < z.length ∧ Lib.keeps z.toArray j = false := by
    have := List.length_filter_lt_length_iff_exists (l := List.range z.length) (p := Lib.keeps z.toArray)
    rw [List.length_range] at this
    rw [this]
    constructor
    · rintro ⟨j, hj, hh⟩
      exact ⟨j, List.mem_range.1 hj, by simpa using hh⟩
    · rintro ⟨j, hj, hh⟩
      exact ⟨j, List.mem_range.2 hj, by simpa using hh⟩
  rw [hcount]
  constructor
  · rintro ⟨j, hj, hh⟩ hn
    have h0 : 0 < j := by
      refine Nat.pos_of_ne_zero fun h => ?_
      subst h
      simp [Lib.keeps] at hh
    have h1 := (hk j h0 hj).1 hh
    exact (List.pairwise_iff_getElem.1 hn) (j - 1) j (by omega) hj (by omega) h1.symm
  · intro hn
    refine Decidable.byContradiction fun hne => hn ?_
    rw [List.Nodup, List.pairwise_iff_getElem]
    intro i j hi hj hij e2
    have h1 : z[i] ≤ z[j - 1]'(by omega) := by
      rcases Nat.eq_or_lt_of_le (show i ≤ j - 1 by omega) with h | h
      · subst h; exact List.le_refl _
      · exact (List.pairwise_iff_getElem.1 hs) i (j - 1) hi (by omega) h
    have h2 : z[j - 1]'(by omega) ≤ z[j] := (List.pairwise_iff_getElem.1 hs) (j - 1) j (by omega) hj (by omega)
    rw [e2] at h1
    exact hne ⟨j, hj, (hk j (by omega) hj).2 (List.le_antisymm h1 h2)⟩

/-- The bytes that names may have. -/
def nameCs : List UInt8 := [65, 66, 67, 68, 69, 70, 71, 72, 73, 74, 75, 76, 77, 78, 79, 80, 81, 82, 83, 84, 85, 86, 87, 88, 89, 90, 97, 98, 99, 100, 101, 102, 103, 104, 105, 106, 107, 108, 109, 110, 111, 112, 113, 114, 115, 116, 117, 118, 119, 120, 121, 122, 48, 49, 50, 51, 52, 53, 54, 55, 56, 57, 46, 95, 45, 47]
def nameOk (x : List UInt8) : Bool := decide (1 ≤ x.length) && decide (x.length ≤ 64) && x.all (nameCs.contains ·)
theorem dropWhile_nil (p : UInt8 → Bool) (l : List UInt8) : l.dropWhile p = [] ↔ ∀ x ∈ l, p x = true := by
  induction l with
  | nil => simp
  | cons a l ih =>
    rw [List.dropWhile_cons]
    cases h : p a with
    | true => simp [ih, h]
    | false => simp [h]
theorem dropWhile_head (p : UInt8 → Bool) {l r : List UInt8} {a : UInt8} (h : l.dropWhile p = a :: r) : p a = false := by
  induction l with
  | nil => cases h
  | cons b l ih =>
    rw [List.dropWhile_cons] at h
    cases hb : p b with
    | true => rw [hb] at h; exact ih h
    | false => rw [hb] at h; simp only [Bool.false_eq_true, if_false] at h; injection h with h1 h2; rw [← h1]; exact hb
theorem trim_nil (l cs : List UInt8) : Lib.trimS l cs = [] ↔ l.all (cs.contains ·) = true := by
  rw [List.all_eq_true]
  unfold Lib.trimS Lib.trimLeftS Lib.trimRightS
  rw [dropWhile_nil]
  constructor
  · intro h
    have hnil : l.reverse.dropWhile (cs.contains ·) = [] := by
      rcases hd : l.reverse.dropWhile (cs.contains ·) with _ | ⟨a, r⟩
      · rfl
      · have h1 := h a (by rw [hd]; simp)
        have h2 := dropWhile_head (cs.contains ·) hd
        rw [h1] at h2
        cases h2
    rw [dropWhile_nil] at hnil
    exact fun x hx => hnil x (List.mem_reverse.2 hx)
  · intro h
    have hnil : l.reverse.dropWhile (cs.contains ·) = [] := by
      rw [dropWhile_nil]
      exact fun x hx => h x (List.mem_reverse.1 hx)
    rw [hnil]
    simp
/-- What is wrong with members, by their names and how many bytes each one has. -/
def checkL (l : List (List UInt8 × Nat)) : Nat :=
  if 64 < l.length then 14 else if l.any (fun m => !nameOk m.1) then 23 else if ¬ (l.map (·.1)).Nodup then 15 else if l.any (fun m => decide (4194304 < m.2)) then 22 else 0
end Go.Proofs.YtmhadkdbonfmdaaDoor
