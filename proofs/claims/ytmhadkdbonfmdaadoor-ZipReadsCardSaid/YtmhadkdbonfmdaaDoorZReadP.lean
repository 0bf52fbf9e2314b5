/-
  Plain law of layer 16: what Read's ways out say of the bytes.
-/
import Derived.Test.YtmhadkdbonfmdaaDoorZHeadsW
namespace Go.Proofs.YtmhadkdbonfmdaaDoor
open Go Go.RowKit

def memT (ts : List Tri) : List Mem := ts.map fun t => (t.1, t.2.1)
theorem sizes_memT (ts : List Tri) : sizes (memT ts) = ts.map fun t => (t.1, t.2.1.length) := by simp [sizes, memT]
/-- Members whose file may be. -/
def Good (ts : List Tri) : Prop := (∀ t ∈ ts, Fits t) ∧ checkL (sizes (memT ts)) = 0
def IsFile (l : List UInt8) : Prop := ∃ ts, Good ts ∧ l = fileL ts
def SumsOk (ts : List Tri) : Prop := ∀ t ∈ ts, t.2.2 = crcOf t.2.1
theorem good_len {ts : List Tri} (h : Good ts) : ts.length ≤ 64 := by
  have := (check_ok h.2).1
  simpa [memT] using this
theorem file_head {l : List UInt8} {ts ts' : List Tri} (hl : l = outL ts ++ l.drop (tot ts)) (hf : ∀ t ∈ ts, Fits t) (hg : Good ts') (e : l = fileL ts') : ∃ k, ts' = ts ++ k ∧ l.drop (tot ts) = outL k ++ restL ts' := by
  have hs := hdAt_rest ts' []
  rw [List.append_nil] at hs
  exact out_prefix ts ts' _ _ hf hg.1 hs (hl.symm.trans e)
/-- Where the heads end. -/
theorem ended_file {l : List UInt8} {ts : List Tri} (hl : l = outL ts ++ l.drop (tot ts)) (hf : ∀ t ∈ ts, Fits t) (hn : hdAt (l.drop (tot ts)) = none) : IsFile l ↔ checkL (sizes (memT ts)) = 0 ∧ l.drop (tot ts) = restL ts := by
  constructor
  · rintro ⟨ts', hg, e⟩
    obtain ⟨k, rfl, hk⟩ := file_head hl hf hg e
    cases k with
    | nil =>
      rw [List.append_nil] at hg hk
      exact ⟨hg.2, hk⟩
    | cons t k =>
      have h1 := hdAt_hd (hg.1 t (by simp)) (outL k ++ restL (ts ++ t :: k))
      rw [outL_cons, List.append_assoc, List.append_assoc] at hk
      rw [← hk, hn] at h1
      cases h1
  · rintro ⟨h1, h2⟩
    exact ⟨ts, ⟨hf, h1⟩, by rw [hl, h2]; rfl⟩
/-- Where a head is none that could be. -/
theorem broken_file {l : List UInt8} {ts : List Tri} {t : Tri} (hl : l = outL ts ++ l.drop (tot ts)) (hf : ∀ t ∈ ts, Fits t) (ht : hdAt (l.drop (tot ts)) = some t) (hb : ts.length = 64 ∨ cut l (tot ts) (30 + t.1.length) ≠ hdL t) : ¬ IsFile l := by
  rintro ⟨ts', hg, e⟩
  obtain ⟨k, rfl, hk⟩ := file_head hl hf hg e
  cases k with
  | nil =>
    have hs := hdAt_rest (ts ++ []) []
    rw [List.append_nil] at hs
    rw [hk] at ht
    have : outL [] ++ restL (ts ++ []) = restL (ts ++ []) := rfl
    rw [this, hs] at ht
    cases ht
  | cons t' k =>
    rw [outL_cons, List.append_assoc, List.append_assoc] at hk
    have h1 := hdAt_hd (hg.1 t' (by simp)) (outL k ++ restL (ts ++ t' :: k))
    rw [← hk, ht] at h1
    cases h1
    rcases hb with hb | hb
    · have := good_len hg
      simp at this
      omega
    · apply hb
      unfold cut
      rw [hk, List.take_append_of_le_length (by rw [length_hdL]; exact Nat.le_refl _), List.take_of_length_le (by rw [length_hdL]; exact Nat.le_refl _)]
/-- A head more. -/
theorem head_more {l : List UInt8} {ts : List Tri} {t : Tri} (hl : l = outL ts ++ l.drop (tot ts)) (ht : hdAt (l.drop (tot ts)) = some t) (he : cut l (tot ts) (30 + t.1.length) = hdL t) : l = outL (ts ++ [t]) ++ l.drop (tot (ts ++ [t])) := by
  have h1 : l.drop (tot ts) = hdL t ++ (t.2.1 ++ (l.drop (tot ts)).drop (sizeT t)) := by
    have e1 : l.drop (tot ts) = cut l (tot ts) (30 + t.1.length) ++ (l.drop (tot ts)).drop (30 + t.1.length) := by unfold cut; rw [List.take_append_drop]
    have e2 : (l.drop (tot ts)).drop (30 + t.1.length) = t.2.1 ++ (l.drop (tot ts)).drop (sizeT t) := by
      unfold hdAt at ht
      split at ht
      · rename_i hc
        cases ht
        dsimp only [sizeT]
        simp only [cut, List.length_take, List.length_drop] at hc ⊢
        generalize fv (l.drop (tot ts)) 26 2 = m at *
        generalize fv (l.drop (tot ts)) 18 4 = n at *
        have h2 : min m (l.length - tot ts - 30) = m := by omega
        have h3 : min n (l.length - tot ts - (30 + m)) = n := by omega
        rw [h2, h3, ← List.drop_drop (i := n) (j := 30 + m), List.take_append_drop]
      · cases ht
    rw [← he, ← e2]
    exact e1
  rw [out_snoc, tot_snoc, ← List.drop_drop, List.append_assoc, List.append_assoc, ← h1]
  exact hl
/-- What Read answers: which members, and what is wrong. -/
def ReadP (l : List UInt8) (er : Nat) (ms : List Mem) : Prop :=
  (∃ ts, Good ts ∧ l = fileL ts ∧ SumsOk ts ∧ er = 0 ∧ ms = memT ts) ∨ (∃ ts, Good ts ∧ l = fileL ts ∧ ¬ SumsOk ts ∧ er = 21 ∧ ms = []) ∨ (¬ IsFile l ∧ er = 12 ∧ ms = [])
end Go.Proofs.YtmhadkdbonfmdaaDoor
