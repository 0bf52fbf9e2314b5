/-
  Plain law of layer 16: what the reference's Read says of the bytes.
-/
import Derived.Test.YtmhadkdbonfmdaaDoorZParts
import Derived.Test.YtmhadkdbonfmdaaDoorZRead
namespace Go.Proofs.YtmhadkdbonfmdaaDoor
open Go Go.RowKit Go.Shelf
set_option maxRecDepth 100000

/-- What every file of these bytes begins with. -/
def Pre (l : List UInt8) (ts : List Tri) : Prop := ∀ ts0, Good ts0 → l = fileL ts0 → ∃ k, ts0 = ts ++ k
theorem pre_drop {ts k : List Tri} : (fileL (ts ++ k)).drop (tot ts) = outL k ++ restL (ts ++ k) := by
  rw [fileL, outL_append, List.append_assoc, tot_out, List.drop_left]
theorem rest_none (ts : List Tri) : hdAt (restL ts) = none := by
  have := hdAt_rest ts []
  rwa [List.append_nil] at this
theorem pre_step {l : List UInt8} {ts : List Tri} {t : Tri} (h : Pre l ts) (ht : hdAt (l.drop (tot ts)) = some t) : Pre l (ts ++ [t]) := by
  intro ts0 hg e
  obtain ⟨k, rfl⟩ := h ts0 hg e
  subst e
  rw [pre_drop] at ht
  cases k with
  | nil =>
    have : outL [] ++ restL (ts ++ []) = restL (ts ++ []) := rfl
    rw [this, rest_none] at ht
    cases ht
  | cons t' k =>
    rw [outL_cons, List.append_assoc, List.append_assoc, hdAt_hd (hg.1 t' (by simp))] at ht
    cases ht
    exact ⟨k, by simp⟩
theorem pre_end {l : List UInt8} {ts : List Tri} (h : Pre l ts) (hn : hdAt (l.drop (tot ts)) = none) {ts0 : List Tri} (hg : Good ts0) (e : l = fileL ts0) : ts0 = ts := by
  obtain ⟨k, rfl⟩ := h ts0 hg e
  subst e
  rw [pre_drop] at hn
  cases k with
  | nil => simp
  | cons t' k =>
    rw [outL_cons, List.append_assoc, List.append_assoc, hdAt_hd (hg.1 t' (by simp))] at hn
    cases hn
theorem rest_mark (ts : List Tri) : fv (restL ts) 0 4 ≠ 67324752 := by
  unfold restL
  cases ts with
  | nil =>
    have := fv_at (pre := []) (n := 101010256) (s := 4) (k := 0) (post := fld [(0, 2), (0, 2), (0, 2), (0, 2), (0, 4), (0, 4), (0, 2)]) rfl (by decide)
    have e : listL 0 [] ++ endL ([] : List Tri).length (listL 0 []).length (outL []).length = [] ++ (fixedL 101010256 4 ++ fld [(0, 2), (0, 2), (0, 2), (0, 2), (0, 4), (0, 4), (0, 2)]) := rfl
    rw [e, this]
    decide
  | cons t ts =>
    have e : listL 0 (t :: ts) ++ endL (t :: ts).length (listL 0 (t :: ts)).length (outL (t :: ts)).length = [] ++ (fixedL 33639248 4 ++ (fld ((20, 2) :: (comF t.2.2 t.2.1.length t.1.length ++ [(0, 2), (0, 2), (0, 2), (0, 4), (0, 4)])) ++ t.1 ++ listL (0 + sizeT t) ts ++ endL (t :: ts).length (listL 0 (t :: ts)).length (outL (t :: ts)).length)) := by
      rw [listL, rowL, rowF, fld_cons]
      simp only [List.append_assoc, List.nil_append]
    rw [e, fv_at (pre := []) (n := 33639248) (s := 4) (k := 0) rfl (by decide)]
    decide
theorem pre_mark {l : List UInt8} {ts : List Tri} (h : Pre l ts) (hn : hdAt (l.drop (tot ts)) = none) (hm : fv l (tot ts) 4 = 67324752) : ¬ IsFile l := by
  rintro ⟨ts0, hg, e⟩
  have := pre_end h hn hg e
  subst this
  have hd := pre_drop (ts := ts0) (k := [])
  rw [List.append_nil] at hd
  rw [← e] at hd
  have h2 : outL [] ++ restL ts0 = restL ts0 := rfl
  rw [h2] at hd
  have h3 := fv_drop l (tot ts0) 0 4
  rw [hd, Nat.add_zero, hm] at h3
  exact rest_mark ts0 h3
/-- What stands at a place. -/
theorem hdAt_drop (l : List UInt8) (k : Nat) (hk : k ≤ l.length) : hdAt (l.drop k) = if k + 30 ≤ l.length ∧ fv l k 4 = 67324752 ∧ k + 30 + fv l (k + 26) 2 + fv l (k + 18) 4 ≤ l.length then some (cut l (k + 30) (fv l (k + 26) 2), cut l (k + 30 + fv l (k + 26) 2) (fv l (k + 18) 4), fv l (k + 14) 4) else none := by
  unfold hdAt
  simp only [fv_drop, cut_drop, List.length_drop, Nat.add_zero, ← Nat.add_assoc]
  have : (30 ≤ l.length - k ∧ fv l k 4 = 67324752 ∧ 30 + fv l (k + 26) 2 + fv l (k + 18) 4 ≤ l.length - k) ↔ (k + 30 ≤ l.length ∧ fv l k 4 = 67324752 ∧ k + 30 + fv l (k + 26) 2 + fv l (k + 18) 4 ≤ l.length) := by omega
  simp only [this]
/-- What the loop holds. -/
structure RdI (l : List UInt8) (ts : List Tri) : Prop where
  le : tot ts ≤ l.length
  many : 30 * ts.length ≤ tot ts
  fits : ∀ t ∈ ts, Fits t
  pre : Pre l ts
theorem rdI_nil (l : List UInt8) : RdI l [] := ⟨Nat.zero_le _, Nat.zero_le _, fun t h => (by cases h), fun ts0 _ _ => ⟨ts0, rfl⟩⟩
theorem RdI.step {l : List UInt8} {ts : List Tri} {t : Tri} (h : RdI l ts) (ht : hdAt (l.drop (tot ts)) = some t) : RdI l (ts ++ [t]) := by
  obtain ⟨h1, h2⟩ := hdAt_fits ht
  rw [List.length_drop] at h2
  have hm := h.many
  have hl := h.le
  refine ⟨by rw [tot_snoc]; omega, ?_, fun x hx => ?_, pre_step h.pre ht⟩
  · rw [tot_snoc, List.length_append, List.length_singleton]
    unfold sizeT
    omega
  · rcases List.mem_append.1 hx with hx | hx
    · exact h.fits x hx
    · rw [List.mem_singleton.1 hx]; exact h1
theorem RdI.short {l : List UInt8} {ts : List Tri} (h : RdI l ts) (hl : l.length ≤ 2000) : ts.length ≤ 66 ∧ (fileL ts).length ≤ 10000 := by
  have h1 := h.le
  have h2 := h.many
  have h3 := list_bound ts 0
  have h4 : (outL ts).length = tot ts := (tot_out ts).symm
  rw [length_fileL]
  omega
/-- What the end of the loop says. -/
theorem rd_end {l : List UInt8} {ts : List Tri} (h : RdI l ts) (hn : hdAt (l.drop (tot ts)) = none) : (checkL (ts.map fun t => (t.1, t.2.1.length)) ≠ 0 → ¬ IsFile l) ∧ (checkL (ts.map fun t => (t.1, t.2.1.length)) = 0 → (IsFile l ↔ fileL ts = l) ∧ Good ts) := by
  rw [← sizes_memT]
  refine ⟨fun hc => ?_, fun hc => ⟨⟨?_, fun e => ⟨ts, ⟨h.fits, hc⟩, e.symm⟩⟩, h.fits, hc⟩⟩
  · rintro ⟨ts0, hg, e⟩
    have := pre_end h.pre hn hg e
    subst this
    exact hc hg.2
  · rintro ⟨ts0, hg, e⟩
    have := pre_end h.pre hn hg e
    subst this
    exact e.symm
theorem num_step (l : List UInt8) (a n : Nat) (h : a + (n + 1) ≤ l.length) : num (cut l a (n + 1)) = (l[a]'(by omega)).toNat + 256 * num (cut l (a + 1) n) := by
  have e : cut l a (n + 1) = l[a]'(by omega) :: cut l (a + 1) n := by
    unfold cut
    rw [List.drop_eq_getElem_cons (by omega), List.take_succ_cons]
  rw [e]
  rfl
theorem bytes_window' {w : World} {B b o c k n c' : Nat} {l : List UInt8} (h : Bytes w B (.slice (some ⟨b, o, none⟩) l.length c) l) (hkn : k + n ≤ l.length) (hc : n ≤ c') (hm : c' ≤ maxLen) : Bytes w B (.slice (some ⟨b, o + k, none⟩) n c') (cut l k n) := by
  rcases Nat.eq_zero_or_pos n with h0 | h0
  · subst h0
    have : cut l k 0 = [] := by simp [cut]
    rw [this]
    exact bytes_empty hm
  · have := bytes_window h hkn h0 hc hm
    rwa [cut_length hkn] at this
end Go.Proofs.YtmhadkdbonfmdaaDoor
