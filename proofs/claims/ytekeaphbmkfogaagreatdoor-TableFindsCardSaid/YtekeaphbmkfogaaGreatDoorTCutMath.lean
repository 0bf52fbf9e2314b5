/-
  What is cut out of changes: plain.
-/
import Derived.Test.YtekeaphbmkfogaaGreatDoorTCut
namespace Go.Proofs.YtekeaphbmkfogaaGreatDoor

theorem bh_eq {c : List Chg} (hr : Rising c) {i : Int} {t : Nat} (ht : t ≤ c.length) (h1 : ∀ k (h : k < c.length), k < t → (c[k]).at_ ≤ i) (h2 : ∀ k (h : k < c.length), t ≤ k → i < (c[k]).at_) : bh c i = t := by
  have hle := bh_le c i
  rcases Nat.lt_trichotomy (bh c i) t with h | h | h
  · have hl : bh c i < c.length := by omega
    have := (bh_iff hr i hl).2 (h1 _ hl h)
    omega
  · exact h
  · have hl : t < c.length := by omega
    have h3 := (bh_iff hr i hl).1 h
    have h4 := h2 t hl (Nat.le_refl _)
    omega
theorem bh_mono {l : List Chg} (hr : Rising l) {a b : Int} (h : a ≤ b) : bh l a ≤ bh l b := by
  have hla := bh_le l a
  rcases Nat.lt_or_ge (bh l b) (bh l a) with h1 | h1
  · have hl : bh l b < l.length := by omega
    have h2 := (bh_iff hr a hl).1 h1
    have h3 := (bh_iff hr b hl).2 (by omega)
    omega
  · exact h1
/-- The cut, in parts. -/
structure CutOf (l : List Chg) (a b : Int) (n m : Nat) (hd : List Chg) : Prop where
  en : bh l a = n
  em : bh l b = m
  nm : n ≤ m
  ml : m ≤ l.length
  cut : cutL l a b = hd ++ (l.drop n).take (m - n)
  hd0 : n = 0 → hd = []
  hd1 : (h : 0 < n) → hd = [⟨a, (l[n - 1]'(by omega)).loc⟩]
theorem cut_of {l : List Chg} (hr : Rising l) {a b : Int} (h : a ≤ b) : ∃ n m hd, CutOf l a b n m hd := by
  have hab := bh_mono hr h
  have hlb := bh_le l b
  refine ⟨bh l a, bh l b, if bh l a = 0 then [] else [⟨a, (l.getD (bh l a - 1) .zero).loc⟩], rfl, rfl, hab, hlb, ?_, ?_, ?_⟩
  · unfold cutL
    rw [Nat.max_eq_right hab]
  · intro h0; rw [if_pos h0]
  · intro h0
    rw [if_neg (by omega), getD_at (by omega)]
section
variable {l : List Chg} {a b : Int} {n m : Nat} {hd : List Chg}
theorem CutOf.len (h : CutOf l a b n m hd) : (cutL l a b).length = hd.length + (m - n) := by
  have := h.ml
  rw [h.cut, List.length_append, List.length_take, List.length_drop]
  omega
theorem CutOf.hlen (h : CutOf l a b n m hd) : hd.length = if n = 0 then 0 else 1 := by
  by_cases h0 : n = 0
  · rw [if_pos h0, h.hd0 h0]; rfl
  · rw [if_neg h0, h.hd1 (by omega)]; rfl
theorem CutOf.get (h : CutOf l a b n m hd) {j : Nat} (hj : j < m - n) : (cutL l a b)[hd.length + j]'(by rw [h.len]; omega) = l[n + j]'(by have := h.ml; omega) := by
  simp only [h.cut]
  rw [List.getElem_append_right (by omega)]
  simp
theorem CutOf.get0 (h : CutOf l a b n m hd) (h0 : 0 < n) : (cutL l a b)[0]'(by rw [h.len, h.hlen, if_neg (by omega)]; omega) = ⟨a, (l[n - 1]'(by have := h.nm; have := h.ml; omega)).loc⟩ := by
  simp only [h.cut, h.hd1 h0]
  rfl
theorem CutOf.rising (h : CutOf l a b n m hd) (hr : Rising l) : Rising (cutL l a b) := by
  intro i hi
  have hlen := h.len
  have hh := h.hlen
  have hml := h.ml
  by_cases h0 : n = 0
  · rw [if_pos h0] at hh
    have e0 := h.get (j := i) (by omega)
    have e1 := h.get (j := i + 1) (by omega)
    simp only [hh, Nat.zero_add] at e0 e1
    rw [e0, e1]
    exact hr (n + i) (by omega)
  · rw [if_neg h0] at hh
    rcases i with _ | i
    · have e0 := h.get0 (by omega)
      have e1 := h.get (j := 0) (by omega)
      simp only [hh, Nat.add_zero] at e1
      rw [e0]
      simp only [Nat.zero_add]
      rw [e1]
      have hnl : n < l.length := by omega
      have := (bh_iff hr a hnl)
      rw [h.en] at this
      have h3 : ¬ (l[n]).at_ ≤ a := fun h => by have := this.2 h; omega
      show a < _
      omega
    · have e0 := h.get (j := i) (by omega)
      have e1 := h.get (j := i + 1) (by omega)
      simp only [hh, show 1 + i = i + 1 by omega, show 1 + (i + 1) = i + 1 + 1 by omega] at e0 e1
      rw [e0, e1]
      exact hr (n + i) (by omega)
theorem CutOf.bhC (h : CutOf l a b n m hd) (hr : Rising l) {i : Int} (h1 : a ≤ i) (h2 : i ≤ b) : n ≤ bh l i ∧ bh l i ≤ m ∧ bh (cutL l a b) i = hd.length + (bh l i - n) := by
  have g1 := bh_mono hr h1
  have g2 := bh_mono hr h2
  rw [h.en] at g1
  rw [h.em] at g2
  refine ⟨g1, g2, ?_⟩
  have hlen := h.len
  have hh := h.hlen
  have hml := h.ml
  refine bh_eq (h.rising hr) (by omega) (fun k hk hkt => ?_) (fun k hk hkt => ?_)
  · rcases Nat.lt_or_ge k hd.length with h3 | h3
    · have h0 : ¬ n = 0 := fun e => by rw [if_pos e] at hh; omega
      rw [if_neg h0] at hh
      obtain rfl : k = 0 := by omega
      rw [h.get0 (by omega)]
      exact h1
    · obtain ⟨j, rfl⟩ : ∃ j, k = hd.length + j := ⟨k - hd.length, by omega⟩
      rw [h.get (by omega)]
      exact (bh_iff hr i (by omega)).1 (by omega)
  · obtain ⟨j, rfl⟩ : ∃ j, k = hd.length + j := ⟨k - hd.length, by omega⟩
    rw [h.get (by omega)]
    have hl : n + j < l.length := by omega
    have := bh_iff hr i hl
    refine Int.lt_of_not_ge fun h4 => ?_
    have := this.2 h4
    omega
theorem CutOf.atC (h : CutOf l a b n m hd) (hr : Rising l) {i : Int} (h1 : a ≤ i) (h2 : i ≤ b) : atV (cutL l a b) i = atV l i := by
  obtain ⟨g1, g2, g3⟩ := h.bhC hr h1 h2
  have hlen := h.len
  have hh := h.hlen
  have hml := h.ml
  unfold atV
  rw [g3]
  generalize hp : bh l i = p at *
  by_cases h0 : n = 0
  · rw [if_pos h0] at hh
    subst h0
    rw [hh, Nat.zero_add, Nat.sub_zero]
    by_cases hp0 : p = 0
    · rw [if_pos hp0, if_pos hp0]
    · rw [if_neg hp0, if_neg hp0, getD_at (show p - 1 < (cutL l a b).length by omega), getD_at (show p - 1 < l.length by omega)]
      have := h.get (j := p - 1) (by omega)
      simp only [hh, Nat.zero_add] at this
      rw [this]
  · rw [if_neg h0] at hh
    rw [hh, if_neg (by omega), if_neg (by omega), getD_at (show 1 + (p - n) - 1 < (cutL l a b).length by omega), getD_at (show p - 1 < l.length by omega)]
    by_cases hpn : p = n
    · subst hpn
      simp only [Nat.sub_self, Nat.add_zero, Nat.sub_self]
      rw [h.get0 (by omega)]
    · have := h.get (j := p - n - 1) (by omega)
      simp only [hh, show 1 + (p - n - 1) = 1 + (p - n) - 1 by omega, show n + (p - n - 1) = p - 1 by omega] at this
      rw [this]
/-- Two cuts are one. -/
theorem CutOf.cuts (h : CutOf l a b n m hd) (hr : Rising l) {a' b' : Int} (h1 : a ≤ a') (h2 : a' ≤ b') (h3 : b' ≤ b) : cutL (cutL l a b) a' b' = cutL l a' b' := by
  obtain ⟨g1, g2, g3⟩ := h.bhC hr h1 (Int.le_trans h2 h3)
  obtain ⟨k1, k2, k3⟩ := h.bhC hr (Int.le_trans h1 h2) h3
  have hat := h.atC hr h1 (Int.le_trans h2 h3)
  have hm := bh_mono hr h2
  have hh := h.hlen
  have hml := h.ml
  have e1 : ∀ c : List Chg, (if bh c a' = 0 then ([] : List Chg) else [⟨a', (c.getD (bh c a' - 1) .zero).loc⟩]) = if (atV c a').2 = 0 then [⟨a', (atV c a').1⟩] else [] := by
    intro c
    unfold atV
    by_cases h0 : bh c a' = 0
    · rw [if_pos h0, if_pos h0]; rfl
    · rw [if_neg h0, if_neg h0]; rfl
  unfold cutL
  rw [e1, e1]
  unfold cutL at hat
  rw [hat]
  congr 1
  have hc := h.cut
  unfold cutL at hc g3 k3
  rw [g3, k3, hc]
  rw [show max (hd.length + (bh l a' - n)) (hd.length + (bh l b' - n)) - (hd.length + (bh l a' - n)) = bh l b' - bh l a' by omega, show max (bh l a') (bh l b') - bh l a' = bh l b' - bh l a' by omega]
  rw [List.drop_append, List.drop_of_length_le (by omega), List.nil_append, Nat.add_sub_cancel_left, List.drop_take, List.drop_drop, List.take_take]
  rw [show n + (bh l a' - n) = bh l a' by omega, Nat.min_eq_left (by omega)]
end
theorem cut_len {l : List Chg} (hr : Rising l) {a b : Int} (h : a ≤ b) : (cutL l a b).length ≤ l.length := by
  obtain ⟨n, m, hd, hc⟩ := cut_of hr h
  have h1 := hc.len
  have h2 := hc.hlen
  have h3 := hc.ml
  have h4 := hc.nm
  split at h2 <;> omega
end Go.Proofs.YtekeaphbmkfogaaGreatDoor
