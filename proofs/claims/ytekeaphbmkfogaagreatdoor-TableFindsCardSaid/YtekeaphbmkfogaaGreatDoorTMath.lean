/-
  Changes in a row: plain.
-/
namespace Go.Proofs.YtekeaphbmkfogaaGreatDoor

/-- What clocks show. -/
structure Loc where
  off : Int
  dst : Bool
  abbr : ByteArray
/-- A change. -/
structure Chg where
  at_ : Int
  loc : Loc
def Loc.zero : Loc := ⟨0, false, ⟨#[]⟩⟩
def Chg.zero : Chg := ⟨0, .zero⟩
instance : Inhabited Loc := ⟨.zero⟩
instance : Inhabited Chg := ⟨.zero⟩

/-- The last change that is not behind an instant is the k-th one. -/
def IsAt (l : List Chg) (i : Int) (k : Nat) : Prop := ∃ h : k < l.length, (l[k]).at_ ≤ i ∧ ∀ j (hj : j < l.length), k < j → i < (l[j]).at_
def Rising (l : List Chg) : Prop := ∀ i (h : i + 1 < l.length), (l[i]).at_ < (l[i + 1]).at_
theorem Rising.lt {l : List Chg} (h : Rising l) : ∀ {i j : Nat} (hj : j < l.length) (hij : i < j), (l[i]).at_ < (l[j]).at_ := by
  intro i j hj hij
  induction j with
  | zero => omega
  | succ j ih =>
    have h1 := h j hj
    rcases Nat.lt_or_ge i j with h2 | h2
    · have := ih (by omega) h2; omega
    · obtain rfl : i = j := by omega
      exact h1
theorem Rising.le {l : List Chg} (h : Rising l) {i j : Nat} (hj : j < l.length) (hij : i ≤ j) : (l[i]).at_ ≤ (l[j]).at_ := by
  rcases Nat.lt_or_ge i j with h1 | h1
  · have := h.lt hj h1; omega
  · obtain rfl : i = j := by omega
    omega
theorem Rising.not_before {l : List Chg} (h : Rising l) {i j : Nat} (hi : i < l.length) (hj : j < l.length) (hlt : (l[i]).at_ < (l[j]).at_) : i < j := by
  rcases Nat.lt_or_ge i j with h1 | h1
  · exact h1
  · have := h.le hi h1; omega
theorem isAt_unique {l : List Chg} {i : Int} {k m : Nat} (h : IsAt l i k) (h' : IsAt l i m) : k = m := by
  obtain ⟨h1, h2, h3⟩ := h
  obtain ⟨g1, g2, g3⟩ := h'
  rcases Nat.lt_trichotomy k m with h | h | h
  · have := h3 m g1 h; omega
  · exact h
  · have := g3 k h1 h; omega
/-- The last change of the first n that is not behind an instant. -/
theorem isAt_some {l : List Chg} {i : Int} (h0 : ∃ h : 0 < l.length, (l[0]).at_ ≤ i) : ∃ k, IsAt l i k := by
  obtain ⟨h, h0⟩ := h0
  have key : ∀ n, n < l.length → ∃ k, k ≤ n ∧ ∃ hk : k < l.length, (l[k]).at_ ≤ i ∧ ∀ j (hj : j < l.length), k < j → j ≤ n → i < (l[j]).at_ := by
    intro n
    induction n with
    | zero => intro _; exact ⟨0, Nat.le_refl _, h, h0, fun j _ h1 h2 => by omega⟩
    | succ n ih =>
      intro hn
      obtain ⟨k, hk, hkl, h1, h2⟩ := ih (by omega)
      by_cases hc : (l[n + 1]).at_ ≤ i
      · exact ⟨n + 1, Nat.le_refl _, hn, hc, fun j _ h3 h4 => by omega⟩
      · refine ⟨k, by omega, hkl, h1, fun j hj h3 h4 => ?_⟩
        rcases Nat.lt_or_ge n j with h5 | h5
        · obtain rfl : j = n + 1 := by omega
          omega
        · exact h2 j hj h3 h5
  obtain ⟨k, hk, hkl, h1, h2⟩ := key (l.length - 1) (by omega)
  exact ⟨k, hkl, h1, fun j hj h3 => h2 j hj h3 (by omega)⟩
theorem isAt_next {l : List Chg} (hr : Rising l) {i : Int} {k : Nat} (h : k < l.length) (h1 : (l[k]).at_ ≤ i) (h2 : ∀ h : k + 1 < l.length, i < (l[k + 1]).at_) : IsAt l i k :=
  ⟨h, h1, fun j hj hkj => by
    have := h2 (by omega)
    have := hr.le hj (show k + 1 ≤ j by omega)
    omega⟩

end Go.Proofs.YtekeaphbmkfogaaGreatDoor
