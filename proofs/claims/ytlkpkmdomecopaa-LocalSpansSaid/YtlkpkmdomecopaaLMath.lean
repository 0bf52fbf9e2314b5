/-
  Clocks as changes in a row: what they show, and when: plain.
-/
namespace Go.Proofs.Ytlkpkmdomecopaa

/-- What clocks show. -/
structure Loc where
  off : Int
  dst : Bool
  abbr : ByteArray
/-- A change. -/
structure Chg where
  at_ : Int
  loc : Loc
def Loc.zero : Loc := ⟨0, false, ⟨#[]⟩⟩
def Chg.zero : Chg := ⟨0, .zero⟩
instance : Inhabited Loc := ⟨.zero⟩
instance : Inhabited Chg := ⟨.zero⟩

/-- The last change that is not behind an instant is the k-th one. -/
def IsAt (l : List Chg) (i : Int) (k : Nat) : Prop := ∃ h : k < l.length, (l[k]).at_ ≤ i ∧ ∀ j (hj : j < l.length), k < j → i < (l[j]).at_
def Rising (l : List Chg) : Prop := ∀ i (h : i + 1 < l.length), (l[i]).at_ < (l[i + 1]).at_
theorem Rising.lt {l : List Chg} (h : Rising l) : ∀ {i j : Nat} (hj : j < l.length) (hij : i < j), (l[i]).at_ < (l[j]).at_ := by
  intro i j hj hij
  induction j with
  | zero => omega
  | succ j ih =>
    have h1 := h j hj
    rcases Nat.lt_or_ge i j with h2 | h2
    · have := ih (by omega) h2; omega
    · obtain rfl : i = j := by omega
      exact h1
theorem Rising.le {l : List Chg} (h : Rising l) {i j : Nat} (hj : j < l.length) (hij : i ≤ j) : (l[i]).at_ ≤ (l[j]).at_ := by
  rcases Nat.lt_or_ge i j with h1 | h1
  · have := h.lt hj h1; omega
  · obtain rfl : i = j := by omega
    omega
theorem Rising.not_before {l : List Chg} (h : Rising l) {i j : Nat} (hi : i < l.length) (hj : j < l.length) (hlt : (l[i]).at_ < (l[j]).at_) : i < j := by
  rcases Nat.lt_or_ge i j with h1 | h1
  · exact h1
  · have := h.le hi h1; omega
theorem isAt_unique {l : List Chg} {i : Int} {k m : Nat} (h : IsAt l i k) (h' : IsAt l i m) : k = m := by
  obtain ⟨h1, h2, h3⟩ := h
  obtain ⟨g1, g2, g3⟩ := h'
  rcases Nat.lt_trichotomy k m with h | h | h
  · have := h3 m g1 h; omega
  · exact h
  · have := g3 k h1 h; omega
/-- The last change of the first n that is not behind an instant. -/
theorem isAt_some {l : List Chg} {i : Int} (h0 : ∃ h : 0 < l.length, (l[0]).at_ ≤ i) : ∃ k, IsAt l i k := by
  obtain ⟨h, h0⟩ := h0
  have key : ∀ n, n < l.length → ∃ k, k ≤ n ∧ ∃ hk : k < l.length, (l[k]).at_ ≤ i ∧ ∀ j (hj : j < l.length), k < j → j ≤ n → i < (l[j]).at_ := by
    intro n
    induction n with
    | zero => intro _; exact ⟨0, Nat.le_refl _, h, h0, fun j _ h1 h2 => by omega⟩
    | succ n ih =>
      intro hn
      obtain ⟨k, hk, hkl, h1, h2⟩ := ih (by omega)
      by_cases hc : (l[n + 1]).at_ ≤ i
      · exact ⟨n + 1, Nat.le_refl _, hn, hc, fun j _ h3 h4 => by omega⟩
      · refine ⟨k, by omega, hkl, h1, fun j hj h3 h4 => ?_⟩
        rcases Nat.lt_or_ge n j with h5 | h5
        · obtain rfl : j = n + 1 := by omega
          omega
        · exact h2 j hj h3 h5
  obtain ⟨k, hk, hkl, h1, h2⟩ := key (l.length - 1) (by omega)
  exact ⟨k, hkl, h1, fun j hj h3 => h2 j hj h3 (by omega)⟩
theorem isAt_next {l : List Chg} (hr : Rising l) {i : Int} {k : Nat} (h : k < l.length) (h1 : (l[k]).at_ ≤ i) (h2 : ∀ h : k + 1 < l.length, i < (l[k + 1]).at_) : IsAt l i k :=
  ⟨h, h1, fun j hj hkj => by
    have := h2 (by omega)
    have := hr.le hj (show k + 1 ≤ j by omega)
    omega⟩

/-- Where the k-th stretch of a span begins, and ends. -/
def lo (l : List Chg) (a : Int) (k : Nat) : Int := match l[k]? with | some c => max a c.at_ | none => a
def hi (l : List Chg) (b : Int) (k : Nat) : Int := match l[k + 1]? with | some c => min b c.at_ | none => b
def locAt (l : List Chg) (k : Nat) : Loc := match l[k]? with | some c => c.loc | none => .zero
theorem lo_in {l : List Chg} {k : Nat} (h : k < l.length) (a : Int) : lo l a k = max a (l[k]).at_ := by simp [lo, h]
theorem hi_in {l : List Chg} {k : Nat} (h : k + 1 < l.length) (b : Int) : hi l b k = min b (l[k + 1]).at_ := by simp [hi, h]
theorem hi_out {l : List Chg} {k : Nat} (h : l.length ≤ k + 1) (b : Int) : hi l b k = b := by simp [hi, h]
theorem locAt_in {l : List Chg} {k : Nat} (h : k < l.length) : locAt l k = (l[k]).loc := by simp [locAt, h]

/-- What is asked of a row. -/
structure Row (l : List Chg) : Prop where
  pos : 0 < l.length
  few : l.length ≤ 60
  off : ∀ i (h : i < l.length), -180000 < (l[i]).loc.off ∧ (l[i]).loc.off < 180000 ∧ (l[i]).at_ ≤ 2199023255552
  first : (l[0]).at_ = -2199023255552
  rise : Rising l
theorem Row.at_lo {l : List Chg} (h : Row l) (i : Nat) (hi : i < l.length) : -2199023255552 ≤ (l[i]).at_ := by
  have := h.rise.le hi (Nat.zero_le i)
  have := h.first
  omega
theorem Row.some {l : List Chg} (h : Row l) {i : Int} (hi : -2199023255552 ≤ i) : ∃ k, IsAt l i k := isAt_some ⟨h.pos, by have := h.first; omega⟩

/-- The instant at which the k-th stretch would show a second; does it? -/
def tAt (l : List Chg) (s : Int) (k : Nat) : Int := s - (locAt l k).off
def shows (l : List Chg) (s : Int) (k : Nat) : Bool := match l[k]? with
  | some c => decide (c.at_ ≤ tAt l s k) && (match l[k + 1]? with | some d => decide (tAt l s k < d.at_) | none => true)
  | none => false
/-- All instants at which a second is shown, of the stretches a to a + n. -/
def allOf (l : List Chg) (s : Int) (a n : Nat) : List Int := ((List.range' a n).filter (shows l s)).map (tAt l s)
theorem allOf_succ (l : List Chg) (s : Int) (a n : Nat) : allOf l s a (n + 1) = allOf l s a n ++ (if shows l s (a + n) then [tAt l s (a + n)] else []) := by
  unfold allOf
  rw [List.range'_1_concat, List.filter_append, List.map_append]
  congr 1
  by_cases h : shows l s (a + n) <;> simp [h]
theorem shows_iff {l : List Chg} {s : Int} {k : Nat} (h : k < l.length) : shows l s k = true ↔ (l[k]).at_ ≤ s - (l[k]).loc.off ∧ ∀ h : k + 1 < l.length, s - (l[k]).loc.off < (l[k + 1]).at_ := by
  unfold shows tAt
  rw [locAt_in h]
  by_cases h1 : k + 1 < l.length
  · simp [h, h1]
  · simp [h, h1]
theorem shows_isAt {l : List Chg} (hr : Rising l) {s : Int} {k : Nat} (h : k < l.length) (hs : shows l s k = true) : IsAt l (tAt l s k) k := by
  obtain ⟨h1, h2⟩ := (shows_iff h).1 hs
  have e : tAt l s k = s - (l[k]).loc.off := by unfold tAt; rw [locAt_in h]
  rw [e]
  exact isAt_next hr h h1 h2
theorem shows_of_isAt {l : List Chg} {i : Int} {k : Nat} (h : IsAt l i k) : shows l (i + (locAt l k).off) k = true ∧ tAt l (i + (locAt l k).off) k = i := by
  obtain ⟨h1, h2, h3⟩ := h
  have e : tAt l (i + (locAt l k).off) k = i := by unfold tAt; omega
  refine ⟨(shows_iff h1).2 ?_, e⟩
  rw [locAt_in h1]
  exact ⟨by omega, fun h => by have := h3 (k + 1) h (by omega); omega⟩
/-- A stretch shows a second where its piece of the span does. -/
theorem shows_span {l : List Chg} (h : Row l) {s : Int} {k0 k1 k : Nat} (_h0 : IsAt l (s - 180000) k0) (h1 : IsAt l (s + 180000) k1) (_hk : k0 ≤ k) (hk1 : k ≤ k1) :
    (lo l (s - 180000) k ≤ tAt l s k ∧ tAt l s k < hi l (s + 180001) k) ↔ shows l s k = true := by
  obtain ⟨g1, g2, g3⟩ := h1
  have hl : k < l.length := by omega
  obtain ⟨o1, o2, -⟩ := h.off k hl
  have e : tAt l s k = s - (l[k]).loc.off := by unfold tAt; rw [locAt_in hl]
  rw [shows_iff hl, lo_in hl, e]
  by_cases h2 : k + 1 < l.length
  · rw [hi_in h2]
    constructor
    · rintro ⟨a, b⟩; exact ⟨by omega, fun _ => by omega⟩
    · rintro ⟨a, b⟩; have := b h2; omega
  · rw [hi_out (by omega)]
    constructor
    · rintro ⟨a, b⟩; exact ⟨by omega, fun h => absurd h h2⟩
    · rintro ⟨a, b⟩; omega
theorem not_shows_out {l : List Chg} (h : Row l) {s : Int} {k0 k1 k : Nat} (h0 : IsAt l (s - 180000) k0) (h1 : IsAt l (s + 180000) k1) (hl : k < l.length) (hk : k < k0 ∨ k1 < k) : shows l s k = false := by
  obtain ⟨o1, o2, -⟩ := h.off k hl
  cases hs : shows l s k with
  | false => rfl
  | true =>
    obtain ⟨a, b⟩ := (shows_iff hl).1 hs
    obtain ⟨f1, f2, f3⟩ := h0
    obtain ⟨g1, g2, g3⟩ := h1
    rcases hk with hk | hk
    · have := b (by omega)
      have := h.rise.le f1 (show k + 1 ≤ k0 by omega)
      omega
    · have := g3 k hl hk
      omega
theorem filter_none {p : Nat → Bool} {a n : Nat} (h : ∀ k, a ≤ k → k < a + n → p k = false) : (List.range' a n).filter p = [] := by
  rw [List.filter_eq_nil_iff]
  intro k hk
  rw [List.mem_range'_1] at hk
  rw [h k hk.1 hk.2]
  decide
/-- All of the span are all. -/
theorem allOf_span {l : List Chg} (h : Row l) {s : Int} {k0 k1 : Nat} (h0 : IsAt l (s - 180000) k0) (h1 : IsAt l (s + 180000) k1) (h01 : k0 ≤ k1) : allOf l s k0 (k1 + 1 - k0) = allOf l s 0 l.length := by
  have g1 := h1.1
  unfold allOf
  congr 1
  have e : List.range' 0 l.length = List.range' 0 k0 ++ (List.range' k0 (k1 + 1 - k0) ++ List.range' (k1 + 1) (l.length - (k1 + 1))) := by
    have e1 : l.length = k0 + ((k1 + 1 - k0) + (l.length - (k1 + 1))) := by omega
    have e2 : List.range' (k1 + 1) (l.length - (k1 + 1)) = List.range' (k0 + (k1 + 1 - k0)) (l.length - (k1 + 1)) := by congr 1; omega
    conv => lhs; rw [e1]
    rw [e2]
    rw [show List.range' k0 (k1 + 1 - k0) ++ List.range' (k0 + (k1 + 1 - k0)) (l.length - (k1 + 1)) = List.range' k0 ((k1 + 1 - k0) + (l.length - (k1 + 1))) from by
      rw [← List.range'_append_1]]
    have := List.range'_append_1 (s := 0) (m := k0) (n := (k1 + 1 - k0) + (l.length - (k1 + 1)))
    rw [Nat.zero_add] at this
    exact this.symm
  rw [e, List.filter_append, List.filter_append, filter_none (a := 0), filter_none (a := k1 + 1), List.nil_append, List.append_nil]
  · intro k hk1 hk2
    exact not_shows_out h h0 h1 (by omega) (.inr (by omega))
  · intro k _ hk2
    exact not_shows_out h h0 h1 (by omega) (.inl (by omega))

/-- Does the k-th change skip a second? -/
def skips (l : List Chg) (s : Int) (k : Nat) : Bool := match l[k]? with
  | some c => decide ((c.at_ : Int) + (locAt l (k - 1)).off ≤ s) && decide (s < c.at_ + c.loc.off)
  | none => false
theorem skips_iff {l : List Chg} {s : Int} {k : Nat} (h : k < l.length) : skips l s k = true ↔ (l[k]).at_ + (l[k - 1]).loc.off ≤ s ∧ s < (l[k]).at_ + (l[k]).loc.off := by
  unfold skips
  rw [locAt_in (show k - 1 < l.length by omega)]
  simp [h]
/-- Where no stretch shows a second, a change behind the k-th one skips it, if the k-th one is not late. -/
theorem gap_there {l : List Chg} {s : Int} (hn : ∀ k, k < l.length → shows l s k = false) : ∀ (m k : Nat), l.length - k = m → ∀ (hk : k < l.length), (l[k]).at_ + (l[k]).loc.off ≤ s → ∃ j, k < j ∧ j < l.length ∧ skips l s j = true ∧ ∀ i, k < i → i < j → skips l s i = false := by
  intro m
  induction m with
  | zero => intro k h hk; omega
  | succ m ih =>
    intro k h hk hle
    have h1 := hn k hk
    by_cases hk1 : k + 1 < l.length
    · have h2 : (l[k + 1]).at_ + (l[k]).loc.off ≤ s := by
        apply Classical.byContradiction
        intro hc
        have : shows l s k = true := (shows_iff hk).2 ⟨by omega, fun _ => by omega⟩
        rw [h1] at this
        cases this
      by_cases hg : s < (l[k + 1]).at_ + (l[k + 1]).loc.off
      · exact ⟨k + 1, by omega, hk1, (skips_iff hk1).2 ⟨by simpa using h2, hg⟩, fun i h3 h4 => by omega⟩
      · obtain ⟨j, h3, h4, h5, h6⟩ := ih (k + 1) (by omega) hk1 (by omega)
        refine ⟨j, by omega, h4, h5, fun i h7 h8 => ?_⟩
        rcases Nat.lt_or_ge (k + 1) i with h9 | h9
        · exact h6 i h9 h8
        · obtain rfl : i = k + 1 := by omega
          cases hs : skips l s (k + 1) with
          | false => rfl
          | true => have := (skips_iff hk1).1 hs; omega
    · have : shows l s k = true := (shows_iff hk).2 ⟨by omega, fun h => absurd h hk1⟩
      rw [h1] at this
      cases this
end Go.Proofs.Ytlkpkmdomecopaa
