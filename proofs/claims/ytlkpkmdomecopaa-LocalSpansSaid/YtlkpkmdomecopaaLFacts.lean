/-
  Layer 20: what is found, told plainly.
-/
import Derived.Test.YtlkpkmdomecopaaLFind
namespace Go.Proofs.Ytlkpkmdomecopaa
open Go Go.RowKit

theorem mem_allL {l : List Chg} (hr : Rising l) {s t : Int} : t ∈ allL l s ↔ ∃ k, ∃ hk : k < l.length, IsAt l t k ∧ t + (l[k]).loc.off = s := by
  unfold allL allOf
  simp only [List.mem_map, List.mem_filter, List.mem_range'_1]
  constructor
  · rintro ⟨k, ⟨⟨_, hk⟩, hs⟩, rfl⟩
    rw [Nat.zero_add] at hk
    refine ⟨k, hk, shows_isAt hr hk hs, ?_⟩
    unfold tAt
    rw [locAt_in hk]
    omega
  · rintro ⟨k, hk, hat, rfl⟩
    have h := shows_of_isAt hat
    rw [locAt_in hk] at h
    exact ⟨k, ⟨⟨by omega, by omega⟩, h.1⟩, h.2⟩
theorem allL_sorted {l : List Chg} (hr : Rising l) (s : Int) : (allL l s).Pairwise (· < ·) := by
  unfold allL allOf
  rw [List.pairwise_map]
  have h : ((List.range' 0 l.length).filter (shows l s)).Pairwise (· < ·) := (List.pairwise_lt_range').filter _
  refine List.Pairwise.imp_of_mem ?_ h
  intro i j hi hj hij
  simp only [List.mem_filter, List.mem_range'_1] at hi hj
  obtain ⟨⟨_, hi1⟩, hi2⟩ := hi
  obtain ⟨⟨_, hj1⟩, hj2⟩ := hj
  rw [Nat.zero_add] at hi1 hj1
  have h1 := shows_isAt hr hi1 hi2
  have h2 := shows_isAt hr hj1 hj2
  have h3 := h1.2.2 j hj1 hij
  have h4 := h2.2.1
  omega
theorem allL_range {l : List Chg} (h : Row l) {s t : Int} (h1 : -2199022895552 < s) (h2 : s < 2199022895552) (ht : t ∈ allL l s) : -2199023255552 ≤ t ∧ t ≤ 2199023255552 := by
  obtain ⟨k, hk, hat, he⟩ := (mem_allL h.rise).1 ht
  have := h.off k hk
  omega
/-- A second that a change skips: the change, and the one ahead of it. -/
def Skip (l : List Chg) (s : Int) (f : Fnd) : Prop := ∃ j, ∃ hj : j < l.length, ∃ _ : 0 < j, f = ⟨3, (l[j]).at_, l[j]⟩ ∧ (l[j]).at_ + (l[j - 1]).loc.off ≤ s ∧ s < (l[j]).at_ + (l[j]).loc.off
theorem skip_of {l : List Chg} {s : Int} {late : Bool} {f : Fnd} (h : found l s late f) (hn : allL l s = []) : Skip l s f := by
  unfold found at h
  rw [hn] at h
  obtain ⟨k0, j, hj, _, h1, h2, _, rfl⟩ := h
  have := (skips_iff hj).1 h2
  exact ⟨j, hj, by omega, rfl, this.1, this.2⟩
/-- The early one, and the late one. -/
def Ends (L : List Int) (f g : Fnd) : Prop := f.chg = .zero ∧ g.chg = .zero ∧ g.kind = f.kind ∧ f.at_ ∈ L ∧ g.at_ ∈ L ∧ (∀ t ∈ L, f.at_ ≤ t ∧ t ≤ g.at_) ∧ ((f.kind = 1 ∧ f.at_ = g.at_) ∨ (f.kind = 2 ∧ f.at_ < g.at_))
theorem ends_of {l : List Chg} (hr : Rising l) {s : Int} {f g : Fnd} (hf : found l s false f) (hg : found l s true g) (hn : allL l s ≠ []) : Ends (allL l s) f g := by
  have hs := allL_sorted hr s
  unfold found at hf hg
  generalize allL l s = L at *
  rcases L with _ | ⟨t, _ | ⟨t2, m⟩⟩
  · exact absurd rfl hn
  · dsimp only at hf hg
    rw [hf, hg]
    refine ⟨rfl, rfl, rfl, by simp, by simp, fun x hx => ?_, .inl ⟨rfl, rfl⟩⟩
    rw [List.mem_singleton] at hx
    subst hx
    exact ⟨Int.le_refl _, Int.le_refl _⟩
  · dsimp only at hf hg
    simp only [Bool.false_eq_true, if_false, if_true] at hf hg
    rw [hf, hg]
    have hlast : ∀ x ∈ t :: t2 :: m, x ≤ (t :: t2 :: m).getLast (by simp) := by
      intro x hx
      obtain ⟨i, hi, rfl⟩ := List.getElem_of_mem hx
      rw [List.getLast_eq_getElem]
      rcases Nat.lt_or_ge i ((t :: t2 :: m).length - 1) with h | h
      · exact Int.le_of_lt (List.pairwise_iff_getElem.1 hs i _ hi (by simp) h)
      · have : i = (t :: t2 :: m).length - 1 := by omega
        subst this
        exact Int.le_refl _
    have h12 : ∀ x ∈ t2 :: m, t < x := (List.pairwise_cons.1 hs).1
    refine ⟨rfl, rfl, rfl, by simp, List.getLast_mem (by simp), fun x hx => ⟨?_, hlast x hx⟩, .inr ⟨rfl, ?_⟩⟩
    · rcases List.mem_cons.1 hx with rfl | hx
      · exact Int.le_refl _
      · exact Int.le_of_lt (h12 x hx)
    · have := h12 t2 (by simp)
      have := hlast t2 (by simp)
      dsimp only
      omega
theorem skip_eq {l : List Chg} {s : Int} {f g : Fnd} (hf : found l s false f) (hg : found l s true g) (hn : allL l s = []) : g = f := by
  unfold found at hf hg
  rw [hn] at hf hg
  obtain ⟨k0, j, hj, hk0, h1, h2, h3, rfl⟩ := hf
  obtain ⟨k0', j', hj', hk0', h1', h2', h3', rfl⟩ := hg
  obtain rfl := isAt_unique hk0 hk0'
  obtain rfl : j = j' := by
    rcases Nat.lt_trichotomy j j' with h | h | h
    · have := h3' j h1 h; rw [h2] at this; cases this
    · exact h
    · have := h3 j' h1' h; rw [h2'] at this; cases this
  rfl
/-- What is shown at an instant that shows a second. -/
theorem shown_all {l : List Chg} (hr : Rising l) {s t : Int} (ht : t ∈ allL l s) {x : Loc} (hx : ShownTo l t l.length x) : t + x.off = s := by
  obtain ⟨k, hk, hat, he⟩ := (mem_allL hr).1 ht
  rw [shownTo_at hx hat]
  exact he
theorem skip_range {l : List Chg} (h : Row l) {s : Int} {f : Fnd} (hf : Skip l s f) : -2199023255552 < f.at_ ∧ f.at_ ≤ 2199023255552 := by
  obtain ⟨j, hj, h0, rfl, -, -⟩ := hf
  have h1 := (h.off j hj).2.2
  have h2 := h.rise.lt hj h0
  have h3 := h.first
  dsimp only
  omega
/-- What is shown at the change, and right ahead of it. -/
theorem skip_shown {l : List Chg} (h : Row l) {s : Int} {f : Fnd} (hf : Skip l s f) {x w : Loc} (hx : ShownTo l f.at_ l.length x) (hw : ShownTo l (f.at_ - 1) l.length w) : f.chg.loc = x ∧ f.kind = 3 ∧ f.at_ + w.off ≤ s ∧ s < f.at_ + x.off := by
  obtain ⟨j, hj, h0, rfl, h1, h2⟩ := hf
  have hj1 : j - 1 < l.length := by omega
  have a1 : IsAt l (l[j]).at_ j := isAt_next h.rise hj (Int.le_refl _) (fun hn => h.rise j hn)
  have a2 : IsAt l ((l[j]).at_ - 1) (j - 1) := by
    have e : j - 1 + 1 = j := by omega
    have hlt := h.rise (j - 1) (by omega)
    have e2 : (l[j - 1 + 1]'(by omega)).at_ = (l[j]).at_ := by simp only [e]
    rw [e2] at hlt
    exact isAt_next h.rise hj1 (by omega) (fun hn => by rw [e2]; omega)
  rw [shownTo_at hx a1, shownTo_at hw a2]
  exact ⟨rfl, rfl, h1, h2⟩
end Go.Proofs.Ytlkpkmdomecopaa
