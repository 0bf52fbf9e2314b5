/-
  What is left of changes when those that change nothing are left away: plain.
-/
import Derived.Test.YtekeaphbmkfogaaGreatDoorTMerge
import Derived.Test.YtekeaphbmkfogaaGreatDoorTCutMath
namespace Go.Proofs.YtekeaphbmkfogaaGreatDoor

theorem rising_snoc {P : List Chg} {c : Chg} (hr : Rising P) (h : ∀ x ∈ P, x.at_ < c.at_) : Rising (P ++ [c]) := by
  intro i hi
  rw [List.length_append, List.length_singleton] at hi
  rcases Nat.lt_or_ge (i + 1) P.length with h1 | h1
  · rw [List.getElem_append_left (by omega), List.getElem_append_left h1]
    exact hr i h1
  · rw [List.getElem_append_left (by omega), List.getElem_append_right h1]
    simp only [List.getElem_singleton]
    exact h _ (List.getElem_mem _)
theorem atV_snoc {P : List Chg} {c : Chg} (hp : Rising P) (h : ∀ x ∈ P, x.at_ < c.at_) (i : Int) : atV (P ++ [c]) i = if c.at_ ≤ i then (c.loc, 0) else atV P i := by
  have hr := rising_snoc hp h
  by_cases hc : c.at_ ≤ i
  · have e : bh (P ++ [c]) i = P.length + 1 := bh_eq hr (by simp) (fun k hk _ => by
      rcases Nat.lt_or_ge k P.length with h1 | h1
      · rw [List.getElem_append_left h1]
        have := h _ (List.getElem_mem h1)
        omega
      · rw [List.getElem_append_right h1]
        simp only [List.getElem_singleton]
        exact hc) (fun k hk h1 => by simp at hk; omega)
    unfold atV
    rw [e, if_neg (by omega), if_pos hc, Nat.add_sub_cancel, getD_at (by simp), List.getElem_append_right (Nat.le_refl _)]
    simp
  · have hle := bh_le P i
    have e : bh (P ++ [c]) i = bh P i := bh_eq hr (by simp; omega) (fun k hk h1 => by
      rw [List.getElem_append_left (by omega)]
      exact (bh_iff hp i (by omega)).1 h1) (fun k hk h1 => by
      rcases Nat.lt_or_ge k P.length with h2 | h2
      · rw [List.getElem_append_left h2]
        have h4 := bh_iff hp i h2
        omega
      · rw [List.getElem_append_right h2]
        simp only [List.getElem_singleton]
        omega)
    unfold atV
    rw [e, if_neg hc]
    by_cases h0 : bh P i = 0
    · rw [if_pos h0, if_pos h0]
    · rw [if_neg h0, if_neg h0, getD_at (by simp; omega), getD_at (by omega), List.getElem_append_left (by omega)]
theorem mg_succ {l : List Chg} {k : Nat} (hk : k < l.length) :
    (mg l (k + 1) = mg l k ++ [l[k]] ∧ (0 < k → ((mg l k).getD ((mg l k).length - 1) .zero).loc ≠ (l[k]).loc)) ∨ (mg l (k + 1) = mg l k ∧ 0 < k ∧ ((mg l k).getD ((mg l k).length - 1) .zero).loc = (l[k]).loc) := by
  have hm := mg_len l k
  have e : mg l (k + 1) = if (mg l k).length = 0 then mg l k ++ [l.getD k .zero] else bif locEq ((mg l k).getD ((mg l k).length - 1) .zero).loc (l.getD k .zero).loc then mg l k else mg l k ++ [l.getD k .zero] := rfl
  rw [e, getD_at hk]
  by_cases h0 : (mg l k).length = 0
  · rw [if_pos h0]
    exact .inl ⟨rfl, fun h => absurd (hm.2 h) (by omega)⟩
  · rw [if_neg h0]
    cases hq : locEq ((mg l k).getD ((mg l k).length - 1) .zero).loc (l[k]).loc
    · exact .inl ⟨rfl, fun _ h => by rw [locEq_iff.2 h] at hq; cases hq⟩
    · exact .inr ⟨rfl, by omega, locEq_iff.1 hq⟩
/-- The facts of what is left of the first k. -/
structure MgOf (l : List Chg) (k : Nat) (M : List Chg) : Prop where
  rises : Rising M
  before : ∀ x ∈ M, ∀ j (h : j < l.length), k ≤ j → x.at_ < (l[j]).at_
  last : ∀ h : 0 < k, ∀ h2 : k ≤ l.length, (M.getD (M.length - 1) .zero).loc = (l[k - 1]).loc
  turns : ∀ j (h : j + 1 < M.length), (M[j]).loc ≠ (M[j + 1]).loc
  shows : ∀ i, atV M i = atV (l.take k) i
theorem mg_of {l : List Chg} (hr : Rising l) : ∀ k, k ≤ l.length → MgOf l k (mg l k) := by
  intro k
  induction k with
  | zero => intro _; exact ⟨fun i h => by simp [mg] at h, fun x h => by simp [mg] at h, fun h => by omega, fun j h => by simp [mg] at h, fun i => rfl⟩
  | succ k ih =>
    intro hk
    have ih := ih (by omega)
    have hm := mg_len l k
    have hb : ∀ x ∈ mg l k, x.at_ < (l[k]).at_ := fun x hx => ih.before x hx k (by omega) (Nat.le_refl _)
    have htr : Rising (l.take k) := fun i h => by
      rw [List.length_take] at h
      rw [List.getElem_take, List.getElem_take]
      exact hr i (by omega)
    have hbt : ∀ x ∈ l.take k, x.at_ < (l[k]).at_ := fun x hx => by
      obtain ⟨j, hj, rfl⟩ := List.getElem_of_mem hx
      rw [List.length_take] at hj
      rw [List.getElem_take]
      exact hr.lt (by omega) (by omega)
    rcases mg_succ (l := l) (k := k) (by omega) with ⟨e, hne⟩ | ⟨e, h0, heq⟩
    · rw [e]
      refine ⟨rising_snoc ih.rises hb, fun x hx j hj hkj => ?_, fun _ _ => ?_, fun j hj => ?_, fun i => ?_⟩
      · rcases List.mem_append.1 hx with h | h
        · exact ih.before x h j hj (by omega)
        · rw [List.mem_singleton.1 h]; exact hr.lt hj (by omega)
      · rw [List.length_append, List.length_singleton, Nat.add_sub_cancel, getD_at (by simp), List.getElem_append_right (Nat.le_refl _)]
        simp
      · rw [List.length_append, List.length_singleton] at hj
        rcases Nat.lt_or_ge (j + 1) (mg l k).length with h1 | h1
        · rw [List.getElem_append_left (by omega), List.getElem_append_left h1]
          exact ih.turns j h1
        · rw [List.getElem_append_left (by omega), List.getElem_append_right h1]
          simp only [List.getElem_singleton]
          have := hne (by omega)
          rwa [show (mg l k).length - 1 = j by omega, getD_at (by omega)] at this
      · rw [List.take_succ_eq_append_getElem (by omega), atV_snoc ih.rises hb, atV_snoc htr hbt, ih.shows]
    · rw [e]
      refine ⟨ih.rises, fun x hx j hj hkj => ih.before x hx j hj (by omega), fun _ _ => heq, ih.turns, fun i => ?_⟩
      rw [List.take_succ_eq_append_getElem (by omega), atV_snoc htr hbt]
      by_cases hc : (l[k]).at_ ≤ i
      · rw [if_pos hc, ← heq]
        have e2 : bh (mg l k) i = (mg l k).length := bh_eq ih.rises (Nat.le_refl _) (fun j hj _ => by have := hb _ (List.getElem_mem hj); omega) (fun j hj h1 => by omega)
        have := hm.2 h0
        unfold atV
        rw [e2, if_neg (by omega)]
      · rw [if_neg hc, ih.shows]
theorem mg_twice {M : List Chg} (h : ∀ j (h : j + 1 < M.length), (M[j]).loc ≠ (M[j + 1]).loc) : ∀ k, k ≤ M.length → mg M k = M.take k := by
  intro k
  induction k with
  | zero => intro _; simp [mg]
  | succ k ih =>
    intro hk
    have ih := ih (by omega)
    rcases mg_succ (l := M) (k := k) (by omega) with ⟨e, -⟩ | ⟨e, h0, heq⟩
    · rw [e, ih, List.take_succ_eq_append_getElem (by omega)]
    · exfalso
      have h1 := h (k - 1) (by omega)
      rw [ih, List.length_take, Nat.min_eq_left (by omega), getD_at (by rw [List.length_take]; omega), List.getElem_take] at heq
      exact h1 (by simpa only [show k - 1 + 1 = k by omega] using heq)
theorem mg_more (l : List Chg) {k m : Nat} (h : k ≤ m) (hm : m ≤ l.length) : ∃ R, mg l m = mg l k ++ R := by
  induction m with
  | zero => exact ⟨[], by rw [show k = 0 by omega]; simp⟩
  | succ m ih =>
    rcases Nat.lt_or_ge m k with h1 | h1
    · exact ⟨[], by rw [show k = m + 1 by omega]; simp⟩
    · obtain ⟨R, hR⟩ := ih h1 (by omega)
      rcases mg_succ (l := l) (k := m) (by omega) with ⟨e, -⟩ | ⟨e, -⟩
      · exact ⟨R ++ [l[m]], by rw [e, hR, List.append_assoc]⟩
      · exact ⟨R, by rw [e, hR]⟩
/-- What a round of the law meets. -/
theorem mg_round {l T : List Chg} (hr : Rising l) (hT : mg l l.length = T) {k : Nat} (hk : k < l.length) :
    ((0 < k ∧ (l[k]).loc = (l.getD (k - 1) .zero).loc) ∧ (mg l (k + 1)).length = (mg l k).length) ∨
    ((0 < k → (l[k]).loc ≠ (l.getD (k - 1) .zero).loc) ∧ (mg l (k + 1)).length = (mg l k).length + 1 ∧ ∃ h : (mg l k).length < T.length, T[(mg l k).length] = l[k]) := by
  have ho := mg_of hr k (by omega)
  rcases mg_succ hk with ⟨e, hne⟩ | ⟨e, h0, heq⟩
  · right
    refine ⟨fun h he => hne h ?_, by rw [e]; simp, ?_⟩
    · rw [getD_at (by omega)] at he
      rw [ho.last h (by omega), he]
    · obtain ⟨R, hR⟩ := mg_more l (k := k + 1) (m := l.length) (by omega) (Nat.le_refl _)
      rw [e, List.append_assoc, hT] at hR
      subst hT
      refine ⟨by rw [hR]; simp, ?_⟩
      simp only [hR]
      rw [List.getElem_append_right (Nat.le_refl _)]
      simp
  · left
    refine ⟨⟨h0, ?_⟩, by rw [e]⟩
    rw [← heq, ho.last h0 (by omega), getD_at (by omega)]
/-- What Merge makes of rising changes. -/
theorem mergeT_facts {l : List Chg} (hr : Rising l) : ∃ T, mergeT l = T ∧ mg l l.length = T ∧ Rising T ∧ T.length ≤ l.length ∧ mergeE T = 0 ∧ mergeT T = T ∧ ∀ i, atV T i = atV l i := by
  have hl := (riseB_iff l).2 hr
  have ho := mg_of hr l.length (Nat.le_refl _)
  have e : mergeT l = mg l l.length := by unfold mergeT; rw [if_pos hl]
  have h2 := (riseB_iff _).2 ho.rises
  refine ⟨_, e, rfl, ho.rises, (mg_len l l.length).1, by unfold mergeE; rw [if_pos h2], ?_, fun i => by rw [ho.shows, List.take_length]⟩
  unfold mergeT
  rw [if_pos h2, mg_twice ho.turns _ (Nat.le_refl _), List.take_length]
end Go.Proofs.YtekeaphbmkfogaaGreatDoor
