/-
  Stable sorting by insertion and by merging in place, over plain lists: what is sorted, what is stable.
-/
import Derived.Test.YtfbkkhfmboaknaaGreatDoorBase
namespace Go.Proofs.YtfbkkhfmboaknaaGreatDoor
section
variable {α : Type} (key : α → Int)

/-- A row that is another one, sorted, equals as they stood. -/
def Stab (xs ys : List α) : Prop := ys.Perm xs ∧ ys.Pairwise (fun a b => key a ≤ key b) ∧ ∀ k : Int, ys.filter (fun a => decide (key a = k)) = xs.filter (fun a => decide (key a = k))
variable {key}
theorem Stab.nil : Stab key ([] : List α) [] := ⟨.nil, .nil, fun _ => rfl⟩
theorem Stab.one (x : α) : Stab key [x] [x] := ⟨.refl _, by simp, fun _ => rfl⟩
theorem Stab.len {xs ys : List α} (h : Stab key xs ys) : ys.length = xs.length := h.1.length_eq
/-- An element put in behind all that are not greater. -/
theorem Stab.put {xs A B : List α} {x : α} (h : Stab key xs (A ++ B)) (hA : ∀ a ∈ A, key a ≤ key x) (hB : ∀ b ∈ B, key x < key b) : Stab key (xs ++ [x]) (A ++ x :: B) := by
  obtain ⟨h1, h2, h3⟩ := h
  refine ⟨?_, ?_, fun k => ?_⟩
  · refine List.perm_middle.trans ?_
    refine (List.Perm.cons x h1).trans ?_
    exact (List.perm_append_singleton x xs).symm
  · rw [List.pairwise_append] at h2 ⊢
    refine ⟨h2.1, List.pairwise_cons.2 ⟨fun b hb => Int.le_of_lt (hB b hb), h2.2.1⟩, fun a ha b hb => ?_⟩
    rcases List.mem_cons.1 hb with rfl | hb
    · exact hA a ha
    · exact h2.2.2 a ha b hb
  · have h4 := h3 k
    rw [List.filter_append] at h4 ⊢
    rw [List.filter_append, ← h4, List.filter_cons]
    by_cases hk : key x = k
    · have hB0 : B.filter (fun a => decide (key a = k)) = [] := by
        rw [List.filter_eq_nil_iff]
        intro b hb
        have := hB b hb
        simp only [decide_eq_true_eq]
        omega
      rw [hB0]
      simp [hk]
    · simp [hk]
theorem Stab.trans {xs ys zs : List α} (h1 : Stab key xs ys) (h2 : Stab key ys zs) : Stab key xs zs :=
  ⟨h2.1.trans h1.1, h2.2.1, fun k => (h2.2.2 k).trans (h1.2.2 k)⟩
/-- What is asked of a row in the midst of sorting: it is another one, equals as they stood. -/
def Keeps (key : α → Int) (xs ys : List α) : Prop := ys.Perm xs ∧ ∀ k : Int, ys.filter (fun a => decide (key a = k)) = xs.filter (fun a => decide (key a = k))
theorem Keeps.refl (xs : List α) : Keeps key xs xs := ⟨.refl _, fun _ => rfl⟩
theorem Keeps.trans {xs ys zs : List α} (h1 : Keeps key xs ys) (h2 : Keeps key ys zs) : Keeps key xs zs := ⟨h2.1.trans h1.1, fun k => (h2.2 k).trans (h1.2 k)⟩
theorem Keeps.stab {xs ys : List α} (h : Keeps key xs ys) (hs : ys.Pairwise (fun a b => key a ≤ key b)) : Stab key xs ys := ⟨h.1, hs, h.2⟩
theorem Stab.keeps {xs ys : List α} (h : Stab key xs ys) : Keeps key xs ys := ⟨h.1, h.2.2⟩
theorem Keeps.append {a b c d : List α} (h1 : Keeps key a b) (h2 : Keeps key c d) : Keeps key (a ++ c) (b ++ d) :=
  ⟨h1.1.append h2.1, fun k => by rw [List.filter_append, List.filter_append, h1.2 k, h2.2 k]⟩
theorem Keeps.len {xs ys : List α} (h : Keeps key xs ys) : ys.length = xs.length := h.1.length_eq
/-- Two rows change places, none of the first one as great as one of the second. -/
theorem Keeps.swap {U V : List α} (h : ∀ u ∈ U, ∀ v ∈ V, key u ≠ key v) : Keeps key (U ++ V) (V ++ U) := by
  refine ⟨List.perm_append_comm, fun k => ?_⟩
  rw [List.filter_append, List.filter_append]
  by_cases hu : ∃ u ∈ U, key u = k
  · obtain ⟨u, hu, rfl⟩ := hu
    have : V.filter (fun a => decide (key a = key u)) = [] := by
      rw [List.filter_eq_nil_iff]
      intro v hv
      simp only [decide_eq_true_eq]
      exact fun e => h u hu v hv e.symm
    rw [this, List.nil_append, List.append_nil]
  · have : U.filter (fun a => decide (key a = k)) = [] := by
      rw [List.filter_eq_nil_iff]
      intro v hv
      simp only [decide_eq_true_eq]
      exact fun e => hu ⟨v, hv, e⟩
    rw [this, List.nil_append, List.append_nil]
/-- Two sorted rows in which each number has the same elements are one. -/
theorem stab_unique : ∀ {ys zs : List α}, ys.Pairwise (fun a b => key a ≤ key b) → zs.Pairwise (fun a b => key a ≤ key b) → (∀ k : Int, ys.filter (fun a => decide (key a = k)) = zs.filter (fun a => decide (key a = k))) → ys = zs
  | [], [], _, _, _ => rfl
  | [], z :: zs, _, _, h => by
    have := h (key z)
    simp at this
  | y :: ys, [], _, _, h => by
    have := h (key y)
    simp at this
  | y :: ys, z :: zs, h1, h2, h => by
    have hyz : key y = key z := by
      have a : key y ≤ key z := by
        have : z ∈ (y :: ys).filter (fun a => decide (key a = key z)) := by rw [h (key z)]; simp
        have := (List.mem_filter.1 this).1
        rcases List.mem_cons.1 this with e | e
        · rw [e]; exact Int.le_refl _
        · exact (List.pairwise_cons.1 h1).1 z e
      have b : key z ≤ key y := by
        have : y ∈ (z :: zs).filter (fun a => decide (key a = key y)) := by rw [← h (key y)]; simp
        have := (List.mem_filter.1 this).1
        rcases List.mem_cons.1 this with e | e
        · rw [e]; exact Int.le_refl _
        · exact (List.pairwise_cons.1 h2).1 y e
      omega
    have e := h (key y)
    rw [List.filter_cons, List.filter_cons, if_pos (by simp), if_pos (by simp [hyz])] at e
    injection e with e1 e2
    subst e1
    congr 1
    refine stab_unique (List.pairwise_cons.1 h1).2 (List.pairwise_cons.1 h2).2 fun k => ?_
    have e := h k
    rw [List.filter_cons, List.filter_cons] at e
    by_cases hk : key y = k
    · rw [if_pos (by simp [hk]), if_pos (by simp [hk])] at e
      injection e
    · rw [if_neg (by simp [hk]), if_neg (by simp [hk])] at e
      exact e
theorem Stab.unique {xs ys zs : List α} (h1 : Stab key xs ys) (h2 : Stab key xs zs) : ys = zs := stab_unique h1.2.1 h2.2.1 fun k => (h1.2.2 k).trans (h2.2.2 k).symm
theorem take_le {L : List α} (hs : L.Pairwise (fun a b => key a ≤ key b)) {s : Nat} (h : s < L.length) : ∀ l ∈ L.take (s + 1), key l ≤ key L[s] := by
  intro l hl
  obtain ⟨i, hi, rfl⟩ := List.mem_take_iff_getElem.1 hl
  rcases Nat.lt_or_ge i s with h1 | h1
  · exact List.pairwise_iff_getElem.1 hs i s (by omega) h h1
  · have : i = s := by omega
    subst this
    exact Int.le_refl _
theorem drop_ge {L : List α} (hs : L.Pairwise (fun a b => key a ≤ key b)) {s : Nat} (h : s < L.length) : ∀ l ∈ L.drop s, key L[s] ≤ key l := by
  intro l hl
  rw [List.drop_eq_getElem_cons h] at hl
  rcases List.mem_cons.1 hl with rfl | hl
  · exact Int.le_refl _
  · have h2 : (L.drop s).Pairwise (fun a b => key a ≤ key b) := hs.sublist (List.drop_sublist s L)
    rw [List.drop_eq_getElem_cons h] at h2
    exact (List.pairwise_cons.1 h2).1 l hl
/-- Two sorted rows, parted so that the first parts stand ahead of the second ones, and each two parts merged. -/
theorem Stab.sym {L1 L2 R1 R2 M1 M2 : List α} (h1 : ∀ l ∈ L1, ∀ r ∈ R2, key l ≤ key r) (h2 : ∀ r ∈ R1, ∀ l ∈ L2, key r < key l)
    (hL : (L1 ++ L2).Pairwise (fun a b => key a ≤ key b)) (hR : (R1 ++ R2).Pairwise (fun a b => key a ≤ key b)) (m1 : Stab key (L1 ++ R1) M1) (m2 : Stab key (L2 ++ R2) M2) : Stab key ((L1 ++ L2) ++ (R1 ++ R2)) (M1 ++ M2) := by
  have hk : Keeps key ((L1 ++ L2) ++ (R1 ++ R2)) ((L1 ++ R1) ++ (L2 ++ R2)) := by
    have h := (Keeps.refl (key := key) L1).append ((Keeps.swap (U := L2) (V := R1) (key := key) (fun u hu v hv e => by have := h2 v hv u hu; omega)).append (Keeps.refl R2))
    simpa using h
  refine ((hk.trans (m1.keeps.append m2.keeps))).stab ?_
  rw [List.pairwise_append] at hL hR ⊢
  refine ⟨m1.2.1, m2.2.1, fun x hx y hy => ?_⟩
  have hx := m1.1.mem_iff.1 hx
  have hy := m2.1.mem_iff.1 hy
  rcases List.mem_append.1 hx with hx | hx <;> rcases List.mem_append.1 hy with hy | hy
  · exact hL.2.2 x hx y hy
  · exact h1 x hx y hy
  · exact Int.le_of_lt (h2 x hx y hy)
  · exact hR.2.2 x hx y hy
theorem stab_left {L : List α} (hL : L.Pairwise (fun a b => key a ≤ key b)) : Stab key L L := (Keeps.refl L).stab hL
end
end Go.Proofs.YtfbkkhfmboaknaaGreatDoor
