/-
  Rules in memory.
-/
import Derived.Test.YtfbkkhfmboaknaaGreatDoorFire
namespace Go.Proofs.YtfbkkhfmboaknaaGreatDoor
open Go Go.RowKit Go.Shelf
set_option maxRecDepth 100000

def rulsV (l : List Rul) : List Value := l.flatMap rulV
theorem length_rulsV (l : List Rul) : (rulsV l).length = l.length * 11 := by
  induction l with
  | nil => rfl
  | cons c l ih => simp only [rulsV, List.flatMap_cons, List.length_append, List.length_cons, rulV, List.length_nil] at ih ⊢; omega
theorem rulsV_at (l : List Rul) (i : Nat) (h : i < l.length) (k : Nat) (hk : k < 11) : (rulsV l)[i * 11 + k]? = (rulV l[i])[k]? := by
  induction l generalizing i with
  | nil => exact absurd h (by simp)
  | cons c l ih =>
    rcases i with _ | i
    · rw [Nat.zero_mul, Nat.zero_add]
      show (rulV c ++ rulsV l)[k]? = _
      rw [List.getElem?_append_left (by simp [rulV]; omega)]
      rfl
    · have := ih i (by simpa using h)
      show (rulV c ++ rulsV l)[(i + 1) * 11 + k]? = _
      rw [List.getElem?_append_right (by simp [rulV]; omega), show (i + 1) * 11 + k - (rulV c).length = i * 11 + k by simp [rulV]; omega, this]
      rfl
/-- A slice of rules. -/
def Ruls (w : World) (B : Nat) (v : Value) (l : List Rul) : Prop := Sl w B 11 v l.length (rulsV l)
section
variable {w w' : World} {B B' : Nat} {v : Value} {l : List Rul}
theorem Ruls.form (h : Ruls w B v l) : ∃ A c, v = .slice A l.length c ∧ l.length ≤ c ∧ c ≤ maxLen := by
  obtain ⟨A, c, rfl, h1, h2, -⟩ := h
  exact ⟨A, c, rfl, h1, h2⟩
theorem Ruls.below (h : Ruls w B v l) (hb : Below B w w') : Ruls w' B v l := Sl.below h hb
/-- The cells of a rule at a place. -/
def RulC (W : World) (b o : Nat) (r : Rul) : Prop := W.cell? ⟨b, o, none⟩ = some (.string r.name) ∧ W.cell? ⟨b, o + 1, none⟩ = some (.int .i64 r.from_) ∧ W.cell? ⟨b, o + 2, none⟩ = some (.int .i64 r.to_) ∧ W.cell? ⟨b, o + 3, none⟩ = some (.int .i64 r.month) ∧ W.cell? ⟨b, o + 4, none⟩ = some (.int .i64 r.dk) ∧ W.cell? ⟨b, o + 5, none⟩ = some (.int .i64 r.dw) ∧ W.cell? ⟨b, o + 6, none⟩ = some (.int .i64 r.dn) ∧ W.cell? ⟨b, o + 7, none⟩ = some (.int .i64 r.sec) ∧ W.cell? ⟨b, o + 8, none⟩ = some (.int .i64 r.kind) ∧ W.cell? ⟨b, o + 9, none⟩ = some (.int .i64 r.save) ∧ W.cell? ⟨b, o + 10, none⟩ = some (.string r.letter)
theorem Ruls.cells (h : Ruls w B v l) (hl : 0 < l.length) : ∃ b o c, v = .slice (some ⟨b, o, none⟩) l.length c ∧ b < B ∧ ∀ i (hi : i < l.length), RulC w b (o + i * 11) l[i] := by
  obtain ⟨b, o, c, e, hb, hc⟩ := Sl.at_ h hl
  refine ⟨b, o, c, e, hb, fun i hi => ?_⟩
  have hk : ∀ k u, k < 11 → (rulV l[i])[k]? = some u → w.cell? ⟨b, o + i * 11 + k, none⟩ = some u := fun k u hk hu => by
    rw [Nat.add_assoc]
    exact hc _ u (by rw [rulsV_at l i hi k hk]; exact hu)
  exact ⟨hk 0 _ (by omega) rfl, hk 1 _ (by omega) rfl, hk 2 _ (by omega) rfl, hk 3 _ (by omega) rfl, hk 4 _ (by omega) rfl, hk 5 _ (by omega) rfl, hk 6 _ (by omega) rfl, hk 7 _ (by omega) rfl, hk 8 _ (by omega) rfl, hk 9 _ (by omega) rfl, hk 10 _ (by omega) rfl⟩
/-- One rule of a slice, as a slice. -/
theorem Ruls.one {b o c : Nat} (h : Ruls w B (.slice (some ⟨b, o, none⟩) l.length c) l) {i : Nat} (hi : i < l.length) : Ruls w B (.slice (some ⟨b, o + i * 11, none⟩) 1 (c - i)) [l[i]] := by
  obtain ⟨A, c', e, h1, h2, h3, h4⟩ := h
  injection e with e1 e2 e3
  subst e1 e3
  refine ⟨_, _, rfl, by simp; omega, by omega, by simp [rulsV, rulV], fun _ => ?_⟩
  obtain ⟨b', o', e, hb, hc⟩ := h4 (by omega)
  injection e with e
  injection e with e1 e2
  subst e1 e2
  refine ⟨b, o + i * 11, rfl, hb, fun j u hu => ?_⟩
  have hj : j < 11 := by
    have := (List.getElem?_eq_some_iff.1 hu).1
    simpa [rulsV, rulV] using this
  rw [Nat.add_assoc]
  refine hc _ u ?_
  rw [rulsV_at l i hi j hj]
  simpa [rulsV] using hu
end
/-- The firings of rules in some years, rule by rule. -/
def yrs (a b : Int) : List Int := (List.range (b + 1 - a).toNat).map fun i => a + (i : Nat)
def genR (r : Rul) (a b : Int) : List Fir := ((yrs a b).filter fun y => ofB r y).map fun y => firOf r y
def genL (l : List Rul) (a b : Int) : List Fir := l.flatMap fun r => genR r a b
theorem yrs_nil {a b : Int} (h : b < a) : yrs a b = [] := by
  unfold yrs
  rw [show (b + 1 - a).toNat = 0 by omega]
  rfl
theorem yrs_snoc {a b : Int} (h : a ≤ b + 1) : yrs a (b + 1) = yrs a b ++ [b + 1] := by
  unfold yrs
  rw [show (b + 1 + 1 - a).toNat = (b + 1 - a).toNat + 1 by omega, List.range_succ, List.map_append]
  congr 1
  simp
  omega
theorem yrs_split {a b c : Int} (h1 : a ≤ b + 1) (h2 : b ≤ c) : yrs a c = yrs a b ++ yrs (b + 1) c := by
  obtain ⟨n, hn⟩ : ∃ n : Nat, c = b + n := ⟨(c - b).toNat, by omega⟩
  subst hn
  clear h2
  induction n with
  | zero => rw [show b + ((0 : Nat) : Int) = b by omega, yrs_nil (show b < b + 1 by omega), List.append_nil]
  | succ n ih =>
    rw [show b + ((n + 1 : Nat) : Int) = b + (n : Int) + 1 by omega, yrs_snoc (by omega), yrs_snoc (by omega), ih, List.append_assoc]
theorem yrs_mem {a b y : Int} : y ∈ yrs a b ↔ a ≤ y ∧ y ≤ b := by
  unfold yrs
  rw [List.mem_map]
  constructor
  · rintro ⟨i, hi, rfl⟩
    rw [List.mem_range] at hi
    omega
  · intro h
    exact ⟨(y - a).toNat, List.mem_range.2 (by omega), by omega⟩
theorem yrs_len (a b : Int) : (yrs a b).length = (b + 1 - a).toNat := by unfold yrs; simp
/-- Years in which a rule does not hold have no firing of it. -/
theorem genR_cut (r : Rul) (a b : Int) : genR r a b = genR r (max a r.from_) (min b r.to_) := by
  have hno : ∀ x y, (∀ z, z ∈ yrs x y → ofB r z = false) → genR r x y = [] := fun x y h => by
    unfold genR
    rw [List.filter_eq_nil_iff.2 (fun z hz => by rw [h z hz]; decide), List.map_nil]
  have hof : ∀ z, (z < r.from_ ∨ r.to_ < z) → ofB r z = false := fun z hz => by
    unfold ofB
    rw [decide_eq_false (by omega)]
    rfl
  have happ : ∀ x y z, x ≤ y + 1 → y ≤ z → genR r x z = genR r x y ++ genR r (y + 1) z := fun x y z h1 h2 => by
    unfold genR
    rw [yrs_split h1 h2, List.filter_append, List.map_append]
  by_cases h : max a r.from_ ≤ min b r.to_
  · rw [happ a (max a r.from_ - 1) b (by omega) (by omega), hno a (max a r.from_ - 1) (fun z hz => hof z (by have := yrs_mem.1 hz; omega)), List.nil_append, show max a r.from_ - 1 + 1 = max a r.from_ by omega,
      happ (max a r.from_) (min b r.to_) b (by omega) (by omega), hno (min b r.to_ + 1) b (fun z hz => hof z (by have := yrs_mem.1 hz; omega)), List.append_nil]
  · rw [hno (max a r.from_) (min b r.to_) (fun z hz => by have := yrs_mem.1 hz; omega)]
    exact hno a b fun z hz => hof z (by have := yrs_mem.1 hz; omega)
theorem genR_split (r : Rul) {a b c : Int} (h1 : a ≤ b + 1) (h2 : b ≤ c) : genR r a c = genR r a b ++ genR r (b + 1) c := by
  unfold genR
  rw [yrs_split h1 h2, List.filter_append, List.map_append]
theorem genR_len (r : Rul) (a b : Int) : (genR r a b).length ≤ (b + 1 - a).toNat := by
  unfold genR
  rw [List.length_map]
  exact Nat.le_trans (List.length_filter_le _ _) (by rw [yrs_len]; exact Nat.le_refl _)
theorem genL_len_split (l : List Rul) {a b c : Int} (h1 : a ≤ b + 1) (h2 : b ≤ c) : (genL l a c).length = (genL l a b).length + (genL l (b + 1) c).length := by
  unfold genL
  induction l with
  | nil => rfl
  | cons r l ih =>
    simp only [List.flatMap_cons, List.length_append]
    rw [ih, genR_split r h1 h2, List.length_append]
    omega
theorem genL_len (l : List Rul) (a b : Int) : (genL l a b).length ≤ l.length * (b + 1 - a).toNat := by
  unfold genL
  induction l with
  | nil => simp
  | cons r l ih =>
    simp only [List.flatMap_cons, List.length_append, List.length_cons]
    have := genR_len r a b
    rw [Nat.add_mul, Nat.one_mul]
    omega
theorem genL_one (r : Rul) (a b : Int) : genL [r] a b = genR r a b := by unfold genL; simp
end Go.Proofs.YtfbkkhfmboaknaaGreatDoor
