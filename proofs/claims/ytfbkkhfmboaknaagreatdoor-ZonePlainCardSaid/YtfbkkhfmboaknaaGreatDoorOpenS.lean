/-
  Slices of whatever that came in: a list of what each element is.
-/
import Derived.Deep.Slices
import Derived.Deep.Strs
import Derived.ChangeSame
import Derived.Lib.SmallJoins
import Derived.Test.YtfbkkhfmboaknaaGreatDoorOpen
namespace Go.Proofs.YtfbkkhfmboaknaaGreatDoor
open Go Go.ChangeShapes Go.WideShapes Go.ChangeAt Go.RowKit Go.Deep

section
variable {H : Type} {enc : TypeId × Value → H} {P : Program} {W : World}
theorem flat_len {α : Type} (f : α → List Value) (C : Nat) (l : List α) (h : ∀ a ∈ l, (f a).length = C) : (l.flatMap f).length = l.length * C := by
  induction l with
  | nil => simp
  | cons a l ih =>
    rw [List.flatMap_cons, List.length_append, h a (by simp), ih (fun b hb => h b (by simp [hb])), List.length_cons, Nat.add_mul]
    omega
theorem flat_at {α : Type} (f : α → List Value) (C : Nat) (l : List α) (h : ∀ a ∈ l, (f a).length = C) (i k : Nat) (hi : i < l.length) (hk : k < C) : (l.flatMap f)[i * C + k]? = (f l[i])[k]? := by
  induction l generalizing i with
  | nil => exact absurd hi (by simp)
  | cons a l ih =>
    have ha := h a (by simp)
    rw [List.flatMap_cons]
    rcases i with _ | i
    · rw [Nat.zero_mul, Nat.zero_add, List.getElem?_append_left (by omega)]
      rfl
    · rw [List.getElem?_append_right (by rw [ha, Nat.add_mul]; omega), ha, show (i + 1) * C + k - C = i * C + k by rw [Nat.add_mul]; omega, ih (fun b hb => h b (by simp [hb])) i (by simpa using hi)]
      rfl
/-- A slice, of elements each of which is an a whose cells are f a. -/
theorem open_list {α : Type} [Inhabited α] (f : α → List Value) (Pr : α → Prop) {T E : TypeId} {C : Nat} (hT : P.underlying T = some (.slice E)) (hC : P.cellsOf E = C) (h0 : 0 < C)
    (hel : ∀ (n : Nat) (cs : List Value) (y : DataW H × List MemPlace), cs.length = C → DataW.trod enc P W 0 (fun _ => true) true n E cs = some y → ∃ a, cs = f a ∧ Pr a)
    {n : Nat} {cs : List Value} {x : DataW H × List MemPlace} (h : DataW.trod enc P W 0 (fun _ => true) true n T cs = some x) : ∃ (v : Value) (l : List α), cs = [v] ∧ Sl W W.heap.size C v l.length (l.flatMap f) ∧ ∀ a ∈ l, Pr a ∧ (f a).length = C := by
  rcases open_slice hT h with ⟨rfl, _⟩ | ⟨a, len, cap, m, k, D, Pl, rfl, _, hl, hm, hmm, _, hx⟩
  · exact ⟨_, [], rfl, Sl.nil _ _ _, fun a h => by cases h⟩
  · simp only [if_true] at hmm
    subst hmm
    have each : ∀ i, ∃ q : α, i < len → W.cells? 0 (a.add (i * C)) C = some (f q) ∧ Pr q ∧ (f q).length = C := fun i => by
      by_cases hi : i < len
      · obtain ⟨cs', h1, h2⟩ := hx i (by omega)
        rw [hC] at h1
        obtain ⟨_, hlen, _⟩ := World.cells?_some h1
        obtain ⟨q, rfl, hq⟩ := hel _ _ _ hlen h2
        exact ⟨q, fun _ => ⟨h1, hq, hlen⟩⟩
      · exact ⟨default, fun h => absurd h hi⟩
    obtain ⟨Q, hQ⟩ := Classical.axiomOfChoice each
    have hlen : ((List.range len).map Q).length = len := by simp
    have hfl : ∀ b ∈ (List.range len).map Q, Pr b ∧ (f b).length = C := fun b hb => by
      obtain ⟨i, hi, rfl⟩ := List.mem_map.1 hb
      exact ⟨(hQ i (List.mem_range.1 hi)).2.1, (hQ i (List.mem_range.1 hi)).2.2⟩
    refine ⟨_, (List.range len).map Q, rfl, ?_, hfl⟩
    have hfl2 := flat_len f C _ (fun b hb => (hfl b hb).2)
    rw [hlen] at hfl2 ⊢
    refine ⟨_, _, rfl, hl, hm, hfl2, fun hp => ?_⟩
    obtain ⟨b, o, spot⟩ := a
    obtain ⟨_, _, hc0⟩ := World.cells?_some (hQ 0 hp).1
    have h00 := hc0 0 h0
    rw [List.getElem?_eq_getElem (by rw [(hQ 0 hp).2.2]; exact h0)] at h00
    have hspot : spot = none := by simpa [Addr.add] using World.cell?_spot h00
    subst hspot
    refine ⟨b, o, rfl, ?_, fun j u hu => ?_⟩
    · have := World.block_lt_of_cell? W _ h00
      simpa [Addr.add_lit] using this
    · have hj : j < len * C := by
        have := (List.getElem?_eq_some_iff.1 hu).1
        rwa [hfl2] at this
      have hd : j / C < len := Nat.div_lt_of_lt_mul (by rw [Nat.mul_comm]; exact hj)
      have hr : j % C < C := Nat.mod_lt _ h0
      have he : j = j / C * C + j % C := by rw [Nat.mul_comm]; exact (Nat.div_add_mod j C).symm
      obtain ⟨_, hll, hcc⟩ := World.cells?_some (hQ (j / C) hd).1
      have hc := hcc (j % C) hr
      rw [he, flat_at f C _ (fun b hb => (hfl b hb).2) _ _ (by rw [hlen]; exact hd) hr] at hu
      simp only [List.getElem_map, List.getElem_range] at hu
      rw [he]
      have e2 : (some u : Option Value) = some ((f (Q (j / C)))[j % C]'(by omega)) := by rw [← hu]; exact List.getElem?_eq_getElem _
      rw [Option.some.inj e2, ← List.getElem?_eq_getElem]
      simpa [Addr.add_lit, Nat.add_assoc] using hc
end
end Go.Proofs.YtfbkkhfmboaknaaGreatDoor
