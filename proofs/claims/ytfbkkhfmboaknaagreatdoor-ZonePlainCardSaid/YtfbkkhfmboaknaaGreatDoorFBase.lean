/-
  Firings in memory: a row of them that a call may turn.
-/
import Derived.Test.YtfbkkhfmboaknaaGreatDoorSrt
import Derived.Test.YtfbkkhfmboaknaaGreatDoorEnvW
import Derived.Test.YtfbkkhfmboaknaaGreatDoorCivil
import Derived.Test.YtfbkkhfmboaknaaGreatDoorNBase
import Derived.Laws.OwnMore
namespace Go.Proofs.YtfbkkhfmboaknaaGreatDoor
open Go Go.RowKit Go.Shelf
set_option maxRecDepth 100000

/-- A firing. -/
structure Fir where
  nominal : Int
  kind : Int
  save : Int
  letter : ByteArray
def firV (x : Fir) : List Value := [.int .i64 x.nominal, .int .i64 x.kind, .int .i64 x.save, .string x.letter]
def firA (x : Fir) : Value := .agg #[.int .i64 x.nominal, .int .i64 x.kind, .int .i64 x.save, .string x.letter]
def firsV (l : List Fir) : List Value := l.flatMap firV
theorem length_firsV (l : List Fir) : (firsV l).length = l.length * 4 := by
  induction l with
  | nil => rfl
  | cons c l ih => simp only [firsV, List.flatMap_cons, List.length_append, List.length_cons, firV, List.length_nil] at ih ⊢; omega
theorem firsV_append (l m : List Fir) : firsV (l ++ m) = firsV l ++ firsV m := by simp [firsV]
theorem firsV_cons (x : Fir) (m : List Fir) : firsV (x :: m) = firV x ++ firsV m := by simp [firsV]
/-- A row of firings of some call's own. -/
def RwF (W : World) (base g cap n : Nat) (d : List Fir) : Prop := d.length = n ∧ W.ownsRow base 126 4 (.slice (some ⟨g, 0, none⟩) n cap) n (firsV d)
section
variable {W W' : World} {base g cap n : Nat} {A C d : List Fir} {x y : Fir}
theorem RwF.len (h : RwF W base g cap n d) : d.length = n := h.1
theorem RwF.room (h : RwF W base g cap n d) : n ≤ cap ∧ cap ≤ maxLen := by
  rcases h.2.2 with ⟨h', _⟩ | ⟨g', cap', cur, h', _, hg, h1, h2, _⟩
  · simp at h'
  · simp only [Value.slice.injEq, Option.some.injEq, Addr.mk.injEq, and_true, true_and] at h'
    obtain ⟨rfl, rfl⟩ := h'
    exact ⟨h1, h2⟩
theorem RwF.lt (h : RwF W base g cap n d) : base ≤ g ∧ g < W.heap.size := h.2.lt g rfl
theorem RwF.at_ (h : RwF W base g cap n (A ++ x :: C)) : W.cell? ⟨g, A.length * 4, none⟩ = some (.int .i64 x.nominal) ∧ W.cell? ⟨g, A.length * 4 + 1, none⟩ = some (.int .i64 x.kind) ∧ W.cell? ⟨g, A.length * 4 + 2, none⟩ = some (.int .i64 x.save) ∧ W.cell? ⟨g, A.length * 4 + 3, none⟩ = some (.string x.letter) := by
  have hl := h.1
  rw [List.length_append, List.length_cons] at hl
  have hc : ∀ i, i < 4 → W.cell? ⟨g, A.length * 4 + i, none⟩ = (firV x)[i]? := fun i hi => by
    rw [h.2.cellAt _ (by omega), firsV_append, firsV_cons, List.getElem?_append_right (by rw [length_firsV]; omega), length_firsV, Nat.add_sub_cancel_left, List.getElem?_append_left (by simp [firV]; omega)]
  exact ⟨hc 0 (by omega), hc 1 (by omega), hc 2 (by omega), hc 3 (by omega)⟩
theorem RwF.at2 {Q : List Fir} (h : RwF W base g cap n (A ++ y :: (Q ++ x :: C))) : W.cell? ⟨g, (A.length + 1 + Q.length) * 4, none⟩ = some (.int .i64 x.nominal) ∧ W.cell? ⟨g, (A.length + 1 + Q.length) * 4 + 1, none⟩ = some (.int .i64 x.kind) ∧ W.cell? ⟨g, (A.length + 1 + Q.length) * 4 + 2, none⟩ = some (.int .i64 x.save) ∧ W.cell? ⟨g, (A.length + 1 + Q.length) * 4 + 3, none⟩ = some (.string x.letter) := by
  have h1 : RwF W base g cap n ((A ++ y :: Q) ++ x :: C) := by simpa using h
  have h2 := h1.at_
  rwa [show (A ++ y :: Q).length = A.length + 1 + Q.length by simp; omega] at h2
theorem RwF.frozen (h : RwF W base g cap n d) (j : Nat) : W.frozen? ⟨g, j, none⟩ = false := h.2.frozenAt j
theorem RwF.fr {T : Nat → Prop} (h : RwF W base g cap n d) (hf : Fr T W W') (hn : ¬ T g) : RwF W' base g cap n d := ⟨h.1, hf.own h.2 fun k hk => by cases hk; exact hn⟩
theorem RwF.below (h : RwF W base g cap n d) (hb : Below W.heap.size W W') : RwF W' base g cap n d := h.fr (T := fun _ => False) (Fr.of_below hb (Nat.le_refl _)) (fun e => e)
/-- A firing put at a place. -/
def putF (W : World) (g p : Nat) (x : Fir) : World := (((W.setCell ⟨g, p, none⟩ (.int .i64 x.nominal)).setCell ⟨g, p + 1, none⟩ (.int .i64 x.kind)).setCell ⟨g, p + 2, none⟩ (.int .i64 x.save)).setCell ⟨g, p + 3, none⟩ (.string x.letter)
theorem set_mid {L M R : List Value} {i : Nat} (v : Value) (hi : i < M.length) : (L ++ (M ++ R)).set (L.length + i) v = L ++ (M.set i v ++ R) := by
  rw [List.set_append_right _ _ (by omega), Nat.add_sub_cancel_left, List.set_append_left _ _ hi]
theorem RwF.put (h : RwF W base g cap n (A ++ y :: C)) (x : Fir) : RwF (putF W g (A.length * 4) x) base g cap n (A ++ x :: C) := by
  refine ⟨by have := h.1; simpa using this, ?_⟩
  have h1 := (h.2.stored (A.length * 4) (.int .i64 x.nominal)).1
  have h2 := (h1.stored (A.length * 4 + 1) (.int .i64 x.kind)).1
  have h3 := (h2.stored (A.length * 4 + 2) (.int .i64 x.save)).1
  have h4 := (h3.stored (A.length * 4 + 3) (.string x.letter)).1
  unfold putF
  rw [firsV_append, firsV_cons] at h4 ⊢
  rw [← length_firsV A] at h4 ⊢
  have e := set_mid (L := firsV A) (M := firV y) (R := firsV C) (i := 0) (.int .i64 x.nominal) (by simp [firV])
  rw [Nat.add_zero] at e
  rw [e, set_mid _ (by simp [firV]), set_mid _ (by simp [firV]), set_mid _ (by simp [firV])] at h4
  exact h4
theorem putF_fr (W : World) (g p : Nat) (x : Fir) : Fr (fun k => k = g) W (putF W g p x) :=
  (((Fr.setCell (T := fun k => k = g) W p _ rfl).then (Fr.setCell (T := fun k => k = g) _ (p + 1) _ rfl)).then (Fr.setCell (T := fun k => k = g) _ (p + 2) _ rfl)).then (Fr.setCell (T := fun k => k = g) _ (p + 3) _ rfl)
/-- Two firings change places, the one store or the other one first. -/
theorem RwF.swap {Q : List Fir} (h : RwF W base g cap n (A ++ y :: (Q ++ x :: C))) :
    RwF (putF W.drew g ((A.length + 1 + Q.length) * 4) y) base g cap n (A ++ y :: (Q ++ y :: C)) ∧ RwF (putF W.drew g (A.length * 4) x) base g cap n (A ++ x :: (Q ++ x :: C)) ∧
    RwF (putF (putF W.drew g ((A.length + 1 + Q.length) * 4) y) g (A.length * 4) x) base g cap n (A ++ x :: (Q ++ y :: C)) ∧ RwF (putF (putF W.drew g (A.length * 4) x) g ((A.length + 1 + Q.length) * 4) y) base g cap n (A ++ x :: (Q ++ y :: C)) ∧
    Fr (fun k => k = g) W (putF (putF W.drew g ((A.length + 1 + Q.length) * 4) y) g (A.length * 4) x) ∧ Fr (fun k => k = g) W (putF (putF W.drew g (A.length * 4) x) g ((A.length + 1 + Q.length) * 4) y) := by
  have hl : ∀ z : Fir, (A ++ z :: Q).length = A.length + 1 + Q.length := fun z => by simp; omega
  have hd : RwF W.drew base g cap n (A ++ y :: (Q ++ x :: C)) := h
  have h2 : ∀ (z u : Fir), A ++ z :: (Q ++ u :: C) = (A ++ z :: Q) ++ u :: C := fun z u => by simp
  have a1 : RwF (putF W.drew g ((A.length + 1 + Q.length) * 4) y) base g cap n (A ++ y :: (Q ++ y :: C)) := by
    rw [h2] at hd ⊢
    have := hd.put y
    rwa [hl] at this
  have b1 := hd.put x
  refine ⟨a1, b1, a1.put x, ?_, ((Fr.drew W).then (putF_fr _ _ _ _)).then (putF_fr _ _ _ _), ((Fr.drew W).then (putF_fr _ _ _ _)).then (putF_fr _ _ _ _)⟩
  rw [h2] at b1 ⊢
  have := b1.put y
  rwa [hl] at this
end
end Go.Proofs.YtfbkkhfmboaknaaGreatDoor
