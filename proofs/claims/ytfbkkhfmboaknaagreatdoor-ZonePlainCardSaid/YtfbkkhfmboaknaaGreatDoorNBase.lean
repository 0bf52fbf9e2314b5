/-
  Blocks of memory, known whole.
-/
import Derived.Deep.QuietTactic
import Derived.Test.YtfbkkhfmboaknaaGreatDoorFrm
namespace Go.Proofs.YtfbkkhfmboaknaaGreatDoor
open Go Go.RowKit

theorem below_drewN {B : Nat} {w w' : World} (h : Below B w w') (m : Nat) : Below B w (w'.drewN m) := ⟨h.os, h.tape, h.output, h.size, h.block⟩
/-- A block of its own, whole. -/
def Blk (W : World) (b : Nat) (t : TypeId) (cs : Array Value) : Prop := W.heap[b]? = some (.cells cs t (0, 0))
section
variable {W W' : World} {b : Nat} {t : TypeId} {cs : Array Value}
theorem Blk.lt (h : Blk W b t cs) : b < W.heap.size := (Array.getElem?_eq_some_iff.1 h).1
theorem Blk.cell (h : Blk W b t cs) (i : Nat) {v : Value} (hi : cs[i]? = some v) : W.cell? ⟨b, i, none⟩ = some v := by
  unfold World.cell?
  rw [show W.heap[b]? = _ from h]
  exact hi
theorem Blk.frozen (h : Blk W b t cs) (i : Nat) : W.frozen? ⟨b, i, none⟩ = false := by simp [World.frozen?, show W.heap[b]? = _ from h]
theorem Blk.set (h : Blk W b t cs) (i : Nat) (v : Value) : Blk (W.setCell ⟨b, i, none⟩ v) b t (cs.setIfInBounds i v) := heap_setCell_same W b i cs t v h
theorem Blk.new (W : World) (t : TypeId) (cs : Array Value) : Blk (W.alloc (.cells cs t)) W.heap.size t cs := World.alloc_heap_new W _
theorem Blk.fr {T : Nat → Prop} (h : Blk W b t cs) (hf : Fr T W W') (hn : ¬ T b) : Blk W' b t cs := hf.at_ h hn
theorem Blk.below {B : Nat} (h : Blk W b t cs) (hb : Below B W W') (hB : b < B) : Blk W' b t cs := (hb.block b hB).trans h
theorem Blk.alloc (h : Blk W b t cs) (o : Obj) : Blk (W.alloc o) b t cs := h.below ((Below.refl W.heap.size W).alloc (Nat.le_refl _) o) h.lt
theorem Blk.other (h : Blk W b t cs) {b' : Nat} (hne : b ≠ b') (i : Nat) (v : Value) : Blk (W.setCell ⟨b', i, none⟩ v) b t cs := h.fr (Fr.setCell (T := fun k => k = b') W i v rfl) hne
theorem Blk.grown {row : Option Nat} (h : Blk W b t cs) (hg : W.grownBy W' row) (hn : row ≠ some b) : Blk W' b t cs := (hg.block b h.lt (fun e => hn e.symm)).trans h
theorem Blk.drewN (h : Blk W b t cs) (n : Nat) : Blk (W.drewN n) b t cs := h
end
theorem below_set3 {B : Nat} {w W : World} (h : Below B w W) {b : Nat} (hb : B ≤ b) (u v x : Value) : Below B w (((W.setCell ⟨b, 0, none⟩ u).setCell ⟨b, 1, none⟩ v).setCell ⟨b, 2, none⟩ x) := ((h.setCell hb _).setCell hb _).setCell hb _
theorem below_set4 {B : Nat} {w W : World} (h : Below B w W) {b : Nat} (hb : B ≤ b) (u v x y : Value) : Below B w ((((W.setCell ⟨b, 0, none⟩ u).setCell ⟨b, 1, none⟩ v).setCell ⟨b, 2, none⟩ x).setCell ⟨b, 3, none⟩ y) := (below_set3 h hb _ _ _).setCell hb _
theorem blks2 (w : World) (c1 c2 : Array Value) (t1 t2 : TypeId) (W : World) (h : (w.alloc (.cells c1 t1)).alloc (.cells c2 t2) = W) : Blk W w.heap.size t1 c1 ∧ Blk W (w.heap.size + 1) t2 c2 ∧ Below w.heap.size w W ∧ W.heap.size = w.heap.size + 2 := by
  subst h
  have b2 := Blk.new (w.alloc (.cells c1 t1)) t2 c2
  simp only [World.size_alloc] at b2
  exact ⟨(Blk.new w t1 c1).alloc _, b2, ((Below.refl _ _).alloc (Nat.le_refl _) _).alloc (by simp) _, by simp⟩
theorem blks5 (w : World) (c1 c2 c3 c4 c5 : Array Value) (t1 t2 t3 t4 t5 : TypeId) (W : World) (h : ((((w.alloc (.cells c1 t1)).alloc (.cells c2 t2)).alloc (.cells c3 t3)).alloc (.cells c4 t4)).alloc (.cells c5 t5) = W) :
    Blk W w.heap.size t1 c1 ∧ Blk W (w.heap.size + 1) t2 c2 ∧ Blk W (w.heap.size + 2) t3 c3 ∧ Blk W (w.heap.size + 3) t4 c4 ∧ Blk W (w.heap.size + 4) t5 c5 ∧ Below w.heap.size w W ∧ W.heap.size = w.heap.size + 5 := by
  subst h
  have b1 := Blk.new w t1 c1
  have b2 := Blk.new (w.alloc (.cells c1 t1)) t2 c2
  have b3 := Blk.new ((w.alloc (.cells c1 t1)).alloc (.cells c2 t2)) t3 c3
  have b4 := Blk.new (((w.alloc (.cells c1 t1)).alloc (.cells c2 t2)).alloc (.cells c3 t3)) t4 c4
  have b5 := Blk.new ((((w.alloc (.cells c1 t1)).alloc (.cells c2 t2)).alloc (.cells c3 t3)).alloc (.cells c4 t4)) t5 c5
  simp only [World.size_alloc] at b2 b3 b4 b5
  exact ⟨(((b1.alloc _).alloc _).alloc _).alloc _, ((b2.alloc _).alloc _).alloc _, (b3.alloc _).alloc _, b4.alloc _, b5, (((((Below.refl w.heap.size w).alloc (Nat.le_refl _) _).alloc (by simp) _).alloc (by simp; omega) _).alloc (by simp; omega) _).alloc (by simp; omega) _, by simp⟩
/-- An append to a row of the call's own leaves what was there as it was. -/
theorem below_push {w W W' : World} {e : TypeId} {sz n : Nat} {u : Value} {xs : List Value} {o : Obj} (hb : Below w.heap.size w W) (ho : W.ownsRow w.heap.size e sz u n xs) (hg : (W.alloc o).grownBy W' u.ownBlock) : Below w.heap.size w W' :=
  (hb.alloc hb.size o).trans ⟨hg.os, hg.tape, hg.output, by have := hg.size; have := hb.size; simp only [World.size_alloc] at *; omega, fun k hk => hg.block k (by have := hb.size; simp only [World.size_alloc]; omega) (fun e => by have := (ho.lt _ e.symm).1; omega)⟩
theorem fr_set3 {T : Nat → Prop} (W : World) {b : Nat} (h : T b) (u v x : Value) : Fr T W (((W.setCell ⟨b, 0, none⟩ u).setCell ⟨b, 1, none⟩ v).setCell ⟨b, 2, none⟩ x) := ((Fr.setCell _ 0 _ h).then (Fr.setCell _ 1 _ h)).then (Fr.setCell _ 2 _ h)
/-- A new block, whatever has come up behind it. -/
theorem blk_behind {W w1 : World} {t : TypeId} {cs : Array Value} (h : Below (W.alloc (.cells cs t)).heap.size (W.alloc (.cells cs t)) w1) : Blk w1 W.heap.size t cs := (Blk.new W t cs).below h (by simp)
end Go.Proofs.YtfbkkhfmboaknaaGreatDoor
