/-
  Changes in memory.
-/
import Derived.Deep.QuietTactic
import Derived.Test.YtlkpkmdomecopaaFrm
import Derived.Test.YtlkpkmdomecopaaLMath
namespace Go.Proofs.Ytlkpkmdomecopaa
open Go Go.RowKit

def locV (x : Loc) : List Value := [.int .i64 x.off, .bool x.dst, .string x.abbr]
def chgV (c : Chg) : List Value := [.int .i64 c.at_, .int .i64 c.loc.off, .bool c.loc.dst, .string c.loc.abbr]
def locA (x : Loc) : Value := .agg #[.int .i64 x.off, .bool x.dst, .string x.abbr]
def chgA (c : Chg) : Value := .agg #[.int .i64 c.at_, .int .i64 c.loc.off, .bool c.loc.dst, .string c.loc.abbr]
def chgsV (l : List Chg) : List Value := l.flatMap chgV
theorem length_chgsV (l : List Chg) : (chgsV l).length = l.length * 4 := by
  induction l with
  | nil => rfl
  | cons c l ih => simp only [chgsV, List.flatMap_cons, List.length_append, List.length_cons, chgV, List.length_nil] at ih ⊢; omega
theorem chgsV_at (l : List Chg) (i : Nat) (h : i < l.length) : (chgsV l)[i * 4]? = some (.int .i64 (l[i]).at_) ∧ (chgsV l)[i * 4 + 1]? = some (.int .i64 (l[i]).loc.off) ∧ (chgsV l)[i * 4 + 2]? = some (.bool (l[i]).loc.dst) ∧ (chgsV l)[i * 4 + 3]? = some (.string (l[i]).loc.abbr) := by
  induction l generalizing i with
  | nil => exact absurd h (by simp)
  | cons c l ih =>
    rcases i with _ | i
    · exact ⟨rfl, rfl, rfl, rfl⟩
    · have := ih i (by simpa using h)
      rw [show (i + 1) * 4 = i * 4 + 1 + 1 + 1 + 1 by omega]
      exact this
theorem chgsV_append (l m : List Chg) : chgsV (l ++ m) = chgsV l ++ chgsV m := by simp [chgsV]
/-- A slice of changes. -/
def Chgs (w : World) (B : Nat) (v : Value) (l : List Chg) : Prop := Sl w B 4 v l.length (chgsV l)
section
variable {w w' : World} {B B' : Nat} {v : Value} {l : List Chg}
theorem Chgs.form (h : Chgs w B v l) : ∃ A c, v = .slice A l.length c ∧ l.length ≤ c ∧ c ≤ maxLen := by
  obtain ⟨A, c, rfl, h1, h2, -⟩ := h
  exact ⟨A, c, rfl, h1, h2⟩
theorem Chgs.more (h : Chgs w B v l) (hB : B ≤ B') : Chgs w B' v l := Sl.more h hB
theorem Chgs.below (h : Chgs w B v l) (hb : Below B w w') : Chgs w' B v l := Sl.below h hb
theorem Chgs.drewN (h : Chgs w B v l) (n : Nat) : Chgs (w.drewN n) B v l := h
/-- The cells of the i-th one. -/
theorem Chgs.cells (h : Chgs w B v l) (hl : 0 < l.length) : ∃ b o c, v = .slice (some ⟨b, o, none⟩) l.length c ∧ b < B ∧ ∀ i (hi : i < l.length), w.cell? ⟨b, o + i * 4, none⟩ = some (.int .i64 (l[i]).at_) ∧ w.cell? ⟨b, o + i * 4 + 1, none⟩ = some (.int .i64 (l[i]).loc.off) ∧
    w.cell? ⟨b, o + i * 4 + 2, none⟩ = some (.bool (l[i]).loc.dst) ∧ w.cell? ⟨b, o + i * 4 + 3, none⟩ = some (.string (l[i]).loc.abbr) := by
  obtain ⟨b, o, c, e, hb, hc⟩ := Sl.at_ h hl
  refine ⟨b, o, c, e, hb, fun i hi => ?_⟩
  obtain ⟨h0, h1, h2, h3⟩ := chgsV_at l i hi
  exact ⟨hc _ _ h0, by rw [Nat.add_assoc]; exact hc _ _ h1, by rw [Nat.add_assoc]; exact hc _ _ h2, by rw [Nat.add_assoc]; exact hc _ _ h3⟩
end
theorem below_drewN {B : Nat} {w w' : World} (h : Below B w w') (m : Nat) : Below B w (w'.drewN m) := ⟨h.os, h.tape, h.output, h.size, h.block⟩
/-- A block of its own, whole. -/
def Blk (W : World) (b : Nat) (t : TypeId) (cs : Array Value) : Prop := W.heap[b]? = some (.cells cs t (0, 0))
section
variable {W W' : World} {b : Nat} {t : TypeId} {cs : Array Value}
theorem Blk.lt (h : Blk W b t cs) : b < W.heap.size := (Array.getElem?_eq_some_iff.1 h).1
theorem Blk.cell (h : Blk W b t cs) (i : Nat) {v : Value} (hi : cs[i]? = some v) : W.cell? ⟨b, i, none⟩ = some v := by
  unfold World.cell?
  rw [show W.heap[b]? = _ from h]
  exact hi
theorem Blk.frozen (h : Blk W b t cs) (i : Nat) : W.frozen? ⟨b, i, none⟩ = false := by simp [World.frozen?, show W.heap[b]? = _ from h]
theorem Blk.set (h : Blk W b t cs) (i : Nat) (v : Value) : Blk (W.setCell ⟨b, i, none⟩ v) b t (cs.setIfInBounds i v) := heap_setCell_same W b i cs t v h
theorem Blk.new (W : World) (t : TypeId) (cs : Array Value) : Blk (W.alloc (.cells cs t)) W.heap.size t cs := World.alloc_heap_new W _
theorem Blk.fr {T : Nat → Prop} (h : Blk W b t cs) (hf : Fr T W W') (hn : ¬ T b) : Blk W' b t cs := hf.at_ h hn
theorem Blk.below {B : Nat} (h : Blk W b t cs) (hb : Below B W W') (hB : b < B) : Blk W' b t cs := (hb.block b hB).trans h
theorem Blk.alloc (h : Blk W b t cs) (o : Obj) : Blk (W.alloc o) b t cs := h.below ((Below.refl W.heap.size W).alloc (Nat.le_refl _) o) h.lt
theorem Blk.other (h : Blk W b t cs) {b' : Nat} (hne : b ≠ b') (i : Nat) (v : Value) : Blk (W.setCell ⟨b', i, none⟩ v) b t cs := h.fr (Fr.setCell (T := fun k => k = b') W i v rfl) hne
theorem Blk.grown {row : Option Nat} (h : Blk W b t cs) (hg : W.grownBy W' row) (hn : row ≠ some b) : Blk W' b t cs := (hg.block b h.lt (fun e => hn e.symm)).trans h
theorem Blk.drewN (h : Blk W b t cs) (n : Nat) : Blk (W.drewN n) b t cs := h
end
/-- A box that holds what clocks show; one that holds a change. -/
abbrev LocB (W : World) (b : Nat) (x : Loc) : Prop := Blk W b 32 #[.int .i64 x.off, .bool x.dst, .string x.abbr]
abbrev ChgB (W : World) (b : Nat) (c : Chg) : Prop := Blk W b 34 #[.int .i64 c.at_, .int .i64 c.loc.off, .bool c.loc.dst, .string c.loc.abbr]
theorem LocB.cells {W : World} {b : Nat} {x : Loc} (h : LocB W b x) : W.cell? ⟨b, 0, none⟩ = some (.int .i64 x.off) ∧ W.cell? ⟨b, 1, none⟩ = some (.bool x.dst) ∧ W.cell? ⟨b, 2, none⟩ = some (.string x.abbr) :=
  ⟨h.cell 0 rfl, h.cell 1 rfl, h.cell 2 rfl⟩
theorem ChgB.cells {W : World} {b : Nat} {c : Chg} (h : ChgB W b c) : W.cell? ⟨b, 0, none⟩ = some (.int .i64 c.at_) ∧ W.cell? ⟨b, 1, none⟩ = some (.int .i64 c.loc.off) ∧ W.cell? ⟨b, 2, none⟩ = some (.bool c.loc.dst) ∧ W.cell? ⟨b, 3, none⟩ = some (.string c.loc.abbr) :=
  ⟨h.cell 0 rfl, h.cell 1 rfl, h.cell 2 rfl, h.cell 3 rfl⟩
theorem LocB.set {W : World} {b : Nat} {x : Loc} (h : LocB W b x) (y : Loc) : LocB (((W.setCell ⟨b, 0, none⟩ (.int .i64 y.off)).setCell ⟨b, 1, none⟩ (.bool y.dst)).setCell ⟨b, 2, none⟩ (.string y.abbr)) b y := ((Blk.set h 0 _).set 1 _).set 2 _
theorem ChgB.set {W : World} {b : Nat} {c : Chg} (h : ChgB W b c) (d : Chg) : ChgB ((((W.setCell ⟨b, 0, none⟩ (.int .i64 d.at_)).setCell ⟨b, 1, none⟩ (.int .i64 d.loc.off)).setCell ⟨b, 2, none⟩ (.bool d.loc.dst)).setCell ⟨b, 3, none⟩ (.string d.loc.abbr)) b d := (((Blk.set h 0 _).set 1 _).set 2 _).set 3 _
theorem below_set3 {B : Nat} {w W : World} (h : Below B w W) {b : Nat} (hb : B ≤ b) (u v x : Value) : Below B w (((W.setCell ⟨b, 0, none⟩ u).setCell ⟨b, 1, none⟩ v).setCell ⟨b, 2, none⟩ x) := ((h.setCell hb _).setCell hb _).setCell hb _
theorem below_set4 {B : Nat} {w W : World} (h : Below B w W) {b : Nat} (hb : B ≤ b) (u v x y : Value) : Below B w ((((W.setCell ⟨b, 0, none⟩ u).setCell ⟨b, 1, none⟩ v).setCell ⟨b, 2, none⟩ x).setCell ⟨b, 3, none⟩ y) := (below_set3 h hb _ _ _).setCell hb _
theorem blks2 (w : World) (c1 c2 : Array Value) (t1 t2 : TypeId) (W : World) (h : (w.alloc (.cells c1 t1)).alloc (.cells c2 t2) = W) : Blk W w.heap.size t1 c1 ∧ Blk W (w.heap.size + 1) t2 c2 ∧ Below w.heap.size w W ∧ W.heap.size = w.heap.size + 2 := by
  subst h
  have b2 := Blk.new (w.alloc (.cells c1 t1)) t2 c2
  simp only [World.size_alloc] at b2
  exact ⟨(Blk.new w t1 c1).alloc _, b2, ((Below.refl _ _).alloc (Nat.le_refl _) _).alloc (by simp) _, by simp⟩
theorem blks5 (w : World) (c1 c2 c3 c4 c5 : Array Value) (t1 t2 t3 t4 t5 : TypeId) (W : World) (h : ((((w.alloc (.cells c1 t1)).alloc (.cells c2 t2)).alloc (.cells c3 t3)).alloc (.cells c4 t4)).alloc (.cells c5 t5) = W) :
    Blk W w.heap.size t1 c1 ∧ Blk W (w.heap.size + 1) t2 c2 ∧ Blk W (w.heap.size + 2) t3 c3 ∧ Blk W (w.heap.size + 3) t4 c4 ∧ Blk W (w.heap.size + 4) t5 c5 ∧ Below w.heap.size w W ∧ W.heap.size = w.heap.size + 5 := by
  subst h
  have b1 := Blk.new w t1 c1
  have b2 := Blk.new (w.alloc (.cells c1 t1)) t2 c2
  have b3 := Blk.new ((w.alloc (.cells c1 t1)).alloc (.cells c2 t2)) t3 c3
  have b4 := Blk.new (((w.alloc (.cells c1 t1)).alloc (.cells c2 t2)).alloc (.cells c3 t3)) t4 c4
  have b5 := Blk.new ((((w.alloc (.cells c1 t1)).alloc (.cells c2 t2)).alloc (.cells c3 t3)).alloc (.cells c4 t4)) t5 c5
  simp only [World.size_alloc] at b2 b3 b4 b5
  exact ⟨(((b1.alloc _).alloc _).alloc _).alloc _, ((b2.alloc _).alloc _).alloc _, (b3.alloc _).alloc _, b4.alloc _, b5, (((((Below.refl w.heap.size w).alloc (Nat.le_refl _) _).alloc (by simp) _).alloc (by simp; omega) _).alloc (by simp; omega) _).alloc (by simp; omega) _, by simp⟩
/-- An append to a row of the call's own leaves what was there as it was. -/
theorem below_push {w W W' : World} {e : TypeId} {sz n : Nat} {u : Value} {xs : List Value} {o : Obj} (hb : Below w.heap.size w W) (ho : W.ownsRow w.heap.size e sz u n xs) (hg : (W.alloc o).grownBy W' u.ownBlock) : Below w.heap.size w W' :=
  (hb.alloc hb.size o).trans ⟨hg.os, hg.tape, hg.output, by have := hg.size; have := hb.size; simp only [World.size_alloc] at *; omega, fun k hk => hg.block k (by have := hb.size; simp only [World.size_alloc]; omega) (fun e => by have := (ho.lt _ e.symm).1; omega)⟩
end Go.Proofs.Ytlkpkmdomecopaa
