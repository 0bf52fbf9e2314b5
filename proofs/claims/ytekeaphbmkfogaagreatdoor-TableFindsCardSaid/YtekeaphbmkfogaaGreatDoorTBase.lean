/-
  Changes in memory.
-/
import Derived.Test.YtekeaphbmkfogaaGreatDoorNBase
import Derived.Test.YtekeaphbmkfogaaGreatDoorTMath
namespace Go.Proofs.YtekeaphbmkfogaaGreatDoor
open Go Go.RowKit

def locV (x : Loc) : List Value := [.int .i64 x.off, .bool x.dst, .string x.abbr]
def chgV (c : Chg) : List Value := [.int .i64 c.at_, .int .i64 c.loc.off, .bool c.loc.dst, .string c.loc.abbr]
def locA (x : Loc) : Value := .agg #[.int .i64 x.off, .bool x.dst, .string x.abbr]
def chgA (c : Chg) : Value := .agg #[.int .i64 c.at_, .int .i64 c.loc.off, .bool c.loc.dst, .string c.loc.abbr]
def chgsV (l : List Chg) : List Value := l.flatMap chgV
theorem length_chgsV (l : List Chg) : (chgsV l).length = l.length * 4 := by
  induction l with
  | nil => rfl
  | cons c l ih => simp only [chgsV, List.flatMap_cons, List.length_append, List.length_cons, chgV, List.length_nil] at ih ⊢; omega
theorem chgsV_at (l : List Chg) (i : Nat) (h : i < l.length) : (chgsV l)[i * 4]? = some (.int .i64 (l[i]).at_) ∧ (chgsV l)[i * 4 + 1]? = some (.int .i64 (l[i]).loc.off) ∧ (chgsV l)[i * 4 + 2]? = some (.bool (l[i]).loc.dst) ∧ (chgsV l)[i * 4 + 3]? = some (.string (l[i]).loc.abbr) := by
  induction l generalizing i with
  | nil => exact absurd h (by simp)
  | cons c l ih =>
    rcases i with _ | i
    · exact ⟨rfl, rfl, rfl, rfl⟩
    · have := ih i (by simpa using h)
      rw [show (i + 1) * 4 = i * 4 + 1 + 1 + 1 + 1 by omega]
      exact this
theorem chgsV_append (l m : List Chg) : chgsV (l ++ m) = chgsV l ++ chgsV m := by simp [chgsV]
/-- A slice of changes. -/
def Chgs (w : World) (B : Nat) (v : Value) (l : List Chg) : Prop := Sl w B 4 v l.length (chgsV l)
section
variable {w w' : World} {B B' : Nat} {v : Value} {l : List Chg}
theorem Chgs.form (h : Chgs w B v l) : ∃ A c, v = .slice A l.length c ∧ l.length ≤ c ∧ c ≤ maxLen := by
  obtain ⟨A, c, rfl, h1, h2, -⟩ := h
  exact ⟨A, c, rfl, h1, h2⟩
theorem Chgs.more (h : Chgs w B v l) (hB : B ≤ B') : Chgs w B' v l := Sl.more h hB
theorem Chgs.below (h : Chgs w B v l) (hb : Below B w w') : Chgs w' B v l := Sl.below h hb
theorem Chgs.drewN (h : Chgs w B v l) (n : Nat) : Chgs (w.drewN n) B v l := h
/-- The cells of the i-th one. -/
theorem Chgs.cells (h : Chgs w B v l) (hl : 0 < l.length) : ∃ b o c, v = .slice (some ⟨b, o, none⟩) l.length c ∧ b < B ∧ ∀ i (hi : i < l.length), w.cell? ⟨b, o + i * 4, none⟩ = some (.int .i64 (l[i]).at_) ∧ w.cell? ⟨b, o + i * 4 + 1, none⟩ = some (.int .i64 (l[i]).loc.off) ∧
    w.cell? ⟨b, o + i * 4 + 2, none⟩ = some (.bool (l[i]).loc.dst) ∧ w.cell? ⟨b, o + i * 4 + 3, none⟩ = some (.string (l[i]).loc.abbr) := by
  obtain ⟨b, o, c, e, hb, hc⟩ := Sl.at_ h hl
  refine ⟨b, o, c, e, hb, fun i hi => ?_⟩
  obtain ⟨h0, h1, h2, h3⟩ := chgsV_at l i hi
  exact ⟨hc _ _ h0, by rw [Nat.add_assoc]; exact hc _ _ h1, by rw [Nat.add_assoc]; exact hc _ _ h2, by rw [Nat.add_assoc]; exact hc _ _ h3⟩
end
/-- A box that holds what clocks show; one that holds a change. -/
abbrev LocB (W : World) (b : Nat) (x : Loc) : Prop := Blk W b 42 #[.int .i64 x.off, .bool x.dst, .string x.abbr]
abbrev ChgB (W : World) (b : Nat) (c : Chg) : Prop := Blk W b 45 #[.int .i64 c.at_, .int .i64 c.loc.off, .bool c.loc.dst, .string c.loc.abbr]
theorem LocB.cells {W : World} {b : Nat} {x : Loc} (h : LocB W b x) : W.cell? ⟨b, 0, none⟩ = some (.int .i64 x.off) ∧ W.cell? ⟨b, 1, none⟩ = some (.bool x.dst) ∧ W.cell? ⟨b, 2, none⟩ = some (.string x.abbr) :=
  ⟨h.cell 0 rfl, h.cell 1 rfl, h.cell 2 rfl⟩
theorem ChgB.cells {W : World} {b : Nat} {c : Chg} (h : ChgB W b c) : W.cell? ⟨b, 0, none⟩ = some (.int .i64 c.at_) ∧ W.cell? ⟨b, 1, none⟩ = some (.int .i64 c.loc.off) ∧ W.cell? ⟨b, 2, none⟩ = some (.bool c.loc.dst) ∧ W.cell? ⟨b, 3, none⟩ = some (.string c.loc.abbr) :=
  ⟨h.cell 0 rfl, h.cell 1 rfl, h.cell 2 rfl, h.cell 3 rfl⟩
theorem LocB.set {W : World} {b : Nat} {x : Loc} (h : LocB W b x) (y : Loc) : LocB (((W.setCell ⟨b, 0, none⟩ (.int .i64 y.off)).setCell ⟨b, 1, none⟩ (.bool y.dst)).setCell ⟨b, 2, none⟩ (.string y.abbr)) b y := ((Blk.set h 0 _).set 1 _).set 2 _
theorem ChgB.set {W : World} {b : Nat} {c : Chg} (h : ChgB W b c) (d : Chg) : ChgB ((((W.setCell ⟨b, 0, none⟩ (.int .i64 d.at_)).setCell ⟨b, 1, none⟩ (.int .i64 d.loc.off)).setCell ⟨b, 2, none⟩ (.bool d.loc.dst)).setCell ⟨b, 3, none⟩ (.string d.loc.abbr)) b d := (((Blk.set h 0 _).set 1 _).set 2 _).set 3 _
end Go.Proofs.YtekeaphbmkfogaaGreatDoor
