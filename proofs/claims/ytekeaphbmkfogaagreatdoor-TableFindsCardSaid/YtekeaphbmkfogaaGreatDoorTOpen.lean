/-
  From the rows' readings of changes to the words of the walks.
-/
import Derived.Test.YtekeaphbmkfogaaGreatDoorChecked
import Derived.Test.YtekeaphbmkfogaaGreatDoorOpenS
import Derived.Test.YtekeaphbmkfogaaGreatDoorTBase
namespace Go.Proofs.YtekeaphbmkfogaaGreatDoor
open Go Go.ChangeShapes Go.WideShapes Go.ChangeAt Go.RowKit Go.Deep

set_option maxRecDepth 100000
section
variable {H : Type} {enc : TypeId × Value → H} {W : World}
theorem trod_loc {n : Nat} {cs : List Value} {y : DataW H × List MemPlace} (h : DataW.trod enc Tryz.prog W 0 (fun _ => true) true n 42 cs = some y) : ∃ x : Loc, cs = locV x ∧ (-9223372036854775808 ≤ x.off ∧ x.off ≤ 9223372036854775807) := by
  obtain ⟨y0, y1, y2, k, -, hl, h0, h1, h2⟩ := trod_struct3 Tryz.underlying42 h
  rw [show Tryz.prog.cellsOf 42 = 3 by kernel_rfl] at hl
  obtain ⟨a, e0, _, w0⟩ := DataW.trod_int Tryz.underlying3 h0
  obtain ⟨b, e1, _⟩ := DataW.trod_bool Tryz.underlying4 h1
  obtain ⟨s, e2, _, _⟩ := DataW.trod_string Tryz.underlying9 h2
  match cs, hl with
  | [v0, v1, v2], _ =>
    rw [show Tryz.prog.cellsOf 3 = 1 by kernel_rfl] at e0
    rw [show Tryz.prog.cellsOf 4 = 1 by kernel_rfl] at e1
    rw [show Tryz.prog.cellsOf 9 = 1 by kernel_rfl] at e2
    simp at e0 e1 e2
    subst e0 e1 e2
    exact ⟨⟨a, b, s⟩, rfl, wf_i64 w0⟩
theorem trod_chg {n : Nat} {cs : List Value} {y : DataW H × List MemPlace} (h : DataW.trod enc Tryz.prog W 0 (fun _ => true) true n 45 cs = some y) : ∃ c : Chg, cs = chgV c ∧ (-9223372036854775808 ≤ c.at_ ∧ c.at_ ≤ 9223372036854775807) ∧ (-9223372036854775808 ≤ c.loc.off ∧ c.loc.off ≤ 9223372036854775807) := by
  obtain ⟨y0, y1, k, -, hl, h0, h1⟩ := trod_struct2 Tryz.underlying45 h
  rw [show Tryz.prog.cellsOf 45 = 4 by kernel_rfl] at hl
  obtain ⟨a, e0, _, w0⟩ := DataW.trod_int Tryz.underlying3 h0
  obtain ⟨x, e1, w1⟩ := trod_loc h1
  match cs, hl with
  | [v0, v1, v2, v3], _ =>
    rw [show Tryz.prog.cellsOf 3 = 1 by kernel_rfl] at e0
    rw [show Tryz.prog.cellsOf 42 = 3 by kernel_rfl] at e1
    simp [locV] at e0 e1
    obtain ⟨rfl, rfl, rfl⟩ := e1
    subst e0
    exact ⟨⟨a, x⟩, rfl, wf_i64 w0, w1⟩
/-- Changes that came in. -/
theorem open_chgs {r : Reach} {base : Nat} {v : Value} {d : DataW H} {p : List MemPlace} (hok : Value.okWide Tryz.prog W r base 35 v) (h : DataW.Trod enc Tryz.prog W 0 (fun _ => true) true 35 v d p) :
    ∃ l : List Chg, Chgs W W.heap.size v l ∧ ∀ c ∈ l, (-9223372036854775808 ≤ c.at_ ∧ c.at_ ≤ 9223372036854775807) ∧ (-9223372036854775808 ≤ c.loc.off ∧ c.loc.off ≤ 9223372036854775807) := by
  obtain ⟨a, len, cap, rfl⟩ := okWide_slice Tryz.underlying35 hok
  obtain ⟨fuel, hf⟩ := h
  obtain ⟨v, l, e, hs, hl⟩ := open_list (C := 4) chgV (fun c => (-9223372036854775808 ≤ c.at_ ∧ c.at_ ≤ 9223372036854775807) ∧ (-9223372036854775808 ≤ c.loc.off ∧ c.loc.off ≤ 9223372036854775807)) Tryz.underlying35 (by kernel_rfl) (by decide) (fun n cs y _ hy => trod_chg hy) hf
  simp only [Value.cells, List.cons.injEq, and_true] at e
  subst e
  exact ⟨l, hs, fun c hc => (hl c hc).1⟩
end
end Go.Proofs.YtekeaphbmkfogaaGreatDoor
