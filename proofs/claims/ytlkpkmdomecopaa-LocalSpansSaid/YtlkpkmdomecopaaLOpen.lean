/-
  From the rows' readings of changes to the words of the walks.
-/
import Derived.Test.YtlkpkmdomecopaaChecked
import Derived.Test.YtlkpkmdomecopaaOpenS
import Derived.Test.YtlkpkmdomecopaaLBase
namespace Go.Proofs.Ytlkpkmdomecopaa
open Go Go.ChangeShapes Go.WideShapes Go.ChangeAt Go.RowKit Go.Deep

section
variable {H : Type} {enc : TypeId × Value → H} {W : World}
theorem trod_loc {n : Nat} {cs : List Value} {y : DataW H × List MemPlace} (h : DataW.trod enc Try.prog W 0 (fun _ => true) true n 32 cs = some y) : ∃ x : Loc, cs = locV x ∧ (-9223372036854775808 ≤ x.off ∧ x.off ≤ 9223372036854775807) := by
  obtain ⟨y0, y1, y2, k, -, hl, h0, h1, h2⟩ := trod_struct3 Try.underlying32 h
  rw [show Try.prog.cellsOf 32 = 3 by kernel_rfl] at hl
  obtain ⟨a, e0, _, w0⟩ := DataW.trod_int Try.underlying3 h0
  obtain ⟨b, e1, _⟩ := DataW.trod_bool Try.underlying4 h1
  obtain ⟨s, e2, _, _⟩ := DataW.trod_string Try.underlying9 h2
  match cs, hl with
  | [v0, v1, v2], _ =>
    rw [show Try.prog.cellsOf 3 = 1 by kernel_rfl] at e0
    rw [show Try.prog.cellsOf 4 = 1 by kernel_rfl] at e1
    rw [show Try.prog.cellsOf 9 = 1 by kernel_rfl] at e2
    simp at e0 e1 e2
    subst e0 e1 e2
    exact ⟨⟨a, b, s⟩, rfl, wf_i64 w0⟩
theorem trod_chg {n : Nat} {cs : List Value} {y : DataW H × List MemPlace} (h : DataW.trod enc Try.prog W 0 (fun _ => true) true n 34 cs = some y) : ∃ c : Chg, cs = chgV c ∧ (-9223372036854775808 ≤ c.at_ ∧ c.at_ ≤ 9223372036854775807) ∧ (-9223372036854775808 ≤ c.loc.off ∧ c.loc.off ≤ 9223372036854775807) := by
  obtain ⟨y0, y1, k, -, hl, h0, h1⟩ := trod_struct2 Try.underlying34 h
  rw [show Try.prog.cellsOf 34 = 4 by kernel_rfl] at hl
  obtain ⟨a, e0, _, w0⟩ := DataW.trod_int Try.underlying3 h0
  obtain ⟨x, e1, w1⟩ := trod_loc h1
  match cs, hl with
  | [v0, v1, v2, v3], _ =>
    rw [show Try.prog.cellsOf 3 = 1 by kernel_rfl] at e0
    rw [show Try.prog.cellsOf 32 = 3 by kernel_rfl] at e1
    simp [locV] at e0 e1
    obtain ⟨rfl, rfl, rfl⟩ := e1
    subst e0
    exact ⟨⟨a, x⟩, rfl, wf_i64 w0, w1⟩
/-- Changes that came in. -/
theorem open_chgs {r : Reach} {base : Nat} {v : Value} {d : DataW H} {p : List MemPlace} (hok : Value.okWide Try.prog W r base 22 v) (h : DataW.Trod enc Try.prog W 0 (fun _ => true) true 22 v d p) :
    ∃ l : List Chg, Chgs W W.heap.size v l ∧ ∀ c ∈ l, (-9223372036854775808 ≤ c.at_ ∧ c.at_ ≤ 9223372036854775807) ∧ (-9223372036854775808 ≤ c.loc.off ∧ c.loc.off ≤ 9223372036854775807) := by
  obtain ⟨a, len, cap, rfl⟩ := okWide_slice Try.underlying22 hok
  obtain ⟨fuel, hf⟩ := h
  obtain ⟨v, l, e, hs, hl⟩ := open_list (C := 4) chgV (fun c => (-9223372036854775808 ≤ c.at_ ∧ c.at_ ≤ 9223372036854775807) ∧ (-9223372036854775808 ≤ c.loc.off ∧ c.loc.off ≤ 9223372036854775807)) Try.underlying22 (by kernel_rfl) (by decide) (fun n cs y _ hy => trod_chg hy) hf
  simp only [Value.cells, List.cons.injEq, and_true] at e
  subst e
  exact ⟨l, hs, fun c hc => (hl c hc).1⟩
end
end Go.Proofs.Ytlkpkmdomecopaa
