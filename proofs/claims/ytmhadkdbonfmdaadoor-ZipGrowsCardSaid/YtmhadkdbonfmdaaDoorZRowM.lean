/-
  From the rows' reading of one member by value to the words of the walks.
-/
import Derived.Lib.SmallJoins
import Derived.Test.YtmhadkdbonfmdaaDoorZRows
namespace Go.Proofs.YtmhadkdbonfmdaaDoor
open Go Go.ChangeShapes Go.WideShapes Go.ChangeAt Go.RowKit Go.Joins Go.WideElems Go.Deep

/-- A member that came in by value. -/
theorem open_member {H : Type} {enc : TypeId × Value → H} {P : Program} {W : World} {E : TypeId} {f0 f1 : Field} {e1 : TypeId} {r : Reach} {base : Nat} {v : Value} {d : DataW H} {p : List MemPlace} (hE : P.underlying E = some (.struct #[f0, f1]))
    (hone : oneCellFields P #[f0, f1] = true) (hC : P.cellsOf E = 2) (i0 : P.underlying f0.type = some .string) (i1 : P.underlying f1.type = some (.slice e1)) (i2 : P.underlying e1 = some (.int .u8)) (c2 : P.cellsOf e1 = 1)
    (hok : Value.okWide P W r base E v) (h : DataW.Trod enc P W 0 (fun _ => true) true E v d p) : ∃ (name : List UInt8) (dv : Value) (data : List UInt8), v = .agg #[str name, dv] ∧ name.length ≤ maxLen ∧ Bytes W W.heap.size dv data := by
  obtain ⟨v0, v1, y0, y1, n, rfl, -, -, h0, h1⟩ := Go.Joins.open_agg2 hE hone hC hok h
  obtain ⟨s, e0, _, hs⟩ := DataW.trod_string i0 h0
  obtain ⟨l, hb⟩ := open_bytes_trod i1 i2 c2 h1
  simp only [List.cons.injEq, and_true] at e0
  subst e0
  exact ⟨s.data.toList, v1, l, rfl, by simpa using hs, hb⟩
end Go.Proofs.YtmhadkdbonfmdaaDoor
