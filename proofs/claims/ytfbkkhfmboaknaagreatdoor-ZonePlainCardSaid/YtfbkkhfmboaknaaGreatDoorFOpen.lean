/-
  From the rows' readings of rules to the words of the walks; the table of days.
-/
import Derived.Test.YtfbkkhfmboaknaaGreatDoorChecked
import Derived.Test.YtfbkkhfmboaknaaGreatDoorRows
import Derived.Test.YtfbkkhfmboaknaaGreatDoorOpenS
import Derived.Test.YtfbkkhfmboaknaaGreatDoorFRules
import Derived.Lib.LaidTab
namespace Go.Proofs.YtfbkkhfmboaknaaGreatDoor
open Go Go.ChangeShapes Go.WideShapes Go.ChangeAt Go.RowKit Go.Deep

set_option maxRecDepth 100000
def aheadI : List Int := [0, 31, 59, 90, 120, 151, 181, 212, 243, 273, 304, 334, 365]
/-- What the rows' list gives. -/
theorem ahead_of {W : World} (h : laidMetH Tryz.prog [("meridian/civil.ahead", Rows.laid_meridian_civil_ahead)] W) : Ahead W := fun i hi => by
  have ht : Lib.TabIs Tryz.prog W "meridian/civil.ahead" .i64 aheadI := Lib.tabIs_of_head (rest := []) (g := 0) (by kernel_rfl) (by kernel_rfl) Tryz.underlying174 Tryz.underlying3 (by kernel_rfl) (by kernel_rfl) h
  have hc := ht.cell (g := 0) (by kernel_rfl) i (by simpa [aheadI] using hi)
  rw [hc]
  have : i = 0 ∨ i = 1 ∨ i = 2 ∨ i = 3 ∨ i = 4 ∨ i = 5 ∨ i = 6 ∨ i = 7 ∨ i = 8 ∨ i = 9 ∨ i = 10 ∨ i = 11 ∨ i = 12 := by omega
  rcases this with h | h | h | h | h | h | h | h | h | h | h | h | h <;> subst h <;> rfl
theorem open_int3 {H : Type} {enc : TypeId × Value → H} {P : Program} {W : World} {T E : TypeId} {r : Reach} {base : Nat} {v : Value} {d : DataW H} {p : List MemPlace} (hT : P.underlying T = some (.array 3 E)) (hE : P.underlying E = some (.int .i64)) (hC : P.cellsOf E = 1) (hCT : P.cellsOf T = 3)
    (hok : Value.okWide P W r base T v) (h : DataW.Trod enc P W 0 (fun _ => true) true T v d p) :
    ∃ a b c : Int, v = .agg #[.int .i64 a, .int .i64 b, .int .i64 c] ∧ (-9223372036854775808 ≤ a ∧ a ≤ 9223372036854775807) ∧ (-9223372036854775808 ≤ b ∧ b ≤ 9223372036854775807) ∧ (-9223372036854775808 ≤ c ∧ c ≤ 9223372036854775807) := by
  simp only [Value.okWide, hT] at hok
  obtain ⟨cs, rfl, hsz, _⟩ := hok
  obtain ⟨fuel, hf⟩ := h
  obtain ⟨xs, m, _, _, _, hl, hel⟩ := DataW.trod_array hT hf
  rw [hCT] at hsz
  obtain ⟨l⟩ := cs
  match l, hsz with
  | [c0, c1, c2], _ =>
    match xs, hl with
    | [x0, x1, x2], _ =>
      have h0 := hel 0 (by omega)
      have h1 := hel 1 (by omega)
      have h2 := hel 2 (by omega)
      simp [hC, Value.cells] at h0 h1 h2
      obtain ⟨a, e0, _, w0⟩ := DataW.trod_int hE h0
      obtain ⟨b, e1, _, w1⟩ := DataW.trod_int hE h1
      obtain ⟨c, e2, _, w2⟩ := DataW.trod_int hE h2
      simp at e0 e1 e2
      subst e0 e1 e2
      exact ⟨a, b, c, rfl, wf_i64 w0, wf_i64 w1, wf_i64 w2⟩
section
variable {H : Type} {enc : TypeId × Value → H} {P : Program} {W : World} {base : Nat} {spare : MemPlace → Bool} {held : Bool}
theorem trod_struct8 {t : TypeId} {f0 f1 f2 f3 f4 f5 f6 f7 : Field} {fuel : Nat} {cs : List Value} {x : DataW H × List MemPlace} (ht : P.underlying t = some (.struct #[f0, f1, f2, f3, f4, f5, f6, f7])) (h : DataW.trod enc P W 0 (fun _ => true) true fuel t cs = some x) :
    ∃ y0 y1 y2 y3 y4 y5 y6 y7 n, cs.length = P.cellsOf t ∧ DataW.trod enc P W 0 (fun _ => true) true n f0.type ((cs.drop f0.offset).take (P.cellsOf f0.type)) = some y0 ∧ DataW.trod enc P W 0 (fun _ => true) true n f1.type ((cs.drop f1.offset).take (P.cellsOf f1.type)) = some y1 ∧
      DataW.trod enc P W 0 (fun _ => true) true n f2.type ((cs.drop f2.offset).take (P.cellsOf f2.type)) = some y2 ∧ DataW.trod enc P W 0 (fun _ => true) true n f3.type ((cs.drop f3.offset).take (P.cellsOf f3.type)) = some y3 ∧ DataW.trod enc P W 0 (fun _ => true) true n f4.type ((cs.drop f4.offset).take (P.cellsOf f4.type)) = some y4 ∧
      DataW.trod enc P W 0 (fun _ => true) true n f5.type ((cs.drop f5.offset).take (P.cellsOf f5.type)) = some y5 ∧ DataW.trod enc P W 0 (fun _ => true) true n f6.type ((cs.drop f6.offset).take (P.cellsOf f6.type)) = some y6 ∧ DataW.trod enc P W 0 (fun _ => true) true n f7.type ((cs.drop f7.offset).take (P.cellsOf f7.type)) = some y7 := by
  obtain ⟨xs, n, _, rfl, hl, hlen, hf⟩ := DataW.trod_struct ht h
  match xs, hlen with
  | [y0, y1, y2, y3, y4, y5, y6, y7], _ => exact ⟨y0, y1, y2, y3, y4, y5, y6, y7, n, hl, by simpa using hf 0 f0 rfl, by simpa using hf 1 f1 rfl, by simpa using hf 2 f2 rfl, by simpa using hf 3 f3 rfl, by simpa using hf 4 f4 rfl, by simpa using hf 5 f5 rfl, by simpa using hf 6 f6 rfl, by simpa using hf 7 f7 rfl⟩
end
section
variable {H : Type} {enc : TypeId × Value → H} {W : World}
theorem trod_day {n : Nat} {cs : List Value} {y : DataW H × List MemPlace} (h : DataW.trod enc Tryz.prog W 0 (fun _ => true) true n 48 cs = some y) : ∃ a b c : Int, cs = [.int .i64 a, .int .i64 b, .int .i64 c] := by
  obtain ⟨y0, y1, y2, k, -, hl, h0, h1, h2⟩ := trod_struct3 Tryz.underlying48 h
  rw [show Tryz.prog.cellsOf 48 = 3 by kernel_rfl] at hl
  obtain ⟨a, e0, _, _⟩ := DataW.trod_int Tryz.underlying3 h0
  obtain ⟨b, e1, _, _⟩ := DataW.trod_int Tryz.underlying3 h1
  obtain ⟨c, e2, _, _⟩ := DataW.trod_int Tryz.underlying3 h2
  match cs, hl with
  | [v0, v1, v2], _ =>
    rw [show Tryz.prog.cellsOf 3 = 1 by kernel_rfl] at e0 e1 e2
    simp at e0 e1 e2
    subst e0 e1 e2
    exact ⟨a, b, c, rfl⟩
theorem trod_clock {n : Nat} {cs : List Value} {y : DataW H × List MemPlace} (h : DataW.trod enc Tryz.prog W 0 (fun _ => true) true n 50 cs = some y) : ∃ a b : Int, cs = [.int .i64 a, .int .i64 b] := by
  obtain ⟨y0, y1, k, -, hl, h0, h1⟩ := trod_struct2 Tryz.underlying50 h
  rw [show Tryz.prog.cellsOf 50 = 2 by kernel_rfl] at hl
  obtain ⟨a, e0, _, _⟩ := DataW.trod_int Tryz.underlying3 h0
  obtain ⟨b, e1, _, _⟩ := DataW.trod_int Tryz.underlying3 h1
  match cs, hl with
  | [v0, v1], _ =>
    rw [show Tryz.prog.cellsOf 3 = 1 by kernel_rfl] at e0 e1
    simp at e0 e1
    subst e0 e1
    exact ⟨a, b, rfl⟩
theorem trod_rul {n : Nat} {cs : List Value} {y : DataW H × List MemPlace} (h : DataW.trod enc Tryz.prog W 0 (fun _ => true) true n 76 cs = some y) : ∃ r : Rul, cs = rulV r ∧ True := by
  obtain ⟨y0, y1, y2, y3, y4, y5, y6, y7, k, hl, h0, h1, h2, h3, h4, h5, h6, h7⟩ := trod_struct8 Tryz.underlying76 h
  rw [show Tryz.prog.cellsOf 76 = 11 by kernel_rfl] at hl
  obtain ⟨nm, e0, _, _⟩ := DataW.trod_string Tryz.underlying9 h0
  obtain ⟨fr, e1, _, _⟩ := DataW.trod_int Tryz.underlying3 h1
  obtain ⟨to, e2, _, _⟩ := DataW.trod_int Tryz.underlying3 h2
  obtain ⟨mo, e3, _, _⟩ := DataW.trod_int Tryz.underlying3 h3
  obtain ⟨dk, dw, dn, e4⟩ := trod_day h4
  obtain ⟨sc, kd, e5⟩ := trod_clock h5
  obtain ⟨sv, e6, _, _⟩ := DataW.trod_int Tryz.underlying3 h6
  obtain ⟨lt, e7, _, _⟩ := DataW.trod_string Tryz.underlying9 h7
  match cs, hl with
  | [v0, v1, v2, v3, v4, v5, v6, v7, v8, v9, v10], _ =>
    rw [show Tryz.prog.cellsOf 3 = 1 by kernel_rfl] at e1 e2 e3 e6
    rw [show Tryz.prog.cellsOf 9 = 1 by kernel_rfl] at e0 e7
    rw [show Tryz.prog.cellsOf 48 = 3 by kernel_rfl] at e4
    rw [show Tryz.prog.cellsOf 50 = 2 by kernel_rfl] at e5
    simp at e0 e1 e2 e3 e4 e5 e6 e7
    obtain ⟨rfl, rfl, rfl⟩ := e4
    obtain ⟨rfl, rfl⟩ := e5
    subst e0 e1 e2 e3 e6 e7
    exact ⟨⟨nm, fr, to, mo, dk, dw, dn, sc, kd, sv, lt⟩, rfl, trivial⟩
instance : Inhabited Rul := ⟨⟨⟨#[]⟩, 0, 0, 0, 0, 0, 0, 0, 0, 0, ⟨#[]⟩⟩⟩
/-- Rules that came in. -/
theorem open_rules {r : Reach} {base : Nat} {v : Value} {d : DataW H} {p : List MemPlace} (hok : Value.okWide Tryz.prog W r base 60 v) (h : DataW.Trod enc Tryz.prog W 0 (fun _ => true) true 60 v d p) :
    ∃ l : List Rul, Ruls W W.heap.size v l := by
  obtain ⟨a, len, cap, rfl⟩ := okWide_slice Tryz.underlying60 hok
  obtain ⟨fuel, hf⟩ := h
  obtain ⟨v, l, e, hs, hl⟩ := open_list (C := 11) rulV (fun _ => True) Tryz.underlying60 (by kernel_rfl) (by decide) (fun n cs y _ hy => trod_rul hy) hf
  simp only [Value.cells, List.cons.injEq, and_true] at e
  subst e
  exact ⟨l, hs⟩
end
end Go.Proofs.YtfbkkhfmboaknaaGreatDoor
