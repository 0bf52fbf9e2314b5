/-
  From the rows' readings of eras to the words of the walks.
-/
import Derived.Test.YtfbkkhfmboaknaaGreatDoorFOpen
import Derived.Test.YtfbkkhfmboaknaaGreatDoorAPlain
namespace Go.Proofs.YtfbkkhfmboaknaaGreatDoor
open Go Go.ChangeShapes Go.WideShapes Go.ChangeAt Go.RowKit Go.Deep

set_option maxRecDepth 100000
section
variable {H : Type} {enc : TypeId × Value → H} {P : Program} {W : World}
theorem trod_struct4 {t : TypeId} {f0 f1 f2 f3 : Field} {fuel : Nat} {cs : List Value} {x : DataW H × List MemPlace} (ht : P.underlying t = some (.struct #[f0, f1, f2, f3])) (h : DataW.trod enc P W 0 (fun _ => true) true fuel t cs = some x) :
    ∃ y0 y1 y2 y3 n, cs.length = P.cellsOf t ∧ DataW.trod enc P W 0 (fun _ => true) true n f0.type ((cs.drop f0.offset).take (P.cellsOf f0.type)) = some y0 ∧ DataW.trod enc P W 0 (fun _ => true) true n f1.type ((cs.drop f1.offset).take (P.cellsOf f1.type)) = some y1 ∧
      DataW.trod enc P W 0 (fun _ => true) true n f2.type ((cs.drop f2.offset).take (P.cellsOf f2.type)) = some y2 ∧ DataW.trod enc P W 0 (fun _ => true) true n f3.type ((cs.drop f3.offset).take (P.cellsOf f3.type)) = some y3 := by
  obtain ⟨xs, n, _, rfl, hl, hlen, hf⟩ := DataW.trod_struct ht h
  match xs, hlen with
  | [y0, y1, y2, y3], _ => exact ⟨y0, y1, y2, y3, n, hl, by simpa using hf 0 f0 rfl, by simpa using hf 1 f1 rfl, by simpa using hf 2 f2 rfl, by simpa using hf 3 f3 rfl⟩
theorem trod_struct6 {t : TypeId} {f0 f1 f2 f3 f4 f5 : Field} {fuel : Nat} {cs : List Value} {x : DataW H × List MemPlace} (ht : P.underlying t = some (.struct #[f0, f1, f2, f3, f4, f5])) (h : DataW.trod enc P W 0 (fun _ => true) true fuel t cs = some x) :
    ∃ y0 y1 y2 y3 y4 y5 n, cs.length = P.cellsOf t ∧ DataW.trod enc P W 0 (fun _ => true) true n f0.type ((cs.drop f0.offset).take (P.cellsOf f0.type)) = some y0 ∧ DataW.trod enc P W 0 (fun _ => true) true n f1.type ((cs.drop f1.offset).take (P.cellsOf f1.type)) = some y1 ∧
      DataW.trod enc P W 0 (fun _ => true) true n f2.type ((cs.drop f2.offset).take (P.cellsOf f2.type)) = some y2 ∧ DataW.trod enc P W 0 (fun _ => true) true n f3.type ((cs.drop f3.offset).take (P.cellsOf f3.type)) = some y3 ∧
      DataW.trod enc P W 0 (fun _ => true) true n f4.type ((cs.drop f4.offset).take (P.cellsOf f4.type)) = some y4 ∧ DataW.trod enc P W 0 (fun _ => true) true n f5.type ((cs.drop f5.offset).take (P.cellsOf f5.type)) = some y5 := by
  obtain ⟨xs, n, _, rfl, hl, hlen, hf⟩ := DataW.trod_struct ht h
  match xs, hlen with
  | [y0, y1, y2, y3, y4, y5], _ => exact ⟨y0, y1, y2, y3, y4, y5, n, hl, by simpa using hf 0 f0 rfl, by simpa using hf 1 f1 rfl, by simpa using hf 2 f2 rfl, by simpa using hf 3 f3 rfl, by simpa using hf 4 f4 rfl, by simpa using hf 5 f5 rfl⟩
end
section
variable {H : Type} {enc : TypeId × Value → H} {W : World}
theorem trod_until {n : Nat} {cs : List Value} {y : DataW H × List MemPlace} (h : DataW.trod enc Tryz.prog W 0 (fun _ => true) true n 52 cs = some y) : ∃ a b c d e f g : Int, cs = [.int .i64 a, .int .i64 b, .int .i64 c, .int .i64 d, .int .i64 e, .int .i64 f, .int .i64 g] := by
  obtain ⟨y0, y1, y2, y3, k, hl, h0, h1, h2, h3⟩ := trod_struct4 Tryz.underlying52 h
  rw [show Tryz.prog.cellsOf 52 = 7 by kernel_rfl] at hl
  obtain ⟨a, e0, _, _⟩ := DataW.trod_int Tryz.underlying3 h0
  obtain ⟨b, e1, _, _⟩ := DataW.trod_int Tryz.underlying3 h1
  obtain ⟨dk, dw, dn, e2⟩ := trod_day h2
  obtain ⟨sc, kd, e3⟩ := trod_clock h3
  match cs, hl with
  | [v0, v1, v2, v3, v4, v5, v6], _ =>
    rw [show Tryz.prog.cellsOf 3 = 1 by kernel_rfl] at e0 e1
    rw [show Tryz.prog.cellsOf 48 = 3 by kernel_rfl] at e2
    rw [show Tryz.prog.cellsOf 50 = 2 by kernel_rfl] at e3
    simp at e0 e1 e2 e3
    obtain ⟨rfl, rfl, rfl⟩ := e2
    obtain ⟨rfl, rfl⟩ := e3
    subst e0 e1
    exact ⟨a, b, dk, dw, dn, sc, kd, rfl⟩
theorem trod_era {n : Nat} {cs : List Value} {y : DataW H × List MemPlace} (h : DataW.trod enc Tryz.prog W 0 (fun _ => true) true n 54 cs = some y) :
    ∃ (e : EraN) (ru f : ByteArray) (en : Bool), cs = [.int .i64 e.off, .string ru, .int .i64 e.save, .string f, .bool en, .int .i64 e.year, .int .i64 e.month, .int .i64 e.dk, .int .i64 e.dw, .int .i64 e.dn, .int .i64 e.sec, .int .i64 e.ak] ∧
      (-9223372036854775808 ≤ e.off ∧ e.off ≤ 9223372036854775807) ∧ (-9223372036854775808 ≤ e.save ∧ e.save ≤ 9223372036854775807) := by
  obtain ⟨y0, y1, y2, y3, y4, y5, k, hl, h0, h1, h2, h3, h4, h5⟩ := trod_struct6 Tryz.underlying54 h
  rw [show Tryz.prog.cellsOf 54 = 12 by kernel_rfl] at hl
  obtain ⟨off, e0, _, w0⟩ := DataW.trod_int Tryz.underlying3 h0
  obtain ⟨ru, e1, _, _⟩ := DataW.trod_string Tryz.underlying9 h1
  obtain ⟨sv, e2, _, w2⟩ := DataW.trod_int Tryz.underlying3 h2
  obtain ⟨f, e3, _, _⟩ := DataW.trod_string Tryz.underlying9 h3
  obtain ⟨en, e4, _⟩ := DataW.trod_bool Tryz.underlying4 h4
  obtain ⟨yr, mo, dk, dw, dn, sc, kd, e5⟩ := trod_until h5
  match cs, hl with
  | [v0, v1, v2, v3, v4, v5, v6, v7, v8, v9, v10, v11], _ =>
    rw [show Tryz.prog.cellsOf 3 = 1 by kernel_rfl] at e0 e2
    rw [show Tryz.prog.cellsOf 9 = 1 by kernel_rfl] at e1 e3
    rw [show Tryz.prog.cellsOf 4 = 1 by kernel_rfl] at e4
    rw [show Tryz.prog.cellsOf 52 = 7 by kernel_rfl] at e5
    simp at e0 e1 e2 e3 e4 e5
    obtain ⟨rfl, rfl, rfl, rfl, rfl, rfl, rfl⟩ := e5
    subst e0 e1 e2 e3 e4
    exact ⟨⟨off, sv, yr, mo, dk, dw, dn, sc, kd⟩, ru, f, en, rfl, wf_i64 w0, wf_i64 w2⟩
/-- An era that came in. -/
theorem open_era {r : Reach} {base : Nat} {v : Value} {d : DataW H} {p : List MemPlace} (hok : Value.okWide Tryz.prog W r base 54 v) (h : DataW.Trod enc Tryz.prog W 0 (fun _ => true) true 54 v d p) :
    ∃ (e : EraN) (ru f : ByteArray) (en : Bool), v = eraA e ru f en ∧ (-9223372036854775808 ≤ e.off ∧ e.off ≤ 9223372036854775807) ∧ (-9223372036854775808 ≤ e.save ∧ e.save ≤ 9223372036854775807) := by
  have hu : Tryz.prog.underlying 54 = _ := Tryz.underlying54
  simp only [Value.okWide, hu] at hok
  obtain ⟨cs, rfl, hsz, _⟩ := hok
  obtain ⟨fuel, hf⟩ := h
  obtain ⟨e, ru, f, en, hcs, h1, h2⟩ := trod_era hf
  refine ⟨e, ru, f, en, ?_, h1, h2⟩
  simp only [Value.cells] at hcs
  obtain ⟨l⟩ := cs
  simp only at hcs
  subst hcs
  rfl
end
end Go.Proofs.YtfbkkhfmboaknaaGreatDoor
