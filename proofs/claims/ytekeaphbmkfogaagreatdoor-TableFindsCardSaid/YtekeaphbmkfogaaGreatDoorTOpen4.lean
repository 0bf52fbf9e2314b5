/-
  An array of four numbers that came in by value.
-/
import Derived.Test.YtekeaphbmkfogaaGreatDoorOpen
namespace Go.Proofs.YtekeaphbmkfogaaGreatDoor
open Go Go.ChangeShapes Go.WideShapes Go.ChangeAt Go.RowKit

theorem open_int4 {H : Type} {enc : TypeId × Value → H} {P : Program} {W : World} {T E : TypeId} {r : Reach} {base : Nat} {v : Value} {d : DataW H} {p : List MemPlace} (hT : P.underlying T = some (.array 4 E)) (hE : P.underlying E = some (.int .i64)) (hC : P.cellsOf E = 1) (hCT : P.cellsOf T = 4)
    (hok : Value.okWide P W r base T v) (h : DataW.Trod enc P W 0 (fun _ => true) true T v d p) :
    ∃ a b c e : Int, v = .agg #[.int .i64 a, .int .i64 b, .int .i64 c, .int .i64 e] ∧ (-9223372036854775808 ≤ a ∧ a ≤ 9223372036854775807) ∧ (-9223372036854775808 ≤ b ∧ b ≤ 9223372036854775807) ∧ (-9223372036854775808 ≤ c ∧ c ≤ 9223372036854775807) ∧ (-9223372036854775808 ≤ e ∧ e ≤ 9223372036854775807) := by
  simp only [Value.okWide, hT] at hok
  obtain ⟨cs, rfl, hsz, _⟩ := hok
  obtain ⟨fuel, hf⟩ := h
  obtain ⟨xs, m, _, _, _, hl, hel⟩ := DataW.trod_array hT hf
  rw [hCT] at hsz
  obtain ⟨l⟩ := cs
  match l, hsz with
  | [c0, c1, c2, c3], _ =>
    match xs, hl with
    | [x0, x1, x2, x3], _ =>
      have h0 := hel 0 (by omega)
      have h1 := hel 1 (by omega)
      have h2 := hel 2 (by omega)
      have h3 := hel 3 (by omega)
      simp [hC, Value.cells] at h0 h1 h2 h3
      obtain ⟨a, e0, _, w0⟩ := DataW.trod_int hE h0
      obtain ⟨b, e1, _, w1⟩ := DataW.trod_int hE h1
      obtain ⟨c, e2, _, w2⟩ := DataW.trod_int hE h2
      obtain ⟨e, e3, _, w3⟩ := DataW.trod_int hE h3
      simp at e0 e1 e2 e3
      subst e0 e1 e2 e3
      exact ⟨a, b, c, e, rfl, wf_i64 w0, wf_i64 w1, wf_i64 w2, wf_i64 w3⟩
end Go.Proofs.YtekeaphbmkfogaaGreatDoor
