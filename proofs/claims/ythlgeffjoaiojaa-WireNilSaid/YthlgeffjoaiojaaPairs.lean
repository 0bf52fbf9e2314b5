/-
  Slices of pairs of numbers, and of numbers, that came in.
-/
import Derived.Test.YthlgeffjoaiojaaOpen
import Derived.Deep.SlicePairs
import Derived.Lib.SmallJoins
namespace Go.Proofs.Ythlgeffjoaiojaa
open Go Go.ChangeShapes Go.WideShapes Go.ChangeAt Go.RowKit Go.Joins Go.Deep

/-- Pairs of numbers in memory. -/
def opsV (l : List (Int × Int)) : List Value := l.flatMap fun p => [.int .i64 p.1, .int .i64 p.2]
theorem length_opsV (l : List (Int × Int)) : (opsV l).length = l.length * 2 := by
  induction l with
  | nil => rfl
  | cons p l ih => simp only [opsV, List.flatMap_cons, List.length_append, List.length_cons, List.length_nil] at ih ⊢; omega
theorem opsV_fst (l : List (Int × Int)) (i : Nat) (h : i < l.length) : (opsV l)[i * 2]? = some (.int .i64 (l[i]).1) ∧ (opsV l)[i * 2 + 1]? = some (.int .i64 (l[i]).2) := by
  induction l generalizing i with
  | nil => exact absurd h (by simp)
  | cons p l ih =>
    rcases i with _ | i
    · exact ⟨rfl, rfl⟩
    · have := ih i (by simpa using h)
      rw [show (i + 1) * 2 = i * 2 + 1 + 1 by omega]
      exact this
def Ops (w : World) (B : Nat) (v : Value) (l : List (Int × Int)) : Prop := Sl w B 2 v l.length (opsV l)


def numOfV (v : Value) : Int := match v with | .int _ n => n | _ => 0
def Wide (a : Int) : Prop := -9223372036854775808 ≤ a ∧ a ≤ 9223372036854775807
theorem open_pairs {H : Type} {enc : TypeId × Value → H} {P : Program} {W : World} {T E : TypeId} {f0 f1 : Field} {r : Reach} {base : Nat} {v : Value} {d : DataW H} {p : List MemPlace} (hT : P.underlying T = some (.slice E)) (hE : P.underlying E = some (.struct #[f0, f1]))
    (hC : P.cellsOf E = 2) (o0 : f0.offset = 0) (o1 : f1.offset = 1) (c0 : P.cellsOf f0.type = 1) (c1 : P.cellsOf f1.type = 1) (i0 : P.underlying f0.type = some (.int .i64)) (i1 : P.underlying f1.type = some (.int .i64))
    (hok : Value.okWide P W r base T v) (h : DataW.Trod enc P W 0 (fun _ => true) true T v d p) : ∃ l : List (Int × Int), Ops W W.heap.size v l ∧ ∀ q ∈ l, Wide q.1 ∧ Wide q.2 := by
  obtain ⟨a, len, cap, rfl⟩ := okWide_slice hT hok
  obtain ⟨fuel, hf⟩ := h
  rcases Go.Deep.open_slice_pairs hT hE hC o0 o1 c0 c1 hf with ⟨hcs, _⟩ | ⟨x, n, c, m, k, V0, V1, D0, D1, P0, P1, hcs, _, hl, hm, hmm, _, hcell⟩
  · simp [Value.cells] at hcs
    obtain ⟨rfl, rfl, rfl⟩ := hcs
    exact ⟨[], Sl.nil _ _ _, fun q hq => absurd hq (by simp)⟩
  · simp [Value.cells] at hcs
    obtain ⟨rfl, rfl, rfl⟩ := hcs
    simp only [if_true] at hmm
    subst hmm
    have hv : ∀ i, i < len → V0 i = .int .i64 (numOfV (V0 i)) ∧ Wide (numOfV (V0 i)) ∧ V1 i = .int .i64 (numOfV (V1 i)) ∧ Wide (numOfV (V1 i)) := fun i hi => by
      obtain ⟨_, _, h0, h1⟩ := hcell i (by omega)
      obtain ⟨z0, e0, _, w0⟩ := DataW.trod_int i0 h0
      obtain ⟨z1, e1, _, w1⟩ := DataW.trod_int i1 h1
      simp at e0 e1
      rw [e0, e1]
      exact ⟨rfl, wf_i64 w0, rfl, wf_i64 w1⟩
    have hlen : ((List.range len).map fun i => (numOfV (V0 i), numOfV (V1 i))).length = len := by simp
    refine ⟨(List.range len).map fun i => (numOfV (V0 i), numOfV (V1 i)), ?_, fun q hq => ?_⟩
    · unfold Ops
      rw [hlen]
      refine ⟨_, _, rfl, hl, hm, by rw [length_opsV, hlen], fun hp => ?_⟩
      obtain ⟨b, o, spot⟩ := x
      have h0 := (hcell 0 (by omega)).1
      have hspot : spot = none := by simpa [Addr.add] using World.cell?_spot h0
      subst hspot
      refine ⟨b, o, rfl, ?_, fun j u hu => ?_⟩
      · have := World.block_lt_of_cell? W _ h0
        simpa [Addr.add_lit] using this
      · have hj : j < len * 2 := by
          have := (List.getElem?_eq_some_iff.1 hu).1
          rw [length_opsV, hlen] at this
          exact this
        have hd : j / 2 < len := by omega
        obtain ⟨q0, q1, -, -⟩ := hcell (j / 2) (by omega)
        obtain ⟨v0, _, v1, _⟩ := hv (j / 2) (by omega)
        obtain ⟨p0, p1⟩ := opsV_fst ((List.range len).map fun i => (numOfV (V0 i), numOfV (V1 i))) (j / 2) (by rw [hlen]; exact hd)
        simp only [List.getElem_map, List.getElem_range] at p0 p1
        rcases Nat.mod_two_eq_zero_or_one j with h | h
        · have e : j = j / 2 * 2 := by omega
          rw [e, p0] at hu
          rw [← Option.some.inj hu, ← v0, e, show j / 2 * 2 / 2 = j / 2 by omega]
          simpa [Addr.add_lit] using q0
        · have e : j = j / 2 * 2 + 1 := by omega
          rw [e, p1] at hu
          rw [← Option.some.inj hu, ← v1, e, show (j / 2 * 2 + 1) / 2 = j / 2 by omega]
          simpa [Addr.add_lit] using q1
    · obtain ⟨i, hi, rfl⟩ := List.mem_map.1 hq
      have := hv i (by have := List.mem_range.1 hi; omega)
      exact ⟨this.2.1, this.2.2.2⟩
/-- A pair of numbers that came in by value. -/
theorem open_pair {H : Type} {enc : TypeId × Value → H} {P : Program} {W : World} {T : TypeId} {f0 f1 : Field} {r : Reach} {base : Nat} {v : Value} {d : DataW H} {p : List MemPlace} (hT : P.underlying T = some (.struct #[f0, f1])) (hone : oneCellFields P #[f0, f1] = true)
    (hC : P.cellsOf T = 2) (i0 : P.underlying f0.type = some (.int .i64)) (i1 : P.underlying f1.type = some (.int .i64))
    (hok : Value.okWide P W r base T v) (h : DataW.Trod enc P W 0 (fun _ => true) true T v d p) : ∃ a b : Int, v = .agg #[.int .i64 a, .int .i64 b] ∧ Wide a ∧ Wide b := by
  obtain ⟨v0, v1, y0, y1, n, rfl, -, -, h0, h1⟩ := open_agg2 hT hone hC hok h
  obtain ⟨z0, e0, _, w0⟩ := DataW.trod_int i0 h0
  obtain ⟨z1, e1, _, w1⟩ := DataW.trod_int i1 h1
  simp at e0 e1
  subst e0 e1
  exact ⟨z0, z1, rfl, wf_i64 w0, wf_i64 w1⟩
/-- Numbers in memory. -/
def intsV (l : List Int) : List Value := l.map fun x => .int .i64 x
theorem length_intsV (l : List Int) : (intsV l).length = l.length := by simp [intsV]
theorem intsV_at (l : List Int) (i : Nat) (h : i < l.length) : (intsV l)[i]? = some (.int .i64 l[i]) := by simp [intsV, h]
def Ints (w : World) (B : Nat) (v : Value) (l : List Int) : Prop := Sl w B 1 v l.length (intsV l)
theorem open_ints' {H : Type} {enc : TypeId × Value → H} {P : Program} {W : World} {T E : TypeId} {r : Reach} {base : Nat} {v : Value} {d : DataW H} {p : List MemPlace} (hT : P.underlying T = some (.slice E)) (hE : P.underlying E = some (.int .i64)) (hC : P.cellsOf E = 1)
    (hok : Value.okWide P W r base T v) (h : DataW.Trod enc P W 0 (fun _ => true) true T v d p) : ∃ l : List Int, Ints W W.heap.size v l ∧ ∀ q ∈ l, Wide q := by
  obtain ⟨a, len, cap, rfl⟩ := okWide_slice hT hok
  obtain ⟨fuel, hf⟩ := h
  rcases open_ints hT hE hC hf with ⟨hcs, _⟩ | ⟨x, l, c, zs, hcs, _, hl, hm, hz, _, hcell, hwz⟩
  · simp [Value.cells] at hcs
    obtain ⟨rfl, rfl, rfl⟩ := hcs
    exact ⟨[], Sl.nil _ _ _, fun q hq => absurd hq (by simp)⟩
  · simp [Value.cells] at hcs
    obtain ⟨rfl, rfl, rfl⟩ := hcs
    have hz' : zs.length = cap := by simpa using hz
    have hlen : (zs.take len).length = len := by simp; omega
    refine ⟨zs.take len, ?_, fun q hq => wf_i64 (hwz q (List.mem_of_mem_take hq))⟩
    unfold Ints
    rw [hlen]
    refine ⟨_, _, rfl, hl, hm, by rw [length_intsV, hlen]; omega, fun hp => ?_⟩
    obtain ⟨b, o, spot⟩ := x
    have h0 := hcell 0 (by omega)
    have hspot : spot = none := by simpa [Addr.add] using World.cell?_spot h0
    subst hspot
    refine ⟨b, o, rfl, ?_, fun j u hu => ?_⟩
    · have := World.block_lt_of_cell? W _ h0
      simpa [Addr.add_lit] using this
    · have hj : j < len := by
        have := (List.getElem?_eq_some_iff.1 hu).1
        rw [length_intsV, hlen] at this
        exact this
      have hc := hcell j (by omega)
      rw [Addr.add_lit] at hc
      rw [hc]
      have hjz : j < zs.length := by omega
      rw [intsV_at _ _ (by rw [hlen]; exact hj)] at hu
      rw [← Option.some.inj hu, List.getElem_take, List.getD_eq_getElem?_getD, List.getElem?_eq_getElem hjz, Option.getD_some]
end Go.Proofs.Ythlgeffjoaiojaa
