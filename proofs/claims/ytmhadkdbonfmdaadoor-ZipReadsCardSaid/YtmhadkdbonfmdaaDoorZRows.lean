/-
  From the rows' readings of members to the words of the walks.
-/
import Derived.Deep.SlicePairs
import Derived.LaidSub
import Derived.Test.YtmhadkdbonfmdaaDoorOpen
import Derived.Test.YtmhadkdbonfmdaaDoorZLawA
namespace Go.Proofs.YtmhadkdbonfmdaaDoor
open Go Go.ChangeShapes Go.WideShapes Go.ChangeAt Go.RowKit

theorem open_bytes_trod {H : Type} {enc : TypeId × Value → H} {P : Program} {W : World} {T E : TypeId} {v : Value} {fuel : Nat} {x : DataW H × List MemPlace} (hT : P.underlying T = some (.slice E)) (hE : P.underlying E = some (.int .u8)) (hC : P.cellsOf E = 1)
    (hf : DataW.trod enc P W 0 (fun _ => true) true fuel T [v] = some x) : ∃ l : List UInt8, Bytes W W.heap.size v l := by
  rcases open_ints hT hE hC hf with ⟨hcs, _⟩ | ⟨x, len, cap, zs, hcs, _, hl, hm, hz, _, hcell, hwz⟩
  · simp only [List.cons.injEq, and_true] at hcs
    subst hcs
    exact ⟨[], Bytes.nil _ _⟩
  · simp only [List.cons.injEq, and_true] at hcs
    subst hcs
    have hz' : zs.length = cap := by simpa using hz
    refine ⟨(zs.take len).map fun z => UInt8.ofNat z.toNat, ?_⟩
    have hlen : ((zs.take len).map fun z => UInt8.ofNat z.toNat).length = len := by simp; omega
    unfold Bytes
    rw [hlen]
    refine ⟨_, _, rfl, hl, hm, by rw [length_bytesV, hlen]; omega, fun hp => ?_⟩
    obtain ⟨b, o, spot⟩ := x
    have h0 := hcell 0 (by omega)
    have hspot : spot = none := by simpa [Addr.add] using World.cell?_spot h0
    subst hspot
    refine ⟨b, o, rfl, ?_, fun j u hu => ?_⟩
    · have := World.block_lt_of_cell? W _ h0
      simpa [Addr.add_lit] using this
    · have hj : j < len := by
        have := (List.getElem?_eq_some_iff.1 hu).1
        rw [length_bytesV, hlen] at this
        exact this
      have hc := hcell j (by omega)
      rw [Addr.add_lit] at hc
      rw [hc]
      have hjz : j < zs.length := by omega
      have hw := hwz zs[j] (List.getElem_mem hjz)
      have hb : 0 ≤ zs[j] ∧ zs[j] ≤ 255 := by simpa [Lit.wf, IntKind.min, IntKind.max, IntKind.signed, IntKind.bits] using hw
      have : (bytesV ((zs.take len).map fun z => UInt8.ofNat z.toNat))[j]? = some (.int .u8 ((UInt8.ofNat zs[j].toNat).toNat : Int)) := by
        rw [bytesV_at _ _ (by rw [hlen]; exact hj)]
        simp
      rw [this] at hu
      rw [← Option.some.inj hu, List.getD_eq_getElem?_getD, List.getElem?_eq_getElem hjz, Option.getD_some, UInt8.toNat_ofNat']
      congr 2
      rw [Nat.mod_eq_of_lt (by omega)]
      omega
theorem len_pairs (V0 V1 : Nat → Value) (n : Nat) : ((List.range n).flatMap fun i => [V0 i, V1 i]).length = n * 2 := by
  induction n with
  | zero => rfl
  | succ n ih =>
    rw [List.range_succ, List.flatMap_append, List.length_append, ih]
    simp
    omega
/-- Members that came in. -/
theorem open_members {H : Type} {enc : TypeId × Value → H} {P : Program} {W : World} {T E : TypeId} {f0 f1 : Field} {e1 : TypeId} {r : Reach} {base : Nat} {v : Value} {d : DataW H} {p : List MemPlace} (hT : P.underlying T = some (.slice E)) (hE : P.underlying E = some (.struct #[f0, f1]))
    (hC : P.cellsOf E = 2) (o0 : f0.offset = 0) (o1 : f1.offset = 1) (c0 : P.cellsOf f0.type = 1) (c1 : P.cellsOf f1.type = 1) (i0 : P.underlying f0.type = some .string) (i1 : P.underlying f1.type = some (.slice e1)) (i2 : P.underlying e1 = some (.int .u8)) (c2 : P.cellsOf e1 = 1)
    (hok : Value.okWide P W r base T v) (h : DataW.Trod enc P W 0 (fun _ => true) true T v d p) : ∃ l : List Mem, Mems W W.heap.size v l := by
  obtain ⟨a, len, cap, rfl⟩ := okWide_slice hT hok
  obtain ⟨fuel, hf⟩ := h
  rcases Go.Deep.open_slice_pairs hT hE hC o0 o1 c0 c1 hf with ⟨hcs, _⟩ | ⟨x, n, c, m, k, V0, V1, D0, D1, P0, P1, hcs, _, hl, hm, hmm, _, hcell⟩
  · simp [Value.cells] at hcs
    obtain ⟨rfl, rfl, rfl⟩ := hcs
    exact ⟨[], mems_nil _ _⟩
  · simp [Value.cells] at hcs
    obtain ⟨rfl, rfl, rfl⟩ := hcs
    simp only [if_true] at hmm
    subst hmm
    have hv : ∀ i, i < len → ∃ q : List UInt8 × List UInt8, V0 i = str q.1 ∧ q.1.length ≤ maxLen ∧ Bytes W W.heap.size (V1 i) q.2 := fun i hi => by
      obtain ⟨_, _, h0, h1⟩ := hcell i (by omega)
      obtain ⟨s, e0, _, hs⟩ := DataW.trod_string i0 h0
      obtain ⟨l, hb⟩ := open_bytes_trod i1 i2 c2 h1
      simp only [List.cons.injEq, and_true] at e0
      refine ⟨(s.data.toList, l), ?_, by simpa using hs, hb⟩
      rw [e0]
    have hv' : ∀ i, ∃ q : List UInt8 × List UInt8, i < len → V0 i = str q.1 ∧ q.1.length ≤ maxLen ∧ Bytes W W.heap.size (V1 i) q.2 := fun i => by
      by_cases hi : i < len
      · obtain ⟨q, hq⟩ := hv i hi
        exact ⟨q, fun _ => hq⟩
      · exact ⟨([], []), fun h => absurd h hi⟩
    obtain ⟨Q, hQ⟩ := Classical.axiomOfChoice hv'
    have hlen : ((List.range len).map Q).length = len := by simp
    have hxs : ∀ (n i : Nat), i < n → ((List.range n).flatMap fun i => [V0 i, V1 i])[i * 2]? = some (V0 i) ∧ ((List.range n).flatMap fun i => [V0 i, V1 i])[i * 2 + 1]? = some (V1 i) := by
      intro n
      induction n with
      | zero => intro i hi; omega
      | succ n ih =>
        intro i hi
        have hl2 : ((List.range n).flatMap fun i => [V0 i, V1 i]).length = n * 2 := len_pairs _ _ _
        rw [List.range_succ, List.flatMap_append]
        rcases Nat.lt_or_ge i n with h | h
        · obtain ⟨a1, a2⟩ := ih i h
          rw [List.getElem?_append_left (by omega), List.getElem?_append_left (by omega)]
          exact ⟨a1, a2⟩
        · obtain rfl : i = n := by omega
          rw [List.getElem?_append_right (by omega), List.getElem?_append_right (by omega), hl2]
          simp
    refine ⟨(List.range len).map Q, (List.range len).flatMap fun i => [V0 i, V1 i], ?_, fun i hi => ?_⟩
    · rw [hlen]
      refine ⟨_, _, rfl, hl, hm, by rw [len_pairs], fun hp => ?_⟩
      obtain ⟨b, o, spot⟩ := x
      have h0 := (hcell 0 (by omega)).1
      have hspot : spot = none := by simpa [Addr.add] using World.cell?_spot h0
      subst hspot
      refine ⟨b, o, rfl, ?_, fun j u hu => ?_⟩
      · have := World.block_lt_of_cell? W _ h0
        simpa [Addr.add_lit] using this
      · have hj : j < len * 2 := by
          have := (List.getElem?_eq_some_iff.1 hu).1
          rwa [len_pairs] at this
        have hd : j / 2 < len := by omega
        obtain ⟨q0, q1, -, -⟩ := hcell (j / 2) (by omega)
        obtain ⟨p0, p1⟩ := hxs len (j / 2) hd
        rcases Nat.mod_two_eq_zero_or_one j with h | h
        · have e : j = j / 2 * 2 := by omega
          rw [e, p0] at hu
          rw [← Option.some.inj hu, e, show j / 2 * 2 / 2 = j / 2 by omega]
          simpa [Addr.add_lit] using q0
        · have e : j = j / 2 * 2 + 1 := by omega
          rw [e, p1] at hu
          rw [← Option.some.inj hu, e, show (j / 2 * 2 + 1) / 2 = j / 2 by omega]
          simpa [Addr.add_lit] using q1
    · have hi' : i < len := by omega
      obtain ⟨p0, p1⟩ := hxs len i hi'
      obtain ⟨h1, h2, h3⟩ := hQ i hi'
      simp only [List.getElem_map, List.getElem_range]
      exact ⟨by rw [p0, h1], h2, _, p1, h3⟩
/-- What the rows' list of three gives. -/
theorem fours_of3 {W : World} (h : laidMetH Tryd.prog [("unicode/utf8.acceptRanges", Rows.laid_unicode_utf8_acceptRanges), ("meridian/crc.fours", Rows.laid_meridian_crc_fours), ("unicode/utf8.first", Rows.laid_unicode_utf8_first)] W) : Fours W := by
  have h' := laidMetH.filter (fun x => x.1 == "meridian/crc.fours") h
  have e : ([("unicode/utf8.acceptRanges", Rows.laid_unicode_utf8_acceptRanges), ("meridian/crc.fours", Rows.laid_meridian_crc_fours), ("unicode/utf8.first", Rows.laid_unicode_utf8_first)] : List (String × DataW Unit)).filter (fun x => x.1 == "meridian/crc.fours") = [("meridian/crc.fours", Rows.laid_meridian_crc_fours)] := by
    simp
  rw [e] at h'
  exact fours_of h'
end Go.Proofs.YtmhadkdbonfmdaaDoor
