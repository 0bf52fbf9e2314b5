/-
  Layer 17: from the rows' readings of texts to the words of the walks.
-/
import Derived.ChangeMaps5
import Derived.SliceStrings
import Derived.Test.YtlkoddohplcmnaaOpen
import Derived.Test.YtlkoddohplcmnaaPoolC
namespace Go.Proofs.Ytlkoddohplcmnaa
open Go Go.ChangeShapes Go.WideShapes Go.ChangeAt Go.RowKit

/-- A text that came in. -/
theorem open_text {H : Type} {enc : TypeId × Value → H} {P : Program} {W : World} {T : TypeId} {r : Reach} {base : Nat} {v : Value} {d : DataW H} {p : List MemPlace} (hT : P.underlying T = some .string)
    (hok : Value.okWide P W r base T v) (h : DataW.Trod enc P W 0 (fun _ => true) true T v d p) : ∃ x : List UInt8, v = str x ∧ d = .lit (.string x) ∧ p = [] ∧ x.length ≤ maxLen := by
  obtain ⟨s, rfl, rfl, rfl, hs⟩ := Go.ChangeMaps.open_string hT hok h
  exact ⟨s.data.toList, by cases s; simp [str], rfl, rfl, by simpa using hs⟩
theorem shut_text {H : Type} {enc : TypeId × Value → H} {P : Program} {w : World} {base : Nat} {sp : Nat → Bool} {held : Bool} {t : TypeId} {x : List UInt8} (ht : P.underlying t = some .string) (hs : x.length ≤ maxLen) : DataW.Trod enc P w base sp held t (str x) (.lit (.string x)) [] := by
  have := Go.ChangeMaps.shut_string (enc := enc) (w := w) (base := base) (sp := sp) (held := held) (s := ⟨x.toArray⟩) ht (by show x.toArray.size ≤ maxLen; rwa [List.size_toArray])
  simpa using this
/-- A row of texts that came in. -/
theorem open_texts {H : Type} {enc : TypeId × Value → H} {P : Program} {W : World} {T E : TypeId} {r : Reach} {base : Nat} {v : Value} {d : DataW H} {p : List MemPlace} (hT : P.underlying T = some (.slice E)) (hE : P.underlying E = some .string) (hC : P.cellsOf E = 1)
    (hok : Value.okWide P W r base T v) (h : DataW.Trod enc P W 0 (fun _ => true) true T v d p) : ∃ l : Row, Strs W W.heap.size v l ∧ ∀ x ∈ l, x.length ≤ maxLen := by
  obtain ⟨a, len, cap, rfl⟩ := okWide_slice hT hok
  obtain ⟨fuel, hf⟩ := h
  rcases open_strings hT hE hC hf with ⟨hcs, _⟩ | ⟨x, l, c, ss, hcs, _, hl, hm, hz, _, hcell, hsz⟩
  · simp [Value.cells] at hcs
    obtain ⟨rfl, rfl, rfl⟩ := hcs
    exact ⟨[], Sl.nil _ _ _, fun q hq => absurd hq (by simp)⟩
  · simp [Value.cells] at hcs
    obtain ⟨rfl, rfl, rfl⟩ := hcs
    have hz' : ss.length = cap := by simpa using hz
    have hlen : ((ss.take len).map fun s => s.data.toList).length = len := by simp; omega
    refine ⟨(ss.take len).map fun s => s.data.toList, ?_, fun q hq => ?_⟩
    · unfold Strs
      rw [hlen]
      refine ⟨_, _, rfl, hl, hm, by rw [length_strsV, hlen]; omega, fun hp => ?_⟩
      obtain ⟨b, o, spot⟩ := x
      have h0 := hcell 0 (by omega)
      have hspot : spot = none := by simpa [Addr.add] using World.cell?_spot h0
      subst hspot
      refine ⟨b, o, rfl, ?_, fun j u hu => ?_⟩
      · have := World.block_lt_of_cell? W _ h0
        simpa [Addr.add_lit] using this
      · have hj : j < len := by
          have := (List.getElem?_eq_some_iff.1 hu).1
          rw [length_strsV, hlen] at this
          exact this
        have hc := hcell j (by omega)
        rw [Addr.add_lit] at hc
        rw [hc]
        have hjz : j < ss.length := by omega
        rw [strsV_at _ _ (by rw [hlen]; exact hj)] at hu
        rw [← Option.some.inj hu, List.getD_eq_getElem?_getD, List.getElem?_eq_getElem hjz, Option.getD_some]
        simp [str]
    · simp only [List.mem_map] at hq
      obtain ⟨s, hs, rfl⟩ := hq
      have := hsz s (List.mem_of_mem_take hs)
      simpa using this
end Go.Proofs.Ytlkoddohplcmnaa
