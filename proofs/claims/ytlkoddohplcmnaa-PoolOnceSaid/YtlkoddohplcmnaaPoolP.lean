/-
  Layer 17: Copy.
-/
import Derived.Deep.RegionWith
import Derived.Test.YtlkoddohplcmnaaPoolO
namespace Go.Proofs.Ytlkoddohplcmnaa
open Go Go.RowKit Go.Maps Go.WideMaps Go.Shelf

theorem own_below {W W' : World} {base : Nat} {e : TypeId} {v : Value} {n : Nat} {xs : List Value} (h : W.ownsRow base e 1 v n xs) (hb : Below W.heap.size W W') : W'.ownsRow base e 1 v n xs :=
  own_turned (T := fun _ => False) h (Turned.of_below hb) (fun _ _ h => h)
theorem map_below {W W' : World} {P : Program} {k : TypeId} {R : Value → Option (DataW Unit × List MemPlace)} {b n : Nat} {D : DataW Unit} (h : W.ownsMap P k R b n D) (hb : Below W.heap.size W W') : W'.ownsMap P k R b n D := by
  have hl := h.lt
  obtain ⟨es, cl, h1, h2⟩ := h
  exact ⟨es, cl, (hb.block b hl).trans h1, h2⟩
theorem copy_end {w W : World} {row : Row} {v : Value} {mb : Nat} {D : DataW Unit} (t : TypeId) (hb : Below w.heap.size w W) (ho : W.ownsRow w.heap.size 9 1 v row.length (strsV row)) (hm : W.ownsMap Try.prog 9 (plainElem Try.prog 3) mb row.length D) (hmb : w.heap.size ≤ mb) (hag : AgreeM D row)
    (hnd : row.Nodup) (hx : ∀ x ∈ row, x.length ≤ maxLen) (hl : row.length ≤ 100000) : PoolAt (W.alloc (.cells #[v, .map (some mb)] t)) (From w.heap.size) W.heap.size row ∧ Below w.heap.size w (W.alloc (.cells #[v, .map (some mb)] t)) := by
  have h0 := cell_new W #[v, .map (some mb)] t (0, 0) 0
  have h1 := cell_new W #[v, .map (some mb)] t (0, 0) 1
  have hlt := hm.lt
  have hb2 : Below w.heap.size w (W.alloc (.cells #[v, .map (some mb)] t)) := hb.alloc hb.size _
  refine ⟨⟨mb, v, D, h0, h1, ?_, ?_, hm.alloc _, hag, by omega, fun g e => ⟨?_, ?_, (ho.lt g e).1⟩, hb.size, hmb, hnd, hx, hl⟩, hb2⟩
  · have h : (W.alloc (.cells #[v, .map (some mb)] t)).heap[W.heap.size]? = some (.cells #[v, .map (some mb)] t) := heap_alloc_new W _
    unfold World.frozen?
    rw [h]
    simp
  · have := ho.alloc (.cells #[v, .map (some mb)] t)
    exact own_base this (Nat.zero_le _)
  · have := (ho.lt g e).2
    omega
  · rintro rfl
    obtain ⟨es, cl, h1, -⟩ := hm
    have := own_cells ho _ _ e h1
    simp [Obj.isCells] at this

set_option maxHeartbeats 2000000 in
theorem copy_any {w : World} {T : Nat → Prop} {pb : Nat} {row : Row} (h : PoolAt w T pb row) :
    Calls Try.prog 22 #[.pointer (some ⟨pb, 0, none⟩)] w fun e w' => ∃ cb, e = .returned (.pointer (some ⟨cb, 0, none⟩)) ∧ PoolAt w' (From w.heap.size) cb row ∧ Below w.heap.size w w' := by
  have hp := h.size
  obtain ⟨mb, vl, D, c0, c1, f0, hrow, hmap, hag, hne, hg, tp, tm, hnd, hx, hl⟩ := h
  have hs : Strs w w.heap.size vl row := Sl.of_own hrow
  have HC := Lib.hid (fun ww (hb : Below w.heap.size w ww) => clone_any (w := ww) ((hs.below hb).more hb.size) hl)
  have HM := Lib.hid (fun ww (hb : Below w.heap.size w ww) => AnyW.maps_Clone_owns Try.cloneM 9 (plainElem Try.prog 3) mb row.length D ww (by
    obtain ⟨es, cl, h1, h2⟩ := hmap
    exact ⟨es, cl, (hb.block mb (Array.getElem?_eq_some_iff.1 h1).1).trans h1, h2⟩))
  have HEND := Lib.hid (fun W v mb' t (hb : Below w.heap.size w W) ho hm hmb => copy_end (w := w) (W := W) (v := v) (mb := mb') t hb ho hm hmb hag hnd hx hl)
  obtain ⟨A, c, rfl, -, -⟩ := strs_len hs
  have hbd : Below w.heap.size w w.drew := ⟨rfl, rfl, rfl, Nat.le_refl _, fun _ _ => rfl⟩
  clear hs hrow hmap hag hnd hx hg tp tm f0
  go_enter Try.func22, Try.ntmps22
  go_wp2_with fail
  go_region_with (first
    | (go_at_call 27; refine (HC.out _ ?_).mono ?_; (first | exact hbM | exact hbd); rintro e wC ⟨vC, rfl, hoC, hbC0⟩; obtain ⟨vA, vc, rfl⟩ := (Sl.of_own hoC).form; (first | (have hbC := hbM.trans (hbC0.mono hbM.size)) | (have hbC := hbd.trans (hbC0.mono hbd.size))); have cC1 := (hbC.cell (p := ⟨pb, 1, none⟩) hp).trans c1; have cC0 := (hbC.cell (p := ⟨pb, 0, none⟩) hp).trans c0)
    | (go_at_call 28; refine (HM.out _ ?_).mono ?_; (first | exact hbC | exact hbd); rintro e wM ⟨rfl, hoM, -, hbM0⟩; (first | (have hbM := hbC.trans (hbM0.mono hbC.size)) | (have hbM := hbd.trans (hbM0.mono hbd.size))); have cM1 := (hbM.cell (p := ⟨pb, 1, none⟩) hp).trans c1; have cM0 := (hbM.cell (p := ⟨pb, 0, none⟩) hp).trans c0))
  all_goals go_wp2_with fail
  all_goals go_ret
  all_goals first
    | exact ⟨_, rfl, HEND.out wM _ _ _ hbM (own_below hoC hbM0) hoM hbC.size⟩
    | exact ⟨_, rfl, HEND.out wC _ _ _ hbC (own_base hoC hbM.size) (map_below hoM hbC0) (Nat.le_refl _)⟩
end Go.Proofs.Ytlkoddohplcmnaa
