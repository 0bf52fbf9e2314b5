/-
  Layer 17: New.
-/
import Derived.Test.YtlkoddohplcmnaaPoolB
namespace Go.Proofs.Ytlkoddohplcmnaa
open Go Go.RowKit Go.Maps Go.WideMaps

abbrev From (n : Nat) : Nat → Prop := fun k => n ≤ k
theorem wider_from {n : Nat} {w : World} (h : n ≤ w.heap.size) : ∀ k, Wider (From n) w k → From n k := fun _ hk => hk.elim id fun h1 => Nat.le_trans h h1
theorem Turned.below {n : Nat} {w w' : World} (h : Turned (From n) w w') (hn : n ≤ w.heap.size) : Below n w w' := ⟨h.os, h.tape, h.output, h.size, fun k hk => h.block k (Nat.lt_of_lt_of_le hk hn) (Nat.not_le_of_lt hk)⟩
theorem PoolAt.size {w : World} {T : Nat → Prop} {pb : Nat} {row : Row} (h : PoolAt w T pb row) : pb < w.heap.size := by
  obtain ⟨mb, vl, D, c0, -⟩ := h
  exact World.block_lt_of_cell? w _ c0
theorem PoolAt.nodup {w : World} {T : Nat → Prop} {pb : Nat} {row : Row} (h : PoolAt w T pb row) : row.Nodup := by
  obtain ⟨mb, vl, D, _, _, _, _, _, _, _, _, _, _, h, _⟩ := h
  exact h
theorem PoolAt.lens {w : World} {T : Nat → Prop} {pb : Nat} {row : Row} (h : PoolAt w T pb row) : ∀ x ∈ row, x.length ≤ maxLen := by
  obtain ⟨mb, vl, D, _, _, _, _, _, _, _, _, _, _, _, h, _⟩ := h
  exact h
theorem putL_len (row : Row) (x : List UInt8) : (putL row x).length ≤ row.length + 1 := by unfold putL; split <;> simp
theorem ofL_len (l : Row) : (ofL l).length ≤ l.length := by
  have key : ∀ (l acc : Row), (l.foldl putL acc).length ≤ acc.length + l.length := by
    intro l
    induction l with
    | nil => intro acc; simp
    | cons x l ih => intro acc; have := ih (putL acc x); have := putL_len acc x; simp only [List.foldl_cons, List.length_cons]; omega
  simpa [ofL] using key l []
/-- Texts in memory. -/
def Strs (w : World) (B : Nat) (v : Value) (l : Row) : Prop := Sl w B 1 v l.length (strsV l)
theorem new_empty (w : World) (t : TypeId) : PoolAt ((w.alloc (.map #[] 0)).alloc (.cells #[.slice none 0 0, .map (some w.heap.size)] t)) (From w.heap.size) (w.heap.size + 1) [] := by
  have h0 := cell_new (w.alloc (.map #[] 0)) #[.slice none 0 0, .map (some w.heap.size)] t (0, 0) 0
  have h1 := cell_new (w.alloc (.map #[] 0)) #[.slice none 0 0, .map (some w.heap.size)] t (0, 0) 1
  have hs : (w.alloc (.map #[] 0)).heap.size = w.heap.size + 1 := by simp
  rw [hs] at h0 h1
  refine ⟨w.heap.size, .slice none 0 0, .map [], h0, h1, ?_, World.ownsRow_nil _ _ _ _, (World.ownsMap_made w Try.prog 9 _).alloc _, agree_nil, by omega, fun g e => by simp [Value.ownBlock] at e, ?_, Nat.le_refl _, by simp, by simp, by simp⟩
  · have h : ((w.alloc (.map #[] 0)).alloc (.cells #[.slice none 0 0, .map (some w.heap.size)] t)).heap[w.heap.size + 1]? = some (.cells #[.slice none 0 0, .map (some w.heap.size)] t) := by
      have := heap_alloc_new (w.alloc (.map #[] 0)) (.cells #[.slice none 0 0, .map (some w.heap.size)] t)
      rwa [hs] at this
    unfold World.frozen?; rw [h]; simp
  · show w.heap.size ≤ w.heap.size + 1
    omega

set_option maxHeartbeats 1000000 in
theorem new_any {w : World} {v : Value} {l : Row} (hv : Strs w w.heap.size v l) (hx : ∀ x ∈ l, x.length ≤ maxLen) (hl : l.length ≤ 1000) :
    Calls Try.prog 11 #[v] w fun e w' => ∃ pb, e = .returned (.pointer (some ⟨pb, 0, none⟩)) ∧ PoolAt w' (From w.heap.size) pb (ofL l) ∧ Below w.heap.size w w' := by
  have hmm := @run_makeMap Try.prog
  obtain ⟨A, c, rfl, hlc, hcm, -, hA⟩ := hv
  unfold maxLen at hcm
  have HA := Lib.hid hA
  have HX := Lib.hid hx
  have HE := Lib.hid (new_empty w 54)
  have hbe : Below w.heap.size w ((w.alloc (.map #[] 0)).alloc (.cells #[.slice none 0 0, .map (some w.heap.size)] 54)) := ((Below.refl _ _).alloc (Nat.le_refl _) _).alloc (by simp) _
  have HBE := Lib.hid hbe
  clear hA hx hbe
  go_enter Try.func11, Try.ntmps11
  go_wp2_with fail
  go_loopw [11] (fun i wr => ∃ j : Nat, j ≤ l.length ∧ i = .int .i64 j ∧ PoolAt wr (From w.heap.size) (w.heap.size + 1) (ofL (l.take j)) ∧ Below w.heap.size w wr) (fun i _ => l.length - (intOf i).toNat)
  case atStart => exact ⟨0, by omega, rfl, HE.out, HBE.out⟩
  case round =>
    obtain ⟨j, hj, rfl, hp, hbel⟩ := hrel
    have HP := Lib.hid hp
    clear hp
    rcases (show j = l.length ∨ j < l.length by omega) with hje | hjl
    · subst hje
      have hP := HP.out
      rw [List.take_length] at hP
      have HP2 := Lib.hid hP
      clear hP
      go_wp2_with fail
      go_ret
      exact ⟨_, rfl, HP2.out, hbel⟩
    · obtain ⟨b, o, hAe, hbB, hc⟩ := HA.out (by omega)
      subst hAe
      have hcell := (hbel.cell (p := ⟨b, o + j, none⟩) hbB).trans (hc j _ (strsV_at l j hjl))
      clear hc
      have HS := Lib.hid (show ofL (l.take (j + 1)) = putL (ofL (l.take j)) l[j] by rw [List.take_succ_eq_append_getElem hjl, ofL_snoc])
      have hxj := HX.out _ (List.getElem_mem hjl)
      have hlen : (ofL (l.take j)).length < 100000 := by have := ofL_len (l.take j); rw [List.length_take] at this; omega
      have HPUT := Lib.hid (put_any HP.out l[j] hxj hlen)
      rw [← HS.out] at HPUT
      generalize l[j] = x at *
      go_wp2_with fail
      refine HPUT.out.mono ?_
      rintro e w2 ⟨rfl, hp2, ht2⟩
      have HP2 := Lib.hid (hp2.wider (wider_from hbel.size))
      have hbel2 := hbel.trans (ht2.below hbel.size)
      clear hp2 ht2
      go_wp2_with fail
      go_roundw
      case rel => exact ⟨j + 1, by omega, by go_num, HP2.out, hbel2⟩
      case measure => first | (simp [intOf]; done) | (simp [intOf]; omega)
end Go.Proofs.Ytlkoddohplcmnaa
