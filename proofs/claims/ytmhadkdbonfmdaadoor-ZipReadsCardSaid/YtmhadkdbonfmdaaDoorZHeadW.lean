/-
  Layer 16: head and row, walked: regions whose order is drawn, operation by operation.
-/
import Derived.Test.YtmhadkdbonfmdaaDoorZConcat
import Derived.Laws.IdiomStrings
namespace Go.Proofs.YtmhadkdbonfmdaaDoor
open Go Go.RowKit Go.Shelf
set_option maxRecDepth 100000

def Fact.sl (sz n : Nat) (xs : List Value) : Fact := ⟨fun v w => Sl w w.heap.size sz v n xs, fun _ _ _ h hb => (h.below hb).more hb.size⟩
/-- A slice of rows of bytes. -/
def Parts (w : World) (v : Value) (ll : List (List UInt8)) : Prop := ∃ vs, Sl w w.heap.size 1 v ll.length vs ∧ ∀ (i : Nat) (h : i < ll.length), ∃ u, vs[i]? = some u ∧ Bytes w w.heap.size u ll[i]
theorem Parts.below {w w' : World} {v : Value} {ll : List (List UInt8)} (h : Parts w v ll) (hb : Below w.heap.size w w') : Parts w' v ll := by
  obtain ⟨vs, h1, h2⟩ := h
  exact ⟨vs, (h1.below hb).more hb.size, fun i h => by
    obtain ⟨u, hu, hy⟩ := h2 i h
    exact ⟨u, hu, (hy.below hb).more hb.size⟩⟩
def Fact.parts (ll : List (List UInt8)) : Fact := ⟨fun v w => Parts w v ll, fun _ _ _ h hb => h.below hb⟩
theorem bump (w : World) (o : Obj) : Below w.heap.size w (w.alloc o) := (Below.refl _ _).alloc (Nat.le_refl _) _
theorem bytes_below {w w' : World} {v : Value} {l : List UInt8} (h : Bytes w w.heap.size v l) (hb : Below w.heap.size w w') : Bytes w' w'.heap.size v l := (h.below hb).more hb.size
/-- A slice of rows of bytes that was just made. -/
theorem new_parts (w : World) (us : List Value) (ll : List (List UInt8)) (t : TypeId) (fr : Nat × Nat) (n : Nat) (hn : n = ll.length) (hu : us.length = ll.length) (hm : ll.length ≤ 10) (h : ∀ (i : Nat) (h1 : i < us.length) (h2 : i < ll.length), Bytes w w.heap.size us[i] ll[i]) :
    Parts (w.alloc (.cells us.toArray t fr)) (.slice (some ⟨w.heap.size, 0, none⟩) n n) ll := by
  subst hn
  have hs := Sl.new w us t fr ll.length 1 (by omega) (by unfold maxLen; omega)
  refine ⟨us, by simpa using hs, fun i hi => ⟨us[i]'(by omega), by simp [hu, hi], bytes_below (h i (by omega) hi) (bump w _)⟩⟩
theorem parts3 {w : World} {t : TypeId} {fr : Nat × Nat} {u0 u1 u2 : Value} {l0 l1 l2 : List UInt8} (h0 : Bytes w w.heap.size u0 l0) (h1 : Bytes w w.heap.size u1 l1) (h2 : Bytes w w.heap.size u2 l2) :
    Parts (w.alloc (.cells #[u0, u1, u2] t fr)) (.slice (some ⟨w.heap.size, 0, none⟩) 3 3) [l0, l1, l2] :=
  new_parts w [u0, u1, u2] [l0, l1, l2] t fr 3 rfl rfl (show 3 ≤ 10 by decide) (fun i h1' h2' => by
    rcases i with _ | _ | _ | i
    · exact h0
    · exact h1
    · exact h2
    · have h1' : i + 1 + 1 + 1 < 3 := h1'; omega)
theorem parts4 {w : World} {t : TypeId} {fr : Nat × Nat} {u0 u1 u2 u3 : Value} {l0 l1 l2 l3 : List UInt8} (h0 : Bytes w w.heap.size u0 l0) (h1 : Bytes w w.heap.size u1 l1) (h2 : Bytes w w.heap.size u2 l2) (h3 : Bytes w w.heap.size u3 l3) :
    Parts (w.alloc (.cells #[u0, u1, u2, u3] t fr)) (.slice (some ⟨w.heap.size, 0, none⟩) 4 4) [l0, l1, l2, l3] :=
  new_parts w [u0, u1, u2, u3] [l0, l1, l2, l3] t fr 4 rfl rfl (show 4 ≤ 10 by decide) (fun i h1' h2' => by
    rcases i with _ | _ | _ | _ | i
    · exact h0
    · exact h1
    · exact h2
    · exact h3
    · have h1' : i + 1 + 1 + 1 + 1 < 4 := h1'; omega)
theorem conv_bytes (w : World) (l : List UInt8) (hl : l.length ≤ 1000000) :
    ∃ v' w', (convert 9 32 (str l)).run Tryd.prog w = .ok v' w' ∧ Bytes w' w'.heap.size v' l ∧ Below w.heap.size w w' := by
  have h := run_bytes_of_string (P := Tryd.prog) w 9 32 5 ⟨l.toArray⟩ Tryd.underlying9 Tryd.underlying32 Tryd.underlying5
  rw [str_size] at h
  have hge := grownCap_ge w l.length 0 5
  have hle := grownCap_le_maxLen w l.length 0 5 (by unfold maxLen; omega)
  refine ⟨_, _, h, ?_, ((Below.refl _ _).drew).alloc (Nat.le_refl _) _⟩
  refine ⟨_, _, rfl, hge, hle, by rw [length_bytesV, Nat.mul_one], fun _ => ⟨w.heap.size, 0, rfl, by simp, fun j u hu => ?_⟩⟩
  have hj : j < l.length := by
    have := (List.getElem?_eq_some_iff.1 hu).1
    rwa [length_bytesV] at this
  rw [bytesV_at l j hj] at hu
  have hc := cell_new w.drew (bytesRow ⟨l.toArray⟩ (grownCap w l.length 0 5)) 5 ((bytesRow ⟨l.toArray⟩ (grownCap w l.length 0 5)).size, (bytesRow ⟨l.toArray⟩ (grownCap w l.length 0 5)).size + 1) j
  rw [Nat.zero_add]
  refine hc.trans ?_
  rw [← hu]
  unfold bytesRow
  rw [Array.getElem?_append_left (by simpa using hj)]
  simp [hj]
theorem concat_parts (w : World) (v : Value) (ll : List (List UInt8)) (h : Parts w v ll) (hm : ll.length ≤ 10) (hm' : ll.flatten.length ≤ 10000000) :
    Calls Tryd.prog 25 #[v] w (Rets fun v' w' => Bytes w' w'.heap.size v' ll.flatten ∧ Below w.heap.size w w') := by
  obtain ⟨vs, h1, h2⟩ := h
  exact concat_any w _ v vs ll h1 (Nat.le_refl _) h2 hm hm'

theorem box2_cells {w w1 : World} {u0 u1 : Value} {t : TypeId} (h : Below (w.alloc (.cells #[u0, u1] t)).heap.size (w.alloc (.cells #[u0, u1] t)) w1) : w1.cell? ⟨w.heap.size, 0, none⟩ = some u0 ∧ w1.cell? ⟨w.heap.size, 1, none⟩ = some u1 ∧ Below w.heap.size w w1 := by
  have hs : w.heap.size < (w.alloc (.cells #[u0, u1] t)).heap.size := by simp
  refine ⟨(h.cell (p := ⟨w.heap.size, 0, none⟩) hs).trans ?_, (h.cell (p := ⟨w.heap.size, 1, none⟩) hs).trans ?_, (bump w _).trans (h.mono (by simp))⟩
  · rw [cell_new]; rfl
  · rw [cell_new]; rfl
theorem hd_flat (name data : List UInt8) (s : Nat) : [fld [(67324752, 4)], fld (comF s data.length name.length), name].flatten = hdL (name, data, s) := by
  simp [hdL, hdF, fld_cons, fld_nil]
theorem row_flat (name data : List UInt8) (s a : Nat) : [fld [(33639248, 4), (20, 2)], fld (comF s data.length name.length), fld [(0, 2), (0, 2), (0, 2), (0, 4), (a, 4)], name].flatten = rowL (name, data, s) a := by
  simp [rowL, rowF, fld_cons, fld_nil, fld_append]

set_option maxHeartbeats 1000000 in
theorem head_any (w : World) (name data : List UInt8) (dv : Value) (s : Nat) (hd : Bytes w w.heap.size dv data) (h1 : s < 4294967296) (h2 : data.length ≤ 4194304) (h3 : name.length < 65536) :
    Calls Tryd.prog 24 #[.agg #[str name, dv], .int .i64 s] w (Rets fun v' w' => Bytes w' w'.heap.size v' (hdL (name, data, s)) ∧ Below w.heap.size w w') := by
  have HD := Lib.hid hd
  obtain ⟨A, c, rfl, hlc, hcm⟩ := hd.form
  unfold maxLen at hcm
  clear hd
  go_enter Tryd.func24, Tryd.ntmps24
  go_wp2_with fail
  refine wp_inv (by kernel_rfl) [5, 6, 7, 8, 9, 10, 11, 12, 13, 14, 15, 4]
    [.is (.agg #[.int .i64 67324752, .int .i64 4]), .sl 2 1 (fldV [(67324752, 4)]), .bytes (fld [(67324752, 4)]), .is (.agg #[str name, .slice A data.length c]), .is (.int .i64 s), .bytes (fld (comF s data.length name.length)),
     .is (.pointer (some ⟨w.heap.size, 0, none⟩)), .is (str name), .bytes name, .parts [fld [(67324752, 4)], fld (comF s data.length name.length), name], .bytes (hdL (name, data, s)), .bytes (hdL (name, data, s))] (by kernel_rfl) ⟨?_, ?_, ?_, ?_, ?_, ?_, ?_, ?_, ?_, ?_, ?_, ?_, trivial⟩ ?_
  · intro x w1 R hB hf hR
    simp only [frameOf, upd, List.foldl_cons, List.foldl_nil, Act.put, List.setIfInBounds_toArray, List.set_cons_succ, List.set_cons_zero] at hR ⊢
    go_wp2_with fail
    exact hR _ _ rfl (Below.refl _ _)
  · intro x w1 R hB hf hR
    have h0 : x 5 = .agg #[.int .i64 67324752, .int .i64 4] := hf 0 (by kernel_rfl)
    simp only [frameOf, upd, List.foldl_cons, List.foldl_nil, Act.put, List.setIfInBounds_toArray, List.set_cons_succ, List.set_cons_zero] at hR ⊢
    simp only [h0] at hR ⊢; go_wp2_with fail; exact hR _ _ (new_fld _ _ _ _ [(67324752, 4)] 1 _ rfl rfl rfl (by decide)) (bump _ _)
  · intro x w1 R hB hf hR
    have h0 : Sl w1 w1.heap.size 2 (x 6) 1 (fldV [(67324752, 4)]) := hf 1 (by kernel_rfl)
    simp only [frameOf, upd, List.foldl_cons, List.foldl_nil, Act.put, List.setIfInBounds_toArray, List.set_cons_succ, List.set_cons_zero] at hR ⊢
    go_wp2_with fail; refine (fields_any w1 (x 6) [(67324752, 4)] h0 (by decide) (fldOk_cons (fld4 (by decide)) fldOk_nil)).mono ?_; rintro e w2 ⟨v2, rfl, hv2, hb2⟩; go_wp2_with fail; exact hR _ _ hv2 hb2
  · intro x w1 R hB hf hR
    obtain ⟨hc0, hc1, -⟩ := box2_cells hB
    simp only [frameOf, upd, List.foldl_cons, List.foldl_nil, Act.put, List.setIfInBounds_toArray, List.set_cons_succ, List.set_cons_zero] at hR ⊢
    go_wp2_with fail; exact hR _ _ rfl (Below.refl _ _)
  · intro x w1 R hB hf hR
    simp only [frameOf, upd, List.foldl_cons, List.foldl_nil, Act.put, List.setIfInBounds_toArray, List.set_cons_succ, List.set_cons_zero] at hR ⊢
    go_wp2_with fail
    exact hR _ _ rfl (Below.refl _ _)
  · intro x w1 R hB hf hR
    have h0 : x 8 = .agg #[str name, .slice A data.length c] := hf 3 (by kernel_rfl); have h4 : x 9 = .int .i64 s := hf 4 (by kernel_rfl); obtain ⟨-, -, hB2⟩ := box2_cells hB
    simp only [frameOf, upd, List.foldl_cons, List.foldl_nil, Act.put, List.setIfInBounds_toArray, List.set_cons_succ, List.set_cons_zero] at hR ⊢
    simp only [h0, h4] at hR ⊢; go_wp2_with fail; refine (common_any w1 name data _ s (bytes_below HD.out hB2) h1 (by omega) h3).mono ?_; rintro e w2 ⟨v2, rfl, hv2, hb2⟩; go_wp2_with fail; exact hR _ _ hv2 hb2
  · intro x w1 R hB hf hR
    simp only [frameOf, upd, List.foldl_cons, List.foldl_nil, Act.put, List.setIfInBounds_toArray, List.set_cons_succ, List.set_cons_zero] at hR ⊢
    go_wp2_with fail
    exact hR _ _ rfl (Below.refl _ _)
  · intro x w1 R hB hf hR
    have h0 : x 11 = .pointer (some ⟨w.heap.size, 0, none⟩) := hf 6 (by kernel_rfl); obtain ⟨hc0, hc1, -⟩ := box2_cells hB
    simp only [frameOf, upd, List.foldl_cons, List.foldl_nil, Act.put, List.setIfInBounds_toArray, List.set_cons_succ, List.set_cons_zero] at hR ⊢
    simp only [h0] at hR ⊢; go_wp2_with fail; exact hR _ _ rfl (Below.refl _ _)
  · intro x w1 R hB hf hR
    have h0 : x 12 = str name := hf 7 (by kernel_rfl)
    simp only [frameOf, upd, List.foldl_cons, List.foldl_nil, Act.put, List.setIfInBounds_toArray, List.set_cons_succ, List.set_cons_zero] at hR ⊢
    simp only [h0] at hR ⊢; obtain ⟨v2, w2, hrun, hv2, hb2⟩ := conv_bytes w1 name (by omega); go_wp2_with fail; exact hR _ _ hv2 hb2
  · intro x w1 R hB hf hR
    have h0 : Bytes w1 w1.heap.size (x 7) (fld [(67324752, 4)]) := hf 2 (by kernel_rfl); have h4 : Bytes w1 w1.heap.size (x 10) (fld (comF s data.length name.length)) := hf 5 (by kernel_rfl); have h5 : Bytes w1 w1.heap.size (x 13) name := hf 8 (by kernel_rfl); obtain ⟨A7, c7, e7, -, -⟩ := h0.form; obtain ⟨A8, c8, e8, -, -⟩ := h4.form; obtain ⟨A9, c9, e9, -, -⟩ := h5.form; rw [e7] at h0; rw [e8] at h4; rw [e9] at h5
    simp only [frameOf, upd, List.foldl_cons, List.foldl_nil, Act.put, List.setIfInBounds_toArray, List.set_cons_succ, List.set_cons_zero] at hR ⊢
    simp only [e7, e8, e9] at hR ⊢; go_wp2_with fail; exact hR _ _ (parts3 h0 h4 h5) (bump _ _)
  · intro x w1 R hB hf hR
    have h0 : Parts w1 (x 14) [fld [(67324752, 4)], fld (comF s data.length name.length), name] := hf 9 (by kernel_rfl)
    simp only [frameOf, upd, List.foldl_cons, List.foldl_nil, Act.put, List.setIfInBounds_toArray, List.set_cons_succ, List.set_cons_zero] at hR ⊢
    go_wp2_with fail; refine (concat_parts w1 (x 14) _ h0 (by simp) (by rw [hd_flat, length_hdL]; dsimp only; omega)).mono ?_; rintro e w2 ⟨v2, rfl, hv2, hb2⟩; rw [hd_flat] at hv2; go_wp2_with fail; exact hR _ _ hv2 hb2
  · intro x w1 R hB hf hR
    have h0 : Bytes w1 w1.heap.size (x 15) (hdL (name, data, s)) := hf 10 (by kernel_rfl)
    simp only [frameOf, upd, List.foldl_cons, List.foldl_nil, Act.put, List.setIfInBounds_toArray, List.set_cons_succ, List.set_cons_zero] at hR ⊢
    go_wp2_with fail; exact hR _ _ h0 (Below.refl _ _)
  intro x w2 hB hf
  have h0 : Bytes w2 w2.heap.size (x 4) (hdL (name, data, s)) := hf 11 (by decide)
  simp only [frameOf, upd, List.foldl_cons, List.foldl_nil, Act.put, List.setIfInBounds_toArray, List.set_cons_succ, List.set_cons_zero]
  obtain ⟨-, -, hB2⟩ := box2_cells hB
  go_wp2_with fail
  go_ret
  exact ⟨_, rfl, h0, hB2⟩

theorem tail_ok {a : Nat} (h : a < 4294967296) : FldOk [(0, 2), (0, 2), (0, 2), (0, 4), (a, 4)] :=
  fldOk_cons (fld2 (by decide)) (fldOk_cons (fld2 (by decide)) (fldOk_cons (fld2 (by decide)) (fldOk_cons (fld4 (by decide)) (fldOk_cons (fld4 h) fldOk_nil))))
set_option maxHeartbeats 1000000 in
theorem row_any (w : World) (name data : List UInt8) (dv : Value) (s a : Nat) (hd : Bytes w w.heap.size dv data) (h1 : s < 4294967296) (h2 : data.length ≤ 4194304) (h3 : name.length < 65536) (h4 : a < 4294967296) :
    Calls Tryd.prog 23 #[.agg #[str name, dv], .int .i64 s, .int .i64 a] w (Rets fun v' w' => Bytes w' w'.heap.size v' (rowL (name, data, s) a) ∧ Below w.heap.size w w') := by
  have HD := Lib.hid hd
  obtain ⟨A, c, rfl, hlc, hcm⟩ := hd.form
  unfold maxLen at hcm
  clear hd
  go_enter Tryd.func23, Tryd.ntmps23
  go_wp2_with fail
  refine wp_inv (by kernel_rfl) [7, 8, 9, 10, 11, 12, 13, 14, 15, 16, 17, 18, 19, 20, 21, 22, 23, 24, 25, 26, 6]
    [.is (.agg #[.int .i64 33639248, .int .i64 4]), .is (.agg #[.int .i64 20, .int .i64 2]), .sl 2 2 (fldV [(33639248, 4), (20, 2)]), .bytes (fld [(33639248, 4), (20, 2)]), .is (.agg #[str name, .slice A data.length c]), .is (.int .i64 s), .bytes (fld (comF s data.length name.length)),
     .is (.agg #[.int .i64 0, .int .i64 2]), .is (.agg #[.int .i64 0, .int .i64 2]), .is (.agg #[.int .i64 0, .int .i64 2]), .is (.agg #[.int .i64 0, .int .i64 4]), .is (.int .i64 a), .is (.agg #[.int .i64 a, .int .i64 4]), .sl 2 5 (fldV [(0, 2), (0, 2), (0, 2), (0, 4), (a, 4)]), .bytes (fld [(0, 2), (0, 2), (0, 2), (0, 4), (a, 4)]),
     .is (.pointer (some ⟨w.heap.size, 0, none⟩)), .is (str name), .bytes name, .parts [fld [(33639248, 4), (20, 2)], fld (comF s data.length name.length), fld [(0, 2), (0, 2), (0, 2), (0, 4), (a, 4)], name], .bytes (rowL (name, data, s) a), .bytes (rowL (name, data, s) a)] (by kernel_rfl)
    ⟨?_, ?_, ?_, ?_, ?_, ?_, ?_, ?_, ?_, ?_, ?_, ?_, ?_, ?_, ?_, ?_, ?_, ?_, ?_, ?_, ?_, trivial⟩ ?_
  · intro x w1 R hB hf hR
    simp only [frameOf, upd, List.foldl_cons, List.foldl_nil, Act.put, List.setIfInBounds_toArray, List.set_cons_succ, List.set_cons_zero] at hR ⊢
    go_wp2_with fail
    exact hR _ _ rfl (Below.refl _ _)
  · intro x w1 R hB hf hR
    simp only [frameOf, upd, List.foldl_cons, List.foldl_nil, Act.put, List.setIfInBounds_toArray, List.set_cons_succ, List.set_cons_zero] at hR ⊢
    go_wp2_with fail
    exact hR _ _ rfl (Below.refl _ _)
  · intro x w1 R hB hf hR
    have h0 : x 7 = .agg #[.int .i64 33639248, .int .i64 4] := hf 0 (by kernel_rfl); have h4 : x 8 = .agg #[.int .i64 20, .int .i64 2] := hf 1 (by kernel_rfl)
    simp only [frameOf, upd, List.foldl_cons, List.foldl_nil, Act.put, List.setIfInBounds_toArray, List.set_cons_succ, List.set_cons_zero] at hR ⊢
    simp only [h0, h4] at hR ⊢; go_wp2_with fail; exact hR _ _ (new_fld _ _ _ _ [(33639248, 4), (20, 2)] 2 _ rfl rfl rfl (by decide)) (bump _ _)
  · intro x w1 R hB hf hR
    have h0 : Sl w1 w1.heap.size 2 (x 9) 2 (fldV [(33639248, 4), (20, 2)]) := hf 2 (by kernel_rfl)
    simp only [frameOf, upd, List.foldl_cons, List.foldl_nil, Act.put, List.setIfInBounds_toArray, List.set_cons_succ, List.set_cons_zero] at hR ⊢
    go_wp2_with fail; refine (fields_any w1 (x 9) [(33639248, 4), (20, 2)] h0 (by decide) (fldOk_cons (fld4 (by decide)) (fldOk_cons (fld2 (by decide)) fldOk_nil))).mono ?_; rintro e w2 ⟨v2, rfl, hv2, hb2⟩; go_wp2_with fail; exact hR _ _ hv2 hb2
  · intro x w1 R hB hf hR
    obtain ⟨hc0, hc1, -⟩ := box2_cells hB
    simp only [frameOf, upd, List.foldl_cons, List.foldl_nil, Act.put, List.setIfInBounds_toArray, List.set_cons_succ, List.set_cons_zero] at hR ⊢
    go_wp2_with fail; exact hR _ _ rfl (Below.refl _ _)
  · intro x w1 R hB hf hR
    simp only [frameOf, upd, List.foldl_cons, List.foldl_nil, Act.put, List.setIfInBounds_toArray, List.set_cons_succ, List.set_cons_zero] at hR ⊢
    go_wp2_with fail
    exact hR _ _ rfl (Below.refl _ _)
  · intro x w1 R hB hf hR
    have h0 : x 11 = .agg #[str name, .slice A data.length c] := hf 4 (by kernel_rfl); have h4 : x 12 = .int .i64 s := hf 5 (by kernel_rfl); obtain ⟨-, -, hB2⟩ := box2_cells hB
    simp only [frameOf, upd, List.foldl_cons, List.foldl_nil, Act.put, List.setIfInBounds_toArray, List.set_cons_succ, List.set_cons_zero] at hR ⊢
    simp only [h0, h4] at hR ⊢; go_wp2_with fail; refine (common_any w1 name data _ s (bytes_below HD.out hB2) h1 (by omega) h3).mono ?_; rintro e w2 ⟨v2, rfl, hv2, hb2⟩; go_wp2_with fail; exact hR _ _ hv2 hb2
  · intro x w1 R hB hf hR
    simp only [frameOf, upd, List.foldl_cons, List.foldl_nil, Act.put, List.setIfInBounds_toArray, List.set_cons_succ, List.set_cons_zero] at hR ⊢
    go_wp2_with fail
    exact hR _ _ rfl (Below.refl _ _)
  · intro x w1 R hB hf hR
    simp only [frameOf, upd, List.foldl_cons, List.foldl_nil, Act.put, List.setIfInBounds_toArray, List.set_cons_succ, List.set_cons_zero] at hR ⊢
    go_wp2_with fail
    exact hR _ _ rfl (Below.refl _ _)
  · intro x w1 R hB hf hR
    simp only [frameOf, upd, List.foldl_cons, List.foldl_nil, Act.put, List.setIfInBounds_toArray, List.set_cons_succ, List.set_cons_zero] at hR ⊢
    go_wp2_with fail
    exact hR _ _ rfl (Below.refl _ _)
  · intro x w1 R hB hf hR
    simp only [frameOf, upd, List.foldl_cons, List.foldl_nil, Act.put, List.setIfInBounds_toArray, List.set_cons_succ, List.set_cons_zero] at hR ⊢
    go_wp2_with fail
    exact hR _ _ rfl (Below.refl _ _)
  · intro x w1 R hB hf hR
    simp only [frameOf, upd, List.foldl_cons, List.foldl_nil, Act.put, List.setIfInBounds_toArray, List.set_cons_succ, List.set_cons_zero] at hR ⊢
    go_wp2_with fail
    exact hR _ _ rfl (Below.refl _ _)
  · intro x w1 R hB hf hR
    have h0 : x 18 = .int .i64 a := hf 11 (by kernel_rfl)
    simp only [frameOf, upd, List.foldl_cons, List.foldl_nil, Act.put, List.setIfInBounds_toArray, List.set_cons_succ, List.set_cons_zero] at hR ⊢
    simp only [h0] at hR ⊢; go_wp2_with fail; exact hR _ _ rfl (Below.refl _ _)
  · intro x w1 R hB hf hR
    have g0 : x 14 = .agg #[.int .i64 0, .int .i64 2] := hf 7 (by kernel_rfl); have g1 : x 15 = .agg #[.int .i64 0, .int .i64 2] := hf 8 (by kernel_rfl); have g2 : x 16 = .agg #[.int .i64 0, .int .i64 2] := hf 9 (by kernel_rfl); have g3 : x 17 = .agg #[.int .i64 0, .int .i64 4] := hf 10 (by kernel_rfl); have g4 : x 19 = .agg #[.int .i64 a, .int .i64 4] := hf 12 (by kernel_rfl)
    simp only [frameOf, upd, List.foldl_cons, List.foldl_nil, Act.put, List.setIfInBounds_toArray, List.set_cons_succ, List.set_cons_zero] at hR ⊢
    simp only [g0, g1, g2, g3, g4] at hR ⊢; go_wp2_with fail; exact hR _ _ (new_fld _ _ _ _ [(0, 2), (0, 2), (0, 2), (0, 4), (a, 4)] 5 _ rfl rfl rfl (by decide)) (bump _ _)
  · intro x w1 R hB hf hR
    have h0 : Sl w1 w1.heap.size 2 (x 20) 5 (fldV [(0, 2), (0, 2), (0, 2), (0, 4), (a, 4)]) := hf 13 (by kernel_rfl)
    simp only [frameOf, upd, List.foldl_cons, List.foldl_nil, Act.put, List.setIfInBounds_toArray, List.set_cons_succ, List.set_cons_zero] at hR ⊢
    go_wp2_with fail; refine (fields_any w1 (x 20) [(0, 2), (0, 2), (0, 2), (0, 4), (a, 4)] h0 (show 5 ≤ 100 by decide) (tail_ok h4)).mono ?_; rintro e w2 ⟨v2, rfl, hv2, hb2⟩; go_wp2_with fail; exact hR _ _ hv2 hb2
  · intro x w1 R hB hf hR
    simp only [frameOf, upd, List.foldl_cons, List.foldl_nil, Act.put, List.setIfInBounds_toArray, List.set_cons_succ, List.set_cons_zero] at hR ⊢
    go_wp2_with fail
    exact hR _ _ rfl (Below.refl _ _)
  · intro x w1 R hB hf hR
    have h0 : x 22 = .pointer (some ⟨w.heap.size, 0, none⟩) := hf 15 (by kernel_rfl); obtain ⟨hc0, hc1, -⟩ := box2_cells hB
    simp only [frameOf, upd, List.foldl_cons, List.foldl_nil, Act.put, List.setIfInBounds_toArray, List.set_cons_succ, List.set_cons_zero] at hR ⊢
    simp only [h0] at hR ⊢; go_wp2_with fail; exact hR _ _ rfl (Below.refl _ _)
  · intro x w1 R hB hf hR
    have h0 : x 23 = str name := hf 16 (by kernel_rfl)
    simp only [frameOf, upd, List.foldl_cons, List.foldl_nil, Act.put, List.setIfInBounds_toArray, List.set_cons_succ, List.set_cons_zero] at hR ⊢
    simp only [h0] at hR ⊢; obtain ⟨v2, w2, hrun, hv2, hb2⟩ := conv_bytes w1 name (by omega); go_wp2_with fail; exact hR _ _ hv2 hb2
  · intro x w1 R hB hf hR
    have g0 : Bytes w1 w1.heap.size (x 10) (fld [(33639248, 4), (20, 2)]) := hf 3 (by kernel_rfl); have g1 : Bytes w1 w1.heap.size (x 13) (fld (comF s data.length name.length)) := hf 6 (by kernel_rfl); have g2 : Bytes w1 w1.heap.size (x 21) (fld [(0, 2), (0, 2), (0, 2), (0, 4), (a, 4)]) := hf 14 (by kernel_rfl); have g3 : Bytes w1 w1.heap.size (x 24) name := hf 17 (by kernel_rfl); obtain ⟨A6, c6, e6, -, -⟩ := g0.form; obtain ⟨A7, c7, e7, -, -⟩ := g1.form; obtain ⟨A8, c8, e8, -, -⟩ := g2.form; obtain ⟨A9, c9, e9, -, -⟩ := g3.form; rw [e6] at g0; rw [e7] at g1; rw [e8] at g2; rw [e9] at g3
    simp only [frameOf, upd, List.foldl_cons, List.foldl_nil, Act.put, List.setIfInBounds_toArray, List.set_cons_succ, List.set_cons_zero] at hR ⊢
    simp only [e6, e7, e8, e9] at hR ⊢; go_wp2_with fail; exact hR _ _ (parts4 g0 g1 g2 g3) (bump _ _)
  · intro x w1 R hB hf hR
    have h0 : Parts w1 (x 25) [fld [(33639248, 4), (20, 2)], fld (comF s data.length name.length), fld [(0, 2), (0, 2), (0, 2), (0, 4), (a, 4)], name] := hf 18 (by kernel_rfl)
    simp only [frameOf, upd, List.foldl_cons, List.foldl_nil, Act.put, List.setIfInBounds_toArray, List.set_cons_succ, List.set_cons_zero] at hR ⊢
    go_wp2_with fail; refine (concat_parts w1 (x 25) _ h0 (by simp) (by rw [row_flat, length_rowL]; dsimp only; omega)).mono ?_; rintro e w2 ⟨v2, rfl, hv2, hb2⟩; rw [row_flat] at hv2; go_wp2_with fail; exact hR _ _ hv2 hb2
  · intro x w1 R hB hf hR
    have h0 : Bytes w1 w1.heap.size (x 26) (rowL (name, data, s) a) := hf 19 (by kernel_rfl)
    simp only [frameOf, upd, List.foldl_cons, List.foldl_nil, Act.put, List.setIfInBounds_toArray, List.set_cons_succ, List.set_cons_zero] at hR ⊢
    go_wp2_with fail; exact hR _ _ h0 (Below.refl _ _)
  intro x w2 hB hf
  have h0 : Bytes w2 w2.heap.size (x 6) (rowL (name, data, s) a) := hf 20 (by decide)
  simp only [frameOf, upd, List.foldl_cons, List.foldl_nil, Act.put, List.setIfInBounds_toArray, List.set_cons_succ, List.set_cons_zero]
  obtain ⟨-, -, hB2⟩ := box2_cells hB
  go_wp2_with fail
  go_ret
  exact ⟨_, rfl, h0, hB2⟩
end Go.Proofs.YtmhadkdbonfmdaaDoor
