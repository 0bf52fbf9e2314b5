/-
  Layer 17: the law's 'same': a pool has just a row's things, in order.
-/
import Derived.Test.YtlkoddohplcmnaaPoolD
namespace Go.Proofs.Ytlkoddohplcmnaa
open Go Go.RowKit Go.Maps Go.WideMaps Go.Shelf
attribute [local go_sem] Oper.semAt_some

/-- A function value held against nil. -/
theorem run_equalIn_func {P : Program} (w : World) (d : Nat) (t : TypeId) {ps rs : Array TypeId} {b : Bool} (f : Fn) (ts cs : Array Value) (h : P.underlying t = some (.func ps rs b)) : (Op.equalIn (d + 1) t (.func f ts cs) .nilFunc).run P w = .ok false w := by
  simp [Op.equalIn, run_underlying h]
theorem run_eql_func_nil {P : Program} (w : World) (t : TypeId) {ps rs : Array TypeId} {b : Bool} (f : Fn) (ts cs : Array Value) (h : P.underlying t = some (.func ps rs b)) : (binOp .eql t (.func f ts cs) .nilFunc).run P w = .ok (.bool false) w := by
  simp only [binOp]
  simp [show Op.equal t (.func f ts cs) .nilFunc = Op.equalIn (9999 + 1) t (.func f ts cs) .nilFunc from rfl, run_equalIn_func w 9999 t f ts cs h]
/-- What has come is the row's beginning. -/
def Good (r : Row) (pre : List (_root_.Fin r.length)) : Prop := pre = (List.finRange r.length).take pre.length
theorem good_snoc {r : Row} {pre : List (_root_.Fin r.length)} {x : _root_.Fin r.length} (h : Good r (pre ++ [x])) : x.1 = pre.length := by
  unfold Good at h
  have hlt : pre.length < r.length := by
    have := congrArg List.length h
    simp at this
    omega
  rw [List.length_append, List.length_singleton, take_fin hlt] at h
  have := List.append_inj' h rfl
  simpa using congrArg _root_.Fin.val (List.head_eq_of_cons_eq this.2)
theorem good_prefix {r : Row} {pre : List (_root_.Fin r.length)} (h : pre <+: List.finRange r.length) : Good r pre := (List.prefix_iff_eq_take.1 h)
theorem at_ok {w : World} {T : Nat → Prop} {pb : Nat} {row : Row} (h : PoolAt w T pb row) {j : Nat} (hj : j < row.length) :
    Calls Try.prog 21 #[.pointer (some ⟨pb, 0, none⟩), .int .i64 j] w fun e w' => e = .returned (.tuple #[str row[j], .int .i64 0]) ∧ w' = w :=
  (at_any h j (by have := h.strs.choose_spec.2.2; omega)).mono fun e w' ⟨he, hw⟩ => by
    refine ⟨?_, hw⟩
    rcases he with ⟨k, hk, e1, e2⟩ | ⟨h1, -⟩
    · obtain rfl : j = k := by omega
      exact e2
    · omega
theorem at_none {w : World} {T : Nat → Prop} {pb : Nat} {row : Row} (h : PoolAt w T pb row) (i : Int) (hi : -9223372036854775808 ≤ i ∧ i ≤ 9223372036854775807) (hn : i < 0 ∨ (row.length : Int) ≤ i) :
    Calls Try.prog 21 #[.pointer (some ⟨pb, 0, none⟩), .int .i64 i] w fun e w' => e = .returned (.tuple #[str [], .int .i64 16]) ∧ w' = w :=
  (at_any h i hi).mono fun e w' ⟨he, hw⟩ => by
    refine ⟨?_, hw⟩
    rcases he with ⟨k, hk, e1, e2⟩ | ⟨-, e2⟩
    · omega
    · exact e2
theorem find_at {w : World} {T : Nat → Prop} {pb : Nat} {row : Row} (h : PoolAt w T pb row) {j : Nat} (hj : j < row.length) :
    Calls Try.prog 16 #[.pointer (some ⟨pb, 0, none⟩), str row[j]] w fun e w' => e = .returned (.tuple #[.int .i64 j, .bool true]) ∧ w' = w :=
  (find_any h row[j] (h.lens _ (List.getElem_mem hj))).mono fun e w' ⟨he, hw⟩ => by
    refine ⟨?_, hw⟩
    rw [he]
    unfold findI findB
    rw [if_pos (List.getElem_mem hj), idx_unique h.nodup hj, decide_eq_true (List.getElem_mem hj)]
theorem below_drewN {B : Nat} {w w' : World} (h : Below B w w') (m : Nat) : Below B w (w'.drewN m) := ⟨h.os, h.tape, h.output, h.size, h.block⟩
theorem cell_new1 (W : World) (v : Value) (t : TypeId) : (W.alloc (.cells #[v] t)).cell? ⟨W.heap.size, 0, none⟩ = some v ∧ (W.alloc (.cells #[v] t)).frozen? ⟨W.heap.size, 0, none⟩ = false := by
  have h : (W.alloc (.cells #[v] t)).heap[W.heap.size]? = some (.cells #[v] t) := heap_alloc_new W _
  exact ⟨by rw [cell_new]; rfl, by unfold World.frozen?; rw [h]; rfl⟩
theorem cell_alloc1 {W : World} {a : Addr} {v : Value} (o : Obj) (h : W.cell? a = some v) : (W.alloc o).cell? a = some v := cell_kept h (World.grownBy_alloc W o none) (fun r e => by cases e)
theorem frozen_alloc1 {W : World} {a : Addr} {v : Value} (o : Obj) (h : W.cell? a = some v) (hf : W.frozen? a = false) : (W.alloc o).frozen? a = false := (frozen_kept h (World.grownBy_alloc W o none) (fun r e => by cases e)).trans hf
theorem PoolAt.below {w w' : World} {T : Nat → Prop} {pb B : Nat} {row : Row} (h : PoolAt w T pb row) (hb : Below B w w') (hT : ∀ k, T k → k < B) : PoolAt w' T pb row := h.keep fun k _ ht => hb.block k (hT k ht)

set_option maxRecDepth 100000 in
set_option maxHeartbeats 2000000 in
theorem same_any {w : World} {T : Nat → Prop} {pb : Nat} {row : Row} {v : Value} (h : PoolAt w T pb row) (hv : Strs w w.heap.size v row) (hT : ∀ k, T k → k < w.heap.size) :
    Calls Try.prog 15 #[.pointer (some ⟨pb, 0, none⟩), v] w fun e w' => e = .returned (.bool true) ∧ Below w.heap.size w w' := by
  obtain ⟨A, c, rfl, hlc, hcm⟩ : ∃ A c, v = .slice A row.length c ∧ row.length ≤ c ∧ c ≤ maxLen := by
    obtain ⟨A, c, e, h1, h2, -⟩ := hv
    exact ⟨A, c, e, h1, h2⟩
  unfold maxLen at hcm
  have hrl : row.length ≤ 100000 := h.strs.choose_spec.2.2
  have HV := Lib.hid hv
  have HP := Lib.hid h
  have HLen : ∀ ww, PoolAt ww T pb row → ∀ q, Hid (Calls Try.prog 20 #[.pointer (some ⟨pb, 0, none⟩)] (ww.drewN q) fun e w' => e = .returned (.int .i64 row.length) ∧ w' = ww.drewN q) := fun ww hp q => len_any (hp.keep fun k _ _ => rfl)
  clear hv h
  refine (callsIn_wide (n := 8)).1 ?_
  refine callsIn_of_wp_marks Try.func15 rfl trivial ?_ rfl
  simp only [Try.ntmps15, List.size_toArray, List.length_cons, List.length_nil, Nat.reduceAdd, Nat.reduceSub, Array.replicate_succ, Array.replicate_zero, List.push_toArray, List.append_toArray, List.nil_append, List.cons_append]
  gi_wp2
  have q1 := cell_new1 w (.pointer (some ⟨pb, 0, none⟩)) 25
  have q2 := cell_new1 (w.alloc (.cells #[.pointer (some ⟨pb, 0, none⟩)] 25)) (.slice A row.length c) 22
  have q3 := cell_new1 ((w.alloc (.cells #[.pointer (some ⟨pb, 0, none⟩)] 25)).alloc (.cells #[.slice A row.length c] 22)) (.bool false) 4
  simp only [World.size_alloc] at q2 q3
  have p1 := cell_alloc1 (.cells #[.bool false] 4) (cell_alloc1 (.cells #[.slice A row.length c] 22) q1.1)
  have p2 := cell_alloc1 (.cells #[.bool false] 4) q2.1
  obtain ⟨W0, hW0⟩ : ∃ W0, (((w.alloc (.cells #[.pointer (some ⟨pb, 0, none⟩)] 25)).alloc (.cells #[.slice A row.length c] 22)).alloc (.cells #[.bool false] 4)) = W0 := ⟨_, rfl⟩
  rw [hW0] at p1 p2 q3 ⊢
  have hsz : W0.heap.size = w.heap.size + 3 := by rw [← hW0]; simp
  have hB0 : Below w.heap.size w W0 := by rw [← hW0]; exact (((Below.refl _ w).alloc (Nat.le_refl _) _).alloc (by simp) _).alloc (by simp; omega) _
  have HP0 := Lib.hid (HP.out.below hB0 hT)
  have HV0 := Lib.hid (HV.out.below hB0)
  obtain ⟨p3, g3⟩ := q3
  clear hW0 q1 q2
  have HL := HLen W0 HP0.out
  have heq := fun (w : World) (f : Fn) (ts cs : Array Value) => run_eql_func_nil w 46 f ts cs Try.underlying46
  refine wpIn_wide.2 ?_
  go_quiet (exact ((HL _).out).mono fun _ _ h => ⟨h.1, _, h.2⟩)
  have HPq := Lib.hid (HP0.out.keep (w' := W0.drewN nq) fun k _ _ => rfl)
  have hBq := below_drewN hB0 nq
  obtain ⟨W1, hW1⟩ : ∃ W1, W0.drewN nq = W1 := ⟨_, rfl⟩
  have p1' : W1.cell? ⟨w.heap.size, 0, none⟩ = some (.pointer (some ⟨pb, 0, none⟩)) := by rw [← hW1]; exact p1
  have p2' : W1.cell? ⟨w.heap.size + 1, 0, none⟩ = some (.slice A row.length c) := by rw [← hW1]; exact p2
  have p3' : W1.cell? ⟨w.heap.size + 1 + 1, 0, none⟩ = some (.bool false) := by rw [← hW1]; exact p3
  have g3' : W1.frozen? ⟨w.heap.size + 1 + 1, 0, none⟩ = false := by rw [← hW1]; exact g3
  have hsz1 : W1.heap.size = w.heap.size + 3 := by rw [← hW1]; exact hsz
  rw [hW1] at HPq hBq ⊢
  clear hW1 p1 p2 p3 g3 HL HLen HP0 HV0 hB0 hsz
  gi_wp2
  refine ⟨trivial, ?_⟩
  refine (callsIn_wide.2 (all_any HPq.out)).mono ?_
  rintro e W2 ⟨B, vs, rfl, hcB, ⟨hvs, hvB⟩, hB1, hB2, hb2⟩
  have hB' := hBq.trans (hb2.mono (by omega))
  have p1 := (hb2.cell (p := ⟨w.heap.size, 0, none⟩) (by rw [hsz1]; show w.heap.size < _; omega)).trans p1'
  have p2 := (hb2.cell (p := ⟨w.heap.size + 1, 0, none⟩) (by rw [hsz1]; show w.heap.size + 1 < _; omega)).trans p2'
  have p3 := (hb2.cell (p := ⟨w.heap.size + 1 + 1, 0, none⟩) (by rw [hsz1]; show w.heap.size + 1 + 1 < _; omega)).trans p3'
  have g3 := (hb2.frozen (p := ⟨w.heap.size + 1 + 1, 0, none⟩) (by rw [hsz1]; show w.heap.size + 1 + 1 < _; omega)).trans g3'
  have HP2 := Lib.hid (HP.out.below hB' hT)
  have HVS := Lib.hid hvs
  clear p1' p2' p3' g3' HPq hBq hb2 hvs
  gi_wp2
  obtain ⟨N, hN⟩ : ∃ N, W2.heap.size = N := ⟨_, rfl⟩
  obtain ⟨W3, hW3⟩ : ∃ W3, W2.alloc (.cells #[.int .i64 0] 3) = W3 := ⟨_, rfl⟩
  have qn := cell_new1 W2 (.int .i64 0) 3
  have hB3 : Below W2.heap.size W2 W3 := by rw [← hW3]; exact (Below.refl _ _).alloc (Nat.le_refl _) _
  rw [hN, hW3] at qn ⊢
  rw [hN] at hB3
  have hs3 : W3.heap.size = N + 1 := by rw [← hW3, World.size_alloc, hN]
  have hwN : w.heap.size + 3 ≤ N := by have := hB'.size; omega
  have hseq := all1_stops 7 (by omega) B (From N) vs row hrl W3 (by omega) ((hB3.cell (p := ⟨B, 0, none⟩) (by show B < N; omega)).trans hcB) (fun W' ht => stays HVS.out hvB (by omega) (fun k _ hk hN => by have hN' : N ≤ k := hN; omega) W' ((Turned.of_below (hN ▸ hB3)).trans1 ht))
  have p1' := (hB3.cell (p := ⟨w.heap.size, 0, none⟩) (by show w.heap.size < N; omega)).trans p1
  have p2' := (hB3.cell (p := ⟨w.heap.size + 1, 0, none⟩) (by show w.heap.size + 1 < N; omega)).trans p2
  have p3' := (hB3.cell (p := ⟨w.heap.size + 1 + 1, 0, none⟩) (by show w.heap.size + 1 + 1 < N; omega)).trans p3
  have g3' := (hB3.frozen (p := ⟨w.heap.size + 1 + 1, 0, none⟩) (by show w.heap.size + 1 + 1 < N; omega)).trans g3
  have HP3 := Lib.hid (HP.out.below (hB'.trans (hB3.mono (by omega))) hT)
  have hbw3 := hB'.trans (hB3.mono (show w.heap.size ≤ N by omega))
  clear p1 p2 p3 g3 hW3 hcB HP2 HVS
  refine wpIn_rangeFunc_ownF rfl (by omega) (gf := 33) (lb := #[.pointer (some ⟨B, 0, none⟩)]) rfl trivial (enters_of Try.func33 (by kernel_rfl) rfl)
    hseq Turned.trans1 (turnedK_b (fun k hk => by show N ≤ k; omega)) (Below.refl _ _) (fun _ => rfl)
    (fun pre W => (W.cell? ⟨N, 0, none⟩ = some (.int .i64 (pre.length : Int)) ∧ W.frozen? ⟨N, 0, none⟩ = false) ∧ Below N W3 W)
    (fun c pre W => ¬ Good row pre)
    ?hI ?hIx ⟨qn, Below.refl _ _⟩
    (fun x => { tmps := #[.pointer (some ⟨pb, 0, none⟩), .slice A row.length c, .pointer (some ⟨w.heap.size, 0, none⟩), .pointer (some ⟨w.heap.size + 1, 0, none⟩), .pointer (some ⟨w.heap.size + 1 + 1, 0, none⟩), .func (.func 33) #[] #[.pointer (some ⟨B, 0, none⟩)], .pointer (some ⟨N, 0, none⟩), .int .i64 (x.1 : Int), str row[x.1], undef, undef, undef, undef, undef, undef, undef, undef, .pointer (some ⟨pb, 0, none⟩), .bool false, .bool false, .pointer (some ⟨pb, 0, none⟩), .int .i64 row.length, .slice A row.length c, .int .i64 row.length, .bool false, .bool false, .pointer (some ⟨pb, 0, none⟩), .func (.func 33) #[] #[.pointer (some ⟨B, 0, none⟩)], .func (.func 33) #[] #[.pointer (some ⟨B, 0, none⟩)], .bool false, .func (.func 33) #[] #[.pointer (some ⟨B, 0, none⟩)], .int .i64 (x.1 : Int), str row[x.1], undef, undef, undef, undef, undef, undef, undef, undef, undef, undef, undef, undef, undef, undef, undef, undef, undef, undef, undef, undef, undef, undef, undef, undef, undef, undef, undef, undef, undef, undef, undef, undef, undef, undef, undef, undef, undef, undef, undef, undef, undef, undef, undef, undef, undef, undef, undef, undef, undef, undef, undef, undef, undef, undef, undef, undef, undef, undef, undef, undef, undef, undef, undef, undef, undef, undef, undef, undef, undef, undef, undef], defers := [] }) ?assign ?body ?done ?stop
  case hI =>
    exact OwnFrom.and (Own.from (fun s A B row hs hg hr => ⟨cell_kept hs.1 hg hr, (frozen_kept hs.1 hg hr).trans hs.2⟩) _) (ownFrom_below (by omega) (by omega))
  case hIx =>
    exact fun c => Own.from (fun s A B row hs hg hr => hs) _
  case assign =>
    intro lp x W K hK
    unfold encS
    gi_wp2
    exact hK
  case body =>
    rintro lp pre x W ⟨⟨hn, fn⟩, hB⟩ hlt
    obtain ⟨j, hj⟩ := x
    dsimp only
    have p1 := (hB.cell (p := ⟨w.heap.size, 0, none⟩) (by show w.heap.size < N; omega)).trans p1'
    have p2 := (hB.cell (p := ⟨w.heap.size + 1, 0, none⟩) (by show w.heap.size + 1 < N; omega)).trans p2'
    have p3 := (hB.cell (p := ⟨w.heap.size + 1 + 1, 0, none⟩) (by show w.heap.size + 1 + 1 < N; omega)).trans p3'
    have g3 := (hB.frozen (p := ⟨w.heap.size + 1 + 1, 0, none⟩) (by show w.heap.size + 1 + 1 < N; omega)).trans g3'
    have hbw := hbw3.trans (hB.mono (show w.heap.size ≤ N by omega))
    have HPW := Lib.hid (HP.out.below hbw hT)
    by_cases hjn : j = pre.length
    · subst hjn
      obtain ⟨b, o, c', e, hbB, hc⟩ := Sl.at_ HV.out (show 0 < row.length by omega)
      cases e
      have hcx := (hbw.cell (p := ⟨b, o + pre.length, none⟩) hbB).trans (hc pre.length _ (strsV_at row pre.length hj))
      have HAT := Lib.hid (at_ok HPW.out hj)
      have HF := Lib.hid (find_at HPW.out hj)
      clear hc hseq HP3 HPW
      generalize row[pre.length] = x at *
      gi_wp2
      refine ⟨trivial, ?_⟩
      refine (callsIn_wide.2 HAT.out).mono ?_
      rintro e W4 ⟨rfl, rfl⟩
      gi_wp2
      refine ⟨trivial, ?_⟩
      refine (callsIn_wide.2 HF.out).mono ?_
      rintro e W4 ⟨rfl, rfl⟩
      gi_wp2
      have hlen : (((pre ++ [(⟨pre.length, hj⟩ : _root_.Fin (List.length row))]).length : Nat) : Int) = (pre.length : Int) + 1 := by simp
      refine ⟨KeepsOthers.setCell _ _ _, Turned.setCell W4 0 _ (Nat.le_refl N), ⟨⟨?_, by rw [World.frozen?_setCell]; exact fn⟩, hB.setCell (p := ⟨N, 0, none⟩) (Nat.le_refl _) _⟩⟩
      rw [hlen]
      exact World.cell?_setCell_same' _ _ _ (by rw [hn]; rfl)
    · have hne : ((j : Int) != (pre.length : Int)) = true := by rw [bne_iff_ne]; omega
      gi_wp2
      exact ⟨KeepsOthers.setCell _ _ _, fun hg => hjn (good_snoc hg)⟩
  case done =>
    rintro D ys W hD rfl ⟨⟨hn, fn⟩, hB⟩ hK
    rw [List.length_finRange] at hn
    have p1 := (hB.cell (p := ⟨w.heap.size, 0, none⟩) (by show w.heap.size < N; omega)).trans p1'
    have p2 := (hB.cell (p := ⟨w.heap.size + 1, 0, none⟩) (by show w.heap.size + 1 < N; omega)).trans p2'
    have p3 := (hB.cell (p := ⟨w.heap.size + 1 + 1, 0, none⟩) (by show w.heap.size + 1 + 1 < N; omega)).trans p3'
    have g3 := (hB.frozen (p := ⟨w.heap.size + 1 + 1, 0, none⟩) (by show w.heap.size + 1 + 1 < N; omega)).trans g3'
    have hbw := hbw3.trans (hB.mono (show w.heap.size ≤ N by omega))
    have HPW := Lib.hid (HP.out.below hbw hT)
    have HA1 := Lib.hid (at_none HPW.out (row.length : Int) (by omega) (.inr (Int.le_refl _)))
    have HA2 := Lib.hid (at_none HPW.out (-1) (by omega) (.inl (by omega)))
    have HK := Lib.hid hK
    clear hseq hK HP3
    gi_wp2
    refine ⟨trivial, ?_⟩
    refine (callsIn_wide.2 HA1.out).mono ?_
    rintro e W4 ⟨rfl, rfl⟩
    gi_wp2
    refine ⟨trivial, ?_⟩
    refine (callsIn_wide.2 HA2.out).mono ?_
    rintro e W4 ⟨rfl, rfl⟩
    gi_wp2
    have hK' := (KeepsOthers.setCell W4 ⟨w.heap.size + 1 + 1, 0, none⟩ (.bool true)).same D _ HK.out rfl
    have hB4 := hbw.setCell (p := ⟨w.heap.size + 1 + 1, 0, none⟩) (by show w.heap.size ≤ w.heap.size + 1 + 1; omega) (.bool true)
    have pr := cell_kept (World.cell?_setCell_same' W4 ⟨w.heap.size + 1 + 1, 0, none⟩ (.bool true) (by rw [p3]; rfl)) (grownBy_putObj' _ D (.deferred none)) (fun r e => by cases e; exact ⟨_, hK', rfl⟩)
    refine ⟨by simp, .inl ⟨_, _, rfl, run_takeDeferred hK', ?_⟩⟩
    refine ⟨.bool true, ?_, rfl, hB4.trans ((belowK_b (w := w) (Nat.le_refl _) _ D _ _ (by omega) hK' rfl rfl))⟩
    simp [results, Try.f15, go_sem, pr]
  case stop =>
    rintro D c pre W hD hSp hNG hK
    exact absurd (good_prefix hSp) hNG
end Go.Proofs.Ytlkoddohplcmnaa
