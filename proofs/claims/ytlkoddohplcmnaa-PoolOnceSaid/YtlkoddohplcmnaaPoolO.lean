/-
  Layer 17: the law PoolNil, walked.
-/
import Derived.Test.YtlkoddohplcmnaaPoolN
namespace Go.Proofs.Ytlkoddohplcmnaa
open Go Go.RowKit Go.Maps Go.WideMaps Go.Shelf
attribute [local go_sem] Oper.semAt_some

theorem put_nil (w : World) (x : List UInt8) : Calls Try.prog 13 #[.pointer none, str x] w fun e w' => e = .returned (.tuple #[.int .i64 0, .int .i64 2]) ∧ w' = w := by
  go_enter Try.func13, Try.ntmps13
  go_wp2_with fail
  go_ret2
  exact ⟨rfl, rfl⟩
theorem find_nil (w : World) (x : List UInt8) : Calls Try.prog 16 #[.pointer none, str x] w fun e w' => e = .returned (.tuple #[.int .i64 0, .bool false]) ∧ w' = w := by
  go_enter Try.func16, Try.ntmps16
  go_wp2_with fail
  go_ret2
  exact ⟨rfl, rfl⟩
theorem at_nil (w : World) (i : Int) : Calls Try.prog 21 #[.pointer none, .int .i64 i] w fun e w' => e = .returned (.tuple #[str [], .int .i64 2]) ∧ w' = w := by
  go_enter Try.func21, Try.ntmps21
  go_wp2_with fail
  go_ret2
  exact ⟨rfl, rfl⟩
theorem len_nil (w : World) : Calls Try.prog 20 #[.pointer none] w fun e w' => e = .returned (.int .i64 0) ∧ w' = w := by
  go_enter Try.func20, Try.ntmps20
  go_wp2_with fail
  go_ret
  exact ⟨rfl, rfl⟩
theorem copy_nil (w : World) : Calls Try.prog 22 #[.pointer none] w fun e w' => e = .returned (.pointer none) ∧ w' = w := by
  go_enter Try.func22, Try.ntmps22
  go_wp2_with fail
  go_ret
  exact ⟨rfl, rfl⟩
theorem sorted_nil (w : World) : Calls Try.prog 17 #[.pointer none] w fun e w' => (∃ sb pv, e = .returned (.tuple #[.pointer (some ⟨sb, 0, none⟩), pv]) ∧ PoolAt w' (From w.heap.size) sb [] ∧ Sl w' w'.heap.size 1 pv 0 []) ∧ Below w.heap.size w w' := by
  have := sorted_of (w := w) none [] List.nodup_nil (by simp) (by simp) (fun w' _ => all_nil w')
  simpa [sortL] using this
theorem each_nil (w : World) : Calls Try.prog 24 #[.pointer none, .func (.func 25) #[] #[]] w fun e w' => (∃ sb pv, e = .returned (.tuple #[.pointer (some ⟨sb, 0, none⟩), pv, .int .i64 0]) ∧ PoolAt w' (From w.heap.size) sb [] ∧ Sl w' w'.heap.size 1 pv 0 []) ∧ Below w.heap.size w w' := by
  refine (each_of (w := w) none [] (by simp) (by simp) (fun w' _ => all_nil w')).mono ?_
  rintro e w' ⟨⟨h, -⟩ | ⟨-, sb, pv, h1, h2, h3⟩, hb⟩
  · simp at h
  · exact ⟨⟨sb, pv, h1, h2, h3⟩, hb⟩

set_option maxRecDepth 100000 in
set_option maxHeartbeats 2000000 in
theorem nil_walk (w : World) (x : List UInt8) (i : Int) (_ : x.length ≤ maxLen) (_ : -9223372036854775808 ≤ i ∧ i ≤ 9223372036854775807) :
    Calls Try.prog 8 #[str x, .int .i64 i] w fun e w' => e = .returned (.bool true) ∧ Below w.heap.size w w' := by
  refine (callsIn_wide (n := 8)).1 ?_
  refine callsIn_of_wp_marks Try.func8 rfl trivial ?_ rfl
  simp only [Try.ntmps8, List.size_toArray, List.length_cons, List.length_nil, Nat.reduceAdd, Nat.reduceSub, Array.replicate_succ, Array.replicate_zero, List.push_toArray, List.append_toArray, List.nil_append, List.cons_append]
  gi_wp2
  have q0 := cell_new1 w (.bool false) 4
  obtain ⟨W0, hW0⟩ : ∃ W0, w.alloc (.cells #[.bool false] 4) = W0 := ⟨_, rfl⟩
  have hB0 : Below w.heap.size w W0 := by rw [← hW0]; exact (Below.refl _ _).alloc (Nat.le_refl _) _
  have hs0 : W0.heap.size = w.heap.size + 1 := by rw [← hW0]; simp
  rw [hW0] at q0 ⊢
  clear hW0
  obtain ⟨q0c, q0f⟩ := q0
  refine ⟨trivial, ?_⟩
  refine (callsIn_wide.2 (put_nil W0 x)).mono ?_
  rintro e Wx ⟨rfl, rfl⟩
  gi_wp2
  refine ⟨trivial, ?_⟩
  refine (callsIn_wide.2 (find_nil _ x)).mono ?_
  rintro e W0 ⟨rfl, rfl⟩
  gi_wp2
  refine ⟨trivial, ?_⟩
  refine (callsIn_wide.2 (at_nil _ i)).mono ?_
  rintro e W0 ⟨rfl, rfl⟩
  gi_wp2
  refine ⟨trivial, ?_⟩
  refine (callsIn_wide.2 (all_nil _)).mono ?_
  rintro e W1 ⟨B, vs, rfl, hcB, ⟨hvs, hvB⟩, hB1, hB2, hb1⟩
  have hs1 := hb1.size
  gi_wp2
  refine ⟨trivial, ?_⟩
  refine (callsIn_wide.2 (sorted_nil W1)).mono ?_
  rintro e W2 ⟨⟨sb, pv, rfl, hp2, hpv⟩, hb2⟩
  have HP2 := Lib.hid hp2
  obtain ⟨PA, pc, rfl⟩ := hpv.form
  have hs2 := hb2.size
  clear hp2 hpv
  gi_wp2
  refine ⟨trivial, ?_⟩
  refine (callsIn_wide.2 (each_nil W2)).mono ?_
  rintro e W3 ⟨⟨qb, mv, rfl, hp3, hmv⟩, hb3⟩
  have HP3 := Lib.hid hp3
  obtain ⟨MA, mc, rfl⟩ := hmv.form
  have hs3 := hb3.size
  have HQ3 := Lib.hid (HP2.out.later hb3)
  clear hp3 hmv HP2
  have heq := fun (w : World) (f : Fn) (ts cs : Array Value) => run_eql_func_nil w 46 f ts cs Try.underlying46
  have c3 := (((hb1.trans ((hb2.mono hs1).trans (hb3.mono (Nat.le_trans hs1 hs2)))).cell (p := ⟨w.heap.size, 0, none⟩) (by show w.heap.size < _; omega))).trans q0c
  have f3 := (((hb1.trans ((hb2.mono hs1).trans (hb3.mono (Nat.le_trans hs1 hs2)))).frozen (p := ⟨w.heap.size, 0, none⟩) (by show w.heap.size < _; omega))).trans q0f
  have hbel3 := hB0.trans ((hb1.trans ((hb2.mono hs1).trans (hb3.mono (Nat.le_trans hs1 hs2)))).mono (by omega))
  have hcB3 := ((hb2.trans (hb3.mono hs2)).cell (p := ⟨B, 0, none⟩) hB2).trans hcB
  have hseq := all1_stops 7 (by omega) B (From W3.heap.size) vs [] (by simp) W3 (by omega) hcB3 (fun W' _ => by
    obtain ⟨A, c, rfl, h1, h2, h3, -⟩ := strs_of_own hvs
    exact ⟨A, c, rfl, h1, h2, h3, fun h => absurd h (by simp)⟩)
  clear hvs hcB hcB3
  gi_wp2
  refine wpIn_rangeFunc_ownF rfl (by omega) (gf := 33) (lb := #[.pointer (some ⟨B, 0, none⟩)]) rfl trivial (enters_of Try.func33 (by kernel_rfl) rfl)
    hseq Turned.trans1 (turnedK_b (fun k hk => hk)) (Below.refl _ _) (fun _ => rfl)
    (fun pre W => True ∧ Below W3.heap.size W3 W)
    (fun c pre W => False)
    ?hI ?hIx ⟨trivial, Below.refl _ _⟩
    (fun x => absurd x.2 (by simp)) ?assign ?body ?done ?stop
  case hI =>
    exact OwnFrom.and (Own.from (fun s A B row hs hg hr => trivial) _) (ownFrom_below (Nat.le_refl _) (Nat.le_refl _))
  case hIx =>
    exact fun c => Own.from (fun s A B row hs hg hr => hs) _
  case assign =>
    intro lp x W K hK
    exact absurd x.2 (by simp)
  case body =>
    intro lp pre x
    exact absurd x.2 (by simp)
  case done =>
    rintro D ys W hD - ⟨-, hbW⟩ hK
    have hsW := hbW.size
    have HQ := Lib.hid (HQ3.out.later hbW)
    have HP := Lib.hid (HP3.out.later hbW)
    have cW := (hbW.cell (p := ⟨w.heap.size, 0, none⟩) (by show w.heap.size < _; omega)).trans c3
    have fW := (hbW.frozen (p := ⟨w.heap.size, 0, none⟩) (by show w.heap.size < _; omega)).trans f3
    clear hseq
    gi_wp2
    refine ⟨trivial, ?_⟩
    refine (callsIn_wide.2 (len_nil W)).mono ?_
    rintro e W ⟨rfl, rfl⟩
    gi_wp2
    refine ⟨trivial, ?_⟩
    refine (callsIn_wide.2 (copy_nil _)).mono ?_
    rintro e W ⟨rfl, rfl⟩
    gi_wp2
    refine ⟨trivial, ?_⟩
    refine (callsIn_wide.2 (len_any HQ.out)).mono ?_
    rintro e W ⟨rfl, rfl⟩
    gi_wp2
    refine ⟨trivial, ?_⟩
    refine (callsIn_wide.2 (len_any HP.out)).mono ?_
    rintro e W ⟨rfl, rfl⟩
    gi_wp2
    refine ⟨trivial, ?_⟩
    refine (callsIn_wide.2 (awake_walk W)).mono ?_
    rintro e W4 ⟨rfl, hb4⟩
    have hDl : D < W.heap.size := (Array.getElem?_eq_some_iff.1 hK).1
    have hs4 := hb4.size
    have c4 := (hb4.cell (p := ⟨w.heap.size, 0, none⟩) (by show w.heap.size < _; omega)).trans cW
    have f4 := (hb4.frozen (p := ⟨w.heap.size, 0, none⟩) (by show w.heap.size < _; omega)).trans fW
    have hK4 := (hb4.block D hDl).trans hK
    gi_wp2
    have hK' := (KeepsOthers.setCell W4 ⟨w.heap.size, 0, none⟩ (.bool true)).same D _ hK4 rfl
    have hbel4 := (hbel3.trans (hbW.mono (by omega))).trans (hb4.mono (by omega))
    have hB4 := hbel4.setCell (p := ⟨w.heap.size, 0, none⟩) (Nat.le_refl _) (.bool true)
    have pr := cell_kept (World.cell?_setCell_same' W4 ⟨w.heap.size, 0, none⟩ (.bool true) (by rw [c4]; rfl)) (grownBy_putObj' _ D (.deferred none)) (fun r e => by cases e; exact ⟨_, hK', rfl⟩)
    refine ⟨by simp, .inl ⟨_, _, rfl, run_takeDeferred hK', ?_⟩⟩
    refine ⟨.bool true, ?_, rfl, hB4.trans ((belowK_b (w := w) (Nat.le_refl _) _ D _ _ (by omega) hK' rfl rfl))⟩
    simp [results, Try.f8, go_sem, pr]
  case stop =>
    rintro D c pre W hD hSp hNG hK
    exact hNG.elim
end Go.Proofs.Ytlkoddohplcmnaa
