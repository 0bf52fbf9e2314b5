/-
  Layer 13's Spans at a zone of one era without rules, walked.
-/
import Derived.Test.YtekeaphbmkfogaaGreatDoorNAt
import Derived.RangeFuncNested
import Derived.RangeFuncBound
import Derived.RangeFuncCalls
import Derived.RangeFuncLeaves
import Derived.RangeFuncFrom
import Derived.OwnWalkIn
import Derived.TacticsInMore
import Derived.LoopNIn
import Derived.LoopIn
namespace Go.Proofs.YtekeaphbmkfogaaGreatDoor
open Go Go.RowKit Go.Shelf
attribute [local go_sem] Oper.semAt_some
set_option maxRecDepth 100000

theorem span_last (eb fb : Nat) (a : Int) (w : World) (he : Blk w eb 30 #[.slice none 0 0]) (hf : Blk w fb 3 #[.int .i64 a]) :
    Calls Tryz.prog 86 #[.int .i64 0, .pointer (some ⟨eb, 0, none⟩), .pointer (some ⟨fb, 0, none⟩)] w fun o w' => o = .returned (.agg #[.int .i64 a, .int .i64 2199023255553]) ∧ Below w.heap.size w w' := by
  have c0 := he.cell 0 (v := .slice none 0 0) rfl
  have c1 := hf.cell 0 (v := .int .i64 a) rfl
  have h0 := he.lt
  have h1 := hf.lt
  have hn0 : eb ≠ w.heap.size := by omega
  have hn1 : fb ≠ w.heap.size := by omega
  clear he hf
  go_enter Tryz.func86, Tryz.ntmps86
  go_wp2_with fail
  refine bodyPost_ret (v := .agg #[.int .i64 a, .int .i64 2199023255553]) ?_ rfl ⟨rfl, (Below.refl _ _).alloc (Nat.le_refl _) _⟩
  have hB := Blk.new w 28 #[.int .i64 a, .int .i64 2199023255553]
  have d0 := hB.cell 0 (v := .int .i64 a) rfl
  have d1 := hB.cell 1 (v := .int .i64 2199023255553) rfl
  simp [results, Tryz.f86, go_sem, d0, d1]
set_option maxHeartbeats 2000000 in
theorem spans1_one (n : Nat) (hn : 2 ≤ n) (zb sb b : Nat) (nm : ByteArray) (g : Fn) (ts cs : Array Value) (e : EraN) (f : ByteArray) (W : World) (hs : f.size < 4294967281) (hm : Tryz.MaxL W) (h0 : errP e f.data.toList = 0)
    (hz : Blk W zb 24 #[.string nm, .slice (some ⟨b, 0, none⟩) 1 1]) (hsb : Blk W sb 82 #[.func g ts cs]) (he : OneE W b e f) :
    Iter Fence.wide n Tryz.prog 85 #[.pointer (some ⟨zb, 0, none⟩), .pointer (some ⟨sb, 0, none⟩)] (fun _ : Unit => #[eraPA e f, .agg #[.int .i64 (-2199023255553), .int .i64 2199023255553]]) (fun pre _ D _ => pre = [] ∧ ∀ j, ¬ D j) (fun xs => xs.length = 1) (fun _ => True) (fun _ => False) (fun _ => False) W := by
  intro lp J Jx fJ fx hY O hJ hO _
  have HEN := Lib.hid (callsIn_wide (n := n - 1).2 (ends_one nm b g ts cs e f W hs hm he))
  rw [h0] at HEN
  unfold oneZ at HEN
  have z0 := hz.cell 0 (v := .string nm) rfl
  have z1 := hz.cell 1 (v := .slice (some ⟨b, 0, none⟩) 1 1) rfl
  have s0 := hsb.cell 0 (v := .func g ts cs) rfl
  have hzl := hz.lt
  show CallsIn Fence.wide n Tryz.prog 85 #[.func (.yield lp) #[] #[], .pointer (some ⟨zb, 0, none⟩), .pointer (some ⟨sb, 0, none⟩)] W _
  refine callsIn_of_wp Tryz.func85 rfl trivial ?_ rfl
  simp only [Tryz.ntmps85, List.size_toArray, List.length_cons, List.length_nil, Nat.reduceAdd, Nat.reduceSub, Array.replicate_succ, Array.replicate_zero, List.push_toArray, List.append_toArray, List.nil_append, List.cons_append]
  gi_wp2
  refine ⟨trivial, fun _ => by omega, HEN.out.mono ?_⟩
  rintro o w1 ⟨rfl, hb1⟩
  have z11 := (hb1.cell (p := ⟨zb, 1, none⟩) hzl).trans z1
  have hzl1 : zb < w1.heap.size := Nat.lt_of_lt_of_le hzl hb1.size
  have he1 : OneE w1 b e f := Blk.below he hb1 (Blk.lt he)
  obtain ⟨c0, c1, c2, c3, c4, c5, c6, c7, c8, c9, c10, c11⟩ := he1.cells
  have hbl1 : b < w1.heap.size := Blk.lt he1
  have HW1 := Lib.hid hb1
  clear HEN z0 z1 s0 hb1 he1
  gi_wp2
  refine wpIn_loop_rounds 2 ?_
  rw [roundsIn_succ]
  gi_wp2
  have hE1 := Blk.new w1 30 #[.slice none 0 0]
  have hF1 := Blk.new (w1.alloc (.cells #[.slice none 0 0] 30)) 3 #[.int .i64 (-2199023255553)]
  have hA1 := Blk.new ((w1.alloc (.cells #[.slice none 0 0] 30)).alloc (.cells #[.int .i64 (-2199023255553)] 3)) 78 (eraP e f).toArray
  simp only [World.size_alloc] at hF1 hA1
  have hE2 := (hE1.alloc (.cells #[.int .i64 (-2199023255553)] 3)).alloc (.cells (eraP e f).toArray 78)
  have hF2 := hF1.alloc (.cells (eraP e f).toArray 78)
  have hb2 : Below W.heap.size W (((w1.alloc (.cells #[.slice none 0 0] 30)).alloc (.cells #[.int .i64 (-2199023255553)] 3)).alloc (.cells (eraP e f).toArray 78)) :=
    ((HW1.out.alloc HW1.out.size _).alloc (by have := HW1.out.size; simp; omega) _).alloc (by have := HW1.out.size; simp; omega) _
  clear hE1 hF1
  unfold eraP at hE2 hF2 hA1 hb2
  refine ⟨trivial, fun _ => by omega, (callsIn_wide.2 (span_last _ _ _ _ hE2 hF2)).mono ?_⟩
  rintro o w3 ⟨rfl, hb3⟩
  have hF3 := hF2.below hb3 hF2.lt
  have hA3 : OneE w3 (w1.heap.size + 1 + 1) e f := hA1.below hb3 hA1.lt
  have hb4 := hb2.trans (hb3.mono hb2.size)
  have hs1 := HW1.out.size
  have hl3 : w1.heap.size + 1 + 1 < w3.heap.size := Blk.lt hA3
  clear hE2 hF2 hA1 hb2 hb3 c0 c1 c2 c3 c4 c5 c6 c7 c8 c9 c10 c11
  obtain ⟨c0, c1, c2, c3, c4, c5, c6, c7, c8, c9, c10, c11⟩ := hA3.cells
  have HF3 := Lib.hid hF3
  have HB4 := Lib.hid hb4
  clear hF3 hA3 hb4
  gi_wp2
  have hT := Blk.new w3 28 #[.int .i64 (-2199023255553), .int .i64 2199023255553]
  have hF4 := HF3.out.alloc (.cells #[.int .i64 (-2199023255553), .int .i64 2199023255553] 28)
  have hb5 : Below W.heap.size W (w3.alloc (.cells #[.int .i64 (-2199023255553), .int .i64 2199023255553] 28)) := HB4.out.alloc HB4.out.size _
  obtain ⟨w4, hw4⟩ : ∃ w4, w3.alloc (.cells #[.int .i64 (-2199023255553), .int .i64 2199023255553] 28) = w4 := ⟨_, rfl⟩
  rw [hw4] at hT hF4 hb5 ⊢
  clear hw4 HF3 HB4 c0 c1 c2 c3 c4 c5 c6 c7 c8 c9 c10 c11
  obtain ⟨fn, tmps, assign, body, hyd, hR⟩ := hY [] () (fun _ => False) O w4 (fJ _ _ _ _ hJ (Fr.of_below hb5 (Nat.le_refl _))) (hO.fr (Fr.of_below (T := fun _ => True) hb5 (Nat.le_refl _))) (fun _ h => h.elim) (fun _ h => h.elim) ⟨rfl, fun _ h => h⟩
  unfold eraPA eraP at hyd
  rw [hyd]
  gi_wp2
  refine ⟨fun _ => by omega, hR.mono ?_⟩
  rintro o W5 ⟨O5, hx5, hbd5, hf5, (⟨rfl, hJ5⟩ | ⟨rfl, hJx5⟩)⟩
  · have hw4s : w3.heap.size < w4.heap.size := hT.lt
    have hO1 : ∀ k, W.heap.size ≤ k → ¬ (O k ∨ False) := fun k hk h => by
      rcases h with h | h
      · have := hO k h; omega
      · exact h
    have hT5 := hT.fr hf5 (hO1 _ (by omega))
    have hF5 := hF4.fr hf5 (hO1 _ (by omega))
    have d1 := hT5.cell 1 (v := .int .i64 2199023255553) rfl
    have f0 := hF5.cell 0 (v := .int .i64 (-2199023255553)) rfl
    have ff := hF5.frozen 0
    clear hT5 hF5 hT hF4 hyd hR
    gi_wp2
    rw [roundsIn_succ]
    gi_wp2
    refine bodyPost_end (results_none rfl _ _ _) rfl ?_
    refine ⟨⟨_, rfl⟩, O5, fun k h => ?_, hbd5.fr (Fr.setCell (T := fun _ => True) _ 0 _ trivial), ?_, .inl ⟨[()], rfl, fJ _ _ _ _ hJ5 (Fr.setCell _ 0 _ ?_)⟩⟩
    · rcases hx5 k h with h | h | h
      · exact .inl h
      · exact h.elim
      · exact .inr (by omega)
    · have h1 : Fr (fun k => k = w1.heap.size + 1) W5 (W5.setCell ⟨w1.heap.size + 1, 0, none⟩ (.int .i64 2199023255553)) := Fr.setCell _ 0 _ rfl
      exact ((Fr.of_below hb5 (Nat.le_refl _)).then hf5).trans h1 (fun k hk => .inr (by omega))
    · intro h
      rcases hx5 _ h with h | h | h
      · exact hO1 _ (by omega) (.inl h)
      · exact h
      · omega
  · gi_wp2
    refine bodyPost_end (results_none rfl _ _ _) rfl ?_
    refine ⟨⟨_, rfl⟩, O5, fun k h => ?_, hbd5, (Fr.of_below hb5 (Nat.le_refl _)).then hf5, .inr ⟨[()], trivial, hJx5⟩⟩
    have hw4s := hT.lt
    rcases hx5 k h with h | h | h
    · exact .inl h
    · exact h.elim
    · exact .inr (by omega)
theorem spans_any (z sv : Value) (nm : ByteArray) (b : Nat) (g : Fn) (ts cs : Array Value) (w : World) (hz : z = oneZ nm b) (hsv : sv = .func g ts cs) :
    Calls Tryz.prog 65 #[z, sv] w fun o w' => o = .returned (.func (.func 85) #[] #[.pointer (some ⟨w.heap.size, 0, none⟩), .pointer (some ⟨w.heap.size + 1, 0, none⟩)]) ∧ Below w.heap.size w w' ∧
      Blk w' w.heap.size 24 #[.string nm, .slice (some ⟨b, 0, none⟩) 1 1] ∧ Blk w' (w.heap.size + 1) 82 #[.func g ts cs] := by
  subst hz hsv
  have hz0 := (Blk.new w 24 #[.string nm, .slice (some ⟨b, 0, none⟩) 1 1]).alloc (.cells #[.func g ts cs] 82)
  have hs0 := Blk.new (w.alloc (.cells #[.string nm, .slice (some ⟨b, 0, none⟩) 1 1] 24)) 82 #[.func g ts cs]
  rw [World.size_alloc] at hs0
  unfold oneZ
  go_enter Tryz.func65, Tryz.ntmps65
  go_wp2_with fail
  go_ret
  exact ⟨rfl, ((Below.refl _ _).alloc (Nat.le_refl _) _).alloc (by simp) _, hz0, hs0⟩
end Go.Proofs.YtekeaphbmkfogaaGreatDoor
