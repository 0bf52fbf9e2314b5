/-
  Layer 14's changes at a zone of one era without rules: there is none; and Make.
-/
import Derived.Test.YtekeaphbmkfogaaGreatDoorTSteps
import Derived.Lib.MinMax
namespace Go.Proofs.YtekeaphbmkfogaaGreatDoor
open Go Go.RowKit Go.Shelf
attribute [local go_sem] Oper.semAt_some
set_option maxRecDepth 100000

set_option maxHeartbeats 1000000 in
theorem first_one (nm : ByteArray) (b : Nat) (g : Fn) (ts cs : Array Value) (e : EraN) (f : ByteArray) (i : Int) (w : World) (hs : f.size < 4294967281) (hm : Tryz.MaxL w) (he : OneE w b e f) (h1 : -2199023255552 ≤ i) (h2 : i ≤ 2199023255552) (h0 : errP e f.data.toList = 0) (s : ByteArray) (hsh : Shows f (e.off + e.save) (dstB e.save) ⟨#[]⟩ s 0) :
    Calls Tryz.prog 31 #[oneZ nm b, .func g ts cs, .int .i64 i] w fun o w' => o = .returned (.tuple #[.agg #[.int .i64 i, .int .i64 (e.off + e.save), .bool (dstB e.save), .string s], .int .i64 0]) ∧ Below w.heap.size w w' := by
  have hb0 : Below w.heap.size w ((w.alloc (.cells #[.string nm, .slice (some ⟨b, 0, none⟩) 1 1] 24)).alloc (.cells #[.int .i64 0, .int .i64 0, .bool false, .string ⟨#[]⟩] 45)) := ((Below.refl _ _).alloc (Nat.le_refl _) _).alloc (by simp) _
  have hr0 := Blk.new (w.alloc (.cells #[.string nm, .slice (some ⟨b, 0, none⟩) 1 1] 24)) 45 #[.int .i64 0, .int .i64 0, .bool false, .string ⟨#[]⟩]
  rw [World.size_alloc] at hr0
  have hm0 := hm.below hb0 (Nat.le_refl _)
  have he0 : OneE _ b e f := Blk.below he hb0 (Blk.lt he)
  have HC := Lib.hid (at_one nm b g ts cs e f i _ hs hm0 he0 h1 h2 h0 s 0 hsh)
  unfold withinR at HC
  simp only [if_pos] at HC
  unfold oneZ at HC ⊢
  clear hm0 he0
  generalize dstB e.save = d at *
  generalize e.off + e.save = off at *
  go_enter Tryz.func31, Tryz.ntmps31
  go_wp2_with fail
  refine HC.out.mono ?_
  rintro o w1 ⟨rfl, hb⟩
  have hr1 := hr0.below hb hr0.lt
  have hb1 := hb0.trans (hb.mono hb0.size)
  have hl1 := hr1.lt
  have r0 := hr1.cell 0 (v := .int .i64 0) rfl
  have r1 := hr1.cell 1 (v := .int .i64 0) rfl
  have r2 := hr1.cell 2 (v := .bool false) rfl
  have r3 := hr1.cell 3 (v := .string ⟨#[]⟩) rfl
  have f0 := hr1.frozen 0
  have f1 := hr1.frozen 1
  have f2 := hr1.frozen 2
  have f3 := hr1.frozen 3
  have HR := Lib.hid hr1
  have HB := Lib.hid hb1
  clear hb hb0 hr0 hr1 hb1 HC
  go_wp2_with fail
  have HW := ((((HR.out.set 0 (.int .i64 i)).set 1 (.int .i64 off)).set 2 (.bool d)).set 3 (.string s)).alloc (.cells #[.int .i64 off, .bool d, .string s] 42)
  refine bodyPost_ret (v := .tuple #[.agg #[.int .i64 i, .int .i64 off, .bool d, .string s], .int .i64 0]) ?_ rfl ⟨rfl, (below_set4 HB.out (Nat.le_add_right _ _) _ _ _ _).alloc (by have := HB.out.size; simpa using this) _⟩
  have c0 := HW.cell 0 (v := .int .i64 i) rfl
  have c1 := HW.cell 1 (v := .int .i64 off) rfl
  have c2 := HW.cell 2 (v := .bool d) rfl
  have c3 := HW.cell 3 (v := .string s) rfl
  simp [results, Tryz.f31, go_sem, c0, c1, c2, c3]
theorem steps_any (nm : ByteArray) (b : Nat) (g : Fn) (ts cs : Array Value) (a t : Int) (w : World) :
    Calls Tryz.prog 49 #[oneZ nm b, .func g ts cs, .int .i64 a, .int .i64 t] w fun o w' => o = .returned (.func (.func 64) #[] #[.pointer (some ⟨w.heap.size, 0, none⟩), .pointer (some ⟨w.heap.size + 1, 0, none⟩), .pointer (some ⟨w.heap.size + 2, 0, none⟩), .pointer (some ⟨w.heap.size + 3, 0, none⟩)]) ∧ Below w.heap.size w w' ∧
      Blk w' w.heap.size 24 #[.string nm, .slice (some ⟨b, 0, none⟩) 1 1] ∧ Blk w' (w.heap.size + 1) 82 #[.func g ts cs] ∧ Blk w' (w.heap.size + 2) 3 #[.int .i64 a] ∧ Blk w' (w.heap.size + 3) 3 #[.int .i64 t] := by
  have b0 := Blk.new w 24 #[.string nm, .slice (some ⟨b, 0, none⟩) 1 1]
  have b1 := Blk.new (w.alloc (.cells #[.string nm, .slice (some ⟨b, 0, none⟩) 1 1] 24)) 82 #[.func g ts cs]
  have b2 := Blk.new ((w.alloc (.cells #[.string nm, .slice (some ⟨b, 0, none⟩) 1 1] 24)).alloc (.cells #[.func g ts cs] 82)) 3 #[.int .i64 a]
  have b3 := Blk.new (((w.alloc (.cells #[.string nm, .slice (some ⟨b, 0, none⟩) 1 1] 24)).alloc (.cells #[.func g ts cs] 82)).alloc (.cells #[.int .i64 a] 3)) 3 #[.int .i64 t]
  simp only [World.size_alloc] at b1 b2 b3
  have HA := Lib.hid (And.intro (((b0.alloc (.cells #[.func g ts cs] 82)).alloc (.cells #[.int .i64 a] 3)).alloc (.cells #[.int .i64 t] 3)) (And.intro ((b1.alloc (.cells #[.int .i64 a] 3)).alloc (.cells #[.int .i64 t] 3)) (And.intro (b2.alloc (.cells #[.int .i64 t] 3)) b3)))
  clear b0 b1 b2 b3
  unfold oneZ
  go_enter Tryz.func49, Tryz.ntmps49
  go_wp2_with fail
  go_ret
  exact ⟨rfl, ((((Below.refl _ _).alloc (Nat.le_refl _) _).alloc (by simp) _).alloc (by simp; omega) _).alloc (by simp; omega) _, HA.out⟩
theorem changes_any (nm : ByteArray) (b : Nat) (g : Fn) (ts cs : Array Value) (a t : Int) (w : World) :
    Calls Tryz.prog 32 #[oneZ nm b, .func g ts cs, .int .i64 a, .int .i64 t] w fun o w' => o = .returned (.func (.func 48) #[] #[.pointer (some ⟨w.heap.size + 2, 0, none⟩), .pointer (some ⟨w.heap.size, 0, none⟩), .pointer (some ⟨w.heap.size + 1, 0, none⟩), .pointer (some ⟨w.heap.size + 3, 0, none⟩)]) ∧ Below w.heap.size w w' ∧
      Blk w' w.heap.size 24 #[.string nm, .slice (some ⟨b, 0, none⟩) 1 1] ∧ Blk w' (w.heap.size + 1) 82 #[.func g ts cs] ∧ Blk w' (w.heap.size + 2) 3 #[.int .i64 a] ∧ Blk w' (w.heap.size + 3) 3 #[.int .i64 t] := by
  have b0 := Blk.new w 24 #[.string nm, .slice (some ⟨b, 0, none⟩) 1 1]
  have b1 := Blk.new (w.alloc (.cells #[.string nm, .slice (some ⟨b, 0, none⟩) 1 1] 24)) 82 #[.func g ts cs]
  have b2 := Blk.new ((w.alloc (.cells #[.string nm, .slice (some ⟨b, 0, none⟩) 1 1] 24)).alloc (.cells #[.func g ts cs] 82)) 3 #[.int .i64 a]
  have b3 := Blk.new (((w.alloc (.cells #[.string nm, .slice (some ⟨b, 0, none⟩) 1 1] 24)).alloc (.cells #[.func g ts cs] 82)).alloc (.cells #[.int .i64 a] 3)) 3 #[.int .i64 t]
  simp only [World.size_alloc] at b1 b2 b3
  have HA := Lib.hid (And.intro (((b0.alloc (.cells #[.func g ts cs] 82)).alloc (.cells #[.int .i64 a] 3)).alloc (.cells #[.int .i64 t] 3)) (And.intro ((b1.alloc (.cells #[.int .i64 a] 3)).alloc (.cells #[.int .i64 t] 3)) (And.intro (b2.alloc (.cells #[.int .i64 t] 3)) b3)))
  clear b0 b1 b2 b3
  unfold oneZ
  go_enter Tryz.func32, Tryz.ntmps32
  go_wp2_with fail
  go_ret
  exact ⟨rfl, ((((Below.refl _ _).alloc (Nat.le_refl _) _).alloc (by simp) _).alloc (by simp; omega) _).alloc (by simp; omega) _, HA.out⟩
set_option maxHeartbeats 2000000 in
theorem changes1_none (n : Nat) (hn : 6 ≤ n) (zb sb fb tb b : Nat) (nm : ByteArray) (g : Fn) (ts cs : Array Value) (e : EraN) (f : ByteArray) (a t : Int) (W : World) (hs : f.size < 4294967281) (hgm : ∀ W', Below fb W W' → Tryz.MaxL W') (h0 : errP e f.data.toList = 0)
    (ha : -2199023255552 ≤ a) (ha2 : a < 2199023255552) (ht : -2199023255552 ≤ t) (ht2 : t ≤ 2199023255552) (s : ByteArray) (hsh : Shows f (e.off + e.save) (dstB e.save) ⟨#[]⟩ s 0)
    (hz : Blk W zb 24 #[.string nm, .slice (some ⟨b, 0, none⟩) 1 1]) (hsb : Blk W sb 82 #[.func g ts cs]) (hfb : Blk W fb 3 #[.int .i64 a]) (htb : Blk W tb 3 #[.int .i64 t]) (hzf : zb < fb) (hsf : sb < fb) (htf : tb ≠ fb) (hbf : b < fb) (he : OneE W b e f) (encs : Nat → Array Value) (R : List Nat → Nat → (Nat → Prop) → World → Prop) :
    Iter Fence.wide n Tryz.prog 48 #[.pointer (some ⟨fb, 0, none⟩), .pointer (some ⟨zb, 0, none⟩), .pointer (some ⟨sb, 0, none⟩), .pointer (some ⟨tb, 0, none⟩)] encs R (fun xs : List Nat => xs = []) (fun _ => False) (fun k => k = fb) (fun k => k = fb) W := by
  intro lp J Jx fJ fx hY O hJ hO hK
  have z0 := hz.cell 0 (v := .string nm) rfl
  have z1 := hz.cell 1 (v := .slice (some ⟨b, 0, none⟩) 1 1) rfl
  have s0 := hsb.cell 0 (v := .func g ts cs) rfl
  have f0 := hfb.cell 0 (v := .int .i64 a) rfl
  have ff := hfb.frozen 0
  have hmax : max a (-2199023255552) = a := by omega
  show CallsIn Fence.wide n Tryz.prog 48 #[.func (.yield lp) #[] #[], .pointer (some ⟨fb, 0, none⟩), .pointer (some ⟨zb, 0, none⟩), .pointer (some ⟨sb, 0, none⟩), .pointer (some ⟨tb, 0, none⟩)] W _
  refine callsIn_of_wp_marks Tryz.func48 rfl trivial ?_ rfl
  simp only [Tryz.ntmps48, List.size_toArray, List.length_cons, List.length_nil, Nat.reduceAdd, Nat.reduceSub, Array.replicate_succ, Array.replicate_zero, List.push_toArray, List.append_toArray, List.nil_append, List.cons_append]
  have hfl := hfb.lt
  have hzl := hz.lt
  have hsl := hsb.lt
  have htl := htb.lt
  have hzn : zb ≠ fb := by omega
  have hsn : sb ≠ fb := by omega
  have t0 := htb.cell 0 (v := .int .i64 t) rfl
  have hnz : zb ≠ W.heap.size := by omega
  have HMAX := Lib.hid hmax
  gi_wp2
  refine wpIn_scope ?_
  gi_wp2
  have hF1 : Fr (fun k => k = fb) W ((W.setCell ⟨fb, 0, none⟩ (.int .i64 a)).alloc (.cells #[.func (.yield lp) #[] #[]] 111)) := (Fr.setCell (T := fun k => k = fb) _ 0 _ rfl).then (Fr.alloc _ _)
  have hfb1 := (hfb.set 0 (.int .i64 a)).alloc (.cells #[.func (.yield lp) #[] #[]] 111)
  obtain ⟨W1, hW1⟩ : ∃ W1, (W.setCell ⟨fb, 0, none⟩ (.int .i64 a)).alloc (.cells #[.func (.yield lp) #[] #[]] 111) = W1 := ⟨_, rfl⟩
  have hs1 : W.heap.size < W1.heap.size := by rw [← hW1]; simp
  rw [hW1] at hF1 hfb1 ⊢
  clear hW1 z0 z1 s0 f0 ff t0 hmax
  have hm1 : Tryz.MaxL W1 := hgm _ (hF1.below (by omega) (fun k hk h => by omega))
  have hz1 := hz.fr hF1 hzn
  have hsb1 := hsb.fr hF1 hsn
  have htb1 := htb.fr hF1 htf
  have he1 : OneE W1 b e f := Blk.fr he hF1 (by omega)
  have hJ1 : J [] O W1 := fJ _ _ _ _ hJ (hF1.mono fun k hk => .inl (hK k hk))
  refine ⟨trivial, fun _ => by omega, (callsIn_wide.2 (first_one nm b g ts cs e f a _ hs hm1 he1 ha (by omega) h0 s hsh)).mono ?_⟩
  rintro o w2 ⟨rfl, hb2⟩
  have hm2 := hm1.below hb2 (Nat.le_refl _)
  have hz2 := hz1.below hb2 hz1.lt
  have hsb2 := hsb1.below hb2 hsb1.lt
  have htb2 := htb1.below hb2 htb1.lt
  have hfb2 := hfb1.below hb2 hfb1.lt
  have he2 : OneE w2 b e f := Blk.below he1 hb2 (Blk.lt he1)
  have hJ2 : J [] O w2 := fJ _ _ _ _ hJ1 (Fr.of_below hb2 (Nat.le_refl _))
  have hF2 : Fr (fun k => k = fb) W w2 := hF1.then (Fr.of_below hb2 (Nat.le_refl _))
  clear hz1 hsb1 htb1 hfb1 he1 hJ1 hm1 hF1
  have z0 := hz2.cell 0 (v := .string nm) rfl
  have z1 := hz2.cell 1 (v := .slice (some ⟨b, 0, none⟩) 1 1) rfl
  have s0 := hsb2.cell 0 (v := .func g ts cs) rfl
  have f0 := hfb2.cell 0 (v := .int .i64 a) rfl
  have t0 := htb2.cell 0 (v := .int .i64 t) rfl
  have lz := hz2.lt
  have ls := hsb2.lt
  have lf := hfb2.lt
  have lt_ := htb2.lt
  generalize dstB e.save = d at *
  generalize e.off + e.save = off at *
  have hb2s := hb2.size
  gi_wp2
  refine wpIn_label ?_
  gi_wp2
  have hb3 : Below w2.heap.size w2 (w2.alloc (.cells #[.int .i64 a, .int .i64 off, .bool d, .string s] 45)) := (Below.refl _ _).alloc (Nat.le_refl _) _
  obtain ⟨w3, hw3⟩ : ∃ w3, w2.alloc (.cells #[.int .i64 a, .int .i64 off, .bool d, .string s] 45) = w3 := ⟨_, rfl⟩
  rw [hw3] at hb3 ⊢
  clear hw3 z0 z1 s0 f0 t0
  refine ⟨trivial, fun _ => by omega, (callsIn_wide.2 (steps_any nm b g ts cs a t w3)).mono ?_⟩
  rintro o w4 ⟨rfl, hb4, hz4, hsb4, hfb4, htb4⟩
  have hb24 := hb3.trans (hb4.mono hb3.size)
  have hm4 := hm2.below hb24 (Nat.le_refl _)
  have he4 : OneE w4 b e f := Blk.below he2 hb24 (Blk.lt he2)
  have hJ4 : J [] O w4 := fJ _ _ _ _ hJ2 (Fr.of_below hb24 (Nat.le_refl _))
  have hF4 : Fr (fun k => k = fb) W w4 := hF2.then (Fr.of_below hb24 (Nat.le_refl _))
  have hs3 := hb3.size
  have hs4 := hF4.size
  have hO4 : Bd O w4 := hO.fr hF4
  have hOn : ∀ k, W.heap.size ≤ k → ¬ O k := fun k hk h => by have := hO k h; omega
  have HJ4 := Lib.hid hJ4
  clear hb3 hb4 hb24 hJ2 hF2
  gi_wp2
  refine range_own (α := Nat) rfl (by omega) (gf := 64) (lb := #[.pointer (some ⟨w3.heap.size, 0, none⟩), .pointer (some ⟨w3.heap.size + 1, 0, none⟩), .pointer (some ⟨w3.heap.size + 2, 0, none⟩), .pointer (some ⟨w3.heap.size + 3, 0, none⟩)]) rfl trivial (enters_of Tryz.func64 (by kernel_rfl) rfl)
    (encs := fun _ => #[undef]) (R := fun _ _ _ _ => False)
    (fun W' hW' => steps1_none (n - 1) (by omega) _ _ _ _ b nm g ts cs e f a t W' hs (hm4.below hW' (Nat.le_refl _)) h0 ha ha2 ht ht2 (hz4.below hW' hz4.lt) (hsb4.below hW' hsb4.lt) (hfb4.below hW' hfb4.lt) (htb4.below hW' htb4.lt) (Blk.below he4 hW' (Blk.lt he4)) _ _)
    (fun _ => rfl) (fun _ O2 W' => (∀ k, O k → O2 k) ∧ J [] O W') (fun _ _ _ _ => False) ?feet (fun _ _ _ _ _ h _ => h) O ⟨fun k h => h, HJ4.out⟩ hO4 (fun k hk => ?_) (fun k hk => ?_) ?round ?done ?stop
  case feet =>
    rintro _ O2 W' W'' ⟨h1, h2⟩ hf
    exact ⟨h1, fJ _ _ _ _ h2 (hf.mono fun k hk => .inl fun h => hk (h1 k h))⟩
  · have := htb4.lt
    rcases hk with h | h | h <;> omega
  · exact hOn k (by rcases hk with h | h | h <;> omega)
  case stop =>
    intro _ _ _ _ _ _ h
    exact h.elim
  case round =>
    intro lp2 pre k O2 D W3 hI hBO hBD hDO hR
    exact hR.elim
  case done =>
    intro D xs O2 W3 hD hS hI hO2 hBO hOD hfr hK2
    obtain ⟨-, hJ3⟩ := hI
    gi_wp2
    refine ⟨by simp, .inl ⟨_, _, rfl, run_takeDeferred hK2, ?_⟩⟩
    have hfw : Fr (fun k => O k ∨ k = fb) W W3 := (hF4.mono fun k hk => .inl (.inr hk)).trans hfr (fun k hk => by
      rcases hk with h | h
      · exact .inl (.inl h)
      · exact .inr (by rcases h with h | h | h <;> omega))
    have hfp : Fr (fun k => k = D) W3 (W3.putObj D (.deferred none)) := Fr.putObj _ _ rfl
    have hnD : ¬ O D := hOn D (by omega)
    exact ⟨.tuple #[], results_none rfl _ _ _, ⟨_, rfl⟩, O, fun k h => .inl h, (hO.fr hfw).fr hfp, hfw.trans hfp (fun k hk => .inr (by omega)), .inl ⟨[], rfl, fJ _ _ _ _ hJ3 (Fr.putObj _ _ hnD)⟩⟩
end Go.Proofs.YtekeaphbmkfogaaGreatDoor
