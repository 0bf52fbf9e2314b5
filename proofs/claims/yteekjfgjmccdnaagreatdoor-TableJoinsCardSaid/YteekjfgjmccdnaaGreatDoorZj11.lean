/-
  The law TableJoins of package meridianlaw14 holds: for every input the call returns true, and each argument reads afterwards as it read before.
  Conditions: none beyond the row's own (the listed package-level variables read as the row lists them; the card ties that to the text).
-/
import Derived.Lib.MinMax
import Derived.Deep.QuietTactic
import Derived.BigQuiet
import Derived.WalkKit
import Derived.Test.YteekjfgjmccdnaaGreatDoorChecked
import Derived.Lib.Hide
import Derived.IntWalk
import Derived.Lib.Strings
import Derived.Test.YteekjfgjmccdnaaGreatDoorRows
import Derived.Lib.LaidTab
import Derived.SizedLaws
import Derived.LaidSub
import Derived.Test.YteekjfgjmccdnaaGreatDoorCards
import Derived.Test.YteekjfgjmccdnaaGreatDoorTie
import Derived.Deep.DeepHandedRow
import Derived.Lay
import Derived.Test.YteekjfgjmccdnaaGreatDoorZj10
section
/- TChanges: Layer 14's changes at a zone of one era without rules: there is none; and Make. -/
namespace Go.Proofs.YteekjfgjmccdnaaGreatDoor
open Go Go.RowKit Go.Shelf
attribute [local go_sem] Oper.semAt_some
set_option maxRecDepth 100000

set_option maxHeartbeats 1000000 in
theorem first_one (nm : ByteArray) (b : Nat) (g : Fn) (ts cs : Array Value) (e : EraN) (f : ByteArray) (i : Int) (w : World) (hs : f.size < 4294967281) (hm : Tryz.MaxL w) (he : OneE w b e f) (h1 : -2199023255552 ≤ i) (h2 : i ≤ 2199023255552) (h0 : errP e f.data.toList = 0) (s : ByteArray) (hsh : Shows f (e.off + e.save) (dstB e.save) ⟨#[]⟩ s 0) :
    Calls Tryz.prog 78 #[oneZ nm b, .func g ts cs, .int .i64 i] w fun o w' => o = .returned (.tuple #[.agg #[.int .i64 i, .int .i64 (e.off + e.save), .bool (dstB e.save), .string s], .int .i64 0]) ∧ Below w.heap.size w w' := by
  have hb0 : Below w.heap.size w ((w.alloc (.cells #[.string nm, .slice (some ⟨b, 0, none⟩) 1 1] 24)).alloc (.cells #[.int .i64 0, .int .i64 0, .bool false, .string ⟨#[]⟩] 76)) := ((Below.refl _ _).alloc (Nat.le_refl _) _).alloc (by simp) _
  have hr0 := Blk.new (w.alloc (.cells #[.string nm, .slice (some ⟨b, 0, none⟩) 1 1] 24)) 76 #[.int .i64 0, .int .i64 0, .bool false, .string ⟨#[]⟩]
  rw [World.size_alloc] at hr0
  have hm0 := hm.below hb0 (Nat.le_refl _)
  have he0 : OneE _ b e f := Blk.below he hb0 (Blk.lt he)
  have HC := Lib.hid (at_one nm b g ts cs e f i _ hs hm0 he0 h1 h2 h0 s 0 hsh)
  unfold withinR at HC
  simp only [if_pos] at HC
  unfold oneZ at HC ⊢
  clear hm0 he0
  generalize dstB e.save = d at *
  generalize e.off + e.save = off at *
  go_enter Tryz.func78, Tryz.ntmps78
  go_wp2_with fail
  refine HC.out.mono ?_
  rintro o w1 ⟨rfl, hb⟩
  have hr1 := hr0.below hb hr0.lt
  have hb1 := hb0.trans (hb.mono hb0.size)
  have hl1 := hr1.lt
  have r0 := hr1.cell 0 (v := .int .i64 0) rfl
  have r1 := hr1.cell 1 (v := .int .i64 0) rfl
  have r2 := hr1.cell 2 (v := .bool false) rfl
  have r3 := hr1.cell 3 (v := .string ⟨#[]⟩) rfl
  have f0 := hr1.frozen 0
  have f1 := hr1.frozen 1
  have f2 := hr1.frozen 2
  have f3 := hr1.frozen 3
  have HR := Lib.hid hr1
  have HB := Lib.hid hb1
  clear hb hb0 hr0 hr1 hb1 HC
  go_wp2_with fail
  have HW := ((((HR.out.set 0 (.int .i64 i)).set 1 (.int .i64 off)).set 2 (.bool d)).set 3 (.string s)).alloc (.cells #[.int .i64 off, .bool d, .string s] 48)
  refine bodyPost_ret (v := .tuple #[.agg #[.int .i64 i, .int .i64 off, .bool d, .string s], .int .i64 0]) ?_ rfl ⟨rfl, (below_set4 HB.out (Nat.le_add_right _ _) _ _ _ _).alloc (by have := HB.out.size; simpa using this) _⟩
  have c0 := HW.cell 0 (v := .int .i64 i) rfl
  have c1 := HW.cell 1 (v := .int .i64 off) rfl
  have c2 := HW.cell 2 (v := .bool d) rfl
  have c3 := HW.cell 3 (v := .string s) rfl
  simp [results, Tryz.f78, go_sem, c0, c1, c2, c3]
theorem steps_any (nm : ByteArray) (b : Nat) (g : Fn) (ts cs : Array Value) (a t : Int) (w : World) :
    Calls Tryz.prog 119 #[oneZ nm b, .func g ts cs, .int .i64 a, .int .i64 t] w fun o w' => o = .returned (.func (.func 147) #[] #[.pointer (some ⟨w.heap.size, 0, none⟩), .pointer (some ⟨w.heap.size + 1, 0, none⟩), .pointer (some ⟨w.heap.size + 2, 0, none⟩), .pointer (some ⟨w.heap.size + 3, 0, none⟩)]) ∧ Below w.heap.size w w' ∧
      Blk w' w.heap.size 24 #[.string nm, .slice (some ⟨b, 0, none⟩) 1 1] ∧ Blk w' (w.heap.size + 1) 90 #[.func g ts cs] ∧ Blk w' (w.heap.size + 2) 3 #[.int .i64 a] ∧ Blk w' (w.heap.size + 3) 3 #[.int .i64 t] := by
  have b0 := Blk.new w 24 #[.string nm, .slice (some ⟨b, 0, none⟩) 1 1]
  have b1 := Blk.new (w.alloc (.cells #[.string nm, .slice (some ⟨b, 0, none⟩) 1 1] 24)) 90 #[.func g ts cs]
  have b2 := Blk.new ((w.alloc (.cells #[.string nm, .slice (some ⟨b, 0, none⟩) 1 1] 24)).alloc (.cells #[.func g ts cs] 90)) 3 #[.int .i64 a]
  have b3 := Blk.new (((w.alloc (.cells #[.string nm, .slice (some ⟨b, 0, none⟩) 1 1] 24)).alloc (.cells #[.func g ts cs] 90)).alloc (.cells #[.int .i64 a] 3)) 3 #[.int .i64 t]
  simp only [World.size_alloc] at b1 b2 b3
  have HA := Lib.hid (And.intro (((b0.alloc (.cells #[.func g ts cs] 90)).alloc (.cells #[.int .i64 a] 3)).alloc (.cells #[.int .i64 t] 3)) (And.intro ((b1.alloc (.cells #[.int .i64 a] 3)).alloc (.cells #[.int .i64 t] 3)) (And.intro (b2.alloc (.cells #[.int .i64 t] 3)) b3)))
  clear b0 b1 b2 b3
  unfold oneZ
  go_enter Tryz.func119, Tryz.ntmps119
  go_wp2_with fail
  go_ret
  exact ⟨rfl, ((((Below.refl _ _).alloc (Nat.le_refl _) _).alloc (by simp) _).alloc (by simp; omega) _).alloc (by simp; omega) _, HA.out⟩
theorem changes_any (nm : ByteArray) (b : Nat) (g : Fn) (ts cs : Array Value) (a t : Int) (w : World) :
    Calls Tryz.prog 79 #[oneZ nm b, .func g ts cs, .int .i64 a, .int .i64 t] w fun o w' => o = .returned (.func (.func 118) #[] #[.pointer (some ⟨w.heap.size + 2, 0, none⟩), .pointer (some ⟨w.heap.size, 0, none⟩), .pointer (some ⟨w.heap.size + 1, 0, none⟩), .pointer (some ⟨w.heap.size + 3, 0, none⟩)]) ∧ Below w.heap.size w w' ∧
      Blk w' w.heap.size 24 #[.string nm, .slice (some ⟨b, 0, none⟩) 1 1] ∧ Blk w' (w.heap.size + 1) 90 #[.func g ts cs] ∧ Blk w' (w.heap.size + 2) 3 #[.int .i64 a] ∧ Blk w' (w.heap.size + 3) 3 #[.int .i64 t] := by
  have b0 := Blk.new w 24 #[.string nm, .slice (some ⟨b, 0, none⟩) 1 1]
  have b1 := Blk.new (w.alloc (.cells #[.string nm, .slice (some ⟨b, 0, none⟩) 1 1] 24)) 90 #[.func g ts cs]
  have b2 := Blk.new ((w.alloc (.cells #[.string nm, .slice (some ⟨b, 0, none⟩) 1 1] 24)).alloc (.cells #[.func g ts cs] 90)) 3 #[.int .i64 a]
  have b3 := Blk.new (((w.alloc (.cells #[.string nm, .slice (some ⟨b, 0, none⟩) 1 1] 24)).alloc (.cells #[.func g ts cs] 90)).alloc (.cells #[.int .i64 a] 3)) 3 #[.int .i64 t]
  simp only [World.size_alloc] at b1 b2 b3
  have HA := Lib.hid (And.intro (((b0.alloc (.cells #[.func g ts cs] 90)).alloc (.cells #[.int .i64 a] 3)).alloc (.cells #[.int .i64 t] 3)) (And.intro ((b1.alloc (.cells #[.int .i64 a] 3)).alloc (.cells #[.int .i64 t] 3)) (And.intro (b2.alloc (.cells #[.int .i64 t] 3)) b3)))
  clear b0 b1 b2 b3
  unfold oneZ
  go_enter Tryz.func79, Tryz.ntmps79
  go_wp2_with fail
  go_ret
  exact ⟨rfl, ((((Below.refl _ _).alloc (Nat.le_refl _) _).alloc (by simp) _).alloc (by simp; omega) _).alloc (by simp; omega) _, HA.out⟩
set_option maxHeartbeats 2000000 in
theorem changes1_none (n : Nat) (hn : 6 ≤ n) (zb sb fb tb b : Nat) (nm : ByteArray) (g : Fn) (ts cs : Array Value) (e : EraN) (f : ByteArray) (a t : Int) (W : World) (hs : f.size < 4294967281) (hgm : ∀ W', Below fb W W' → Tryz.MaxL W') (h0 : errP e f.data.toList = 0)
    (ha : -2199023255552 ≤ a) (ha2 : a < 2199023255552) (ht : -2199023255552 ≤ t) (ht2 : t ≤ 2199023255552) (s : ByteArray) (hsh : Shows f (e.off + e.save) (dstB e.save) ⟨#[]⟩ s 0)
    (hz : Blk W zb 24 #[.string nm, .slice (some ⟨b, 0, none⟩) 1 1]) (hsb : Blk W sb 90 #[.func g ts cs]) (hfb : Blk W fb 3 #[.int .i64 a]) (htb : Blk W tb 3 #[.int .i64 t]) (hzf : zb < fb) (hsf : sb < fb) (htf : tb ≠ fb) (hbf : b < fb) (he : OneE W b e f) (encs : Nat → Array Value) (R : List Nat → Nat → (Nat → Prop) → World → Prop) :
    Iter Fence.wide n Tryz.prog 118 #[.pointer (some ⟨fb, 0, none⟩), .pointer (some ⟨zb, 0, none⟩), .pointer (some ⟨sb, 0, none⟩), .pointer (some ⟨tb, 0, none⟩)] encs R (fun xs : List Nat => xs = []) (fun _ => False) (fun k => k = fb) (fun k => k = fb) W := by
  intro lp J Jx fJ fx hY O hJ hO hK
  have z0 := hz.cell 0 (v := .string nm) rfl
  have z1 := hz.cell 1 (v := .slice (some ⟨b, 0, none⟩) 1 1) rfl
  have s0 := hsb.cell 0 (v := .func g ts cs) rfl
  have f0 := hfb.cell 0 (v := .int .i64 a) rfl
  have ff := hfb.frozen 0
  have hmax : max a (-2199023255552) = a := by omega
  show CallsIn Fence.wide n Tryz.prog 118 #[.func (.yield lp) #[] #[], .pointer (some ⟨fb, 0, none⟩), .pointer (some ⟨zb, 0, none⟩), .pointer (some ⟨sb, 0, none⟩), .pointer (some ⟨tb, 0, none⟩)] W _
  refine callsIn_of_wp_marks Tryz.func118 rfl trivial ?_ rfl
  simp only [Tryz.ntmps118, List.size_toArray, List.length_cons, List.length_nil, Nat.reduceAdd, Nat.reduceSub, Array.replicate_succ, Array.replicate_zero, List.push_toArray, List.append_toArray, List.nil_append, List.cons_append]
  have hfl := hfb.lt
  have hzl := hz.lt
  have hsl := hsb.lt
  have htl := htb.lt
  have hzn : zb ≠ fb := by omega
  have hsn : sb ≠ fb := by omega
  have t0 := htb.cell 0 (v := .int .i64 t) rfl
  have hnz : zb ≠ W.heap.size := by omega
  have HMAX := Lib.hid hmax
  gi_wp2
  refine wpIn_scope ?_
  gi_wp2
  have hF1 : Fr (fun k => k = fb) W ((W.setCell ⟨fb, 0, none⟩ (.int .i64 a)).alloc (.cells #[.func (.yield lp) #[] #[]] 172)) := (Fr.setCell (T := fun k => k = fb) _ 0 _ rfl).then (Fr.alloc _ _)
  have hfb1 := (hfb.set 0 (.int .i64 a)).alloc (.cells #[.func (.yield lp) #[] #[]] 172)
  obtain ⟨W1, hW1⟩ : ∃ W1, (W.setCell ⟨fb, 0, none⟩ (.int .i64 a)).alloc (.cells #[.func (.yield lp) #[] #[]] 172) = W1 := ⟨_, rfl⟩
  have hs1 : W.heap.size < W1.heap.size := by rw [← hW1]; simp
  rw [hW1] at hF1 hfb1 ⊢
  clear hW1 z0 z1 s0 f0 ff t0 hmax
  have hm1 : Tryz.MaxL W1 := hgm _ (hF1.below (by omega) (fun k hk h => by omega))
  have hz1 := hz.fr hF1 hzn
  have hsb1 := hsb.fr hF1 hsn
  have htb1 := htb.fr hF1 htf
  have he1 : OneE W1 b e f := Blk.fr he hF1 (by omega)
  have hJ1 : J [] O W1 := fJ _ _ _ _ hJ (hF1.mono fun k hk => .inl (hK k hk))
  refine ⟨trivial, fun _ => by omega, (callsIn_wide.2 (first_one nm b g ts cs e f a _ hs hm1 he1 ha (by omega) h0 s hsh)).mono ?_⟩
  rintro o w2 ⟨rfl, hb2⟩
  have hm2 := hm1.below hb2 (Nat.le_refl _)
  have hz2 := hz1.below hb2 hz1.lt
  have hsb2 := hsb1.below hb2 hsb1.lt
  have htb2 := htb1.below hb2 htb1.lt
  have hfb2 := hfb1.below hb2 hfb1.lt
  have he2 : OneE w2 b e f := Blk.below he1 hb2 (Blk.lt he1)
  have hJ2 : J [] O w2 := fJ _ _ _ _ hJ1 (Fr.of_below hb2 (Nat.le_refl _))
  have hF2 : Fr (fun k => k = fb) W w2 := hF1.then (Fr.of_below hb2 (Nat.le_refl _))
  clear hz1 hsb1 htb1 hfb1 he1 hJ1 hm1 hF1
  have z0 := hz2.cell 0 (v := .string nm) rfl
  have z1 := hz2.cell 1 (v := .slice (some ⟨b, 0, none⟩) 1 1) rfl
  have s0 := hsb2.cell 0 (v := .func g ts cs) rfl
  have f0 := hfb2.cell 0 (v := .int .i64 a) rfl
  have t0 := htb2.cell 0 (v := .int .i64 t) rfl
  have lz := hz2.lt
  have ls := hsb2.lt
  have lf := hfb2.lt
  have lt_ := htb2.lt
  generalize dstB e.save = d at *
  generalize e.off + e.save = off at *
  have hb2s := hb2.size
  gi_wp2
  refine wpIn_label ?_
  gi_wp2
  have hb3 : Below w2.heap.size w2 (w2.alloc (.cells #[.int .i64 a, .int .i64 off, .bool d, .string s] 76)) := (Below.refl _ _).alloc (Nat.le_refl _) _
  obtain ⟨w3, hw3⟩ : ∃ w3, w2.alloc (.cells #[.int .i64 a, .int .i64 off, .bool d, .string s] 76) = w3 := ⟨_, rfl⟩
  rw [hw3] at hb3 ⊢
  clear hw3 z0 z1 s0 f0 t0
  refine ⟨trivial, fun _ => by omega, (callsIn_wide.2 (steps_any nm b g ts cs a t w3)).mono ?_⟩
  rintro o w4 ⟨rfl, hb4, hz4, hsb4, hfb4, htb4⟩
  have hb24 := hb3.trans (hb4.mono hb3.size)
  have hm4 := hm2.below hb24 (Nat.le_refl _)
  have he4 : OneE w4 b e f := Blk.below he2 hb24 (Blk.lt he2)
  have hJ4 : J [] O w4 := fJ _ _ _ _ hJ2 (Fr.of_below hb24 (Nat.le_refl _))
  have hF4 : Fr (fun k => k = fb) W w4 := hF2.then (Fr.of_below hb24 (Nat.le_refl _))
  have hs3 := hb3.size
  have hs4 := hF4.size
  have hO4 : Bd O w4 := hO.fr hF4
  have hOn : ∀ k, W.heap.size ≤ k → ¬ O k := fun k hk h => by have := hO k h; omega
  have HJ4 := Lib.hid hJ4
  clear hb3 hb4 hb24 hJ2 hF2
  gi_wp2
  refine range_own (α := Nat) rfl (by omega) (gf := 147) (lb := #[.pointer (some ⟨w3.heap.size, 0, none⟩), .pointer (some ⟨w3.heap.size + 1, 0, none⟩), .pointer (some ⟨w3.heap.size + 2, 0, none⟩), .pointer (some ⟨w3.heap.size + 3, 0, none⟩)]) rfl trivial (enters_of Tryz.func147 (by kernel_rfl) rfl)
    (encs := fun _ => #[undef]) (R := fun _ _ _ _ => False)
    (fun W' hW' => steps1_none (n - 1) (by omega) _ _ _ _ b nm g ts cs e f a t W' hs (hm4.below hW' (Nat.le_refl _)) h0 ha ha2 ht ht2 (hz4.below hW' hz4.lt) (hsb4.below hW' hsb4.lt) (hfb4.below hW' hfb4.lt) (htb4.below hW' htb4.lt) (Blk.below he4 hW' (Blk.lt he4)) _ _)
    (fun _ => rfl) (fun _ O2 W' => (∀ k, O k → O2 k) ∧ J [] O W') (fun _ _ _ _ => False) ?feet (fun _ _ _ _ _ h _ => h) O ⟨fun k h => h, HJ4.out⟩ hO4 (fun k hk => ?_) (fun k hk => ?_) ?round ?done ?stop
  case feet =>
    rintro _ O2 W' W'' ⟨h1, h2⟩ hf
    exact ⟨h1, fJ _ _ _ _ h2 (hf.mono fun k hk => .inl fun h => hk (h1 k h))⟩
  · have := htb4.lt
    rcases hk with h | h | h <;> omega
  · exact hOn k (by rcases hk with h | h | h <;> omega)
  case stop =>
    intro _ _ _ _ _ _ h
    exact h.elim
  case round =>
    intro lp2 pre k O2 D W3 hI hBO hBD hDO hR
    exact hR.elim
  case done =>
    intro D xs O2 W3 hD hS hI hO2 hBO hOD hfr hK2
    obtain ⟨-, hJ3⟩ := hI
    gi_wp2
    refine ⟨by simp, .inl ⟨_, _, rfl, run_takeDeferred hK2, ?_⟩⟩
    have hfw : Fr (fun k => O k ∨ k = fb) W W3 := (hF4.mono fun k hk => .inl (.inr hk)).trans hfr (fun k hk => by
      rcases hk with h | h
      · exact .inl (.inl h)
      · exact .inr (by rcases h with h | h | h <;> omega))
    have hfp : Fr (fun k => k = D) W3 (W3.putObj D (.deferred none)) := Fr.putObj _ _ rfl
    have hnD : ¬ O D := hOn D (by omega)
    exact ⟨.tuple #[], results_none rfl _ _ _, ⟨_, rfl⟩, O, fun k h => .inl h, (hO.fr hfw).fr hfp, hfw.trans hfp (fun k hk => .inr (by omega)), .inl ⟨[], rfl, fJ _ _ _ _ hJ3 (Fr.putObj _ _ hnD)⟩⟩
end Go.Proofs.YteekjfgjmccdnaaGreatDoor
end

section
/- TMake: Layer 14's Make at a zone of one era without rules: its table has one row. -/
namespace Go.Proofs.YteekjfgjmccdnaaGreatDoor
open Go Go.RowKit Go.Shelf
set_option maxRecDepth 100000

/-- A table of one row. -/
def MakeOne (w : World) (i off : Int) (d : Bool) (s : ByteArray) (o : Ending) (w' : World) : Prop :=
  ∃ blk, w.heap.size ≤ blk ∧ o = .returned (.tuple #[.slice (some ⟨blk, 0, none⟩) 1 1, .int .i64 0]) ∧ Blk w' blk 76 #[.int .i64 i, .int .i64 off, .bool d, .string s] ∧ Below w.heap.size w w'
set_option maxHeartbeats 2000000 in
theorem make_one (nm : ByteArray) (b : Nat) (g : Fn) (ts cs : Array Value) (e : EraN) (f : ByteArray) (t : Int) (w : World) (hs : f.size < 4294967281) (hm : Tryz.MaxL w) (he : OneE w b e f) (h1 : -2199023255552 ≤ t) (h2 : t ≤ 2199023255552) (h0 : errP e f.data.toList = 0) (s : ByteArray) (hsh : Shows f (e.off + e.save) (dstB e.save) ⟨#[]⟩ s 0) :
    Calls Tryz.prog 38 #[oneZ nm b, .func g ts cs, .int .i64 t] w (MakeOne w (-2199023255552) (e.off + e.save) (dstB e.save) s) := by
  have hb0 : Below w.heap.size w (w.alloc (.cells #[.string nm, .slice (some ⟨b, 0, none⟩) 1 1] 24)) := (Below.refl _ _).alloc (Nat.le_refl _) _
  have hz0 := Blk.new w 24 #[.string nm, .slice (some ⟨b, 0, none⟩) 1 1]
  have hm0 := hm.below hb0 (Nat.le_refl _)
  have he0 : OneE _ b e f := Blk.below he hb0 (Blk.lt he)
  have HC := Lib.hid (checkZ_one nm b g ts cs e f _ hs hm0 he0)
  rw [h0] at HC
  unfold oneZ at HC ⊢
  refine (callsIn_wide (n := 12)).1 ?_
  refine callsIn_of_wp_marks Tryz.func38 rfl trivial ?_ rfl
  simp only [Tryz.ntmps38, List.size_toArray, List.length_cons, List.length_nil, Nat.reduceAdd, Nat.reduceSub, Array.replicate_succ, Array.replicate_zero, List.push_toArray, List.append_toArray, List.nil_append, List.cons_append]
  refine wpIn_wide.2 ?_
  go_wp2_with fail
  refine HC.out.mono ?_
  rintro o w1 ⟨rfl, hb⟩
  have hm1 := hm0.below hb (Nat.le_refl _)
  have he1 : OneE w1 b e f := Blk.below he0 hb (Blk.lt he0)
  have hz1 := hz0.below hb hz0.lt
  have hb1 := hb0.trans (hb.mono hb0.size)
  have z0 := hz1.cell 0 (v := .string nm) rfl
  have z1 := hz1.cell 1 (v := .slice (some ⟨b, 0, none⟩) 1 1) rfl
  clear HC hb hb0 hz0 hm0 he0
  have HM := Lib.hid hm1
  have HE := Lib.hid he1
  have HZ := Lib.hid hz1
  have HB := Lib.hid hb1
  clear hm1 he1 hz1 hb1
  go_wp2_with fail
  refine (first_one nm b g ts cs e f (-2199023255552) _ hs HM.out HE.out (by omega) (by omega) h0 s hsh).mono ?_
  rintro o w2 ⟨rfl, hb⟩
  have HM2 := Lib.hid (HM.out.below hb (Nat.le_refl _))
  have he2 : OneE w2 b e f := Blk.below HE.out hb (Blk.lt HE.out)
  have HE2 := Lib.hid he2
  have hz2 := HZ.out.below hb HZ.out.lt
  have HB2 := Lib.hid (HB.out.trans (hb.mono HB.out.size))
  have lz := hz2.lt
  clear z0 z1 hb HM HE HZ HB he2
  have z0 := hz2.cell 0 (v := .string nm) rfl
  have z1 := hz2.cell 1 (v := .slice (some ⟨b, 0, none⟩) 1 1) rfl
  have HZ2 := Lib.hid hz2
  clear hz2
  have HSH := Lib.hid hsh
  clear hsh
  generalize hd : dstB e.save = d at *
  generalize hoff : e.off + e.save = off at *
  have HD := Lib.hid hd
  have HOFF := Lib.hid hoff
  clear hd hoff
  have lz1 : w.heap.size < w2.heap.size + 1 := by omega
  have lz2 : w.heap.size < w2.heap.size + 1 + 1 := by omega
  go_wp2_with fail
  have hb3 : Below w2.heap.size w2 (((w2.alloc (.cells #[.int .i64 (-2199023255552), .int .i64 off, .bool d, .string s] 76)).alloc (.cells #[.int .i64 (-2199023255552), .int .i64 off, .bool d, .string s] 76)).alloc (.cells #[.slice (some ⟨w2.heap.size + 1, 0, none⟩) 1 1] 81)) := (((Below.refl _ _).alloc (Nat.le_refl _) _).alloc (by simp) _).alloc (by simp; omega) _
  have hR := Blk.new (w2.alloc (.cells #[.int .i64 (-2199023255552), .int .i64 off, .bool d, .string s] 76)) 76 #[.int .i64 (-2199023255552), .int .i64 off, .bool d, .string s]
  have hT := Blk.new ((w2.alloc (.cells #[.int .i64 (-2199023255552), .int .i64 off, .bool d, .string s] 76)).alloc (.cells #[.int .i64 (-2199023255552), .int .i64 off, .bool d, .string s] 76)) 81 #[.slice (some ⟨w2.heap.size + 1, 0, none⟩) 1 1]
  have hR3 := hR.alloc (.cells #[.slice (some ⟨w2.heap.size + 1, 0, none⟩) 1 1] 81)
  simp only [World.size_alloc] at hR3 hT
  obtain ⟨w3, hw3⟩ : ∃ w3, (((w2.alloc (.cells #[.int .i64 (-2199023255552), .int .i64 off, .bool d, .string s] 76)).alloc (.cells #[.int .i64 (-2199023255552), .int .i64 off, .bool d, .string s] 76)).alloc (.cells #[.slice (some ⟨w2.heap.size + 1, 0, none⟩) 1 1] 81)) = w3 := ⟨_, rfl⟩
  rw [hw3] at hb3 hR3 hT ⊢
  clear hw3 hR z0 z1
  refine (changes_any nm b g ts cs (-2199023255552) t w3).mono ?_
  rintro o w4 ⟨rfl, hb4, hz4, hsb4, hfb4, htb4⟩
  have hb24 := hb3.trans (hb4.mono hb3.size)
  have hm4 := HM2.out.below hb24 (Nat.le_refl _)
  have he4 : OneE w4 b e f := Blk.below HE2.out hb24 (Blk.lt HE2.out)
  have hbl3 : b < w3.heap.size := Nat.lt_of_lt_of_le (Blk.lt HE2.out) hb3.size
  have hR4 := hR3.below hb4 hR3.lt
  have hT4 := hT.below hb4 hT.lt
  have hb04 := HB2.out.trans (hb24.mono HB2.out.size)
  have hs3 := hb3.size
  have htl := hT.lt
  have hm3 := HM2.out.below hb3 (Nat.le_refl _)
  have hs44 := htb4.lt
  clear hb24 hb3 hR3 hT HZ2 HM2 HE2
  go_wp2_with fail
  refine (wpIn_wide (n := 12)).1 ?_
  refine range_own (α := Nat) rfl (by omega) (gf := 118) (lb := #[.pointer (some ⟨w3.heap.size + 2, 0, none⟩), .pointer (some ⟨w3.heap.size, 0, none⟩), .pointer (some ⟨w3.heap.size + 1, 0, none⟩), .pointer (some ⟨w3.heap.size + 3, 0, none⟩)]) rfl trivial (enters_of Tryz.func118 (by kernel_rfl) rfl)
    (encs := fun _ => #[undef]) (R := fun _ _ _ _ => False)
    (fun W' hW' => changes1_none 11 (by omega) _ _ _ _ b nm g ts cs e f (-2199023255552) t W' hs (fun W'' hb'' => hm3.below ((hb4.trans ((hW'.mono (Nat.le_of_lt (by omega))).trans (hb''.mono (by omega)))).mono (Nat.le_refl _)) (Nat.le_refl _)) h0 (by omega) (by omega) h1 h2 s (by rw [HOFF.out, HD.out]; exact HSH.out) (hz4.below hW' hz4.lt) (hsb4.below hW' hsb4.lt) (hfb4.below hW' hfb4.lt) (htb4.below hW' htb4.lt) (by omega) (by omega) (by omega) (by omega) (Blk.below he4 hW' (Blk.lt he4)) _ _)
    (fun _ => rfl) (fun _ _ _ => True) (fun _ _ _ _ => False) (fun _ _ _ _ h _ => h) (fun _ _ _ _ _ h _ => h) (fun _ => False) trivial (fun k hk => hk.elim) (fun k hk => ?_) (fun _ _ h => h) ?round ?done ?stop
  · have := hfb4.lt
    omega
  case stop =>
    intro _ _ _ _ _ _ h
    exact h.elim
  case round =>
    intro lp2 pre k O2 D W3 hI hBO hBD hDO hR
    exact hR.elim
  case done =>
    intro D xs O2 W3 hD hS hI hO2 hBO hOD hfr hK2
    have hF : Fr (fun k => k = w3.heap.size + 2) w4 W3 := hfr.mono fun k hk => by
      rcases hk with h | h
      · exact h.elim
      · exact .inl h
    have hR5 := hR4.fr hF (by omega)
    have hT5 := hT4.fr hF (by omega)
    have t0 := hT5.cell 0 (v := .slice (some ⟨w2.heap.size + 1, 0, none⟩) 1 1) rfl
    have hb5 := hb04.trans (hF.below hb04.size (fun k hk h => by omega))
    have HK := Lib.hid hK2
    have HR5 := Lib.hid hR5
    have HB5 := Lib.hid hb5
    clear hF hR5 hT5 hb5 hfr hK2 hR4 hT4 hb04
    have hl2 : w.heap.size < w2.heap.size := lz
    clear lz lz1 lz2
    go_wp2_with fail
    refine ⟨by simp, .inl ⟨_, _, rfl, run_takeDeferred HK.out, ?_⟩⟩
    refine ⟨.tuple #[.slice (some ⟨w2.heap.size + 1, 0, none⟩) 1 1, .int .i64 0], by simp [results, Tryz.f38, go_sem], w2.heap.size + 1, by omega, rfl, ?_, fin_below HB5.out (by omega)⟩
    exact HR5.out.fr (Fr.putObj (T := fun k => k = D) _ _ rfl) (by omega)
end Go.Proofs.YteekjfgjmccdnaaGreatDoor
end

section
/- TRise: Layer 20: the references' parts, walked. -/
namespace Go.Proofs.YteekjfgjmccdnaaGreatDoor
open Go Go.RowKit
set_option maxRecDepth 100000

open Go Go.RowKit
set_option maxRecDepth 100000

end Go.Proofs.YteekjfgjmccdnaaGreatDoor
end

section
/- TSame: Layer 14's law: are two rows of changes one? -/
namespace Go.Proofs.YteekjfgjmccdnaaGreatDoor
open Go Go.RowKit
set_option maxRecDepth 100000

/-- Whether two changes are one, as the walk says it. -/
def chgEq (c d : Chg) : Bool := decide (c.at_ = d.at_ ∧ c.loc.off = d.loc.off ∧ c.loc.dst = d.loc.dst ∧ c.loc.abbr.toList = d.loc.abbr.toList)
def SameTo (l m : List Chg) (k : Nat) : Prop := ∀ i (h : i < l.length) (h' : i < m.length), i < k → chgEq l[i] m[i] = true
def sameB (l m : List Chg) : Bool := decide (l.length = m.length) && decide (∀ i : _root_.Fin l.length, ∀ h : i.1 < m.length, chgEq l[i.1] m[i.1] = true)
theorem SameTo.next {l m : List Chg} {k : Nat} {x y : Chg} {hl : k < l.length} {hm : k < m.length} (h : SameTo l m k) (hx : l[k] = x) (hy : m[k] = y) (hq : chgEq x y = true) : SameTo l m (k + 1) := by
  intro i h1 h2 hi
  by_cases hik : i = k
  · subst hik; rw [hx, hy]; exact hq
  · exact h i h1 h2 (by omega)
theorem same_no {l m : List Chg} {k : Nat} {x y : Chg} {hl : k < l.length} {hm : k < m.length} (hx : l[k] = x) (hy : m[k] = y) (hq : chgEq x y = false) : sameB l m = false := by
  unfold sameB
  rw [Bool.and_eq_false_iff]
  right
  refine decide_eq_false fun h => ?_
  have := h ⟨k, hl⟩ hm
  rw [show l[(⟨k, hl⟩ : _root_.Fin l.length).1] = x from hx, hy, hq] at this
  cases this
theorem same_yes {l m : List Chg} (hlen : l.length = m.length) (h : ∀ i (h : i < l.length) (h' : i < m.length), chgEq l[i] m[i] = true) : sameB l m = true := by
  unfold sameB
  rw [decide_eq_true hlen, Bool.true_and, decide_eq_true_eq]
  exact fun i h' => h i.1 i.2 h'
theorem same_len {l m : List Chg} (h : ¬ l.length = m.length) : sameB l m = false := by unfold sameB; rw [decide_eq_false h]; rfl
theorem chgEq_iff {c d : Chg} : chgEq c d = true ↔ c = d := by
  unfold chgEq
  rw [decide_eq_true_eq]
  constructor
  · rintro ⟨h1, h2, h3, h4⟩
    obtain ⟨a, o, b, ⟨s⟩⟩ := c
    obtain ⟨a', o', b', ⟨s'⟩⟩ := d
    simp only at h1 h2 h3 h4
    subst h1 h2 h3
    have e : (⟨s⟩ : ByteArray) = ⟨s'⟩ := by
      rw [Lib.toList_data, Lib.toList_data] at h4
      have : s = s' := Array.toList_inj.1 h4
      rw [this]
    rw [e]
  · rintro rfl; exact ⟨rfl, rfl, rfl, rfl⟩
theorem sameB_iff {l m : List Chg} : sameB l m = true ↔ l = m := by
  constructor
  · intro h
    unfold sameB at h
    rw [Bool.and_eq_true, decide_eq_true_eq, decide_eq_true_eq] at h
    exact List.ext_getElem h.1 fun i h1 h2 => chgEq_iff.1 (h.2 ⟨i, h1⟩ h2)
  · rintro rfl
    exact same_yes rfl fun i h h' => chgEq_iff.2 rfl
set_option maxHeartbeats 1000000 in
theorem same_any (w : World) (B : Nat) (v u : Value) (l m : List Chg) (hv : Chgs w B v l) (hu : Chgs w B u m) (hB : B ≤ w.heap.size) :
    Calls Tryz.prog 39 #[v, u] w fun e w' => e = .returned (.bool (sameB l m)) ∧ Below w.heap.size w w' := by
  obtain ⟨A, c, rfl, hlc, hcm⟩ := hv.form
  obtain ⟨A2, c2, rfl, hlc2, hcm2⟩ := hu.form
  unfold maxLen at hcm hcm2
  have HV := Lib.hid hv
  have HU := Lib.hid hu
  clear hv hu
  by_cases hlen : l.length = m.length
  · have HL := Lib.hid hlen
    rw [← hlen] at HU ⊢
    clear hlen hlc2
    go_enter Tryz.func39, Tryz.ntmps39
    go_wp2_with fail
    go_loopw [5] (fun i wr => ∃ k : Nat, k ≤ l.length ∧ i = .int .i64 k ∧ SameTo l m k ∧ Below w.heap.size w wr) (fun i _ => l.length - (intOf i).toNat)
    case atStart => exact ⟨0, Nat.zero_le _, rfl, fun i _ _ h => by omega, Below.refl _ _⟩
    case round =>
      obtain ⟨k, hk, rfl, hr, hb⟩ := hrel
      have HR := Lib.hid hr
      clear hr
      by_cases hlt : k < l.length
      · obtain ⟨b, o, c', e, -, hc⟩ := HV.out.cells (by omega)
        cases e
        have hmk : k < m.length := by rw [← HL.out]; exact hlt
        obtain ⟨b2, o2, c2', e, -, hc2⟩ := HU.out.cells (by omega)
        rw [← HL.out] at e
        cases e
        clear hc hc2
        have hl0 : 0 < l.length := by omega
        have hm0 : 0 < m.length := by omega
        have HB := Lib.hid hb
        clear hb
        have HC := Lib.hid (fun (W : World) (h : Below wr.heap.size wr W) => show (_ ∧ _ ∧ _ ∧ _) ∧ (_ ∧ _ ∧ _ ∧ _) by
          have hbW := (HB.out.trans (h.mono HB.out.size)).mono hB
          obtain ⟨_, _, _, e1, -, h1⟩ := (HV.out.below hbW).cells hl0
          cases e1
          obtain ⟨_, _, _, e2, -, h2⟩ := (HU.out.below hbW).cells hm0
          rw [← HL.out] at e2
          cases e2
          exact ⟨h1 k hlt, h2 k hmk⟩)
        obtain ⟨x, hx⟩ : ∃ x, l[k] = x := ⟨_, rfl⟩
        obtain ⟨y, hy⟩ : ∃ y, m[k] = y := ⟨_, rfl⟩
        rw [hx, hy] at HC
        have HX := Lib.hid hx
        have HY := Lib.hid hy
        clear hx hy
        go_wp2_with fail
        cases hq : chgEq x y
        · have HQ := Lib.hid hq
          clear hq
          refine wp_env (fin := ?fnA) (by kernel_rfl) [17, 18, 19, 20, 21, 22, 23, 24, 25]
            [.slice (some ⟨b, o, none⟩) l.length c, .int .i64 k, .pointer (some ⟨b, o + k * 4, none⟩), chgA x, .slice (some ⟨b2, o2, none⟩) l.length c2, .int .i64 k, .pointer (some ⟨b2, o2 + k * 4, none⟩), chgA y, .bool true] (by kernel_rfl) ?finA ?stepsA ?nextA
          case finA =>
            simp only [putAll, Act.put, List.setIfInBounds_toArray, List.set_cons_succ, List.set_cons_zero]
            rfl
          case stepsA =>
            unfold chgA
            refine ⟨?_, ?_, ?_, ?_, ?_, ?_, ?_, ?_, ?_, trivial⟩
            all_goals
              refine .inr ⟨by kernel_rfl, fun w1_ hB_ => ?_⟩
              obtain ⟨⟨c0, c1, c2_, c3⟩, ⟨d0, d1, d2, d3⟩⟩ := HC.out w1_ hB_
              go_simp
              first
                | exact ⟨rfl, Below.refl _ _⟩
                | (have hq := HQ.out
                   unfold chgEq at hq
                   simp only [decide_eq_false_iff_not] at hq
                   repeat' split
                   all_goals first | exact ⟨rfl, Below.refl _ _⟩ | (exfalso; simp_all; done))
          case nextA =>
          intro w2 hb2
          have hb3 := HB.out.trans (hb2.mono HB.out.size)
          clear hb2
          go_wp2_with fail
          go_ret
          exact ⟨by rw [same_no (HX.out) (HY.out) HQ.out]; rfl, hb3⟩
        · have HQ := Lib.hid hq
          clear hq
          refine wp_env (fin := ?fnB) (by kernel_rfl) [17, 18, 19, 20, 21, 22, 23, 24, 25]
            [.slice (some ⟨b, o, none⟩) l.length c, .int .i64 k, .pointer (some ⟨b, o + k * 4, none⟩), chgA x, .slice (some ⟨b2, o2, none⟩) l.length c2, .int .i64 k, .pointer (some ⟨b2, o2 + k * 4, none⟩), chgA y, .bool false] (by kernel_rfl) ?finB ?stepsB ?nextB
          case finB =>
            simp only [putAll, Act.put, List.setIfInBounds_toArray, List.set_cons_succ, List.set_cons_zero]
            rfl
          case stepsB =>
            unfold chgA
            refine ⟨?_, ?_, ?_, ?_, ?_, ?_, ?_, ?_, ?_, trivial⟩
            all_goals
              refine .inr ⟨by kernel_rfl, fun w1_ hB_ => ?_⟩
              obtain ⟨⟨c0, c1, c2_, c3⟩, ⟨d0, d1, d2, d3⟩⟩ := HC.out w1_ hB_
              go_simp
              first
                | exact ⟨rfl, Below.refl _ _⟩
                | (have hq := HQ.out
                   unfold chgEq at hq
                   simp only [decide_eq_true_eq] at hq
                   repeat' split
                   all_goals first | exact ⟨rfl, Below.refl _ _⟩ | (exfalso; simp_all; done))
          case nextB =>
          intro w2 hb2
          have hb3 := HB.out.trans (hb2.mono HB.out.size)
          clear hb2
          go_wp2_with fail
          go_roundw
          case rel => exact ⟨k + 1, by omega, by go_num, SameTo.next HR.out HX.out HY.out HQ.out, hb3⟩
          case measure => first | (simp [intOf]; done) | (simp [intOf]; omega)
      · have HS := Lib.hid (same_yes HL.out (fun i h h' => HR.out i h h' (by omega)))
        go_wp2_with fail
        go_ret
        exact ⟨by rw [HS.out]; rfl, hb⟩
  · have HS := Lib.hid (same_len hlen)
    go_enter Tryz.func39, Tryz.ntmps39
    go_wp2_with fail
    go_ret
    exact ⟨by rw [HS.out]; rfl, Below.refl _ _⟩
end Go.Proofs.YteekjfgjmccdnaaGreatDoor
end

section
/- TAwake: Layer 14's law: the chapter's example. -/
namespace Go.Proofs.YteekjfgjmccdnaaGreatDoor
open Go Go.RowKit Go.Shelf
set_option maxRecDepth 100000

def tcetE : EraN := ⟨3600, 0, 0, 0, 0, 0, 0, 0, 0⟩
def tcetS : ByteArray := ⟨#[67, 69, 84]⟩
theorem tcet_kind : kindR tcetS.data.toList = (0, 0) := by kernel_rfl
theorem tcet_err : errP tcetE tcetS.data.toList = 0 := by kernel_rfl
theorem tcet_shows : Shows tcetS (tcetE.off + tcetE.save) (dstB tcetE.save) ⟨#[]⟩ tcetS 0 := fun W hm => show_plain tcetS _ _ _ W (by decide) hm tcet_kind
def cetC : Chg := ⟨-2199023255552, 3600, false, tcetS⟩
theorem chgs_one {W : World} {b B : Nat} {c : Chg} (h : Blk W b 76 (chgV c).toArray) (hB : b < B) : Chgs W B (.slice (some ⟨b, 0, none⟩) 1 1) [c] := by
  refine ⟨some ⟨b, 0, none⟩, 1, rfl, Nat.le_refl _, by decide, rfl, fun _ => ⟨b, 0, rfl, hB, fun j u hj => ?_⟩⟩
  rw [Nat.zero_add]
  exact h.cell j (by simpa [chgsV] using hj)
set_option maxHeartbeats 2000000 in
theorem tawake_any (w : World) (hm : Tryz.MaxL w) : Calls Tryz.prog 37 #[] w fun e w' => e = .returned (.bool true) ∧ Below w.heap.size w w' := by
  have HM := Lib.hid hm
  clear hm
  go_enter Tryz.func37, Tryz.ntmps37
  have hb0 : Below w.heap.size w ((w.alloc (.cells (eraP tcetE tcetS).toArray 42)).alloc (.cells #[.string ⟨#[88]⟩, .slice (some ⟨w.heap.size, 0, none⟩) 1 1, .slice none 0 0] 27)) := ((Below.refl _ _).alloc (Nat.le_refl _) _).alloc (by simp) _
  have he0 : OneE ((w.alloc (.cells (eraP tcetE tcetS).toArray 42)).alloc (.cells #[.string ⟨#[88]⟩, .slice (some ⟨w.heap.size, 0, none⟩) 1 1, .slice none 0 0] 27)) w.heap.size tcetE tcetS := (Blk.new w 42 (eraP tcetE tcetS).toArray).alloc _
  have HC := Lib.hid (make_one ⟨#[88]⟩ w.heap.size (.func 15) #[.agg #[.string ⟨#[88]⟩, .slice (some ⟨w.heap.size, 0, none⟩) 1 1, .slice none 0 0]] #[] tcetE tcetS 2199023255552 _ (by decide) (HM.out.below hb0 (Nat.le_refl _)) he0 (by omega) (by omega) tcet_err tcetS tcet_shows)
  unfold oneZ eraP tcetE tcetS at HC
  unfold eraP tcetE tcetS at hb0
  clear he0
  go_wp2_with fail
  refine HC.out.mono ?_
  rintro o w1 ⟨blk, h1, rfl, h3, h4⟩
  have HB := Lib.hid h3
  have HL := Lib.hid h4
  have h3l := h3.lt
  clear h3 h4 HC
  go_wp2_with fail
  have hR : Blk w1 blk 76 (chgV cetC).toArray := HB.out
  have hb1 : Below w1.heap.size w1 (w1.alloc (.cells (chgV cetC).toArray 76)) := (Below.refl _ _).alloc (Nat.le_refl _) _
  have hs : (w1.alloc (.cells (chgV cetC).toArray 76)).heap.size = w1.heap.size + 1 := World.size_alloc ..
  have HS := Lib.hid (same_any (w1.alloc (.cells (chgV cetC).toArray 76)) (w1.heap.size + 1) _ _ [cetC] [cetC] (chgs_one (hR.below hb1 hR.lt) (by omega)) (chgs_one (Blk.new w1 76 (chgV cetC).toArray) (by omega)) (by omega))
  rw [sameB_iff.2 rfl] at HS
  refine HS.out.mono ?_
  rintro o w2 ⟨rfl, hb2⟩
  have hbw := (hb0.trans (HL.out.mono hb0.size))
  have hb3 := hbw.trans ((hb1.trans (hb2.mono hb1.size)).mono hbw.size)
  clear hb2 hbw hb1 hb0 hs hR HS
  go_wp2_with fail
  go_ret
  exact ⟨rfl, hb3⟩
end Go.Proofs.YteekjfgjmccdnaaGreatDoor
end

section
/- HLawM: Layer 14's laws at any zone: what they share. -/
namespace Go.Proofs.YteekjfgjmccdnaaGreatDoor
open Go Go.RowKit Go.Shelf
set_option maxRecDepth 100000

/-- Make in a few world, up to an end that is not too great. -/
theorem make_few (zn : ByteArray) (ev sv : Value) (l : List EraF) (S : List SetF) (to : Int) (B : Nat) (w : World) (hz : ZW w B ev sv l S) (hf : fewB l S = true) (ho : ZOk l S) (hlet : ∀ s ∈ S, letOk s.l)
    (h : 2199023255552 < to ∨ to ≤ 4000000000) :
    Calls Tryz.prog 38 #[zoneA zn ev, setsV zn ev sv, .int .i64 to] w (MakeEnd S l to w) :=
  zmake_any zn ev sv l S to B w hz ho hlet (fun h0 => endL_few h0 (fewB_iff.1 hf).2.1) (fun _ h2 => by
    by_cases h0 : errZ S l = 0
    · exact changesL_len h0 (fewB_iff.1 hf).2.1 (fewB_iff.1 hf).2.2.1 (by omega)
    · rw [changesL_bad h0]
      exact Nat.zero_le _)
theorem makeErr_few {S : List SetF} {l : List EraF} {to : Int} (hf : fewB l S = true) (h0 : errZ S l = 0) (h1 : -2199023255552 ≤ to) (h2 : to ≤ 2199023255552) : makeErr S l to = 0 := by
  unfold makeErr
  rw [if_neg (fun e => e h0), if_neg (by omega)]
  exact errI_few h0 (fewB_iff.1 hf).2.1 (by omega) (by omega)
end Go.Proofs.YteekjfgjmccdnaaGreatDoor
end

section
/- HRight: Layer 14's law: Right, walked. -/
namespace Go.Proofs.YteekjfgjmccdnaaGreatDoor
open Go Go.RowKit Go.Shelf
set_option maxRecDepth 100000

/-- Worlds that are few, whose zone may be. -/
noncomputable def goodZ (l : List EraF) (S : List SetF) : Bool := fewB l S && decide (errZ S l = 0)
theorem good_iff {l : List EraF} {S : List SetF} : goodZ l S = true ↔ fewB l S = true ∧ errZ S l = 0 := by unfold goodZ; rw [Bool.and_eq_true, decide_eq_true_eq]
theorem few_okR {l : List EraF} {S : List SetF} (h : fewB l S = true) : ZOk l S where
  fm := fun x hx => by have := eraFew_fm ((fewB_iff.1 h).1 x hx); omega
  rul := fun s hs => right_ok ((fewB_iff.1 h).2.1 s hs)
  len := by have := (fewB_iff.1 h).2.2.1; omega
/-- What Right answers. -/
def RightPost (w : World) (l : List EraF) (S : List SetF) (o : Ending) (w' : World) : Prop :=
  (∃ u v, o = .returned (.tuple #[u, v, .bool (goodZ l S)]) ∧ (goodZ l S = true → ∃ R, RowsZ S l R ∧ RowsM w' u R ∧ Nums w' w'.heap.size v (endL S l))) ∧ Below w.heap.size w w'
set_option maxHeartbeats 16000000 in
theorem right14_any (w : World) (zn : ByteArray) (ev sv : Value) (B : Nat) (l : List EraF) (S : List SetF) (hz : ZW w B ev sv l S) (hfm : ∀ x ∈ l, x.fm.size < 1152921504606846976) :
    Calls Tryz.prog 23 #[worldA zn ev sv] w (RightPost w l S) := by
  obtain ⟨i0, hi, hz0, hz1, hz2⟩ := info_parts infoInt
  obtain ⟨A, cA, rfl, hlc, hcm⟩ := hz.eras.form
  obtain ⟨A2, cS, rfl, hlc2, hcm2⟩ := hz.sets.form
  unfold maxLen at hcm hcm2
  obtain ⟨W0, hW0⟩ : ∃ W, (w.alloc (.cells #[.string zn, .slice A l.length cA, .slice A2 S.length cS] 27)) = W := ⟨_, rfl⟩
  have hb0 : Below w.heap.size w W0 := by rw [← hW0]; exact (Below.refl w.heap.size w).alloc (Nat.le_refl _) _
  have HXX := Lib.hid (show Blk W0 w.heap.size 27 #[.string zn, .slice A l.length cA, .slice A2 S.length cS] by rw [← hW0]; exact Blk.new w _ _)
  have HZ0 := Lib.hid (hz.below hb0)
  have HF := Lib.hid (few_any W0 zn _ _ B l S (HZ0.out.eras) (HZ0.out.sets) HZ0.out.le hfm)
  have HB0 := Lib.hid hb0
  have HW0 := Lib.hid hW0
  have hBw := hz.le
  clear hz hb0 hW0 hfm
  unfold worldA at HF ⊢
  go_enter Tryz.func23, Tryz.ntmps23
  go_wp2_with fail
  rw [HW0.out]
  try simp only [HW0.out]
  clear HW0
  cases hf : fewB l S with
  | false =>
    rw [hf] at HF
    have HG := Lib.hid (show goodZ l S = false by unfold goodZ; rw [hf]; rfl)
    clear hf
    refine HF.out.mono ?_
    rintro o w1 ⟨rfl, hb⟩
    have HB1 := Lib.hid (HB0.out.trans (hb.mono HB0.out.size))
    clear hb
    go_wp2_with fail
    go_ret3
    exact ⟨⟨_, _, by rw [HG.out]; rfl, fun h => by rw [HG.out] at h; cases h⟩, HB1.out⟩
  | true =>
    rw [hf] at HF
    have HFEW := Lib.hid hf
    have HFW := Lib.hid (fewB_iff.1 hf)
    clear hf
    refine HF.out.mono ?_
    rintro o w1 ⟨rfl, hb⟩
    have HBL := Lib.hid hb
    have HB1 := Lib.hid (HB0.out.trans (hb.mono HB0.out.size))
    have HCK := Lib.hid (zcheckZ_any zn _ _ B l S w1 (HZ0.out.below hb) (few_okR HFEW.out))
    unfold setsV zoneA worldA at HCK
    obtain ⟨E, hE⟩ : ∃ e, errZ S l = e := ⟨_, rfl⟩
    rw [hE] at HCK
    have HE := Lib.hid hE
    have hxb := HXX.out.below (HBL.out) HXX.out.lt
    have x0 := hxb.cell 0 (v := .string zn) rfl
    have x1 := hxb.cell 1 (v := .slice A l.length cA) rfl
    have x2 := hxb.cell 2 (v := .slice A2 S.length cS) rfl
    have hxl := hxb.lt
    clear hxb
    clear hb HF hE
    by_cases hE0 : E = 0
    · subst hE0
      have HG := Lib.hid (show goodZ l S = true from good_iff.2 ⟨HFEW.out, HE.out⟩)
      have hl1 : 0 < l.length := by have := (errZ_zero HE.out).1; omega
      have hl4 : l.length ≤ 4 := HFW.out.2.2.1
      have hn0 : ((l.length : Int) == 0) = false := beq_eq_false_iff_ne.2 (by omega)
      have hn1 : (l.length == 0) = false := beq_eq_false_iff_ne.2 (by omega)
      go_wp2_with fail
      refine HCK.out.mono ?_
      rintro o w2 ⟨rfl, hb⟩
      have HBL2 := Lib.hid (HBL.out.trans (hb.mono HBL.out.size))
      have HB2 := Lib.hid (HB1.out.trans (hb.mono HB1.out.size))
      have HRW := Lib.hid (rows_any zn _ _ B l S w2 (HZ0.out.below HBL2.out) HFW.out.2.1 (by omega))
      unfold worldA RowsPost at HRW
      clear hb x0 x1 x2 hxl HCK
      have hxb := HXX.out.below (HBL2.out) HXX.out.lt
      have x0 := hxb.cell 0 (v := .string zn) rfl
      have x1 := hxb.cell 1 (v := .slice A l.length cA) rfl
      have x2 := hxb.cell 2 (v := .slice A2 S.length cS) rfl
      have hxl := hxb.lt
      clear hxb
      go_wp2_with fail
      refine HRW.out.mono ?_
      rintro o w3 ⟨⟨u, R, rfl, hRl, hRok, hRm⟩, hb⟩
      have HBL3 := Lib.hid (HBL2.out.trans (hb.mono HBL2.out.size))
      have HB3 := Lib.hid (HB2.out.trans (hb.mono HB2.out.size))
      have HRL := Lib.hid hRl
      have HRO := Lib.hid hRok
      have HRM := Lib.hid hRm
      obtain ⟨A3, c3, rfl, -, -⟩ := hRm.form
      clear hb hRl hRok hRm x0 x1 x2 hxl HRW
      go_wp2_with fail
      go_loopw [6, 7] (fun u iv wr => ∃ k : Nat, k ≤ l.length - 1 ∧ iv = .int .i64 k ∧ wr.ownsRow w3.heap.size 3 1 u k (intsV ((endL S l).take k)) ∧ Below w3.heap.size w3 wr) (fun _ iv _ => l.length - (intOf iv).toNat)
      case atStart => exact ⟨0, Nat.zero_le _, rfl, World.ownsRow_nil _ _ _ _, Below.refl _ _⟩
      case round =>
        obtain ⟨k, hk, rfl, hown, hbw⟩ := hrel
        have HOW := Lib.hid hown
        have HBW3 := Lib.hid hbw
        have HBLW := Lib.hid (HBL3.out.trans (hbw.mono HBL3.out.size))
        have hxb := HXX.out.below (HBLW.out) HXX.out.lt
        have x0 := hxb.cell 0 (v := .string zn) rfl
        have x1 := hxb.cell 1 (v := .slice A l.length cA) rfl
        have x2 := hxb.cell 2 (v := .slice A2 S.length cS) rfl
        have hxl := hxb.lt
        clear hxb
        have HZ4 := Lib.hid (HZ0.out.below HBLW.out)
        have HRM4 := Lib.hid (HRM.out.below hbw)
        obtain ⟨A5, c5, hu, -, -⟩ := Sl.of_own hown
        subst hu
        clear hown hbw
        by_cases hlt : k + 1 < l.length
        · have hd : decide ((k : Int) + 1 < (l.length : Int)) = true := decide_eq_true (by omega)
          have hlk : k < l.length := by omega
          have hRlk : k < R.length := by rw [HRL.out]; exact hlk
          obtain ⟨bb, o, c', e, hbb, hc⟩ := HZ4.out.eras.cells (by omega)
          cases e
          have hx := hc k hlk
          obtain ⟨br, orr, cr', e, hbr, hcr⟩ := HRM4.out.cells (by omega)
          cases e
          obtain ⟨rc0, rc1⟩ := hcr k hRlk
          have hdr : decide (k < R.length) = true := decide_eq_true hRlk
          have hrok := HRO.out k hRlk hlk
          have hrm : FrisN w3 R[k].v R[k].D := HRM.out.2 _ (List.getElem_mem hRlk)
          have her := (errZ_zero HE.out).2.2.1 k hlk
          rw [errAt_eq hlk, decide_eq_false (by omega)] at her
          have hen := endL_get (S := S) (l := l) (i := k) hlt
          have hfx := HFW.out.1 _ (List.getElem_mem hlk)
          have htk : (endL S l).take (k + 1) = (endL S l).take k ++ [(endL S l).getD k 0] := by
            have h9 : k < (endL S l).length := by rw [length_endL]; omega
            rw [List.take_succ_eq_append_getElem h9, List.getD_eq_getElem?_getD, List.getElem?_eq_getElem h9]
            rfl
          obtain ⟨x, hxk⟩ : ∃ x, l[k] = x := ⟨_, rfl⟩
          obtain ⟨r, hrk⟩ : ∃ r, R[k] = r := ⟨_, rfl⟩
          rw [hxk] at hx her hen hfx hrok
          rw [hrk] at rc0 rc1 hrok hrm
          obtain ⟨-, hof, hsf, hee, -, hnb⟩ := errE_zero her
          have hee2 : x.en = true := hee
          have hek := eraFew_end hfx hee2
          have hkin : 0 ≤ x.n.ak ∧ x.n.ak ≤ 2 := by have := nomV_in (hnb hee2); omega
          have hrb : rnomB x.n = true := by rw [← hek.nomB_eq hkin]; exact hnb hee2
          have hEQ := end_eq (ru := x.ru) hrok.right hof hek hrb
          rw [hEQ] at hen
          have hbd4 := below_drewN HBW3.out 1
          have HRD := Lib.hid (rend_any (wr.drewN 1) x.n x.ru x.fm true w3.heap.size r.v r.D r.letter (hrm.1.below hbd4) hbd4.size hrok.len hrok.bd hek (by omega) (by omega))
          obtain ⟨A9, c9, hv9, -, -⟩ := hrm.1.form
          rw [hv9] at HRD rc0
          rw [← hen] at HRD
          unfold eraA at HRD
          obtain ⟨ek, hekv⟩ : ∃ z, (endL S l).getD k 0 = z := ⟨_, rfl⟩
          rw [hekv] at HRD htk
          have HTK := Lib.hid htk
          have HBD4 := Lib.hid hbd4
          obtain ⟨c0, c1, c2, c3, c4, c5, c6, c7, c8, c9, c10, c11⟩ := hx
          rw [hee2] at c4
          have hul := HOW.out.lt
          clear hc hcr hxk hrk hrok hrm her hen hfx hof hsf hee hee2 hnb hek hrb hEQ hbd4 hekv htk hv9
          go_wp2_with fail
          refine wp_text (by kernel_rfl) (by kernel_rfl) ?_
          intro K hK
          go_wp2_with fail
          refine HRD.out.mono ?_
          rintro o w5 ⟨rfl, hb⟩
          have HB5 := Lib.hid (HBD4.out.trans (hb.mono HBD4.out.size))
          have HOW5 := Lib.hid (ownsRow_below HOW.out ((below_drewN (Below.refl wr.heap.size wr) 1).trans hb))
          clear hb
          go_wp2_with ((at_builtin; refine wpList_append_own _ rfl _ _ 28 rfl (w3.heap.size) 3 i0 (.int .i64 0) 1 8 Tryz.underlying28 hi hz0 hz1 hz2 rfl (by decide) _ _ _ rfl (HOW5.out.alloc _) ⟨w5.heap.size, 0, none⟩ 1 1 [.int .i64 ek] rfl rfl (cell_one_new _ _ _) (by simp [Value.oneCell']) (by unfold maxLen; omega) (by omega) (by have := HB5.out.size; simp <;> omega) ?_; intro v' w1 hown' hgrow _))
          refine ⟨by simp [goodB, fits, plainPair, isSeqV, quiet, Act.eval], ?_⟩
          go_wp2_with fail
          go_roundw
          case rel =>
            refine ⟨k + 1, by omega, by go_num, ?_, below_push HB5.out HOW5.out hgrow⟩
            rw [HTK.out, intsV_append]
            exact hown'
          case measure => first | (simp [intOf]; done) | (simp [intOf]; omega)
        · obtain rfl : k = l.length - 1 := by omega
          have hd : decide (((l.length - 1 : Nat) : Int) + 1 < (l.length : Int)) = false := decide_eq_false (by omega)
          have HOE := Lib.hid (show Nums wr wr.heap.size (.slice A5 (l.length - 1) c5) (endL S l) by
            have h := Sl.of_own HOW.out
            rw [List.take_of_length_le (by rw [length_endL]; exact Nat.le_refl _)] at h
            unfold Nums
            rw [length_endL]
            exact h)
          have HB4 := Lib.hid (HB3.out.trans (HBW3.out.mono HB3.out.size))
          go_wp2_with fail
          go_ret3
          exact ⟨⟨_, _, by rw [HG.out]; rfl, fun _ => ⟨R, ⟨HRL.out, HRO.out⟩, HRM4.out, HOE.out⟩⟩, HB4.out⟩
    · have hne : (E != 0) = true := by simpa using hE0
      have HG := Lib.hid (show goodZ l S = false by
        cases hg : goodZ l S with
        | false => rfl
        | true => exact absurd (HE.out.symm.trans (good_iff.1 hg).2) hE0)
      go_wp2_with fail
      refine HCK.out.mono ?_
      rintro o w2 ⟨rfl, hb⟩
      have HB2 := Lib.hid (HB1.out.trans (hb.mono HB1.out.size))
      clear hb HCK
      go_wp2_with fail
      go_ret3
      exact ⟨⟨_, _, by rw [HG.out]; rfl, fun h => by rw [HG.out] at h; cases h⟩, HB2.out⟩
end Go.Proofs.YteekjfgjmccdnaaGreatDoor
end

section
/- HErrs: Layer 14: what is wrong with a table that cannot be made (the law TableErrs), walked. -/
namespace Go.Proofs.YteekjfgjmccdnaaGreatDoor
open Go Go.RowKit Go.Shelf
attribute [local go_sem] Oper.semAt_some
set_option maxRecDepth 100000

theorem fin_factsT {W wz : World} {D rb : Nat} {d : Option (List Deferred)} (hK : W.heap[D]? = some (.deferred d)) (hb : Below W.heap.size W wz) (hr : Blk wz rb 4 #[.bool false]) (hD : D ≠ rb) (b : Bool) :
    (wz.setCell ⟨rb, 0, none⟩ (.bool b)).heap[D]? = some (.deferred d) ∧ ((wz.setCell ⟨rb, 0, none⟩ (.bool b)).putObj D (.deferred none)).cell? ⟨rb, 0, none⟩ = some (.bool b) := by
  have hl : D < W.heap.size := (Array.getElem?_eq_some_iff.1 hK).1
  have h1 : wz.heap[D]? = some (.deferred d) := (hb.block D hl).trans hK
  have h2 := (Fr.setCell (T := fun k => k = rb) wz 0 (.bool b) rfl).at_ h1 hD
  exact ⟨h2, (fin_cell h2 _).trans ((hr.set 0 (.bool b)).cell 0 rfl)⟩
end Go.Proofs.YteekjfgjmccdnaaGreatDoor
end

section
/- HJoinM: Layer 14 (plain): a table up to a later instant is one up to an earlier one, and what is behind it. -/
namespace Go.Proofs.YteekjfgjmccdnaaGreatDoor
open Go Go.RowKit Go.Shelf

theorem Rep.rest {g : Int → Loc} {a b c : Int} {M N : List Chg} (h : Rep g a c (M ++ N)) (hM : ∀ x ∈ M, x.at_ ≤ b) (hN : ∀ x ∈ N, b < x.at_) (hab : a ≤ b) : Rep g b c N where
  wk := {
    rise := (List.pairwise_append.1 h.wk.rise).2.1
    mem := fun x hx => by
      have h1 := h.wk.mem x (List.mem_append_right _ hx)
      exact ⟨⟨hN x hx, h1.1.2⟩, h1.2⟩
    all := fun i h1 h2 ht => by
      obtain ⟨x, hx, e⟩ := h.wk.all i (by omega) h2 ht
      rcases List.mem_append.1 hx with hx | hx
      · have := hM x hx
        omega
      · exact ⟨x, hx, e⟩ }
  turn := fun x hx => h.turn x (List.mem_append_right _ hx)
section
variable {S : List SetF} {l : List EraF}
theorem changes_join (h : FewZ S l) {a b : Int} (ha : -2199023255552 ≤ a) (hab : a ≤ b) (hb : b ≤ 4200000000) : changesL S l (-2199023255552) b = changesL S l (-2199023255552) a ++ changesL S l a b := by
  have h1 := changes_rep h (fr := -2199023255552) (to := b) (by omega) hb
  have h2 := changes_rep h (fr := -2199023255552) (to := a) (by omega) (by omega)
  have h3 := changes_rep h (fr := a) (to := b) (by omega) hb
  rw [show max a (-2199023255552) = a by omega] at h3
  rw [show max (-2199023255552 : Int) (-2199023255552) = -2199023255552 by omega] at h1 h2
  obtain ⟨M, N, e, hM, hN⟩ := h1.cut hab
  have e1 := hM.uniq h2
  have h4 : Rep (locZ S l) (-2199023255552) b (M ++ N) := by rw [← e]; exact h1
  have h5 := h4.rest (fun x hx => (hM.wk.mem x hx).1.2) hN ha
  rw [e, e1, h5.uniq h3]
theorem tab_join (h : FewZ S l) {a b : Int} (ha : -2199023255552 ≤ a) (hab : a ≤ b) (hb : b ≤ 4200000000) : tabL S l b = tabL S l a ++ changesL S l a b := by
  unfold tabL
  rw [changes_join h ha hab hb]
  rfl
/-- What is told of a change that is the next one: it is in the span, or behind it. -/
theorem next_of {P Q pre : List Chg} {c : Chg} {rest : List Chg} {to : Int} (h : P ++ Q = pre ++ c :: rest) (hP : ∀ x ∈ P, x.at_ ≤ to) (hQ : ∀ x ∈ Q, to < x.at_) (hl : pre.length ≤ P.length) :
    (to < c.at_ ∧ pre.length = P.length) ∨ (c.at_ ≤ to ∧ ∃ h2 : pre.length < P.length, P[pre.length] = c) := by
  by_cases h2 : pre.length < P.length
  · right
    have e : (P ++ Q)[pre.length]? = (pre ++ c :: rest)[pre.length]? := by rw [h]
    rw [List.getElem?_append_left h2, List.getElem?_append_right (Nat.le_refl _), Nat.sub_self, List.getElem?_eq_getElem h2] at e
    have e := Option.some.inj e
    exact ⟨by have := hP _ (List.getElem_mem h2); rw [e] at this; exact this, h2, e⟩
  · left
    have h3 : pre.length = P.length := by omega
    have e : (P ++ Q)[pre.length]? = (pre ++ c :: rest)[pre.length]? := by rw [h]
    rw [List.getElem?_append_right (by omega), List.getElem?_append_right (Nat.le_refl _), Nat.sub_self, h3, Nat.sub_self] at e
    have e : Q[0]? = some c := e
    exact ⟨hQ c (List.mem_of_getElem? e), h3⟩
end
/-- The first of a row, as a row. -/
theorem sl_front {W : World} {B sz : Nat} {A : Option Addr} {n c : Nat} {xs : List Value} (h : Sl W B sz (.slice A n c) n xs) {k : Nat} (hk : k ≤ n) : Sl W B sz (.slice A k c) k (xs.take (k * sz)) := by
  obtain ⟨A', c', hv, g1, g2, hl, hc⟩ := h
  injection hv with ha _ hcc
  subst ha; subst hcc
  refine ⟨_, _, rfl, by omega, g2, ?_, fun hp => ?_⟩
  · rw [List.length_take, hl]
    exact Nat.min_eq_left (Nat.mul_le_mul_right _ hk)
  · obtain ⟨b, o, rfl, hb, hc⟩ := hc (by omega)
    refine ⟨b, o, rfl, hb, fun j u hu => hc j u ?_⟩
    rw [List.getElem?_take] at hu
    split at hu
    · exact hu
    · cases hu
theorem chgs_front {W : World} {B : Nat} {A : Option Addr} {c : Nat} {l m : List Chg} (h : Chgs W B (.slice A (l ++ m).length c) (l ++ m)) : Chgs W B (.slice A l.length c) l := by
  have h2 := sl_front h (k := l.length) (by rw [List.length_append]; omega)
  rw [chgsV_append, List.take_append_of_le_length (by rw [length_chgsV]; exact Nat.le_refl _), List.take_of_length_le (by rw [length_chgsV]; exact Nat.le_refl _)] at h2
  exact h2
end Go.Proofs.YteekjfgjmccdnaaGreatDoor
end

section
/- HJoins: Layer 14: a table up to an instant is the beginning of one up to a later one (the law TableJoins), walked. -/
namespace Go.Proofs.YteekjfgjmccdnaaGreatDoor
open Go Go.RowKit Go.Shelf
attribute [local go_sem] Oper.semAt_some
set_option maxRecDepth 100000

theorem JN_len {TA TB P : List Chg} (h : TB = TA ++ P) : TB.length = TA.length + P.length := by rw [h, List.length_append]
/-- The loop's count. -/
def JoinI (nb n0 m : Nat) (pre : List Chg) (O : Nat → Prop) (W : World) : Prop := (O nb ∧ pre.length ≤ m) ∧ Blk W nb 3 #[.int .i64 ((n0 + pre.length : Nat) : Int)]
theorem joinI_feet (nb n0 m : Nat) : Feet (JoinI nb n0 m) := by
  intro pre O W W' h hf
  exact ⟨h.1, Blk.fr h.2 hf (fun e => e h.1.1)⟩
set_option maxHeartbeats 16000000 in
theorem joins_walk (w : World) (zn : ByteArray) (ev sv : Value) (l : List EraF) (S : List SetF) (a0 a1 : Int) (he : ErasR w w.heap.size ev l) (hs : SetsR w w.heap.size sv S) (hfm : ∀ x ∈ l, x.fm.size < 1152921504606846976) (hlet : ∀ s ∈ S, letOk s.l)
    (h0 : -9223372036854775808 ≤ a0 ∧ a0 ≤ 9223372036854775807) (h1 : -9223372036854775808 ≤ a1 ∧ a1 ≤ 9223372036854775807) (ha : Ahead w) (htab : 0 < w.heap.size) (hm : Tryz.MaxL w) :
    Calls Tryz.prog 12 #[worldA zn ev sv, .agg #[.int .i64 a0, .int .i64 a1]] w fun o w' => o = .returned (.bool true) ∧ Below w.heap.size w w' := by
  obtain ⟨A, cA, rfl, hlc, hcm⟩ := he.form
  obtain ⟨A2, cS, rfl, hlc2, hcm2⟩ := hs.form
  unfold maxLen at hcm hcm2
  obtain ⟨W0, hW0⟩ : ∃ W, (((w.alloc (.cells #[.string zn, .slice A l.length cA, .slice A2 S.length cS] 27)).alloc (.cells #[.int .i64 a0, .int .i64 a1] 80)).alloc (.cells #[.bool false] 4)) = W := ⟨_, rfl⟩
  have hb0 : Below w.heap.size w W0 := by
    rw [← hW0]
    exact (((Below.refl w.heap.size w).alloc (Nat.le_refl _) _).alloc (by simp) _).alloc (by simp; omega) _
  have hxx : Blk W0 w.heap.size 27 #[.string zn, .slice A l.length cA, .slice A2 S.length cS] := by
    rw [← hW0]
    exact ((Blk.new w _ _).alloc _).alloc _
  have htt : Blk W0 (w.heap.size + 1) 80 #[.int .i64 a0, .int .i64 a1] := by
    rw [← hW0]
    have h := (Blk.new (w.alloc (.cells #[.string zn, .slice A l.length cA, .slice A2 S.length cS] 27)) 80 #[.int .i64 a0, .int .i64 a1]).alloc (.cells #[.bool false] 4)
    simpa only [World.size_alloc] using h
  have hrr : Blk W0 (w.heap.size + 2) 4 #[.bool false] := by
    rw [← hW0]
    have h := Blk.new ((w.alloc (.cells #[.string zn, .slice A l.length cA, .slice A2 S.length cS] 27)).alloc (.cells #[.int .i64 a0, .int .i64 a1] 80)) 4 #[.bool false]
    simpa only [World.size_alloc] using h
  have hw0s : W0.heap.size = w.heap.size + 3 := by rw [← hW0]; simp
  have HXX := Lib.hid hxx
  have HTT := Lib.hid htt
  have HRR := Lib.hid hrr
  have hz0 := ZW.mk (he.below hb0) (hs.below hb0) (ha.below hb0 (Nat.le_refl _)) htab (hm.below hb0 (Nat.le_refl _)) hb0.size
  have HF := Lib.hid (right14_any W0 zn _ _ w.heap.size l S hz0 hfm)
  have HZ0 := Lib.hid hz0
  have HB0 := Lib.hid hb0
  have HLET := Lib.hid hlet
  have HW0S := Lib.hid hw0s
  clear hb0 hxx hrr htt he hs hm hlet hfm ha hz0 hw0s
  have HW0 := Lib.hid hW0
  clear hW0
  unfold worldA at *
  refine (callsIn_wide (n := 12)).1 ?_
  refine callsIn_of_wp_marks Tryz.func12 rfl trivial ?_ rfl
  simp only [Tryz.ntmps12, List.size_toArray, List.length_cons, List.length_nil, Nat.reduceAdd, Nat.reduceSub, Array.replicate_succ, Array.replicate_zero, List.push_toArray, List.append_toArray, List.nil_append, List.cons_append]
  refine wpIn_wide.2 ?_
  go_wp2_with fail
  rw [HW0.out]
  try simp only [HW0.out]
  clear HW0
  refine HF.out.mono ?_
  rintro o w1 ⟨⟨u, v, rfl, hR⟩, hb⟩
  have HB1 := Lib.hid hb
  cases hg : goodZ l S with
  | false =>
    clear hR hb HF hg
    go_wp2_with fail
    refine (tawake_any _ ((HZ0.out.below (HB1.out)).maxl)).mono ?_
    rintro o wz ⟨rfl, hbz⟩
    have hbz0 := (HB1.out).trans (hbz.mono (HB1.out).size)
    have hrz := HRR.out.below hbz0 HRR.out.lt
    have gz := hrz.frozen 0
    have cz := hrz.cell 0 (v := .bool false) rfl
    have HBZ := Lib.hid (HB0.out.trans (hbz0.mono HB0.out.size))
    have HRZ := Lib.hid hrz
    clear hbz hbz0 hrz
    go_wp2_with fail
    refine ⟨.bool true, ?_, rfl, HBZ.out.setCell (by show w.heap.size ≤ w.heap.size + 1 + 1; omega) _⟩
    have hc := (HRZ.out.set 0 (.bool true)).cell 0 (v := .bool true) rfl
    simp [results, Tryz.f12, go_sem, hc]
  | true =>
    obtain ⟨R, hRZ, hRM, hNE⟩ := hR hg
    have HFZ := Lib.hid (FewZ.mk (good_iff.1 hg).2 (good_iff.1 hg).1)
    have HFEW := Lib.hid (good_iff.1 hg).1
    have HRZ0 := Lib.hid hRZ
    have HRB := Lib.hid hRM.toB
    have HNE := Lib.hid hNE
    obtain ⟨A3, c3, rfl, -, -⟩ := hRM.form
    obtain ⟨A4, c4, rfl, -, -⟩ := hNE.form
    obtain ⟨nE, hnE⟩ : ∃ n, (endL S l).length = n := ⟨_, rfl⟩
    rw [hnE] at HNE ⊢
    have HNEL := Lib.hid hnE
    have HE1 := Lib.hid (show ErasR w1 w1.heap.size (.slice A l.length cA) l from Sl.more (HZ0.out.eras.below (HB1.out.mono (by have := HB0.out.size; omega))) (Nat.le_trans HB0.out.size HB1.out.size))
    have HN0 := Lib.hid (fun W => near_any a0 W)
    have HN1 := Lib.hid (fun W => near_any a1 W)
    clear hR hb HF hg hRZ hRM hNE hnE
    have hxb := HXX.out.below (HB1.out) HXX.out.lt
    have x0 := hxb.cell 0 (v := .string zn) rfl
    have x1 := hxb.cell 1 (v := .slice A l.length cA) rfl
    have x2 := hxb.cell 2 (v := .slice A2 S.length cS) rfl
    have hxl := hxb.lt
    have htb := HTT.out.below (HB1.out) HTT.out.lt
    have t0 := htb.cell 0 (v := .int .i64 a0) rfl
    have t1 := htb.cell 1 (v := .int .i64 a1) rfl
    have htl := htb.lt
    clear hxb htb
    cases hn0 : nearB a0 with
    | false =>
      rw [hn0] at HN0
      clear hn0
      go_wp2_with fail
      refine (HN0.out _).mono ?_
      rintro o w1 ⟨rfl, rfl⟩
      go_wp2_with fail
      refine (tawake_any _ ((HZ0.out.below (HB1.out)).maxl)).mono ?_
      rintro o wz ⟨rfl, hbz⟩
      have hbz0 := (HB1.out).trans (hbz.mono (HB1.out).size)
      have hrz := HRR.out.below hbz0 HRR.out.lt
      have gz := hrz.frozen 0
      have cz := hrz.cell 0 (v := .bool false) rfl
      have HBZ := Lib.hid (HB0.out.trans (hbz0.mono HB0.out.size))
      have HRZ := Lib.hid hrz
      clear hbz hbz0 hrz
      go_wp2_with fail
      refine ⟨.bool true, ?_, rfl, HBZ.out.setCell (by show w.heap.size ≤ w.heap.size + 1 + 1; omega) _⟩
      have hc := (HRZ.out.set 0 (.bool true)).cell 0 (v := .bool true) rfl
      simp [results, Tryz.f12, go_sem, hc]
    | true =>
      rw [hn0] at HN0
      have HA0 := Lib.hid (nearB_iff.1 hn0)
      clear hn0
      cases hn1 : nearB a1 with
      | false =>
        rw [hn1] at HN1
        clear hn1
        go_wp2_with fail
        refine (HN0.out _).mono ?_
        rintro o w1 ⟨rfl, rfl⟩
        go_wp2_with fail
        refine (HN1.out _).mono ?_
        rintro o w1 ⟨rfl, rfl⟩
        go_wp2_with fail
        refine (tawake_any _ ((HZ0.out.below (HB1.out)).maxl)).mono ?_
        rintro o wz ⟨rfl, hbz⟩
        have hbz0 := (HB1.out).trans (hbz.mono (HB1.out).size)
        have hrz := HRR.out.below hbz0 HRR.out.lt
        have gz := hrz.frozen 0
        have cz := hrz.cell 0 (v := .bool false) rfl
        have HBZ := Lib.hid (HB0.out.trans (hbz0.mono HB0.out.size))
        have HRZ := Lib.hid hrz
        clear hbz hbz0 hrz
        go_wp2_with fail
        refine ⟨.bool true, ?_, rfl, HBZ.out.setCell (by show w.heap.size ≤ w.heap.size + 1 + 1; omega) _⟩
        have hc := (HRZ.out.set 0 (.bool true)).cell 0 (v := .bool true) rfl
        simp [results, Tryz.f12, go_sem, hc]
      | true =>
        rw [hn1] at HN1
        have HA1 := Lib.hid (nearB_iff.1 hn1)
        clear hn1
        have ha0 := HA0.out
        have ha1 := HA1.out
        by_cases hlt : a1 < a0
        · have dlt : decide (a1 < a0) = true := decide_eq_true hlt
          go_wp2_with fail
          refine (HN0.out _).mono ?_
          rintro o w1 ⟨rfl, rfl⟩
          go_wp2_with fail
          refine (HN1.out _).mono ?_
          rintro o w1 ⟨rfl, rfl⟩
          go_wp2_with fail
          refine (tawake_any _ ((HZ0.out.below (HB1.out)).maxl)).mono ?_
          rintro o wz ⟨rfl, hbz⟩
          have hbz0 := (HB1.out).trans (hbz.mono (HB1.out).size)
          have hrz := HRR.out.below hbz0 HRR.out.lt
          have gz := hrz.frozen 0
          have cz := hrz.cell 0 (v := .bool false) rfl
          have HBZ := Lib.hid (HB0.out.trans (hbz0.mono HB0.out.size))
          have HRZ := Lib.hid hrz
          clear hbz hbz0 hrz
          go_wp2_with fail
          refine ⟨.bool true, ?_, rfl, HBZ.out.setCell (by show w.heap.size ≤ w.heap.size + 1 + 1; omega) _⟩
          have hc := (HRZ.out.set 0 (.bool true)).cell 0 (v := .bool true) rfl
          simp [results, Tryz.f12, go_sem, hc]
        · have dlt : decide (a1 < a0) = false := decide_eq_false hlt
          have hM := fun (W : World) (h : Below w1.heap.size w1 W) (t : Int) (ht : -2366841600 < t ∧ t < 3944678400) => make_few zn (.slice A l.length cA) (.slice A2 S.length cS) l S t w.heap.size W (HZ0.out.below (HB1.out.trans (h.mono HB1.out.size))) HFEW.out (few_okR HFEW.out) HLET.out (by omega)
          unfold setsV zoneA worldA MakeEnd at hM
          have HMK0 := Lib.hid (fun (W : World) (h : Below w1.heap.size w1 W) => by have := hM W h a0 ha0; rw [makeErr_few HFEW.out HFZ.out.err (by omega) (by omega)] at this; exact this)
          have HMK1 := Lib.hid (fun (W : World) (h : Below w1.heap.size w1 W) => by have := hM W h a1 ha1; rw [makeErr_few HFEW.out HFZ.out.err (by omega) (by omega)] at this; exact this)
          have HJN := Lib.hid (tab_join HFZ.out (a := a0) (b := a1) (by omega) (by omega) (by omega))
          clear hM
          go_wp2_with fail
          refine (HN0.out _).mono ?_
          rintro o w1 ⟨rfl, rfl⟩
          go_wp2_with fail
          refine (HN1.out _).mono ?_
          rintro o w1 ⟨rfl, rfl⟩
          go_wp2_with fail
          refine (HMK0.out _ (Below.refl _ _)).mono ?_
          rintro o w2 ⟨⟨va, rfl, hm0, -⟩, hb⟩
          have HB2 := Lib.hid (HB1.out.trans (hb.mono HB1.out.size))
          have HL2 := Lib.hid hb
          obtain ⟨TA, hTA⟩ : ∃ T, tabL S l a0 = T := ⟨_, rfl⟩
          rw [hTA] at hm0 HJN
          have HVA := Lib.hid (hm0 (by first | rfl | trivial))
          obtain ⟨Aa, ca, rfl, hla, hcma⟩ := HVA.out.form
          clear hb hm0 x0 x1 x2 hxl t0 t1 htl HMK0
          have hxb := HXX.out.below (HB2.out) HXX.out.lt
          have x0 := hxb.cell 0 (v := .string zn) rfl
          have x1 := hxb.cell 1 (v := .slice A l.length cA) rfl
          have x2 := hxb.cell 2 (v := .slice A2 S.length cS) rfl
          have hxl := hxb.lt
          have htb := HTT.out.below (HB2.out) HTT.out.lt
          have t0 := htb.cell 0 (v := .int .i64 a0) rfl
          have t1 := htb.cell 1 (v := .int .i64 a1) rfl
          have htl := htb.lt
          clear hxb htb
          go_wp2_with fail
          refine (HMK1.out _ HL2.out).mono ?_
          rintro o w3 ⟨⟨vb, rfl, hm0, -⟩, hb⟩
          have HB3 := Lib.hid (HB2.out.trans (hb.mono HB2.out.size))
          obtain ⟨TB, hTB⟩ : ∃ T, tabL S l a1 = T := ⟨_, rfl⟩
          rw [hTB] at hm0 HJN
          have HVB := Lib.hid (hm0 (by first | rfl | trivial))
          obtain ⟨Ab, cb_, rfl, hlb, hcmb⟩ := HVB.out.form
          obtain ⟨P, hP⟩ : ∃ P, changesL S l a0 a1 = P := ⟨_, rfl⟩
          rw [hP] at HJN
          obtain ⟨nB, hnB⟩ : ∃ n, TB.length = n := ⟨_, rfl⟩
          obtain ⟨nA, hnA⟩ : ∃ n, TA.length = n := ⟨_, rfl⟩
          have hlen : nA ≤ nB ∧ nB = nA + P.length := by rw [← hnB, JN_len HJN.out, hnA]; omega
          have HLEN := Lib.hid hlen.2
          have hge := hlen.1
          have HNB := Lib.hid hnB
          have HNA := Lib.hid hnA
          have HVA3 := Lib.hid ((HVA.out.below hb).more hb.size)
          rw [hnB] at HVB hlb ⊢
          rw [hnA] at HVA3 hla ⊢
          have hgt : decide ((nB : Int) < (nA : Int)) = false := decide_eq_false (by omega)
          clear hb hm0 x0 x1 x2 hxl t0 t1 htl HMK1 HVA hlen hnB hnA
          have hb4 : Below w3.heap.size w3 (w3.alloc (.cells #[.slice Ab nB cb_] 81)) := (Below.refl _ _).alloc (Nat.le_refl _) _
          have hbb := Blk.new w3 81 #[.slice Ab nB cb_]
          have hs4 : (w3.alloc (.cells #[.slice Ab nB cb_] 81)).heap.size = w3.heap.size + 1 := by simp
          go_wp2_with fail
          obtain ⟨w4, hw4⟩ : ∃ W, w3.alloc (.cells #[.slice Ab nB cb_] 81) = W := ⟨_, rfl⟩
          rw [hw4] at hb4 hbb hs4
          try rw [hw4]
          try simp only [hw4]
          clear hw4
          have HB4 := Lib.hid (HB3.out.trans (hb4.mono HB3.out.size))
          have HVA4 := Lib.hid ((HVA3.out.below hb4).more hb4.size)
          have HVB4 := Lib.hid ((HVB.out.below hb4).more hb4.size)
          have HBB := Lib.hid hbb
          have HS4 := Lib.hid hs4
          have HSM := Lib.hid (same_any w4 w4.heap.size (.slice Aa nA ca) (.slice Ab nA cb_) TA TA HVA4.out (by
            have h := HVB4.out
            rw [HJN.out, ← HNB.out, HJN.out] at h
            have h2 := chgs_front h
            rw [HNA.out] at h2
            exact h2) (Nat.le_refl _))
          rw [sameB_iff.2 rfl] at HSM
          clear hb4 hbb hs4
          refine HSM.out.mono ?_
          rintro o w5 ⟨rfl, hb⟩
          have HB5 := Lib.hid (HB4.out.trans (hb.mono HB4.out.size))
          have HBB5 := Lib.hid (HBB.out.below hb HBB.out.lt)
          have HVB5 := Lib.hid ((HVB4.out.below hb).more hb.size)
          have hs5 := hb.size
          clear hb HSM
          have hb6 : Below w5.heap.size w5 (w5.alloc (.cells #[.int .i64 nA] 3)) := (Below.refl _ _).alloc (Nat.le_refl _) _
          have hnb := Blk.new w5 3 #[.int .i64 nA]
          have hs6 : (w5.alloc (.cells #[.int .i64 nA] 3)).heap.size = w5.heap.size + 1 := by simp
          obtain ⟨w6, hw6⟩ : ∃ W, w5.alloc (.cells #[.int .i64 nA] 3) = W := ⟨_, rfl⟩
          rw [hw6] at hb6 hnb hs6
          have HB6 := Lib.hid (HB5.out.trans (hb6.mono HB5.out.size))
          have HBB6 := Lib.hid (HBB5.out.below hb6 HBB5.out.lt)
          have HVB6 := Lib.hid (HVB5.out.below hb6)
          have HNB6 := Lib.hid hnb
          have HS6 := Lib.hid hs6
          clear hb6 hnb hs6
          have hxb := HXX.out.below (HB6.out) HXX.out.lt
          have x0 := hxb.cell 0 (v := .string zn) rfl
          have x1 := hxb.cell 1 (v := .slice A l.length cA) rfl
          have x2 := hxb.cell 2 (v := .slice A2 S.length cS) rfl
          have hxl := hxb.lt
          have htb := HTT.out.below (HB6.out) HTT.out.lt
          have t0 := htb.cell 0 (v := .int .i64 a0) rfl
          have t1 := htb.cell 1 (v := .int .i64 a1) rfl
          have htl := htb.lt
          clear hxb htb
          have HCH := Lib.hid (zall_any w6 zn A l.length cA _ (.slice A2 S.length cS) rfl a0)
          unfold setsV zoneA worldA at HCH
          go_wp2_with fail
          clear hw6
          refine HCH.out.mono ?_
          rintro o w7 ⟨cb, hcb, rfl, hb, g0, g1, g2, g3, hs7⟩
          have HB7 := Lib.hid (HB6.out.trans (hb.mono HB6.out.size))
          have HC7 := Lib.hid (And.intro g0 (And.intro g1 (And.intro g2 g3)))
          have HS7 := Lib.hid hs7
          have HBB7 := Lib.hid (HBB6.out.below hb HBB6.out.lt)
          have HVB7 := Lib.hid (HVB6.out.below (hb.mono (by have := HS6.out; omega)))
          have HNB7 := Lib.hid (HNB6.out.below hb HNB6.out.lt)
          have hql : ∀ (W : World) (f : Fn) (ts cs : Array Value), (binOp .eql 86 (.func f ts cs) .nilFunc).run Tryz.prog W = .ok (.bool false) W := fun W f ts cs => run_eql_func_nil W _ f ts cs Tryz.underlying86
          clear hb g0 g1 g2 g3 hs7 x0 x1 x2 hxl t0 t1 htl HCH
          go_wp2_with fail
          have h77 := HS7.out
          have h66 := HS6.out
          have hb5 := HB5.out.size
          have hb0 := HB0.out.size
          have hrl := HRR.out.lt
          have hw0 := HW0S.out
          have h44 := HS4.out
          obtain ⟨LL, hLL⟩ : ∃ L, changesL S l a0 2199023255552 = L := ⟨_, rfl⟩
          obtain ⟨Q, hQ, hQ2⟩ := changes_all HFZ.out (fr := a0) (to := a1) (T := 2199023255552) (by omega) (by omega) (by omega)
          rw [hLL, hP] at hQ
          have HPIN := Lib.hid (show ∀ x ∈ P, x.at_ ≤ a1 from fun x hx => by
            rw [← hP] at hx
            exact ((changes_rep HFZ.out (fr := a0) (to := a1) (by omega) (by omega)).wk.mem x hx).1.2)
          have HQ := Lib.hid hQ
          have HQ2 := Lib.hid hQ2
          clear hP hQ hQ2
          have HLL := Lib.hid hLL
          clear hLL
          refine (wpIn_wide (n := 12)).1 ?_
          refine range_own (α := Chg) rfl (by omega) (gf := 118) (lb := #[.pointer (some ⟨cb + 2, 0, none⟩), .pointer (some ⟨cb, 0, none⟩), .pointer (some ⟨cb + 1, 0, none⟩), .pointer (some ⟨cb + 3, 0, none⟩)]) rfl trivial (enters_of Tryz.func118 (by kernel_rfl) rfl)
            (encs := encC) (R := RC LL w5.heap.size w7) (K := fun k => k = cb + 2 ∨ k < w5.heap.size)
            (fun V hV => by
              rw [← HLL.out]
              exact changes_iter 11 (by omega) _ _ _ _ w.heap.size w5.heap.size w7 W0 zn (.slice A l.length cA) (.slice A2 S.length cS) l S a0 2199023255552 V (HC7.out.1.below hV HC7.out.1.lt) (by have h := HC7.out.2.1.below hV HC7.out.2.1.lt; unfold setsV worldA; exact h) (HC7.out.2.2.1.below hV HC7.out.2.2.1.lt) (HC7.out.2.2.2.below hV HC7.out.2.2.2.lt) ((HZ0.out.below HB7.out).below hV) (few_okR HFEW.out) HLET.out (fun e => endL_few e (fewB_iff.1 HFEW.out).2.1) (by omega) (by omega) ⟨by omega, by omega, by omega, by omega, by omega⟩ (by have := hV.size; omega) ((SameB.refl (by omega)).then_below hV (by omega)) HZ0.out.maxl (by omega))
            (fun _ => rfl) (JoinI w5.heap.size nA P.length) (fun c pre O W => c = .exit 0 ∧ JoinI w5.heap.size nA P.length P O W) (joinI_feet _ _ _) (fun c pre O W W' h hf => ⟨h.1, joinI_feet _ _ _ P O W W' h.2 hf⟩)
            (fun k => k = w5.heap.size) ⟨⟨rfl, Nat.zero_le _⟩, HNB7.out⟩ (fun k hk => by omega) (fun k hk => by omega) (fun k hk h => by omega) ?round ?done ?stop
          case stop =>
            rintro D c pre O V hD - ⟨rfl, ⟨onb, -⟩, hnb⟩ hO hBO hOD hfr hK2
            have HB8 := Lib.hid (show Below W0.heap.size W0 V from HB7.out.trans (hfr.below (by omega) (fun k hk h => by rcases h with h | h <;> omega)))
            have HK2 := Lib.hid hK2
            have HDR := Lib.hid (show D ≠ w.heap.size + 1 + 1 by omega)
            have HDW := Lib.hid (show w.heap.size ≤ D by omega)
            have hbx := HBB7.out.fr hfr (by omega)
            have b0 := hbx.cell 0 (v := .slice Ab nB cb_) rfl
            have hnb2 := hnb
            rw [← HLEN.out] at hnb2
            have n0 := hnb2.cell 0 (v := .int .i64 (nB : Nat)) rfl
            have hbxl := hbx.lt
            have hnl := hnb2.lt
            clear hfr hO hBO hK2 hOD hbx hnb2 hnb
            try refine wpIn_wide.2 ?_
            go_wp2_with fail
            refine (tawake_any _ ((HZ0.out.below (HB8.out)).maxl)).mono ?_
            rintro o wz ⟨rfl, hbz⟩
            have hbz0 := (HB8.out).trans (hbz.mono (HB8.out).size)
            have hrz := HRR.out.below hbz0 HRR.out.lt
            have gz := hrz.frozen 0
            have cz := hrz.cell 0 (v := .bool false) rfl
            have HBZ := Lib.hid (HB0.out.trans (hbz0.mono HB0.out.size))
            have HRZ := Lib.hid hrz
            have HZF := Lib.hid (fin_factsT HK2.out hbz hrz HDR.out true)
            clear hbz hbz0 hrz
            go_wp2_with fail
            refine ⟨by simp, .inl ⟨_, _, rfl, run_takeDeferred HZF.out.1, ?_⟩⟩
            refine ⟨.bool true, ?_, rfl, fin_below (HBZ.out.setCell (by show w.heap.size ≤ w.heap.size + 1 + 1; omega) _) HDW.out⟩
            have hc := HZF.out.2
            simp [results, Tryz.f12, go_sem, hc]
          case done =>
            rintro D xs O V hD hS ⟨⟨onb, hle⟩, hnb⟩ hO hBO hOD hfr hK2
            have hxs : xs.length = P.length := by
              have h1 : xs = LL := by rw [hS, HLL.out]
              have h2 : xs.length = P.length + Q.length := by rw [h1, HQ.out, List.length_append]
              omega
            rw [hxs] at hnb
            clear hxs hle hS
            have HB8 := Lib.hid (show Below W0.heap.size W0 V from HB7.out.trans (hfr.below (by omega) (fun k hk h => by rcases h with h | h <;> omega)))
            have HK2 := Lib.hid hK2
            have HDR := Lib.hid (show D ≠ w.heap.size + 1 + 1 by omega)
            have HDW := Lib.hid (show w.heap.size ≤ D by omega)
            have hbx := HBB7.out.fr hfr (by omega)
            have b0 := hbx.cell 0 (v := .slice Ab nB cb_) rfl
            have hnb2 := hnb
            rw [← HLEN.out] at hnb2
            have n0 := hnb2.cell 0 (v := .int .i64 (nB : Nat)) rfl
            have hbxl := hbx.lt
            have hnl := hnb2.lt
            clear hfr hO hBO hK2 hOD hbx hnb2 hnb
            try refine wpIn_wide.2 ?_
            go_wp2_with fail
            refine (tawake_any _ ((HZ0.out.below (HB8.out)).maxl)).mono ?_
            rintro o wz ⟨rfl, hbz⟩
            have hbz0 := (HB8.out).trans (hbz.mono (HB8.out).size)
            have hrz := HRR.out.below hbz0 HRR.out.lt
            have gz := hrz.frozen 0
            have cz := hrz.cell 0 (v := .bool false) rfl
            have HBZ := Lib.hid (HB0.out.trans (hbz0.mono HB0.out.size))
            have HRZ := Lib.hid hrz
            have HZF := Lib.hid (fin_factsT HK2.out hbz hrz HDR.out true)
            clear hbz hbz0 hrz
            go_wp2_with fail
            refine ⟨by simp, .inl ⟨_, _, rfl, run_takeDeferred HZF.out.1, ?_⟩⟩
            refine ⟨.bool true, ?_, rfl, fin_below (HBZ.out.setCell (by show w.heap.size ≤ w.heap.size + 1 + 1; omega) _) HDW.out⟩
            have hc := HZF.out.2
            simp [results, Tryz.f12, go_sem, hc]
          case round =>
            intro lp pre c O D V hI hBO hBD hDO hR nOl nDl hlow hltl
            obtain ⟨ca, ⟨co, cd, cs⟩⟩ := c
            obtain ⟨hnD, ⟨rest, hrest⟩, hsame⟩ := hR
            have hnx := next_of (HQ.out.symm.trans hrest) HPIN.out HQ2.out hI.1.2
            have HBO := Lib.hid hBO
            have HCV := Lib.hid (Blk.new V 76 #[.int .i64 ca, .int .i64 co, .bool cd, .string cs])
            have HBV := Lib.hid ((Below.refl V.heap.size V).alloc (Nat.le_refl _) (.cells #[.int .i64 ca, .int .i64 co, .bool cd, .string cs] 76))
            have hwV : w5.heap.size ≤ V.heap.size := hsame.size
            have HSM := Lib.hid hsame
            unfold encC chgA
            clear hI hBO hBD hDO hrest hsame
            gi_wp2
            refine ⟨HBV.out, ?_⟩
            intro Vb hfb hIb _ _
            obtain ⟨⟨onb, hle⟩, hnb⟩ := hIb
            have hVb : V.heap.size ≤ Vb.heap.size := Nat.le_trans HBV.out.size hfb.size
            have hC := HCV.out.fr hfb (by omega)
            have hcell : ∀ q : Addr, q.block < w5.heap.size → Vb.cell? q = w7.cell? q := fun q hq => ((hfb.cell (p := q) (Nat.lt_of_lt_of_le (by omega) HBV.out.size) (by omega)).trans (HBV.out.cell (by omega))).trans (HSM.out.cell hq)
            have HCE := Lib.hid hcell
            have HBB2 := Lib.hid (show Bd O Vb from fun k h => Nat.lt_of_lt_of_le (HBO.out k h) hVb)
            have htt := HTT.out.below HB7.out HTT.out.lt
            have t1 : Vb.cell? ⟨w.heap.size + 1, 1, none⟩ = some (.int .i64 a1) := (hcell _ (by show w.heap.size + 1 < _; omega)).trans (htt.cell 1 rfl)
            have b0 : Vb.cell? ⟨w3.heap.size, 0, none⟩ = some (.slice Ab nB cb_) := (hcell _ (by show w3.heap.size < _; omega)).trans (HBB7.out.cell 0 rfl)
            have c0 := hC.cell 0 (v := .int .i64 ca) rfl
            have c1 := hC.cell 1 (v := .int .i64 co) rfl
            have c2 := hC.cell 2 (v := .bool cd) rfl
            have c3_ := hC.cell 3 (v := .string cs) rfl
            have hcl := hC.lt
            have hnl := Blk.lt hnb
            have HNB2 := Lib.hid hnb
            have HC2 := Lib.hid hC
            clear hfb hC hcell htt
            rcases hnx with ⟨hgt, hpl⟩ | ⟨hle2, hpl, hpc⟩
            · have d1 : decide (a1 < ca) = true := decide_eq_true hgt
              have HFI := Lib.hid (show JoinI w5.heap.size nA P.length P O Vb from ⟨⟨onb, Nat.le_refl _⟩, by rw [← hpl]; exact HNB2.out⟩)
              clear hgt hpl hnb
              gi_wp2
              exact ⟨O, fun k h => .inl h, HBB2.out, Fr.refl _ _, rfl, HFI.out⟩
            · have d1 : decide (a1 < ca) = false := decide_eq_false (by omega)
              obtain ⟨nn, hnn⟩ : ∃ n, nA + pre.length = n := ⟨_, rfl⟩
              rw [hnn] at hnb HNB2
              have HNN := Lib.hid hnn
              have hnB : nn < nB := by rw [HLEN.out]; omega
              have htb : ∃ h2 : nn < TB.length, TB[nn] = ⟨ca, ⟨co, cd, cs⟩⟩ := by
                refine ⟨by rw [HNB.out]; exact hnB, ?_⟩
                simp only [HJN.out]
                rw [List.getElem_append_right (by rw [HNA.out]; omega)]
                simp only [HNA.out]
                rw [← hpc]
                congr 1
                omega
              obtain ⟨h2, htb⟩ := htb
              have hvb := HVB7.out
              rw [← HNB.out] at hvb
              obtain ⟨bb, o, cc, e, hbbl, hc⟩ := Chgs.cells hvb (by omega)
              rw [HNB.out] at e
              cases e
              obtain ⟨g0, g1, g2, g3⟩ := hc nn h2
              rw [htb] at g0 g1 g2 g3
              have g0v : Vb.cell? ⟨bb, o + nn * 4, none⟩ = some (.int .i64 ca) := (HCE.out _ (by show bb < _; omega)).trans g0
              have g1v : Vb.cell? ⟨bb, o + nn * 4 + 1, none⟩ = some (.int .i64 co) := (HCE.out _ (by show bb < _; omega)).trans g1
              have g2v : Vb.cell? ⟨bb, o + nn * 4 + 2, none⟩ = some (.bool cd) := (HCE.out _ (by show bb < _; omega)).trans g2
              have g3v : Vb.cell? ⟨bb, o + nn * 4 + 3, none⟩ = some (.string cs) := (HCE.out _ (by show bb < _; omega)).trans g3
              have n0 := hnb.cell 0 (v := .int .i64 (nn : Nat)) rfl
              have HG := Lib.hid (fun (W : World) (h : Below Vb.heap.size Vb W) => show W.cell? ⟨bb, o + nn * 4, none⟩ = some (.int .i64 ca) ∧ W.cell? ⟨bb, o + nn * 4 + 1, none⟩ = some (.int .i64 co) ∧ W.cell? ⟨bb, o + nn * 4 + 2, none⟩ = some (.bool cd) ∧ W.cell? ⟨bb, o + nn * 4 + 3, none⟩ = some (.string cs) ∧ W.cell? ⟨w5.heap.size, 0, none⟩ = some (.int .i64 (nn : Nat)) ∧ W.cell? ⟨w3.heap.size, 0, none⟩ = some (.slice (some ⟨bb, o, none⟩) nB cb_) ∧ W.cell? ⟨V.heap.size, 0, none⟩ = some (.int .i64 ca) ∧ W.cell? ⟨V.heap.size, 1, none⟩ = some (.int .i64 co) ∧ W.cell? ⟨V.heap.size, 2, none⟩ = some (.bool cd) ∧ W.cell? ⟨V.heap.size, 3, none⟩ = some (.string cs) from
                ⟨(h.cell (p := ⟨bb, o + nn * 4, none⟩) (by show bb < _; omega)).trans g0v, (h.cell (p := ⟨bb, o + nn * 4 + 1, none⟩) (by show bb < _; omega)).trans g1v, (h.cell (p := ⟨bb, o + nn * 4 + 2, none⟩) (by show bb < _; omega)).trans g2v, (h.cell (p := ⟨bb, o + nn * 4 + 3, none⟩) (by show bb < _; omega)).trans g3v, (h.cell (p := ⟨w5.heap.size, 0, none⟩) hnl).trans n0, (h.cell (p := ⟨w3.heap.size, 0, none⟩) (by show w3.heap.size < _; omega)).trans b0, (h.cell (p := ⟨V.heap.size, 0, none⟩) hcl).trans c0, (h.cell (p := ⟨V.heap.size, 1, none⟩) hcl).trans c1, (h.cell (p := ⟨V.heap.size, 2, none⟩) hcl).trans c2, (h.cell (p := ⟨V.heap.size, 3, none⟩) hcl).trans c3_⟩)
              have hwd := wide1 lp
              have dge : decide ((nB : Int) ≤ (nn : Int)) = false := decide_eq_false (by omega)
              have dge2 : decide (nB ≤ nn) = false := decide_eq_false (by omega)
              have dlt2 : decide (nn < nB) = true := decide_eq_true hnB
              have hnB2 : (nn : Int) < (nB : Int) := by omega
              have hwr : wrap64 ((nn : Int) + 1) = (nn : Int) + 1 := IntWalk.wrap64_in _ (by unfold maxLen at hcmb; omega)
              clear hnn hpc hle2 g0 g1 g2 g3 hc htb hvb hnb
              gi_wp2
              refine wpIn_env (fin := ?fnjr) (hwd) (by kernel_rfl) [103, 104, 105, 106, 107, 108, 109, 110, 111, 112, 113, 114]
                [.int .i64 nn, .slice (some ⟨bb, o, none⟩) nB cb_, .int .i64 nB, .bool false, .bool false, .agg #[.int .i64 ca, .int .i64 co, .bool cd, .string cs], .slice (some ⟨bb, o, none⟩) nB cb_, .int .i64 nn, .pointer (some ⟨bb, o + nn * 4, none⟩), .agg #[.int .i64 ca, .int .i64 co, .bool cd, .string cs], .bool false, .bool false] (by kernel_rfl) ?finjr ?stepsjr ?nextjr
              case finjr =>
                simp only [putAll, Act.put, List.setIfInBounds_toArray, List.set_cons_succ, List.set_cons_zero]
                rfl
              case stepsjr =>
                refine ⟨.inr ⟨by kernel_rfl, fun w1_ hB_ => ?_⟩, .inr ⟨by kernel_rfl, fun w1_ hB_ => ?_⟩, .inr ⟨by kernel_rfl, fun w1_ hB_ => ?_⟩, .inr ⟨by kernel_rfl, fun w1_ hB_ => ?_⟩, .inr ⟨by kernel_rfl, fun w1_ hB_ => ?_⟩, .inr ⟨by kernel_rfl, fun w1_ hB_ => ?_⟩, .inr ⟨by kernel_rfl, fun w1_ hB_ => ?_⟩, .inr ⟨by kernel_rfl, fun w1_ hB_ => ?_⟩, .inr ⟨by kernel_rfl, fun w1_ hB_ => ?_⟩, .inr ⟨by kernel_rfl, fun w1_ hB_ => ?_⟩, .inr ⟨by kernel_rfl, fun w1_ hB_ => ?_⟩, .inr ⟨by kernel_rfl, fun w1_ hB_ => ?_⟩, trivial⟩
                all_goals
                  obtain ⟨g0_, g1_, g2_, g3_, n0_, b0_, c0_, c1_, c2_, c3__⟩ := HG.out _ hB_
                  go_simp
                  first
                    | exact ⟨rfl, Below.refl _ _⟩
                    | done
                    | (rw [decide_eq_true (by omega)]; exact ⟨rfl, Below.refl _ _⟩)
                    | (rw [decide_eq_false (by omega)]; exact ⟨rfl, Below.refl _ _⟩)
                    | (rw [if_pos (by omega)]; exact ⟨rfl, Below.refl _ _⟩)
                    | (rw [IntWalk.i64_in _ (by omega)]; exact ⟨rfl, Below.refl _ _⟩)
                    | done
              case nextjr =>
              intro W3 hb3
              have HB3_ := Lib.hid hb3
              have hnb3 := HNB2.out.below hb3 HNB2.out.lt
              have n3 := hnb3.cell 0 (v := .int .i64 (nn : Nat)) rfl
              have nf3 := hnb3.frozen 0
              have hnl3 := hnb3.lt
              have HNB3 := Lib.hid hnb3
              clear hb3 hnb3 t1 b0 c0 c1 c2 c3_ n0 g0v g1v g2v g3v
              gi_wp2
              refine ⟨O, fun k h => .inl h, ?_, ?_, ⟨onb, by rw [List.length_append, List.length_singleton]; omega⟩, ?_⟩
              · exact (HBB2.out.fr (Fr.of_below (T := fun _ => True) HB3_.out (Nat.le_refl _))).fr (Fr.setCell (T := fun _ => True) _ 0 _ trivial)
              · exact (Fr.of_below HB3_.out (Nat.le_refl _)).then (Fr.setCell _ 0 _ (.inl onb))
              · have h := HNB3.out.set 0 (.int .i64 ((nn : Int) + 1))
                rw [List.length_append, List.length_singleton, ← Nat.add_assoc, HNN.out, show ((nn + 1 : Nat) : Int) = (nn : Int) + 1 by omega]
                exact h
end Go.Proofs.YteekjfgjmccdnaaGreatDoor
end

section
/- FOpen: From the rows' readings of rules to the words of the walks; the table of days. -/
namespace Go.Proofs.YteekjfgjmccdnaaGreatDoor
open Go Go.ChangeShapes Go.WideShapes Go.ChangeAt Go.RowKit Go.Deep

set_option maxRecDepth 100000
def aheadI : List Int := [0, 31, 59, 90, 120, 151, 181, 212, 243, 273, 304, 334, 365]
/-- What the rows' list gives. -/
theorem ahead_of {W : World} (h : laidMetH Tryz.prog [("meridian/civil.ahead", Rows.laid_meridian_civil_ahead)] W) : Ahead W := fun i hi => by
  have ht : Lib.TabIs Tryz.prog W "meridian/civil.ahead" .i64 aheadI := Lib.tabIs_of_head (rest := []) (g := 0) (by kernel_rfl) (by kernel_rfl) Tryz.underlying175 Tryz.underlying3 (by kernel_rfl) (by kernel_rfl) h
  have hc := ht.cell (g := 0) (by kernel_rfl) i (by simpa [aheadI] using hi)
  rw [hc]
  have : i = 0 ∨ i = 1 ∨ i = 2 ∨ i = 3 ∨ i = 4 ∨ i = 5 ∨ i = 6 ∨ i = 7 ∨ i = 8 ∨ i = 9 ∨ i = 10 ∨ i = 11 ∨ i = 12 := by omega
  rcases this with h | h | h | h | h | h | h | h | h | h | h | h | h <;> subst h <;> rfl
section
variable {H : Type} {enc : TypeId × Value → H} {P : Program} {W : World} {base : Nat} {spare : MemPlace → Bool} {held : Bool}
theorem trod_struct8 {t : TypeId} {f0 f1 f2 f3 f4 f5 f6 f7 : Field} {fuel : Nat} {cs : List Value} {x : DataW H × List MemPlace} (ht : P.underlying t = some (.struct #[f0, f1, f2, f3, f4, f5, f6, f7])) (h : DataW.trod enc P W 0 (fun _ => true) true fuel t cs = some x) :
    ∃ y0 y1 y2 y3 y4 y5 y6 y7 n, cs.length = P.cellsOf t ∧ DataW.trod enc P W 0 (fun _ => true) true n f0.type ((cs.drop f0.offset).take (P.cellsOf f0.type)) = some y0 ∧ DataW.trod enc P W 0 (fun _ => true) true n f1.type ((cs.drop f1.offset).take (P.cellsOf f1.type)) = some y1 ∧
      DataW.trod enc P W 0 (fun _ => true) true n f2.type ((cs.drop f2.offset).take (P.cellsOf f2.type)) = some y2 ∧ DataW.trod enc P W 0 (fun _ => true) true n f3.type ((cs.drop f3.offset).take (P.cellsOf f3.type)) = some y3 ∧ DataW.trod enc P W 0 (fun _ => true) true n f4.type ((cs.drop f4.offset).take (P.cellsOf f4.type)) = some y4 ∧
      DataW.trod enc P W 0 (fun _ => true) true n f5.type ((cs.drop f5.offset).take (P.cellsOf f5.type)) = some y5 ∧ DataW.trod enc P W 0 (fun _ => true) true n f6.type ((cs.drop f6.offset).take (P.cellsOf f6.type)) = some y6 ∧ DataW.trod enc P W 0 (fun _ => true) true n f7.type ((cs.drop f7.offset).take (P.cellsOf f7.type)) = some y7 := by
  obtain ⟨xs, n, _, rfl, hl, hlen, hf⟩ := DataW.trod_struct ht h
  match xs, hlen with
  | [y0, y1, y2, y3, y4, y5, y6, y7], _ => exact ⟨y0, y1, y2, y3, y4, y5, y6, y7, n, hl, by simpa using hf 0 f0 rfl, by simpa using hf 1 f1 rfl, by simpa using hf 2 f2 rfl, by simpa using hf 3 f3 rfl, by simpa using hf 4 f4 rfl, by simpa using hf 5 f5 rfl, by simpa using hf 6 f6 rfl, by simpa using hf 7 f7 rfl⟩
end
section
variable {H : Type} {enc : TypeId × Value → H} {W : World}
theorem trod_day {n : Nat} {cs : List Value} {y : DataW H × List MemPlace} (h : DataW.trod enc Tryz.prog W 0 (fun _ => true) true n 36 cs = some y) : ∃ a b c : Int, cs = [.int .i64 a, .int .i64 b, .int .i64 c] := by
  obtain ⟨y0, y1, y2, k, -, hl, h0, h1, h2⟩ := trod_struct3 Tryz.underlying36 h
  rw [show Tryz.prog.cellsOf 36 = 3 by kernel_rfl] at hl
  obtain ⟨a, e0, _, _⟩ := DataW.trod_int Tryz.underlying3 h0
  obtain ⟨b, e1, _, _⟩ := DataW.trod_int Tryz.underlying3 h1
  obtain ⟨c, e2, _, _⟩ := DataW.trod_int Tryz.underlying3 h2
  match cs, hl with
  | [v0, v1, v2], _ =>
    rw [show Tryz.prog.cellsOf 3 = 1 by kernel_rfl] at e0 e1 e2
    simp at e0 e1 e2
    subst e0 e1 e2
    exact ⟨a, b, c, rfl⟩
theorem trod_clock {n : Nat} {cs : List Value} {y : DataW H × List MemPlace} (h : DataW.trod enc Tryz.prog W 0 (fun _ => true) true n 38 cs = some y) : ∃ a b : Int, cs = [.int .i64 a, .int .i64 b] := by
  obtain ⟨y0, y1, k, -, hl, h0, h1⟩ := trod_struct2 Tryz.underlying38 h
  rw [show Tryz.prog.cellsOf 38 = 2 by kernel_rfl] at hl
  obtain ⟨a, e0, _, _⟩ := DataW.trod_int Tryz.underlying3 h0
  obtain ⟨b, e1, _, _⟩ := DataW.trod_int Tryz.underlying3 h1
  match cs, hl with
  | [v0, v1], _ =>
    rw [show Tryz.prog.cellsOf 3 = 1 by kernel_rfl] at e0 e1
    simp at e0 e1
    subst e0 e1
    exact ⟨a, b, rfl⟩
theorem trod_rul {n : Nat} {cs : List Value} {y : DataW H × List MemPlace} (h : DataW.trod enc Tryz.prog W 0 (fun _ => true) true n 106 cs = some y) : ∃ r : Rul, cs = rulV r ∧ True := by
  obtain ⟨y0, y1, y2, y3, y4, y5, y6, y7, k, hl, h0, h1, h2, h3, h4, h5, h6, h7⟩ := trod_struct8 Tryz.underlying106 h
  rw [show Tryz.prog.cellsOf 106 = 11 by kernel_rfl] at hl
  obtain ⟨nm, e0, _, _⟩ := DataW.trod_string Tryz.underlying9 h0
  obtain ⟨fr, e1, _, _⟩ := DataW.trod_int Tryz.underlying3 h1
  obtain ⟨to, e2, _, _⟩ := DataW.trod_int Tryz.underlying3 h2
  obtain ⟨mo, e3, _, _⟩ := DataW.trod_int Tryz.underlying3 h3
  obtain ⟨dk, dw, dn, e4⟩ := trod_day h4
  obtain ⟨sc, kd, e5⟩ := trod_clock h5
  obtain ⟨sv, e6, _, _⟩ := DataW.trod_int Tryz.underlying3 h6
  obtain ⟨lt, e7, _, _⟩ := DataW.trod_string Tryz.underlying9 h7
  match cs, hl with
  | [v0, v1, v2, v3, v4, v5, v6, v7, v8, v9, v10], _ =>
    rw [show Tryz.prog.cellsOf 3 = 1 by kernel_rfl] at e1 e2 e3 e6
    rw [show Tryz.prog.cellsOf 9 = 1 by kernel_rfl] at e0 e7
    rw [show Tryz.prog.cellsOf 36 = 3 by kernel_rfl] at e4
    rw [show Tryz.prog.cellsOf 38 = 2 by kernel_rfl] at e5
    simp at e0 e1 e2 e3 e4 e5 e6 e7
    obtain ⟨rfl, rfl, rfl⟩ := e4
    obtain ⟨rfl, rfl⟩ := e5
    subst e0 e1 e2 e3 e6 e7
    exact ⟨⟨nm, fr, to, mo, dk, dw, dn, sc, kd, sv, lt⟩, rfl, trivial⟩
instance : Inhabited Rul := ⟨⟨⟨#[]⟩, 0, 0, 0, 0, 0, 0, 0, 0, 0, ⟨#[]⟩⟩⟩
end
end Go.Proofs.YteekjfgjmccdnaaGreatDoor
end

section
/- AOpen: From the rows' readings of eras to the words of the walks. -/
namespace Go.Proofs.YteekjfgjmccdnaaGreatDoor
open Go Go.ChangeShapes Go.WideShapes Go.ChangeAt Go.RowKit Go.Deep

set_option maxRecDepth 100000
section
variable {H : Type} {enc : TypeId × Value → H} {P : Program} {W : World}
theorem trod_struct4 {t : TypeId} {f0 f1 f2 f3 : Field} {fuel : Nat} {cs : List Value} {x : DataW H × List MemPlace} (ht : P.underlying t = some (.struct #[f0, f1, f2, f3])) (h : DataW.trod enc P W 0 (fun _ => true) true fuel t cs = some x) :
    ∃ y0 y1 y2 y3 n, cs.length = P.cellsOf t ∧ DataW.trod enc P W 0 (fun _ => true) true n f0.type ((cs.drop f0.offset).take (P.cellsOf f0.type)) = some y0 ∧ DataW.trod enc P W 0 (fun _ => true) true n f1.type ((cs.drop f1.offset).take (P.cellsOf f1.type)) = some y1 ∧
      DataW.trod enc P W 0 (fun _ => true) true n f2.type ((cs.drop f2.offset).take (P.cellsOf f2.type)) = some y2 ∧ DataW.trod enc P W 0 (fun _ => true) true n f3.type ((cs.drop f3.offset).take (P.cellsOf f3.type)) = some y3 := by
  obtain ⟨xs, n, _, rfl, hl, hlen, hf⟩ := DataW.trod_struct ht h
  match xs, hlen with
  | [y0, y1, y2, y3], _ => exact ⟨y0, y1, y2, y3, n, hl, by simpa using hf 0 f0 rfl, by simpa using hf 1 f1 rfl, by simpa using hf 2 f2 rfl, by simpa using hf 3 f3 rfl⟩
theorem trod_struct6 {t : TypeId} {f0 f1 f2 f3 f4 f5 : Field} {fuel : Nat} {cs : List Value} {x : DataW H × List MemPlace} (ht : P.underlying t = some (.struct #[f0, f1, f2, f3, f4, f5])) (h : DataW.trod enc P W 0 (fun _ => true) true fuel t cs = some x) :
    ∃ y0 y1 y2 y3 y4 y5 n, cs.length = P.cellsOf t ∧ DataW.trod enc P W 0 (fun _ => true) true n f0.type ((cs.drop f0.offset).take (P.cellsOf f0.type)) = some y0 ∧ DataW.trod enc P W 0 (fun _ => true) true n f1.type ((cs.drop f1.offset).take (P.cellsOf f1.type)) = some y1 ∧
      DataW.trod enc P W 0 (fun _ => true) true n f2.type ((cs.drop f2.offset).take (P.cellsOf f2.type)) = some y2 ∧ DataW.trod enc P W 0 (fun _ => true) true n f3.type ((cs.drop f3.offset).take (P.cellsOf f3.type)) = some y3 ∧
      DataW.trod enc P W 0 (fun _ => true) true n f4.type ((cs.drop f4.offset).take (P.cellsOf f4.type)) = some y4 ∧ DataW.trod enc P W 0 (fun _ => true) true n f5.type ((cs.drop f5.offset).take (P.cellsOf f5.type)) = some y5 := by
  obtain ⟨xs, n, _, rfl, hl, hlen, hf⟩ := DataW.trod_struct ht h
  match xs, hlen with
  | [y0, y1, y2, y3, y4, y5], _ => exact ⟨y0, y1, y2, y3, y4, y5, n, hl, by simpa using hf 0 f0 rfl, by simpa using hf 1 f1 rfl, by simpa using hf 2 f2 rfl, by simpa using hf 3 f3 rfl, by simpa using hf 4 f4 rfl, by simpa using hf 5 f5 rfl⟩
end
section
variable {H : Type} {enc : TypeId × Value → H} {W : World}
theorem trod_until {n : Nat} {cs : List Value} {y : DataW H × List MemPlace} (h : DataW.trod enc Tryz.prog W 0 (fun _ => true) true n 40 cs = some y) : ∃ a b c d e f g : Int, cs = [.int .i64 a, .int .i64 b, .int .i64 c, .int .i64 d, .int .i64 e, .int .i64 f, .int .i64 g] := by
  obtain ⟨y0, y1, y2, y3, k, hl, h0, h1, h2, h3⟩ := trod_struct4 Tryz.underlying40 h
  rw [show Tryz.prog.cellsOf 40 = 7 by kernel_rfl] at hl
  obtain ⟨a, e0, _, _⟩ := DataW.trod_int Tryz.underlying3 h0
  obtain ⟨b, e1, _, _⟩ := DataW.trod_int Tryz.underlying3 h1
  obtain ⟨dk, dw, dn, e2⟩ := trod_day h2
  obtain ⟨sc, kd, e3⟩ := trod_clock h3
  match cs, hl with
  | [v0, v1, v2, v3, v4, v5, v6], _ =>
    rw [show Tryz.prog.cellsOf 3 = 1 by kernel_rfl] at e0 e1
    rw [show Tryz.prog.cellsOf 36 = 3 by kernel_rfl] at e2
    rw [show Tryz.prog.cellsOf 38 = 2 by kernel_rfl] at e3
    simp at e0 e1 e2 e3
    obtain ⟨rfl, rfl, rfl⟩ := e2
    obtain ⟨rfl, rfl⟩ := e3
    subst e0 e1
    exact ⟨a, b, dk, dw, dn, sc, kd, rfl⟩
theorem trod_era {n : Nat} {cs : List Value} {y : DataW H × List MemPlace} (h : DataW.trod enc Tryz.prog W 0 (fun _ => true) true n 42 cs = some y) :
    ∃ (e : EraN) (ru f : ByteArray) (en : Bool), cs = [.int .i64 e.off, .string ru, .int .i64 e.save, .string f, .bool en, .int .i64 e.year, .int .i64 e.month, .int .i64 e.dk, .int .i64 e.dw, .int .i64 e.dn, .int .i64 e.sec, .int .i64 e.ak] ∧
      (-9223372036854775808 ≤ e.off ∧ e.off ≤ 9223372036854775807) ∧ (-9223372036854775808 ≤ e.save ∧ e.save ≤ 9223372036854775807) := by
  obtain ⟨y0, y1, y2, y3, y4, y5, k, hl, h0, h1, h2, h3, h4, h5⟩ := trod_struct6 Tryz.underlying42 h
  rw [show Tryz.prog.cellsOf 42 = 12 by kernel_rfl] at hl
  obtain ⟨off, e0, _, w0⟩ := DataW.trod_int Tryz.underlying3 h0
  obtain ⟨ru, e1, _, _⟩ := DataW.trod_string Tryz.underlying9 h1
  obtain ⟨sv, e2, _, w2⟩ := DataW.trod_int Tryz.underlying3 h2
  obtain ⟨f, e3, _, _⟩ := DataW.trod_string Tryz.underlying9 h3
  obtain ⟨en, e4, _⟩ := DataW.trod_bool Tryz.underlying4 h4
  obtain ⟨yr, mo, dk, dw, dn, sc, kd, e5⟩ := trod_until h5
  match cs, hl with
  | [v0, v1, v2, v3, v4, v5, v6, v7, v8, v9, v10, v11], _ =>
    rw [show Tryz.prog.cellsOf 3 = 1 by kernel_rfl] at e0 e2
    rw [show Tryz.prog.cellsOf 9 = 1 by kernel_rfl] at e1 e3
    rw [show Tryz.prog.cellsOf 4 = 1 by kernel_rfl] at e4
    rw [show Tryz.prog.cellsOf 40 = 7 by kernel_rfl] at e5
    simp at e0 e1 e2 e3 e4 e5
    obtain ⟨rfl, rfl, rfl, rfl, rfl, rfl, rfl⟩ := e5
    subst e0 e1 e2 e3 e4
    exact ⟨⟨off, sv, yr, mo, dk, dw, dn, sc, kd⟩, ru, f, en, rfl, wf_i64 w0, wf_i64 w2⟩
end
end Go.Proofs.YteekjfgjmccdnaaGreatDoor
end

section
/- AOpenW: From the rows' readings of worlds (eras, sets of rules) to the words of the walks. -/
namespace Go.Proofs.YteekjfgjmccdnaaGreatDoor
open Go Go.ChangeShapes Go.WideShapes Go.ChangeAt Go.RowKit Go.Deep

set_option maxRecDepth 100000
section
variable {H : Type} {enc : TypeId × Value → H} {P : Program} {W : World}
/-- All that is weighed in a value is within the form's reach. -/
def Light (P : Program) (t : TypeId) (d : DataW H) : Prop := ∀ k ∈ d.weights P t, k ≤ 140737488351232
theorem weightsAll_mem {e : TypeId} : ∀ {l : List (DataW H)} {d : DataW H}, d ∈ l → ∀ k ∈ d.weights P e, k ∈ DataW.weightsAll P e l
  | x :: l, d, h, k, hk => by
    simp only [DataW.weightsAll, List.mem_append]
    rcases List.mem_cons.1 h with rfl | h
    · exact .inl hk
    · exact .inr (weightsAll_mem h k hk)
theorem Light.elem {T E : TypeId} {a b : List (DataW H)} (hT : P.underlying T = some (.slice E)) (h : Light P T (.slice a b)) {d : DataW H} (hd : d ∈ a) : Light P E d := fun k hk => by
  refine h k ?_
  simp only [DataW.weights, hT, List.mem_cons, List.mem_append]
  exact .inr (.inl (weightsAll_mem hd k hk))
theorem Light.part {T : TypeId} {fs : Array Field} {l : List (DataW H)} (hT : P.underlying T = some (.struct fs)) (h : Light P T (.agg l)) {i : Nat} {t : TypeId} {d : DataW H} (ht : (fs.toList.map (·.type))[i]? = some t) (hd : l[i]? = some d) : Light P t d := fun k hk => by
  refine h k ?_
  simp only [DataW.weights, hT]
  exact DataW.weights_mem_each ht hd k hk
theorem Light.str {t : TypeId} {s : List UInt8} (h : Light P t (DataW.lit (H := H) (.string s))) : s.length ≤ 140737488351232 := h _ (by simp [DataW.weights])
/-- A slice, of elements each of which is an a whose cells are f a, and light. -/
theorem open_listW {α : Type} [Inhabited α] (f : α → List Value) (Pr : α → Prop) {T E : TypeId} {C : Nat} (hT : P.underlying T = some (.slice E)) (hC : P.cellsOf E = C) (h0 : 0 < C)
    (hel : ∀ (n : Nat) (cs : List Value) (y : DataW H × List MemPlace), cs.length = C → DataW.trod enc P W 0 (fun _ => true) true n E cs = some y → Light P E y.1 → ∃ a, cs = f a ∧ Pr a)
    {n : Nat} {cs : List Value} {x : DataW H × List MemPlace} (h : DataW.trod enc P W 0 (fun _ => true) true n T cs = some x) (hw : Light P T x.1) : ∃ (v : Value) (l : List α), cs = [v] ∧ Sl W W.heap.size C v l.length (l.flatMap f) ∧ ∀ a ∈ l, Pr a ∧ (f a).length = C := by
  rcases open_slice hT h with ⟨rfl, _⟩ | ⟨a, len, cap, m, k, D, Pl, rfl, _, hl, hm, hmm, rfl, hx⟩
  · exact ⟨_, [], rfl, Sl.nil _ _ _, fun a h => by cases h⟩
  · simp only [if_true] at hmm
    subst hmm
    have hD : ∀ i, i < len → Light P E (D i) := fun i hi => Light.elem hT hw (List.mem_map.2 ⟨i, List.mem_range.2 hi, rfl⟩)
    have each : ∀ i, ∃ q : α, i < len → W.cells? 0 (a.add (i * C)) C = some (f q) ∧ Pr q ∧ (f q).length = C := fun i => by
      by_cases hi : i < len
      · obtain ⟨cs', h1, h2⟩ := hx i (by omega)
        rw [hC] at h1
        obtain ⟨_, hlen, _⟩ := World.cells?_some h1
        obtain ⟨q, rfl, hq⟩ := hel _ _ _ hlen h2 (hD i hi)
        exact ⟨q, fun _ => ⟨h1, hq, hlen⟩⟩
      · exact ⟨default, fun h => absurd h hi⟩
    obtain ⟨Q, hQ⟩ := Classical.axiomOfChoice each
    have hlen : ((List.range len).map Q).length = len := by simp
    have hfl : ∀ b ∈ (List.range len).map Q, Pr b ∧ (f b).length = C := fun b hb => by
      obtain ⟨i, hi, rfl⟩ := List.mem_map.1 hb
      exact ⟨(hQ i (List.mem_range.1 hi)).2.1, (hQ i (List.mem_range.1 hi)).2.2⟩
    refine ⟨_, (List.range len).map Q, rfl, ?_, hfl⟩
    have hfl2 := flat_len f C _ (fun b hb => (hfl b hb).2)
    rw [hlen] at hfl2 ⊢
    refine ⟨_, _, rfl, hl, hm, hfl2, fun hp => ?_⟩
    obtain ⟨b, o, spot⟩ := a
    obtain ⟨_, _, hc0⟩ := World.cells?_some (hQ 0 hp).1
    have h00 := hc0 0 h0
    rw [List.getElem?_eq_getElem (by rw [(hQ 0 hp).2.2]; exact h0)] at h00
    have hspot : spot = none := by simpa [Addr.add] using World.cell?_spot h00
    subst hspot
    refine ⟨b, o, rfl, ?_, fun j u hu => ?_⟩
    · have := World.block_lt_of_cell? W _ h00
      simpa [Addr.add_lit] using this
    · have hj : j < len * C := by
        have := (List.getElem?_eq_some_iff.1 hu).1
        rwa [hfl2] at this
      have hd : j / C < len := Nat.div_lt_of_lt_mul (by rw [Nat.mul_comm]; exact hj)
      have hr : j % C < C := Nat.mod_lt _ h0
      have he : j = j / C * C + j % C := by rw [Nat.mul_comm]; exact (Nat.div_add_mod j C).symm
      obtain ⟨_, hll, hcc⟩ := World.cells?_some (hQ (j / C) hd).1
      have hc := hcc (j % C) hr
      rw [he, flat_at f C _ (fun b hb => (hfl b hb).2) _ _ (by rw [hlen]; exact hd) hr] at hu
      simp only [List.getElem_map, List.getElem_range] at hu
      rw [he]
      have e2 : (some u : Option Value) = some ((f (Q (j / C)))[j % C]'(by omega)) := by rw [← hu]; exact List.getElem?_eq_getElem _
      rw [Option.some.inj e2, ← List.getElem?_eq_getElem]
      simpa [Addr.add_lit, Nat.add_assoc] using hc
end
/-- The package's table, out of a longer list. -/
theorem ahead_in {l : List (String × DataW Unit)} {W : World} (hl : l.filter (fun x => x.1 == "meridian/civil.ahead") = [("meridian/civil.ahead", Rows.laid_meridian_civil_ahead)]) (h : laidMetH Tryz.prog l W) : Ahead W := ahead_of (by rw [← hl]; exact h.filter _)
theorem tab_in {W : World} (h : Ahead W) : 0 < W.heap.size := World.block_lt_of_cell? W _ (h 0 (by decide))
section
variable {H : Type} {enc : TypeId × Value → H} {W : World}
theorem trod_rulW {n : Nat} {cs : List Value} {y : DataW H × List MemPlace} (h : DataW.trod enc Tryz.prog W 0 (fun _ => true) true n 106 cs = some y) (hw : Light Tryz.prog 106 y.1) : ∃ r : Rul, cs = rulV r ∧ r.letter.size ≤ 140737488351232 := by
  obtain ⟨r, rfl, -⟩ := trod_rul h
  refine ⟨r, rfl, ?_⟩
  obtain ⟨xs, m, _, rfl, hl, hlen, hf⟩ := DataW.trod_struct Tryz.underlying106 h
  match xs, hlen with
  | [y0, y1, y2, y3, y4, y5, y6, y7], _ =>
    have h7 := hf 7 _ rfl
    obtain ⟨s, e7, e8, -⟩ := DataW.trod_string Tryz.underlying9 h7
    have h9 : r.letter = s := by
      have e9 : ([.string r.letter] : List Value) = [.string s] := e7
      injection e9 with e9
      injection e9
    have h10 := Light.part Tryz.underlying106 hw (i := 7) (t := 9) (d := y7.1) rfl rfl
    rw [e8] at h10
    have h11 := h10.str
    rw [h9, Lib.size_eq]
    exact h11
theorem trod_eraW {n : Nat} {cs : List Value} {y : DataW H × List MemPlace} (h : DataW.trod enc Tryz.prog W 0 (fun _ => true) true n 42 cs = some y) (hw : Light Tryz.prog 42 y.1) : ∃ x : EraF, cs = x.cells ∧ x.fm.size ≤ 140737488351232 := by
  obtain ⟨e, ru, f, en, rfl, -, -⟩ := trod_era h
  refine ⟨⟨e, ru, f, en⟩, rfl, ?_⟩
  obtain ⟨xs, m, _, rfl, hl, hlen, hf⟩ := DataW.trod_struct Tryz.underlying42 h
  match xs, hlen with
  | [y0, y1, y2, y3, y4, y5], _ =>
    have h7 := hf 3 _ rfl
    obtain ⟨s, e7, e8, -⟩ := DataW.trod_string Tryz.underlying9 h7
    have h9 : f = s := by
      have e9 : ([.string f] : List Value) = [.string s] := e7
      injection e9 with e9
      injection e9
    have h10 := Light.part Tryz.underlying42 hw (i := 3) (t := 9) (d := y3.1) rfl rfl
    rw [e8] at h10
    have h11 := h10.str
    show f.size ≤ _
    rw [h9, Lib.size_eq]
    exact h11
theorem trod_setW {n : Nat} {cs : List Value} {y : DataW H × List MemPlace} (h : DataW.trod enc Tryz.prog W 0 (fun _ => true) true n 95 cs = some y) (hw : Light Tryz.prog 95 y.1) : ∃ s : SetF, cs = s.cells ∧ (Ruls W W.heap.size s.v s.l ∧ letOk s.l) := by
  obtain ⟨xs, m, _, rfl, hl, hlen, hf⟩ := DataW.trod_struct Tryz.underlying95 h
  match xs, hlen with
  | [y0, y1], _ =>
    obtain ⟨s, e0, _, -⟩ := DataW.trod_string Tryz.underlying9 (hf 0 _ rfl)
    have h1 := hf 1 _ rfl
    have h10 := Light.part Tryz.underlying95 hw (i := 1) (t := 52) (d := y1.1) rfl rfl
    obtain ⟨v, l, e1, hs, hl2⟩ := open_listW (C := 11) rulV (fun r => r.letter.size ≤ 140737488351232) Tryz.underlying52 (by kernel_rfl) (by decide) (fun n cs y _ hy hw => trod_rulW hy hw) h1 h10
    rw [show Tryz.prog.cellsOf 95 = 2 by kernel_rfl] at hl
    match cs, hl with
    | [v0, v1], _ =>
      have e2 : ([v0] : List Value) = [.string s] := e0
      have e3 : ([v1] : List Value) = [v] := e1
      injection e2 with e2
      injection e3 with e3
      subst e2 e3
      exact ⟨⟨s, v1, l⟩, rfl, hs, fun r hr => (hl2 r hr).1⟩
/-- A world that came in. -/
theorem open_world {r : Reach} {base : Nat} {v : Value} {d : DataW H} {p : List MemPlace} (hok : Value.okWide Tryz.prog W r base 27 v) (h : DataW.Trod enc Tryz.prog W 0 (fun _ => true) true 27 v d p) (hw : Light Tryz.prog 27 d) :
    ∃ (zn : ByteArray) (ev sv : Value) (l : List EraF) (S : List SetF), v = worldA zn ev sv ∧ ErasR W W.heap.size ev l ∧ SetsR W W.heap.size sv S ∧ (∀ x ∈ l, x.fm.size < 1152921504606846976) ∧ ∀ s ∈ S, letOk s.l := by
  have hu : Tryz.prog.underlying 27 = _ := Tryz.underlying27
  simp only [Value.okWide, hu] at hok
  obtain ⟨cs, rfl, hsz, _⟩ := hok
  obtain ⟨fuel, hg⟩ := h
  obtain ⟨xs, m, _, e0, hl, hlen, hf⟩ := DataW.trod_struct Tryz.underlying27 hg
  clear hg
  match xs, hlen with
  | [y0, y1], _ =>
    injection e0 with e0 e00
    subst e0
    have h0 := hf 0 _ rfl
    have h1 := hf 1 _ rfl
    have w0 := Light.part Tryz.underlying27 hw (i := 0) (t := 24) (d := y0.1) rfl rfl
    have w1 := Light.part Tryz.underlying27 hw (i := 1) (t := 25) (d := y1.1) rfl rfl
    obtain ⟨sv, S, e1, hs, hs2⟩ := open_listW (C := 2) SetF.cells (fun s => Ruls W W.heap.size s.v s.l ∧ letOk s.l) Tryz.underlying25 (by kernel_rfl) (by decide) (fun n cs y _ hy hw => trod_setW hy hw) h1 w1
    obtain ⟨zs, m2, _, e2, hl2, hlen2, hf2⟩ := DataW.trod_struct Tryz.underlying24 h0
    match zs, hlen2 with
    | [z0, z1], _ =>
      rw [e2] at w0
      obtain ⟨zn, e3, _, -⟩ := DataW.trod_string Tryz.underlying9 (hf2 0 _ rfl)
      have w2 := Light.part Tryz.underlying24 w0 (i := 1) (t := 22) (d := z1.1) rfl rfl
      obtain ⟨ev, l, e4, he, he2⟩ := open_listW (C := 12) EraF.cells (fun x => x.fm.size ≤ 140737488351232) Tryz.underlying22 (by kernel_rfl) (by decide) (fun n cs y _ hy hw => trod_eraW hy hw) (hf2 1 _ rfl) w2
      rw [show Tryz.prog.cellsOf 27 = 3 by kernel_rfl] at hl
      obtain ⟨c⟩ := cs
      simp only [Value.cells] at hl
      match c, hl with
      | [v0, v1, v2], _ =>
        have q0 : ([v0] : List Value) = [.string zn] := e3
        have q1 : ([v1] : List Value) = [ev] := e4
        have q2 : ([v2] : List Value) = [sv] := e1
        injection q0 with q0
        injection q1 with q1
        injection q2 with q2
        subst q0 q1 q2
        exact ⟨zn, v1, v2, l, S, rfl, he, ⟨hs, fun s hs3 => (hs2 s hs3).1.1⟩, fun x hx => by have := (he2 x hx).1; omega, fun s hs3 => (hs2 s hs3).1.2⟩
end
end Go.Proofs.YteekjfgjmccdnaaGreatDoor
end

section
/- RowTableJoins: The law TableJoins of package meridianlaw14 holds: for every input the call returns true, and each argument reads afterwards as it read before. Conditions: none beyond the row's own (the listed package-level variables read as the row lists them; the card ties that to the text). -/
namespace Go.Proofs.YteekjfgjmccdnaaGreatDoor.tableJoins
open Go.ChangeShapes Go.WideShapes Go.ChangeAt Go.RowKit
open Go.ChangeMaps (open_string shut_string)
set_option linter.unusedVariables false

theorem own : ownKnob Tryz.prog.godebug = none := by kernel_rfl
theorem laidOut : laidOutB Tryz.prog = true := by kernel_rfl

set_option maxRecDepth 100000 in
/-- What the walk gives, for every argument. -/
theorem contract (H : Type) (enc : TypeId × Value → H) (W : World) (base : Nat) (args : Array Value) (ds gs : List (DataW H)) (before : List MemPlace)
    (hval : ∀ (j : Nat) t v, Tryz.f12.params[j]? = some t → args[j]? = some v → Value.okWide Tryz.prog W .any base t v)
    (hW : DataW.Whole enc Tryz.prog Tryz.f12.params.toList Rows.tableJoinsSpec.vars false W args.toList ds gs before) (hwt : (DataW.weightsEach Tryz.prog (Tryz.f12.params.toList ++ (OpenSpec.ofChange Rows.tableJoinsSpec).bare.plain.varTypes Tryz.prog) (ds ++ gs)).all (· ≤ reachBytes) = true) (hL : laidMetH Tryz.prog Rows.tableJoinsRow.laid W) (hsh : W.ShapedOpen Tryz.prog) :
    Calls Tryz.prog 12 args W fun e W' => ∃ v, e = .returned v ∧ Rows.tableJoinsSpec.post enc Tryz.prog Tryz.f12 false true false false W args v W' := by
  have hW' := hW
  obtain ⟨p, q, hA0, hV, rfl, hfz, hnd⟩ := hW
  have hA : DataW.TrodAll enc Tryz.prog W 0 (fun _ => true) true Tryz.f12.params.toList args.toList ds p := hA0
  rw [Tryz.params12] at hA hval
  obtain ⟨v0, vs0, d0, ds0, p0, q0, hargs, rfl, rfl, h0, r0⟩ := trodAll_cons hA
  obtain ⟨v1, vs1, d1, ds1, p1, q1, rfl, rfl, rfl, h1, r1⟩ := trodAll_cons r0
  obtain ⟨rfl, rfl, rfl⟩ := trodAll_nil r1
  obtain rfl : args = #[v0, v1] := by cases args; simp_all
  obtain ⟨rfl, rfl⟩ := trodVars_none hV
  have k0 := h0
  have lt0 : ∀ x ∈ p0, x.block < W.heap.size := by obtain ⟨m, hm⟩ := k0; exact DataW.trod_lt m _ _ _ hm
  have lw0 : Light Tryz.prog 27 d0 := fun k hk => by have := List.all_eq_true.1 hwt k (DataW.weights_mem_each (j := 0) (t := 27) (d := d0) rfl rfl k hk); exact of_decide_eq_true this
  obtain ⟨zn0, ev0, sv0, l0, s0, rfl, he0, hs0, hf0, ht0⟩ := open_world (hval 0 27 v0 rfl rfl) h0 lw0
  have k1 := h1
  have lt1 : ∀ x ∈ p1, x.block < W.heap.size := by obtain ⟨m, hm⟩ := k1; exact DataW.trod_lt m _ _ _ hm
  obtain ⟨a1, b1, rfl, w1, u1⟩ := open_int2 Tryz.underlying80 Tryz.underlying3 (by kernel_rfl) (by kernel_rfl) (hval 1 80 v1 rfl rfl) h1
  clear hA0
  refine (joins_walk W zn0 ev0 sv0 l0 s0 a1 b1 he0 hs0 hf0 ht0 w1 u1 (ahead_in (by kernel_rfl) hL) (tab_in (ahead_in (by kernel_rfl) hL)) (Tryz.maxL_of hsh)).mono fun e W' ⟨he, bel⟩ => ?_
  subst he
  exact ⟨_, rfl, _, _, _, [], _, [], hW', trodAll_mk1 (shut_bool Tryz.underlying4 _), (trodAll_cons_mk (Below.trod laidOut (by kernel_rfl) (of_decide_eq_true (by kernel_rfl)) k0 bel lt0) (trodAll_cons_mk (Below.trod laidOut (by kernel_rfl) (of_decide_eq_true (by kernel_rfl)) k1 bel lt1) trodAll_mk0)), rfl, bel.frame _, fun h => by cases h⟩

/-- A world for the witness: the settled one, the listed variables holding what their initialisers lay. -/
noncomputable def laidWorld (os : Os) : World :=
  World.laidAll Tryz.prog os Rows.tableJoinsRow.laid
theorem laid_met (os : Os) : laidMet Tryz.prog Rows.tableJoinsRow.laid ((laidWorld os).forCall (fun _ _ => 0) ⟨#[], #[.agg #[.string ⟨#[]⟩, .slice none 0 0, .slice none 0 0], .agg #[.int .i64 0, .int .i64 0]], []⟩).memory :=
  laidMet_laidAll _ (by kernel_rfl) (by kernel_rfl)
theorem reads (os : Os) {H : Type} (enc : TypeId × Value → H) : ∃ places, DataW.whole enc Tryz.prog ((laidWorld os).forCall (fun _ _ => 0) ⟨#[], #[.agg #[.string ⟨#[]⟩, .slice none 0 0, .slice none 0 0], .agg #[.int .i64 0, .int .i64 0]], []⟩).memory Tryz.f12.params.toList Rows.tableJoinsSpec.vars false (#[.agg #[.string ⟨#[]⟩, .slice none 0 0, .slice none 0 0], .agg #[.int .i64 0, .int .i64 0]] : Array Value).toList 8 = some ([.agg [.agg [.lit (.string []), .nil], .nil], .agg [.lit (.int .i64 0), .lit (.int .i64 0)]], [], places) :=
  ⟨[], by kernel_rfl⟩

set_option maxRecDepth 100000 in
theorem lifted (os : Os) (started : os.Started) (H : Type) (enc : TypeId × Value → H) (F : Stop.Interp) :
    ReturnsInHanded {} Tryz.checked os 12 .any ((OpenSpec.ofChange Rows.tableJoinsSpec).preRow enc Tryz.prog Tryz.f12 Rows.tableJoinsRow.domain false Rows.tableJoinsRow.laid) (((OpenSpec.ofChange Rows.tableJoinsSpec).at F).post enc Tryz.prog Tryz.f12 false true false false) := by
  obtain ⟨places, hx⟩ := reads os enc
  refine returnsInHanded_of_row (C := Tryz.checked) (s := OpenSpec.ofChange Rows.tableJoinsSpec) own started (by kernel_rfl) Tryz.func12
    (witness_row_at (enc := enc) (C := Tryz.checked) false (laidWorld os) #[.agg #[.string ⟨#[]⟩, .slice none 0 0, .slice none 0 0], .agg #[.int .i64 0, .int .i64 0]] (World.laidAll_os _ _ _) (by kernel_rfl) (by kernel_rfl) (by kernel_rfl)
      (OpenSpec.preRow_of_cond 8 hx (by kernel_rfl) (fun k hk => by cases hk) (by kernel_rfl) (laid_met os))) ?_
  intro W base args ds gs before hval hW _ _ hwt hL hsh _
  exact contract H enc W base args ds gs before hval hW hwt hL hsh

theorem said : Rows.TableJoinsSaid :=
  OpenClaim.holds_of_cond 12 Tryz.f12 rfl rfl rfl rfl rfl rfl rfl ⟨rfl, rfl, rfl, rfl, rfl⟩ rfl rfl rfl rfl rfl (by kernel_rfl) Tryz.func12 (by kernel_rfl)
    (of_decide_eq_true (by kernel_rfl)) (by unfold Func.isWrapper; first | (rw [if_pos (by decide +kernel)]; kernel_rfl) | (rw [if_neg (by decide +kernel)]; exact ⟨rfl, rfl⟩))
    (fun os started H enc _ F => by rw [OpenClaim.pre_eq_preRow]; exact lifted os started H enc F)

theorem plain (f : FuncId) (fn : Func) (hf : Tryz.pinned.checked.prog.funcNamed "meridian/meridianlaw14.TableJoins" = some f) (hfn : Tryz.pinned.checked.prog.funcs[f]? = some fn) :
    false = Tryz.pinned.checked.prog.looks [] ∧ ∀ (j : Nat) t, fn.params[j]? = some t → Tryz.pinned.checked.prog.wantsStandIn t = false := by
  obtain rfl : f = 12 := Option.some.inj ((show Tryz.prog.funcNamed "meridian/meridianlaw14.TableJoins" = some 12 by kernel_rfl).symm.trans hf) |>.symm
  obtain rfl : fn = Tryz.f12 := (Option.some.inj (Tryz.func12.symm.trans hfn)).symm
  refine ⟨by kernel_rfl, fun j t ht => ?_⟩
  rw [Tryz.params12] at ht
  have hall : ∀ t ∈ [27, 80], Tryz.prog.wantsStandIn t = false := by
    intro t ht
    simp only [List.mem_cons, List.not_mem_nil, or_false] at ht
    rcases ht with rfl | rfl
    all_goals kernel_rfl
  exact hall t (by simpa using Array.mem_of_getElem? ht)

/-- THE CARD. -/
theorem card : Rows.TableJoinsCardSaid :=
  Claim7.holds_tied_plain_at .later [] _ _ _ _ said (fun _ h => by cases h) (by kernel_rfl) (fun _ h => by cases h) tableJoins_row_tie rfl ⟨rfl, rfl⟩ (by kernel_rfl) rfl plain (by kernel_rfl)
#print axioms card
end Go.Proofs.YteekjfgjmccdnaaGreatDoor.tableJoins
end
