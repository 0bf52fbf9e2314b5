/-
  Layer 14's Make at a zone of one era without rules: its table has one row.
-/
import Derived.Test.YtekeaphbmkfogaaGreatDoorTChanges
namespace Go.Proofs.YtekeaphbmkfogaaGreatDoor
open Go Go.RowKit Go.Shelf
set_option maxRecDepth 100000

/-- A table of one row. -/
def MakeOne (w : World) (i off : Int) (d : Bool) (s : ByteArray) (o : Ending) (w' : World) : Prop :=
  ∃ blk, w.heap.size ≤ blk ∧ o = .returned (.tuple #[.slice (some ⟨blk, 0, none⟩) 1 1, .int .i64 0]) ∧ Blk w' blk 45 #[.int .i64 i, .int .i64 off, .bool d, .string s] ∧ Below w.heap.size w w'
set_option maxHeartbeats 2000000 in
theorem make_one (nm : ByteArray) (b : Nat) (g : Fn) (ts cs : Array Value) (e : EraN) (f : ByteArray) (t : Int) (w : World) (hs : f.size < 4294967281) (hm : Tryz.MaxL w) (he : OneE w b e f) (h1 : -2199023255552 ≤ t) (h2 : t ≤ 2199023255552) (h0 : errP e f.data.toList = 0) (s : ByteArray) (hsh : Shows f (e.off + e.save) (dstB e.save) ⟨#[]⟩ s 0) :
    Calls Tryz.prog 13 #[oneZ nm b, .func g ts cs, .int .i64 t] w (MakeOne w (-2199023255552) (e.off + e.save) (dstB e.save) s) := by
  have hb0 : Below w.heap.size w (w.alloc (.cells #[.string nm, .slice (some ⟨b, 0, none⟩) 1 1] 24)) := (Below.refl _ _).alloc (Nat.le_refl _) _
  have hz0 := Blk.new w 24 #[.string nm, .slice (some ⟨b, 0, none⟩) 1 1]
  have hm0 := hm.below hb0 (Nat.le_refl _)
  have he0 : OneE _ b e f := Blk.below he hb0 (Blk.lt he)
  have HC := Lib.hid (checkZ_one nm b g ts cs e f _ hs hm0 he0)
  rw [h0] at HC
  unfold oneZ at HC ⊢
  refine (callsIn_wide (n := 12)).1 ?_
  refine callsIn_of_wp_marks Tryz.func13 rfl trivial ?_ rfl
  simp only [Tryz.ntmps13, List.size_toArray, List.length_cons, List.length_nil, Nat.reduceAdd, Nat.reduceSub, Array.replicate_succ, Array.replicate_zero, List.push_toArray, List.append_toArray, List.nil_append, List.cons_append]
  refine wpIn_wide.2 ?_
  go_wp2_with fail
  refine HC.out.mono ?_
  rintro o w1 ⟨rfl, hb⟩
  have hm1 := hm0.below hb (Nat.le_refl _)
  have he1 : OneE w1 b e f := Blk.below he0 hb (Blk.lt he0)
  have hz1 := hz0.below hb hz0.lt
  have hb1 := hb0.trans (hb.mono hb0.size)
  have z0 := hz1.cell 0 (v := .string nm) rfl
  have z1 := hz1.cell 1 (v := .slice (some ⟨b, 0, none⟩) 1 1) rfl
  clear HC hb hb0 hz0 hm0 he0
  have HM := Lib.hid hm1
  have HE := Lib.hid he1
  have HZ := Lib.hid hz1
  have HB := Lib.hid hb1
  clear hm1 he1 hz1 hb1
  go_wp2_with fail
  refine (first_one nm b g ts cs e f (-2199023255552) _ hs HM.out HE.out (by omega) (by omega) h0 s hsh).mono ?_
  rintro o w2 ⟨rfl, hb⟩
  have HM2 := Lib.hid (HM.out.below hb (Nat.le_refl _))
  have he2 : OneE w2 b e f := Blk.below HE.out hb (Blk.lt HE.out)
  have HE2 := Lib.hid he2
  have hz2 := HZ.out.below hb HZ.out.lt
  have HB2 := Lib.hid (HB.out.trans (hb.mono HB.out.size))
  have lz := hz2.lt
  clear z0 z1 hb HM HE HZ HB he2
  have z0 := hz2.cell 0 (v := .string nm) rfl
  have z1 := hz2.cell 1 (v := .slice (some ⟨b, 0, none⟩) 1 1) rfl
  have HZ2 := Lib.hid hz2
  clear hz2
  have HSH := Lib.hid hsh
  clear hsh
  generalize hd : dstB e.save = d at *
  generalize hoff : e.off + e.save = off at *
  have HD := Lib.hid hd
  have HOFF := Lib.hid hoff
  clear hd hoff
  have lz1 : w.heap.size < w2.heap.size + 1 := by omega
  have lz2 : w.heap.size < w2.heap.size + 1 + 1 := by omega
  go_wp2_with fail
  have hb3 : Below w2.heap.size w2 (((w2.alloc (.cells #[.int .i64 (-2199023255552), .int .i64 off, .bool d, .string s] 45)).alloc (.cells #[.int .i64 (-2199023255552), .int .i64 off, .bool d, .string s] 45)).alloc (.cells #[.slice (some ⟨w2.heap.size + 1, 0, none⟩) 1 1] 36)) := (((Below.refl _ _).alloc (Nat.le_refl _) _).alloc (by simp) _).alloc (by simp; omega) _
  have hR := Blk.new (w2.alloc (.cells #[.int .i64 (-2199023255552), .int .i64 off, .bool d, .string s] 45)) 45 #[.int .i64 (-2199023255552), .int .i64 off, .bool d, .string s]
  have hT := Blk.new ((w2.alloc (.cells #[.int .i64 (-2199023255552), .int .i64 off, .bool d, .string s] 45)).alloc (.cells #[.int .i64 (-2199023255552), .int .i64 off, .bool d, .string s] 45)) 36 #[.slice (some ⟨w2.heap.size + 1, 0, none⟩) 1 1]
  have hR3 := hR.alloc (.cells #[.slice (some ⟨w2.heap.size + 1, 0, none⟩) 1 1] 36)
  simp only [World.size_alloc] at hR3 hT
  obtain ⟨w3, hw3⟩ : ∃ w3, (((w2.alloc (.cells #[.int .i64 (-2199023255552), .int .i64 off, .bool d, .string s] 45)).alloc (.cells #[.int .i64 (-2199023255552), .int .i64 off, .bool d, .string s] 45)).alloc (.cells #[.slice (some ⟨w2.heap.size + 1, 0, none⟩) 1 1] 36)) = w3 := ⟨_, rfl⟩
  rw [hw3] at hb3 hR3 hT ⊢
  clear hw3 hR z0 z1
  refine (changes_any nm b g ts cs (-2199023255552) t w3).mono ?_
  rintro o w4 ⟨rfl, hb4, hz4, hsb4, hfb4, htb4⟩
  have hb24 := hb3.trans (hb4.mono hb3.size)
  have hm4 := HM2.out.below hb24 (Nat.le_refl _)
  have he4 : OneE w4 b e f := Blk.below HE2.out hb24 (Blk.lt HE2.out)
  have hbl3 : b < w3.heap.size := Nat.lt_of_lt_of_le (Blk.lt HE2.out) hb3.size
  have hR4 := hR3.below hb4 hR3.lt
  have hT4 := hT.below hb4 hT.lt
  have hb04 := HB2.out.trans (hb24.mono HB2.out.size)
  have hs3 := hb3.size
  have htl := hT.lt
  have hm3 := HM2.out.below hb3 (Nat.le_refl _)
  have hs44 := htb4.lt
  clear hb24 hb3 hR3 hT HZ2 HM2 HE2
  go_wp2_with fail
  refine (wpIn_wide (n := 12)).1 ?_
  refine range_own (α := Nat) rfl (by omega) (gf := 48) (lb := #[.pointer (some ⟨w3.heap.size + 2, 0, none⟩), .pointer (some ⟨w3.heap.size, 0, none⟩), .pointer (some ⟨w3.heap.size + 1, 0, none⟩), .pointer (some ⟨w3.heap.size + 3, 0, none⟩)]) rfl trivial (enters_of Tryz.func48 (by kernel_rfl) rfl)
    (encs := fun _ => #[undef]) (R := fun _ _ _ _ => False)
    (fun W' hW' => changes1_none 11 (by omega) _ _ _ _ b nm g ts cs e f (-2199023255552) t W' hs (fun W'' hb'' => hm3.below ((hb4.trans ((hW'.mono (Nat.le_of_lt (by omega))).trans (hb''.mono (by omega)))).mono (Nat.le_refl _)) (Nat.le_refl _)) h0 (by omega) (by omega) h1 h2 s (by rw [HOFF.out, HD.out]; exact HSH.out) (hz4.below hW' hz4.lt) (hsb4.below hW' hsb4.lt) (hfb4.below hW' hfb4.lt) (htb4.below hW' htb4.lt) (by omega) (by omega) (by omega) (by omega) (Blk.below he4 hW' (Blk.lt he4)) _ _)
    (fun _ => rfl) (fun _ _ _ => True) (fun _ _ _ _ => False) (fun _ _ _ _ h _ => h) (fun _ _ _ _ _ h _ => h) (fun _ => False) trivial (fun k hk => hk.elim) (fun k hk => ?_) (fun _ _ h => h) ?round ?done ?stop
  · have := hfb4.lt
    omega
  case stop =>
    intro _ _ _ _ _ _ h
    exact h.elim
  case round =>
    intro lp2 pre k O2 D W3 hI hBO hBD hDO hR
    exact hR.elim
  case done =>
    intro D xs O2 W3 hD hS hI hO2 hBO hOD hfr hK2
    have hF : Fr (fun k => k = w3.heap.size + 2) w4 W3 := hfr.mono fun k hk => by
      rcases hk with h | h
      · exact h.elim
      · exact .inl h
    have hR5 := hR4.fr hF (by omega)
    have hT5 := hT4.fr hF (by omega)
    have t0 := hT5.cell 0 (v := .slice (some ⟨w2.heap.size + 1, 0, none⟩) 1 1) rfl
    have hb5 := hb04.trans (hF.below hb04.size (fun k hk h => by omega))
    have HK := Lib.hid hK2
    have HR5 := Lib.hid hR5
    have HB5 := Lib.hid hb5
    clear hF hR5 hT5 hb5 hfr hK2 hR4 hT4 hb04
    have hl2 : w.heap.size < w2.heap.size := lz
    clear lz lz1 lz2
    go_wp2_with fail
    refine ⟨by simp, .inl ⟨_, _, rfl, run_takeDeferred HK.out, ?_⟩⟩
    refine ⟨.tuple #[.slice (some ⟨w2.heap.size + 1, 0, none⟩) 1 1, .int .i64 0], by simp [results, Tryz.f13, go_sem], w2.heap.size + 1, by omega, rfl, ?_, fin_below HB5.out (by omega)⟩
    exact HR5.out.fr (Fr.putObj (T := fun k => k = D) _ _ rfl) (by omega)
/-- The same, of what is in memory behind it. -/
theorem MakeOne.below {w w' W : World} {i off : Int} {d : Bool} {s : ByteArray} {o : Ending} (h : MakeOne w i off d s o w') (hb : Below w'.heap.size w' W) : MakeOne w i off d s o W := by
  obtain ⟨blk, h1, h2, h3, h4⟩ := h
  exact ⟨blk, h1, h2, h3.below hb h3.lt, h4.trans (hb.mono h4.size)⟩
end Go.Proofs.YtekeaphbmkfogaaGreatDoor
