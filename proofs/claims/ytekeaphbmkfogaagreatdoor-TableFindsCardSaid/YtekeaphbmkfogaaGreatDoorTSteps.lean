/-
  Layer 14's steps at a zone of one era without rules: there is none.
-/
import Derived.Test.YtekeaphbmkfogaaGreatDoorNSpans
namespace Go.Proofs.YtekeaphbmkfogaaGreatDoor
open Go Go.RowKit Go.Shelf
attribute [local go_sem] Oper.semAt_some
set_option maxRecDepth 100000

theorem rules_plain (sv : Value) (e : EraN) (f : ByteArray) (w : World) :
    Calls Tryz.prog 66 #[eraPA e f, sv] w fun o w' => o = .returned (.slice none 0 0) ∧ Below w.heap.size w w' := by
  unfold eraPA eraP
  go_enter Tryz.func66, Tryz.ntmps66
  go_wp2_with fail
  go_ret
  exact ⟨rfl, (Below.refl _ _).alloc (Nat.le_refl _) _⟩
/-- What the loop over the eras keeps. -/
def StI (sb fb tb : Nat) (sv : Value) (a t : Int) (J : (Nat → Prop) → World → Prop) (Oa : Nat → Prop) (_ : List Unit) (O : Nat → Prop) (W : World) : Prop :=
  (∀ k, Oa k → O k) ∧ (O sb ∧ O fb ∧ O tb) ∧ J Oa W ∧ Blk W sb 82 #[sv] ∧ Blk W fb 3 #[.int .i64 a] ∧ Blk W tb 3 #[.int .i64 t]
theorem stI_feet (sb fb tb : Nat) (sv : Value) (a t : Int) (J : (Nat → Prop) → World → Prop) (hJ : ∀ O W W', J O W → Fr (fun k => ¬ O k) W W' → J O W') (Oa : Nat → Prop) : Feet (StI sb fb tb sv a t J Oa) := by
  rintro pre O W W' ⟨h0, ⟨o1, o2, o3⟩, h1, h2, h3, h4⟩ hf
  exact ⟨h0, ⟨o1, o2, o3⟩, hJ _ _ _ h1 (hf.mono fun k hk => .inl fun h => hk (h0 k h)), h2.fr hf (fun h => h o1), h3.fr hf (fun h => h o2), h4.fr hf (fun h => h o3)⟩
set_option maxHeartbeats 2000000 in
theorem steps1_none (n : Nat) (hn : 4 ≤ n) (zb sb fb tb b : Nat) (nm : ByteArray) (g : Fn) (ts cs : Array Value) (e : EraN) (f : ByteArray) (a t : Int) (W : World) (hs : f.size < 4294967281) (hm : Tryz.MaxL W) (h0 : errP e f.data.toList = 0)
    (ha : -2199023255552 ≤ a) (ha2 : a < 2199023255552) (ht : -2199023255552 ≤ t) (ht2 : t ≤ 2199023255552)
    (hz : Blk W zb 24 #[.string nm, .slice (some ⟨b, 0, none⟩) 1 1]) (hsb : Blk W sb 82 #[.func g ts cs]) (hfb : Blk W fb 3 #[.int .i64 a]) (htb : Blk W tb 3 #[.int .i64 t]) (he : OneE W b e f) (encs : Nat → Array Value) (R : List Nat → Nat → (Nat → Prop) → World → Prop) :
    Iter Fence.wide n Tryz.prog 64 #[.pointer (some ⟨zb, 0, none⟩), .pointer (some ⟨sb, 0, none⟩), .pointer (some ⟨fb, 0, none⟩), .pointer (some ⟨tb, 0, none⟩)] encs R (fun xs : List Nat => xs = []) (fun _ => False) (fun k => k = sb ∨ k = fb ∨ k = tb) (fun k => k = sb ∨ k = fb ∨ k = tb) W := by
  intro lp J Jx fJ fx hY O hJ hO hK
  have z0 := hz.cell 0 (v := .string nm) rfl
  have z1 := hz.cell 1 (v := .slice (some ⟨b, 0, none⟩) 1 1) rfl
  have s0 := hsb.cell 0 (v := .func g ts cs) rfl
  have hzl := hz.lt
  have hsl := hsb.lt
  show CallsIn Fence.wide n Tryz.prog 64 #[.func (.yield lp) #[] #[], .pointer (some ⟨zb, 0, none⟩), .pointer (some ⟨sb, 0, none⟩), .pointer (some ⟨fb, 0, none⟩), .pointer (some ⟨tb, 0, none⟩)] W _
  refine callsIn_of_wp_marks Tryz.func64 rfl trivial ?_ rfl
  simp only [Tryz.ntmps64, List.size_toArray, List.length_cons, List.length_nil, Nat.reduceAdd, Nat.reduceSub, Array.replicate_succ, Array.replicate_zero, List.push_toArray, List.append_toArray, List.nil_append, List.cons_append]
  gi_wp2
  refine wpIn_scope ?_
  gi_wp2
  refine wpIn_label ?_
  gi_wp2
  have hb1 : Below W.heap.size W (W.alloc (.cells #[.func (.yield lp) #[] #[]] 111)) := (Below.refl _ _).alloc (Nat.le_refl _) _
  have hm1 := hm.below hb1 (Nat.le_refl _)
  have he1 : OneE _ b e f := Blk.below he hb1 (Blk.lt he)
  have hsb1 := hsb.below hb1 hsb.lt
  have hfb1 := hfb.below hb1 hfb.lt
  have htb1 := htb.below hb1 htb.lt
  have hfl := hfb.lt
  have htl := htb.lt
  have HFJ := Lib.hid fJ
  obtain ⟨W1, hW1⟩ : ∃ W1, W.alloc (.cells #[.func (.yield lp) #[] #[]] 111) = W1 := ⟨_, rfl⟩
  have hz1s : W.heap.size < W1.heap.size := by rw [← hW1]; simp
  rw [hW1] at hb1 hm1 he1 hsb1 hfb1 htb1 ⊢
  clear hW1 z0 z1 s0
  refine ⟨trivial, fun _ => by omega, (callsIn_wide.2 (spans_any _ _ nm b g ts cs _ rfl rfl)).mono ?_⟩
  rintro o w2 ⟨rfl, hb2, hz2, hs2⟩
  have hm2 := hm1.below hb2 (Nat.le_refl _)
  have he2 : OneE w2 b e f := Blk.below he1 hb2 (Blk.lt he1)
  have hsb2 := hsb1.below hb2 hsb1.lt
  have hfb2 := hfb1.below hb2 hfb1.lt
  have htb2 := htb1.below hb2 htb1.lt
  have hbw := hb1.trans (hb2.mono hb1.size)
  gi_wp2
  refine range_own (α := Unit) rfl (by omega) (gf := 85) (lb := #[.pointer (some ⟨W1.heap.size, 0, none⟩), .pointer (some ⟨W1.heap.size + 1, 0, none⟩)]) rfl trivial (enters_of Tryz.func85 (by kernel_rfl) rfl)
    (fun W' hW' => spans1_one (n - 1) (by omega) _ _ b nm g ts cs e f W' hs (hm2.below hW' (Nat.le_refl _)) h0 (hz2.below hW' hz2.lt) (hs2.below hW' hs2.lt) (Blk.below he2 hW' (Blk.lt he2)))
    (fun _ => rfl) (StI sb fb tb (.func g ts cs) a t (J []) O) (fun _ _ _ _ => False) (stI_feet sb fb tb (.func g ts cs) a t (J []) (fun O W W' h hf => fJ [] O W W' h hf) O) (fun _ _ _ _ _ h _ => h) (fun k => O k ∨ k = sb ∨ k = fb ∨ k = tb)
    ⟨fun k h => .inl h, ⟨.inr (.inl rfl), .inr (.inr (.inl rfl)), .inr (.inr (.inr rfl))⟩, fJ _ _ _ _ hJ (Fr.of_below hbw (Nat.le_refl _)), hsb2, hfb2, htb2⟩ (fun k hk => ?_) (fun k hk => hk.elim) (fun k hk => hk.elim) ?round ?done ?stop
  · have := hbw.size
    rcases hk with h | h | h | h
    · have := hO k h; omega
    · omega
    · omega
    · omega
  case stop =>
    intro _ _ _ _ _ _ _ h
    exact h.elim
  case round =>
    intro lp2 pre k O2 D W3 hI hBO hBD hDO hR nOl nDl hlow hltl
    obtain ⟨-, hnD⟩ := hR
    clear hI hBD hDO
    unfold eraPA eraP
    gi_wp2
    have hA := (Blk.new W3 78 #[.int .i64 e.off, .string ⟨#[]⟩, .int .i64 e.save, .string f, .bool false, .int .i64 e.year, .int .i64 e.month, .int .i64 e.dk, .int .i64 e.dw, .int .i64 e.dn, .int .i64 e.sec, .int .i64 e.ak]).alloc (.cells #[.int .i64 (-2199023255553), .int .i64 2199023255553] 28)
    have hT := Blk.new (W3.alloc (.cells #[.int .i64 e.off, .string ⟨#[]⟩, .int .i64 e.save, .string f, .bool false, .int .i64 e.year, .int .i64 e.month, .int .i64 e.dk, .int .i64 e.dw, .int .i64 e.dn, .int .i64 e.sec, .int .i64 e.ak] 78)) 28 #[.int .i64 (-2199023255553), .int .i64 2199023255553]
    rw [World.size_alloc] at hT
    have hbel2 : Below W3.heap.size W3 ((W3.alloc (.cells #[.int .i64 e.off, .string ⟨#[]⟩, .int .i64 e.save, .string f, .bool false, .int .i64 e.year, .int .i64 e.month, .int .i64 e.dk, .int .i64 e.dw, .int .i64 e.dn, .int .i64 e.sec, .int .i64 e.ak] 78)).alloc (.cells #[.int .i64 (-2199023255553), .int .i64 2199023255553] 28)) := ((Below.refl _ _).alloc (Nat.le_refl _) _).alloc (by simp) _
    refine ⟨hbel2, ?_⟩
    intro Wb hfb3 hIb _
    obtain ⟨hI0, ⟨o1, o2, o3⟩, hJb, hsbb, hfbb, htbb⟩ := hIb
    have hAb : OneE Wb W3.heap.size e f := hA.fr hfb3 (by omega)
    have hTb := hT.fr hfb3 (by omega)
    have hBO2 := hBO.fr ((Fr.of_below (T := fun k => k = lp2) hbel2 (Nat.le_refl _)).then hfb3)
    have s0 := hsbb.cell 0 (v := .func g ts cs) rfl
    have f0 := hfbb.cell 0 (v := .int .i64 a) rfl
    have t0 := htbb.cell 0 (v := .int .i64 t) rfl
    have d0 := hTb.cell 0 (v := .int .i64 (-2199023255553)) rfl
    have d1 := hTb.cell 1 (v := .int .i64 2199023255553) rfl
    obtain ⟨c0, c1, c2, c3, c4, c5, c6, c7, c8, c9, c10, c11⟩ := hAb.cells
    have g1 : decide (2199023255552 ≤ a) = false := by simpa using ha2
    have g2 : decide (t < -2199023255553) = false := by simp; omega
    have g3 : decide (a < -2199023255553) = false := by simp; omega
    have hnn := fun w : World => (show (binOp .eql 86 (.slice none 0 0) (.slice none 0 0)).run Tryz.prog w = .ok (.bool true) w by kernel_rfl)
    have RU := fun W => rules_plain (.func g ts cs) e f W
    unfold eraPA eraP at RU
    have HJB := Lib.hid hJb
    have HTB := Lib.hid hTb
    have HFB := Lib.hid hfbb
    have HBO := Lib.hid hBO2
    have HI0 := Lib.hid hI0
    have HSB := Lib.hid hsbb
    have HTT := Lib.hid htbb
    clear hJb hTb hfbb hBO2 hI0 hsbb htbb hA hT hbel2 hfb3 hAb hBO hJ hO hK hY fJ fx
    gi_wp2
    refine ⟨trivial, fun _ => by omega, ((callsIn_wide.2 (RU Wb)).inRound lp2).mono ?_⟩
    rintro o w5 ⟨rfl, hb5⟩
    clear RU c0 c1 c2 c3 c4 c5 c6 c7 c8 c9 c10 c11 s0 f0 t0 d0 d1
    have HB5 := Lib.hid hb5
    clear hb5
    gi_wp2
    refine wpIn_env (fin := ?fnS) (wide1 lp2) (by kernel_rfl) [29, 30, 31, 32, 33, 34, 35, 36, 37, 38, 39, 40, 41, 42]
      [.pointer (some ⟨W3.heap.size + 1, 0, none⟩), .int .i64 (-2199023255553), .int .i64 a, .bool false, .bool false, undef, undef, undef, undef, undef, undef, undef, undef, .bool false] (by kernel_rfl) ?finS ?stepsS ?nextS
    case finS =>
      simp only [putAll, Act.put, List.setIfInBounds_toArray, List.set_cons_succ, List.set_cons_zero]
      rfl
    case stepsS =>
      refine ⟨?_, ?_, ?_, ?_, ?_, ?_, ?_, ?_, ?_, ?_, ?_, ?_, ?_, ?_, trivial⟩
      all_goals
        first
          | exact .inl ⟨by kernel_rfl, rfl⟩
          | (refine .inr ⟨by kernel_rfl, fun w1_ hB_ => ?_⟩
             have hbb := HB5.out.trans (hB_.mono HB5.out.size)
             have d0 := (HTB.out.below hbb HTB.out.lt).cell 0 (v := .int .i64 (-2199023255553)) rfl
             have f0 := (HFB.out.below hbb HFB.out.lt).cell 0 (v := .int .i64 a) rfl
             go_simp
             exact ⟨rfl, Below.refl _ _⟩)
    case nextS =>
      intro w6 hb6
      have hb7 := HB5.out.trans (hb6.mono HB5.out.size)
      clear hb6
      gi_wp2
      have hf7 : Fr (fun k => O2 k ∨ D k) Wb w6 := Fr.of_below hb7 (Nat.le_refl _)
      refine ⟨O2, fun k h => .inl h, HBO.out.fr hf7, hf7, HI0.out, ⟨o1, o2, o3⟩, ?_, HSB.out.below hb7 HSB.out.lt, HFB.out.below hb7 HFB.out.lt, HTT.out.below hb7 HTT.out.lt⟩
      exact HFJ.out [] _ _ _ HJB.out (Fr.of_below hb7 (Nat.le_refl _))
  case done =>
    intro D xs O2 W3 hD hS hI hO2 hBO hOD hfr hK2
    obtain ⟨hI0, -, hJ3, hs3, hf3, ht3⟩ := hI
    gi_wp2
    refine ⟨by simp, .inl ⟨_, _, rfl, run_takeDeferred hK2, ?_⟩⟩
    have hbs := hbw.size
    have hfw : Fr (fun k => O k ∨ (k = sb ∨ k = fb ∨ k = tb)) W W3 := (Fr.of_below hbw (Nat.le_refl _)).then (hfr.mono fun k hk => by
      rcases hk with h | h
      · exact .inl h
      · exact h.elim)
    have hfp : Fr (fun k => k = D) W3 (W3.putObj D (.deferred none)) := Fr.putObj _ _ rfl
    have hnD : ¬ O D := fun h => by have := hO D h; omega
    exact ⟨.tuple #[], results_none rfl _ _ _, ⟨_, rfl⟩, O, fun k h => .inl h, (hO.fr hfw).fr hfp, hfw.trans hfp (fun k hk => .inr (by omega)), .inl ⟨[], rfl, fJ _ _ _ _ hJ3 (Fr.putObj _ _ hnD)⟩⟩
end Go.Proofs.YtekeaphbmkfogaaGreatDoor
