/-
  From the rows' readings of numbers and untils to the words of the walks.
-/
import Derived.Test.YteekjfgjmccdnaaGreatDoorChecked
import Derived.Test.YteekjfgjmccdnaaGreatDoorRows
import Derived.Lib.LaidTab
import Derived.SizedLaws
import Derived.LaidSub
import Derived.Test.YteekjfgjmccdnaaGreatDoorZs11
set_option maxHeartbeats 16000000
set_option maxRecDepth 100000
namespace Go.Proofs.YteekjfgjmccdnaaGreatDoor
section -- HShows
open Go Go.RowKit Go.Shelf
attribute [local go_sem] Oper.semAt_some
theorem tshows_walk (w : World) (zn : ByteArray) (ev sv : Value) (l : List EraF) (S : List SetF) (to : Int) (vl : Value) (L : List Int) (he : ErasR w w.heap.size ev l) (hs : SetsR w w.heap.size sv S) (hfm : ∀ x ∈ l, x.fm.size < 1152921504606846976) (hlet : ∀ s ∈ S, letOk s.l)
   (hto : -9223372036854775808 ≤ to ∧ to ≤ 9223372036854775807) (hL : Nums w w.heap.size vl L) (ha : Ahead w) (htab : 0 < w.heap.size) (hm : Tryz.MaxL w) :
   Calls Tryz.prog 13 #[worldA zn ev sv, .int .i64 to, vl] w fun o w' => o = .returned (.bool true) ∧ Below w.heap.size w w' := by
 obtain ⟨A, cA, rfl, hlc, hcm⟩ := he.form
 obtain ⟨A2, cS, rfl, hlc2, hcm2⟩ := hs.form
 obtain ⟨A5, cL, rfl, hlc3, hcm3⟩ := hL.form
 unfold maxLen at hcm hcm2 hcm3
 obtain ⟨W0, hW0⟩ : ∃ W, w.alloc (.cells #[.string zn, .slice A l.length cA, .slice A2 S.length cS] 27) = W := ⟨_, rfl⟩
 have hb0 : Below w.heap.size w W0 := by rw [← hW0]; exact (Below.refl w.heap.size w).alloc (Nat.le_refl _) _
 have hxx : Blk W0 w.heap.size 27 #[.string zn, .slice A l.length cA, .slice A2 S.length cS] := by rw [← hW0]; exact Blk.new w _ _
 have hz0 := ZW.mk (he.below hb0) (hs.below hb0) (ha.below hb0 (Nat.le_refl _)) htab (hm.below hb0 (Nat.le_refl _)) hb0.size
 have HF := Lib.hid (right14_any W0 zn _ _ w.heap.size l S hz0 hfm)
 have HXX := Lib.hid hxx
 have HZ0 := Lib.hid hz0
 have HB0 := Lib.hid hb0
 have HL0 := Lib.hid (hL.below hb0)
 have HLET := Lib.hid hlet
 have HN0 := Lib.hid (fun W => near_any to W)
 have HW0 := Lib.hid hW0
 clear hb0 hxx he hs hm hlet hfm ha hz0 hL hW0
 unfold worldA at *
 go_enter Tryz.func13, Tryz.ntmps13
 go_wp2_with fail
 rw [HW0.out]
 try simp only [HW0.out]
 clear HW0
 refine HF.out.mono ?_
 rintro o w1 ⟨⟨u, v, rfl, hR⟩, hb⟩
 have HB1 := Lib.hid hb
 cases hg : goodZ l S with
 | false =>
   clear hR hb HF hg
   go_wp2_with fail
   refine (tawake_any _ ((HZ0.out.below (HB1.out)).maxl)).mono ?_
   rintro o wz ⟨rfl, hbz⟩
   have hb9 := HB0.out.trans (((HB1.out).trans (hbz.mono (HB1.out).size)).mono HB0.out.size)
   clear hbz
   go_wp2_with fail
   go_ret
   exact ⟨rfl, hb9⟩
 | true =>
   have HFZ := Lib.hid (FewZ.mk (good_iff.1 hg).2 (good_iff.1 hg).1)
   have HFEW := Lib.hid (good_iff.1 hg).1
   clear hR hb HF hg
   cases hn0 : nearB to with
   | false =>
     rw [hn0] at HN0
     clear hn0
     go_wp2_with fail
     refine (HN0.out _).mono ?_
     rintro o w1 ⟨rfl, rfl⟩
     go_wp2_with fail
     refine (tawake_any _ ((HZ0.out.below (HB1.out)).maxl)).mono ?_
     rintro o wz ⟨rfl, hbz⟩
     have hb9 := HB0.out.trans (((HB1.out).trans (hbz.mono (HB1.out).size)).mono HB0.out.size)
     clear hbz
     go_wp2_with fail
     go_ret
     exact ⟨rfl, hb9⟩
   | true =>
     rw [hn0] at HN0
     have htn := nearB_iff.1 hn0
     clear hn0
     by_cases h10 : 10 < L.length
     · have hd10 : decide ((10 : Int) < (L.length : Int)) = true := decide_eq_true (by omega)
       clear h10
       go_wp2_with fail
       refine (HN0.out _).mono ?_
       rintro o w1 ⟨rfl, rfl⟩
       go_wp2_with fail
       refine (tawake_any _ ((HZ0.out.below (HB1.out)).maxl)).mono ?_
       rintro o wz ⟨rfl, hbz⟩
       have hb9 := HB0.out.trans (((HB1.out).trans (hbz.mono (HB1.out).size)).mono HB0.out.size)
       clear hbz
       go_wp2_with fail
       go_ret
       exact ⟨rfl, hb9⟩
     · have hd10 : decide ((10 : Int) < (L.length : Int)) = false := decide_eq_false (by omega)
       have hM := make_few zn (.slice A l.length cA) (.slice A2 S.length cS) l S to w.heap.size w1 (HZ0.out.below HB1.out) HFEW.out (few_okR HFEW.out) HLET.out (by omega)
       unfold setsV zoneA worldA MakeEnd at hM
       rw [makeErr_few HFEW.out HFZ.out.err (by omega) (by omega)] at hM
       have HMK := Lib.hid hM
       have HAT := Lib.hid (fun (W : World) (h : Below W0.heap.size W0 W) (i : Int) (h1 : -2199023255552 ≤ i) (h2 : i ≤ 2199023255552) (xo : Int) (xd : Bool) (xs : ByteArray) (hx : locZ S l i = ⟨xo, xd, xs⟩) => by
         have h3 := zat_any zn (.slice A l.length cA) (.slice A2 S.length cS) w.heap.size l S i W (HZ0.out.below h) (few_okR HFEW.out) HLET.out
         rw [atZ_loc, hx, errI_few HFZ.out.err (fewB_iff.1 HFEW.out).2.1 h1 h2] at h3
         unfold setsV zoneA worldA locA at h3
         exact h3)
       have hxb := HXX.out.below (HB1.out) HXX.out.lt
       have x0 := hxb.cell 0 (v := .string zn) rfl
       have x1 := hxb.cell 1 (v := .slice A l.length cA) rfl
       have x2 := hxb.cell 2 (v := .slice A2 S.length cS) rfl
       have hxl := hxb.lt
       clear hxb
       clear hM
       go_wp2_with fail
       refine (HN0.out _).mono ?_
       rintro o w1 ⟨rfl, rfl⟩
       go_wp2_with fail
       refine HMK.out.mono ?_
       rintro o w2 ⟨⟨mv, rfl, hm0, -⟩, hb⟩
       have HB2 := Lib.hid (HB1.out.trans (hb.mono HB1.out.size))
       obtain ⟨T, hT⟩ : ∃ T, tabL S l to = T := ⟨_, rfl⟩
       have hTO := tabOk_zone HFZ.out (to := to) (by omega)
       have hTn : T.length ≤ 2000000000000 := by
         rw [← hT]
         have := changesL_len HFZ.out.err (fewB_iff.1 HFEW.out).2.1 (fewB_iff.1 HFEW.out).2.2.1 (to := to) (by omega)
         unfold tabL
         rw [List.length_cons]
         omega
       rw [hT] at hm0 hTO
       have HMV := Lib.hid (hm0 (by first | rfl | trivial))
       have HTO := Lib.hid hTO
       have hpos := hTO.pos
       obtain ⟨bm, om, cm, rfl, hbm, hcm4⟩ := HMV.out.cells hpos
       have HCM := Lib.hid hcm4
       have hc0 := (hcm4 0 hpos).1
       rw [hTO.first hpos] at hc0
       simp only [Nat.zero_mul, Nat.add_zero] at hc0
       obtain ⟨n, hn⟩ : ∃ n, T.length = n := ⟨_, rfl⟩
       rw [hn] at HMV hpos hTn ⊢
       have HTL := Lib.hid hn
       have hd0 : ((n : Int) == 0) = false := beq_eq_false_iff_ne.2 (by omega)
       have hd00 : (n == 0) = false := beq_eq_false_iff_ne.2 (by omega)
       have hdn0 : decide (0 < n) = true := decide_eq_true hpos
       have hdn00 : (0 : Int) < (n : Int) := by omega
       clear hb hm0 hTO hcm4 hT hn x0 x1 x2 hxl HMK
       go_wp2_with fail
       go_loopw [12] (fun iv wr => ∃ k : Nat, 1 ≤ k ∧ k ≤ n ∧ iv = .int .i64 k ∧ Below w2.heap.size w2 wr) (fun iv _ => n - (intOf iv).toNat)
       case atStart => exact ⟨1, Nat.le_refl _, by omega, rfl, Below.refl _ _⟩
       case round =>
         obtain ⟨k, hk1, hk, rfl, hbi⟩ := hrel
         have HR := Lib.hid hbi
         have HBW := Lib.hid (HB2.out.trans (hbi.mono HB2.out.size))
         clear hbi
         by_cases hlt : k < n
         · have hd : decide ((k : Int) < (n : Int)) = true := decide_eq_true (by omega)
           by_cases h30 : k < 30
           · as_aux_lemma =>
               have hd3 : decide ((k : Int) < 30) = true := decide_eq_true (by omega)
               have hkn : k < T.length := by rw [HTL.out]; exact hlt
               obtain ⟨j, hj⟩ : ∃ j, k = j + 1 := ⟨k - 1, by omega⟩
               have hjk : (k : Int) - 1 = (j : Int) := by omega
               have hkT : (T[k]'hkn).at_ ≤ to := ((HTO.out.mem k hkn).1.2 (by omega))
               have hkM : -2199023255552 < (T[k]'hkn).at_ := by
                 have h1 := HTO.out.lt (show 0 < k by omega) hkn
                 have h2 := (HTO.out.mem 0 (by omega)).1.1
                 omega
               have hne : (T[k]'hkn).loc ≠ (T[j]'(by omega)).loc := by subst hj; exact HTO.out.ne hkn
               have hlt2 : (T[j]'(by omega)).at_ < (T[k]'hkn).at_ := HTO.out.lt (by omega) hkn
               have hgx : locZ S l (T[k]'hkn).at_ = (T[k]'hkn).loc := ((HTO.out.mem k hkn).2).symm
               have hgy : locZ S l ((T[k]'hkn).at_ - 1) = (T[j]'(by omega)).loc := by subst hj; exact HTO.out.before hkn
               obtain ⟨kc0, kc1, kc2, kc3⟩ := HCM.out k hkn
               obtain ⟨jc0, jc1, jc2, jc3⟩ := HCM.out j (by omega)
               obtain ⟨⟨ca, ⟨xo, xd, xs⟩⟩, hck⟩ : ∃ c, T[k]'hkn = c := ⟨_, rfl⟩
               obtain ⟨⟨cj, ⟨yo, yd, ys⟩⟩, hcj⟩ : ∃ c, T[j]'(by omega) = c := ⟨_, rfl⟩
               rw [hck] at kc0 kc1 kc2 kc3 hkT hkM hne hlt2 hgx hgy
               rw [hcj] at jc0 jc1 jc2 jc3 hne hlt2 hgy
               simp only at kc0 kc1 kc2 kc3 jc0 jc1 jc2 jc3 hkT hkM hne hlt2 hgx hgy
               have hjn : j < n := by omega
               have HCK := Lib.hid (fun (W : World) (h : Below w2.heap.size w2 W) => show W.cell? ⟨bm, om + k * 4, none⟩ = some (.int .i64 ca) ∧ W.cell? ⟨bm, om + k * 4 + 1, none⟩ = some (.int .i64 xo) ∧ W.cell? ⟨bm, om + k * 4 + 2, none⟩ = some (.bool xd) ∧ W.cell? ⟨bm, om + k * 4 + 3, none⟩ = some (.string xs) ∧ W.cell? ⟨bm, om + j * 4, none⟩ = some (.int .i64 cj) ∧ W.cell? ⟨bm, om + j * 4 + 1, none⟩ = some (.int .i64 yo) ∧ W.cell? ⟨bm, om + j * 4 + 2, none⟩ = some (.bool yd) ∧ W.cell? ⟨bm, om + j * 4 + 3, none⟩ = some (.string ys) from
                 ⟨(h.cell (p := ⟨bm, om + k * 4, none⟩) hbm).trans kc0, (h.cell (p := ⟨bm, om + k * 4 + 1, none⟩) hbm).trans kc1, (h.cell (p := ⟨bm, om + k * 4 + 2, none⟩) hbm).trans kc2, (h.cell (p := ⟨bm, om + k * 4 + 3, none⟩) hbm).trans kc3, (h.cell (p := ⟨bm, om + j * 4, none⟩) hbm).trans jc0, (h.cell (p := ⟨bm, om + j * 4 + 1, none⟩) hbm).trans jc1, (h.cell (p := ⟨bm, om + j * 4 + 2, none⟩) hbm).trans jc2, (h.cell (p := ⟨bm, om + j * 4 + 3, none⟩) hbm).trans jc3⟩)
               have HAX := Lib.hid (fun (W : World) (h : Below W0.heap.size W0 W) => HAT.out W h ca (by omega) (by omega) xo xd xs hgx)
               have HAY := Lib.hid (fun (W : World) (h : Below W0.heap.size W0 W) => HAT.out W h (ca - 1) (by omega) (by omega) yo yd ys hgy)
               have hcase : ¬ xo = yo ∨ (xo = yo ∧ ¬ xd = yd) ∨ (xo = yo ∧ xd = yd ∧ ¬ xs.toList = ys.toList) := by
                 by_cases h1 : xo = yo
                 · by_cases h2 : xd = yd
                   · exact .inr (.inr ⟨h1, h2, fun h3 => hne (by rw [h1, h2, bytes_list h3])⟩)
                   · exact .inr (.inl ⟨h1, h2⟩)
                 · exact .inl h1
               have hle1 : decide (ca ≤ cj) = false := decide_eq_false (by omega)
               have hdn : decide (k < n) = true := decide_eq_true hlt
               have hdn2 : (k : Int) < (n : Int) := by omega
               have hdj : decide (j < n) = true := decide_eq_true hjn
               have hdj2 : (j : Int) < (n : Int) := by omega
               have hbmr : bm < wr.heap.size := by have := HR.out.size; omega
               clear hj hck hcj hne hgx hgy kc0 kc1 kc2 kc3 jc0 jc1 jc2 jc3
               go_wp2_with fail
               refine wp_envA (fin := ?fnsa1) (by kernel_rfl) [81, 82, 83, 84, 85, 86, 87, 88, 89, 90, 80, 91, 92, 13, 999, 14]
                 [.pointer (some ⟨w.heap.size, 0, none⟩), .agg #[.string zn, .slice A l.length cA], .agg #[.string zn, .slice A l.length cA, .slice A2 S.length cS], .func (.func 15) #[.agg #[.string zn, .slice A l.length cA, .slice A2 S.length cS]] #[], .slice (some ⟨bm, om, none⟩) n cm, .int .i64 k, .pointer (some ⟨bm, om + k * 4, none⟩), .pointer (some ⟨bm, om + k * 4, none⟩), .int .i64 ca, .tuple #[.agg #[.int .i64 xo, .bool xd, .string xs], .int .i64 0], .tuple #[.agg #[.int .i64 xo, .bool xd, .string xs], .int .i64 0], .agg #[.int .i64 xo, .bool xd, .string xs], .int .i64 0, undef, undef, .int .i64 0] 13 14 48 #[.int .i64 0, .bool false, .string ⟨#[]⟩] #[.int .i64 xo, .bool xd, .string xs] (by kernel_rfl) (by simp) (by decide) ?finsa1 ?stepssa1 ?nextsa1
               case finsa1 =>
                 intro p_
                 simp only [List.set_cons_succ, List.set_cons_zero, putAll, Act.put, List.setIfInBounds_toArray, List.set_nil]
                 rfl
               case stepssa1 =>
                 refine ⟨?_, ?_, ?_, ?_, ?_, ?_, ?_, ?_, ?_, ?_, ?_, ?_, ?_, ?alsa1, ?stsa1, ?_, trivial⟩
                 case alsa1 =>
                   refine ⟨fun p_ => by kernel_rfl, fun p_ w1_ hB_ => ?_⟩
                   first | rfl | (go_simp; done) | (go_simp; rfl)
                 case stsa1 =>
                   refine ⟨fun p_ => by kernel_rfl, fun b_ w1_ hb_ => ⟨(((w1_.setCell ⟨b_, 0, none⟩ (.int .i64 xo)).setCell ⟨b_, 1, none⟩ (.bool xd)).setCell ⟨b_, 2, none⟩ (.string xs)), ?_, ((Fr.setCell (T := fun k => k = b_) w1_ 0 (.int .i64 xo) rfl).then (Fr.setCell _ 1 _ rfl)).then (Fr.setCell _ 2 _ rfl), (((hb_.set 0 (.int .i64 xo)).set 1 (.bool xd)).set 2 (.string xs))⟩⟩
                   have f0_ := Blk.frozen hb_ 0
                   have f1_ := Blk.frozen hb_ 1
                   have f2_ := Blk.frozen hb_ 2
                   have z0_ := Blk.cell hb_ 0 (v := .int .i64 0) rfl
                   have z1_ := Blk.cell hb_ 1 (v := .bool false) rfl
                   have z2_ := Blk.cell hb_ 2 (v := .string ⟨#[]⟩) rfl
                   go_simp
                   try rfl
                 all_goals
                   intro p_
                   refine .inr ⟨by kernel_rfl, fun w1_ hB_ => ?_⟩
                   have hw_ := HBW.out.trans (hB_.mono HBW.out.size)
                   have hxb_ := HXX.out.below hw_ HXX.out.lt
                   have x0_ := hxb_.cell 0 (v := .string zn) rfl
                   have x1_ := hxb_.cell 1 (v := .slice A l.length cA) rfl
                   have x2_ := hxb_.cell 2 (v := .slice A2 S.length cS) rfl
                   obtain ⟨k0_, -⟩ := HCK.out _ (HR.out.trans (hB_.mono HR.out.size))
                   go_simp
                   first
                     | exact ⟨rfl, Below.refl _ _⟩
                     | exact ⟨rfl, HAX.out _ hw_⟩
                     | ((first | rw [decide_eq_true (by omega)] | rw [decide_eq_false (by omega)] | rw [if_pos (by omega)] | rw [IntWalk.i64_in _ (by omega)]); exact ⟨rfl, Below.refl _ _⟩)
                     | done
               case nextsa1 =>
               intro xb w5 hb5 hxb5 hX5
               have HB5 := Lib.hid (HBW.out.trans (hb5.mono HBW.out.size))
               have HR5 := Lib.hid (HR.out.trans (hb5.mono HR.out.size))
               have HX5 := Lib.hid hX5
               have hbm5 : bm < w5.heap.size := Nat.lt_of_lt_of_le hbmr hb5.size
               clear hb5 hxb5 hX5
               go_wp2_with fail
               refine wp_envA (fin := ?fnsb1) (by kernel_rfl) [94, 95, 96, 97, 98, 99, 100, 101, 102, 103, 104, 93, 105, 106, 15, 999, 16]
                 [.pointer (some ⟨w.heap.size, 0, none⟩), .agg #[.string zn, .slice A l.length cA], .agg #[.string zn, .slice A l.length cA, .slice A2 S.length cS], .func (.func 15) #[.agg #[.string zn, .slice A l.length cA, .slice A2 S.length cS]] #[], .slice (some ⟨bm, om, none⟩) n cm, .int .i64 k, .pointer (some ⟨bm, om + k * 4, none⟩), .pointer (some ⟨bm, om + k * 4, none⟩), .int .i64 ca, .int .i64 (ca - 1), .tuple #[.agg #[.int .i64 yo, .bool yd, .string ys], .int .i64 0], .tuple #[.agg #[.int .i64 yo, .bool yd, .string ys], .int .i64 0], .agg #[.int .i64 yo, .bool yd, .string ys], .int .i64 0, undef, undef, .int .i64 0] 14 15 48 #[.int .i64 0, .bool false, .string ⟨#[]⟩] #[.int .i64 yo, .bool yd, .string ys] (by kernel_rfl) (by simp) (by decide) ?finsb1 ?stepssb1 ?nextsb1
               case finsb1 =>
                 intro p_
                 simp only [List.set_cons_succ, List.set_cons_zero, putAll, Act.put, List.setIfInBounds_toArray, List.set_nil]
                 rfl
               case stepssb1 =>
                 refine ⟨?_, ?_, ?_, ?_, ?_, ?_, ?_, ?_, ?_, ?_, ?_, ?_, ?_, ?_, ?alsb1, ?stsb1, ?_, trivial⟩
                 case alsb1 =>
                   refine ⟨fun p_ => by kernel_rfl, fun p_ w1_ hB_ => ?_⟩
                   first | rfl | (go_simp; done) | (go_simp; rfl)
                 case stsb1 =>
                   refine ⟨fun p_ => by kernel_rfl, fun b_ w1_ hb_ => ⟨(((w1_.setCell ⟨b_, 0, none⟩ (.int .i64 yo)).setCell ⟨b_, 1, none⟩ (.bool yd)).setCell ⟨b_, 2, none⟩ (.string ys)), ?_, ((Fr.setCell (T := fun k => k = b_) w1_ 0 (.int .i64 yo) rfl).then (Fr.setCell _ 1 _ rfl)).then (Fr.setCell _ 2 _ rfl), (((hb_.set 0 (.int .i64 yo)).set 1 (.bool yd)).set 2 (.string ys))⟩⟩
                   have f0_ := Blk.frozen hb_ 0
                   have f1_ := Blk.frozen hb_ 1
                   have f2_ := Blk.frozen hb_ 2
                   have z0_ := Blk.cell hb_ 0 (v := .int .i64 0) rfl
                   have z1_ := Blk.cell hb_ 1 (v := .bool false) rfl
                   have z2_ := Blk.cell hb_ 2 (v := .string ⟨#[]⟩) rfl
                   go_simp
                   try rfl
                 all_goals
                   intro p_
                   refine .inr ⟨by kernel_rfl, fun w1_ hB_ => ?_⟩
                   have hw_ := HB5.out.trans (hB_.mono HB5.out.size)
                   have hxb_ := HXX.out.below hw_ HXX.out.lt
                   have x0_ := hxb_.cell 0 (v := .string zn) rfl
                   have x1_ := hxb_.cell 1 (v := .slice A l.length cA) rfl
                   have x2_ := hxb_.cell 2 (v := .slice A2 S.length cS) rfl
                   obtain ⟨k0_, -⟩ := HCK.out _ (HR5.out.trans (hB_.mono HR5.out.size))
                   go_simp
                   first
                     | exact ⟨rfl, Below.refl _ _⟩
                     | exact ⟨rfl, HAY.out _ hw_⟩
                     | ((first | rw [decide_eq_true (by omega)] | rw [decide_eq_false (by omega)] | rw [if_pos (by omega)] | rw [IntWalk.i64_in _ (by omega)]); exact ⟨rfl, Below.refl _ _⟩)
                     | done
               case nextsb1 =>
               intro xb6 w6 hb6 hxb6 hX6
               have HR6 := Lib.hid (HR5.out.trans (hb6.mono HR5.out.size))
               have HM56 := Lib.hid hb6
               have HX6 := Lib.hid hX6
               have hbm6 : bm < w6.heap.size := Nat.lt_of_lt_of_le hbm5 hb6.size
               have hx5l : xb < w6.heap.size := Nat.lt_of_lt_of_le HX5.out.lt hb6.size
               have hx6l := hX6.lt
               clear hb6 hxb6 hX6
               go_wp2_with fail
               refine wp_env (fin := ?fnsc1) (by kernel_rfl) [107, 108, 109, 110, 111, 112, 113, 114, 115, 116, 117, 118, 119, 120, 121, 122, 123, 124, 125, 126, 127, 128, 129, 130, 131, 132, 133, 134, 135, 136, 137, 138, 139, 140, 141, 142, 143, 144, 145, 146, 147, 148, 149, 150]
                 [.int .i64 0, .bool false, .bool false, .int .i64 0, .bool false, .bool false, .bool false, .agg #[.int .i64 xo, .bool xd, .string xs], .slice (some ⟨bm, om, none⟩) n cm, .int .i64 k, .pointer (some ⟨bm, om + k * 4, none⟩), .pointer (some ⟨bm, om + k * 4 + 1, none⟩), .agg #[.int .i64 xo, .bool xd, .string xs], .bool false, .bool false, .bool false, .agg #[.int .i64 yo, .bool yd, .string ys], .slice (some ⟨bm, om, none⟩) n cm, .int .i64 k, .int .i64 j, .pointer (some ⟨bm, om + j * 4, none⟩), .pointer (some ⟨bm, om + j * 4 + 1, none⟩), .agg #[.int .i64 yo, .bool yd, .string ys], .bool false, .bool false, .bool false, .agg #[.int .i64 xo, .bool xd, .string xs], .agg #[.int .i64 yo, .bool yd, .string ys], .bool false, .bool false, .bool false, .slice (some ⟨bm, om, none⟩) n cm, .int .i64 k, .pointer (some ⟨bm, om + k * 4, none⟩), .pointer (some ⟨bm, om + k * 4, none⟩), .int .i64 ca, .slice (some ⟨bm, om, none⟩) n cm, .int .i64 k, .int .i64 j, .pointer (some ⟨bm, om + j * 4, none⟩), .pointer (some ⟨bm, om + j * 4, none⟩), .int .i64 cj, .bool false, .bool false] (by kernel_rfl) ?finsc1 ?stepssc1 ?nextsc1
               case finsc1 =>
                 simp only [putAll, Act.put, List.setIfInBounds_toArray, List.set_cons_succ, List.set_cons_zero]
                 rfl
               case stepssc1 =>
                 refine ⟨?_, ?_, ?_, ?_, ?_, ?_, ?_, ?_, ?_, ?_, ?_, ?_, ?_, ?_, ?_, ?_, ?_, ?_, ?_, ?_, ?_, ?_, ?_, ?_, ?_, ?_, ?_, ?_, ?_, ?_, ?_, ?_, ?_, ?_, ?_, ?_, ?_, ?_, ?_, ?_, ?_, ?_, ?_, ?_, trivial⟩
                 all_goals refine .inr ⟨by kernel_rfl, fun w1_ hB_ => ?_⟩
                 all_goals
                   have hw_ := HR6.out.trans (hB_.mono HR6.out.size)
                   obtain ⟨k0_, k1_, k2_, k3_, j0_, j1_, j2_, j3_⟩ := HCK.out _ hw_
                   have hx5_ := HX5.out.below (HM56.out.trans (hB_.mono HM56.out.size)) HX5.out.lt
                   have p0_ := hx5_.cell 0 (v := .int .i64 xo) rfl
                   have p1_ := hx5_.cell 1 (v := .bool xd) rfl
                   have p2_ := hx5_.cell 2 (v := .string xs) rfl
                   have hx6_ := HX6.out.below hB_ HX6.out.lt
                   have q0_ := hx6_.cell 0 (v := .int .i64 yo) rfl
                   have q1_ := hx6_.cell 1 (v := .bool yd) rfl
                   have q2_ := hx6_.cell 2 (v := .string ys) rfl
                   go_simp
                   first
                     | exact ⟨rfl, Below.refl _ _⟩
                     | (rcases hcase with g1 | ⟨g1, g2⟩ | ⟨g1, g2, g3⟩; (rw [if_neg g1]; exact ⟨rfl, Below.refl _ _⟩); (rw [if_pos g1, if_neg g2]; exact ⟨rfl, Below.refl _ _⟩); (rw [if_pos g1, if_pos g2, if_neg g3]; exact ⟨rfl, Below.refl _ _⟩))
                     | ((first | rw [decide_eq_true (by omega)] | rw [decide_eq_false (by omega)] | rw [if_pos (by omega)] | rw [IntWalk.i64_in _ (by omega)]); exact ⟨rfl, Below.refl _ _⟩)
                     | done
               case nextsc1 =>
               intro w7 hb7
               have HR7 := Lib.hid (HR6.out.trans (hb7.mono HR6.out.size))
               clear hb7
               go_wp2_with fail
               go_roundw
               case rel => exact ⟨k + 1, by omega, by omega, by go_num, HR7.out⟩
               case measure => first | (simp [intOf]; done) | (simp [intOf]; omega)
           · have hd3 : decide ((k : Int) < 30) = false := decide_eq_false (by omega)
             go_wp2_with fail
             as_aux_lemma =>
               obtain ⟨w3, hw3⟩ : ∃ x, x = wr := ⟨_, rfl⟩
               subst hw3
               have HB3 := Lib.hid HBW.out
               have HR3 := Lib.hid HR.out
               clear HR HBW hk hk1
               go_loopw [17] (fun iv wr => ∃ q : Nat, q ≤ L.length ∧ iv = .int .i64 q ∧ Below w3.heap.size w3 wr) (fun iv _ => L.length - (intOf iv).toNat)
               case atStart => exact ⟨0, Nat.zero_le _, rfl, Below.refl _ _⟩
               case round =>
                 obtain ⟨q, hq, rfl, hbi⟩ := hrel
                 have HBI := Lib.hid hbi
                 have HB7 := Lib.hid (HB3.out.trans (hbi.mono HB3.out.size))
                 have HR7 := Lib.hid (HR3.out.trans (hbi.mono HR3.out.size))
                 clear hbi
                 by_cases hlq : q < L.length
                 · as_aux_lemma =>
                     have hdq : decide ((q : Int) < (L.length : Int)) = true := decide_eq_true (by omega)
                     obtain ⟨bl, ol, cl', e, hbl, hcl⟩ := (HL0.out.below (HB7.out.mono HB0.out.size)).cells (by omega)
                     cases e
                     have lc := hcl q hlq
                     obtain ⟨x, hx⟩ : ∃ i, L[q] = i := ⟨_, rfl⟩
                     rw [hx] at lc
                     have hblw : bl < wr.heap.size := by have := HB7.out.size; have := HB0.out.size; omega
                     have HCL := Lib.hid (fun (W : World) (h : Below wr.heap.size wr W) => show W.cell? ⟨bl, ol + q, none⟩ = some (.int .i64 x) from (h.cell (p := ⟨bl, ol + q, none⟩) hblw).trans lc)
                     clear hcl hx
                     by_cases hxr : x < -2199023255552 ∨ to < x
                     · obtain ⟨d1, d2, hd1, hd2, hdd⟩ : ∃ p q, decide (x < -2199023255552) = p ∧ decide (to < x) = q ∧ (p = true ∨ p = false ∧ q = true) := by
                         refine ⟨_, _, rfl, rfl, ?_⟩
                         by_cases h : x < -2199023255552
                         · exact .inl (decide_eq_true h)
                         · exact .inr ⟨decide_eq_false h, decide_eq_true (by omega)⟩
                       clear hxr
                       rcases hdd with rfl | ⟨rfl, rfl⟩
                       ·
                         go_wp2_with fail
                         go_roundw
                         case rel => exact ⟨q + 1, by omega, by go_num, (HBI.out)⟩
                         case measure => first | (simp [intOf]; done) | (simp [intOf]; omega)
                       ·
                         go_wp2_with fail
                         go_roundw
                         case rel => exact ⟨q + 1, by omega, by go_num, (HBI.out)⟩
                         case measure => first | (simp [intOf]; done) | (simp [intOf]; omega)
                     · have hd1 : decide (x < -2199023255552) = false := decide_eq_false (by omega)
                       have hd2 : decide (to < x) = false := decide_eq_false (by omega)
                       obtain ⟨m, hm, hbh, hmle, hgx, hnx⟩ := HTO.out.at_ (x := x) (by omega) (by omega)
                       obtain ⟨⟨ca, ⟨xo, xd, xs⟩⟩, hck⟩ : ∃ c, T[m]'hm = c := ⟨_, rfl⟩
                       rw [hck] at hgx hmle
                       simp only at hgx hmle
                       have hgm : T.getD m .zero = ⟨ca, ⟨xo, xd, xs⟩⟩ := by rw [List.getD_eq_getElem?_getD, List.getElem?_eq_getElem hm, hck]; rfl
                       have HAX := Lib.hid (fun (W : World) (h : Below W0.heap.size W0 W) => HAT.out W h x (by omega) (by omega) xo xd xs hgx)
                       have hv1 : tatV T x = (⟨xo, xd, xs⟩, 0) := by unfold tatV; rw [hbh, if_neg (by omega), Nat.add_sub_cancel, hgm]
                       have hv2 : ∃ na no nd ns is, tnextV T x = (⟨na, ⟨no, nd, ns⟩⟩, is) ∧ (is = true → x < na ∧ na ≤ to ∧ locZ S l (na - 1) = ⟨xo, xd, xs⟩) := by
                         unfold tnextV
                         rw [hbh]
                         split
                         · exact ⟨0, 0, false, ⟨#[]⟩, false, rfl, fun h => by cases h⟩
                         · have hm1 : m + 1 < T.length := by omega
                           obtain ⟨⟨na, ⟨no, nd, ns⟩⟩, hnc⟩ : ∃ c, T[m + 1]'hm1 = c := ⟨_, rfl⟩
                           refine ⟨na, no, nd, ns, true, by rw [List.getD_eq_getElem?_getD, List.getElem?_eq_getElem hm1, hnc]; rfl, fun _ => ?_⟩
                           have h1 := hnx hm1
                           have h2 := (HTO.out.mem (m + 1) hm1).1.2 (by omega)
                           have h3 := HTO.out.before hm1
                           rw [hnc] at h1 h2 h3
                           rw [hck] at h3
                           exact ⟨h1, h2, h3⟩
                       have hv3 : ∃ pa po pd ps also, tprevV T x = (⟨pa, ⟨po, pd, ps⟩⟩, also) ∧ (also = true → pa ≤ x ∧ xo = po ∧ xd = pd ∧ xs = ps) := by
                         unfold tprevV
                         rw [hbh]
                         split
                         · exact ⟨0, 0, false, ⟨#[]⟩, false, rfl, fun h => by cases h⟩
                         · exact ⟨ca, xo, xd, xs, true, by rw [Nat.add_sub_cancel, hgm], fun _ => ⟨hmle, rfl, rfl, rfl⟩⟩
                       obtain ⟨na, no, nd, ns, is, hv2, hni⟩ := hv2
                       obtain ⟨pa, po, pd, ps, also, hv3, hpi⟩ := hv3
                       have hMT : Chgs w2 w2.heap.size (.slice (some ⟨bm, om, none⟩) T.length cm) T := by rw [HTL.out]; exact HMV.out
                       have hTm : T.length ≤ 2000000000000 := by rw [HTL.out]; exact hTn
                       have HTA := Lib.hid (show ∀ (W : World), Below w2.heap.size w2 W → Calls Tryz.prog 41 #[.slice (some ⟨bm, om, none⟩) n cm, .int .i64 x] W fun o w' => o = .returned (.tuple #[locA ⟨xo, xd, xs⟩, .int .i64 0]) ∧ Below W.heap.size W w' from fun W h => by
                         have h1 := tat_any W w2.heap.size _ T x (hMT.below h) h.size hTm HTO.out.rising
                         rw [hv1, HTL.out] at h1
                         exact h1)
                       have HTN := Lib.hid (show ∀ (W : World), Below w2.heap.size w2 W → Calls Tryz.prog 42 #[.slice (some ⟨bm, om, none⟩) n cm, .int .i64 x] W fun o w' => o = .returned (.tuple #[chgA ⟨na, ⟨no, nd, ns⟩⟩, .bool is]) ∧ Below W.heap.size W w' from fun W h => by
                         have h1 := tnext_any W w2.heap.size _ T x (hMT.below h) h.size hTm HTO.out.rising
                         rw [hv2, HTL.out] at h1
                         exact h1)
                       have HTP := Lib.hid (show ∀ (W : World), Below w2.heap.size w2 W → Calls Tryz.prog 43 #[.slice (some ⟨bm, om, none⟩) n cm, .int .i64 x] W fun o w' => o = .returned (.tuple #[chgA ⟨pa, ⟨po, pd, ps⟩⟩, .bool also]) ∧ Below W.heap.size W w' from fun W h => by
                         have h1 := tprev_any W w2.heap.size _ T x (hMT.below h) h.size hTm HTO.out.rising
                         rw [hv3, HTL.out] at h1
                         exact h1)
                       unfold locA at HTA
                       unfold chgA at HTN HTP
                       have HNI := Lib.hid hni
                       have HPI := Lib.hid hpi
                       have hxm : -2199023255552 ≤ x := by omega
                       clear hMT hTm hm hbh hmle hgx hnx hck hgm hv1 hv2 hv3 hni hpi hxr
                       go_wp2_with fail
                       refine wp_envA (fin := ?fntaa) (by kernel_rfl) [171, 172, 173, 174, 175, 176, 177, 178, 179, 170, 180, 181, 18, 999, 19]
                         [.pointer (some ⟨w.heap.size, 0, none⟩), .agg #[.string zn, .slice A l.length cA], .agg #[.string zn, .slice A l.length cA, .slice A2 S.length cS], .func (.func 15) #[.agg #[.string zn, .slice A l.length cA, .slice A2 S.length cS]] #[], .slice (some ⟨bl, ol, none⟩) L.length cL, .int .i64 q, .pointer (some ⟨bl, ol + q, none⟩), .int .i64 x, .tuple #[.agg #[.int .i64 xo, .bool xd, .string xs], .int .i64 0], .tuple #[.agg #[.int .i64 xo, .bool xd, .string xs], .int .i64 0], .agg #[.int .i64 xo, .bool xd, .string xs], .int .i64 0, undef, undef, .int .i64 0] 12 13 48 #[.int .i64 0, .bool false, .string ⟨#[]⟩] #[.int .i64 xo, .bool xd, .string xs] (by kernel_rfl) (by simp) (by decide) ?fintaa ?stepstaa ?nexttaa
                       case fintaa =>
                         intro p_
                         simp only [List.set_cons_succ, List.set_cons_zero, putAll, Act.put, List.setIfInBounds_toArray, List.set_nil]
                         rfl
                       case stepstaa =>
                         refine ⟨?_, ?_, ?_, ?_, ?_, ?_, ?_, ?_, ?_, ?_, ?_, ?_, ?altaa, ?sttaa, ?_, trivial⟩
                         case altaa =>
                           refine ⟨fun p_ => by kernel_rfl, fun p_ w1_ hB_ => ?_⟩
                           first | rfl | (go_simp; done) | (go_simp; rfl)
                         case sttaa =>
                           refine ⟨fun p_ => by kernel_rfl, fun b_ w1_ hb_ => ⟨(((w1_.setCell ⟨b_, 0, none⟩ (.int .i64 xo)).setCell ⟨b_, 1, none⟩ (.bool xd)).setCell ⟨b_, 2, none⟩ (.string xs)), ?_, ((Fr.setCell (T := fun k => k = b_) w1_ 0 (.int .i64 xo) rfl).then (Fr.setCell _ 1 _ rfl)).then (Fr.setCell _ 2 _ rfl), (((hb_.set 0 (.int .i64 xo)).set 1 (.bool xd)).set 2 (.string xs))⟩⟩
                           have f0_ := Blk.frozen hb_ 0
                           have f1_ := Blk.frozen hb_ 1
                           have f2_ := Blk.frozen hb_ 2
                           have z0_ := Blk.cell hb_ 0 (v := .int .i64 0) rfl
                           have z1_ := Blk.cell hb_ 1 (v := .bool false) rfl
                           have z2_ := Blk.cell hb_ 2 (v := .string ⟨#[]⟩) rfl
                           go_simp
                           try rfl
                         all_goals
                           intro p_
                           refine .inr ⟨by kernel_rfl, fun w1_ hB_ => ?_⟩
                           have hw_ := HB7.out.trans (hB_.mono HB7.out.size)
                           have hxb_ := HXX.out.below hw_ HXX.out.lt
                           have x0_ := hxb_.cell 0 (v := .string zn) rfl
                           have x1_ := hxb_.cell 1 (v := .slice A l.length cA) rfl
                           have x2_ := hxb_.cell 2 (v := .slice A2 S.length cS) rfl
                           have lc_ := HCL.out _ hB_
                           go_simp
                           first
                             | exact ⟨rfl, Below.refl _ _⟩
                             | exact ⟨rfl, HAX.out _ hw_⟩
                             | ((first | rw [decide_eq_true (by omega)] | rw [decide_eq_false (by omega)] | rw [if_pos (by omega)] | rw [IntWalk.i64_in _ (by omega)]); exact ⟨rfl, Below.refl _ _⟩)
                             | done
                       case nexttaa =>
                       intro xb w8 hb8 hxb8 hX8
                       have HB8 := Lib.hid (HB7.out.trans (hb8.mono HB7.out.size))
                       have HR8 := Lib.hid (HR7.out.trans (hb8.mono HR7.out.size))
                       have HM8 := Lib.hid hb8
                       have HX8 := Lib.hid hX8
                       have lc8 := HCL.out _ hb8
                       have hbl8 : bl < w8.heap.size := Nat.lt_of_lt_of_le hblw hb8.size
                       clear hb8 hxb8 hX8 lc
                       go_wp2_with fail
                       refine (HTA.out _ HR8.out).mono ?_
                       rintro o w9 ⟨rfl, hb⟩
                       have HR9 := Lib.hid (HR8.out.trans (hb.mono HR8.out.size))
                       have HM9 := Lib.hid hb
                       obtain ⟨w10, hw10⟩ : ∃ W, w9.alloc (.cells #[.int .i64 xo, .bool xd, .string xs] 48) = W := ⟨_, rfl⟩
                       have hb10 : Below w9.heap.size w9 w10 := by rw [← hw10]; exact (Below.refl _ _).alloc (Nat.le_refl _) _
                       have hx10 : Blk w10 w9.heap.size 48 #[.int .i64 xo, .bool xd, .string xs] := by rw [← hw10]; exact Blk.new w9 _ _
                       have HR10 := Lib.hid (HR9.out.trans (hb10.mono HR9.out.size))
                       have HM10 := Lib.hid (hb.trans (hb10.mono hb.size))
                       have HX10 := Lib.hid hx10
                       have lc10 := (HM10.out.cell (p := ⟨bl, ol + q, none⟩) hbl8).trans lc8
                       have hbl10 : bl < w10.heap.size := Nat.lt_of_lt_of_le hbl8 HM10.out.size
                       clear hb hb10 hx10 lc8
                       go_wp2_with fail
                       clear hw10
                       refine (HTN.out _ HR10.out).mono ?_
                       rintro o w11 ⟨rfl, hb⟩
                       have HR11 := Lib.hid (HR10.out.trans (hb.mono HR10.out.size))
                       obtain ⟨w12, hw12⟩ : ∃ W, w11.alloc (.cells #[.int .i64 na, .int .i64 no, .bool nd, .string ns] 76) = W := ⟨_, rfl⟩
                       have hb12 : Below w11.heap.size w11 w12 := by rw [← hw12]; exact (Below.refl _ _).alloc (Nat.le_refl _) _
                       have hx12 : Blk w12 w11.heap.size 76 #[.int .i64 na, .int .i64 no, .bool nd, .string ns] := by rw [← hw12]; exact Blk.new w11 _ _
                       have HR12 := Lib.hid (HR11.out.trans (hb12.mono HR11.out.size))
                       have HM12 := Lib.hid (hb.trans (hb12.mono hb.size))
                       have HX12 := Lib.hid hx12
                       have lc12 := (HM12.out.cell (p := ⟨bl, ol + q, none⟩) hbl10).trans lc10
                       have hbl12 : bl < w12.heap.size := Nat.lt_of_lt_of_le hbl10 HM12.out.size
                       clear hb hb12 hx12 lc10
                       go_wp2_with fail
                       clear hw12
                       refine (HTP.out _ HR12.out).mono ?_
                       rintro o w13 ⟨rfl, hb⟩
                       have HR13 := Lib.hid (HR12.out.trans (hb.mono HR12.out.size))
                       obtain ⟨w14, hw14⟩ : ∃ W, w13.alloc (.cells #[.int .i64 pa, .int .i64 po, .bool pd, .string ps] 76) = W := ⟨_, rfl⟩
                       have hb14 : Below w13.heap.size w13 w14 := by rw [← hw14]; exact (Below.refl _ _).alloc (Nat.le_refl _) _
                       have hx14 : Blk w14 w13.heap.size 76 #[.int .i64 pa, .int .i64 po, .bool pd, .string ps] := by rw [← hw14]; exact Blk.new w13 _ _
                       have HR14 := Lib.hid (HR13.out.trans (hb14.mono HR13.out.size))
                       have hm14 := hb.trans (hb14.mono hb.size)
                       have HX14 := Lib.hid hx14
                       have HX12 := Lib.hid (HX12.out.below hm14 HX12.out.lt)
                       have hm1014 := HM12.out.trans (hm14.mono HM12.out.size)
                       have HX10 := Lib.hid (HX10.out.below hm1014 HX10.out.lt)
                       have HM14 := Lib.hid (HM10.out.trans (hm1014.mono HM10.out.size))
                       have HM714 := Lib.hid (HM8.out.trans (HM14.out.mono HM8.out.size))
                       have HX8b := Lib.hid (HX8.out.below HM14.out HX8.out.lt)
                       have HB14 := Lib.hid (HB8.out.trans (HM14.out.mono HB8.out.size))
                       have lc14 := HCL.out _ HM714.out
                       have hbl14 : bl < w14.heap.size := Nat.lt_of_lt_of_le hblw HM714.out.size
                       have hl8 := HX8b.out.lt
                       have hl10 := HX10.out.lt
                       have hl12 := HX12.out.lt
                       have hl14 := HX14.out.lt
                       clear hb hb14 hx14 lc12 hm14 hm1014
                       go_wp2_with fail
                       clear hw14
                       have hdq2 : decide (q < L.length) = true := decide_eq_true hlq
                       have hqi : (q : Int) < (L.length : Int) := by omega
                       cases is with
                       | false =>
                         cases also with
                         | false => as_aux_lemma =>
                           refine wp_env (fin := ?fntba00) (by kernel_rfl) [209, 210, 211, 212, 213, 214, 215, 216, 217, 218, 219, 220, 221, 222, 223, 224, 225, 226, 227, 228, 229, 230, 231, 232, 233, 234, 235, 236, 237, 238, 239, 240, 241, 242, 243, 244, 245, 246, 247, 248, 249]
                             [.int .i64 0, .bool false, .bool false, .int .i64 0, .bool false, .bool false, .bool false, .agg #[.int .i64 xo, .bool xd, .string xs], .agg #[.int .i64 xo, .bool xd, .string xs], .bool false, .bool false, .bool false, .bool false, .bool false, undef, undef, undef, undef, undef, undef, undef, .bool false, .bool false, .bool false, .bool false, .bool false, undef, undef, undef, undef, undef, undef, undef, undef, undef, undef, undef, undef, undef, .bool false, .bool false] (by kernel_rfl) ?fintba00 ?stepstba00 ?nexttba00
                           case fintba00 =>
                             simp only [putAll, Act.put, List.setIfInBounds_toArray, List.set_cons_succ, List.set_cons_zero]
                             rfl
                           case stepstba00 =>
                             refine ⟨?_, ?_, ?_, ?_, ?_, ?_, ?_, ?_, ?_, ?_, ?_, ?_, ?_, ?_, ?_, ?_, ?_, ?_, ?_, ?_, ?_, ?_, ?_, ?_, ?_, ?_, ?_, ?_, ?_, ?_, ?_, ?_, ?_, ?_, ?_, ?_, ?_, ?_, ?_, ?_, ?_, trivial⟩
                             all_goals first | exact .inl ⟨by kernel_rfl, rfl⟩ | refine .inr ⟨by kernel_rfl, fun w1_ hB_ => ?_⟩
                             all_goals
                               have h18_ := HX8.out.below (HM14.out.trans (hB_.mono HM14.out.size)) HX8.out.lt
                               have x0_ := h18_.cell 0 (v := .int .i64 xo) rfl
                               have x1_ := h18_.cell 1 (v := .bool xd) rfl
                               have x2_ := h18_.cell 2 (v := .string xs) rfl
                               have h20_ := HX10.out.below hB_ HX10.out.lt
                               have y0_ := h20_.cell 0 (v := .int .i64 xo) rfl
                               have y1_ := h20_.cell 1 (v := .bool xd) rfl
                               have y2_ := h20_.cell 2 (v := .string xs) rfl
                               have h22_ := HX12.out.below hB_ HX12.out.lt
                               have n0_ := h22_.cell 0 (v := .int .i64 na) rfl
                               have h24_ := HX14.out.below hB_ HX14.out.lt
                               have p0_ := h24_.cell 0 (v := .int .i64 pa) rfl
                               have p1_ := h24_.cell 1 rfl
                               have p2_ := h24_.cell 2 rfl
                               have p3_ := h24_.cell 3 rfl
                               have lc_ := HCL.out _ (HM714.out.trans (hB_.mono HM714.out.size))
                               go_simp
                               first
                                 | exact ⟨rfl, Below.refl _ _⟩
                                 | done
                                 | ((first | rw [decide_eq_true (by omega)] | rw [decide_eq_false (by omega)] | rw [if_pos (by omega)] | rw [IntWalk.i64_in _ (by omega)]); exact ⟨rfl, Below.refl _ _⟩)
                                 | done
                           case nexttba00 =>
                           intro w15 hb15
                           have HB15 := Lib.hid (HBI.out.trans ((HM714.out.trans (hb15.mono HM714.out.size)).mono HBI.out.size))
                           clear hb15
                           go_wp2_with fail
                           go_roundw
                           case rel => exact ⟨q + 1, by omega, by go_num, (HB15.out)⟩
                           case measure => first | (simp [intOf]; done) | (simp [intOf]; omega)
                         | true => as_aux_lemma =>
                           obtain ⟨hp1, rfl, rfl, rfl⟩ := HPI.out rfl
                           have hdp : decide (x < pa) = false := decide_eq_false (by omega)
                           refine wp_env (fin := ?fntba01) (by kernel_rfl) [209, 210, 211, 212, 213, 214, 215, 216, 217, 218, 219, 220, 221, 222, 223, 224, 225, 226, 227, 228, 229, 230, 231, 232, 233, 234, 235, 236, 237, 238, 239, 240, 241, 242, 243, 244, 245, 246, 247, 248, 249]
                             [.int .i64 0, .bool false, .bool false, .int .i64 0, .bool false, .bool false, .bool false, .agg #[.int .i64 xo, .bool xd, .string xs], .agg #[.int .i64 xo, .bool xd, .string xs], .bool false, .bool false, .bool false, .bool false, .bool false, undef, undef, undef, undef, undef, undef, undef, .bool false, .bool false, .bool false, .bool true, .bool true, .pointer (some ⟨w13.heap.size, 0, none⟩), .int .i64 pa, .slice (some ⟨bl, ol, none⟩) L.length cL, .int .i64 q, .pointer (some ⟨bl, ol + q, none⟩), .int .i64 x, .bool false, .bool false, .pointer (some ⟨w13.heap.size, 1, none⟩), .agg #[.int .i64 xo, .bool xd, .string xs], .agg #[.int .i64 xo, .bool xd, .string xs], .bool false, .bool false, .bool false, .bool false] (by kernel_rfl) ?fintba01 ?stepstba01 ?nexttba01
                           case fintba01 =>
                             simp only [putAll, Act.put, List.setIfInBounds_toArray, List.set_cons_succ, List.set_cons_zero]
                             rfl
                           case stepstba01 =>
                             refine ⟨?_, ?_, ?_, ?_, ?_, ?_, ?_, ?_, ?_, ?_, ?_, ?_, ?_, ?_, ?_, ?_, ?_, ?_, ?_, ?_, ?_, ?_, ?_, ?_, ?_, ?_, ?_, ?_, ?_, ?_, ?_, ?_, ?_, ?_, ?_, ?_, ?_, ?_, ?_, ?_, ?_, trivial⟩
                             all_goals first | exact .inl ⟨by kernel_rfl, rfl⟩ | refine .inr ⟨by kernel_rfl, fun w1_ hB_ => ?_⟩
                             all_goals
                               have h18_ := HX8.out.below (HM14.out.trans (hB_.mono HM14.out.size)) HX8.out.lt
                               have x0_ := h18_.cell 0 (v := .int .i64 xo) rfl
                               have x1_ := h18_.cell 1 (v := .bool xd) rfl
                               have x2_ := h18_.cell 2 (v := .string xs) rfl
                               have h20_ := HX10.out.below hB_ HX10.out.lt
                               have y0_ := h20_.cell 0 (v := .int .i64 xo) rfl
                               have y1_ := h20_.cell 1 (v := .bool xd) rfl
                               have y2_ := h20_.cell 2 (v := .string xs) rfl
                               have h22_ := HX12.out.below hB_ HX12.out.lt
                               have n0_ := h22_.cell 0 (v := .int .i64 na) rfl
                               have h24_ := HX14.out.below hB_ HX14.out.lt
                               have p0_ := h24_.cell 0 (v := .int .i64 pa) rfl
                               have p1_ := h24_.cell 1 rfl
                               have p2_ := h24_.cell 2 rfl
                               have p3_ := h24_.cell 3 rfl
                               have lc_ := HCL.out _ (HM714.out.trans (hB_.mono HM714.out.size))
                               go_simp
                               first
                                 | exact ⟨rfl, Below.refl _ _⟩
                                 | done
                                 | ((first | rw [decide_eq_true (by omega)] | rw [decide_eq_false (by omega)] | rw [if_pos (by omega)] | rw [IntWalk.i64_in _ (by omega)]); exact ⟨rfl, Below.refl _ _⟩)
                                 | done
                           case nexttba01 =>
                           intro w15 hb15
                           have HB15 := Lib.hid (HBI.out.trans ((HM714.out.trans (hb15.mono HM714.out.size)).mono HBI.out.size))
                           clear hb15
                           go_wp2_with fail
                           go_roundw
                           case rel => exact ⟨q + 1, by omega, by go_num, (HB15.out)⟩
                           case measure => first | (simp [intOf]; done) | (simp [intOf]; omega)
                       | true =>
                         obtain ⟨hn1, hn2, hn3⟩ := HNI.out rfl
                         have hdn_ : decide (na ≤ x) = false := decide_eq_false (by omega)
                         have HAN := Lib.hid (fun (W : World) (h : Below W0.heap.size W0 W) => HAT.out W h (na - 1) (by omega) (by omega) xo xd xs hn3)
                         have hwn : IntKind.i64.wrap (na - 1) = na - 1 := IntWalk.i64_in _ (by omega)
                         have hwn2 : wrap64 (na - 1) = na - 1 := IntWalk.wrap64_in _ (by omega)
                         clear hn3
                         cases also with
                         | false => as_aux_lemma =>
                           refine wp_env (fin := ?fntba10) (by kernel_rfl) [209, 210, 211, 212, 213, 214, 215, 216, 217, 218, 219, 220, 221, 222, 223, 224, 225, 226, 227, 228, 229, 230, 231, 232, 233, 234, 235, 236, 237, 238, 239, 240, 241, 242, 243, 244, 245, 246, 247, 248, 249]
                             [.int .i64 0, .bool false, .bool false, .int .i64 0, .bool false, .bool false, .bool false, .agg #[.int .i64 xo, .bool xd, .string xs], .agg #[.int .i64 xo, .bool xd, .string xs], .bool false, .bool false, .bool false, .bool true, .bool true, .pointer (some ⟨w11.heap.size, 0, none⟩), .int .i64 na, .slice (some ⟨bl, ol, none⟩) L.length cL, .int .i64 q, .pointer (some ⟨bl, ol + q, none⟩), .int .i64 x, .bool false, .bool false, .bool false, .bool false, .bool false, .bool false, undef, undef, undef, undef, undef, undef, undef, undef, undef, undef, undef, undef, undef, .bool false, .bool false] (by kernel_rfl) ?fintba10 ?stepstba10 ?nexttba10
                           case fintba10 =>
                             simp only [putAll, Act.put, List.setIfInBounds_toArray, List.set_cons_succ, List.set_cons_zero]
                             rfl
                           case stepstba10 =>
                             refine ⟨?_, ?_, ?_, ?_, ?_, ?_, ?_, ?_, ?_, ?_, ?_, ?_, ?_, ?_, ?_, ?_, ?_, ?_, ?_, ?_, ?_, ?_, ?_, ?_, ?_, ?_, ?_, ?_, ?_, ?_, ?_, ?_, ?_, ?_, ?_, ?_, ?_, ?_, ?_, ?_, ?_, trivial⟩
                             all_goals first | exact .inl ⟨by kernel_rfl, rfl⟩ | refine .inr ⟨by kernel_rfl, fun w1_ hB_ => ?_⟩
                             all_goals
                               have h18_ := HX8.out.below (HM14.out.trans (hB_.mono HM14.out.size)) HX8.out.lt
                               have x0_ := h18_.cell 0 (v := .int .i64 xo) rfl
                               have x1_ := h18_.cell 1 (v := .bool xd) rfl
                               have x2_ := h18_.cell 2 (v := .string xs) rfl
                               have h20_ := HX10.out.below hB_ HX10.out.lt
                               have y0_ := h20_.cell 0 (v := .int .i64 xo) rfl
                               have y1_ := h20_.cell 1 (v := .bool xd) rfl
                               have y2_ := h20_.cell 2 (v := .string xs) rfl
                               have h22_ := HX12.out.below hB_ HX12.out.lt
                               have n0_ := h22_.cell 0 (v := .int .i64 na) rfl
                               have h24_ := HX14.out.below hB_ HX14.out.lt
                               have p0_ := h24_.cell 0 (v := .int .i64 pa) rfl
                               have p1_ := h24_.cell 1 rfl
                               have p2_ := h24_.cell 2 rfl
                               have p3_ := h24_.cell 3 rfl
                               have lc_ := HCL.out _ (HM714.out.trans (hB_.mono HM714.out.size))
                               go_simp
                               first
                                 | exact ⟨rfl, Below.refl _ _⟩
                                 | done
                                 | ((first | rw [decide_eq_true (by omega)] | rw [decide_eq_false (by omega)] | rw [if_pos (by omega)] | rw [IntWalk.i64_in _ (by omega)]); exact ⟨rfl, Below.refl _ _⟩)
                                 | done
                           case nexttba10 =>
                           intro w15 hb15
                           have HB15 := Lib.hid (HBI.out.trans ((HM714.out.trans (hb15.mono HM714.out.size)).mono HBI.out.size))
                           have HW15 := Lib.hid (HB14.out.trans (hb15.mono HB14.out.size))
                           have h22 := HX12.out.below hb15 HX12.out.lt
                           have n0 := h22.cell 0 (v := .int .i64 na) rfl
                           have hl22 := h22.lt
                           have HX18 := Lib.hid (HX8b.out.below hb15 HX8b.out.lt)
                           clear hb15 h22
                           have hxb := HXX.out.below (HW15.out) HXX.out.lt
                           have x0 := hxb.cell 0 (v := .string zn) rfl
                           have x1 := hxb.cell 1 (v := .slice A l.length cA) rfl
                           have x2 := hxb.cell 2 (v := .slice A2 S.length cS) rfl
                           have hxl := hxb.lt
                           clear hxb
                           go_wp2_with fail
                           refine (HAN.out _ HW15.out).mono ?_
                           rintro o w16 ⟨rfl, hb⟩
                           have HB16 := Lib.hid (HB15.out.trans (hb.mono HB15.out.size))
                           have hx18 := HX18.out.below hb HX18.out.lt
                           have z0 := hx18.cell 0 (v := .int .i64 xo) rfl
                           have z1 := hx18.cell 1 (v := .bool xd) rfl
                           have z2 := hx18.cell 2 (v := .string xs) rfl
                           have hl18 := hx18.lt
                           have HB17 := Lib.hid (HB16.out.alloc HB16.out.size (.cells #[.int .i64 xo, .bool xd, .string xs] 48))
                           clear hb hx18 x0 x1 x2 hxl n0
                           go_wp2_with fail
                           go_roundw
                           case rel => exact ⟨q + 1, by omega, by go_num, (HB17.out)⟩
                           case measure => first | (simp [intOf]; done) | (simp [intOf]; omega)
                         | true => as_aux_lemma =>
                           obtain ⟨hp1, rfl, rfl, rfl⟩ := HPI.out rfl
                           have hdp : decide (x < pa) = false := decide_eq_false (by omega)
                           refine wp_env (fin := ?fntba11) (by kernel_rfl) [209, 210, 211, 212, 213, 214, 215, 216, 217, 218, 219, 220, 221, 222, 223, 224, 225, 226, 227, 228, 229, 230, 231, 232, 233, 234, 235, 236, 237, 238, 239, 240, 241, 242, 243, 244, 245, 246, 247, 248, 249]
                             [.int .i64 0, .bool false, .bool false, .int .i64 0, .bool false, .bool false, .bool false, .agg #[.int .i64 xo, .bool xd, .string xs], .agg #[.int .i64 xo, .bool xd, .string xs], .bool false, .bool false, .bool false, .bool true, .bool true, .pointer (some ⟨w11.heap.size, 0, none⟩), .int .i64 na, .slice (some ⟨bl, ol, none⟩) L.length cL, .int .i64 q, .pointer (some ⟨bl, ol + q, none⟩), .int .i64 x, .bool false, .bool false, .bool false, .bool false, .bool true, .bool true, .pointer (some ⟨w13.heap.size, 0, none⟩), .int .i64 pa, .slice (some ⟨bl, ol, none⟩) L.length cL, .int .i64 q, .pointer (some ⟨bl, ol + q, none⟩), .int .i64 x, .bool false, .bool false, .pointer (some ⟨w13.heap.size, 1, none⟩), .agg #[.int .i64 xo, .bool xd, .string xs], .agg #[.int .i64 xo, .bool xd, .string xs], .bool false, .bool false, .bool false, .bool false] (by kernel_rfl) ?fintba11 ?stepstba11 ?nexttba11
                           case fintba11 =>
                             simp only [putAll, Act.put, List.setIfInBounds_toArray, List.set_cons_succ, List.set_cons_zero]
                             rfl
                           case stepstba11 =>
                             refine ⟨?_, ?_, ?_, ?_, ?_, ?_, ?_, ?_, ?_, ?_, ?_, ?_, ?_, ?_, ?_, ?_, ?_, ?_, ?_, ?_, ?_, ?_, ?_, ?_, ?_, ?_, ?_, ?_, ?_, ?_, ?_, ?_, ?_, ?_, ?_, ?_, ?_, ?_, ?_, ?_, ?_, trivial⟩
                             all_goals refine .inr ⟨by kernel_rfl, fun w1_ hB_ => ?_⟩
                             all_goals
                               have h18_ := HX8.out.below (HM14.out.trans (hB_.mono HM14.out.size)) HX8.out.lt
                               have x0_ := h18_.cell 0 (v := .int .i64 xo) rfl
                               have x1_ := h18_.cell 1 (v := .bool xd) rfl
                               have x2_ := h18_.cell 2 (v := .string xs) rfl
                               have h20_ := HX10.out.below hB_ HX10.out.lt
                               have y0_ := h20_.cell 0 (v := .int .i64 xo) rfl
                               have y1_ := h20_.cell 1 (v := .bool xd) rfl
                               have y2_ := h20_.cell 2 (v := .string xs) rfl
                               have h22_ := HX12.out.below hB_ HX12.out.lt
                               have n0_ := h22_.cell 0 (v := .int .i64 na) rfl
                               have h24_ := HX14.out.below hB_ HX14.out.lt
                               have p0_ := h24_.cell 0 (v := .int .i64 pa) rfl
                               have p1_ := h24_.cell 1 rfl
                               have p2_ := h24_.cell 2 rfl
                               have p3_ := h24_.cell 3 rfl
                               have lc_ := HCL.out _ (HM714.out.trans (hB_.mono HM714.out.size))
                               go_simp
                               first
                                 | exact ⟨rfl, Below.refl _ _⟩
                                 | done
                                 | ((first | rw [decide_eq_true (by omega)] | rw [decide_eq_false (by omega)] | rw [if_pos (by omega)] | rw [IntWalk.i64_in _ (by omega)]); exact ⟨rfl, Below.refl _ _⟩)
                                 | done
                           case nexttba11 =>
                           intro w15 hb15
                           have HB15 := Lib.hid (HBI.out.trans ((HM714.out.trans (hb15.mono HM714.out.size)).mono HBI.out.size))
                           have HW15 := Lib.hid (HB14.out.trans (hb15.mono HB14.out.size))
                           have h22 := HX12.out.below hb15 HX12.out.lt
                           have n0 := h22.cell 0 (v := .int .i64 na) rfl
                           have hl22 := h22.lt
                           have HX18 := Lib.hid (HX8b.out.below hb15 HX8b.out.lt)
                           clear hb15 h22
                           have hxb := HXX.out.below (HW15.out) HXX.out.lt
                           have x0 := hxb.cell 0 (v := .string zn) rfl
                           have x1 := hxb.cell 1 (v := .slice A l.length cA) rfl
                           have x2 := hxb.cell 2 (v := .slice A2 S.length cS) rfl
                           have hxl := hxb.lt
                           clear hxb
                           go_wp2_with fail
                           refine (HAN.out _ HW15.out).mono ?_
                           rintro o w16 ⟨rfl, hb⟩
                           have HB16 := Lib.hid (HB15.out.trans (hb.mono HB15.out.size))
                           have hx18 := HX18.out.below hb HX18.out.lt
                           have z0 := hx18.cell 0 (v := .int .i64 xo) rfl
                           have z1 := hx18.cell 1 (v := .bool xd) rfl
                           have z2 := hx18.cell 2 (v := .string xs) rfl
                           have hl18 := hx18.lt
                           have HB17 := Lib.hid (HB16.out.alloc HB16.out.size (.cells #[.int .i64 xo, .bool xd, .string xs] 48))
                           clear hb hx18 x0 x1 x2 hxl n0
                           go_wp2_with fail
                           go_roundw
                           case rel => exact ⟨q + 1, by omega, by go_num, (HB17.out)⟩
                           case measure => first | (simp [intOf]; done) | (simp [intOf]; omega)
                 · obtain rfl : q = L.length := by omega
                   have hdq : decide ((L.length : Int) < (L.length : Int)) = false := decide_eq_false (by omega)
                   go_wp2_with fail
                   refine (tawake_any _ ((HZ0.out.below (HB7.out)).maxl)).mono ?_
                   rintro o wz ⟨rfl, hbz⟩
                   have hb9 := HB0.out.trans (((HB7.out).trans (hbz.mono (HB7.out).size)).mono HB0.out.size)
                   clear hbz
                   go_wp2_with fail
                   go_ret
                   exact ⟨rfl, hb9⟩
         · have hd : decide ((k : Int) < (n : Int)) = false := decide_eq_false (by omega)
           go_wp2_with fail
           as_aux_lemma =>
             obtain ⟨w3, hw3⟩ : ∃ x, x = wr := ⟨_, rfl⟩
             subst hw3
             have HB3 := Lib.hid HBW.out
             have HR3 := Lib.hid HR.out
             clear HR HBW hk hk1
             go_loopw [17] (fun iv wr => ∃ q : Nat, q ≤ L.length ∧ iv = .int .i64 q ∧ Below w3.heap.size w3 wr) (fun iv _ => L.length - (intOf iv).toNat)
             case atStart => exact ⟨0, Nat.zero_le _, rfl, Below.refl _ _⟩
             case round =>
               obtain ⟨q, hq, rfl, hbi⟩ := hrel
               have HBI := Lib.hid hbi
               have HB7 := Lib.hid (HB3.out.trans (hbi.mono HB3.out.size))
               have HR7 := Lib.hid (HR3.out.trans (hbi.mono HR3.out.size))
               clear hbi
               by_cases hlq : q < L.length
               · as_aux_lemma =>
                   have hdq : decide ((q : Int) < (L.length : Int)) = true := decide_eq_true (by omega)
                   obtain ⟨bl, ol, cl', e, hbl, hcl⟩ := (HL0.out.below (HB7.out.mono HB0.out.size)).cells (by omega)
                   cases e
                   have lc := hcl q hlq
                   obtain ⟨x, hx⟩ : ∃ i, L[q] = i := ⟨_, rfl⟩
                   rw [hx] at lc
                   have hblw : bl < wr.heap.size := by have := HB7.out.size; have := HB0.out.size; omega
                   have HCL := Lib.hid (fun (W : World) (h : Below wr.heap.size wr W) => show W.cell? ⟨bl, ol + q, none⟩ = some (.int .i64 x) from (h.cell (p := ⟨bl, ol + q, none⟩) hblw).trans lc)
                   clear hcl hx
                   by_cases hxr : x < -2199023255552 ∨ to < x
                   · obtain ⟨d1, d2, hd1, hd2, hdd⟩ : ∃ p q, decide (x < -2199023255552) = p ∧ decide (to < x) = q ∧ (p = true ∨ p = false ∧ q = true) := by
                       refine ⟨_, _, rfl, rfl, ?_⟩
                       by_cases h : x < -2199023255552
                       · exact .inl (decide_eq_true h)
                       · exact .inr ⟨decide_eq_false h, decide_eq_true (by omega)⟩
                     clear hxr
                     rcases hdd with rfl | ⟨rfl, rfl⟩
                     ·
                       go_wp2_with fail
                       go_roundw
                       case rel => exact ⟨q + 1, by omega, by go_num, (HBI.out)⟩
                       case measure => first | (simp [intOf]; done) | (simp [intOf]; omega)
                     ·
                       go_wp2_with fail
                       go_roundw
                       case rel => exact ⟨q + 1, by omega, by go_num, (HBI.out)⟩
                       case measure => first | (simp [intOf]; done) | (simp [intOf]; omega)
                   · have hd1 : decide (x < -2199023255552) = false := decide_eq_false (by omega)
                     have hd2 : decide (to < x) = false := decide_eq_false (by omega)
                     obtain ⟨m, hm, hbh, hmle, hgx, hnx⟩ := HTO.out.at_ (x := x) (by omega) (by omega)
                     obtain ⟨⟨ca, ⟨xo, xd, xs⟩⟩, hck⟩ : ∃ c, T[m]'hm = c := ⟨_, rfl⟩
                     rw [hck] at hgx hmle
                     simp only at hgx hmle
                     have hgm : T.getD m .zero = ⟨ca, ⟨xo, xd, xs⟩⟩ := by rw [List.getD_eq_getElem?_getD, List.getElem?_eq_getElem hm, hck]; rfl
                     have HAX := Lib.hid (fun (W : World) (h : Below W0.heap.size W0 W) => HAT.out W h x (by omega) (by omega) xo xd xs hgx)
                     have hv1 : tatV T x = (⟨xo, xd, xs⟩, 0) := by unfold tatV; rw [hbh, if_neg (by omega), Nat.add_sub_cancel, hgm]
                     have hv2 : ∃ na no nd ns is, tnextV T x = (⟨na, ⟨no, nd, ns⟩⟩, is) ∧ (is = true → x < na ∧ na ≤ to ∧ locZ S l (na - 1) = ⟨xo, xd, xs⟩) := by
                       unfold tnextV
                       rw [hbh]
                       split
                       · exact ⟨0, 0, false, ⟨#[]⟩, false, rfl, fun h => by cases h⟩
                       · have hm1 : m + 1 < T.length := by omega
                         obtain ⟨⟨na, ⟨no, nd, ns⟩⟩, hnc⟩ : ∃ c, T[m + 1]'hm1 = c := ⟨_, rfl⟩
                         refine ⟨na, no, nd, ns, true, by rw [List.getD_eq_getElem?_getD, List.getElem?_eq_getElem hm1, hnc]; rfl, fun _ => ?_⟩
                         have h1 := hnx hm1
                         have h2 := (HTO.out.mem (m + 1) hm1).1.2 (by omega)
                         have h3 := HTO.out.before hm1
                         rw [hnc] at h1 h2 h3
                         rw [hck] at h3
                         exact ⟨h1, h2, h3⟩
                     have hv3 : ∃ pa po pd ps also, tprevV T x = (⟨pa, ⟨po, pd, ps⟩⟩, also) ∧ (also = true → pa ≤ x ∧ xo = po ∧ xd = pd ∧ xs = ps) := by
                       unfold tprevV
                       rw [hbh]
                       split
                       · exact ⟨0, 0, false, ⟨#[]⟩, false, rfl, fun h => by cases h⟩
                       · exact ⟨ca, xo, xd, xs, true, by rw [Nat.add_sub_cancel, hgm], fun _ => ⟨hmle, rfl, rfl, rfl⟩⟩
                     obtain ⟨na, no, nd, ns, is, hv2, hni⟩ := hv2
                     obtain ⟨pa, po, pd, ps, also, hv3, hpi⟩ := hv3
                     have hMT : Chgs w2 w2.heap.size (.slice (some ⟨bm, om, none⟩) T.length cm) T := by rw [HTL.out]; exact HMV.out
                     have hTm : T.length ≤ 2000000000000 := by rw [HTL.out]; exact hTn
                     have HTA := Lib.hid (show ∀ (W : World), Below w2.heap.size w2 W → Calls Tryz.prog 41 #[.slice (some ⟨bm, om, none⟩) n cm, .int .i64 x] W fun o w' => o = .returned (.tuple #[locA ⟨xo, xd, xs⟩, .int .i64 0]) ∧ Below W.heap.size W w' from fun W h => by
                       have h1 := tat_any W w2.heap.size _ T x (hMT.below h) h.size hTm HTO.out.rising
                       rw [hv1, HTL.out] at h1
                       exact h1)
                     have HTN := Lib.hid (show ∀ (W : World), Below w2.heap.size w2 W → Calls Tryz.prog 42 #[.slice (some ⟨bm, om, none⟩) n cm, .int .i64 x] W fun o w' => o = .returned (.tuple #[chgA ⟨na, ⟨no, nd, ns⟩⟩, .bool is]) ∧ Below W.heap.size W w' from fun W h => by
                       have h1 := tnext_any W w2.heap.size _ T x (hMT.below h) h.size hTm HTO.out.rising
                       rw [hv2, HTL.out] at h1
                       exact h1)
                     have HTP := Lib.hid (show ∀ (W : World), Below w2.heap.size w2 W → Calls Tryz.prog 43 #[.slice (some ⟨bm, om, none⟩) n cm, .int .i64 x] W fun o w' => o = .returned (.tuple #[chgA ⟨pa, ⟨po, pd, ps⟩⟩, .bool also]) ∧ Below W.heap.size W w' from fun W h => by
                       have h1 := tprev_any W w2.heap.size _ T x (hMT.below h) h.size hTm HTO.out.rising
                       rw [hv3, HTL.out] at h1
                       exact h1)
                     unfold locA at HTA
                     unfold chgA at HTN HTP
                     have HNI := Lib.hid hni
                     have HPI := Lib.hid hpi
                     have hxm : -2199023255552 ≤ x := by omega
                     clear hMT hTm hm hbh hmle hgx hnx hck hgm hv1 hv2 hv3 hni hpi hxr
                     go_wp2_with fail
                     refine wp_envA (fin := ?fntab) (by kernel_rfl) [171, 172, 173, 174, 175, 176, 177, 178, 179, 170, 180, 181, 18, 999, 19]
                       [.pointer (some ⟨w.heap.size, 0, none⟩), .agg #[.string zn, .slice A l.length cA], .agg #[.string zn, .slice A l.length cA, .slice A2 S.length cS], .func (.func 15) #[.agg #[.string zn, .slice A l.length cA, .slice A2 S.length cS]] #[], .slice (some ⟨bl, ol, none⟩) L.length cL, .int .i64 q, .pointer (some ⟨bl, ol + q, none⟩), .int .i64 x, .tuple #[.agg #[.int .i64 xo, .bool xd, .string xs], .int .i64 0], .tuple #[.agg #[.int .i64 xo, .bool xd, .string xs], .int .i64 0], .agg #[.int .i64 xo, .bool xd, .string xs], .int .i64 0, undef, undef, .int .i64 0] 12 13 48 #[.int .i64 0, .bool false, .string ⟨#[]⟩] #[.int .i64 xo, .bool xd, .string xs] (by kernel_rfl) (by simp) (by decide) ?fintab ?stepstab ?nexttab
                     case fintab =>
                       intro p_
                       simp only [List.set_cons_succ, List.set_cons_zero, putAll, Act.put, List.setIfInBounds_toArray, List.set_nil]
                       rfl
                     case stepstab =>
                       refine ⟨?_, ?_, ?_, ?_, ?_, ?_, ?_, ?_, ?_, ?_, ?_, ?_, ?altab, ?sttab, ?_, trivial⟩
                       case altab =>
                         refine ⟨fun p_ => by kernel_rfl, fun p_ w1_ hB_ => ?_⟩
                         first | rfl | (go_simp; done) | (go_simp; rfl)
                       case sttab =>
                         refine ⟨fun p_ => by kernel_rfl, fun b_ w1_ hb_ => ⟨(((w1_.setCell ⟨b_, 0, none⟩ (.int .i64 xo)).setCell ⟨b_, 1, none⟩ (.bool xd)).setCell ⟨b_, 2, none⟩ (.string xs)), ?_, ((Fr.setCell (T := fun k => k = b_) w1_ 0 (.int .i64 xo) rfl).then (Fr.setCell _ 1 _ rfl)).then (Fr.setCell _ 2 _ rfl), (((hb_.set 0 (.int .i64 xo)).set 1 (.bool xd)).set 2 (.string xs))⟩⟩
                         have f0_ := Blk.frozen hb_ 0
                         have f1_ := Blk.frozen hb_ 1
                         have f2_ := Blk.frozen hb_ 2
                         have z0_ := Blk.cell hb_ 0 (v := .int .i64 0) rfl
                         have z1_ := Blk.cell hb_ 1 (v := .bool false) rfl
                         have z2_ := Blk.cell hb_ 2 (v := .string ⟨#[]⟩) rfl
                         go_simp
                         try rfl
                       all_goals
                         intro p_
                         refine .inr ⟨by kernel_rfl, fun w1_ hB_ => ?_⟩
                         have hw_ := HB7.out.trans (hB_.mono HB7.out.size)
                         have hxb_ := HXX.out.below hw_ HXX.out.lt
                         have x0_ := hxb_.cell 0 (v := .string zn) rfl
                         have x1_ := hxb_.cell 1 (v := .slice A l.length cA) rfl
                         have x2_ := hxb_.cell 2 (v := .slice A2 S.length cS) rfl
                         have lc_ := HCL.out _ hB_
                         go_simp
                         first
                           | exact ⟨rfl, Below.refl _ _⟩
                           | exact ⟨rfl, HAX.out _ hw_⟩
                           | ((first | rw [decide_eq_true (by omega)] | rw [decide_eq_false (by omega)] | rw [if_pos (by omega)] | rw [IntWalk.i64_in _ (by omega)]); exact ⟨rfl, Below.refl _ _⟩)
                           | done
                     case nexttab =>
                     intro xb w8 hb8 hxb8 hX8
                     have HB8 := Lib.hid (HB7.out.trans (hb8.mono HB7.out.size))
                     have HR8 := Lib.hid (HR7.out.trans (hb8.mono HR7.out.size))
                     have HM8 := Lib.hid hb8
                     have HX8 := Lib.hid hX8
                     have lc8 := HCL.out _ hb8
                     have hbl8 : bl < w8.heap.size := Nat.lt_of_lt_of_le hblw hb8.size
                     clear hb8 hxb8 hX8 lc
                     go_wp2_with fail
                     refine (HTA.out _ HR8.out).mono ?_
                     rintro o w9 ⟨rfl, hb⟩
                     have HR9 := Lib.hid (HR8.out.trans (hb.mono HR8.out.size))
                     have HM9 := Lib.hid hb
                     obtain ⟨w10, hw10⟩ : ∃ W, w9.alloc (.cells #[.int .i64 xo, .bool xd, .string xs] 48) = W := ⟨_, rfl⟩
                     have hb10 : Below w9.heap.size w9 w10 := by rw [← hw10]; exact (Below.refl _ _).alloc (Nat.le_refl _) _
                     have hx10 : Blk w10 w9.heap.size 48 #[.int .i64 xo, .bool xd, .string xs] := by rw [← hw10]; exact Blk.new w9 _ _
                     have HR10 := Lib.hid (HR9.out.trans (hb10.mono HR9.out.size))
                     have HM10 := Lib.hid (hb.trans (hb10.mono hb.size))
                     have HX10 := Lib.hid hx10
                     have lc10 := (HM10.out.cell (p := ⟨bl, ol + q, none⟩) hbl8).trans lc8
                     have hbl10 : bl < w10.heap.size := Nat.lt_of_lt_of_le hbl8 HM10.out.size
                     clear hb hb10 hx10 lc8
                     go_wp2_with fail
                     clear hw10
                     refine (HTN.out _ HR10.out).mono ?_
                     rintro o w11 ⟨rfl, hb⟩
                     have HR11 := Lib.hid (HR10.out.trans (hb.mono HR10.out.size))
                     obtain ⟨w12, hw12⟩ : ∃ W, w11.alloc (.cells #[.int .i64 na, .int .i64 no, .bool nd, .string ns] 76) = W := ⟨_, rfl⟩
                     have hb12 : Below w11.heap.size w11 w12 := by rw [← hw12]; exact (Below.refl _ _).alloc (Nat.le_refl _) _
                     have hx12 : Blk w12 w11.heap.size 76 #[.int .i64 na, .int .i64 no, .bool nd, .string ns] := by rw [← hw12]; exact Blk.new w11 _ _
                     have HR12 := Lib.hid (HR11.out.trans (hb12.mono HR11.out.size))
                     have HM12 := Lib.hid (hb.trans (hb12.mono hb.size))
                     have HX12 := Lib.hid hx12
                     have lc12 := (HM12.out.cell (p := ⟨bl, ol + q, none⟩) hbl10).trans lc10
                     have hbl12 : bl < w12.heap.size := Nat.lt_of_lt_of_le hbl10 HM12.out.size
                     clear hb hb12 hx12 lc10
                     go_wp2_with fail
                     clear hw12
                     refine (HTP.out _ HR12.out).mono ?_
                     rintro o w13 ⟨rfl, hb⟩
                     have HR13 := Lib.hid (HR12.out.trans (hb.mono HR12.out.size))
                     obtain ⟨w14, hw14⟩ : ∃ W, w13.alloc (.cells #[.int .i64 pa, .int .i64 po, .bool pd, .string ps] 76) = W := ⟨_, rfl⟩
                     have hb14 : Below w13.heap.size w13 w14 := by rw [← hw14]; exact (Below.refl _ _).alloc (Nat.le_refl _) _
                     have hx14 : Blk w14 w13.heap.size 76 #[.int .i64 pa, .int .i64 po, .bool pd, .string ps] := by rw [← hw14]; exact Blk.new w13 _ _
                     have HR14 := Lib.hid (HR13.out.trans (hb14.mono HR13.out.size))
                     have hm14 := hb.trans (hb14.mono hb.size)
                     have HX14 := Lib.hid hx14
                     have HX12 := Lib.hid (HX12.out.below hm14 HX12.out.lt)
                     have hm1014 := HM12.out.trans (hm14.mono HM12.out.size)
                     have HX10 := Lib.hid (HX10.out.below hm1014 HX10.out.lt)
                     have HM14 := Lib.hid (HM10.out.trans (hm1014.mono HM10.out.size))
                     have HM714 := Lib.hid (HM8.out.trans (HM14.out.mono HM8.out.size))
                     have HX8b := Lib.hid (HX8.out.below HM14.out HX8.out.lt)
                     have HB14 := Lib.hid (HB8.out.trans (HM14.out.mono HB8.out.size))
                     have lc14 := HCL.out _ HM714.out
                     have hbl14 : bl < w14.heap.size := Nat.lt_of_lt_of_le hblw HM714.out.size
                     have hl8 := HX8b.out.lt
                     have hl10 := HX10.out.lt
                     have hl12 := HX12.out.lt
                     have hl14 := HX14.out.lt
                     clear hb hb14 hx14 lc12 hm14 hm1014
                     go_wp2_with fail
                     clear hw14
                     have hdq2 : decide (q < L.length) = true := decide_eq_true hlq
                     have hqi : (q : Int) < (L.length : Int) := by omega
                     cases is with
                     | false =>
                       cases also with
                       | false => as_aux_lemma =>
                         refine wp_env (fin := ?fntbb00) (by kernel_rfl) [209, 210, 211, 212, 213, 214, 215, 216, 217, 218, 219, 220, 221, 222, 223, 224, 225, 226, 227, 228, 229, 230, 231, 232, 233, 234, 235, 236, 237, 238, 239, 240, 241, 242, 243, 244, 245, 246, 247, 248, 249]
                           [.int .i64 0, .bool false, .bool false, .int .i64 0, .bool false, .bool false, .bool false, .agg #[.int .i64 xo, .bool xd, .string xs], .agg #[.int .i64 xo, .bool xd, .string xs], .bool false, .bool false, .bool false, .bool false, .bool false, undef, undef, undef, undef, undef, undef, undef, .bool false, .bool false, .bool false, .bool false, .bool false, undef, undef, undef, undef, undef, undef, undef, undef, undef, undef, undef, undef, undef, .bool false, .bool false] (by kernel_rfl) ?fintbb00 ?stepstbb00 ?nexttbb00
                         case fintbb00 =>
                           simp only [putAll, Act.put, List.setIfInBounds_toArray, List.set_cons_succ, List.set_cons_zero]
                           rfl
                         case stepstbb00 =>
                           refine ⟨?_, ?_, ?_, ?_, ?_, ?_, ?_, ?_, ?_, ?_, ?_, ?_, ?_, ?_, ?_, ?_, ?_, ?_, ?_, ?_, ?_, ?_, ?_, ?_, ?_, ?_, ?_, ?_, ?_, ?_, ?_, ?_, ?_, ?_, ?_, ?_, ?_, ?_, ?_, ?_, ?_, trivial⟩
                           all_goals first | exact .inl ⟨by kernel_rfl, rfl⟩ | refine .inr ⟨by kernel_rfl, fun w1_ hB_ => ?_⟩
                           all_goals
                             have h18_ := HX8.out.below (HM14.out.trans (hB_.mono HM14.out.size)) HX8.out.lt
                             have x0_ := h18_.cell 0 (v := .int .i64 xo) rfl
                             have x1_ := h18_.cell 1 (v := .bool xd) rfl
                             have x2_ := h18_.cell 2 (v := .string xs) rfl
                             have h20_ := HX10.out.below hB_ HX10.out.lt
                             have y0_ := h20_.cell 0 (v := .int .i64 xo) rfl
                             have y1_ := h20_.cell 1 (v := .bool xd) rfl
                             have y2_ := h20_.cell 2 (v := .string xs) rfl
                             have h22_ := HX12.out.below hB_ HX12.out.lt
                             have n0_ := h22_.cell 0 (v := .int .i64 na) rfl
                             have h24_ := HX14.out.below hB_ HX14.out.lt
                             have p0_ := h24_.cell 0 (v := .int .i64 pa) rfl
                             have p1_ := h24_.cell 1 rfl
                             have p2_ := h24_.cell 2 rfl
                             have p3_ := h24_.cell 3 rfl
                             have lc_ := HCL.out _ (HM714.out.trans (hB_.mono HM714.out.size))
                             go_simp
                             first
                               | exact ⟨rfl, Below.refl _ _⟩
                               | done
                               | ((first | rw [decide_eq_true (by omega)] | rw [decide_eq_false (by omega)] | rw [if_pos (by omega)] | rw [IntWalk.i64_in _ (by omega)]); exact ⟨rfl, Below.refl _ _⟩)
                               | done
                         case nexttbb00 =>
                         intro w15 hb15
                         have HB15 := Lib.hid (HBI.out.trans ((HM714.out.trans (hb15.mono HM714.out.size)).mono HBI.out.size))
                         clear hb15
                         go_wp2_with fail
                         go_roundw
                         case rel => exact ⟨q + 1, by omega, by go_num, (HB15.out)⟩
                         case measure => first | (simp [intOf]; done) | (simp [intOf]; omega)
                       | true => as_aux_lemma =>
                         obtain ⟨hp1, rfl, rfl, rfl⟩ := HPI.out rfl
                         have hdp : decide (x < pa) = false := decide_eq_false (by omega)
                         refine wp_env (fin := ?fntbb01) (by kernel_rfl) [209, 210, 211, 212, 213, 214, 215, 216, 217, 218, 219, 220, 221, 222, 223, 224, 225, 226, 227, 228, 229, 230, 231, 232, 233, 234, 235, 236, 237, 238, 239, 240, 241, 242, 243, 244, 245, 246, 247, 248, 249]
                           [.int .i64 0, .bool false, .bool false, .int .i64 0, .bool false, .bool false, .bool false, .agg #[.int .i64 xo, .bool xd, .string xs], .agg #[.int .i64 xo, .bool xd, .string xs], .bool false, .bool false, .bool false, .bool false, .bool false, undef, undef, undef, undef, undef, undef, undef, .bool false, .bool false, .bool false, .bool true, .bool true, .pointer (some ⟨w13.heap.size, 0, none⟩), .int .i64 pa, .slice (some ⟨bl, ol, none⟩) L.length cL, .int .i64 q, .pointer (some ⟨bl, ol + q, none⟩), .int .i64 x, .bool false, .bool false, .pointer (some ⟨w13.heap.size, 1, none⟩), .agg #[.int .i64 xo, .bool xd, .string xs], .agg #[.int .i64 xo, .bool xd, .string xs], .bool false, .bool false, .bool false, .bool false] (by kernel_rfl) ?fintbb01 ?stepstbb01 ?nexttbb01
                         case fintbb01 =>
                           simp only [putAll, Act.put, List.setIfInBounds_toArray, List.set_cons_succ, List.set_cons_zero]
                           rfl
                         case stepstbb01 =>
                           refine ⟨?_, ?_, ?_, ?_, ?_, ?_, ?_, ?_, ?_, ?_, ?_, ?_, ?_, ?_, ?_, ?_, ?_, ?_, ?_, ?_, ?_, ?_, ?_, ?_, ?_, ?_, ?_, ?_, ?_, ?_, ?_, ?_, ?_, ?_, ?_, ?_, ?_, ?_, ?_, ?_, ?_, trivial⟩
                           all_goals first | exact .inl ⟨by kernel_rfl, rfl⟩ | refine .inr ⟨by kernel_rfl, fun w1_ hB_ => ?_⟩
                           all_goals
                             have h18_ := HX8.out.below (HM14.out.trans (hB_.mono HM14.out.size)) HX8.out.lt
                             have x0_ := h18_.cell 0 (v := .int .i64 xo) rfl
                             have x1_ := h18_.cell 1 (v := .bool xd) rfl
                             have x2_ := h18_.cell 2 (v := .string xs) rfl
                             have h20_ := HX10.out.below hB_ HX10.out.lt
                             have y0_ := h20_.cell 0 (v := .int .i64 xo) rfl
                             have y1_ := h20_.cell 1 (v := .bool xd) rfl
                             have y2_ := h20_.cell 2 (v := .string xs) rfl
                             have h22_ := HX12.out.below hB_ HX12.out.lt
                             have n0_ := h22_.cell 0 (v := .int .i64 na) rfl
                             have h24_ := HX14.out.below hB_ HX14.out.lt
                             have p0_ := h24_.cell 0 (v := .int .i64 pa) rfl
                             have p1_ := h24_.cell 1 rfl
                             have p2_ := h24_.cell 2 rfl
                             have p3_ := h24_.cell 3 rfl
                             have lc_ := HCL.out _ (HM714.out.trans (hB_.mono HM714.out.size))
                             go_simp
                             first
                               | exact ⟨rfl, Below.refl _ _⟩
                               | done
                               | ((first | rw [decide_eq_true (by omega)] | rw [decide_eq_false (by omega)] | rw [if_pos (by omega)] | rw [IntWalk.i64_in _ (by omega)]); exact ⟨rfl, Below.refl _ _⟩)
                               | done
                         case nexttbb01 =>
                         intro w15 hb15
                         have HB15 := Lib.hid (HBI.out.trans ((HM714.out.trans (hb15.mono HM714.out.size)).mono HBI.out.size))
                         clear hb15
                         go_wp2_with fail
                         go_roundw
                         case rel => exact ⟨q + 1, by omega, by go_num, (HB15.out)⟩
                         case measure => first | (simp [intOf]; done) | (simp [intOf]; omega)
                     | true =>
                       obtain ⟨hn1, hn2, hn3⟩ := HNI.out rfl
                       have hdn_ : decide (na ≤ x) = false := decide_eq_false (by omega)
                       have HAN := Lib.hid (fun (W : World) (h : Below W0.heap.size W0 W) => HAT.out W h (na - 1) (by omega) (by omega) xo xd xs hn3)
                       have hwn : IntKind.i64.wrap (na - 1) = na - 1 := IntWalk.i64_in _ (by omega)
                       have hwn2 : wrap64 (na - 1) = na - 1 := IntWalk.wrap64_in _ (by omega)
                       clear hn3
                       cases also with
                       | false => as_aux_lemma =>
                         refine wp_env (fin := ?fntbb10) (by kernel_rfl) [209, 210, 211, 212, 213, 214, 215, 216, 217, 218, 219, 220, 221, 222, 223, 224, 225, 226, 227, 228, 229, 230, 231, 232, 233, 234, 235, 236, 237, 238, 239, 240, 241, 242, 243, 244, 245, 246, 247, 248, 249]
                           [.int .i64 0, .bool false, .bool false, .int .i64 0, .bool false, .bool false, .bool false, .agg #[.int .i64 xo, .bool xd, .string xs], .agg #[.int .i64 xo, .bool xd, .string xs], .bool false, .bool false, .bool false, .bool true, .bool true, .pointer (some ⟨w11.heap.size, 0, none⟩), .int .i64 na, .slice (some ⟨bl, ol, none⟩) L.length cL, .int .i64 q, .pointer (some ⟨bl, ol + q, none⟩), .int .i64 x, .bool false, .bool false, .bool false, .bool false, .bool false, .bool false, undef, undef, undef, undef, undef, undef, undef, undef, undef, undef, undef, undef, undef, .bool false, .bool false] (by kernel_rfl) ?fintbb10 ?stepstbb10 ?nexttbb10
                         case fintbb10 =>
                           simp only [putAll, Act.put, List.setIfInBounds_toArray, List.set_cons_succ, List.set_cons_zero]
                           rfl
                         case stepstbb10 =>
                           refine ⟨?_, ?_, ?_, ?_, ?_, ?_, ?_, ?_, ?_, ?_, ?_, ?_, ?_, ?_, ?_, ?_, ?_, ?_, ?_, ?_, ?_, ?_, ?_, ?_, ?_, ?_, ?_, ?_, ?_, ?_, ?_, ?_, ?_, ?_, ?_, ?_, ?_, ?_, ?_, ?_, ?_, trivial⟩
                           all_goals first | exact .inl ⟨by kernel_rfl, rfl⟩ | refine .inr ⟨by kernel_rfl, fun w1_ hB_ => ?_⟩
                           all_goals
                             have h18_ := HX8.out.below (HM14.out.trans (hB_.mono HM14.out.size)) HX8.out.lt
                             have x0_ := h18_.cell 0 (v := .int .i64 xo) rfl
                             have x1_ := h18_.cell 1 (v := .bool xd) rfl
                             have x2_ := h18_.cell 2 (v := .string xs) rfl
                             have h20_ := HX10.out.below hB_ HX10.out.lt
                             have y0_ := h20_.cell 0 (v := .int .i64 xo) rfl
                             have y1_ := h20_.cell 1 (v := .bool xd) rfl
                             have y2_ := h20_.cell 2 (v := .string xs) rfl
                             have h22_ := HX12.out.below hB_ HX12.out.lt
                             have n0_ := h22_.cell 0 (v := .int .i64 na) rfl
                             have h24_ := HX14.out.below hB_ HX14.out.lt
                             have p0_ := h24_.cell 0 (v := .int .i64 pa) rfl
                             have p1_ := h24_.cell 1 rfl
                             have p2_ := h24_.cell 2 rfl
                             have p3_ := h24_.cell 3 rfl
                             have lc_ := HCL.out _ (HM714.out.trans (hB_.mono HM714.out.size))
                             go_simp
                             first
                               | exact ⟨rfl, Below.refl _ _⟩
                               | done
                               | ((first | rw [decide_eq_true (by omega)] | rw [decide_eq_false (by omega)] | rw [if_pos (by omega)] | rw [IntWalk.i64_in _ (by omega)]); exact ⟨rfl, Below.refl _ _⟩)
                               | done
                         case nexttbb10 =>
                         intro w15 hb15
                         have HB15 := Lib.hid (HBI.out.trans ((HM714.out.trans (hb15.mono HM714.out.size)).mono HBI.out.size))
                         have HW15 := Lib.hid (HB14.out.trans (hb15.mono HB14.out.size))
                         have h22 := HX12.out.below hb15 HX12.out.lt
                         have n0 := h22.cell 0 (v := .int .i64 na) rfl
                         have hl22 := h22.lt
                         have HX18 := Lib.hid (HX8b.out.below hb15 HX8b.out.lt)
                         clear hb15 h22
                         have hxb := HXX.out.below (HW15.out) HXX.out.lt
                         have x0 := hxb.cell 0 (v := .string zn) rfl
                         have x1 := hxb.cell 1 (v := .slice A l.length cA) rfl
                         have x2 := hxb.cell 2 (v := .slice A2 S.length cS) rfl
                         have hxl := hxb.lt
                         clear hxb
                         go_wp2_with fail
                         refine (HAN.out _ HW15.out).mono ?_
                         rintro o w16 ⟨rfl, hb⟩
                         have HB16 := Lib.hid (HB15.out.trans (hb.mono HB15.out.size))
                         have hx18 := HX18.out.below hb HX18.out.lt
                         have z0 := hx18.cell 0 (v := .int .i64 xo) rfl
                         have z1 := hx18.cell 1 (v := .bool xd) rfl
                         have z2 := hx18.cell 2 (v := .string xs) rfl
                         have hl18 := hx18.lt
                         have HB17 := Lib.hid (HB16.out.alloc HB16.out.size (.cells #[.int .i64 xo, .bool xd, .string xs] 48))
                         clear hb hx18 x0 x1 x2 hxl n0
                         go_wp2_with fail
                         go_roundw
                         case rel => exact ⟨q + 1, by omega, by go_num, (HB17.out)⟩
                         case measure => first | (simp [intOf]; done) | (simp [intOf]; omega)
                       | true => as_aux_lemma =>
                         obtain ⟨hp1, rfl, rfl, rfl⟩ := HPI.out rfl
                         have hdp : decide (x < pa) = false := decide_eq_false (by omega)
                         refine wp_env (fin := ?fntbb11) (by kernel_rfl) [209, 210, 211, 212, 213, 214, 215, 216, 217, 218, 219, 220, 221, 222, 223, 224, 225, 226, 227, 228, 229, 230, 231, 232, 233, 234, 235, 236, 237, 238, 239, 240, 241, 242, 243, 244, 245, 246, 247, 248, 249]
                           [.int .i64 0, .bool false, .bool false, .int .i64 0, .bool false, .bool false, .bool false, .agg #[.int .i64 xo, .bool xd, .string xs], .agg #[.int .i64 xo, .bool xd, .string xs], .bool false, .bool false, .bool false, .bool true, .bool true, .pointer (some ⟨w11.heap.size, 0, none⟩), .int .i64 na, .slice (some ⟨bl, ol, none⟩) L.length cL, .int .i64 q, .pointer (some ⟨bl, ol + q, none⟩), .int .i64 x, .bool false, .bool false, .bool false, .bool false, .bool true, .bool true, .pointer (some ⟨w13.heap.size, 0, none⟩), .int .i64 pa, .slice (some ⟨bl, ol, none⟩) L.length cL, .int .i64 q, .pointer (some ⟨bl, ol + q, none⟩), .int .i64 x, .bool false, .bool false, .pointer (some ⟨w13.heap.size, 1, none⟩), .agg #[.int .i64 xo, .bool xd, .string xs], .agg #[.int .i64 xo, .bool xd, .string xs], .bool false, .bool false, .bool false, .bool false] (by kernel_rfl) ?fintbb11 ?stepstbb11 ?nexttbb11
                         case fintbb11 =>
                           simp only [putAll, Act.put, List.setIfInBounds_toArray, List.set_cons_succ, List.set_cons_zero]
                           rfl
                         case stepstbb11 =>
                           refine ⟨?_, ?_, ?_, ?_, ?_, ?_, ?_, ?_, ?_, ?_, ?_, ?_, ?_, ?_, ?_, ?_, ?_, ?_, ?_, ?_, ?_, ?_, ?_, ?_, ?_, ?_, ?_, ?_, ?_, ?_, ?_, ?_, ?_, ?_, ?_, ?_, ?_, ?_, ?_, ?_, ?_, trivial⟩
                           all_goals refine .inr ⟨by kernel_rfl, fun w1_ hB_ => ?_⟩
                           all_goals
                             have h18_ := HX8.out.below (HM14.out.trans (hB_.mono HM14.out.size)) HX8.out.lt
                             have x0_ := h18_.cell 0 (v := .int .i64 xo) rfl
                             have x1_ := h18_.cell 1 (v := .bool xd) rfl
                             have x2_ := h18_.cell 2 (v := .string xs) rfl
                             have h20_ := HX10.out.below hB_ HX10.out.lt
                             have y0_ := h20_.cell 0 (v := .int .i64 xo) rfl
                             have y1_ := h20_.cell 1 (v := .bool xd) rfl
                             have y2_ := h20_.cell 2 (v := .string xs) rfl
                             have h22_ := HX12.out.below hB_ HX12.out.lt
                             have n0_ := h22_.cell 0 (v := .int .i64 na) rfl
                             have h24_ := HX14.out.below hB_ HX14.out.lt
                             have p0_ := h24_.cell 0 (v := .int .i64 pa) rfl
                             have p1_ := h24_.cell 1 rfl
                             have p2_ := h24_.cell 2 rfl
                             have p3_ := h24_.cell 3 rfl
                             have lc_ := HCL.out _ (HM714.out.trans (hB_.mono HM714.out.size))
                             go_simp
                             first
                               | exact ⟨rfl, Below.refl _ _⟩
                               | done
                               | ((first | rw [decide_eq_true (by omega)] | rw [decide_eq_false (by omega)] | rw [if_pos (by omega)] | rw [IntWalk.i64_in _ (by omega)]); exact ⟨rfl, Below.refl _ _⟩)
                               | done
                         case nexttbb11 =>
                         intro w15 hb15
                         have HB15 := Lib.hid (HBI.out.trans ((HM714.out.trans (hb15.mono HM714.out.size)).mono HBI.out.size))
                         have HW15 := Lib.hid (HB14.out.trans (hb15.mono HB14.out.size))
                         have h22 := HX12.out.below hb15 HX12.out.lt
                         have n0 := h22.cell 0 (v := .int .i64 na) rfl
                         have hl22 := h22.lt
                         have HX18 := Lib.hid (HX8b.out.below hb15 HX8b.out.lt)
                         clear hb15 h22
                         have hxb := HXX.out.below (HW15.out) HXX.out.lt
                         have x0 := hxb.cell 0 (v := .string zn) rfl
                         have x1 := hxb.cell 1 (v := .slice A l.length cA) rfl
                         have x2 := hxb.cell 2 (v := .slice A2 S.length cS) rfl
                         have hxl := hxb.lt
                         clear hxb
                         go_wp2_with fail
                         refine (HAN.out _ HW15.out).mono ?_
                         rintro o w16 ⟨rfl, hb⟩
                         have HB16 := Lib.hid (HB15.out.trans (hb.mono HB15.out.size))
                         have hx18 := HX18.out.below hb HX18.out.lt
                         have z0 := hx18.cell 0 (v := .int .i64 xo) rfl
                         have z1 := hx18.cell 1 (v := .bool xd) rfl
                         have z2 := hx18.cell 2 (v := .string xs) rfl
                         have hl18 := hx18.lt
                         have HB17 := Lib.hid (HB16.out.alloc HB16.out.size (.cells #[.int .i64 xo, .bool xd, .string xs] 48))
                         clear hb hx18 x0 x1 x2 hxl n0
                         go_wp2_with fail
                         go_roundw
                         case rel => exact ⟨q + 1, by omega, by go_num, (HB17.out)⟩
                         case measure => first | (simp [intOf]; done) | (simp [intOf]; omega)
               · obtain rfl : q = L.length := by omega
                 have hdq : decide ((L.length : Int) < (L.length : Int)) = false := decide_eq_false (by omega)
                 go_wp2_with fail
                 refine (tawake_any _ ((HZ0.out.below (HB7.out)).maxl)).mono ?_
                 rintro o wz ⟨rfl, hbz⟩
                 have hb9 := HB0.out.trans (((HB7.out).trans (hbz.mono (HB7.out).size)).mono HB0.out.size)
                 clear hbz
                 go_wp2_with fail
                 go_ret
                 exact ⟨rfl, hb9⟩
end
section -- FOpen
open Go Go.ChangeShapes Go.WideShapes Go.ChangeAt Go.RowKit Go.Deep
def aheadI : List Int := [0, 31, 59, 90, 120, 151, 181, 212, 243, 273, 304, 334, 365]
theorem ahead_of {W : World} (h : laidMetH Tryz.prog [("meridian/civil.ahead", Rows.laid_meridian_civil_ahead)] W) : Ahead W := fun i hi => by
 have ht : Lib.TabIs Tryz.prog W "meridian/civil.ahead" .i64 aheadI := Lib.tabIs_of_head (rest := []) (g := 0) (by kernel_rfl) (by kernel_rfl) Tryz.underlying175 Tryz.underlying3 (by kernel_rfl) (by kernel_rfl) h
 have hc := ht.cell (g := 0) (by kernel_rfl) i (by simpa [aheadI] using hi)
 rw [hc]
 have : i = 0 ∨ i = 1 ∨ i = 2 ∨ i = 3 ∨ i = 4 ∨ i = 5 ∨ i = 6 ∨ i = 7 ∨ i = 8 ∨ i = 9 ∨ i = 10 ∨ i = 11 ∨ i = 12 := by omega
 rcases this with h | h | h | h | h | h | h | h | h | h | h | h | h <;> subst h <;> rfl
section
variable {H : Type} {enc : TypeId × Value → H} {P : Program} {W : World} {base : Nat} {spare : MemPlace → Bool} {held : Bool}
theorem trod_struct8 {t : TypeId} {f0 f1 f2 f3 f4 f5 f6 f7 : Field} {fuel : Nat} {cs : List Value} {x : DataW H × List MemPlace} (ht : P.underlying t = some (.struct #[f0, f1, f2, f3, f4, f5, f6, f7])) (h : DataW.trod enc P W 0 (fun _ => true) true fuel t cs = some x) :
   ∃ y0 y1 y2 y3 y4 y5 y6 y7 n, cs.length = P.cellsOf t ∧ DataW.trod enc P W 0 (fun _ => true) true n f0.type ((cs.drop f0.offset).take (P.cellsOf f0.type)) = some y0 ∧ DataW.trod enc P W 0 (fun _ => true) true n f1.type ((cs.drop f1.offset).take (P.cellsOf f1.type)) = some y1 ∧
     DataW.trod enc P W 0 (fun _ => true) true n f2.type ((cs.drop f2.offset).take (P.cellsOf f2.type)) = some y2 ∧ DataW.trod enc P W 0 (fun _ => true) true n f3.type ((cs.drop f3.offset).take (P.cellsOf f3.type)) = some y3 ∧ DataW.trod enc P W 0 (fun _ => true) true n f4.type ((cs.drop f4.offset).take (P.cellsOf f4.type)) = some y4 ∧
     DataW.trod enc P W 0 (fun _ => true) true n f5.type ((cs.drop f5.offset).take (P.cellsOf f5.type)) = some y5 ∧ DataW.trod enc P W 0 (fun _ => true) true n f6.type ((cs.drop f6.offset).take (P.cellsOf f6.type)) = some y6 ∧ DataW.trod enc P W 0 (fun _ => true) true n f7.type ((cs.drop f7.offset).take (P.cellsOf f7.type)) = some y7 := by
 obtain ⟨xs, n, _, rfl, hl, hlen, hf⟩ := DataW.trod_struct ht h
 match xs, hlen with
 | [y0, y1, y2, y3, y4, y5, y6, y7], _ => exact ⟨y0, y1, y2, y3, y4, y5, y6, y7, n, hl, by simpa using hf 0 f0 rfl, by simpa using hf 1 f1 rfl, by simpa using hf 2 f2 rfl, by simpa using hf 3 f3 rfl, by simpa using hf 4 f4 rfl, by simpa using hf 5 f5 rfl, by simpa using hf 6 f6 rfl, by simpa using hf 7 f7 rfl⟩
end
section
variable {H : Type} {enc : TypeId × Value → H} {W : World}
theorem trod_day {n : Nat} {cs : List Value} {y : DataW H × List MemPlace} (h : DataW.trod enc Tryz.prog W 0 (fun _ => true) true n 36 cs = some y) : ∃ a b c : Int, cs = [.int .i64 a, .int .i64 b, .int .i64 c] := by
 obtain ⟨y0, y1, y2, k, -, hl, h0, h1, h2⟩ := trod_struct3 Tryz.underlying36 h
 rw [show Tryz.prog.cellsOf 36 = 3 by kernel_rfl] at hl
 obtain ⟨a, e0, _, _⟩ := DataW.trod_int Tryz.underlying3 h0
 obtain ⟨b, e1, _, _⟩ := DataW.trod_int Tryz.underlying3 h1
 obtain ⟨c, e2, _, _⟩ := DataW.trod_int Tryz.underlying3 h2
 match cs, hl with
 | [v0, v1, v2], _ =>
   rw [show Tryz.prog.cellsOf 3 = 1 by kernel_rfl] at e0 e1 e2
   simp at e0 e1 e2
   subst e0 e1 e2
   exact ⟨a, b, c, rfl⟩
theorem trod_clock {n : Nat} {cs : List Value} {y : DataW H × List MemPlace} (h : DataW.trod enc Tryz.prog W 0 (fun _ => true) true n 38 cs = some y) : ∃ a b : Int, cs = [.int .i64 a, .int .i64 b] := by
 obtain ⟨y0, y1, k, -, hl, h0, h1⟩ := trod_struct2 Tryz.underlying38 h
 rw [show Tryz.prog.cellsOf 38 = 2 by kernel_rfl] at hl
 obtain ⟨a, e0, _, _⟩ := DataW.trod_int Tryz.underlying3 h0
 obtain ⟨b, e1, _, _⟩ := DataW.trod_int Tryz.underlying3 h1
 match cs, hl with
 | [v0, v1], _ =>
   rw [show Tryz.prog.cellsOf 3 = 1 by kernel_rfl] at e0 e1
   simp at e0 e1
   subst e0 e1
   exact ⟨a, b, rfl⟩
theorem trod_rul {n : Nat} {cs : List Value} {y : DataW H × List MemPlace} (h : DataW.trod enc Tryz.prog W 0 (fun _ => true) true n 106 cs = some y) : ∃ r : Rul, cs = rulV r ∧ True := by
 obtain ⟨y0, y1, y2, y3, y4, y5, y6, y7, k, hl, h0, h1, h2, h3, h4, h5, h6, h7⟩ := trod_struct8 Tryz.underlying106 h
 rw [show Tryz.prog.cellsOf 106 = 11 by kernel_rfl] at hl
 obtain ⟨nm, e0, _, _⟩ := DataW.trod_string Tryz.underlying9 h0
 obtain ⟨fr, e1, _, _⟩ := DataW.trod_int Tryz.underlying3 h1
 obtain ⟨to, e2, _, _⟩ := DataW.trod_int Tryz.underlying3 h2
 obtain ⟨mo, e3, _, _⟩ := DataW.trod_int Tryz.underlying3 h3
 obtain ⟨dk, dw, dn, e4⟩ := trod_day h4
 obtain ⟨sc, kd, e5⟩ := trod_clock h5
 obtain ⟨sv, e6, _, _⟩ := DataW.trod_int Tryz.underlying3 h6
 obtain ⟨lt, e7, _, _⟩ := DataW.trod_string Tryz.underlying9 h7
 match cs, hl with
 | [v0, v1, v2, v3, v4, v5, v6, v7, v8, v9, v10], _ =>
   rw [show Tryz.prog.cellsOf 3 = 1 by kernel_rfl] at e1 e2 e3 e6
   rw [show Tryz.prog.cellsOf 9 = 1 by kernel_rfl] at e0 e7
   rw [show Tryz.prog.cellsOf 36 = 3 by kernel_rfl] at e4
   rw [show Tryz.prog.cellsOf 38 = 2 by kernel_rfl] at e5
   simp at e0 e1 e2 e3 e4 e5 e6 e7
   obtain ⟨rfl, rfl, rfl⟩ := e4
   obtain ⟨rfl, rfl⟩ := e5
   subst e0 e1 e2 e3 e6 e7
   exact ⟨⟨nm, fr, to, mo, dk, dw, dn, sc, kd, sv, lt⟩, rfl, trivial⟩
instance : Inhabited Rul := ⟨⟨⟨#[]⟩, 0, 0, 0, 0, 0, 0, 0, 0, 0, ⟨#[]⟩⟩⟩
end
end
section -- AOpen
open Go Go.ChangeShapes Go.WideShapes Go.ChangeAt Go.RowKit Go.Deep
section
variable {H : Type} {enc : TypeId × Value → H} {P : Program} {W : World}
theorem trod_struct4 {t : TypeId} {f0 f1 f2 f3 : Field} {fuel : Nat} {cs : List Value} {x : DataW H × List MemPlace} (ht : P.underlying t = some (.struct #[f0, f1, f2, f3])) (h : DataW.trod enc P W 0 (fun _ => true) true fuel t cs = some x) :
   ∃ y0 y1 y2 y3 n, cs.length = P.cellsOf t ∧ DataW.trod enc P W 0 (fun _ => true) true n f0.type ((cs.drop f0.offset).take (P.cellsOf f0.type)) = some y0 ∧ DataW.trod enc P W 0 (fun _ => true) true n f1.type ((cs.drop f1.offset).take (P.cellsOf f1.type)) = some y1 ∧
     DataW.trod enc P W 0 (fun _ => true) true n f2.type ((cs.drop f2.offset).take (P.cellsOf f2.type)) = some y2 ∧ DataW.trod enc P W 0 (fun _ => true) true n f3.type ((cs.drop f3.offset).take (P.cellsOf f3.type)) = some y3 := by
 obtain ⟨xs, n, _, rfl, hl, hlen, hf⟩ := DataW.trod_struct ht h
 match xs, hlen with
 | [y0, y1, y2, y3], _ => exact ⟨y0, y1, y2, y3, n, hl, by simpa using hf 0 f0 rfl, by simpa using hf 1 f1 rfl, by simpa using hf 2 f2 rfl, by simpa using hf 3 f3 rfl⟩
theorem trod_struct6 {t : TypeId} {f0 f1 f2 f3 f4 f5 : Field} {fuel : Nat} {cs : List Value} {x : DataW H × List MemPlace} (ht : P.underlying t = some (.struct #[f0, f1, f2, f3, f4, f5])) (h : DataW.trod enc P W 0 (fun _ => true) true fuel t cs = some x) :
   ∃ y0 y1 y2 y3 y4 y5 n, cs.length = P.cellsOf t ∧ DataW.trod enc P W 0 (fun _ => true) true n f0.type ((cs.drop f0.offset).take (P.cellsOf f0.type)) = some y0 ∧ DataW.trod enc P W 0 (fun _ => true) true n f1.type ((cs.drop f1.offset).take (P.cellsOf f1.type)) = some y1 ∧
     DataW.trod enc P W 0 (fun _ => true) true n f2.type ((cs.drop f2.offset).take (P.cellsOf f2.type)) = some y2 ∧ DataW.trod enc P W 0 (fun _ => true) true n f3.type ((cs.drop f3.offset).take (P.cellsOf f3.type)) = some y3 ∧
     DataW.trod enc P W 0 (fun _ => true) true n f4.type ((cs.drop f4.offset).take (P.cellsOf f4.type)) = some y4 ∧ DataW.trod enc P W 0 (fun _ => true) true n f5.type ((cs.drop f5.offset).take (P.cellsOf f5.type)) = some y5 := by
 obtain ⟨xs, n, _, rfl, hl, hlen, hf⟩ := DataW.trod_struct ht h
 match xs, hlen with
 | [y0, y1, y2, y3, y4, y5], _ => exact ⟨y0, y1, y2, y3, y4, y5, n, hl, by simpa using hf 0 f0 rfl, by simpa using hf 1 f1 rfl, by simpa using hf 2 f2 rfl, by simpa using hf 3 f3 rfl, by simpa using hf 4 f4 rfl, by simpa using hf 5 f5 rfl⟩
end
section
variable {H : Type} {enc : TypeId × Value → H} {W : World}
theorem trod_until {n : Nat} {cs : List Value} {y : DataW H × List MemPlace} (h : DataW.trod enc Tryz.prog W 0 (fun _ => true) true n 40 cs = some y) : ∃ a b c d e f g : Int, cs = [.int .i64 a, .int .i64 b, .int .i64 c, .int .i64 d, .int .i64 e, .int .i64 f, .int .i64 g] := by
 obtain ⟨y0, y1, y2, y3, k, hl, h0, h1, h2, h3⟩ := trod_struct4 Tryz.underlying40 h
 rw [show Tryz.prog.cellsOf 40 = 7 by kernel_rfl] at hl
 obtain ⟨a, e0, _, _⟩ := DataW.trod_int Tryz.underlying3 h0
 obtain ⟨b, e1, _, _⟩ := DataW.trod_int Tryz.underlying3 h1
 obtain ⟨dk, dw, dn, e2⟩ := trod_day h2
 obtain ⟨sc, kd, e3⟩ := trod_clock h3
 match cs, hl with
 | [v0, v1, v2, v3, v4, v5, v6], _ =>
   rw [show Tryz.prog.cellsOf 3 = 1 by kernel_rfl] at e0 e1
   rw [show Tryz.prog.cellsOf 36 = 3 by kernel_rfl] at e2
   rw [show Tryz.prog.cellsOf 38 = 2 by kernel_rfl] at e3
   simp at e0 e1 e2 e3
   obtain ⟨rfl, rfl, rfl⟩ := e2
   obtain ⟨rfl, rfl⟩ := e3
   subst e0 e1
   exact ⟨a, b, dk, dw, dn, sc, kd, rfl⟩
theorem trod_era {n : Nat} {cs : List Value} {y : DataW H × List MemPlace} (h : DataW.trod enc Tryz.prog W 0 (fun _ => true) true n 42 cs = some y) :
   ∃ (e : EraN) (ru f : ByteArray) (en : Bool), cs = [.int .i64 e.off, .string ru, .int .i64 e.save, .string f, .bool en, .int .i64 e.year, .int .i64 e.month, .int .i64 e.dk, .int .i64 e.dw, .int .i64 e.dn, .int .i64 e.sec, .int .i64 e.ak] ∧
     (-9223372036854775808 ≤ e.off ∧ e.off ≤ 9223372036854775807) ∧ (-9223372036854775808 ≤ e.save ∧ e.save ≤ 9223372036854775807) := by
 obtain ⟨y0, y1, y2, y3, y4, y5, k, hl, h0, h1, h2, h3, h4, h5⟩ := trod_struct6 Tryz.underlying42 h
 rw [show Tryz.prog.cellsOf 42 = 12 by kernel_rfl] at hl
 obtain ⟨off, e0, _, w0⟩ := DataW.trod_int Tryz.underlying3 h0
 obtain ⟨ru, e1, _, _⟩ := DataW.trod_string Tryz.underlying9 h1
 obtain ⟨sv, e2, _, w2⟩ := DataW.trod_int Tryz.underlying3 h2
 obtain ⟨f, e3, _, _⟩ := DataW.trod_string Tryz.underlying9 h3
 obtain ⟨en, e4, _⟩ := DataW.trod_bool Tryz.underlying4 h4
 obtain ⟨yr, mo, dk, dw, dn, sc, kd, e5⟩ := trod_until h5
 match cs, hl with
 | [v0, v1, v2, v3, v4, v5, v6, v7, v8, v9, v10, v11], _ =>
   rw [show Tryz.prog.cellsOf 3 = 1 by kernel_rfl] at e0 e2
   rw [show Tryz.prog.cellsOf 9 = 1 by kernel_rfl] at e1 e3
   rw [show Tryz.prog.cellsOf 4 = 1 by kernel_rfl] at e4
   rw [show Tryz.prog.cellsOf 40 = 7 by kernel_rfl] at e5
   simp at e0 e1 e2 e3 e4 e5
   obtain ⟨rfl, rfl, rfl, rfl, rfl, rfl, rfl⟩ := e5
   subst e0 e1 e2 e3 e4
   exact ⟨⟨off, sv, yr, mo, dk, dw, dn, sc, kd⟩, ru, f, en, rfl, wf_i64 w0, wf_i64 w2⟩
end
end
section -- AOpenW
open Go Go.ChangeShapes Go.WideShapes Go.ChangeAt Go.RowKit Go.Deep
section
variable {H : Type} {enc : TypeId × Value → H} {P : Program} {W : World}
def Light (P : Program) (t : TypeId) (d : DataW H) : Prop := ∀ k ∈ d.weights P t, k ≤ 140737488351232
theorem weightsAll_mem {e : TypeId} : ∀ {l : List (DataW H)} {d : DataW H}, d ∈ l → ∀ k ∈ d.weights P e, k ∈ DataW.weightsAll P e l
 | x :: l, d, h, k, hk => by
   simp only [DataW.weightsAll, List.mem_append]
   rcases List.mem_cons.1 h with rfl | h
   · exact .inl hk
   · exact .inr (weightsAll_mem h k hk)
theorem Light.elem {T E : TypeId} {a b : List (DataW H)} (hT : P.underlying T = some (.slice E)) (h : Light P T (.slice a b)) {d : DataW H} (hd : d ∈ a) : Light P E d := fun k hk => by
 refine h k ?_
 simp only [DataW.weights, hT, List.mem_cons, List.mem_append]
 exact .inr (.inl (weightsAll_mem hd k hk))
theorem Light.part {T : TypeId} {fs : Array Field} {l : List (DataW H)} (hT : P.underlying T = some (.struct fs)) (h : Light P T (.agg l)) {i : Nat} {t : TypeId} {d : DataW H} (ht : (fs.toList.map (·.type))[i]? = some t) (hd : l[i]? = some d) : Light P t d := fun k hk => by
 refine h k ?_
 simp only [DataW.weights, hT]
 exact DataW.weights_mem_each ht hd k hk
theorem Light.str {t : TypeId} {s : List UInt8} (h : Light P t (DataW.lit (H := H) (.string s))) : s.length ≤ 140737488351232 := h _ (by simp [DataW.weights])
theorem open_listW {α : Type} [Inhabited α] (f : α → List Value) (Pr : α → Prop) {T E : TypeId} {C : Nat} (hT : P.underlying T = some (.slice E)) (hC : P.cellsOf E = C) (h0 : 0 < C)
   (hel : ∀ (n : Nat) (cs : List Value) (y : DataW H × List MemPlace), cs.length = C → DataW.trod enc P W 0 (fun _ => true) true n E cs = some y → Light P E y.1 → ∃ a, cs = f a ∧ Pr a)
   {n : Nat} {cs : List Value} {x : DataW H × List MemPlace} (h : DataW.trod enc P W 0 (fun _ => true) true n T cs = some x) (hw : Light P T x.1) : ∃ (v : Value) (l : List α), cs = [v] ∧ Sl W W.heap.size C v l.length (l.flatMap f) ∧ ∀ a ∈ l, Pr a ∧ (f a).length = C := by
 rcases open_slice hT h with ⟨rfl, _⟩ | ⟨a, len, cap, m, k, D, Pl, rfl, _, hl, hm, hmm, rfl, hx⟩
 · exact ⟨_, [], rfl, Sl.nil _ _ _, fun a h => by cases h⟩
 · simp only [if_true] at hmm
   subst hmm
   have hD : ∀ i, i < len → Light P E (D i) := fun i hi => Light.elem hT hw (List.mem_map.2 ⟨i, List.mem_range.2 hi, rfl⟩)
   have each : ∀ i, ∃ q : α, i < len → W.cells? 0 (a.add (i * C)) C = some (f q) ∧ Pr q ∧ (f q).length = C := fun i => by
     by_cases hi : i < len
     · obtain ⟨cs', h1, h2⟩ := hx i (by omega)
       rw [hC] at h1
       obtain ⟨_, hlen, _⟩ := World.cells?_some h1
       obtain ⟨q, rfl, hq⟩ := hel _ _ _ hlen h2 (hD i hi)
       exact ⟨q, fun _ => ⟨h1, hq, hlen⟩⟩
     · exact ⟨default, fun h => absurd h hi⟩
   obtain ⟨Q, hQ⟩ := Classical.axiomOfChoice each
   have hlen : ((List.range len).map Q).length = len := by simp
   have hfl : ∀ b ∈ (List.range len).map Q, Pr b ∧ (f b).length = C := fun b hb => by
     obtain ⟨i, hi, rfl⟩ := List.mem_map.1 hb
     exact ⟨(hQ i (List.mem_range.1 hi)).2.1, (hQ i (List.mem_range.1 hi)).2.2⟩
   refine ⟨_, (List.range len).map Q, rfl, ?_, hfl⟩
   have hfl2 := flat_len f C _ (fun b hb => (hfl b hb).2)
   rw [hlen] at hfl2 ⊢
   refine ⟨_, _, rfl, hl, hm, hfl2, fun hp => ?_⟩
   obtain ⟨b, o, spot⟩ := a
   obtain ⟨_, _, hc0⟩ := World.cells?_some (hQ 0 hp).1
   have h00 := hc0 0 h0
   rw [List.getElem?_eq_getElem (by rw [(hQ 0 hp).2.2]; exact h0)] at h00
   have hspot : spot = none := by simpa [Addr.add] using World.cell?_spot h00
   subst hspot
   refine ⟨b, o, rfl, ?_, fun j u hu => ?_⟩
   · have := World.block_lt_of_cell? W _ h00
     simpa [Addr.add_lit] using this
   · have hj : j < len * C := by
       have := (List.getElem?_eq_some_iff.1 hu).1
       rwa [hfl2] at this
     have hd : j / C < len := Nat.div_lt_of_lt_mul (by rw [Nat.mul_comm]; exact hj)
     have hr : j % C < C := Nat.mod_lt _ h0
     have he : j = j / C * C + j % C := by rw [Nat.mul_comm]; exact (Nat.div_add_mod j C).symm
     obtain ⟨_, hll, hcc⟩ := World.cells?_some (hQ (j / C) hd).1
     have hc := hcc (j % C) hr
     rw [he, flat_at f C _ (fun b hb => (hfl b hb).2) _ _ (by rw [hlen]; exact hd) hr] at hu
     simp only [List.getElem_map, List.getElem_range] at hu
     rw [he]
     have e2 : (some u : Option Value) = some ((f (Q (j / C)))[j % C]'(by omega)) := by rw [← hu]; exact List.getElem?_eq_getElem _
     rw [Option.some.inj e2, ← List.getElem?_eq_getElem]
     simpa [Addr.add_lit, Nat.add_assoc] using hc
end
theorem ahead_in {l : List (String × DataW Unit)} {W : World} (hl : l.filter (fun x => x.1 == "meridian/civil.ahead") = [("meridian/civil.ahead", Rows.laid_meridian_civil_ahead)]) (h : laidMetH Tryz.prog l W) : Ahead W := ahead_of (by rw [← hl]; exact h.filter _)
theorem tab_in {W : World} (h : Ahead W) : 0 < W.heap.size := World.block_lt_of_cell? W _ (h 0 (by decide))
section
variable {H : Type} {enc : TypeId × Value → H} {W : World}
theorem trod_rulW {n : Nat} {cs : List Value} {y : DataW H × List MemPlace} (h : DataW.trod enc Tryz.prog W 0 (fun _ => true) true n 106 cs = some y) (hw : Light Tryz.prog 106 y.1) : ∃ r : Rul, cs = rulV r ∧ r.letter.size ≤ 140737488351232 := by
 obtain ⟨r, rfl, -⟩ := trod_rul h
 refine ⟨r, rfl, ?_⟩
 obtain ⟨xs, m, _, rfl, hl, hlen, hf⟩ := DataW.trod_struct Tryz.underlying106 h
 match xs, hlen with
 | [y0, y1, y2, y3, y4, y5, y6, y7], _ =>
   have h7 := hf 7 _ rfl
   obtain ⟨s, e7, e8, -⟩ := DataW.trod_string Tryz.underlying9 h7
   have h9 : r.letter = s := by
     have e9 : ([.string r.letter] : List Value) = [.string s] := e7
     injection e9 with e9
     injection e9
   have h10 := Light.part Tryz.underlying106 hw (i := 7) (t := 9) (d := y7.1) rfl rfl
   rw [e8] at h10
   have h11 := h10.str
   rw [h9, Lib.size_eq]
   exact h11
theorem trod_eraW {n : Nat} {cs : List Value} {y : DataW H × List MemPlace} (h : DataW.trod enc Tryz.prog W 0 (fun _ => true) true n 42 cs = some y) (hw : Light Tryz.prog 42 y.1) : ∃ x : EraF, cs = x.cells ∧ x.fm.size ≤ 140737488351232 := by
 obtain ⟨e, ru, f, en, rfl, -, -⟩ := trod_era h
 refine ⟨⟨e, ru, f, en⟩, rfl, ?_⟩
 obtain ⟨xs, m, _, rfl, hl, hlen, hf⟩ := DataW.trod_struct Tryz.underlying42 h
 match xs, hlen with
 | [y0, y1, y2, y3, y4, y5], _ =>
   have h7 := hf 3 _ rfl
   obtain ⟨s, e7, e8, -⟩ := DataW.trod_string Tryz.underlying9 h7
   have h9 : f = s := by
     have e9 : ([.string f] : List Value) = [.string s] := e7
     injection e9 with e9
     injection e9
   have h10 := Light.part Tryz.underlying42 hw (i := 3) (t := 9) (d := y3.1) rfl rfl
   rw [e8] at h10
   have h11 := h10.str
   show f.size ≤ _
   rw [h9, Lib.size_eq]
   exact h11
theorem trod_setW {n : Nat} {cs : List Value} {y : DataW H × List MemPlace} (h : DataW.trod enc Tryz.prog W 0 (fun _ => true) true n 95 cs = some y) (hw : Light Tryz.prog 95 y.1) : ∃ s : SetF, cs = s.cells ∧ (Ruls W W.heap.size s.v s.l ∧ letOk s.l) := by
 obtain ⟨xs, m, _, rfl, hl, hlen, hf⟩ := DataW.trod_struct Tryz.underlying95 h
 match xs, hlen with
 | [y0, y1], _ =>
   obtain ⟨s, e0, _, -⟩ := DataW.trod_string Tryz.underlying9 (hf 0 _ rfl)
   have h1 := hf 1 _ rfl
   have h10 := Light.part Tryz.underlying95 hw (i := 1) (t := 52) (d := y1.1) rfl rfl
   obtain ⟨v, l, e1, hs, hl2⟩ := open_listW (C := 11) rulV (fun r => r.letter.size ≤ 140737488351232) Tryz.underlying52 (by kernel_rfl) (by decide) (fun n cs y _ hy hw => trod_rulW hy hw) h1 h10
   rw [show Tryz.prog.cellsOf 95 = 2 by kernel_rfl] at hl
   match cs, hl with
   | [v0, v1], _ =>
     have e2 : ([v0] : List Value) = [.string s] := e0
     have e3 : ([v1] : List Value) = [v] := e1
     injection e2 with e2
     injection e3 with e3
     subst e2 e3
     exact ⟨⟨s, v1, l⟩, rfl, hs, fun r hr => (hl2 r hr).1⟩
theorem open_world {r : Reach} {base : Nat} {v : Value} {d : DataW H} {p : List MemPlace} (hok : Value.okWide Tryz.prog W r base 27 v) (h : DataW.Trod enc Tryz.prog W 0 (fun _ => true) true 27 v d p) (hw : Light Tryz.prog 27 d) :
   ∃ (zn : ByteArray) (ev sv : Value) (l : List EraF) (S : List SetF), v = worldA zn ev sv ∧ ErasR W W.heap.size ev l ∧ SetsR W W.heap.size sv S ∧ (∀ x ∈ l, x.fm.size < 1152921504606846976) ∧ ∀ s ∈ S, letOk s.l := by
 have hu : Tryz.prog.underlying 27 = _ := Tryz.underlying27
 simp only [Value.okWide, hu] at hok
 obtain ⟨cs, rfl, hsz, _⟩ := hok
 obtain ⟨fuel, hg⟩ := h
 obtain ⟨xs, m, _, e0, hl, hlen, hf⟩ := DataW.trod_struct Tryz.underlying27 hg
 clear hg
 match xs, hlen with
 | [y0, y1], _ =>
   injection e0 with e0 e00
   subst e0
   have h0 := hf 0 _ rfl
   have h1 := hf 1 _ rfl
   have w0 := Light.part Tryz.underlying27 hw (i := 0) (t := 24) (d := y0.1) rfl rfl
   have w1 := Light.part Tryz.underlying27 hw (i := 1) (t := 25) (d := y1.1) rfl rfl
   obtain ⟨sv, S, e1, hs, hs2⟩ := open_listW (C := 2) SetF.cells (fun s => Ruls W W.heap.size s.v s.l ∧ letOk s.l) Tryz.underlying25 (by kernel_rfl) (by decide) (fun n cs y _ hy hw => trod_setW hy hw) h1 w1
   obtain ⟨zs, m2, _, e2, hl2, hlen2, hf2⟩ := DataW.trod_struct Tryz.underlying24 h0
   match zs, hlen2 with
   | [z0, z1], _ =>
     rw [e2] at w0
     obtain ⟨zn, e3, _, -⟩ := DataW.trod_string Tryz.underlying9 (hf2 0 _ rfl)
     have w2 := Light.part Tryz.underlying24 w0 (i := 1) (t := 22) (d := z1.1) rfl rfl
     obtain ⟨ev, l, e4, he, he2⟩ := open_listW (C := 12) EraF.cells (fun x => x.fm.size ≤ 140737488351232) Tryz.underlying22 (by kernel_rfl) (by decide) (fun n cs y _ hy hw => trod_eraW hy hw) (hf2 1 _ rfl) w2
     rw [show Tryz.prog.cellsOf 27 = 3 by kernel_rfl] at hl
     obtain ⟨c⟩ := cs
     simp only [Value.cells] at hl
     match c, hl with
     | [v0, v1, v2], _ =>
       have q0 : ([v0] : List Value) = [.string zn] := e3
       have q1 : ([v1] : List Value) = [ev] := e4
       have q2 : ([v2] : List Value) = [sv] := e1
       injection q0 with q0
       injection q1 with q1
       injection q2 with q2
       subst q0 q1 q2
       exact ⟨zn, v1, v2, l, S, rfl, he, ⟨hs, fun s hs3 => (hs2 s hs3).1.1⟩, fun x hx => by have := (he2 x hx).1; omega, fun s hs3 => (hs2 s hs3).1.2⟩
end
end
section -- GOpen
open Go Go.ChangeShapes Go.WideShapes Go.ChangeAt Go.RowKit Go.Deep
section
variable {H : Type} {enc : TypeId × Value → H} {W : World}
theorem flat_ints (l : List Int) : l.flatMap (fun n => [Value.int .i64 n]) = intsV l := by
 induction l with
 | nil => rfl
 | cons a t ih => rw [List.flatMap_cons, ih]; rfl
theorem open_nums {r : Reach} {base : Nat} {v : Value} {d : DataW H} {p : List MemPlace} (hok : Value.okWide Tryz.prog W r base 28 v) (h : DataW.Trod enc Tryz.prog W 0 (fun _ => true) true 28 v d p) :
   ∃ l : List Int, Nums W W.heap.size v l := by
 obtain ⟨a, len, cap, rfl⟩ := okWide_slice Tryz.underlying28 hok
 obtain ⟨fuel, hf⟩ := h
 obtain ⟨v, l, e, hs, hl⟩ := open_list (C := 1) (fun n : Int => [Value.int .i64 n]) (fun _ => True) Tryz.underlying28 (by kernel_rfl) (by decide) (fun n cs y _ hy => by
   obtain ⟨a, e, _⟩ := DataW.trod_int Tryz.underlying3 hy
   exact ⟨a, e, trivial⟩) hf
 simp only [Value.cells, List.cons.injEq, and_true] at e
 subst e
 rw [flat_ints] at hs
 exact ⟨l, hs⟩
end
end
end Go.Proofs.YteekjfgjmccdnaaGreatDoor
