/-
  From the rows' readings of worlds (eras, sets of rules) to the words of the walks.
-/
import Derived.Test.YteekjfgjmccdnaaGreatDoorChecked
import Derived.Test.YteekjfgjmccdnaaGreatDoorRows
import Derived.Lib.LaidTab
import Derived.SizedLaws
import Derived.LaidSub
import Derived.Test.YteekjfgjmccdnaaGreatDoorZt11
set_option maxHeartbeats 16000000
set_option maxRecDepth 100000
namespace Go.Proofs.YteekjfgjmccdnaaGreatDoor
section -- FTells
open Go Go.RowKit Go.Shelf
theorem refOf_none {x:EraF} {b:Int} {all:List Rul} {A:List Fir} {F:Foot} (h:x.ru.size = 0) (e:refOf x b all A = F):F.rules = []:=by
 rw [← e]
 unfold refOf
 rw [if_pos h]
theorem ftells_walk (w:World) (zn:ByteArray) (ev sv:Value) (l:List EraF) (S:List SetF) (he:ErasR w w.heap.size ev l) (hs:SetsR w w.heap.size sv S) (hfm:∀ x ∈ l,x.fm.size < 1152921504606846976) (hlet:∀ s ∈ S,letOk s.l)
  (ha:Ahead w) (htab:0 < w.heap.size) (hm:Tryz.MaxL w) :
  Calls Tryz.prog 4 #[worldA zn ev sv] w fun o w'=>o = .returned (.bool true)∧Below w.heap.size w w':=by
 obtain ⟨A,cA,rfl,hlc,hcm⟩:=he.form
 obtain ⟨A2,cS,rfl,hlc2,hcm2⟩:=hs.form
 unfold maxLen at hcm hcm2
 obtain ⟨W0,hW0⟩:∃ W,w.alloc (.cells #[.string zn,.slice A l.length cA,.slice A2 S.length cS] 27) = W:=⟨_,rfl⟩
 have hb0:Below w.heap.size w W0:=by rw [← hW0];exact (Below.refl w.heap.size w).alloc (Nat.le_refl _) _
 have hxx:Blk W0 w.heap.size 27 #[.string zn,.slice A l.length cA,.slice A2 S.length cS]:=by rw [← hW0];exact Blk.new w _ _
 have HXX:=Lib.hid hxx
 have hz0:=ZW.mk (he.below hb0) (hs.below hb0) (ha.below hb0 (Nat.le_refl _)) htab (hm.below hb0 (Nat.le_refl _)) hb0.size
 have HF:=Lib.hid (fun (W:World) (h:Below W0.heap.size W0 W)=>right14_any W zn _ _ w.heap.size l S (hz0.below h) hfm)
 have HFW:=Lib.hid (few_any W0 zn _ _ w.heap.size l S hz0.eras hz0.sets hz0.le hfm)
 have HZ0:=Lib.hid hz0
 have HB0:=Lib.hid hb0
 have HLET:=Lib.hid hlet
 clear hb0 hxx he hs hm hlet hfm ha hz0
 have HW0:=Lib.hid hW0
 clear hW0
 unfold worldA at *
 go_enter Tryz.func4,Tryz.ntmps4
 have x0:=HXX.out.cell 0 (v:=.string zn) rfl
 have x1:=HXX.out.cell 1 (v:=.slice A l.length cA) rfl
 have x2:=HXX.out.cell 2 (v:=.slice A2 S.length cS) rfl
 have hxl:=HXX.out.lt
 rw [← HW0.out] at x0 x1 x2 hxl
 go_wp2_with fail
 rw [HW0.out]
 try simp only [HW0.out]
 refine HFW.out.mono ?_
 rintro o_ w1 ⟨rfl,hb⟩
 clear x0 x1 x2 hxl HW0 HFW
 have HB1:=Lib.hid hb
 clear hb
 cases hf:fewB l S with
 | false =>
   clear hf HF
   go_wp2_with fail
   refine (fawake_any _ ((HZ0.out.below (HB1.out)).ahead) (Nat.lt_of_lt_of_le ((HZ0.out.below (HB1.out)).tab) ((HZ0.out.below (HB1.out)).le)) ((HZ0.out.below (HB1.out)).maxl)).mono ?_
   rintro o_ wz ⟨rfl,hbz⟩
   have HBZ:=Lib.hid (HB0.out.trans ((HB1.out).mono HB0.out.size |>.trans (hbz.mono (Nat.le_trans HB0.out.size (HB1.out).size))))
   clear hbz
   go_wp2_with fail
   go_ret
   exact ⟨rfl,HBZ.out⟩
 | true =>
   have HED:=Lib.hid (ended_any w1 zn (.slice A l.length cA) _ w.heap.size S ((HZ0.out.below HB1.out).sets) ((HZ0.out.below HB1.out).le) (fun s hs=>by have:=((few_okR hf).rul s hs).len;omega))
   unfold worldA at HED
   have HFEW:=Lib.hid hf
   clear hf
   have hxb:=HXX.out.below (HB1.out) HXX.out.lt
   have x0:=hxb.cell 0 (v:=.string zn) rfl
   have x1:=hxb.cell 1 (v:=.slice A l.length cA) rfl
   have x2:=hxb.cell 2 (v:=.slice A2 S.length cS) rfl
   have hxl:=hxb.lt
   clear hxb
   cases hed:endedB S with
   | false =>
     rw [hed] at HED
     clear hed HF
     go_wp2_with fail
     refine HED.out.mono ?_
     rintro o_ w2 ⟨rfl,hb⟩
     have HB2:=Lib.hid (HB1.out.trans (hb.mono HB1.out.size))
     clear hb x0 x1 x2 hxl HED
     go_wp2_with fail
     refine (fawake_any _ ((HZ0.out.below (HB2.out)).ahead) (Nat.lt_of_lt_of_le ((HZ0.out.below (HB2.out)).tab) ((HZ0.out.below (HB2.out)).le)) ((HZ0.out.below (HB2.out)).maxl)).mono ?_
     rintro o_ wz ⟨rfl,hbz⟩
     have HBZ:=Lib.hid (HB0.out.trans ((HB2.out).mono HB0.out.size |>.trans (hbz.mono (Nat.le_trans HB0.out.size (HB2.out).size))))
     clear hbz
     go_wp2_with fail
     go_ret
     exact ⟨rfl,HBZ.out⟩
   | true =>
     rw [hed] at HED
     have HEND:=Lib.hid hed
     clear hed
     go_wp2_with fail
     refine HED.out.mono ?_
     rintro o_ w2 ⟨rfl,hb⟩
     have HB2:=Lib.hid (HB1.out.trans (hb.mono HB1.out.size))
     clear hb x0 x1 x2 hxl HED
     have hof:=ftof_any zn zn (.slice A l.length cA) (.slice A l.length cA) (.slice A2 S.length cS) w.heap.size l S w2 (HZ0.out.below HB2.out) (few_okR HFEW.out) (fr_few HFEW.out)
     unfold FootPost at hof
     obtain ⟨E,hE⟩:∃ e,errZ S l = e:=⟨_,rfl⟩
     have HE:=Lib.hid hE
     rw [hE] at hof
     have HOF:=Lib.hid hof
     unfold zoneA setsV worldA at HOF
     clear hof hE
     have hxb:=HXX.out.below (HB2.out) HXX.out.lt
     have x0:=hxb.cell 0 (v:=.string zn) rfl
     have x1:=hxb.cell 1 (v:=.slice A l.length cA) rfl
     have x2:=hxb.cell 2 (v:=.slice A2 S.length cS) rfl
     have hxl:=hxb.lt
     clear hxb
     go_wp2_with fail
     refine HOF.out.mono ?_
     rintro o_ w3 ⟨⟨uf,rfl,how⟩,hb⟩
     have HB3:=Lib.hid (HB2.out.trans (hb.mono HB2.out.size))
     obtain ⟨⟨sc,ofs,sv,ltr,fm,Rl⟩,hFF⟩:∃ F,footZ S l = F:=⟨_,rfl⟩
     rw [hFF] at how ⊢
     have HFF:=Lib.hid hFF
     clear hFF hb HOF x0 x1 x2 hxl
     obtain ⟨Au,cu,rfl⟩:=(Sl.of_own how).form
     unfold footA
     simp only
     have hfx:=Blk.new w3 54 #[.int .i64 sc,.int .i64 ofs,.int .i64 sv,.string ltr,.string fm,.slice Au Rl.length cu]
     have HF4:=Lib.hid hfx
     have HB4:=Lib.hid (HB3.out.alloc HB3.out.size (.cells #[.int .i64 sc,.int .i64 ofs,.int .i64 sv,.string ltr,.string fm,.slice Au Rl.length cu] 54))
     have HO4:=Lib.hid (how.alloc (.cells #[.int .i64 sc,.int .i64 ofs,.int .i64 sv,.string ltr,.string fm,.slice Au Rl.length cu] 54))
     have hs3:=HB3.out.size
     clear how hfx
     have hxb:=HXX.out.below (HB3.out) HXX.out.lt
     have x0:=hxb.cell 0 (v:=.string zn) rfl
     have x1:=hxb.cell 1 (v:=.slice A l.length cA) rfl
     have x2:=hxb.cell 2 (v:=.slice A2 S.length cS) rfl
     have hxl:=hxb.lt
     clear hxb
     go_wp2_with fail
     refine (HF.out _ HB4.out).mono ?_
     rintro o_ w5 ⟨⟨ur,vr,rfl,hR⟩,hb⟩
     have HB5:=Lib.hid (HB4.out.trans (hb.mono HB4.out.size))
     have HF5:=Lib.hid (HF4.out.below hb HF4.out.lt)
     have HO5:=Lib.hid (ownsRow_below HO4.out hb)
     have hs5:=HB5.out.size
     clear x0 x1 x2 hxl hb HF HF4 HO4 HB4
     cases hg:goodZ l S with
     | false =>
       have hE0:E ≠ 0:=fun e=>by
        rw [good_iff.2 ⟨HFEW.out,by rw [HE.out,e]⟩] at hg
        cases hg
       have hFz:footZero = ⟨sc,ofs,sv,ltr,fm,Rl⟩:=by
        rw [← HFF.out]
        unfold footZ
        rw [if_neg (by rw [HE.out];exact hE0)]
       unfold footZero at hFz
       cases hFz
       simp only [List.length_nil] at HF5 HO5 ⊢
       have HSM:=Lib.hid (fsame_any w5 w5.heap.size (.slice Au 0 cu) (.slice none 0 0) footZero footZero (Sl.of_own HO5.out) (Sl.nil _ _ _) (Nat.le_refl _))
       rw [sameF_iff.2 rfl] at HSM
       unfold footA footZero at HSM
       simp only at HSM
       have fc0:=HF5.out.cell 0 (v:=.int .i64 0) rfl
       have fc1:=HF5.out.cell 1 (v:=.int .i64 0) rfl
       have fc2:=HF5.out.cell 2 (v:=.int .i64 0) rfl
       have fc3:=HF5.out.cell 3 (v:=.string ⟨#[]⟩) rfl
       have fc4:=HF5.out.cell 4 (v:=.string ⟨#[]⟩) rfl
       have fc5:=HF5.out.cell 5 (v:=.slice Au 0 cu) rfl
       have fl:=HF5.out.lt
       clear hR hg
       go_wp2_with fail
       refine HSM.out.mono ?_
       rintro o_ w6 ⟨rfl,hb⟩
       have HB6:=Lib.hid (HB5.out.trans (hb.mono HB5.out.size))
       have HCK:=Lib.hid (zcheckZ_any zn _ _ w.heap.size l S w6 (HZ0.out.below HB6.out) (few_okR HFEW.out))
       unfold setsV zoneA worldA at HCK
       rw [HE.out] at HCK
       clear hb HSM
       clear fc0 fc1 fc2 fc3 fc4 fc5 fl
       have hxb:=HXX.out.below (HB6.out) HXX.out.lt
       have x0:=hxb.cell 0 (v:=.string zn) rfl
       have x1:=hxb.cell 1 (v:=.slice A l.length cA) rfl
       have x2:=hxb.cell 2 (v:=.slice A2 S.length cS) rfl
       have hxl:=hxb.lt
       clear hxb
       go_wp2_with fail
       refine HCK.out.mono ?_
       rintro o_ w7 ⟨rfl,hb⟩
       have HB7:=Lib.hid (HB6.out.trans (hb.mono HB6.out.size))
       clear hb HCK x0 x1 x2 hxl
       go_wp2_with fail
       refine (fawake_any _ ((HZ0.out.below (HB7.out)).ahead) (Nat.lt_of_lt_of_le ((HZ0.out.below (HB7.out)).tab) ((HZ0.out.below (HB7.out)).le)) ((HZ0.out.below (HB7.out)).maxl)).mono ?_
       rintro o_ wz ⟨rfl,hbz⟩
       have HBZ:=Lib.hid (HB0.out.trans ((HB7.out).mono HB0.out.size |>.trans (hbz.mono (Nat.le_trans HB0.out.size (HB7.out).size))))
       clear hbz
       go_wp2_with fail
       go_ret
       exact ⟨rfl,HBZ.out⟩
     | true =>
       have HFZ:=Lib.hid (FewZ.mk (good_iff.1 hg).2 (good_iff.1 hg).1)
       obtain ⟨Rr,hRZ,-,hNE⟩:=hR hg
       have hE0:E = 0:=by rw [← HE.out];exact HFZ.out.err
       subst hE0
       have HNE:=Lib.hid hNE
       obtain ⟨A4,c4,rfl,-,-⟩:=hNE.form
       clear hR hg hRZ hNE
       have hpos:=HFZ.out.pos
       obtain ⟨nL,hnL⟩:∃ n,l.length = n + 1:=⟨l.length - 1,by omega⟩
       obtain ⟨bb,o,c',e,hbb,hc⟩:=(HZ0.out.below HB5.out).eras.cells hpos
       cases e
       have hx:=hc nL (by omega)
       obtain ⟨x,hxk⟩:∃ x,lastE l = x:=⟨_,rfl⟩
       have hlx:l[nL]'(by omega) = x:=by
        rw [← hxk]
        unfold lastE
        rw [show l.length - 1 = nL by omega,List.getD_eq_getElem?_getD,List.getElem?_eq_getElem (by omega)]
        rfl
       rw [hlx] at hx
       have HOFF:=Lib.hid (show -90000 < x.n.off∧x.n.off < 90000 from by
        have h:=HFZ.out.off (show nL < l.length by omega)
        rw [hlx] at h
        exact h)
       have HFT:=Lib.hid (show footZ S l = footOf x (begV (endL S l)) (ofRul S x.ru) by unfold footZ;rw [if_pos HFZ.out.err,hxk])
       obtain ⟨k0,k1,k2,k3,k4,k5,k6,k7,k8,k9,k10,k11⟩:=hx
       clear hc hxk hlx
       rw [hnL] at HXX
       have hnl:=hnL
       have hnl2:wrap64 ((l.length:Int) - 1) = (nL:Int):=by rw [hnl];exact (show ((nL + 1:Nat):Int) - 1 = (nL:Int) by omega) ▸ IntWalk.wrap64_in _ (by omega)
       have hdl2:nL < l.length:=by omega
       have HE6:=Lib.hid (Blk.new w5 42 #[.int .i64 x.n.off,.string x.ru,.int .i64 x.n.save,.string x.fm,.bool x.en,.int .i64 x.n.year,.int .i64 x.n.month,.int .i64 x.n.dk,.int .i64 x.n.dw,.int .i64 x.n.dn,.int .i64 x.n.sec,.int .i64 x.n.ak])
       have HF6:=Lib.hid (HF5.out.alloc (.cells #[.int .i64 x.n.off,.string x.ru,.int .i64 x.n.save,.string x.fm,.bool x.en,.int .i64 x.n.year,.int .i64 x.n.month,.int .i64 x.n.dk,.int .i64 x.n.dw,.int .i64 x.n.dn,.int .i64 x.n.sec,.int .i64 x.n.ak] 42))
       have HO6:=Lib.hid (HO5.out.alloc (.cells #[.int .i64 x.n.off,.string x.ru,.int .i64 x.n.save,.string x.fm,.bool x.en,.int .i64 x.n.year,.int .i64 x.n.month,.int .i64 x.n.dk,.int .i64 x.n.dw,.int .i64 x.n.dn,.int .i64 x.n.sec,.int .i64 x.n.ak] 42))
       have HB6:=Lib.hid (HB5.out.alloc hs5 (.cells #[.int .i64 x.n.off,.string x.ru,.int .i64 x.n.save,.string x.fm,.bool x.en,.int .i64 x.n.year,.int .i64 x.n.month,.int .i64 x.n.dk,.int .i64 x.n.dw,.int .i64 x.n.dn,.int .i64 x.n.sec,.int .i64 x.n.ak] 42))
       have hxb:=HXX.out.below HB5.out HXX.out.lt
       have x0:=hxb.cell 0 (v:=.string zn) rfl
       have x1:=hxb.cell 1 (v:=.slice (some ⟨bb,o,none⟩) (nL + 1) cA) rfl
       have x2:=hxb.cell 2 (v:=.slice A2 S.length cS) rfl
       have hxl:=hxb.lt
       clear hxb
       rcases Nat.eq_zero_or_pos (endL S l).length with hn0 | hn0
       ·rw [hn0]
        have HBV0:=Lib.hid (show begV (endL S l) = -2199023255552 by rw [List.eq_nil_of_length_eq_zero hn0];rfl)
        go_wp2_with fail
        obtain ⟨b,hb9⟩:∃ b,(-2199023255552:Int) = b:=⟨_,rfl⟩
        rw [hb9] at HBV0 ⊢
        have HBV:=HBV0
        clear hb9 x0 x1 x2 hxl k0 k1 k2 k3 k4 k5 k6 k7 k8 k9 k10 k11
        obtain ⟨w6,hw6⟩:∃ W,w5.alloc (.cells #[.int .i64 x.n.off,.string x.ru,.int .i64 x.n.save,.string x.fm,.bool x.en,.int .i64 x.n.year,.int .i64 x.n.month,.int .i64 x.n.dk,.int .i64 x.n.dw,.int .i64 x.n.dn,.int .i64 x.n.sec,.int .i64 x.n.ak] 42) = W:=⟨_,rfl⟩
        rw [hw6] at HF6 HE6 HO6 HB6 ⊢
        clear hw6
        have hs6:=HB6.out.size
        have hf6l:=HF6.out.lt
        have he6l:=HE6.out.lt
        have HX6:=Lib.hid (HXX.out.below HB6.out HXX.out.lt)
        have HRB:=Lib.hid (set_right (fewB_iff.1 HFEW.out).2.1 x.ru)
        obtain ⟨Af,hAf,hst,-⟩:=right_yes HRB.out
        have HRF:=Lib.hid (show refOf x b (ofRul S x.ru) Af = ⟨sc,ofs,sv,ltr,fm,Rl⟩ by
         rw [← footOf_ref hAf HOFF.out (ended_rules HEND.out x.ru),← HFF.out,HFT.out,HBV.out])
        obtain ⟨A3,c3v,e3⟩:=ofVal_form (HZ0.out.below HB6.out).sets x.ru
        have HWO:=Lib.hid (fun (W:World) (h:Below w6.heap.size w6 W)=>wof_any W zn (.slice (some ⟨bb,o,none⟩) (nL + 1) cA) (.slice A2 S.length cS) w.heap.size S ((HZ0.out.below (HB6.out.trans (h.mono HB6.out.size))).sets) ((HZ0.out.below (HB6.out.trans (h.mono HB6.out.size))).le) x.ru)
        have HRO:=Lib.hid (fun (W:World) (h:Below w6.heap.size w6 W)=>rfof_any W w.heap.size (ofVal S x.ru) x b (ofRul S x.ru) Af ((HZ0.out.below (HB6.out.trans (h.mono HB6.out.size))).sets.of_ruls x.ru) ((HZ0.out.below (HB6.out.trans (h.mono HB6.out.size))).le) (fun _=>⟨HRB.out,hAf,hst⟩) (ofRul_fr (fr_few HFEW.out) x.ru) (ended_rules HEND.out x.ru) (ofRul_ok (few_okR HFEW.out) x.ru).len (ofRul_ok (few_okR HFEW.out) x.ru).mon (fun _=>(ofRul_ok (few_okR HFEW.out) x.ru).mon) HOFF.out)
        rw [HRF.out] at HRO
        rw [e3] at HWO HRO
        unfold worldA at HWO
        unfold footA eraA at HRO
        simp only at HRO
        clear hAf hst e3
        refine wp_invL (fin:=?fnR1) (by kernel_rfl) [72,73,74,75,76,77,78,10,999]
         [.is (.agg #[.int .i64 x.n.off,.string x.ru,.int .i64 x.n.save,.string x.fm,.bool x.en,.int .i64 x.n.year,.int .i64 x.n.month,.int .i64 x.n.dk,.int .i64 x.n.dw,.int .i64 x.n.dn,.int .i64 x.n.sec,.int .i64 x.n.ak]),.is (.int .i64 b),.is (.agg #[.string zn,.slice (some ⟨bb,o,none⟩) (nL + 1) cA,.slice A2 S.length cS]),.is (.pointer (some ⟨w5.heap.size,1,none⟩)),.is (.string x.ru),.is (.slice A3 (ofRul S x.ru).length c3v),⟨fun v W=>∃ u,v = .agg #[.int .i64 sc,.int .i64 ofs,.int .i64 sv,.string ltr,.string fm,u]∧W.ownsRow w6.heap.size 106 11 u Rl.length (rulsV Rl),fun v W W' h hb=>by obtain ⟨u,e,ho⟩:=h;exact ⟨u,e,ownsRow_below ho hb⟩⟩,⟨fun v W=>∃ bk,v = .pointer (some ⟨bk,0,none⟩)∧w6.heap.size ≤ bk∧Blk W bk 64 #[.int .i64 0,.int .i64 0,.int .i64 0,.string ⟨#[]⟩,.string ⟨#[]⟩,.slice none 0 0],fun v W W' h hb=>by obtain ⟨bk,e,h1,h2⟩:=h;exact ⟨bk,e,h1,h2.below hb h2.lt⟩⟩] 8 (by simp) (by kernel_rfl) (by kernel_rfl) ?finR1 ?_ ?_
        case finR1 =>
         intro x_
         simp only [frameOf,List.foldl_cons,List.foldl_nil,Act.put,List.setIfInBounds_toArray,List.set_cons_succ,List.set_cons_zero,List.set_nil]
         rfl
        ·as_aux_lemma =>
          simp only [List.take_succ_cons,List.take_zero]
          refine ⟨?_,?_,?_,?_,?_,?_,?_,?_,trivial⟩
          ·intro x_ w1_ R_ hB_ hf hR
           have hq_:=HE6.out.below hB_ HE6.out.lt
           have q0:=hq_.cell 0 (v:=.int .i64 x.n.off) rfl
           have q1:=hq_.cell 1 (v:=.string x.ru) rfl
           have q2:=hq_.cell 2 (v:=.int .i64 x.n.save) rfl
           have q3:=hq_.cell 3 (v:=.string x.fm) rfl
           have q4:=hq_.cell 4 (v:=.bool x.en) rfl
           have q5:=hq_.cell 5 (v:=.int .i64 x.n.year) rfl
           have q6:=hq_.cell 6 (v:=.int .i64 x.n.month) rfl
           have q7:=hq_.cell 7 (v:=.int .i64 x.n.dk) rfl
           have q8:=hq_.cell 8 (v:=.int .i64 x.n.dw) rfl
           have q9:=hq_.cell 9 (v:=.int .i64 x.n.dn) rfl
           have q10:=hq_.cell 10 (v:=.int .i64 x.n.sec) rfl
           have q11:=hq_.cell 11 (v:=.int .i64 x.n.ak) rfl
           clear hf hq_
           simp only [upd] at hR ⊢
           go_wp2_with fail
           exact hR _ _ rfl (Below.refl _ _)
          ·intro x_ w1_ R_ hB_ hf hR
           clear hf
           simp only [upd] at hR ⊢
           go_wp2_with fail
           exact hR _ _ rfl (Below.refl _ _)
          ·intro x_ w1_ R_ hB_ hf hR
           have hq_:=HX6.out.below hB_ HX6.out.lt
           have q0:=hq_.cell 0 (v:=.string zn) rfl
           have q1:=hq_.cell 1 (v:=.slice (some ⟨bb,o,none⟩) (nL + 1) cA) rfl
           have q2:=hq_.cell 2 (v:=.slice A2 S.length cS) rfl
           clear hf hq_
           simp only [upd] at hR ⊢
           go_wp2_with fail
           exact hR _ _ rfl (Below.refl _ _)
          ·intro x_ w1_ R_ hB_ hf hR
           clear hf
           simp only [upd] at hR ⊢
           go_wp2_with fail
           exact hR _ _ rfl (Below.refl _ _)
          ·intro x_ w1_ R_ hB_ hf hR
           have e3:x_ 75 = .pointer (some ⟨w5.heap.size,1,none⟩):=hf 3 (by kernel_rfl)
           have q1:=(HE6.out.below hB_ HE6.out.lt).cell 1 (v:=.string x.ru) rfl
           clear hf
           simp only [upd] at hR ⊢
           simp only [e3] at hR ⊢
           go_wp2_with fail
           exact hR _ _ rfl (Below.refl _ _)
          ·intro x_ w1_ R_ hB_ hf hR
           have e2:x_ 74 = .agg #[.string zn,.slice (some ⟨bb,o,none⟩) (nL + 1) cA,.slice A2 S.length cS]:=hf 2 (by kernel_rfl)
           have e4:x_ 76 = .string x.ru:=hf 4 (by kernel_rfl)
           clear hf
           simp only [upd] at hR ⊢
           simp only [e2,e4] at hR ⊢
           go_wp2_with fail
           refine (HWO.out w1_ hB_).mono ?_
           rintro o_ w2_ ⟨rfl,hb⟩
           go_wp2_with fail
           exact hR _ _ rfl hb
          ·intro x_ w1_ R_ hB_ hf hR
           have e0:x_ 72 = .agg #[.int .i64 x.n.off,.string x.ru,.int .i64 x.n.save,.string x.fm,.bool x.en,.int .i64 x.n.year,.int .i64 x.n.month,.int .i64 x.n.dk,.int .i64 x.n.dw,.int .i64 x.n.dn,.int .i64 x.n.sec,.int .i64 x.n.ak]:=hf 0 (by kernel_rfl)
           have e1:x_ 73 = .int .i64 b:=hf 1 (by kernel_rfl)
           have e5:x_ 77 = .slice A3 (ofRul S x.ru).length c3v:=hf 5 (by kernel_rfl)
           have hBs:=hB_.size
           clear hf
           simp only [upd] at hR ⊢
           simp only [e0,e1,e5] at hR ⊢
           go_wp2_with fail
           refine (HRO.out w1_ hB_).mono ?_
           rintro o_ w2_ ⟨u,rfl,how,hb⟩
           go_wp2_with fail
           exact hR _ _ ⟨u,rfl,own_wide how hBs⟩ hb
          ·intro x_ w1_ R_ hB_ hf hR
           have hBs:=hB_.size
           clear hf
           simp only [upd] at hR ⊢
           go_wp2_with fail
           exact hR _ _ ⟨w1_.heap.size,rfl,hBs,Blk.new w1_ _ _⟩ ((Below.refl _ _).alloc (Nat.le_refl _) _)
        ·intro x11 w11 hb11 hF_
         have e0:x11 72 = .agg #[.int .i64 x.n.off,.string x.ru,.int .i64 x.n.save,.string x.fm,.bool x.en,.int .i64 x.n.year,.int .i64 x.n.month,.int .i64 x.n.dk,.int .i64 x.n.dw,.int .i64 x.n.dn,.int .i64 x.n.sec,.int .i64 x.n.ak]:=hF_ 0 (by omega)
         have e1:x11 73 = .int .i64 b:=hF_ 1 (by omega)
         have e2:x11 74 = .agg #[.string zn,.slice (some ⟨bb,o,none⟩) (nL + 1) cA,.slice A2 S.length cS]:=hF_ 2 (by omega)
         have e3:x11 75 = .pointer (some ⟨w5.heap.size,1,none⟩):=hF_ 3 (by omega)
         have e4:x11 76 = .string x.ru:=hF_ 4 (by omega)
         have e5:x11 77 = .slice A3 (ofRul S x.ru).length c3v:=hF_ 5 (by omega)
         obtain ⟨u2,e6,how2⟩:∃ u,x11 78 = .agg #[.int .i64 sc,.int .i64 ofs,.int .i64 sv,.string ltr,.string fm,u]∧w11.ownsRow w6.heap.size 106 11 u Rl.length (rulsV Rl):=hF_ 6 (by omega)
         obtain ⟨bk,e7,hbk,hbw⟩:∃ bk,x11 10 = .pointer (some ⟨bk,0,none⟩)∧w6.heap.size ≤ bk∧Blk w11 bk 64 #[.int .i64 0,.int .i64 0,.int .i64 0,.string ⟨#[]⟩,.string ⟨#[]⟩,.slice none 0 0]:=hF_ 7 (by omega)
         obtain ⟨Aw,cw,rfl⟩:=(Sl.of_own how2).form
         simp only [List.drop_succ_cons,List.drop_zero]
         simp only [e0,e1,e2,e3,e4,e5,e6,e7]
         clear hF_ e0 e1 e2 e3 e4 e5 e6 e7 HWO HRO
         have HB11:=Lib.hid (HB6.out.trans (hb11.mono HB6.out.size))
         have HF11:=Lib.hid (HF6.out.below hb11 HF6.out.lt)
         have HE11:=Lib.hid (HE6.out.below hb11 HE6.out.lt)
         have HO11:=Lib.hid (ownsRow_below HO6.out hb11)
         have HP11:=Lib.hid how2
         have HW11:=Lib.hid hbw
         have rz0:=hbw.frozen 0
         have rz1:=hbw.frozen 1
         have rz2:=hbw.frozen 2
         have rz3:=hbw.frozen 3
         have rz4:=hbw.frozen 4
         have rz5:=hbw.frozen 5
         have rc0:=hbw.cell 0 (v:=.int .i64 0) rfl
         have rc1:=hbw.cell 1 (v:=.int .i64 0) rfl
         have rc2:=hbw.cell 2 (v:=.int .i64 0) rfl
         have rc3:=hbw.cell 3 (v:=.string ⟨#[]⟩) rfl
         have rc4:=hbw.cell 4 (v:=.string ⟨#[]⟩) rfl
         have rc5:=hbw.cell 5 (v:=.slice none 0 0) rfl
         have rl:=hbw.lt
         have hbs:=hb11.size
         clear hb11 how2 hbw
         refine wpList_stop ?gT1 ((((((w11.setCell ⟨bk,0,none⟩ (.int .i64 sc)).setCell ⟨bk,1,none⟩ (.int .i64 ofs)).setCell ⟨bk,2,none⟩ (.int .i64 sv)).setCell ⟨bk,3,none⟩ (.string ltr)).setCell ⟨bk,4,none⟩ (.string fm)).setCell ⟨bk,5,none⟩ (.slice Aw Rl.length cw)) ?aT1 ?bT1
         case aT1 =>
          intro Q_ hQ_
          go_wp2_with fail
          exact hQ_
         clear rz0 rz1 rz2 rz3 rz4 rz5 rc0 rc1 rc2 rc3 rc4 rc5
         have hfr:=fr_set6 (T:=fun k=>k = bk) w11 rfl (.int .i64 sc) (.int .i64 ofs) (.int .i64 sv) (.string ltr) (.string fm) (.slice Aw Rl.length cw)
         have hW12:=(((((HW11.out.set 0 (.int .i64 sc)).set 1 (.int .i64 ofs)).set 2 (.int .i64 sv)).set 3 (.string ltr)).set 4 (.string fm)).set 5 (.slice Aw Rl.length cw)
         obtain ⟨w12,hw12⟩:∃ W,((((((w11.setCell ⟨bk,0,none⟩ (.int .i64 sc)).setCell ⟨bk,1,none⟩ (.int .i64 ofs)).setCell ⟨bk,2,none⟩ (.int .i64 sv)).setCell ⟨bk,3,none⟩ (.string ltr)).setCell ⟨bk,4,none⟩ (.string fm)).setCell ⟨bk,5,none⟩ (.slice Aw Rl.length cw)) = W:=⟨_,rfl⟩
         rw [hw12] at hfr hW12 ⊢
         clear hw12
         have HF12:=Lib.hid (HF11.out.fr hfr (by omega))
         have HE12:=Lib.hid (HE11.out.fr hfr (by omega))
         have HO12:=Lib.hid (hfr.own HO11.out (fun g hg e=>own_ne HW11.out HO11.out (by decide) (by rw [hg,e])))
         have HP12:=Lib.hid (hfr.own HP11.out (fun g hg e=>own_ne HW11.out HP11.out (by decide) (by rw [hg,e])))
         have HB12:=Lib.hid (HB11.out.trans (hfr.below HB11.out.size (fun k hk=>by omega)))
         have HW12:=Lib.hid hW12
         have ec1:=HE12.out.cell 1 (v:=.string x.ru) rfl
         have ecl:=HE12.out.lt
         have wcl:=hW12.lt
         have wz5:=hW12.frozen 5
         have wc5:=hW12.cell 5 (v:=.slice Aw Rl.length cw) rfl
         clear hfr hW12 HF11 HE11 HO11 HP11 HB11 HW11
         by_cases hru:x.ru.size = 0
         ·have hem:(x.ru.toList == []) = true:=by rw [emp_size,decide_eq_true hru]
          have HRL:=Lib.hid (refOf_none hru HRF.out)
          go_wp2_with fail
          have hfr:Fr (fun k=>k = bk) w12 (w12.setCell ⟨bk,5,none⟩ (.slice none 0 0)):=Fr.setCell w12 5 _ rfl
          have hW13:=HW12.out.set 5 (.slice none 0 0)
          obtain ⟨wq,hwq⟩:∃ W,w12.setCell ⟨bk,5,none⟩ (.slice none 0 0) = W:=⟨_,rfl⟩
          rw [hwq] at hfr hW13 ⊢
          clear hwq
          have HFq:=Lib.hid (HF12.out.fr hfr (by omega))
          have HOq:=Lib.hid (hfr.own HO12.out (fun g hg e=>own_ne HW12.out HO12.out (by decide) (by rw [hg,e])))
          have HBq:=Lib.hid (HB12.out.trans (hfr.below HB12.out.size (fun k hk=>by omega)))
          have HWq:=Lib.hid hW13
          have HPq:=Lib.hid (show Ruls wq wq.heap.size (.slice none 0 0) Rl by rw [HRL.out];exact Sl.nil _ _ _)
          clear hfr hW13 ec1 ecl wcl wz5 wc5
          have HPLA:=Lib.hid (fun W=>fplain_any W ⟨sc,ofs,sv,ltr,fm,Rl⟩ Au Rl.length cu)
          have HALA:=Lib.hid (fun (W:World) (h:Below wq.heap.size wq W)=>falike_any W W.heap.size (.slice Au Rl.length cu) (.slice none 0 0) ⟨sc,ofs,sv,ltr,fm,Rl⟩ (Sl.of_own (ownsRow_below HOq.out h)) (Sl.more (Sl.below HPq.out h) h.size) (Nat.le_refl _))
          have HENA:=Lib.hid (fun W=>fendless_any W ⟨sc,ofs,sv,ltr,fm,Rl⟩ Au cu)
          have HSMA:=Lib.hid (fun (W:World) (h:Below wq.heap.size wq W)=>fsame_any W W.heap.size (.slice Au Rl.length cu) (.slice Au Rl.length cu) ⟨sc,ofs,sv,ltr,fm,Rl⟩ ⟨sc,ofs,sv,ltr,fm,Rl⟩ (Sl.of_own (ownsRow_below HOq.out h)) (Sl.of_own (ownsRow_below HOq.out h)) (Nat.le_refl _))
          rw [sameF_iff.2 rfl] at HSMA
          have HAWA:=Lib.hid (fun (W:World) (h:Below wq.heap.size wq W)=>fawake_any W ((HZ0.out.below (HBq.out.trans (h.mono HBq.out.size))).ahead) (Nat.lt_of_lt_of_le ((HZ0.out.below (HBq.out.trans (h.mono HBq.out.size))).tab) ((HZ0.out.below (HBq.out.trans (h.mono HBq.out.size))).le)) ((HZ0.out.below (HBq.out.trans (h.mono HBq.out.size))).maxl))
          unfold footA at HPLA HALA HENA HSMA
          simp only at HPLA HALA HENA HSMA
          obtain ⟨bn,hbn⟩:∃ b,decide (0 < Rl.length) = b:=⟨_,rfl⟩
          have hbn2:decide ((0:Int) < (Rl.length:Int)) = bn:=by rw [← hbn];exact decide_eq_decide.2 (by omega)
          have HBNF:=Lib.hid (show Rl = []→bn = false from fun h=>by rw [← hbn,h];rfl)
          rw [hbn] at HENA
          refine wp_invL (fin:=?fnP1) (by kernel_rfl) [83,84,85,86,87,88,89,90,91,92,93,94,95,96,97,98,99,100,101,102,103,104,105,106,107,2]
           [.is (.int .i64 0),.is (.bool true),.is (.bool true),.is (.agg #[.int .i64 sc,.int .i64 ofs,.int .i64 sv,.string ltr,.string fm,.slice Au Rl.length cu]),.is (.agg #[.int .i64 sc,.int .i64 ofs,.int .i64 sv,.string ltr,.string fm,.slice Au Rl.length cu]),.is (.agg #[.int .i64 sc,.int .i64 ofs,.int .i64 sv,.string ltr,.string fm,.slice none 0 0]),.is (.bool true),.is (.bool true),.is (.bool true),.is (.agg #[.int .i64 sc,.int .i64 ofs,.int .i64 sv,.string ltr,.string fm,.slice Au Rl.length cu]),.is (.bool bn),.is (.pointer (some ⟨bk,5,none⟩)),.is (.slice none 0 0),.is (.int .i64 0),.is (.bool bn),.is (.bool true),.is (.bool true),.is (.bool true),.is (.agg #[.int .i64 sc,.int .i64 ofs,.int .i64 sv,.string ltr,.string fm,.slice Au Rl.length cu]),.is (.agg #[.int .i64 sc,.int .i64 ofs,.int .i64 sv,.string ltr,.string fm,.slice Au Rl.length cu]),.is (.bool true),.is (.bool true),.is (.bool true),.is (.bool true),.is (.bool true),.is (.bool true)] 26 (by simp) (by kernel_rfl) (by kernel_rfl) ?finP1 ?_ ?_
          case finP1 =>
           intro x_
           simp only [frameOf,List.foldl_cons,List.foldl_nil,Act.put,List.setIfInBounds_toArray,List.set_cons_succ,List.set_cons_zero]
           rfl
          ·as_aux_lemma =>
            simp only [List.take_succ_cons,List.take_zero]
            refine ⟨?_,?_,?_,?_,?_,?_,?_,?_,?_,?_,?_,?_,?_,?_,?_,?_,?_,?_,?_,?_,?_,?_,?_,?_,?_,?_,trivial⟩
            ·intro x_ w1_ R_ hB_ hf hR
             clear hf
             simp only [upd] at hR ⊢
             go_wp2_with fail
             exact hR _ _ rfl (Below.refl _ _)
            ·intro x_ w1_ R_ hB_ hf hR
             have e0:x_ 83 = .int .i64 0:=hf 0 (by kernel_rfl)
             clear hf
             simp only [upd] at hR ⊢
             simp only [e0] at hR ⊢
             go_wp2_with fail
             exact hR _ _ rfl (Below.refl _ _)
            ·intro x_ w1_ R_ hB_ hf hR
             have e1:x_ 84 = .bool true:=hf 1 (by kernel_rfl)
             clear hf
             simp only [upd] at hR ⊢
             simp only [e1] at hR ⊢
             go_wp2_with fail
             exact hR _ _ rfl (Below.refl _ _)
            ·intro x_ w1_ R_ hB_ hf hR
             have e2:x_ 85 = .bool true:=hf 2 (by kernel_rfl)
             have hf_:=HFq.out.below hB_ HFq.out.lt
             have q0:=hf_.cell 0 (v:=.int .i64 sc) rfl
             have q1:=hf_.cell 1 (v:=.int .i64 ofs) rfl
             have q2:=hf_.cell 2 (v:=.int .i64 sv) rfl
             have q3:=hf_.cell 3 (v:=.string ltr) rfl
             have q4:=hf_.cell 4 (v:=.string fm) rfl
             have q5:=hf_.cell 5 (v:=.slice Au Rl.length cu) rfl
             clear hf
             simp only [upd] at hR ⊢
             simp only [e2] at hR ⊢
             go_wp2_with fail
             exact hR _ _ rfl (Below.refl _ _)
            ·intro x_ w1_ R_ hB_ hf hR
             have e2:x_ 85 = .bool true:=hf 2 (by kernel_rfl)
             have e3:x_ 86 = .agg #[.int .i64 sc,.int .i64 ofs,.int .i64 sv,.string ltr,.string fm,.slice Au Rl.length cu]:=hf 3 (by kernel_rfl)
             clear hf
             simp only [upd] at hR ⊢
             simp only [e2,e3] at hR ⊢
             go_wp2_with fail
             refine (HPLA.out w1_).mono ?_
             rintro o_ w2_ ⟨rfl,hb⟩
             go_wp2_with fail
             exact hR _ _ rfl hb
            ·intro x_ w1_ R_ hB_ hf hR
             have e2:x_ 85 = .bool true:=hf 2 (by kernel_rfl)
             have hw_:=HWq.out.below hB_ HWq.out.lt
             have q0:=hw_.cell 0 (v:=.int .i64 sc) rfl
             have q1:=hw_.cell 1 (v:=.int .i64 ofs) rfl
             have q2:=hw_.cell 2 (v:=.int .i64 sv) rfl
             have q3:=hw_.cell 3 (v:=.string ltr) rfl
             have q4:=hw_.cell 4 (v:=.string fm) rfl
             have q5:=hw_.cell 5 (v:=.slice none 0 0) rfl
             clear hf
             simp only [upd] at hR ⊢
             simp only [e2] at hR ⊢
             go_wp2_with fail
             exact hR _ _ rfl (Below.refl _ _)
            ·intro x_ w1_ R_ hB_ hf hR
             have e2:x_ 85 = .bool true:=hf 2 (by kernel_rfl)
             have e4:x_ 87 = .agg #[.int .i64 sc,.int .i64 ofs,.int .i64 sv,.string ltr,.string fm,.slice Au Rl.length cu]:=hf 4 (by kernel_rfl)
             have e5:x_ 88 = .agg #[.int .i64 sc,.int .i64 ofs,.int .i64 sv,.string ltr,.string fm,.slice none 0 0]:=hf 5 (by kernel_rfl)
             clear hf
             simp only [upd] at hR ⊢
             simp only [e2,e4,e5] at hR ⊢
             go_wp2_with fail
             refine (HALA.out w1_ hB_).mono ?_
             rintro o_ w2_ ⟨rfl,hb⟩
             go_wp2_with fail
             exact hR _ _ rfl hb
            ·intro x_ w1_ R_ hB_ hf hR
             have e2:x_ 85 = .bool true:=hf 2 (by kernel_rfl)
             have e6:x_ 89 = .bool true:=hf 6 (by kernel_rfl)
             clear hf
             simp only [upd] at hR ⊢
             simp only [e2,e6] at hR ⊢
             go_wp2_with fail
             exact hR _ _ rfl (Below.refl _ _)
            ·intro x_ w1_ R_ hB_ hf hR
             have e7:x_ 90 = .bool true:=hf 7 (by kernel_rfl)
             clear hf
             simp only [upd] at hR ⊢
             simp only [e7] at hR ⊢
             go_wp2_with fail
             exact hR _ _ rfl (Below.refl _ _)
            ·intro x_ w1_ R_ hB_ hf hR
             have e8:x_ 91 = .bool true:=hf 8 (by kernel_rfl)
             have hf_:=HFq.out.below hB_ HFq.out.lt
             have q0:=hf_.cell 0 (v:=.int .i64 sc) rfl
             have q1:=hf_.cell 1 (v:=.int .i64 ofs) rfl
             have q2:=hf_.cell 2 (v:=.int .i64 sv) rfl
             have q3:=hf_.cell 3 (v:=.string ltr) rfl
             have q4:=hf_.cell 4 (v:=.string fm) rfl
             have q5:=hf_.cell 5 (v:=.slice Au Rl.length cu) rfl
             clear hf
             simp only [upd] at hR ⊢
             simp only [e8] at hR ⊢
             go_wp2_with fail
             exact hR _ _ rfl (Below.refl _ _)
            ·intro x_ w1_ R_ hB_ hf hR
             have e8:x_ 91 = .bool true:=hf 8 (by kernel_rfl)
             have e9:x_ 92 = .agg #[.int .i64 sc,.int .i64 ofs,.int .i64 sv,.string ltr,.string fm,.slice Au Rl.length cu]:=hf 9 (by kernel_rfl)
             clear hf
             simp only [upd] at hR ⊢
             simp only [e8,e9] at hR ⊢
             go_wp2_with fail
             refine (HENA.out w1_).mono ?_
             rintro o_ w2_ ⟨rfl,hb⟩
             go_wp2_with fail
             exact hR _ _ rfl hb
            ·intro x_ w1_ R_ hB_ hf hR
             have e8:x_ 91 = .bool true:=hf 8 (by kernel_rfl)
             clear hf
             simp only [upd] at hR ⊢
             simp only [e8] at hR ⊢
             go_wp2_with fail
             exact hR _ _ rfl (Below.refl _ _)
            ·intro x_ w1_ R_ hB_ hf hR
             have e8:x_ 91 = .bool true:=hf 8 (by kernel_rfl)
             have e11:x_ 94 = .pointer (some ⟨bk,5,none⟩):=hf 11 (by kernel_rfl)
             have hw_:=HWq.out.below hB_ HWq.out.lt
             have q5:=hw_.cell 5 (v:=.slice none 0 0) rfl
             clear hf
             simp only [upd] at hR ⊢
             simp only [e8,e11] at hR ⊢
             go_wp2_with fail
             exact hR _ _ rfl (Below.refl _ _)
            ·intro x_ w1_ R_ hB_ hf hR
             have e8:x_ 91 = .bool true:=hf 8 (by kernel_rfl)
             have e12:x_ 95 = .slice none 0 0:=hf 12 (by kernel_rfl)
             clear hf
             simp only [upd] at hR ⊢
             simp only [e8,e12] at hR ⊢
             go_wp2_with fail
             exact hR _ _ rfl (Below.refl _ _)
            ·intro x_ w1_ R_ hB_ hf hR
             have e8:x_ 91 = .bool true:=hf 8 (by kernel_rfl)
             have e13:x_ 96 = .int .i64 0:=hf 13 (by kernel_rfl)
             clear hf
             simp only [upd] at hR ⊢
             simp only [e8,e13] at hR ⊢
             go_wp2_with fail
             first
              | exact hR _ _ (show Value.bool false = .bool bn by rw [HBNF.out HRL.out]) (Below.refl _ _)
              | exact hR _ _ rfl (Below.refl _ _)
              | exact hR _ _ (show Value.bool (decide ((0:Int) < (Rl.length:Int))) = .bool bn by rw [hbn2]) (Below.refl _ _)
              | exact hR _ _ (show Value.bool (decide (0 < Rl.length)) = .bool bn by rw [hbn]) (Below.refl _ _)
            ·intro x_ w1_ R_ hB_ hf hR
             have e8:x_ 91 = .bool true:=hf 8 (by kernel_rfl)
             have e10:x_ 93 = .bool bn:=hf 10 (by kernel_rfl)
             have e14:x_ 97 = .bool bn:=hf 14 (by kernel_rfl)
             clear hf
             simp only [upd] at hR ⊢
             simp only [e8,e10,e14] at hR ⊢
             go_wp2_with fail
             first
              | exact hR _ _ rfl (Below.refl _ _)
              | (cases bn <;> exact hR _ _ rfl (Below.refl _ _))
            ·intro x_ w1_ R_ hB_ hf hR
             have e8:x_ 91 = .bool true:=hf 8 (by kernel_rfl)
             have e15:x_ 98 = .bool true:=hf 15 (by kernel_rfl)
             clear hf
             simp only [upd] at hR ⊢
             simp only [e8,e15] at hR ⊢
             go_wp2_with fail
             exact hR _ _ rfl (Below.refl _ _)
            ·intro x_ w1_ R_ hB_ hf hR
             have e16:x_ 99 = .bool true:=hf 16 (by kernel_rfl)
             clear hf
             simp only [upd] at hR ⊢
             simp only [e16] at hR ⊢
             go_wp2_with fail
             exact hR _ _ rfl (Below.refl _ _)
            ·intro x_ w1_ R_ hB_ hf hR
             have e17:x_ 100 = .bool true:=hf 17 (by kernel_rfl)
             have hf_:=HFq.out.below hB_ HFq.out.lt
             have q0:=hf_.cell 0 (v:=.int .i64 sc) rfl
             have q1:=hf_.cell 1 (v:=.int .i64 ofs) rfl
             have q2:=hf_.cell 2 (v:=.int .i64 sv) rfl
             have q3:=hf_.cell 3 (v:=.string ltr) rfl
             have q4:=hf_.cell 4 (v:=.string fm) rfl
             have q5:=hf_.cell 5 (v:=.slice Au Rl.length cu) rfl
             clear hf
             simp only [upd] at hR ⊢
             simp only [e17] at hR ⊢
             go_wp2_with fail
             exact hR _ _ rfl (Below.refl _ _)
            ·intro x_ w1_ R_ hB_ hf hR
             have e17:x_ 100 = .bool true:=hf 17 (by kernel_rfl)
             have hf_:=HFq.out.below hB_ HFq.out.lt
             have q0:=hf_.cell 0 (v:=.int .i64 sc) rfl
             have q1:=hf_.cell 1 (v:=.int .i64 ofs) rfl
             have q2:=hf_.cell 2 (v:=.int .i64 sv) rfl
             have q3:=hf_.cell 3 (v:=.string ltr) rfl
             have q4:=hf_.cell 4 (v:=.string fm) rfl
             have q5:=hf_.cell 5 (v:=.slice Au Rl.length cu) rfl
             clear hf
             simp only [upd] at hR ⊢
             simp only [e17] at hR ⊢
             go_wp2_with fail
             exact hR _ _ rfl (Below.refl _ _)
            ·intro x_ w1_ R_ hB_ hf hR
             have e17:x_ 100 = .bool true:=hf 17 (by kernel_rfl)
             have e18:x_ 101 = .agg #[.int .i64 sc,.int .i64 ofs,.int .i64 sv,.string ltr,.string fm,.slice Au Rl.length cu]:=hf 18 (by kernel_rfl)
             have e19:x_ 102 = .agg #[.int .i64 sc,.int .i64 ofs,.int .i64 sv,.string ltr,.string fm,.slice Au Rl.length cu]:=hf 19 (by kernel_rfl)
             clear hf
             simp only [upd] at hR ⊢
             simp only [e17,e18,e19] at hR ⊢
             go_wp2_with fail
             refine (HSMA.out w1_ hB_).mono ?_
             rintro o_ w2_ ⟨rfl,hb⟩
             go_wp2_with fail
             exact hR _ _ rfl hb
            ·intro x_ w1_ R_ hB_ hf hR
             have e17:x_ 100 = .bool true:=hf 17 (by kernel_rfl)
             have e20:x_ 103 = .bool true:=hf 20 (by kernel_rfl)
             clear hf
             simp only [upd] at hR ⊢
             simp only [e17,e20] at hR ⊢
             go_wp2_with fail
             exact hR _ _ rfl (Below.refl _ _)
            ·intro x_ w1_ R_ hB_ hf hR
             have e21:x_ 104 = .bool true:=hf 21 (by kernel_rfl)
             clear hf
             simp only [upd] at hR ⊢
             simp only [e21] at hR ⊢
             go_wp2_with fail
             exact hR _ _ rfl (Below.refl _ _)
            ·intro x_ w1_ R_ hB_ hf hR
             have e22:x_ 105 = .bool true:=hf 22 (by kernel_rfl)
             clear hf
             simp only [upd] at hR ⊢
             simp only [e22] at hR ⊢
             go_wp2_with fail
             refine (HAWA.out w1_ hB_).mono ?_
             rintro o_ w2_ ⟨rfl,hb⟩
             go_wp2_with fail
             exact hR _ _ rfl hb
            ·intro x_ w1_ R_ hB_ hf hR
             have e22:x_ 105 = .bool true:=hf 22 (by kernel_rfl)
             have e23:x_ 106 = .bool true:=hf 23 (by kernel_rfl)
             clear hf
             simp only [upd] at hR ⊢
             simp only [e22,e23] at hR ⊢
             go_wp2_with fail
             exact hR _ _ rfl (Below.refl _ _)
            ·intro x_ w1_ R_ hB_ hf hR
             have e24:x_ 107 = .bool true:=hf 24 (by kernel_rfl)
             clear hf
             simp only [upd] at hR ⊢
             simp only [e24] at hR ⊢
             go_wp2_with fail
             exact hR _ _ rfl (Below.refl _ _)
          ·intro x14 w14 hb14 hF_
           have e25:x14 2 = .bool true:=hF_ 25 (by omega)
           simp only [List.drop_succ_cons,List.drop_zero]
           simp only [e25]
           have HBR:=Lib.hid (HB0.out.trans ((HBq.out.mono HB0.out.size).trans (hb14.mono (Nat.le_trans HB0.out.size HBq.out.size))))
           clear hb14 hF_ e25
           go_wp2_with fail
           go_ret
           exact ⟨rfl,HBR.out⟩
         ·have hem:(x.ru.toList == []) = false:=by rw [emp_size,decide_eq_false hru]
          have HFq:=HF12
          have HOq:=HO12
          have HBq:=HB12
          have HWq:=HW12
          have HPq:=Lib.hid (show Ruls w12 w12.heap.size (.slice Aw Rl.length cw) Rl from Sl.of_own HP12.out)
          obtain ⟨wq,hwq⟩:∃ W,w12 = W:=⟨_,rfl⟩
          rw [hwq] at HFq HOq HBq HWq HPq ec1 ecl ⊢
          clear hwq
          go_wp2_with fail
          have HPLA:=Lib.hid (fun W=>fplain_any W ⟨sc,ofs,sv,ltr,fm,Rl⟩ Au Rl.length cu)
          have HALA:=Lib.hid (fun (W:World) (h:Below wq.heap.size wq W)=>falike_any W W.heap.size (.slice Au Rl.length cu) (.slice Aw Rl.length cw) ⟨sc,ofs,sv,ltr,fm,Rl⟩ (Sl.of_own (ownsRow_below HOq.out h)) (Sl.more (Sl.below HPq.out h) h.size) (Nat.le_refl _))
          have HENA:=Lib.hid (fun W=>fendless_any W ⟨sc,ofs,sv,ltr,fm,Rl⟩ Au cu)
          have HSMA:=Lib.hid (fun (W:World) (h:Below wq.heap.size wq W)=>fsame_any W W.heap.size (.slice Au Rl.length cu) (.slice Au Rl.length cu) ⟨sc,ofs,sv,ltr,fm,Rl⟩ ⟨sc,ofs,sv,ltr,fm,Rl⟩ (Sl.of_own (ownsRow_below HOq.out h)) (Sl.of_own (ownsRow_below HOq.out h)) (Nat.le_refl _))
          rw [sameF_iff.2 rfl] at HSMA
          have HAWA:=Lib.hid (fun (W:World) (h:Below wq.heap.size wq W)=>fawake_any W ((HZ0.out.below (HBq.out.trans (h.mono HBq.out.size))).ahead) (Nat.lt_of_lt_of_le ((HZ0.out.below (HBq.out.trans (h.mono HBq.out.size))).tab) ((HZ0.out.below (HBq.out.trans (h.mono HBq.out.size))).le)) ((HZ0.out.below (HBq.out.trans (h.mono HBq.out.size))).maxl))
          unfold footA at HPLA HALA HENA HSMA
          simp only at HPLA HALA HENA HSMA
          obtain ⟨bn,hbn⟩:∃ b,decide (0 < Rl.length) = b:=⟨_,rfl⟩
          have hbn2:decide ((0:Int) < (Rl.length:Int)) = bn:=by rw [← hbn];exact decide_eq_decide.2 (by omega)
          have HBNF:=Lib.hid (show Rl = []→bn = false from fun h=>by rw [← hbn,h];rfl)
          rw [hbn] at HENA
          refine wp_invL (fin:=?fnQ1) (by kernel_rfl) [83,84,85,86,87,88,89,90,91,92,93,94,95,96,97,98,99,100,101,102,103,104,105,106,107,2]
           [.is (.int .i64 0),.is (.bool true),.is (.bool true),.is (.agg #[.int .i64 sc,.int .i64 ofs,.int .i64 sv,.string ltr,.string fm,.slice Au Rl.length cu]),.is (.agg #[.int .i64 sc,.int .i64 ofs,.int .i64 sv,.string ltr,.string fm,.slice Au Rl.length cu]),.is (.agg #[.int .i64 sc,.int .i64 ofs,.int .i64 sv,.string ltr,.string fm,.slice Aw Rl.length cw]),.is (.bool true),.is (.bool true),.is (.bool true),.is (.agg #[.int .i64 sc,.int .i64 ofs,.int .i64 sv,.string ltr,.string fm,.slice Au Rl.length cu]),.is (.bool bn),.is (.pointer (some ⟨bk,5,none⟩)),.is (.slice Aw Rl.length cw),.is (.int .i64 (Rl.length:Nat)),.is (.bool bn),.is (.bool true),.is (.bool true),.is (.bool true),.is (.agg #[.int .i64 sc,.int .i64 ofs,.int .i64 sv,.string ltr,.string fm,.slice Au Rl.length cu]),.is (.agg #[.int .i64 sc,.int .i64 ofs,.int .i64 sv,.string ltr,.string fm,.slice Au Rl.length cu]),.is (.bool true),.is (.bool true),.is (.bool true),.is (.bool true),.is (.bool true),.is (.bool true)] 26 (by simp) (by kernel_rfl) (by kernel_rfl) ?finQ1 ?_ ?_
          case finQ1 =>
           intro x_
           simp only [frameOf,List.foldl_cons,List.foldl_nil,Act.put,List.setIfInBounds_toArray,List.set_cons_succ,List.set_cons_zero]
           rfl
          ·as_aux_lemma =>
            simp only [List.take_succ_cons,List.take_zero]
            refine ⟨?_,?_,?_,?_,?_,?_,?_,?_,?_,?_,?_,?_,?_,?_,?_,?_,?_,?_,?_,?_,?_,?_,?_,?_,?_,?_,trivial⟩
            ·intro x_ w1_ R_ hB_ hf hR
             clear hf
             simp only [upd] at hR ⊢
             go_wp2_with fail
             exact hR _ _ rfl (Below.refl _ _)
            ·intro x_ w1_ R_ hB_ hf hR
             have e0:x_ 83 = .int .i64 0:=hf 0 (by kernel_rfl)
             clear hf
             simp only [upd] at hR ⊢
             simp only [e0] at hR ⊢
             go_wp2_with fail
             exact hR _ _ rfl (Below.refl _ _)
            ·intro x_ w1_ R_ hB_ hf hR
             have e1:x_ 84 = .bool true:=hf 1 (by kernel_rfl)
             clear hf
             simp only [upd] at hR ⊢
             simp only [e1] at hR ⊢
             go_wp2_with fail
             exact hR _ _ rfl (Below.refl _ _)
            ·intro x_ w1_ R_ hB_ hf hR
             have e2:x_ 85 = .bool true:=hf 2 (by kernel_rfl)
             have hf_:=HFq.out.below hB_ HFq.out.lt
             have q0:=hf_.cell 0 (v:=.int .i64 sc) rfl
             have q1:=hf_.cell 1 (v:=.int .i64 ofs) rfl
             have q2:=hf_.cell 2 (v:=.int .i64 sv) rfl
             have q3:=hf_.cell 3 (v:=.string ltr) rfl
             have q4:=hf_.cell 4 (v:=.string fm) rfl
             have q5:=hf_.cell 5 (v:=.slice Au Rl.length cu) rfl
             clear hf
             simp only [upd] at hR ⊢
             simp only [e2] at hR ⊢
             go_wp2_with fail
             exact hR _ _ rfl (Below.refl _ _)
            ·intro x_ w1_ R_ hB_ hf hR
             have e2:x_ 85 = .bool true:=hf 2 (by kernel_rfl)
             have e3:x_ 86 = .agg #[.int .i64 sc,.int .i64 ofs,.int .i64 sv,.string ltr,.string fm,.slice Au Rl.length cu]:=hf 3 (by kernel_rfl)
             clear hf
             simp only [upd] at hR ⊢
             simp only [e2,e3] at hR ⊢
             go_wp2_with fail
             refine (HPLA.out w1_).mono ?_
             rintro o_ w2_ ⟨rfl,hb⟩
             go_wp2_with fail
             exact hR _ _ rfl hb
            ·intro x_ w1_ R_ hB_ hf hR
             have e2:x_ 85 = .bool true:=hf 2 (by kernel_rfl)
             have hw_:=HWq.out.below hB_ HWq.out.lt
             have q0:=hw_.cell 0 (v:=.int .i64 sc) rfl
             have q1:=hw_.cell 1 (v:=.int .i64 ofs) rfl
             have q2:=hw_.cell 2 (v:=.int .i64 sv) rfl
             have q3:=hw_.cell 3 (v:=.string ltr) rfl
             have q4:=hw_.cell 4 (v:=.string fm) rfl
             have q5:=hw_.cell 5 (v:=.slice Aw Rl.length cw) rfl
             clear hf
             simp only [upd] at hR ⊢
             simp only [e2] at hR ⊢
             go_wp2_with fail
             exact hR _ _ rfl (Below.refl _ _)
            ·intro x_ w1_ R_ hB_ hf hR
             have e2:x_ 85 = .bool true:=hf 2 (by kernel_rfl)
             have e4:x_ 87 = .agg #[.int .i64 sc,.int .i64 ofs,.int .i64 sv,.string ltr,.string fm,.slice Au Rl.length cu]:=hf 4 (by kernel_rfl)
             have e5:x_ 88 = .agg #[.int .i64 sc,.int .i64 ofs,.int .i64 sv,.string ltr,.string fm,.slice Aw Rl.length cw]:=hf 5 (by kernel_rfl)
             clear hf
             simp only [upd] at hR ⊢
             simp only [e2,e4,e5] at hR ⊢
             go_wp2_with fail
             refine (HALA.out w1_ hB_).mono ?_
             rintro o_ w2_ ⟨rfl,hb⟩
             go_wp2_with fail
             exact hR _ _ rfl hb
            ·intro x_ w1_ R_ hB_ hf hR
             have e2:x_ 85 = .bool true:=hf 2 (by kernel_rfl)
             have e6:x_ 89 = .bool true:=hf 6 (by kernel_rfl)
             clear hf
             simp only [upd] at hR ⊢
             simp only [e2,e6] at hR ⊢
             go_wp2_with fail
             exact hR _ _ rfl (Below.refl _ _)
            ·intro x_ w1_ R_ hB_ hf hR
             have e7:x_ 90 = .bool true:=hf 7 (by kernel_rfl)
             clear hf
             simp only [upd] at hR ⊢
             simp only [e7] at hR ⊢
             go_wp2_with fail
             exact hR _ _ rfl (Below.refl _ _)
            ·intro x_ w1_ R_ hB_ hf hR
             have e8:x_ 91 = .bool true:=hf 8 (by kernel_rfl)
             have hf_:=HFq.out.below hB_ HFq.out.lt
             have q0:=hf_.cell 0 (v:=.int .i64 sc) rfl
             have q1:=hf_.cell 1 (v:=.int .i64 ofs) rfl
             have q2:=hf_.cell 2 (v:=.int .i64 sv) rfl
             have q3:=hf_.cell 3 (v:=.string ltr) rfl
             have q4:=hf_.cell 4 (v:=.string fm) rfl
             have q5:=hf_.cell 5 (v:=.slice Au Rl.length cu) rfl
             clear hf
             simp only [upd] at hR ⊢
             simp only [e8] at hR ⊢
             go_wp2_with fail
             exact hR _ _ rfl (Below.refl _ _)
            ·intro x_ w1_ R_ hB_ hf hR
             have e8:x_ 91 = .bool true:=hf 8 (by kernel_rfl)
             have e9:x_ 92 = .agg #[.int .i64 sc,.int .i64 ofs,.int .i64 sv,.string ltr,.string fm,.slice Au Rl.length cu]:=hf 9 (by kernel_rfl)
             clear hf
             simp only [upd] at hR ⊢
             simp only [e8,e9] at hR ⊢
             go_wp2_with fail
             refine (HENA.out w1_).mono ?_
             rintro o_ w2_ ⟨rfl,hb⟩
             go_wp2_with fail
             exact hR _ _ rfl hb
            ·intro x_ w1_ R_ hB_ hf hR
             have e8:x_ 91 = .bool true:=hf 8 (by kernel_rfl)
             clear hf
             simp only [upd] at hR ⊢
             simp only [e8] at hR ⊢
             go_wp2_with fail
             exact hR _ _ rfl (Below.refl _ _)
            ·intro x_ w1_ R_ hB_ hf hR
             have e8:x_ 91 = .bool true:=hf 8 (by kernel_rfl)
             have e11:x_ 94 = .pointer (some ⟨bk,5,none⟩):=hf 11 (by kernel_rfl)
             have hw_:=HWq.out.below hB_ HWq.out.lt
             have q5:=hw_.cell 5 (v:=.slice Aw Rl.length cw) rfl
             clear hf
             simp only [upd] at hR ⊢
             simp only [e8,e11] at hR ⊢
             go_wp2_with fail
             exact hR _ _ rfl (Below.refl _ _)
            ·intro x_ w1_ R_ hB_ hf hR
             have e8:x_ 91 = .bool true:=hf 8 (by kernel_rfl)
             have e12:x_ 95 = .slice Aw Rl.length cw:=hf 12 (by kernel_rfl)
             clear hf
             simp only [upd] at hR ⊢
             simp only [e8,e12] at hR ⊢
             go_wp2_with fail
             exact hR _ _ rfl (Below.refl _ _)
            ·intro x_ w1_ R_ hB_ hf hR
             have e8:x_ 91 = .bool true:=hf 8 (by kernel_rfl)
             have e13:x_ 96 = .int .i64 (Rl.length:Nat):=hf 13 (by kernel_rfl)
             clear hf
             simp only [upd] at hR ⊢
             simp only [e8,e13] at hR ⊢
             go_wp2_with fail
             first
              | exact hR _ _ (show Value.bool false = .bool bn by rw [HBNF.out HRL.out]) (Below.refl _ _)
              | exact hR _ _ rfl (Below.refl _ _)
              | exact hR _ _ (show Value.bool (decide ((0:Int) < (Rl.length:Int))) = .bool bn by rw [hbn2]) (Below.refl _ _)
              | exact hR _ _ (show Value.bool (decide (0 < Rl.length)) = .bool bn by rw [hbn]) (Below.refl _ _)
            ·intro x_ w1_ R_ hB_ hf hR
             have e8:x_ 91 = .bool true:=hf 8 (by kernel_rfl)
             have e10:x_ 93 = .bool bn:=hf 10 (by kernel_rfl)
             have e14:x_ 97 = .bool bn:=hf 14 (by kernel_rfl)
             clear hf
             simp only [upd] at hR ⊢
             simp only [e8,e10,e14] at hR ⊢
             go_wp2_with fail
             first
              | exact hR _ _ rfl (Below.refl _ _)
              | (cases bn <;> exact hR _ _ rfl (Below.refl _ _))
            ·intro x_ w1_ R_ hB_ hf hR
             have e8:x_ 91 = .bool true:=hf 8 (by kernel_rfl)
             have e15:x_ 98 = .bool true:=hf 15 (by kernel_rfl)
             clear hf
             simp only [upd] at hR ⊢
             simp only [e8,e15] at hR ⊢
             go_wp2_with fail
             exact hR _ _ rfl (Below.refl _ _)
            ·intro x_ w1_ R_ hB_ hf hR
             have e16:x_ 99 = .bool true:=hf 16 (by kernel_rfl)
             clear hf
             simp only [upd] at hR ⊢
             simp only [e16] at hR ⊢
             go_wp2_with fail
             exact hR _ _ rfl (Below.refl _ _)
            ·intro x_ w1_ R_ hB_ hf hR
             have e17:x_ 100 = .bool true:=hf 17 (by kernel_rfl)
             have hf_:=HFq.out.below hB_ HFq.out.lt
             have q0:=hf_.cell 0 (v:=.int .i64 sc) rfl
             have q1:=hf_.cell 1 (v:=.int .i64 ofs) rfl
             have q2:=hf_.cell 2 (v:=.int .i64 sv) rfl
             have q3:=hf_.cell 3 (v:=.string ltr) rfl
             have q4:=hf_.cell 4 (v:=.string fm) rfl
             have q5:=hf_.cell 5 (v:=.slice Au Rl.length cu) rfl
             clear hf
             simp only [upd] at hR ⊢
             simp only [e17] at hR ⊢
             go_wp2_with fail
             exact hR _ _ rfl (Below.refl _ _)
            ·intro x_ w1_ R_ hB_ hf hR
             have e17:x_ 100 = .bool true:=hf 17 (by kernel_rfl)
             have hf_:=HFq.out.below hB_ HFq.out.lt
             have q0:=hf_.cell 0 (v:=.int .i64 sc) rfl
             have q1:=hf_.cell 1 (v:=.int .i64 ofs) rfl
             have q2:=hf_.cell 2 (v:=.int .i64 sv) rfl
             have q3:=hf_.cell 3 (v:=.string ltr) rfl
             have q4:=hf_.cell 4 (v:=.string fm) rfl
             have q5:=hf_.cell 5 (v:=.slice Au Rl.length cu) rfl
             clear hf
             simp only [upd] at hR ⊢
             simp only [e17] at hR ⊢
             go_wp2_with fail
             exact hR _ _ rfl (Below.refl _ _)
            ·intro x_ w1_ R_ hB_ hf hR
             have e17:x_ 100 = .bool true:=hf 17 (by kernel_rfl)
             have e18:x_ 101 = .agg #[.int .i64 sc,.int .i64 ofs,.int .i64 sv,.string ltr,.string fm,.slice Au Rl.length cu]:=hf 18 (by kernel_rfl)
             have e19:x_ 102 = .agg #[.int .i64 sc,.int .i64 ofs,.int .i64 sv,.string ltr,.string fm,.slice Au Rl.length cu]:=hf 19 (by kernel_rfl)
             clear hf
             simp only [upd] at hR ⊢
             simp only [e17,e18,e19] at hR ⊢
             go_wp2_with fail
             refine (HSMA.out w1_ hB_).mono ?_
             rintro o_ w2_ ⟨rfl,hb⟩
             go_wp2_with fail
             exact hR _ _ rfl hb
            ·intro x_ w1_ R_ hB_ hf hR
             have e17:x_ 100 = .bool true:=hf 17 (by kernel_rfl)
             have e20:x_ 103 = .bool true:=hf 20 (by kernel_rfl)
             clear hf
             simp only [upd] at hR ⊢
             simp only [e17,e20] at hR ⊢
             go_wp2_with fail
             exact hR _ _ rfl (Below.refl _ _)
            ·intro x_ w1_ R_ hB_ hf hR
             have e21:x_ 104 = .bool true:=hf 21 (by kernel_rfl)
             clear hf
             simp only [upd] at hR ⊢
             simp only [e21] at hR ⊢
             go_wp2_with fail
             exact hR _ _ rfl (Below.refl _ _)
            ·intro x_ w1_ R_ hB_ hf hR
             have e22:x_ 105 = .bool true:=hf 22 (by kernel_rfl)
             clear hf
             simp only [upd] at hR ⊢
             simp only [e22] at hR ⊢
             go_wp2_with fail
             refine (HAWA.out w1_ hB_).mono ?_
             rintro o_ w2_ ⟨rfl,hb⟩
             go_wp2_with fail
             exact hR _ _ rfl hb
            ·intro x_ w1_ R_ hB_ hf hR
             have e22:x_ 105 = .bool true:=hf 22 (by kernel_rfl)
             have e23:x_ 106 = .bool true:=hf 23 (by kernel_rfl)
             clear hf
             simp only [upd] at hR ⊢
             simp only [e22,e23] at hR ⊢
             go_wp2_with fail
             exact hR _ _ rfl (Below.refl _ _)
            ·intro x_ w1_ R_ hB_ hf hR
             have e24:x_ 107 = .bool true:=hf 24 (by kernel_rfl)
             clear hf
             simp only [upd] at hR ⊢
             simp only [e24] at hR ⊢
             go_wp2_with fail
             exact hR _ _ rfl (Below.refl _ _)
          ·intro x14 w14 hb14 hF_
           have e25:x14 2 = .bool true:=hF_ 25 (by omega)
           simp only [List.drop_succ_cons,List.drop_zero]
           simp only [e25]
           have HBR:=Lib.hid (HB0.out.trans ((HBq.out.mono HB0.out.size).trans (hb14.mono (Nat.le_trans HB0.out.size HBq.out.size))))
           clear hb14 hF_ e25
           go_wp2_with fail
           go_ret
           exact ⟨rfl,HBR.out⟩
       ·obtain ⟨m,hm⟩:∃ m,(endL S l).length = m + 1:=⟨(endL S l).length - 1,by omega⟩
        have hml:m < (endL S l).length:=by omega
        obtain ⟨b4,o4,c4_,e,hb4,hcv⟩:=Nums.cells HNE.out hn0
        cases e
        obtain ⟨ee,hee⟩:∃ e,(endL S l)[m] = e:=⟨_,rfl⟩
        have h4:=hcv m hml
        rw [hee] at h4
        have hei:=HFZ.out.ends _ (List.getElem_mem hml)
        rw [hee] at hei
        have HBV0:=Lib.hid (show begV (endL S l) = max (-2199023255552) ee by rw [begV_last hm hml,hee];omega)
        obtain ⟨_,_,hec_,hcv1,hcv2⟩:=HNE.out.form
        have hcve:m + 1 ≤ 2 ^ 63 - 1:=by unfold maxLen at hcv2;omega
        have d0:decide ((0:Int) < ((m + 1:Nat):Int)) = true:=decide_eq_true (by omega)
        rw [hm]
        clear hcv hec_ hcv1 hcv2 hee
        go_wp2_with fail
        obtain ⟨b,hb9⟩:∃ b,max (-2199023255552) ee = b:=⟨_,rfl⟩
        rw [hb9] at HBV0 ⊢
        have HBV:=HBV0
        clear hb9 x0 x1 x2 hxl k0 k1 k2 k3 k4 k5 k6 k7 k8 k9 k10 k11 h4
        obtain ⟨w6,hw6⟩:∃ W,w5.alloc (.cells #[.int .i64 x.n.off,.string x.ru,.int .i64 x.n.save,.string x.fm,.bool x.en,.int .i64 x.n.year,.int .i64 x.n.month,.int .i64 x.n.dk,.int .i64 x.n.dw,.int .i64 x.n.dn,.int .i64 x.n.sec,.int .i64 x.n.ak] 42) = W:=⟨_,rfl⟩
        rw [hw6] at HF6 HE6 HO6 HB6 ⊢
        clear hw6
        have hs6:=HB6.out.size
        have hf6l:=HF6.out.lt
        have he6l:=HE6.out.lt
        have HX6:=Lib.hid (HXX.out.below HB6.out HXX.out.lt)
        have HRB:=Lib.hid (set_right (fewB_iff.1 HFEW.out).2.1 x.ru)
        obtain ⟨Af,hAf,hst,-⟩:=right_yes HRB.out
        have HRF:=Lib.hid (show refOf x b (ofRul S x.ru) Af = ⟨sc,ofs,sv,ltr,fm,Rl⟩ by
         rw [← footOf_ref hAf HOFF.out (ended_rules HEND.out x.ru),← HFF.out,HFT.out,HBV.out])
        obtain ⟨A3,c3v,e3⟩:=ofVal_form (HZ0.out.below HB6.out).sets x.ru
        have HWO:=Lib.hid (fun (W:World) (h:Below w6.heap.size w6 W)=>wof_any W zn (.slice (some ⟨bb,o,none⟩) (nL + 1) cA) (.slice A2 S.length cS) w.heap.size S ((HZ0.out.below (HB6.out.trans (h.mono HB6.out.size))).sets) ((HZ0.out.below (HB6.out.trans (h.mono HB6.out.size))).le) x.ru)
        have HRO:=Lib.hid (fun (W:World) (h:Below w6.heap.size w6 W)=>rfof_any W w.heap.size (ofVal S x.ru) x b (ofRul S x.ru) Af ((HZ0.out.below (HB6.out.trans (h.mono HB6.out.size))).sets.of_ruls x.ru) ((HZ0.out.below (HB6.out.trans (h.mono HB6.out.size))).le) (fun _=>⟨HRB.out,hAf,hst⟩) (ofRul_fr (fr_few HFEW.out) x.ru) (ended_rules HEND.out x.ru) (ofRul_ok (few_okR HFEW.out) x.ru).len (ofRul_ok (few_okR HFEW.out) x.ru).mon (fun _=>(ofRul_ok (few_okR HFEW.out) x.ru).mon) HOFF.out)
        rw [HRF.out] at HRO
        rw [e3] at HWO HRO
        unfold worldA at HWO
        unfold footA eraA at HRO
        simp only at HRO
        clear hAf hst e3
        refine wp_invL (fin:=?fnR2) (by kernel_rfl) [72,73,74,75,76,77,78,10,999]
         [.is (.agg #[.int .i64 x.n.off,.string x.ru,.int .i64 x.n.save,.string x.fm,.bool x.en,.int .i64 x.n.year,.int .i64 x.n.month,.int .i64 x.n.dk,.int .i64 x.n.dw,.int .i64 x.n.dn,.int .i64 x.n.sec,.int .i64 x.n.ak]),.is (.int .i64 b),.is (.agg #[.string zn,.slice (some ⟨bb,o,none⟩) (nL + 1) cA,.slice A2 S.length cS]),.is (.pointer (some ⟨w5.heap.size,1,none⟩)),.is (.string x.ru),.is (.slice A3 (ofRul S x.ru).length c3v),⟨fun v W=>∃ u,v = .agg #[.int .i64 sc,.int .i64 ofs,.int .i64 sv,.string ltr,.string fm,u]∧W.ownsRow w6.heap.size 106 11 u Rl.length (rulsV Rl),fun v W W' h hb=>by obtain ⟨u,e,ho⟩:=h;exact ⟨u,e,ownsRow_below ho hb⟩⟩,⟨fun v W=>∃ bk,v = .pointer (some ⟨bk,0,none⟩)∧w6.heap.size ≤ bk∧Blk W bk 64 #[.int .i64 0,.int .i64 0,.int .i64 0,.string ⟨#[]⟩,.string ⟨#[]⟩,.slice none 0 0],fun v W W' h hb=>by obtain ⟨bk,e,h1,h2⟩:=h;exact ⟨bk,e,h1,h2.below hb h2.lt⟩⟩] 8 (by simp) (by kernel_rfl) (by kernel_rfl) ?finR2 ?_ ?_
        case finR2 =>
         intro x_
         simp only [frameOf,List.foldl_cons,List.foldl_nil,Act.put,List.setIfInBounds_toArray,List.set_cons_succ,List.set_cons_zero,List.set_nil]
         rfl
        ·as_aux_lemma =>
          simp only [List.take_succ_cons,List.take_zero]
          refine ⟨?_,?_,?_,?_,?_,?_,?_,?_,trivial⟩
          ·intro x_ w1_ R_ hB_ hf hR
           have hq_:=HE6.out.below hB_ HE6.out.lt
           have q0:=hq_.cell 0 (v:=.int .i64 x.n.off) rfl
           have q1:=hq_.cell 1 (v:=.string x.ru) rfl
           have q2:=hq_.cell 2 (v:=.int .i64 x.n.save) rfl
           have q3:=hq_.cell 3 (v:=.string x.fm) rfl
           have q4:=hq_.cell 4 (v:=.bool x.en) rfl
           have q5:=hq_.cell 5 (v:=.int .i64 x.n.year) rfl
           have q6:=hq_.cell 6 (v:=.int .i64 x.n.month) rfl
           have q7:=hq_.cell 7 (v:=.int .i64 x.n.dk) rfl
           have q8:=hq_.cell 8 (v:=.int .i64 x.n.dw) rfl
           have q9:=hq_.cell 9 (v:=.int .i64 x.n.dn) rfl
           have q10:=hq_.cell 10 (v:=.int .i64 x.n.sec) rfl
           have q11:=hq_.cell 11 (v:=.int .i64 x.n.ak) rfl
           clear hf hq_
           simp only [upd] at hR ⊢
           go_wp2_with fail
           exact hR _ _ rfl (Below.refl _ _)
          ·intro x_ w1_ R_ hB_ hf hR
           clear hf
           simp only [upd] at hR ⊢
           go_wp2_with fail
           exact hR _ _ rfl (Below.refl _ _)
          ·intro x_ w1_ R_ hB_ hf hR
           have hq_:=HX6.out.below hB_ HX6.out.lt
           have q0:=hq_.cell 0 (v:=.string zn) rfl
           have q1:=hq_.cell 1 (v:=.slice (some ⟨bb,o,none⟩) (nL + 1) cA) rfl
           have q2:=hq_.cell 2 (v:=.slice A2 S.length cS) rfl
           clear hf hq_
           simp only [upd] at hR ⊢
           go_wp2_with fail
           exact hR _ _ rfl (Below.refl _ _)
          ·intro x_ w1_ R_ hB_ hf hR
           clear hf
           simp only [upd] at hR ⊢
           go_wp2_with fail
           exact hR _ _ rfl (Below.refl _ _)
          ·intro x_ w1_ R_ hB_ hf hR
           have e3:x_ 75 = .pointer (some ⟨w5.heap.size,1,none⟩):=hf 3 (by kernel_rfl)
           have q1:=(HE6.out.below hB_ HE6.out.lt).cell 1 (v:=.string x.ru) rfl
           clear hf
           simp only [upd] at hR ⊢
           simp only [e3] at hR ⊢
           go_wp2_with fail
           exact hR _ _ rfl (Below.refl _ _)
          ·intro x_ w1_ R_ hB_ hf hR
           have e2:x_ 74 = .agg #[.string zn,.slice (some ⟨bb,o,none⟩) (nL + 1) cA,.slice A2 S.length cS]:=hf 2 (by kernel_rfl)
           have e4:x_ 76 = .string x.ru:=hf 4 (by kernel_rfl)
           clear hf
           simp only [upd] at hR ⊢
           simp only [e2,e4] at hR ⊢
           go_wp2_with fail
           refine (HWO.out w1_ hB_).mono ?_
           rintro o_ w2_ ⟨rfl,hb⟩
           go_wp2_with fail
           exact hR _ _ rfl hb
          ·intro x_ w1_ R_ hB_ hf hR
           have e0:x_ 72 = .agg #[.int .i64 x.n.off,.string x.ru,.int .i64 x.n.save,.string x.fm,.bool x.en,.int .i64 x.n.year,.int .i64 x.n.month,.int .i64 x.n.dk,.int .i64 x.n.dw,.int .i64 x.n.dn,.int .i64 x.n.sec,.int .i64 x.n.ak]:=hf 0 (by kernel_rfl)
           have e1:x_ 73 = .int .i64 b:=hf 1 (by kernel_rfl)
           have e5:x_ 77 = .slice A3 (ofRul S x.ru).length c3v:=hf 5 (by kernel_rfl)
           have hBs:=hB_.size
           clear hf
           simp only [upd] at hR ⊢
           simp only [e0,e1,e5] at hR ⊢
           go_wp2_with fail
           refine (HRO.out w1_ hB_).mono ?_
           rintro o_ w2_ ⟨u,rfl,how,hb⟩
           go_wp2_with fail
           exact hR _ _ ⟨u,rfl,own_wide how hBs⟩ hb
          ·intro x_ w1_ R_ hB_ hf hR
           have hBs:=hB_.size
           clear hf
           simp only [upd] at hR ⊢
           go_wp2_with fail
           exact hR _ _ ⟨w1_.heap.size,rfl,hBs,Blk.new w1_ _ _⟩ ((Below.refl _ _).alloc (Nat.le_refl _) _)
        ·intro x11 w11 hb11 hF_
         have e0:x11 72 = .agg #[.int .i64 x.n.off,.string x.ru,.int .i64 x.n.save,.string x.fm,.bool x.en,.int .i64 x.n.year,.int .i64 x.n.month,.int .i64 x.n.dk,.int .i64 x.n.dw,.int .i64 x.n.dn,.int .i64 x.n.sec,.int .i64 x.n.ak]:=hF_ 0 (by omega)
         have e1:x11 73 = .int .i64 b:=hF_ 1 (by omega)
         have e2:x11 74 = .agg #[.string zn,.slice (some ⟨bb,o,none⟩) (nL + 1) cA,.slice A2 S.length cS]:=hF_ 2 (by omega)
         have e3:x11 75 = .pointer (some ⟨w5.heap.size,1,none⟩):=hF_ 3 (by omega)
         have e4:x11 76 = .string x.ru:=hF_ 4 (by omega)
         have e5:x11 77 = .slice A3 (ofRul S x.ru).length c3v:=hF_ 5 (by omega)
         obtain ⟨u2,e6,how2⟩:∃ u,x11 78 = .agg #[.int .i64 sc,.int .i64 ofs,.int .i64 sv,.string ltr,.string fm,u]∧w11.ownsRow w6.heap.size 106 11 u Rl.length (rulsV Rl):=hF_ 6 (by omega)
         obtain ⟨bk,e7,hbk,hbw⟩:∃ bk,x11 10 = .pointer (some ⟨bk,0,none⟩)∧w6.heap.size ≤ bk∧Blk w11 bk 64 #[.int .i64 0,.int .i64 0,.int .i64 0,.string ⟨#[]⟩,.string ⟨#[]⟩,.slice none 0 0]:=hF_ 7 (by omega)
         obtain ⟨Aw,cw,rfl⟩:=(Sl.of_own how2).form
         simp only [List.drop_succ_cons,List.drop_zero]
         simp only [e0,e1,e2,e3,e4,e5,e6,e7]
         clear hF_ e0 e1 e2 e3 e4 e5 e6 e7 HWO HRO
         have HB11:=Lib.hid (HB6.out.trans (hb11.mono HB6.out.size))
         have HF11:=Lib.hid (HF6.out.below hb11 HF6.out.lt)
         have HE11:=Lib.hid (HE6.out.below hb11 HE6.out.lt)
         have HO11:=Lib.hid (ownsRow_below HO6.out hb11)
         have HP11:=Lib.hid how2
         have HW11:=Lib.hid hbw
         have rz0:=hbw.frozen 0
         have rz1:=hbw.frozen 1
         have rz2:=hbw.frozen 2
         have rz3:=hbw.frozen 3
         have rz4:=hbw.frozen 4
         have rz5:=hbw.frozen 5
         have rc0:=hbw.cell 0 (v:=.int .i64 0) rfl
         have rc1:=hbw.cell 1 (v:=.int .i64 0) rfl
         have rc2:=hbw.cell 2 (v:=.int .i64 0) rfl
         have rc3:=hbw.cell 3 (v:=.string ⟨#[]⟩) rfl
         have rc4:=hbw.cell 4 (v:=.string ⟨#[]⟩) rfl
         have rc5:=hbw.cell 5 (v:=.slice none 0 0) rfl
         have rl:=hbw.lt
         have hbs:=hb11.size
         clear hb11 how2 hbw
         refine wpList_stop ?gT2 ((((((w11.setCell ⟨bk,0,none⟩ (.int .i64 sc)).setCell ⟨bk,1,none⟩ (.int .i64 ofs)).setCell ⟨bk,2,none⟩ (.int .i64 sv)).setCell ⟨bk,3,none⟩ (.string ltr)).setCell ⟨bk,4,none⟩ (.string fm)).setCell ⟨bk,5,none⟩ (.slice Aw Rl.length cw)) ?aT2 ?bT2
         case aT2 =>
          intro Q_ hQ_
          go_wp2_with fail
          exact hQ_
         clear rz0 rz1 rz2 rz3 rz4 rz5 rc0 rc1 rc2 rc3 rc4 rc5
         have hfr:=fr_set6 (T:=fun k=>k = bk) w11 rfl (.int .i64 sc) (.int .i64 ofs) (.int .i64 sv) (.string ltr) (.string fm) (.slice Aw Rl.length cw)
         have hW12:=(((((HW11.out.set 0 (.int .i64 sc)).set 1 (.int .i64 ofs)).set 2 (.int .i64 sv)).set 3 (.string ltr)).set 4 (.string fm)).set 5 (.slice Aw Rl.length cw)
         obtain ⟨w12,hw12⟩:∃ W,((((((w11.setCell ⟨bk,0,none⟩ (.int .i64 sc)).setCell ⟨bk,1,none⟩ (.int .i64 ofs)).setCell ⟨bk,2,none⟩ (.int .i64 sv)).setCell ⟨bk,3,none⟩ (.string ltr)).setCell ⟨bk,4,none⟩ (.string fm)).setCell ⟨bk,5,none⟩ (.slice Aw Rl.length cw)) = W:=⟨_,rfl⟩
         rw [hw12] at hfr hW12 ⊢
         clear hw12
         have HF12:=Lib.hid (HF11.out.fr hfr (by omega))
         have HE12:=Lib.hid (HE11.out.fr hfr (by omega))
         have HO12:=Lib.hid (hfr.own HO11.out (fun g hg e=>own_ne HW11.out HO11.out (by decide) (by rw [hg,e])))
         have HP12:=Lib.hid (hfr.own HP11.out (fun g hg e=>own_ne HW11.out HP11.out (by decide) (by rw [hg,e])))
         have HB12:=Lib.hid (HB11.out.trans (hfr.below HB11.out.size (fun k hk=>by omega)))
         have HW12:=Lib.hid hW12
         have ec1:=HE12.out.cell 1 (v:=.string x.ru) rfl
         have ecl:=HE12.out.lt
         have wcl:=hW12.lt
         have wz5:=hW12.frozen 5
         have wc5:=hW12.cell 5 (v:=.slice Aw Rl.length cw) rfl
         clear hfr hW12 HF11 HE11 HO11 HP11 HB11 HW11
         by_cases hru:x.ru.size = 0
         ·have hem:(x.ru.toList == []) = true:=by rw [emp_size,decide_eq_true hru]
          have HRL:=Lib.hid (refOf_none hru HRF.out)
          go_wp2_with fail
          have hfr:Fr (fun k=>k = bk) w12 (w12.setCell ⟨bk,5,none⟩ (.slice none 0 0)):=Fr.setCell w12 5 _ rfl
          have hW13:=HW12.out.set 5 (.slice none 0 0)
          obtain ⟨wq,hwq⟩:∃ W,w12.setCell ⟨bk,5,none⟩ (.slice none 0 0) = W:=⟨_,rfl⟩
          rw [hwq] at hfr hW13 ⊢
          clear hwq
          have HFq:=Lib.hid (HF12.out.fr hfr (by omega))
          have HOq:=Lib.hid (hfr.own HO12.out (fun g hg e=>own_ne HW12.out HO12.out (by decide) (by rw [hg,e])))
          have HBq:=Lib.hid (HB12.out.trans (hfr.below HB12.out.size (fun k hk=>by omega)))
          have HWq:=Lib.hid hW13
          have HPq:=Lib.hid (show Ruls wq wq.heap.size (.slice none 0 0) Rl by rw [HRL.out];exact Sl.nil _ _ _)
          clear hfr hW13 ec1 ecl wcl wz5 wc5
          have HPLA:=Lib.hid (fun W=>fplain_any W ⟨sc,ofs,sv,ltr,fm,Rl⟩ Au Rl.length cu)
          have HALA:=Lib.hid (fun (W:World) (h:Below wq.heap.size wq W)=>falike_any W W.heap.size (.slice Au Rl.length cu) (.slice none 0 0) ⟨sc,ofs,sv,ltr,fm,Rl⟩ (Sl.of_own (ownsRow_below HOq.out h)) (Sl.more (Sl.below HPq.out h) h.size) (Nat.le_refl _))
          have HENA:=Lib.hid (fun W=>fendless_any W ⟨sc,ofs,sv,ltr,fm,Rl⟩ Au cu)
          have HSMA:=Lib.hid (fun (W:World) (h:Below wq.heap.size wq W)=>fsame_any W W.heap.size (.slice Au Rl.length cu) (.slice Au Rl.length cu) ⟨sc,ofs,sv,ltr,fm,Rl⟩ ⟨sc,ofs,sv,ltr,fm,Rl⟩ (Sl.of_own (ownsRow_below HOq.out h)) (Sl.of_own (ownsRow_below HOq.out h)) (Nat.le_refl _))
          rw [sameF_iff.2 rfl] at HSMA
          have HAWA:=Lib.hid (fun (W:World) (h:Below wq.heap.size wq W)=>fawake_any W ((HZ0.out.below (HBq.out.trans (h.mono HBq.out.size))).ahead) (Nat.lt_of_lt_of_le ((HZ0.out.below (HBq.out.trans (h.mono HBq.out.size))).tab) ((HZ0.out.below (HBq.out.trans (h.mono HBq.out.size))).le)) ((HZ0.out.below (HBq.out.trans (h.mono HBq.out.size))).maxl))
          unfold footA at HPLA HALA HENA HSMA
          simp only at HPLA HALA HENA HSMA
          obtain ⟨bn,hbn⟩:∃ b,decide (0 < Rl.length) = b:=⟨_,rfl⟩
          have hbn2:decide ((0:Int) < (Rl.length:Int)) = bn:=by rw [← hbn];exact decide_eq_decide.2 (by omega)
          have HBNF:=Lib.hid (show Rl = []→bn = false from fun h=>by rw [← hbn,h];rfl)
          rw [hbn] at HENA
          refine wp_invL (fin:=?fnP2) (by kernel_rfl) [83,84,85,86,87,88,89,90,91,92,93,94,95,96,97,98,99,100,101,102,103,104,105,106,107,2]
           [.is (.int .i64 0),.is (.bool true),.is (.bool true),.is (.agg #[.int .i64 sc,.int .i64 ofs,.int .i64 sv,.string ltr,.string fm,.slice Au Rl.length cu]),.is (.agg #[.int .i64 sc,.int .i64 ofs,.int .i64 sv,.string ltr,.string fm,.slice Au Rl.length cu]),.is (.agg #[.int .i64 sc,.int .i64 ofs,.int .i64 sv,.string ltr,.string fm,.slice none 0 0]),.is (.bool true),.is (.bool true),.is (.bool true),.is (.agg #[.int .i64 sc,.int .i64 ofs,.int .i64 sv,.string ltr,.string fm,.slice Au Rl.length cu]),.is (.bool bn),.is (.pointer (some ⟨bk,5,none⟩)),.is (.slice none 0 0),.is (.int .i64 0),.is (.bool bn),.is (.bool true),.is (.bool true),.is (.bool true),.is (.agg #[.int .i64 sc,.int .i64 ofs,.int .i64 sv,.string ltr,.string fm,.slice Au Rl.length cu]),.is (.agg #[.int .i64 sc,.int .i64 ofs,.int .i64 sv,.string ltr,.string fm,.slice Au Rl.length cu]),.is (.bool true),.is (.bool true),.is (.bool true),.is (.bool true),.is (.bool true),.is (.bool true)] 26 (by simp) (by kernel_rfl) (by kernel_rfl) ?finP2 ?_ ?_
          case finP2 =>
           intro x_
           simp only [frameOf,List.foldl_cons,List.foldl_nil,Act.put,List.setIfInBounds_toArray,List.set_cons_succ,List.set_cons_zero]
           rfl
          ·as_aux_lemma =>
            simp only [List.take_succ_cons,List.take_zero]
            refine ⟨?_,?_,?_,?_,?_,?_,?_,?_,?_,?_,?_,?_,?_,?_,?_,?_,?_,?_,?_,?_,?_,?_,?_,?_,?_,?_,trivial⟩
            ·intro x_ w1_ R_ hB_ hf hR
             clear hf
             simp only [upd] at hR ⊢
             go_wp2_with fail
             exact hR _ _ rfl (Below.refl _ _)
            ·intro x_ w1_ R_ hB_ hf hR
             have e0:x_ 83 = .int .i64 0:=hf 0 (by kernel_rfl)
             clear hf
             simp only [upd] at hR ⊢
             simp only [e0] at hR ⊢
             go_wp2_with fail
             exact hR _ _ rfl (Below.refl _ _)
            ·intro x_ w1_ R_ hB_ hf hR
             have e1:x_ 84 = .bool true:=hf 1 (by kernel_rfl)
             clear hf
             simp only [upd] at hR ⊢
             simp only [e1] at hR ⊢
             go_wp2_with fail
             exact hR _ _ rfl (Below.refl _ _)
            ·intro x_ w1_ R_ hB_ hf hR
             have e2:x_ 85 = .bool true:=hf 2 (by kernel_rfl)
             have hf_:=HFq.out.below hB_ HFq.out.lt
             have q0:=hf_.cell 0 (v:=.int .i64 sc) rfl
             have q1:=hf_.cell 1 (v:=.int .i64 ofs) rfl
             have q2:=hf_.cell 2 (v:=.int .i64 sv) rfl
             have q3:=hf_.cell 3 (v:=.string ltr) rfl
             have q4:=hf_.cell 4 (v:=.string fm) rfl
             have q5:=hf_.cell 5 (v:=.slice Au Rl.length cu) rfl
             clear hf
             simp only [upd] at hR ⊢
             simp only [e2] at hR ⊢
             go_wp2_with fail
             exact hR _ _ rfl (Below.refl _ _)
            ·intro x_ w1_ R_ hB_ hf hR
             have e2:x_ 85 = .bool true:=hf 2 (by kernel_rfl)
             have e3:x_ 86 = .agg #[.int .i64 sc,.int .i64 ofs,.int .i64 sv,.string ltr,.string fm,.slice Au Rl.length cu]:=hf 3 (by kernel_rfl)
             clear hf
             simp only [upd] at hR ⊢
             simp only [e2,e3] at hR ⊢
             go_wp2_with fail
             refine (HPLA.out w1_).mono ?_
             rintro o_ w2_ ⟨rfl,hb⟩
             go_wp2_with fail
             exact hR _ _ rfl hb
            ·intro x_ w1_ R_ hB_ hf hR
             have e2:x_ 85 = .bool true:=hf 2 (by kernel_rfl)
             have hw_:=HWq.out.below hB_ HWq.out.lt
             have q0:=hw_.cell 0 (v:=.int .i64 sc) rfl
             have q1:=hw_.cell 1 (v:=.int .i64 ofs) rfl
             have q2:=hw_.cell 2 (v:=.int .i64 sv) rfl
             have q3:=hw_.cell 3 (v:=.string ltr) rfl
             have q4:=hw_.cell 4 (v:=.string fm) rfl
             have q5:=hw_.cell 5 (v:=.slice none 0 0) rfl
             clear hf
             simp only [upd] at hR ⊢
             simp only [e2] at hR ⊢
             go_wp2_with fail
             exact hR _ _ rfl (Below.refl _ _)
            ·intro x_ w1_ R_ hB_ hf hR
             have e2:x_ 85 = .bool true:=hf 2 (by kernel_rfl)
             have e4:x_ 87 = .agg #[.int .i64 sc,.int .i64 ofs,.int .i64 sv,.string ltr,.string fm,.slice Au Rl.length cu]:=hf 4 (by kernel_rfl)
             have e5:x_ 88 = .agg #[.int .i64 sc,.int .i64 ofs,.int .i64 sv,.string ltr,.string fm,.slice none 0 0]:=hf 5 (by kernel_rfl)
             clear hf
             simp only [upd] at hR ⊢
             simp only [e2,e4,e5] at hR ⊢
             go_wp2_with fail
             refine (HALA.out w1_ hB_).mono ?_
             rintro o_ w2_ ⟨rfl,hb⟩
             go_wp2_with fail
             exact hR _ _ rfl hb
            ·intro x_ w1_ R_ hB_ hf hR
             have e2:x_ 85 = .bool true:=hf 2 (by kernel_rfl)
             have e6:x_ 89 = .bool true:=hf 6 (by kernel_rfl)
             clear hf
             simp only [upd] at hR ⊢
             simp only [e2,e6] at hR ⊢
             go_wp2_with fail
             exact hR _ _ rfl (Below.refl _ _)
            ·intro x_ w1_ R_ hB_ hf hR
             have e7:x_ 90 = .bool true:=hf 7 (by kernel_rfl)
             clear hf
             simp only [upd] at hR ⊢
             simp only [e7] at hR ⊢
             go_wp2_with fail
             exact hR _ _ rfl (Below.refl _ _)
            ·intro x_ w1_ R_ hB_ hf hR
             have e8:x_ 91 = .bool true:=hf 8 (by kernel_rfl)
             have hf_:=HFq.out.below hB_ HFq.out.lt
             have q0:=hf_.cell 0 (v:=.int .i64 sc) rfl
             have q1:=hf_.cell 1 (v:=.int .i64 ofs) rfl
             have q2:=hf_.cell 2 (v:=.int .i64 sv) rfl
             have q3:=hf_.cell 3 (v:=.string ltr) rfl
             have q4:=hf_.cell 4 (v:=.string fm) rfl
             have q5:=hf_.cell 5 (v:=.slice Au Rl.length cu) rfl
             clear hf
             simp only [upd] at hR ⊢
             simp only [e8] at hR ⊢
             go_wp2_with fail
             exact hR _ _ rfl (Below.refl _ _)
            ·intro x_ w1_ R_ hB_ hf hR
             have e8:x_ 91 = .bool true:=hf 8 (by kernel_rfl)
             have e9:x_ 92 = .agg #[.int .i64 sc,.int .i64 ofs,.int .i64 sv,.string ltr,.string fm,.slice Au Rl.length cu]:=hf 9 (by kernel_rfl)
             clear hf
             simp only [upd] at hR ⊢
             simp only [e8,e9] at hR ⊢
             go_wp2_with fail
             refine (HENA.out w1_).mono ?_
             rintro o_ w2_ ⟨rfl,hb⟩
             go_wp2_with fail
             exact hR _ _ rfl hb
            ·intro x_ w1_ R_ hB_ hf hR
             have e8:x_ 91 = .bool true:=hf 8 (by kernel_rfl)
             clear hf
             simp only [upd] at hR ⊢
             simp only [e8] at hR ⊢
             go_wp2_with fail
             exact hR _ _ rfl (Below.refl _ _)
            ·intro x_ w1_ R_ hB_ hf hR
             have e8:x_ 91 = .bool true:=hf 8 (by kernel_rfl)
             have e11:x_ 94 = .pointer (some ⟨bk,5,none⟩):=hf 11 (by kernel_rfl)
             have hw_:=HWq.out.below hB_ HWq.out.lt
             have q5:=hw_.cell 5 (v:=.slice none 0 0) rfl
             clear hf
             simp only [upd] at hR ⊢
             simp only [e8,e11] at hR ⊢
             go_wp2_with fail
             exact hR _ _ rfl (Below.refl _ _)
            ·intro x_ w1_ R_ hB_ hf hR
             have e8:x_ 91 = .bool true:=hf 8 (by kernel_rfl)
             have e12:x_ 95 = .slice none 0 0:=hf 12 (by kernel_rfl)
             clear hf
             simp only [upd] at hR ⊢
             simp only [e8,e12] at hR ⊢
             go_wp2_with fail
             exact hR _ _ rfl (Below.refl _ _)
            ·intro x_ w1_ R_ hB_ hf hR
             have e8:x_ 91 = .bool true:=hf 8 (by kernel_rfl)
             have e13:x_ 96 = .int .i64 0:=hf 13 (by kernel_rfl)
             clear hf
             simp only [upd] at hR ⊢
             simp only [e8,e13] at hR ⊢
             go_wp2_with fail
             first
              | exact hR _ _ (show Value.bool false = .bool bn by rw [HBNF.out HRL.out]) (Below.refl _ _)
              | exact hR _ _ rfl (Below.refl _ _)
              | exact hR _ _ (show Value.bool (decide ((0:Int) < (Rl.length:Int))) = .bool bn by rw [hbn2]) (Below.refl _ _)
              | exact hR _ _ (show Value.bool (decide (0 < Rl.length)) = .bool bn by rw [hbn]) (Below.refl _ _)
            ·intro x_ w1_ R_ hB_ hf hR
             have e8:x_ 91 = .bool true:=hf 8 (by kernel_rfl)
             have e10:x_ 93 = .bool bn:=hf 10 (by kernel_rfl)
             have e14:x_ 97 = .bool bn:=hf 14 (by kernel_rfl)
             clear hf
             simp only [upd] at hR ⊢
             simp only [e8,e10,e14] at hR ⊢
             go_wp2_with fail
             first
              | exact hR _ _ rfl (Below.refl _ _)
              | (cases bn <;> exact hR _ _ rfl (Below.refl _ _))
            ·intro x_ w1_ R_ hB_ hf hR
             have e8:x_ 91 = .bool true:=hf 8 (by kernel_rfl)
             have e15:x_ 98 = .bool true:=hf 15 (by kernel_rfl)
             clear hf
             simp only [upd] at hR ⊢
             simp only [e8,e15] at hR ⊢
             go_wp2_with fail
             exact hR _ _ rfl (Below.refl _ _)
            ·intro x_ w1_ R_ hB_ hf hR
             have e16:x_ 99 = .bool true:=hf 16 (by kernel_rfl)
             clear hf
             simp only [upd] at hR ⊢
             simp only [e16] at hR ⊢
             go_wp2_with fail
             exact hR _ _ rfl (Below.refl _ _)
            ·intro x_ w1_ R_ hB_ hf hR
             have e17:x_ 100 = .bool true:=hf 17 (by kernel_rfl)
             have hf_:=HFq.out.below hB_ HFq.out.lt
             have q0:=hf_.cell 0 (v:=.int .i64 sc) rfl
             have q1:=hf_.cell 1 (v:=.int .i64 ofs) rfl
             have q2:=hf_.cell 2 (v:=.int .i64 sv) rfl
             have q3:=hf_.cell 3 (v:=.string ltr) rfl
             have q4:=hf_.cell 4 (v:=.string fm) rfl
             have q5:=hf_.cell 5 (v:=.slice Au Rl.length cu) rfl
             clear hf
             simp only [upd] at hR ⊢
             simp only [e17] at hR ⊢
             go_wp2_with fail
             exact hR _ _ rfl (Below.refl _ _)
            ·intro x_ w1_ R_ hB_ hf hR
             have e17:x_ 100 = .bool true:=hf 17 (by kernel_rfl)
             have hf_:=HFq.out.below hB_ HFq.out.lt
             have q0:=hf_.cell 0 (v:=.int .i64 sc) rfl
             have q1:=hf_.cell 1 (v:=.int .i64 ofs) rfl
             have q2:=hf_.cell 2 (v:=.int .i64 sv) rfl
             have q3:=hf_.cell 3 (v:=.string ltr) rfl
             have q4:=hf_.cell 4 (v:=.string fm) rfl
             have q5:=hf_.cell 5 (v:=.slice Au Rl.length cu) rfl
             clear hf
             simp only [upd] at hR ⊢
             simp only [e17] at hR ⊢
             go_wp2_with fail
             exact hR _ _ rfl (Below.refl _ _)
            ·intro x_ w1_ R_ hB_ hf hR
             have e17:x_ 100 = .bool true:=hf 17 (by kernel_rfl)
             have e18:x_ 101 = .agg #[.int .i64 sc,.int .i64 ofs,.int .i64 sv,.string ltr,.string fm,.slice Au Rl.length cu]:=hf 18 (by kernel_rfl)
             have e19:x_ 102 = .agg #[.int .i64 sc,.int .i64 ofs,.int .i64 sv,.string ltr,.string fm,.slice Au Rl.length cu]:=hf 19 (by kernel_rfl)
             clear hf
             simp only [upd] at hR ⊢
             simp only [e17,e18,e19] at hR ⊢
             go_wp2_with fail
             refine (HSMA.out w1_ hB_).mono ?_
             rintro o_ w2_ ⟨rfl,hb⟩
             go_wp2_with fail
             exact hR _ _ rfl hb
            ·intro x_ w1_ R_ hB_ hf hR
             have e17:x_ 100 = .bool true:=hf 17 (by kernel_rfl)
             have e20:x_ 103 = .bool true:=hf 20 (by kernel_rfl)
             clear hf
             simp only [upd] at hR ⊢
             simp only [e17,e20] at hR ⊢
             go_wp2_with fail
             exact hR _ _ rfl (Below.refl _ _)
            ·intro x_ w1_ R_ hB_ hf hR
             have e21:x_ 104 = .bool true:=hf 21 (by kernel_rfl)
             clear hf
             simp only [upd] at hR ⊢
             simp only [e21] at hR ⊢
             go_wp2_with fail
             exact hR _ _ rfl (Below.refl _ _)
            ·intro x_ w1_ R_ hB_ hf hR
             have e22:x_ 105 = .bool true:=hf 22 (by kernel_rfl)
             clear hf
             simp only [upd] at hR ⊢
             simp only [e22] at hR ⊢
             go_wp2_with fail
             refine (HAWA.out w1_ hB_).mono ?_
             rintro o_ w2_ ⟨rfl,hb⟩
             go_wp2_with fail
             exact hR _ _ rfl hb
            ·intro x_ w1_ R_ hB_ hf hR
             have e22:x_ 105 = .bool true:=hf 22 (by kernel_rfl)
             have e23:x_ 106 = .bool true:=hf 23 (by kernel_rfl)
             clear hf
             simp only [upd] at hR ⊢
             simp only [e22,e23] at hR ⊢
             go_wp2_with fail
             exact hR _ _ rfl (Below.refl _ _)
            ·intro x_ w1_ R_ hB_ hf hR
             have e24:x_ 107 = .bool true:=hf 24 (by kernel_rfl)
             clear hf
             simp only [upd] at hR ⊢
             simp only [e24] at hR ⊢
             go_wp2_with fail
             exact hR _ _ rfl (Below.refl _ _)
          ·intro x14 w14 hb14 hF_
           have e25:x14 2 = .bool true:=hF_ 25 (by omega)
           simp only [List.drop_succ_cons,List.drop_zero]
           simp only [e25]
           have HBR:=Lib.hid (HB0.out.trans ((HBq.out.mono HB0.out.size).trans (hb14.mono (Nat.le_trans HB0.out.size HBq.out.size))))
           clear hb14 hF_ e25
           go_wp2_with fail
           go_ret
           exact ⟨rfl,HBR.out⟩
         ·have hem:(x.ru.toList == []) = false:=by rw [emp_size,decide_eq_false hru]
          have HFq:=HF12
          have HOq:=HO12
          have HBq:=HB12
          have HWq:=HW12
          have HPq:=Lib.hid (show Ruls w12 w12.heap.size (.slice Aw Rl.length cw) Rl from Sl.of_own HP12.out)
          obtain ⟨wq,hwq⟩:∃ W,w12 = W:=⟨_,rfl⟩
          rw [hwq] at HFq HOq HBq HWq HPq ec1 ecl ⊢
          clear hwq
          go_wp2_with fail
          have HPLA:=Lib.hid (fun W=>fplain_any W ⟨sc,ofs,sv,ltr,fm,Rl⟩ Au Rl.length cu)
          have HALA:=Lib.hid (fun (W:World) (h:Below wq.heap.size wq W)=>falike_any W W.heap.size (.slice Au Rl.length cu) (.slice Aw Rl.length cw) ⟨sc,ofs,sv,ltr,fm,Rl⟩ (Sl.of_own (ownsRow_below HOq.out h)) (Sl.more (Sl.below HPq.out h) h.size) (Nat.le_refl _))
          have HENA:=Lib.hid (fun W=>fendless_any W ⟨sc,ofs,sv,ltr,fm,Rl⟩ Au cu)
          have HSMA:=Lib.hid (fun (W:World) (h:Below wq.heap.size wq W)=>fsame_any W W.heap.size (.slice Au Rl.length cu) (.slice Au Rl.length cu) ⟨sc,ofs,sv,ltr,fm,Rl⟩ ⟨sc,ofs,sv,ltr,fm,Rl⟩ (Sl.of_own (ownsRow_below HOq.out h)) (Sl.of_own (ownsRow_below HOq.out h)) (Nat.le_refl _))
          rw [sameF_iff.2 rfl] at HSMA
          have HAWA:=Lib.hid (fun (W:World) (h:Below wq.heap.size wq W)=>fawake_any W ((HZ0.out.below (HBq.out.trans (h.mono HBq.out.size))).ahead) (Nat.lt_of_lt_of_le ((HZ0.out.below (HBq.out.trans (h.mono HBq.out.size))).tab) ((HZ0.out.below (HBq.out.trans (h.mono HBq.out.size))).le)) ((HZ0.out.below (HBq.out.trans (h.mono HBq.out.size))).maxl))
          unfold footA at HPLA HALA HENA HSMA
          simp only at HPLA HALA HENA HSMA
          obtain ⟨bn,hbn⟩:∃ b,decide (0 < Rl.length) = b:=⟨_,rfl⟩
          have hbn2:decide ((0:Int) < (Rl.length:Int)) = bn:=by rw [← hbn];exact decide_eq_decide.2 (by omega)
          have HBNF:=Lib.hid (show Rl = []→bn = false from fun h=>by rw [← hbn,h];rfl)
          rw [hbn] at HENA
          refine wp_invL (fin:=?fnQ2) (by kernel_rfl) [83,84,85,86,87,88,89,90,91,92,93,94,95,96,97,98,99,100,101,102,103,104,105,106,107,2]
           [.is (.int .i64 0),.is (.bool true),.is (.bool true),.is (.agg #[.int .i64 sc,.int .i64 ofs,.int .i64 sv,.string ltr,.string fm,.slice Au Rl.length cu]),.is (.agg #[.int .i64 sc,.int .i64 ofs,.int .i64 sv,.string ltr,.string fm,.slice Au Rl.length cu]),.is (.agg #[.int .i64 sc,.int .i64 ofs,.int .i64 sv,.string ltr,.string fm,.slice Aw Rl.length cw]),.is (.bool true),.is (.bool true),.is (.bool true),.is (.agg #[.int .i64 sc,.int .i64 ofs,.int .i64 sv,.string ltr,.string fm,.slice Au Rl.length cu]),.is (.bool bn),.is (.pointer (some ⟨bk,5,none⟩)),.is (.slice Aw Rl.length cw),.is (.int .i64 (Rl.length:Nat)),.is (.bool bn),.is (.bool true),.is (.bool true),.is (.bool true),.is (.agg #[.int .i64 sc,.int .i64 ofs,.int .i64 sv,.string ltr,.string fm,.slice Au Rl.length cu]),.is (.agg #[.int .i64 sc,.int .i64 ofs,.int .i64 sv,.string ltr,.string fm,.slice Au Rl.length cu]),.is (.bool true),.is (.bool true),.is (.bool true),.is (.bool true),.is (.bool true),.is (.bool true)] 26 (by simp) (by kernel_rfl) (by kernel_rfl) ?finQ2 ?_ ?_
          case finQ2 =>
           intro x_
           simp only [frameOf,List.foldl_cons,List.foldl_nil,Act.put,List.setIfInBounds_toArray,List.set_cons_succ,List.set_cons_zero]
           rfl
          ·as_aux_lemma =>
            simp only [List.take_succ_cons,List.take_zero]
            refine ⟨?_,?_,?_,?_,?_,?_,?_,?_,?_,?_,?_,?_,?_,?_,?_,?_,?_,?_,?_,?_,?_,?_,?_,?_,?_,?_,trivial⟩
            ·intro x_ w1_ R_ hB_ hf hR
             clear hf
             simp only [upd] at hR ⊢
             go_wp2_with fail
             exact hR _ _ rfl (Below.refl _ _)
            ·intro x_ w1_ R_ hB_ hf hR
             have e0:x_ 83 = .int .i64 0:=hf 0 (by kernel_rfl)
             clear hf
             simp only [upd] at hR ⊢
             simp only [e0] at hR ⊢
             go_wp2_with fail
             exact hR _ _ rfl (Below.refl _ _)
            ·intro x_ w1_ R_ hB_ hf hR
             have e1:x_ 84 = .bool true:=hf 1 (by kernel_rfl)
             clear hf
             simp only [upd] at hR ⊢
             simp only [e1] at hR ⊢
             go_wp2_with fail
             exact hR _ _ rfl (Below.refl _ _)
            ·intro x_ w1_ R_ hB_ hf hR
             have e2:x_ 85 = .bool true:=hf 2 (by kernel_rfl)
             have hf_:=HFq.out.below hB_ HFq.out.lt
             have q0:=hf_.cell 0 (v:=.int .i64 sc) rfl
             have q1:=hf_.cell 1 (v:=.int .i64 ofs) rfl
             have q2:=hf_.cell 2 (v:=.int .i64 sv) rfl
             have q3:=hf_.cell 3 (v:=.string ltr) rfl
             have q4:=hf_.cell 4 (v:=.string fm) rfl
             have q5:=hf_.cell 5 (v:=.slice Au Rl.length cu) rfl
             clear hf
             simp only [upd] at hR ⊢
             simp only [e2] at hR ⊢
             go_wp2_with fail
             exact hR _ _ rfl (Below.refl _ _)
            ·intro x_ w1_ R_ hB_ hf hR
             have e2:x_ 85 = .bool true:=hf 2 (by kernel_rfl)
             have e3:x_ 86 = .agg #[.int .i64 sc,.int .i64 ofs,.int .i64 sv,.string ltr,.string fm,.slice Au Rl.length cu]:=hf 3 (by kernel_rfl)
             clear hf
             simp only [upd] at hR ⊢
             simp only [e2,e3] at hR ⊢
             go_wp2_with fail
             refine (HPLA.out w1_).mono ?_
             rintro o_ w2_ ⟨rfl,hb⟩
             go_wp2_with fail
             exact hR _ _ rfl hb
            ·intro x_ w1_ R_ hB_ hf hR
             have e2:x_ 85 = .bool true:=hf 2 (by kernel_rfl)
             have hw_:=HWq.out.below hB_ HWq.out.lt
             have q0:=hw_.cell 0 (v:=.int .i64 sc) rfl
             have q1:=hw_.cell 1 (v:=.int .i64 ofs) rfl
             have q2:=hw_.cell 2 (v:=.int .i64 sv) rfl
             have q3:=hw_.cell 3 (v:=.string ltr) rfl
             have q4:=hw_.cell 4 (v:=.string fm) rfl
             have q5:=hw_.cell 5 (v:=.slice Aw Rl.length cw) rfl
             clear hf
             simp only [upd] at hR ⊢
             simp only [e2] at hR ⊢
             go_wp2_with fail
             exact hR _ _ rfl (Below.refl _ _)
            ·intro x_ w1_ R_ hB_ hf hR
             have e2:x_ 85 = .bool true:=hf 2 (by kernel_rfl)
             have e4:x_ 87 = .agg #[.int .i64 sc,.int .i64 ofs,.int .i64 sv,.string ltr,.string fm,.slice Au Rl.length cu]:=hf 4 (by kernel_rfl)
             have e5:x_ 88 = .agg #[.int .i64 sc,.int .i64 ofs,.int .i64 sv,.string ltr,.string fm,.slice Aw Rl.length cw]:=hf 5 (by kernel_rfl)
             clear hf
             simp only [upd] at hR ⊢
             simp only [e2,e4,e5] at hR ⊢
             go_wp2_with fail
             refine (HALA.out w1_ hB_).mono ?_
             rintro o_ w2_ ⟨rfl,hb⟩
             go_wp2_with fail
             exact hR _ _ rfl hb
            ·intro x_ w1_ R_ hB_ hf hR
             have e2:x_ 85 = .bool true:=hf 2 (by kernel_rfl)
             have e6:x_ 89 = .bool true:=hf 6 (by kernel_rfl)
             clear hf
             simp only [upd] at hR ⊢
             simp only [e2,e6] at hR ⊢
             go_wp2_with fail
             exact hR _ _ rfl (Below.refl _ _)
            ·intro x_ w1_ R_ hB_ hf hR
             have e7:x_ 90 = .bool true:=hf 7 (by kernel_rfl)
             clear hf
             simp only [upd] at hR ⊢
             simp only [e7] at hR ⊢
             go_wp2_with fail
             exact hR _ _ rfl (Below.refl _ _)
            ·intro x_ w1_ R_ hB_ hf hR
             have e8:x_ 91 = .bool true:=hf 8 (by kernel_rfl)
             have hf_:=HFq.out.below hB_ HFq.out.lt
             have q0:=hf_.cell 0 (v:=.int .i64 sc) rfl
             have q1:=hf_.cell 1 (v:=.int .i64 ofs) rfl
             have q2:=hf_.cell 2 (v:=.int .i64 sv) rfl
             have q3:=hf_.cell 3 (v:=.string ltr) rfl
             have q4:=hf_.cell 4 (v:=.string fm) rfl
             have q5:=hf_.cell 5 (v:=.slice Au Rl.length cu) rfl
             clear hf
             simp only [upd] at hR ⊢
             simp only [e8] at hR ⊢
             go_wp2_with fail
             exact hR _ _ rfl (Below.refl _ _)
            ·intro x_ w1_ R_ hB_ hf hR
             have e8:x_ 91 = .bool true:=hf 8 (by kernel_rfl)
             have e9:x_ 92 = .agg #[.int .i64 sc,.int .i64 ofs,.int .i64 sv,.string ltr,.string fm,.slice Au Rl.length cu]:=hf 9 (by kernel_rfl)
             clear hf
             simp only [upd] at hR ⊢
             simp only [e8,e9] at hR ⊢
             go_wp2_with fail
             refine (HENA.out w1_).mono ?_
             rintro o_ w2_ ⟨rfl,hb⟩
             go_wp2_with fail
             exact hR _ _ rfl hb
            ·intro x_ w1_ R_ hB_ hf hR
             have e8:x_ 91 = .bool true:=hf 8 (by kernel_rfl)
             clear hf
             simp only [upd] at hR ⊢
             simp only [e8] at hR ⊢
             go_wp2_with fail
             exact hR _ _ rfl (Below.refl _ _)
            ·intro x_ w1_ R_ hB_ hf hR
             have e8:x_ 91 = .bool true:=hf 8 (by kernel_rfl)
             have e11:x_ 94 = .pointer (some ⟨bk,5,none⟩):=hf 11 (by kernel_rfl)
             have hw_:=HWq.out.below hB_ HWq.out.lt
             have q5:=hw_.cell 5 (v:=.slice Aw Rl.length cw) rfl
             clear hf
             simp only [upd] at hR ⊢
             simp only [e8,e11] at hR ⊢
             go_wp2_with fail
             exact hR _ _ rfl (Below.refl _ _)
            ·intro x_ w1_ R_ hB_ hf hR
             have e8:x_ 91 = .bool true:=hf 8 (by kernel_rfl)
             have e12:x_ 95 = .slice Aw Rl.length cw:=hf 12 (by kernel_rfl)
             clear hf
             simp only [upd] at hR ⊢
             simp only [e8,e12] at hR ⊢
             go_wp2_with fail
             exact hR _ _ rfl (Below.refl _ _)
            ·intro x_ w1_ R_ hB_ hf hR
             have e8:x_ 91 = .bool true:=hf 8 (by kernel_rfl)
             have e13:x_ 96 = .int .i64 (Rl.length:Nat):=hf 13 (by kernel_rfl)
             clear hf
             simp only [upd] at hR ⊢
             simp only [e8,e13] at hR ⊢
             go_wp2_with fail
             first
              | exact hR _ _ (show Value.bool false = .bool bn by rw [HBNF.out HRL.out]) (Below.refl _ _)
              | exact hR _ _ rfl (Below.refl _ _)
              | exact hR _ _ (show Value.bool (decide ((0:Int) < (Rl.length:Int))) = .bool bn by rw [hbn2]) (Below.refl _ _)
              | exact hR _ _ (show Value.bool (decide (0 < Rl.length)) = .bool bn by rw [hbn]) (Below.refl _ _)
            ·intro x_ w1_ R_ hB_ hf hR
             have e8:x_ 91 = .bool true:=hf 8 (by kernel_rfl)
             have e10:x_ 93 = .bool bn:=hf 10 (by kernel_rfl)
             have e14:x_ 97 = .bool bn:=hf 14 (by kernel_rfl)
             clear hf
             simp only [upd] at hR ⊢
             simp only [e8,e10,e14] at hR ⊢
             go_wp2_with fail
             first
              | exact hR _ _ rfl (Below.refl _ _)
              | (cases bn <;> exact hR _ _ rfl (Below.refl _ _))
            ·intro x_ w1_ R_ hB_ hf hR
             have e8:x_ 91 = .bool true:=hf 8 (by kernel_rfl)
             have e15:x_ 98 = .bool true:=hf 15 (by kernel_rfl)
             clear hf
             simp only [upd] at hR ⊢
             simp only [e8,e15] at hR ⊢
             go_wp2_with fail
             exact hR _ _ rfl (Below.refl _ _)
            ·intro x_ w1_ R_ hB_ hf hR
             have e16:x_ 99 = .bool true:=hf 16 (by kernel_rfl)
             clear hf
             simp only [upd] at hR ⊢
             simp only [e16] at hR ⊢
             go_wp2_with fail
             exact hR _ _ rfl (Below.refl _ _)
            ·intro x_ w1_ R_ hB_ hf hR
             have e17:x_ 100 = .bool true:=hf 17 (by kernel_rfl)
             have hf_:=HFq.out.below hB_ HFq.out.lt
             have q0:=hf_.cell 0 (v:=.int .i64 sc) rfl
             have q1:=hf_.cell 1 (v:=.int .i64 ofs) rfl
             have q2:=hf_.cell 2 (v:=.int .i64 sv) rfl
             have q3:=hf_.cell 3 (v:=.string ltr) rfl
             have q4:=hf_.cell 4 (v:=.string fm) rfl
             have q5:=hf_.cell 5 (v:=.slice Au Rl.length cu) rfl
             clear hf
             simp only [upd] at hR ⊢
             simp only [e17] at hR ⊢
             go_wp2_with fail
             exact hR _ _ rfl (Below.refl _ _)
            ·intro x_ w1_ R_ hB_ hf hR
             have e17:x_ 100 = .bool true:=hf 17 (by kernel_rfl)
             have hf_:=HFq.out.below hB_ HFq.out.lt
             have q0:=hf_.cell 0 (v:=.int .i64 sc) rfl
             have q1:=hf_.cell 1 (v:=.int .i64 ofs) rfl
             have q2:=hf_.cell 2 (v:=.int .i64 sv) rfl
             have q3:=hf_.cell 3 (v:=.string ltr) rfl
             have q4:=hf_.cell 4 (v:=.string fm) rfl
             have q5:=hf_.cell 5 (v:=.slice Au Rl.length cu) rfl
             clear hf
             simp only [upd] at hR ⊢
             simp only [e17] at hR ⊢
             go_wp2_with fail
             exact hR _ _ rfl (Below.refl _ _)
            ·intro x_ w1_ R_ hB_ hf hR
             have e17:x_ 100 = .bool true:=hf 17 (by kernel_rfl)
             have e18:x_ 101 = .agg #[.int .i64 sc,.int .i64 ofs,.int .i64 sv,.string ltr,.string fm,.slice Au Rl.length cu]:=hf 18 (by kernel_rfl)
             have e19:x_ 102 = .agg #[.int .i64 sc,.int .i64 ofs,.int .i64 sv,.string ltr,.string fm,.slice Au Rl.length cu]:=hf 19 (by kernel_rfl)
             clear hf
             simp only [upd] at hR ⊢
             simp only [e17,e18,e19] at hR ⊢
             go_wp2_with fail
             refine (HSMA.out w1_ hB_).mono ?_
             rintro o_ w2_ ⟨rfl,hb⟩
             go_wp2_with fail
             exact hR _ _ rfl hb
            ·intro x_ w1_ R_ hB_ hf hR
             have e17:x_ 100 = .bool true:=hf 17 (by kernel_rfl)
             have e20:x_ 103 = .bool true:=hf 20 (by kernel_rfl)
             clear hf
             simp only [upd] at hR ⊢
             simp only [e17,e20] at hR ⊢
             go_wp2_with fail
             exact hR _ _ rfl (Below.refl _ _)
            ·intro x_ w1_ R_ hB_ hf hR
             have e21:x_ 104 = .bool true:=hf 21 (by kernel_rfl)
             clear hf
             simp only [upd] at hR ⊢
             simp only [e21] at hR ⊢
             go_wp2_with fail
             exact hR _ _ rfl (Below.refl _ _)
            ·intro x_ w1_ R_ hB_ hf hR
             have e22:x_ 105 = .bool true:=hf 22 (by kernel_rfl)
             clear hf
             simp only [upd] at hR ⊢
             simp only [e22] at hR ⊢
             go_wp2_with fail
             refine (HAWA.out w1_ hB_).mono ?_
             rintro o_ w2_ ⟨rfl,hb⟩
             go_wp2_with fail
             exact hR _ _ rfl hb
            ·intro x_ w1_ R_ hB_ hf hR
             have e22:x_ 105 = .bool true:=hf 22 (by kernel_rfl)
             have e23:x_ 106 = .bool true:=hf 23 (by kernel_rfl)
             clear hf
             simp only [upd] at hR ⊢
             simp only [e22,e23] at hR ⊢
             go_wp2_with fail
             exact hR _ _ rfl (Below.refl _ _)
            ·intro x_ w1_ R_ hB_ hf hR
             have e24:x_ 107 = .bool true:=hf 24 (by kernel_rfl)
             clear hf
             simp only [upd] at hR ⊢
             simp only [e24] at hR ⊢
             go_wp2_with fail
             exact hR _ _ rfl (Below.refl _ _)
          ·intro x14 w14 hb14 hF_
           have e25:x14 2 = .bool true:=hF_ 25 (by omega)
           simp only [List.drop_succ_cons,List.drop_zero]
           simp only [e25]
           have HBR:=Lib.hid (HB0.out.trans ((HBq.out.mono HB0.out.size).trans (hb14.mono (Nat.le_trans HB0.out.size HBq.out.size))))
           clear hb14 hF_ e25
           go_wp2_with fail
           go_ret
           exact ⟨rfl,HBR.out⟩
end
section -- FOpen
open Go Go.ChangeShapes Go.WideShapes Go.ChangeAt Go.RowKit Go.Deep
def aheadI:List Int:=[0,31,59,90,120,151,181,212,243,273,304,334,365]
theorem ahead_of {W : World} (h : laidMetH Tryz.prog [("meridian/civil.ahead", Rows.laid_meridian_civil_ahead)] W) : Ahead W := fun i hi => by
 have ht : Lib.TabIs Tryz.prog W "meridian/civil.ahead" .i64 aheadI := Lib.tabIs_of_head (rest := []) (g := 0) (by kernel_rfl) (by kernel_rfl) Tryz.underlying175 Tryz.underlying3 (by kernel_rfl) (by kernel_rfl) h
 have hc:=ht.cell (g:=0) (by kernel_rfl) i (by simpa [aheadI] using hi)
 rw [hc]
 have:i = 0∨i = 1∨i = 2∨i = 3∨i = 4∨i = 5∨i = 6∨i = 7∨i = 8∨i = 9∨i = 10∨i = 11∨i = 12:=by omega
 rcases this with h | h | h | h | h | h | h | h | h | h | h | h | h <;> subst h <;> rfl
section
variable {H:Type} {enc:TypeId × Value→H} {P:Program} {W:World} {base:Nat} {spare:MemPlace→Bool} {held:Bool}
theorem trod_struct8 {t:TypeId} {f0 f1 f2 f3 f4 f5 f6 f7:Field} {fuel:Nat} {cs:List Value} {x:DataW H × List MemPlace} (ht:P.underlying t = some (.struct #[f0,f1,f2,f3,f4,f5,f6,f7])) (h:DataW.trod enc P W 0 (fun _=>true) true fuel t cs = some x) :
  ∃ y0 y1 y2 y3 y4 y5 y6 y7 n,cs.length = P.cellsOf t∧DataW.trod enc P W 0 (fun _=>true) true n f0.type ((cs.drop f0.offset).take (P.cellsOf f0.type)) = some y0∧DataW.trod enc P W 0 (fun _=>true) true n f1.type ((cs.drop f1.offset).take (P.cellsOf f1.type)) = some y1 ∧
   DataW.trod enc P W 0 (fun _=>true) true n f2.type ((cs.drop f2.offset).take (P.cellsOf f2.type)) = some y2∧DataW.trod enc P W 0 (fun _=>true) true n f3.type ((cs.drop f3.offset).take (P.cellsOf f3.type)) = some y3∧DataW.trod enc P W 0 (fun _=>true) true n f4.type ((cs.drop f4.offset).take (P.cellsOf f4.type)) = some y4 ∧
   DataW.trod enc P W 0 (fun _=>true) true n f5.type ((cs.drop f5.offset).take (P.cellsOf f5.type)) = some y5∧DataW.trod enc P W 0 (fun _=>true) true n f6.type ((cs.drop f6.offset).take (P.cellsOf f6.type)) = some y6∧DataW.trod enc P W 0 (fun _=>true) true n f7.type ((cs.drop f7.offset).take (P.cellsOf f7.type)) = some y7:=by
 obtain ⟨xs,n,_,rfl,hl,hlen,hf⟩:=DataW.trod_struct ht h
 match xs,hlen with
 | [y0,y1,y2,y3,y4,y5,y6,y7],_=>exact ⟨y0,y1,y2,y3,y4,y5,y6,y7,n,hl,by simpa using hf 0 f0 rfl,by simpa using hf 1 f1 rfl,by simpa using hf 2 f2 rfl,by simpa using hf 3 f3 rfl,by simpa using hf 4 f4 rfl,by simpa using hf 5 f5 rfl,by simpa using hf 6 f6 rfl,by simpa using hf 7 f7 rfl⟩
end
section
variable {H:Type} {enc:TypeId × Value→H} {W:World}
theorem trod_day {n:Nat} {cs:List Value} {y:DataW H × List MemPlace} (h:DataW.trod enc Tryz.prog W 0 (fun _=>true) true n 36 cs = some y):∃ a b c:Int,cs = [.int .i64 a,.int .i64 b,.int .i64 c]:=by
 obtain ⟨y0,y1,y2,k,-,hl,h0,h1,h2⟩:=trod_struct3 Tryz.underlying36 h
 rw [show Tryz.prog.cellsOf 36 = 3 by kernel_rfl] at hl
 obtain ⟨a,e0,_,_⟩:=DataW.trod_int Tryz.underlying3 h0
 obtain ⟨b,e1,_,_⟩:=DataW.trod_int Tryz.underlying3 h1
 obtain ⟨c,e2,_,_⟩:=DataW.trod_int Tryz.underlying3 h2
 match cs,hl with
 | [v0,v1,v2],_ =>
   rw [show Tryz.prog.cellsOf 3 = 1 by kernel_rfl] at e0 e1 e2
   simp at e0 e1 e2
   subst e0 e1 e2
   exact ⟨a,b,c,rfl⟩
theorem trod_clock {n:Nat} {cs:List Value} {y:DataW H × List MemPlace} (h:DataW.trod enc Tryz.prog W 0 (fun _=>true) true n 38 cs = some y):∃ a b:Int,cs = [.int .i64 a,.int .i64 b]:=by
 obtain ⟨y0,y1,k,-,hl,h0,h1⟩:=trod_struct2 Tryz.underlying38 h
 rw [show Tryz.prog.cellsOf 38 = 2 by kernel_rfl] at hl
 obtain ⟨a,e0,_,_⟩:=DataW.trod_int Tryz.underlying3 h0
 obtain ⟨b,e1,_,_⟩:=DataW.trod_int Tryz.underlying3 h1
 match cs,hl with
 | [v0,v1],_ =>
   rw [show Tryz.prog.cellsOf 3 = 1 by kernel_rfl] at e0 e1
   simp at e0 e1
   subst e0 e1
   exact ⟨a,b,rfl⟩
theorem trod_rul {n:Nat} {cs:List Value} {y:DataW H × List MemPlace} (h:DataW.trod enc Tryz.prog W 0 (fun _=>true) true n 106 cs = some y):∃ r:Rul,cs = rulV r∧True:=by
 obtain ⟨y0,y1,y2,y3,y4,y5,y6,y7,k,hl,h0,h1,h2,h3,h4,h5,h6,h7⟩:=trod_struct8 Tryz.underlying106 h
 rw [show Tryz.prog.cellsOf 106 = 11 by kernel_rfl] at hl
 obtain ⟨nm,e0,_,_⟩:=DataW.trod_string Tryz.underlying9 h0
 obtain ⟨fr,e1,_,_⟩:=DataW.trod_int Tryz.underlying3 h1
 obtain ⟨to,e2,_,_⟩:=DataW.trod_int Tryz.underlying3 h2
 obtain ⟨mo,e3,_,_⟩:=DataW.trod_int Tryz.underlying3 h3
 obtain ⟨dk,dw,dn,e4⟩:=trod_day h4
 obtain ⟨sc,kd,e5⟩:=trod_clock h5
 obtain ⟨sv,e6,_,_⟩:=DataW.trod_int Tryz.underlying3 h6
 obtain ⟨lt,e7,_,_⟩:=DataW.trod_string Tryz.underlying9 h7
 match cs,hl with
 | [v0,v1,v2,v3,v4,v5,v6,v7,v8,v9,v10],_ =>
   rw [show Tryz.prog.cellsOf 3 = 1 by kernel_rfl] at e1 e2 e3 e6
   rw [show Tryz.prog.cellsOf 9 = 1 by kernel_rfl] at e0 e7
   rw [show Tryz.prog.cellsOf 36 = 3 by kernel_rfl] at e4
   rw [show Tryz.prog.cellsOf 38 = 2 by kernel_rfl] at e5
   simp at e0 e1 e2 e3 e4 e5 e6 e7
   obtain ⟨rfl,rfl,rfl⟩:=e4
   obtain ⟨rfl,rfl⟩:=e5
   subst e0 e1 e2 e3 e6 e7
   exact ⟨⟨nm,fr,to,mo,dk,dw,dn,sc,kd,sv,lt⟩,rfl,trivial⟩
instance:Inhabited Rul:=⟨⟨⟨#[]⟩,0,0,0,0,0,0,0,0,0,⟨#[]⟩⟩⟩
end
end
section -- AOpen
open Go Go.ChangeShapes Go.WideShapes Go.ChangeAt Go.RowKit Go.Deep
section
variable {H:Type} {enc:TypeId × Value→H} {P:Program} {W:World}
theorem trod_struct4 {t:TypeId} {f0 f1 f2 f3:Field} {fuel:Nat} {cs:List Value} {x:DataW H × List MemPlace} (ht:P.underlying t = some (.struct #[f0,f1,f2,f3])) (h:DataW.trod enc P W 0 (fun _=>true) true fuel t cs = some x) :
  ∃ y0 y1 y2 y3 n,cs.length = P.cellsOf t∧DataW.trod enc P W 0 (fun _=>true) true n f0.type ((cs.drop f0.offset).take (P.cellsOf f0.type)) = some y0∧DataW.trod enc P W 0 (fun _=>true) true n f1.type ((cs.drop f1.offset).take (P.cellsOf f1.type)) = some y1 ∧
   DataW.trod enc P W 0 (fun _=>true) true n f2.type ((cs.drop f2.offset).take (P.cellsOf f2.type)) = some y2∧DataW.trod enc P W 0 (fun _=>true) true n f3.type ((cs.drop f3.offset).take (P.cellsOf f3.type)) = some y3:=by
 obtain ⟨xs,n,_,rfl,hl,hlen,hf⟩:=DataW.trod_struct ht h
 match xs,hlen with
 | [y0,y1,y2,y3],_=>exact ⟨y0,y1,y2,y3,n,hl,by simpa using hf 0 f0 rfl,by simpa using hf 1 f1 rfl,by simpa using hf 2 f2 rfl,by simpa using hf 3 f3 rfl⟩
theorem trod_struct6 {t:TypeId} {f0 f1 f2 f3 f4 f5:Field} {fuel:Nat} {cs:List Value} {x:DataW H × List MemPlace} (ht:P.underlying t = some (.struct #[f0,f1,f2,f3,f4,f5])) (h:DataW.trod enc P W 0 (fun _=>true) true fuel t cs = some x) :
  ∃ y0 y1 y2 y3 y4 y5 n,cs.length = P.cellsOf t∧DataW.trod enc P W 0 (fun _=>true) true n f0.type ((cs.drop f0.offset).take (P.cellsOf f0.type)) = some y0∧DataW.trod enc P W 0 (fun _=>true) true n f1.type ((cs.drop f1.offset).take (P.cellsOf f1.type)) = some y1 ∧
   DataW.trod enc P W 0 (fun _=>true) true n f2.type ((cs.drop f2.offset).take (P.cellsOf f2.type)) = some y2∧DataW.trod enc P W 0 (fun _=>true) true n f3.type ((cs.drop f3.offset).take (P.cellsOf f3.type)) = some y3 ∧
   DataW.trod enc P W 0 (fun _=>true) true n f4.type ((cs.drop f4.offset).take (P.cellsOf f4.type)) = some y4∧DataW.trod enc P W 0 (fun _=>true) true n f5.type ((cs.drop f5.offset).take (P.cellsOf f5.type)) = some y5:=by
 obtain ⟨xs,n,_,rfl,hl,hlen,hf⟩:=DataW.trod_struct ht h
 match xs,hlen with
 | [y0,y1,y2,y3,y4,y5],_=>exact ⟨y0,y1,y2,y3,y4,y5,n,hl,by simpa using hf 0 f0 rfl,by simpa using hf 1 f1 rfl,by simpa using hf 2 f2 rfl,by simpa using hf 3 f3 rfl,by simpa using hf 4 f4 rfl,by simpa using hf 5 f5 rfl⟩
end
section
variable {H:Type} {enc:TypeId × Value→H} {W:World}
theorem trod_until {n:Nat} {cs:List Value} {y:DataW H × List MemPlace} (h:DataW.trod enc Tryz.prog W 0 (fun _=>true) true n 40 cs = some y):∃ a b c d e f g:Int,cs = [.int .i64 a,.int .i64 b,.int .i64 c,.int .i64 d,.int .i64 e,.int .i64 f,.int .i64 g]:=by
 obtain ⟨y0,y1,y2,y3,k,hl,h0,h1,h2,h3⟩:=trod_struct4 Tryz.underlying40 h
 rw [show Tryz.prog.cellsOf 40 = 7 by kernel_rfl] at hl
 obtain ⟨a,e0,_,_⟩:=DataW.trod_int Tryz.underlying3 h0
 obtain ⟨b,e1,_,_⟩:=DataW.trod_int Tryz.underlying3 h1
 obtain ⟨dk,dw,dn,e2⟩:=trod_day h2
 obtain ⟨sc,kd,e3⟩:=trod_clock h3
 match cs,hl with
 | [v0,v1,v2,v3,v4,v5,v6],_ =>
   rw [show Tryz.prog.cellsOf 3 = 1 by kernel_rfl] at e0 e1
   rw [show Tryz.prog.cellsOf 36 = 3 by kernel_rfl] at e2
   rw [show Tryz.prog.cellsOf 38 = 2 by kernel_rfl] at e3
   simp at e0 e1 e2 e3
   obtain ⟨rfl,rfl,rfl⟩:=e2
   obtain ⟨rfl,rfl⟩:=e3
   subst e0 e1
   exact ⟨a,b,dk,dw,dn,sc,kd,rfl⟩
theorem trod_era {n:Nat} {cs:List Value} {y:DataW H × List MemPlace} (h:DataW.trod enc Tryz.prog W 0 (fun _=>true) true n 42 cs = some y) :
  ∃ (e:EraN) (ru f:ByteArray) (en:Bool),cs = [.int .i64 e.off,.string ru,.int .i64 e.save,.string f,.bool en,.int .i64 e.year,.int .i64 e.month,.int .i64 e.dk,.int .i64 e.dw,.int .i64 e.dn,.int .i64 e.sec,.int .i64 e.ak] ∧
   (-9223372036854775808 ≤ e.off∧e.off ≤ 9223372036854775807)∧(-9223372036854775808 ≤ e.save∧e.save ≤ 9223372036854775807):=by
 obtain ⟨y0,y1,y2,y3,y4,y5,k,hl,h0,h1,h2,h3,h4,h5⟩:=trod_struct6 Tryz.underlying42 h
 rw [show Tryz.prog.cellsOf 42 = 12 by kernel_rfl] at hl
 obtain ⟨off,e0,_,w0⟩:=DataW.trod_int Tryz.underlying3 h0
 obtain ⟨ru,e1,_,_⟩:=DataW.trod_string Tryz.underlying9 h1
 obtain ⟨sv,e2,_,w2⟩:=DataW.trod_int Tryz.underlying3 h2
 obtain ⟨f,e3,_,_⟩:=DataW.trod_string Tryz.underlying9 h3
 obtain ⟨en,e4,_⟩:=DataW.trod_bool Tryz.underlying4 h4
 obtain ⟨yr,mo,dk,dw,dn,sc,kd,e5⟩:=trod_until h5
 match cs,hl with
 | [v0,v1,v2,v3,v4,v5,v6,v7,v8,v9,v10,v11],_ =>
   rw [show Tryz.prog.cellsOf 3 = 1 by kernel_rfl] at e0 e2
   rw [show Tryz.prog.cellsOf 9 = 1 by kernel_rfl] at e1 e3
   rw [show Tryz.prog.cellsOf 4 = 1 by kernel_rfl] at e4
   rw [show Tryz.prog.cellsOf 40 = 7 by kernel_rfl] at e5
   simp at e0 e1 e2 e3 e4 e5
   obtain ⟨rfl,rfl,rfl,rfl,rfl,rfl,rfl⟩:=e5
   subst e0 e1 e2 e3 e4
   exact ⟨⟨off,sv,yr,mo,dk,dw,dn,sc,kd⟩,ru,f,en,rfl,wf_i64 w0,wf_i64 w2⟩
end
end
section -- AOpenW
open Go Go.ChangeShapes Go.WideShapes Go.ChangeAt Go.RowKit Go.Deep
section
variable {H:Type} {enc:TypeId × Value→H} {P:Program} {W:World}
def Light (P:Program) (t:TypeId) (d:DataW H):Prop:=∀ k ∈ d.weights P t,k ≤ 140737488351232
theorem weightsAll_mem {e:TypeId}:∀ {l:List (DataW H)} {d:DataW H},d ∈ l→∀ k ∈ d.weights P e,k ∈ DataW.weightsAll P e l
 | x :: l,d,h,k,hk=>by
   simp only [DataW.weightsAll,List.mem_append]
   rcases List.mem_cons.1 h with rfl | h
   ·exact .inl hk
   ·exact .inr (weightsAll_mem h k hk)
theorem Light.elem {T E:TypeId} {a b:List (DataW H)} (hT:P.underlying T = some (.slice E)) (h:Light P T (.slice a b)) {d:DataW H} (hd:d ∈ a):Light P E d:=fun k hk=>by
 refine h k ?_
 simp only [DataW.weights,hT,List.mem_cons,List.mem_append]
 exact .inr (.inl (weightsAll_mem hd k hk))
theorem Light.part {T:TypeId} {fs:Array Field} {l:List (DataW H)} (hT:P.underlying T = some (.struct fs)) (h:Light P T (.agg l)) {i:Nat} {t:TypeId} {d:DataW H} (ht:(fs.toList.map (·.type))[i]? = some t) (hd:l[i]? = some d):Light P t d:=fun k hk=>by
 refine h k ?_
 simp only [DataW.weights,hT]
 exact DataW.weights_mem_each ht hd k hk
theorem Light.str {t:TypeId} {s:List UInt8} (h:Light P t (DataW.lit (H:=H) (.string s))):s.length ≤ 140737488351232:=h _ (by simp [DataW.weights])
theorem open_listW {α:Type} [Inhabited α] (f:α→List Value) (Pr:α→Prop) {T E:TypeId} {C:Nat} (hT:P.underlying T = some (.slice E)) (hC:P.cellsOf E = C) (h0:0 < C)
  (hel:∀ (n:Nat) (cs:List Value) (y:DataW H × List MemPlace),cs.length = C→DataW.trod enc P W 0 (fun _=>true) true n E cs = some y→Light P E y.1→∃ a,cs = f a∧Pr a)
  {n:Nat} {cs:List Value} {x:DataW H × List MemPlace} (h:DataW.trod enc P W 0 (fun _=>true) true n T cs = some x) (hw:Light P T x.1):∃ (v:Value) (l:List α),cs = [v]∧Sl W W.heap.size C v l.length (l.flatMap f)∧∀ a ∈ l,Pr a∧(f a).length = C:=by
 rcases open_slice hT h with ⟨rfl,_⟩ | ⟨a,len,cap,m,k,D,Pl,rfl,_,hl,hm,hmm,rfl,hx⟩
 ·exact ⟨_,[],rfl,Sl.nil _ _ _,fun a h=>by cases h⟩
 ·simp only [if_true] at hmm
  subst hmm
  have hD:∀ i,i < len→Light P E (D i):=fun i hi=>Light.elem hT hw (List.mem_map.2 ⟨i,List.mem_range.2 hi,rfl⟩)
  have each:∀ i,∃ q:α,i < len→W.cells? 0 (a.add (i * C)) C = some (f q)∧Pr q∧(f q).length = C:=fun i=>by
   by_cases hi:i < len
   ·obtain ⟨cs',h1,h2⟩:=hx i (by omega)
    rw [hC] at h1
    obtain ⟨_,hlen,_⟩:=World.cells?_some h1
    obtain ⟨q,rfl,hq⟩:=hel _ _ _ hlen h2 (hD i hi)
    exact ⟨q,fun _=>⟨h1,hq,hlen⟩⟩
   ·exact ⟨default,fun h=>absurd h hi⟩
  obtain ⟨Q,hQ⟩:=Classical.axiomOfChoice each
  have hlen:((List.range len).map Q).length = len:=by simp
  have hfl:∀ b ∈ (List.range len).map Q,Pr b∧(f b).length = C:=fun b hb=>by
   obtain ⟨i,hi,rfl⟩:=List.mem_map.1 hb
   exact ⟨(hQ i (List.mem_range.1 hi)).2.1,(hQ i (List.mem_range.1 hi)).2.2⟩
  refine ⟨_,(List.range len).map Q,rfl,?_,hfl⟩
  have hfl2:=flat_len f C _ (fun b hb=>(hfl b hb).2)
  rw [hlen] at hfl2 ⊢
  refine ⟨_,_,rfl,hl,hm,hfl2,fun hp=>?_⟩
  obtain ⟨b,o,spot⟩:=a
  obtain ⟨_,_,hc0⟩:=World.cells?_some (hQ 0 hp).1
  have h00:=hc0 0 h0
  rw [List.getElem?_eq_getElem (by rw [(hQ 0 hp).2.2];exact h0)] at h00
  have hspot:spot = none:=by simpa [Addr.add] using World.cell?_spot h00
  subst hspot
  refine ⟨b,o,rfl,?_,fun j u hu=>?_⟩
  ·have:=World.block_lt_of_cell? W _ h00
   simpa [Addr.add_lit] using this
  ·have hj:j < len * C:=by
    have:=(List.getElem?_eq_some_iff.1 hu).1
    rwa [hfl2] at this
   have hd:j / C < len:=Nat.div_lt_of_lt_mul (by rw [Nat.mul_comm];exact hj)
   have hr:j % C < C:=Nat.mod_lt _ h0
   have he:j = j / C * C + j % C:=by rw [Nat.mul_comm];exact (Nat.div_add_mod j C).symm
   obtain ⟨_,hll,hcc⟩:=World.cells?_some (hQ (j / C) hd).1
   have hc:=hcc (j % C) hr
   rw [he,flat_at f C _ (fun b hb=>(hfl b hb).2) _ _ (by rw [hlen];exact hd) hr] at hu
   simp only [List.getElem_map,List.getElem_range] at hu
   rw [he]
   have e2:(some u:Option Value) = some ((f (Q (j / C)))[j % C]'(by omega)):=by rw [← hu];exact List.getElem?_eq_getElem _
   rw [Option.some.inj e2,← List.getElem?_eq_getElem]
   simpa [Addr.add_lit,Nat.add_assoc] using hc
end
theorem ahead_in {l : List (String × DataW Unit)} {W : World} (hl : l.filter (fun x => x.1 == "meridian/civil.ahead") = [("meridian/civil.ahead", Rows.laid_meridian_civil_ahead)]) (h : laidMetH Tryz.prog l W) : Ahead W := ahead_of (by rw [← hl]; exact h.filter _)
theorem tab_in {W:World} (h:Ahead W):0 < W.heap.size:=World.block_lt_of_cell? W _ (h 0 (by decide))
section
variable {H:Type} {enc:TypeId × Value→H} {W:World}
theorem trod_rulW {n:Nat} {cs:List Value} {y:DataW H × List MemPlace} (h:DataW.trod enc Tryz.prog W 0 (fun _=>true) true n 106 cs = some y) (hw:Light Tryz.prog 106 y.1):∃ r:Rul,cs = rulV r∧r.letter.size ≤ 140737488351232:=by
 obtain ⟨r,rfl,-⟩:=trod_rul h
 refine ⟨r,rfl,?_⟩
 obtain ⟨xs,m,_,rfl,hl,hlen,hf⟩:=DataW.trod_struct Tryz.underlying106 h
 match xs,hlen with
 | [y0,y1,y2,y3,y4,y5,y6,y7],_ =>
   have h7:=hf 7 _ rfl
   obtain ⟨s,e7,e8,-⟩:=DataW.trod_string Tryz.underlying9 h7
   have h9:r.letter = s:=by
    have e9:([.string r.letter]:List Value) = [.string s]:=e7
    injection e9 with e9
    injection e9
   have h10:=Light.part Tryz.underlying106 hw (i:=7) (t:=9) (d:=y7.1) rfl rfl
   rw [e8] at h10
   have h11:=h10.str
   rw [h9,Lib.size_eq]
   exact h11
theorem trod_eraW {n:Nat} {cs:List Value} {y:DataW H × List MemPlace} (h:DataW.trod enc Tryz.prog W 0 (fun _=>true) true n 42 cs = some y) (hw:Light Tryz.prog 42 y.1):∃ x:EraF,cs = x.cells∧x.fm.size ≤ 140737488351232:=by
 obtain ⟨e,ru,f,en,rfl,-,-⟩:=trod_era h
 refine ⟨⟨e,ru,f,en⟩,rfl,?_⟩
 obtain ⟨xs,m,_,rfl,hl,hlen,hf⟩:=DataW.trod_struct Tryz.underlying42 h
 match xs,hlen with
 | [y0,y1,y2,y3,y4,y5],_ =>
   have h7:=hf 3 _ rfl
   obtain ⟨s,e7,e8,-⟩:=DataW.trod_string Tryz.underlying9 h7
   have h9:f = s:=by
    have e9:([.string f]:List Value) = [.string s]:=e7
    injection e9 with e9
    injection e9
   have h10:=Light.part Tryz.underlying42 hw (i:=3) (t:=9) (d:=y3.1) rfl rfl
   rw [e8] at h10
   have h11:=h10.str
   show f.size ≤ _
   rw [h9,Lib.size_eq]
   exact h11
theorem trod_setW {n:Nat} {cs:List Value} {y:DataW H × List MemPlace} (h:DataW.trod enc Tryz.prog W 0 (fun _=>true) true n 95 cs = some y) (hw:Light Tryz.prog 95 y.1):∃ s:SetF,cs = s.cells∧(Ruls W W.heap.size s.v s.l∧letOk s.l):=by
 obtain ⟨xs,m,_,rfl,hl,hlen,hf⟩:=DataW.trod_struct Tryz.underlying95 h
 match xs,hlen with
 | [y0,y1],_ =>
   obtain ⟨s,e0,_,-⟩:=DataW.trod_string Tryz.underlying9 (hf 0 _ rfl)
   have h1:=hf 1 _ rfl
   have h10:=Light.part Tryz.underlying95 hw (i:=1) (t:=52) (d:=y1.1) rfl rfl
   obtain ⟨v,l,e1,hs,hl2⟩:=open_listW (C:=11) rulV (fun r=>r.letter.size ≤ 140737488351232) Tryz.underlying52 (by kernel_rfl) (by decide) (fun n cs y _ hy hw=>trod_rulW hy hw) h1 h10
   rw [show Tryz.prog.cellsOf 95 = 2 by kernel_rfl] at hl
   match cs,hl with
   | [v0,v1],_ =>
     have e2:([v0]:List Value) = [.string s]:=e0
     have e3:([v1]:List Value) = [v]:=e1
     injection e2 with e2
     injection e3 with e3
     subst e2 e3
     exact ⟨⟨s,v1,l⟩,rfl,hs,fun r hr=>(hl2 r hr).1⟩
theorem open_world {r:Reach} {base:Nat} {v:Value} {d:DataW H} {p:List MemPlace} (hok:Value.okWide Tryz.prog W r base 27 v) (h:DataW.Trod enc Tryz.prog W 0 (fun _=>true) true 27 v d p) (hw:Light Tryz.prog 27 d) :
  ∃ (zn:ByteArray) (ev sv:Value) (l:List EraF) (S:List SetF),v = worldA zn ev sv∧ErasR W W.heap.size ev l∧SetsR W W.heap.size sv S∧(∀ x ∈ l,x.fm.size < 1152921504606846976)∧∀ s ∈ S,letOk s.l:=by
 have hu:Tryz.prog.underlying 27 = _:=Tryz.underlying27
 simp only [Value.okWide,hu] at hok
 obtain ⟨cs,rfl,hsz,_⟩:=hok
 obtain ⟨fuel,hg⟩:=h
 obtain ⟨xs,m,_,e0,hl,hlen,hf⟩:=DataW.trod_struct Tryz.underlying27 hg
 clear hg
 match xs,hlen with
 | [y0,y1],_ =>
   injection e0 with e0 e00
   subst e0
   have h0:=hf 0 _ rfl
   have h1:=hf 1 _ rfl
   have w0:=Light.part Tryz.underlying27 hw (i:=0) (t:=24) (d:=y0.1) rfl rfl
   have w1:=Light.part Tryz.underlying27 hw (i:=1) (t:=25) (d:=y1.1) rfl rfl
   obtain ⟨sv,S,e1,hs,hs2⟩:=open_listW (C:=2) SetF.cells (fun s=>Ruls W W.heap.size s.v s.l∧letOk s.l) Tryz.underlying25 (by kernel_rfl) (by decide) (fun n cs y _ hy hw=>trod_setW hy hw) h1 w1
   obtain ⟨zs,m2,_,e2,hl2,hlen2,hf2⟩:=DataW.trod_struct Tryz.underlying24 h0
   match zs,hlen2 with
   | [z0,z1],_ =>
     rw [e2] at w0
     obtain ⟨zn,e3,_,-⟩:=DataW.trod_string Tryz.underlying9 (hf2 0 _ rfl)
     have w2:=Light.part Tryz.underlying24 w0 (i:=1) (t:=22) (d:=z1.1) rfl rfl
     obtain ⟨ev,l,e4,he,he2⟩:=open_listW (C:=12) EraF.cells (fun x=>x.fm.size ≤ 140737488351232) Tryz.underlying22 (by kernel_rfl) (by decide) (fun n cs y _ hy hw=>trod_eraW hy hw) (hf2 1 _ rfl) w2
     rw [show Tryz.prog.cellsOf 27 = 3 by kernel_rfl] at hl
     obtain ⟨c⟩:=cs
     simp only [Value.cells] at hl
     match c,hl with
     | [v0,v1,v2],_ =>
       have q0:([v0]:List Value) = [.string zn]:=e3
       have q1:([v1]:List Value) = [ev]:=e4
       have q2:([v2]:List Value) = [sv]:=e1
       injection q0 with q0
       injection q1 with q1
       injection q2 with q2
       subst q0 q1 q2
       exact ⟨zn,v1,v2,l,S,rfl,he,⟨hs,fun s hs3=>(hs2 s hs3).1.1⟩,fun x hx=>by have:=(he2 x hx).1;omega,fun s hs3=>(hs2 s hs3).1.2⟩
end
end
end Go.Proofs.YteekjfgjmccdnaaGreatDoor
