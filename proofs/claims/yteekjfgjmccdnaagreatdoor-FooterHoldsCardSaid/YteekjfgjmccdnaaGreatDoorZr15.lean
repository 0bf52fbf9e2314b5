/-
  From the rows' readings of eras to the words of the walks.
-/
import Derived.Test.YteekjfgjmccdnaaGreatDoorChecked
import Derived.Test.YteekjfgjmccdnaaGreatDoorRows
import Derived.Lib.LaidTab
import Derived.Test.YteekjfgjmccdnaaGreatDoorZr14
set_option maxHeartbeats 16000000
set_option maxRecDepth 100000
namespace Go.Proofs.YteekjfgjmccdnaaGreatDoor
section -- GHolds
open Go Go.RowKit Go.Shelf
theorem cells4 {wr:World} {bq o:Nat} (hb:bq < wr.heap.size) {a b c d:Value} (h:wr.cell? ⟨bq,o,none⟩ = some a∧wr.cell? ⟨bq,o + 1,none⟩ = some b∧wr.cell? ⟨bq,o + 2,none⟩ = some c∧wr.cell? ⟨bq,o + 3,none⟩ = some d) (W:World) (hw:Below wr.heap.size wr W) :
  W.cell? ⟨bq,o,none⟩ = some a∧W.cell? ⟨bq,o + 1,none⟩ = some b∧W.cell? ⟨bq,o + 2,none⟩ = some c∧W.cell? ⟨bq,o + 3,none⟩ = some d :=
 ⟨(hw.cell (p:=⟨bq,o,none⟩) hb).trans h.1,(hw.cell (p:=⟨bq,o + 1,none⟩) hb).trans h.2.1,(hw.cell (p:=⟨bq,o + 2,none⟩) hb).trans h.2.2.1,(hw.cell (p:=⟨bq,o + 3,none⟩) hb).trans h.2.2.2⟩
theorem fholds_walk (w:World) (zn:ByteArray) (ev sv:Value) (l:List EraF) (S:List SetF) (vl:Value) (L:List Int) (he:ErasR w w.heap.size ev l) (hs:SetsR w w.heap.size sv S) (hfm:∀ x ∈ l,x.fm.size < 1152921504606846976) (hlet:∀ s ∈ S,letOk s.l)
  (hL:Nums w w.heap.size vl L) (ha:Ahead w) (htab:0 < w.heap.size) (hm:Tryz.MaxL w) :
  Calls Tryz.prog 7 #[worldA zn ev sv,vl] w fun o w'=>o = .returned (.bool true)∧Below w.heap.size w w':=by
 obtain ⟨A,cA,rfl,hlc,hcm⟩:=he.form;obtain ⟨A2,cS,rfl,hlc2,hcm2⟩:=hs.form;obtain ⟨A3,cL,rfl,hlc3,hcm3⟩:=hL.form;unfold maxLen at hcm hcm2 hcm3;obtain ⟨W0,hW0⟩:∃ W,w.alloc (.cells #[.string zn,.slice A l.length cA,.slice A2 S.length cS] 27) = W:=⟨_,rfl⟩;have hb0:Below w.heap.size w W0:=by rw [← hW0];exact (Below.refl w.heap.size w).alloc (Nat.le_refl _) _
 have hxx:Blk W0 w.heap.size 27 #[.string zn,.slice A l.length cA,.slice A2 S.length cS]:=by rw [← hW0];exact Blk.new w _ _
 have HXX:=Lib.hid hxx;have hz0:=ZW.mk (he.below hb0) (hs.below hb0) (ha.below hb0 (Nat.le_refl _)) htab (hm.below hb0 (Nat.le_refl _)) hb0.size;have HF:=Lib.hid (right14_any W0 zn _ _ w.heap.size l S hz0 hfm);have HL0:=Lib.hid (hL.below hb0);have HZ0:=Lib.hid hz0;have HB0:=Lib.hid hb0;have HLET:=Lib.hid hlet;clear hb0 hxx he hs hm hlet hfm ha hz0 hL;have HW0:=Lib.hid hW0;clear hW0;unfold worldA at *;go_enter Tryz.func7,Tryz.ntmps7;have x0:=HXX.out.cell 0 (v:=.string zn) rfl;have x1:=HXX.out.cell 1 (v:=.slice A l.length cA) rfl;have x2:=HXX.out.cell 2 (v:=.slice A2 S.length cS) rfl;have hxl:=HXX.out.lt;rw [← HW0.out] at x0 x1 x2 hxl;go_wp2_with fail;rw [HW0.out];try simp only [HW0.out]
 refine HF.out.mono ?_;rintro o w1 ⟨⟨u,v,rfl,hR⟩,hb⟩;clear x0 x1 x2 hxl HW0;have HB1:=Lib.hid hb
 cases hg:goodZ l S with
 | false =>
   clear hR hb HF hg;go_wp2_with fail;refine (fawake_any _ ((HZ0.out.below (HB1.out)).ahead) (Nat.lt_of_lt_of_le ((HZ0.out.below (HB1.out)).tab) ((HZ0.out.below (HB1.out)).le)) ((HZ0.out.below (HB1.out)).maxl)).mono ?_;rintro o_ wz ⟨rfl,hbz⟩;have HBZ:=Lib.hid (HB0.out.trans ((HB1.out).mono HB0.out.size |>.trans (hbz.mono (Nat.le_trans HB0.out.size (HB1.out).size))));clear hbz;go_wp2_with fail;go_ret;exact ⟨rfl,HBZ.out⟩
 | true =>
   have HFZ:=Lib.hid (FewZ.mk (good_iff.1 hg).2 (good_iff.1 hg).1);have HFEW:=Lib.hid (good_iff.1 hg).1;have HGG:=Lib.hid (footZ_good HFZ.out (few_okR HFEW.out) HLET.out);obtain ⟨R,hRZ,hRM,hNE⟩:=hR hg;have HED:=Lib.hid (ended_any w1 zn (.slice A l.length cA) _ w.heap.size S ((HZ0.out.below HB1.out).sets) ((HZ0.out.below HB1.out).le) (fun s hs=>by have:=((few_okR HFEW.out).rul s hs).len;omega));unfold worldA at HED;have HRZ:=Lib.hid hRZ;have HRM:=Lib.hid hRM.toB;have HNE:=Lib.hid hNE;clear hR hb HF hg hRZ hRM hNE;have hxb:=HXX.out.below (HB1.out) HXX.out.lt;have x0:=hxb.cell 0 (v:=.string zn) rfl;have x1:=hxb.cell 1 (v:=.slice A l.length cA) rfl;have x2:=hxb.cell 2 (v:=.slice A2 S.length cS) rfl;have hxl:=hxb.lt;clear hxb
   cases hed:endedB S with
   | false =>
     rw [hed] at HED;clear hed HGG;go_wp2_with fail;refine HED.out.mono ?_;rintro o_ w2 ⟨rfl,hb⟩;have HB2:=Lib.hid (HB1.out.trans (hb.mono HB1.out.size));clear hb x0 x1 x2 hxl HED;go_wp2_with fail;refine (fawake_any _ ((HZ0.out.below (HB2.out)).ahead) (Nat.lt_of_lt_of_le ((HZ0.out.below (HB2.out)).tab) ((HZ0.out.below (HB2.out)).le)) ((HZ0.out.below (HB2.out)).maxl)).mono ?_;rintro o_ wz ⟨rfl,hbz⟩;have HBZ:=Lib.hid (HB0.out.trans ((HB2.out).mono HB0.out.size |>.trans (hbz.mono (Nat.le_trans HB0.out.size (HB2.out).size))));clear hbz;go_wp2_with fail;go_ret;exact ⟨rfl,HBZ.out⟩
   | true =>
     rw [hed] at HED;have HEND:=Lib.hid hed;clear hed
     by_cases h6:6 < L.length
     ·have d6:decide ((6:Int) < (L.length:Int)) = true:=decide_eq_true (by omega);go_wp2_with fail;refine HED.out.mono ?_;rintro o_ w2 ⟨rfl,hb⟩;have HB2:=Lib.hid (HB1.out.trans (hb.mono HB1.out.size));clear hb x0 x1 x2 hxl HED;go_wp2_with fail;refine (fawake_any _ ((HZ0.out.below (HB2.out)).ahead) (Nat.lt_of_lt_of_le ((HZ0.out.below (HB2.out)).tab) ((HZ0.out.below (HB2.out)).le)) ((HZ0.out.below (HB2.out)).maxl)).mono ?_;rintro o_ wz ⟨rfl,hbz⟩;have HBZ:=Lib.hid (HB0.out.trans ((HB2.out).mono HB0.out.size |>.trans (hbz.mono (Nat.le_trans HB0.out.size (HB2.out).size))));clear hbz;go_wp2_with fail;go_ret;exact ⟨rfl,HBZ.out⟩
     ·have d6:decide ((6:Int) < (L.length:Int)) = false:=decide_eq_false (by omega);go_wp2_with fail;refine HED.out.mono ?_;rintro o_ w2 ⟨rfl,hb⟩;have HB2:=Lib.hid (HB1.out.trans (hb.mono HB1.out.size));have HM2:=Lib.hid hb;clear hb x0 x1 x2 hxl HED d6;have hof:=ftof_any zn zn (.slice A l.length cA) (.slice A l.length cA) (.slice A2 S.length cS) w.heap.size l S w2 (HZ0.out.below HB2.out) (few_okR HFEW.out) (fr_few HFEW.out);unfold FootPost at hof;rw [HFZ.out.err] at hof;have HOF:=Lib.hid hof;unfold zoneA setsV worldA at HOF;clear hof;have hxb:=HXX.out.below (HB2.out) HXX.out.lt;have x0:=hxb.cell 0 (v:=.string zn) rfl;have x1:=hxb.cell 1 (v:=.slice A l.length cA) rfl;have x2:=hxb.cell 2 (v:=.slice A2 S.length cS) rfl;have hxl:=hxb.lt;clear hxb;go_wp2_with fail;refine HOF.out.mono ?_;rintro o_ w3 ⟨⟨uf,rfl,how⟩,hb⟩;have HB3:=Lib.hid (HB2.out.trans (hb.mono HB2.out.size));have HM3:=Lib.hid (HM2.out.trans (hb.mono HM2.out.size));have HHW:=Lib.hid (fun all (h:Rep (locZ S l) (footZ S l).since 4070908800 all)=>HoldW.mk (S:=S) (l:=l) (all:=all) HFZ.out HLET.out (ended_rules HEND.out) h);obtain ⟨F,hFF⟩:∃ F,footZ S l = F:=⟨_,rfl⟩;have HG:=HGG;rw [hFF] at HG HHW how ⊢;have HFF:=Lib.hid hFF;clear hFF hb HOF x0 x1 x2 hxl HGG;obtain ⟨Au,cu,rfl⟩:=(Sl.of_own how).form;obtain ⟨sc,ofs,sv,ltr,fm,Rl⟩:=F;have hsc:=HG.out.since;have hof:=HG.out.off;simp only at hsc hof how;unfold footA;simp only;have HF:=Lib.hid (Blk.new w3 54 #[.int .i64 sc,.int .i64 ofs,.int .i64 sv,.string ltr,.string fm,.slice Au Rl.length cu]);have HB:=Lib.hid (HB3.out.alloc HB3.out.size (.cells #[.int .i64 sc,.int .i64 ofs,.int .i64 sv,.string ltr,.string fm,.slice Au Rl.length cu] 54));have HM:=Lib.hid (HM3.out.alloc HM3.out.size (.cells #[.int .i64 sc,.int .i64 ofs,.int .i64 sv,.string ltr,.string fm,.slice Au Rl.length cu] 54));have HO:=Lib.hid (how.alloc (.cells #[.int .i64 sc,.int .i64 ofs,.int .i64 sv,.string ltr,.string fm,.slice Au Rl.length cu] 54));have hs3:=HB3.out.size;clear how HM2 HM3;have hxb:=HXX.out.below (HB3.out) HXX.out.lt;have x0:=hxb.cell 0 (v:=.string zn) rfl;have x1:=hxb.cell 1 (v:=.slice A l.length cA) rfl;have x2:=hxb.cell 2 (v:=.slice A2 S.length cS) rfl;have hxl:=hxb.lt;clear hxb;have HRC:=Lib.hid (fun (W:World) (h:Below W0.heap.size W0 W) (h1:Below w1.heap.size w1 W)=>rchanges_any W zn (.slice A l.length cA) u v w1.heap.size l S R sc 4070908800 ((HZ0.out.below h).eras.more (Nat.le_trans HB0.out.size HB1.out.size)) (HRM.out.below h1) (HNE.out.below h1) h1.size HFZ.out HRZ.out HLET.out);unfold zoneA at HRC;go_wp2_with fail;refine (HRC.out _ HB.out HM.out).mono ?_;rintro o_ w4 ⟨⟨qv,N,rfl,hown,hlen,hN1,hN2⟩,hb⟩;obtain ⟨all,hall⟩:∃ a,outR S l R sc 4070908800 N = a:=⟨_,rfl⟩;have HALL:=Lib.hid hall;rw [hall] at hown hlen;have HN1:=Lib.hid hN1;have HN2:=Lib.hid hN2;have HB4:=Lib.hid (HB.out.trans (hb.mono HB.out.size));have HM4:=Lib.hid (HM.out.trans (hb.mono HM.out.size));have HF4:=Lib.hid (HF.out.below hb HF.out.lt);have HO4:=Lib.hid (ownsRow_below HO.out hb);have HC4:=Lib.hid (show Chgs w4 w4.heap.size qv all from Sl.of_own hown);obtain ⟨Aq,cq,rfl⟩:=(Sl.of_own hown).form;clear hb hown hN1 hN2 hall x0 x1 x2 hxl HRC HF HB HM HO HB3
      have HREP:=Lib.hid (show sc ≤ 3786912000→HoldW S l all from fun hs=>by
       refine HHW.out all ?_
       have h1:=outR_eq HFZ.out HRZ.out HN1.out HN2.out (fr:=sc) (to:=4070908800) (by omega) (by omega) (by omega)
       rw [HALL.out] at h1
       rw [h1]
       have h2:=changes_rep HFZ.out (fr:=sc) (to:=4070908800) (by omega) (by omega)
       rwa [show max sc (-2199023255552) = sc by omega] at h2)
      go_wp2_with fail
      go_loopw [11] (fun iv wr=>∃ q:Nat,q ≤ L.length∧iv = .int .i64 q∧Below w4.heap.size w4 wr) (fun iv _=>L.length - (intOf iv).toNat)
      case atStart=>exact ⟨0,Nat.zero_le _,rfl,Below.refl _ _⟩
      case round =>
       obtain ⟨q,hq,rfl,hbi⟩:=hrel;have HBI:=Lib.hid hbi;have HB7:=Lib.hid (HB4.out.trans (hbi.mono HB4.out.size));have HM7:=Lib.hid (HM4.out.trans (hbi.mono HM4.out.size));have HF7:=Lib.hid (HF4.out.below hbi HF4.out.lt);clear hbi
       by_cases hlq:q < L.length
       ·have hdq:decide ((q:Int) < (L.length:Int)) = true:=decide_eq_true (by omega);have hdqn:decide (q < L.length) = true:=decide_eq_true hlq;have hqi:(q:Int) < (L.length:Int):=by omega
        obtain ⟨bl,ol,cl',e,hbl,hcl⟩:=(HL0.out.below (HB7.out.mono HB0.out.size)).cells (by omega)
        cases e
        have lc:=hcl q hlq;obtain ⟨x,hx⟩:∃ i,L[q] = i:=⟨_,rfl⟩;rw [hx] at lc;have hblw:bl < wr.heap.size:=by have:=HB7.out.size;have:=HB0.out.size;omega
        have HCL:=Lib.hid (fun (W:World) (h:Below wr.heap.size wr W)=>show W.cell? ⟨bl,ol + q,none⟩ = some (.int .i64 x) from (h.cell (p:=⟨bl,ol + q,none⟩) hblw).trans lc);clear hcl hx;have HNR:=Lib.hid (near_any x wr)
        cases hnr:nearB x with
        | false =>
          rw [hnr] at HNR;clear hnr;go_wp2_with fail;refine HNR.out.mono ?_;rintro o_ wr ⟨rfl,rfl⟩;go_wp2_with fail;go_roundw
          case rel=>exact ⟨q + 1,by omega,by go_num,HBI.out⟩
          case measure=>first | (simp [intOf];done) | (simp [intOf];omega)
        | true =>
          rw [hnr] at HNR;have hn1:-2366841600 < x∧x < 3944678400:=by unfold nearB at hnr;rwa [decide_eq_true_eq] at hnr
          clear hnr
          by_cases hx9:3786912000 < x
          ·have d9:decide (3786912000 < x) = true:=decide_eq_true hx9;go_wp2_with fail;refine HNR.out.mono ?_;rintro o_ wr ⟨rfl,rfl⟩;go_wp2_with fail;go_roundw
           case rel=>exact ⟨q + 1,by omega,by go_num,HBI.out⟩
           case measure=>first | (simp [intOf];done) | (simp [intOf];omega)
          ·have d9:decide (3786912000 < x) = false:=decide_eq_false hx9;have HAT:=Lib.hid (fun (W:World) (h:Below wr.heap.size wr W)=>fat_any W w4.heap.size (.slice Au Rl.length cu) ⟨sc,ofs,sv,ltr,fm,Rl⟩ x ((HZ0.out.below (HB7.out.trans (h.mono HB7.out.size))).maxl) (RW.mk (Sl.below (Sl.of_own HO4.out) (HBI.out.trans (h.mono HBI.out.size))) ((HZ0.out.below (HB7.out.trans (h.mono HB7.out.size))).ahead) (by have h1:=HZ0.out.tab;have h2:=HZ0.out.le;have h3:=HB4.out.size;omega) (Nat.le_trans HBI.out.size h.size)) HG.out.footOk);unfold footA at HAT;simp only at HAT
           by_cases hxs:x < sc
           ·have hv:fatV ⟨sc,ofs,sv,ltr,fm,Rl⟩ x = .tuple #[.agg #[.int .i64 0,.bool false,.string ⟨#[]⟩],.int .i64 16]:=by unfold fatV;rw [if_pos hxs]
            rw [hv] at HAT;have d7:decide (x < sc) = true:=decide_eq_true hxs;clear hv;go_wp2_with fail;refine HNR.out.mono ?_;rintro o_ wr ⟨rfl,rfl⟩;go_wp2_with fail
            refine wp_envA (fin:=?fnla) (by kernel_rfl) [75,76,77,78,79,80,74,81,82,12,999,13]
             [.agg #[.int .i64 sc,.int .i64 ofs,.int .i64 sv,.string ltr,.string fm,.slice Au Rl.length cu],.slice (some ⟨bl,ol,none⟩) L.length cL,.int .i64 q,.pointer (some ⟨bl,ol + q,none⟩),.int .i64 x,.tuple #[.agg #[.int .i64 0,.bool false,.string ⟨#[]⟩],.int .i64 16],.tuple #[.agg #[.int .i64 0,.bool false,.string ⟨#[]⟩],.int .i64 16],.agg #[.int .i64 0,.bool false,.string ⟨#[]⟩],.int .i64 16,undef,undef,.int .i64 16] 9 10 48 #[.int .i64 0,.bool false,.string ⟨#[]⟩] #[.int .i64 0,.bool false,.string ⟨#[]⟩] (by kernel_rfl) (by simp) (by decide) ?finla ?stepsla ?nextla
            case finla =>
             intro p_;simp only [List.set_cons_succ,List.set_cons_zero,putAll,Act.put,List.setIfInBounds_toArray,List.set_nil]
             rfl
            case stepsla =>
             refine ⟨?_,?_,?_,?_,?_,?_,?_,?_,?_,?alla,?stla,?_,trivial⟩
             case alla =>
              refine ⟨fun p_=>by kernel_rfl,fun p_ w1_ hB_=>?_⟩
              first | rfl | (go_simp;done) | (go_simp;rfl)
             case stla =>
              refine ⟨fun p_=>by kernel_rfl,fun b_ w1_ hb_=>⟨(((w1_.setCell ⟨b_,0,none⟩ (.int .i64 0)).setCell ⟨b_,1,none⟩ (.bool false)).setCell ⟨b_,2,none⟩ (.string ⟨#[]⟩)),?_,((Fr.setCell (T:=fun k=>k = b_) w1_ 0 (.int .i64 0) rfl).then (Fr.setCell _ 1 _ rfl)).then (Fr.setCell _ 2 _ rfl),(((hb_.set 0 (.int .i64 0)).set 1 (.bool false)).set 2 (.string ⟨#[]⟩))⟩⟩;have f0_:=Blk.frozen hb_ 0;have f1_:=Blk.frozen hb_ 1;have f2_:=Blk.frozen hb_ 2;have z0_:=Blk.cell hb_ 0 (v:=.int .i64 0) rfl;have z1_:=Blk.cell hb_ 1 (v:=.bool false) rfl;have z2_:=Blk.cell hb_ 2 (v:=.string ⟨#[]⟩) rfl;go_simp;try rfl
             all_goals
              intro p_;refine .inr ⟨by kernel_rfl,fun w1_ hB_=>?_⟩;have hw_:=(Below.refl wr.heap.size wr).trans (hB_.mono (Below.refl wr.heap.size wr).size);have hf_:=HF7.out.below hw_ HF7.out.lt;have fc0_:=hf_.cell 0 (v:=.int .i64 sc) rfl;have fc1_:=hf_.cell 1 (v:=.int .i64 ofs) rfl;have fc2_:=hf_.cell 2 (v:=.int .i64 sv) rfl;have fc3_:=hf_.cell 3 (v:=.string ltr) rfl;have fc4_:=hf_.cell 4 (v:=.string fm) rfl;have fc5_:=hf_.cell 5 (v:=.slice Au Rl.length cu) rfl;have lc_:=HCL.out _ hw_;go_simp
              first
               | exact ⟨rfl,Below.refl _ _⟩
               | exact ⟨rfl,HAT.out _ hw_⟩
               | ((first | rw [decide_eq_true (by omega)] | rw [decide_eq_false (by omega)] | rw [if_pos (by omega)] | rw [IntWalk.i64_in _ (by omega)]);exact ⟨rfl,Below.refl _ _⟩)
               | done
            case nextla =>
            intro xb w8 hb8 hxb8 hX8;have HW8:=Lib.hid hb8;have HX8:=Lib.hid hX8;clear hb8 hxb8 hX8;go_wp2_with fail
            refine wp_env (fin:=?fnlb) (by kernel_rfl) [83,84,85,86,87,88,89]
             [.slice (some ⟨bl,ol,none⟩) L.length cL,.int .i64 q,.pointer (some ⟨bl,ol + q,none⟩),.int .i64 x,.pointer (some ⟨w3.heap.size,0,none⟩),.int .i64 sc,.bool true] (by kernel_rfl) ?finlb ?stepslb ?nextlb
            case finlb =>
             simp only [putAll,Act.put,List.setIfInBounds_toArray,List.set_cons_succ,List.set_cons_zero]
             rfl
            case stepslb =>
             refine ⟨?_,?_,?_,?_,?_,?_,?_,trivial⟩
             all_goals refine .inr ⟨by kernel_rfl,fun w1_ hB_=>?_⟩
             all_goals
              have hw_:=HW8.out.trans (hB_.mono HW8.out.size);have hf_:=HF7.out.below hw_ HF7.out.lt;have fc0_:=hf_.cell 0 (v:=.int .i64 sc) rfl;have fc1_:=hf_.cell 1 (v:=.int .i64 ofs) rfl;have fc2_:=hf_.cell 2 (v:=.int .i64 sv) rfl;have fc3_:=hf_.cell 3 (v:=.string ltr) rfl;have fc4_:=hf_.cell 4 (v:=.string fm) rfl;have fc5_:=hf_.cell 5 (v:=.slice Au Rl.length cu) rfl;have lc_:=HCL.out _ hw_;go_simp
              first
               | exact ⟨rfl,Below.refl _ _⟩
               | ((first | rw [decide_eq_true (by omega)] | rw [decide_eq_false (by omega)] | rw [if_pos (by omega)] | rw [IntWalk.i64_in _ (by omega)]);exact ⟨rfl,Below.refl _ _⟩)
               | done
            case nextlb =>
            intro w9 hb9;have HX9:=Lib.hid (HX8.out.below hb9 HX8.out.lt);have HW9:=Lib.hid (HW8.out.trans (hb9.mono HW8.out.size));clear hb9;have n0:=HX9.out.cell 0 (v:=.int .i64 0) rfl;have n1:=HX9.out.cell 1 (v:=.bool false) rfl;have n2:=HX9.out.cell 2 (v:=.string ⟨#[]⟩) rfl;have nl:=HX9.out.lt;go_wp2_with fail;go_roundw
            case rel=>exact ⟨q + 1,by omega,by go_num,(HBI.out.trans (HW9.out.mono HBI.out.size))⟩
            case measure=>first | (simp [intOf];done) | (simp [intOf];omega)
           ·have d7:decide (x < sc) = false:=decide_eq_false hxs;have HHH:=Lib.hid (HREP.out (by omega));have hv:=fatV_good HG.out (i:=x) (by show sc ≤ x;omega) (by omega);obtain ⟨⟨no,nd,ns⟩,hnow⟩:∃ y,locF ⟨sc,ofs,sv,ltr,fm,Rl⟩ x = y:=⟨_,rfl⟩;rw [hnow] at hv;rw [hv] at HAT;unfold locA at HAT;simp only at HAT
            have hrz:refZ S l R x = ⟨no,nd,ns⟩:=by
             have h1:=HHH.out.loc (i:=x) (by rw [HFF.out];show sc ≤ x;omega) (by omega);rw [HFF.out,hnow] at h1;rw [refZ_eq HFZ.out HRZ.out (by omega) (by omega),h1]
            have HRA:=Lib.hid (fun (W:World) (h:Below wr.heap.size wr W)=>rat_any W zn (.slice A l.length cA) u v w1.heap.size l S R x ((HZ0.out.below (HB7.out.trans (h.mono HB7.out.size))).eras.more (Nat.le_trans HB0.out.size HB1.out.size)) (HRM.out.below (HM7.out.trans (h.mono HM7.out.size))) (HNE.out.below (HM7.out.trans (h.mono HM7.out.size))) ((HM7.out.trans (h.mono HM7.out.size))).size HFZ.out HRZ.out HLET.out);rw [hrz] at HRA;unfold zoneA locA at HRA;simp only at HRA;have HCH:=Lib.hid (fun (W:World) (h:Below wr.heap.size wr W)=>HC4.out.below (HBI.out.trans (h.mono HBI.out.size)));have HLA:=Lib.hid (fun (W:World) (h:Below wr.heap.size wr W)=>last_any W w4.heap.size (.slice Aq all.length cq) all x (HCH.out W h) HHH.out.rising);have HNX:=Lib.hid (fun (W:World) (h:Below wr.heap.size wr W)=>fnext_any W w4.heap.size (.slice Au Rl.length cu) ⟨sc,ofs,sv,ltr,fm,Rl⟩ x ((HZ0.out.below (HB7.out.trans (h.mono HB7.out.size))).maxl) (RW.mk (Sl.below (Sl.of_own HO4.out) (HBI.out.trans (h.mono HBI.out.size))) ((HZ0.out.below (HB7.out.trans (h.mono HB7.out.size))).ahead) (by have h1:=HZ0.out.tab;have h2:=HZ0.out.le;have h3:=HB4.out.size;omega) (Nat.le_trans HBI.out.size h.size)) HG.out (show sc ≤ 9000000000000000000 by omega) (by omega));have HPV:=Lib.hid (fun (W:World) (h:Below wr.heap.size wr W)=>fprev_any W w4.heap.size (.slice Au Rl.length cu) ⟨sc,ofs,sv,ltr,fm,Rl⟩ x ((HZ0.out.below (HB7.out.trans (h.mono HB7.out.size))).maxl) (RW.mk (Sl.below (Sl.of_own HO4.out) (HBI.out.trans (h.mono HBI.out.size))) ((HZ0.out.below (HB7.out.trans (h.mono HB7.out.size))).ahead) (by have h1:=HZ0.out.tab;have h2:=HZ0.out.le;have h3:=HB4.out.size;omega) (Nat.le_trans HBI.out.size h.size)) HG.out (show sc ≤ 9000000000000000000 by omega) (by omega));unfold footA at HNX HPV;simp only at HNX HPV;have hnp:=HHH.out.next (x:=x) (by rw [HFF.out];show sc ≤ x;omega) (by omega);have hpp:=HHH.out.prev (x:=x) (by omega);rw [HFF.out] at hnp hpp;have HBL:=Lib.hid (bh_le all x);obtain ⟨m,hm⟩:∃ m,bh all x = m:=⟨_,rfl⟩;rw [hm] at hnp hpp HLA HBL;have hle:=HBL.out;clear hv hnow hrz hm HREP;have HMB:=Lib.hid (show -9223372036854775808 ≤ (m:Int)∧(m:Int) ≤ 9223372036854775807 by omega);have HNP:=Lib.hid hnp;have HPP:=Lib.hid hpp;obtain ⟨kk,hkk⟩:∃ k,((m:Nat):Int) - 1 = k:=⟨_,rfl⟩;rw [hkk] at HLA;have HKK:=Lib.hid hkk;clear hnp hpp HHH hkk;go_wp2_with fail;refine HNR.out.mono ?_;rintro o_ wr ⟨rfl,rfl⟩;go_wp2_with fail
            refine wp_envA (fin:=?fnha) (by kernel_rfl) [75,76,77,78,79,80,74,81,82,12,999,13]
             [.agg #[.int .i64 sc,.int .i64 ofs,.int .i64 sv,.string ltr,.string fm,.slice Au Rl.length cu],.slice (some ⟨bl,ol,none⟩) L.length cL,.int .i64 q,.pointer (some ⟨bl,ol + q,none⟩),.int .i64 x,.tuple #[.agg #[.int .i64 no,.bool nd,.string ns],.int .i64 0],.tuple #[.agg #[.int .i64 no,.bool nd,.string ns],.int .i64 0],.agg #[.int .i64 no,.bool nd,.string ns],.int .i64 0,undef,undef,.int .i64 0] 9 10 48 #[.int .i64 0,.bool false,.string ⟨#[]⟩] #[.int .i64 no,.bool nd,.string ns] (by kernel_rfl) (by simp) (by decide) ?finha ?stepsha ?nextha
            case finha =>
             intro p_;simp only [List.set_cons_succ,List.set_cons_zero,putAll,Act.put,List.setIfInBounds_toArray,List.set_nil]
             rfl
            case stepsha =>
             refine ⟨?_,?_,?_,?_,?_,?_,?_,?_,?_,?alha,?stha,?_,trivial⟩
             case alha =>
              refine ⟨fun p_=>by kernel_rfl,fun p_ w1_ hB_=>?_⟩
              first | rfl | (go_simp;done) | (go_simp;rfl)
             case stha =>
              refine ⟨fun p_=>by kernel_rfl,fun b_ w1_ hb_=>⟨(((w1_.setCell ⟨b_,0,none⟩ (.int .i64 no)).setCell ⟨b_,1,none⟩ (.bool nd)).setCell ⟨b_,2,none⟩ (.string ns)),?_,((Fr.setCell (T:=fun k=>k = b_) w1_ 0 (.int .i64 no) rfl).then (Fr.setCell _ 1 _ rfl)).then (Fr.setCell _ 2 _ rfl),(((hb_.set 0 (.int .i64 no)).set 1 (.bool nd)).set 2 (.string ns))⟩⟩;have f0_:=Blk.frozen hb_ 0;have f1_:=Blk.frozen hb_ 1;have f2_:=Blk.frozen hb_ 2;have z0_:=Blk.cell hb_ 0 (v:=.int .i64 0) rfl;have z1_:=Blk.cell hb_ 1 (v:=.bool false) rfl;have z2_:=Blk.cell hb_ 2 (v:=.string ⟨#[]⟩) rfl;go_simp;try rfl
             all_goals
              intro p_;refine .inr ⟨by kernel_rfl,fun w1_ hB_=>?_⟩;have hw_:=(Below.refl wr.heap.size wr).trans (hB_.mono (Below.refl wr.heap.size wr).size);have hf_:=HF7.out.below hw_ HF7.out.lt;have fc0_:=hf_.cell 0 (v:=.int .i64 sc) rfl;have fc1_:=hf_.cell 1 (v:=.int .i64 ofs) rfl;have fc2_:=hf_.cell 2 (v:=.int .i64 sv) rfl;have fc3_:=hf_.cell 3 (v:=.string ltr) rfl;have fc4_:=hf_.cell 4 (v:=.string fm) rfl;have fc5_:=hf_.cell 5 (v:=.slice Au Rl.length cu) rfl;have lc_:=HCL.out _ hw_;go_simp
              first
               | exact ⟨rfl,Below.refl _ _⟩
               | exact ⟨rfl,HAT.out _ hw_⟩
               | ((first | rw [decide_eq_true (by omega)] | rw [decide_eq_false (by omega)] | rw [if_pos (by omega)] | rw [IntWalk.i64_in _ (by omega)]);exact ⟨rfl,Below.refl _ _⟩)
               | done
            case nextha =>
            intro na w8 hb8 hxb8 hX8;have HW8:=Lib.hid hb8;have HX8:=Lib.hid hX8;clear hb8 hxb8 hX8 lc;go_wp2_with fail
            refine wp_env (fin:=?fnhb) (by kernel_rfl) [83,84,85,86,87,88,89]
             [.slice (some ⟨bl,ol,none⟩) L.length cL,.int .i64 q,.pointer (some ⟨bl,ol + q,none⟩),.int .i64 x,.pointer (some ⟨w3.heap.size,0,none⟩),.int .i64 sc,.bool false] (by kernel_rfl) ?finhb ?stepshb ?nexthb
            case finhb =>
             simp only [putAll,Act.put,List.setIfInBounds_toArray,List.set_cons_succ,List.set_cons_zero]
             rfl
            case stepshb =>
             refine ⟨?_,?_,?_,?_,?_,?_,?_,trivial⟩
             all_goals refine .inr ⟨by kernel_rfl,fun w1_ hB_=>?_⟩
             all_goals
              have hw_:=HW8.out.trans (hB_.mono HW8.out.size);have hf_:=HF7.out.below hw_ HF7.out.lt;have fc0_:=hf_.cell 0 (v:=.int .i64 sc) rfl;have fc1_:=hf_.cell 1 (v:=.int .i64 ofs) rfl;have fc2_:=hf_.cell 2 (v:=.int .i64 sv) rfl;have fc3_:=hf_.cell 3 (v:=.string ltr) rfl;have fc4_:=hf_.cell 4 (v:=.string fm) rfl;have fc5_:=hf_.cell 5 (v:=.slice Au Rl.length cu) rfl;have lc_:=HCL.out _ hw_;go_simp
              first
               | exact ⟨rfl,Below.refl _ _⟩
               | ((first | rw [decide_eq_true (by omega)] | rw [decide_eq_false (by omega)] | rw [if_pos (by omega)] | rw [IntWalk.i64_in _ (by omega)]);exact ⟨rfl,Below.refl _ _⟩)
               | done
            case nexthb =>
            intro w9 hb9;have HX9:=Lib.hid (HX8.out.below hb9 HX8.out.lt);have HW9:=Lib.hid (HW8.out.trans (hb9.mono HW8.out.size));clear hb9 HX8 HW8;go_wp2_with fail
            refine wp_env (fin:=?fnhc) (by kernel_rfl) [97,98,99,100,101,102,103,104,105,106,107,108,109,110,111]
             [.int .i64 0,.bool false,.bool false,.agg #[.int .i64 no,.bool nd,.string ns],.pointer (some ⟨w.heap.size,0,none⟩),.agg #[.string zn,.slice A l.length cA],u,v,.slice (some ⟨bl,ol,none⟩) L.length cL,.int .i64 q,.pointer (some ⟨bl,ol + q,none⟩),.int .i64 x,.agg #[.int .i64 no,.bool nd,.string ns],.bool false,.bool false] (by kernel_rfl) ?finhc ?stepshc ?nexthc
            case finhc =>
             simp only [putAll,Act.put,List.setIfInBounds_toArray,List.set_cons_succ,List.set_cons_zero]
             rfl
            case stepshc =>
             refine ⟨?_,?_,?_,?_,?_,?_,?_,?_,?_,?_,?_,?_,?_,?_,?_,trivial⟩
             all_goals refine .inr ⟨by kernel_rfl,fun w1_ hB_=>?_⟩
             all_goals
              have hw_:=HW9.out.trans (hB_.mono HW9.out.size);have hf_:=HF7.out.below hw_ HF7.out.lt;have fc0_:=hf_.cell 0 (v:=.int .i64 sc) rfl;have fc1_:=hf_.cell 1 (v:=.int .i64 ofs) rfl;have fc2_:=hf_.cell 2 (v:=.int .i64 sv) rfl;have fc3_:=hf_.cell 3 (v:=.string ltr) rfl;have fc4_:=hf_.cell 4 (v:=.string fm) rfl;have fc5_:=hf_.cell 5 (v:=.slice Au Rl.length cu) rfl;have lc_:=HCL.out _ hw_;have hn_:=HX9.out.below hB_ HX9.out.lt;have n0_:=hn_.cell 0 (v:=.int .i64 no) rfl;have n1_:=hn_.cell 1 (v:=.bool nd) rfl;have n2_:=hn_.cell 2 (v:=.string ns) rfl;have hxb_:=HXX.out.below (HB7.out.trans (hw_.mono HB7.out.size)) HXX.out.lt;have x0_:=hxb_.cell 0 (v:=.string zn) rfl;have x1_:=hxb_.cell 1 (v:=.slice A l.length cA) rfl;have x2_:=hxb_.cell 2 (v:=.slice A2 S.length cS) rfl;go_simp
              first
               | exact ⟨rfl,Below.refl _ _⟩
               | exact ⟨rfl,HRA.out _ hw_⟩
               | ((first | rw [decide_eq_true (by omega)] | rw [decide_eq_false (by omega)] | rw [if_pos (by omega)] | rw [IntWalk.i64_in _ (by omega)]);exact ⟨rfl,Below.refl _ _⟩)
               | done
            case nexthc =>
            intro w10 hb10;have HW10:=Lib.hid (HW9.out.trans (hb10.mono HW9.out.size));clear hb10 HW9 HX9;have lc:=HCL.out _ HW10.out;have hbl10:bl < w10.heap.size:=Nat.lt_of_lt_of_le hblw HW10.out.size;go_wp2_with fail;refine (HLA.out _ HW10.out).mono ?_;rintro o_ w10 ⟨rfl,rfl⟩;clear lc HLA HRA HAT;go_wp2_with fail
            cases hnx:nextF ⟨sc,ofs,sv,ltr,fm,Rl⟩ x with
            | none =>
              as_aux_lemma =>
               rw [hnx] at HNX;unfold chgO at HNX;simp only at HNX;have HML:=Lib.hid (HNP.out.2 hnx);clear hnx HNP
               refine wp_envA (fin:=?fnhdn) (by kernel_rfl) [119,120,121,122,123,124,118,125,126,15,999,16]
                [.agg #[.int .i64 sc,.int .i64 ofs,.int .i64 sv,.string ltr,.string fm,.slice Au Rl.length cu],.slice (some ⟨bl,ol,none⟩) L.length cL,.int .i64 q,.pointer (some ⟨bl,ol + q,none⟩),.int .i64 x,.tuple #[.agg #[.int .i64 0,.int .i64 0,.bool false,.string ⟨#[]⟩],.bool false],.tuple #[.agg #[.int .i64 0,.int .i64 0,.bool false,.string ⟨#[]⟩],.bool false],.agg #[.int .i64 0,.int .i64 0,.bool false,.string ⟨#[]⟩],.bool false,undef,undef,.bool false] 9 10 76 #[.int .i64 0,.int .i64 0,.bool false,.string ⟨#[]⟩] #[.int .i64 0,.int .i64 0,.bool false,.string ⟨#[]⟩] (by kernel_rfl) (by simp) (by decide) ?finhdn ?stepshdn ?nexthdn
               case finhdn =>
                intro p_;simp only [List.set_cons_succ,List.set_cons_zero,putAll,Act.put,List.setIfInBounds_toArray,List.set_nil]
                rfl
               case stepshdn =>
                refine ⟨?_,?_,?_,?_,?_,?_,?_,?_,?_,?alhdn,?sthdn,?_,trivial⟩
                case alhdn =>
                 refine ⟨fun p_=>by kernel_rfl,fun p_ w1_ hB_=>?_⟩
                 first | rfl | (go_simp;done) | (go_simp;rfl)
                case sthdn =>
                 refine ⟨fun p_=>by kernel_rfl,fun b_ w1_ hb_=>⟨((((w1_.setCell ⟨b_,0,none⟩ (.int .i64 0)).setCell ⟨b_,1,none⟩ (.int .i64 0)).setCell ⟨b_,2,none⟩ (.bool false)).setCell ⟨b_,3,none⟩ (.string ⟨#[]⟩)),?_,(((Fr.setCell (T:=fun k=>k = b_) w1_ 0 (.int .i64 0) rfl).then (Fr.setCell _ 1 _ rfl)).then (Fr.setCell _ 2 _ rfl)).then (Fr.setCell _ 3 _ rfl),((((hb_.set 0 (.int .i64 0)).set 1 (.int .i64 0)).set 2 (.bool false)).set 3 (.string ⟨#[]⟩))⟩⟩;have f0_:=Blk.frozen hb_ 0;have f1_:=Blk.frozen hb_ 1;have f2_:=Blk.frozen hb_ 2;have f3_:=Blk.frozen hb_ 3;have z0_:=Blk.cell hb_ 0 (v:=.int .i64 0) rfl;have z1_:=Blk.cell hb_ 1 (v:=.int .i64 0) rfl;have z2_:=Blk.cell hb_ 2 (v:=.bool false) rfl;have z3_:=Blk.cell hb_ 3 (v:=.string ⟨#[]⟩) rfl;go_simp;try rfl
                all_goals
                 intro p_;refine .inr ⟨by kernel_rfl,fun w1_ hB_=>?_⟩;have hw_:=HW10.out.trans (hB_.mono HW10.out.size);have hf_:=HF7.out.below hw_ HF7.out.lt;have fc0_:=hf_.cell 0 (v:=.int .i64 sc) rfl;have fc1_:=hf_.cell 1 (v:=.int .i64 ofs) rfl;have fc2_:=hf_.cell 2 (v:=.int .i64 sv) rfl;have fc3_:=hf_.cell 3 (v:=.string ltr) rfl;have fc4_:=hf_.cell 4 (v:=.string fm) rfl;have fc5_:=hf_.cell 5 (v:=.slice Au Rl.length cu) rfl;have lc_:=HCL.out _ hw_;go_simp
                 first
                  | exact ⟨rfl,Below.refl _ _⟩
                  | exact ⟨rfl,HNX.out _ hw_⟩
                  | ((first | rw [decide_eq_true (by omega)] | rw [decide_eq_false (by omega)] | rw [if_pos (by omega)] | rw [IntWalk.i64_in _ (by omega)]);exact ⟨rfl,Below.refl _ _⟩)
                  | done
               case nexthdn =>
               intro nb w11 hb11 hxb11 hX11;have HW11:=Lib.hid (HW10.out.trans (hb11.mono HW10.out.size));have HX11:=Lib.hid hX11;clear hb11 hxb11 hX11 HW10 HNX;go_wp2_with fail
               cases hpv:prevF ⟨sc,ofs,sv,ltr,fm,Rl⟩ x with
               | none =>
                 as_aux_lemma =>
                  rw [hpv] at HPV;unfold chgO at HPV;simp only at HPV;have HM0:=Lib.hid (HPP.out.2 hpv);clear hpv HPP
                  refine wp_envA (fin:=?fnhenn) (by kernel_rfl) [128,129,130,131,132,133,127,134,135,17,999,18]
                   [.agg #[.int .i64 sc,.int .i64 ofs,.int .i64 sv,.string ltr,.string fm,.slice Au Rl.length cu],.slice (some ⟨bl,ol,none⟩) L.length cL,.int .i64 q,.pointer (some ⟨bl,ol + q,none⟩),.int .i64 x,.tuple #[.agg #[.int .i64 0,.int .i64 0,.bool false,.string ⟨#[]⟩],.bool false],.tuple #[.agg #[.int .i64 0,.int .i64 0,.bool false,.string ⟨#[]⟩],.bool false],.agg #[.int .i64 0,.int .i64 0,.bool false,.string ⟨#[]⟩],.bool false,undef,undef,.bool false] 9 10 76 #[.int .i64 0,.int .i64 0,.bool false,.string ⟨#[]⟩] #[.int .i64 0,.int .i64 0,.bool false,.string ⟨#[]⟩] (by kernel_rfl) (by simp) (by decide) ?finhenn ?stepshenn ?nexthenn
                  case finhenn =>
                   intro p_;simp only [List.set_cons_succ,List.set_cons_zero,putAll,Act.put,List.setIfInBounds_toArray,List.set_nil]
                   rfl
                  case stepshenn =>
                   refine ⟨?_,?_,?_,?_,?_,?_,?_,?_,?_,?alhenn,?sthenn,?_,trivial⟩
                   case alhenn =>
                    refine ⟨fun p_=>by kernel_rfl,fun p_ w1_ hB_=>?_⟩
                    first | rfl | (go_simp;done) | (go_simp;rfl)
                   case sthenn =>
                    refine ⟨fun p_=>by kernel_rfl,fun b_ w1_ hb_=>⟨((((w1_.setCell ⟨b_,0,none⟩ (.int .i64 0)).setCell ⟨b_,1,none⟩ (.int .i64 0)).setCell ⟨b_,2,none⟩ (.bool false)).setCell ⟨b_,3,none⟩ (.string ⟨#[]⟩)),?_,(((Fr.setCell (T:=fun k=>k = b_) w1_ 0 (.int .i64 0) rfl).then (Fr.setCell _ 1 _ rfl)).then (Fr.setCell _ 2 _ rfl)).then (Fr.setCell _ 3 _ rfl),((((hb_.set 0 (.int .i64 0)).set 1 (.int .i64 0)).set 2 (.bool false)).set 3 (.string ⟨#[]⟩))⟩⟩;have f0_:=Blk.frozen hb_ 0;have f1_:=Blk.frozen hb_ 1;have f2_:=Blk.frozen hb_ 2;have f3_:=Blk.frozen hb_ 3;have z0_:=Blk.cell hb_ 0 (v:=.int .i64 0) rfl;have z1_:=Blk.cell hb_ 1 (v:=.int .i64 0) rfl;have z2_:=Blk.cell hb_ 2 (v:=.bool false) rfl;have z3_:=Blk.cell hb_ 3 (v:=.string ⟨#[]⟩) rfl;go_simp;try rfl
                   all_goals
                    intro p_;refine .inr ⟨by kernel_rfl,fun w1_ hB_=>?_⟩;have hw_:=HW11.out.trans (hB_.mono HW11.out.size);have hf_:=HF7.out.below hw_ HF7.out.lt;have fc0_:=hf_.cell 0 (v:=.int .i64 sc) rfl;have fc1_:=hf_.cell 1 (v:=.int .i64 ofs) rfl;have fc2_:=hf_.cell 2 (v:=.int .i64 sv) rfl;have fc3_:=hf_.cell 3 (v:=.string ltr) rfl;have fc4_:=hf_.cell 4 (v:=.string fm) rfl;have fc5_:=hf_.cell 5 (v:=.slice Au Rl.length cu) rfl;have lc_:=HCL.out _ hw_;go_simp
                    first
                     | exact ⟨rfl,Below.refl _ _⟩
                     | exact ⟨rfl,HPV.out _ hw_⟩
                     | ((first | rw [decide_eq_true (by omega)] | rw [decide_eq_false (by omega)] | rw [if_pos (by omega)] | rw [IntWalk.i64_in _ (by omega)]);exact ⟨rfl,Below.refl _ _⟩)
                     | done
                  case nexthenn =>
                  intro pb w12 hb12 hxb12 hX12;have HW12:=Lib.hid (HW11.out.trans (hb12.mono HW11.out.size));have HX12:=Lib.hid (HX11.out.below hb12 HX11.out.lt);have HY12:=Lib.hid hX12;clear hb12 hxb12 hX12 HW11 HX11 HPV;go_wp2_with fail
                  as_aux_lemma =>
                   have hk1:kk + 1 = (m:Int):=by have:=HKK.out;omega
                   have hk0:kk < 0:=by have:=HM0.out;omega
                   have hk2:-10 < kk:=by omega
                   have HNL:=Lib.hid (show ¬ m < all.length by have:=HML.out;omega);have HK0:=Lib.hid (show ¬ 0 ≤ kk by omega)
                   refine wp_env (fin:=?fnhfnn) (by kernel_rfl) [136,137,138,139,140,141,142,143,144,145,146,147,148,149,150,151,152,153,154,155,156,157,158,159,160,161,162,163,164,165,166,167,168]
                    [.bool false,.bool false,undef,undef,undef,.bool false,.bool false,undef,undef,undef,undef,undef,undef,undef,undef,undef,undef,undef,undef,undef,undef,.bool false,.bool false,.bool false,.bool true,.bool true,.int .i64 kk,.int .i64 m,.slice Aq all.length cq,.int .i64 all.length,.bool false,.bool false,.bool false] (by kernel_rfl) ?finhfnn ?stepshfnn ?nexthfnn
                   case finhfnn =>
                    simp only [putAll,Act.put,List.setIfInBounds_toArray,List.set_cons_succ,List.set_cons_zero]
                    rfl
                   case stepshfnn =>
                    refine ⟨?_,?_,?_,?_,?_,?_,?_,?_,?_,?_,?_,?_,?_,?_,?_,?_,?_,?_,?_,?_,?_,?_,?_,?_,?_,?_,?_,?_,?_,?_,?_,?_,?_,trivial⟩
                    all_goals first | exact .inl ⟨by kernel_rfl,rfl⟩ | refine .inr ⟨by kernel_rfl,fun w1_ hB_=>?_⟩
                    all_goals
                     have hw_:=HW12.out.trans (hB_.mono HW12.out.size);have hx_:=HX12.out.below hB_ HX12.out.lt;have x0_:=hx_.cell 0 (v:=.int .i64 0) rfl;have x1_:=hx_.cell 1 (v:=.int .i64 0) rfl;have x2_:=hx_.cell 2 (v:=.bool false) rfl;have x3_:=hx_.cell 3 (v:=.string ⟨#[]⟩) rfl;go_simp
                     first
                      | exact ⟨rfl,Below.refl _ _⟩
                      | (rw [IntWalk.i64_in _ HMB.out];exact ⟨rfl,Below.refl _ _⟩)
                      | (rw [decide_eq_false HNL.out];exact ⟨rfl,Below.refl _ _⟩)
                      | ((first | rw [decide_eq_true (by omega)] | rw [decide_eq_false (by omega)] | rw [if_pos (by omega)] | rw [IntWalk.i64_in _ (by omega)]);exact ⟨rfl,Below.refl _ _⟩)
                      | done
                   case nexthfnn =>
                   intro w13 hb13;have HW13:=Lib.hid (HW12.out.trans (hb13.mono HW12.out.size));have HY13:=Lib.hid (HY12.out.below hb13 HY12.out.lt);clear hb13 HW12 HX12 HY12;go_wp2_with fail
                   refine wp_env (fin:=?fnhgnn) (by kernel_rfl) [169,170,171,172,173,174,175,176,177,178,179,180,181,182,183,184,185,186,187,188,189,190,191,192]
                    [.bool false,.int .i64 kk,.bool false,.bool false,.bool false,.bool false,.bool false,undef,undef,undef,undef,undef,undef,.bool false,.bool false,.bool false,.bool false,.bool true,.bool true,.agg #[.int .i64 0,.int .i64 0,.bool false,.string ⟨#[]⟩],.agg #[.int .i64 0,.int .i64 0,.bool false,.string ⟨#[]⟩],.bool false,.bool false,.bool false] (by kernel_rfl) ?finhgnn ?stepshgnn ?nexthgnn
                   case finhgnn =>
                    simp only [putAll,Act.put,List.setIfInBounds_toArray,List.set_cons_succ,List.set_cons_zero]
                    rfl
                   case stepshgnn =>
                    refine ⟨?_,?_,?_,?_,?_,?_,?_,?_,?_,?_,?_,?_,?_,?_,?_,?_,?_,?_,?_,?_,?_,?_,?_,?_,trivial⟩
                    all_goals first | exact .inl ⟨by kernel_rfl,rfl⟩ | refine .inr ⟨by kernel_rfl,fun w1_ hB_=>?_⟩
                    all_goals
                     have hw_:=HW13.out.trans (hB_.mono HW13.out.size);have hy_:=HY13.out.below hB_ HY13.out.lt;have y0_:=hy_.cell 0 (v:=.int .i64 0) rfl;have y1_:=hy_.cell 1 (v:=.int .i64 0) rfl;have y2_:=hy_.cell 2 (v:=.bool false) rfl;have y3_:=hy_.cell 3 (v:=.string ⟨#[]⟩) rfl;go_simp
                     first
                      | exact ⟨rfl,Below.refl _ _⟩
                      | (rw [decide_eq_false HK0.out];exact ⟨rfl,Below.refl _ _⟩)
                      | ((first | rw [decide_eq_true (by omega)] | rw [decide_eq_false (by omega)] | rw [if_pos (by omega)] | rw [IntWalk.i64_in _ (by omega)]);exact ⟨rfl,Below.refl _ _⟩)
                      | done
                   case nexthgnn =>
                   intro w14 hb14;have HW14:=Lib.hid (HW13.out.trans (hb14.mono HW13.out.size));clear hb14 HW13 HY13;go_wp2_with fail;go_roundw
                   case rel=>exact ⟨q + 1,by omega,by go_num,(HBI.out.trans (HW14.out.mono HBI.out.size))⟩
                   case measure=>first | (simp [intOf];done) | (simp [intOf];omega)
               | some ya =>
                 as_aux_lemma =>
                  rw [hpv] at HPV;obtain ⟨p,hpl,hmp,hye⟩:=HPP.out.1 ya hpv;have HMP:=Lib.hid hmp;have HYE:=Lib.hid hye;obtain ⟨⟨yo,yd,ys⟩,hyl⟩:∃ y,tlocF ⟨sc,ofs,sv,ltr,fm,Rl⟩ ya = y:=⟨_,rfl⟩;unfold chgO at HPV;rw [hyl] at HYE;simp only [hyl] at HPV;unfold chgA at HPV;simp only at HPV;clear hpv hyl hmp hye HPP
                  refine wp_envA (fin:=?fnheny) (by kernel_rfl) [128,129,130,131,132,133,127,134,135,17,999,18]
                   [.agg #[.int .i64 sc,.int .i64 ofs,.int .i64 sv,.string ltr,.string fm,.slice Au Rl.length cu],.slice (some ⟨bl,ol,none⟩) L.length cL,.int .i64 q,.pointer (some ⟨bl,ol + q,none⟩),.int .i64 x,.tuple #[.agg #[.int .i64 ya,.int .i64 yo,.bool yd,.string ys],.bool true],.tuple #[.agg #[.int .i64 ya,.int .i64 yo,.bool yd,.string ys],.bool true],.agg #[.int .i64 ya,.int .i64 yo,.bool yd,.string ys],.bool true,undef,undef,.bool true] 9 10 76 #[.int .i64 0,.int .i64 0,.bool false,.string ⟨#[]⟩] #[.int .i64 ya,.int .i64 yo,.bool yd,.string ys] (by kernel_rfl) (by simp) (by decide) ?finheny ?stepsheny ?nextheny
                  case finheny =>
                   intro p_;simp only [List.set_cons_succ,List.set_cons_zero,putAll,Act.put,List.setIfInBounds_toArray,List.set_nil]
                   rfl
                  case stepsheny =>
                   refine ⟨?_,?_,?_,?_,?_,?_,?_,?_,?_,?alheny,?stheny,?_,trivial⟩
                   case alheny =>
                    refine ⟨fun p_=>by kernel_rfl,fun p_ w1_ hB_=>?_⟩
                    first | rfl | (go_simp;done) | (go_simp;rfl)
                   case stheny =>
                    refine ⟨fun p_=>by kernel_rfl,fun b_ w1_ hb_=>⟨((((w1_.setCell ⟨b_,0,none⟩ (.int .i64 ya)).setCell ⟨b_,1,none⟩ (.int .i64 yo)).setCell ⟨b_,2,none⟩ (.bool yd)).setCell ⟨b_,3,none⟩ (.string ys)),?_,(((Fr.setCell (T:=fun k=>k = b_) w1_ 0 (.int .i64 ya) rfl).then (Fr.setCell _ 1 _ rfl)).then (Fr.setCell _ 2 _ rfl)).then (Fr.setCell _ 3 _ rfl),((((hb_.set 0 (.int .i64 ya)).set 1 (.int .i64 yo)).set 2 (.bool yd)).set 3 (.string ys))⟩⟩;have f0_:=Blk.frozen hb_ 0;have f1_:=Blk.frozen hb_ 1;have f2_:=Blk.frozen hb_ 2;have f3_:=Blk.frozen hb_ 3;have z0_:=Blk.cell hb_ 0 (v:=.int .i64 0) rfl;have z1_:=Blk.cell hb_ 1 (v:=.int .i64 0) rfl;have z2_:=Blk.cell hb_ 2 (v:=.bool false) rfl;have z3_:=Blk.cell hb_ 3 (v:=.string ⟨#[]⟩) rfl;go_simp;try rfl
                   all_goals
                    intro p_;refine .inr ⟨by kernel_rfl,fun w1_ hB_=>?_⟩;have hw_:=HW11.out.trans (hB_.mono HW11.out.size);have hf_:=HF7.out.below hw_ HF7.out.lt;have fc0_:=hf_.cell 0 (v:=.int .i64 sc) rfl;have fc1_:=hf_.cell 1 (v:=.int .i64 ofs) rfl;have fc2_:=hf_.cell 2 (v:=.int .i64 sv) rfl;have fc3_:=hf_.cell 3 (v:=.string ltr) rfl;have fc4_:=hf_.cell 4 (v:=.string fm) rfl;have fc5_:=hf_.cell 5 (v:=.slice Au Rl.length cu) rfl;have lc_:=HCL.out _ hw_;go_simp
                    first
                     | exact ⟨rfl,Below.refl _ _⟩
                     | exact ⟨rfl,HPV.out _ hw_⟩
                     | ((first | rw [decide_eq_true (by omega)] | rw [decide_eq_false (by omega)] | rw [if_pos (by omega)] | rw [IntWalk.i64_in _ (by omega)]);exact ⟨rfl,Below.refl _ _⟩)
                     | done
                  case nextheny =>
                  intro pb w12 hb12 hxb12 hX12;have HW12:=Lib.hid (HW11.out.trans (hb12.mono HW11.out.size));have HX12:=Lib.hid (HX11.out.below hb12 HX11.out.lt);have HY12:=Lib.hid hX12;clear hb12 hxb12 hX12 HW11 HX11 HPV;go_wp2_with fail
                  as_aux_lemma =>
                   obtain ⟨bq,oq,cq_,e,hbq,hcq⟩:=(HCH.out wr (Below.refl _ _)).cells (by omega)
                   cases e
                   have hbqw:bq < wr.heap.size:=Nat.lt_of_lt_of_le hbq HBI.out.size;have hcp:=hcq p hpl;rw [HYE.out] at hcp;simp only at hcp;have HKP:=Lib.hid (cells4 hbqw hcp);have dp:decide (p < all.length) = true:=decide_eq_true hpl;have dp2:(p:Int) < (all.length:Int):=by omega
                   clear hcp;clear hcq;obtain rfl:kk = (p:Int):=by have:=HKK.out;have:=HMP.out;omega
                   have hk1:(p:Int) + 1 = (m:Int):=by have:=HMP.out;omega
                   have HNL:=Lib.hid (show ¬ m < all.length by have:=HML.out;omega)
                   refine wp_env (fin:=?fnhfny) (by kernel_rfl) [136,137,138,139,140,141,142,143,144,145,146,147,148,149,150,151,152,153,154,155,156,157,158,159,160,161,162,163,164,165,166,167,168]
                    [.bool false,.bool false,undef,undef,undef,.bool false,.bool false,undef,undef,undef,undef,undef,undef,undef,undef,undef,undef,undef,undef,undef,undef,.bool false,.bool false,.bool false,.bool true,.bool true,.int .i64 p,.int .i64 m,.slice (some ⟨bq,oq,none⟩) all.length cq,.int .i64 all.length,.bool false,.bool false,.bool false] (by kernel_rfl) ?finhfny ?stepshfny ?nexthfny
                   case finhfny =>
                    simp only [putAll,Act.put,List.setIfInBounds_toArray,List.set_cons_succ,List.set_cons_zero]
                    rfl
                   case stepshfny =>
                    refine ⟨?_,?_,?_,?_,?_,?_,?_,?_,?_,?_,?_,?_,?_,?_,?_,?_,?_,?_,?_,?_,?_,?_,?_,?_,?_,?_,?_,?_,?_,?_,?_,?_,?_,trivial⟩
                    all_goals first | exact .inl ⟨by kernel_rfl,rfl⟩ | refine .inr ⟨by kernel_rfl,fun w1_ hB_=>?_⟩
                    all_goals
                     have hw_:=HW12.out.trans (hB_.mono HW12.out.size);have hx_:=HX12.out.below hB_ HX12.out.lt;have x0_:=hx_.cell 0 (v:=.int .i64 0) rfl;have x1_:=hx_.cell 1 (v:=.int .i64 0) rfl;have x2_:=hx_.cell 2 (v:=.bool false) rfl;have x3_:=hx_.cell 3 (v:=.string ⟨#[]⟩) rfl;go_simp
                     first
                      | exact ⟨rfl,Below.refl _ _⟩
                      | (rw [IntWalk.i64_in _ HMB.out];exact ⟨rfl,Below.refl _ _⟩)
                      | (rw [decide_eq_false HNL.out];exact ⟨rfl,Below.refl _ _⟩)
                      | ((first | rw [decide_eq_true (by omega)] | rw [decide_eq_false (by omega)] | rw [if_pos (by omega)] | rw [IntWalk.i64_in _ (by omega)]);exact ⟨rfl,Below.refl _ _⟩)
                      | done
                   case nexthfny =>
                   intro w13 hb13;have HW13:=Lib.hid (HW12.out.trans (hb13.mono HW12.out.size));have HY13:=Lib.hid (HY12.out.below hb13 HY12.out.lt);clear hb13 HW12 HX12 HY12;go_wp2_with fail
                   refine wp_env (fin:=?fnhgny) (by kernel_rfl) [169,170,171,172,173,174,175,176,177,178,179,180,181,182,183,184,185,186,187,188,189,190,191,192]
                    [.bool true,.int .i64 p,.bool true,.bool false,.bool false,.bool true,.bool true,.agg #[.int .i64 ya,.int .i64 yo,.bool yd,.string ys],.slice (some ⟨bq,oq,none⟩) all.length cq,.int .i64 p,.pointer (some ⟨bq,oq + p * 4,none⟩),.agg #[.int .i64 ya,.int .i64 yo,.bool yd,.string ys],.bool false,.bool false,.bool false,.bool false,.bool true,.bool false,.bool false,undef,undef,undef,.bool false,.bool false] (by kernel_rfl) ?finhgny ?stepshgny ?nexthgny
                   case finhgny =>
                    simp only [putAll,Act.put,List.setIfInBounds_toArray,List.set_cons_succ,List.set_cons_zero]
                    rfl
                   case stepshgny =>
                    refine ⟨?_,?_,?_,?_,?_,?_,?_,?_,?_,?_,?_,?_,?_,?_,?_,?_,?_,?_,?_,?_,?_,?_,?_,?_,trivial⟩
                    all_goals first | exact .inl ⟨by kernel_rfl,rfl⟩ | refine .inr ⟨by kernel_rfl,fun w1_ hB_=>?_⟩
                    all_goals
                     have hw_:=HW13.out.trans (hB_.mono HW13.out.size);have hy_:=HY13.out.below hB_ HY13.out.lt;have y0_:=hy_.cell 0 (v:=.int .i64 ya) rfl;have y1_:=hy_.cell 1 (v:=.int .i64 yo) rfl;have y2_:=hy_.cell 2 (v:=.bool yd) rfl;have y3_:=hy_.cell 3 (v:=.string ys) rfl;obtain ⟨p0_,p1_,p2_,p3_⟩:=HKP.out _ hw_;have hbq_:bq < w1_.heap.size:=Nat.lt_of_lt_of_le hbqw hw_.size;go_simp
                     first
                      | exact ⟨rfl,Below.refl _ _⟩
                      | ((first | rw [decide_eq_true (by omega)] | rw [decide_eq_false (by omega)] | rw [if_pos (by omega)] | rw [IntWalk.i64_in _ (by omega)]);exact ⟨rfl,Below.refl _ _⟩)
                      | done
                   case nexthgny =>
                   intro w14 hb14;have HW14:=Lib.hid (HW13.out.trans (hb14.mono HW13.out.size));clear hb14 HW13 HY13;go_wp2_with fail;go_roundw
                   case rel=>exact ⟨q + 1,by omega,by go_num,(HBI.out.trans (HW14.out.mono HBI.out.size))⟩
                   case measure=>first | (simp [intOf];done) | (simp [intOf];omega)
            | some xa =>
              as_aux_lemma =>
               rw [hnx] at HNX;obtain ⟨hx1,hx2,hx3⟩:=HNP.out.1 xa hnx;have HX3:=Lib.hid hx3;obtain ⟨⟨xo,xd,xs⟩,hxl⟩:∃ y,tlocF ⟨sc,ofs,sv,ltr,fm,Rl⟩ xa = y:=⟨_,rfl⟩;unfold chgO at HNX;rw [hxl] at HX3;simp only [hxl] at HNX;unfold chgA at HNX;simp only at HNX;clear hnx hxl hx3 HNP
               refine wp_envA (fin:=?fnhds) (by kernel_rfl) [119,120,121,122,123,124,118,125,126,15,999,16]
                [.agg #[.int .i64 sc,.int .i64 ofs,.int .i64 sv,.string ltr,.string fm,.slice Au Rl.length cu],.slice (some ⟨bl,ol,none⟩) L.length cL,.int .i64 q,.pointer (some ⟨bl,ol + q,none⟩),.int .i64 x,.tuple #[.agg #[.int .i64 xa,.int .i64 xo,.bool xd,.string xs],.bool true],.tuple #[.agg #[.int .i64 xa,.int .i64 xo,.bool xd,.string xs],.bool true],.agg #[.int .i64 xa,.int .i64 xo,.bool xd,.string xs],.bool true,undef,undef,.bool true] 9 10 76 #[.int .i64 0,.int .i64 0,.bool false,.string ⟨#[]⟩] #[.int .i64 xa,.int .i64 xo,.bool xd,.string xs] (by kernel_rfl) (by simp) (by decide) ?finhds ?stepshds ?nexthds
               case finhds =>
                intro p_;simp only [List.set_cons_succ,List.set_cons_zero,putAll,Act.put,List.setIfInBounds_toArray,List.set_nil]
                rfl
               case stepshds =>
                refine ⟨?_,?_,?_,?_,?_,?_,?_,?_,?_,?alhds,?sthds,?_,trivial⟩
                case alhds =>
                 refine ⟨fun p_=>by kernel_rfl,fun p_ w1_ hB_=>?_⟩
                 first | rfl | (go_simp;done) | (go_simp;rfl)
                case sthds =>
                 refine ⟨fun p_=>by kernel_rfl,fun b_ w1_ hb_=>⟨((((w1_.setCell ⟨b_,0,none⟩ (.int .i64 xa)).setCell ⟨b_,1,none⟩ (.int .i64 xo)).setCell ⟨b_,2,none⟩ (.bool xd)).setCell ⟨b_,3,none⟩ (.string xs)),?_,(((Fr.setCell (T:=fun k=>k = b_) w1_ 0 (.int .i64 xa) rfl).then (Fr.setCell _ 1 _ rfl)).then (Fr.setCell _ 2 _ rfl)).then (Fr.setCell _ 3 _ rfl),((((hb_.set 0 (.int .i64 xa)).set 1 (.int .i64 xo)).set 2 (.bool xd)).set 3 (.string xs))⟩⟩;have f0_:=Blk.frozen hb_ 0;have f1_:=Blk.frozen hb_ 1;have f2_:=Blk.frozen hb_ 2;have f3_:=Blk.frozen hb_ 3;have z0_:=Blk.cell hb_ 0 (v:=.int .i64 0) rfl;have z1_:=Blk.cell hb_ 1 (v:=.int .i64 0) rfl;have z2_:=Blk.cell hb_ 2 (v:=.bool false) rfl;have z3_:=Blk.cell hb_ 3 (v:=.string ⟨#[]⟩) rfl;go_simp;try rfl
                all_goals
                 intro p_;refine .inr ⟨by kernel_rfl,fun w1_ hB_=>?_⟩;have hw_:=HW10.out.trans (hB_.mono HW10.out.size);have hf_:=HF7.out.below hw_ HF7.out.lt;have fc0_:=hf_.cell 0 (v:=.int .i64 sc) rfl;have fc1_:=hf_.cell 1 (v:=.int .i64 ofs) rfl;have fc2_:=hf_.cell 2 (v:=.int .i64 sv) rfl;have fc3_:=hf_.cell 3 (v:=.string ltr) rfl;have fc4_:=hf_.cell 4 (v:=.string fm) rfl;have fc5_:=hf_.cell 5 (v:=.slice Au Rl.length cu) rfl;have lc_:=HCL.out _ hw_;go_simp
                 first
                  | exact ⟨rfl,Below.refl _ _⟩
                  | exact ⟨rfl,HNX.out _ hw_⟩
                  | ((first | rw [decide_eq_true (by omega)] | rw [decide_eq_false (by omega)] | rw [if_pos (by omega)] | rw [IntWalk.i64_in _ (by omega)]);exact ⟨rfl,Below.refl _ _⟩)
                  | done
               case nexthds =>
               intro nb w11 hb11 hxb11 hX11;have HW11:=Lib.hid (HW10.out.trans (hb11.mono HW10.out.size));have HX11:=Lib.hid hX11;clear hb11 hxb11 hX11 HW10 HNX;go_wp2_with fail
               cases hpv:prevF ⟨sc,ofs,sv,ltr,fm,Rl⟩ x with
               | none =>
                 as_aux_lemma =>
                  rw [hpv] at HPV;unfold chgO at HPV;simp only at HPV;have HM0:=Lib.hid (HPP.out.2 hpv);clear hpv HPP
                  refine wp_envA (fin:=?fnheln) (by kernel_rfl) [128,129,130,131,132,133,127,134,135,17,999,18]
                   [.agg #[.int .i64 sc,.int .i64 ofs,.int .i64 sv,.string ltr,.string fm,.slice Au Rl.length cu],.slice (some ⟨bl,ol,none⟩) L.length cL,.int .i64 q,.pointer (some ⟨bl,ol + q,none⟩),.int .i64 x,.tuple #[.agg #[.int .i64 0,.int .i64 0,.bool false,.string ⟨#[]⟩],.bool false],.tuple #[.agg #[.int .i64 0,.int .i64 0,.bool false,.string ⟨#[]⟩],.bool false],.agg #[.int .i64 0,.int .i64 0,.bool false,.string ⟨#[]⟩],.bool false,undef,undef,.bool false] 9 10 76 #[.int .i64 0,.int .i64 0,.bool false,.string ⟨#[]⟩] #[.int .i64 0,.int .i64 0,.bool false,.string ⟨#[]⟩] (by kernel_rfl) (by simp) (by decide) ?finheln ?stepsheln ?nextheln
                  case finheln =>
                   intro p_;simp only [List.set_cons_succ,List.set_cons_zero,putAll,Act.put,List.setIfInBounds_toArray,List.set_nil]
                   rfl
                  case stepsheln =>
                   refine ⟨?_,?_,?_,?_,?_,?_,?_,?_,?_,?alheln,?stheln,?_,trivial⟩
                   case alheln =>
                    refine ⟨fun p_=>by kernel_rfl,fun p_ w1_ hB_=>?_⟩
                    first | rfl | (go_simp;done) | (go_simp;rfl)
                   case stheln =>
                    refine ⟨fun p_=>by kernel_rfl,fun b_ w1_ hb_=>⟨((((w1_.setCell ⟨b_,0,none⟩ (.int .i64 0)).setCell ⟨b_,1,none⟩ (.int .i64 0)).setCell ⟨b_,2,none⟩ (.bool false)).setCell ⟨b_,3,none⟩ (.string ⟨#[]⟩)),?_,(((Fr.setCell (T:=fun k=>k = b_) w1_ 0 (.int .i64 0) rfl).then (Fr.setCell _ 1 _ rfl)).then (Fr.setCell _ 2 _ rfl)).then (Fr.setCell _ 3 _ rfl),((((hb_.set 0 (.int .i64 0)).set 1 (.int .i64 0)).set 2 (.bool false)).set 3 (.string ⟨#[]⟩))⟩⟩;have f0_:=Blk.frozen hb_ 0;have f1_:=Blk.frozen hb_ 1;have f2_:=Blk.frozen hb_ 2;have f3_:=Blk.frozen hb_ 3;have z0_:=Blk.cell hb_ 0 (v:=.int .i64 0) rfl;have z1_:=Blk.cell hb_ 1 (v:=.int .i64 0) rfl;have z2_:=Blk.cell hb_ 2 (v:=.bool false) rfl;have z3_:=Blk.cell hb_ 3 (v:=.string ⟨#[]⟩) rfl;go_simp;try rfl
                   all_goals
                    intro p_;refine .inr ⟨by kernel_rfl,fun w1_ hB_=>?_⟩;have hw_:=HW11.out.trans (hB_.mono HW11.out.size);have hf_:=HF7.out.below hw_ HF7.out.lt;have fc0_:=hf_.cell 0 (v:=.int .i64 sc) rfl;have fc1_:=hf_.cell 1 (v:=.int .i64 ofs) rfl;have fc2_:=hf_.cell 2 (v:=.int .i64 sv) rfl;have fc3_:=hf_.cell 3 (v:=.string ltr) rfl;have fc4_:=hf_.cell 4 (v:=.string fm) rfl;have fc5_:=hf_.cell 5 (v:=.slice Au Rl.length cu) rfl;have lc_:=HCL.out _ hw_;go_simp
                    first
                     | exact ⟨rfl,Below.refl _ _⟩
                     | exact ⟨rfl,HPV.out _ hw_⟩
                     | ((first | rw [decide_eq_true (by omega)] | rw [decide_eq_false (by omega)] | rw [if_pos (by omega)] | rw [IntWalk.i64_in _ (by omega)]);exact ⟨rfl,Below.refl _ _⟩)
                     | done
                  case nextheln =>
                  intro pb w12 hb12 hxb12 hX12;have HW12:=Lib.hid (HW11.out.trans (hb12.mono HW11.out.size));have HX12:=Lib.hid (HX11.out.below hb12 HX11.out.lt);have HY12:=Lib.hid hX12;clear hb12 hxb12 hX12 HW11 HX11 HPV;go_wp2_with fail
                  by_cases hxt:xa ≤ 4070908800
                  ·have dx:decide (xa ≤ 4070908800) = true:=decide_eq_true hxt;obtain ⟨hml,hxe⟩:=HX3.out hxt
                   as_aux_lemma =>
                    obtain ⟨bq,oq,cq_,e,hbq,hcq⟩:=(HCH.out wr (Below.refl _ _)).cells (by omega)
                    cases e
                    have hbqw:bq < wr.heap.size:=Nat.lt_of_lt_of_le hbq HBI.out.size;have hcm:=hcq m hml;rw [hxe] at hcm;simp only at hcm;have HKM:=Lib.hid (cells4 hbqw hcm);have dm:decide (m < all.length) = true:=decide_eq_true hml;have dm2:(m:Int) < (all.length:Int):=by omega
                    clear hcm hxe;clear hcq;have hk1:kk + 1 = (m:Int):=by have:=HKK.out;omega
                    have hk0:kk < 0:=by have:=HM0.out;omega
                    have hk2:-10 < kk:=by omega
                    have HNL:=Lib.hid (show ¬ all.length ≤ m by omega);have HK0:=Lib.hid (show ¬ 0 ≤ kk by omega)
                    refine wp_env (fin:=?fnhfln) (by kernel_rfl) [136,137,138,139,140,141,142,143,144,145,146,147,148,149,150,151,152,153,154,155,156,157,158,159,160,161,162,163,164,165,166,167,168]
                     [.bool true,.bool true,.pointer (some ⟨nb,0,none⟩),.int .i64 xa,.bool true,.bool true,.bool true,.int .i64 kk,.int .i64 m,.slice (some ⟨bq,oq,none⟩) all.length cq,.int .i64 all.length,.bool false,.bool false,.agg #[.int .i64 xa,.int .i64 xo,.bool xd,.string xs],.slice (some ⟨bq,oq,none⟩) all.length cq,.int .i64 kk,.int .i64 m,.pointer (some ⟨bq,oq + m * 4,none⟩),.agg #[.int .i64 xa,.int .i64 xo,.bool xd,.string xs],.bool false,.bool false,.bool false,.bool false,.bool true,.bool false,.bool false,undef,undef,undef,undef,undef,.bool false,.bool false] (by kernel_rfl) ?finhfln ?stepshfln ?nexthfln
                    case finhfln =>
                     simp only [putAll,Act.put,List.setIfInBounds_toArray,List.set_cons_succ,List.set_cons_zero]
                     rfl
                    case stepshfln =>
                     refine ⟨?_,?_,?_,?_,?_,?_,?_,?_,?_,?_,?_,?_,?_,?_,?_,?_,?_,?_,?_,?_,?_,?_,?_,?_,?_,?_,?_,?_,?_,?_,?_,?_,?_,trivial⟩
                     all_goals first | exact .inl ⟨by kernel_rfl,rfl⟩ | refine .inr ⟨by kernel_rfl,fun w1_ hB_=>?_⟩
                     all_goals
                      have hw_:=HW12.out.trans (hB_.mono HW12.out.size);have hx_:=HX12.out.below hB_ HX12.out.lt;have x0_:=hx_.cell 0 (v:=.int .i64 xa) rfl;have x1_:=hx_.cell 1 (v:=.int .i64 xo) rfl;have x2_:=hx_.cell 2 (v:=.bool xd) rfl;have x3_:=hx_.cell 3 (v:=.string xs) rfl;obtain ⟨m0_,m1_,m2_,m3_⟩:=HKM.out _ hw_;have hbq_:bq < w1_.heap.size:=Nat.lt_of_lt_of_le hbqw hw_.size;go_simp
                      first
                       | exact ⟨rfl,Below.refl _ _⟩
                       | (rw [IntWalk.i64_in _ HMB.out];exact ⟨rfl,Below.refl _ _⟩)
                       | (rw [decide_eq_false HNL.out];exact ⟨rfl,Below.refl _ _⟩)
                       | (rw [IntWalk.i64_in _ HMB.out,decide_eq_false HNL.out];exact ⟨rfl,Below.refl _ _⟩)
                       | ((first | rw [decide_eq_true (by omega)] | rw [decide_eq_false (by omega)] | rw [if_pos (by omega)] | rw [IntWalk.i64_in _ (by omega)]);exact ⟨rfl,Below.refl _ _⟩)
                       | done
                    case nexthfln =>
                    intro w13 hb13;have HW13:=Lib.hid (HW12.out.trans (hb13.mono HW12.out.size));have HY13:=Lib.hid (HY12.out.below hb13 HY12.out.lt);clear hb13 HW12 HX12 HY12;go_wp2_with fail
                    refine wp_env (fin:=?fnhgln) (by kernel_rfl) [169,170,171,172,173,174,175,176,177,178,179,180,181,182,183,184,185,186,187,188,189,190,191,192]
                     [.bool false,.int .i64 kk,.bool false,.bool false,.bool false,.bool false,.bool false,undef,undef,undef,undef,undef,undef,.bool false,.bool false,.bool false,.bool false,.bool true,.bool true,.agg #[.int .i64 0,.int .i64 0,.bool false,.string ⟨#[]⟩],.agg #[.int .i64 0,.int .i64 0,.bool false,.string ⟨#[]⟩],.bool false,.bool false,.bool false] (by kernel_rfl) ?finhgln ?stepshgln ?nexthgln
                    case finhgln =>
                     simp only [putAll,Act.put,List.setIfInBounds_toArray,List.set_cons_succ,List.set_cons_zero]
                     rfl
                    case stepshgln =>
                     refine ⟨?_,?_,?_,?_,?_,?_,?_,?_,?_,?_,?_,?_,?_,?_,?_,?_,?_,?_,?_,?_,?_,?_,?_,?_,trivial⟩
                     all_goals first | exact .inl ⟨by kernel_rfl,rfl⟩ | refine .inr ⟨by kernel_rfl,fun w1_ hB_=>?_⟩
                     all_goals
                      have hw_:=HW13.out.trans (hB_.mono HW13.out.size);have hy_:=HY13.out.below hB_ HY13.out.lt;have y0_:=hy_.cell 0 (v:=.int .i64 0) rfl;have y1_:=hy_.cell 1 (v:=.int .i64 0) rfl;have y2_:=hy_.cell 2 (v:=.bool false) rfl;have y3_:=hy_.cell 3 (v:=.string ⟨#[]⟩) rfl;go_simp
                      first
                       | exact ⟨rfl,Below.refl _ _⟩
                       | (rw [decide_eq_false HK0.out];exact ⟨rfl,Below.refl _ _⟩)
                       | ((first | rw [decide_eq_true (by omega)] | rw [decide_eq_false (by omega)] | rw [if_pos (by omega)] | rw [IntWalk.i64_in _ (by omega)]);exact ⟨rfl,Below.refl _ _⟩)
                       | done
                    case nexthgln =>
                    intro w14 hb14;have HW14:=Lib.hid (HW13.out.trans (hb14.mono HW13.out.size));clear hb14 HW13 HY13;go_wp2_with fail;go_roundw
                    case rel=>exact ⟨q + 1,by omega,by go_num,(HBI.out.trans (HW14.out.mono HBI.out.size))⟩
                    case measure=>first | (simp [intOf];done) | (simp [intOf];omega)
                  ·have dx:decide (xa ≤ 4070908800) = false:=decide_eq_false hxt
                   as_aux_lemma =>
                    have hk1:kk + 1 = (m:Int):=by have:=HKK.out;omega
                    have hk0:kk < 0:=by have:=HM0.out;omega
                    have hk2:-10 < kk:=by omega
                    have HK0:=Lib.hid (show ¬ 0 ≤ kk by omega)
                    refine wp_env (fin:=?fnhfhn) (by kernel_rfl) [136,137,138,139,140,141,142,143,144,145,146,147,148,149,150,151,152,153,154,155,156,157,158,159,160,161,162,163,164,165,166,167,168]
                     [.bool true,.bool true,.pointer (some ⟨nb,0,none⟩),.int .i64 xa,.bool false,.bool false,.bool false,undef,undef,undef,undef,undef,undef,undef,undef,undef,undef,undef,undef,undef,undef,.bool false,.bool false,.bool true,.bool false,.bool false,undef,undef,undef,undef,undef,.bool false,.bool false] (by kernel_rfl) ?finhfhn ?stepshfhn ?nexthfhn
                    case finhfhn =>
                     simp only [putAll,Act.put,List.setIfInBounds_toArray,List.set_cons_succ,List.set_cons_zero]
                     rfl
                    case stepshfhn =>
                     refine ⟨?_,?_,?_,?_,?_,?_,?_,?_,?_,?_,?_,?_,?_,?_,?_,?_,?_,?_,?_,?_,?_,?_,?_,?_,?_,?_,?_,?_,?_,?_,?_,?_,?_,trivial⟩
                     all_goals first | exact .inl ⟨by kernel_rfl,rfl⟩ | refine .inr ⟨by kernel_rfl,fun w1_ hB_=>?_⟩
                     all_goals
                      have hw_:=HW12.out.trans (hB_.mono HW12.out.size);have hx_:=HX12.out.below hB_ HX12.out.lt;have x0_:=hx_.cell 0 (v:=.int .i64 xa) rfl;have x1_:=hx_.cell 1 (v:=.int .i64 xo) rfl;have x2_:=hx_.cell 2 (v:=.bool xd) rfl;have x3_:=hx_.cell 3 (v:=.string xs) rfl;go_simp
                      first
                       | exact ⟨rfl,Below.refl _ _⟩
                       | (rw [IntWalk.i64_in _ HMB.out];exact ⟨rfl,Below.refl _ _⟩)
                       | ((first | rw [decide_eq_true (by omega)] | rw [decide_eq_false (by omega)] | rw [if_pos (by omega)] | rw [IntWalk.i64_in _ (by omega)]);exact ⟨rfl,Below.refl _ _⟩)
                       | done
                    case nexthfhn =>
                    intro w13 hb13;have HW13:=Lib.hid (HW12.out.trans (hb13.mono HW12.out.size));have HY13:=Lib.hid (HY12.out.below hb13 HY12.out.lt);clear hb13 HW12 HX12 HY12;go_wp2_with fail
                    refine wp_env (fin:=?fnhghn) (by kernel_rfl) [169,170,171,172,173,174,175,176,177,178,179,180,181,182,183,184,185,186,187,188,189,190,191,192]
                     [.bool false,.int .i64 kk,.bool false,.bool false,.bool false,.bool false,.bool false,undef,undef,undef,undef,undef,undef,.bool false,.bool false,.bool false,.bool false,.bool true,.bool true,.agg #[.int .i64 0,.int .i64 0,.bool false,.string ⟨#[]⟩],.agg #[.int .i64 0,.int .i64 0,.bool false,.string ⟨#[]⟩],.bool false,.bool false,.bool false] (by kernel_rfl) ?finhghn ?stepshghn ?nexthghn
                    case finhghn =>
                     simp only [putAll,Act.put,List.setIfInBounds_toArray,List.set_cons_succ,List.set_cons_zero]
                     rfl
                    case stepshghn =>
                     refine ⟨?_,?_,?_,?_,?_,?_,?_,?_,?_,?_,?_,?_,?_,?_,?_,?_,?_,?_,?_,?_,?_,?_,?_,?_,trivial⟩
                     all_goals first | exact .inl ⟨by kernel_rfl,rfl⟩ | refine .inr ⟨by kernel_rfl,fun w1_ hB_=>?_⟩
                     all_goals
                      have hw_:=HW13.out.trans (hB_.mono HW13.out.size);have hy_:=HY13.out.below hB_ HY13.out.lt;have y0_:=hy_.cell 0 (v:=.int .i64 0) rfl;have y1_:=hy_.cell 1 (v:=.int .i64 0) rfl;have y2_:=hy_.cell 2 (v:=.bool false) rfl;have y3_:=hy_.cell 3 (v:=.string ⟨#[]⟩) rfl;go_simp
                      first
                       | exact ⟨rfl,Below.refl _ _⟩
                       | (rw [decide_eq_false HK0.out];exact ⟨rfl,Below.refl _ _⟩)
                       | ((first | rw [decide_eq_true (by omega)] | rw [decide_eq_false (by omega)] | rw [if_pos (by omega)] | rw [IntWalk.i64_in _ (by omega)]);exact ⟨rfl,Below.refl _ _⟩)
                       | done
                    case nexthghn =>
                    intro w14 hb14;have HW14:=Lib.hid (HW13.out.trans (hb14.mono HW13.out.size));clear hb14 HW13 HY13;go_wp2_with fail;go_roundw
                    case rel=>exact ⟨q + 1,by omega,by go_num,(HBI.out.trans (HW14.out.mono HBI.out.size))⟩
                    case measure=>first | (simp [intOf];done) | (simp [intOf];omega)
               | some ya =>
                 as_aux_lemma =>
                  rw [hpv] at HPV;obtain ⟨p,hpl,hmp,hye⟩:=HPP.out.1 ya hpv;have HMP:=Lib.hid hmp;have HYE:=Lib.hid hye;obtain ⟨⟨yo,yd,ys⟩,hyl⟩:∃ y,tlocF ⟨sc,ofs,sv,ltr,fm,Rl⟩ ya = y:=⟨_,rfl⟩;unfold chgO at HPV;rw [hyl] at HYE;simp only [hyl] at HPV;unfold chgA at HPV;simp only at HPV;clear hpv hyl hmp hye HPP
                  refine wp_envA (fin:=?fnhely) (by kernel_rfl) [128,129,130,131,132,133,127,134,135,17,999,18]
                   [.agg #[.int .i64 sc,.int .i64 ofs,.int .i64 sv,.string ltr,.string fm,.slice Au Rl.length cu],.slice (some ⟨bl,ol,none⟩) L.length cL,.int .i64 q,.pointer (some ⟨bl,ol + q,none⟩),.int .i64 x,.tuple #[.agg #[.int .i64 ya,.int .i64 yo,.bool yd,.string ys],.bool true],.tuple #[.agg #[.int .i64 ya,.int .i64 yo,.bool yd,.string ys],.bool true],.agg #[.int .i64 ya,.int .i64 yo,.bool yd,.string ys],.bool true,undef,undef,.bool true] 9 10 76 #[.int .i64 0,.int .i64 0,.bool false,.string ⟨#[]⟩] #[.int .i64 ya,.int .i64 yo,.bool yd,.string ys] (by kernel_rfl) (by simp) (by decide) ?finhely ?stepshely ?nexthely
                  case finhely =>
                   intro p_;simp only [List.set_cons_succ,List.set_cons_zero,putAll,Act.put,List.setIfInBounds_toArray,List.set_nil]
                   rfl
                  case stepshely =>
                   refine ⟨?_,?_,?_,?_,?_,?_,?_,?_,?_,?alhely,?sthely,?_,trivial⟩
                   case alhely =>
                    refine ⟨fun p_=>by kernel_rfl,fun p_ w1_ hB_=>?_⟩
                    first | rfl | (go_simp;done) | (go_simp;rfl)
                   case sthely =>
                    refine ⟨fun p_=>by kernel_rfl,fun b_ w1_ hb_=>⟨((((w1_.setCell ⟨b_,0,none⟩ (.int .i64 ya)).setCell ⟨b_,1,none⟩ (.int .i64 yo)).setCell ⟨b_,2,none⟩ (.bool yd)).setCell ⟨b_,3,none⟩ (.string ys)),?_,(((Fr.setCell (T:=fun k=>k = b_) w1_ 0 (.int .i64 ya) rfl).then (Fr.setCell _ 1 _ rfl)).then (Fr.setCell _ 2 _ rfl)).then (Fr.setCell _ 3 _ rfl),((((hb_.set 0 (.int .i64 ya)).set 1 (.int .i64 yo)).set 2 (.bool yd)).set 3 (.string ys))⟩⟩;have f0_:=Blk.frozen hb_ 0;have f1_:=Blk.frozen hb_ 1;have f2_:=Blk.frozen hb_ 2;have f3_:=Blk.frozen hb_ 3;have z0_:=Blk.cell hb_ 0 (v:=.int .i64 0) rfl;have z1_:=Blk.cell hb_ 1 (v:=.int .i64 0) rfl;have z2_:=Blk.cell hb_ 2 (v:=.bool false) rfl;have z3_:=Blk.cell hb_ 3 (v:=.string ⟨#[]⟩) rfl;go_simp;try rfl
                   all_goals
                    intro p_;refine .inr ⟨by kernel_rfl,fun w1_ hB_=>?_⟩;have hw_:=HW11.out.trans (hB_.mono HW11.out.size);have hf_:=HF7.out.below hw_ HF7.out.lt;have fc0_:=hf_.cell 0 (v:=.int .i64 sc) rfl;have fc1_:=hf_.cell 1 (v:=.int .i64 ofs) rfl;have fc2_:=hf_.cell 2 (v:=.int .i64 sv) rfl;have fc3_:=hf_.cell 3 (v:=.string ltr) rfl;have fc4_:=hf_.cell 4 (v:=.string fm) rfl;have fc5_:=hf_.cell 5 (v:=.slice Au Rl.length cu) rfl;have lc_:=HCL.out _ hw_;go_simp
                    first
                     | exact ⟨rfl,Below.refl _ _⟩
                     | exact ⟨rfl,HPV.out _ hw_⟩
                     | ((first | rw [decide_eq_true (by omega)] | rw [decide_eq_false (by omega)] | rw [if_pos (by omega)] | rw [IntWalk.i64_in _ (by omega)]);exact ⟨rfl,Below.refl _ _⟩)
                     | done
                  case nexthely =>
                  intro pb w12 hb12 hxb12 hX12;have HW12:=Lib.hid (HW11.out.trans (hb12.mono HW11.out.size));have HX12:=Lib.hid (HX11.out.below hb12 HX11.out.lt);have HY12:=Lib.hid hX12;clear hb12 hxb12 hX12 HW11 HX11 HPV;go_wp2_with fail
                  by_cases hxt:xa ≤ 4070908800
                  ·have dx:decide (xa ≤ 4070908800) = true:=decide_eq_true hxt;obtain ⟨hml,hxe⟩:=HX3.out hxt
                   as_aux_lemma =>
                    obtain ⟨bq,oq,cq_,e,hbq,hcq⟩:=(HCH.out wr (Below.refl _ _)).cells (by omega)
                    cases e
                    have hbqw:bq < wr.heap.size:=Nat.lt_of_lt_of_le hbq HBI.out.size;have hcm:=hcq m hml;rw [hxe] at hcm;simp only at hcm;have HKM:=Lib.hid (cells4 hbqw hcm);have dm:decide (m < all.length) = true:=decide_eq_true hml;have dm2:(m:Int) < (all.length:Int):=by omega
                    clear hcm hxe;have hcp:=hcq p hpl;rw [HYE.out] at hcp;simp only at hcp;have HKP:=Lib.hid (cells4 hbqw hcp);have dp:decide (p < all.length) = true:=decide_eq_true hpl;have dp2:(p:Int) < (all.length:Int):=by omega
                    clear hcp;clear hcq;obtain rfl:kk = (p:Int):=by have:=HKK.out;have:=HMP.out;omega
                    have hk1:(p:Int) + 1 = (m:Int):=by have:=HMP.out;omega
                    have HNL:=Lib.hid (show ¬ all.length ≤ m by omega)
                    refine wp_env (fin:=?fnhfly) (by kernel_rfl) [136,137,138,139,140,141,142,143,144,145,146,147,148,149,150,151,152,153,154,155,156,157,158,159,160,161,162,163,164,165,166,167,168]
                     [.bool true,.bool true,.pointer (some ⟨nb,0,none⟩),.int .i64 xa,.bool true,.bool true,.bool true,.int .i64 p,.int .i64 m,.slice (some ⟨bq,oq,none⟩) all.length cq,.int .i64 all.length,.bool false,.bool false,.agg #[.int .i64 xa,.int .i64 xo,.bool xd,.string xs],.slice (some ⟨bq,oq,none⟩) all.length cq,.int .i64 p,.int .i64 m,.pointer (some ⟨bq,oq + m * 4,none⟩),.agg #[.int .i64 xa,.int .i64 xo,.bool xd,.string xs],.bool false,.bool false,.bool false,.bool false,.bool true,.bool false,.bool false,undef,undef,undef,undef,undef,.bool false,.bool false] (by kernel_rfl) ?finhfly ?stepshfly ?nexthfly
                    case finhfly =>
                     simp only [putAll,Act.put,List.setIfInBounds_toArray,List.set_cons_succ,List.set_cons_zero]
                     rfl
                    case stepshfly =>
                     refine ⟨?_,?_,?_,?_,?_,?_,?_,?_,?_,?_,?_,?_,?_,?_,?_,?_,?_,?_,?_,?_,?_,?_,?_,?_,?_,?_,?_,?_,?_,?_,?_,?_,?_,trivial⟩
                     all_goals first | exact .inl ⟨by kernel_rfl,rfl⟩ | refine .inr ⟨by kernel_rfl,fun w1_ hB_=>?_⟩
                     all_goals
                      have hw_:=HW12.out.trans (hB_.mono HW12.out.size);have hx_:=HX12.out.below hB_ HX12.out.lt;have x0_:=hx_.cell 0 (v:=.int .i64 xa) rfl;have x1_:=hx_.cell 1 (v:=.int .i64 xo) rfl;have x2_:=hx_.cell 2 (v:=.bool xd) rfl;have x3_:=hx_.cell 3 (v:=.string xs) rfl;obtain ⟨m0_,m1_,m2_,m3_⟩:=HKM.out _ hw_;have hbq_:bq < w1_.heap.size:=Nat.lt_of_lt_of_le hbqw hw_.size;go_simp
                      first
                       | exact ⟨rfl,Below.refl _ _⟩
                       | (rw [IntWalk.i64_in _ HMB.out];exact ⟨rfl,Below.refl _ _⟩)
                       | (rw [decide_eq_false HNL.out];exact ⟨rfl,Below.refl _ _⟩)
                       | (rw [IntWalk.i64_in _ HMB.out,decide_eq_false HNL.out];exact ⟨rfl,Below.refl _ _⟩)
                       | ((first | rw [decide_eq_true (by omega)] | rw [decide_eq_false (by omega)] | rw [if_pos (by omega)] | rw [IntWalk.i64_in _ (by omega)]);exact ⟨rfl,Below.refl _ _⟩)
                       | done
                    case nexthfly =>
                    intro w13 hb13;have HW13:=Lib.hid (HW12.out.trans (hb13.mono HW12.out.size));have HY13:=Lib.hid (HY12.out.below hb13 HY12.out.lt);clear hb13 HW12 HX12 HY12;go_wp2_with fail
                    refine wp_env (fin:=?fnhgly) (by kernel_rfl) [169,170,171,172,173,174,175,176,177,178,179,180,181,182,183,184,185,186,187,188,189,190,191,192]
                     [.bool true,.int .i64 p,.bool true,.bool false,.bool false,.bool true,.bool true,.agg #[.int .i64 ya,.int .i64 yo,.bool yd,.string ys],.slice (some ⟨bq,oq,none⟩) all.length cq,.int .i64 p,.pointer (some ⟨bq,oq + p * 4,none⟩),.agg #[.int .i64 ya,.int .i64 yo,.bool yd,.string ys],.bool false,.bool false,.bool false,.bool false,.bool true,.bool false,.bool false,undef,undef,undef,.bool false,.bool false] (by kernel_rfl) ?finhgly ?stepshgly ?nexthgly
                    case finhgly =>
                     simp only [putAll,Act.put,List.setIfInBounds_toArray,List.set_cons_succ,List.set_cons_zero]
                     rfl
                    case stepshgly =>
                     refine ⟨?_,?_,?_,?_,?_,?_,?_,?_,?_,?_,?_,?_,?_,?_,?_,?_,?_,?_,?_,?_,?_,?_,?_,?_,trivial⟩
                     all_goals first | exact .inl ⟨by kernel_rfl,rfl⟩ | refine .inr ⟨by kernel_rfl,fun w1_ hB_=>?_⟩
                     all_goals
                      have hw_:=HW13.out.trans (hB_.mono HW13.out.size);have hy_:=HY13.out.below hB_ HY13.out.lt;have y0_:=hy_.cell 0 (v:=.int .i64 ya) rfl;have y1_:=hy_.cell 1 (v:=.int .i64 yo) rfl;have y2_:=hy_.cell 2 (v:=.bool yd) rfl;have y3_:=hy_.cell 3 (v:=.string ys) rfl;obtain ⟨p0_,p1_,p2_,p3_⟩:=HKP.out _ hw_;have hbq_:bq < w1_.heap.size:=Nat.lt_of_lt_of_le hbqw hw_.size;go_simp
                      first
                       | exact ⟨rfl,Below.refl _ _⟩
                       | ((first | rw [decide_eq_true (by omega)] | rw [decide_eq_false (by omega)] | rw [if_pos (by omega)] | rw [IntWalk.i64_in _ (by omega)]);exact ⟨rfl,Below.refl _ _⟩)
                       | done
                    case nexthgly =>
                    intro w14 hb14;have HW14:=Lib.hid (HW13.out.trans (hb14.mono HW13.out.size));clear hb14 HW13 HY13;go_wp2_with fail;go_roundw
                    case rel=>exact ⟨q + 1,by omega,by go_num,(HBI.out.trans (HW14.out.mono HBI.out.size))⟩
                    case measure=>first | (simp [intOf];done) | (simp [intOf];omega)
                  ·have dx:decide (xa ≤ 4070908800) = false:=decide_eq_false hxt
                   as_aux_lemma =>
                    obtain ⟨bq,oq,cq_,e,hbq,hcq⟩:=(HCH.out wr (Below.refl _ _)).cells (by omega)
                    cases e
                    have hbqw:bq < wr.heap.size:=Nat.lt_of_lt_of_le hbq HBI.out.size;have hcp:=hcq p hpl;rw [HYE.out] at hcp;simp only at hcp;have HKP:=Lib.hid (cells4 hbqw hcp);have dp:decide (p < all.length) = true:=decide_eq_true hpl;have dp2:(p:Int) < (all.length:Int):=by omega
                    clear hcp;clear hcq;obtain rfl:kk = (p:Int):=by have:=HKK.out;have:=HMP.out;omega
                    have hk1:(p:Int) + 1 = (m:Int):=by have:=HMP.out;omega
                    refine wp_env (fin:=?fnhfhy) (by kernel_rfl) [136,137,138,139,140,141,142,143,144,145,146,147,148,149,150,151,152,153,154,155,156,157,158,159,160,161,162,163,164,165,166,167,168]
                     [.bool true,.bool true,.pointer (some ⟨nb,0,none⟩),.int .i64 xa,.bool false,.bool false,.bool false,undef,undef,undef,undef,undef,undef,undef,undef,undef,undef,undef,undef,undef,undef,.bool false,.bool false,.bool true,.bool false,.bool false,undef,undef,undef,undef,undef,.bool false,.bool false] (by kernel_rfl) ?finhfhy ?stepshfhy ?nexthfhy
                    case finhfhy =>
                     simp only [putAll,Act.put,List.setIfInBounds_toArray,List.set_cons_succ,List.set_cons_zero]
                     rfl
                    case stepshfhy =>
                     refine ⟨?_,?_,?_,?_,?_,?_,?_,?_,?_,?_,?_,?_,?_,?_,?_,?_,?_,?_,?_,?_,?_,?_,?_,?_,?_,?_,?_,?_,?_,?_,?_,?_,?_,trivial⟩
                     all_goals first | exact .inl ⟨by kernel_rfl,rfl⟩ | refine .inr ⟨by kernel_rfl,fun w1_ hB_=>?_⟩
                     all_goals
                      have hw_:=HW12.out.trans (hB_.mono HW12.out.size);have hx_:=HX12.out.below hB_ HX12.out.lt;have x0_:=hx_.cell 0 (v:=.int .i64 xa) rfl;have x1_:=hx_.cell 1 (v:=.int .i64 xo) rfl;have x2_:=hx_.cell 2 (v:=.bool xd) rfl;have x3_:=hx_.cell 3 (v:=.string xs) rfl;go_simp
                      first
                       | exact ⟨rfl,Below.refl _ _⟩
                       | (rw [IntWalk.i64_in _ HMB.out];exact ⟨rfl,Below.refl _ _⟩)
                       | ((first | rw [decide_eq_true (by omega)] | rw [decide_eq_false (by omega)] | rw [if_pos (by omega)] | rw [IntWalk.i64_in _ (by omega)]);exact ⟨rfl,Below.refl _ _⟩)
                       | done
                    case nexthfhy =>
                    intro w13 hb13;have HW13:=Lib.hid (HW12.out.trans (hb13.mono HW12.out.size));have HY13:=Lib.hid (HY12.out.below hb13 HY12.out.lt);clear hb13 HW12 HX12 HY12;go_wp2_with fail
                    refine wp_env (fin:=?fnhghy) (by kernel_rfl) [169,170,171,172,173,174,175,176,177,178,179,180,181,182,183,184,185,186,187,188,189,190,191,192]
                     [.bool true,.int .i64 p,.bool true,.bool false,.bool false,.bool true,.bool true,.agg #[.int .i64 ya,.int .i64 yo,.bool yd,.string ys],.slice (some ⟨bq,oq,none⟩) all.length cq,.int .i64 p,.pointer (some ⟨bq,oq + p * 4,none⟩),.agg #[.int .i64 ya,.int .i64 yo,.bool yd,.string ys],.bool false,.bool false,.bool false,.bool false,.bool true,.bool false,.bool false,undef,undef,undef,.bool false,.bool false] (by kernel_rfl) ?finhghy ?stepshghy ?nexthghy
                    case finhghy =>
                     simp only [putAll,Act.put,List.setIfInBounds_toArray,List.set_cons_succ,List.set_cons_zero]
                     rfl
                    case stepshghy =>
                     refine ⟨?_,?_,?_,?_,?_,?_,?_,?_,?_,?_,?_,?_,?_,?_,?_,?_,?_,?_,?_,?_,?_,?_,?_,?_,trivial⟩
                     all_goals first | exact .inl ⟨by kernel_rfl,rfl⟩ | refine .inr ⟨by kernel_rfl,fun w1_ hB_=>?_⟩
                     all_goals
                      have hw_:=HW13.out.trans (hB_.mono HW13.out.size);have hy_:=HY13.out.below hB_ HY13.out.lt;have y0_:=hy_.cell 0 (v:=.int .i64 ya) rfl;have y1_:=hy_.cell 1 (v:=.int .i64 yo) rfl;have y2_:=hy_.cell 2 (v:=.bool yd) rfl;have y3_:=hy_.cell 3 (v:=.string ys) rfl;obtain ⟨p0_,p1_,p2_,p3_⟩:=HKP.out _ hw_;have hbq_:bq < w1_.heap.size:=Nat.lt_of_lt_of_le hbqw hw_.size;go_simp
                      first
                       | exact ⟨rfl,Below.refl _ _⟩
                       | ((first | rw [decide_eq_true (by omega)] | rw [decide_eq_false (by omega)] | rw [if_pos (by omega)] | rw [IntWalk.i64_in _ (by omega)]);exact ⟨rfl,Below.refl _ _⟩)
                       | done
                    case nexthghy =>
                    intro w14 hb14;have HW14:=Lib.hid (HW13.out.trans (hb14.mono HW13.out.size));clear hb14 HW13 HY13;go_wp2_with fail;go_roundw
                    case rel=>exact ⟨q + 1,by omega,by go_num,(HBI.out.trans (HW14.out.mono HBI.out.size))⟩
                    case measure=>first | (simp [intOf];done) | (simp [intOf];omega)
       ·have hdq:decide ((q:Int) < (L.length:Int)) = false:=decide_eq_false (by omega);go_wp2_with fail;refine (fawake_any _ ((HZ0.out.below (HB7.out)).ahead) (Nat.lt_of_lt_of_le ((HZ0.out.below (HB7.out)).tab) ((HZ0.out.below (HB7.out)).le)) ((HZ0.out.below (HB7.out)).maxl)).mono ?_;rintro o_ wz ⟨rfl,hbz⟩;have HBZ:=Lib.hid (HB0.out.trans ((HB7.out).mono HB0.out.size |>.trans (hbz.mono (Nat.le_trans HB0.out.size (HB7.out).size))));clear hbz;go_wp2_with fail;go_ret;exact ⟨rfl,HBZ.out⟩
end
section -- FOpen
open Go Go.ChangeShapes Go.WideShapes Go.ChangeAt Go.RowKit Go.Deep
def aheadI:List Int:=[0,31,59,90,120,151,181,212,243,273,304,334,365]
theorem ahead_of {W : World} (h : laidMetH Tryz.prog [("meridian/civil.ahead", Rows.laid_meridian_civil_ahead)] W) : Ahead W := fun i hi => by
 have ht : Lib.TabIs Tryz.prog W "meridian/civil.ahead" .i64 aheadI := Lib.tabIs_of_head (rest := []) (g := 0) (by kernel_rfl) (by kernel_rfl) Tryz.underlying175 Tryz.underlying3 (by kernel_rfl) (by kernel_rfl) h
 have hc:=ht.cell (g:=0) (by kernel_rfl) i (by simpa [aheadI] using hi);rw [hc];have:i = 0∨i = 1∨i = 2∨i = 3∨i = 4∨i = 5∨i = 6∨i = 7∨i = 8∨i = 9∨i = 10∨i = 11∨i = 12:=by omega
 rcases this with h | h | h | h | h | h | h | h | h | h | h | h | h <;> subst h <;> rfl
section
variable {H:Type} {enc:TypeId × Value→H} {P:Program} {W:World} {base:Nat} {spare:MemPlace→Bool} {held:Bool}
theorem trod_struct8 {t:TypeId} {f0 f1 f2 f3 f4 f5 f6 f7:Field} {fuel:Nat} {cs:List Value} {x:DataW H × List MemPlace} (ht:P.underlying t = some (.struct #[f0,f1,f2,f3,f4,f5,f6,f7])) (h:DataW.trod enc P W 0 (fun _=>true) true fuel t cs = some x) :
  ∃ y0 y1 y2 y3 y4 y5 y6 y7 n,cs.length = P.cellsOf t∧DataW.trod enc P W 0 (fun _=>true) true n f0.type ((cs.drop f0.offset).take (P.cellsOf f0.type)) = some y0∧DataW.trod enc P W 0 (fun _=>true) true n f1.type ((cs.drop f1.offset).take (P.cellsOf f1.type)) = some y1 ∧
   DataW.trod enc P W 0 (fun _=>true) true n f2.type ((cs.drop f2.offset).take (P.cellsOf f2.type)) = some y2∧DataW.trod enc P W 0 (fun _=>true) true n f3.type ((cs.drop f3.offset).take (P.cellsOf f3.type)) = some y3∧DataW.trod enc P W 0 (fun _=>true) true n f4.type ((cs.drop f4.offset).take (P.cellsOf f4.type)) = some y4 ∧
   DataW.trod enc P W 0 (fun _=>true) true n f5.type ((cs.drop f5.offset).take (P.cellsOf f5.type)) = some y5∧DataW.trod enc P W 0 (fun _=>true) true n f6.type ((cs.drop f6.offset).take (P.cellsOf f6.type)) = some y6∧DataW.trod enc P W 0 (fun _=>true) true n f7.type ((cs.drop f7.offset).take (P.cellsOf f7.type)) = some y7:=by
 obtain ⟨xs,n,_,rfl,hl,hlen,hf⟩:=DataW.trod_struct ht h
 match xs,hlen with
 | [y0,y1,y2,y3,y4,y5,y6,y7],_=>exact ⟨y0,y1,y2,y3,y4,y5,y6,y7,n,hl,by simpa using hf 0 f0 rfl,by simpa using hf 1 f1 rfl,by simpa using hf 2 f2 rfl,by simpa using hf 3 f3 rfl,by simpa using hf 4 f4 rfl,by simpa using hf 5 f5 rfl,by simpa using hf 6 f6 rfl,by simpa using hf 7 f7 rfl⟩
end
section
variable {H:Type} {enc:TypeId × Value→H} {W:World}
theorem trod_day {n:Nat} {cs:List Value} {y:DataW H × List MemPlace} (h:DataW.trod enc Tryz.prog W 0 (fun _=>true) true n 36 cs = some y):∃ a b c:Int,cs = [.int .i64 a,.int .i64 b,.int .i64 c]:=by
 obtain ⟨y0,y1,y2,k,-,hl,h0,h1,h2⟩:=trod_struct3 Tryz.underlying36 h;rw [show Tryz.prog.cellsOf 36 = 3 by kernel_rfl] at hl;obtain ⟨a,e0,_,_⟩:=DataW.trod_int Tryz.underlying3 h0;obtain ⟨b,e1,_,_⟩:=DataW.trod_int Tryz.underlying3 h1;obtain ⟨c,e2,_,_⟩:=DataW.trod_int Tryz.underlying3 h2
 match cs,hl with
 | [v0,v1,v2],_ =>
   rw [show Tryz.prog.cellsOf 3 = 1 by kernel_rfl] at e0 e1 e2;simp at e0 e1 e2;subst e0 e1 e2;exact ⟨a,b,c,rfl⟩
theorem trod_clock {n:Nat} {cs:List Value} {y:DataW H × List MemPlace} (h:DataW.trod enc Tryz.prog W 0 (fun _=>true) true n 38 cs = some y):∃ a b:Int,cs = [.int .i64 a,.int .i64 b]:=by
 obtain ⟨y0,y1,k,-,hl,h0,h1⟩:=trod_struct2 Tryz.underlying38 h;rw [show Tryz.prog.cellsOf 38 = 2 by kernel_rfl] at hl;obtain ⟨a,e0,_,_⟩:=DataW.trod_int Tryz.underlying3 h0;obtain ⟨b,e1,_,_⟩:=DataW.trod_int Tryz.underlying3 h1
 match cs,hl with
 | [v0,v1],_ =>
   rw [show Tryz.prog.cellsOf 3 = 1 by kernel_rfl] at e0 e1;simp at e0 e1;subst e0 e1;exact ⟨a,b,rfl⟩
theorem trod_rul {n:Nat} {cs:List Value} {y:DataW H × List MemPlace} (h:DataW.trod enc Tryz.prog W 0 (fun _=>true) true n 106 cs = some y):∃ r:Rul,cs = rulV r∧True:=by
 obtain ⟨y0,y1,y2,y3,y4,y5,y6,y7,k,hl,h0,h1,h2,h3,h4,h5,h6,h7⟩:=trod_struct8 Tryz.underlying106 h;rw [show Tryz.prog.cellsOf 106 = 11 by kernel_rfl] at hl;obtain ⟨nm,e0,_,_⟩:=DataW.trod_string Tryz.underlying9 h0;obtain ⟨fr,e1,_,_⟩:=DataW.trod_int Tryz.underlying3 h1;obtain ⟨to,e2,_,_⟩:=DataW.trod_int Tryz.underlying3 h2;obtain ⟨mo,e3,_,_⟩:=DataW.trod_int Tryz.underlying3 h3;obtain ⟨dk,dw,dn,e4⟩:=trod_day h4;obtain ⟨sc,kd,e5⟩:=trod_clock h5;obtain ⟨sv,e6,_,_⟩:=DataW.trod_int Tryz.underlying3 h6;obtain ⟨lt,e7,_,_⟩:=DataW.trod_string Tryz.underlying9 h7
 match cs,hl with
 | [v0,v1,v2,v3,v4,v5,v6,v7,v8,v9,v10],_ =>
   rw [show Tryz.prog.cellsOf 3 = 1 by kernel_rfl] at e1 e2 e3 e6;rw [show Tryz.prog.cellsOf 9 = 1 by kernel_rfl] at e0 e7;rw [show Tryz.prog.cellsOf 36 = 3 by kernel_rfl] at e4;rw [show Tryz.prog.cellsOf 38 = 2 by kernel_rfl] at e5;simp at e0 e1 e2 e3 e4 e5 e6 e7;obtain ⟨rfl,rfl,rfl⟩:=e4;obtain ⟨rfl,rfl⟩:=e5;subst e0 e1 e2 e3 e6 e7;exact ⟨⟨nm,fr,to,mo,dk,dw,dn,sc,kd,sv,lt⟩,rfl,trivial⟩
instance:Inhabited Rul:=⟨⟨⟨#[]⟩,0,0,0,0,0,0,0,0,0,⟨#[]⟩⟩⟩
end
end
section -- AOpen
open Go Go.ChangeShapes Go.WideShapes Go.ChangeAt Go.RowKit Go.Deep
section
variable {H:Type} {enc:TypeId × Value→H} {P:Program} {W:World}
theorem trod_struct4 {t:TypeId} {f0 f1 f2 f3:Field} {fuel:Nat} {cs:List Value} {x:DataW H × List MemPlace} (ht:P.underlying t = some (.struct #[f0,f1,f2,f3])) (h:DataW.trod enc P W 0 (fun _=>true) true fuel t cs = some x) :
  ∃ y0 y1 y2 y3 n,cs.length = P.cellsOf t∧DataW.trod enc P W 0 (fun _=>true) true n f0.type ((cs.drop f0.offset).take (P.cellsOf f0.type)) = some y0∧DataW.trod enc P W 0 (fun _=>true) true n f1.type ((cs.drop f1.offset).take (P.cellsOf f1.type)) = some y1 ∧
   DataW.trod enc P W 0 (fun _=>true) true n f2.type ((cs.drop f2.offset).take (P.cellsOf f2.type)) = some y2∧DataW.trod enc P W 0 (fun _=>true) true n f3.type ((cs.drop f3.offset).take (P.cellsOf f3.type)) = some y3:=by
 obtain ⟨xs,n,_,rfl,hl,hlen,hf⟩:=DataW.trod_struct ht h
 match xs,hlen with
 | [y0,y1,y2,y3],_=>exact ⟨y0,y1,y2,y3,n,hl,by simpa using hf 0 f0 rfl,by simpa using hf 1 f1 rfl,by simpa using hf 2 f2 rfl,by simpa using hf 3 f3 rfl⟩
theorem trod_struct6 {t:TypeId} {f0 f1 f2 f3 f4 f5:Field} {fuel:Nat} {cs:List Value} {x:DataW H × List MemPlace} (ht:P.underlying t = some (.struct #[f0,f1,f2,f3,f4,f5])) (h:DataW.trod enc P W 0 (fun _=>true) true fuel t cs = some x) :
  ∃ y0 y1 y2 y3 y4 y5 n,cs.length = P.cellsOf t∧DataW.trod enc P W 0 (fun _=>true) true n f0.type ((cs.drop f0.offset).take (P.cellsOf f0.type)) = some y0∧DataW.trod enc P W 0 (fun _=>true) true n f1.type ((cs.drop f1.offset).take (P.cellsOf f1.type)) = some y1 ∧
   DataW.trod enc P W 0 (fun _=>true) true n f2.type ((cs.drop f2.offset).take (P.cellsOf f2.type)) = some y2∧DataW.trod enc P W 0 (fun _=>true) true n f3.type ((cs.drop f3.offset).take (P.cellsOf f3.type)) = some y3 ∧
   DataW.trod enc P W 0 (fun _=>true) true n f4.type ((cs.drop f4.offset).take (P.cellsOf f4.type)) = some y4∧DataW.trod enc P W 0 (fun _=>true) true n f5.type ((cs.drop f5.offset).take (P.cellsOf f5.type)) = some y5:=by
 obtain ⟨xs,n,_,rfl,hl,hlen,hf⟩:=DataW.trod_struct ht h
 match xs,hlen with
 | [y0,y1,y2,y3,y4,y5],_=>exact ⟨y0,y1,y2,y3,y4,y5,n,hl,by simpa using hf 0 f0 rfl,by simpa using hf 1 f1 rfl,by simpa using hf 2 f2 rfl,by simpa using hf 3 f3 rfl,by simpa using hf 4 f4 rfl,by simpa using hf 5 f5 rfl⟩
end
section
variable {H:Type} {enc:TypeId × Value→H} {W:World}
theorem trod_until {n:Nat} {cs:List Value} {y:DataW H × List MemPlace} (h:DataW.trod enc Tryz.prog W 0 (fun _=>true) true n 40 cs = some y):∃ a b c d e f g:Int,cs = [.int .i64 a,.int .i64 b,.int .i64 c,.int .i64 d,.int .i64 e,.int .i64 f,.int .i64 g]:=by
 obtain ⟨y0,y1,y2,y3,k,hl,h0,h1,h2,h3⟩:=trod_struct4 Tryz.underlying40 h;rw [show Tryz.prog.cellsOf 40 = 7 by kernel_rfl] at hl;obtain ⟨a,e0,_,_⟩:=DataW.trod_int Tryz.underlying3 h0;obtain ⟨b,e1,_,_⟩:=DataW.trod_int Tryz.underlying3 h1;obtain ⟨dk,dw,dn,e2⟩:=trod_day h2;obtain ⟨sc,kd,e3⟩:=trod_clock h3
 match cs,hl with
 | [v0,v1,v2,v3,v4,v5,v6],_ =>
   rw [show Tryz.prog.cellsOf 3 = 1 by kernel_rfl] at e0 e1;rw [show Tryz.prog.cellsOf 36 = 3 by kernel_rfl] at e2;rw [show Tryz.prog.cellsOf 38 = 2 by kernel_rfl] at e3;simp at e0 e1 e2 e3;obtain ⟨rfl,rfl,rfl⟩:=e2;obtain ⟨rfl,rfl⟩:=e3;subst e0 e1;exact ⟨a,b,dk,dw,dn,sc,kd,rfl⟩
theorem trod_era {n:Nat} {cs:List Value} {y:DataW H × List MemPlace} (h:DataW.trod enc Tryz.prog W 0 (fun _=>true) true n 42 cs = some y) :
  ∃ (e:EraN) (ru f:ByteArray) (en:Bool),cs = [.int .i64 e.off,.string ru,.int .i64 e.save,.string f,.bool en,.int .i64 e.year,.int .i64 e.month,.int .i64 e.dk,.int .i64 e.dw,.int .i64 e.dn,.int .i64 e.sec,.int .i64 e.ak] ∧
   (-9223372036854775808 ≤ e.off∧e.off ≤ 9223372036854775807)∧(-9223372036854775808 ≤ e.save∧e.save ≤ 9223372036854775807):=by
 obtain ⟨y0,y1,y2,y3,y4,y5,k,hl,h0,h1,h2,h3,h4,h5⟩:=trod_struct6 Tryz.underlying42 h;rw [show Tryz.prog.cellsOf 42 = 12 by kernel_rfl] at hl;obtain ⟨off,e0,_,w0⟩:=DataW.trod_int Tryz.underlying3 h0;obtain ⟨ru,e1,_,_⟩:=DataW.trod_string Tryz.underlying9 h1;obtain ⟨sv,e2,_,w2⟩:=DataW.trod_int Tryz.underlying3 h2;obtain ⟨f,e3,_,_⟩:=DataW.trod_string Tryz.underlying9 h3;obtain ⟨en,e4,_⟩:=DataW.trod_bool Tryz.underlying4 h4;obtain ⟨yr,mo,dk,dw,dn,sc,kd,e5⟩:=trod_until h5
 match cs,hl with
 | [v0,v1,v2,v3,v4,v5,v6,v7,v8,v9,v10,v11],_ =>
   rw [show Tryz.prog.cellsOf 3 = 1 by kernel_rfl] at e0 e2;rw [show Tryz.prog.cellsOf 9 = 1 by kernel_rfl] at e1 e3;rw [show Tryz.prog.cellsOf 4 = 1 by kernel_rfl] at e4;rw [show Tryz.prog.cellsOf 40 = 7 by kernel_rfl] at e5;simp at e0 e1 e2 e3 e4 e5;obtain ⟨rfl,rfl,rfl,rfl,rfl,rfl,rfl⟩:=e5;subst e0 e1 e2 e3 e4;exact ⟨⟨off,sv,yr,mo,dk,dw,dn,sc,kd⟩,ru,f,en,rfl,wf_i64 w0,wf_i64 w2⟩
end
end
end Go.Proofs.YteekjfgjmccdnaaGreatDoor
