/-
  Layer 13's law: the chapter's example.
-/
import Derived.Test.YteekjfgjmccdnaaGreatDoorZr6
set_option maxHeartbeats 16000000
set_option maxRecDepth 100000
namespace Go.Proofs.YteekjfgjmccdnaaGreatDoor
section -- RefC
open Go Go.RowKit Go.Shelf
def RDay (k wk n y m:Int):Value:=if n ≤ lenV y m then .tuple #[.int .i64 (inDay k wk n y m),.bool true] else .tuple #[.int .i64 0,.bool false]
theorem rday_any (k wk n y m:Int) (hok:dayOkB k wk n = true) (hy1:1 ≤ y) (hy2:y ≤ 4000) (h1:1 ≤ m) (h2:m ≤ 12) (w:World) :
  Calls Tryz.prog 110 #[dayA k wk n,.int .i64 y,.int .i64 m] w fun e w'=>e = .returned (RDay k wk n y m)∧Below w.heap.size w w':=by
 have HB0:=Lib.hid ((Below.refl w.heap.size w).alloc (Nat.le_refl _) (.cells #[.int .i64 k,.int .i64 wk,.int .i64 n] 36));have HX:=Lib.hid (Blk.new w 36 #[.int .i64 k,.int .i64 wk,.int .i64 n]);have HD:=Lib.hid (fun W=>rdays_any y m hy1 hy2 h1 h2 W);have HL:=Lib.hid (fun W=>rlong_any y m h1 h2 W);have hyb:=yearV_in (y:=y) (by omega) (by omega);have hsb:=startV_in y m;have hlb:=lenV_in (y:=y) h1 h2;obtain ⟨f,hf⟩:∃ f,yearV y + startV y m = f:=⟨_,rfl⟩;have hyb2:-2000000 ≤ yearV y∧yearV y ≤ 2000000:=by unfold yearV;omega
 have hfb:-10000000 ≤ f∧f ≤ 10000000:=by omega
 have HDV:=Lib.hid (fun d=>show dayV y m d = f + d - 1 by unfold dayV;omega);rw [hf] at HD;obtain ⟨R,hR⟩:∃ R,RDay k wk n y m = R:=⟨_,rfl⟩;rw [hR];unfold RDay at hR;have HRD:=Lib.hid hR;clear hR;clear hf hyb hyb2 hsb hy1 hy2;obtain ⟨ln,hln⟩:∃ ln,lenV y m = ln:=⟨_,rfl⟩;rw [hln] at HL hlb HRD;have HLN:=Lib.hid hln;clear hln h1 h2;unfold dayOkB at hok;rw [decide_eq_true_eq] at hok
 by_cases hn:n ≤ ln
 ·rw [if_pos hn] at HRD
  rcases hok with ⟨rfl,h3,h4,rfl⟩ | ⟨rfl,rfl,h3,h4⟩ | ⟨rfl | rfl,h3,h4,h5,h6⟩
  ·have HV:=Lib.hid (show inDay 0 0 n y m = f + n - 1 by unfold inDay;rw [if_pos rfl,HDV.out]);have hd1:decide (n < 1) = false:=decide_eq_false (by omega);have hd2:decide (ln < n) = false:=decide_eq_false (by omega);rw [HV.out] at HRD;unfold dayA;go_enter Tryz.func110,Tryz.ntmps110;go_wp2_with fail;refine (HD.out _).mono ?_;rintro e w1 ⟨rfl,hb⟩;have h1:=HX.out.below hb HX.out.lt;have HB1:=Lib.hid (HB0.out.trans (hb.mono HB0.out.size));have q0:=h1.cell 0 (v:=.int .i64 0) rfl;have q1:=h1.cell 1 (v:=.int .i64 (0)) rfl;have q2:=h1.cell 2 (v:=.int .i64 (n)) rfl;have HX1:=Lib.hid h1;clear hb h1;go_wp2_with fail;refine (HL.out _).mono ?_;rintro e w2 ⟨rfl,hb⟩;have h1:=HX1.out.below hb HX1.out.lt;have HB2:=Lib.hid (HB1.out.trans (hb.mono HB1.out.size));have q0:=h1.cell 0 (v:=.int .i64 0) rfl;have q1:=h1.cell 1 (v:=.int .i64 (0)) rfl;have q2:=h1.cell 2 (v:=.int .i64 (n)) rfl;have HX2:=Lib.hid h1;have hs2:=HB2.out.size;clear hb h1;go_wp2_with fail;refine bodyPost_ret (v:=.tuple #[.int .i64 (f + n - 1),.bool true]) ?_ rfl ⟨by rw [← HRD.out],HB2.out⟩;simp [results,Tryz.f110,go_sem]
  ·skip
   obtain ⟨K,hK7,hsk,hwK,hnK⟩:=seek_spec (a:=(f + ln - 1)) (st:=(-1)) (wk:=wk) (by omega) (by omega) (by omega);have HSK:=Lib.hid (And.intro hwK hnK);have HV:=Lib.hid (show inDay 1 wk (0) y m = (f + ln - 1) + (-1) * K by unfold inDay;rw [if_neg (by decide),if_neg (by decide),if_pos rfl,HLN.out,HDV.out];exact hsk);rw [HV.out] at HRD;clear hsk hwK hnK;unfold dayA;go_enter Tryz.func110,Tryz.ntmps110;go_wp2_with fail;refine (HD.out _).mono ?_;rintro e w1 ⟨rfl,hb⟩;have h1:=HX.out.below hb HX.out.lt;have HB1:=Lib.hid (HB0.out.trans (hb.mono HB0.out.size));have q0:=h1.cell 0 (v:=.int .i64 1) rfl;have q1:=h1.cell 1 (v:=.int .i64 (wk)) rfl;have q2:=h1.cell 2 (v:=.int .i64 (0)) rfl;have HX1:=Lib.hid h1;clear hb h1;go_wp2_with fail;refine (HL.out _).mono ?_;rintro e w2 ⟨rfl,hb⟩;have h1:=HX1.out.below hb HX1.out.lt;have HB2:=Lib.hid (HB1.out.trans (hb.mono HB1.out.size));have q0:=h1.cell 0 (v:=.int .i64 1) rfl;have q1:=h1.cell 1 (v:=.int .i64 (wk)) rfl;have q2:=h1.cell 2 (v:=.int .i64 (0)) rfl;have HX2:=Lib.hid h1;have hs2:=HB2.out.size;clear hb h1;go_wp2_with fail
   go_loopw [10] (fun dv wr=>∃ j:Nat,j ≤ K∧dv = .int .i64 ((f + ln - 1) + (-1) * j)∧Below w2.heap.size w2 wr) (fun dv _=>(- ((f + ln - 1) + (-1) * K - intOf dv)).toNat)
   case atStart=>exact ⟨0,Nat.zero_le _,by first | rfl | simp,Below.refl _ _⟩
   case round =>
    obtain ⟨j,hj,rfl,hbw⟩:=hrel;have HBW:=Lib.hid hbw;have hxr:=HX2.out.below hbw HX2.out.lt;clear hbw;have q0:=hxr.cell 0 (v:=.int .i64 1) rfl;have q1:=hxr.cell 1 (v:=.int .i64 wk) rfl;have q2:=hxr.cell 2 (v:=.int .i64 (0)) rfl;have HXR:=Lib.hid hxr;have hws:=HBW.out.size;clear hxr;obtain ⟨d,hdd⟩:∃ d:Int,(f + ln - 1) + (-1) * j = d:=⟨_,rfl⟩;rw [hdd];have hdb:-20000000 ≤ d∧d ≤ 20000000:=by omega
    have HJ:=Lib.hid hdd;clear hdd;have HCQ:=Lib.hid (fun (W:World) (h:Below wr.heap.size wr W)=>(h.cell (p:=⟨w.heap.size,1,none⟩) HXR.out.lt).trans q1);have HWK:=Lib.hid (fun (W:World)=>(rweek_any d (by omega) (by omega) W).mono (R':=fun e w'=>e = .returned (.int .i64 (weekV d))∧Below W.heap.size W w') (fun e w' h=>⟨h.1,h.2 ▸ Below.refl _ _⟩));go_wp2_with fail
    by_cases hjK:j = K
    ·have hne:(weekV d != wk) = false:=by
      have h:=HSK.out.1;rw [← hjK,HJ.out] at h;simpa using h
     have hE:d = (f + ln - 1) + (-1) * K:=by rw [← HJ.out,hjK]
     have HE:=Lib.hid hE;clear hE hjK
     refine wp_env (fin:=?fna1) (by kernel_rfl) [47,48,49,50,51]
      [.int .i64 d,.int .i64 (weekV d),.pointer (some ⟨w.heap.size,1,none⟩),.int .i64 wk,.bool false] (by kernel_rfl) ?fina1 ?stepsa1 ?nexta1
     case fina1 =>
      simp only [putAll,Act.put,List.setIfInBounds_toArray,List.set_cons_succ,List.set_cons_zero]
      rfl
     case stepsa1 =>
      refine ⟨?_,?_,?_,?_,?_,trivial⟩
      all_goals refine .inr ⟨by kernel_rfl,fun w1_ hB_=>?_⟩
      all_goals
       have q1:=HCQ.out w1_ hB_;go_simp
       first
        | exact ⟨rfl,Below.refl _ _⟩
        | exact ⟨rfl,HWK.out w1_⟩
        | ((first | rw [decide_eq_true (by omega)] | rw [decide_eq_false (by omega)] | rw [if_pos (by omega)] | rw [IntWalk.i64_in _ (by omega)]);exact ⟨rfl,Below.refl _ _⟩)
        | done
     case nexta1 =>
     intro w5 hb5;have HB5:=Lib.hid (HBW.out.trans (hb5.mono HBW.out.size));clear hb5;go_wp2_with fail;rw [HE.out];refine bodyPost_ret (v:=.tuple #[.int .i64 ((f + ln - 1) + (-1) * K),.bool true]) ?_ rfl ⟨by rw [← HRD.out],HB2.out.trans (HB5.out.mono hs2)⟩;simp [results,Tryz.f110,go_sem]
    ·have hne:(weekV d != wk) = true:=by
      have h:=HSK.out.2 j (by omega);rw [HJ.out] at h;simpa using h
     have HNE:=Lib.hid hne
     refine wp_env (fin:=?fnb1) (by kernel_rfl) [47,48,49,50,51]
      [.int .i64 d,.int .i64 (weekV d),.pointer (some ⟨w.heap.size,1,none⟩),.int .i64 wk,.bool true] (by kernel_rfl) ?finb1 ?stepsb1 ?nextb1
     case finb1 =>
      simp only [putAll,Act.put,List.setIfInBounds_toArray,List.set_cons_succ,List.set_cons_zero]
      rfl
     case stepsb1 =>
      refine ⟨?_,?_,?_,?_,?_,trivial⟩
      all_goals refine .inr ⟨by kernel_rfl,fun w1_ hB_=>?_⟩
      all_goals
       have q1:=HCQ.out w1_ hB_;go_simp
       first
        | exact ⟨rfl,Below.refl _ _⟩
        | exact ⟨rfl,HWK.out w1_⟩
        | ((first | rw [decide_eq_true (by omega)] | rw [decide_eq_false (by omega)] | rw [if_pos (by omega)] | rw [IntWalk.i64_in _ (by omega)]);exact ⟨rfl,Below.refl _ _⟩)
        | done
     case nextb1 =>
     intro w5 hb5;have HB5:=Lib.hid (HBW.out.trans (hb5.mono HBW.out.size));have h5:=HXR.out.below hb5 HXR.out.lt;have q0:=h5.cell 0 (v:=.int .i64 1) rfl;clear hb5 h5 hne;go_wp2_with fail;go_roundw
     case rel=>exact ⟨j + 1,by omega,by first | rfl | go_num | (have:=HJ.out;congr 1;omega),HB5.out⟩
     case measure=>have:=HJ.out;simp [intOf];omega
  ·have hd1:decide (n < 1) = false:=decide_eq_false (by omega);have hd2:decide (ln < n) = false:=decide_eq_false (by omega);obtain ⟨K,hK7,hsk,hwK,hnK⟩:=seek_spec (a:=(f + n - 1)) (st:=1) (wk:=wk) (by omega) (by omega) (by omega);have HSK:=Lib.hid (And.intro hwK hnK);have HV:=Lib.hid (show inDay 2 wk (n) y m = (f + n - 1) + 1 * K by unfold inDay;rw [if_neg (by decide),if_pos rfl,HDV.out];exact hsk);rw [HV.out] at HRD;clear hsk hwK hnK;unfold dayA;go_enter Tryz.func110,Tryz.ntmps110;go_wp2_with fail;refine (HD.out _).mono ?_;rintro e w1 ⟨rfl,hb⟩;have h1:=HX.out.below hb HX.out.lt;have HB1:=Lib.hid (HB0.out.trans (hb.mono HB0.out.size));have q0:=h1.cell 0 (v:=.int .i64 2) rfl;have q1:=h1.cell 1 (v:=.int .i64 (wk)) rfl;have q2:=h1.cell 2 (v:=.int .i64 (n)) rfl;have HX1:=Lib.hid h1;clear hb h1;go_wp2_with fail;refine (HL.out _).mono ?_;rintro e w2 ⟨rfl,hb⟩;have h1:=HX1.out.below hb HX1.out.lt;have HB2:=Lib.hid (HB1.out.trans (hb.mono HB1.out.size));have q0:=h1.cell 0 (v:=.int .i64 2) rfl;have q1:=h1.cell 1 (v:=.int .i64 (wk)) rfl;have q2:=h1.cell 2 (v:=.int .i64 (n)) rfl;have HX2:=Lib.hid h1;have hs2:=HB2.out.size;clear hb h1;go_wp2_with fail
   go_loopw [10] (fun dv wr=>∃ j:Nat,j ≤ K∧dv = .int .i64 ((f + n - 1) + 1 * j)∧Below w2.heap.size w2 wr) (fun dv _=>( ((f + n - 1) + 1 * K - intOf dv)).toNat)
   case atStart=>exact ⟨0,Nat.zero_le _,by first | rfl | simp,Below.refl _ _⟩
   case round =>
    obtain ⟨j,hj,rfl,hbw⟩:=hrel;have HBW:=Lib.hid hbw;have hxr:=HX2.out.below hbw HX2.out.lt;clear hbw;have q0:=hxr.cell 0 (v:=.int .i64 2) rfl;have q1:=hxr.cell 1 (v:=.int .i64 wk) rfl;have q2:=hxr.cell 2 (v:=.int .i64 (n)) rfl;have HXR:=Lib.hid hxr;have hws:=HBW.out.size;clear hxr;obtain ⟨d,hdd⟩:∃ d:Int,(f + n - 1) + 1 * j = d:=⟨_,rfl⟩;rw [hdd];have hdb:-20000000 ≤ d∧d ≤ 20000000:=by omega
    have HJ:=Lib.hid hdd;clear hdd;have HCQ:=Lib.hid (fun (W:World) (h:Below wr.heap.size wr W)=>(h.cell (p:=⟨w.heap.size,1,none⟩) HXR.out.lt).trans q1);have HWK:=Lib.hid (fun (W:World)=>(rweek_any d (by omega) (by omega) W).mono (R':=fun e w'=>e = .returned (.int .i64 (weekV d))∧Below W.heap.size W w') (fun e w' h=>⟨h.1,h.2 ▸ Below.refl _ _⟩));go_wp2_with fail
    by_cases hjK:j = K
    ·have hne:(weekV d != wk) = false:=by
      have h:=HSK.out.1;rw [← hjK,HJ.out] at h;simpa using h
     have hE:d = (f + n - 1) + 1 * K:=by rw [← HJ.out,hjK]
     have HE:=Lib.hid hE;clear hE hjK
     refine wp_env (fin:=?fna2) (by kernel_rfl) [47,48,49,50,51]
      [.int .i64 d,.int .i64 (weekV d),.pointer (some ⟨w.heap.size,1,none⟩),.int .i64 wk,.bool false] (by kernel_rfl) ?fina2 ?stepsa2 ?nexta2
     case fina2 =>
      simp only [putAll,Act.put,List.setIfInBounds_toArray,List.set_cons_succ,List.set_cons_zero]
      rfl
     case stepsa2 =>
      refine ⟨?_,?_,?_,?_,?_,trivial⟩
      all_goals refine .inr ⟨by kernel_rfl,fun w1_ hB_=>?_⟩
      all_goals
       have q1:=HCQ.out w1_ hB_;go_simp
       first
        | exact ⟨rfl,Below.refl _ _⟩
        | exact ⟨rfl,HWK.out w1_⟩
        | ((first | rw [decide_eq_true (by omega)] | rw [decide_eq_false (by omega)] | rw [if_pos (by omega)] | rw [IntWalk.i64_in _ (by omega)]);exact ⟨rfl,Below.refl _ _⟩)
        | done
     case nexta2 =>
     intro w5 hb5;have HB5:=Lib.hid (HBW.out.trans (hb5.mono HBW.out.size));clear hb5;go_wp2_with fail;rw [HE.out];refine bodyPost_ret (v:=.tuple #[.int .i64 ((f + n - 1) + 1 * K),.bool true]) ?_ rfl ⟨by rw [← HRD.out],HB2.out.trans (HB5.out.mono hs2)⟩;simp [results,Tryz.f110,go_sem]
    ·have hne:(weekV d != wk) = true:=by
      have h:=HSK.out.2 j (by omega);rw [HJ.out] at h;simpa using h
     have HNE:=Lib.hid hne
     refine wp_env (fin:=?fnb2) (by kernel_rfl) [47,48,49,50,51]
      [.int .i64 d,.int .i64 (weekV d),.pointer (some ⟨w.heap.size,1,none⟩),.int .i64 wk,.bool true] (by kernel_rfl) ?finb2 ?stepsb2 ?nextb2
     case finb2 =>
      simp only [putAll,Act.put,List.setIfInBounds_toArray,List.set_cons_succ,List.set_cons_zero]
      rfl
     case stepsb2 =>
      refine ⟨?_,?_,?_,?_,?_,trivial⟩
      all_goals refine .inr ⟨by kernel_rfl,fun w1_ hB_=>?_⟩
      all_goals
       have q1:=HCQ.out w1_ hB_;go_simp
       first
        | exact ⟨rfl,Below.refl _ _⟩
        | exact ⟨rfl,HWK.out w1_⟩
        | ((first | rw [decide_eq_true (by omega)] | rw [decide_eq_false (by omega)] | rw [if_pos (by omega)] | rw [IntWalk.i64_in _ (by omega)]);exact ⟨rfl,Below.refl _ _⟩)
        | done
     case nextb2 =>
     intro w5 hb5;have HB5:=Lib.hid (HBW.out.trans (hb5.mono HBW.out.size));have h5:=HXR.out.below hb5 HXR.out.lt;have q0:=h5.cell 0 (v:=.int .i64 2) rfl;clear hb5 h5 hne;go_wp2_with fail;go_roundw
     case rel=>exact ⟨j + 1,by omega,by first | rfl | go_num | (have:=HJ.out;congr 1;omega),HB5.out⟩
     case measure=>have:=HJ.out;simp [intOf];omega
  ·have hd1:decide (n < 1) = false:=decide_eq_false (by omega);have hd2:decide (ln < n) = false:=decide_eq_false (by omega);obtain ⟨K,hK7,hsk,hwK,hnK⟩:=seek_spec (a:=(f + n - 1)) (st:=(-1)) (wk:=wk) (by omega) (by omega) (by omega);have HSK:=Lib.hid (And.intro hwK hnK);have HV:=Lib.hid (show inDay 3 wk (n) y m = (f + n - 1) + (-1) * K by unfold inDay;rw [if_neg (by decide),if_neg (by decide),if_neg (by decide),HDV.out];exact hsk);rw [HV.out] at HRD;clear hsk hwK hnK;unfold dayA;go_enter Tryz.func110,Tryz.ntmps110;go_wp2_with fail;refine (HD.out _).mono ?_;rintro e w1 ⟨rfl,hb⟩;have h1:=HX.out.below hb HX.out.lt;have HB1:=Lib.hid (HB0.out.trans (hb.mono HB0.out.size));have q0:=h1.cell 0 (v:=.int .i64 3) rfl;have q1:=h1.cell 1 (v:=.int .i64 (wk)) rfl;have q2:=h1.cell 2 (v:=.int .i64 (n)) rfl;have HX1:=Lib.hid h1;clear hb h1;go_wp2_with fail;refine (HL.out _).mono ?_;rintro e w2 ⟨rfl,hb⟩;have h1:=HX1.out.below hb HX1.out.lt;have HB2:=Lib.hid (HB1.out.trans (hb.mono HB1.out.size));have q0:=h1.cell 0 (v:=.int .i64 3) rfl;have q1:=h1.cell 1 (v:=.int .i64 (wk)) rfl;have q2:=h1.cell 2 (v:=.int .i64 (n)) rfl;have HX2:=Lib.hid h1;have hs2:=HB2.out.size;clear hb h1;go_wp2_with fail
   go_loopw [10] (fun dv wr=>∃ j:Nat,j ≤ K∧dv = .int .i64 ((f + n - 1) + (-1) * j)∧Below w2.heap.size w2 wr) (fun dv _=>(- ((f + n - 1) + (-1) * K - intOf dv)).toNat)
   case atStart=>exact ⟨0,Nat.zero_le _,by first | rfl | simp,Below.refl _ _⟩
   case round =>
    obtain ⟨j,hj,rfl,hbw⟩:=hrel;have HBW:=Lib.hid hbw;have hxr:=HX2.out.below hbw HX2.out.lt;clear hbw;have q0:=hxr.cell 0 (v:=.int .i64 3) rfl;have q1:=hxr.cell 1 (v:=.int .i64 wk) rfl;have q2:=hxr.cell 2 (v:=.int .i64 (n)) rfl;have HXR:=Lib.hid hxr;have hws:=HBW.out.size;clear hxr;obtain ⟨d,hdd⟩:∃ d:Int,(f + n - 1) + (-1) * j = d:=⟨_,rfl⟩;rw [hdd];have hdb:-20000000 ≤ d∧d ≤ 20000000:=by omega
    have HJ:=Lib.hid hdd;clear hdd;have HCQ:=Lib.hid (fun (W:World) (h:Below wr.heap.size wr W)=>(h.cell (p:=⟨w.heap.size,1,none⟩) HXR.out.lt).trans q1);have HWK:=Lib.hid (fun (W:World)=>(rweek_any d (by omega) (by omega) W).mono (R':=fun e w'=>e = .returned (.int .i64 (weekV d))∧Below W.heap.size W w') (fun e w' h=>⟨h.1,h.2 ▸ Below.refl _ _⟩));go_wp2_with fail
    by_cases hjK:j = K
    ·have hne:(weekV d != wk) = false:=by
      have h:=HSK.out.1;rw [← hjK,HJ.out] at h;simpa using h
     have hE:d = (f + n - 1) + (-1) * K:=by rw [← HJ.out,hjK]
     have HE:=Lib.hid hE;clear hE hjK
     refine wp_env (fin:=?fna3) (by kernel_rfl) [47,48,49,50,51]
      [.int .i64 d,.int .i64 (weekV d),.pointer (some ⟨w.heap.size,1,none⟩),.int .i64 wk,.bool false] (by kernel_rfl) ?fina3 ?stepsa3 ?nexta3
     case fina3 =>
      simp only [putAll,Act.put,List.setIfInBounds_toArray,List.set_cons_succ,List.set_cons_zero]
      rfl
     case stepsa3 =>
      refine ⟨?_,?_,?_,?_,?_,trivial⟩
      all_goals refine .inr ⟨by kernel_rfl,fun w1_ hB_=>?_⟩
      all_goals
       have q1:=HCQ.out w1_ hB_;go_simp
       first
        | exact ⟨rfl,Below.refl _ _⟩
        | exact ⟨rfl,HWK.out w1_⟩
        | ((first | rw [decide_eq_true (by omega)] | rw [decide_eq_false (by omega)] | rw [if_pos (by omega)] | rw [IntWalk.i64_in _ (by omega)]);exact ⟨rfl,Below.refl _ _⟩)
        | done
     case nexta3 =>
     intro w5 hb5;have HB5:=Lib.hid (HBW.out.trans (hb5.mono HBW.out.size));clear hb5;go_wp2_with fail;rw [HE.out];refine bodyPost_ret (v:=.tuple #[.int .i64 ((f + n - 1) + (-1) * K),.bool true]) ?_ rfl ⟨by rw [← HRD.out],HB2.out.trans (HB5.out.mono hs2)⟩;simp [results,Tryz.f110,go_sem]
    ·have hne:(weekV d != wk) = true:=by
      have h:=HSK.out.2 j (by omega);rw [HJ.out] at h;simpa using h
     have HNE:=Lib.hid hne
     refine wp_env (fin:=?fnb3) (by kernel_rfl) [47,48,49,50,51]
      [.int .i64 d,.int .i64 (weekV d),.pointer (some ⟨w.heap.size,1,none⟩),.int .i64 wk,.bool true] (by kernel_rfl) ?finb3 ?stepsb3 ?nextb3
     case finb3 =>
      simp only [putAll,Act.put,List.setIfInBounds_toArray,List.set_cons_succ,List.set_cons_zero]
      rfl
     case stepsb3 =>
      refine ⟨?_,?_,?_,?_,?_,trivial⟩
      all_goals refine .inr ⟨by kernel_rfl,fun w1_ hB_=>?_⟩
      all_goals
       have q1:=HCQ.out w1_ hB_;go_simp
       first
        | exact ⟨rfl,Below.refl _ _⟩
        | exact ⟨rfl,HWK.out w1_⟩
        | ((first | rw [decide_eq_true (by omega)] | rw [decide_eq_false (by omega)] | rw [if_pos (by omega)] | rw [IntWalk.i64_in _ (by omega)]);exact ⟨rfl,Below.refl _ _⟩)
        | done
     case nextb3 =>
     intro w5 hb5;have HB5:=Lib.hid (HBW.out.trans (hb5.mono HBW.out.size));have h5:=HXR.out.below hb5 HXR.out.lt;have q0:=h5.cell 0 (v:=.int .i64 3) rfl;clear hb5 h5 hne;go_wp2_with fail;go_roundw
     case rel=>exact ⟨j + 1,by omega,by first | rfl | go_num | (have:=HJ.out;congr 1;omega),HB5.out⟩
     case measure=>have:=HJ.out;simp [intOf];omega
 ·rw [if_neg hn] at HRD;have hd2:decide (ln < n) = true:=decide_eq_true (by omega)
  rcases hok with ⟨rfl,h3,h4,rfl⟩ | ⟨rfl,rfl,h3,h4⟩ | ⟨rfl | rfl,h3,h4,h5,h6⟩
  ·have hd1:decide (n < 1) = false:=decide_eq_false (by omega);unfold dayA;go_enter Tryz.func110,Tryz.ntmps110;go_wp2_with fail;refine (HD.out _).mono ?_;rintro e w1 ⟨rfl,hb⟩;have h1:=HX.out.below hb HX.out.lt;have HB1:=Lib.hid (HB0.out.trans (hb.mono HB0.out.size));have q0:=h1.cell 0 (v:=.int .i64 0) rfl;have q1:=h1.cell 1 (v:=.int .i64 (0)) rfl;have q2:=h1.cell 2 (v:=.int .i64 (n)) rfl;have HX1:=Lib.hid h1;clear hb h1;go_wp2_with fail;refine (HL.out _).mono ?_;rintro e w2 ⟨rfl,hb⟩;have h1:=HX1.out.below hb HX1.out.lt;have HB2:=Lib.hid (HB1.out.trans (hb.mono HB1.out.size));have q0:=h1.cell 0 (v:=.int .i64 0) rfl;have q1:=h1.cell 1 (v:=.int .i64 (0)) rfl;have q2:=h1.cell 2 (v:=.int .i64 (n)) rfl;have HX2:=Lib.hid h1;have hs2:=HB2.out.size;clear hb h1;go_wp2_with fail;refine bodyPost_ret (v:=.tuple #[.int .i64 (0),.bool false]) ?_ rfl ⟨by rw [← HRD.out],HB2.out⟩;simp [results,Tryz.f110,go_sem]
  ·omega
  ·have hd1:decide (n < 1) = false:=decide_eq_false (by omega);unfold dayA;go_enter Tryz.func110,Tryz.ntmps110;go_wp2_with fail;refine (HD.out _).mono ?_;rintro e w1 ⟨rfl,hb⟩;have h1:=HX.out.below hb HX.out.lt;have HB1:=Lib.hid (HB0.out.trans (hb.mono HB0.out.size));have q0:=h1.cell 0 (v:=.int .i64 2) rfl;have q1:=h1.cell 1 (v:=.int .i64 (wk)) rfl;have q2:=h1.cell 2 (v:=.int .i64 (n)) rfl;have HX1:=Lib.hid h1;clear hb h1;go_wp2_with fail;refine (HL.out _).mono ?_;rintro e w2 ⟨rfl,hb⟩;have h1:=HX1.out.below hb HX1.out.lt;have HB2:=Lib.hid (HB1.out.trans (hb.mono HB1.out.size));have q0:=h1.cell 0 (v:=.int .i64 2) rfl;have q1:=h1.cell 1 (v:=.int .i64 (wk)) rfl;have q2:=h1.cell 2 (v:=.int .i64 (n)) rfl;have HX2:=Lib.hid h1;have hs2:=HB2.out.size;clear hb h1;go_wp2_with fail;refine bodyPost_ret (v:=.tuple #[.int .i64 (0),.bool false]) ?_ rfl ⟨by rw [← HRD.out],HB2.out⟩;simp [results,Tryz.f110,go_sem]
  ·have hd1:decide (n < 1) = false:=decide_eq_false (by omega);unfold dayA;go_enter Tryz.func110,Tryz.ntmps110;go_wp2_with fail;refine (HD.out _).mono ?_;rintro e w1 ⟨rfl,hb⟩;have h1:=HX.out.below hb HX.out.lt;have HB1:=Lib.hid (HB0.out.trans (hb.mono HB0.out.size));have q0:=h1.cell 0 (v:=.int .i64 3) rfl;have q1:=h1.cell 1 (v:=.int .i64 (wk)) rfl;have q2:=h1.cell 2 (v:=.int .i64 (n)) rfl;have HX1:=Lib.hid h1;clear hb h1;go_wp2_with fail;refine (HL.out _).mono ?_;rintro e w2 ⟨rfl,hb⟩;have h1:=HX1.out.below hb HX1.out.lt;have HB2:=Lib.hid (HB1.out.trans (hb.mono HB1.out.size));have q0:=h1.cell 0 (v:=.int .i64 3) rfl;have q1:=h1.cell 1 (v:=.int .i64 (wk)) rfl;have q2:=h1.cell 2 (v:=.int .i64 (n)) rfl;have HX2:=Lib.hid h1;have hs2:=HB2.out.size;clear hb h1;go_wp2_with fail;refine bodyPost_ret (v:=.tuple #[.int .i64 (0),.bool false]) ?_ rfl ⟨by rw [← HRD.out],HB2.out⟩;simp [results,Tryz.f110,go_sem]
end
section -- RefD
open Go Go.RowKit Go.Shelf
theorem small_of {r:Rul} {y:Int} (hs:smallR r = true) (h1:r.from_ ≤ y) (h2:y ≤ r.to_) (h3:y ≤ 2110) :
  ofB r y = decide (r.dn ≤ lenV y r.month)∧-1000000 ≤ inDay r.dk r.dw r.dn y r.month∧inDay r.dk r.dw r.dn y r.month ≤ 1000000∧dayOkB r.dk r.dw r.dn = true∧1900 ≤ y∧1 ≤ r.month∧r.month ≤ 12∧-172800 ≤ r.sec∧r.sec ≤ 259200:=by
 unfold smallR at hs;rw [Bool.and_eq_true,decide_eq_true_eq] at hs;obtain ⟨⟨a1,a2,a3,a4,a5,a6,a7,a8,a9⟩,hok⟩:=hs;have hyv:-100000 ≤ yearV y∧yearV y ≤ 100000:=by unfold yearV;omega
 have hsv:=startV_in y r.month;have hlv:=lenV_in (y:=y) a4 a5;have hok2:=hok;unfold dayOkB at hok2;rw [decide_eq_true_eq] at hok2
 have hd:-1000000 ≤ inDay r.dk r.dw r.dn y r.month∧inDay r.dk r.dw r.dn y r.month ≤ 1000000:=by
  unfold inDay
  split
  ·unfold dayV;omega
  ·split
   ·unfold seekV dayV;rw [if_pos rfl];omega
   ·unfold seekV dayV;rw [if_neg (by decide)]
    split <;> omega
 have e1:mayB r.sec = true:=by unfold mayB;rw [decide_eq_true_eq];omega
 have e2:ofInB (inDay r.dk r.dw r.dn y r.month) = true:=by unfold ofInB;rw [decide_eq_true_eq];omega
 have e3:ymB y r.month = true:=by unfold ymB;rw [decide_eq_true_eq];omega
 refine ⟨?_,hd.1,hd.2,hok,by omega,a4,a5,a6,a7⟩;unfold ofB inOkB inB;rw [decide_eq_true (show r.from_ ≤ y∧y ≤ r.to_ from ⟨h1,h2⟩),hok,e1,e2,e3];simp
theorem map_f_append (A C:List FrI) (x:FrI):(A ++ x :: C).map FrI.f = A.map FrI.f ++ x.f :: C.map FrI.f:=by simp
theorem rall_any (w:World) (B:Nat) (v:Value) (l:List Rul) (a b:Int) (hv:Ruls w B v l) (hB:B ≤ w.heap.size) (hs:smallB l = true) (h2:b ≤ 2110) (h1:1880 ≤ a) :
  Calls Tryz.prog 70 #[v,.int .i64 a,.int .i64 b] w fun e w'=>∃ u D,e = .returned u∧Stab Fir.nominal (genL l a b) (D.map FrI.f)∧(∀ y ∈ D,0 ≤ y.i∧y.i < (l.length:Int))∧FrisN w' u D∧Below w.heap.size w w':=by
 obtain ⟨A,c,rfl,hlc,hcm⟩:=hv.form;unfold maxLen at hcm;have HV:=Lib.hid hv;unfold smallB at hs;rw [Bool.and_eq_true,decide_eq_true_eq,List.all_eq_true] at hs;obtain ⟨hsm,hl⟩:=hs;have HSM:=Lib.hid (fun k (hk:k < l.length)=>hsm l[k] (List.getElem_mem hk));clear hv hsm;go_enter Tryz.func70,Tryz.ntmps70;go_wp2_with fail
 go_loopw [7,8] (fun u iv wr=>∃ k:Nat,∃ D:List FrI,k ≤ l.length∧iv = .int .i64 k∧Stab Fir.nominal (genK l a b k) (D.map FrI.f)∧(∀ y ∈ D,0 ≤ y.i∧y.i < (k:Int))∧FrisN wr u D∧Below w.heap.size w wr) (fun _ iv _=>l.length - (intOf iv).toNat)
 case atStart=>exact ⟨0,[],Nat.zero_le _,rfl,Stab.nil,fun y hy=>by simp at hy,⟨Sl.nil _ _ _,TyF.nil _ _ _⟩,Below.refl _ _⟩
 case round =>
  obtain ⟨k,D,hk,rfl,hst,hdi,hfr,hbw⟩:=hrel;have HST:=Lib.hid hst;have HDI:=Lib.hid hdi;have HFR:=Lib.hid hfr;have HBW:=Lib.hid hbw;have hws:=hbw.size;clear hst hdi hfr hbw
  by_cases hlt:k < l.length
  ·have hd:decide ((k:Int) < (l.length:Int)) = true:=decide_eq_true (by omega);obtain ⟨bb,o,c',e,hbb,hc⟩:=(HV.out.below (HBW.out.mono hB)).cells (by omega)
   cases e
   obtain ⟨c0,c1,c2,c3,c4,c5,c6,c7,c8,c9,c10⟩:=hc k hlt;have hsmk:=HSM.out k hlt;have HNX:=Lib.hid (genK_next l a b hlt);obtain ⟨r,hr⟩:∃ r,l[k] = r:=⟨_,rfl⟩;rw [hr] at c0 c1 c2 c3 c4 c5 c6 c7 c8 c9 c10 HNX hsmk;have HSK:=Lib.hid hsmk
   have hgl:(genK l a b k).length ≤ 1500:=by
    have h5:=genL_len (l.take k) a b;have h6:(l.take k).length * (b + 1 - a).toNat ≤ 6 * 250:=Nat.mul_le_mul (by rw [List.length_take];omega) (by omega);unfold genK;omega
   obtain ⟨G,hG⟩:∃ G,genK l a b k = G:=⟨_,rfl⟩;rw [hG] at HST HNX hgl;have HRC:=Lib.hid (genR_cut r a b)
   have hfr_:1900 ≤ r.from_∧r.from_ ≤ 2100:=by
    unfold smallR at hsmk;rw [Bool.and_eq_true,decide_eq_true_eq] at hsmk;exact ⟨hsmk.1.1,hsmk.1.2.1⟩
   obtain ⟨y0,hy0⟩:∃ y0,max a r.from_ = y0:=⟨_,rfl⟩;obtain ⟨y1,hy1⟩:∃ y1,min b r.to_ = y1:=⟨_,rfl⟩;rw [hy0,hy1] at HRC;have hya:a ≤ y0:=by omega
   have hyf:r.from_ ≤ y0:=by omega
   have hyb:y1 ≤ b:=by omega
   clear hc hr hG hsmk;go_wp2_with fail;obtain ⟨W1,hW1⟩:∃ W,wr.alloc (.cells #[.string r.name,.int .i64 r.from_,.int .i64 r.to_,.int .i64 r.month,.int .i64 r.dk,.int .i64 r.dw,.int .i64 r.dn,.int .i64 r.sec,.int .i64 r.kind,.int .i64 r.save,.string r.letter] 106) = W:=⟨_,rfl⟩;have HR1:=Lib.hid (show RulB W1 wr.heap.size r by rw [← hW1];exact Blk.new wr _ _);have hb01:Below wr.heap.size wr W1:=by rw [← hW1];exact (Below.refl _ _).alloc (Nat.le_refl _) _
   have HF1:=Lib.hid (HFR.out.below hb01);have HB1:=Lib.hid (HBW.out.trans (hb01.mono hws));have hsz1:wr.heap.size < W1.heap.size:=by rw [← hW1];simp
   rw [hW1];obtain ⟨BX,hBX⟩:∃ n,wr.heap.size = n:=⟨_,rfl⟩;rw [hBX] at HR1 hsz1 hws ⊢;have HY:=Lib.hid (And.intro hy0 hy1);clear hW1 hb01 hy0 hy1 c0 c1 c2 c3 c4 c5 c6 c7 c8 c9 c10 HFR HBW
   go_loopw [7,10] (fun u yv wi=>∃ y:Int,∃ D:List FrI,yv = .int .i64 y∧y0 ≤ y∧(y ≤ y1 + 1∨y = y0)∧Stab Fir.nominal (G ++ genR r y0 (y - 1)) (D.map FrI.f)∧(∀ z ∈ D,0 ≤ z.i∧z.i ≤ (k:Int))∧FrisN wi u D∧RulB wi BX r∧Below w.heap.size w wi) (fun _ yv _=>(y1 + 1 - intOf yv).toNat)
   case atStart=>exact ⟨y0,D,rfl,Int.le_refl _,.inr rfl,by
    have e:genR r y0 (y0 - 1) = []:=by unfold genR;rw [yrs_nil (by omega)];rfl
    rw [e,List.append_nil]
    exact HST.out,fun z hz=>by have:=HDI.out z hz;omega,HF1.out,HR1.out,HB1.out⟩
   case round =>
    clear HST HDI HF1;obtain ⟨y,D,rfl,hy0,hy1,hst,hdi,hfr,hrb,hbw⟩:=hrel;have HST:=Lib.hid hst;have HDI:=Lib.hid hdi;have HFR:=Lib.hid hfr;have HRB:=Lib.hid hrb;have HBI:=Lib.hid hbw;have hBl:=Blk.lt hrb;have hws2:=hbw.size;have q0:=Blk.cell hrb 0 (v:=.string r.name) rfl;have q1:=Blk.cell hrb 1 (v:=.int .i64 r.from_) rfl;have q2:=Blk.cell hrb 2 (v:=.int .i64 r.to_) rfl;have q3:=Blk.cell hrb 3 (v:=.int .i64 r.month) rfl;have q4:=Blk.cell hrb 4 (v:=.int .i64 r.dk) rfl;have q5:=Blk.cell hrb 5 (v:=.int .i64 r.dw) rfl;have q6:=Blk.cell hrb 6 (v:=.int .i64 r.dn) rfl;have q7:=Blk.cell hrb 7 (v:=.int .i64 r.sec) rfl;have q8:=Blk.cell hrb 8 (v:=.int .i64 r.kind) rfl;have q9:=Blk.cell hrb 9 (v:=.int .i64 r.save) rfl;have q10:=Blk.cell hrb 10 (v:=.string r.letter) rfl;clear hst hdi hfr hrb hbw
    by_cases hyl:y ≤ b
    ·have hd5:decide (y ≤ b) = true:=decide_eq_true hyl
     by_cases hyt:y ≤ r.to_
     ·have hd6:decide (y ≤ r.to_) = true:=decide_eq_true hyt;have hyy:y ≤ y1:=by have:=HY.out.2;omega
      obtain ⟨hof,hd1,hd2,hok,hy19,hm1,hm2,hs1,hs2⟩:=small_of HSK.out (show r.from_ ≤ y by omega) hyt (by omega);have HD:=Lib.hid (fun W=>rday_any r.dk r.dw r.dn y r.month hok (by omega) (by omega) hm1 hm2 W);have HGN:=Lib.hid (genR_next r hy0)
      by_cases hn:r.dn ≤ lenV y r.month
      ·have hob:ofB r y = true:=by rw [hof];exact decide_eq_true hn
       unfold RDay at HD;rw [if_pos hn] at HD;rw [hob,if_pos rfl] at HGN;unfold firOf at HGN;generalize inDay r.dk r.dw r.dn y r.month = v at *;rw [show v * 86400 = 86400 * v from Int.mul_comm _ _] at HGN
       have hgl2:D.length ≤ 100000:=by
        have h5:=genR_len r y0 (y - 1);have h6:=HST.out.len;rw [List.length_map,List.length_append] at h6;omega
       have HSD:=Lib.hid (show D.Pairwise (fun a b=>a.f.nominal ≤ b.f.nominal) by have h:=HST.out.2.1;rw [List.pairwise_map] at h;exact h);have HP:=Lib.hid (fun (W:World) (h:Below wr.heap.size wr W)=>put_any W wr.heap.size _ D ⟨⟨86400 * v + r.sec,r.kind,r.save,r.letter⟩,k⟩ (HFR.out.1.below h) h.size hgl2 (fun z hz=>(HDI.out z hz).2) HSD.out);simp only [friA] at HP;unfold dayA at HD;have hv1:-90000000000 ≤ 86400 * v∧86400 * v ≤ 90000000000:=by omega
       clear hof hob hn hok;go_wp2_with fail;refine (HD.out _).mono ?_;rintro e w2 ⟨rfl,hb⟩;have HB2:=Lib.hid hb;have HR2:=Lib.hid (Blk.below HRB.out hb (Blk.lt HRB.out));clear hb q0 q1 q2 q3 q4 q5 q6 q7 q8 q9 q10;have q0:=Blk.cell HR2.out 0 (v:=.string r.name) rfl;have q1:=Blk.cell HR2.out 1 (v:=.int .i64 r.from_) rfl;have q2:=Blk.cell HR2.out 2 (v:=.int .i64 r.to_) rfl;have q3:=Blk.cell HR2.out 3 (v:=.int .i64 r.month) rfl;have q4:=Blk.cell HR2.out 4 (v:=.int .i64 r.dk) rfl;have q5:=Blk.cell HR2.out 5 (v:=.int .i64 r.dw) rfl;have q6:=Blk.cell HR2.out 6 (v:=.int .i64 r.dn) rfl;have q7:=Blk.cell HR2.out 7 (v:=.int .i64 r.sec) rfl;have q8:=Blk.cell HR2.out 8 (v:=.int .i64 r.kind) rfl;have q9:=Blk.cell HR2.out 9 (v:=.int .i64 r.save) rfl;have q10:=Blk.cell HR2.out 10 (v:=.string r.letter) rfl;go_wp2_with fail;refine (HP.out _ HB2.out).mono ?_;rintro e w3 ⟨u3,A3,C3,rfl,hD,hA,hC,hfr,hb⟩;have HPP:=Lib.hid (And.intro hD (And.intro hA (And.intro hC hfr)));have HB3:=Lib.hid (HB2.out.trans (hb.mono HB2.out.size));have HR3:=Lib.hid (Blk.below HR2.out hb (Blk.lt HR2.out));clear hD hA hC hfr hb;go_wp2_with fail;go_roundw
       case rel =>
        refine ⟨y + 1,_,by first | rfl | go_num,by omega,.inl (by omega),?_,?_,HPP.out.2.2.2,HR3.out,HBI.out.trans (HB3.out.mono HBI.out.size)⟩
        ·have h:=HST.out;rw [HPP.out.1,List.map_append] at h;rw [show y + 1 - 1 = y by omega,HGN.out,← List.append_assoc,map_f_append];exact h.put (fun f hf=>by obtain ⟨z,hz,rfl⟩:=List.mem_map.1 hf;exact HPP.out.2.1 z hz) (fun f hf=>by obtain ⟨z,hz,rfl⟩:=List.mem_map.1 hf;exact HPP.out.2.2.1 z hz)
        ·intro z hz;have hD:=HPP.out.1
         rcases List.mem_append.1 hz with hz | hz
         ·exact HDI.out z (by rw [hD];exact List.mem_append_left _ hz)
         ·rcases List.mem_cons.1 hz with rfl | hz
          ·exact ⟨by simp,Int.le_refl _⟩
          ·exact HDI.out z (by rw [hD];exact List.mem_append_right _ hz)
       case measure=>simp [intOf];omega
      ·have hob:ofB r y = false:=by rw [hof];exact decide_eq_false hn
       unfold RDay at HD;rw [if_neg hn] at HD;rw [hob,if_neg (by decide),List.append_nil] at HGN;unfold dayA at HD;clear hof hob hn hok hd1 hd2;go_wp2_with fail;refine (HD.out _).mono ?_;rintro e w2 ⟨rfl,hb⟩;have HB2:=Lib.hid hb;have HR2:=Lib.hid (Blk.below HRB.out hb (Blk.lt HRB.out));clear hb q0 q1 q2 q3 q4 q5 q6 q7 q8 q9 q10;go_wp2_with fail;go_roundw
       case rel=>exact ⟨y + 1,D,by first | rfl | go_num,by omega,.inl (by omega),by rw [show y + 1 - 1 = y by omega,HGN.out];exact HST.out,HDI.out,HFR.out.below HB2.out,HR2.out,HBI.out.trans (HB2.out.mono HBI.out.size)⟩
       case measure=>simp [intOf];omega
     ·have hd6:decide (y ≤ r.to_) = false:=decide_eq_false hyt
      have HE:=Lib.hid (show G ++ genR r y0 (y - 1) = G ++ genR r a b by
       rw [HRC.out]
       have e:=HY.out.2
       rcases hy1 with h | h
       ·rw [show y - 1 = y1 by omega]
       ·unfold genR
        rw [yrs_nil (show y - 1 < y0 by omega),yrs_nil (show y1 < y0 by omega)])
      go_wp2_with fail;go_roundw
      case rel=>exact ⟨k + 1,D,by omega,by go_num,by rw [HNX.out,← HE.out];exact HST.out,fun y hy=>by have:=HDI.out y hy;omega,HFR.out,HBI.out⟩
      case measure=>simp [intOf];omega
    ·have hd5:decide (y ≤ b) = false:=decide_eq_false hyl
     have HE:=Lib.hid (show G ++ genR r y0 (y - 1) = G ++ genR r a b by
      rw [HRC.out]
      have e:=HY.out.2
      rcases hy1 with h | h
      ·rw [show y - 1 = y1 by omega]
      ·unfold genR
       rw [yrs_nil (show y - 1 < y0 by omega),yrs_nil (show y1 < y0 by omega)])
     go_wp2_with fail;go_roundw
     case rel=>exact ⟨k + 1,D,by omega,by go_num,by rw [HNX.out,← HE.out];exact HST.out,fun y hy=>by have:=HDI.out y hy;omega,HFR.out,HBI.out⟩
     case measure=>simp [intOf];omega
  ·obtain rfl:k = l.length:=by omega
   have hd:decide ((l.length:Int) < (l.length:Int)) = false:=decide_eq_false (by omega);have HG:=Lib.hid (show genK l a b l.length = genL l a b by unfold genK;rw [List.take_length]);rw [HG.out] at HST;go_wp2_with fail;go_ret;exact ⟨_,D,rfl,HST.out,HDI.out,HFR.out,HBW.out⟩
end
section -- PApart
open Go Go.RowKit Go.Shelf
def okAt (D:List FrI) (i:Nat):Bool:=match D[i]? with
 | none=>true
 | some x=>decide (-90000 < x.f.save) && decide (x.f.save < 90000) && (match i with | 0=>true | j + 1=>match D[j]? with | none=>true | some y=>decide (180000 < x.f.nominal - y.f.nominal))
def apB (D:List FrI):Bool:=(List.range D.length).all (okAt D)
theorem apB_no {D:List FrI} {k:Nat} (hk:k < D.length) (h:okAt D k = false):apB D = false:=by
 unfold apB;rw [List.all_eq_false];exact ⟨k,by simpa using hk,by rw [h];decide⟩
theorem apB_yes {D:List FrI} (h:∀ i,i < D.length→okAt D i = true):apB D = true:=by
 unfold apB;rw [List.all_eq_true];intro i hi;exact h i (by simpa using hi)
theorem apB_at {D:List FrI} (h:apB D = true) {i:Nat} (hi:i < D.length):okAt D i = true:=by
 unfold apB at h;rw [List.all_eq_true] at h;exact h i (by simpa using hi)
theorem apB_apart {D:List FrI} (h:apB D = true):apartB (D.map FrI.f) = true:=by
 refine apartB_of (fun f hf=>?_) (fun i hi=>?_)
 ·obtain ⟨x,hx,rfl⟩:=List.mem_map.1 hf;obtain ⟨i,hi,rfl⟩:=List.getElem_of_mem hx;have:=apB_at h hi;unfold okAt at this;rw [List.getElem?_eq_getElem hi] at this;simp only [Bool.and_eq_true,decide_eq_true_eq] at this;exact this.1
 ·rw [List.length_map] at hi;have:=apB_at h hi;unfold okAt at this;simp only [List.getElem?_eq_getElem hi,List.getElem?_eq_getElem (show i < D.length by omega),Bool.and_eq_true,decide_eq_true_eq] at this;rw [List.getElem_map,List.getElem_map];omega
theorem apart_any (w:World) (B:Nat) (v:Value) (D:List FrI) (hv:Fris w B v D) (hB:B ≤ w.heap.size) (hl:D.length ≤ 100000) (hr:∀ x ∈ D,-1000000000000000 ≤ x.f.nominal∧x.f.nominal ≤ 1000000000000000) :
  Calls Tryz.prog 84 #[v] w fun e w'=>e = .returned (.bool (apB D))∧Below w.heap.size w w':=by
 have HV:=Lib.hid hv;have HR:=Lib.hid (fun k (h:k < D.length)=>hr D[k] (List.getElem_mem h));obtain ⟨A,c,rfl,hlc,hcm⟩:=hv.form;unfold maxLen at hcm;clear hv hr;go_enter Tryz.func84,Tryz.ntmps84;go_wp2_with fail
 go_loopw [3] (fun iv wr=>∃ k:Nat,k ≤ D.length∧iv = .int .i64 k∧(∀ i,i < k→okAt D i = true)∧Below w.heap.size w wr) (fun iv _=>D.length - (intOf iv).toNat)
 case atStart=>exact ⟨0,Nat.zero_le _,rfl,fun i h=>absurd h (by omega),Below.refl _ _⟩
 case round =>
  obtain ⟨k,hk,rfl,hok,hbw⟩:=hrel;have HOK:=Lib.hid hok;have HBW:=Lib.hid hbw;have hws:=hbw.size;clear hok hbw
  by_cases hlt:k < D.length
  ·have hd:decide ((k:Int) < (D.length:Int)) = true:=decide_eq_true (by omega);obtain ⟨bb,o,c',e,hbb,hc⟩:=(HV.out.below (HBW.out.mono hB)).cells (by omega)
   cases e
   have hx:=hc k hlt;have hrx:=HR.out k hlt;have HC:=Lib.hid hc;obtain ⟨x,hxk⟩:∃ x,D[k] = x:=⟨_,rfl⟩
   have hoA:okAt D k = (decide (-90000 < x.f.save) && decide (x.f.save < 90000) && (match k with | 0=>true | j + 1=>match D[j]? with | none=>true | some y=>decide (180000 < x.f.nominal - y.f.nominal))):=by
    unfold okAt;rw [List.getElem?_eq_getElem hlt,hxk]
   rw [hxk] at hx hrx;have HOA:=Lib.hid hoA;have HCELL:=Lib.hid (fun (W:World) (h:Below wr.heap.size wr W)=>show W.cell? ⟨bb,o + k * 5,none⟩ = some (.int .i64 x.f.nominal)∧W.cell? ⟨bb,o + k * 5 + 2,none⟩ = some (.int .i64 x.f.save) from ⟨(h.cell (by show bb < _;omega)).trans hx.1,(h.cell (by show bb < _;omega)).trans hx.2.2.1⟩);clear hx hoA hxk hc
   by_cases h1:x.f.save ≤ -90000
   ·have d1:decide (x.f.save ≤ -90000) = true:=decide_eq_true h1;have HN:=Lib.hid (apB_no hlt (show okAt D k = false by rw [HOA.out,decide_eq_false (by omega)];rfl));go_wp2_with fail
    refine wp_env (fin:=?fnA) (by kernel_rfl) [10,11,12,13,14,15,16,17,18,19,20,21,22,23,24,25,26,27,28,29,30,31,32,33,34,35,36,37,38,39,40,41,42,43,44,45,46]
     [.slice (some ⟨bb,o,none⟩) D.length c,.int .i64 k,.pointer (some ⟨bb,o + k * 5,none⟩),.pointer (some ⟨bb,o + k * 5,none⟩),.pointer (some ⟨bb,o + k * 5 + 2,none⟩),.int .i64 x.f.save,.bool true,.bool true,undef,undef,undef,undef,undef,undef,undef,.bool true,.bool true,undef,undef,undef,undef,undef,undef,undef,undef,undef,undef,undef,undef,undef,undef,undef,undef,undef,undef,undef,.bool true] (by kernel_rfl) ?finA ?stepsA ?nextA
    case finA =>
     simp only [putAll,Act.put,List.setIfInBounds_toArray,List.set_cons_succ,List.set_cons_zero]
     rfl
    case stepsA =>
     refine ⟨?_,?_,?_,?_,?_,?_,?_,?_,?_,?_,?_,?_,?_,?_,?_,?_,?_,?_,?_,?_,?_,?_,?_,?_,?_,?_,?_,?_,?_,?_,?_,?_,?_,?_,?_,?_,?_,trivial⟩
     all_goals first | exact .inl ⟨by kernel_rfl,rfl⟩ | refine .inr ⟨by kernel_rfl,fun w1_ hB_=>?_⟩
     all_goals
      obtain ⟨d0,d2⟩:=HCELL.out w1_ hB_;go_simp
      first
       | exact ⟨rfl,Below.refl _ _⟩
       | ((first | rw [decide_eq_true (by omega)] | rw [decide_eq_false (by omega)] | rw [if_pos (by omega)] | rw [IntWalk.i64_in _ (by omega)]);exact ⟨rfl,Below.refl _ _⟩)
       | done
    case nextA =>
    intro w2 hb2;have HB2:=Lib.hid (HBW.out.trans (hb2.mono hws));clear hb2;go_wp2_with fail;go_ret;exact ⟨by rw [HN.out];rfl,HB2.out⟩
   ·have d1:decide (x.f.save ≤ -90000) = false:=decide_eq_false h1
    by_cases h2:90000 ≤ x.f.save
    ·have d2:decide (90000 ≤ x.f.save) = true:=decide_eq_true h2;have HN:=Lib.hid (apB_no hlt (show okAt D k = false by rw [HOA.out,decide_eq_true (by omega),decide_eq_false (by omega)];rfl));go_wp2_with fail
     refine wp_env (fin:=?fnB) (by kernel_rfl) [10,11,12,13,14,15,16,17,18,19,20,21,22,23,24,25,26,27,28,29,30,31,32,33,34,35,36,37,38,39,40,41,42,43,44,45,46]
      [.slice (some ⟨bb,o,none⟩) D.length c,.int .i64 k,.pointer (some ⟨bb,o + k * 5,none⟩),.pointer (some ⟨bb,o + k * 5,none⟩),.pointer (some ⟨bb,o + k * 5 + 2,none⟩),.int .i64 x.f.save,.bool false,.bool false,.slice (some ⟨bb,o,none⟩) D.length c,.int .i64 k,.pointer (some ⟨bb,o + k * 5,none⟩),.pointer (some ⟨bb,o + k * 5,none⟩),.pointer (some ⟨bb,o + k * 5 + 2,none⟩),.int .i64 x.f.save,.bool true,.bool true,.bool true,undef,undef,undef,undef,undef,undef,undef,undef,undef,undef,undef,undef,undef,undef,undef,undef,undef,undef,undef,.bool true] (by kernel_rfl) ?finB ?stepsB ?nextB
     case finB =>
      simp only [putAll,Act.put,List.setIfInBounds_toArray,List.set_cons_succ,List.set_cons_zero]
      rfl
     case stepsB =>
      refine ⟨?_,?_,?_,?_,?_,?_,?_,?_,?_,?_,?_,?_,?_,?_,?_,?_,?_,?_,?_,?_,?_,?_,?_,?_,?_,?_,?_,?_,?_,?_,?_,?_,?_,?_,?_,?_,?_,trivial⟩
      all_goals first | exact .inl ⟨by kernel_rfl,rfl⟩ | refine .inr ⟨by kernel_rfl,fun w1_ hB_=>?_⟩
      all_goals
       obtain ⟨d0,d2⟩:=HCELL.out w1_ hB_;go_simp
       first
        | exact ⟨rfl,Below.refl _ _⟩
        | ((first | rw [decide_eq_true (by omega)] | rw [decide_eq_false (by omega)] | rw [if_pos (by omega)] | rw [IntWalk.i64_in _ (by omega)]);exact ⟨rfl,Below.refl _ _⟩)
        | done
     case nextB =>
     intro w2 hb2;have HB2:=Lib.hid (HBW.out.trans (hb2.mono hws));clear hb2;go_wp2_with fail;go_ret;exact ⟨by rw [HN.out];rfl,HB2.out⟩
    ·have d2:decide (90000 ≤ x.f.save) = false:=decide_eq_false h2
     rcases k with _ | p
     ·have HY:=Lib.hid (show okAt D 0 = true by rw [HOA.out,decide_eq_true (by omega),decide_eq_true (by omega)];rfl);have d3:decide ((0:Int) < ((0:Nat):Int)) = false:=by decide
      go_wp2_with fail
      refine wp_env (fin:=?fnC) (by kernel_rfl) [10,11,12,13,14,15,16,17,18,19,20,21,22,23,24,25,26,27,28,29,30,31,32,33,34,35,36,37,38,39,40,41,42,43,44,45,46]
       [.slice (some ⟨bb,o,none⟩) D.length c,.int .i64 ((0:Nat):Int),.pointer (some ⟨bb,o + 0 * 5,none⟩),.pointer (some ⟨bb,o + 0 * 5,none⟩),.pointer (some ⟨bb,o + 0 * 5 + 2,none⟩),.int .i64 x.f.save,.bool false,.bool false,.slice (some ⟨bb,o,none⟩) D.length c,.int .i64 ((0:Nat):Int),.pointer (some ⟨bb,o + 0 * 5,none⟩),.pointer (some ⟨bb,o + 0 * 5,none⟩),.pointer (some ⟨bb,o + 0 * 5 + 2,none⟩),.int .i64 x.f.save,.bool false,.bool false,.bool false,.int .i64 ((0:Nat):Int),.bool false,.bool false,undef,undef,undef,undef,undef,undef,undef,undef,undef,undef,undef,undef,undef,undef,undef,.bool false,.bool false] (by kernel_rfl) ?finC ?stepsC ?nextC
      case finC =>
       simp only [putAll,Act.put,List.setIfInBounds_toArray,List.set_cons_succ,List.set_cons_zero]
       rfl
      case stepsC =>
       refine ⟨?_,?_,?_,?_,?_,?_,?_,?_,?_,?_,?_,?_,?_,?_,?_,?_,?_,?_,?_,?_,?_,?_,?_,?_,?_,?_,?_,?_,?_,?_,?_,?_,?_,?_,?_,?_,?_,trivial⟩
       all_goals first | exact .inl ⟨by kernel_rfl,rfl⟩ | refine .inr ⟨by kernel_rfl,fun w1_ hB_=>?_⟩
       all_goals
        obtain ⟨d0,d2⟩:=HCELL.out w1_ hB_;go_simp
        first
         | exact ⟨rfl,Below.refl _ _⟩
         | ((first | rw [decide_eq_true (by omega)] | rw [decide_eq_false (by omega)] | rw [if_pos (by omega)] | rw [IntWalk.i64_in _ (by omega)]);exact ⟨rfl,Below.refl _ _⟩)
         | done
      case nextC =>
      intro w2 hb2;have HB2:=Lib.hid (HBW.out.trans (hb2.mono hws));clear hb2;go_wp2_with fail;go_roundw
      case rel =>
       refine ⟨0 + 1,by omega,by go_num,fun i hi=>?_,HB2.out⟩
       rcases Nat.lt_or_ge i 0 with g | g
       ·exact HOK.out i g
       ·rw [show i = 0 by omega];exact HY.out
      case measure=>simp [intOf];omega
     ·have hp:p < D.length:=by omega
      have hy:=HC.out p hp;have hry:=HR.out p hp;obtain ⟨y,hyk⟩:∃ y,D[p] = y:=⟨_,rfl⟩
      have HOB:=Lib.hid (show okAt D (p + 1) = decide (180000 < x.f.nominal - y.f.nominal) by
       rw [HOA.out,decide_eq_true (by omega),decide_eq_true (by omega)]
       simp only [List.getElem?_eq_getElem hp,hyk,Bool.true_and])
      rw [hyk] at hy hry;have HCELY:=Lib.hid (fun (W:World) (h:Below wr.heap.size wr W)=>show W.cell? ⟨bb,o + p * 5,none⟩ = some (.int .i64 y.f.nominal) from (h.cell (by show bb < _;omega)).trans hy.1);have d3:decide ((0:Int) < ((p + 1:Nat):Int)) = true:=decide_eq_true (by omega);have e9:(((p + 1:Nat):Int)) - 1 = p:=by omega
      clear hy hyk
      by_cases h4:x.f.nominal - y.f.nominal ≤ 180000
      ·have d4:decide (x.f.nominal - y.f.nominal ≤ 180000) = true:=decide_eq_true h4;have HN:=Lib.hid (apB_no hlt (show okAt D (p + 1) = false by rw [HOB.out,decide_eq_false (by omega)]));go_wp2_with fail
       refine wp_env (fin:=?fnD) (by kernel_rfl) [10,11,12,13,14,15,16,17,18,19,20,21,22,23,24,25,26,27,28,29,30,31,32,33,34,35,36,37,38,39,40,41,42,43,44,45,46]
        [.slice (some ⟨bb,o,none⟩) D.length c,.int .i64 (((p + 1:Nat):Int)),.pointer (some ⟨bb,o + (p + 1) * 5,none⟩),.pointer (some ⟨bb,o + (p + 1) * 5,none⟩),.pointer (some ⟨bb,o + (p + 1) * 5 + 2,none⟩),.int .i64 x.f.save,.bool false,.bool false,.slice (some ⟨bb,o,none⟩) D.length c,.int .i64 (((p + 1:Nat):Int)),.pointer (some ⟨bb,o + (p + 1) * 5,none⟩),.pointer (some ⟨bb,o + (p + 1) * 5,none⟩),.pointer (some ⟨bb,o + (p + 1) * 5 + 2,none⟩),.int .i64 x.f.save,.bool false,.bool false,.bool false,.int .i64 (((p + 1:Nat):Int)),.bool true,.bool true,.slice (some ⟨bb,o,none⟩) D.length c,.int .i64 (((p + 1:Nat):Int)),.pointer (some ⟨bb,o + (p + 1) * 5,none⟩),.pointer (some ⟨bb,o + (p + 1) * 5,none⟩),.pointer (some ⟨bb,o + (p + 1) * 5,none⟩),.int .i64 x.f.nominal,.slice (some ⟨bb,o,none⟩) D.length c,.int .i64 (((p + 1:Nat):Int)),.int .i64 (p:Int),.pointer (some ⟨bb,o + p * 5,none⟩),.pointer (some ⟨bb,o + p * 5,none⟩),.pointer (some ⟨bb,o + p * 5,none⟩),.int .i64 y.f.nominal,.int .i64 (x.f.nominal - y.f.nominal),.bool true,.bool true,.bool true] (by kernel_rfl) ?finD ?stepsD ?nextD
       case finD =>
        simp only [putAll,Act.put,List.setIfInBounds_toArray,List.set_cons_succ,List.set_cons_zero]
        rfl
       case stepsD =>
        refine ⟨?_,?_,?_,?_,?_,?_,?_,?_,?_,?_,?_,?_,?_,?_,?_,?_,?_,?_,?_,?_,?_,?_,?_,?_,?_,?_,?_,?_,?_,?_,?_,?_,?_,?_,?_,?_,?_,trivial⟩
        all_goals refine .inr ⟨by kernel_rfl,fun w1_ hB_=>?_⟩
        all_goals
         obtain ⟨d0,d2⟩:=HCELL.out w1_ hB_;have d5:=HCELY.out w1_ hB_;go_simp
         first
          | exact ⟨rfl,Below.refl _ _⟩
          | ((first | rw [decide_eq_true (by omega)] | rw [decide_eq_false (by omega)] | rw [if_pos (by omega)] | rw [IntWalk.i64_in _ (by omega)]);exact ⟨rfl,Below.refl _ _⟩)
          | done
       case nextD =>
       intro w2 hb2;have HB2:=Lib.hid (HBW.out.trans (hb2.mono hws));clear hb2;go_wp2_with fail;go_ret;exact ⟨by rw [HN.out];rfl,HB2.out⟩
      ·have d4:decide (x.f.nominal - y.f.nominal ≤ 180000) = false:=decide_eq_false h4;have HY:=Lib.hid (show okAt D (p + 1) = true by rw [HOB.out,decide_eq_true (by omega)]);go_wp2_with fail
       refine wp_env (fin:=?fnE) (by kernel_rfl) [10,11,12,13,14,15,16,17,18,19,20,21,22,23,24,25,26,27,28,29,30,31,32,33,34,35,36,37,38,39,40,41,42,43,44,45,46]
        [.slice (some ⟨bb,o,none⟩) D.length c,.int .i64 (((p + 1:Nat):Int)),.pointer (some ⟨bb,o + (p + 1) * 5,none⟩),.pointer (some ⟨bb,o + (p + 1) * 5,none⟩),.pointer (some ⟨bb,o + (p + 1) * 5 + 2,none⟩),.int .i64 x.f.save,.bool false,.bool false,.slice (some ⟨bb,o,none⟩) D.length c,.int .i64 (((p + 1:Nat):Int)),.pointer (some ⟨bb,o + (p + 1) * 5,none⟩),.pointer (some ⟨bb,o + (p + 1) * 5,none⟩),.pointer (some ⟨bb,o + (p + 1) * 5 + 2,none⟩),.int .i64 x.f.save,.bool false,.bool false,.bool false,.int .i64 (((p + 1:Nat):Int)),.bool true,.bool true,.slice (some ⟨bb,o,none⟩) D.length c,.int .i64 (((p + 1:Nat):Int)),.pointer (some ⟨bb,o + (p + 1) * 5,none⟩),.pointer (some ⟨bb,o + (p + 1) * 5,none⟩),.pointer (some ⟨bb,o + (p + 1) * 5,none⟩),.int .i64 x.f.nominal,.slice (some ⟨bb,o,none⟩) D.length c,.int .i64 (((p + 1:Nat):Int)),.int .i64 (p:Int),.pointer (some ⟨bb,o + p * 5,none⟩),.pointer (some ⟨bb,o + p * 5,none⟩),.pointer (some ⟨bb,o + p * 5,none⟩),.int .i64 y.f.nominal,.int .i64 (x.f.nominal - y.f.nominal),.bool false,.bool false,.bool false] (by kernel_rfl) ?finE ?stepsE ?nextE
       case finE =>
        simp only [putAll,Act.put,List.setIfInBounds_toArray,List.set_cons_succ,List.set_cons_zero]
        rfl
       case stepsE =>
        refine ⟨?_,?_,?_,?_,?_,?_,?_,?_,?_,?_,?_,?_,?_,?_,?_,?_,?_,?_,?_,?_,?_,?_,?_,?_,?_,?_,?_,?_,?_,?_,?_,?_,?_,?_,?_,?_,?_,trivial⟩
        all_goals refine .inr ⟨by kernel_rfl,fun w1_ hB_=>?_⟩
        all_goals
         obtain ⟨d0,d2⟩:=HCELL.out w1_ hB_;have d5:=HCELY.out w1_ hB_;go_simp
         first
          | exact ⟨rfl,Below.refl _ _⟩
          | ((first | rw [decide_eq_true (by omega)] | rw [decide_eq_false (by omega)] | rw [if_pos (by omega)] | rw [IntWalk.i64_in _ (by omega)]);exact ⟨rfl,Below.refl _ _⟩)
          | done
       case nextE =>
       intro w2 hb2;have HB2:=Lib.hid (HBW.out.trans (hb2.mono hws));clear hb2;go_wp2_with fail;go_roundw
       case rel =>
        refine ⟨p + 1 + 1,by omega,by go_num,fun i hi=>?_,HB2.out⟩
        rcases Nat.lt_or_ge i (p + 1) with g | g
        ·exact HOK.out i g
        ·rw [show i = p + 1 by omega];exact HY.out
       case measure=>simp [intOf];omega
  ·obtain rfl:k = D.length:=by omega
   have hd:decide ((D.length:Int) < (D.length:Int)) = false:=decide_eq_false (by omega);have HY:=Lib.hid (apB_yes HOK.out);go_wp2_with fail;go_ret;exact ⟨by rw [HY.out];rfl,HBW.out⟩
end
section -- RulD
open Go Go.RowKit Go.Shelf
def bestS (b:Option Rul) (r:Rul):Option Rul:=if keepB r then (match b with | none=>some r | some x=>if keyR r < keyR x then some r else some x) else b
def bestR (l:List Rul):Option Rul:=l.foldl bestS none
def letV (l:List Rul):ByteArray:=match bestR l with | some r=>r.letter | none=>⟨#[]⟩
theorem bestR_next {l:List Rul} {k:Nat} (hk:k < l.length):bestR (l.take (k + 1)) = bestS (bestR (l.take k)) l[k]:=by
 unfold bestR;rw [List.take_succ_eq_append_getElem hk,List.foldl_append]
 rfl
theorem head_best (l:List Rul):∀ k,k ≤ l.length→∃ M,Stab keyR ((l.take k).filter keepB) M∧M.head? = bestR (l.take k)
 | 0,_=>⟨[],Stab.nil,rfl⟩
 | k + 1,hk=>by
   obtain ⟨M,hM,hh⟩:=head_best l k (by omega);have hkl:k < l.length:=by omega
   rw [bestR_next hkl,List.take_succ_eq_append_getElem hkl,List.filter_append]
   cases hb:keepB l[k] with
   | false =>
     refine ⟨M,?_,?_⟩
     ·rw [List.filter_cons,if_neg (by rw [hb];decide)];simpa using hM
     ·unfold bestS;rw [if_neg (by rw [hb];decide),hh]
   | true =>
     rw [List.filter_cons,if_pos hb,List.filter_nil];generalize l[k] = r at hb;have hs:=hM.2.1;have e:M = M.takeWhile (fun a=>decide (keyR a ≤ keyR r)) ++ M.dropWhile (fun a=>decide (keyR a ≤ keyR r)):=List.takeWhile_append_dropWhile.symm;obtain ⟨A,hA⟩:∃ A,M.takeWhile (fun a=>decide (keyR a ≤ keyR r)) = A:=⟨_,rfl⟩;obtain ⟨C,hC⟩:∃ C,M.dropWhile (fun a=>decide (keyR a ≤ keyR r)) = C:=⟨_,rfl⟩
     have h1:∀ a ∈ A,keyR a ≤ keyR r:=fun a ha=>by
      rw [← hA] at ha;have:=List.all_eq_true.1 (List.all_takeWhile (l:=M) (p:=fun a=>decide (keyR a ≤ keyR r))) a ha;simpa using this
     rw [hA,hC] at e
     have h2:∀ c ∈ C,keyR r < keyR c:=by
      have hsC:C.Pairwise (fun a b=>keyR a ≤ keyR b):=by rw [e] at hs;exact (List.pairwise_append.1 hs).2.1
      cases hCC:C with
      | nil=>simp
      | cons c0 C' =>
        have h0:keyR r < keyR c0:=by
         have h3:=List.head?_dropWhile_not (fun a=>decide (keyR a ≤ keyR r)) M;rw [hC,hCC] at h3;simp at h3;exact h3
        rw [hCC] at hsC;intro c hc
        rcases List.mem_cons.1 hc with rfl | hc
        ·exact h0
        ·have:=(List.pairwise_cons.1 hsC).1 c hc;omega
     refine ⟨A ++ r :: C,(e ▸ hM).put h1 h2,?_⟩;rw [← hh,e];unfold bestS;rw [if_pos hb]
     cases A with
     | nil =>
       cases C with
       | nil=>rfl
       | cons c C =>
         show some r = if keyR r < keyR c then some r else some c
         rw [if_pos (h2 c (by simp))]
     | cons a A =>
       show some a = if keyR r < keyR a then some r else some a
       rw [if_neg (by have:=h1 a (by simp);omega)]
theorem head_letter {l M:List Rul} (h:Stab keyR (l.filter keepB) M):M.head? = bestR l:=by
 obtain ⟨M',hM,hh⟩:=head_best l l.length (Nat.le_refl _);rw [List.take_length] at hM hh;rw [h.unique hM,hh]
theorem fletter_any (w:World) (B:Nat) (v:Value) (l:List Rul) (hv:Ruls w B v l) (hB:B ≤ w.heap.size) (hl:l.length ≤ 19) (hmo:∀ z ∈ l,mOk z) :
  Calls Tryz.prog 59 #[v] w fun e w'=>e = .returned (.string (letV l))∧Below w.heap.size w w':=by
 have HC:=Lib.hid (rclone_any w B v l hv hB (by omega));have HMO:=Lib.hid (show ∀ z ∈ l.filter keepB,mOk z from fun z hz=>hmo z (List.mem_filter.1 hz).1);have hfl:(l.filter keepB).length ≤ 19:=Nat.le_trans (List.length_filter_le _ _) hl;clear hv hmo;go_enter Tryz.func59,Tryz.ntmps59;go_wp2_with fail;refine HC.out.mono ?_;rintro e w1 ⟨u,rfl,hown,hb⟩;have HB1:=Lib.hid hb;have hs1:=hb.size;clear hb HC
 rcases hown.cases with ⟨rfl,rfl⟩ | ⟨g,cap,rfl,hrw⟩
 ·have HI:=Lib.hid (ridx_any w1 w1.heap.size (.slice none 0 0) [] (Sl.nil _ _ _) (Nat.le_refl _) (by simp))
  have HD:=Lib.hid (show Calls Tryz.prog 52 #[.slice none 0 0,.func (.func 94) #[] #[]] w1 fun e w'=>e = .returned (.slice none 0 0)∧Below w1.heap.size w1 w' by
   go_enter Tryz.func52,Tryz.ntmps52
   go_wp2_with fail
   refine HI.out.mono ?_
   rintro e w2 ⟨rfl,hb⟩
   have HB:=Lib.hid hb
   clear hb
   rw [show idxV [] = -1 from rfl]
   go_wp2_with fail
   go_ret
   exact ⟨rfl,HB.out⟩)
  have HS:=Lib.hid (fun W=>rstable_nil W);clear hown;go_wp2_with fail;refine HD.out.mono ?_;rintro e w2 ⟨rfl,hb⟩;have HB2:=Lib.hid (HB1.out.trans (hb.mono hs1));clear hb;go_wp2_with fail;refine (HS.out _).mono ?_;rintro e w3 ⟨rfl,hb⟩;have HB3:=Lib.hid (HB2.out.trans (hb.mono HB2.out.size));clear hb;go_wp2_with fail;go_ret;exact ⟨rfl,HB3.out⟩
 ·have HLT:=Lib.hid hrw.lt;have HD:=Lib.hid (rdelete_any w1 w.heap.size g cap l.length l hrw (by omega));obtain ⟨F,hF⟩:∃ F,l.filter keepB = F:=⟨_,rfl⟩;have HF:=Lib.hid hF;rw [hF] at HD HMO hfl;clear hown hrw hF;go_wp2_with fail;refine HD.out.mono ?_;rintro e w2 ⟨rfl,hrw,hfr⟩;have HS:=Lib.hid (rstable_any w2 w.heap.size g cap F.length F hfl HMO.out hrw);have HB2:=Lib.hid (HB1.out.trans (hfr.below (B:=w.heap.size) hs1 (fun k hk e=>by have:=HLT.out.1;omega)));clear hrw hfr HD;go_wp2_with fail;refine HS.out.mono ?_;rintro e w3 ⟨rfl,M,hst,hrw,hfr⟩;have HB3:=Lib.hid (HB2.out.trans (hfr.below (B:=w.heap.size) HB2.out.size (fun k hk e=>by have:=HLT.out.1;omega)));have hml:=hst.len;have HH:=Lib.hid (head_letter (HF.out ▸ hst));have HRW:=Lib.hid hrw;clear hst hfr HS hrw HF
  cases M with
  | nil =>
    have hF0:F = []:=List.eq_nil_of_length_eq_zero (by simpa using hml.symm);subst hF0;have HLV:=Lib.hid (show letV l = ⟨#[]⟩ by unfold letV;rw [← HH.out];rfl);go_wp2_with fail;go_ret;exact ⟨by rw [HLV.out];rfl,HB3.out⟩
  | cons r M =>
    have hn0:F.length ≠ 0:=by rw [← hml];simp
    obtain ⟨n,hn⟩:∃ n,F.length = n + 1:=⟨F.length - 1,by omega⟩;have HLV:=Lib.hid (show letV l = r.letter by unfold letV;rw [← HH.out];rfl);rw [hn] at HRW ⊢;have hc:=RwR.at_ (A:=[]) HRW.out;rw [List.length_nil,Nat.zero_mul] at hc;obtain ⟨-,-,-,-,-,-,-,-,-,-,q10⟩:=hc;rw [Nat.zero_add] at q10;clear hn hml hn0;go_wp2_with fail;go_ret;exact ⟨by rw [HLV.out];rfl,HB3.out⟩
theorem rletter_any (w:World) (B:Nat) (v:Value) (l:List Rul) (hv:Ruls w B v l) (hB:B ≤ w.heap.size) (hl:l.length ≤ 100000) (hmo:∀ z ∈ l,mOk z) :
  Calls Tryz.prog 71 #[v] w fun e w'=>e = .returned (.string (letV l))∧Below w.heap.size w w':=by
 obtain ⟨A,c,rfl,hlc,hcm⟩:=hv.form;unfold maxLen at hcm;have HV:=Lib.hid hv;have HMO:=Lib.hid (fun k (hk:k < l.length)=>hmo l[k] (List.getElem_mem hk));clear hv hmo;go_enter Tryz.func71,Tryz.ntmps71;go_wp2_with fail
 go_loopw [3,4] (fun bv iv wr=>∃ k:Nat,k ≤ l.length∧iv = .int .i64 k∧((bv = .int .i64 (-1)∧bestR (l.take k) = none)∨∃ (b:Nat) (hb:b < l.length),b < k∧bv = .int .i64 b∧bestR (l.take k) = some l[b])∧Below w.heap.size w wr) (fun _ iv _=>l.length - (intOf iv).toNat)
 case atStart=>exact ⟨0,Nat.zero_le _,rfl,.inl ⟨rfl,rfl⟩,Below.refl _ _⟩
 case round =>
  obtain ⟨k,hk,rfl,hbest,hbw⟩:=hrel;have HBW:=Lib.hid hbw;have hws:=hbw.size;clear hbw
  by_cases hlt:k < l.length
  ·have hd:decide ((k:Int) < (l.length:Int)) = true:=decide_eq_true (by omega);obtain ⟨bb,o,c',e,hbb,hc⟩:=(HV.out.below (HBW.out.mono hB)).cells (by omega)
   cases e
   obtain ⟨c0,c1,c2,c3,c4,c5,c6,c7,c8,c9,c10⟩:=hc k hlt;have HCC:=Lib.hid hc;have hbr:bb < wr.heap.size:=by omega
   have HNX:=Lib.hid (bestR_next hlt);have hmr:=HMO.out k hlt;obtain ⟨r,hr⟩:∃ r,l[k] = r:=⟨_,rfl⟩;rw [hr] at c0 c1 c2 c3 c4 c5 c6 c7 c8 c9 c10 HNX hmr;have HR:=Lib.hid hr;clear hc hr
   cases hkb:keepB r with
   | false =>
     have hs0:(r.save != 0) = true:=keep_ne hkb;have HBN:=Lib.hid (show bestR (l.take (k + 1)) = bestR (l.take k) by rw [HNX.out];unfold bestS;rw [if_neg (by rw [hkb];decide)]);clear hkb
     rcases hbest with ⟨rfl,hbn⟩ | ⟨b,hbl,hbk,rfl,hbs⟩
     ·have HBE:=Lib.hid hbn;clear hbn;go_wp2_with fail;go_roundw
      case rel=>exact ⟨k + 1,by omega,by go_num,.inl ⟨rfl,by rw [HBN.out];exact HBE.out⟩,HBW.out⟩
      case measure=>simp [intOf];omega
     ·have HBE:=Lib.hid hbs;clear hbs;go_wp2_with fail;go_roundw
      case rel=>exact ⟨k + 1,by omega,by go_num,.inr ⟨b,hbl,by omega,rfl,by rw [HBN.out];exact HBE.out⟩,HBW.out⟩
      case measure=>simp [intOf];omega
   | true =>
     have hs0:(r.save != 0) = false:=keep_ne hkb
     have HBK:=Lib.hid (show bestR (l.take (k + 1)) = (match bestR (l.take k) with | none=>some r | some x=>if keyR r < keyR x then some r else some x)∧∀ (h:bestR (l.take k) = none∨∃ x,bestR (l.take k) = some x∧keyR r < keyR x),bestR (l.take (k + 1)) = some l[k] from by
      have e:bestR (l.take (k + 1)) = (match bestR (l.take k) with | none=>some r | some x=>if keyR r < keyR x then some r else some x):=by rw [HNX.out];unfold bestS;rw [if_pos hkb]
      refine ⟨e,fun h=>?_⟩
      rw [e,HR.out]
      rcases h with h | ⟨x,h,hx⟩
      ·rw [h]
      ·rw [h]
       simp only [if_pos hx])
     clear hkb
     rcases hbest with ⟨rfl,hbn⟩ | ⟨b,hbl,hbk,rfl,hbs⟩
     ·have HBS:=Lib.hid hbn;clear hbn;go_wp2_with fail
      refine wp_env (fin:=?fnN) (by kernel_rfl) [17,18,19,20,21,22,23,24,25,26,27,28,29,30,31,32,33,34,35,36,37,38,39,40,41,42,43,44,45,46,47,48,49,50,51,52,53,54,55,56,57]
       [.int .i64 (-1),.bool true,.bool true,undef,undef,undef,undef,undef,undef,undef,undef,undef,undef,undef,.bool true,.bool true,undef,undef,undef,undef,undef,undef,undef,undef,undef,undef,undef,undef,undef,undef,undef,undef,undef,undef,undef,undef,undef,undef,undef,undef,.bool true] (by kernel_rfl) ?finN ?stepsN ?nextN
      case finN =>
       simp only [putAll,Act.put,List.setIfInBounds_toArray,List.set_cons_succ,List.set_cons_zero]
       rfl
      case stepsN =>
       refine ⟨?_,?_,?_,?_,?_,?_,?_,?_,?_,?_,?_,?_,?_,?_,?_,?_,?_,?_,?_,?_,?_,?_,?_,?_,?_,?_,?_,?_,?_,?_,?_,?_,?_,?_,?_,?_,?_,?_,?_,?_,?_,trivial⟩
       all_goals first | exact .inl ⟨by kernel_rfl,rfl⟩ | refine .inr ⟨by kernel_rfl,fun w1_ hB_=>?_⟩
       all_goals
        go_simp
        first
         | exact ⟨rfl,Below.refl _ _⟩
         | ((first | rw [decide_eq_true (by omega)] | rw [decide_eq_false (by omega)] | rw [if_pos (by omega)] | rw [IntWalk.i64_in _ (by omega)]);exact ⟨rfl,Below.refl _ _⟩)
         | done
      case nextN =>
      have HBN:=Lib.hid (HBK.out.2 (.inl HBS.out));intro w5 hb5;have HB5:=Lib.hid (HBW.out.trans (hb5.mono hws));clear hb5 c0 c1 c2 c3 c4 c5 c6 c7 c8 c9 c10;go_wp2_with fail;go_roundw
      case rel=>exact ⟨k + 1,by omega,by go_num,.inr ⟨k,by omega,by omega,rfl,HBN.out⟩,HB5.out⟩
      case measure=>simp [intOf];omega
     ·obtain ⟨x,hx⟩:∃ x,l[b] = x:=⟨_,rfl⟩;have hcb:=HCC.out b hbl;have hmx:=HMO.out b hbl;rw [hx] at hcb hmx hbs;have HBS:=Lib.hid hbs;have HX:=Lib.hid hx;have HBO:=Lib.hid (fun (h:¬ keyR r < keyR x)=>show bestR (l.take (k + 1)) = some l[b] by rw [HBK.out.1,HBS.out,HX.out];simp only [if_neg h]);obtain ⟨-,x1,-,x3,-⟩:=hcb;have HCELL:=Lib.hid (fun (W:World) (h:Below wr.heap.size wr W)=>show W.cell? ⟨bb,o + k * 11 + 1,none⟩ = some (.int .i64 r.from_)∧W.cell? ⟨bb,o + k * 11 + 3,none⟩ = some (.int .i64 r.month)∧W.cell? ⟨bb,o + b * 11 + 1,none⟩ = some (.int .i64 x.from_)∧W.cell? ⟨bb,o + b * 11 + 3,none⟩ = some (.int .i64 x.month) from ⟨(h.cell hbr).trans c1,(h.cell hbr).trans c3,(h.cell hbr).trans x1,(h.cell hbr).trans x3⟩);have hb0:decide ((b:Int) < 0) = false:=decide_eq_false (by omega);unfold mOk at hmr hmx;have hb2:b < l.length:=hbl;clear hx hbs x1 x3
      by_cases h1:r.from_ < x.from_
      ·have g1:decide (r.from_ < x.from_) = true:=decide_eq_true h1;have hky:keyR r < keyR x:=by unfold keyR;omega
       have HKY:=Lib.hid hky;clear hky;go_wp2_with fail
       refine wp_env (fin:=?fnL) (by kernel_rfl) [17,18,19,20,21,22,23,24,25,26,27,28,29,30,31,32,33,34,35,36,37,38,39,40,41,42,43,44,45,46,47,48,49,50,51,52,53,54,55,56,57]
        [.int .i64 b,.bool false,.bool false,.slice (some ⟨bb,o,none⟩) l.length c,.int .i64 k,.pointer (some ⟨bb,o + k * 11,none⟩),.pointer (some ⟨bb,o + k * 11 + 1,none⟩),.int .i64 r.from_,.slice (some ⟨bb,o,none⟩) l.length c,.int .i64 b,.pointer (some ⟨bb,o + b * 11,none⟩),.pointer (some ⟨bb,o + b * 11 + 1,none⟩),.int .i64 x.from_,.bool true,.bool true,.bool true,undef,undef,undef,undef,undef,undef,undef,undef,undef,undef,undef,undef,undef,undef,undef,undef,undef,undef,undef,undef,undef,undef,undef,undef,.bool true] (by kernel_rfl) ?finL ?stepsL ?nextL
       case finL =>
        simp only [putAll,Act.put,List.setIfInBounds_toArray,List.set_cons_succ,List.set_cons_zero]
        rfl
       case stepsL =>
        refine ⟨?_,?_,?_,?_,?_,?_,?_,?_,?_,?_,?_,?_,?_,?_,?_,?_,?_,?_,?_,?_,?_,?_,?_,?_,?_,?_,?_,?_,?_,?_,?_,?_,?_,?_,?_,?_,?_,?_,?_,?_,?_,trivial⟩
        all_goals first | exact .inl ⟨by kernel_rfl,rfl⟩ | refine .inr ⟨by kernel_rfl,fun w1_ hB_=>?_⟩
        all_goals
         obtain ⟨r1,r3,x1,x3⟩:=HCELL.out w1_ hB_;go_simp
         first
          | exact ⟨rfl,Below.refl _ _⟩
          | ((first | rw [decide_eq_true (by omega)] | rw [decide_eq_false (by omega)] | rw [if_pos (by omega)] | rw [IntWalk.i64_in _ (by omega)]);exact ⟨rfl,Below.refl _ _⟩)
          | done
       case nextL =>
       have HBN:=Lib.hid (HBK.out.2 (.inr ⟨x,HBS.out,HKY.out⟩));intro w5 hb5;have HB5:=Lib.hid (HBW.out.trans (hb5.mono hws));clear hb5 c0 c1 c2 c3 c4 c5 c6 c7 c8 c9 c10;go_wp2_with fail;go_roundw
       case rel=>exact ⟨k + 1,by omega,by go_num,.inr ⟨k,by omega,by omega,rfl,HBN.out⟩,HB5.out⟩
       case measure=>simp [intOf];omega
      ·have g1:decide (r.from_ < x.from_) = false:=decide_eq_false h1
       by_cases h2:r.from_ = x.from_
       ·have g2:(r.from_ == x.from_) = true:=by simpa using h2
        by_cases h3:r.month < x.month
        ·have g3:decide (r.month < x.month) = true:=decide_eq_true h3;have hky:keyR r < keyR x:=by unfold keyR;omega
         have HKY:=Lib.hid hky;clear hky h2;go_wp2_with fail
         refine wp_env (fin:=?fnM) (by kernel_rfl) [17,18,19,20,21,22,23,24,25,26,27,28,29,30,31,32,33,34,35,36,37,38,39,40,41,42,43,44,45,46,47,48,49,50,51,52,53,54,55,56,57]
          [.int .i64 b,.bool false,.bool false,.slice (some ⟨bb,o,none⟩) l.length c,.int .i64 k,.pointer (some ⟨bb,o + k * 11,none⟩),.pointer (some ⟨bb,o + k * 11 + 1,none⟩),.int .i64 r.from_,.slice (some ⟨bb,o,none⟩) l.length c,.int .i64 b,.pointer (some ⟨bb,o + b * 11,none⟩),.pointer (some ⟨bb,o + b * 11 + 1,none⟩),.int .i64 x.from_,.bool false,.bool false,.bool false,.slice (some ⟨bb,o,none⟩) l.length c,.int .i64 k,.pointer (some ⟨bb,o + k * 11,none⟩),.pointer (some ⟨bb,o + k * 11 + 1,none⟩),.int .i64 r.from_,.slice (some ⟨bb,o,none⟩) l.length c,.int .i64 b,.pointer (some ⟨bb,o + b * 11,none⟩),.pointer (some ⟨bb,o + b * 11 + 1,none⟩),.int .i64 x.from_,.bool true,.bool true,.slice (some ⟨bb,o,none⟩) l.length c,.int .i64 k,.pointer (some ⟨bb,o + k * 11,none⟩),.pointer (some ⟨bb,o + k * 11 + 3,none⟩),.int .i64 r.month,.slice (some ⟨bb,o,none⟩) l.length c,.int .i64 b,.pointer (some ⟨bb,o + b * 11,none⟩),.pointer (some ⟨bb,o + b * 11 + 3,none⟩),.int .i64 x.month,.bool true,.bool true,.bool true] (by kernel_rfl) ?finM ?stepsM ?nextM
         case finM =>
          simp only [putAll,Act.put,List.setIfInBounds_toArray,List.set_cons_succ,List.set_cons_zero]
          rfl
         case stepsM =>
          refine ⟨?_,?_,?_,?_,?_,?_,?_,?_,?_,?_,?_,?_,?_,?_,?_,?_,?_,?_,?_,?_,?_,?_,?_,?_,?_,?_,?_,?_,?_,?_,?_,?_,?_,?_,?_,?_,?_,?_,?_,?_,?_,trivial⟩
          all_goals refine .inr ⟨by kernel_rfl,fun w1_ hB_=>?_⟩
          all_goals
           obtain ⟨r1,r3,x1,x3⟩:=HCELL.out w1_ hB_;go_simp
           first
            | exact ⟨rfl,Below.refl _ _⟩
            | ((first | rw [decide_eq_true (by omega)] | rw [decide_eq_false (by omega)] | rw [if_pos (by omega)] | rw [IntWalk.i64_in _ (by omega)]);exact ⟨rfl,Below.refl _ _⟩)
            | done
         case nextM =>
         have HBN:=Lib.hid (HBK.out.2 (.inr ⟨x,HBS.out,HKY.out⟩));intro w5 hb5;have HB5:=Lib.hid (HBW.out.trans (hb5.mono hws));clear hb5 c0 c1 c2 c3 c4 c5 c6 c7 c8 c9 c10;go_wp2_with fail;go_roundw
         case rel=>exact ⟨k + 1,by omega,by go_num,.inr ⟨k,by omega,by omega,rfl,HBN.out⟩,HB5.out⟩
         case measure=>simp [intOf];omega
        ·have g3:decide (r.month < x.month) = false:=decide_eq_false h3;have hky:¬ keyR r < keyR x:=by unfold keyR;omega
         have HKY:=Lib.hid hky;clear hky h2;go_wp2_with fail
         refine wp_env (fin:=?fnS) (by kernel_rfl) [17,18,19,20,21,22,23,24,25,26,27,28,29,30,31,32,33,34,35,36,37,38,39,40,41,42,43,44,45,46,47,48,49,50,51,52,53,54,55,56,57]
          [.int .i64 b,.bool false,.bool false,.slice (some ⟨bb,o,none⟩) l.length c,.int .i64 k,.pointer (some ⟨bb,o + k * 11,none⟩),.pointer (some ⟨bb,o + k * 11 + 1,none⟩),.int .i64 r.from_,.slice (some ⟨bb,o,none⟩) l.length c,.int .i64 b,.pointer (some ⟨bb,o + b * 11,none⟩),.pointer (some ⟨bb,o + b * 11 + 1,none⟩),.int .i64 x.from_,.bool false,.bool false,.bool false,.slice (some ⟨bb,o,none⟩) l.length c,.int .i64 k,.pointer (some ⟨bb,o + k * 11,none⟩),.pointer (some ⟨bb,o + k * 11 + 1,none⟩),.int .i64 r.from_,.slice (some ⟨bb,o,none⟩) l.length c,.int .i64 b,.pointer (some ⟨bb,o + b * 11,none⟩),.pointer (some ⟨bb,o + b * 11 + 1,none⟩),.int .i64 x.from_,.bool true,.bool true,.slice (some ⟨bb,o,none⟩) l.length c,.int .i64 k,.pointer (some ⟨bb,o + k * 11,none⟩),.pointer (some ⟨bb,o + k * 11 + 3,none⟩),.int .i64 r.month,.slice (some ⟨bb,o,none⟩) l.length c,.int .i64 b,.pointer (some ⟨bb,o + b * 11,none⟩),.pointer (some ⟨bb,o + b * 11 + 3,none⟩),.int .i64 x.month,.bool false,.bool false,.bool false] (by kernel_rfl) ?finS ?stepsS ?nextS
         case finS =>
          simp only [putAll,Act.put,List.setIfInBounds_toArray,List.set_cons_succ,List.set_cons_zero]
          rfl
         case stepsS =>
          refine ⟨?_,?_,?_,?_,?_,?_,?_,?_,?_,?_,?_,?_,?_,?_,?_,?_,?_,?_,?_,?_,?_,?_,?_,?_,?_,?_,?_,?_,?_,?_,?_,?_,?_,?_,?_,?_,?_,?_,?_,?_,?_,trivial⟩
          all_goals refine .inr ⟨by kernel_rfl,fun w1_ hB_=>?_⟩
          all_goals
           obtain ⟨r1,r3,x1,x3⟩:=HCELL.out w1_ hB_;go_simp
           first
            | exact ⟨rfl,Below.refl _ _⟩
            | ((first | rw [decide_eq_true (by omega)] | rw [decide_eq_false (by omega)] | rw [if_pos (by omega)] | rw [IntWalk.i64_in _ (by omega)]);exact ⟨rfl,Below.refl _ _⟩)
            | done
         case nextS =>
         have HBN:=Lib.hid (HBO.out HKY.out);intro w5 hb5;have HB5:=Lib.hid (HBW.out.trans (hb5.mono hws));clear hb5 c0 c1 c2 c3 c4 c5 c6 c7 c8 c9 c10;go_wp2_with fail;go_roundw
         case rel=>exact ⟨k + 1,by omega,by go_num,.inr ⟨b,hbl,by omega,rfl,HBN.out⟩,HB5.out⟩
         case measure=>simp [intOf];omega
       ·have g2:(r.from_ == x.from_) = false:=by simpa using h2
        have hky:¬ keyR r < keyR x:=by unfold keyR;omega
        have HKY:=Lib.hid hky;clear hky;go_wp2_with fail
        refine wp_env (fin:=?fnG) (by kernel_rfl) [17,18,19,20,21,22,23,24,25,26,27,28,29,30,31,32,33,34,35,36,37,38,39,40,41,42,43,44,45,46,47,48,49,50,51,52,53,54,55,56,57]
         [.int .i64 b,.bool false,.bool false,.slice (some ⟨bb,o,none⟩) l.length c,.int .i64 k,.pointer (some ⟨bb,o + k * 11,none⟩),.pointer (some ⟨bb,o + k * 11 + 1,none⟩),.int .i64 r.from_,.slice (some ⟨bb,o,none⟩) l.length c,.int .i64 b,.pointer (some ⟨bb,o + b * 11,none⟩),.pointer (some ⟨bb,o + b * 11 + 1,none⟩),.int .i64 x.from_,.bool false,.bool false,.bool false,.slice (some ⟨bb,o,none⟩) l.length c,.int .i64 k,.pointer (some ⟨bb,o + k * 11,none⟩),.pointer (some ⟨bb,o + k * 11 + 1,none⟩),.int .i64 r.from_,.slice (some ⟨bb,o,none⟩) l.length c,.int .i64 b,.pointer (some ⟨bb,o + b * 11,none⟩),.pointer (some ⟨bb,o + b * 11 + 1,none⟩),.int .i64 x.from_,.bool false,.bool false,undef,undef,undef,undef,undef,undef,undef,undef,undef,undef,undef,.bool false,.bool false] (by kernel_rfl) ?finG ?stepsG ?nextG
        case finG =>
         simp only [putAll,Act.put,List.setIfInBounds_toArray,List.set_cons_succ,List.set_cons_zero]
         rfl
        case stepsG =>
         refine ⟨?_,?_,?_,?_,?_,?_,?_,?_,?_,?_,?_,?_,?_,?_,?_,?_,?_,?_,?_,?_,?_,?_,?_,?_,?_,?_,?_,?_,?_,?_,?_,?_,?_,?_,?_,?_,?_,?_,?_,?_,?_,trivial⟩
         all_goals first | exact .inl ⟨by kernel_rfl,rfl⟩ | refine .inr ⟨by kernel_rfl,fun w1_ hB_=>?_⟩
         all_goals
          obtain ⟨r1,r3,x1,x3⟩:=HCELL.out w1_ hB_;go_simp
          first
           | exact ⟨rfl,Below.refl _ _⟩
           | ((first | rw [decide_eq_true (by omega)] | rw [decide_eq_false (by omega)] | rw [if_pos (by omega)] | rw [IntWalk.i64_in _ (by omega)]);exact ⟨rfl,Below.refl _ _⟩)
           | done
        case nextG =>
        have HBN:=Lib.hid (HBO.out HKY.out);intro w5 hb5;have HB5:=Lib.hid (HBW.out.trans (hb5.mono hws));clear hb5 c0 c1 c2 c3 c4 c5 c6 c7 c8 c9 c10;go_wp2_with fail;go_roundw
        case rel=>exact ⟨k + 1,by omega,by go_num,.inr ⟨b,hbl,by omega,rfl,HBN.out⟩,HB5.out⟩
        case measure=>simp [intOf];omega
  ·obtain rfl:k = l.length:=by omega
   have hd:decide ((l.length:Int) < (l.length:Int)) = false:=decide_eq_false (by omega);rw [List.take_length] at hbest
   rcases hbest with ⟨rfl,hbn⟩ | ⟨b,hbl,hbk,rfl,hbs⟩
   ·have HLV:=Lib.hid (show letV l = ⟨#[]⟩ by unfold letV;rw [hbn]);clear hbn;go_wp2_with fail;go_ret;exact ⟨by rw [HLV.out];rfl,HBW.out⟩
   ·obtain ⟨bb,o,c',e,hbb,hc⟩:=(HV.out.below (HBW.out.mono hB)).cells (by omega)
    cases e
    obtain ⟨-,-,-,-,-,-,-,-,-,-,c10⟩:=hc b hbl;have HLV:=Lib.hid (show letV l = l[b].letter by unfold letV;rw [hbs]);obtain ⟨x,hx⟩:∃ x,l[b] = x:=⟨_,rfl⟩;rw [hx] at c10 HLV;have hb0:decide ((b:Int) < 0) = false:=decide_eq_false (by omega);clear hc hx hbs;go_wp2_with fail;go_ret;exact ⟨by rw [HLV.out];rfl,HBW.out⟩
end
section -- PRight
open Go Go.RowKit Go.Shelf
noncomputable def rightB (l:List Rul):Bool:=@decide (smallB l = true∧(∀ r ∈ l,r.from_ ≤ 2070)∧∃ A,Stab Fir.nominal (genL l 1890 2110) A∧apartB A = true) (Classical.propDecidable _)
theorem rightB_iff {l:List Rul}:rightB l = true ↔ smallB l = true∧(∀ r ∈ l,r.from_ ≤ 2070)∧∃ A,Stab Fir.nominal (genL l 1890 2110) A∧apartB A = true:=by
 unfold rightB;exact @decide_eq_true_iff _ (Classical.propDecidable _)
theorem rightB_no {l:List Rul} (h:¬ (smallB l = true∧(∀ r ∈ l,r.from_ ≤ 2070)∧∃ A,Stab Fir.nominal (genL l 1890 2110) A∧apartB A = true)):rightB l = false:=by
 cases hr:rightB l with
 | false=>rfl
 | true=>exact absurd (rightB_iff.1 hr) h
theorem apB_of {D:List FrI} (h:apartB (D.map FrI.f) = true):apB D = true:=by
 obtain ⟨h1,h2⟩:=apartB_spec h;refine apB_yes fun i hi=>?_
 have hs:=h1 D[i].f (List.mem_map.2 ⟨D[i],List.getElem_mem hi,rfl⟩);unfold okAt;rw [List.getElem?_eq_getElem hi];simp only [Bool.and_eq_true,decide_eq_true_eq];refine ⟨hs,?_⟩
 rcases i with _ | j
 ·rfl
 ·have hg:=h2 j (by rw [List.length_map];exact hi);rw [List.getElem_map,List.getElem_map] at hg;simp only [List.getElem?_eq_getElem (show j < D.length by omega),decide_eq_true_eq];omega
theorem right_yes {l:List Rul} (h:rightB l = true):∃ A,RightR l A∧Stab Fir.nominal (genL l 1890 2110) A∧apartB A = true:=by
 obtain ⟨h1,h2,A,h3,h4⟩:=rightB_iff.1 h;exact ⟨A,right_of h1 h2 h3 h4,h3,h4⟩
theorem small_all {l:List Rul} (h:smallB l = true):(∀ r ∈ l,smallR r = true)∧l.length ≤ 6:=by
 unfold smallB at h;rw [Bool.and_eq_true,List.all_eq_true,decide_eq_true_eq] at h;exact h
theorem RightR.save_all {l:List Rul} {A:List Fir} (h:RightR l A) {f:Fir} (hf:Fires l f):-90000 < f.save∧f.save < 90000:=by
 obtain ⟨r,hr,y,hy,rfl⟩:=hf;have hs:=h.small r hr;obtain ⟨y1,y2,-,-,f1,t1,-⟩:=of_month hy
 by_cases hc:y ≤ 2110
 ·exact h.save _ ((h.mem _).2 ⟨r,hr,y,by omega,hc,hy,rfl⟩)
 ·obtain ⟨j,j1,j2,hj⟩:=of_near hy (a:=2075) (by omega) (by omega) (by omega) (by omega);have:=h.save _ ((h.mem _).2 ⟨r,hr,j,by omega,by omega,hj,rfl⟩);exact this
theorem small_mo {r:Rul} (h:smallR r = true):mOk r:=by
 unfold smallR at h;rw [Bool.and_eq_true,decide_eq_true_eq] at h;exact ⟨h.1.2.2.2.1,h.1.2.2.2.2.1⟩
theorem small_yr {l:List Rul} (h:smallB l = true):yrOk l:=fun r hr=>by
 have:=(small_all h).1 r hr;unfold smallR at this;rw [Bool.and_eq_true,decide_eq_true_eq] at this;omega
theorem right_sv {l:List Rul} (h:rightB l = true):svOk l:=fun f hf=>by
 obtain ⟨A,hA,-,-⟩:=right_yes h;have:=hA.save_all hf;omega
theorem D_nom {l:List Rul} {D:List FrI} (hst:Stab Fir.nominal (genL l 1890 2110) (D.map FrI.f)):∀ x ∈ D,-1000000000000000 ≤ x.f.nominal∧x.f.nominal ≤ 1000000000000000:=fun x hx=>by
 have hm:x.f ∈ genL l 1890 2110:=hst.1.mem_iff.1 (List.mem_map.2 ⟨x,hx,rfl⟩);unfold genL genR at hm;rw [List.mem_flatMap] at hm;obtain ⟨r,hr,hm⟩:=hm;rw [List.mem_map] at hm;obtain ⟨y,hy,e⟩:=hm;rw [List.mem_filter] at hy;have:=fires_nom (l:=l) (f:=x.f) ⟨r,hr,y,hy.2,e.symm⟩;omega
theorem right_any (w:World) (B:Nat) (v:Value) (l:List Rul) (hv:Ruls w B v l) (hB:B ≤ w.heap.size) :
  Calls Tryz.prog 47 #[v] w fun e w'=>(∃ u,e = .returned (.tuple #[u,.bool (rightB l)]))∧Below w.heap.size w w':=by
 have HV:=Lib.hid hv;have HS:=Lib.hid (small_any w B v l hv hB);obtain ⟨A,c,rfl,hlc,hcm⟩:=hv.form;unfold maxLen at hcm;clear hv
 cases hs:smallB l with
 | false =>
   have HN:=Lib.hid (rightB_no (l:=l) (fun h=>by rw [hs] at h;exact absurd h.1 (by decide)));rw [hs] at HS;clear hs;go_enter Tryz.func47,Tryz.ntmps47;go_wp2_with fail;refine HS.out.mono ?_;rintro e w1 ⟨rfl,hb⟩;go_wp2_with fail;go_ret2;exact ⟨⟨.slice none 0 0,by rw [HN.out];rfl⟩,hb⟩
 | true =>
   have HSM:=Lib.hid hs;have hl6:=(small_all hs).2;rw [hs] at HS;clear hs;go_enter Tryz.func47,Tryz.ntmps47;go_wp2_with fail;refine HS.out.mono ?_;rintro e w1 ⟨rfl,hb⟩;have HB1:=Lib.hid hb;clear hb HS;go_wp2_with fail
   go_loopw [4] (fun iv wr=>∃ k:Nat,k ≤ l.length∧iv = .int .i64 k∧(∀ i (h:i < l.length),i < k→l[i].from_ ≤ 2070)∧Below w.heap.size w wr) (fun iv _=>l.length - (intOf iv).toNat)
   case atStart=>exact ⟨0,Nat.zero_le _,rfl,fun i _ h=>absurd h (by omega),HB1.out⟩
   case round =>
    obtain ⟨k,hk,rfl,hno,hbw⟩:=hrel;have HNO:=Lib.hid hno;have HBW:=Lib.hid hbw;have hws:=hbw.size;clear hno hbw
    by_cases hlt:k < l.length
    ·have hd:decide ((k:Int) < (l.length:Int)) = true:=decide_eq_true (by omega);obtain ⟨bb,o,c',e,hbb,hc⟩:=(HV.out.below (HBW.out.mono hB)).cells (by omega)
     cases e
     obtain ⟨-,c1,-⟩:=hc k hlt;obtain ⟨r,hr⟩:∃ r,l[k] = r:=⟨_,rfl⟩;have HRK:=Lib.hid hr;have hrm:=List.getElem_mem hlt;rw [hr] at c1 hrm;have HRM:=Lib.hid hrm;clear hc hr hrm
     by_cases h7:2070 < r.from_
     ·have d7:decide (2070 < r.from_) = true:=decide_eq_true h7;have HN:=Lib.hid (rightB_no (l:=l) (fun h=>by have:=h.2.1 r HRM.out;omega));go_wp2_with fail;go_ret2;exact ⟨⟨.slice none 0 0,by rw [HN.out];rfl⟩,HBW.out⟩
     ·have d7:decide (2070 < r.from_) = false:=decide_eq_false h7;go_wp2_with fail;go_roundw
      case rel =>
       refine ⟨k + 1,by omega,by go_num,fun i h hik=>?_,HBW.out⟩
       rcases Nat.lt_or_ge i k with g | g
       ·exact HNO.out i h g
       ·obtain rfl:i = k:=by omega
        rw [HRK.out];omega
      case measure=>simp [intOf];omega
    ·obtain rfl:k = l.length:=by omega
     have hd:decide ((l.length:Int) < (l.length:Int)) = false:=decide_eq_false (by omega)
     have HALL:=Lib.hid (show ∀ r ∈ l,r.from_ ≤ 2070 from fun r hr=>by
      obtain ⟨i,hi,rfl⟩:=List.getElem_of_mem hr
      exact HNO.out i hi hi)
     have HAL:=Lib.hid (rall_any wr B _ l 1890 2110 (HV.out.below (HBW.out.mono hB)) (by omega) HSM.out (by omega) (by omega));go_wp2_with fail;refine HAL.out.mono ?_;rintro e w2 ⟨u,D,rfl,hst,hdi,⟨hfr,-⟩,hb⟩
     have hlen:D.length ≤ 100000:=by
      have h5:=hst.len;have h6:=genL_len l 1890 2110;have h7:l.length * (2110 + 1 - 1890:Int).toNat ≤ 6 * 250:=Nat.mul_le_mul hl6 (by decide);rw [List.length_map] at h5;omega
     have HAP:=Lib.hid (apart_any w2 w2.heap.size u D hfr (Nat.le_refl _) hlen (D_nom hst))
     have HVV:=Lib.hid (show rightB l = apB D by
      cases hap:apB D with
      | true=>exact rightB_iff.2 ⟨HSM.out,HALL.out,_,hst,apB_apart hap⟩
      | false =>
        refine rightB_no fun h=>?_
        obtain ⟨-,-,A,hA,hA2⟩:=h
        rw [← hst.unique hA] at hA2
        rw [apB_of hA2] at hap
        exact absurd hap (by decide))
     have HB2:=Lib.hid (HBW.out.trans (hb.mono hws));obtain ⟨A2,c2,rfl,-,-⟩:=hfr.form;generalize apB D = ab at *;clear hst hdi hfr hb HAL;go_wp2_with fail;refine HAP.out.mono ?_;rintro e w3 ⟨rfl,hb⟩;have HB3:=Lib.hid (HB2.out.trans (hb.mono HB2.out.size));clear hb;go_wp2_with fail;go_ret2;exact ⟨⟨_,by rw [HVV.out];rfl⟩,HB3.out⟩
theorem instA_zero {D:List FrI} {off:Int} (hk:0 < D.length):instA (D.map FrI.f) off 0 = instF D[0].f off 0:=by
 rw [instA_at (by rw [List.length_map];exact hk),List.getElem_map,prevO_zero,saveO_none]
theorem instA_succ {D:List FrI} {off:Int} {p:Nat} (hk:p + 1 < D.length):instA (D.map FrI.f) off (p + 1) = instF D[p + 1].f off D[p].f.save:=by
 rw [instA_at (by rw [List.length_map];exact hk),List.getElem_map,prevO_succ (by rw [List.length_map];omega),saveO_some,List.getElem_map]
theorem rinst_any (w:World) (B:Nat) (v:Value) (D:List FrI) (hv:Fris w B v D) (hB:B ≤ w.heap.size) (hl:D.length ≤ 100000) (hr:∀ x ∈ D,(-1000000000000000 ≤ x.f.nominal∧x.f.nominal ≤ 1000000000000000)∧-1000000000000000 ≤ x.f.save∧x.f.save ≤ 1000000000000000) (k:Nat) (hk:k < D.length) (off:Int) (ho:-1000000000000000 ≤ off∧off ≤ 1000000000000000) :
  Calls Tryz.prog 72 #[v,.int .i64 k,.int .i64 off] w fun e w'=>e = .returned (.int .i64 (instA (D.map FrI.f) off k))∧Below w.heap.size w w':=by
 obtain ⟨bb,o,c,rfl,hbb,hc⟩:=hv.cells (by omega);have hrx:=hr D[k] (List.getElem_mem hk);have hx:=hc k hk;have hbl:bb < w.heap.size:=by omega
 rcases k with _ | p
 ·have hz:=instA_zero (off:=off) hk;obtain ⟨x,hxk⟩:∃ x,D[0] = x:=⟨_,rfl⟩;rw [hxk] at hx hrx hz;simp only [Nat.zero_mul,Nat.add_zero] at hx;obtain ⟨c0,c1,c2,c3,c4⟩:=hx;have d3:decide ((0:Int) < ((0:Nat):Int)) = false:=by decide
  clear hc hxk hv hr;have HV:=Lib.hid (hz);have hx0:=Blk.new w 129 #[.int .i64 x.f.nominal,.int .i64 x.f.kind,.int .i64 x.f.save,.int .i64 x.i,.string x.f.letter];have HB:=Lib.hid ((Below.refl w.heap.size w).alloc (Nat.le_refl _) (.cells #[.int .i64 x.f.nominal,.int .i64 x.f.kind,.int .i64 x.f.save,.int .i64 x.i,.string x.f.letter] 129))
  by_cases k2:x.f.kind = 2
  ·have HI:=Lib.hid (show instF x.f off (0) = x.f.nominal by unfold instF;rw [if_pos k2]);have e2:(x.f.kind == 2) = true:=by simpa using k2
   clear k2;go_enter Tryz.func72,Tryz.ntmps72;go_wp2_with fail;go_ret;exact ⟨by rw [HV.out,HI.out];rfl,HB.out⟩
  ·have e2:(x.f.kind == 2) = false:=by simpa using k2
   by_cases k1:x.f.kind = 1
   ·have HI:=Lib.hid (show instF x.f off (0) = x.f.nominal - off by unfold instF;rw [if_neg k2,if_pos k1]);have e1:(x.f.kind == 1) = true:=by simpa using k1
    clear k2 k1;go_enter Tryz.func72,Tryz.ntmps72;go_wp2_with fail;go_ret;exact ⟨by rw [HV.out,HI.out];rfl,HB.out⟩
   ·have HI:=Lib.hid (show instF x.f off (0) = x.f.nominal - off - (0) by unfold instF;rw [if_neg k2,if_neg k1]);have e1:(x.f.kind == 1) = false:=by simpa using k1
    go_enter Tryz.func72,Tryz.ntmps72;go_wp2_with fail;go_ret;exact ⟨by rw [HV.out,HI.out];first | rfl | simp,HB.out⟩
 ·have hz:=instA_succ (off:=off) hk;have hy:=hc p (by omega);have hry:=(hr D[p] (List.getElem_mem (by omega))).2;obtain ⟨x,hxk⟩:∃ x,D[p + 1] = x:=⟨_,rfl⟩;obtain ⟨y,hyk⟩:∃ y,D[p] = y:=⟨_,rfl⟩;rw [hxk] at hx hrx hz;rw [hyk] at hy hry hz;obtain ⟨c0,c1,c2,c3,c4⟩:=hx;obtain ⟨-,-,y2,-,-⟩:=hy;have d3:decide ((0:Int) < ((p + 1:Nat):Int)) = true:=decide_eq_true (by omega);have e9:(((p + 1:Nat):Int)) - 1 = p:=by omega
  clear hc hxk hyk hv hr;have HV:=Lib.hid (hz);have hx0:=Blk.new w 129 #[.int .i64 x.f.nominal,.int .i64 x.f.kind,.int .i64 x.f.save,.int .i64 x.i,.string x.f.letter];have HB:=Lib.hid ((Below.refl w.heap.size w).alloc (Nat.le_refl _) (.cells #[.int .i64 x.f.nominal,.int .i64 x.f.kind,.int .i64 x.f.save,.int .i64 x.i,.string x.f.letter] 129))
  by_cases k2:x.f.kind = 2
  ·have HI:=Lib.hid (show instF x.f off (y.f.save) = x.f.nominal by unfold instF;rw [if_pos k2]);have e2:(x.f.kind == 2) = true:=by simpa using k2
   clear k2;go_enter Tryz.func72,Tryz.ntmps72;go_wp2_with fail;go_ret;exact ⟨by rw [HV.out,HI.out];rfl,HB.out⟩
  ·have e2:(x.f.kind == 2) = false:=by simpa using k2
   by_cases k1:x.f.kind = 1
   ·have HI:=Lib.hid (show instF x.f off (y.f.save) = x.f.nominal - off by unfold instF;rw [if_neg k2,if_pos k1]);have e1:(x.f.kind == 1) = true:=by simpa using k1
    clear k2 k1;go_enter Tryz.func72,Tryz.ntmps72;go_wp2_with fail;go_ret;exact ⟨by rw [HV.out,HI.out];rfl,HB.out⟩
   ·have HI:=Lib.hid (show instF x.f off (y.f.save) = x.f.nominal - off - (y.f.save) by unfold instF;rw [if_neg k2,if_neg k1]);have e1:(x.f.kind == 1) = false:=by simpa using k1
    go_enter Tryz.func72,Tryz.ntmps72;go_wp2_with fail;go_ret;exact ⟨by rw [HV.out,HI.out];first | rfl | simp,HB.out⟩
end
section -- AAt
open Go Go.RowKit Go.Shelf
def badL (e:Int):Value:=.tuple #[.agg #[.int .i64 0,.bool false,.string ⟨#[]⟩],.int .i64 e]
end
section -- AAwake
open Go Go.RowKit Go.Shelf
def cetE:EraN:=⟨3600,0,0,0,0,0,0,0,0⟩
def cetS:ByteArray:=⟨#[67,69,84]⟩
def eraA (e:EraN) (ru f:ByteArray) (en:Bool):Value:=.agg #[.int .i64 e.off,.string ru,.int .i64 e.save,.string f,.bool en,.int .i64 e.year,.int .i64 e.month,.int .i64 e.dk,.int .i64 e.dw,.int .i64 e.dn,.int .i64 e.sec,.int .i64 e.ak]
end
end Go.Proofs.YteekjfgjmccdnaaGreatDoor
