/-
  Layer 14's reference: an instant put into a row, in order, once (walked).
-/
import Derived.RangeFuncNested
import Derived.RangeFuncBound
import Derived.RangeFuncCalls
import Derived.RangeFuncLeaves
import Derived.RangeFuncFrom
import Derived.OwnWalkIn
import Derived.TacticsInMore
import Derived.LoopNIn
import Derived.LoopIn
import Derived.Test.YteekjfgjmccdnaaGreatDoorZk8
set_option maxHeartbeats 16000000
set_option maxRecDepth 100000
namespace Go.Proofs.YteekjfgjmccdnaaGreatDoor
section -- GAt
open Go Go.RowKit Go.Shelf
theorem sum_ok {e:EraN} {ru:ByteArray} {l:List Rul} {i:Int} (hr:RuOk l) (hl:letOk l) (hs:-90000 < e.save∧e.save < 90000):sumOk e ru l i:=by
 unfold sumOk savesV
 split
 ·show (-1000000000000000 ≤ e.save∧e.save ≤ 1000000000000000)∧(⟨#[]⟩:ByteArray).size ≤ 140737488351232
  exact ⟨⟨by omega,by omega⟩,by decide⟩
 ·cases ho:latestF l e.off i with
  | none=>exact (show (-1000000000000000 ≤ (0:Int)∧(0:Int) ≤ 1000000000000000)∧(letV l).size ≤ 140737488351232 from ⟨⟨by decide,by decide⟩,letV_in hl⟩)
  | some f=>exact ⟨hr.sv f (latestF_mem ho),fires_let hl (latestF_mem ho)⟩
theorem ZOk.ruleL {S:List SetF} (hlt:∀ s ∈ S,letOk s.l) (x:EraF):letOk (ruleE S x):=by
 unfold ruleE ofRul
 split
 ·exact fun r hr=>(by cases hr)
 ·cases hs:ofS S x.ru with
  | none=>exact fun r hr=>(by cases hr)
  | some s=>exact hlt s (List.mem_of_find?_eq_some hs)
def atX (S:List SetF) (l:List EraF) (i:Int):EraF:=l.getD (eraI (endL S l) i) default
def atZ (S:List SetF) (l:List EraF) (i:Int):Value :=
 if errZ S l ≠ 0 then badL (errZ S l) else if i < -2199023255552∨2199023255552 < i then badL 10 else zwithinV (atX S l i).n (atX S l i).ru (atX S l i).fm (ruleE S (atX S l i)) i
theorem zwithinV_form (e:EraN) (ru f:ByteArray) (l:List Rul) (i:Int):∃ a d s err,zwithinV e ru f l i = .tuple #[.agg #[.int .i64 a,.bool d,.string s],.int .i64 err]:=by
 unfold zwithinV withinR
 split
 ·exact ⟨_,_,_,_,rfl⟩
 ·exact ⟨_,_,_,_,rfl⟩
theorem zat_any (zn:ByteArray) (ev sv:Value) (B:Nat) (l:List EraF) (S:List SetF) (i:Int) (w:World) (hz:ZW w B ev sv l S) (ho:ZOk l S) (hlt:∀ s ∈ S,letOk s.l) :
  Calls Tryz.prog 19 #[zoneA zn ev,setsV zn ev sv,.int .i64 i] w fun o w'=>o = .returned (atZ S l i)∧Below w.heap.size w w':=by
 obtain ⟨A,cA,rfl,hlc,hcm⟩:=hz.eras.form
 unfold maxLen at hcm
 have hb0:Below w.heap.size w ((w.alloc (.cells #[.string zn,.slice A l.length cA] 24)).alloc (.cells #[.int .i64 0,.bool false,.string ⟨#[]⟩] 48)):=((Below.refl w.heap.size w).alloc (Nat.le_refl _) _).alloc (by simp) _
 have HX:=Lib.hid ((Blk.new w 24 #[.string zn,.slice A l.length cA]).alloc (.cells #[.int .i64 0,.bool false,.string ⟨#[]⟩] 48))
 have hr0:=Blk.new (w.alloc (.cells #[.string zn,.slice A l.length cA] 24)) 48 #[.int .i64 0,.bool false,.string ⟨#[]⟩]
 rw [World.size_alloc] at hr0
 have HR:=Lib.hid hr0
 have HB:=Lib.hid hb0
 have HZ0:=Lib.hid hz
 have HO:=Lib.hid ho
 have HLT:=Lib.hid hlt
 have HC:=Lib.hid (zends_any zn (.slice A l.length cA) sv B l S _ (hz.below hb0) ho)
 unfold EndsPost at HC
 clear hb0 hr0 hz ho hlt
 obtain ⟨E,hE⟩:∃ e,errZ S l = e:=⟨_,rfl⟩
 rw [hE] at HC
 have HE:=Lib.hid hE
 unfold setsV zoneA worldA at HC ⊢
 clear hE
 go_enter Tryz.func19,Tryz.ntmps19
 go_wp2_with fail
 refine HC.out.mono ?_
 rintro o w1 ⟨⟨v,rfl,hv0,hvn⟩,hb⟩
 have HX1:=Lib.hid (HX.out.below hb HX.out.lt)
 have HR1:=Lib.hid (HR.out.below hb HR.out.lt)
 have HB1:=Lib.hid (HB.out.trans (hb.mono HB.out.size))
 have HZ1:=Lib.hid (HZ0.out.below HB1.out)
 have hrl:=HR1.out.lt
 clear hb HC HX HR HB
 by_cases hE0:E = 0
 ·have HV0:=Lib.hid (show Nums w1 w1.heap.size v (endL S l) from Sl.of_own (hv0 hE0))
  subst hE0
  clear hv0 hvn
  by_cases hi:i < -2199023255552∨2199023255552 < i
  ·have HV:=Lib.hid (show atZ S l i = badL 10 by unfold atZ;rw [if_neg (fun h=>h HE.out),if_pos hi])
   unfold badL at HV
   have r0:=HR1.out.cell 0 (v:=.int .i64 0) rfl
   have r1:=HR1.out.cell 1 (v:=.bool false) rfl
   have r2:=HR1.out.cell 2 (v:=.string ⟨#[]⟩) rfl
   have f0:=HR1.out.frozen 0
   have f1:=HR1.out.frozen 1
   have f2:=HR1.out.frozen 2
   obtain ⟨d1,d2,hd1,hd2,hdd⟩:∃ a b,decide (i < -2199023255552) = a∧decide (2199023255552 < i) = b∧(a = true∨a = false∧b = true):=by
    refine ⟨_,_,rfl,rfl,?_⟩
    by_cases h:i < -2199023255552
    ·exact .inl (decide_eq_true h)
    ·exact .inr ⟨decide_eq_false h,decide_eq_true (by omega)⟩
   clear hi
   rcases hdd with rfl | ⟨rfl,rfl⟩
   ·go_wp2_with fail
    have HW:=Lib.hid (((HR1.out.set 0 (.int .i64 0)).set 1 (.bool false)).set 2 (.string ⟨#[]⟩))
    refine bodyPost_ret (v:=.tuple #[.agg #[.int .i64 0,.bool false,.string ⟨#[]⟩],.int .i64 10]) ?_ rfl ⟨by rw [HV.out],below_set3 HB1.out (by omega) _ _ _⟩
    have c0:=HW.out.cell 0 (v:=.int .i64 0) rfl
    have c1:=HW.out.cell 1 (v:=.bool false) rfl
    have c2:=HW.out.cell 2 (v:=.string ⟨#[]⟩) rfl
    simp [results,Tryz.f19,go_sem,c0,c1,c2]
   ·go_wp2_with fail
    have HW:=Lib.hid (((HR1.out.set 0 (.int .i64 0)).set 1 (.bool false)).set 2 (.string ⟨#[]⟩))
    refine bodyPost_ret (v:=.tuple #[.agg #[.int .i64 0,.bool false,.string ⟨#[]⟩],.int .i64 10]) ?_ rfl ⟨by rw [HV.out],below_set3 HB1.out (by omega) _ _ _⟩
    have c0:=HW.out.cell 0 (v:=.int .i64 0) rfl
    have c1:=HW.out.cell 1 (v:=.bool false) rfl
    have c2:=HW.out.cell 2 (v:=.string ⟨#[]⟩) rfl
    simp [results,Tryz.f19,go_sem,c0,c1,c2]
  ·have hd1:decide (i < -2199023255552) = false:=decide_eq_false (by omega)
   have hd2:decide (2199023255552 < i) = false:=decide_eq_false (by omega)
   have HIN:=Lib.hid hi
   obtain ⟨hl0,-,hat,-⟩:=errZ_zero HE.out
   have hkle:=eraI_le (endL S l) i
   rw [length_endL] at hkle
   obtain ⟨k,hk⟩:∃ k,eraI (endL S l) i = k:=⟨_,rfl⟩
   rw [hk] at hkle
   have hlk:k < l.length:=by omega
   have hk0:(0:Int) ≤ (k:Int):=by omega
   have hkl:(k:Int) < (l.length:Int):=by omega
   obtain ⟨bb,o,c',e,hbb,hc⟩:=HZ1.out.eras.cells (by omega)
   cases e
   have hx:=hc k hlk
   have her:=hat k hlk
   rw [errAt_eq hlk] at her
   obtain ⟨x,hxk⟩:∃ x,l[k] = x:=⟨_,rfl⟩
   rw [hxk] at hx her
   obtain ⟨-,hof,hsf,-,-,-⟩:=errE_zero her
   have hax:atX S l i = x:=by unfold atX;rw [hk,List.getD_eq_getElem?_getD,List.getElem?_eq_getElem hlk,hxk];rfl
   have HV:=Lib.hid (show atZ S l i = zwithinV x.n x.ru x.fm (ruleE S x) i by unfold atZ;rw [if_neg (fun h=>h HE.out),if_neg hi,hax])
   obtain ⟨a,d,s,err,hzw⟩:=zwithinV_form x.n x.ru x.fm (ruleE S x) i
   have hfm:x.fm.size < 4294967281:=by rw [← hxk];exact HO.out.fm _ (List.getElem_mem hlk)
   have HOF:=Lib.hid (fun (W:World) (h:ZW W B (.slice (some ⟨bb,o,none⟩) l.length cA) sv l S)=>zof_any W zn (.slice (some ⟨bb,o,none⟩) l.length cA) sv B S h.sets h.le x)
   have HWI:=Lib.hid (fun (W:World) (h:ZW W B (.slice (some ⟨bb,o,none⟩) l.length cA) sv l S)=>zwithin_any W x.n x.ru x.fm x.en B (rvalE S x) (ruleE S x) h.maxl hfm ⟨h.sets.rule x,h.ahead,h.tab,h.le⟩ (HO.out.rule x) i (by omega) (by omega) (by omega) (sum_ok (HO.out.rule x) (ZOk.ruleL HLT.out x) hsf))
   rw [hzw] at HV HWI
   obtain ⟨A3,c3',e3⟩:=rvalE_form HZ1.out.sets x
   rw [e3] at HOF HWI
   unfold setsV worldA eraA at HOF
   unfold eraA at HWI
   obtain ⟨c0,c1,c2,c3,c4,c5,c6,c7,c8,c9,c10,c11⟩:=hx
   have HERA:=Lib.hid (fun (W:World) (h:Below w1.heap.size w1 W)=>zera_any W w1.heap.size v (endL S l) i (HV0.out.below h))
   rw [hk] at HERA
   have x1:=HX1.out.cell 1 (v:=.slice (some ⟨bb,o,none⟩) l.length cA) rfl
   have hzl1:w.heap.size < w1.heap.size:=HX1.out.lt
   have hbl1:bb < w1.heap.size:=by have:=HZ1.out.le;omega
   clear hi hl0 hat hkle hk hc her hof hsf hax hzw hfm e3 hxk
   obtain ⟨A6,c6',hv6,-,-⟩:=HV0.out.form
   rw [hv6] at HERA ⊢
   clear hv6
   go_wp2_with fail
   go_region_held3 (fun w'=>w'.cell? ⟨w.heap.size,1,none⟩ = some (.slice (some ⟨bb,o,none⟩) l.length cA)∧w'.cell? ⟨bb,o + k * 12,none⟩ = some (.int .i64 x.n.off)∧w'.cell? ⟨bb,o + k * 12 + 1,none⟩ = some (.string x.ru)∧w'.cell? ⟨bb,o + k * 12 + 2,none⟩ = some (.int .i64 x.n.save)∧w'.cell? ⟨bb,o + k * 12 + 3,none⟩ = some (.string x.fm)∧w'.cell? ⟨bb,o + k * 12 + 4,none⟩ = some (.bool x.en)∧w'.cell? ⟨bb,o + k * 12 + 5,none⟩ = some (.int .i64 x.n.year)∧w'.cell? ⟨bb,o + k * 12 + 6,none⟩ = some (.int .i64 x.n.month)∧w'.cell? ⟨bb,o + k * 12 + 7,none⟩ = some (.int .i64 x.n.dk)∧w'.cell? ⟨bb,o + k * 12 + 8,none⟩ = some (.int .i64 x.n.dw)∧w'.cell? ⟨bb,o + k * 12 + 9,none⟩ = some (.int .i64 x.n.dn)∧w'.cell? ⟨bb,o + k * 12 + 10,none⟩ = some (.int .i64 x.n.sec)∧w'.cell? ⟨bb,o + k * 12 + 11,none⟩ = some (.int .i64 x.n.ak)) (first | exact ⟨x1,c0,c1,c2,c3,c4,c5,c6,c7,c8,c9,c10,c11⟩ | go_keep)
    (first | (go_at_call 50;refine (HERA.out _ (by first | exact Below.refl _ _ | exact (Below.refl _ _).drew | exact ((Below.refl _ _).alloc (Nat.le_refl _) _).drew)).mono ?_;rintro o w' ⟨rfl,rfl⟩))
   all_goals
    rename_i K0 hK0 hh
    clear hh
    refine hK0 _ _ ?_
    clear hK0
    go_wp2_with fail
    have hb6:Below w.heap.size w (w1.alloc (.cells #[.int .i64 x.n.off,.string x.ru,.int .i64 x.n.save,.string x.fm,.bool x.en,.int .i64 x.n.year,.int .i64 x.n.month,.int .i64 x.n.dk,.int .i64 x.n.dw,.int .i64 x.n.dn,.int .i64 x.n.sec,.int .i64 x.n.ak] 42)).drew:=(HB1.out.alloc HB1.out.size _).drew
    have he6:Blk (w1.alloc (.cells #[.int .i64 x.n.off,.string x.ru,.int .i64 x.n.save,.string x.fm,.bool x.en,.int .i64 x.n.year,.int .i64 x.n.month,.int .i64 x.n.dk,.int .i64 x.n.dw,.int .i64 x.n.dn,.int .i64 x.n.sec,.int .i64 x.n.ak] 42)).drew w1.heap.size 42 #[.int .i64 x.n.off,.string x.ru,.int .i64 x.n.save,.string x.fm,.bool x.en,.int .i64 x.n.year,.int .i64 x.n.month,.int .i64 x.n.dk,.int .i64 x.n.dw,.int .i64 x.n.dn,.int .i64 x.n.sec,.int .i64 x.n.ak]:=Blk.new w1 42 _
    have hr6:Blk (w1.alloc (.cells #[.int .i64 x.n.off,.string x.ru,.int .i64 x.n.save,.string x.fm,.bool x.en,.int .i64 x.n.year,.int .i64 x.n.month,.int .i64 x.n.dk,.int .i64 x.n.dw,.int .i64 x.n.dn,.int .i64 x.n.sec,.int .i64 x.n.ak] 42)).drew (w.heap.size + 1) 48 #[.int .i64 0,.bool false,.string ⟨#[]⟩]:=HR1.out.alloc (.cells #[.int .i64 x.n.off,.string x.ru,.int .i64 x.n.save,.string x.fm,.bool x.en,.int .i64 x.n.year,.int .i64 x.n.month,.int .i64 x.n.dk,.int .i64 x.n.dw,.int .i64 x.n.dn,.int .i64 x.n.sec,.int .i64 x.n.ak] 42)
    obtain ⟨W6,hW6⟩:∃ W,(w1.alloc (.cells #[.int .i64 x.n.off,.string x.ru,.int .i64 x.n.save,.string x.fm,.bool x.en,.int .i64 x.n.year,.int .i64 x.n.month,.int .i64 x.n.dk,.int .i64 x.n.dw,.int .i64 x.n.dn,.int .i64 x.n.sec,.int .i64 x.n.ak] 42)).drew = W:=⟨_,rfl⟩
    rw [hW6] at hb6 he6 hr6 ⊢
    clear hW6 c0 c1 c2 c3 c4 c5 c6 c7 c8 c9 c10 c11 x1
    have HB6:=Lib.hid hb6
    have HE6:=Lib.hid he6
    have HR6:=Lib.hid hr6
    clear hb6 he6 hr6
    refine wp_envS (fin:=?fnA) (by kernel_rfl) [35,36,37,38,39,40,41,42,99,7]
     [.agg #[.int .i64 x.n.off,.string x.ru,.int .i64 x.n.save,.string x.fm,.bool x.en,.int .i64 x.n.year,.int .i64 x.n.month,.int .i64 x.n.dk,.int .i64 x.n.dw,.int .i64 x.n.dn,.int .i64 x.n.sec,.int .i64 x.n.ak],.func (.func 15) #[.agg #[.string zn,.slice (some ⟨bb,o,none⟩) l.length cA,sv]] #[],.agg #[.int .i64 x.n.off,.string x.ru,.int .i64 x.n.save,.string x.fm,.bool x.en,.int .i64 x.n.year,.int .i64 x.n.month,.int .i64 x.n.dk,.int .i64 x.n.dw,.int .i64 x.n.dn,.int .i64 x.n.sec,.int .i64 x.n.ak],.slice A3 (ruleE S x).length c3',.int .i64 i,.tuple #[.agg #[.int .i64 a,.bool d,.string s],.int .i64 err],.agg #[.int .i64 a,.bool d,.string s],.int .i64 err,undef,.int .i64 err] 8 (fun k=>k = w.heap.size + 1) (fun W=>Blk W (w.heap.size + 1) 48 #[.int .i64 a,.bool d,.string s]) (fun W W' h hb=>Blk.below h hb (Blk.lt h)) (by kernel_rfl) (by decide) (by simp) ?finA ?stepsA ?nextA
    case finA =>
     simp only [putAll,Act.put,List.setIfInBounds_toArray,List.set_cons_succ,List.set_cons_zero,List.set_nil]
     try rfl
    case stepsA =>
     refine ⟨?_,?_,?_,?_,?_,?_,?_,?_,?_,?_,trivial⟩
     all_goals
      refine .inr ⟨by kernel_rfl,fun w1_ hB_ hF_=>?_⟩
      have he7:Blk w1_ w1.heap.size 42 #[.int .i64 x.n.off,.string x.ru,.int .i64 x.n.save,.string x.fm,.bool x.en,.int .i64 x.n.year,.int .i64 x.n.month,.int .i64 x.n.dk,.int .i64 x.n.dw,.int .i64 x.n.dn,.int .i64 x.n.sec,.int .i64 x.n.ak]:=Blk.fr HE6.out hF_ (by omega)
      have hz7:=HZ0.out.below (HB6.out.trans (hF_.below HB6.out.size (fun k hk=>by omega)))
      have c0:=he7.cell 0 (v:=.int .i64 x.n.off) rfl
      have c1:=he7.cell 1 (v:=.string x.ru) rfl
      have c2:=he7.cell 2 (v:=.int .i64 x.n.save) rfl
      have c3:=he7.cell 3 (v:=.string x.fm) rfl
      have c4:=he7.cell 4 (v:=.bool x.en) rfl
      have c5:=he7.cell 5 (v:=.int .i64 x.n.year) rfl
      have c6:=he7.cell 6 (v:=.int .i64 x.n.month) rfl
      have c7:=he7.cell 7 (v:=.int .i64 x.n.dk) rfl
      have c8:=he7.cell 8 (v:=.int .i64 x.n.dw) rfl
      have c9:=he7.cell 9 (v:=.int .i64 x.n.dn) rfl
      have c10:=he7.cell 10 (v:=.int .i64 x.n.sec) rfl
      have c11:=he7.cell 11 (v:=.int .i64 x.n.ak) rfl
      first
       | (go_simp;first | exact ⟨rfl,rfl,Below.refl _ _⟩ | exact ⟨rfl,rfl,HOF.out _ hz7⟩ | exact ⟨rfl,rfl,HWI.out _ hz7⟩)
       | (have hr7:=HR6.out.below (hB_ rfl) HR6.out.lt;have f0:=hr7.frozen 0;have f1:=hr7.frozen 1;have f2:=hr7.frozen 2;have r0:=hr7.cell 0 (v:=.int .i64 0) rfl;have r1:=hr7.cell 1 (v:=.bool false) rfl;have r2:=hr7.cell 2 (v:=.string ⟨#[]⟩) rfl;go_simp;exact ⟨rfl,rfl,fr_set3 (T:=fun k=>k = w.heap.size + 1) _ rfl _ _ _,((hr7.set 0 _).set 1 _).set 2 _⟩)
    case nextA =>
     intro W8 hF8 hR8
     have hb8:=HB6.out.trans (hF8.below HB6.out.size (fun k hk=>by omega))
     go_wp2_with fail
     refine bodyPost_ret (v:=.tuple #[.agg #[.int .i64 a,.bool d,.string s],.int .i64 err]) ?_ rfl ⟨by rw [HV.out],hb8⟩
     have c0:=hR8.cell 0 (v:=.int .i64 a) rfl
     have c1:=hR8.cell 1 (v:=.bool d) rfl
     have c2:=hR8.cell 2 (v:=.string s) rfl
     simp [results,Tryz.f19,go_sem,c0,c1,c2]
 ·have HV:=Lib.hid (show atZ S l i = badL E by unfold atZ;rw [if_pos (by rw [HE.out];exact hE0),HE.out])
  unfold badL at HV
  have he0:(E != 0) = true:=by simpa using hE0
  have hvv:=hvn hE0
  subst hvv
  have r0:=HR1.out.cell 0 (v:=.int .i64 0) rfl
  have r1:=HR1.out.cell 1 (v:=.bool false) rfl
  have r2:=HR1.out.cell 2 (v:=.string ⟨#[]⟩) rfl
  have f0:=HR1.out.frozen 0
  have f1:=HR1.out.frozen 1
  have f2:=HR1.out.frozen 2
  clear hv0 hvn hE0
  go_wp2_with fail
  have HW:=Lib.hid (((HR1.out.set 0 (.int .i64 0)).set 1 (.bool false)).set 2 (.string ⟨#[]⟩))
  refine bodyPost_ret (v:=.tuple #[.agg #[.int .i64 0,.bool false,.string ⟨#[]⟩],.int .i64 E]) ?_ rfl ⟨by rw [HV.out],below_set3 HB1.out (by omega) _ _ _⟩
  have c0:=HW.out.cell 0 (v:=.int .i64 0) rfl
  have c1:=HW.out.cell 1 (v:=.bool false) rfl
  have c2:=HW.out.cell 2 (v:=.string ⟨#[]⟩) rfl
  simp [results,Tryz.f19,go_sem,c0,c1,c2]
end
section -- TMath
structure Loc where
 off:Int
 dst:Bool
 abbr:ByteArray
structure Chg where
 at_:Int
 loc:Loc
def Loc.zero:Loc:=⟨0,false,⟨#[]⟩⟩
def Chg.zero:Chg:=⟨0,.zero⟩
instance:Inhabited Loc:=⟨.zero⟩
instance:Inhabited Chg:=⟨.zero⟩
end
section -- TBase
open Go Go.RowKit
def chgV (c:Chg):List Value:=[.int .i64 c.at_,.int .i64 c.loc.off,.bool c.loc.dst,.string c.loc.abbr]
def locA (x:Loc):Value:=.agg #[.int .i64 x.off,.bool x.dst,.string x.abbr]
def chgA (c:Chg):Value:=.agg #[.int .i64 c.at_,.int .i64 c.loc.off,.bool c.loc.dst,.string c.loc.abbr]
def chgsV (l:List Chg):List Value:=l.flatMap chgV
theorem chgsV_at (l:List Chg) (i:Nat) (h:i < l.length):(chgsV l)[i * 4]? = some (.int .i64 (l[i]).at_)∧(chgsV l)[i * 4 + 1]? = some (.int .i64 (l[i]).loc.off)∧(chgsV l)[i * 4 + 2]? = some (.bool (l[i]).loc.dst)∧(chgsV l)[i * 4 + 3]? = some (.string (l[i]).loc.abbr):=by
 induction l generalizing i with
 | nil=>exact absurd h (by simp)
 | cons c l ih =>
   rcases i with _ | i
   ·exact ⟨rfl,rfl,rfl,rfl⟩
   ·have:=ih i (by simpa using h)
    rw [show (i + 1) * 4 = i * 4 + 1 + 1 + 1 + 1 by omega]
    exact this
theorem chgsV_append (l m:List Chg):chgsV (l ++ m) = chgsV l ++ chgsV m:=by simp [chgsV]
def Chgs (w:World) (B:Nat) (v:Value) (l:List Chg):Prop:=Sl w B 4 v l.length (chgsV l)
section
variable {w w':World} {B B':Nat} {v:Value} {l:List Chg}
theorem Chgs.form (h:Chgs w B v l):∃ A c,v = .slice A l.length c∧l.length ≤ c∧c ≤ maxLen:=by
 obtain ⟨A,c,rfl,h1,h2,-⟩:=h
 exact ⟨A,c,rfl,h1,h2⟩
theorem Chgs.more (h:Chgs w B v l) (hB:B ≤ B'):Chgs w B' v l:=Sl.more h hB
theorem Chgs.below (h:Chgs w B v l) (hb:Below B w w'):Chgs w' B v l:=Sl.below h hb
theorem Chgs.cells (h:Chgs w B v l) (hl:0 < l.length):∃ b o c,v = .slice (some ⟨b,o,none⟩) l.length c∧b < B∧∀ i (hi:i < l.length),w.cell? ⟨b,o + i * 4,none⟩ = some (.int .i64 (l[i]).at_)∧w.cell? ⟨b,o + i * 4 + 1,none⟩ = some (.int .i64 (l[i]).loc.off) ∧
  w.cell? ⟨b,o + i * 4 + 2,none⟩ = some (.bool (l[i]).loc.dst)∧w.cell? ⟨b,o + i * 4 + 3,none⟩ = some (.string (l[i]).loc.abbr):=by
 obtain ⟨b,o,c,e,hb,hc⟩:=Sl.at_ h hl
 refine ⟨b,o,c,e,hb,fun i hi=>?_⟩
 obtain ⟨h0,h1,h2,h3⟩:=chgsV_at l i hi
 exact ⟨hc _ _ h0,by rw [Nat.add_assoc];exact hc _ _ h1,by rw [Nat.add_assoc];exact hc _ _ h2,by rw [Nat.add_assoc];exact hc _ _ h3⟩
end
abbrev ChgB (W:World) (b:Nat) (c:Chg):Prop:=Blk W b 76 #[.int .i64 c.at_,.int .i64 c.loc.off,.bool c.loc.dst,.string c.loc.abbr]
end
section -- HMath
open Go Go.RowKit Go.Shelf
def locE (x y:Loc):Bool:=decide (x.off = y.off∧x.dst = y.dst∧x.abbr.toList = y.abbr.toList)
theorem bytes_list {a b:ByteArray} (h:a.toList = b.toList):a = b:=by
 rw [ByteArray.toList_eq,ByteArray.toList_eq] at h
 obtain ⟨⟨l⟩⟩:=a
 obtain ⟨⟨m⟩⟩:=b
 have h2:l = m:=h
 rw [h2]
theorem locE_iff {x y:Loc}:locE x y = true ↔ x = y:=by
 unfold locE
 rw [decide_eq_true_eq]
 constructor
 ·rintro ⟨h1,h2,h3⟩
  obtain ⟨a,b,c⟩:=x
  obtain ⟨a',b',c'⟩:=y
  have h4:=bytes_list h3
  simp only at h1 h2 h4
  subst h1 h2 h4
  rfl
 ·rintro rfl
  exact ⟨rfl,rfl,rfl⟩
def locW (x:EraF) (R:List Rul) (i:Int):Loc :=
 if (showV x.fm (x.n.off + (savesV x.n x.ru R i).1) (dstB (savesV x.n x.ru R i).1) (savesV x.n x.ru R i).2).2 = 0 then ⟨x.n.off + (savesV x.n x.ru R i).1,dstB (savesV x.n x.ru R i).1,(showV x.fm (x.n.off + (savesV x.n x.ru R i).1) (dstB (savesV x.n x.ru R i).1) (savesV x.n x.ru R i).2).1⟩ else .zero
theorem zwithinV_loc (x:EraF) (R:List Rul) (i:Int):∃ err,zwithinV x.n x.ru x.fm R i = .tuple #[locA (locW x R i),.int .i64 err]:=by
 unfold zwithinV withinR locW
 split
 ·exact ⟨0,rfl⟩
 ·exact ⟨_,rfl⟩
def turnsF (x:EraF) (R:List Rul):Chg→List (Int × Fir)→List Chg
 | _,[]=>[]
 | now,y :: t=>bif locE (locW x R y.1) now.loc then (if max now.at_ 64060588800 + 12680582400 < y.1 then [] else turnsF x R now t) else ⟨y.1,locW x R y.1⟩ :: turnsF x R ⟨y.1,locW x R y.1⟩ t
def turnsL (x:EraF) (R:List Rul) (fr to:Int):List Chg:=turnsF x R ⟨fr,locW x R fr⟩ (firedF R x.n.off fr to)
theorem turnsF_same {x:EraF} {R:List Rul} {now:Chg} {y:Int × Fir} {t:List (Int × Fir)} (h:locE (locW x R y.1) now.loc = true) (h2:¬ max now.at_ 64060588800 + 12680582400 < y.1):turnsF x R now (y :: t) = turnsF x R now t:=by
 show (bif locE (locW x R y.1) now.loc then _ else _) = _
 rw [h,cond_true,if_neg h2]
theorem turnsF_end {x:EraF} {R:List Rul} {now:Chg} {y:Int × Fir} {t:List (Int × Fir)} (h:locE (locW x R y.1) now.loc = true) (h2:max now.at_ 64060588800 + 12680582400 < y.1):turnsF x R now (y :: t) = []:=by
 show (bif locE (locW x R y.1) now.loc then _ else _) = _
 rw [h,cond_true,if_pos h2]
theorem turnsF_turn {x:EraF} {R:List Rul} {now:Chg} {y:Int × Fir} {t:List (Int × Fir)} (h:locE (locW x R y.1) now.loc = false):turnsF x R now (y :: t) = ⟨y.1,locW x R y.1⟩ :: turnsF x R ⟨y.1,locW x R y.1⟩ t:=by
 show (bif locE (locW x R y.1) now.loc then _ else _) = _
 rw [h,cond_false]
theorem firedN_in {l:List Rul} {off fr to:Int}:∀ {n:Nat} {o:Option Fir} {x:Int × Fir},x ∈ firedN l off fr to n o→fr < x.1∧x.1 ≤ to
 | 0,_,_,h=>by cases h
 | _ + 1,none,_,h=>by cases h
 | n + 1,some f,x,h=>by
   unfold firedN at h
   split at h
   ·split at h
    ·exact firedN_in h
    ·rename_i hn
     rcases List.mem_cons.1 h with rfl | h
     ·show fr < instF f off (savedF l f)∧instF f off (savedF l f) ≤ to
      omega
     ·exact firedN_in h
   ·cases h
theorem firedF_in {l:List Rul} {off fr to:Int} {x:Int × Fir} (h:x ∈ firedF l off fr to):fr < x.1∧x.1 ≤ to:=firedN_in h
end
section -- NSpans
open Go Go.RowKit Go.Shelf
attribute [local go_sem] Oper.semAt_some
theorem span_last (eb fb:Nat) (a:Int) (w:World) (he:Blk w eb 28 #[.slice none 0 0]) (hf:Blk w fb 3 #[.int .i64 a]) :
  Calls Tryz.prog 174 #[.int .i64 0,.pointer (some ⟨eb,0,none⟩),.pointer (some ⟨fb,0,none⟩)] w fun o w'=>o = .returned (.agg #[.int .i64 a,.int .i64 2199023255553])∧Below w.heap.size w w':=by
 have c0:=he.cell 0 (v:=.slice none 0 0) rfl
 have c1:=hf.cell 0 (v:=.int .i64 a) rfl
 have h0:=he.lt
 have h1:=hf.lt
 have hn0:eb ≠ w.heap.size:=by omega
 have hn1:fb ≠ w.heap.size:=by omega
 clear he hf
 go_enter Tryz.func174,Tryz.ntmps174
 go_wp2_with fail
 refine bodyPost_ret (v:=.agg #[.int .i64 a,.int .i64 2199023255553]) ?_ rfl ⟨rfl,(Below.refl _ _).alloc (Nat.le_refl _) _⟩
 have hB:=Blk.new w 80 #[.int .i64 a,.int .i64 2199023255553]
 have d0:=hB.cell 0 (v:=.int .i64 a) rfl
 have d1:=hB.cell 1 (v:=.int .i64 2199023255553) rfl
 simp [results,Tryz.f174,go_sem,d0,d1]
theorem spans1_one (n:Nat) (hn:2 ≤ n) (zb sb b:Nat) (nm:ByteArray) (g:Fn) (ts cs:Array Value) (e:EraN) (f:ByteArray) (W:World) (hs:f.size < 4294967281) (hm:Tryz.MaxL W) (h0:errP e f.data.toList = 0)
  (hz:Blk W zb 24 #[.string nm,.slice (some ⟨b,0,none⟩) 1 1]) (hsb:Blk W sb 90 #[.func g ts cs]) (he:OneE W b e f) :
  Iter Fence.wide n Tryz.prog 173 #[.pointer (some ⟨zb,0,none⟩),.pointer (some ⟨sb,0,none⟩)] (fun _:Unit=>#[eraPA e f,.agg #[.int .i64 (-2199023255553),.int .i64 2199023255553]]) (fun pre _ D _=>pre = []∧∀ j,¬ D j) (fun xs=>xs.length = 1) (fun _=>True) (fun _=>False) (fun _=>False) W:=by
 intro lp J Jx fJ fx hY O hJ hO _
 have HEN:=Lib.hid (callsIn_wide (n:=n - 1).2 (ends_one nm b g ts cs e f W hs hm he))
 rw [h0] at HEN
 unfold oneZ at HEN
 have z0:=hz.cell 0 (v:=.string nm) rfl
 have z1:=hz.cell 1 (v:=.slice (some ⟨b,0,none⟩) 1 1) rfl
 have s0:=hsb.cell 0 (v:=.func g ts cs) rfl
 have hzl:=hz.lt
 show CallsIn Fence.wide n Tryz.prog 173 #[.func (.yield lp) #[] #[],.pointer (some ⟨zb,0,none⟩),.pointer (some ⟨sb,0,none⟩)] W _
 refine callsIn_of_wp Tryz.func173 rfl trivial ?_ rfl
 simp only [Tryz.ntmps173,List.size_toArray,List.length_cons,List.length_nil,Nat.reduceAdd,Nat.reduceSub,Array.replicate_succ,Array.replicate_zero,List.push_toArray,List.append_toArray,List.nil_append,List.cons_append]
 gi_wp2
 refine ⟨trivial,fun _=>by omega,HEN.out.mono ?_⟩
 rintro o w1 ⟨rfl,hb1⟩
 have z11:=(hb1.cell (p:=⟨zb,1,none⟩) hzl).trans z1
 have hzl1:zb < w1.heap.size:=Nat.lt_of_lt_of_le hzl hb1.size
 have he1:OneE w1 b e f:=Blk.below he hb1 (Blk.lt he)
 obtain ⟨c0,c1,c2,c3,c4,c5,c6,c7,c8,c9,c10,c11⟩:=he1.cells
 have hbl1:b < w1.heap.size:=Blk.lt he1
 have HW1:=Lib.hid hb1
 clear HEN z0 z1 s0 hb1 he1
 gi_wp2
 refine wpIn_loop_rounds 2 ?_
 rw [roundsIn_succ]
 gi_wp2
 have hE1:=Blk.new w1 28 #[.slice none 0 0]
 have hF1:=Blk.new (w1.alloc (.cells #[.slice none 0 0] 28)) 3 #[.int .i64 (-2199023255553)]
 have hA1:=Blk.new ((w1.alloc (.cells #[.slice none 0 0] 28)).alloc (.cells #[.int .i64 (-2199023255553)] 3)) 42 (eraP e f).toArray
 simp only [World.size_alloc] at hF1 hA1
 have hE2:=(hE1.alloc (.cells #[.int .i64 (-2199023255553)] 3)).alloc (.cells (eraP e f).toArray 42)
 have hF2:=hF1.alloc (.cells (eraP e f).toArray 42)
 have hb2:Below W.heap.size W (((w1.alloc (.cells #[.slice none 0 0] 28)).alloc (.cells #[.int .i64 (-2199023255553)] 3)).alloc (.cells (eraP e f).toArray 42)) :=
  ((HW1.out.alloc HW1.out.size _).alloc (by have:=HW1.out.size;simp;omega) _).alloc (by have:=HW1.out.size;simp;omega) _
 clear hE1 hF1
 unfold eraP at hE2 hF2 hA1 hb2
 refine ⟨trivial,fun _=>by omega,(callsIn_wide.2 (span_last _ _ _ _ hE2 hF2)).mono ?_⟩
 rintro o w3 ⟨rfl,hb3⟩
 have hF3:=hF2.below hb3 hF2.lt
 have hA3:OneE w3 (w1.heap.size + 1 + 1) e f:=hA1.below hb3 hA1.lt
 have hb4:=hb2.trans (hb3.mono hb2.size)
 have hs1:=HW1.out.size
 have hl3:w1.heap.size + 1 + 1 < w3.heap.size:=Blk.lt hA3
 clear hE2 hF2 hA1 hb2 hb3 c0 c1 c2 c3 c4 c5 c6 c7 c8 c9 c10 c11
 obtain ⟨c0,c1,c2,c3,c4,c5,c6,c7,c8,c9,c10,c11⟩:=hA3.cells
 have HF3:=Lib.hid hF3
 have HB4:=Lib.hid hb4
 clear hF3 hA3 hb4
 gi_wp2
 have hT:=Blk.new w3 80 #[.int .i64 (-2199023255553),.int .i64 2199023255553]
 have hF4:=HF3.out.alloc (.cells #[.int .i64 (-2199023255553),.int .i64 2199023255553] 80)
 have hb5:Below W.heap.size W (w3.alloc (.cells #[.int .i64 (-2199023255553),.int .i64 2199023255553] 80)):=HB4.out.alloc HB4.out.size _
 obtain ⟨w4,hw4⟩:∃ w4,w3.alloc (.cells #[.int .i64 (-2199023255553),.int .i64 2199023255553] 80) = w4:=⟨_,rfl⟩
 rw [hw4] at hT hF4 hb5 ⊢
 clear hw4 HF3 HB4 c0 c1 c2 c3 c4 c5 c6 c7 c8 c9 c10 c11
 obtain ⟨fn,tmps,assign,body,hyd,hR⟩:=hY [] () (fun _=>False) O w4 (fJ _ _ _ _ hJ (Fr.of_below hb5 (Nat.le_refl _))) (hO.fr (Fr.of_below (T:=fun _=>True) hb5 (Nat.le_refl _))) (fun _ h=>h.elim) (fun _ h=>h.elim) ⟨rfl,fun _ h=>h⟩
 unfold eraPA eraP at hyd
 rw [hyd]
 gi_wp2
 refine ⟨fun _=>by omega,hR.mono ?_⟩
 rintro o W5 ⟨O5,hx5,hbd5,hf5,(⟨rfl,hJ5⟩ | ⟨rfl,hJx5⟩)⟩
 ·have hw4s:w3.heap.size < w4.heap.size:=hT.lt
  have hO1:∀ k,W.heap.size ≤ k→¬ (O k∨False):=fun k hk h=>by
   rcases h with h | h
   ·have:=hO k h;omega
   ·exact h
  have hT5:=hT.fr hf5 (hO1 _ (by omega))
  have hF5:=hF4.fr hf5 (hO1 _ (by omega))
  have d1:=hT5.cell 1 (v:=.int .i64 2199023255553) rfl
  have f0:=hF5.cell 0 (v:=.int .i64 (-2199023255553)) rfl
  have ff:=hF5.frozen 0
  clear hT5 hF5 hT hF4 hyd hR
  gi_wp2
  rw [roundsIn_succ]
  gi_wp2
  refine bodyPost_end (results_none rfl _ _ _) rfl ?_
  refine ⟨⟨_,rfl⟩,O5,fun k h=>?_,hbd5.fr (Fr.setCell (T:=fun _=>True) _ 0 _ trivial),?_,.inl ⟨[()],rfl,fJ _ _ _ _ hJ5 (Fr.setCell _ 0 _ ?_)⟩⟩
  ·rcases hx5 k h with h | h | h
   ·exact .inl h
   ·exact h.elim
   ·exact .inr (by omega)
  ·have h1:Fr (fun k=>k = w1.heap.size + 1) W5 (W5.setCell ⟨w1.heap.size + 1,0,none⟩ (.int .i64 2199023255553)):=Fr.setCell _ 0 _ rfl
   exact ((Fr.of_below hb5 (Nat.le_refl _)).then hf5).trans h1 (fun k hk=>.inr (by omega))
  ·intro h
   rcases hx5 _ h with h | h | h
   ·exact hO1 _ (by omega) (.inl h)
   ·exact h
   ·omega
 ·gi_wp2
  refine bodyPost_end (results_none rfl _ _ _) rfl ?_
  refine ⟨⟨_,rfl⟩,O5,fun k h=>?_,hbd5,(Fr.of_below hb5 (Nat.le_refl _)).then hf5,.inr ⟨[()],trivial,hJx5⟩⟩
  have hw4s:=hT.lt
  rcases hx5 k h with h | h | h
  ·exact .inl h
  ·exact h.elim
  ·exact .inr (by omega)
theorem spans_any (z sv:Value) (nm:ByteArray) (b:Nat) (g:Fn) (ts cs:Array Value) (w:World) (hz:z = oneZ nm b) (hsv:sv = .func g ts cs) :
  Calls Tryz.prog 148 #[z,sv] w fun o w'=>o = .returned (.func (.func 173) #[] #[.pointer (some ⟨w.heap.size,0,none⟩),.pointer (some ⟨w.heap.size + 1,0,none⟩)])∧Below w.heap.size w w' ∧
   Blk w' w.heap.size 24 #[.string nm,.slice (some ⟨b,0,none⟩) 1 1]∧Blk w' (w.heap.size + 1) 90 #[.func g ts cs]:=by
 subst hz hsv
 have hz0:=(Blk.new w 24 #[.string nm,.slice (some ⟨b,0,none⟩) 1 1]).alloc (.cells #[.func g ts cs] 90)
 have hs0:=Blk.new (w.alloc (.cells #[.string nm,.slice (some ⟨b,0,none⟩) 1 1] 24)) 90 #[.func g ts cs]
 rw [World.size_alloc] at hs0
 unfold oneZ
 go_enter Tryz.func148,Tryz.ntmps148
 go_wp2_with fail
 go_ret
 exact ⟨rfl,((Below.refl _ _).alloc (Nat.le_refl _) _).alloc (by simp) _,hz0,hs0⟩
end
section -- GSpans
open Go Go.RowKit Go.Shelf
attribute [local go_sem] Oper.semAt_some
def toV (E:List Int) (k:Nat):Int:=E.getD k 2199023255553
def fromV (E:List Int) (k:Nat):Int:=if k = 0 then -2199023255553 else toV E (k - 1)
theorem toV_at {E:List Int} {k:Nat} (h:k < E.length):toV E k = E[k]:=by unfold toV;rw [List.getD_eq_getElem?_getD,List.getElem?_eq_getElem h];rfl
theorem toV_out {E:List Int} {k:Nat} (h:E.length ≤ k):toV E k = 2199023255553:=by unfold toV;rw [List.getD_eq_getElem?_getD,List.getElem?_eq_none h];rfl
theorem fromV_succ (E:List Int) (k:Nat):fromV E (k + 1) = toV E k:=by unfold fromV;rw [if_neg (by omega)];rfl
theorem span_at (eb fb i:Nat) (a:Int) (E:List Int) (v:Value) (B:Nat) (w:World) (he:Blk w eb 28 #[v]) (hf:Blk w fb 3 #[.int .i64 a]) (hv:Nums w B v E) (hB:B ≤ w.heap.size) :
  Calls Tryz.prog 174 #[.int .i64 i,.pointer (some ⟨eb,0,none⟩),.pointer (some ⟨fb,0,none⟩)] w fun o w'=>o = .returned (.agg #[.int .i64 a,.int .i64 (toV E i)])∧Below w.heap.size w w':=by
 obtain ⟨A,c,rfl,hlc,hcm⟩:=hv.form
 unfold maxLen at hcm
 have c0:=he.cell 0 (v:=.slice A E.length c) rfl
 have c1:=hf.cell 0 (v:=.int .i64 a) rfl
 have h0:=he.lt
 have h1:=hf.lt
 have hn0:eb ≠ w.heap.size:=by omega
 have hn1:fb ≠ w.heap.size:=by omega
 clear he hf
 by_cases hlt:i < E.length
 ·have hd:decide ((i:Int) < (E.length:Int)) = true:=decide_eq_true (by omega)
  obtain ⟨bb,o,c',e,hbb,hc⟩:=hv.cells (by omega)
  cases e
  have k0:=hc i hlt
  have hbw:bb < w.heap.size:=by omega
  have HT:=Lib.hid (toV_at hlt)
  obtain ⟨n,hn⟩:∃ n,E[i] = n:=⟨_,rfl⟩
  rw [hn] at k0 HT
  rw [HT.out]
  clear hc hn hv
  go_enter Tryz.func174,Tryz.ntmps174
  go_wp2_with fail
  refine bodyPost_ret (v:=.agg #[.int .i64 a,.int .i64 n]) ?_ rfl ⟨rfl,(Below.refl _ _).alloc (Nat.le_refl _) _⟩
  have hB:=Blk.new w 80 #[.int .i64 a,.int .i64 n]
  have d0:=hB.cell 0 (v:=.int .i64 a) rfl
  have d1:=hB.cell 1 (v:=.int .i64 n) rfl
  simp [results,Tryz.f174,go_sem,d0,d1]
 ·have hd:decide ((i:Int) < (E.length:Int)) = false:=decide_eq_false (by omega)
  rw [toV_out (by omega)]
  clear hv
  go_enter Tryz.func174,Tryz.ntmps174
  go_wp2_with fail
  refine bodyPost_ret (v:=.agg #[.int .i64 a,.int .i64 2199023255553]) ?_ rfl ⟨rfl,(Below.refl _ _).alloc (Nat.le_refl _) _⟩
  have hB:=Blk.new w 80 #[.int .i64 a,.int .i64 2199023255553]
  have d0:=hB.cell 0 (v:=.int .i64 a) rfl
  have d1:=hB.cell 1 (v:=.int .i64 2199023255553) rfl
  simp [results,Tryz.f174,go_sem,d0,d1]
def encS (l:List EraF) (E:List Int) (k:Nat):Array Value:=#[(l.getD k default).val,.agg #[.int .i64 (fromV E k),.int .i64 (toV E k)]]
structure SpanAt (l:List EraF) (E:List Int) (fb:Nat) (J:List Nat→(Nat→Prop)→World→Prop) (O0:Nat→Prop) (W2:World) (pre:List Nat) (O:Nat→Prop) (wr:World):Prop where
 j:J pre O wr
 bd:Bd O wr
 ext:∀ k,O k→O0 k∨W2.heap.size ≤ k
 frm:Fr (fun k=>O0 k∨k = fb) W2 wr
 fr:Blk wr fb 3 #[.int .i64 (fromV E pre.length)]
 len:pre.length ≤ l.length
def RS (l:List EraF) (B2:Nat) (Wb:World) (pre:List Nat) (x:Nat) (D:Nat→Prop) (W:World):Prop:=(∀ j,¬ D j)∧x = pre.length∧x < l.length∧∀ k,k < B2→W.heap[k]? = Wb.heap[k]?
theorem spansZ_in (n:Nat) (hn:2 ≤ n) (lp zb sb B B2:Nat) (Wb:World) (zn:ByteArray) (ev sv:Value) (l:List EraF) (S:List SetF) (W:World)
  (hzb:Blk W zb 24 #[.string zn,ev]) (hsb:Blk W sb 90 #[setsV zn ev sv]) (hz:ZW W B ev sv l S) (ho:ZOk l S) (h0:errZ S l = 0) (hBB:B ≤ B2) (hB2:B2 ≤ W.heap.size) (hWb:∀ k,k < B2→W.heap[k]? = Wb.heap[k]?)
  (J Jx:List Nat→(Nat→Prop)→World→Prop) (fJ:Feet J) (hY:RoundsIn Fence.wide (n - 1) Tryz.prog lp (encS l (endL S l)) (RS l B2 Wb) J Jx)
  (O0:Nat→Prop) (hJ0:J [] O0 W) (hO0:Bd O0 W) (hK:∀ k,k < B2→¬ O0 k) :
  CallsIn Fence.wide n Tryz.prog 173 #[.func (.yield lp) #[] #[],.pointer (some ⟨zb,0,none⟩),.pointer (some ⟨sb,0,none⟩)] W (IterEnd (fun xs=>xs.length = l.length) (fun pre=>pre.length ≤ l.length) J Jx O0 (fun _=>False) W):=by
 obtain ⟨A,cA,rfl,hlc,hcm⟩:=hz.eras.form
 unfold maxLen at hcm
 have HEN:=Lib.hid (callsIn_wide (n:=n - 1).2 (zends_any zn (.slice A l.length cA) sv B l S W hz ho))
 unfold EndsPost at HEN
 rw [h0] at HEN
 have z0:=hzb.cell 0 (v:=.string zn) rfl
 have z1:=hzb.cell 1 (v:=.slice A l.length cA) rfl
 have s0:=hsb.cell 0 (v:=setsV zn (.slice A l.length cA) sv) rfl
 unfold setsV zoneA worldA at HEN
 unfold setsV worldA at s0
 have hzl:=hzb.lt
 have hsl:=hsb.lt
 have HZ:=Lib.hid hz
 obtain ⟨E,hE⟩:∃ E,endL S l = E:=⟨_,rfl⟩
 rw [hE] at HEN hY
 clear hE h0 hz ho
 refine callsIn_of_wp Tryz.func173 rfl trivial ?_ rfl
 simp only [Tryz.ntmps173,List.size_toArray,List.length_cons,List.length_nil,Nat.reduceAdd,Nat.reduceSub,Array.replicate_succ,Array.replicate_zero,List.push_toArray,List.append_toArray,List.nil_append,List.cons_append]
 gi_wp2
 refine ⟨trivial,fun _=>by omega,HEN.out.mono ?_⟩
 rintro o w1 ⟨⟨v,rfl,hown,-⟩,hb1⟩
 have hown1:=hown (by trivial)
 obtain ⟨A5,c5,rfl,-,-⟩:=Sl.of_own hown1
 have z11:=(hb1.cell (p:=⟨zb,1,none⟩) hzl).trans z1
 have hzl1:zb < w1.heap.size:=Nat.lt_of_lt_of_le hzl hb1.size
 have HB1:=Lib.hid hb1
 have HOWN:=Lib.hid hown1
 clear HEN z0 z1 s0 hb1 hown hown1
 gi_wp2
 obtain ⟨W2,hW2⟩:∃ W2,(w1.alloc (.cells #[.slice A5 E.length c5] 28)).alloc (.cells #[.int .i64 (-2199023255553)] 3) = W2:=⟨_,rfl⟩
 obtain ⟨b0,b1,hb2,hs2⟩:=blks2 w1 _ _ _ _ W2 hW2
 rw [hW2]
 have hb02:=HB1.out.trans (hb2.mono HB1.out.size)
 have HE2:=Lib.hid b0
 have HZ2:=Lib.hid (HZ.out.below hb02)
 have HO2:=Lib.hid (ownsRow_below HOWN.out hb2)
 have hs1:=HB1.out.size
 have HS0:=Lib.hid (show SpanAt l E (w1.heap.size + 1) J O0 W2 [] O0 W2 from
  ⟨fJ _ _ _ _ hJ0 (Fr.of_below hb02 (Nat.le_refl _)),hO0.fr (Fr.of_below (T:=fun _=>True) hb02 (Nat.le_refl _)),fun k h=>.inl h,Fr.refl _ _,b1,Nat.zero_le _⟩)
 have HB02:=Lib.hid hb02
 clear hW2 b0 b1 hb2 hb02 z11
 gi_loopw [23] (fun iv wr=>∃ pre O,iv = .int .i64 (pre.length:Nat)∧SpanAt l E (w1.heap.size + 1) J O0 W2 pre O wr) (fun iv _=>l.length - (intOf iv).toNat)
 case atStart=>exact ⟨[],O0,rfl,HS0.out⟩
 case round =>
  clear HS0
  obtain ⟨pre,O,rfl,hS⟩:=hrel
  have HS:=Lib.hid hS
  have hcz:∀ k,k < B→¬ (O0 k∨k = w1.heap.size + 1):=fun k hk e=>by
   rcases e with e | e
   ·exact hK k (by omega) e
   ·have:=HZ.out.le;omega
  have her:ErasR wr B (.slice A l.length cA) l:=hS.frm.sl HZ2.out.eras HZ2.out.le hcz
  have how:=hS.frm.own HO2.out (fun g hg e=>by
   have h5:=HOWN.out.lt g hg
   rcases e with e | e
   ·have:=hO0 _ e;omega
   ·omega)
  have heb:Blk wr w1.heap.size 28 #[.slice A5 E.length c5]:=HE2.out.fr hS.frm (fun e=>by
   rcases e with e | e
   ·have:=hO0 _ e;omega
   ·omega)
  have hfb:=hS.fr
  have hws:=hS.frm.size
  have hlen:=hS.len
  by_cases hlt:pre.length < l.length
  ·have hd:decide ((pre.length:Int) < (l.length:Int)) = true:=decide_eq_true (by omega)
   obtain ⟨bb,o,c',e,hbb,hc⟩:=her.cells (by omega)
   cases e
   have hx:=hc pre.length hlt
   have hgx:l.getD pre.length default = l[pre.length]:=by rw [List.getD_eq_getElem?_getD,List.getElem?_eq_getElem hlt];rfl
   obtain ⟨x,hxk⟩:∃ x,l[pre.length] = x:=⟨_,rfl⟩
   rw [hxk] at hx hgx
   obtain ⟨c0,c1,c2,c3,c4,c5,c6,c7,c8,c9,c10,c11⟩:=hx
   have hbw:bb < wr.heap.size:=by have:=HZ2.out.le;omega
   have hA3:=Blk.new wr 42 #[.int .i64 x.n.off,.string x.ru,.int .i64 x.n.save,.string x.fm,.bool x.en,.int .i64 x.n.year,.int .i64 x.n.month,.int .i64 x.n.dk,.int .i64 x.n.dw,.int .i64 x.n.dn,.int .i64 x.n.sec,.int .i64 x.n.ak]
   have hb3:Below wr.heap.size wr (wr.alloc (.cells #[.int .i64 x.n.off,.string x.ru,.int .i64 x.n.save,.string x.fm,.bool x.en,.int .i64 x.n.year,.int .i64 x.n.month,.int .i64 x.n.dk,.int .i64 x.n.dw,.int .i64 x.n.dn,.int .i64 x.n.sec,.int .i64 x.n.ak] 42)):=(Below.refl _ _).alloc (Nat.le_refl _) _
   have HSP:=Lib.hid (callsIn_wide (n:=n - 1).2 (span_at w1.heap.size (w1.heap.size + 1) pre.length (fromV E pre.length) E _ wr.heap.size (wr.alloc (.cells #[.int .i64 x.n.off,.string x.ru,.int .i64 x.n.save,.string x.fm,.bool x.en,.int .i64 x.n.year,.int .i64 x.n.month,.int .i64 x.n.dk,.int .i64 x.n.dw,.int .i64 x.n.dn,.int .i64 x.n.sec,.int .i64 x.n.ak] 42)) (heb.alloc _) (hfb.alloc _) ((Sl.of_own how).below hb3) hb3.size))
   obtain ⟨fv,hfv⟩:∃ f,fromV E pre.length = f:=⟨_,rfl⟩
   obtain ⟨tv,htv⟩:∃ f,toV E pre.length = f:=⟨_,rfl⟩
   rw [hfv,htv] at HSP
   have HFB:=Lib.hid hfb
   have HGX:=Lib.hid hgx
   have HFV:=Lib.hid hfv
   have HTV:=Lib.hid htv
   have hfl:=hfb.lt
   clear hc hxk hgx her how heb hfb hfv htv hS
   gi_wp2
   refine ⟨trivial,fun _=>by omega,HSP.out.mono ?_⟩
   rintro o w4 ⟨rfl,hb4⟩
   have hA4:=hA3.below hb4 hA3.lt
   have HB4:=Lib.hid (hb3.trans (hb4.mono hb3.size))
   have hl4:=hA4.lt
   clear hb3 hb4 hA3 HSP c0 c1 c2 c3 c4 c5 c6 c7 c8 c9 c10 c11
   have hT:=Blk.new w4 80 #[.int .i64 fv,.int .i64 tv]
   have HB5:=Lib.hid (HB4.out.alloc HB4.out.size (.cells #[.int .i64 fv,.int .i64 tv] 80))
   have hF5:=HFB.out.below HB5.out HFB.out.lt
   obtain ⟨w5,hw5⟩:∃ w5,w4.alloc (.cells #[.int .i64 fv,.int .i64 tv] 80) = w5:=⟨_,rfl⟩
   have hA5:=hA4.alloc (.cells #[.int .i64 fv,.int .i64 tv] 80)
   rw [hw5] at hT HB5 hF5 hA5
   have e0:=hA5.cell 0 (v:=.int .i64 x.n.off) rfl
   have e1:=hA5.cell 1 (v:=.string x.ru) rfl
   have e2:=hA5.cell 2 (v:=.int .i64 x.n.save) rfl
   have e3:=hA5.cell 3 (v:=.string x.fm) rfl
   have e4:=hA5.cell 4 (v:=.bool x.en) rfl
   have e5:=hA5.cell 5 (v:=.int .i64 x.n.year) rfl
   have e6:=hA5.cell 6 (v:=.int .i64 x.n.month) rfl
   have e7:=hA5.cell 7 (v:=.int .i64 x.n.dk) rfl
   have e8:=hA5.cell 8 (v:=.int .i64 x.n.dw) rfl
   have e9:=hA5.cell 9 (v:=.int .i64 x.n.dn) rfl
   have e10:=hA5.cell 10 (v:=.int .i64 x.n.sec) rfl
   have e11:=hA5.cell 11 (v:=.int .i64 x.n.ak) rfl
   have t0:=hT.cell 0 (v:=.int .i64 fv) rfl
   have t1:=hT.cell 1 (v:=.int .i64 tv) rfl
   have ht5:=hT.lt
   have hsame:∀ k,k < B2→w5.heap[k]? = Wb.heap[k]?:=fun k hk=>by
    have h1:=HB02.out.block k (by omega)
    have h2:=HS.out.frm.block k (by have:=HB02.out.size;omega) (fun e=>by
     rcases e with e | e
     ·exact hK k hk e
     ·omega)
    have h3:=HB5.out.block k (by have:=HB02.out.size;have:=HS.out.frm.size;omega)
    rw [h3,h2,h1]
    exact hWb k hk
   obtain ⟨fn,tmps,assign,body,hyd,hR⟩:=hY pre pre.length (fun _=>False) O w5 (fJ _ _ _ _ HS.out.j (Fr.of_below HB5.out (Nat.le_refl _))) (HS.out.bd.fr (Fr.of_below (T:=fun _=>True) HB5.out (Nat.le_refl _))) (fun _ h=>h.elim) (fun _ h=>h.elim) ⟨fun _ h=>h,rfl,hlt,hsame⟩
   unfold encS at hyd
   rw [HGX.out,HFV.out,HTV.out] at hyd
   unfold EraF.val eraA at hyd
   gi_wp2
   refine ⟨fun _=>by omega,hR.mono ?_⟩
   rintro o W5 ⟨O5,hx5,hbd5,hf5,hend⟩
   clear hyd hR e0 e1 e2 e3 e4 e5 e6 e7 e8 e9 e10 e11 t0 t1 hA4 hA5 hw5
   have hs5:=HB5.out.size
   have hOw:∀ k,O k→k < wr.heap.size:=HS.out.bd
   have hnfb:¬ O (w1.heap.size + 1):=fun e=>by
    rcases HS.out.ext _ e with e | e
    ·have:=hO0 _ e;omega
    ·omega
   have hext:∀ k,O5 k→O0 k∨W2.heap.size ≤ k:=fun k h=>by
    rcases hx5 k h with h | h | h
    ·exact HS.out.ext k h
    ·exact h.elim
    ·exact .inr (by omega)
   have hfr5:Fr (fun k=>O0 k∨k = w1.heap.size + 1) W2 W5:=((HS.out.frm.then (Fr.of_below HB5.out (Nat.le_refl _))).trans hf5 fun k hk=>by
    rcases hk with hk | hk
    ·rcases HS.out.ext k hk with h | h
     ·exact .inl (.inl h)
     ·exact .inr h
    ·exact hk.elim)
   rcases hend with ⟨rfl,hJ5⟩ | ⟨rfl,hJx5⟩
   ·have hT5:=hT.fr hf5 (fun e=>by
     rcases e with e | e
     ·have:=hOw _ e;omega
     ·exact e)
    have hF6:=hF5.fr hf5 (fun e=>by
     rcases e with e | e
     ·exact hnfb e
     ·exact e)
    have t1:=hT5.cell 1 (v:=.int .i64 tv) rfl
    have f0:=hF6.frozen 0
    have g0:=hF6.cell 0 (v:=.int .i64 (fromV E pre.length)) rfl
    have HF6:=Lib.hid hF6
    have HJ5:=Lib.hid hJ5
    clear hT hF5 hT5 hF6 hJ5
    gi_wp2
    refine ⟨⟨pre ++ [pre.length],O5,?_,?_⟩,?_⟩
    ·rw [List.length_append];rfl
    ·refine ⟨fJ _ _ _ _ HJ5.out (Fr.setCell _ 0 _ fun e=>?_),hbd5.fr (Fr.setCell (T:=fun _=>True) _ 0 _ trivial),hext,hfr5.then (Fr.setCell _ 0 _ (.inr rfl)),?_,?_⟩
     ·rcases hx5 _ e with h | h | h
      ·exact hnfb h
      ·exact h
      ·omega
     ·have h:=HF6.out.set 0 (.int .i64 tv)
      rw [List.length_append,List.length_singleton,fromV_succ,HTV.out]
      exact h
     ·rw [List.length_append]
      exact hlt
    ·show l.length - _ < l.length - _
     simp [intOf]
     omega
   ·gi_wp2
    refine bodyPost_end (results_none rfl _ _ _) rfl ?_
    refine ⟨⟨_,rfl⟩,O5,fun k h=>?_,hbd5,((Fr.of_below (T:=fun k=>O0 k∨False) HB02.out (Nat.le_refl _)).trans hfr5 fun k hk=>?_),.inr ⟨pre ++ [pre.length],?_,hJx5⟩⟩
    ·rcases hext k h with h | h
     ·exact .inl h
     ·exact .inr (by omega)
    ·rcases hk with hk | hk
     ·exact .inl (.inl hk)
     ·exact .inr (by omega)
    ·show (pre ++ [pre.length]).length ≤ l.length
     rw [List.length_append]
     exact hlt
  ·have he:pre.length = l.length:=by omega
   have hd:decide ((pre.length:Int) < (l.length:Int)) = false:=decide_eq_false (by omega)
   clear her how heb hfb hS
   have HEQ:=Lib.hid he
   clear he
   gi_wp2
   refine bodyPost_end (results_none rfl _ _ _) rfl ?_
   refine ⟨⟨_,rfl⟩,O,fun k h=>?_,HS.out.bd,((Fr.of_below (T:=fun k=>O0 k∨False) HB02.out (Nat.le_refl _)).trans HS.out.frm fun k hk=>?_),.inl ⟨pre,HEQ.out,HS.out.j⟩⟩
   ·rcases HS.out.ext k h with h | h
    ·exact .inl h
    ·exact .inr (by omega)
   ·rcases hk with hk | hk
    ·exact .inl (.inl hk)
    ·exact .inr (by omega)
theorem spansZ_iter (n:Nat) (hn:2 ≤ n) (zb sb B B2:Nat) (Wb:World) (zn:ByteArray) (ev sv:Value) (l:List EraF) (S:List SetF) (W:World)
  (hzb:Blk W zb 24 #[.string zn,ev]) (hsb:Blk W sb 90 #[setsV zn ev sv]) (hz:ZW W B ev sv l S) (ho:ZOk l S) (h0:errZ S l = 0) (hBB:B ≤ B2) (hB2:B2 ≤ W.heap.size) (hWb:∀ k,k < B2→W.heap[k]? = Wb.heap[k]?) :
  Iter Fence.wide n Tryz.prog 173 #[.pointer (some ⟨zb,0,none⟩),.pointer (some ⟨sb,0,none⟩)] (encS l (endL S l)) (RS l B2 Wb) (fun xs=>xs.length = l.length) (fun pre=>pre.length ≤ l.length) (fun k=>k < B2) (fun _=>False) W :=
 fun lp J Jx fJ _ hY O hJ hO hK=>spansZ_in n hn lp zb sb B B2 Wb zn ev sv l S W hzb hsb hz ho h0 hBB hB2 hWb J Jx fJ hY O hJ hO hK
theorem spansZ_any (w:World) (zn:ByteArray) (ev sv:Value) :
  Calls Tryz.prog 148 #[zoneA zn ev,setsV zn ev sv] w fun o w'=>o = .returned (.func (.func 173) #[] #[.pointer (some ⟨w.heap.size,0,none⟩),.pointer (some ⟨w.heap.size + 1,0,none⟩)])∧Below w.heap.size w w' ∧
   Blk w' w.heap.size 24 #[.string zn,ev]∧Blk w' (w.heap.size + 1) 90 #[setsV zn ev sv]∧w'.heap.size = w.heap.size + 2:=by
 have hz0:=(Blk.new w 24 #[.string zn,ev]).alloc (.cells #[setsV zn ev sv] 90)
 have hs0:=Blk.new (w.alloc (.cells #[.string zn,ev] 24)) 90 #[setsV zn ev sv]
 rw [World.size_alloc] at hs0
 have HB:=Lib.hid (((Below.refl w.heap.size w).alloc (Nat.le_refl _) (.cells #[.string zn,ev] 24)).alloc (by simp) (.cells #[setsV zn ev sv] 90))
 have HH:=Lib.hid (And.intro hz0 hs0)
 clear hz0 hs0
 unfold setsV zoneA worldA at *
 go_enter Tryz.func148,Tryz.ntmps148
 go_wp2_with fail
 go_ret
 exact ⟨rfl,HB.out,HH.out.1,HH.out.2,by simp⟩
end
section -- HStepM
open Go Go.RowKit Go.Shelf
def eraT (S:List SetF) (l:List EraF) (fr to:Int) (k:Nat):List Chg :=
 if toV (endL S l) k - 1 ≤ fr∨to < fromV (endL S l) k then [] else
  (if fr < fromV (endL S l) k then [⟨fromV (endL S l) k,locW (l.getD k default) (ruleE S (l.getD k default)) (fromV (endL S l) k)⟩] else []) ++
    turnsL (l.getD k default) (ruleE S (l.getD k default)) (max fr (fromV (endL S l) k)) (min to (toV (endL S l) k - 1))
def stepsL (S:List SetF) (l:List EraF) (fr to:Int):List Chg:=(List.range l.length).flatMap (eraT S l fr to)
theorem firedN_nil {off fr to:Int}:∀ {n:Nat},firedN [] off fr to n none = []
 | 0=>rfl
 | _ + 1=>rfl
theorem turnsL_nil (x:EraF) (fr to:Int):turnsL x [] fr to = []:=by
 unfold turnsL firedF
 have h:behindF [] (fr - 180000) = none:=rfl
 rw [h,firedN_nil]
 rfl
section
variable {S:List SetF} {l:List EraF} {fr to:Int} {k:Nat}
theorem stepsF_succ:(List.range (k + 1)).flatMap (eraT S l fr to) = (List.range k).flatMap (eraT S l fr to) ++ eraT S l fr to k:=by
 rw [List.range_succ,List.flatMap_append]
 simp
theorem stepsL_split (hk:k < l.length):∃ rest,stepsL S l fr to = (List.range k).flatMap (eraT S l fr to) ++ (eraT S l fr to k ++ rest):=by
 obtain ⟨m,hm⟩:∃ m,l.length = k + 1 + m:=⟨l.length - (k + 1),by omega⟩
 refine ⟨((List.range m).map (k + 1 + ·)).flatMap (eraT S l fr to),?_⟩
 unfold stepsL
 rw [hm,List.range_add,List.flatMap_append,stepsF_succ,List.append_assoc]
theorem eraT_skip (h:toV (endL S l) k - 1 ≤ fr∨to < fromV (endL S l) k):eraT S l fr to k = []:=by unfold eraT;rw [if_pos h]
theorem eraT_at (h:¬ (toV (endL S l) k - 1 ≤ fr∨to < fromV (endL S l) k)) (h2:fr < fromV (endL S l) k):eraT S l fr to k = ⟨fromV (endL S l) k,locW (l.getD k default) (ruleE S (l.getD k default)) (fromV (endL S l) k)⟩ :: turnsL (l.getD k default) (ruleE S (l.getD k default)) (max fr (fromV (endL S l) k)) (min to (toV (endL S l) k - 1)):=by
 unfold eraT
 rw [if_neg h,if_pos h2]
 rfl
theorem eraT_in (h:¬ (toV (endL S l) k - 1 ≤ fr∨to < fromV (endL S l) k)) (h2:¬ fr < fromV (endL S l) k):eraT S l fr to k = turnsL (l.getD k default) (ruleE S (l.getD k default)) (max fr (fromV (endL S l) k)) (min to (toV (endL S l) k - 1)):=by
 unfold eraT
 rw [if_neg h,if_neg h2]
 rfl
theorem toV_in (hE:∀ e ∈ endL S l,-9000000000000000000 ≤ e∧e ≤ 9000000000000000000) (k:Nat):-9000000000000000000 ≤ toV (endL S l) k∧toV (endL S l) k ≤ 9000000000000000000:=by
 by_cases h:k < (endL S l).length
 ·rw [toV_at h]
  exact hE _ (List.getElem_mem h)
 ·rw [toV_out (by omega)]
  constructor <;> decide
theorem fromV_in (hE:∀ e ∈ endL S l,-9000000000000000000 ≤ e∧e ≤ 9000000000000000000) (k:Nat):-9000000000000000000 ≤ fromV (endL S l) k∧fromV (endL S l) k ≤ 9000000000000000000:=by
 unfold fromV
 split
 ·constructor <;> decide
 ·exact toV_in hE _
theorem errZ_off (h:errZ S l = 0) (hk:k < l.length):(-90000 < l[k].n.off∧l[k].n.off < 90000)∧(-90000 < l[k].n.save∧l[k].n.save < 90000):=by
 have h1:=(errZ_zero h).2.2.1 k hk
 rw [errAt_eq hk] at h1
 unfold errE at h1
 split at h1
 ·split at h1
  ·rename_i h2
   unfold withinB at h2
   simp only [Bool.and_eq_true,decide_eq_true_eq] at h2
   omega
  ·cases h1
 ·rename_i hn
  exact absurd h1 hn
end
end
section -- HShown
open Go Go.RowKit Go.Shelf
theorem shown_any (w:World) (x:EraF) (B:Nat) (v:Value) (R:List Rul) (hm:Tryz.MaxL w) (hs:x.fm.size < 4294967281) (hrw:RW w B v R) (hok:RuOk R) (i:Int) (ho:-1000000000000000 ≤ x.n.off∧x.n.off ≤ 1000000000000000) (hi:-4500000000000 ≤ i) (hi2:i ≤ 9000000000000000000) (hsum:sumOk x.n x.ru R i) :
  Calls Tryz.prog 150 #[x.val,v,.int .i64 i] w fun o w'=>o = .returned (chgA ⟨i,locW x R i⟩)∧Below w.heap.size w w':=by
 have hb0:Below w.heap.size w ((w.alloc (.cells (eraC x.n x.ru x.fm x.en) 42)).alloc (.cells #[.int .i64 0,.int .i64 0,.bool false,.string ⟨#[]⟩] 76)):=((Below.refl w.heap.size w).alloc (Nat.le_refl _) _).alloc (by simp) _
 have hr0:=Blk.new (w.alloc (.cells (eraC x.n x.ru x.fm x.en) 42)) 76 #[.int .i64 0,.int .i64 0,.bool false,.string ⟨#[]⟩]
 rw [World.size_alloc] at hr0
 have HW:=Lib.hid (zwithin_any _ x.n x.ru x.fm x.en B v R (hm.below hb0 (Nat.le_refl _)) hs (hrw.below hb0) hok i ho hi hi2 hsum)
 obtain ⟨err,he⟩:=zwithinV_loc x R i
 rw [he] at HW
 obtain ⟨⟨yo,yd,ys⟩,hy⟩:∃ y,locW x R i = y:=⟨_,rfl⟩
 rw [hy] at HW ⊢
 have HB:=Lib.hid hb0
 have HR:=Lib.hid hr0
 clear he hy hb0 hr0 hrw
 unfold locA at HW
 unfold EraF.val eraA chgA
 unfold eraA at HW
 unfold eraC at HB HR HW
 go_enter Tryz.func150,Tryz.ntmps150
 go_wp2_with fail
 refine HW.out.mono ?_
 rintro o w1 ⟨rfl,hb⟩
 have hr1':=HR.out.below hb HR.out.lt
 have HB1:=Lib.hid (HB.out.trans (hb.mono HB.out.size))
 have HR1:=Lib.hid hr1'
 have r0:=hr1'.cell 0 (v:=.int .i64 0) rfl
 have r1:=hr1'.cell 1 (v:=.int .i64 0) rfl
 have r2:=hr1'.cell 2 (v:=.bool false) rfl
 have r3:=hr1'.cell 3 (v:=.string ⟨#[]⟩) rfl
 have f0:=hr1'.frozen 0
 have f1:=hr1'.frozen 1
 have f2:=hr1'.frozen 2
 have f3:=hr1'.frozen 3
 have hrl:=hr1'.lt
 clear hb hr1' HW
 go_wp2_with fail
 have hw:=((((HR1.out.set 0 (.int .i64 i)).set 1 (.int .i64 yo)).set 2 (.bool yd)).set 3 (.string ys)).alloc (.cells #[.int .i64 yo,.bool yd,.string ys] 48)
 refine bodyPost_ret (v:=.agg #[.int .i64 i,.int .i64 yo,.bool yd,.string ys]) ?_ rfl ⟨rfl,(below_set4 HB1.out (by omega) _ _ _ _).alloc (by have:=HB1.out.size;simp;omega) _⟩
 have c0:=hw.cell 0 (v:=.int .i64 i) rfl
 have c1:=hw.cell 1 (v:=.int .i64 yo) rfl
 have c2:=hw.cell 2 (v:=.bool yd) rfl
 have c3:=hw.cell 3 (v:=.string ys) rfl
 simp [results,Tryz.f150,go_sem,c0,c1,c2,c3]
theorem rulesT_any (w:World) (zn:ByteArray) (ev sv:Value) (B:Nat) (S:List SetF) (hs:SetsR w B sv S) (hB:B ≤ w.heap.size) (x:EraF) :
  Calls Tryz.prog 149 #[x.val,setsV zn ev sv] w fun o w'=>o = .returned (rvalE S x)∧Below w.heap.size w w':=by
 have hb0:=(Below.refl w.heap.size w).alloc (Nat.le_refl _) (.cells (eraC x.n x.ru x.fm x.en) 42)
 have HO:=Lib.hid (fun (W:World) (hb:Below w.heap.size w W)=>wof_any W zn ev sv B S (hs.below (hb.mono hB)) (Nat.le_trans hB hb.size) x.ru)
 unfold worldA at HO
 unfold setsV EraF.val eraA worldA
 by_cases hr0:x.ru.size = 0
 ·have hem:(x.ru.toList == []) = true:=by rw [emp_size,decide_eq_true hr0]
  have HV:=Lib.hid (show rvalE S x = .slice none 0 0 by unfold rvalE;rw [if_pos hr0])
  clear hr0 hs
  go_enter Tryz.func149,Tryz.ntmps149
  go_wp2_with fail
  go_ret
  exact ⟨by rw [HV.out];rfl,(Below.refl _ _).alloc (Nat.le_refl _) _⟩
 ·have hem:(x.ru.toList == []) = false:=by rw [emp_size,decide_eq_false hr0]
  have HV:=Lib.hid (show rvalE S x = ofVal S x.ru by unfold rvalE;rw [if_neg hr0])
  unfold eraC at hb0
  have HB:=Lib.hid hb0
  clear hr0 hs hb0
  go_enter Tryz.func149,Tryz.ntmps149
  go_wp2_with fail
  refine (HO.out _ HB.out).mono ?_
  rintro o w1 ⟨rfl,hb⟩
  have HB1:=Lib.hid (HB.out.trans (hb.mono HB.out.size))
  clear hb
  go_wp2_with fail
  go_ret
  exact ⟨by rw [HV.out];rfl,HB1.out⟩
end
section -- GRows
open Go Go.RowKit Go.Shelf
structure RowF where
 v:Value
 D:List FrI
 letter:ByteArray
instance:Inhabited RowF:=⟨⟨.slice none 0 0,[],⟨#[]⟩⟩⟩
def RowF.cells (r:RowF):List Value:=[r.v,.string r.letter]
theorem infoRow:(Tryz.prog.info? 121).map (fun i=>(i.zero,i.size,i.bytes)) = some (some (.agg #[.slice none 0 0,.string ⟨#[]⟩]),2,40):=by kernel_rfl
theorem rule_right {S:List SetF} (h:∀ s ∈ S,rightB s.l = true) (x:EraF):rightB (ruleE S x) = true:=by
 unfold ruleE
 split
 ·exact right_nil
 ·exact set_right h x.ru
structure RowOk (S:List SetF) (x:EraF) (r:RowF):Prop where
 right:RightR (ruleE S x) (r.D.map FrI.f)
 letter:r.letter = letV (ruleE S x)
 len:r.D.length ≤ 100000
 bd:∀ y ∈ r.D,(-1000000000000000 ≤ y.f.nominal∧y.f.nominal ≤ 1000000000000000)∧-1000000000000000 ≤ y.f.save∧y.f.save ≤ 1000000000000000
theorem rowOk_of {S:List SetF} (hS:∀ s ∈ S,rightB s.l = true) {x:EraF} {r:RowF} (hst:Stab Fir.nominal (genL (ruleE S x) 1890 2110) (r.D.map FrI.f)) (hl:r.letter = letV (ruleE S x)):RowOk S x r:=by
 obtain ⟨A,hA,hs,-⟩:=right_yes (rule_right hS x)
 have e:=hst.unique hs
 obtain ⟨h1,h2⟩:=D_ok (rule_right hS x) hst
 exact ⟨by rw [e];exact hA,hl,h1,h2⟩
theorem rowOk_nil {S:List SetF} (hS:∀ s ∈ S,rightB s.l = true) {x:EraF} (h0:x.ru.size = 0):RowOk S x ⟨.slice none 0 0,[],⟨#[]⟩⟩:=by
 have e:ruleE S x = []:=by unfold ruleE;rw [if_pos h0]
 refine rowOk_of hS ?_ ?_
 ·rw [e];exact Stab.nil
 ·rw [e];rfl
theorem own_ne {W:World} {X:Nat} {t e:TypeId} {cs:Array Value} {base sz n:Nat} {u:Value} {xs:List Value} (hx:Blk W X t cs) (ho:W.ownsRow base e sz u n xs) (hte:t ≠ e):u.ownBlock ≠ some X:=fun h=>by
 rcases ho.2 with ⟨rfl,_⟩ | ⟨g,cap,cur,rfl,hb,hg,-⟩
 ·cases h
 ·have h1:g = X:=by injection h
  subst h1
  unfold Blk at hx
  rw [hx] at hg
  injection hg with hg
  injection hg with _ hg
  exact hte hg
theorem frisN_grown {W W':World} {v u:Value} {D:List FrI} {base sz n:Nat} {xs:List Value} (h:FrisN W v D) (ho:W.ownsRow base 121 sz u n xs) (hg:W.grownBy W' u.ownBlock):FrisN W' v D:=by
 have hne:∀ (b:Nat) (cs:Array Value) (fr:Nat × Nat),W.heap[b]? = some (Obj.cells cs 129 fr)→W'.heap[b]? = W.heap[b]?:=fun b cs fr hb=>by
  refine hg.block b (Array.getElem?_eq_some_iff.1 hb).1 fun e=>?_
  rcases ho.2 with ⟨rfl,_⟩ | ⟨g,cap,cur,rfl,hb2,hg2,-⟩
  ·cases e
  ·have h1:b = g:=by injection e
   subst h1
   rw [hb] at hg2
   injection hg2 with hg2
   injection hg2 with _ hg2
   revert hg2
   decide
 obtain ⟨⟨A,c,rfl,h1,h2,hl,hc⟩,hty⟩:=h
 refine ⟨⟨A,c,rfl,h1,h2,hl,fun hn=>?_⟩,hty.kept hne⟩
 obtain ⟨b,o,rfl,hb,hcc⟩:=hc hn
 obtain ⟨cs,fr,hbt⟩:=hty b o _ _ rfl
 exact ⟨b,o,rfl,Nat.lt_of_lt_of_le hb hg.size,fun j y hy=>(World.cell?_of_block (hne b cs fr hbt)).trans (hcc j y hy)⟩
def RowsM (W:World) (u:Value) (R:List RowF):Prop:=Sl W W.heap.size 2 u R.length (R.flatMap RowF.cells)∧∀ r ∈ R,FrisN W r.v r.D
theorem RowsM.below {W W':World} {u:Value} {R:List RowF} (h:RowsM W u R) (hb:Below W.heap.size W W'):RowsM W' u R:=⟨Sl.more (Sl.below h.1 hb) hb.size,fun r hr=>(h.2 r hr).below hb⟩
theorem RowsM.form {W:World} {u:Value} {R:List RowF} (h:RowsM W u R):∃ A c,u = .slice A R.length c∧R.length ≤ c∧c ≤ maxLen:=by obtain ⟨A,c,e,h1,h2,_⟩:=h.1;exact ⟨A,c,e,h1,h2⟩
theorem RowsM.cells {W:World} {u:Value} {R:List RowF} (h:RowsM W u R) (hl:0 < R.length):∃ b o c,u = .slice (some ⟨b,o,none⟩) R.length c∧b < W.heap.size∧∀ i (hi:i < R.length),W.cell? ⟨b,o + i * 2,none⟩ = some R[i].v∧W.cell? ⟨b,o + i * 2 + 1,none⟩ = some (.string R[i].letter):=by
 obtain ⟨b,o,c,e,hb,hc⟩:=Sl.at_ h.1 hl
 refine ⟨b,o,c,e,hb,fun i hi=>?_⟩
 have hk:∀ k u,k < 2→(RowF.cells R[i])[k]? = some u→W.cell? ⟨b,o + i * 2 + k,none⟩ = some u:=fun k u hk hu=>by
  rw [Nat.add_assoc]
  exact hc _ u (by rw [flat_at RowF.cells 2 R (fun a _=>rfl) i k hi hk];exact hu)
 exact ⟨hk 0 _ (by omega) rfl,hk 1 _ (by omega) rfl⟩
def RowsPost (w:World) (S:List SetF) (l:List EraF) (o:Ending) (w':World):Prop :=
 (∃ u R,o = .returned u∧R.length = l.length∧(∀ i (h:i < R.length) (h2:i < l.length),RowOk S l[i] R[i])∧RowsM w' u R)∧Below w.heap.size w w'
theorem rows_any (zn:ByteArray) (ev sv:Value) (B:Nat) (l:List EraF) (S:List SetF) (w:World) (hz:ZW w B ev sv l S) (hS:∀ s ∈ S,rightB s.l = true) (hl:l.length ≤ 1000000) :
  Calls Tryz.prog 62 #[worldA zn ev sv] w (RowsPost w S l):=by
 obtain ⟨A,cA,rfl,hlc,hcm⟩:=hz.eras.form
 obtain ⟨A2,cS,rfl,-,-⟩:=hz.sets.form
 unfold maxLen at hcm
 have hb0:Below w.heap.size w (w.alloc (.cells #[.string zn,.slice A l.length cA,.slice A2 S.length cS] 27)):=(Below.refl w.heap.size w).alloc (Nat.le_refl _) _
 have HX:=Lib.hid (Blk.new w 27 #[.string zn,.slice A l.length cA,.slice A2 S.length cS])
 have HB:=Lib.hid hb0
 have HZ0:=Lib.hid hz
 have HS:=Lib.hid hS
 obtain ⟨i0,hi0,hz0,hz1,hz2⟩:=info_parts infoRow
 clear hz hb0 hS
 unfold worldA
 go_enter Tryz.func62,Tryz.ntmps62
 go_wp2_with fail
 obtain ⟨W0,hW0⟩:∃ W,w.alloc (.cells #[.string zn,.slice A l.length cA,.slice A2 S.length cS] 27) = W:=⟨_,rfl⟩
 rw [hW0] at HX HB
 try simp only [hW0]
 clear hW0
 go_loopw [3,4] (fun u iv wr=>∃ R:List RowF,R.length ≤ l.length∧iv = .int .i64 R.length∧wr.ownsRow w.heap.size 121 2 u R.length (R.flatMap RowF.cells)∧(∀ r ∈ R,FrisN wr r.v r.D)∧(∀ i (h:i < R.length) (h2:i < l.length),RowOk S l[i] R[i])∧Blk wr w.heap.size 27 #[.string zn,.slice A l.length cA,.slice A2 S.length cS]∧Below w.heap.size w wr) (fun _ iv _=>l.length - (intOf iv).toNat)
 case atStart=>exact ⟨[],Nat.zero_le _,rfl,World.ownsRow_nil _ _ _ _,fun _ h=>absurd h List.not_mem_nil,fun i h=>absurd h (Nat.not_lt_zero i),HX.out,HB.out⟩
 case round =>
  obtain ⟨R,hR,rfl,hown,hfs,hro,hxb,hbw⟩:=hrel
  have HOW:=Lib.hid hown
  have HFS:=Lib.hid hfs
  have HRO:=Lib.hid hro
  have HXW:=Lib.hid hxb
  have HBW:=Lib.hid hbw
  have HZW:=Lib.hid (HZ0.out.below hbw)
  obtain ⟨A5,c5,hu⟩:=(Sl.of_own hown).form
  subst hu
  have hws:=hbw.size
  have hxl:=HXW.out.lt
  have x0:=HXW.out.cell 0 (v:=.string zn) rfl
  have x1:=HXW.out.cell 1 (v:=.slice A l.length cA) rfl
  have x2:=HXW.out.cell 2 (v:=.slice A2 S.length cS) rfl
  clear hown hfs hro hxb hbw
  by_cases hlt:R.length < l.length
  ·have hd:decide ((R.length:Int) < (l.length:Int)) = true:=decide_eq_true (by omega)
   obtain ⟨bb,o,c',e,hbb,hc⟩:=HZW.out.eras.cells (by omega)
   cases e
   have hx:=hc _ hlt
   have hbbl:bb < wr.heap.size:=by have:=HZW.out.le;omega
   obtain ⟨x,hxk⟩:∃ x,l[R.length] = x:=⟨_,rfl⟩
   rw [hxk] at hx
   have HXK:=Lib.hid hxk
   obtain ⟨c0,c1,c2,c3,c4,c5,c6,c7,c8,c9,c10,c11⟩:=hx
   have HBI2:=Lib.hid ((Below.refl wr.heap.size wr).alloc (Nat.le_refl _) (.cells #[.slice none 0 0,.string ⟨#[]⟩] 121))
   have HR2:=Lib.hid (Blk.new wr 121 #[.slice none 0 0,.string ⟨#[]⟩])
   have HRL:=Lib.hid (show R.length ≤ 1000000 by omega)
   clear hc hxk c0 c2 c3 c4 c5 c6 c7 c8 c9 c10 c11
   by_cases hru:x.ru.size = 0
   ·have hem:(x.ru.toList == []) = true:=by rw [emp_size,decide_eq_true hru]
    have HROK:=Lib.hid (rowOk_nil HS.out hru)
    obtain ⟨rr,hrr⟩:∃ r:RowF,(⟨.slice none 0 0,[],⟨#[]⟩⟩:RowF) = r:=⟨_,rfl⟩
    have HRR:=Lib.hid (show FrisN (wr.alloc (.cells #[.slice none 0 0,.string ⟨#[]⟩] 121)) rr.v rr.D by rw [← hrr];exact ⟨Sl.nil _ _ _,TyF.nil _ _ _⟩)
    have HRV:=Lib.hid (show rr.v = .slice none 0 0∧rr.letter = ⟨#[]⟩ by rw [← hrr];exact ⟨rfl,rfl⟩)
    rw [hrr] at HROK
    have HBI5:=HBI2
    clear hru hrr
    have HOW5:=Lib.hid (ownsRow_below HOW.out HBI5.out)
    have HB5:=Lib.hid (HBW.out.trans (HBI5.out.mono HBW.out.size))
    have HX5:=Lib.hid (HXW.out.below HBI5.out HXW.out.lt)
    have hsz5:=HB5.out.size
    go_wp2_with (at_builtin;go_loud (refine wpList_append_own _ rfl _ _ 57 rfl w.heap.size 121 i0 (.agg #[.slice none 0 0,.string ⟨#[]⟩]) 2 40 Tryz.underlying57 hi0 hz0 hz1 hz2 rfl (by decide) _ R.length _ rfl (HOW5.out.alloc _) ⟨wr.heap.size + 1,0,none⟩ 1 1 [.slice none 0 0,.string ⟨#[]⟩] rfl rfl (fun j y hy=>by rw [Addr.add_lit,Nat.zero_add];first | exact (cell_new2 _ _ _ _ _ j).trans (by simpa using hy) | exact (cell_new _ _ _ _ j).trans (by simpa using hy)) (by simp [Value.oneCell']) (by unfold maxLen;omega) (by omega) (by simp;omega) ?_);intro v' w1 hown' hgrow _)
    go_roundw
    case rel =>
     refine ⟨R ++ [rr],?_,by rw [List.length_append];go_num,?_,?_,?_,?_,below_push HB5.out HOW5.out hgrow⟩
     ·rw [List.length_append];exact hlt
     ·rw [List.length_append,List.flatMap_append]
      simpa [RowF.cells,HRV.out] using hown'
     ·intro r hr
      have ho:=HOW5.out.alloc (.cells #[.slice none 0 0,.string ⟨#[]⟩] 121)
      have hab:Below (wr.alloc (.cells #[.slice none 0 0,.string ⟨#[]⟩] 121)).heap.size (wr.alloc (.cells #[.slice none 0 0,.string ⟨#[]⟩] 121)) ((wr.alloc (.cells #[.slice none 0 0,.string ⟨#[]⟩] 121)).alloc (.cells #[.slice none 0 0,.string ⟨#[]⟩] 121)):=(Below.refl _ _).alloc (Nat.le_refl _) _
      rcases List.mem_append.1 hr with hr | hr
      ·exact frisN_grown (((HFS.out r hr).below HBI5.out).below hab) ho hgrow
      ·obtain rfl:r = rr:=by simpa using hr
       exact frisN_grown (HRR.out.below hab) ho hgrow
     ·intro i h h2
      rcases Nat.lt_or_ge i R.length with g | g
      ·rw [List.getElem_append_left g];exact HRO.out i g h2
      ·have:i = R.length:=by rw [List.length_append] at h;simp at h;omega
       subst this
       rw [List.getElem_append_right (Nat.le_refl _)]
       simp only [Nat.sub_self,List.getElem_cons_zero]
       rw [HXK.out];exact HROK.out
     ·exact (HX5.out.alloc (.cells #[.slice none 0 0,.string ⟨#[]⟩] 121)).grown hgrow (own_ne (HX5.out.alloc (.cells #[.slice none 0 0,.string ⟨#[]⟩] 121)) (HOW5.out.alloc (.cells #[.slice none 0 0,.string ⟨#[]⟩] 121)) (by decide))
    case measure=>first | (simp [intOf];done) | (simp [intOf];omega)
   ·have hem:(x.ru.toList == []) = false:=by rw [emp_size,decide_eq_false hru]
    have HRE:=Lib.hid (show ruleE S x = ofRul S x.ru by unfold ruleE;rw [if_neg hru])
    clear hru
    go_wp2_with fail
    obtain ⟨W5,hW5⟩:∃ W,wr.alloc (.cells #[.slice none 0 0,.string ⟨#[]⟩] 121) = W:=⟨_,rfl⟩
    rw [hW5] at HBI2 HR2
    try simp only [hW5]
    clear hW5
    have HZ5:=Lib.hid (HZW.out.below (below_drewN HBI2.out 1))
    have HX5_:=Lib.hid (HXW.out.below HBI2.out HXW.out.lt)
    have hx5l:=HX5_.out.lt
    have x0:=HX5_.out.cell 0 (v:=.string zn) rfl
    have x1:=HX5_.out.cell 1 (v:=.slice (some ⟨bb,o,none⟩) l.length cA) rfl
    have x2:=HX5_.out.cell 2 (v:=.slice A2 S.length cS) rfl
    have c1:=(HBI2.out.cell (p:=⟨bb,o + R.length * 12 + 1,none⟩) (by show bb < _;have:=HZW.out.le;omega)).trans c1
    have HOF:=Lib.hid (wof_any _ zn (.slice (some ⟨bb,o,none⟩) l.length cA) (.slice A2 S.length cS) B S HZ5.out.sets HZ5.out.le x.ru)
    obtain ⟨A3,c3',e3⟩:=ofVal_form HZ5.out.sets x.ru
    have HRU:=Lib.hid (HZ5.out.sets.of_ruls x.ru)
    rw [e3] at HOF HRU
    unfold worldA at HOF
    refine wp_text (by kernel_rfl) (by kernel_rfl) ?_
    intro K hK
    go_wp2_with fail
    refine HOF.out.mono ?_
    rintro e w6 ⟨rfl,hb⟩
    have HB6:=Lib.hid ((below_drewN (Below.refl W5.heap.size W5) 1).trans hb)
    have HR6:=Lib.hid (HRU.out.below (hb.mono HZ5.out.le))
    have hs6:=HB6.out.size
    clear hb x0 x1 x2 c1 HOF HZ5 HRU
    go_wp2_with fail
    refine (rof_any w6 B _ (ofRul S x.ru) HR6.out (by have:=HZW.out.le;have:=HBI2.out.size;omega) (right_small (set_right HS.out x.ru))).mono ?_
    rintro e w7 ⟨u,D,rfl,hst,hfr,hb⟩
    have HB7:=Lib.hid (HB6.out.trans (hb.mono hs6))
    have hr7:=(HR2.out.below HB6.out HR2.out.lt).below hb (Nat.lt_of_lt_of_le HR2.out.lt hs6)
    have HR7:=Lib.hid hr7
    have HFR:=Lib.hid hfr
    have hr7l:=hr7.lt
    have r0:=hr7.cell 0 (v:=.slice none 0 0) rfl
    have r1:=hr7.cell 1 (v:=.string ⟨#[]⟩) rfl
    have f0:=hr7.frozen 0
    have f1:=hr7.frozen 1
    have HROK:=Lib.hid (show RowOk S x ⟨u,D,letV (ofRul S x.ru)⟩ from rowOk_of HS.out (by rw [HRE.out];exact hst) (by rw [HRE.out]))
    obtain ⟨A6,c6',rfl,-,-⟩:=hfr.1.form
    clear hb hr7 hst hfr
    go_wp2_with fail
    refine ⟨by simp [goodB,fits,plainPair,isSeqV,quiet,Act.eval],?_⟩
    obtain ⟨rr,hrr⟩:∃ r:RowF,(⟨.slice A6 D.length c6',D,letV (ofRul S x.ru)⟩:RowF) = r:=⟨_,rfl⟩
    have hf8:=(Fr.setCell (T:=fun k=>k = wr.heap.size) w7 0 (.slice A6 D.length c6') rfl).then (Fr.setCell (b:=wr.heap.size) _ 1 (.string (letV (ofRul S x.ru))) rfl)
    have hn8:FrisN ((w7.setCell ⟨wr.heap.size,0,none⟩ (.slice A6 D.length c6')).setCell ⟨wr.heap.size,1,none⟩ (.string (letV (ofRul S x.ru)))) (.slice A6 D.length c6') D :=
     ⟨fris_other HFR.out.1 HR7.out rfl rfl hf8 (by simp),HFR.out.2.kept fun b cs fr h1=>hf8.block b (Array.getElem?_eq_some_iff.1 h1).1 (fun e=>by have h2:=HR7.out;subst e;unfold Blk at h2;rw [h1] at h2;injection h2 with h2;injection h2 with _ h2;revert h2;decide)⟩
    have hb8:Below wr.heap.size wr ((w7.setCell ⟨wr.heap.size,0,none⟩ (.slice A6 D.length c6')).setCell ⟨wr.heap.size,1,none⟩ (.string (letV (ofRul S x.ru)))):=((HBI2.out.trans (HB7.out.mono HBI2.out.size)).setCell (Nat.le_refl _) _).setCell (Nat.le_refl _) _
    have hr8:=(HR7.out.set 0 (.slice A6 D.length c6')).set 1 (.string (letV (ofRul S x.ru)))
    obtain ⟨w8,hw8⟩:∃ W,(w7.setCell ⟨wr.heap.size,0,none⟩ (.slice A6 D.length c6')).setCell ⟨wr.heap.size,1,none⟩ (.string (letV (ofRul S x.ru))) = W:=⟨_,rfl⟩
    rw [hw8] at hn8 hb8 hr8 ⊢
    have HRR:=Lib.hid (show FrisN w8 rr.v rr.D by rw [← hrr];exact hn8)
    have HRV:=Lib.hid (show rr.v = .slice A6 D.length c6'∧rr.letter = letV (ofRul S x.ru) by rw [← hrr];exact ⟨rfl,rfl⟩)
    rw [hrr] at HROK
    have HBI5:=Lib.hid hb8
    have r0:=hr8.cell 0 (v:=.slice A6 D.length c6') rfl
    have r1:=hr8.cell 1 (v:=.string (letV (ofRul S x.ru))) rfl
    have hr8l:=hr8.lt
    clear hrr hf8 hn8 hb8 hr8 hw8 f0 f1 hr7l
    have HOW5:=Lib.hid (ownsRow_below HOW.out HBI5.out)
    have HB5:=Lib.hid (HBW.out.trans (HBI5.out.mono HBW.out.size))
    have HX5:=Lib.hid (HXW.out.below HBI5.out HXW.out.lt)
    have hsz5:=HB5.out.size
    go_wp2_with (at_builtin;go_loud (refine wpList_append_own _ rfl _ _ 57 rfl w.heap.size 121 i0 (.agg #[.slice none 0 0,.string ⟨#[]⟩]) 2 40 Tryz.underlying57 hi0 hz0 hz1 hz2 rfl (by decide) _ R.length _ rfl (HOW5.out.alloc _) ⟨w8.heap.size,0,none⟩ 1 1 [.slice A6 D.length c6',.string (letV (ofRul S x.ru))] rfl rfl (fun j y hy=>by rw [Addr.add_lit,Nat.zero_add];first | exact (cell_new2 _ _ _ _ _ j).trans (by simpa using hy) | exact (cell_new _ _ _ _ j).trans (by simpa using hy)) (by simp [Value.oneCell']) (by unfold maxLen;omega) (by omega) (by simp;omega) ?_);intro v' w1 hown' hgrow _)
    go_roundw
    case rel =>
     refine ⟨R ++ [rr],?_,by rw [List.length_append];go_num,?_,?_,?_,?_,below_push HB5.out HOW5.out hgrow⟩
     ·rw [List.length_append];exact hlt
     ·rw [List.length_append,List.flatMap_append]
      simpa [RowF.cells,HRV.out] using hown'
     ·intro r hr
      have ho:=HOW5.out.alloc (.cells #[.slice A6 D.length c6',.string (letV (ofRul S x.ru))] 121)
      have hab:Below (w8).heap.size (w8) ((w8).alloc (.cells #[.slice A6 D.length c6',.string (letV (ofRul S x.ru))] 121)):=(Below.refl _ _).alloc (Nat.le_refl _) _
      rcases List.mem_append.1 hr with hr | hr
      ·exact frisN_grown (((HFS.out r hr).below HBI5.out).below hab) ho hgrow
      ·obtain rfl:r = rr:=by simpa using hr
       exact frisN_grown (HRR.out.below hab) ho hgrow
     ·intro i h h2
      rcases Nat.lt_or_ge i R.length with g | g
      ·rw [List.getElem_append_left g];exact HRO.out i g h2
      ·have:i = R.length:=by rw [List.length_append] at h;simp at h;omega
       subst this
       rw [List.getElem_append_right (Nat.le_refl _)]
       simp only [Nat.sub_self,List.getElem_cons_zero]
       rw [HXK.out];exact HROK.out
     ·exact (HX5.out.alloc (.cells #[.slice A6 D.length c6',.string (letV (ofRul S x.ru))] 121)).grown hgrow (own_ne (HX5.out.alloc (.cells #[.slice A6 D.length c6',.string (letV (ofRul S x.ru))] 121)) (HOW5.out.alloc (.cells #[.slice A6 D.length c6',.string (letV (ofRul S x.ru))] 121)) (by decide))
    case measure=>first | (simp [intOf];done) | (simp [intOf];omega)
  ·obtain he:R.length = l.length:=by omega
   have hd:decide ((R.length:Int) < (l.length:Int)) = false:=decide_eq_false (by omega)
   have HLE:=Lib.hid he
   clear he
   go_wp2_with fail
   go_ret
   exact ⟨⟨_,R,rfl,HLE.out,HRO.out,Sl.of_own HOW.out,HFS.out⟩,HBW.out⟩
end
section -- ANear
open Go Go.RowKit Go.Shelf
def nearB (i:Int):Bool:=decide (-2366841600 < i∧i < 3944678400)
theorem nearB_iff {i:Int}:nearB i = true ↔ -2366841600 < i∧i < 3944678400:=by unfold nearB;exact decide_eq_true_iff
theorem near_any (i:Int) (w:World):Calls Tryz.prog 32 #[.int .i64 i] w fun o w'=>o = .returned (.bool (nearB i))∧w' = w:=by
 by_cases h1:-2366841600 < i
 ·have d1:decide (-2366841600 < i) = true:=decide_eq_true h1
  by_cases h2:i < 3944678400
  ·have HV:=Lib.hid (show nearB i = true by unfold nearB;rw [decide_eq_true_eq];omega)
   have d2:decide (i < 3944678400) = true:=decide_eq_true h2
   go_enter Tryz.func32,Tryz.ntmps32
   go_wp2_with fail
   go_ret
   exact ⟨by rw [HV.out];rfl,rfl⟩
  ·have HV:=Lib.hid (show nearB i = false by unfold nearB;rw [decide_eq_false_iff_not];omega)
   have d2:decide (i < 3944678400) = false:=decide_eq_false h2
   go_enter Tryz.func32,Tryz.ntmps32
   go_wp2_with fail
   go_ret
   exact ⟨by rw [HV.out];rfl,rfl⟩
 ·have HV:=Lib.hid (show nearB i = false by unfold nearB;rw [decide_eq_false_iff_not];omega)
  have d1:decide (-2366841600 < i) = false:=decide_eq_false h1
  go_enter Tryz.func32,Tryz.ntmps32
  go_wp2_with fail
  go_ret
  exact ⟨by rw [HV.out];rfl,rfl⟩
end
section -- GShowM
open Go Go.RowKit Go.Shelf
theorem Nums.more {w:World} {B B':Nat} {v:Value} {l:List Int} (h:Nums w B v l) (hB:B ≤ B'):Nums w B' v l:=Sl.more h hB
theorem showV_err {f:ByteArray} {off:Int} {dst:Bool} {letter:ByteArray} (h:(kindR f.data.toList).2 = 0):(showV f off dst letter).2 = 0∨showV f off dst letter = (⟨#[]⟩,10):=by
 unfold showV
 rw [if_pos h]
 split
 ·exact .inl rfl
 ·split
  ·split
   ·exact .inl rfl
   ·exact .inr rfl
  ·split
   ·exact .inl rfl
   ·exact .inl rfl
theorem eraI_loop {E:List Int} {i:Int} {k:Nat} (hk:k ≤ E.length) (hno:∀ j (h:j < E.length),j < k→E[j] ≤ i) (hend:∀ h:k < E.length,¬ E[k] ≤ i):eraI E i = k:=by
 by_cases hlt:k < E.length
 ·exact eraI_at hlt (fun j hj hjk=>by have:=hno j hj hjk;omega) (by have:=hend hlt;omega)
 ·have:k = E.length:=by omega
  subst this
  exact eraI_none (fun j hj=>by have:=hno j hj hj;omega)
end
section -- HChangeM
open Go Go.RowKit Go.Shelf
def errOf:Value→Int
 | .tuple ⟨[_,.int _ e]⟩=>e
 | _=>0
def locZ (S:List SetF) (l:List EraF) (i:Int):Loc:=if errZ S l ≠ 0 then .zero else if i < -2199023255552∨2199023255552 < i then .zero else locW (atX S l i) (ruleE S (atX S l i)) i
def errI (S:List SetF) (l:List EraF) (i:Int):Int:=errOf (atZ S l i)
theorem atZ_loc (S:List SetF) (l:List EraF) (i:Int):atZ S l i = .tuple #[locA (locZ S l i),.int .i64 (errI S l i)]:=by
 unfold errI locZ atZ
 split
 ·rfl
 ·split
  ·rfl
  ·obtain ⟨err,he⟩:=zwithinV_loc (atX S l i) (ruleE S (atX S l i)) i
   rw [he]
   rfl
def dropF:Loc→List Chg→List Chg
 | _,[]=>[]
 | now,c :: t=>bif locE c.loc now then dropF now t else c :: dropF c.loc t
def changesL (S:List SetF) (l:List EraF) (fr to:Int):List Chg :=
 if errI S l (max fr (-2199023255552)) = 0 then dropF (locZ S l (max fr (-2199023255552))) (stepsL S l (max fr (-2199023255552)) to) else []
theorem dropF_same {now:Loc} {c:Chg} {t:List Chg} (h:locE c.loc now = true):dropF now (c :: t) = dropF now t:=by
 show (bif locE c.loc now then _ else _) = _
 rw [h,cond_true]
theorem dropF_turn {now:Loc} {c:Chg} {t:List Chg} (h:locE c.loc now = false):dropF now (c :: t) = c :: dropF c.loc t:=by
 show (bif locE c.loc now then _ else _) = _
 rw [h,cond_false]
theorem zfirst_any (zn:ByteArray) (ev sv:Value) (B:Nat) (l:List EraF) (S:List SetF) (i:Int) (w:World) (hz:ZW w B ev sv l S) (ho:ZOk l S) (hlt:∀ s ∈ S,letOk s.l) :
  Calls Tryz.prog 78 #[zoneA zn ev,setsV zn ev sv,.int .i64 i] w fun o w'=>o = .returned (.tuple #[chgA ⟨i,locZ S l i⟩,.int .i64 (errI S l i)])∧Below w.heap.size w w':=by
 obtain ⟨Ae,ce,rfl,-,-⟩:=hz.eras.form
 have hb0:Below w.heap.size w ((w.alloc (.cells #[.string zn,.slice Ae l.length ce] 24)).alloc (.cells #[.int .i64 0,.int .i64 0,.bool false,.string ⟨#[]⟩] 76)):=((Below.refl _ _).alloc (Nat.le_refl _) _).alloc (by simp) _
 have hr0:=Blk.new (w.alloc (.cells #[.string zn,.slice Ae l.length ce] 24)) 76 #[.int .i64 0,.int .i64 0,.bool false,.string ⟨#[]⟩]
 rw [World.size_alloc] at hr0
 have HC:=Lib.hid (zat_any zn (.slice Ae l.length ce) sv B l S i _ (hz.below hb0) ho hlt)
 rw [atZ_loc] at HC
 obtain ⟨er,her⟩:∃ e,errI S l i = e:=⟨_,rfl⟩
 obtain ⟨⟨yo,yd,ys⟩,hy⟩:∃ y,locZ S l i = y:=⟨_,rfl⟩
 rw [hy,her] at HC ⊢
 unfold locA zoneA at HC
 unfold chgA zoneA
 obtain ⟨sz,hsz⟩:∃ v,setsV zn (.slice Ae l.length ce) sv = v:=⟨_,rfl⟩
 rw [hsz] at HC ⊢
 have HR0:=Lib.hid hr0
 have HB0:=Lib.hid hb0
 clear hz ho hlt hy her hsz hb0 hr0
 go_enter Tryz.func78,Tryz.ntmps78
 go_wp2_with fail
 refine HC.out.mono ?_
 rintro o w1 ⟨rfl,hb⟩
 have hr1:=HR0.out.below hb HR0.out.lt
 have hb1:=HB0.out.trans (hb.mono HB0.out.size)
 have hl1:=hr1.lt
 have r0:=hr1.cell 0 (v:=.int .i64 0) rfl
 have r1:=hr1.cell 1 (v:=.int .i64 0) rfl
 have r2:=hr1.cell 2 (v:=.bool false) rfl
 have r3:=hr1.cell 3 (v:=.string ⟨#[]⟩) rfl
 have f0:=hr1.frozen 0
 have f1:=hr1.frozen 1
 have f2:=hr1.frozen 2
 have f3:=hr1.frozen 3
 have HR:=Lib.hid hr1
 have HB:=Lib.hid hb1
 clear hb hr1 hb1 HC
 go_wp2_with fail
 have HW:=((((HR.out.set 0 (.int .i64 i)).set 1 (.int .i64 yo)).set 2 (.bool yd)).set 3 (.string ys)).alloc (.cells #[.int .i64 yo,.bool yd,.string ys] 48)
 refine bodyPost_ret (v:=.tuple #[.agg #[.int .i64 i,.int .i64 yo,.bool yd,.string ys],.int .i64 er]) ?_ rfl ⟨rfl,(below_set4 HB.out (Nat.le_add_right _ _) _ _ _ _).alloc (by have:=HB.out.size;simpa using this) _⟩
 have c0:=HW.cell 0 (v:=.int .i64 i) rfl
 have c1:=HW.cell 1 (v:=.int .i64 yo) rfl
 have c2:=HW.cell 2 (v:=.bool yd) rfl
 have c3:=HW.cell 3 (v:=.string ys) rfl
 simp [results,Tryz.f78,go_sem,c0,c1,c2,c3]
end
section -- HErr
open Go Go.RowKit Go.Shelf
theorem ruleE_right {S:List SetF} (h:∀ s ∈ S,rightB s.l = true) {x:EraF} (hx:x.ru.size ≠ 0):rightB (ruleE S x) = true:=by
 unfold ruleE
 rw [if_neg hx]
 exact set_right h _
theorem saves_small {S:List SetF} (h:∀ s ∈ S,rightB s.l = true) {x:EraF} (hs:-90000 < x.n.save∧x.n.save < 90000) (i:Int):-90000 < (savesV x.n x.ru (ruleE S x) i).1∧(savesV x.n x.ru (ruleE S x) i).1 < 90000:=by
 unfold savesV
 split
 ·exact hs
 ·rename_i hx
  split
  ·rename_i f hf
   obtain ⟨A,hA,-,-⟩:=right_yes (ruleE_right h hx)
   have:=hA.save_all (latestF_mem hf)
   show -90000 < f.save∧f.save < 90000
   omega
  ·show (-90000:Int) < 0∧(0:Int) < 90000
   omega
theorem errI_few {S:List SetF} {l:List EraF} (h:errZ S l = 0) (hs:∀ s ∈ S,rightB s.l = true) {i:Int} (h1:-2199023255552 ≤ i) (h2:i ≤ 2199023255552):errI S l i = 0:=by
 obtain ⟨h0,-,hat,-⟩:=errZ_zero h
 have hk:=eraI_le (endL S l) i
 rw [length_endL] at hk
 have hkl:eraI (endL S l) i < l.length:=by omega
 have hax:atX S l i = l[eraI (endL S l) i]:=by unfold atX;rw [List.getD_eq_getElem?_getD,List.getElem?_eq_getElem hkl];rfl
 have her:=hat _ hkl
 rw [errAt_eq hkl] at her
 obtain ⟨hkn,hof,hsv,-⟩:=errE_zero her
 have hsm:=saves_small hs hsv i
 unfold errI atZ
 rw [if_neg (fun e=>e h),if_neg (by omega),hax]
 unfold zwithinV
 rcases showV_err (off:=l[eraI (endL S l) i].n.off + (savesV l[eraI (endL S l) i].n l[eraI (endL S l) i].ru (ruleE S l[eraI (endL S l) i]) i).1) (dst:=dstB (savesV l[eraI (endL S l) i].n l[eraI (endL S l) i].ru (ruleE S l[eraI (endL S l) i]) i).1) (letter:=(savesV l[eraI (endL S l) i].n l[eraI (endL S l) i].ru (ruleE S l[eraI (endL S l) i]) i).2) hkn with h3 | h3
 ·rw [h3]
  rfl
 ·exfalso
  unfold showV at h3
  rw [if_pos hkn] at h3
  split at h3
  ·have h4:(0:Int) = 10:=congrArg Prod.snd h3
   omega
  ·split at h3
   ·rw [if_pos (by omega)] at h3
    have h4:(0:Int) = 10:=congrArg Prod.snd h3
    omega
   ·split at h3
    ·split at h3
     ·have h4:(0:Int) = 10:=congrArg Prod.snd h3
      omega
     ·have h4:(0:Int) = 10:=congrArg Prod.snd h3
      omega
    ·have h4:(0:Int) = 10:=congrArg Prod.snd h3
     omega
theorem endL_few {S:List SetF} {l:List EraF} (h:errZ S l = 0) (hs:∀ s ∈ S,rightB s.l = true):∀ e ∈ endL S l,-9000000000000000000 ≤ e∧e ≤ 9000000000000000000:=by
 intro e he
 obtain ⟨i,hi,rfl⟩:=List.getElem_of_mem he
 have hil:=hi
 rw [length_endL] at hil
 obtain ⟨h0,-,hat,-⟩:=errZ_zero h
 have hE:=endL_at (S:=S) (l:=l) (i:=i) (by omega)
 rw [List.getElem?_eq_getElem hi] at hE
 have hE:=Option.some.inj hE
 have her:=hat i (by omega)
 rw [errAt_eq (by omega),decide_eq_false (by omega)] at her
 obtain ⟨-,hof,hsv,hen,-,hno⟩:=errE_zero her
 have hn:=nomV_in (hno hen)
 rw [hE]
 unfold endN
 split
 ·omega
 ·split
  ·omega
  ·split
   ·omega
   ·rename_i hx
    have:=endSave_in (right_sv (ruleE_right hs hx)) l[i].n.off (nomV l[i].n)
    omega
theorem dropF_len:∀ {L:List Chg} {now:Loc},(dropF now L).length ≤ L.length
 | [],_=>Nat.le_refl _
 | c :: t,now=>by
   cases h:locE c.loc now with
   | true =>
     rw [dropF_same h]
     exact Nat.le_trans dropF_len (Nat.le_succ _)
   | false =>
     rw [dropF_turn h]
     exact Nat.succ_le_succ dropF_len
theorem turnsF_len {x:EraF} {R:List Rul}:∀ {L:List (Int × Fir)} {now:Chg},(turnsF x R now L).length ≤ L.length
 | [],_=>Nat.le_refl _
 | y :: t,now=>by
   cases h:locE (locW x R y.1) now.loc with
   | true =>
     by_cases h2:max now.at_ 64060588800 + 12680582400 < y.1
     ·rw [turnsF_end h h2]
      exact Nat.zero_le _
     ·rw [turnsF_same h h2]
      exact Nat.le_trans turnsF_len (Nat.le_succ _)
   | false =>
     rw [turnsF_turn h]
     exact Nat.succ_le_succ turnsF_len
theorem row_few {R:List Rul} {A:List Fir} (h:RightR R A):A.length ≤ 10000000000:=by
 by_cases h0:A.length = 0
 ·omega
 ·have hl:A.length - 1 < A.length:=by omega
  have h3:=h.count (A.length - 1) hl
  obtain ⟨r,hr,y,y1,y2,hy,e⟩:=(h.mem _).1 (List.getElem_mem hl)
  rw [e] at h3
  have g:=(firOf_in hy).2
  have e1:=yearV_mono (show y + 1 ≤ 2111 by omega)
  have e2:yearV 2111 = 51499:=by decide
  omega
theorem turnsL_len {x:EraF} {R:List Rul} {a b:Int} (hR:R = []∨rightB R = true) (ho:-90000 < x.n.off∧x.n.off < 90000) (ha:-2199023255552 ≤ a) (hb:b ≤ 4000000000):(turnsL x R a b).length ≤ 10000000000:=by
 rcases hR with rfl | hR
 ·rw [turnsL_nil]
  exact Nat.zero_le _
 ·unfold turnsL
  refine Nat.le_trans turnsF_len ?_
  by_cases hab:a ≤ b
  ·obtain ⟨A,hA,-,-⟩:=right_yes hR
   rw [fired_row hA ho (by omega) hab (by unfold capN;omega)]
   unfold segA
   refine Nat.le_trans (List.length_filterMap_le _ _) ?_
   rw [List.length_range']
   exact row_few hA
  ·have hn:firedF R x.n.off a b = []:=List.eq_nil_iff_forall_not_mem.2 fun y hy=>by
    have:=firedF_in hy
    omega
   rw [hn]
   exact Nat.zero_le _
theorem changesL_len {S:List SetF} {l:List EraF} {to:Int} (h:errZ S l = 0) (hs:∀ s ∈ S,rightB s.l = true) (hl:l.length ≤ 4) (h2:to ≤ 4000000000):(changesL S l (-2199023255552) to).length ≤ 1000000000000:=by
 have key:∀ k,k ≤ l.length→((List.range k).flatMap (eraT S l (-2199023255552) to)).length ≤ k * 10000000001:=by
  intro k
  induction k with
  | zero=>intro _;simp
  | succ k ih =>
    intro hk
    rw [stepsF_succ,List.length_append]
    have h1:=ih (by omega)
    have h3:(eraT S l (-2199023255552) to k).length ≤ 10000000001:=by
     have hgx:l.getD k default = l[k]:=by rw [List.getD_eq_getElem?_getD,List.getElem?_eq_getElem (show k < l.length by omega)];rfl
     have hof:=(errZ_off h (show k < l.length by omega)).1
     have hR:ruleE S l[k] = []∨rightB (ruleE S l[k]) = true:=by
      by_cases hx:l[k].ru.size = 0
      ·left
       unfold ruleE
       rw [if_pos hx]
      ·exact .inr (ruleE_right hs hx)
     unfold eraT
     rw [hgx]
     split
     ·exact Nat.zero_le _
     ·rw [List.length_append]
      have h5:=turnsL_len (x:=l[k]) hR hof (a:=max (-2199023255552) (fromV (endL S l) k)) (b:=min to (toV (endL S l) k - 1)) (by omega) (by omega)
      split
      ·simp only [List.length_singleton]
       omega
      ·simp only [List.length_nil]
       omega
    omega
 have h4:=key l.length (Nat.le_refl _)
 unfold changesL
 split
 ·refine Nat.le_trans dropF_len ?_
  rw [show max (-2199023255552:Int) (-2199023255552) = -2199023255552 by omega]
  unfold stepsL
  omega
 ·exact Nat.zero_le _
end
section -- HSpecM
open Go Go.RowKit Go.Shelf
def RiseC:List Chg→Prop:=List.Pairwise fun c d=>c.at_ < d.at_
structure Wk (g:Int→Loc) (a b:Int) (L:List Chg):Prop where
 rise:RiseC L
 mem:∀ c ∈ L,(a < c.at_∧c.at_ ≤ b)∧c.loc = g c.at_
 all:∀ i,a < i→i ≤ b→g i ≠ g (i - 1)→∃ c ∈ L,c.at_ = i
structure Rep (g:Int→Loc) (a b:Int) (L:List Chg):Prop where
 wk:Wk g a b L
 turn:∀ c ∈ L,g c.at_ ≠ g (c.at_ - 1)
theorem wk_nil {g:Int→Loc} {a b:Int} (h:b ≤ a):Wk g a b [] where
 rise:=List.Pairwise.nil
 mem:=fun c hc=>by cases hc
 all:=fun i h1 h2 _=>by omega
theorem Wk.append {g:Int→Loc} {a b c:Int} {L M:List Chg} (h:Wk g a b L) (h2:Wk g (max a b) c M) (hbc:b ≤ c):Wk g a c (L ++ M) where
 rise:=List.pairwise_append.2 ⟨h.rise,h2.rise,fun x hx y hy=>by
  have:=(h.mem x hx).1
  have:=(h2.mem y hy).1
  omega⟩
 mem:=fun x hx=>by
  rcases List.mem_append.1 hx with hx | hx
  ·have:=h.mem x hx
   exact ⟨⟨by omega,by omega⟩,this.2⟩
  ·have:=h2.mem x hx
   exact ⟨⟨by omega,by omega⟩,this.2⟩
 all:=fun i h3 h4 ht=>by
  by_cases hi:i ≤ b
  ·obtain ⟨x,hx,e⟩:=h.all i h3 hi ht
   exact ⟨x,List.mem_append_left _ hx,e⟩
  ·obtain ⟨x,hx,e⟩:=h2.all i (by omega) h4 ht
   exact ⟨x,List.mem_append_right _ hx,e⟩
theorem Wk.congr {g g':Int→Loc} {a b:Int} {L:List Chg} (h:Wk g a b L) (hg:∀ i,a ≤ i→i ≤ b→g i = g' i):Wk g' a b L where
 rise:=h.rise
 mem:=fun c hc=>by
  have:=h.mem c hc
  exact ⟨this.1,by rw [this.2,hg _ (by omega) (by omega)]⟩
 all:=fun i h1 h2 ht=>h.all i h1 h2 (by rw [hg i (by omega) h2,hg (i - 1) (by omega) (by omega)];exact ht)
theorem still_of {g:Int→Loc} {a b:Int} (h:∀ i,a < i→i ≤ b→g i = g (i - 1)):∀ (n:Nat),a + n ≤ b→g (a + n) = g a
 | 0,_=>by rw [show a + ((0:Nat):Int) = a by omega]
 | n + 1,hn=>by
   rw [h _ (by omega) hn,show a + ((n + 1:Nat):Int) - 1 = a + n by omega]
   exact still_of h n (by omega)
theorem Wk.head_still {g:Int→Loc} {a b:Int} {c:Chg} {t:List Chg} (h:Wk g a b (c :: t)):g (c.at_ - 1) = g a:=by
 have hc:=(h.mem c List.mem_cons_self).1
 have h2:=still_of (g:=g) (a:=a) (b:=c.at_ - 1) (fun i h1 h2=>Classical.byContradiction fun ht=>by
  obtain ⟨d,hd,e⟩:=h.all i h1 (by omega) ht
  rcases List.mem_cons.1 hd with rfl | hd
  ·omega
  ·have:=(List.pairwise_cons.1 h.rise).1 d hd
   omega) (c.at_ - 1 - a).toNat (by omega)
 rw [← h2]
 congr 1
 omega
theorem Wk.tail {g:Int→Loc} {a b:Int} {c:Chg} {t:List Chg} (h:Wk g a b (c :: t)):Wk g c.at_ b t where
 rise:=(List.pairwise_cons.1 h.rise).2
 mem:=fun d hd=>by
  have h1:=(List.pairwise_cons.1 h.rise).1 d hd
  have h2:=h.mem d (List.mem_cons_of_mem _ hd)
  exact ⟨⟨h1,h2.1.2⟩,h2.2⟩
 all:=fun i h1 h2 ht=>by
  have hc:=(h.mem c List.mem_cons_self).1
  obtain ⟨d,hd,e⟩:=h.all i (by omega) h2 ht
  rcases List.mem_cons.1 hd with rfl | hd
  ·omega
  ·exact ⟨d,hd,e⟩
theorem dropF_rep {g:Int→Loc} {b:Int}:∀ {L:List Chg} {a:Int},Wk g a b L→Rep g a b (dropF (g a) L)
 | [],a,h=>⟨h,fun c hc=>by cases hc⟩
 | c :: t,a,h=>by
   have hst:=h.head_still
   have hc:=h.mem c List.mem_cons_self
   have ih:=dropF_rep h.tail
   rw [← hc.2] at ih
   have hgap:∀ i,a < i→i ≤ b→g i ≠ g (i - 1)→i = c.at_∨c.at_ < i:=fun i h1 h2 ht=>by
    obtain ⟨d,hd,e⟩:=h.all i h1 h2 ht
    rcases List.mem_cons.1 hd with rfl | hd
    ·exact .inl e.symm
    ·have:=(List.pairwise_cons.1 h.rise).1 d hd
     omega
   cases he:locE c.loc (g a) with
   | true =>
     have e:=locE_iff.1 he
     rw [dropF_same he]
     rw [e] at ih
     refine ⟨⟨ih.wk.rise,fun d hd=>?_,fun i h1 h2 ht=>?_⟩,ih.turn⟩
     ·have:=ih.wk.mem d hd
      exact ⟨⟨by omega,this.1.2⟩,this.2⟩
     ·rcases hgap i h1 h2 ht with rfl | h3
      ·exact absurd (by rw [← hc.2,hst,e]) ht
      ·exact ih.wk.all i h3 h2 ht
   | false =>
     have e:c.loc ≠ g a:=fun e=>by rw [locE_iff.2 e] at he;cases he
     rw [dropF_turn he]
     refine ⟨⟨List.pairwise_cons.2 ⟨fun d hd=>(ih.wk.mem d hd).1.1,ih.wk.rise⟩,fun d hd=>?_,fun i h1 h2 ht=>?_⟩,fun d hd=>?_⟩
     ·rcases List.mem_cons.1 hd with rfl | hd
      ·exact hc
      ·have:=ih.wk.mem d hd
       exact ⟨⟨by omega,this.1.2⟩,this.2⟩
     ·rcases hgap i h1 h2 ht with rfl | h3
      ·exact ⟨c,List.mem_cons_self,rfl⟩
      ·obtain ⟨d,hd,e2⟩:=ih.wk.all i h3 h2 ht
       exact ⟨d,List.mem_cons_of_mem _ hd,e2⟩
     ·rcases List.mem_cons.1 hd with rfl | hd
      ·rw [hst,← hc.2]
       exact e
      ·exact ih.turn d hd
theorem Rep.uniq {g:Int→Loc} {b:Int}:∀ {L M:List Chg} {a:Int},Rep g a b L→Rep g a b M→L = M
 | [],[],_,_,_=>rfl
 | [],d :: u,_,h,h2=>by
   have hd:=h2.wk.mem d List.mem_cons_self
   obtain ⟨x,hx,-⟩:=h.wk.all d.at_ hd.1.1 hd.1.2 (h2.turn d List.mem_cons_self)
   cases hx
 | c :: t,[],_,h,h2=>by
   have hd:=h.wk.mem c List.mem_cons_self
   obtain ⟨x,hx,-⟩:=h2.wk.all c.at_ hd.1.1 hd.1.2 (h.turn c List.mem_cons_self)
   cases hx
 | c :: t,d :: u,a,h,h2=>by
   have hc:=h.wk.mem c List.mem_cons_self
   have hd:=h2.wk.mem d List.mem_cons_self
   have e:c.at_ = d.at_:=by
    obtain ⟨x,hx,ex⟩:=h.wk.all d.at_ hd.1.1 hd.1.2 (h2.turn d List.mem_cons_self)
    obtain ⟨y,hy,ey⟩:=h2.wk.all c.at_ hc.1.1 hc.1.2 (h.turn c List.mem_cons_self)
    have h3:c.at_ ≤ x.at_:=by
     rcases List.mem_cons.1 hx with rfl | hx
     ·exact Int.le_refl _
     ·exact Int.le_of_lt ((List.pairwise_cons.1 h.wk.rise).1 x hx)
    have h4:d.at_ ≤ y.at_:=by
     rcases List.mem_cons.1 hy with rfl | hy
     ·exact Int.le_refl _
     ·exact Int.le_of_lt ((List.pairwise_cons.1 h2.wk.rise).1 y hy)
    omega
   have e2:c = d:=by
    obtain ⟨ca,cl⟩:=c
    obtain ⟨da,dl⟩:=d
    simp only at e hc hd
    subst e
    rw [hc.2,hd.2]
   subst e2
   have h5:Rep g c.at_ b t:=⟨h.wk.tail,fun x hx=>h.turn x (List.mem_cons_of_mem _ hx)⟩
   have h6:Rep g c.at_ b u:=⟨h2.wk.tail,fun x hx=>h2.turn x (List.mem_cons_of_mem _ hx)⟩
   rw [h5.uniq h6]
theorem dropF_append:∀ (L:List Chg) (now:Loc) (M:List Chg),∃ now',dropF now (L ++ M) = dropF now L ++ dropF now' M
 | [],now,M=>⟨now,rfl⟩
 | c :: t,now,M=>by
   rw [List.cons_append]
   cases h:locE c.loc now with
   | true =>
     rw [dropF_same h,dropF_same h]
     exact dropF_append t now M
   | false =>
     rw [dropF_turn h,dropF_turn h]
     obtain ⟨n',e⟩:=dropF_append t c.loc M
     exact ⟨n',by rw [e];rfl⟩
theorem dropF_sub:∀ {L:List Chg} {now:Loc} {c:Chg},c ∈ dropF now L→c ∈ L
 | [],_,_,h=>h
 | d :: t,now,c,h=>by
   cases he:locE d.loc now with
   | true =>
     rw [dropF_same he] at h
     exact List.mem_cons_of_mem _ (dropF_sub h)
   | false =>
     rw [dropF_turn he] at h
     rcases List.mem_cons.1 h with rfl | h
     ·exact List.mem_cons_self
     ·exact List.mem_cons_of_mem _ (dropF_sub h)
end
section -- HSpecZ
open Go Go.RowKit Go.Shelf
theorem getD_atZ {E:List Int} {j:Nat} (hj:j < E.length):E.getD j 0 = E[j]:=by rw [List.getD_eq_getElem?_getD,List.getElem?_eq_getElem hj];rfl
theorem eraI_ltZ {E:List Int} {i:Int} (h:eraI E i < E.length):i < E[eraI E i]:=of_decide_eq_true (List.findIdx_getElem (w:=h))
theorem eraI_noZ {E:List Int} {i:Int} {j:Nat} (h:j < eraI E i) (hj:j < E.length):¬ i < E[j]:=by
 have:=List.not_of_lt_findIdx (p:=fun n=>decide (i < n)) (xs:=E) h
 simpa using this
section
variable {l:List Rul} {A:List Fir}
theorem RightR.saved (h:RightR l A) (f:Fir):-90000 < savedF l f∧savedF l f < 90000:=by
 unfold savedF
 cases hg:aheadF l f.nominal with
 | none=>exact (by decide:(-90000:Int) < 0∧(0:Int) < 90000)
 | some g=>exact h.save_all (ahead_mem hg).1
theorem firedN_low (h:RightR l A) {off fr to:Int} (ho:-90000 < off∧off < 90000):∀ (n:Nat) (o:Option Fir) (s:Int),(∀ f,o = some f→s ≤ f.nominal)→∀ y ∈ firedN l off fr to n o,s - 179998 ≤ y.1
 | 0,_,_,_,y,hy=>by cases hy
 | _ + 1,none,_,_,y,hy=>by cases hy
 | n + 1,some f,s,hs,y,hy=>by
   have h1:=hs f rfl
   have h2:=instF_in (f:=f) ho (h.saved f)
   have ih:=firedN_low h (fr:=fr) (to:=to) ho n (behindF l (f.nominal + 1)) s (fun g hg=>by have:=(behind_mem hg).2;omega) y
   unfold firedN at hy
   split at hy
   ·split at hy
    ·exact ih hy
    ·rcases List.mem_cons.1 hy with rfl | hy
     ·show s - 179998 ≤ instF f off (savedF l f)
      omega
     ·exact ih hy
   ·cases hy
theorem segA_in {off fr to:Int} {j n:Nat} {y:Int × Fir} (h:y ∈ segA A off fr to j n):∃ i,j ≤ i∧i < j + n∧∃ hi:i < A.length,y = (instA A off i,A[i])∧fr < instA A off i∧instA A off i ≤ to:=by
 unfold segA at h
 obtain ⟨i,hi,e⟩:=List.mem_filterMap.1 h
 rw [List.mem_range'_1] at hi
 split at e
 ·rename_i hc
  obtain ⟨f,hf,rfl⟩:=Option.map_eq_some_iff.1 e
  obtain ⟨hl,rfl⟩:=List.getElem?_eq_some_iff.1 hf
  exact ⟨i,hi.1,by omega,hl,rfl,hc⟩
 ·cases e
theorem segA_has {off fr to:Int} {j n i:Nat} (hi:i < A.length) (h1:j ≤ i) (h2:i < j + n) (h3:fr < instA A off i) (h4:instA A off i ≤ to):(instA A off i,A[i]) ∈ segA A off fr to j n:=by
 unfold segA
 refine List.mem_filterMap.2 ⟨i,List.mem_range'_1.2 ⟨h1,by omega⟩,?_⟩
 rw [if_pos ⟨h3,h4⟩,List.getElem?_eq_getElem hi]
 rfl
theorem segA_rise (h:RightR l A) {off fr to:Int} (ho:-90000 < off∧off < 90000):∀ (n j:Nat),(segA A off fr to j n).Pairwise fun x y=>x.1 < y.1
 | 0,_=>List.Pairwise.nil
 | n + 1,j=>by
   rw [segA_succ]
   refine List.pairwise_append.2 ⟨?_,segA_rise h ho n (j + 1),fun x hx y hy=>?_⟩
   ·split
    ·exact List.pairwise_singleton _ _
    ·exact List.Pairwise.nil
   ·split at hx
    ·rename_i z e
     have hxz:=List.mem_singleton.1 hx
     split at e
     ·obtain ⟨f,hf,rfl⟩:=Option.map_eq_some_iff.1 e
      obtain ⟨i,i1,-,hi,rfl,-⟩:=segA_in hy
      rw [hxz]
      exact h.inst_lt ho (show j < i by omega) hi
     ·cases e
    ·cases hx
theorem firedN_cut (h:RightR l A) {off fr b T:Int} (ho:-90000 < off∧off < 90000) (hb:b + 180000 < capN) (hbT:b ≤ T):∀ (n j:Nat) (o:Option Fir),CurA A j o→A.length - j < n→∃ F,firedN l off fr T n o = segA A off fr b j (A.length - j) ++ F∧∀ y ∈ F,b < y.1
 | 0,j,o,_,hn=>absurd hn (by omega)
 | n + 1,j,o,hcur,hn=>by
   rcases hcur with ⟨hj,hcap,rfl⟩ | ⟨hfar,hout⟩
   ·have hin:=h.inst_in ho hj
    have hs:=saved_row h hj (by omega) (h.low (List.getElem_mem _))
    have hnext:CurA A (j + 1) (behindF l (A[j].nominal + 1)):=behind_cur h (cut_behind h hj) (by have:=h.low (List.getElem_mem hj);omega) (by omega)
    obtain ⟨F,hF,hF2⟩:=firedN_cut (fr:=fr) h ho hb hbT n (j + 1) _ hnext (by omega)
    rw [show A.length - j = (A.length - (j + 1)) + 1 by omega,segA_succ,List.getElem?_eq_getElem hj]
    unfold firedN
    rw [hs,← instA_at hj,hF]
    have hno:¬ instA A off j ≤ b→segA A off fr b (j + 1) (A.length - (j + 1)) = []:=fun hlt=>segA_nil (fun i hi hl=>by
     have h1:=h.inst_lt ho (show j < i by omega) hl
     omega)
    by_cases hle:A[j].nominal ≤ T + 180000
    ·rw [if_pos hle]
     by_cases hout:instA A off j ≤ fr∨T < instA A off j
     ·rw [if_pos hout,if_neg (by omega)]
      exact ⟨F,rfl,hF2⟩
     ·rw [if_neg hout]
      by_cases hbb:instA A off j ≤ b
      ·rw [if_pos (by omega)]
       exact ⟨F,rfl,hF2⟩
      ·rw [if_neg (by omega),hno hbb]
       exact ⟨(instA A off j,A[j]) :: F,rfl,fun y hy=>by
        rcases List.mem_cons.1 hy with rfl | hy
        ·show b < instA A off j
         omega
        ·exact hF2 y hy⟩
    ·rw [if_neg hle,if_neg (by omega),hno (by omega)]
     exact ⟨[],rfl,fun y hy=>by cases hy⟩
   ·rw [segA_nil (fun i hi hl=>by
     have h1:=h.inst_in ho hl
     by_cases e:i = j
     ·subst e;have:=hfar hl;omega
     ·have h2:=h.rise (show j < i by omega) hl
      have h3:=hfar (by omega)
      omega)]
    exact ⟨_,rfl,fun y hy=>by
     have:=firedN_low h ho (n + 1) o capN hout y hy
     omega⟩
theorem fired_cut (h:RightR l A) {off fr b T:Int} (ho:-90000 < off∧off < 90000) (h1:-3217862419200 ≤ fr - 180000) (h2:fr ≤ b) (hb:b + 180000 < capN) (hbT:b ≤ T):∃ F,firedF l off fr T = segA A off fr b 0 A.length ++ F∧∀ y ∈ F,b < y.1:=by
 obtain ⟨k,hk⟩:=h.cut (fr - 180000)
 have hlen:A.length - k < (T + 180001 + farN).toNat:=by
  have hcap:=row_few h
  unfold farN
  omega
 obtain ⟨F,hF,hF2⟩:=firedN_cut (fr:=fr) h ho hb hbT _ k _ (behind_cur h hk h1 (by omega)) hlen
 refine ⟨F,?_,hF2⟩
 unfold firedF
 rw [hF]
 have hsplit:∀ (m j:Nat),(∀ i,i < m→i + j < A.length→¬ (fr < instA A off (i + j)∧instA A off (i + j) ≤ b))→∀ n,segA A off fr b j (m + n) = segA A off fr b (j + m) n:=by
  intro m
  induction m with
  | zero=>intro j _ n;rw [Nat.zero_add];rfl
  | succ m ih =>
    intro j hj n
    rw [show m + 1 + n = (m + n) + 1 by omega,segA_succ,ih (j + 1) (fun i hi hl=>by have:=hj (i + 1) (by omega) (by omega);rwa [show i + 1 + j = i + (j + 1) by omega] at this) n,show j + 1 + m = j + (m + 1) by omega]
    by_cases hl:j < A.length
    ·have:=hj 0 (by omega) (by omega)
     rw [Nat.zero_add] at this
     rw [if_neg this]
     rfl
    ·rw [List.getElem?_eq_none (by omega),Option.map_none,ite_self]
     rfl
 have:=hsplit k 0 (fun i hi hl=>by
  have hl2:i < A.length:=by omega
  have g:=(hk.2 i hl2).1 hi
  have e:=h.inst_in ho hl2
  rw [nomA_at hl2] at g
  rw [Nat.add_zero]
  omega) (A.length - k)
 rw [show k + (A.length - k) = A.length by have:=hk.1;omega,Nat.zero_add] at this
 rw [this]
end
theorem locW_still {x:EraF} {R:List Rul} {A:List Fir} (h:RightR R A) (ho:-90000 < x.n.off∧x.n.off < 90000) {i:Int} (h1:-3217862419200 < i) (h2:i + 180001 ≤ capN) (hno:∀ j,j < A.length→instA A x.n.off j ≠ i):locW x R i = locW x R (i - 1):=by
 obtain ⟨k,hc⟩:=h.icut ho (i + 1)
 have hc2:Cut A (instA A x.n.off) (i - 1 + 1) k:=⟨hc.1,fun j hj=>by
  have:=hc.2 j hj
  have:=hno j hj
  omega⟩
 have e:savesV x.n x.ru R i = savesV x.n x.ru R (i - 1):=by
  unfold savesV
  split
  ·rfl
  ·rw [latest_row h ho (by omega) h2 hc,latest_row h ho (by omega) (by omega) hc2]
 unfold locW
 rw [e]
theorem turnsF_cut {x:EraF} {R:List Rul}:∀ (F:List (Int × Fir)) (now:Chg) (G:List (Int × Fir)),(∀ y ∈ F,y.1 ≤ 60000000000)→∃ now',turnsF x R now (F ++ G) = dropF now.loc (F.map fun y=>⟨y.1,locW x R y.1⟩) ++ turnsF x R now' G
 | [],now,G,_=>⟨now,rfl⟩
 | y :: t,now,G,h=>by
   have hy:=h y List.mem_cons_self
   rw [List.cons_append,List.map_cons]
   cases he:locE (locW x R y.1) now.loc with
   | true =>
     rw [turnsF_same he (by omega),dropF_same he]
     exact turnsF_cut t now G fun z hz=>h z (List.mem_cons_of_mem _ hz)
   | false =>
     rw [turnsF_turn he,dropF_turn he]
     obtain ⟨n',e⟩:=turnsF_cut t ⟨y.1,locW x R y.1⟩ G fun z hz=>h z (List.mem_cons_of_mem _ hz)
     exact ⟨n',by rw [e];rfl⟩
theorem turnsF_sub {x:EraF} {R:List Rul}:∀ {F:List (Int × Fir)} {now c:Chg},c ∈ turnsF x R now F→∃ y ∈ F,c.at_ = y.1
 | [],_,_,h=>by cases h
 | y :: t,now,c,h=>by
   cases he:locE (locW x R y.1) now.loc with
   | true =>
     by_cases h2:max now.at_ 64060588800 + 12680582400 < y.1
     ·rw [turnsF_end he h2] at h
      cases h
     ·rw [turnsF_same he h2] at h
      obtain ⟨z,hz,e⟩:=turnsF_sub h
      exact ⟨z,List.mem_cons_of_mem _ hz,e⟩
   | false =>
     rw [turnsF_turn he] at h
     rcases List.mem_cons.1 h with rfl | h
     ·exact ⟨y,List.mem_cons_self,rfl⟩
     ·obtain ⟨z,hz,e⟩:=turnsF_sub h
      exact ⟨z,List.mem_cons_of_mem _ hz,e⟩
theorem turnsL_cut {x:EraF} {R:List Rul} {A:List Fir} (h:RightR R A) (ho:-90000 < x.n.off∧x.n.off < 90000) {fr b T:Int} (h1:-2199023255553 ≤ fr) (hb:b ≤ 4200000000) (hbT:b ≤ T) :
  ∃ P Q,turnsL x R fr T = P ++ Q∧Wk (locW x R) fr b P∧∀ c ∈ Q,b < c.at_:=by
 by_cases hfb:fr ≤ b
 ·obtain ⟨F,hF,hF2⟩:=fired_cut h ho (by omega) hfb (by unfold capN;omega) hbT
  unfold turnsL
  rw [hF]
  obtain ⟨n',e⟩:=turnsF_cut (x:=x) (R:=R) (segA A x.n.off fr b 0 A.length) ⟨fr,locW x R fr⟩ F (fun y hy=>by
   obtain ⟨i,-,-,hi,rfl,-,h4⟩:=segA_in hy
   show instA A x.n.off i ≤ 60000000000
   omega)
  refine ⟨_,_,e,(dropF_rep ⟨?_,fun c hc=>?_,fun i h3 h4 ht=>?_⟩).wk,fun c hc=>?_⟩
  ·unfold RiseC
   rw [List.pairwise_map]
   exact segA_rise h ho _ _
  ·obtain ⟨y,hy,rfl⟩:=List.mem_map.1 hc
   obtain ⟨i,-,-,hi,rfl,h3,h4⟩:=segA_in hy
   exact ⟨⟨h3,h4⟩,rfl⟩
  ·have hex:∃ j,j < A.length∧instA A x.n.off j = i:=Classical.byContradiction fun hn=>ht (locW_still h ho (by omega) (by unfold capN;omega) fun j hj e=>hn ⟨j,hj,e⟩)
   obtain ⟨j,hj,rfl⟩:=hex
   exact ⟨⟨instA A x.n.off j,locW x R (instA A x.n.off j)⟩,List.mem_map.2 ⟨(instA A x.n.off j,A[j]),segA_has hj (by omega) (by omega) h3 h4,rfl⟩,rfl⟩
  ·obtain ⟨y,hy,e⟩:=turnsF_sub hc
   rw [e]
   exact hF2 y hy
 ·refine ⟨[],turnsL x R fr T,rfl,wk_nil (by omega),fun c hc=>?_⟩
  obtain ⟨y,hy,e⟩:=turnsF_sub hc
  have:=firedF_in hy
  omega
theorem turnsL_in {x:EraF} {R:List Rul} {fr T:Int} {c:Chg} (h:c ∈ turnsL x R fr T):fr < c.at_∧c.at_ ≤ T:=by
 obtain ⟨y,hy,e⟩:=turnsF_sub h
 rw [e]
 exact firedF_in hy
theorem endLoop_save {m:Int}:∀ {xs:List (Int × Fir)} {sv:Int},(-90000 < sv∧sv < 90000)→(∀ x ∈ xs,-90000 < x.2.save∧x.2.save < 90000)→-90000 < endLoop m sv xs∧endLoop m sv xs < 90000
 | [],_,h,_=>h
 | x :: t,sv,h,h2=>by
   unfold endLoop
   split
   ·exact h
   ·exact endLoop_save (h2 x List.mem_cons_self) fun y hy=>h2 y (List.mem_cons_of_mem _ hy)
theorem endSave_few {R:List Rul} {A:List Fir} (h:RightR R A) (off n:Int):-90000 < endSave R off n∧endSave R off n < 90000:=by
 unfold endSave
 refine endLoop_save ?_ fun x hx=>h.save_all (firedF_mem hx)
 cases hl:latestF R off (n - 360000) with
 | none=>exact (by decide:(-90000:Int) < 0∧(0:Int) < 90000)
 | some f=>exact h.save_all (latestF_mem hl)
structure FewZ (S:List SetF) (l:List EraF):Prop where
 err:errZ S l = 0
 few:fewB l S = true
section
variable {S:List SetF} {l:List EraF}
theorem FewZ.right (h:FewZ S l) (x:EraF):∃ A,RightR (ruleE S x) A:=by
 obtain ⟨A,hA,-,-⟩:=right_yes (rule_right (fewB_iff.1 h.few).2.1 x)
 exact ⟨A,hA⟩
theorem FewZ.pos (h:FewZ S l):0 < l.length:=by
 have:=(errZ_zero h.err).1
 omega
theorem FewZ.off (h:FewZ S l) {k:Nat} (hk:k < l.length):-90000 < l[k].n.off∧l[k].n.off < 90000:=(errZ_off h.err hk).1
theorem FewZ.ends (h:FewZ S l):∀ e ∈ endL S l,-2501000000 ≤ e∧e ≤ 4001000000:=by
 intro e he
 obtain ⟨i,hi,rfl⟩:=List.getElem_of_mem he
 have hil:=hi
 rw [length_endL] at hil
 obtain ⟨h0,-,hat,-⟩:=errZ_zero h.err
 have hE:=endL_at (S:=S) (l:=l) (i:=i) (by omega)
 rw [List.getElem?_eq_getElem hi] at hE
 have hE:=Option.some.inj hE
 have her:=hat i (by omega)
 rw [errAt_eq (by omega),decide_eq_false (by omega)] at her
 obtain ⟨-,hof,hsv,hen,-,hno⟩:=errE_zero her
 have hn:=nomV_in (hno hen)
 have hok:=eraFew_end ((fewB_iff.1 h.few).1 l[i] (List.getElem_mem _)) hen
 have hnm:-2500000000 ≤ nomV l[i].n∧nomV l[i].n ≤ 4000000000:=by
  rcases hok.nom_in with g | g
  ·exact g
  ·rw [← hok.nomB_eq hn.2.2,hno hen] at g
   cases g
 obtain ⟨A,hA⟩:=h.right l[i]
 have hsv2:=endSave_few hA l[i].n.off (nomV l[i].n)
 rw [hE]
 unfold endN
 split
 ·omega
 ·split
  ·omega
  ·split <;> omega
theorem FewZ.lt (h:FewZ S l):∀ (d i:Nat),i + d + 1 < (endL S l).length→(endL S l).getD i 0 < (endL S l).getD (i + d + 1) 0
 | 0,i,hj=>riseI_iff.1 (errZ_zero h.err).2.2.2 i hj
 | d + 1,i,hj=>by
   have h1:=h.lt d i (by omega)
   have h2:=riseI_iff.1 (errZ_zero h.err).2.2.2 (i + d + 1) hj
   rw [show i + (d + 1) + 1 = i + d + 1 + 1 by omega]
   omega
theorem FewZ.mono (h:FewZ S l) {i j:Nat} (hij:i < j) (hj:j < (endL S l).length):(endL S l)[i] < (endL S l)[j]:=by
 have:=h.lt (j - i - 1) i (by omega)
 rw [show i + (j - i - 1) + 1 = j by omega,getD_atZ (by omega),getD_atZ hj] at this
 exact this
theorem FewZ.to_lt (h:FewZ S l) (k:Nat) (hk:k < l.length):fromV (endL S l) k < toV (endL S l) k:=by
 have hle:=length_endL S l
 have hto:∀ (j:Nat),-2501000000 ≤ toV (endL S l) j:=fun j=>by
  by_cases hj:j < (endL S l).length
  ·rw [toV_at hj]
   exact (h.ends _ (List.getElem_mem _)).1
  ·rw [toV_out (by omega)]
   omega
 unfold fromV
 split
 ·have:=hto k
  omega
 ·rw [toV_at (show k - 1 < (endL S l).length by omega)]
  by_cases hj:k < (endL S l).length
  ·rw [toV_at hj]
   exact h.mono (by omega) hj
  ·rw [toV_out (by omega)]
   have:=(h.ends _ (List.getElem_mem (show k - 1 < (endL S l).length by omega))).2
   omega
theorem FewZ.era (h:FewZ S l) {k:Nat} (hk:k < l.length) {i:Int} (h1:fromV (endL S l) k ≤ i) (h2:i < toV (endL S l) k):eraI (endL S l) i = k:=by
 have hle:=length_endL S l
 have hno:∀ j (hj:j < (endL S l).length),j < k→¬ i < (endL S l)[j]:=fun j hj hjk=>by
  unfold fromV at h1
  rw [if_neg (by omega),toV_at (show k - 1 < (endL S l).length by omega)] at h1
  by_cases e:j = k - 1
  ·subst e
   omega
  ·have:=h.mono (show j < k - 1 by omega) (show k - 1 < (endL S l).length by omega)
   omega
 by_cases hj:k < (endL S l).length
 ·rw [toV_at hj] at h2
  exact eraI_at hj hno h2
 ·rw [eraI_none (fun j hj2=>hno j hj2 (by omega))]
  omega
theorem FewZ.loc (h:FewZ S l) {k:Nat} (hk:k < l.length) {i:Int} (h1:fromV (endL S l) k ≤ i) (h2:i < toV (endL S l) k) (h3:-2199023255552 ≤ i) (h4:i ≤ 2199023255552):locZ S l i = locW l[k] (ruleE S l[k]) i:=by
 have hax:atX S l i = l[k]:=by unfold atX;rw [h.era hk h1 h2,List.getD_eq_getElem?_getD,List.getElem?_eq_getElem hk];rfl
 unfold locZ
 rw [if_neg (fun e=>e h.err),if_neg (by omega),hax]
theorem eraT_mem {fr T:Int} {k:Nat} {c:Chg} (hlt:fromV (endL S l) k < toV (endL S l) k) (hc:c ∈ eraT S l fr T k):(fr < c.at_∧fromV (endL S l) k ≤ c.at_)∧c.at_ ≤ T∧c.at_ < toV (endL S l) k:=by
 unfold eraT at hc
 split at hc
 ·cases hc
 ·rcases List.mem_append.1 hc with hc | hc
  ·split at hc
   ·rw [List.mem_singleton] at hc
    subst hc
    show (fr < fromV (endL S l) k∧fromV (endL S l) k ≤ fromV (endL S l) k)∧fromV (endL S l) k ≤ T∧fromV (endL S l) k < toV (endL S l) k
    omega
   ·cases hc
  ·have:=turnsL_in hc
   omega
theorem eraT_cut (h:FewZ S l) {fr to T:Int} (hfr:-2199023255552 ≤ fr) (hto:to ≤ 4200000000) (hT:to ≤ T) {k:Nat} (hk:k < l.length) :
  ∃ P Q,eraT S l fr T k = P ++ Q∧Wk (locZ S l) (max fr (min to (fromV (endL S l) k - 1))) (min to (toV (endL S l) k - 1)) P∧(∀ c ∈ Q,to < c.at_):=by
 have hlt:=h.to_lt k hk
 have hmem:=fun c (hc:c ∈ eraT S l fr T k)=>eraT_mem hlt hc
 by_cases h1:to < fromV (endL S l) k
 ·exact ⟨[],eraT S l fr T k,rfl,wk_nil (by omega),fun c hc=>by have:=hmem c hc;omega⟩
 ·by_cases h2:to ≤ fr
  ·exact ⟨[],eraT S l fr T k,rfl,wk_nil (by omega),fun c hc=>by have:=hmem c hc;omega⟩
  ·by_cases h3:toV (endL S l) k - 1 ≤ fr
   ·exact ⟨[],[],eraT_skip (.inl h3),wk_nil (by omega),fun c hc=>by cases hc⟩
   ·obtain ⟨A,hA⟩:=h.right l[k]
    have hgx:l.getD k default = l[k]:=by rw [List.getD_eq_getElem?_getD,List.getElem?_eq_getElem hk];rfl
    obtain ⟨P,Q,e,hP,hQ⟩:=turnsL_cut hA (h.off hk) (fr:=max fr (fromV (endL S l) k)) (b:=min to (toV (endL S l) k - 1)) (T:=min T (toV (endL S l) k - 1)) (by omega) (by omega) (by omega)
    have hQ2:∀ c ∈ Q,to < c.at_:=fun c hc=>by
     have g:=hQ c hc
     have g2:=turnsL_in (show c ∈ turnsL l[k] (ruleE S l[k]) (max fr (fromV (endL S l) k)) (min T (toV (endL S l) k - 1)) by rw [e];exact List.mem_append_right _ hc)
     omega
    by_cases h4:fr < fromV (endL S l) k
    ·rw [eraT_at (by omega) h4,hgx,e]
     refine ⟨⟨fromV (endL S l) k,locW l[k] (ruleE S l[k]) (fromV (endL S l) k)⟩ :: P,Q,rfl,?_,hQ2⟩
     have hP2:Wk (locZ S l) (fromV (endL S l) k) (min to (toV (endL S l) k - 1)) P:=by
      rw [show max fr (fromV (endL S l) k) = fromV (endL S l) k by omega] at hP
      exact hP.congr fun i i1 i2=>(h.loc hk i1 (by omega) (by omega) (by omega)).symm
     have h5:Wk (locZ S l) (max fr (min to (fromV (endL S l) k - 1))) (fromV (endL S l) k) [⟨fromV (endL S l) k,locW l[k] (ruleE S l[k]) (fromV (endL S l) k)⟩]:=by
      refine ⟨List.pairwise_singleton _ _,fun c hc=>?_,fun i i1 i2 _=>?_⟩
      ·rw [List.mem_singleton] at hc
       subst hc
       refine ⟨?_,(h.loc hk (Int.le_refl _) hlt (by omega) (by omega)).symm⟩
       show max fr (min to (fromV (endL S l) k - 1)) < fromV (endL S l) k∧fromV (endL S l) k ≤ fromV (endL S l) k
       omega
      ·exact ⟨_,List.mem_singleton.2 rfl,show fromV (endL S l) k = i by omega⟩
     have h6:=h5.append (M:=P) (c:=min to (toV (endL S l) k - 1)) (by rw [show max (max fr (min to (fromV (endL S l) k - 1))) (fromV (endL S l) k) = fromV (endL S l) k by omega];exact hP2) (by omega)
     exact h6
    ·rw [eraT_in (by omega) h4,hgx,e]
     refine ⟨P,Q,rfl,?_,hQ2⟩
     rw [show max fr (fromV (endL S l) k) = fr by omega] at hP
     rw [show max fr (min to (fromV (endL S l) k - 1)) = fr by omega]
     exact hP.congr fun i i1 i2=>(h.loc hk (by omega) (by omega) (by omega) (by omega)).symm
theorem stepsL_cut (h:FewZ S l) {fr to T:Int} (hfr:-2199023255552 ≤ fr) (hto:to ≤ 4200000000) (hT:to ≤ T):∀ (k:Nat),k ≤ l.length →
  ∃ P Q,(List.range k).flatMap (eraT S l fr T) = P ++ Q∧Wk (locZ S l) fr (min to (fromV (endL S l) k - 1)) P∧(∀ c ∈ Q,to < c.at_)∧(Q ≠ []→to < fromV (endL S l) k)
 | 0,_=>⟨[],[],rfl,wk_nil (by unfold fromV;rw [if_pos rfl];omega),fun c hc=>(by cases hc),fun e=>absurd rfl e⟩
 | k + 1,hk=>by
   obtain ⟨P,Q,e,hP,hQ,hQ2⟩:=stepsL_cut h hfr hto hT k (by omega)
   have hlt:=h.to_lt k (by omega)
   rw [stepsF_succ,e,fromV_succ]
   by_cases hq:Q = []
   ·obtain ⟨P2,Q2,e2,hP3,hQ3⟩:=eraT_cut h hfr hto hT (show k < l.length by omega)
    rw [e2,hq,List.append_nil,← List.append_assoc]
    refine ⟨P ++ P2,Q2,rfl,hP.append hP3 (by omega),hQ3,fun hne=>?_⟩
    obtain ⟨c,hc⟩:=List.exists_mem_of_ne_nil _ hne
    have g:=eraT_mem (fr:=fr) (T:=T) hlt (show c ∈ eraT S l fr T k by rw [e2];exact List.mem_append_right _ hc)
    have:=hQ3 c hc
    omega
   ·have hlt2:=hQ2 hq
    refine ⟨P,Q ++ eraT S l fr T k,by rw [List.append_assoc],?_,fun c hc=>?_,fun _=>by omega⟩
    ·rw [show min to (toV (endL S l) k - 1) = min to (fromV (endL S l) k - 1) by omega]
     exact hP
    ·rcases List.mem_append.1 hc with hc | hc
     ·exact hQ c hc
     ·have:=eraT_mem hlt hc
      omega
theorem changes_spec (h:FewZ S l) {fr to T:Int} (hfr:fr ≤ 4200000000) (hto:to ≤ 4200000000) (hT:to ≤ T) :
  ∃ P Q,changesL S l fr T = P ++ Q∧Rep (locZ S l) (max fr (-2199023255552)) to P∧∀ c ∈ Q,to < c.at_:=by
 have he:errI S l (max fr (-2199023255552)) = 0:=errI_few h.err (fewB_iff.1 h.few).2.1 (by omega) (by omega)
 obtain ⟨P,Q,e,hP,hQ,-⟩:=stepsL_cut h (fr:=max fr (-2199023255552)) (by omega) hto hT l.length (Nat.le_refl _)
 have hfv:fromV (endL S l) l.length = 2199023255553:=by
  have:=h.pos
  unfold fromV
  rw [if_neg (by omega),toV_out (by rw [length_endL];omega)]
 rw [hfv,show min to (2199023255553 - 1) = to by omega] at hP
 unfold changesL
 rw [if_pos he]
 unfold stepsL
 rw [e]
 obtain ⟨n',e2⟩:=dropF_append P (locZ S l (max fr (-2199023255552))) Q
 exact ⟨_,_,e2,dropF_rep hP,fun c hc=>hQ c (dropF_sub hc)⟩
theorem changes_rep (h:FewZ S l) {fr to:Int} (hfr:fr ≤ 4200000000) (hto:to ≤ 4200000000):Rep (locZ S l) (max fr (-2199023255552)) to (changesL S l fr to):=by
 obtain ⟨P,Q,e,hP,hQ⟩:=changes_spec h hfr hto (Int.le_refl to)
 have hq:Q = []:=List.eq_nil_iff_forall_not_mem.2 fun c hc=>by
  have g:=hQ c hc
  have hm:c ∈ changesL S l fr to:=by rw [e];exact List.mem_append_right _ hc
  unfold changesL at hm
  split at hm
  ·have hm:=dropF_sub hm
   unfold stepsL at hm
   obtain ⟨k,hk,hm⟩:=List.mem_flatMap.1 hm
   have:=eraT_mem (h.to_lt k (List.mem_range.1 hk)) hm
   omega
  ·cases hm
 rw [e,hq,List.append_nil]
 exact hP
theorem changes_all (h:FewZ S l) {fr to T:Int} (hfr:fr ≤ 4200000000) (hto:to ≤ 4200000000) (hT:to ≤ T):∃ Q,changesL S l fr T = changesL S l fr to ++ Q∧∀ c ∈ Q,to < c.at_:=by
 obtain ⟨P,Q,e,hP,hQ⟩:=changes_spec h hfr hto hT
 exact ⟨Q,by rw [e,hP.uniq (changes_rep h hfr hto)],hQ⟩
theorem turn_at (h:FewZ S l) {i:Int} (h1:-2199023255552 < i) (h2:i ≤ 4200000000) (ht:locZ S l i ≠ locZ S l (i - 1)) :
  i ∈ endL S l∨∃ k,∃ hk:k < l.length,∀ A,RightR (ruleE S l[k]) A→∃ j,j < A.length∧instA A l[k].n.off j = i:=by
 have hle:=length_endL S l
 have hp:=h.pos
 obtain ⟨k,hk,hk1,hk2⟩:∃ k,k < l.length∧fromV (endL S l) k ≤ i∧i < toV (endL S l) k:=by
  refine ⟨eraI (endL S l) i,by have:=eraI_le (endL S l) i;omega,?_,?_⟩
  ·unfold fromV
   split
   ·omega
   ·have hl:=eraI_le (endL S l) i
    rw [toV_at (show eraI (endL S l) i - 1 < (endL S l).length by omega)]
    have:=eraI_noZ (E:=endL S l) (i:=i) (j:=eraI (endL S l) i - 1) (by omega) (by omega)
    omega
  ·by_cases hj:eraI (endL S l) i < (endL S l).length
   ·rw [toV_at hj]
    exact eraI_ltZ hj
   ·rw [toV_out (by omega)]
    omega
 by_cases e:fromV (endL S l) k = i
 ·left
  unfold fromV at e
  split at e
  ·omega
  ·rw [toV_at (show k - 1 < (endL S l).length by omega)] at e
   rw [← e]
   exact List.getElem_mem _
 ·right
  refine ⟨k,hk,fun A hA=>Classical.byContradiction fun hn=>ht ?_⟩
  rw [h.loc hk hk1 hk2 (by omega) (by omega),h.loc hk (by omega) (by omega) (by omega) (by omega)]
  exact locW_still hA (h.off hk) (by omega) (by unfold capN;omega) fun j hj e=>hn ⟨j,hj,e⟩
end
end
section -- HPut
open Go Go.RowKit Go.Shelf
def RiseN:List Int→Prop:=List.Pairwise (· < ·)
theorem intsV_one (l:List Int):∀ u ∈ intsV l,u.oneCell' = true:=by
 intro u hu
 unfold intsV at hu
 obtain ⟨c,-,rfl⟩:=List.mem_map.1 hu
 rfl
theorem length_intsV (l:List Int):(intsV l).length = l.length:=by unfold intsV;rw [List.length_map]
theorem nums_front {W:World} {B:Nat} {A:Option Addr} {c:Nat} {l:List Int} (h:Nums W B (.slice A l.length c) l) {k:Nat} (h2:k ≤ l.length):Nums W B (.slice A k c) (l.take k):=by
 obtain ⟨A',c',hv,g1,g2,-,hc⟩:=h
 injection hv with ha _ hcc
 subst ha;subst hcc
 have hlen:(l.take k).length = k:=by rw [List.length_take];omega
 unfold Nums
 rw [hlen]
 refine ⟨_,_,rfl,by omega,g2,by rw [length_intsV,hlen,Nat.mul_one],fun hp=>?_⟩
 obtain ⟨b,o,rfl,hb,hc⟩:=hc (by omega)
 refine ⟨b,o,rfl,hb,fun j u hu=>?_⟩
 refine hc j u ?_
 have hj:j < k:=by
  have:=(List.getElem?_eq_some_iff.1 hu).1
  rw [length_intsV,hlen] at this
  exact this
 rw [← hu,show intsV l = intsV (l.take k ++ l.drop k) by rw [List.take_append_drop],intsV_append,List.getElem?_append_left (by rw [length_intsV,hlen];exact hj)]
theorem nums_back {W:World} {B:Nat} {A:Option Addr} {c:Nat} {l:List Int} (h:Nums W B (.slice A l.length c) l) {n:Nat} (h2:n ≤ l.length):Nums W B (.slice (if c = n then A else A.map (·.add n)) (l.length - n) (c - n)) (l.drop n):=by
 obtain ⟨A',c',hv,g1,g2,-,hc⟩:=h
 injection hv with ha _ hcc
 subst ha;subst hcc
 have hlen:(l.drop n).length = l.length - n:=List.length_drop
 unfold Nums
 rw [hlen]
 refine ⟨_,_,rfl,by omega,by omega,by rw [length_intsV,hlen,Nat.mul_one],fun hp=>?_⟩
 obtain ⟨b,o,rfl,hb,hc⟩:=hc (by omega)
 rw [if_neg (by omega)]
 refine ⟨b,o + n,by simp [Addr.add_lit],hb,fun j u hu=>?_⟩
 rw [Nat.add_assoc]
 refine hc _ u ?_
 rw [← hu,show intsV l = intsV (l.take n ++ l.drop n) by rw [List.take_append_drop],intsV_append,List.getElem?_append_right (by rw [length_intsV,List.length_take];omega),length_intsV,List.length_take,Nat.min_eq_left h2,Nat.add_sub_cancel_left]
structure InsN (l:List Int) (n:Int) (M:List Int):Prop where
 rise:RiseN M
 mem:∀ i,i ∈ M ↔ i ∈ l∨i = n
 len:M.length ≤ l.length + 1
theorem insN_there {l:List Int} {n:Int} (hr:RiseN l) (h:n ∈ l):InsN l n l:=⟨hr,fun i=>⟨.inl,fun h2=>h2.elim id fun e=>e ▸ h⟩,by omega⟩
theorem insN_new {l:List Int} {n:Int} (hr:RiseN l) {k:Nat} (hk:k ≤ l.length) (h1:∀ j (h:j < l.length),k ≤ j→n < l[j]) (h2:∀ j (h:j < l.length),j < k→l[j] < n):InsN l n (l.take k ++ [n] ++ l.drop k):=by
 refine ⟨?_,fun i=>?_,by simp;omega⟩
 ·refine List.pairwise_append.2 ⟨List.pairwise_append.2 ⟨hr.take,List.pairwise_singleton _ _,fun x hx y hy=>?_⟩,hr.drop,fun x hx y hy=>?_⟩
  ·rw [List.mem_singleton] at hy
   subst hy
   obtain ⟨j,hj,rfl⟩:=List.mem_take_iff_getElem.1 hx
   exact h2 j (by omega) (by omega)
  ·obtain ⟨j,hj,rfl⟩:=List.mem_drop_iff_getElem.1 hy
   have h3:=h1 (k + j) (by omega) (by omega)
   rcases List.mem_append.1 hx with hx | hx
   ·obtain ⟨q,hq,rfl⟩:=List.mem_take_iff_getElem.1 hx
    have:=h2 q (by omega) (by omega)
    omega
   ·rw [List.mem_singleton] at hx
    subst hx
    exact h3
 ·constructor
  ·intro h
   rcases List.mem_append.1 h with h | h
   ·rcases List.mem_append.1 h with h | h
    ·exact .inl (List.mem_of_mem_take h)
    ·exact .inr (List.mem_singleton.1 h)
   ·exact .inl (List.mem_of_mem_drop h)
  ·rintro (h | rfl)
   ·rw [← List.take_append_drop k l] at h
    rcases List.mem_append.1 h with h | h
    ·exact List.mem_append_left _ (List.mem_append_left _ h)
    ·exact List.mem_append_right _ h
   ·exact List.mem_append_left _ (List.mem_append_right _ (List.mem_singleton.2 rfl))
def InsPost (w:World) (l:List Int) (n:Int) (o:Ending) (w':World):Prop:=(∃ u M,o = .returned u∧Nums w' w'.heap.size u M∧InsN l n M)∧Below w.heap.size w w'
theorem rput_any (w:World) (B:Nat) (v:Value) (l:List Int) (n:Int) (hv:Nums w B v l) (hB:B ≤ w.heap.size) (hr:RiseN l) (hl:l.length ≤ 1000000) :
  Calls Tryz.prog 74 #[v,.int .i64 n] w (InsPost w l n):=by
 obtain ⟨i0,hi,hz0,hz1,hz2⟩:=info_parts infoInt
 obtain ⟨A,c,rfl,hlc,hcm⟩:=hv.form
 have HV:=Lib.hid hv
 have HR:=Lib.hid hr
 unfold maxLen at hcm
 clear hv hr
 go_enter Tryz.func74,Tryz.ntmps74
 go_wp2_with fail
 go_loopw [5] (fun iv wr=>∃ k:Nat,k ≤ l.length∧iv = .int .i64 k∧(∀ j (h:j < l.length),k ≤ j→n < l[j])∧∃ q,wr = w.drewN q) (fun iv _=>(intOf iv).toNat)
 case atStart=>exact ⟨l.length,Nat.le_refl _,rfl,fun j h hj=>by omega,0,rfl⟩
 case round =>
  obtain ⟨k,hk,rfl,hno,q,rfl⟩:=hrel
  have HNO:=Lib.hid hno
  clear hno
  have HB5:=Lib.hid (below_drewN (Below.refl w.heap.size w) q)
  obtain ⟨w5,hw5⟩:∃ W,w.drewN q = W:=⟨_,rfl⟩
  rw [hw5] at HB5 ⊢
  have HW5:=Lib.hid hw5
  clear hw5
  by_cases h0:k = 0
  ·have hd:decide ((0:Int) < (k:Int)) = false:=decide_eq_false (by omega)
   have hd3:decide (0 < k) = false:=decide_eq_false (by omega)
   have HM:=Lib.hid (insN_new HR.out hk HNO.out (fun j _ hj=>by omega))
   clear h0
   have HFRN:=Lib.hid (show Sl w5 B 1 (.slice (A) k c) k (intsV (l.take k)) by have:=nums_front (HV.out.below (HB5.out.mono hB)) hk;unfold Nums at this;rwa [List.length_take,Nat.min_eq_left hk] at this)
   have hs5:=HB5.out.size
   go_wp2_with first
    | (at_builtin;refine wpList_append_sl rfl _ _ 28 rfl w.heap.size 3 i0 (.int .i64 0) 1 8 Tryz.underlying28 hi hz0 hz1 hz2 rfl (by decide) (.slice none 0 0) 0 [] rfl (World.ownsRow_nil _ _ _ _) _ B k _ rfl HFRN.out (intsV_one _) (by unfold maxLen;omega) (by omega) hs5 ?_;intro v7 w7 hown7 hgrow7;have HB7:=Lib.hid (HB5.out.grown hgrow7 hs5 (fun g e=>by cases e));have HOW7:=Lib.hid hown7;have hs7:=HB7.out.size;clear hown7 hgrow7)
    | (at_builtin;have _t:=HOW7;go_loud (refine wpList_append_own _ rfl _ _ 28 rfl w.heap.size 3 i0 (.int .i64 0) 1 8 Tryz.underlying28 hi hz0 hz1 hz2 rfl (by decide) v7 (0 + k) _ rfl (HOW7.out.alloc _) ⟨w7.heap.size,0,none⟩ 1 1 [.int .i64 n] rfl rfl (cell_one_new _ _ _) (by simp [Value.oneCell']) (by unfold maxLen;omega) (by omega) (by simp;omega) ?_);intro v8 w8 hown8 hgrow8 hnil8;go_loud (have HB8:=Lib.hid ((HB7.out.alloc hs7 _).grown hgrow8 (by simp;omega) (fun g e=>(HOW7.out.lt g e).1));have HOW8:=Lib.hid hown8;have hs8:=HB8.out.size;have HBKN:=Lib.hid (show Sl w8 B 1 (.slice (if c = k then A else A.map (·.add k)) (l.length - k) (c - k)) (l.length - k) (intsV (l.drop k)) by have:=nums_back (HV.out.below (HB8.out.mono hB)) hk;unfold Nums at this;rw [List.length_drop] at this;first | exact this | simpa [Addr.add_lit] using this);clear hown8 hgrow8 hnil8))
    | (at_builtin;have _t:=HOW8;go_loud (refine wpList_append_sl rfl _ _ 28 rfl w.heap.size 3 i0 (.int .i64 0) 1 8 Tryz.underlying28 hi hz0 hz1 hz2 rfl (by decide) v8 (0 + k + 1) _ rfl HOW8.out _ B (l.length - k) _ rfl HBKN.out (intsV_one _) (by unfold maxLen;omega) (by omega) hs8 ?_);intro v9 w9 hown9 hgrow9)
   all_goals
    go_ret
    have hb9:=HB8.out.grown hgrow9 hs8 (fun g e=>(HOW8.out.lt g e).1)
    refine ⟨⟨v9,l.take k ++ [n] ++ l.drop k,rfl,?_,HM.out⟩,hb9⟩
    have h:=Sl.of_own hown9
    unfold Nums
    rw [List.nil_append,show 0 + k + 1 + (l.length - k) = (l.take k ++ [n] ++ l.drop k).length by simp;omega] at h
    rw [intsV_append,intsV_append]
    exact h
  ·obtain ⟨p,hp⟩:∃ p,k = p + 1:=⟨k - 1,by omega⟩
   have hd:decide ((0:Int) < (k:Int)) = true:=decide_eq_true (by omega)
   have hd3:decide (0 < k) = true:=decide_eq_true (by omega)
   have e1:(k:Int) - 1 = (p:Int):=by omega
   have hpl:p < l.length:=by omega
   obtain ⟨b,o,c',e,hb,hc⟩:=(HV.out.below (HB5.out.mono hB)).cells (by omega)
   cases e
   have d0:=hc p hpl
   have hbl:b < w5.heap.size:=Nat.lt_of_lt_of_le hb (Nat.le_trans hB HB5.out.size)
   obtain ⟨y,hy⟩:∃ y,l[p] = y:=⟨_,rfl⟩
   rw [hy] at d0
   have HY:=Lib.hid hy
   have HP:=Lib.hid hp
   clear hc hp hy
   by_cases hgt:n < y
   ·have hg:decide (n < y) = true:=decide_eq_true hgt
    go_wp2_with fail
    go_roundw
    case rel=>exact ⟨p,by omega,by first | rfl | go_num,fun j h hj=>by
     rcases Nat.lt_or_ge p j with h1 | h1
     ·exact HNO.out j h (by have:=HP.out;omega)
     ·have:j = p:=by omega
      subst this
      rw [HY.out]
      exact hgt,q,HW5.out.symm⟩
    case measure=>have:=HP.out;simp [intOf];omega
   ·have hg:decide (n < y) = false:=decide_eq_false hgt
    by_cases heq:y = n
    ·have hg2:(y == n) = true:=by simpa using heq
     have HM:=Lib.hid (insN_there HR.out (show n ∈ l by rw [← heq,← HY.out];exact List.getElem_mem _))
     have HVE:=Lib.hid ((HV.out.below (HB5.out.mono hB)).more (Nat.le_trans hB HB5.out.size))
     go_wp2_with fail
     go_ret
     exact ⟨⟨_,l,rfl,HVE.out,HM.out⟩,HB5.out⟩
    ·have hg2:(y == n) = false:=by simpa using heq
     have HM:=Lib.hid (insN_new HR.out hk HNO.out (fun j hjl hj=>by
      have hyn:y < n:=by omega
      by_cases e:j = p
      ·subst e
       rw [HY.out]
       exact hyn
      ·have h1:=List.pairwise_iff_getElem.1 HR.out j p hjl hpl (by have:=HP.out;omega)
       rw [HY.out] at h1
       omega))
     have HFRN:=Lib.hid (show Sl w5 B 1 (.slice (some ⟨b,o,none⟩) k c) k (intsV (l.take k)) by have:=nums_front (HV.out.below (HB5.out.mono hB)) hk;unfold Nums at this;rwa [List.length_take,Nat.min_eq_left hk] at this)
     have hs5:=HB5.out.size
     go_wp2_with first
      | (at_builtin;refine wpList_append_sl rfl _ _ 28 rfl w.heap.size 3 i0 (.int .i64 0) 1 8 Tryz.underlying28 hi hz0 hz1 hz2 rfl (by decide) (.slice none 0 0) 0 [] rfl (World.ownsRow_nil _ _ _ _) _ B k _ rfl HFRN.out (intsV_one _) (by unfold maxLen;omega) (by omega) hs5 ?_;intro v7 w7 hown7 hgrow7;have HB7:=Lib.hid (HB5.out.grown hgrow7 hs5 (fun g e=>by cases e));have HOW7:=Lib.hid hown7;have hs7:=HB7.out.size;clear hown7 hgrow7)
      | (at_builtin;have _t:=HOW7;go_loud (refine wpList_append_own _ rfl _ _ 28 rfl w.heap.size 3 i0 (.int .i64 0) 1 8 Tryz.underlying28 hi hz0 hz1 hz2 rfl (by decide) v7 (0 + k) _ rfl (HOW7.out.alloc _) ⟨w7.heap.size,0,none⟩ 1 1 [.int .i64 n] rfl rfl (cell_one_new _ _ _) (by simp [Value.oneCell']) (by unfold maxLen;omega) (by omega) (by simp;omega) ?_);intro v8 w8 hown8 hgrow8 hnil8;go_loud (have HB8:=Lib.hid ((HB7.out.alloc hs7 _).grown hgrow8 (by simp;omega) (fun g e=>(HOW7.out.lt g e).1));have HOW8:=Lib.hid hown8;have hs8:=HB8.out.size;have HBKN:=Lib.hid (show Sl w8 B 1 (.slice (if c = k then some ⟨b,o,none⟩ else some ⟨b,o + k,none⟩) (l.length - k) (c - k)) (l.length - k) (intsV (l.drop k)) by have:=nums_back (HV.out.below (HB8.out.mono hB)) hk;unfold Nums at this;rw [List.length_drop] at this;first | exact this | simpa [Addr.add_lit] using this);clear hown8 hgrow8 hnil8))
      | (at_builtin;have _t:=HOW8;go_loud (refine wpList_append_sl rfl _ _ 28 rfl w.heap.size 3 i0 (.int .i64 0) 1 8 Tryz.underlying28 hi hz0 hz1 hz2 rfl (by decide) v8 (0 + k + 1) _ rfl HOW8.out _ B (l.length - k) _ rfl HBKN.out (intsV_one _) (by unfold maxLen;omega) (by omega) hs8 ?_);intro v9 w9 hown9 hgrow9)
     all_goals
      go_ret
      have hb9:=HB8.out.grown hgrow9 hs8 (fun g e=>(HOW8.out.lt g e).1)
      refine ⟨⟨v9,l.take k ++ [n] ++ l.drop k,rfl,?_,HM.out⟩,hb9⟩
      have h:=Sl.of_own hown9
      unfold Nums
      rw [List.nil_append,show 0 + k + 1 + (l.length - k) = (l.take k ++ [n] ++ l.drop k).length by simp;omega] at h
      rw [intsV_append,intsV_append]
      exact h
end
end Go.Proofs.YteekjfgjmccdnaaGreatDoor
