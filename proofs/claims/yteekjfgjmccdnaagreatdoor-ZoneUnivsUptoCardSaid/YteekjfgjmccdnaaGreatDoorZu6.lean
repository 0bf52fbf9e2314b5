/-
  Layer 11's reference walked: a firing put into a row.
-/
import Derived.Lib.PathFns
import Derived.Lib.SmallJoins
import Derived.Test.YteekjfgjmccdnaaGreatDoorZu5
set_option maxHeartbeats 16000000
set_option maxRecDepth 100000
namespace Go.Proofs.YteekjfgjmccdnaaGreatDoor
section -- ULatest
open Go Go.RowKit Go.Shelf
theorem inst_tot (w:World) (f:Fir) (off sv:Int) (h:-1000000000000000 ≤ f.nominal∧f.nominal ≤ 1000000000000000) (h1:-1000000000000000 ≤ off∧off ≤ 1000000000000000) (_:-9223372036854775808 ≤ sv∧sv ≤ 9223372036854775807) :
  Calls Tryz.prog 61 #[firA f,.int .i64 off,.int .i64 sv] w fun e w'=>e = .returned (.int .i64 (instW f off sv))∧Below w.heap.size w w':=by
 have HB:=Lib.hid ((Below.refl w.heap.size w).alloc (Nat.le_refl _) (.cells (firV f).toArray 112))
 unfold firA
 unfold firV at HB
 by_cases k2:f.kind = 2
 ·have HV:=Lib.hid (show instW f off sv = f.nominal by unfold instW;rw [if_pos k2])
  have e:(f.kind == 2) = true:=by simpa using k2
  clear k2
  go_enter Tryz.func61,Tryz.ntmps61
  go_wp2_with fail
  go_ret
  exact ⟨by rw [HV.out];rfl,HB.out⟩
 ·have e:(f.kind == 2) = false:=by simpa using k2
  by_cases k1:f.kind = 1
  ·have HV:=Lib.hid (show instW f off sv = f.nominal - off by unfold instW;rw [if_neg k2,if_pos k1])
   have e1:(f.kind == 1) = true:=by simpa using k1
   clear k2 k1
   go_enter Tryz.func61,Tryz.ntmps61
   go_wp2_with fail
   go_ret
   exact ⟨by rw [HV.out];rfl,HB.out⟩
  ·have HV:=Lib.hid (show instW f off sv = wrap64 (f.nominal - off - sv) by unfold instW;rw [if_neg k2,if_neg k1])
   have e1:(f.kind == 1) = false:=by simpa using k1
   go_enter Tryz.func61,Tryz.ntmps61
   go_wp2_with fail
   go_ret
   exact ⟨by rw [HV.out];rfl,HB.out⟩
theorem saved_tot (w:World) (v:Value) (l:List Rul) (hv:Ruls w w.heap.size v l) (ha:Ahead w) (ho:numsR l) (f:Fir) (hf:-4000000000000 ≤ f.nominal∧f.nominal ≤ 4000000000000) :
  Calls Tryz.prog 93 #[v,firA f] w fun e w'=>e = .returned (.int .i64 (savedF l f))∧Below w.heap.size w w':=by
 have hb0:Below w.heap.size w (w.alloc (.cells (firV f).toArray 112)):=(Below.refl w.heap.size w).alloc (Nat.le_refl _) _
 have hx0:=Blk.new w 112 (firV f).toArray
 have HA:=Lib.hid (fahead_tot (w.alloc (.cells (firV f).toArray 112)) v l ((hv.below hb0).more hb0.size) (ha.below hb0 (Nat.le_refl _)) ho f.nominal (by omega) (by omega))
 have HV:=Lib.hid (show savedF l f = (firO (aheadF l f.nominal)).save by unfold savedF;exact saveO_firO _)
 obtain ⟨o,hoo⟩:∃ o,aheadF l f.nominal = o:=⟨_,rfl⟩
 rw [hoo] at HA HV
 clear hv ha ho hoo
 unfold resO at HA
 obtain ⟨g,hg⟩:∃ g,firO o = g:=⟨_,rfl⟩
 rw [hg] at HA HV
 unfold firA at HA ⊢
 unfold firV at hb0 hx0 HA
 clear hg
 go_enter Tryz.func93,Tryz.ntmps93
 go_wp2_with fail
 refine HA.out.mono ?_
 rintro e w1 ⟨rfl,hb⟩
 have hb1:=hb0.trans (hb.mono hb0.size)
 have HB:=Lib.hid (hb1.alloc hb1.size (.cells #[.int .i64 g.nominal,.int .i64 g.kind,.int .i64 g.save,.string g.letter] 112))
 clear hb hb0 hb1 hx0 HA
 go_wp2_with fail
 go_ret
 exact ⟨by rw [HV.out];rfl,HB.out⟩
theorem latest_tot (w:World) (v:Value) (l:List Rul) (hv:Ruls w w.heap.size v l) (ha:Ahead w) (ho:numsR l) (off i:Int) (ho1:-1000000000000000 ≤ off∧off ≤ 1000000000000000) (hi1:-4500000000000 ≤ i) (hi2:i ≤ 9000000000000000000) :
  Calls Tryz.prog 58 #[v,.int .i64 off,.int .i64 i] w fun e w'=>e = .returned (resO (latestW l off i))∧Below w.heap.size w w':=by
 have hb0:Below w.heap.size w (w.alloc (.cells (firV .zero).toArray 112)):=(Below.refl w.heap.size w).alloc (Nat.le_refl _) _
 have hr0:=Blk.new w 112 (firV .zero).toArray
 have HV:=Lib.hid hv
 have HA:=Lib.hid (fun (s:Int) (h1:-9223372036854775808 ≤ s) (h2:s ≤ 9223372036854775807) (W:World) (hb:Below w.heap.size w W)=>fahead_tot W v l ((hv.below hb).more hb.size) (ha.below hb (Nat.le_refl _)) ho s h1 h2)
 have HS:=Lib.hid (fun (f:Fir) (hf:Fires l f) (W:World) (hb:Below w.heap.size w W)=>saved_tot W v l ((hv.below hb).more hb.size) (ha.below hb (Nat.le_refl _)) ho f (fires_nom hf))
 have HSV:=Lib.hid ho
 have HF:=Lib.hid (show latestW l off i = backW l off i ((i + 180001) + farN).toNat (aheadF l (i + 180001)) from rfl)
 have HT:=Lib.hid (fun f (h:aheadF l (i + 180001) = some f)=>ahead_mem h)
 obtain ⟨o,hoo⟩:∃ o,aheadF l (i + 180001) = o:=⟨_,rfl⟩
 have h0:=HA.out (i + 180001) (by omega) (by omega) _ hb0
 have e1:i + 180000 + 1 = i + 180001:=by omega
 rw [hoo] at h0 HF HT
 have H0:=Lib.hid h0
 clear hv ha ho h0 hoo
 unfold resO at H0
 obtain ⟨g,hg⟩:∃ g,firO o = g:=⟨_,rfl⟩
 rw [hg] at H0
 unfold firA at H0
 have HG:=Lib.hid hg
 clear hg
 unfold firV Fir.zero at hb0 hr0 H0
 go_enter Tryz.func58,Tryz.ntmps58
 go_wp2_with fail
 refine H0.out.mono ?_
 rintro e w1 ⟨rfl,hb⟩
 have hb1:=hb0.trans (hb.mono hb0.size)
 have HR1:=Lib.hid ((hr0.below hb hr0.lt).alloc (.cells #[.int .i64 g.nominal,.int .i64 g.kind,.int .i64 g.save,.string g.letter] 112))
 have HX1:=Lib.hid (show FirB (w1.alloc (.cells #[.int .i64 g.nominal,.int .i64 g.kind,.int .i64 g.save,.string g.letter] 112)) w1.heap.size (firO o) by rw [HG.out];exact Blk.new w1 _ _)
 have hs1:=hb1.size
 have HB1:=Lib.hid (hb1.alloc hs1 (.cells #[.int .i64 g.nominal,.int .i64 g.kind,.int .i64 g.save,.string g.letter] 112))
 have hr1:=(hr0.below hb hr0.lt).lt
 obtain ⟨BX,hBX⟩:∃ n,w1.heap.size = n:=⟨_,rfl⟩
 clear hb hb0 hb1 hr0 H0
 go_wp2_with fail
 rw [hBX] at HX1 hr1 hs1
 try simp only [hBX]
 clear hBX
 go_loopw [9] (fun fv wr=>∃ o N,fv = .bool (Option.isSome o)∧FirB wr BX (firO o)∧FirB wr w.heap.size .zero∧backW l off i N o = latestW l off i∧(∀ f,o = some f→Fires l f∧f.nominal + farN < (N:Int))∧Below w.heap.size w wr) (fun fv W=>match fv with | .bool true=>(intOf ((W.cell? ⟨BX,0,none⟩).getD undef) + farN + 1).toNat | _=>0)
 case atStart=>exact ⟨o,((i + 180001) + farN).toNat,rfl,HX1.out,HR1.out,HF.out.symm,fun f hf=>⟨(HT.out f hf).1,by have:=(HT.out f hf).2;unfold farN;omega⟩,HB1.out⟩
 case round =>
  clear HX1 HR1 HB1 HF HT HG
  obtain ⟨o,N,rfl,hx,hr,hbk,hfr,hbw⟩:=hrel
  have HR:=Lib.hid hr
  have HBK:=Lib.hid hbk
  have HFR:=Lib.hid hfr
  have HBW:=Lib.hid hbw
  have HX:=Lib.hid hx
  have hxl:=Blk.lt hx
  have hrl:=Blk.lt hr
  have hws:=hbw.size
  clear hr hbk hfr hbw
  rcases o with _ | f
  ·have HZ:=Lib.hid (show latestW l off i = none by
    rw [← HBK.out]
    cases N <;> rfl)
   clear hx
   go_wp2_with fail
   refine wp_env (fin:=?fnn) (by kernel_rfl) [18,19,20,21,22,23,24,25,26,27,28]
    [.bool false,.bool false,undef,undef,undef,undef,undef,undef,undef,undef,.bool false] (by kernel_rfl) ?finn ?stepsn ?nextn
   case finn =>
    simp only [putAll,Act.put,List.setIfInBounds_toArray,List.set_cons_succ,List.set_cons_zero]
    rfl
   case stepsn =>
    refine ⟨?_,?_,?_,?_,?_,?_,?_,?_,?_,?_,?_,trivial⟩
    all_goals first | exact .inl ⟨by kernel_rfl,rfl⟩ | refine .inr ⟨by kernel_rfl,fun w1_ hB_=>?_⟩
    all_goals
     skip
     go_simp
     first
      | exact ⟨rfl,Below.refl _ _⟩
      | ((first | rw [decide_eq_true (by omega)] | rw [decide_eq_false (by omega)] | rw [if_pos (by omega)] | rw [IntWalk.i64_in _ (by omega)]);exact ⟨rfl,Below.refl _ _⟩)
      | done
   case nextn =>
   intro w2 hb2
   have hx2:FirB w2 BX (firO none):=HX.out.below hb2 hxl
   have hr2:=HR.out.below hb2 hrl
   have HB2:=Lib.hid (HBW.out.trans (hb2.mono hws))
   have hx2l:=Blk.lt hx2
   have hr2l:=Blk.lt hr2
   obtain ⟨q,hq⟩:∃ q,firO none = q:=⟨_,rfl⟩
   have HFO:=Lib.hid (show resO none = .tuple #[firA q,.bool (Option.isSome none)] by unfold resO;rw [hq])
   rw [hq] at hx2
   have q0:=Blk.cell hx2 0 (v:=.int .i64 q.nominal) rfl
   have q1:=Blk.cell hx2 1 (v:=.int .i64 q.kind) rfl
   have q2:=Blk.cell hx2 2 (v:=.int .i64 q.save) rfl
   have q3:=Blk.cell hx2 3 (v:=.string q.letter) rfl
   have p0:=Blk.cell hr2 0 (v:=.int .i64 0) rfl
   have p1:=Blk.cell hr2 1 (v:=.int .i64 0) rfl
   have p2:=Blk.cell hr2 2 (v:=.int .i64 0) rfl
   have p3:=Blk.cell hr2 3 (v:=.string ⟨#[]⟩) rfl
   have z0:=Blk.frozen hr2 0
   have z1:=Blk.frozen hr2 1
   have z2:=Blk.frozen hr2 2
   have z3:=Blk.frozen hr2 3
   have HY:=Lib.hid ((((Blk.set hr2 0 (.int .i64 q.nominal)).set 1 (.int .i64 q.kind)).set 2 (.int .i64 q.save)).set 3 (.string q.letter))
   clear hx2 hr2 hb2 hq
   go_wp2_with fail
   have v0:=HY.out.cell 0 (v:=.int .i64 q.nominal) rfl
   have v1:=HY.out.cell 1 (v:=.int .i64 q.kind) rfl
   have v2:=HY.out.cell 2 (v:=.int .i64 q.save) rfl
   have v3:=HY.out.cell 3 (v:=.string q.letter) rfl
   refine bodyPost_ret (v:=resO none) ?_ rfl ⟨by rw [HZ.out],below_set4 HB2.out (by omega) _ _ _ _⟩
   rw [HFO.out]
   simp [results,Tryz.f58,go_sem,v0,v1,v2,v3,firA]
  ·obtain ⟨hff,hfn⟩:=HFR.out f rfl
   have hnom:=fires_nom hff
   obtain ⟨M,rfl⟩:∃ M,N = M + 1:=⟨N - 1,by unfold farN at hfn;omega⟩
   have HSF:=Lib.hid (HS.out f hff)
   have hsi:=savedT_in HSV.out f
   have HI:=Lib.hid (fun (W:World)=>inst_tot W f off (savedF l f) (by omega) ho1 hsi)
   have HBK2:=Lib.hid (show (if i < instW f off (savedF l f) then backW l off i M (aheadF l f.nominal) else some f) = latestW l off i from HBK.out)
   generalize savedF l f = sv at *
   generalize instW f off sv = ins at *
   rw [show firO (some f) = f from rfl] at hx HX
   have HCELL:=Lib.hid (fun (W:World) (h:Below wr.heap.size wr W)=>show W.cell? ⟨BX,0,none⟩ = some (.int .i64 f.nominal)∧W.cell? ⟨BX,1,none⟩ = some (.int .i64 f.kind)∧W.cell? ⟨BX,2,none⟩ = some (.int .i64 f.save)∧W.cell? ⟨BX,3,none⟩ = some (.string f.letter) from ⟨(Blk.below HX.out h hxl).cell 0 rfl,(Blk.below HX.out h hxl).cell 1 rfl,(Blk.below HX.out h hxl).cell 2 rfl,(Blk.below HX.out h hxl).cell 3 rfl⟩)
   have HSC:=Lib.hid (fun (W:World) (h:Below wr.heap.size wr W)=>HSF.out W (HBW.out.trans (h.mono hws)))
   unfold firA at HSC HI
   clear hx HSF
   by_cases hlt:i < ins
   ·have hd:decide (i < ins) = true:=decide_eq_true hlt
    rw [if_pos hlt] at HBK2
    go_wp2_with fail
    refine wp_env (fin:=?fnt) (by kernel_rfl) [18,19,20,21,22,23,24,25,26,27,28]
     [.bool true,.bool true,.agg #[.int .i64 f.nominal,.int .i64 f.kind,.int .i64 f.save,.string f.letter],.int .i64 off,v,.agg #[.int .i64 f.nominal,.int .i64 f.kind,.int .i64 f.save,.string f.letter],.int .i64 sv,.int .i64 ins,.int .i64 i,.bool true,.bool true] (by kernel_rfl) ?fint ?stepst ?nextt
    case fint =>
     simp only [putAll,Act.put,List.setIfInBounds_toArray,List.set_cons_succ,List.set_cons_zero]
     rfl
    case stepst =>
     refine ⟨?_,?_,?_,?_,?_,?_,?_,?_,?_,?_,?_,trivial⟩
     all_goals refine .inr ⟨by kernel_rfl,fun w1_ hB_=>?_⟩
     all_goals
      obtain ⟨d0,d1,d2,d3⟩:=HCELL.out w1_ hB_
      go_simp
      first
       | exact ⟨rfl,Below.refl _ _⟩
       | exact ⟨rfl,HSC.out w1_ hB_⟩
       | exact ⟨rfl,HI.out w1_⟩
       | ((first | rw [decide_eq_true (by omega)] | rw [decide_eq_false (by omega)] | rw [if_pos (by omega)] | rw [IntWalk.i64_in _ (by omega)]);exact ⟨rfl,Below.refl _ _⟩)
       | done
    case nextt =>
    intro w2 hb2
    have hb3:=HBW.out.trans (hb2.mono hws)
    have HX2:=Lib.hid (HX.out.below hb2 hxl)
    have HR2:=Lib.hid (HR.out.below hb2 hrl)
    have hx2l:=HX2.out.lt
    have x0:=HX2.out.cell 0 (v:=.int .i64 f.nominal) rfl
    have HA2:=Lib.hid (HA.out f.nominal (by omega) (by omega) w2 hb3)
    have HAM:=Lib.hid (fun g (h:aheadF l f.nominal = some g)=>ahead_mem h)
    have HB2:=Lib.hid hb3
    have hs2:=hb3.size
    obtain ⟨o2,ho2⟩:∃ o2,aheadF l f.nominal = o2:=⟨_,rfl⟩
    rw [ho2] at HA2 HBK2 HAM
    unfold resO at HA2
    obtain ⟨q,hq⟩:∃ q,firO o2 = q:=⟨_,rfl⟩
    have HQ:=Lib.hid hq
    rw [hq] at HA2
    unfold firA at HA2
    clear hb2 hb3 ho2 hq
    go_wp2_with fail
    refine HA2.out.mono ?_
    rintro e w3 ⟨rfl,hb⟩
    have HX3:=Lib.hid (HX2.out.below hb hx2l)
    have HR3:=Lib.hid (HR2.out.below hb HR2.out.lt)
    have HB3:=Lib.hid (HB2.out.trans (hb.mono hs2))
    have hx3l:=HX3.out.lt
    have q0:=HX3.out.cell 0 (v:=.int .i64 f.nominal) rfl
    have q1:=HX3.out.cell 1 (v:=.int .i64 f.kind) rfl
    have q2:=HX3.out.cell 2 (v:=.int .i64 f.save) rfl
    have q3:=HX3.out.cell 3 (v:=.string f.letter) rfl
    have z0:=HX3.out.frozen 0
    have z1:=HX3.out.frozen 1
    have z2:=HX3.out.frozen 2
    have z3:=HX3.out.frozen 3
    clear hb x0
    go_wp2_with fail
    have hy:=(((HX3.out.set 0 (.int .i64 q.nominal)).set 1 (.int .i64 q.kind)).set 2 (.int .i64 q.save)).set 3 (.string q.letter)
    go_roundw
    case rel =>
     refine ⟨o2,M,rfl,by rw [HQ.out];exact hy,(((HR3.out.other (by omega) 0 _).other (by omega) 1 _).other (by omega) 2 _).other (by omega) 3 _,HBK2.out,fun g hg=>⟨(HAM.out g hg).1,by have:=(HAM.out g hg).2;unfold farN at hfn ⊢;omega⟩,below_set4 HB3.out (by omega) _ _ _ _⟩
    case measure =>
     rw [HX.out.cell 0 (v:=.int .i64 f.nominal) rfl]
     rcases o2 with _ | g
     ·show 0 < (f.nominal + farN + 1).toNat
      unfold farN;omega
     ·obtain rfl:g = q:=HQ.out
      have:=(HAM.out g rfl).2
      show (intOf ((World.cell? _ _).getD undef) + farN + 1).toNat < (f.nominal + farN + 1).toNat
      rw [hy.cell 0 (v:=.int .i64 g.nominal) rfl]
      show (g.nominal + farN + 1).toNat < _
      unfold farN;omega
   ·have hd:decide (i < ins) = false:=decide_eq_false hlt
    rw [if_neg hlt] at HBK2
    go_wp2_with fail
    refine wp_env (fin:=?fnf) (by kernel_rfl) [18,19,20,21,22,23,24,25,26,27,28]
     [.bool true,.bool true,.agg #[.int .i64 f.nominal,.int .i64 f.kind,.int .i64 f.save,.string f.letter],.int .i64 off,v,.agg #[.int .i64 f.nominal,.int .i64 f.kind,.int .i64 f.save,.string f.letter],.int .i64 sv,.int .i64 ins,.int .i64 i,.bool false,.bool false] (by kernel_rfl) ?finf ?stepsf ?nextf
    case finf =>
     simp only [putAll,Act.put,List.setIfInBounds_toArray,List.set_cons_succ,List.set_cons_zero]
     rfl
    case stepsf =>
     refine ⟨?_,?_,?_,?_,?_,?_,?_,?_,?_,?_,?_,trivial⟩
     all_goals refine .inr ⟨by kernel_rfl,fun w1_ hB_=>?_⟩
     all_goals
      obtain ⟨d0,d1,d2,d3⟩:=HCELL.out w1_ hB_
      go_simp
      first
       | exact ⟨rfl,Below.refl _ _⟩
       | exact ⟨rfl,HSC.out w1_ hB_⟩
       | exact ⟨rfl,HI.out w1_⟩
       | ((first | rw [decide_eq_true (by omega)] | rw [decide_eq_false (by omega)] | rw [if_pos (by omega)] | rw [IntWalk.i64_in _ (by omega)]);exact ⟨rfl,Below.refl _ _⟩)
       | done
    case nextf =>
    intro w2 hb2
    have hx2:FirB w2 BX (firO (some f)):=HX.out.below hb2 hxl
    have hr2:=HR.out.below hb2 hrl
    have HB2:=Lib.hid (HBW.out.trans (hb2.mono hws))
    have hx2l:=Blk.lt hx2
    have hr2l:=Blk.lt hr2
    obtain ⟨q,hq⟩:∃ q,firO (some f) = q:=⟨_,rfl⟩
    have HFO:=Lib.hid (show resO (some f) = .tuple #[firA q,.bool (Option.isSome (some f))] by unfold resO;rw [hq])
    rw [hq] at hx2
    have q0:=Blk.cell hx2 0 (v:=.int .i64 q.nominal) rfl
    have q1:=Blk.cell hx2 1 (v:=.int .i64 q.kind) rfl
    have q2:=Blk.cell hx2 2 (v:=.int .i64 q.save) rfl
    have q3:=Blk.cell hx2 3 (v:=.string q.letter) rfl
    have p0:=Blk.cell hr2 0 (v:=.int .i64 0) rfl
    have p1:=Blk.cell hr2 1 (v:=.int .i64 0) rfl
    have p2:=Blk.cell hr2 2 (v:=.int .i64 0) rfl
    have p3:=Blk.cell hr2 3 (v:=.string ⟨#[]⟩) rfl
    have z0:=Blk.frozen hr2 0
    have z1:=Blk.frozen hr2 1
    have z2:=Blk.frozen hr2 2
    have z3:=Blk.frozen hr2 3
    have HY:=Lib.hid ((((Blk.set hr2 0 (.int .i64 q.nominal)).set 1 (.int .i64 q.kind)).set 2 (.int .i64 q.save)).set 3 (.string q.letter))
    clear hx2 hr2 hb2 hq
    go_wp2_with fail
    have v0:=HY.out.cell 0 (v:=.int .i64 q.nominal) rfl
    have v1:=HY.out.cell 1 (v:=.int .i64 q.kind) rfl
    have v2:=HY.out.cell 2 (v:=.int .i64 q.save) rfl
    have v3:=HY.out.cell 3 (v:=.string q.letter) rfl
    refine bodyPost_ret (v:=resO (some f)) ?_ rfl ⟨by rw [HBK2.out],below_set4 HB2.out (by omega) _ _ _ _⟩
    rw [HFO.out]
    simp [results,Tryz.f58,go_sem,v0,v1,v2,v3,firA]
end
section -- UFired
open Go Go.RowKit Go.Shelf
attribute [local go_sem] Oper.semAt_some
theorem RW.behindT {W:World} {B:Nat} {v:Value} {l:List Rul} (h:RW W B v l) (ho:numsR l) (s:Int) (h1:-9223372036854775808 ≤ s) (h2:s ≤ 9223372036854775807) :
  Calls Tryz.prog 117 #[v,.int .i64 s] W fun e w'=>e = .returned (resO (behindF l s))∧Below W.heap.size W w':=fbehind_tot W v l (h.ruls.more h.le) h.ahead ho s h1 h2
theorem RW.savedT {W:World} {B:Nat} {v:Value} {l:List Rul} (h:RW W B v l) (ho:numsR l) (f:Fir) (hf:Fires l f) :
  Calls Tryz.prog 93 #[v,firA f] W fun e w'=>e = .returned (.int .i64 (savedF l f))∧Below W.heap.size W w':=saved_tot W v l (h.ruls.more h.le) h.ahead ho f (fires_nom hf)
structure FirAtW (l:List Rul) (off fr to:Int) (xb:Nat) (J:List (Int × Fir)→(Nat→Prop)→World→Prop) (O0:Nat→Prop) (W:World) (pre:List (Int × Fir)) (O:Nat→Prop) (o:Option Fir) (N:Nat) (wr:World):Prop where
 j:J pre O wr
 bd:Bd O wr
 ext:∀ k,O k→O0 k∨W.heap.size ≤ k
 nx:¬ O xb
 xs:W.heap.size ≤ xb
 x:FirB wr xb (firO o)
 frm:Fr O0 W wr
 now:pre ++ firedNW l off fr to N o = firedW l off fr to
 fuel:∀ f,o = some f→Fires l f∧to + 180001 - f.nominal < (N:Int)
structure FirMidW (l:List Rul) (off fr to:Int) (xb:Nat) (J:List (Int × Fir)→(Nat→Prop)→World→Prop) (O0:Nat→Prop) (W:World) (pre:List (Int × Fir)) (O:Nat→Prop) (f:Fir) (M:Nat) (wr:World):Prop where
 j:J pre O wr
 bd:Bd O wr
 ext:∀ k,O k→O0 k∨W.heap.size ≤ k
 nx:¬ O xb
 xs:W.heap.size ≤ xb
 x:FirB wr xb f
 frm:Fr O0 W wr
 now:pre ++ firedNW l off fr to M (behindF l (f.nominal + 1)) = firedW l off fr to
 fire:Fires l f
 fuel:to + 180000 - f.nominal < (M:Int)
section
variable {l:List Rul} {off fr to:Int} {xb:Nat} {J:List (Int × Fir)→(Nat→Prop)→World→Prop} {O0 O O' D:Nat→Prop} {W wr w4 W5:World} {pre:List (Int × Fir)} {o:Option Fir} {f:Fir} {N M:Nat}
theorem firedNW_none:∀ N,firedNW l off fr to N none = []:=fun N=>by cases N <;> rfl
theorem firedNW_far (h:to + 180000 < f.nominal):∀ N,firedNW l off fr to N (some f) = []:=fun N=>by
 cases N with
 | zero=>rfl
 | succ N=>unfold firedNW;rw [if_neg (by omega)]
theorem FirAtW.skip (h:FirAtW l off fr to xb J O0 W pre O (some f) (M + 1) wr) (fJ:Feet J) (hle:f.nominal ≤ to + 180000) (hout:instW f off (savedF l f) ≤ fr∨to < instW f off (savedF l f)) (hb:Below wr.heap.size wr w4):FirMidW l off fr to xb J O0 W pre O f M w4:=by
 have hn:=h.now
 unfold firedNW at hn
 rw [if_pos hle,if_pos hout] at hn
 have hfu:=h.fuel f rfl
 exact ⟨fJ _ _ _ _ h.j (Fr.of_below hb (Nat.le_refl _)),h.bd.fr (Fr.of_below (T:=fun _=>True) hb (Nat.le_refl _)),h.ext,h.nx,h.xs,Blk.below h.x hb (Blk.lt h.x),h.frm.then (Fr.of_below hb (Nat.le_refl _)),hn,hfu.1,by have:=hfu.2;push_cast at this;omega⟩
theorem FirAtW.rest (h:FirAtW l off fr to xb J O0 W pre O (some f) (M + 1) wr) (hle:f.nominal ≤ to + 180000) (hin:¬ (instW f off (savedF l f) ≤ fr∨to < instW f off (savedF l f))):firedW l off fr to = pre ++ (instW f off (savedF l f),f) :: firedNW l off fr to M (behindF l (f.nominal + 1)):=by
 have hn:=h.now
 unfold firedNW at hn
 rw [if_pos hle,if_neg hin] at hn
 exact hn.symm
theorem FirAtW.out_ (h:FirAtW l off fr to xb J O0 W pre O o N wr) (hb4:Below wr.heap.size wr w4) (hD:∀ k,¬ D k) (hx:∀ k,O' k→O k∨D k∨w4.heap.size ≤ k) (hf5:Fr (fun k=>O k∨D k) w4 W5):(∀ k,O' k→O0 k∨W.heap.size ≤ k)∧Fr O0 W W5:=by
 have h1:=h.frm.size
 have h2:=hb4.size
 refine ⟨fun k hk=>?_,(h.frm.then (Fr.of_below hb4 (Nat.le_refl _))).trans hf5 fun k hk=>?_⟩
 ·rcases hx k hk with h3 | h3 | h3
  ·exact h.ext k h3
  ·exact absurd h3 (hD k)
  ·exact .inr (by omega)
 ·rcases hk with h3 | h3
  ·exact h.ext k h3
  ·exact absurd h3 (hD k)
theorem FirAtW.hit (h:FirAtW l off fr to xb J O0 W pre O (some f) (M + 1) wr) (hle:f.nominal ≤ to + 180000) (hin:¬ (instW f off (savedF l f) ≤ fr∨to < instW f off (savedF l f)))
  (hb4:Below wr.heap.size wr w4) (hD:∀ k,¬ D k) (hx:∀ k,O' k→O k∨D k∨w4.heap.size ≤ k) (hbd:Bd O' W5) (hf5:Fr (fun k=>O k∨D k) w4 W5) (hJ:J (pre ++ [(instW f off (savedF l f),f)]) O' W5):FirMidW l off fr to xb J O0 W (pre ++ [(instW f off (savedF l f),f)]) O' f M W5:=by
 obtain ⟨e1,e2⟩:=h.out_ hb4 hD hx hf5
 have hfu:=h.fuel f rfl
 have hxl:=Blk.lt h.x
 have h2:=hb4.size
 refine ⟨hJ,hbd,e1,fun e=>?_,h.xs,(Blk.below h.x hb4 hxl).fr hf5 (fun e=>by rcases e with e | e;exact h.nx e;exact hD _ e),e2,?_,hfu.1,by have:=hfu.2;push_cast at this;omega⟩
 ·rcases hx _ e with e | e | e
  ·exact h.nx e
  ·exact hD _ e
  ·omega
 ·rw [List.append_assoc]
  exact (h.rest hle hin).symm
theorem FirMidW.next (h:FirMidW l off fr to xb J O0 W pre O f M wr) (fJ:Feet J) {W6:World} (h6:Fr (fun k=>k = xb) wr W6) (hX6:FirB W6 xb (firO (behindF l (f.nominal + 1)))):FirAtW l off fr to xb J O0 W pre O (behindF l (f.nominal + 1)) M W6 :=
 ⟨fJ _ _ _ _ h.j (h6.mono fun k hk=>.inl fun hO=>by subst hk;exact h.nx hO),h.bd.fr h6,h.ext,h.nx,h.xs,hX6,h.frm.trans h6 (fun k hk=>.inr (by subst hk;exact h.xs)),h.now,fun g hg=>⟨(behind_mem hg).1,by have:=(behind_mem hg).2;have:=h.fuel;omega⟩⟩
end
def RFW (l:List Rul) (off fr to:Int) (B2:Nat) (Wb:World) (pre:List (Int × Fir)) (x:Int × Fir) (D:Nat→Prop) (W:World):Prop:=(∀ j,¬ D j)∧(∃ rest,firedW l off fr to = pre ++ x :: rest)∧∀ k,k < B2→W.heap[k]? = Wb.heap[k]?
theorem fired_inW (n:Nat) (hn:2 ≤ n) (lp lb fb tb ob B B2:Nat) (Wb:World) (v:Value) (l:List Rul) (off fr to:Int) (W:World)
  (hl:Blk W lb 52 #[v]) (hf:Blk W fb 3 #[.int .i64 fr]) (ht:Blk W tb 3 #[.int .i64 to]) (hob:Blk W ob 3 #[.int .i64 off]) (hrw:RW W B v l) (ho:numsR l)
  (ho1:-1000000000000000 ≤ off∧off ≤ 1000000000000000) (hf1:-9000000000000000000 ≤ fr∧fr ≤ 9000000000000000000) (ht1:-4500000000000 ≤ to∧to ≤ 9000000000000000000)
  (J Jx:List (Int × Fir)→(Nat→Prop)→World→Prop) (fJ:Feet J) (hB2:B2 ≤ W.heap.size) (hWb:∀ k,k < B2→W.heap[k]? = Wb.heap[k]?) (hY:RoundsIn Fence.wide (n - 1) Tryz.prog lp encF (RFW l off fr to B2 Wb) J Jx)
  (O0:Nat→Prop) (h0:J [] O0 W) (hO0:Bd O0 W) (hK0:∀ k,KF lb fb tb ob B k∨k < B2→¬ O0 k) :
  CallsIn Fence.wide n Tryz.prog 116 #[.func (.yield lp) #[] #[],.pointer (some ⟨lb,0,none⟩),.pointer (some ⟨fb,0,none⟩),.pointer (some ⟨tb,0,none⟩),.pointer (some ⟨ob,0,none⟩)] W (IterEnd (fun xs=>xs = firedW l off fr to) (fun pre=>∃ rest,firedW l off fr to = pre ++ rest) J Jx O0 (fun _=>False) W):=by
 have hK:∀ k,KF lb fb tb ob B k→¬ O0 k:=fun k h=>hK0 k (.inl h)
 have HBH:=Lib.hid (callsIn_wide (n:=n - 1).2 (hrw.behindT ho (fr - 180000) (by omega) (by omega)))
 have ql:W.cell? ⟨lb,0,none⟩ = some v:=hl.cell 0 rfl
 have qf:W.cell? ⟨fb,0,none⟩ = some (.int .i64 fr):=hf.cell 0 rfl
 have HRW:=Lib.hid hrw
 have HT:=Lib.hid (fun f (h:behindF l (fr - 180000) = some f)=>behind_mem h)
 have HF:=Lib.hid (show firedW l off fr to = firedNW l off fr to (to + 180001 + farN).toNat (behindF l (fr - 180000)) from rfl)
 obtain ⟨o,hoo⟩:∃ o,behindF l (fr - 180000) = o:=⟨_,rfl⟩
 rw [hoo] at HBH HT HF
 unfold resO at HBH
 obtain ⟨g,hg⟩:∃ g,firO o = g:=⟨_,rfl⟩
 have HG:=Lib.hid hg
 rw [hg] at HBH
 unfold firA at HBH
 clear hoo hg
 refine callsIn_of_wp Tryz.func116 rfl trivial ?_ rfl
 simp only [Tryz.ntmps116,List.size_toArray,List.length_cons,List.length_nil,Nat.reduceAdd,Nat.reduceSub,Array.replicate_succ,Array.replicate_zero,List.push_toArray,List.append_toArray,List.nil_append,List.cons_append]
 refine wpIn_scope ?_
 gi_wp2
 refine ⟨trivial,fun _=>by omega,HBH.out.mono ?_⟩
 rintro e w1 ⟨rfl,hb1⟩
 clear HBH ql qf
 gi_wp2
 refine wpIn_label ?_
 have hX:=Blk.new w1 112 #[.int .i64 g.nominal,.int .i64 g.kind,.int .i64 g.save,.string g.letter]
 obtain ⟨W2,hW2⟩:∃ W2,w1.alloc (.cells #[.int .i64 g.nominal,.int .i64 g.kind,.int .i64 g.save,.string g.letter] 112) = W2:=⟨_,rfl⟩
 have hb2:Below W.heap.size W W2:=by rw [← hW2];exact hb1.alloc hb1.size _
 have hs2:=hb1.size
 rw [hW2] at hX ⊢
 clear hW2
 have hF2:∀ T,Fr T W W2:=fun T=>Fr.of_below hb2 (Nat.le_refl _)
 have HS0:=Lib.hid (show FirAtW l off fr to w1.heap.size J O0 W [] O0 o (to + 180001 + farN).toNat W2 from
  ⟨fJ _ _ _ _ h0 (hF2 _),hO0.fr (hF2 (fun _=>True)),fun k h=>.inl h,fun h=>by have:=hO0 _ h;omega,hs2,by rw [HG.out];exact hX,hF2 _,HF.out.symm,fun f hf=>⟨(HT.out f hf).1,by have:=fires_nom (HT.out f hf).1;unfold farN;omega⟩⟩)
 clear hX hF2 hb2 h0 hO0 hb1 HG HT HF
 generalize w1.heap.size = xb at *
 gi_wp2
 gi_loopw [7] (fun fv wr=>∃ pre O o N,fv = .bool (Option.isSome o)∧FirAtW l off fr to xb J O0 W pre O o N wr) (fun fv W=>match fv with | .bool true=>(4000000000001 - intOf ((W.cell? ⟨xb,0,none⟩).getD undef)).toNat | _=>0)
 case atStart=>exact ⟨[],O0,o,_,rfl,HS0.out⟩
 case round =>
  clear HS0
  obtain ⟨pre,O,o,N,rfl,hS⟩:=hrel
  have HS:=Lib.hid hS
  have hrw1:=HRW.out.fr hS.frm (fun k hk=>hK _ (.inr (.inr (.inr (.inr hk)))))
  have hlw:=hl.fr hS.frm (hK _ (.inl rfl))
  have hfw:=hf.fr hS.frm (hK _ (.inr (.inl rfl)))
  have htw:=ht.fr hS.frm (hK _ (.inr (.inr (.inl rfl))))
  have how:=hob.fr hS.frm (hK _ (.inr (.inr (.inr (.inl rfl)))))
  have HX:=Lib.hid hS.x
  have hxl:=Blk.lt hS.x
  clear hS
  rcases o with _ | f
  ·have HE:=Lib.hid (show pre = firedW l off fr to by have:=HS.out.now;rwa [firedNW_none,List.append_nil] at this)
   clear hrw1 hlw hfw htw how
   gi_wp2
   refine bodyPost_end (results_none rfl _ _ _) rfl ?_
   exact ⟨⟨_,rfl⟩,O,HS.out.ext,HS.out.bd,HS.out.frm.mono (fun _ h=>.inl (.inl h)),.inl ⟨pre,HE.out,HS.out.j⟩⟩
  ·obtain ⟨hff,hfu⟩:=HS.out.fuel f rfl
   have hnom:=fires_nom hff
   have x0:wr.cell? ⟨xb,0,none⟩ = some (.int .i64 f.nominal):=Blk.cell HX.out 0 rfl
   have qt:wr.cell? ⟨tb,0,none⟩ = some (.int .i64 to):=htw.cell 0 rfl
   by_cases hle:f.nominal ≤ to + 180000
   ·have hd:decide (f.nominal ≤ to + 180000) = true:=decide_eq_true hle
    obtain ⟨M,rfl⟩:∃ M,N = M + 1:=⟨N - 1,by omega⟩
    have hsi:=savedT_in ho f
    have HSV:=Lib.hid (fun (w':World) (hb:Below wr.heap.size wr w')=>(hrw1.below hb).savedT ho f hff)
    have HI:=Lib.hid (fun (w':World)=>inst_tot w' f off (savedF l f) (by omega) ho1 hsi)
    have HSK:=Lib.hid (fun w' h hb=>HS.out.skip (w4:=w') fJ hle h hb)
    have HRS:=Lib.hid (fun h=>HS.out.rest hle h)
    have HHT:=Lib.hid (fun (D O':Nat→Prop) (w4 W5:World) h hb hD hx hbd hf5 hJ=>HS.out.hit (D:=D) (O':=O') (w4:=w4) (W5:=W5) hle h hb hD hx hbd hf5 hJ)
    have hir:-9223372036854775808 ≤ instW f off (savedF l f)∧instW f off (savedF l f) ≤ 9223372036854775807:=instW_range (by omega) ho1
    obtain ⟨sv,hsv2⟩:∃ sv,savedF l f = sv:=⟨_,rfl⟩
    rw [hsv2] at HSV HI HSK HRS HHT hir
    obtain ⟨ins,hins⟩:∃ ins,instW f off sv = ins:=⟨_,rfl⟩
    rw [hins] at HI HSK HRS HHT hir
    unfold firA at HSV HI
    have HCELL:=Lib.hid (fun (W':World) (h:Below wr.heap.size wr W')=>show W'.cell? ⟨xb,0,none⟩ = some (.int .i64 f.nominal)∧W'.cell? ⟨xb,1,none⟩ = some (.int .i64 f.kind)∧W'.cell? ⟨xb,2,none⟩ = some (.int .i64 f.save)∧W'.cell? ⟨xb,3,none⟩ = some (.string f.letter)∧W'.cell? ⟨ob,0,none⟩ = some (.int .i64 off)∧W'.cell? ⟨lb,0,none⟩ = some v from
     ⟨(Blk.below HX.out h hxl).cell 0 rfl,(Blk.below HX.out h hxl).cell 1 rfl,(Blk.below HX.out h hxl).cell 2 rfl,(Blk.below HX.out h hxl).cell 3 rfl,(how.below h how.lt).cell 0 rfl,(hlw.below h hlw.lt).cell 0 rfl⟩)
    clear hsv2 hins hrw1
    gi_wp2
    refine wpIn_env (fin:=?fne) (wide0) (by kernel_rfl) [32,33,34,35,36,37,8]
     [.agg #[.int .i64 f.nominal,.int .i64 f.kind,.int .i64 f.save,.string f.letter],.int .i64 off,v,.agg #[.int .i64 f.nominal,.int .i64 f.kind,.int .i64 f.save,.string f.letter],.int .i64 sv,.int .i64 ins,.int .i64 ins] (by kernel_rfl) ?fine ?stepse ?nexte
    case fine =>
     simp only [putAll,Act.put,List.setIfInBounds_toArray,List.set_cons_succ,List.set_cons_zero]
     rfl
    case stepse =>
     refine ⟨?_,?_,?_,?_,?_,?_,?_,trivial⟩
     all_goals refine .inr ⟨by kernel_rfl,fun w1_ hB_=>?_⟩
     all_goals
      obtain ⟨d0,d1,d2,d3,d4,d5⟩:=HCELL.out w1_ hB_
      go_simp
      first
       | exact ⟨rfl,Below.refl _ _⟩
       | exact ⟨rfl,HSV.out w1_ hB_⟩
       | exact ⟨rfl,HI.out w1_⟩
       | ((first | rw [decide_eq_true (by omega)] | rw [decide_eq_false (by omega)] | rw [if_pos (by omega)] | rw [IntWalk.i64_in _ (by omega)]);exact ⟨rfl,Below.refl _ _⟩)
       | done
    case nexte =>
    intro w3 hb3
    have qf3:w3.cell? ⟨fb,0,none⟩ = some (.int .i64 fr):=(hfw.below hb3 hfw.lt).cell 0 rfl
    have qt3:w3.cell? ⟨tb,0,none⟩ = some (.int .i64 to):=(htw.below hb3 htw.lt).cell 0 rfl
    obtain ⟨x0,x1,x2,x3,-,-⟩:=HCELL.out w3 hb3
    have HB3:=Lib.hid hb3
    have hxl3:xb < w3.heap.size:=Nat.lt_of_lt_of_le hxl hb3.size
    clear hb3 HSV HI HCELL hlw hfw htw how qt
    by_cases h1:ins ≤ fr
    ·have d1:decide (ins ≤ fr) = true:=decide_eq_true h1
     have HM:=Lib.hid (HSK.out w3 (.inl h1) HB3.out)
     clear HSK HRS HHT
     have hrw2:=HRW.out.fr HM.out.frm (fun k hk=>hK _ (.inr (.inr (.inr (.inr hk)))))
     have hlw:=hl.fr HM.out.frm (hK _ (.inl rfl))
     have HB2:=Lib.hid (callsIn_wide (n:=n - 1).2 (hrw2.behindT ho (f.nominal + 1) (by omega) (by omega)))
     have ql:w3.cell? ⟨lb,0,none⟩ = some v:=hlw.cell 0 rfl
     have hxl2:=Blk.lt HM.out.x
     have x0:=Blk.cell HM.out.x 0 (v:=.int .i64 f.nominal) rfl
     have HBM:=Lib.hid (fun g (h:behindF l (f.nominal + 1) = some g)=>behind_mem h)
     have HNX:=Lib.hid (fun (W6:World) (h6:Fr (fun k=>k = xb) w3 W6) (hX6:FirB W6 xb (firO (behindF l (f.nominal + 1))))=>HM.out.next fJ h6 hX6)
     obtain ⟨o2,ho2⟩:∃ o2,behindF l (f.nominal + 1) = o2:=⟨_,rfl⟩
     rw [ho2] at HB2 HBM HNX
     unfold resO at HB2
     obtain ⟨q,hq⟩:∃ q,firO o2 = q:=⟨_,rfl⟩
     have HQ:=Lib.hid hq
     rw [hq] at HB2
     unfold firA at HB2
     clear hrw2 hlw ho2 hq
     gi_wp2
     refine ⟨trivial,fun _=>by omega,HB2.out.mono ?_⟩
     rintro e w8 ⟨rfl,hb8⟩
     have hx8:=Blk.below HM.out.x hb8 hxl2
     have HX8:=Lib.hid hx8
     have hx8l:=Blk.lt hx8
     have HB8:=Lib.hid hb8
     have y0:=Blk.cell hx8 0 (v:=.int .i64 f.nominal) rfl
     have y1:=Blk.cell hx8 1 (v:=.int .i64 f.kind) rfl
     have y2:=Blk.cell hx8 2 (v:=.int .i64 f.save) rfl
     have y3:=Blk.cell hx8 3 (v:=.string f.letter) rfl
     have z0:=Blk.frozen hx8 0
     have z1:=Blk.frozen hx8 1
     have z2:=Blk.frozen hx8 2
     have z3:=Blk.frozen hx8 3
     clear hb8 hx8 HB2 ql x0
     gi_wp2
     have hy:=(((HX8.out.set 0 (.int .i64 q.nominal)).set 1 (.int .i64 q.kind)).set 2 (.int .i64 q.save)).set 3 (.string q.letter)
     have hm2:wr.cell? ⟨xb,0,none⟩ = some (.int .i64 f.nominal):=Blk.cell HX.out 0 rfl
     refine ⟨⟨_,_,o2,_,rfl,HNX.out _ ((Fr.of_below HB8.out (Nat.le_refl _)).then (fr_set4 w8 (T:=fun k=>k = xb) rfl _ _ _ _)) (by rw [HQ.out];exact hy)⟩,?_⟩
     rw [hm2]
     rcases o2 with _ | g
     ·show 0 < (4000000000001 - f.nominal).toNat
      omega
     ·obtain rfl:g = q:=HQ.out
      have:=(HBM.out g rfl).2
      show (4000000000001 - intOf ((World.cell? _ _).getD undef)).toNat < (4000000000001 - f.nominal).toNat
      rw [hy.cell 0 (v:=.int .i64 g.nominal) rfl]
      show (4000000000001 - g.nominal).toNat < _
      omega
    ·have d1:decide (ins ≤ fr) = false:=decide_eq_false h1
     by_cases h2:to < ins
     ·have d2:decide (to < ins) = true:=decide_eq_true h2
      have HM:=Lib.hid (HSK.out w3 (.inr h2) HB3.out)
      clear HSK HRS HHT
      have hrw2:=HRW.out.fr HM.out.frm (fun k hk=>hK _ (.inr (.inr (.inr (.inr hk)))))
      have hlw:=hl.fr HM.out.frm (hK _ (.inl rfl))
      have HB2:=Lib.hid (callsIn_wide (n:=n - 1).2 (hrw2.behindT ho (f.nominal + 1) (by omega) (by omega)))
      have ql:w3.cell? ⟨lb,0,none⟩ = some v:=hlw.cell 0 rfl
      have hxl2:=Blk.lt HM.out.x
      have x0:=Blk.cell HM.out.x 0 (v:=.int .i64 f.nominal) rfl
      have HBM:=Lib.hid (fun g (h:behindF l (f.nominal + 1) = some g)=>behind_mem h)
      have HNX:=Lib.hid (fun (W6:World) (h6:Fr (fun k=>k = xb) w3 W6) (hX6:FirB W6 xb (firO (behindF l (f.nominal + 1))))=>HM.out.next fJ h6 hX6)
      obtain ⟨o2,ho2⟩:∃ o2,behindF l (f.nominal + 1) = o2:=⟨_,rfl⟩
      rw [ho2] at HB2 HBM HNX
      unfold resO at HB2
      obtain ⟨q,hq⟩:∃ q,firO o2 = q:=⟨_,rfl⟩
      have HQ:=Lib.hid hq
      rw [hq] at HB2
      unfold firA at HB2
      clear hrw2 hlw ho2 hq
      gi_wp2
      refine ⟨trivial,fun _=>by omega,HB2.out.mono ?_⟩
      rintro e w8 ⟨rfl,hb8⟩
      have hx8:=Blk.below HM.out.x hb8 hxl2
      have HX8:=Lib.hid hx8
      have hx8l:=Blk.lt hx8
      have HB8:=Lib.hid hb8
      have y0:=Blk.cell hx8 0 (v:=.int .i64 f.nominal) rfl
      have y1:=Blk.cell hx8 1 (v:=.int .i64 f.kind) rfl
      have y2:=Blk.cell hx8 2 (v:=.int .i64 f.save) rfl
      have y3:=Blk.cell hx8 3 (v:=.string f.letter) rfl
      have z0:=Blk.frozen hx8 0
      have z1:=Blk.frozen hx8 1
      have z2:=Blk.frozen hx8 2
      have z3:=Blk.frozen hx8 3
      clear hb8 hx8 HB2 ql x0
      gi_wp2
      have hy:=(((HX8.out.set 0 (.int .i64 q.nominal)).set 1 (.int .i64 q.kind)).set 2 (.int .i64 q.save)).set 3 (.string q.letter)
      have hm2:wr.cell? ⟨xb,0,none⟩ = some (.int .i64 f.nominal):=Blk.cell HX.out 0 rfl
      refine ⟨⟨_,_,o2,_,rfl,HNX.out _ ((Fr.of_below HB8.out (Nat.le_refl _)).then (fr_set4 w8 (T:=fun k=>k = xb) rfl _ _ _ _)) (by rw [HQ.out];exact hy)⟩,?_⟩
      rw [hm2]
      rcases o2 with _ | g
      ·show 0 < (4000000000001 - f.nominal).toNat
       omega
      ·obtain rfl:g = q:=HQ.out
       have:=(HBM.out g rfl).2
       show (4000000000001 - intOf ((World.cell? _ _).getD undef)).toNat < (4000000000001 - f.nominal).toNat
       rw [hy.cell 0 (v:=.int .i64 g.nominal) rfl]
       show (4000000000001 - g.nominal).toNat < _
       omega
     ·have d2:decide (to < ins) = false:=decide_eq_false h2
      have hin:¬ (ins ≤ fr∨to < ins):=by omega
      have hsame:∀ k,k < B2→w3.heap[k]? = Wb.heap[k]?:=fun k hk=>by
       have h1:=HS.out.frm.block k (by omega) (hK0 k (.inr hk))
       have h2:=HB3.out.block k (by have:=HS.out.frm.size;omega)
       rw [h2,h1]
       exact hWb k hk
      obtain ⟨fn,tmps,assign,body,hyd,hR⟩:=hY pre (ins,f) (fun _=>False) O w3 (fJ _ _ _ _ HS.out.j (Fr.of_below HB3.out (Nat.le_refl _))) (HS.out.bd.fr (Fr.of_below (T:=fun _=>True) HB3.out (Nat.le_refl _))) (fun _ h=>h.elim) (fun _ h=>h.elim) ⟨fun _ h=>h,⟨_,HRS.out hin⟩,hsame⟩
      unfold encF firA at hyd
      gi_wp2
      refine ⟨fun _=>by omega,hR.mono ?_⟩
      rintro e W5 ⟨O5,hx5,hbd5,hf5,(⟨rfl,hJ5⟩ | ⟨rfl,hJx5⟩)⟩
      ·have HM:=Lib.hid (HHT.out _ _ w3 W5 hin HB3.out (fun _ h=>h) hx5 hbd5 hf5 hJ5)
       clear HSK HRS HHT hyd hR qf3 qt3 x0 x1 x2 x3
       have hrw2:=HRW.out.fr HM.out.frm (fun k hk=>hK _ (.inr (.inr (.inr (.inr hk)))))
       have hlw:=hl.fr HM.out.frm (hK _ (.inl rfl))
       have HB2:=Lib.hid (callsIn_wide (n:=n - 1).2 (hrw2.behindT ho (f.nominal + 1) (by omega) (by omega)))
       have ql:W5.cell? ⟨lb,0,none⟩ = some v:=hlw.cell 0 rfl
       have hxl2:=Blk.lt HM.out.x
       have x0:=Blk.cell HM.out.x 0 (v:=.int .i64 f.nominal) rfl
       have HBM:=Lib.hid (fun g (h:behindF l (f.nominal + 1) = some g)=>behind_mem h)
       have HNX:=Lib.hid (fun (W6:World) (h6:Fr (fun k=>k = xb) W5 W6) (hX6:FirB W6 xb (firO (behindF l (f.nominal + 1))))=>HM.out.next fJ h6 hX6)
       obtain ⟨o2,ho2⟩:∃ o2,behindF l (f.nominal + 1) = o2:=⟨_,rfl⟩
       rw [ho2] at HB2 HBM HNX
       unfold resO at HB2
       obtain ⟨q,hq⟩:∃ q,firO o2 = q:=⟨_,rfl⟩
       have HQ:=Lib.hid hq
       rw [hq] at HB2
       unfold firA at HB2
       clear hrw2 hlw ho2 hq
       gi_wp2
       refine ⟨trivial,fun _=>by omega,HB2.out.mono ?_⟩
       rintro e w8 ⟨rfl,hb8⟩
       have hx8:=Blk.below HM.out.x hb8 hxl2
       have HX8:=Lib.hid hx8
       have hx8l:=Blk.lt hx8
       have HB8:=Lib.hid hb8
       have y0:=Blk.cell hx8 0 (v:=.int .i64 f.nominal) rfl
       have y1:=Blk.cell hx8 1 (v:=.int .i64 f.kind) rfl
       have y2:=Blk.cell hx8 2 (v:=.int .i64 f.save) rfl
       have y3:=Blk.cell hx8 3 (v:=.string f.letter) rfl
       have z0:=Blk.frozen hx8 0
       have z1:=Blk.frozen hx8 1
       have z2:=Blk.frozen hx8 2
       have z3:=Blk.frozen hx8 3
       clear hb8 hx8 HB2 ql x0
       gi_wp2
       have hy:=(((HX8.out.set 0 (.int .i64 q.nominal)).set 1 (.int .i64 q.kind)).set 2 (.int .i64 q.save)).set 3 (.string q.letter)
       have hm2:wr.cell? ⟨xb,0,none⟩ = some (.int .i64 f.nominal):=Blk.cell HX.out 0 rfl
       refine ⟨⟨_,_,o2,_,rfl,HNX.out _ ((Fr.of_below HB8.out (Nat.le_refl _)).then (fr_set4 w8 (T:=fun k=>k = xb) rfl _ _ _ _)) (by rw [HQ.out];exact hy)⟩,?_⟩
       rw [hm2]
       rcases o2 with _ | g
       ·show 0 < (4000000000001 - f.nominal).toNat
        omega
       ·obtain rfl:g = q:=HQ.out
        have:=(HBM.out g rfl).2
        show (4000000000001 - intOf ((World.cell? _ _).getD undef)).toNat < (4000000000001 - f.nominal).toNat
        rw [hy.cell 0 (v:=.int .i64 g.nominal) rfl]
        show (4000000000001 - g.nominal).toNat < _
        omega
      ·obtain ⟨e1,e2⟩:=HS.out.out_ HB3.out (fun _ h=>h) hx5 hf5
       have HR2:=Lib.hid (HRS.out hin)
       gi_wp2
       refine bodyPost_end (results_none rfl _ _ _) rfl ?_
       exact ⟨⟨_,rfl⟩,O5,e1,hbd5,e2.mono (fun _ h=>.inl (.inl h)),.inr ⟨_,⟨_,by rw [List.append_assoc];exact HR2.out⟩,hJx5⟩⟩
   ·have hd:decide (f.nominal ≤ to + 180000) = false:=decide_eq_false hle
    have HE:=Lib.hid (show pre = firedW l off fr to by have:=HS.out.now;rwa [firedNW_far (by omega),List.append_nil] at this)
    clear hrw1 hlw hfw htw how
    gi_wp2
    refine bodyPost_end (results_none rfl _ _ _) rfl ?_
    exact ⟨⟨_,rfl⟩,O,HS.out.ext,HS.out.bd,HS.out.frm.mono (fun _ h=>.inl (.inl h)),.inl ⟨pre,HE.out,HS.out.j⟩⟩
theorem fired_iterW (n:Nat) (hn:2 ≤ n) (lb fb tb ob B:Nat) (v:Value) (l:List Rul) (off fr to:Int) (W:World)
  (hl:Blk W lb 52 #[v]) (hf:Blk W fb 3 #[.int .i64 fr]) (ht:Blk W tb 3 #[.int .i64 to]) (hob:Blk W ob 3 #[.int .i64 off]) (hrw:RW W B v l) (ho:numsR l)
  (ho1:-1000000000000000 ≤ off∧off ≤ 1000000000000000) (hf1:-9000000000000000000 ≤ fr∧fr ≤ 9000000000000000000) (ht1:-4500000000000 ≤ to∧to ≤ 9000000000000000000) :
  Iter Fence.wide n Tryz.prog 116 #[.pointer (some ⟨lb,0,none⟩),.pointer (some ⟨fb,0,none⟩),.pointer (some ⟨tb,0,none⟩),.pointer (some ⟨ob,0,none⟩)] encF (fun pre x D _=>(∀ j,¬ D j)∧∃ rest,firedW l off fr to = pre ++ x :: rest) (fun xs=>xs = firedW l off fr to) (fun pre=>∃ rest,firedW l off fr to = pre ++ rest) (KF lb fb tb ob B) (fun _=>False) W :=
 fun lp J Jx fJ _ hY O h0 hO hK=>fired_inW n hn lp lb fb tb ob B 0 W v l off fr to W hl hf ht hob hrw ho ho1 hf1 ht1 J Jx fJ (Nat.zero_le _) (fun k hk=>absurd hk (Nat.not_lt_zero k)) (fun pre x D O W' hJ hO hD hDO hR=>hY pre x D O W' hJ hO hD hDO ⟨hR.1,hR.2.1⟩) O h0 hO (fun k h=>h.elim (hK k) (fun h=>absurd h (Nat.not_lt_zero k)))
end
section -- AAhead
open Go Go.RowKit Go.Shelf
attribute [local go_sem] Oper.semAt_some
theorem firedN_mem {l:List Rul} {off fr to:Int}:∀ {n:Nat} {o:Option Fir},(∀ f,o = some f→Fires l f)→∀ x ∈ firedN l off fr to n o,Fires l x.2
 | 0,o,_,x,hx=>by cases hx
 | n + 1,none,_,x,hx=>by cases hx
 | n + 1,some f,h,x,hx=>by
   unfold firedN at hx
   have ih:=firedN_mem (n:=n) (off:=off) (fr:=fr) (to:=to) (o:=behindF l (f.nominal + 1)) (fun g hg=>(behind_mem hg).1) x
   split at hx
   ·split at hx
    ·exact ih hx
    ·rcases List.mem_cons.1 hx with rfl | hx
     ·exact h f rfl
     ·exact ih hx
   ·cases hx
theorem firedF_mem {l:List Rul} {off fr to:Int} {x:Int × Fir} (h:x ∈ firedF l off fr to):Fires l x.2:=firedN_mem (fun _ hf=>(behind_mem hf).1) x h
theorem backF_mem {l:List Rul} {off i:Int} {f:Fir}:∀ {n:Nat} {o:Option Fir},(∀ f,o = some f→Fires l f)→backF l off i n o = some f→Fires l f
 | 0,o,h,hf=>h f hf
 | n + 1,none,_,hf=>by cases hf
 | n + 1,some g,h,hf=>by
   unfold backF at hf
   split at hf
   ·exact backF_mem (fun x hx=>(ahead_mem hx).1) hf
   ·exact h f hf
theorem latestF_mem {l:List Rul} {off i:Int} {f:Fir} (h:latestF l off i = some f):Fires l f:=backF_mem (fun _ hx=>(ahead_mem hx).1) h
def EndI (eb nb sb:Nat) (e:EraN) (ru f:ByteArray) (en:Bool) (n sv0:Int) (pre:List (Int × Fir)) (O:Nat→Prop) (W:World):Prop :=
 (O eb∧O nb∧O sb)∧EraB W eb e ru f en∧Blk W nb 3 #[.int .i64 n]∧∃ sv,Blk W sb 3 #[.int .i64 sv]∧(-1000000000000000 ≤ sv∧sv ≤ 1000000000000000)∧∀ rest,endLoop (n - e.off) sv0 (pre ++ rest) = endLoop (n - e.off) sv rest
def EndX (sb:Nat) (e:EraN) (n sv0:Int) (c:Code) (pre:List (Int × Fir)) (O:Nat→Prop) (W:World):Prop :=
 c = .exit 0∧O sb∧∃ sv,Blk W sb 3 #[.int .i64 sv]∧∀ rest,endLoop (n - e.off) sv0 (pre ++ rest) = sv
theorem endI_feet (eb nb sb:Nat) (e:EraN) (ru f:ByteArray) (en:Bool) (n sv0:Int):Feet (EndI eb nb sb e ru f en n sv0):=by
 rintro pre O W W' ⟨⟨o0,o1,o2⟩,h0,h1,sv,h2,hr⟩ hf
 exact ⟨⟨o0,o1,o2⟩,Blk.fr h0 hf (fun h=>h o0),h1.fr hf (fun h=>h o1),sv,h2.fr hf (fun h=>h o2),hr⟩
theorem endX_feet (sb:Nat) (e:EraN) (n sv0:Int) (c:Code):Feet (EndX sb e n sv0 c):=by
 rintro pre O W W' ⟨hc,o0,sv,h2,hr⟩ hf
 exact ⟨hc,o0,sv,h2.fr hf (fun h=>h o0),hr⟩
theorem zahead_any (w:World) (e:EraN) (ru f:ByteArray) (en:Bool) (B:Nat) (v:Value) (l:List Rul) (hrw:RW w B v l) (hok:RuOk l) (n:Int) (ho:-1000000000000000 ≤ e.off∧e.off ≤ 1000000000000000) (hn:-4000000000000 ≤ n∧n ≤ 4000000000000) :
  Calls Tryz.prog 82 #[eraA e ru f en,v,.int .i64 n] w fun o w'=>o = .returned (.int .i64 (endSave l e.off n))∧Below w.heap.size w w':=by
 obtain ⟨A,cp,rfl,-,-⟩:=hrw.ruls.form
 obtain ⟨W0,hW0⟩:∃ W,(w.alloc (.cells (eraC e ru f en) 42)).alloc (.cells #[.int .i64 n] 3) = W:=⟨_,rfl⟩
 obtain ⟨b0,b1,hb0,hs0⟩:=blks2 w _ _ _ _ W0 hW0
 have hrw0:=hrw.below hb0
 have HL:=Lib.hid (callsIn_wide (n:=7).2 (latest_any W0 _ l (hrw0.ruls.more hrw0.le) hrw0.ahead hok.yr hok.sv e.off (n - 360000) ho (by omega) (by omega)))
 obtain ⟨o,hoo⟩:∃ o,latestF l e.off (n - 360000) = o:=⟨_,rfl⟩
 have hsvo:-1000000000000000 ≤ saveO o∧saveO o ≤ 1000000000000000:=by
  cases o with
  | none=>exact ⟨by decide,by decide⟩
  | some x=>exact hok.sv x (latestF_mem hoo)
 have HV:=Lib.hid (show endSave l e.off n = endLoop (n - e.off) (saveO o) (firedF l e.off (n - 360000) (n + 360000)) by unfold endSave;rw [hoo])
 rw [hoo] at HL
 unfold resO at HL
 rw [saveO_firO] at HV hsvo
 obtain ⟨g,hg⟩:∃ g,firO o = g:=⟨_,rfl⟩
 rw [hg] at HL HV hsvo
 unfold firA at HL
 have HRW0:=Lib.hid hrw0
 have HB0:=Lib.hid hb0
 have HE0:=Lib.hid b0
 have HN0:=Lib.hid b1
 have q0:=b0.cell 0 (v:=.int .i64 e.off) rfl
 have r0:=b1.cell 0 (v:=.int .i64 n) rfl
 have hl0:=b0.lt
 have hl1:=b1.lt
 clear b0 b1 hb0 hrw0 hoo hg
 unfold eraA
 unfold eraC at hW0
 refine (callsIn_wide (n:=8)).1 ?_
 refine callsIn_of_wp_marks Tryz.func82 rfl trivial ?_ rfl
 simp only [Tryz.ntmps82,List.size_toArray,List.length_cons,List.length_nil,Nat.reduceAdd,Nat.reduceSub,Array.replicate_succ,Array.replicate_zero,List.push_toArray,List.append_toArray,List.nil_append,List.cons_append]
 gi_wp2
 refine wpIn_scope ?_
 gi_wp2
 try simp only [hW0]
 clear hW0
 refine ⟨trivial,HL.out.mono ?_⟩
 rintro o' w1 ⟨rfl,hb⟩
 have HE1:=Lib.hid (HE0.out.below hb HE0.out.lt)
 have HN1:=Lib.hid (HN0.out.below hb HN0.out.lt)
 have HR1:=Lib.hid (HRW0.out.below hb)
 have HB1:=Lib.hid (HB0.out.trans (hb.mono HB0.out.size))
 have hs1:=hb.size
 have e0:=HE1.out.cell 0 (v:=.int .i64 e.off) rfl
 have n0:=HN1.out.cell 0 (v:=.int .i64 n) rfl
 have k0:=HE1.out.lt
 have k1:=HN1.out.lt
 clear hb HL HE0 HN0 HRW0 HB0 q0 r0
 gi_wp2
 refine wpIn_label ?_
 obtain ⟨W2,hW2⟩:∃ W,(w1.alloc (.cells #[.int .i64 g.nominal,.int .i64 g.kind,.int .i64 g.save,.string g.letter] 112)).alloc (.cells #[.int .i64 g.save] 3) = W:=⟨_,rfl⟩
 obtain ⟨-,c1,hb2,hs2⟩:=blks2 w1 _ _ _ _ W2 hW2
 try simp only [hW2]
 try rw [hW2]
 have HE2:=Lib.hid (HE1.out.below hb2 HE1.out.lt)
 have HN2:=Lib.hid (HN1.out.below hb2 HN1.out.lt)
 have HR2:=Lib.hid (HR1.out.below hb2)
 have HB2:=Lib.hid (HB1.out.trans (hb2.mono HB1.out.size))
 have HS2:=Lib.hid c1
 have e0:=HE2.out.cell 0 (v:=.int .i64 e.off) rfl
 have n0:=HN2.out.cell 0 (v:=.int .i64 n) rfl
 have k2:w1.heap.size + 1 < W2.heap.size:=by omega
 obtain ⟨sb,hsb⟩:∃ x,w1.heap.size + 1 = x:=⟨_,rfl⟩
 rw [hsb] at HS2 k2
 have hsb0:w.heap.size + 1 < sb:=by omega
 have HF:=Lib.hid (callsIn_wide (n:=7).2 (fired_any W2 (.slice A l.length cp) A l.length cp rfl e.off (n - 360000) (n + 360000)))
 have hBw:=hrw.le
 clear hW2 c1 hb2 HE1 HN1 HR1 HB1 hs2
 gi_wp2
 try simp only [hsb]
 refine ⟨trivial,HF.out.mono ?_⟩
 rintro o' W3 ⟨rfl,hb3,f0,f1,f2,f3⟩
 have HE3:=Lib.hid (HE2.out.below hb3 HE2.out.lt)
 have HN3:=Lib.hid (HN2.out.below hb3 HN2.out.lt)
 have HR3:=Lib.hid (HR2.out.below hb3)
 have HB3:=Lib.hid (HB2.out.trans (hb3.mono HB2.out.size))
 have HS3:=Lib.hid (HS2.out.below hb3 HS2.out.lt)
 have HC3:=Lib.hid (And.intro f0 (And.intro f1 (And.intro f2 f3)))
 have hs3:=hb3.size
 have l3:=f3.lt
 clear hb3 f0 f1 f2 f3 HE2 HN2 HR2 HB2 HS2 HF hsb e0 n0 hrw
 gi_wp2
 refine range_own (α:=Int × Fir) rfl (by omega) (gf:=116) (lb:=#[.pointer (some ⟨W2.heap.size,0,none⟩),.pointer (some ⟨W2.heap.size + 2,0,none⟩),.pointer (some ⟨W2.heap.size + 3,0,none⟩),.pointer (some ⟨W2.heap.size + 1,0,none⟩)]) rfl trivial (enters_of Tryz.func116 (by kernel_rfl) rfl)
  (encs:=encF) (K:=KF W2.heap.size (W2.heap.size + 2) (W2.heap.size + 3) (W2.heap.size + 1) B)
  (fun W hW=>fired_iter 7 (by omega) _ _ _ _ B _ l e.off (n - 360000) (n + 360000) W (HC3.out.1.below hW HC3.out.1.lt) (HC3.out.2.2.1.below hW HC3.out.2.2.1.lt) (HC3.out.2.2.2.below hW HC3.out.2.2.2.lt) (HC3.out.2.1.below hW HC3.out.2.1.lt) (HR3.out.below hW) hok.yr hok.sv ho (by omega) (by omega))
  (fun _=>rfl) (EndI w.heap.size (w.heap.size + 1) sb e ru f en n g.save) (EndX sb e n g.save) (endI_feet _ _ _ _ _ _ _ _ _) (endX_feet _ _ _ _)
  (fun k=>k = w.heap.size∨k = w.heap.size + 1∨k = sb) ⟨⟨.inl rfl,.inr (.inl rfl),.inr (.inr rfl)⟩,HE3.out,HN3.out,g.save,HS3.out,hsvo,fun rest=>rfl⟩ (fun k hk=>by omega) (fun k hk=>by unfold KF at hk;have:=HR3.out.le;omega) (fun k hk h=>by unfold KF at hk;omega) ?round ?done ?stop
 case round =>
  intro lp pre x O D W hI hBO hBD hDO hR nOl nDl hlow hltl
  obtain ⟨at_,fx⟩:=x
  obtain ⟨hnD,rest,hrest⟩:=hR
  have hsx:=hok.sv fx (firedF_mem (x:=(at_,fx)) (by rw [hrest];simp))
  have hbW:Below W.heap.size W (W.alloc (.cells #[.int .i64 fx.nominal,.int .i64 fx.kind,.int .i64 fx.save,.string fx.letter] 112)):=(Below.refl W.heap.size W).alloc (Nat.le_refl _) _
  have hfx:=Blk.new W 112 #[.int .i64 fx.nominal,.int .i64 fx.kind,.int .i64 fx.save,.string fx.letter]
  have HBO:=Lib.hid (hBO.fr (Fr.of_below (T:=fun _=>True) hbW (Nat.le_refl _)))
  unfold encF firA
  clear hI hBO hBD hDO hrest
  gi_wp2
  refine ⟨hbW,?_⟩
  intro Wb hfb hIb _
  have hfx2:=hfx.fr hfb (by omega)
  have HBB:=Lib.hid (HBO.out.fr hfb)
  have HFF:=Lib.hid ((Fr.of_below (T:=fun k=>O k∨D k) hbW (Nat.le_refl _)).mono (T':=fun k=>O k∨D k) (fun _ h=>.inl h))
  obtain ⟨⟨o0,o1,o2⟩,he,hnb,sv,hsv,hsvr,hall⟩:=hIb
  have HALL:=Lib.hid hall
  have HSB:=Lib.hid hsv
  have HEB:=Lib.hid he
  have HNB:=Lib.hid hnb
  have e0:=Blk.cell he 0 (v:=.int .i64 e.off) rfl
  have n0:=hnb.cell 0 (v:=.int .i64 n) rfl
  have s0:=hsv.cell 0 (v:=.int .i64 sv) rfl
  have sf:=hsv.frozen 0
  have x2:=hfx2.cell 2 (v:=.int .i64 fx.save) rfl
  have hsl:=hsv.lt
  have hel:=Blk.lt he
  have hnl:=hnb.lt
  have hxl:=hfx2.lt
  clear he hnb hsv hall hfb hbW hfx hfx2 HBO HFF
  by_cases hc:n - e.off - sv ≤ at_
  ·have d1:decide (n - e.off - sv ≤ at_) = true:=decide_eq_true hc
   have HX:=Lib.hid (show ∀ rest,endLoop (n - e.off) g.save ((pre ++ [(at_,fx)]) ++ rest) = sv from fun rest=>by
    rw [List.append_assoc,HALL.out]
    show endLoop (n - e.off) sv ((at_,fx) :: rest) = sv
    unfold endLoop
    rw [if_pos hc])
   gi_wp2
   exact ⟨O,fun k h=>.inl h,HBB.out,Fr.refl _ _,rfl,o2,sv,HSB.out,HX.out⟩
  ·have d1:decide (n - e.off - sv ≤ at_) = false:=decide_eq_false hc
   have HX:=Lib.hid (show ∀ rest,endLoop (n - e.off) g.save ((pre ++ [(at_,fx)]) ++ rest) = endLoop (n - e.off) fx.save rest from fun rest=>by
    rw [List.append_assoc,HALL.out]
    show endLoop (n - e.off) sv ((at_,fx) :: rest) = _
    rw [endLoop,if_neg hc])
   gi_wp2
   exact ⟨O,fun k h=>.inl h,HBB.out.fr (Fr.setCell (T:=fun _=>True) Wb 0 _ trivial),Fr.setCell Wb 0 _ (.inl o2),⟨o0,o1,o2⟩,HEB.out.other (by omega) 0 _,HNB.out.other (by omega) 0 _,fx.save,HSB.out.set 0 _,hsx,HX.out⟩
 case done =>
  rintro D xs O W hD rfl ⟨-,-,-,sv,h2,-,hall⟩ hO hBO hOD hfr hK
  have hv:endSave l e.off n = sv:=by
   rw [HV.out]
   have:=hall []
   rwa [List.append_nil] at this
  have HVV:=Lib.hid hv
  have hW:=HB3.out.trans (hfr.below HB3.out.size (fun k hk h=>by rcases h with (h | h | h) | h <;> omega))
  have HBW:=Lib.hid hW
  have HK:=Lib.hid hK
  have s0:=h2.cell 0 (v:=.int .i64 sv) rfl
  clear hv hall h2 hW hfr hK hO hBO HV
  gi_wp2
  refine ⟨by simp,.inl ⟨_,_,rfl,run_takeDeferred HK.out,?_⟩⟩
  refine ⟨.int .i64 sv,?_,⟨by rw [HVV.out],fin_below HBW.out (by omega)⟩⟩
  simp [results,Tryz.f82,go_sem]
 case stop =>
  rintro D c pre O W hD ⟨rest,hrest⟩ ⟨rfl,-,sv,h2,hall⟩ hO hBO hOD hfr hK
  have hv:endSave l e.off n = sv:=by
   rw [HV.out,hrest]
   exact hall rest
  have HVV:=Lib.hid hv
  have hW:=HB3.out.trans (hfr.below HB3.out.size (fun k hk h=>by rcases h with (h | h | h) | h <;> omega))
  have HBW:=Lib.hid hW
  have HK:=Lib.hid hK
  have s0:=h2.cell 0 (v:=.int .i64 sv) rfl
  clear hv hall h2 hW hfr hK hO hBO HV hrest
  gi_wp2
  refine ⟨by simp,.inl ⟨_,_,rfl,run_takeDeferred HK.out,?_⟩⟩
  refine ⟨.int .i64 sv,?_,⟨by rw [HVV.out],fin_below HBW.out (by omega)⟩⟩
  simp [results,Tryz.f82,go_sem]
end
section -- UAhead
open Go Go.RowKit Go.Shelf
attribute [local go_sem] Oper.semAt_some
def EndIW (eb nb sb:Nat) (e:EraN) (ru f:ByteArray) (en:Bool) (n sv0:Int) (pre:List (Int × Fir)) (O:Nat→Prop) (W:World):Prop :=
 (O eb∧O nb∧O sb)∧EraB W eb e ru f en∧Blk W nb 3 #[.int .i64 n]∧∃ sv,Blk W sb 3 #[.int .i64 sv]∧(-9223372036854775808 ≤ sv∧sv ≤ 9223372036854775807)∧∀ rest,endLoopW (n - e.off) sv0 (pre ++ rest) = endLoopW (n - e.off) sv rest
def EndXW (sb:Nat) (e:EraN) (n sv0:Int) (c:Code) (pre:List (Int × Fir)) (O:Nat→Prop) (W:World):Prop :=
 c = .exit 0∧O sb∧∃ sv,Blk W sb 3 #[.int .i64 sv]∧∀ rest,endLoopW (n - e.off) sv0 (pre ++ rest) = sv
theorem endIW_feet (eb nb sb:Nat) (e:EraN) (ru f:ByteArray) (en:Bool) (n sv0:Int):Feet (EndIW eb nb sb e ru f en n sv0):=by
 rintro pre O W W' ⟨⟨o0,o1,o2⟩,h0,h1,sv,h2,hr⟩ hf
 exact ⟨⟨o0,o1,o2⟩,Blk.fr h0 hf (fun h=>h o0),h1.fr hf (fun h=>h o1),sv,h2.fr hf (fun h=>h o2),hr⟩
theorem endXW_feet (sb:Nat) (e:EraN) (n sv0:Int) (c:Code):Feet (EndXW sb e n sv0 c):=by
 rintro pre O W W' ⟨hc,o0,sv,h2,hr⟩ hf
 exact ⟨hc,o0,sv,h2.fr hf (fun h=>h o0),hr⟩
theorem zahead_tot (w:World) (e:EraN) (ru f:ByteArray) (en:Bool) (B:Nat) (v:Value) (l:List Rul) (hrw:RW w B v l) (hok:numsR l) (n:Int) (ho:-1000000000000000 ≤ e.off∧e.off ≤ 1000000000000000) (hn:-4000000000000 ≤ n∧n ≤ 4000000000000) :
  Calls Tryz.prog 82 #[eraA e ru f en,v,.int .i64 n] w fun o w'=>o = .returned (.int .i64 (endSaveW l e.off n))∧Below w.heap.size w w':=by
 obtain ⟨A,cp,rfl,-,-⟩:=hrw.ruls.form
 obtain ⟨W0,hW0⟩:∃ W,(w.alloc (.cells (eraC e ru f en) 42)).alloc (.cells #[.int .i64 n] 3) = W:=⟨_,rfl⟩
 obtain ⟨b0,b1,hb0,hs0⟩:=blks2 w _ _ _ _ W0 hW0
 have hrw0:=hrw.below hb0
 have HL:=Lib.hid (callsIn_wide (n:=7).2 (latest_tot W0 _ l (hrw0.ruls.more hrw0.le) hrw0.ahead hok e.off (n - 360000) ho (by omega) (by omega)))
 obtain ⟨o,hoo⟩:∃ o,latestW l e.off (n - 360000) = o:=⟨_,rfl⟩
 have hsvo:-9223372036854775808 ≤ saveO o∧saveO o ≤ 9223372036854775807:=by
  cases o with
  | none=>exact ⟨by decide,by decide⟩
  | some x=>exact nums_save hok (latestW_mem hoo)
 have HV:=Lib.hid (show endSaveW l e.off n = endLoopW (n - e.off) (saveO o) (firedW l e.off (n - 360000) (n + 360000)) by unfold endSaveW;rw [hoo])
 rw [hoo] at HL
 unfold resO at HL
 rw [saveO_firO] at HV hsvo
 obtain ⟨g,hg⟩:∃ g,firO o = g:=⟨_,rfl⟩
 rw [hg] at HL HV hsvo
 unfold firA at HL
 have HRW0:=Lib.hid hrw0
 have HB0:=Lib.hid hb0
 have HE0:=Lib.hid b0
 have HN0:=Lib.hid b1
 have q0:=b0.cell 0 (v:=.int .i64 e.off) rfl
 have r0:=b1.cell 0 (v:=.int .i64 n) rfl
 have hl0:=b0.lt
 have hl1:=b1.lt
 clear b0 b1 hb0 hrw0 hoo hg
 unfold eraA
 unfold eraC at hW0
 refine (callsIn_wide (n:=8)).1 ?_
 refine callsIn_of_wp_marks Tryz.func82 rfl trivial ?_ rfl
 simp only [Tryz.ntmps82,List.size_toArray,List.length_cons,List.length_nil,Nat.reduceAdd,Nat.reduceSub,Array.replicate_succ,Array.replicate_zero,List.push_toArray,List.append_toArray,List.nil_append,List.cons_append]
 gi_wp2
 refine wpIn_scope ?_
 gi_wp2
 try simp only [hW0]
 clear hW0
 refine ⟨trivial,HL.out.mono ?_⟩
 rintro o' w1 ⟨rfl,hb⟩
 have HE1:=Lib.hid (HE0.out.below hb HE0.out.lt)
 have HN1:=Lib.hid (HN0.out.below hb HN0.out.lt)
 have HR1:=Lib.hid (HRW0.out.below hb)
 have HB1:=Lib.hid (HB0.out.trans (hb.mono HB0.out.size))
 have hs1:=hb.size
 have e0:=HE1.out.cell 0 (v:=.int .i64 e.off) rfl
 have n0:=HN1.out.cell 0 (v:=.int .i64 n) rfl
 have k0:=HE1.out.lt
 have k1:=HN1.out.lt
 clear hb HL HE0 HN0 HRW0 HB0 q0 r0
 gi_wp2
 refine wpIn_label ?_
 obtain ⟨W2,hW2⟩:∃ W,(w1.alloc (.cells #[.int .i64 g.nominal,.int .i64 g.kind,.int .i64 g.save,.string g.letter] 112)).alloc (.cells #[.int .i64 g.save] 3) = W:=⟨_,rfl⟩
 obtain ⟨-,c1,hb2,hs2⟩:=blks2 w1 _ _ _ _ W2 hW2
 try simp only [hW2]
 try rw [hW2]
 have HE2:=Lib.hid (HE1.out.below hb2 HE1.out.lt)
 have HN2:=Lib.hid (HN1.out.below hb2 HN1.out.lt)
 have HR2:=Lib.hid (HR1.out.below hb2)
 have HB2:=Lib.hid (HB1.out.trans (hb2.mono HB1.out.size))
 have HS2:=Lib.hid c1
 have e0:=HE2.out.cell 0 (v:=.int .i64 e.off) rfl
 have n0:=HN2.out.cell 0 (v:=.int .i64 n) rfl
 have k2:w1.heap.size + 1 < W2.heap.size:=by omega
 obtain ⟨sb,hsb⟩:∃ x,w1.heap.size + 1 = x:=⟨_,rfl⟩
 rw [hsb] at HS2 k2
 have hsb0:w.heap.size + 1 < sb:=by omega
 have HF:=Lib.hid (callsIn_wide (n:=7).2 (fired_any W2 (.slice A l.length cp) A l.length cp rfl e.off (n - 360000) (n + 360000)))
 have hBw:=hrw.le
 clear hW2 c1 hb2 HE1 HN1 HR1 HB1 hs2
 gi_wp2
 try simp only [hsb]
 refine ⟨trivial,HF.out.mono ?_⟩
 rintro o' W3 ⟨rfl,hb3,f0,f1,f2,f3⟩
 have HE3:=Lib.hid (HE2.out.below hb3 HE2.out.lt)
 have HN3:=Lib.hid (HN2.out.below hb3 HN2.out.lt)
 have HR3:=Lib.hid (HR2.out.below hb3)
 have HB3:=Lib.hid (HB2.out.trans (hb3.mono HB2.out.size))
 have HS3:=Lib.hid (HS2.out.below hb3 HS2.out.lt)
 have HC3:=Lib.hid (And.intro f0 (And.intro f1 (And.intro f2 f3)))
 have hs3:=hb3.size
 have l3:=f3.lt
 clear hb3 f0 f1 f2 f3 HE2 HN2 HR2 HB2 HS2 HF hsb e0 n0 hrw
 gi_wp2
 refine range_own (α:=Int × Fir) rfl (by omega) (gf:=116) (lb:=#[.pointer (some ⟨W2.heap.size,0,none⟩),.pointer (some ⟨W2.heap.size + 2,0,none⟩),.pointer (some ⟨W2.heap.size + 3,0,none⟩),.pointer (some ⟨W2.heap.size + 1,0,none⟩)]) rfl trivial (enters_of Tryz.func116 (by kernel_rfl) rfl)
  (encs:=encF) (K:=KF W2.heap.size (W2.heap.size + 2) (W2.heap.size + 3) (W2.heap.size + 1) B)
  (fun W hW=>fired_iterW 7 (by omega) _ _ _ _ B _ l e.off (n - 360000) (n + 360000) W (HC3.out.1.below hW HC3.out.1.lt) (HC3.out.2.2.1.below hW HC3.out.2.2.1.lt) (HC3.out.2.2.2.below hW HC3.out.2.2.2.lt) (HC3.out.2.1.below hW HC3.out.2.1.lt) (HR3.out.below hW) hok ho (by omega) (by omega))
  (fun _=>rfl) (EndIW w.heap.size (w.heap.size + 1) sb e ru f en n g.save) (EndXW sb e n g.save) (endIW_feet _ _ _ _ _ _ _ _ _) (endXW_feet _ _ _ _)
  (fun k=>k = w.heap.size∨k = w.heap.size + 1∨k = sb) ⟨⟨.inl rfl,.inr (.inl rfl),.inr (.inr rfl)⟩,HE3.out,HN3.out,g.save,HS3.out,hsvo,fun rest=>rfl⟩ (fun k hk=>by omega) (fun k hk=>by unfold KF at hk;have:=HR3.out.le;omega) (fun k hk h=>by unfold KF at hk;omega) ?round ?done ?stop
 case round =>
  intro lp pre x O D W hI hBO hBD hDO hR nOl nDl hlow hltl
  obtain ⟨at_,fx⟩:=x
  obtain ⟨hnD,rest,hrest⟩:=hR
  have hsx:=nums_save hok (firedW_mem (x:=(at_,fx)) (by rw [hrest];simp))
  have hbW:Below W.heap.size W (W.alloc (.cells #[.int .i64 fx.nominal,.int .i64 fx.kind,.int .i64 fx.save,.string fx.letter] 112)):=(Below.refl W.heap.size W).alloc (Nat.le_refl _) _
  have hfx:=Blk.new W 112 #[.int .i64 fx.nominal,.int .i64 fx.kind,.int .i64 fx.save,.string fx.letter]
  have HBO:=Lib.hid (hBO.fr (Fr.of_below (T:=fun _=>True) hbW (Nat.le_refl _)))
  unfold encF firA
  clear hI hBO hBD hDO hrest
  gi_wp2
  intro Wb hfb hIb _ _
  have hfx2:=hfx.fr hfb (by omega)
  have HBB:=Lib.hid (HBO.out.fr hfb)
  have HFF:=Lib.hid ((Fr.of_below (T:=fun k=>O k∨D k) hbW (Nat.le_refl _)).mono (T':=fun k=>O k∨D k) (fun _ h=>.inl h))
  obtain ⟨⟨o0,o1,o2⟩,he,hnb,sv,hsv,hsvr,hall⟩:=hIb
  have HALL:=Lib.hid hall
  have HSB:=Lib.hid hsv
  have HEB:=Lib.hid he
  have HNB:=Lib.hid hnb
  have e0:=Blk.cell he 0 (v:=.int .i64 e.off) rfl
  have n0:=hnb.cell 0 (v:=.int .i64 n) rfl
  have s0:=hsv.cell 0 (v:=.int .i64 sv) rfl
  have sf:=hsv.frozen 0
  have x2:=hfx2.cell 2 (v:=.int .i64 fx.save) rfl
  have hsl:=hsv.lt
  have hel:=Blk.lt he
  have hnl:=hnb.lt
  have hxl:=hfx2.lt
  clear he hnb hsv hall hfb hbW hfx hfx2 HBO HFF
  by_cases hc:wrap64 (n - e.off - sv) ≤ at_
  ·have d1:decide (wrap64 (n - e.off - sv) ≤ at_) = true:=decide_eq_true hc
   have HX:=Lib.hid (show ∀ rest,endLoopW (n - e.off) g.save ((pre ++ [(at_,fx)]) ++ rest) = sv from fun rest=>by
    rw [List.append_assoc,HALL.out]
    show endLoopW (n - e.off) sv ((at_,fx) :: rest) = sv
    unfold endLoopW
    rw [if_pos hc])
   gi_wp2
   exact ⟨O,fun k h=>.inl h,HBB.out,Fr.refl _ _,rfl,o2,sv,HSB.out,HX.out⟩
  ·have d1:decide (wrap64 (n - e.off - sv) ≤ at_) = false:=decide_eq_false hc
   have HX:=Lib.hid (show ∀ rest,endLoopW (n - e.off) g.save ((pre ++ [(at_,fx)]) ++ rest) = endLoopW (n - e.off) fx.save rest from fun rest=>by
    rw [List.append_assoc,HALL.out]
    show endLoopW (n - e.off) sv ((at_,fx) :: rest) = _
    rw [endLoopW,if_neg hc])
   gi_wp2
   exact ⟨O,fun k h=>.inl h,HBB.out.fr (Fr.setCell (T:=fun _=>True) Wb 0 _ trivial),Fr.setCell Wb 0 _ (.inl o2),⟨o0,o1,o2⟩,HEB.out.other (by omega) 0 _,HNB.out.other (by omega) 0 _,fx.save,HSB.out.set 0 _,hsx,HX.out⟩
 case done =>
  rintro D xs O W hD rfl ⟨-,-,-,sv,h2,-,hall⟩ hO hBO hOD hfr hK
  have hv:endSaveW l e.off n = sv:=by
   rw [HV.out]
   have:=hall []
   rwa [List.append_nil] at this
  have HVV:=Lib.hid hv
  have hW:=HB3.out.trans (hfr.below HB3.out.size (fun k hk h=>by rcases h with (h | h | h) | h <;> omega))
  have HBW:=Lib.hid hW
  have HK:=Lib.hid hK
  have s0:=h2.cell 0 (v:=.int .i64 sv) rfl
  clear hv hall h2 hW hfr hK hO hBO HV
  gi_wp2
  refine ⟨by simp,.inl ⟨_,_,rfl,run_takeDeferred HK.out,?_⟩⟩
  refine ⟨.int .i64 sv,?_,⟨by rw [HVV.out],fin_below HBW.out (by omega)⟩⟩
  simp [results,Tryz.f82,go_sem]
 case stop =>
  rintro D c pre O W hD ⟨rest,hrest⟩ ⟨rfl,-,sv,h2,hall⟩ hO hBO hOD hfr hK
  have hv:endSaveW l e.off n = sv:=by
   rw [HV.out,hrest]
   exact hall rest
  have HVV:=Lib.hid hv
  have hW:=HB3.out.trans (hfr.below HB3.out.size (fun k hk h=>by rcases h with (h | h | h) | h <;> omega))
  have HBW:=Lib.hid hW
  have HK:=Lib.hid hK
  have s0:=h2.cell 0 (v:=.int .i64 sv) rfl
  clear hv hall h2 hW hfr hK hO hBO HV hrest
  gi_wp2
  refine ⟨by simp,.inl ⟨_,_,rfl,run_takeDeferred HK.out,?_⟩⟩
  refine ⟨.int .i64 sv,?_,⟨by rw [HVV.out],fin_below HBW.out (by omega)⟩⟩
  simp [results,Tryz.f82,go_sem]
end
section -- AEndW
open Go Go.RowKit Go.Shelf
theorem nomV_in {e:EraN} (h:nomB e = true):-3300000000000 ≤ nomV e∧nomV e ≤ 3300000000000∧0 ≤ e.ak∧e.ak ≤ 2:=by
 unfold nomB inOkB inB ymB mayB at h
 simp only [Bool.and_eq_true,decide_eq_true_eq] at h
 obtain ⟨⟨⟨⟨⟨h1,h2⟩,h3⟩,-⟩,h5⟩,h6⟩:=h
 obtain ⟨d1,-,d3⟩:=inDay_in (y:=e.year) h1 h2.2.2.1 h2.2.2.2 h3
 have e1:=yearV_mono h2.1
 have e2:=yearV_mono (show e.year + 1 ≤ 100001 by omega)
 have e3:yearV (-100000) = -37243778:=by decide
 have e4:yearV 100001 = 35805088:=by decide
 unfold nomV
 omega
def endN (e:EraN) (ru:ByteArray) (l:List Rul):Int :=
 if e.ak = 2 then nomV e else if e.ak = 1 then nomV e - e.off else if ru.size = 0 then nomV e - e.off - e.save else nomV e - e.off - endSave l e.off (nomV e)
def endV (e:EraN) (ru:ByteArray) (en:Bool) (l:List Rul):Int × Int:=if en then (if nomB e then (endN e ru l,0) else (0,10)) else (0,16)
theorem endLoop_in {m:Int}:∀ {xs:List (Int × Fir)} {sv:Int},(-1000000000000000 ≤ sv∧sv ≤ 1000000000000000)→(∀ x ∈ xs,-1000000000000000 ≤ x.2.save∧x.2.save ≤ 1000000000000000)→-1000000000000000 ≤ endLoop m sv xs∧endLoop m sv xs ≤ 1000000000000000
 | [],sv,h,_=>h
 | x :: t,sv,h,hx=>by
   unfold endLoop
   split
   ·exact h
   ·exact endLoop_in (hx x (by simp)) (fun y hy=>hx y (by simp [hy]))
theorem endSave_in {l:List Rul} (hs:svOk l) (off n:Int):-1000000000000000 ≤ endSave l off n∧endSave l off n ≤ 1000000000000000:=by
 unfold endSave
 refine endLoop_in ?_ (fun x hx=>hs _ (firedF_mem hx))
 cases ho:latestF l off (n - 360000) with
 | none=>exact ⟨by decide,by decide⟩
 | some x=>exact hs x (latestF_mem ho)
theorem zend_any (w:World) (e:EraN) (ru f:ByteArray) (en:Bool) (B:Nat) (v:Value) (l:List Rul) (hrw:RW w B v l) (hok:RuOk l) (ho:-1000000000000000 ≤ e.off∧e.off ≤ 1000000000000000) (hsv:-1000000000000000 ≤ e.save∧e.save ≤ 1000000000000000) :
  Calls Tryz.prog 44 #[eraA e ru f en,v] w fun o w'=>o = .returned (.tuple #[.int .i64 (endV e ru en l).1,.int .i64 (endV e ru en l).2])∧Below w.heap.size w w':=by
 have hb0:Below w.heap.size w (w.alloc (.cells (eraC e ru f en) 42)):=(Below.refl w.heap.size w).alloc (Nat.le_refl _) _
 have hx0:=Blk.new w 42 (eraC e ru f en)
 have HRW:=Lib.hid (hrw.below hb0)
 have HN:=Lib.hid (nominal_any _ e (hrw.below hb0).ahead)
 have HX:=Lib.hid hx0
 have HB:=Lib.hid hb0
 clear hrw hx0 hb0
 cases en with
 | false =>
   unfold eraA
   unfold eraC at HB
   have HV:=Lib.hid (show endV e ru false l = (0,16) from rfl)
   go_enter Tryz.func44,Tryz.ntmps44
   go_wp2_with fail
   go_ret2
   exact ⟨by rw [HV.out];rfl,HB.out⟩
 | true =>
   cases hnb:nomB e with
   | false =>
     have HV:=Lib.hid (show endV e ru true l = (0,10) by unfold endV;rw [hnb];rfl)
     have hnr:nomR e = (0,10):=by unfold nomR;rw [hnb];rfl
     rw [hnr] at HN
     unfold eraA
     unfold untilA at HN
     unfold eraC at HB HN HX HRW
     clear hnb hnr
     go_enter Tryz.func44,Tryz.ntmps44
     go_wp2_with fail
     refine HN.out.mono ?_
     rintro o w1 ⟨rfl,hb⟩
     have hx1:=HX.out.below hb HX.out.lt
     have HX1:=Lib.hid hx1
     have HB1:=Lib.hid (HB.out.trans (hb.mono HB.out.size))
     have HR1:=Lib.hid (HRW.out.below hb)
     have hl1:=hx1.lt
     have e0:=hx1.cell 0 (v:=.int .i64 e.off) rfl
     have e1:=hx1.cell 1 (v:=.string ru) rfl
     have e2:=hx1.cell 2 (v:=.int .i64 e.save) rfl
     have e11:=hx1.cell 11 (v:=.int .i64 e.ak) rfl
     clear hb hx1 HX HB HRW HN
     go_wp2_with fail
     go_ret2
     exact ⟨by rw [HV.out];rfl,HB1.out⟩
   | true =>
     have HV:=Lib.hid (show endV e ru true l = (endN e ru l,0) by unfold endV;rw [hnb];rfl)
     have hnr:nomR e = (nomV e,0):=by unfold nomR;rw [hnb];rfl
     rw [hnr] at HN
     obtain ⟨n1,n2,k1,k2⟩:=nomV_in hnb
     have HNB:=Lib.hid hnb
     clear hnb hnr
     by_cases hk2:e.ak = 2
     ·have HE:=Lib.hid (show endN e ru l = nomV e by unfold endN;rw [if_pos hk2])
      have d1:(e.ak == 2) = true:=by simpa using hk2
      clear hk2
      generalize nomV e = n at *
      unfold eraA
      unfold untilA at HN
      unfold eraC at HB HN HX HRW
      go_enter Tryz.func44,Tryz.ntmps44
      go_wp2_with fail
      refine HN.out.mono ?_
      rintro o w1 ⟨rfl,hb⟩
      have hx1:=HX.out.below hb HX.out.lt
      have HX1:=Lib.hid hx1
      have HB1:=Lib.hid (HB.out.trans (hb.mono HB.out.size))
      have HR1:=Lib.hid (HRW.out.below hb)
      have hl1:=hx1.lt
      have e0:=hx1.cell 0 (v:=.int .i64 e.off) rfl
      have e1:=hx1.cell 1 (v:=.string ru) rfl
      have e2:=hx1.cell 2 (v:=.int .i64 e.save) rfl
      have e11:=hx1.cell 11 (v:=.int .i64 e.ak) rfl
      clear hb hx1 HX HB HRW HN
      go_wp2_with fail
      go_ret2
      exact ⟨by rw [HV.out,HE.out];rfl,HB1.out⟩
     ·have d1:(e.ak == 2) = false:=by simpa using hk2
      by_cases hk1:e.ak = 1
      ·have HE:=Lib.hid (show endN e ru l = nomV e - e.off by unfold endN;rw [if_neg hk2,if_pos hk1])
       have d2:(e.ak == 1) = true:=by simpa using hk1
       clear hk2 hk1
       generalize nomV e = n at *
       unfold eraA
       unfold untilA at HN
       unfold eraC at HB HN HX HRW
       go_enter Tryz.func44,Tryz.ntmps44
       go_wp2_with fail
       refine HN.out.mono ?_
       rintro o w1 ⟨rfl,hb⟩
       have hx1:=HX.out.below hb HX.out.lt
       have HX1:=Lib.hid hx1
       have HB1:=Lib.hid (HB.out.trans (hb.mono HB.out.size))
       have HR1:=Lib.hid (HRW.out.below hb)
       have hl1:=hx1.lt
       have e0:=hx1.cell 0 (v:=.int .i64 e.off) rfl
       have e1:=hx1.cell 1 (v:=.string ru) rfl
       have e2:=hx1.cell 2 (v:=.int .i64 e.save) rfl
       have e11:=hx1.cell 11 (v:=.int .i64 e.ak) rfl
       clear hb hx1 HX HB HRW HN
       go_wp2_with fail
       go_ret2
       exact ⟨by rw [HV.out,HE.out];rfl,HB1.out⟩
      ·have d2:(e.ak == 1) = false:=by simpa using hk1
       by_cases hru:ru.size = 0
       ·have HE:=Lib.hid (show endN e ru l = nomV e - e.off - e.save by unfold endN;rw [if_neg hk2,if_neg hk1,if_pos hru])
        have hem:(ru.toList == []) = true:=by rw [emp_size,decide_eq_true hru]
        clear hk2 hk1 hru
        generalize nomV e = n at *
        unfold eraA
        unfold untilA at HN
        unfold eraC at HB HN HX HRW
        go_enter Tryz.func44,Tryz.ntmps44
        go_wp2_with fail
        refine HN.out.mono ?_
        rintro o w1 ⟨rfl,hb⟩
        have hx1:=HX.out.below hb HX.out.lt
        have HX1:=Lib.hid hx1
        have HB1:=Lib.hid (HB.out.trans (hb.mono HB.out.size))
        have HR1:=Lib.hid (HRW.out.below hb)
        have hl1:=hx1.lt
        have e0:=hx1.cell 0 (v:=.int .i64 e.off) rfl
        have e1:=hx1.cell 1 (v:=.string ru) rfl
        have e2:=hx1.cell 2 (v:=.int .i64 e.save) rfl
        have e11:=hx1.cell 11 (v:=.int .i64 e.ak) rfl
        clear hb hx1 HX HB HRW HN
        go_wp2_with fail
        go_ret2
        exact ⟨by rw [HV.out,HE.out];rfl,HB1.out⟩
       ·have HE:=Lib.hid (show endN e ru l = nomV e - e.off - endSave l e.off (nomV e) by unfold endN;rw [if_neg hk2,if_neg hk1,if_neg hru])
        have hem:(ru.toList == []) = false:=by rw [emp_size,decide_eq_false hru]
        have hes:=endSave_in hok.sv e.off (nomV e)
        have HA:=Lib.hid (fun (W:World) (h:RW W B v l)=>zahead_any W e ru f true B v l h hok (nomV e) ho (by omega))
        obtain ⟨es,hes2⟩:∃ x,endSave l e.off (nomV e) = x:=⟨_,rfl⟩
        rw [hes2] at HE hes HA
        clear hk2 hk1 hru hes2
        generalize nomV e = n at *
        unfold eraA at HA ⊢
        unfold untilA at HN
        unfold eraC at HB HN HX HRW
        go_enter Tryz.func44,Tryz.ntmps44
        go_wp2_with fail
        refine HN.out.mono ?_
        rintro o w1 ⟨rfl,hb⟩
        have hx1:=HX.out.below hb HX.out.lt
        have HX1:=Lib.hid hx1
        have HB1:=Lib.hid (HB.out.trans (hb.mono HB.out.size))
        have HR1:=Lib.hid (HRW.out.below hb)
        have hl1:=hx1.lt
        have e0:=hx1.cell 0 (v:=.int .i64 e.off) rfl
        have e1:=hx1.cell 1 (v:=.string ru) rfl
        have e2:=hx1.cell 2 (v:=.int .i64 e.save) rfl
        have e11:=hx1.cell 11 (v:=.int .i64 e.ak) rfl
        clear hb hx1 HX HB HRW HN
        go_wp2_with fail
        have HC:=Lib.hid (fun (W:World) (h:Below w1.heap.size w1 W)=>And.intro (HX1.out.below h HX1.out.lt) (HR1.out.below h))
        refine wp_env (fin:=?fna) (by kernel_rfl) [43,44,45,46,47,48,49,50,51,4,5]
         [.int .i64 n,.pointer (some ⟨w.heap.size,0,none⟩),.int .i64 e.off,.int .i64 (n - e.off),.agg #[.int .i64 e.off,.string ru,.int .i64 e.save,.string f,.bool true,.int .i64 e.year,.int .i64 e.month,.int .i64 e.dk,.int .i64 e.dw,.int .i64 e.dn,.int .i64 e.sec,.int .i64 e.ak],v,.int .i64 n,.int .i64 es,.int .i64 (n - e.off - es),.int .i64 (n - e.off - es),.int .i64 0] (by kernel_rfl) ?fina ?stepsa ?nexta
        case fina =>
         simp only [putAll,Act.put,List.setIfInBounds_toArray,List.set_cons_succ,List.set_cons_zero]
         rfl
        case stepsa =>
         refine ⟨?_,?_,?_,?_,?_,?_,?_,?_,?_,?_,?_,trivial⟩
         all_goals refine .inr ⟨by kernel_rfl,fun w1_ hB_=>?_⟩
         all_goals
          obtain ⟨hc,hr⟩:=HC.out w1_ hB_
          have c0:=hc.cell 0 (v:=.int .i64 e.off) rfl
          have c1:=hc.cell 1 (v:=.string ru) rfl
          have c2:=hc.cell 2 (v:=.int .i64 e.save) rfl
          have c3:=hc.cell 3 (v:=.string f) rfl
          have c4:=hc.cell 4 (v:=.bool true) rfl
          have c5:=hc.cell 5 (v:=.int .i64 e.year) rfl
          have c6:=hc.cell 6 (v:=.int .i64 e.month) rfl
          have c7:=hc.cell 7 (v:=.int .i64 e.dk) rfl
          have c8:=hc.cell 8 (v:=.int .i64 e.dw) rfl
          have c9:=hc.cell 9 (v:=.int .i64 e.dn) rfl
          have c10:=hc.cell 10 (v:=.int .i64 e.sec) rfl
          have c11:=hc.cell 11 (v:=.int .i64 e.ak) rfl
          go_simp
          first
           | exact ⟨rfl,Below.refl _ _⟩
           | exact ⟨rfl,HA.out w1_ hr⟩
           | ((first | rw [decide_eq_true (by omega)] | rw [decide_eq_false (by omega)] | rw [if_pos (by omega)] | rw [IntWalk.i64_in _ (by omega)]);exact ⟨rfl,Below.refl _ _⟩)
           | done
        case nexta =>
        intro w2 hb2
        have HB2:=Lib.hid (HB1.out.trans (hb2.mono HB1.out.size))
        clear hb2
        go_wp2_with fail
        go_ret2
        exact ⟨by rw [HV.out,HE.out];rfl,HB2.out⟩
end
section -- UEnd
open Go Go.RowKit Go.Shelf
theorem wrap_w64 (n:Int):IntKind.i64.wrap n = wrap64 n:=by
 rw [IntKind.wrap_i64]
 unfold wrap64
 rfl
def endNW (e:EraN) (ru:ByteArray) (l:List Rul):Int :=
 if e.ak = 2 then nomV e else if e.ak = 1 then nomV e - e.off else if ru.size = 0 then nomV e - e.off - e.save else wrap64 (nomV e - e.off - endSaveW l e.off (nomV e))
def endVW (e:EraN) (ru:ByteArray) (en:Bool) (l:List Rul):Int × Int:=if en then (if nomB e then (endNW e ru l,0) else (0,10)) else (0,16)
theorem zend_tot (w:World) (e:EraN) (ru f:ByteArray) (en:Bool) (B:Nat) (v:Value) (l:List Rul) (hrw:RW w B v l) (hok:numsR l) (ho:-1000000000000000 ≤ e.off∧e.off ≤ 1000000000000000) (hsv:-1000000000000000 ≤ e.save∧e.save ≤ 1000000000000000) :
  Calls Tryz.prog 44 #[eraA e ru f en,v] w fun o w'=>o = .returned (.tuple #[.int .i64 (endVW e ru en l).1,.int .i64 (endVW e ru en l).2])∧Below w.heap.size w w':=by
 have hb0:Below w.heap.size w (w.alloc (.cells (eraC e ru f en) 42)):=(Below.refl w.heap.size w).alloc (Nat.le_refl _) _
 have hx0:=Blk.new w 42 (eraC e ru f en)
 have HRW:=Lib.hid (hrw.below hb0)
 have HN:=Lib.hid (nominal_any _ e (hrw.below hb0).ahead)
 have HX:=Lib.hid hx0
 have HB:=Lib.hid hb0
 clear hrw hx0 hb0
 cases en with
 | false =>
   unfold eraA
   unfold eraC at HB
   have HV:=Lib.hid (show endVW e ru false l = (0,16) from rfl)
   go_enter Tryz.func44,Tryz.ntmps44
   go_wp2_with fail
   go_ret2
   exact ⟨by rw [HV.out];rfl,HB.out⟩
 | true =>
   cases hnb:nomB e with
   | false =>
     have HV:=Lib.hid (show endVW e ru true l = (0,10) by unfold endVW;rw [hnb];rfl)
     have hnr:nomR e = (0,10):=by unfold nomR;rw [hnb];rfl
     rw [hnr] at HN
     unfold eraA
     unfold untilA at HN
     unfold eraC at HB HN HX HRW
     clear hnb hnr
     go_enter Tryz.func44,Tryz.ntmps44
     go_wp2_with fail
     refine HN.out.mono ?_
     rintro o w1 ⟨rfl,hb⟩
     have hx1:=HX.out.below hb HX.out.lt
     have HX1:=Lib.hid hx1
     have HB1:=Lib.hid (HB.out.trans (hb.mono HB.out.size))
     have HR1:=Lib.hid (HRW.out.below hb)
     have hl1:=hx1.lt
     have e0:=hx1.cell 0 (v:=.int .i64 e.off) rfl
     have e1:=hx1.cell 1 (v:=.string ru) rfl
     have e2:=hx1.cell 2 (v:=.int .i64 e.save) rfl
     have e11:=hx1.cell 11 (v:=.int .i64 e.ak) rfl
     clear hb hx1 HX HB HRW HN
     go_wp2_with fail
     go_ret2
     exact ⟨by rw [HV.out];rfl,HB1.out⟩
   | true =>
     have HV:=Lib.hid (show endVW e ru true l = (endNW e ru l,0) by unfold endVW;rw [hnb];rfl)
     have hnr:nomR e = (nomV e,0):=by unfold nomR;rw [hnb];rfl
     rw [hnr] at HN
     obtain ⟨n1,n2,k1,k2⟩:=nomV_in hnb
     have HNB:=Lib.hid hnb
     clear hnb hnr
     by_cases hk2:e.ak = 2
     ·have HE:=Lib.hid (show endNW e ru l = nomV e by unfold endNW;rw [if_pos hk2])
      have d1:(e.ak == 2) = true:=by simpa using hk2
      clear hk2
      generalize nomV e = n at *
      unfold eraA
      unfold untilA at HN
      unfold eraC at HB HN HX HRW
      go_enter Tryz.func44,Tryz.ntmps44
      go_wp2_with fail
      refine HN.out.mono ?_
      rintro o w1 ⟨rfl,hb⟩
      have hx1:=HX.out.below hb HX.out.lt
      have HX1:=Lib.hid hx1
      have HB1:=Lib.hid (HB.out.trans (hb.mono HB.out.size))
      have HR1:=Lib.hid (HRW.out.below hb)
      have hl1:=hx1.lt
      have e0:=hx1.cell 0 (v:=.int .i64 e.off) rfl
      have e1:=hx1.cell 1 (v:=.string ru) rfl
      have e2:=hx1.cell 2 (v:=.int .i64 e.save) rfl
      have e11:=hx1.cell 11 (v:=.int .i64 e.ak) rfl
      clear hb hx1 HX HB HRW HN
      go_wp2_with fail
      go_ret2
      exact ⟨by rw [HV.out,HE.out];rfl,HB1.out⟩
     ·have d1:(e.ak == 2) = false:=by simpa using hk2
      by_cases hk1:e.ak = 1
      ·have HE:=Lib.hid (show endNW e ru l = nomV e - e.off by unfold endNW;rw [if_neg hk2,if_pos hk1])
       have d2:(e.ak == 1) = true:=by simpa using hk1
       clear hk2 hk1
       generalize nomV e = n at *
       unfold eraA
       unfold untilA at HN
       unfold eraC at HB HN HX HRW
       go_enter Tryz.func44,Tryz.ntmps44
       go_wp2_with fail
       refine HN.out.mono ?_
       rintro o w1 ⟨rfl,hb⟩
       have hx1:=HX.out.below hb HX.out.lt
       have HX1:=Lib.hid hx1
       have HB1:=Lib.hid (HB.out.trans (hb.mono HB.out.size))
       have HR1:=Lib.hid (HRW.out.below hb)
       have hl1:=hx1.lt
       have e0:=hx1.cell 0 (v:=.int .i64 e.off) rfl
       have e1:=hx1.cell 1 (v:=.string ru) rfl
       have e2:=hx1.cell 2 (v:=.int .i64 e.save) rfl
       have e11:=hx1.cell 11 (v:=.int .i64 e.ak) rfl
       clear hb hx1 HX HB HRW HN
       go_wp2_with fail
       go_ret2
       exact ⟨by rw [HV.out,HE.out];rfl,HB1.out⟩
      ·have d2:(e.ak == 1) = false:=by simpa using hk1
       by_cases hru:ru.size = 0
       ·have HE:=Lib.hid (show endNW e ru l = nomV e - e.off - e.save by unfold endNW;rw [if_neg hk2,if_neg hk1,if_pos hru])
        have hem:(ru.toList == []) = true:=by rw [emp_size,decide_eq_true hru]
        clear hk2 hk1 hru
        generalize nomV e = n at *
        unfold eraA
        unfold untilA at HN
        unfold eraC at HB HN HX HRW
        go_enter Tryz.func44,Tryz.ntmps44
        go_wp2_with fail
        refine HN.out.mono ?_
        rintro o w1 ⟨rfl,hb⟩
        have hx1:=HX.out.below hb HX.out.lt
        have HX1:=Lib.hid hx1
        have HB1:=Lib.hid (HB.out.trans (hb.mono HB.out.size))
        have HR1:=Lib.hid (HRW.out.below hb)
        have hl1:=hx1.lt
        have e0:=hx1.cell 0 (v:=.int .i64 e.off) rfl
        have e1:=hx1.cell 1 (v:=.string ru) rfl
        have e2:=hx1.cell 2 (v:=.int .i64 e.save) rfl
        have e11:=hx1.cell 11 (v:=.int .i64 e.ak) rfl
        clear hb hx1 HX HB HRW HN
        go_wp2_with fail
        go_ret2
        exact ⟨by rw [HV.out,HE.out];rfl,HB1.out⟩
       ·have HE:=Lib.hid (show endNW e ru l = wrap64 (nomV e - e.off - endSaveW l e.off (nomV e)) by unfold endNW;rw [if_neg hk2,if_neg hk1,if_neg hru])
        have hem:(ru.toList == []) = false:=by rw [emp_size,decide_eq_false hru]
        have HA:=Lib.hid (fun (W:World) (h:RW W B v l)=>zahead_tot W e ru f true B v l h hok (nomV e) ho (by omega))
        obtain ⟨es,hes2⟩:∃ x,endSaveW l e.off (nomV e) = x:=⟨_,rfl⟩
        rw [hes2] at HE HA
        clear hk2 hk1 hru hes2
        generalize nomV e = n at *
        unfold eraA at HA ⊢
        unfold untilA at HN
        unfold eraC at HB HN HX HRW
        go_enter Tryz.func44,Tryz.ntmps44
        go_wp2_with fail
        refine HN.out.mono ?_
        rintro o w1 ⟨rfl,hb⟩
        have hx1:=HX.out.below hb HX.out.lt
        have HX1:=Lib.hid hx1
        have HB1:=Lib.hid (HB.out.trans (hb.mono HB.out.size))
        have HR1:=Lib.hid (HRW.out.below hb)
        have hl1:=hx1.lt
        have e0:=hx1.cell 0 (v:=.int .i64 e.off) rfl
        have e1:=hx1.cell 1 (v:=.string ru) rfl
        have e2:=hx1.cell 2 (v:=.int .i64 e.save) rfl
        have e11:=hx1.cell 11 (v:=.int .i64 e.ak) rfl
        clear hb hx1 HX HB HRW HN
        go_wp2_with fail
        have HC:=Lib.hid (fun (W:World) (h:Below w1.heap.size w1 W)=>And.intro (HX1.out.below h HX1.out.lt) (HR1.out.below h))
        refine wp_env (fin:=?fna) (by kernel_rfl) [43,44,45,46,47,48,49,50,51,4,5]
         [.int .i64 n,.pointer (some ⟨w.heap.size,0,none⟩),.int .i64 e.off,.int .i64 (n - e.off),.agg #[.int .i64 e.off,.string ru,.int .i64 e.save,.string f,.bool true,.int .i64 e.year,.int .i64 e.month,.int .i64 e.dk,.int .i64 e.dw,.int .i64 e.dn,.int .i64 e.sec,.int .i64 e.ak],v,.int .i64 n,.int .i64 es,.int .i64 (wrap64 (n - e.off - es)),.int .i64 (wrap64 (n - e.off - es)),.int .i64 0] (by kernel_rfl) ?fina ?stepsa ?nexta
        case fina =>
         simp only [putAll,Act.put,List.setIfInBounds_toArray,List.set_cons_succ,List.set_cons_zero]
         rfl
        case stepsa =>
         refine ⟨?_,?_,?_,?_,?_,?_,?_,?_,?_,?_,?_,trivial⟩
         all_goals refine .inr ⟨by kernel_rfl,fun w1_ hB_=>?_⟩
         all_goals
          obtain ⟨hc,hr⟩:=HC.out w1_ hB_
          have c0:=hc.cell 0 (v:=.int .i64 e.off) rfl
          have c1:=hc.cell 1 (v:=.string ru) rfl
          have c2:=hc.cell 2 (v:=.int .i64 e.save) rfl
          have c3:=hc.cell 3 (v:=.string f) rfl
          have c4:=hc.cell 4 (v:=.bool true) rfl
          have c5:=hc.cell 5 (v:=.int .i64 e.year) rfl
          have c6:=hc.cell 6 (v:=.int .i64 e.month) rfl
          have c7:=hc.cell 7 (v:=.int .i64 e.dk) rfl
          have c8:=hc.cell 8 (v:=.int .i64 e.dw) rfl
          have c9:=hc.cell 9 (v:=.int .i64 e.dn) rfl
          have c10:=hc.cell 10 (v:=.int .i64 e.sec) rfl
          have c11:=hc.cell 11 (v:=.int .i64 e.ak) rfl
          go_simp
          first
           | exact ⟨rfl,Below.refl _ _⟩
           | (rw [wrap_w64];exact ⟨rfl,Below.refl _ _⟩)
           | exact ⟨rfl,HA.out w1_ hr⟩
           | ((first | rw [decide_eq_true (by omega)] | rw [decide_eq_false (by omega)] | rw [if_pos (by omega)] | rw [IntWalk.i64_in _ (by omega)]);exact ⟨rfl,Below.refl _ _⟩)
           | done
        case nexta =>
        intro w2 hb2
        have HB2:=Lib.hid (HB1.out.trans (hb2.mono HB1.out.size))
        clear hb2
        go_wp2_with fail
        go_ret2
        exact ⟨by rw [HV.out,HE.out];rfl,HB2.out⟩
end
section -- ARefS
open Go Go.RowKit Go.Shelf
end
section -- ARefT
open Go Go.RowKit Go.Shelf
end
section -- ARefU
open Go Go.RowKit Go.Shelf
end
section -- RefB
open Go Go.RowKit Go.Shelf
structure FrI where
 f:Fir
 i:Int
def friV (x:FrI):List Value:=[.int .i64 x.f.nominal,.int .i64 x.f.kind,.int .i64 x.f.save,.int .i64 x.i,.string x.f.letter]
def friA (x:FrI):Value:=.agg #[.int .i64 x.f.nominal,.int .i64 x.f.kind,.int .i64 x.f.save,.int .i64 x.i,.string x.f.letter]
def frisV (l:List FrI):List Value:=l.flatMap friV
theorem length_frisV (l:List FrI):(frisV l).length = l.length * 5:=by
 induction l with
 | nil=>rfl
 | cons c l ih=>simp only [frisV,List.flatMap_cons,List.length_append,List.length_cons,friV,List.length_nil] at ih ⊢;omega
theorem frisV_append (l m:List FrI):frisV (l ++ m) = frisV l ++ frisV m:=by simp [frisV]
theorem frisV_at (l:List FrI) (i:Nat) (h:i < l.length) (k:Nat) (hk:k < 5):(frisV l)[i * 5 + k]? = (friV l[i])[k]?:=by
 induction l generalizing i with
 | nil=>exact absurd h (by simp)
 | cons c l ih =>
   rcases i with _ | i
   ·rw [Nat.zero_mul,Nat.zero_add]
    show (friV c ++ frisV l)[k]? = _
    rw [List.getElem?_append_left (by simp [friV];omega)]
    rfl
   ·have:=ih i (by simpa using h)
    show (friV c ++ frisV l)[(i + 1) * 5 + k]? = _
    rw [List.getElem?_append_right (by simp [friV];omega),show (i + 1) * 5 + k - (friV c).length = i * 5 + k by simp [friV];omega,this]
    rfl
theorem frisV_one (l:List FrI):∀ u ∈ frisV l,u.oneCell' = true:=by
 intro u hu
 unfold frisV at hu
 obtain ⟨c,-,hc⟩:=List.mem_flatMap.1 hu
 simp [friV] at hc
 rcases hc with rfl | rfl | rfl | rfl | rfl <;> rfl
def Fris (w:World) (B:Nat) (v:Value) (l:List FrI):Prop:=Sl w B 5 v l.length (frisV l)
section
variable {w w':World} {B B':Nat} {v:Value} {l:List FrI}
theorem Fris.form (h:Fris w B v l):∃ A c,v = .slice A l.length c∧l.length ≤ c∧c ≤ maxLen:=by
 obtain ⟨A,c,rfl,h1,h2,-⟩:=h
 exact ⟨A,c,rfl,h1,h2⟩
theorem Fris.below (h:Fris w B v l) (hb:Below B w w'):Fris w' B v l:=Sl.below h hb
theorem Fris.cells (h:Fris w B v l) (hl:0 < l.length):∃ b o c,v = .slice (some ⟨b,o,none⟩) l.length c∧b < B∧∀ i (hi:i < l.length),w.cell? ⟨b,o + i * 5,none⟩ = some (.int .i64 (l[i]).f.nominal)∧w.cell? ⟨b,o + i * 5 + 1,none⟩ = some (.int .i64 (l[i]).f.kind)∧w.cell? ⟨b,o + i * 5 + 2,none⟩ = some (.int .i64 (l[i]).f.save)∧w.cell? ⟨b,o + i * 5 + 3,none⟩ = some (.int .i64 (l[i]).i)∧w.cell? ⟨b,o + i * 5 + 4,none⟩ = some (.string (l[i]).f.letter):=by
 obtain ⟨b,o,c,e,hb,hc⟩:=Sl.at_ h hl
 refine ⟨b,o,c,e,hb,fun i hi=>?_⟩
 have hk:∀ k u,k < 5→(friV l[i])[k]? = some u→w.cell? ⟨b,o + i * 5 + k,none⟩ = some u:=fun k u hk hu=>by
  rw [Nat.add_assoc]
  exact hc _ u (by rw [frisV_at l i hi k hk];exact hu)
 exact ⟨hk 0 _ (by omega) rfl,hk 1 _ (by omega) rfl,hk 2 _ (by omega) rfl,hk 3 _ (by omega) rfl,hk 4 _ (by omega) rfl⟩
theorem Fris.front {A:Option Addr} {c n:Nat} (h:Fris w B (.slice A l.length c) l) (hn:n ≤ l.length):Fris w B (.slice A n c) (l.take n):=by
 obtain ⟨A',c',e,h1,h2,h3,h4⟩:=h
 injection e with e1 e2 e3
 subst e1 e3
 have hl:(l.take n).length = n:=by rw [List.length_take];omega
 unfold Fris
 rw [hl]
 refine ⟨_,_,rfl,by omega,h2,by rw [length_frisV,hl],fun hp=>?_⟩
 obtain ⟨b,o,rfl,hb,hc⟩:=h4 (by omega)
 refine ⟨b,o,rfl,hb,fun j u hu=>hc j u ?_⟩
 rw [← List.take_append_drop n l,frisV_append,List.getElem?_append_left (List.getElem?_eq_some_iff.1 hu).1]
 exact hu
theorem Fris.back {A:Option Addr} {c n:Nat} (h:Fris w B (.slice A l.length c) l) (hn:n ≤ l.length):Fris w B (.slice (if c = n then A else A.map (·.add (n * 5))) (l.length - n) (c - n)) (l.drop n):=by
 obtain ⟨A',c',e,h1,h2,h3,h4⟩:=h
 injection e with e1 e2 e3
 subst e1 e3
 have hl:(l.drop n).length = l.length - n:=List.length_drop
 unfold Fris
 rw [hl]
 refine ⟨_,_,rfl,by omega,by omega,by rw [length_frisV,hl],fun hp=>?_⟩
 obtain ⟨b,o,rfl,hb,hc⟩:=h4 (by omega)
 rw [if_neg (by omega)]
 refine ⟨b,o + n * 5,by simp [Addr.add_lit],hb,fun j u hu=>?_⟩
 rw [Nat.add_assoc]
 refine hc _ u ?_
 rw [← List.take_append_drop n l,frisV_append,List.getElem?_append_right (by rw [length_frisV,List.length_take];omega),length_frisV,List.length_take,Nat.min_eq_left hn,Nat.add_sub_cancel_left]
 exact hu
end
theorem Fris.backM {w:World} {B:Nat} {l:List FrI} {A:Option Addr} {c n:Nat} (h:Fris w B (.slice A l.length c) l) (hn:n ≤ l.length):Sl w B 5 (.slice (if c = n then A else A.map (·.add (n * 5))) (l.length - n) (c - n)) (l.length - n) (frisV (l.drop n)):=by
 have h0:=h.back hn
 unfold Fris at h0
 rwa [List.length_drop] at h0
theorem infoFri:(Tryz.prog.info? 129).map (fun i=>(i.zero,i.size,i.bytes)) = some (some (.agg #[.int .i64 0,.int .i64 0,.int .i64 0,.int .i64 0,.string ⟨#[]⟩]),5,48):=by kernel_rfl
def TyF (w:World) (v:Value):Prop:=∀ b o n c,v = .slice (some ⟨b,o,none⟩) n c→∃ cs fr,w.heap[b]? = some (.cells cs 129 fr)
theorem TyF.nil (w:World) (n c:Nat):TyF w (.slice none n c):=fun b o n c e=>by cases e
theorem TyF.kept {w w':World} {v:Value} (h:TyF w v) (hk:∀ (b:Nat) (cs:Array Value) (fr:Nat × Nat),w.heap[b]? = some (Obj.cells cs 129 fr)→w'.heap[b]? = w.heap[b]?):TyF w' v:=fun b o n c e=>by
 obtain ⟨cs,fr,h1⟩:=h b o n c e
 exact ⟨cs,fr,(hk b cs fr h1).trans h1⟩
theorem TyF.below {w w':World} {v:Value} (h:TyF w v) (hb:Below w.heap.size w w'):TyF w' v:=h.kept fun b _ _ h1=>hb.block b (Array.getElem?_eq_some_iff.1 h1).1
theorem TyF.own {w:World} {base:Nat} {sz n:Nat} {v:Value} {xs:List Value} (h:w.ownsRow base 129 sz v n xs):TyF w v:=fun b o n' c he=>by
 rcases h.2 with ⟨rfl,_⟩ | ⟨g,cap,cur,rfl,hb,hg,-⟩
 ·cases he
 ·injection he with h1 h2 h3
  injection h1 with h1
  injection h1 with h1 h2
  subst h1
  exact ⟨_,_,hg⟩
def FrisN (w:World) (v:Value) (l:List FrI):Prop:=Fris w w.heap.size v l∧TyF w v
theorem FrisN.below {w w':World} {v:Value} {l:List FrI} (h:FrisN w v l) (hb:Below w.heap.size w w'):FrisN w' v l:=⟨Sl.more (Sl.below h.1 hb) hb.size,h.2.below hb⟩
def PutPost (w:World) (l:List FrI) (x:FrI) (e:Ending) (w':World):Prop:=∃ u A C,e = .returned u∧l = A ++ C∧(∀ a ∈ A,a.f.nominal ≤ x.f.nominal)∧(∀ c ∈ C,x.f.nominal < c.f.nominal)∧FrisN w' u (A ++ x :: C)∧Below w.heap.size w w'
theorem put_any (w:World) (B:Nat) (v:Value) (l:List FrI) (x:FrI) (hv:Fris w B v l) (hB:B ≤ w.heap.size) (hl:l.length ≤ 100000) (hi:∀ y ∈ l,y.i ≤ x.i) (hs:l.Pairwise (fun a b=>a.f.nominal ≤ b.f.nominal)) :
  Calls Tryz.prog 111 #[v,friA x] w (PutPost w l x):=by
 obtain ⟨i0,hi0,hz0,hz1,hz2⟩:=info_parts infoFri
 have HB0:=Lib.hid ((Below.refl w.heap.size w).alloc (Nat.le_refl _) (.cells #[.int .i64 x.f.nominal,.int .i64 x.f.kind,.int .i64 x.f.save,.int .i64 x.i,.string x.f.letter] 129))
 have hx:=Blk.new w 129 #[.int .i64 x.f.nominal,.int .i64 x.f.kind,.int .i64 x.f.save,.int .i64 x.i,.string x.f.letter]
 have HXB:=Lib.hid hx
 have HV:=Lib.hid (hv.below (HB0.out.mono hB))
 obtain ⟨A,c,rfl,hlc,hcm⟩:=hv.form
 unfold maxLen at hcm
 have HI:=Lib.hid (fun k (hk:k < l.length)=>hi l[k] (List.getElem_mem hk))
 have HS:=Lib.hid hs
 clear hv hi hs
 unfold friA
 go_enter Tryz.func111,Tryz.ntmps111
 go_wp2_with fail
 obtain ⟨W0,hW0⟩:∃ W,w.alloc (.cells #[.int .i64 x.f.nominal,.int .i64 x.f.kind,.int .i64 x.f.save,.int .i64 x.i,.string x.f.letter] 129) = W:=⟨_,rfl⟩
 rw [hW0] at HB0 HXB HV ⊢
 clear hW0 hx
 go_loopw [5] (fun nv wr=>∃ n:Nat,n ≤ l.length∧nv = .int .i64 n∧(∀ k (hk:k < l.length),n ≤ k→x.f.nominal < (l[k]).f.nominal)∧Below W0.heap.size W0 wr) (fun nv _=>(intOf nv).toNat)
 case atStart=>exact ⟨l.length,Nat.le_refl _,rfl,fun k hk h=>by omega,Below.refl _ _⟩
 case round =>
  obtain ⟨n,hn,rfl,hbig,hbw⟩:=hrel
  have HBG:=Lib.hid hbig
  have HBW:=Lib.hid hbw
  have hxr:=HXB.out.below hbw HXB.out.lt
  have hvr:=HV.out.below (B:=B) (hbw.mono (Nat.le_trans hB HB0.out.size))
  have hws:=hbw.size
  clear hbig hbw
  have HVR:=Lib.hid hvr
  have HXR:=Lib.hid hxr
  have x0:wr.cell? ⟨w.heap.size,0,none⟩ = some (.int .i64 x.f.nominal):=hxr.cell 0 rfl
  have x1:wr.cell? ⟨w.heap.size,1,none⟩ = some (.int .i64 x.f.kind):=hxr.cell 1 rfl
  have x2:wr.cell? ⟨w.heap.size,2,none⟩ = some (.int .i64 x.f.save):=hxr.cell 2 rfl
  have x3:wr.cell? ⟨w.heap.size,3,none⟩ = some (.int .i64 x.i):=hxr.cell 3 rfl
  have x4:wr.cell? ⟨w.heap.size,4,none⟩ = some (.string x.f.letter):=hxr.cell 4 rfl
  by_cases h0:n = 0
  ·have hd:decide ((0:Int) < (n:Int)) = false:=decide_eq_false (by omega)
   have hd3:decide (0 < n) = false:=decide_eq_false (by omega)
   have HAC:=Lib.hid (show (∀ a ∈ l.take n,a.f.nominal ≤ x.f.nominal)∧(∀ c ∈ l.drop n,x.f.nominal < c.f.nominal) from ⟨fun a ha=>by rw [h0] at ha;simp at ha,fun c hc=>by
    rw [h0] at hc
    obtain ⟨k,hk,rfl⟩:=List.getElem_of_mem (by simpa using hc)
    exact HBG.out k hk (by omega)⟩)
   clear h0
   go_wp2_with fail
   refine wp_env (fin:=?fnZ) (by kernel_rfl) [9,10,11,12,13,14,15,16,17,18,19,20,21,22,23,24,25,26,27,28,29,30,31,32,33,34,35,36,37,38,39,40,41,42,43,44,45,46,47,48,49]
    [.int .i64 n,.bool false,.bool false,undef,undef,undef,undef,undef,undef,undef,undef,undef,undef,undef,undef,undef,undef,undef,undef,undef,undef,undef,undef,undef,undef,undef,undef,undef,undef,undef,undef,undef,undef,undef,undef,undef,undef,undef,undef,undef,.bool false] (by kernel_rfl) ?finZ ?stepsZ ?nextZ
   case finZ =>
    simp only [putAll,Act.put,List.setIfInBounds_toArray,List.set_cons_succ,List.set_cons_zero]
    rfl
   case stepsZ =>
    refine ⟨?_,?_,?_,?_,?_,?_,?_,?_,?_,?_,?_,?_,?_,?_,?_,?_,?_,?_,?_,?_,?_,?_,?_,?_,?_,?_,?_,?_,?_,?_,?_,?_,?_,?_,?_,?_,?_,?_,?_,?_,?_,trivial⟩
    all_goals first | exact .inl ⟨by kernel_rfl,rfl⟩ | refine .inr ⟨by kernel_rfl,fun w1_ hB_=>?_⟩
    all_goals
     go_simp
     first
      | exact ⟨rfl,Below.refl _ _⟩
      | ((first | rw [decide_eq_true (by omega)] | rw [decide_eq_false (by omega)] | rw [if_pos (by omega)] | rw [IntWalk.i64_in _ (by omega)]);exact ⟨rfl,Below.refl _ _⟩)
      | done
   case nextZ =>
   clear hd hd3
   intro w5 hb5
   have HB5:=Lib.hid (HBW.out.trans (hb5.mono HBW.out.size))
   have HVR:=Lib.hid (HVR.out.below (B:=B) (hb5.mono (Nat.le_trans hB (Nat.le_trans HB0.out.size HBW.out.size))))
   have HXR:=Lib.hid (HXR.out.below hb5 (Nat.lt_of_lt_of_le HXB.out.lt HBW.out.size))
   have hws5:=hb5.size
   have HWW5:=Lib.hid (HB0.out.trans (HB5.out.mono HB0.out.size))
   have hs5:=HWW5.out.size
   have HFRN:=Lib.hid (show Sl w5 B 5 (.slice A n c) n (frisV (l.take n)) by have:=HVR.out.front hn;unfold Fris at this;rwa [List.length_take,Nat.min_eq_left hn] at this)
   clear hb5 x0 x1 x2 x3 x4
   go_wp2_with first
    | (at_builtin;refine wpList_append_sl rfl _ _ 97 rfl w.heap.size 129 i0 (.agg #[.int .i64 0,.int .i64 0,.int .i64 0,.int .i64 0,.string ⟨#[]⟩]) 5 48 Tryz.underlying97 hi0 hz0 hz1 hz2 rfl (by decide) (.slice none 0 0) 0 [] rfl (World.ownsRow_nil _ _ _ _) _ B n _ rfl HFRN.out (frisV_one _) (by unfold maxLen;omega) (by omega) hs5 ?_;intro v7 w7 hown7 hgrow7;have hb7:Below w5.heap.size w5 w7:=(Below.refl _ _).grown hgrow7 (Nat.le_refl _) (fun k e=>by cases e);have HB7:=Lib.hid (HWW5.out.trans (hb7.mono hs5));have HX7:=Lib.hid (HXR.out.below hb7 HXR.out.lt);have HV7:=Lib.hid (HVR.out.below (B:=B) (hb7.mono (Nat.le_trans hB hs5)));have HOW7:=Lib.hid hown7;clear hb7 hown7 hgrow7;have x0:=HX7.out.cell 0 (v:=.int .i64 x.f.nominal) rfl;have x1:=HX7.out.cell 1 (v:=.int .i64 x.f.kind) rfl;have x2:=HX7.out.cell 2 (v:=.int .i64 x.f.save) rfl;have x3:=HX7.out.cell 3 (v:=.int .i64 x.i) rfl;have x4:=HX7.out.cell 4 (v:=.string x.f.letter) rfl;have hs7:=HB7.out.size)
    | (at_builtin;have _t:=HOW7;refine wpList_append_own _ rfl _ _ 97 rfl w.heap.size 129 i0 (.agg #[.int .i64 0,.int .i64 0,.int .i64 0,.int .i64 0,.string ⟨#[]⟩]) 5 48 Tryz.underlying97 hi0 hz0 hz1 hz2 rfl (by decide) v7 (0 + n) _ rfl (HOW7.out.alloc _) ⟨w7.heap.size,0,none⟩ 1 1 (friV x) rfl rfl (fun j y hy=>by rw [Addr.add_lit,Nat.zero_add];exact (cell_new w7 _ _ _ j).trans (by simpa [friV] using hy)) (by simp [friV,Value.oneCell']) (by unfold maxLen;omega) (by omega) (by simp;omega) ?_;intro v8 w8 hown8 hgrow8 hnil8;go_loud (have HB8:=Lib.hid ((HB7.out.alloc hs7 _).grown hgrow8 (by simp;omega) (fun g e=>(HOW7.out.lt g e).1));have HV8:=Lib.hid (HV7.out.below (B:=B) ((((Below.refl B w7).alloc (Nat.le_trans hB hs7) _)).grown hgrow8 (by simp;omega) (fun g e=>Nat.le_trans hB (HOW7.out.lt g e).1)));have HOW8:=Lib.hid hown8;have hs8:=HB8.out.size;have HBKN:=Lib.hid (HV8.out.backM hn);clear hown8 hgrow8 hnil8 x0 x1 x2 x3 x4))
    | (at_builtin;have _t:=HOW8;go_loud (refine wpList_append_sl rfl _ _ 97 rfl w.heap.size 129 i0 (.agg #[.int .i64 0,.int .i64 0,.int .i64 0,.int .i64 0,.string ⟨#[]⟩]) 5 48 Tryz.underlying97 hi0 hz0 hz1 hz2 rfl (by decide) v8 (0 + n + 1) _ rfl HOW8.out _ B (l.length - n) _ rfl HBKN.out (frisV_one _) (by unfold maxLen;omega) (by omega) hs8 ?_);intro v9 w9 hown9 hgrow9)
   all_goals
    go_ret
    have hb9:=HB8.out.grown hgrow9 hs8 (fun g e=>(HOW8.out.lt g e).1)
    refine ⟨v9,l.take n,l.drop n,rfl,(List.take_append_drop n l).symm,HAC.out.1,HAC.out.2,?_,hb9⟩
    refine ⟨?_,TyF.own hown9⟩
    have h:=Sl.of_own hown9
    unfold Fris
    rw [List.nil_append,show 0 + n + 1 + (l.length - n) = (l.take n ++ x :: l.drop n).length by simp;omega] at h
    rw [show frisV (l.take n ++ x :: l.drop n) = frisV (l.take n) ++ friV x ++ frisV (l.drop n) by simp [frisV]]
    exact h
  ·obtain ⟨p,hp⟩:∃ p,n = p + 1:=⟨n - 1,by omega⟩
   have hd:decide ((0:Int) < (n:Int)) = true:=decide_eq_true (by omega)
   have e1:(n:Int) - 1 = (p:Int):=by omega
   have hpl:p < l.length:=by omega
   obtain ⟨b,o,c',e,hb,hc⟩:=hvr.cells (by omega)
   cases e
   obtain ⟨d0,-,-,d3,-⟩:=hc p hpl
   have d0':wr.cell? ⟨b,o + p * 5,none⟩ = some (.int .i64 (l[p]).f.nominal):=d0
   have d3':wr.cell? ⟨b,o + p * 5 + 3,none⟩ = some (.int .i64 (l[p]).i):=d3
   have hii:=HI.out p hpl
   obtain ⟨y,hy⟩:∃ y,l[p] = y:=⟨_,rfl⟩
   rw [hy] at d0' d3' hii
   have HY:=Lib.hid hy
   have hbw_:b < wr.heap.size:=Nat.lt_of_lt_of_le hb (Nat.le_trans hB (Nat.le_trans HB0.out.size hws))
   have hww_:w.heap.size < wr.heap.size:=Nat.lt_of_lt_of_le HXB.out.lt hws
   have HCELL:=Lib.hid (fun (W:World) (h:Below wr.heap.size wr W)=>show W.cell? ⟨b,o + p * 5,none⟩ = some (.int .i64 y.f.nominal)∧W.cell? ⟨b,o + p * 5 + 3,none⟩ = some (.int .i64 y.i)∧W.cell? ⟨w.heap.size,0,none⟩ = some (.int .i64 x.f.nominal)∧W.cell? ⟨w.heap.size,3,none⟩ = some (.int .i64 x.i) from ⟨(h.cell hbw_).trans d0',(h.cell hbw_).trans d3',(h.cell hww_).trans x0,(h.cell hww_).trans x3⟩)
   clear hc d0 d3 hy hbw_ hww_ d0' d3'
   by_cases hgt:x.f.nominal < y.f.nominal
   ·have hg:decide (x.f.nominal < y.f.nominal) = true:=decide_eq_true hgt
    have HP:=Lib.hid hp
    clear hp
    go_wp2_with fail
    refine wp_env (fin:=?fnG) (by kernel_rfl) [9,10,11,12,13,14,15,16,17,18,19,20,21,22,23,24,25,26,27,28,29,30,31,32,33,34,35,36,37,38,39,40,41,42,43,44,45,46,47,48,49]
     [.int .i64 n,.bool true,.bool true,.slice (some ⟨b,o,none⟩) l.length c,.int .i64 n,.int .i64 p,.pointer (some ⟨b,o + p * 5,none⟩),.pointer (some ⟨b,o + p * 5,none⟩),.pointer (some ⟨b,o + p * 5,none⟩),.int .i64 y.f.nominal,.pointer (some ⟨w.heap.size,0,none⟩),.pointer (some ⟨w.heap.size,0,none⟩),.int .i64 x.f.nominal,.bool true,.bool true,undef,undef,undef,undef,undef,undef,undef,undef,undef,undef,undef,undef,undef,undef,undef,undef,undef,undef,undef,undef,undef,undef,undef,undef,.bool true,.bool true] (by kernel_rfl) ?finG ?stepsG ?nextG
    case finG =>
     simp only [putAll,Act.put,List.setIfInBounds_toArray,List.set_cons_succ,List.set_cons_zero]
     rfl
    case stepsG =>
     refine ⟨?_,?_,?_,?_,?_,?_,?_,?_,?_,?_,?_,?_,?_,?_,?_,?_,?_,?_,?_,?_,?_,?_,?_,?_,?_,?_,?_,?_,?_,?_,?_,?_,?_,?_,?_,?_,?_,?_,?_,?_,?_,trivial⟩
     all_goals first | exact .inl ⟨by kernel_rfl,rfl⟩ | refine .inr ⟨by kernel_rfl,fun w1_ hB_=>?_⟩
     all_goals
      obtain ⟨d0_,d3_,q0_,q3_⟩:=HCELL.out w1_ hB_
      go_simp
      first
       | exact ⟨rfl,Below.refl _ _⟩
       | ((first | rw [decide_eq_true (by omega)] | rw [decide_eq_false (by omega)] | rw [if_pos (by omega)] | rw [IntWalk.i64_in _ (by omega)]);exact ⟨rfl,Below.refl _ _⟩)
       | done
    case nextG =>
    intro w5 hb5
    have HB5:=Lib.hid (HBW.out.trans (hb5.mono HBW.out.size))
    clear hb5
    go_wp2_with fail
    go_roundw
    case rel=>exact ⟨p,by omega,by first | rfl | go_num,fun k hk h=>by
     rcases Nat.lt_or_ge p k with h1 | h1
     ·exact HBG.out k hk (by have:=HP.out;omega)
     ·have:k = p:=by omega
      subst this
      rw [HY.out]
      exact hgt,HB5.out⟩
    case measure=>have:=HP.out;simp [intOf];omega
   ·have hg:decide (x.f.nominal < y.f.nominal) = false:=decide_eq_false hgt
    have hg3:decide (x.i < y.i) = false:=decide_eq_false (by omega)
    have HAC:=Lib.hid (show (∀ a ∈ l.take n,a.f.nominal ≤ x.f.nominal)∧(∀ c ∈ l.drop n,x.f.nominal < c.f.nominal) from ⟨fun a ha=>by
     rw [hp] at ha
     have h1:=take_le (key:=fun y:FrI=>y.f.nominal) HS.out hpl a ha
     rw [HY.out] at h1
     omega,fun c hc=>by
     obtain ⟨k,hk,rfl⟩:=List.getElem_of_mem hc
     rw [List.getElem_drop]
     exact HBG.out _ _ (by omega)⟩)
    clear hp
    by_cases heq:y.f.nominal = x.f.nominal
    ·have hg2:(y.f.nominal == x.f.nominal) = true:=by simpa using heq
     go_wp2_with fail
     refine wp_env (fin:=?fnE) (by kernel_rfl) [9,10,11,12,13,14,15,16,17,18,19,20,21,22,23,24,25,26,27,28,29,30,31,32,33,34,35,36,37,38,39,40,41,42,43,44,45,46,47,48,49]
      [.int .i64 n,.bool true,.bool true,.slice (some ⟨b,o,none⟩) l.length c,.int .i64 n,.int .i64 p,.pointer (some ⟨b,o + p * 5,none⟩),.pointer (some ⟨b,o + p * 5,none⟩),.pointer (some ⟨b,o + p * 5,none⟩),.int .i64 y.f.nominal,.pointer (some ⟨w.heap.size,0,none⟩),.pointer (some ⟨w.heap.size,0,none⟩),.int .i64 x.f.nominal,.bool false,.bool false,.slice (some ⟨b,o,none⟩) l.length c,.int .i64 n,.int .i64 p,.pointer (some ⟨b,o + p * 5,none⟩),.pointer (some ⟨b,o + p * 5,none⟩),.pointer (some ⟨b,o + p * 5,none⟩),.int .i64 y.f.nominal,.pointer (some ⟨w.heap.size,0,none⟩),.pointer (some ⟨w.heap.size,0,none⟩),.int .i64 x.f.nominal,.bool true,.bool true,.slice (some ⟨b,o,none⟩) l.length c,.int .i64 n,.int .i64 p,.pointer (some ⟨b,o + p * 5,none⟩),.pointer (some ⟨b,o + p * 5,none⟩),.pointer (some ⟨b,o + p * 5 + 3,none⟩),.int .i64 y.i,.pointer (some ⟨w.heap.size,0,none⟩),.pointer (some ⟨w.heap.size,3,none⟩),.int .i64 x.i,.bool false,.bool false,.bool false,.bool false] (by kernel_rfl) ?finE ?stepsE ?nextE
     case finE =>
      simp only [putAll,Act.put,List.setIfInBounds_toArray,List.set_cons_succ,List.set_cons_zero]
      rfl
     case stepsE =>
      refine ⟨?_,?_,?_,?_,?_,?_,?_,?_,?_,?_,?_,?_,?_,?_,?_,?_,?_,?_,?_,?_,?_,?_,?_,?_,?_,?_,?_,?_,?_,?_,?_,?_,?_,?_,?_,?_,?_,?_,?_,?_,?_,trivial⟩
      all_goals refine .inr ⟨by kernel_rfl,fun w1_ hB_=>?_⟩
      all_goals
       obtain ⟨d0_,d3_,q0_,q3_⟩:=HCELL.out w1_ hB_
       go_simp
       first
        | exact ⟨rfl,Below.refl _ _⟩
        | ((first | rw [decide_eq_true (by omega)] | rw [decide_eq_false (by omega)] | rw [if_pos (by omega)] | rw [IntWalk.i64_in _ (by omega)]);exact ⟨rfl,Below.refl _ _⟩)
        | done
     case nextE =>
     clear hd hg hg2 hg3 heq hgt e1
     obtain ⟨A,hA⟩:∃ A,(some ⟨b,o,none⟩:Option Addr) = A:=⟨_,rfl⟩
     rw [hA] at HVR ⊢
     clear hA
     intro w5 hb5
     have HB5:=Lib.hid (HBW.out.trans (hb5.mono HBW.out.size))
     have HVR:=Lib.hid (HVR.out.below (B:=B) (hb5.mono (Nat.le_trans hB (Nat.le_trans HB0.out.size HBW.out.size))))
     have HXR:=Lib.hid (HXR.out.below hb5 (Nat.lt_of_lt_of_le HXB.out.lt HBW.out.size))
     have hws5:=hb5.size
     have HWW5:=Lib.hid (HB0.out.trans (HB5.out.mono HB0.out.size))
     have hs5:=HWW5.out.size
     have HFRN:=Lib.hid (show Sl w5 B 5 (.slice A n c) n (frisV (l.take n)) by have:=HVR.out.front hn;unfold Fris at this;rwa [List.length_take,Nat.min_eq_left hn] at this)
     clear hb5 x0 x1 x2 x3 x4
     go_wp2_with first
      | (at_builtin;refine wpList_append_sl rfl _ _ 97 rfl w.heap.size 129 i0 (.agg #[.int .i64 0,.int .i64 0,.int .i64 0,.int .i64 0,.string ⟨#[]⟩]) 5 48 Tryz.underlying97 hi0 hz0 hz1 hz2 rfl (by decide) (.slice none 0 0) 0 [] rfl (World.ownsRow_nil _ _ _ _) _ B n _ rfl HFRN.out (frisV_one _) (by unfold maxLen;omega) (by omega) hs5 ?_;intro v7 w7 hown7 hgrow7;have hb7:Below w5.heap.size w5 w7:=(Below.refl _ _).grown hgrow7 (Nat.le_refl _) (fun k e=>by cases e);have HB7:=Lib.hid (HWW5.out.trans (hb7.mono hs5));have HX7:=Lib.hid (HXR.out.below hb7 HXR.out.lt);have HV7:=Lib.hid (HVR.out.below (B:=B) (hb7.mono (Nat.le_trans hB hs5)));have HOW7:=Lib.hid hown7;clear hb7 hown7 hgrow7;have x0:=HX7.out.cell 0 (v:=.int .i64 x.f.nominal) rfl;have x1:=HX7.out.cell 1 (v:=.int .i64 x.f.kind) rfl;have x2:=HX7.out.cell 2 (v:=.int .i64 x.f.save) rfl;have x3:=HX7.out.cell 3 (v:=.int .i64 x.i) rfl;have x4:=HX7.out.cell 4 (v:=.string x.f.letter) rfl;have hs7:=HB7.out.size)
      | (at_builtin;have _t:=HOW7;refine wpList_append_own _ rfl _ _ 97 rfl w.heap.size 129 i0 (.agg #[.int .i64 0,.int .i64 0,.int .i64 0,.int .i64 0,.string ⟨#[]⟩]) 5 48 Tryz.underlying97 hi0 hz0 hz1 hz2 rfl (by decide) v7 (0 + n) _ rfl (HOW7.out.alloc _) ⟨w7.heap.size,0,none⟩ 1 1 (friV x) rfl rfl (fun j y hy=>by rw [Addr.add_lit,Nat.zero_add];exact (cell_new w7 _ _ _ j).trans (by simpa [friV] using hy)) (by simp [friV,Value.oneCell']) (by unfold maxLen;omega) (by omega) (by simp;omega) ?_;intro v8 w8 hown8 hgrow8 hnil8;go_loud (have HB8:=Lib.hid ((HB7.out.alloc hs7 _).grown hgrow8 (by simp;omega) (fun g e=>(HOW7.out.lt g e).1));have HV8:=Lib.hid (HV7.out.below (B:=B) ((((Below.refl B w7).alloc (Nat.le_trans hB hs7) _)).grown hgrow8 (by simp;omega) (fun g e=>Nat.le_trans hB (HOW7.out.lt g e).1)));have HOW8:=Lib.hid hown8;have hs8:=HB8.out.size;have HBKN:=Lib.hid (HV8.out.backM hn);clear hown8 hgrow8 hnil8 x0 x1 x2 x3 x4))
      | (at_builtin;have _t:=HOW8;go_loud (refine wpList_append_sl rfl _ _ 97 rfl w.heap.size 129 i0 (.agg #[.int .i64 0,.int .i64 0,.int .i64 0,.int .i64 0,.string ⟨#[]⟩]) 5 48 Tryz.underlying97 hi0 hz0 hz1 hz2 rfl (by decide) v8 (0 + n + 1) _ rfl HOW8.out _ B (l.length - n) _ rfl HBKN.out (frisV_one _) (by unfold maxLen;omega) (by omega) hs8 ?_);intro v9 w9 hown9 hgrow9)
     all_goals
      go_ret
      have hb9:=HB8.out.grown hgrow9 hs8 (fun g e=>(HOW8.out.lt g e).1)
      refine ⟨v9,l.take n,l.drop n,rfl,(List.take_append_drop n l).symm,HAC.out.1,HAC.out.2,?_,hb9⟩
      refine ⟨?_,TyF.own hown9⟩
      have h:=Sl.of_own hown9
      unfold Fris
      rw [List.nil_append,show 0 + n + 1 + (l.length - n) = (l.take n ++ x :: l.drop n).length by simp;omega] at h
      rw [show frisV (l.take n ++ x :: l.drop n) = frisV (l.take n) ++ friV x ++ frisV (l.drop n) by simp [frisV]]
      exact h
    ·have hg2:(y.f.nominal == x.f.nominal) = false:=by simpa using heq
     go_wp2_with fail
     refine wp_env (fin:=?fnL) (by kernel_rfl) [9,10,11,12,13,14,15,16,17,18,19,20,21,22,23,24,25,26,27,28,29,30,31,32,33,34,35,36,37,38,39,40,41,42,43,44,45,46,47,48,49]
      [.int .i64 n,.bool true,.bool true,.slice (some ⟨b,o,none⟩) l.length c,.int .i64 n,.int .i64 p,.pointer (some ⟨b,o + p * 5,none⟩),.pointer (some ⟨b,o + p * 5,none⟩),.pointer (some ⟨b,o + p * 5,none⟩),.int .i64 y.f.nominal,.pointer (some ⟨w.heap.size,0,none⟩),.pointer (some ⟨w.heap.size,0,none⟩),.int .i64 x.f.nominal,.bool false,.bool false,.slice (some ⟨b,o,none⟩) l.length c,.int .i64 n,.int .i64 p,.pointer (some ⟨b,o + p * 5,none⟩),.pointer (some ⟨b,o + p * 5,none⟩),.pointer (some ⟨b,o + p * 5,none⟩),.int .i64 y.f.nominal,.pointer (some ⟨w.heap.size,0,none⟩),.pointer (some ⟨w.heap.size,0,none⟩),.int .i64 x.f.nominal,.bool false,.bool false,undef,undef,undef,undef,undef,undef,undef,undef,undef,undef,undef,.bool false,.bool false,.bool false] (by kernel_rfl) ?finL ?stepsL ?nextL
     case finL =>
      simp only [putAll,Act.put,List.setIfInBounds_toArray,List.set_cons_succ,List.set_cons_zero]
      rfl
     case stepsL =>
      refine ⟨?_,?_,?_,?_,?_,?_,?_,?_,?_,?_,?_,?_,?_,?_,?_,?_,?_,?_,?_,?_,?_,?_,?_,?_,?_,?_,?_,?_,?_,?_,?_,?_,?_,?_,?_,?_,?_,?_,?_,?_,?_,trivial⟩
      all_goals first | exact .inl ⟨by kernel_rfl,rfl⟩ | refine .inr ⟨by kernel_rfl,fun w1_ hB_=>?_⟩
      all_goals
       obtain ⟨d0_,d3_,q0_,q3_⟩:=HCELL.out w1_ hB_
       go_simp
       first
        | exact ⟨rfl,Below.refl _ _⟩
        | ((first | rw [decide_eq_true (by omega)] | rw [decide_eq_false (by omega)] | rw [if_pos (by omega)] | rw [IntWalk.i64_in _ (by omega)]);exact ⟨rfl,Below.refl _ _⟩)
        | done
     case nextL =>
     clear hd hg hg2 hg3 heq hgt e1
     obtain ⟨A,hA⟩:∃ A,(some ⟨b,o,none⟩:Option Addr) = A:=⟨_,rfl⟩
     rw [hA] at HVR ⊢
     clear hA
     intro w5 hb5
     have HB5:=Lib.hid (HBW.out.trans (hb5.mono HBW.out.size))
     have HVR:=Lib.hid (HVR.out.below (B:=B) (hb5.mono (Nat.le_trans hB (Nat.le_trans HB0.out.size HBW.out.size))))
     have HXR:=Lib.hid (HXR.out.below hb5 (Nat.lt_of_lt_of_le HXB.out.lt HBW.out.size))
     have hws5:=hb5.size
     have HWW5:=Lib.hid (HB0.out.trans (HB5.out.mono HB0.out.size))
     have hs5:=HWW5.out.size
     have HFRN:=Lib.hid (show Sl w5 B 5 (.slice A n c) n (frisV (l.take n)) by have:=HVR.out.front hn;unfold Fris at this;rwa [List.length_take,Nat.min_eq_left hn] at this)
     clear hb5 x0 x1 x2 x3 x4
     go_wp2_with first
      | (at_builtin;refine wpList_append_sl rfl _ _ 97 rfl w.heap.size 129 i0 (.agg #[.int .i64 0,.int .i64 0,.int .i64 0,.int .i64 0,.string ⟨#[]⟩]) 5 48 Tryz.underlying97 hi0 hz0 hz1 hz2 rfl (by decide) (.slice none 0 0) 0 [] rfl (World.ownsRow_nil _ _ _ _) _ B n _ rfl HFRN.out (frisV_one _) (by unfold maxLen;omega) (by omega) hs5 ?_;intro v7 w7 hown7 hgrow7;have hb7:Below w5.heap.size w5 w7:=(Below.refl _ _).grown hgrow7 (Nat.le_refl _) (fun k e=>by cases e);have HB7:=Lib.hid (HWW5.out.trans (hb7.mono hs5));have HX7:=Lib.hid (HXR.out.below hb7 HXR.out.lt);have HV7:=Lib.hid (HVR.out.below (B:=B) (hb7.mono (Nat.le_trans hB hs5)));have HOW7:=Lib.hid hown7;clear hb7 hown7 hgrow7;have x0:=HX7.out.cell 0 (v:=.int .i64 x.f.nominal) rfl;have x1:=HX7.out.cell 1 (v:=.int .i64 x.f.kind) rfl;have x2:=HX7.out.cell 2 (v:=.int .i64 x.f.save) rfl;have x3:=HX7.out.cell 3 (v:=.int .i64 x.i) rfl;have x4:=HX7.out.cell 4 (v:=.string x.f.letter) rfl;have hs7:=HB7.out.size)
      | (at_builtin;have _t:=HOW7;refine wpList_append_own _ rfl _ _ 97 rfl w.heap.size 129 i0 (.agg #[.int .i64 0,.int .i64 0,.int .i64 0,.int .i64 0,.string ⟨#[]⟩]) 5 48 Tryz.underlying97 hi0 hz0 hz1 hz2 rfl (by decide) v7 (0 + n) _ rfl (HOW7.out.alloc _) ⟨w7.heap.size,0,none⟩ 1 1 (friV x) rfl rfl (fun j y hy=>by rw [Addr.add_lit,Nat.zero_add];exact (cell_new w7 _ _ _ j).trans (by simpa [friV] using hy)) (by simp [friV,Value.oneCell']) (by unfold maxLen;omega) (by omega) (by simp;omega) ?_;intro v8 w8 hown8 hgrow8 hnil8;go_loud (have HB8:=Lib.hid ((HB7.out.alloc hs7 _).grown hgrow8 (by simp;omega) (fun g e=>(HOW7.out.lt g e).1));have HV8:=Lib.hid (HV7.out.below (B:=B) ((((Below.refl B w7).alloc (Nat.le_trans hB hs7) _)).grown hgrow8 (by simp;omega) (fun g e=>Nat.le_trans hB (HOW7.out.lt g e).1)));have HOW8:=Lib.hid hown8;have hs8:=HB8.out.size;have HBKN:=Lib.hid (HV8.out.backM hn);clear hown8 hgrow8 hnil8 x0 x1 x2 x3 x4))
      | (at_builtin;have _t:=HOW8;go_loud (refine wpList_append_sl rfl _ _ 97 rfl w.heap.size 129 i0 (.agg #[.int .i64 0,.int .i64 0,.int .i64 0,.int .i64 0,.string ⟨#[]⟩]) 5 48 Tryz.underlying97 hi0 hz0 hz1 hz2 rfl (by decide) v8 (0 + n + 1) _ rfl HOW8.out _ B (l.length - n) _ rfl HBKN.out (frisV_one _) (by unfold maxLen;omega) (by omega) hs8 ?_);intro v9 w9 hown9 hgrow9)
     all_goals
      go_ret
      have hb9:=HB8.out.grown hgrow9 hs8 (fun g e=>(HOW8.out.lt g e).1)
      refine ⟨v9,l.take n,l.drop n,rfl,(List.take_append_drop n l).symm,HAC.out.1,HAC.out.2,?_,hb9⟩
      refine ⟨?_,TyF.own hown9⟩
      have h:=Sl.of_own hown9
      unfold Fris
      rw [List.nil_append,show 0 + n + 1 + (l.length - n) = (l.take n ++ x :: l.drop n).length by simp;omega] at h
      rw [show frisV (l.take n ++ x :: l.drop n) = frisV (l.take n) ++ friV x ++ frisV (l.drop n) by simp [frisV]]
      exact h
end
end Go.Proofs.YteekjfgjmccdnaaGreatDoor
