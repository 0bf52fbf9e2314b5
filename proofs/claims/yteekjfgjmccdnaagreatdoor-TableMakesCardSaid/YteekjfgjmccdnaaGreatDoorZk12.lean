/-
  Layer 14 (plain): a table up to a later instant is one up to an earlier one, and what is behind it.
-/
import Derived.Lib.MinMax
import Derived.Deep.QuietTactic
import Derived.BigQuiet
import Derived.WalkKit
import Derived.Test.YteekjfgjmccdnaaGreatDoorChecked
import Derived.Lib.Hide
import Derived.IntWalk
import Derived.Lib.Strings
import Derived.Test.YteekjfgjmccdnaaGreatDoorZk11
set_option maxHeartbeats 16000000
set_option maxRecDepth 100000
namespace Go.Proofs.YteekjfgjmccdnaaGreatDoor
section -- HRch
open Go Go.RowKit Go.Shelf
def instZ (l:List EraF) (R:List RowF) (q j:Nat):Int:=instA ((R.getD q default).D.map FrI.f) (l.getD q default).n.off j
def dlenZ (R:List RowF) (q:Nat):Nat:=(R.getD q default).D.length
def AllK (S:List SetF) (l:List EraF) (R:List RowF) (i k:Nat) (N:List Int):Prop:=∀ x,x ∈ N ↔ x ∈ endL S l∨(∃ q j,q < i∧j < dlenZ R q∧instZ l R q j = x)∨∃ j,j < k∧instZ l R i j = x
section
variable {S:List SetF} {l:List EraF} {R:List RowF}
theorem AllK.start {N:List Int} (h:∀ x,x ∈ N ↔ x ∈ endL S l):AllK S l R 0 0 N:=fun x=>by
 rw [h]
 constructor
 ·exact .inl
 ·rintro (h | ⟨q,j,h,-⟩ | ⟨j,h,-⟩)
  ·exact h
  ·omega
  ·omega
theorem AllK.put {N M:List Int} {i k:Nat} (h:AllK S l R i k N) (hM:∀ x,x ∈ M ↔ x ∈ N∨x = instZ l R i k):AllK S l R i (k + 1) M:=fun x=>by
 rw [hM,h x]
 constructor
 ·rintro ((h | h | ⟨j,hj,e⟩) | rfl)
  ·exact .inl h
  ·exact .inr (.inl h)
  ·exact .inr (.inr ⟨j,by omega,e⟩)
  ·exact .inr (.inr ⟨k,by omega,rfl⟩)
 ·rintro (h | h | ⟨j,hj,e⟩)
  ·exact .inl (.inl h)
  ·exact .inl (.inr (.inl h))
  ·by_cases hk:j = k
   ·subst hk
    exact .inr e.symm
   ·exact .inl (.inr (.inr ⟨j,by omega,e⟩))
theorem AllK.next {N:List Int} {i k:Nat} (h:AllK S l R i k N) (hk:k = dlenZ R i):AllK S l R (i + 1) 0 N:=fun x=>by
 rw [h x]
 constructor
 ·rintro (h | ⟨q,j,hq,hj,e⟩ | ⟨j,hj,e⟩)
  ·exact .inl h
  ·exact .inr (.inl ⟨q,j,by omega,hj,e⟩)
  ·exact .inr (.inl ⟨i,j,by omega,by omega,e⟩)
 ·rintro (h | ⟨q,j,hq,hj,e⟩ | ⟨j,hj,e⟩)
  ·exact .inl h
  ·by_cases hqi:q = i
   ·subst hqi
    exact .inr (.inr ⟨j,by omega,e⟩)
   ·exact .inr (.inl ⟨q,j,by omega,hj,e⟩)
  ·omega
theorem AllK.all {N:List Int} (hr:RowsZ S l R) (h:AllK S l R R.length 0 N):AllN S l R N:=fun x=>by
 have hg:∀ q (hq:q < R.length),R.getD q default = R[q]:=fun q hq=>by rw [List.getD_eq_getElem?_getD,List.getElem?_eq_getElem hq];rfl
 have hg2:∀ q (hq:q < l.length),l.getD q default = l[q]:=fun q hq=>by rw [List.getD_eq_getElem?_getD,List.getElem?_eq_getElem hq];rfl
 rw [h x]
 constructor
 ·rintro (h | ⟨q,j,hq,hj,e⟩ | ⟨j,hj,e⟩)
  ·exact .inl h
  ·have hql:q < l.length:=by rw [← hr.len];exact hq
   unfold dlenZ at hj
   unfold instZ at e
   rw [hg q hq] at hj e
   rw [hg2 q hql] at e
   exact .inr ⟨q,hq,hql,j,hj,e⟩
  ·omega
 ·rintro (h | ⟨q,hq,hql,j,hj,e⟩)
  ·exact .inl h
  ·refine .inr (.inl ⟨q,j,hq,?_,?_⟩)
   ·unfold dlenZ
    rw [hg q hq]
    exact hj
   ·unfold instZ
    rw [hg q hq,hg2 q hql]
    exact e
theorem AllN.in_ (hf:FewZ S l) (hr:RowsZ S l R) {N:List Int} (h:AllN S l R N):∀ x ∈ N,-2000000000000000 ≤ x∧x ≤ 2000000000000000:=fun x hx=>by
 rcases (h x).1 hx with g | ⟨k,hk,hk2,j,hj,rfl⟩
 ·have:=hf.ends x g
  omega
 ·have hok:=hr.ok k hk hk2
  have hj2:j < (R[k].D.map FrI.f).length:=by rw [List.length_map];exact hj
  have h1:=hok.right.inst_in (hf.off hk2) hj2
  have h2:=hok.bd R[k].D[j] (List.getElem_mem hj)
  rw [List.getElem_map] at h1
  omega
theorem outR_next {fr to:Int} {N:List Int} {k:Nat} (hk:k < N.length) (b:Bool) (hb:(decide (fr < N[k]) && (decide (N[k] ≤ to) && !locE (refZ S l R N[k]) (refZ S l R (N[k] - 1)))) = b) :
  outR S l R fr to (N.take (k + 1)) = outR S l R fr to (N.take k) ++ (bif b then [⟨N[k],refZ S l R N[k]⟩] else []):=by
 unfold outR
 rw [List.take_succ_eq_append_getElem hk,List.filter_append,List.map_append,List.filter_cons,hb]
 cases b <;> rfl
theorem outR_len {fr to:Int} {N:List Int}:(outR S l R fr to N).length ≤ N.length:=by
 unfold outR
 rw [List.length_map]
 exact List.length_filter_le _ _
end
theorem own_base {w:World} {base base':Nat} {e:TypeId} {sz n:Nat} {v:Value} {xs:List Value} (h:w.ownsRow base e sz v n xs) (hb:base' ≤ base):w.ownsRow base' e sz v n xs:=by
 obtain ⟨h1,h2⟩:=h
 refine ⟨h1,h2.imp id ?_⟩
 rintro ⟨g,cap,cur,e1,e2,e3⟩
 exact ⟨g,cap,cur,e1,Nat.le_trans hb e2,e3⟩
def RchPost (w:World) (S:List SetF) (l:List EraF) (R:List RowF) (fr to:Int) (o:Ending) (w':World):Prop :=
 (∃ q N,o = .returned q∧w'.ownsRow w.heap.size 76 4 q (outR S l R fr to N).length (chgsV (outR S l R fr to N))∧(outR S l R fr to N).length ≤ 1000000∧RiseN N∧AllN S l R N)∧Below w.heap.size w w'
theorem rchanges_any (w:World) (zn:ByteArray) (ev u v:Value) (B:Nat) (l:List EraF) (S:List SetF) (R:List RowF) (fr to:Int) (he:ErasR w B ev l) (hR:RowsB w B u R) (hE:Nums w B v (endL S l)) (hB:B ≤ w.heap.size) (hf:FewZ S l) (hr:RowsZ S l R) (hlet:∀ s ∈ S,letOk s.l) :
  Calls Tryz.prog 31 #[zoneA zn ev,u,v,.int .i64 fr,.int .i64 to] w (RchPost w S l R fr to):=by
 obtain ⟨ic,hic,hc0,hc1,hc2⟩:=info_parts infoChgH
 obtain ⟨A,cA,rfl,hlc,hcm⟩:=he.form
 obtain ⟨A2,cR,rfl,hlc2,hcm2⟩:=hR.form
 obtain ⟨EL,hEL⟩:∃ E,endL S l = E:=⟨_,rfl⟩
 have hel:EL.length ≤ 3:=by rw [← hEL,length_endL];have:=(fewB_iff.1 hf.few).2.2.1;omega
 have hl4:l.length ≤ 4:=(fewB_iff.1 hf.few).2.2.1
 rw [hEL] at hE
 obtain ⟨A3,cE,rfl,hlc3,hcm3⟩:=hE.form
 unfold maxLen at hcm hcm2 hcm3
 have HEL:=Lib.hid hEL
 obtain ⟨W0,hW0⟩:∃ W,(w.alloc (.cells #[.string zn,.slice A l.length cA] 24)) = W:=⟨_,rfl⟩
 have HB0:=Lib.hid (show Below w.heap.size w W0 by rw [← hW0];exact (Below.refl w.heap.size w).alloc (Nat.le_refl _) _)
 have HXX:=Lib.hid (show Blk W0 w.heap.size 24 #[.string zn,.slice A l.length cA] by rw [← hW0];exact Blk.new w _ _)
 have HE0:=Lib.hid he
 have HRB:=Lib.hid hR
 have HNE:=Lib.hid hE
 have HF:=Lib.hid hf
 have HRZ:=Lib.hid hr
 have HLET:=Lib.hid hlet
 have HW0:=Lib.hid hW0
 have hRl:R.length ≤ l.length∧l.length ≤ R.length:=by have:=hr.len;omega
 have HAT:=Lib.hid (fun (W:World) (h:Below w.heap.size w W) (i:Int)=>rat_any W zn _ _ (.slice A3 EL.length cE) B l S R i (he.below (h.mono hB)) (hR.below (h.mono hB)) (by rw [hEL];exact hE.below (h.mono hB)) (Nat.le_trans hB h.size) hf hr hlet)
 unfold zoneA at HAT
 clear he hR hE hf hr hlet hEL hW0
 unfold zoneA RchPost
 go_enter Tryz.func31,Tryz.ntmps31
 go_wp2_with fail
 rw [HW0.out]
 try simp only [HW0.out]
 clear HW0
 go_loopw [11,12] (fun u iv wr=>∃ (k:Nat) (N:List Int),k ≤ EL.length∧iv = .int .i64 k∧Nums wr wr.heap.size u N∧RiseN N∧(∀ x,x ∈ N ↔ x ∈ EL.take k)∧N.length ≤ k∧Below W0.heap.size W0 wr) (fun _ iv _=>EL.length - (intOf iv).toNat)
 case atStart=>exact ⟨0,[],Nat.zero_le _,rfl,Sl.nil _ _ _,List.Pairwise.nil,fun x=>by simp,Nat.zero_le _,Below.refl _ _⟩
 case round =>
  obtain ⟨k,N,hk,rfl,hN,hrN,hmN,hlN,hbq⟩:=hrel
  have HN:=Lib.hid hN
  have HRN:=Lib.hid hrN
  have HMN:=Lib.hid hmN
  have HBL:=Lib.hid hbq
  have HBQ:=Lib.hid (HB0.out.trans (hbq.mono HB0.out.size))
  clear hN hrN hmN hbq
  by_cases hlt:k < EL.length
  ·have hd:decide ((k:Int) < (EL.length:Int)) = true:=decide_eq_true (by omega)
   obtain ⟨b4,o4,c4',e,hb4,hc4⟩:=(Nums.below HNE.out (HBQ.out.mono hB)).cells (by omega)
   cases e
   have e4:=hc4 k hlt
   have hb4q:b4 < wr.heap.size:=by have:=HBQ.out.size;omega
   obtain ⟨n,hn⟩:∃ n:Int,EL[k]'hlt = n:=⟨_,rfl⟩
   rw [hn] at e4
   have hpt:=rput_any wr wr.heap.size _ N n HN.out (Nat.le_refl _) HRN.out (by omega)
   obtain ⟨Au,cu,hu,-,-⟩:=HN.out.form
   subst hu
   have HPT:=Lib.hid hpt
   have HTK:=Lib.hid (show EL.take (k + 1) = EL.take k ++ [n] by rw [List.take_succ_eq_append_getElem hlt,hn])
   clear hc4 hn hpt
   go_wp2_with fail
   refine HPT.out.mono ?_
   rintro o w2 ⟨⟨u2,M,rfl,hM,hins⟩,hb⟩
   have HB2:=Lib.hid (HBL.out.trans (hb.mono HBL.out.size))
   have HM:=Lib.hid hM
   have HI:=Lib.hid hins
   clear hb hM hins
   go_wp2_with fail
   go_roundw
   case rel =>
    refine ⟨k + 1,M,by omega,by go_num,HM.out,HI.out.rise,fun x=>?_,by have:=HI.out.len;omega,HB2.out⟩
    rw [HI.out.mem,HMN.out,HTK.out,List.mem_append,List.mem_singleton]
   case measure=>first | (simp [intOf];done) | (simp [intOf];omega)
  ·obtain rfl:k = EL.length:=by omega
   have hd:decide ((EL.length:Int) < (EL.length:Int)) = false:=decide_eq_false (by omega)
   obtain ⟨w2,hw2⟩:∃ x,x = wr:=⟨_,rfl⟩
   subst hw2
   have HA0:=Lib.hid (AllK.start (S:=S) (l:=l) (R:=R) (N:=N) (fun x=>by rw [HMN.out,List.take_length,HEL.out]))
   obtain ⟨Au,cu,hu,-,-⟩:=HN.out.form
   subst hu
   clear hk hlt HMN
   go_wp2_with fail
   go_loopw [11,13] (fun u iv wr=>∃ (i:Nat) (M:List Int),i ≤ R.length∧iv = .int .i64 i∧Nums wr wr.heap.size u M∧RiseN M∧AllK S l R i 0 M∧M.length ≤ EL.length + i * 100000∧Below w2.heap.size w2 wr) (fun _ iv _=>R.length - (intOf iv).toNat)
   case atStart=>exact ⟨0,N,Nat.zero_le _,rfl,HN.out,HRN.out,HA0.out,by omega,Below.refl _ _⟩
   case round =>
    obtain ⟨i,M,hi,rfl,hM,hrM,hmM,hlM,hbq⟩:=hrel
    have HM:=Lib.hid hM
    have HRM:=Lib.hid hrM
    have HMM:=Lib.hid hmM
    have HBL3:=Lib.hid (HBL.out.trans (hbq.mono HBL.out.size))
    have HBI2:=Lib.hid hbq
    obtain ⟨w3,hw3⟩:∃ x,x = wr:=⟨_,rfl⟩
    subst hw3
    clear hM hrM hmM hbq
    obtain ⟨Am,cm,hu,-,-⟩:=HM.out.form
    subst hu
    by_cases hlt:i < R.length
    ·have hd:decide ((i:Int) < (R.length:Int)) = true:=decide_eq_true (by omega)
     have hil:i < l.length:=by omega
     have hok:=HRZ.out.ok i hlt hil
     have hrm:=HRB.out.2 _ (List.getElem_mem hlt)
     have hof:=HF.out.off hil
     have hD:dlenZ R i = R[i].D.length:=by unfold dlenZ;rw [List.getD_eq_getElem?_getD,List.getElem?_eq_getElem hlt];rfl
     have hI:∀ j,instZ l R i j = instA (R[i].D.map FrI.f) l[i].n.off j:=fun j=>by unfold instZ;rw [List.getD_eq_getElem?_getD,List.getElem?_eq_getElem hlt,List.getD_eq_getElem?_getD,List.getElem?_eq_getElem hil];rfl
     obtain ⟨x,hxk⟩:∃ x,l[i] = x:=⟨_,rfl⟩
     obtain ⟨r,hrk⟩:∃ r,R[i] = r:=⟨_,rfl⟩
     have hdl:r.D.length ≤ 100000:=by rw [← hrk];exact hok.len
     have HXK:=Lib.hid hxk
     have HRK:=Lib.hid hrk
     rw [hrk] at hD hok hrm
     rw [hxk] at hof
     simp only [hrk,hxk] at hI
     have HD:=Lib.hid hD
     have HI:=Lib.hid hI
     have HOK:=Lib.hid (And.intro hok.len hok.bd)
     have HRM2:=Lib.hid hrm
     have HOF:=Lib.hid hof
     clear hok hrm hof hD hI hxk hrk
     go_wp2_with fail
     go_loopw [11,14] (fun u iv wr=>∃ (k:Nat) (M:List Int),k ≤ r.D.length∧iv = .int .i64 k∧Nums wr wr.heap.size u M∧RiseN M∧AllK S l R i k M∧M.length ≤ EL.length + i * 100000 + k∧Below w3.heap.size w3 wr) (fun _ iv _=>r.D.length - (intOf iv).toNat)
     case atStart=>exact ⟨0,M,Nat.zero_le _,rfl,HM.out,HRM.out,HMM.out,by omega,Below.refl _ _⟩
     case round =>
      obtain ⟨k,N3,hk,rfl,hM,hrM,hmM,hlM3,hbq⟩:=hrel
      have HN3:=Lib.hid hM
      have HRN3:=Lib.hid hrM
      have HMN3:=Lib.hid hmM
      have HBI:=Lib.hid hbq
      have HBW:=Lib.hid (HBL3.out.trans (hbq.mono HBL3.out.size))
      have HBQ4:=Lib.hid (HB0.out.trans (HBW.out.mono HB0.out.size))
      clear hM hrM hmM hbq
      obtain ⟨br,orr,cr',e,hbr,hcr⟩:=(HRB.out.below (HBQ4.out.mono hB)).cells (by omega)
      cases e
      obtain ⟨rc0,-⟩:=hcr i hlt
      obtain ⟨Am3,cm3,hu,-,-⟩:=HN3.out.form
      subst hu
      rw [HRK.out] at rc0
      obtain ⟨A9,c9,hv9,-,-⟩:=HRM2.out.form
      rw [hv9] at rc0
      have hbrq:br < wr.heap.size:=by have:=HBQ4.out.size;omega
      have hdR:decide (i < R.length) = true:=decide_eq_true hlt
      clear hcr
      by_cases hlt3:k < r.D.length
      ·have hd3:decide ((k:Int) < (r.D.length:Int)) = true:=decide_eq_true (by omega)
       have HIN:=Lib.hid (fun (W:World) (h:Below wr.heap.size wr W)=>rinst_any W B r.v r.D (HRM2.out.below ((HBQ4.out.trans (h.mono HBQ4.out.size)).mono hB)) (Nat.le_trans hB (HBQ4.out.trans (h.mono HBQ4.out.size)).size) HOK.out.1 HOK.out.2 k hlt3 x.n.off (by have:=HOF.out;omega))
       rw [hv9] at HIN
       obtain ⟨n,hn⟩:∃ n,instA (r.D.map FrI.f) x.n.off k = n:=⟨_,rfl⟩
       rw [hn] at HIN
       have HNK:=Lib.hid (show instZ l R i k = n by rw [HI.out];exact hn)
       obtain ⟨bb,o,c',e,hbb,hc⟩:=(HE0.out.below (HBQ4.out.mono hB)).cells (by omega)
       cases e
       have c0:=(hc i hil).1
       rw [HXK.out] at c0
       have hbbq:bb < wr.heap.size:=by have:=HBQ4.out.size;omega
       have hdE:decide (i < l.length) = true:=decide_eq_true hil
       have hxb:=HXX.out.below (HBW.out) HXX.out.lt
       have x0:=hxb.cell 0 (v:=.string zn) rfl
       have x1:=hxb.cell 1 (v:=.slice (some ⟨bb,o,none⟩) l.length cA) rfl
       have hxl:=hxb.lt
       clear hxb
       clear hc hn hv9
       go_wp2_with fail
       refine wp_text (by kernel_rfl) (by kernel_rfl) ?_
       intro K hK
       have HBD:=Lib.hid (below_drewN (Below.refl wr.heap.size wr) 1)
       go_wp2_with fail
       refine (HIN.out (wr.drewN 1) HBD.out).mono ?_
       rintro o5 w5 ⟨rfl,hb⟩
       have HB5:=Lib.hid (HBD.out.trans (hb.mono HBD.out.size))
       have HPT:=Lib.hid (rput_any w5 w5.heap.size _ N3 n ((HN3.out.below HB5.out).more HB5.out.size) (Nat.le_refl _) HRN3.out (by omega))
       clear hb HBD
       go_wp2_with fail
       refine HPT.out.mono ?_
       rintro o6 w6 ⟨⟨u6,M6,rfl,hM,hins⟩,hb⟩
       have HB6:=Lib.hid (HBI.out.trans ((HB5.out.trans (hb.mono HB5.out.size)).mono HBI.out.size))
       have HM6:=Lib.hid hM
       have HI6:=Lib.hid hins
       clear hb hM hins HPT
       go_wp2_with fail
       refine ⟨by simp [goodB,fits,plainPair,isSeqV,quiet,Act.eval],?_⟩
       go_wp2_with fail
       go_roundw
       case rel =>
        refine ⟨k + 1,M6,by omega,by go_num,HM6.out,HI6.out.rise,HMN3.out.put (fun y=>by rw [HI6.out.mem,HNK.out]),by have:=HI6.out.len;omega,HB6.out⟩
       case measure=>first | (simp [intOf];done) | (simp [intOf];omega)
      ·obtain rfl:k = r.D.length:=by omega
       have hd3:decide ((r.D.length:Int) < (r.D.length:Int)) = false:=decide_eq_false (by omega)
       have HNX:=Lib.hid (HMN3.out.next HD.out.symm)
       go_wp2_with fail
       go_roundw
       case rel =>
        refine ⟨i + 1,N3,by omega,by go_num,HN3.out,HRN3.out,HNX.out,by omega,HBI2.out.trans (HBI.out.mono HBI2.out.size)⟩
       case measure=>first | (simp [intOf];done) | (simp [intOf];omega)
    ·obtain rfl:i = R.length:=by omega
     have hd:decide ((R.length:Int) < (R.length:Int)) = false:=decide_eq_false (by omega)
     have HAN:=Lib.hid (HMM.out.all HRZ.out)
     have HNI:=Lib.hid (AllN.in_ HF.out HRZ.out HAN.out)
     have hML:M.length ≤ 1000000:=by omega
     have HMB:=Lib.hid (show Sl w3 w3.heap.size 1 (.slice Am M.length cm) M.length (intsV M) from HM.out)
     clear HMM hlM hi hlt
     go_wp2_with fail
     go_loopw [15,16] (fun u iv wr=>∃ (k:Nat),k ≤ M.length∧iv = .int .i64 k∧wr.ownsRow w3.heap.size 76 4 u (outR S l R fr to (M.take k)).length (chgsV (outR S l R fr to (M.take k)))∧Below w3.heap.size w3 wr) (fun _ iv _=>M.length - (intOf iv).toNat)
     case atStart=>exact ⟨0,Nat.zero_le _,rfl,World.ownsRow_nil _ _ _ _,Below.refl _ _⟩
     case round =>
      obtain ⟨k,hk,rfl,hown,hbq⟩:=hrel
      obtain ⟨Q,hQ⟩:∃ Q,outR S l R fr to (M.take k) = Q:=⟨_,rfl⟩
      rw [hQ] at hown
      have HQ:=Lib.hid hQ
      have HOW:=Lib.hid hown
      have HBI:=Lib.hid hbq
      have HBW:=Lib.hid (HBL3.out.trans (hbq.mono HBL3.out.size))
      have HBQ4:=Lib.hid (HB0.out.trans (HBW.out.mono HB0.out.size))
      have hQl:Q.length ≤ 1000000:=by rw [← hQ];exact Nat.le_trans outR_len (by rw [List.length_take];omega)
      obtain ⟨Aq,cq,hu,-,-⟩:=Sl.of_own hown
      subst hu
      clear hown hbq hQ
      by_cases hlt:k < M.length
      ·have hd:decide ((k:Int) < (M.length:Int)) = true:=decide_eq_true (by omega)
       obtain ⟨bm,om,cm',e,hbm,hcm'⟩:=(Nums.below HM.out HBI.out).cells (by omega)
       cases e
       obtain ⟨n,hn⟩:∃ n:Int,M[k]'hlt = n:=⟨_,rfl⟩
       have hnin:=HNI.out n (by rw [← hn];exact List.getElem_mem _)
       have HOX:=Lib.hid (fun b hb=>outR_next (S:=S) (l:=l) (R:=R) (fr:=fr) (to:=to) hlt b hb)
       rw [hn] at HOX
       have HCM:=Lib.hid (fun (W:World) (h:Below wr.heap.size wr W)=>show W.cell? ⟨bm,om + k,none⟩ = some (.int .i64 n) from (h.cell (p:=⟨bm,om + k,none⟩) (by show bm < wr.heap.size;have:=HBI.out.size;omega)).trans (by rw [hcm' k hlt,hn]))
       obtain ⟨⟨xo,xd,xs⟩,hxx⟩:∃ x,refZ S l R n = x:=⟨_,rfl⟩
       obtain ⟨⟨yo,yd,ys⟩,hyy⟩:∃ x,refZ S l R (n - 1) = x:=⟨_,rfl⟩
       have HAX:=Lib.hid (fun (W:World) (h:Below w.heap.size w W)=>by have:=HAT.out W h n;rw [hxx] at this;exact this)
       have HAY:=Lib.hid (fun (W:World) (h:Below w.heap.size w W)=>by have:=HAT.out W h (n - 1);rw [hyy] at this;exact this)
       unfold locA at HAX HAY
       rw [hxx,hyy] at HOX
       clear hcm' hn hxx hyy
       have e0:=HCM.out _ (Below.refl _ _)
       have hxb:=HXX.out.below (HBW.out) HXX.out.lt
       have x0:=hxb.cell 0 (v:=.string zn) rfl
       have x1:=hxb.cell 1 (v:=.slice (A) l.length cA) rfl
       have hxl:=hxb.lt
       clear hxb
       have hbmq:bm < wr.heap.size:=by have:=HBI.out.size;omega
       go_wp2_with fail
       refine wp_envA (fin:=?fnxa) (by kernel_rfl) [67,68,69,70,71,72,73,74,17,999]
        [.agg #[.string zn,.slice A l.length cA],.slice A2 R.length cR,.slice A3 EL.length cE,.slice (some ⟨bm,om,none⟩) M.length cm,.int .i64 k,.pointer (some ⟨bm,om + k,none⟩),.int .i64 n,.agg #[.int .i64 xo,.bool xd,.string xs],undef,undef] 8 9 48 #[.int .i64 0,.bool false,.string ⟨#[]⟩] #[.int .i64 xo,.bool xd,.string xs] (by kernel_rfl) (by simp) (by decide) ?finxa ?stepsxa ?nextxa
       case finxa =>
        intro p_
        simp only [List.set_cons_succ,List.set_cons_zero,putAll,Act.put,List.setIfInBounds_toArray,List.set_nil]
        rfl
       case stepsxa =>
        refine ⟨?_,?_,?_,?_,?_,?_,?_,?_,?alxa,?stxa,trivial⟩
        case alxa =>
         refine ⟨fun p_=>by kernel_rfl,fun p_ w1_ hB_=>?_⟩
         first | rfl | (go_simp;done) | (go_simp;rfl)
        case stxa =>
         refine ⟨fun p_=>by kernel_rfl,fun b_ w1_ hb_=>⟨(((w1_.setCell ⟨b_,0,none⟩ (.int .i64 xo)).setCell ⟨b_,1,none⟩ (.bool xd)).setCell ⟨b_,2,none⟩ (.string xs)),?_,((Fr.setCell (T:=fun k=>k = b_) w1_ 0 (.int .i64 xo) rfl).then (Fr.setCell _ 1 _ rfl)).then (Fr.setCell _ 2 _ rfl),(((hb_.set 0 (.int .i64 xo)).set 1 (.bool xd)).set 2 (.string xs))⟩⟩
         have f0_:=Blk.frozen hb_ 0
         have f1_:=Blk.frozen hb_ 1
         have f2_:=Blk.frozen hb_ 2
         have z0_:=Blk.cell hb_ 0 (v:=.int .i64 0) rfl
         have z1_:=Blk.cell hb_ 1 (v:=.bool false) rfl
         have z2_:=Blk.cell hb_ 2 (v:=.string ⟨#[]⟩) rfl
         go_simp
         try rfl
        all_goals
         intro p_
         refine .inr ⟨by kernel_rfl,fun w1_ hB_=>?_⟩
         have hB6_:=HBQ4.out.trans (hB_.mono HBQ4.out.size)
         have hxb_:=HXX.out.below (HBW.out.trans (hB_.mono HBW.out.size)) HXX.out.lt
         have x0_:=hxb_.cell 0 (v:=.string zn) rfl
         have x1_:=hxb_.cell 1 (v:=.slice A l.length cA) rfl
         have e0_:=HCM.out _ hB_
         go_simp
         first
          | exact ⟨rfl,Below.refl _ _⟩
          | exact ⟨rfl,HAX.out _ hB6_⟩
          | ((first | rw [decide_eq_true (by omega)] | rw [decide_eq_false (by omega)] | rw [if_pos (by omega)] | rw [IntWalk.i64_in _ (by omega)]);exact ⟨rfl,Below.refl _ _⟩)
          | done
       case nextxa =>
       intro xc w10 hb10 hxc hX10
       have HB10:=Lib.hid hb10
       have HBQ5:=Lib.hid (HBQ4.out.trans (hb10.mono HBQ4.out.size))
       have HBW5:=Lib.hid (HBW.out.trans (hb10.mono HBW.out.size))
       have HBI5:=Lib.hid (HBI.out.trans (hb10.mono HBI.out.size))
       have HOW5:=Lib.hid (ownsRow_below HOW.out hb10)
       have HX10:=Lib.hid hX10
       clear hb10 hxc hX10 e0 x0 x1 hxl
       go_wp2_with fail
       by_cases h1:fr < n
       ·have d1:decide (fr < n) = true:=decide_eq_true h1
        by_cases h2:n ≤ to
        ·have d2:decide (n ≤ to) = true:=decide_eq_true h2
         cases hq:locE ⟨xo,xd,xs⟩ ⟨yo,yd,ys⟩ with
         | true =>
           have hyn:=locE_iff.1 hq
           injection hyn with f1 f2 f3
           subst f1 f2 f3
           have HH:=Lib.hid (show (decide (fr < n) && (decide (n ≤ to) && !locE ⟨xo,xd,xs⟩ ⟨xo,xd,xs⟩)) = false by rw [hq,d1,d2];rfl)
           clear hq
           refine wp_env (fin:=?fnxc) (by kernel_rfl) [75,76,77,78,79,80,81,82,83,84,85,86,87,88,89,90,91,92,93,94,95,96,97,98,99,100,101]
            [.slice (some ⟨bm,om,none⟩) M.length cm,.int .i64 k,.pointer (some ⟨bm,om + k,none⟩),.int .i64 n,.int .i64 fr,.bool true,.bool true,.slice (some ⟨bm,om,none⟩) M.length cm,.int .i64 k,.pointer (some ⟨bm,om + k,none⟩),.int .i64 n,.int .i64 to,.bool true,.bool true,.bool true,.agg #[.int .i64 xo,.bool xd,.string xs],.agg #[.string zn,.slice A l.length cA],.slice A2 R.length cR,.slice A3 EL.length cE,.slice (some ⟨bm,om,none⟩) M.length cm,.int .i64 k,.pointer (some ⟨bm,om + k,none⟩),.int .i64 n,.int .i64 (n - 1),.agg #[.int .i64 xo,.bool xd,.string xs],.bool false,.bool false] (by kernel_rfl) ?finxc ?stepsxc ?nextxc
           case finxc =>
            simp only [putAll,Act.put,List.setIfInBounds_toArray,List.set_cons_succ,List.set_cons_zero]
            rfl
           case stepsxc =>
            refine ⟨?_,?_,?_,?_,?_,?_,?_,?_,?_,?_,?_,?_,?_,?_,?_,?_,?_,?_,?_,?_,?_,?_,?_,?_,?_,?_,?_,trivial⟩
            all_goals refine .inr ⟨by kernel_rfl,fun w1_ hB_=>?_⟩
            all_goals
             have hBw_:=HB10.out.trans (hB_.mono HB10.out.size)
             have hB6_:=HBQ4.out.trans (hBw_.mono HBQ4.out.size)
             have hxb_:=HXX.out.below (HBW.out.trans (hBw_.mono HBW.out.size)) HXX.out.lt
             have x0_:=hxb_.cell 0 (v:=.string zn) rfl
             have x1_:=hxb_.cell 1 (v:=.slice A l.length cA) rfl
             have e0_:=HCM.out _ hBw_
             have hxx_:=HX10.out.below hB_ HX10.out.lt
             have q0_:=hxx_.cell 0 (v:=.int .i64 xo) rfl
             have q1_:=hxx_.cell 1 (v:=.bool xd) rfl
             have q2_:=hxx_.cell 2 (v:=.string xs) rfl
             go_simp
             first
              | exact ⟨rfl,Below.refl _ _⟩
              | exact ⟨rfl,HAY.out _ hB6_⟩
              | ((first | rw [decide_eq_true (by omega)] | rw [decide_eq_false (by omega)] | rw [if_pos (by omega)] | rw [IntWalk.i64_in _ (by omega)]);exact ⟨rfl,Below.refl _ _⟩)
              | done
           case nextxc =>
           intro w11 hb11
           have HB11:=Lib.hid (HBI5.out.trans (hb11.mono HBI5.out.size))
           have HOW6:=Lib.hid (ownsRow_below HOW5.out hb11)
           clear hb11
           go_wp2_with fail
           go_roundw
           case rel =>
            refine ⟨k + 1,by omega,by go_num,?_,HB11.out⟩
            rw [HOX.out false (by exact HH.out),HQ.out,cond_false,List.append_nil]
            exact HOW6.out
           case measure=>first | (simp [intOf];done) | (simp [intOf];omega)
         | false =>
           have HH:=Lib.hid (show (decide (fr < n) && (decide (n ≤ to) && !locE ⟨xo,xd,xs⟩ ⟨yo,yd,ys⟩)) = true by rw [hq,d1,d2];rfl)
           have hq3:=hq
           unfold locE at hq3
           rw [decide_eq_false_iff_not] at hq3
           have hcase:¬ xo = yo∨(xo = yo∧¬ xd = yd)∨(xo = yo∧xd = yd∧¬ xs.toList = ys.toList):=by
            by_cases h1:xo = yo
            ·by_cases h2:xd = yd
             ·exact .inr (.inr ⟨h1,h2,fun h3=>hq3 ⟨h1,h2,h3⟩⟩)
             ·exact .inr (.inl ⟨h1,h2⟩)
            ·exact .inl h1
           clear hq hq3
           refine wp_env (fin:=?fnxd) (by kernel_rfl) [75,76,77,78,79,80,81,82,83,84,85,86,87,88,89,90,91,92,93,94,95,96,97,98,99,100,101]
            [.slice (some ⟨bm,om,none⟩) M.length cm,.int .i64 k,.pointer (some ⟨bm,om + k,none⟩),.int .i64 n,.int .i64 fr,.bool true,.bool true,.slice (some ⟨bm,om,none⟩) M.length cm,.int .i64 k,.pointer (some ⟨bm,om + k,none⟩),.int .i64 n,.int .i64 to,.bool true,.bool true,.bool true,.agg #[.int .i64 xo,.bool xd,.string xs],.agg #[.string zn,.slice A l.length cA],.slice A2 R.length cR,.slice A3 EL.length cE,.slice (some ⟨bm,om,none⟩) M.length cm,.int .i64 k,.pointer (some ⟨bm,om + k,none⟩),.int .i64 n,.int .i64 (n - 1),.agg #[.int .i64 yo,.bool yd,.string ys],.bool true,.bool true] (by kernel_rfl) ?finxd ?stepsxd ?nextxd
           case finxd =>
            simp only [putAll,Act.put,List.setIfInBounds_toArray,List.set_cons_succ,List.set_cons_zero]
            rfl
           case stepsxd =>
            refine ⟨?_,?_,?_,?_,?_,?_,?_,?_,?_,?_,?_,?_,?_,?_,?_,?_,?_,?_,?_,?_,?_,?_,?_,?_,?_,?_,?_,trivial⟩
            all_goals refine .inr ⟨by kernel_rfl,fun w1_ hB_=>?_⟩
            all_goals
             have hBw_:=HB10.out.trans (hB_.mono HB10.out.size)
             have hB6_:=HBQ4.out.trans (hBw_.mono HBQ4.out.size)
             have hxb_:=HXX.out.below (HBW.out.trans (hBw_.mono HBW.out.size)) HXX.out.lt
             have x0_:=hxb_.cell 0 (v:=.string zn) rfl
             have x1_:=hxb_.cell 1 (v:=.slice A l.length cA) rfl
             have e0_:=HCM.out _ hBw_
             have hxx_:=HX10.out.below hB_ HX10.out.lt
             have q0_:=hxx_.cell 0 (v:=.int .i64 xo) rfl
             have q1_:=hxx_.cell 1 (v:=.bool xd) rfl
             have q2_:=hxx_.cell 2 (v:=.string xs) rfl
             go_simp
             first
              | exact ⟨rfl,Below.refl _ _⟩
              | exact ⟨rfl,HAY.out _ hB6_⟩
              | (rcases hcase with g1 | ⟨g1,g2⟩ | ⟨g1,g2,g3⟩;(rw [if_neg g1];exact ⟨rfl,Below.refl _ _⟩);(rw [if_pos g1,if_neg g2];exact ⟨rfl,Below.refl _ _⟩);(rw [if_pos g1,if_pos g2,if_neg g3];exact ⟨rfl,Below.refl _ _⟩))
              | ((first | rw [decide_eq_true (by omega)] | rw [decide_eq_false (by omega)] | rw [if_pos (by omega)] | rw [IntWalk.i64_in _ (by omega)]);exact ⟨rfl,Below.refl _ _⟩)
              | done
           case nextxd =>
           intro w11 hb11
           have HB11:=Lib.hid ((HBI5.out.trans (hb11.mono HBI5.out.size)))
           have HBD:=Lib.hid (below_drewN HB11.out 1)
           have HOWD:=Lib.hid (ownsRow_below HOW5.out (below_drewN hb11 1))
           have hx11:=HX10.out.below hb11 HX10.out.lt
           have q0:=hx11.cell 0 (v:=.int .i64 xo) rfl
           have q1:=hx11.cell 1 (v:=.bool xd) rfl
           have q2:=hx11.cell 2 (v:=.string xs) rfl
           have e0:=HCM.out _ (HB10.out.trans (hb11.mono HB10.out.size))
           have hbm11:bm < w11.heap.size:=by have:=HB10.out.size;have:=hb11.size;omega
           have hxc11:=hx11.lt
           have hqs:=HB11.out.size
           clear hb11 hx11 hcase h1 h2
           go_wp2_with fail
           refine wp_text (by kernel_rfl) (by kernel_rfl) ?_
           intro K hK
           go_wp2_with (at_builtin;go_loud (refine wpList_append_own _ rfl _ _ 70 rfl w3.heap.size 76 ic (.agg #[.int .i64 0,.int .i64 0,.bool false,.string ⟨#[]⟩]) 4 40 Tryz.underlying70 hic hc0 hc1 hc2 rfl (by decide) _ Q.length _ rfl (HOWD.out.alloc _) ⟨w11.heap.size,0,none⟩ 1 1 (chgV ⟨n,⟨xo,xd,xs⟩⟩) rfl rfl (fun j y hy=>by rw [Addr.add_lit,Nat.zero_add];exact (cell_new _ _ _ _ j).trans (by simpa [chgV] using hy)) (by simp [chgV,Value.oneCell']) (by unfold maxLen;omega) (by omega) (by simp;omega) ?_);intro v' w12 hown' hgrow _)
           refine ⟨by simp [goodB,fits,plainPair,isSeqV,quiet,Act.eval],?_⟩
           go_wp2_with fail
           go_roundw
           case rel =>
            refine ⟨k + 1,by omega,by go_num,?_,below_push HBD.out HOWD.out hgrow⟩
            rw [HOX.out true HH.out,HQ.out,cond_true,List.length_append,chgsV_append]
            exact hown'
           case measure=>first | (simp [intOf];done) | (simp [intOf];omega)
        ·have d2:decide (n ≤ to) = false:=decide_eq_false h2
         refine wp_env (fin:=?fnxb) (by kernel_rfl) [75,76,77,78,79,80,81,82,83,84,85,86,87,88,89,90,91,92,93,94,95,96,97,98,99,100,101]
          [.slice (some ⟨bm,om,none⟩) M.length cm,.int .i64 k,.pointer (some ⟨bm,om + k,none⟩),.int .i64 n,.int .i64 fr,.bool true,.bool true,.slice (some ⟨bm,om,none⟩) M.length cm,.int .i64 k,.pointer (some ⟨bm,om + k,none⟩),.int .i64 n,.int .i64 to,.bool false,.bool false,.bool false,undef,undef,undef,undef,undef,undef,undef,undef,undef,undef,undef,.bool false] (by kernel_rfl) ?finxb ?stepsxb ?nextxb
         case finxb =>
          simp only [putAll,Act.put,List.setIfInBounds_toArray,List.set_cons_succ,List.set_cons_zero]
          rfl
         case stepsxb =>
          refine ⟨?_,?_,?_,?_,?_,?_,?_,?_,?_,?_,?_,?_,?_,?_,?_,?_,?_,?_,?_,?_,?_,?_,?_,?_,?_,?_,?_,trivial⟩
          all_goals first | exact .inl ⟨by kernel_rfl,rfl⟩ | refine .inr ⟨by kernel_rfl,fun w1_ hB_=>?_⟩
          all_goals
           have hBw_:=HB10.out.trans (hB_.mono HB10.out.size)
           have hB6_:=HBQ4.out.trans (hBw_.mono HBQ4.out.size)
           have hxb_:=HXX.out.below (HBW.out.trans (hBw_.mono HBW.out.size)) HXX.out.lt
           have x0_:=hxb_.cell 0 (v:=.string zn) rfl
           have x1_:=hxb_.cell 1 (v:=.slice A l.length cA) rfl
           have e0_:=HCM.out _ hBw_
           have hxx_:=HX10.out.below hB_ HX10.out.lt
           have q0_:=hxx_.cell 0 (v:=.int .i64 xo) rfl
           have q1_:=hxx_.cell 1 (v:=.bool xd) rfl
           have q2_:=hxx_.cell 2 (v:=.string xs) rfl
           go_simp
           first
            | exact ⟨rfl,Below.refl _ _⟩
            | exact ⟨rfl,HAY.out _ hB6_⟩
            | ((first | rw [decide_eq_true (by omega)] | rw [decide_eq_false (by omega)] | rw [if_pos (by omega)] | rw [IntWalk.i64_in _ (by omega)]);exact ⟨rfl,Below.refl _ _⟩)
            | done
         case nextxb =>
         intro w11 hb11
         have HB11:=Lib.hid (HBI5.out.trans (hb11.mono HBI5.out.size))
         have HOW6:=Lib.hid (ownsRow_below HOW5.out hb11)
         clear hb11
         go_wp2_with fail
         go_roundw
         case rel =>
          refine ⟨k + 1,by omega,by go_num,?_,HB11.out⟩
          rw [HOX.out false (by rw [d1,d2];rfl),HQ.out,cond_false,List.append_nil]
          exact HOW6.out
         case measure=>first | (simp [intOf];done) | (simp [intOf];omega)
       ·have d1:decide (fr < n) = false:=decide_eq_false h1
        refine wp_env (fin:=?fnxa2) (by kernel_rfl) [75,76,77,78,79,80,81,82,83,84,85,86,87,88,89,90,91,92,93,94,95,96,97,98,99,100,101]
         [.slice (some ⟨bm,om,none⟩) M.length cm,.int .i64 k,.pointer (some ⟨bm,om + k,none⟩),.int .i64 n,.int .i64 fr,.bool false,.bool false,undef,undef,undef,undef,undef,undef,.bool false,.bool false,undef,undef,undef,undef,undef,undef,undef,undef,undef,undef,undef,.bool false] (by kernel_rfl) ?finxa2 ?stepsxa2 ?nextxa2
        case finxa2 =>
         simp only [putAll,Act.put,List.setIfInBounds_toArray,List.set_cons_succ,List.set_cons_zero]
         rfl
        case stepsxa2 =>
         refine ⟨?_,?_,?_,?_,?_,?_,?_,?_,?_,?_,?_,?_,?_,?_,?_,?_,?_,?_,?_,?_,?_,?_,?_,?_,?_,?_,?_,trivial⟩
         all_goals first | exact .inl ⟨by kernel_rfl,rfl⟩ | refine .inr ⟨by kernel_rfl,fun w1_ hB_=>?_⟩
         all_goals
          have hBw_:=HB10.out.trans (hB_.mono HB10.out.size)
          have hB6_:=HBQ4.out.trans (hBw_.mono HBQ4.out.size)
          have hxb_:=HXX.out.below (HBW.out.trans (hBw_.mono HBW.out.size)) HXX.out.lt
          have x0_:=hxb_.cell 0 (v:=.string zn) rfl
          have x1_:=hxb_.cell 1 (v:=.slice A l.length cA) rfl
          have e0_:=HCM.out _ hBw_
          have hxx_:=HX10.out.below hB_ HX10.out.lt
          have q0_:=hxx_.cell 0 (v:=.int .i64 xo) rfl
          have q1_:=hxx_.cell 1 (v:=.bool xd) rfl
          have q2_:=hxx_.cell 2 (v:=.string xs) rfl
          go_simp
          first
           | exact ⟨rfl,Below.refl _ _⟩
           | exact ⟨rfl,HAY.out _ hB6_⟩
           | ((first | rw [decide_eq_true (by omega)] | rw [decide_eq_false (by omega)] | rw [if_pos (by omega)] | rw [IntWalk.i64_in _ (by omega)]);exact ⟨rfl,Below.refl _ _⟩)
           | done
        case nextxa2 =>
        intro w11 hb11
        have HB11:=Lib.hid (HBI5.out.trans (hb11.mono HBI5.out.size))
        have HOW6:=Lib.hid (ownsRow_below HOW5.out hb11)
        clear hb11
        go_wp2_with fail
        go_roundw
        case rel =>
         refine ⟨k + 1,by omega,by go_num,?_,HB11.out⟩
         rw [HOX.out false (by rw [d1];rfl),HQ.out,cond_false,List.append_nil]
         exact HOW6.out
        case measure=>first | (simp [intOf];done) | (simp [intOf];omega)
      ·obtain rfl:k = M.length:=by omega
       have hd:decide ((M.length:Int) < (M.length:Int)) = false:=decide_eq_false (by omega)
       have hw3w:w.heap.size ≤ w3.heap.size:=(HB0.out.trans (HBL3.out.mono HB0.out.size)).size
       have HQM:=Lib.hid (show outR S l R fr to M = Q by rw [← HQ.out,List.take_length])
       go_wp2_with fail
       go_ret
       exact ⟨⟨_,M,rfl,by rw [HQM.out];exact own_base HOW.out hw3w,by rw [HQM.out];exact hQl,HRM.out,HAN.out⟩,HBQ4.out⟩
end
section -- HAll
open Go Go.RowKit Go.Shelf
theorem zall_any (w:World) (zn:ByteArray) (A:Option Addr) (m c:Nat) (ev sv:Value) (he:ev = .slice A m c) (fr:Int) :
  Calls Tryz.prog 40 #[zoneA zn ev,setsV zn ev sv,.int .i64 fr] w fun o w'=>∃ b,w.heap.size ≤ b∧o = .returned (.func (.func 118) #[] #[.pointer (some ⟨b + 2,0,none⟩),.pointer (some ⟨b,0,none⟩),.pointer (some ⟨b + 1,0,none⟩),.pointer (some ⟨b + 3,0,none⟩)])∧Below w.heap.size w w' ∧
   Blk w' b 24 #[.string zn,ev]∧Blk w' (b + 1) 90 #[setsV zn ev sv]∧Blk w' (b + 2) 3 #[.int .i64 fr]∧Blk w' (b + 3) 3 #[.int .i64 2199023255552]∧w'.heap.size = b + 4:=by
 obtain ⟨sz,hsz⟩:∃ v,setsV zn ev sv = v:=⟨_,rfl⟩
 have HC:=Lib.hid (fun V=>zchanges_any V zn ev sv fr 2199023255552)
 rw [hsz] at HC ⊢
 have HB:=Lib.hid ((Below.refl w.heap.size w).alloc (Nat.le_refl _) (.cells #[.string zn,ev] 24))
 subst he
 unfold zoneA at HC ⊢
 clear hsz
 go_enter Tryz.func40,Tryz.ntmps40
 go_wp2_with fail
 refine (HC.out _).mono ?_
 rintro o w1 ⟨rfl,hb,h0,h1,h2,h3,hs⟩
 have HB1:=Lib.hid (HB.out.trans (hb.mono HB.out.size))
 have HH:=Lib.hid (And.intro h0 (And.intro h1 (And.intro h2 (And.intro h3 hs))))
 have hsz:=HB.out.size
 have HS:=Lib.hid hsz
 clear hb h0 h1 h2 h3 hs hsz HC
 go_wp2_with fail
 go_ret
 simp only [World.size_alloc] at HH
 exact ⟨w.heap.size + 1,by omega,rfl,HB1.out,HH.out⟩
theorem changesL_bad {S:List SetF} {l:List EraF} {fr to:Int} (h:errZ S l ≠ 0):changesL S l fr to = []:=by
 unfold changesL
 rw [if_neg fun e=>h (errI_zero e)]
end
section -- TSteps
open Go Go.RowKit Go.Shelf
attribute [local go_sem] Oper.semAt_some
theorem rules_plain (sv:Value) (e:EraN) (f:ByteArray) (w:World) :
  Calls Tryz.prog 149 #[eraPA e f,sv] w fun o w'=>o = .returned (.slice none 0 0)∧Below w.heap.size w w':=by
 unfold eraPA eraP
 go_enter Tryz.func149,Tryz.ntmps149
 go_wp2_with fail
 go_ret
 exact ⟨rfl,(Below.refl _ _).alloc (Nat.le_refl _) _⟩
def StI (sb fb tb:Nat) (sv:Value) (a t:Int) (J:(Nat→Prop)→World→Prop) (Oa:Nat→Prop) (_:List Unit) (O:Nat→Prop) (W:World):Prop :=
 (∀ k,Oa k→O k)∧(O sb∧O fb∧O tb)∧J Oa W∧Blk W sb 90 #[sv]∧Blk W fb 3 #[.int .i64 a]∧Blk W tb 3 #[.int .i64 t]
theorem stI_feet (sb fb tb:Nat) (sv:Value) (a t:Int) (J:(Nat→Prop)→World→Prop) (hJ:∀ O W W',J O W→Fr (fun k=>¬ O k) W W'→J O W') (Oa:Nat→Prop):Feet (StI sb fb tb sv a t J Oa):=by
 rintro pre O W W' ⟨h0,⟨o1,o2,o3⟩,h1,h2,h3,h4⟩ hf
 exact ⟨h0,⟨o1,o2,o3⟩,hJ _ _ _ h1 (hf.mono fun k hk=>.inl fun h=>hk (h0 k h)),h2.fr hf (fun h=>h o1),h3.fr hf (fun h=>h o2),h4.fr hf (fun h=>h o3)⟩
theorem steps1_none (n:Nat) (hn:4 ≤ n) (zb sb fb tb b:Nat) (nm:ByteArray) (g:Fn) (ts cs:Array Value) (e:EraN) (f:ByteArray) (a t:Int) (W:World) (hs:f.size < 4294967281) (hm:Tryz.MaxL W) (h0:errP e f.data.toList = 0)
  (ha:-2199023255552 ≤ a) (ha2:a < 2199023255552) (ht:-2199023255552 ≤ t) (ht2:t ≤ 2199023255552)
  (hz:Blk W zb 24 #[.string nm,.slice (some ⟨b,0,none⟩) 1 1]) (hsb:Blk W sb 90 #[.func g ts cs]) (hfb:Blk W fb 3 #[.int .i64 a]) (htb:Blk W tb 3 #[.int .i64 t]) (he:OneE W b e f) (encs:Nat→Array Value) (R:List Nat→Nat→(Nat→Prop)→World→Prop) :
  Iter Fence.wide n Tryz.prog 147 #[.pointer (some ⟨zb,0,none⟩),.pointer (some ⟨sb,0,none⟩),.pointer (some ⟨fb,0,none⟩),.pointer (some ⟨tb,0,none⟩)] encs R (fun xs:List Nat=>xs = []) (fun _=>False) (fun k=>k = sb∨k = fb∨k = tb) (fun k=>k = sb∨k = fb∨k = tb) W:=by
 intro lp J Jx fJ fx hY O hJ hO hK
 have z0:=hz.cell 0 (v:=.string nm) rfl
 have z1:=hz.cell 1 (v:=.slice (some ⟨b,0,none⟩) 1 1) rfl
 have s0:=hsb.cell 0 (v:=.func g ts cs) rfl
 have hzl:=hz.lt
 have hsl:=hsb.lt
 show CallsIn Fence.wide n Tryz.prog 147 #[.func (.yield lp) #[] #[],.pointer (some ⟨zb,0,none⟩),.pointer (some ⟨sb,0,none⟩),.pointer (some ⟨fb,0,none⟩),.pointer (some ⟨tb,0,none⟩)] W _
 refine callsIn_of_wp_marks Tryz.func147 rfl trivial ?_ rfl
 simp only [Tryz.ntmps147,List.size_toArray,List.length_cons,List.length_nil,Nat.reduceAdd,Nat.reduceSub,Array.replicate_succ,Array.replicate_zero,List.push_toArray,List.append_toArray,List.nil_append,List.cons_append]
 gi_wp2
 refine wpIn_scope ?_
 gi_wp2
 refine wpIn_label ?_
 gi_wp2
 have hb1:Below W.heap.size W (W.alloc (.cells #[.func (.yield lp) #[] #[]] 172)):=(Below.refl _ _).alloc (Nat.le_refl _) _
 have hm1:=hm.below hb1 (Nat.le_refl _)
 have he1:OneE _ b e f:=Blk.below he hb1 (Blk.lt he)
 have hsb1:=hsb.below hb1 hsb.lt
 have hfb1:=hfb.below hb1 hfb.lt
 have htb1:=htb.below hb1 htb.lt
 have hfl:=hfb.lt
 have htl:=htb.lt
 have HFJ:=Lib.hid fJ
 obtain ⟨W1,hW1⟩:∃ W1,W.alloc (.cells #[.func (.yield lp) #[] #[]] 172) = W1:=⟨_,rfl⟩
 have hz1s:W.heap.size < W1.heap.size:=by rw [← hW1];simp
 rw [hW1] at hb1 hm1 he1 hsb1 hfb1 htb1 ⊢
 clear hW1 z0 z1 s0
 refine ⟨trivial,fun _=>by omega,(callsIn_wide.2 (spans_any _ _ nm b g ts cs _ rfl rfl)).mono ?_⟩
 rintro o w2 ⟨rfl,hb2,hz2,hs2⟩
 have hm2:=hm1.below hb2 (Nat.le_refl _)
 have he2:OneE w2 b e f:=Blk.below he1 hb2 (Blk.lt he1)
 have hsb2:=hsb1.below hb2 hsb1.lt
 have hfb2:=hfb1.below hb2 hfb1.lt
 have htb2:=htb1.below hb2 htb1.lt
 have hbw:=hb1.trans (hb2.mono hb1.size)
 gi_wp2
 refine range_own (α:=Unit) rfl (by omega) (gf:=173) (lb:=#[.pointer (some ⟨W1.heap.size,0,none⟩),.pointer (some ⟨W1.heap.size + 1,0,none⟩)]) rfl trivial (enters_of Tryz.func173 (by kernel_rfl) rfl)
  (fun W' hW'=>spans1_one (n - 1) (by omega) _ _ b nm g ts cs e f W' hs (hm2.below hW' (Nat.le_refl _)) h0 (hz2.below hW' hz2.lt) (hs2.below hW' hs2.lt) (Blk.below he2 hW' (Blk.lt he2)))
  (fun _=>rfl) (StI sb fb tb (.func g ts cs) a t (J []) O) (fun _ _ _ _=>False) (stI_feet sb fb tb (.func g ts cs) a t (J []) (fun O W W' h hf=>fJ [] O W W' h hf) O) (fun _ _ _ _ _ h _=>h) (fun k=>O k∨k = sb∨k = fb∨k = tb)
  ⟨fun k h=>.inl h,⟨.inr (.inl rfl),.inr (.inr (.inl rfl)),.inr (.inr (.inr rfl))⟩,fJ _ _ _ _ hJ (Fr.of_below hbw (Nat.le_refl _)),hsb2,hfb2,htb2⟩ (fun k hk=>?_) (fun k hk=>hk.elim) (fun k hk=>hk.elim) ?round ?done ?stop
 ·have:=hbw.size
  rcases hk with h | h | h | h
  ·have:=hO k h;omega
  ·omega
  ·omega
  ·omega
 case stop =>
  intro _ _ _ _ _ _ _ h
  exact h.elim
 case round =>
  intro lp2 pre k O2 D W3 hI hBO hBD hDO hR nOl nDl hlow hltl
  obtain ⟨-,hnD⟩:=hR
  clear hI hBD hDO
  unfold eraPA eraP
  gi_wp2
  have hA:=(Blk.new W3 42 #[.int .i64 e.off,.string ⟨#[]⟩,.int .i64 e.save,.string f,.bool false,.int .i64 e.year,.int .i64 e.month,.int .i64 e.dk,.int .i64 e.dw,.int .i64 e.dn,.int .i64 e.sec,.int .i64 e.ak]).alloc (.cells #[.int .i64 (-2199023255553),.int .i64 2199023255553] 80)
  have hT:=Blk.new (W3.alloc (.cells #[.int .i64 e.off,.string ⟨#[]⟩,.int .i64 e.save,.string f,.bool false,.int .i64 e.year,.int .i64 e.month,.int .i64 e.dk,.int .i64 e.dw,.int .i64 e.dn,.int .i64 e.sec,.int .i64 e.ak] 42)) 80 #[.int .i64 (-2199023255553),.int .i64 2199023255553]
  rw [World.size_alloc] at hT
  have hbel2:Below W3.heap.size W3 ((W3.alloc (.cells #[.int .i64 e.off,.string ⟨#[]⟩,.int .i64 e.save,.string f,.bool false,.int .i64 e.year,.int .i64 e.month,.int .i64 e.dk,.int .i64 e.dw,.int .i64 e.dn,.int .i64 e.sec,.int .i64 e.ak] 42)).alloc (.cells #[.int .i64 (-2199023255553),.int .i64 2199023255553] 80)):=((Below.refl _ _).alloc (Nat.le_refl _) _).alloc (by simp) _
  refine ⟨hbel2,?_⟩
  intro Wb hfb3 hIb _
  obtain ⟨hI0,⟨o1,o2,o3⟩,hJb,hsbb,hfbb,htbb⟩:=hIb
  have hAb:OneE Wb W3.heap.size e f:=hA.fr hfb3 (by omega)
  have hTb:=hT.fr hfb3 (by omega)
  have hBO2:=hBO.fr ((Fr.of_below (T:=fun k=>k = lp2) hbel2 (Nat.le_refl _)).then hfb3)
  have s0:=hsbb.cell 0 (v:=.func g ts cs) rfl
  have f0:=hfbb.cell 0 (v:=.int .i64 a) rfl
  have t0:=htbb.cell 0 (v:=.int .i64 t) rfl
  have d0:=hTb.cell 0 (v:=.int .i64 (-2199023255553)) rfl
  have d1:=hTb.cell 1 (v:=.int .i64 2199023255553) rfl
  obtain ⟨c0,c1,c2,c3,c4,c5,c6,c7,c8,c9,c10,c11⟩:=hAb.cells
  have g1:decide (2199023255552 ≤ a) = false:=by simpa using ha2
  have g2:decide (t < -2199023255553) = false:=by simp;omega
  have g3:decide (a < -2199023255553) = false:=by simp;omega
  have hnn:=fun w:World=>(show (binOp .eql 52 (.slice none 0 0) (.slice none 0 0)).run Tryz.prog w = .ok (.bool true) w by kernel_rfl)
  have RU:=fun W=>rules_plain (.func g ts cs) e f W
  unfold eraPA eraP at RU
  have HJB:=Lib.hid hJb
  have HTB:=Lib.hid hTb
  have HFB:=Lib.hid hfbb
  have HBO:=Lib.hid hBO2
  have HI0:=Lib.hid hI0
  have HSB:=Lib.hid hsbb
  have HTT:=Lib.hid htbb
  clear hJb hTb hfbb hBO2 hI0 hsbb htbb hA hT hbel2 hfb3 hAb hBO hJ hO hK hY fJ fx
  gi_wp2
  refine ⟨trivial,fun _=>by omega,((callsIn_wide.2 (RU Wb)).inRound lp2).mono ?_⟩
  rintro o w5 ⟨rfl,hb5⟩
  clear RU c0 c1 c2 c3 c4 c5 c6 c7 c8 c9 c10 c11 s0 f0 t0 d0 d1
  have HB5:=Lib.hid hb5
  clear hb5
  gi_wp2
  refine wpIn_env (fin:=?fnS) (wide1 lp2) (by kernel_rfl) [29,30,31,32,33,34,35,36,37,38,39,40,41,42]
   [.pointer (some ⟨W3.heap.size + 1,0,none⟩),.int .i64 (-2199023255553),.int .i64 a,.bool false,.bool false,undef,undef,undef,undef,undef,undef,undef,undef,.bool false] (by kernel_rfl) ?finS ?stepsS ?nextS
  case finS =>
   simp only [putAll,Act.put,List.setIfInBounds_toArray,List.set_cons_succ,List.set_cons_zero]
   rfl
  case stepsS =>
   refine ⟨?_,?_,?_,?_,?_,?_,?_,?_,?_,?_,?_,?_,?_,?_,trivial⟩
   all_goals
    first
     | exact .inl ⟨by kernel_rfl,rfl⟩
     | (refine .inr ⟨by kernel_rfl,fun w1_ hB_=>?_⟩
        have hbb:=HB5.out.trans (hB_.mono HB5.out.size)
        have d0:=(HTB.out.below hbb HTB.out.lt).cell 0 (v:=.int .i64 (-2199023255553)) rfl
        have f0:=(HFB.out.below hbb HFB.out.lt).cell 0 (v:=.int .i64 a) rfl
        go_simp
        exact ⟨rfl,Below.refl _ _⟩)
  case nextS =>
   intro w6 hb6
   have hb7:=HB5.out.trans (hb6.mono HB5.out.size)
   clear hb6
   gi_wp2
   have hf7:Fr (fun k=>O2 k∨D k) Wb w6:=Fr.of_below hb7 (Nat.le_refl _)
   refine ⟨O2,fun k h=>.inl h,HBO.out.fr hf7,hf7,HI0.out,⟨o1,o2,o3⟩,?_,HSB.out.below hb7 HSB.out.lt,HFB.out.below hb7 HFB.out.lt,HTT.out.below hb7 HTT.out.lt⟩
   exact HFJ.out [] _ _ _ HJB.out (Fr.of_below hb7 (Nat.le_refl _))
 case done =>
  intro D xs O2 W3 hD hS hI hO2 hBO hOD hfr hK2
  obtain ⟨hI0,-,hJ3,hs3,hf3,ht3⟩:=hI
  gi_wp2
  refine ⟨by simp,.inl ⟨_,_,rfl,run_takeDeferred hK2,?_⟩⟩
  have hbs:=hbw.size
  have hfw:Fr (fun k=>O k∨(k = sb∨k = fb∨k = tb)) W W3:=(Fr.of_below hbw (Nat.le_refl _)).then (hfr.mono fun k hk=>by
   rcases hk with h | h
   ·exact .inl h
   ·exact h.elim)
  have hfp:Fr (fun k=>k = D) W3 (W3.putObj D (.deferred none)):=Fr.putObj _ _ rfl
  have hnD:¬ O D:=fun h=>by have:=hO D h;omega
  exact ⟨.tuple #[],results_none rfl _ _ _,⟨_,rfl⟩,O,fun k h=>.inl h,(hO.fr hfw).fr hfp,hfw.trans hfp (fun k hk=>.inr (by omega)),.inl ⟨[],rfl,fJ _ _ _ _ hJ3 (Fr.putObj _ _ hnD)⟩⟩
end
section -- TChanges
open Go Go.RowKit Go.Shelf
attribute [local go_sem] Oper.semAt_some
theorem first_one (nm:ByteArray) (b:Nat) (g:Fn) (ts cs:Array Value) (e:EraN) (f:ByteArray) (i:Int) (w:World) (hs:f.size < 4294967281) (hm:Tryz.MaxL w) (he:OneE w b e f) (h1:-2199023255552 ≤ i) (h2:i ≤ 2199023255552) (h0:errP e f.data.toList = 0) (s:ByteArray) (hsh:Shows f (e.off + e.save) (dstB e.save) ⟨#[]⟩ s 0) :
  Calls Tryz.prog 78 #[oneZ nm b,.func g ts cs,.int .i64 i] w fun o w'=>o = .returned (.tuple #[.agg #[.int .i64 i,.int .i64 (e.off + e.save),.bool (dstB e.save),.string s],.int .i64 0])∧Below w.heap.size w w':=by
 have hb0:Below w.heap.size w ((w.alloc (.cells #[.string nm,.slice (some ⟨b,0,none⟩) 1 1] 24)).alloc (.cells #[.int .i64 0,.int .i64 0,.bool false,.string ⟨#[]⟩] 76)):=((Below.refl _ _).alloc (Nat.le_refl _) _).alloc (by simp) _
 have hr0:=Blk.new (w.alloc (.cells #[.string nm,.slice (some ⟨b,0,none⟩) 1 1] 24)) 76 #[.int .i64 0,.int .i64 0,.bool false,.string ⟨#[]⟩]
 rw [World.size_alloc] at hr0
 have hm0:=hm.below hb0 (Nat.le_refl _)
 have he0:OneE _ b e f:=Blk.below he hb0 (Blk.lt he)
 have HC:=Lib.hid (at_one nm b g ts cs e f i _ hs hm0 he0 h1 h2 h0 s 0 hsh)
 unfold withinR at HC
 simp only [if_pos] at HC
 unfold oneZ at HC ⊢
 clear hm0 he0
 generalize dstB e.save = d at *
 generalize e.off + e.save = off at *
 go_enter Tryz.func78,Tryz.ntmps78
 go_wp2_with fail
 refine HC.out.mono ?_
 rintro o w1 ⟨rfl,hb⟩
 have hr1:=hr0.below hb hr0.lt
 have hb1:=hb0.trans (hb.mono hb0.size)
 have hl1:=hr1.lt
 have r0:=hr1.cell 0 (v:=.int .i64 0) rfl
 have r1:=hr1.cell 1 (v:=.int .i64 0) rfl
 have r2:=hr1.cell 2 (v:=.bool false) rfl
 have r3:=hr1.cell 3 (v:=.string ⟨#[]⟩) rfl
 have f0:=hr1.frozen 0
 have f1:=hr1.frozen 1
 have f2:=hr1.frozen 2
 have f3:=hr1.frozen 3
 have HR:=Lib.hid hr1
 have HB:=Lib.hid hb1
 clear hb hb0 hr0 hr1 hb1 HC
 go_wp2_with fail
 have HW:=((((HR.out.set 0 (.int .i64 i)).set 1 (.int .i64 off)).set 2 (.bool d)).set 3 (.string s)).alloc (.cells #[.int .i64 off,.bool d,.string s] 48)
 refine bodyPost_ret (v:=.tuple #[.agg #[.int .i64 i,.int .i64 off,.bool d,.string s],.int .i64 0]) ?_ rfl ⟨rfl,(below_set4 HB.out (Nat.le_add_right _ _) _ _ _ _).alloc (by have:=HB.out.size;simpa using this) _⟩
 have c0:=HW.cell 0 (v:=.int .i64 i) rfl
 have c1:=HW.cell 1 (v:=.int .i64 off) rfl
 have c2:=HW.cell 2 (v:=.bool d) rfl
 have c3:=HW.cell 3 (v:=.string s) rfl
 simp [results,Tryz.f78,go_sem,c0,c1,c2,c3]
theorem steps_any (nm:ByteArray) (b:Nat) (g:Fn) (ts cs:Array Value) (a t:Int) (w:World) :
  Calls Tryz.prog 119 #[oneZ nm b,.func g ts cs,.int .i64 a,.int .i64 t] w fun o w'=>o = .returned (.func (.func 147) #[] #[.pointer (some ⟨w.heap.size,0,none⟩),.pointer (some ⟨w.heap.size + 1,0,none⟩),.pointer (some ⟨w.heap.size + 2,0,none⟩),.pointer (some ⟨w.heap.size + 3,0,none⟩)])∧Below w.heap.size w w' ∧
   Blk w' w.heap.size 24 #[.string nm,.slice (some ⟨b,0,none⟩) 1 1]∧Blk w' (w.heap.size + 1) 90 #[.func g ts cs]∧Blk w' (w.heap.size + 2) 3 #[.int .i64 a]∧Blk w' (w.heap.size + 3) 3 #[.int .i64 t]:=by
 have b0:=Blk.new w 24 #[.string nm,.slice (some ⟨b,0,none⟩) 1 1]
 have b1:=Blk.new (w.alloc (.cells #[.string nm,.slice (some ⟨b,0,none⟩) 1 1] 24)) 90 #[.func g ts cs]
 have b2:=Blk.new ((w.alloc (.cells #[.string nm,.slice (some ⟨b,0,none⟩) 1 1] 24)).alloc (.cells #[.func g ts cs] 90)) 3 #[.int .i64 a]
 have b3:=Blk.new (((w.alloc (.cells #[.string nm,.slice (some ⟨b,0,none⟩) 1 1] 24)).alloc (.cells #[.func g ts cs] 90)).alloc (.cells #[.int .i64 a] 3)) 3 #[.int .i64 t]
 simp only [World.size_alloc] at b1 b2 b3
 have HA:=Lib.hid (And.intro (((b0.alloc (.cells #[.func g ts cs] 90)).alloc (.cells #[.int .i64 a] 3)).alloc (.cells #[.int .i64 t] 3)) (And.intro ((b1.alloc (.cells #[.int .i64 a] 3)).alloc (.cells #[.int .i64 t] 3)) (And.intro (b2.alloc (.cells #[.int .i64 t] 3)) b3)))
 clear b0 b1 b2 b3
 unfold oneZ
 go_enter Tryz.func119,Tryz.ntmps119
 go_wp2_with fail
 go_ret
 exact ⟨rfl,((((Below.refl _ _).alloc (Nat.le_refl _) _).alloc (by simp) _).alloc (by simp;omega) _).alloc (by simp;omega) _,HA.out⟩
theorem changes_any (nm:ByteArray) (b:Nat) (g:Fn) (ts cs:Array Value) (a t:Int) (w:World) :
  Calls Tryz.prog 79 #[oneZ nm b,.func g ts cs,.int .i64 a,.int .i64 t] w fun o w'=>o = .returned (.func (.func 118) #[] #[.pointer (some ⟨w.heap.size + 2,0,none⟩),.pointer (some ⟨w.heap.size,0,none⟩),.pointer (some ⟨w.heap.size + 1,0,none⟩),.pointer (some ⟨w.heap.size + 3,0,none⟩)])∧Below w.heap.size w w' ∧
   Blk w' w.heap.size 24 #[.string nm,.slice (some ⟨b,0,none⟩) 1 1]∧Blk w' (w.heap.size + 1) 90 #[.func g ts cs]∧Blk w' (w.heap.size + 2) 3 #[.int .i64 a]∧Blk w' (w.heap.size + 3) 3 #[.int .i64 t]:=by
 have b0:=Blk.new w 24 #[.string nm,.slice (some ⟨b,0,none⟩) 1 1]
 have b1:=Blk.new (w.alloc (.cells #[.string nm,.slice (some ⟨b,0,none⟩) 1 1] 24)) 90 #[.func g ts cs]
 have b2:=Blk.new ((w.alloc (.cells #[.string nm,.slice (some ⟨b,0,none⟩) 1 1] 24)).alloc (.cells #[.func g ts cs] 90)) 3 #[.int .i64 a]
 have b3:=Blk.new (((w.alloc (.cells #[.string nm,.slice (some ⟨b,0,none⟩) 1 1] 24)).alloc (.cells #[.func g ts cs] 90)).alloc (.cells #[.int .i64 a] 3)) 3 #[.int .i64 t]
 simp only [World.size_alloc] at b1 b2 b3
 have HA:=Lib.hid (And.intro (((b0.alloc (.cells #[.func g ts cs] 90)).alloc (.cells #[.int .i64 a] 3)).alloc (.cells #[.int .i64 t] 3)) (And.intro ((b1.alloc (.cells #[.int .i64 a] 3)).alloc (.cells #[.int .i64 t] 3)) (And.intro (b2.alloc (.cells #[.int .i64 t] 3)) b3)))
 clear b0 b1 b2 b3
 unfold oneZ
 go_enter Tryz.func79,Tryz.ntmps79
 go_wp2_with fail
 go_ret
 exact ⟨rfl,((((Below.refl _ _).alloc (Nat.le_refl _) _).alloc (by simp) _).alloc (by simp;omega) _).alloc (by simp;omega) _,HA.out⟩
theorem changes1_none (n:Nat) (hn:6 ≤ n) (zb sb fb tb b:Nat) (nm:ByteArray) (g:Fn) (ts cs:Array Value) (e:EraN) (f:ByteArray) (a t:Int) (W:World) (hs:f.size < 4294967281) (hgm:∀ W',Below fb W W'→Tryz.MaxL W') (h0:errP e f.data.toList = 0)
  (ha:-2199023255552 ≤ a) (ha2:a < 2199023255552) (ht:-2199023255552 ≤ t) (ht2:t ≤ 2199023255552) (s:ByteArray) (hsh:Shows f (e.off + e.save) (dstB e.save) ⟨#[]⟩ s 0)
  (hz:Blk W zb 24 #[.string nm,.slice (some ⟨b,0,none⟩) 1 1]) (hsb:Blk W sb 90 #[.func g ts cs]) (hfb:Blk W fb 3 #[.int .i64 a]) (htb:Blk W tb 3 #[.int .i64 t]) (hzf:zb < fb) (hsf:sb < fb) (htf:tb ≠ fb) (hbf:b < fb) (he:OneE W b e f) (encs:Nat→Array Value) (R:List Nat→Nat→(Nat→Prop)→World→Prop) :
  Iter Fence.wide n Tryz.prog 118 #[.pointer (some ⟨fb,0,none⟩),.pointer (some ⟨zb,0,none⟩),.pointer (some ⟨sb,0,none⟩),.pointer (some ⟨tb,0,none⟩)] encs R (fun xs:List Nat=>xs = []) (fun _=>False) (fun k=>k = fb) (fun k=>k = fb) W:=by
 intro lp J Jx fJ fx hY O hJ hO hK
 have z0:=hz.cell 0 (v:=.string nm) rfl
 have z1:=hz.cell 1 (v:=.slice (some ⟨b,0,none⟩) 1 1) rfl
 have s0:=hsb.cell 0 (v:=.func g ts cs) rfl
 have f0:=hfb.cell 0 (v:=.int .i64 a) rfl
 have ff:=hfb.frozen 0
 have hmax:max a (-2199023255552) = a:=by omega
 show CallsIn Fence.wide n Tryz.prog 118 #[.func (.yield lp) #[] #[],.pointer (some ⟨fb,0,none⟩),.pointer (some ⟨zb,0,none⟩),.pointer (some ⟨sb,0,none⟩),.pointer (some ⟨tb,0,none⟩)] W _
 refine callsIn_of_wp_marks Tryz.func118 rfl trivial ?_ rfl
 simp only [Tryz.ntmps118,List.size_toArray,List.length_cons,List.length_nil,Nat.reduceAdd,Nat.reduceSub,Array.replicate_succ,Array.replicate_zero,List.push_toArray,List.append_toArray,List.nil_append,List.cons_append]
 have hfl:=hfb.lt
 have hzl:=hz.lt
 have hsl:=hsb.lt
 have htl:=htb.lt
 have hzn:zb ≠ fb:=by omega
 have hsn:sb ≠ fb:=by omega
 have t0:=htb.cell 0 (v:=.int .i64 t) rfl
 have hnz:zb ≠ W.heap.size:=by omega
 have HMAX:=Lib.hid hmax
 gi_wp2
 refine wpIn_scope ?_
 gi_wp2
 have hF1:Fr (fun k=>k = fb) W ((W.setCell ⟨fb,0,none⟩ (.int .i64 a)).alloc (.cells #[.func (.yield lp) #[] #[]] 172)):=(Fr.setCell (T:=fun k=>k = fb) _ 0 _ rfl).then (Fr.alloc _ _)
 have hfb1:=(hfb.set 0 (.int .i64 a)).alloc (.cells #[.func (.yield lp) #[] #[]] 172)
 obtain ⟨W1,hW1⟩:∃ W1,(W.setCell ⟨fb,0,none⟩ (.int .i64 a)).alloc (.cells #[.func (.yield lp) #[] #[]] 172) = W1:=⟨_,rfl⟩
 have hs1:W.heap.size < W1.heap.size:=by rw [← hW1];simp
 rw [hW1] at hF1 hfb1 ⊢
 clear hW1 z0 z1 s0 f0 ff t0 hmax
 have hm1:Tryz.MaxL W1:=hgm _ (hF1.below (by omega) (fun k hk h=>by omega))
 have hz1:=hz.fr hF1 hzn
 have hsb1:=hsb.fr hF1 hsn
 have htb1:=htb.fr hF1 htf
 have he1:OneE W1 b e f:=Blk.fr he hF1 (by omega)
 have hJ1:J [] O W1:=fJ _ _ _ _ hJ (hF1.mono fun k hk=>.inl (hK k hk))
 refine ⟨trivial,fun _=>by omega,(callsIn_wide.2 (first_one nm b g ts cs e f a _ hs hm1 he1 ha (by omega) h0 s hsh)).mono ?_⟩
 rintro o w2 ⟨rfl,hb2⟩
 have hm2:=hm1.below hb2 (Nat.le_refl _)
 have hz2:=hz1.below hb2 hz1.lt
 have hsb2:=hsb1.below hb2 hsb1.lt
 have htb2:=htb1.below hb2 htb1.lt
 have hfb2:=hfb1.below hb2 hfb1.lt
 have he2:OneE w2 b e f:=Blk.below he1 hb2 (Blk.lt he1)
 have hJ2:J [] O w2:=fJ _ _ _ _ hJ1 (Fr.of_below hb2 (Nat.le_refl _))
 have hF2:Fr (fun k=>k = fb) W w2:=hF1.then (Fr.of_below hb2 (Nat.le_refl _))
 clear hz1 hsb1 htb1 hfb1 he1 hJ1 hm1 hF1
 have z0:=hz2.cell 0 (v:=.string nm) rfl
 have z1:=hz2.cell 1 (v:=.slice (some ⟨b,0,none⟩) 1 1) rfl
 have s0:=hsb2.cell 0 (v:=.func g ts cs) rfl
 have f0:=hfb2.cell 0 (v:=.int .i64 a) rfl
 have t0:=htb2.cell 0 (v:=.int .i64 t) rfl
 have lz:=hz2.lt
 have ls:=hsb2.lt
 have lf:=hfb2.lt
 have lt_:=htb2.lt
 generalize dstB e.save = d at *
 generalize e.off + e.save = off at *
 have hb2s:=hb2.size
 gi_wp2
 refine wpIn_label ?_
 gi_wp2
 have hb3:Below w2.heap.size w2 (w2.alloc (.cells #[.int .i64 a,.int .i64 off,.bool d,.string s] 76)):=(Below.refl _ _).alloc (Nat.le_refl _) _
 obtain ⟨w3,hw3⟩:∃ w3,w2.alloc (.cells #[.int .i64 a,.int .i64 off,.bool d,.string s] 76) = w3:=⟨_,rfl⟩
 rw [hw3] at hb3 ⊢
 clear hw3 z0 z1 s0 f0 t0
 refine ⟨trivial,fun _=>by omega,(callsIn_wide.2 (steps_any nm b g ts cs a t w3)).mono ?_⟩
 rintro o w4 ⟨rfl,hb4,hz4,hsb4,hfb4,htb4⟩
 have hb24:=hb3.trans (hb4.mono hb3.size)
 have hm4:=hm2.below hb24 (Nat.le_refl _)
 have he4:OneE w4 b e f:=Blk.below he2 hb24 (Blk.lt he2)
 have hJ4:J [] O w4:=fJ _ _ _ _ hJ2 (Fr.of_below hb24 (Nat.le_refl _))
 have hF4:Fr (fun k=>k = fb) W w4:=hF2.then (Fr.of_below hb24 (Nat.le_refl _))
 have hs3:=hb3.size
 have hs4:=hF4.size
 have hO4:Bd O w4:=hO.fr hF4
 have hOn:∀ k,W.heap.size ≤ k→¬ O k:=fun k hk h=>by have:=hO k h;omega
 have HJ4:=Lib.hid hJ4
 clear hb3 hb4 hb24 hJ2 hF2
 gi_wp2
 refine range_own (α:=Nat) rfl (by omega) (gf:=147) (lb:=#[.pointer (some ⟨w3.heap.size,0,none⟩),.pointer (some ⟨w3.heap.size + 1,0,none⟩),.pointer (some ⟨w3.heap.size + 2,0,none⟩),.pointer (some ⟨w3.heap.size + 3,0,none⟩)]) rfl trivial (enters_of Tryz.func147 (by kernel_rfl) rfl)
  (encs:=fun _=>#[undef]) (R:=fun _ _ _ _=>False)
  (fun W' hW'=>steps1_none (n - 1) (by omega) _ _ _ _ b nm g ts cs e f a t W' hs (hm4.below hW' (Nat.le_refl _)) h0 ha ha2 ht ht2 (hz4.below hW' hz4.lt) (hsb4.below hW' hsb4.lt) (hfb4.below hW' hfb4.lt) (htb4.below hW' htb4.lt) (Blk.below he4 hW' (Blk.lt he4)) _ _)
  (fun _=>rfl) (fun _ O2 W'=>(∀ k,O k→O2 k)∧J [] O W') (fun _ _ _ _=>False) ?feet (fun _ _ _ _ _ h _=>h) O ⟨fun k h=>h,HJ4.out⟩ hO4 (fun k hk=>?_) (fun k hk=>?_) ?round ?done ?stop
 case feet =>
  rintro _ O2 W' W'' ⟨h1,h2⟩ hf
  exact ⟨h1,fJ _ _ _ _ h2 (hf.mono fun k hk=>.inl fun h=>hk (h1 k h))⟩
 ·have:=htb4.lt
  rcases hk with h | h | h <;> omega
 ·exact hOn k (by rcases hk with h | h | h <;> omega)
 case stop =>
  intro _ _ _ _ _ _ h
  exact h.elim
 case round =>
  intro lp2 pre k O2 D W3 hI hBO hBD hDO hR
  exact hR.elim
 case done =>
  intro D xs O2 W3 hD hS hI hO2 hBO hOD hfr hK2
  obtain ⟨-,hJ3⟩:=hI
  gi_wp2
  refine ⟨by simp,.inl ⟨_,_,rfl,run_takeDeferred hK2,?_⟩⟩
  have hfw:Fr (fun k=>O k∨k = fb) W W3:=(hF4.mono fun k hk=>.inl (.inr hk)).trans hfr (fun k hk=>by
   rcases hk with h | h
   ·exact .inl (.inl h)
   ·exact .inr (by rcases h with h | h | h <;> omega))
  have hfp:Fr (fun k=>k = D) W3 (W3.putObj D (.deferred none)):=Fr.putObj _ _ rfl
  have hnD:¬ O D:=hOn D (by omega)
  exact ⟨.tuple #[],results_none rfl _ _ _,⟨_,rfl⟩,O,fun k h=>.inl h,(hO.fr hfw).fr hfp,hfw.trans hfp (fun k hk=>.inr (by omega)),.inl ⟨[],rfl,fJ _ _ _ _ hJ3 (Fr.putObj _ _ hnD)⟩⟩
end
section -- TMake
open Go Go.RowKit Go.Shelf
def MakeOne (w:World) (i off:Int) (d:Bool) (s:ByteArray) (o:Ending) (w':World):Prop :=
 ∃ blk,w.heap.size ≤ blk∧o = .returned (.tuple #[.slice (some ⟨blk,0,none⟩) 1 1,.int .i64 0])∧Blk w' blk 76 #[.int .i64 i,.int .i64 off,.bool d,.string s]∧Below w.heap.size w w'
theorem make_one (nm:ByteArray) (b:Nat) (g:Fn) (ts cs:Array Value) (e:EraN) (f:ByteArray) (t:Int) (w:World) (hs:f.size < 4294967281) (hm:Tryz.MaxL w) (he:OneE w b e f) (h1:-2199023255552 ≤ t) (h2:t ≤ 2199023255552) (h0:errP e f.data.toList = 0) (s:ByteArray) (hsh:Shows f (e.off + e.save) (dstB e.save) ⟨#[]⟩ s 0) :
  Calls Tryz.prog 38 #[oneZ nm b,.func g ts cs,.int .i64 t] w (MakeOne w (-2199023255552) (e.off + e.save) (dstB e.save) s):=by
 have hb0:Below w.heap.size w (w.alloc (.cells #[.string nm,.slice (some ⟨b,0,none⟩) 1 1] 24)):=(Below.refl _ _).alloc (Nat.le_refl _) _
 have hz0:=Blk.new w 24 #[.string nm,.slice (some ⟨b,0,none⟩) 1 1]
 have hm0:=hm.below hb0 (Nat.le_refl _)
 have he0:OneE _ b e f:=Blk.below he hb0 (Blk.lt he)
 have HC:=Lib.hid (checkZ_one nm b g ts cs e f _ hs hm0 he0)
 rw [h0] at HC
 unfold oneZ at HC ⊢
 refine (callsIn_wide (n:=12)).1 ?_
 refine callsIn_of_wp_marks Tryz.func38 rfl trivial ?_ rfl
 simp only [Tryz.ntmps38,List.size_toArray,List.length_cons,List.length_nil,Nat.reduceAdd,Nat.reduceSub,Array.replicate_succ,Array.replicate_zero,List.push_toArray,List.append_toArray,List.nil_append,List.cons_append]
 refine wpIn_wide.2 ?_
 go_wp2_with fail
 refine HC.out.mono ?_
 rintro o w1 ⟨rfl,hb⟩
 have hm1:=hm0.below hb (Nat.le_refl _)
 have he1:OneE w1 b e f:=Blk.below he0 hb (Blk.lt he0)
 have hz1:=hz0.below hb hz0.lt
 have hb1:=hb0.trans (hb.mono hb0.size)
 have z0:=hz1.cell 0 (v:=.string nm) rfl
 have z1:=hz1.cell 1 (v:=.slice (some ⟨b,0,none⟩) 1 1) rfl
 clear HC hb hb0 hz0 hm0 he0
 have HM:=Lib.hid hm1
 have HE:=Lib.hid he1
 have HZ:=Lib.hid hz1
 have HB:=Lib.hid hb1
 clear hm1 he1 hz1 hb1
 go_wp2_with fail
 refine (first_one nm b g ts cs e f (-2199023255552) _ hs HM.out HE.out (by omega) (by omega) h0 s hsh).mono ?_
 rintro o w2 ⟨rfl,hb⟩
 have HM2:=Lib.hid (HM.out.below hb (Nat.le_refl _))
 have he2:OneE w2 b e f:=Blk.below HE.out hb (Blk.lt HE.out)
 have HE2:=Lib.hid he2
 have hz2:=HZ.out.below hb HZ.out.lt
 have HB2:=Lib.hid (HB.out.trans (hb.mono HB.out.size))
 have lz:=hz2.lt
 clear z0 z1 hb HM HE HZ HB he2
 have z0:=hz2.cell 0 (v:=.string nm) rfl
 have z1:=hz2.cell 1 (v:=.slice (some ⟨b,0,none⟩) 1 1) rfl
 have HZ2:=Lib.hid hz2
 clear hz2
 have HSH:=Lib.hid hsh
 clear hsh
 generalize hd:dstB e.save = d at *
 generalize hoff:e.off + e.save = off at *
 have HD:=Lib.hid hd
 have HOFF:=Lib.hid hoff
 clear hd hoff
 have lz1:w.heap.size < w2.heap.size + 1:=by omega
 have lz2:w.heap.size < w2.heap.size + 1 + 1:=by omega
 go_wp2_with fail
 have hb3:Below w2.heap.size w2 (((w2.alloc (.cells #[.int .i64 (-2199023255552),.int .i64 off,.bool d,.string s] 76)).alloc (.cells #[.int .i64 (-2199023255552),.int .i64 off,.bool d,.string s] 76)).alloc (.cells #[.slice (some ⟨w2.heap.size + 1,0,none⟩) 1 1] 81)):=(((Below.refl _ _).alloc (Nat.le_refl _) _).alloc (by simp) _).alloc (by simp;omega) _
 have hR:=Blk.new (w2.alloc (.cells #[.int .i64 (-2199023255552),.int .i64 off,.bool d,.string s] 76)) 76 #[.int .i64 (-2199023255552),.int .i64 off,.bool d,.string s]
 have hT:=Blk.new ((w2.alloc (.cells #[.int .i64 (-2199023255552),.int .i64 off,.bool d,.string s] 76)).alloc (.cells #[.int .i64 (-2199023255552),.int .i64 off,.bool d,.string s] 76)) 81 #[.slice (some ⟨w2.heap.size + 1,0,none⟩) 1 1]
 have hR3:=hR.alloc (.cells #[.slice (some ⟨w2.heap.size + 1,0,none⟩) 1 1] 81)
 simp only [World.size_alloc] at hR3 hT
 obtain ⟨w3,hw3⟩:∃ w3,(((w2.alloc (.cells #[.int .i64 (-2199023255552),.int .i64 off,.bool d,.string s] 76)).alloc (.cells #[.int .i64 (-2199023255552),.int .i64 off,.bool d,.string s] 76)).alloc (.cells #[.slice (some ⟨w2.heap.size + 1,0,none⟩) 1 1] 81)) = w3:=⟨_,rfl⟩
 rw [hw3] at hb3 hR3 hT ⊢
 clear hw3 hR z0 z1
 refine (changes_any nm b g ts cs (-2199023255552) t w3).mono ?_
 rintro o w4 ⟨rfl,hb4,hz4,hsb4,hfb4,htb4⟩
 have hb24:=hb3.trans (hb4.mono hb3.size)
 have hm4:=HM2.out.below hb24 (Nat.le_refl _)
 have he4:OneE w4 b e f:=Blk.below HE2.out hb24 (Blk.lt HE2.out)
 have hbl3:b < w3.heap.size:=Nat.lt_of_lt_of_le (Blk.lt HE2.out) hb3.size
 have hR4:=hR3.below hb4 hR3.lt
 have hT4:=hT.below hb4 hT.lt
 have hb04:=HB2.out.trans (hb24.mono HB2.out.size)
 have hs3:=hb3.size
 have htl:=hT.lt
 have hm3:=HM2.out.below hb3 (Nat.le_refl _)
 have hs44:=htb4.lt
 clear hb24 hb3 hR3 hT HZ2 HM2 HE2
 go_wp2_with fail
 refine (wpIn_wide (n:=12)).1 ?_
 refine range_own (α:=Nat) rfl (by omega) (gf:=118) (lb:=#[.pointer (some ⟨w3.heap.size + 2,0,none⟩),.pointer (some ⟨w3.heap.size,0,none⟩),.pointer (some ⟨w3.heap.size + 1,0,none⟩),.pointer (some ⟨w3.heap.size + 3,0,none⟩)]) rfl trivial (enters_of Tryz.func118 (by kernel_rfl) rfl)
  (encs:=fun _=>#[undef]) (R:=fun _ _ _ _=>False)
  (fun W' hW'=>changes1_none 11 (by omega) _ _ _ _ b nm g ts cs e f (-2199023255552) t W' hs (fun W'' hb''=>hm3.below ((hb4.trans ((hW'.mono (Nat.le_of_lt (by omega))).trans (hb''.mono (by omega)))).mono (Nat.le_refl _)) (Nat.le_refl _)) h0 (by omega) (by omega) h1 h2 s (by rw [HOFF.out,HD.out];exact HSH.out) (hz4.below hW' hz4.lt) (hsb4.below hW' hsb4.lt) (hfb4.below hW' hfb4.lt) (htb4.below hW' htb4.lt) (by omega) (by omega) (by omega) (by omega) (Blk.below he4 hW' (Blk.lt he4)) _ _)
  (fun _=>rfl) (fun _ _ _=>True) (fun _ _ _ _=>False) (fun _ _ _ _ h _=>h) (fun _ _ _ _ _ h _=>h) (fun _=>False) trivial (fun k hk=>hk.elim) (fun k hk=>?_) (fun _ _ h=>h) ?round ?done ?stop
 ·have:=hfb4.lt
  omega
 case stop =>
  intro _ _ _ _ _ _ h
  exact h.elim
 case round =>
  intro lp2 pre k O2 D W3 hI hBO hBD hDO hR
  exact hR.elim
 case done =>
  intro D xs O2 W3 hD hS hI hO2 hBO hOD hfr hK2
  have hF:Fr (fun k=>k = w3.heap.size + 2) w4 W3:=hfr.mono fun k hk=>by
   rcases hk with h | h
   ·exact h.elim
   ·exact .inl h
  have hR5:=hR4.fr hF (by omega)
  have hT5:=hT4.fr hF (by omega)
  have t0:=hT5.cell 0 (v:=.slice (some ⟨w2.heap.size + 1,0,none⟩) 1 1) rfl
  have hb5:=hb04.trans (hF.below hb04.size (fun k hk h=>by omega))
  have HK:=Lib.hid hK2
  have HR5:=Lib.hid hR5
  have HB5:=Lib.hid hb5
  clear hF hR5 hT5 hb5 hfr hK2 hR4 hT4 hb04
  have hl2:w.heap.size < w2.heap.size:=lz
  clear lz lz1 lz2
  go_wp2_with fail
  refine ⟨by simp,.inl ⟨_,_,rfl,run_takeDeferred HK.out,?_⟩⟩
  refine ⟨.tuple #[.slice (some ⟨w2.heap.size + 1,0,none⟩) 1 1,.int .i64 0],by simp [results,Tryz.f38,go_sem],w2.heap.size + 1,by omega,rfl,?_,fin_below HB5.out (by omega)⟩
  exact HR5.out.fr (Fr.putObj (T:=fun k=>k = D) _ _ rfl) (by omega)
end
section -- TRise
open Go Go.RowKit
open Go Go.RowKit
end
section -- TSame
open Go Go.RowKit
def chgEq (c d:Chg):Bool:=decide (c.at_ = d.at_∧c.loc.off = d.loc.off∧c.loc.dst = d.loc.dst∧c.loc.abbr.toList = d.loc.abbr.toList)
def SameTo (l m:List Chg) (k:Nat):Prop:=∀ i (h:i < l.length) (h':i < m.length),i < k→chgEq l[i] m[i] = true
def sameB (l m:List Chg):Bool:=decide (l.length = m.length) && decide (∀ i:_root_.Fin l.length,∀ h:i.1 < m.length,chgEq l[i.1] m[i.1] = true)
theorem SameTo.next {l m:List Chg} {k:Nat} {x y:Chg} {hl:k < l.length} {hm:k < m.length} (h:SameTo l m k) (hx:l[k] = x) (hy:m[k] = y) (hq:chgEq x y = true):SameTo l m (k + 1):=by
 intro i h1 h2 hi
 by_cases hik:i = k
 ·subst hik;rw [hx,hy];exact hq
 ·exact h i h1 h2 (by omega)
theorem same_no {l m:List Chg} {k:Nat} {x y:Chg} {hl:k < l.length} {hm:k < m.length} (hx:l[k] = x) (hy:m[k] = y) (hq:chgEq x y = false):sameB l m = false:=by
 unfold sameB
 rw [Bool.and_eq_false_iff]
 right
 refine decide_eq_false fun h=>?_
 have:=h ⟨k,hl⟩ hm
 rw [show l[(⟨k,hl⟩:_root_.Fin l.length).1] = x from hx,hy,hq] at this
 cases this
theorem same_yes {l m:List Chg} (hlen:l.length = m.length) (h:∀ i (h:i < l.length) (h':i < m.length),chgEq l[i] m[i] = true):sameB l m = true:=by
 unfold sameB
 rw [decide_eq_true hlen,Bool.true_and,decide_eq_true_eq]
 exact fun i h'=>h i.1 i.2 h'
theorem same_len {l m:List Chg} (h:¬ l.length = m.length):sameB l m = false:=by unfold sameB;rw [decide_eq_false h];rfl
theorem chgEq_iff {c d:Chg}:chgEq c d = true ↔ c = d:=by
 unfold chgEq
 rw [decide_eq_true_eq]
 constructor
 ·rintro ⟨h1,h2,h3,h4⟩
  obtain ⟨a,o,b,⟨s⟩⟩:=c
  obtain ⟨a',o',b',⟨s'⟩⟩:=d
  simp only at h1 h2 h3 h4
  subst h1 h2 h3
  have e:(⟨s⟩:ByteArray) = ⟨s'⟩:=by
   rw [Lib.toList_data,Lib.toList_data] at h4
   have:s = s':=Array.toList_inj.1 h4
   rw [this]
  rw [e]
 ·rintro rfl;exact ⟨rfl,rfl,rfl,rfl⟩
theorem sameB_iff {l m:List Chg}:sameB l m = true ↔ l = m:=by
 constructor
 ·intro h
  unfold sameB at h
  rw [Bool.and_eq_true,decide_eq_true_eq,decide_eq_true_eq] at h
  exact List.ext_getElem h.1 fun i h1 h2=>chgEq_iff.1 (h.2 ⟨i,h1⟩ h2)
 ·rintro rfl
  exact same_yes rfl fun i h h'=>chgEq_iff.2 rfl
theorem same_any (w:World) (B:Nat) (v u:Value) (l m:List Chg) (hv:Chgs w B v l) (hu:Chgs w B u m) (hB:B ≤ w.heap.size) :
  Calls Tryz.prog 39 #[v,u] w fun e w'=>e = .returned (.bool (sameB l m))∧Below w.heap.size w w':=by
 obtain ⟨A,c,rfl,hlc,hcm⟩:=hv.form
 obtain ⟨A2,c2,rfl,hlc2,hcm2⟩:=hu.form
 unfold maxLen at hcm hcm2
 have HV:=Lib.hid hv
 have HU:=Lib.hid hu
 clear hv hu
 by_cases hlen:l.length = m.length
 ·have HL:=Lib.hid hlen
  rw [← hlen] at HU ⊢
  clear hlen hlc2
  go_enter Tryz.func39,Tryz.ntmps39
  go_wp2_with fail
  go_loopw [5] (fun i wr=>∃ k:Nat,k ≤ l.length∧i = .int .i64 k∧SameTo l m k∧Below w.heap.size w wr) (fun i _=>l.length - (intOf i).toNat)
  case atStart=>exact ⟨0,Nat.zero_le _,rfl,fun i _ _ h=>by omega,Below.refl _ _⟩
  case round =>
   obtain ⟨k,hk,rfl,hr,hb⟩:=hrel
   have HR:=Lib.hid hr
   clear hr
   by_cases hlt:k < l.length
   ·obtain ⟨b,o,c',e,-,hc⟩:=HV.out.cells (by omega)
    cases e
    have hmk:k < m.length:=by rw [← HL.out];exact hlt
    obtain ⟨b2,o2,c2',e,-,hc2⟩:=HU.out.cells (by omega)
    rw [← HL.out] at e
    cases e
    clear hc hc2
    have hl0:0 < l.length:=by omega
    have hm0:0 < m.length:=by omega
    have HB:=Lib.hid hb
    clear hb
    have HC:=Lib.hid (fun (W:World) (h:Below wr.heap.size wr W)=>show (_∧_∧_∧_)∧(_∧_∧_∧_) by
     have hbW:=(HB.out.trans (h.mono HB.out.size)).mono hB
     obtain ⟨_,_,_,e1,-,h1⟩:=(HV.out.below hbW).cells hl0
     cases e1
     obtain ⟨_,_,_,e2,-,h2⟩:=(HU.out.below hbW).cells hm0
     rw [← HL.out] at e2
     cases e2
     exact ⟨h1 k hlt,h2 k hmk⟩)
    obtain ⟨x,hx⟩:∃ x,l[k] = x:=⟨_,rfl⟩
    obtain ⟨y,hy⟩:∃ y,m[k] = y:=⟨_,rfl⟩
    rw [hx,hy] at HC
    have HX:=Lib.hid hx
    have HY:=Lib.hid hy
    clear hx hy
    go_wp2_with fail
    cases hq:chgEq x y
    ·have HQ:=Lib.hid hq
     clear hq
     refine wp_env (fin:=?fnA) (by kernel_rfl) [17,18,19,20,21,22,23,24,25]
      [.slice (some ⟨b,o,none⟩) l.length c,.int .i64 k,.pointer (some ⟨b,o + k * 4,none⟩),chgA x,.slice (some ⟨b2,o2,none⟩) l.length c2,.int .i64 k,.pointer (some ⟨b2,o2 + k * 4,none⟩),chgA y,.bool true] (by kernel_rfl) ?finA ?stepsA ?nextA
     case finA =>
      simp only [putAll,Act.put,List.setIfInBounds_toArray,List.set_cons_succ,List.set_cons_zero]
      rfl
     case stepsA =>
      unfold chgA
      refine ⟨?_,?_,?_,?_,?_,?_,?_,?_,?_,trivial⟩
      all_goals
       refine .inr ⟨by kernel_rfl,fun w1_ hB_=>?_⟩
       obtain ⟨⟨c0,c1,c2_,c3⟩,⟨d0,d1,d2,d3⟩⟩:=HC.out w1_ hB_
       go_simp
       first
        | exact ⟨rfl,Below.refl _ _⟩
        | (have hq:=HQ.out
           unfold chgEq at hq
           simp only [decide_eq_false_iff_not] at hq
           repeat' split
           all_goals first | exact ⟨rfl,Below.refl _ _⟩ | (exfalso;simp_all;done))
     case nextA =>
     intro w2 hb2
     have hb3:=HB.out.trans (hb2.mono HB.out.size)
     clear hb2
     go_wp2_with fail
     go_ret
     exact ⟨by rw [same_no (HX.out) (HY.out) HQ.out];rfl,hb3⟩
    ·have HQ:=Lib.hid hq
     clear hq
     refine wp_env (fin:=?fnB) (by kernel_rfl) [17,18,19,20,21,22,23,24,25]
      [.slice (some ⟨b,o,none⟩) l.length c,.int .i64 k,.pointer (some ⟨b,o + k * 4,none⟩),chgA x,.slice (some ⟨b2,o2,none⟩) l.length c2,.int .i64 k,.pointer (some ⟨b2,o2 + k * 4,none⟩),chgA y,.bool false] (by kernel_rfl) ?finB ?stepsB ?nextB
     case finB =>
      simp only [putAll,Act.put,List.setIfInBounds_toArray,List.set_cons_succ,List.set_cons_zero]
      rfl
     case stepsB =>
      unfold chgA
      refine ⟨?_,?_,?_,?_,?_,?_,?_,?_,?_,trivial⟩
      all_goals
       refine .inr ⟨by kernel_rfl,fun w1_ hB_=>?_⟩
       obtain ⟨⟨c0,c1,c2_,c3⟩,⟨d0,d1,d2,d3⟩⟩:=HC.out w1_ hB_
       go_simp
       first
        | exact ⟨rfl,Below.refl _ _⟩
        | (have hq:=HQ.out
           unfold chgEq at hq
           simp only [decide_eq_true_eq] at hq
           repeat' split
           all_goals first | exact ⟨rfl,Below.refl _ _⟩ | (exfalso;simp_all;done))
     case nextB =>
     intro w2 hb2
     have hb3:=HB.out.trans (hb2.mono HB.out.size)
     clear hb2
     go_wp2_with fail
     go_roundw
     case rel=>exact ⟨k + 1,by omega,by go_num,SameTo.next HR.out HX.out HY.out HQ.out,hb3⟩
     case measure=>first | (simp [intOf];done) | (simp [intOf];omega)
   ·have HS:=Lib.hid (same_yes HL.out (fun i h h'=>HR.out i h h' (by omega)))
    go_wp2_with fail
    go_ret
    exact ⟨by rw [HS.out];rfl,hb⟩
 ·have HS:=Lib.hid (same_len hlen)
  go_enter Tryz.func39,Tryz.ntmps39
  go_wp2_with fail
  go_ret
  exact ⟨by rw [HS.out];rfl,Below.refl _ _⟩
end
section -- TAwake
open Go Go.RowKit Go.Shelf
def tcetE:EraN:=⟨3600,0,0,0,0,0,0,0,0⟩
def tcetS:ByteArray:=⟨#[67,69,84]⟩
theorem tcet_kind:kindR tcetS.data.toList = (0,0):=by kernel_rfl
theorem tcet_err:errP tcetE tcetS.data.toList = 0:=by kernel_rfl
theorem tcet_shows:Shows tcetS (tcetE.off + tcetE.save) (dstB tcetE.save) ⟨#[]⟩ tcetS 0:=fun W hm=>show_plain tcetS _ _ _ W (by decide) hm tcet_kind
def cetC:Chg:=⟨-2199023255552,3600,false,tcetS⟩
theorem chgs_one {W:World} {b B:Nat} {c:Chg} (h:Blk W b 76 (chgV c).toArray) (hB:b < B):Chgs W B (.slice (some ⟨b,0,none⟩) 1 1) [c]:=by
 refine ⟨some ⟨b,0,none⟩,1,rfl,Nat.le_refl _,by decide,rfl,fun _=>⟨b,0,rfl,hB,fun j u hj=>?_⟩⟩
 rw [Nat.zero_add]
 exact h.cell j (by simpa [chgsV] using hj)
theorem tawake_any (w:World) (hm:Tryz.MaxL w):Calls Tryz.prog 37 #[] w fun e w'=>e = .returned (.bool true)∧Below w.heap.size w w':=by
 have HM:=Lib.hid hm
 clear hm
 go_enter Tryz.func37,Tryz.ntmps37
 have hb0:Below w.heap.size w ((w.alloc (.cells (eraP tcetE tcetS).toArray 42)).alloc (.cells #[.string ⟨#[88]⟩,.slice (some ⟨w.heap.size,0,none⟩) 1 1,.slice none 0 0] 27)):=((Below.refl _ _).alloc (Nat.le_refl _) _).alloc (by simp) _
 have he0:OneE ((w.alloc (.cells (eraP tcetE tcetS).toArray 42)).alloc (.cells #[.string ⟨#[88]⟩,.slice (some ⟨w.heap.size,0,none⟩) 1 1,.slice none 0 0] 27)) w.heap.size tcetE tcetS:=(Blk.new w 42 (eraP tcetE tcetS).toArray).alloc _
 have HC:=Lib.hid (make_one ⟨#[88]⟩ w.heap.size (.func 15) #[.agg #[.string ⟨#[88]⟩,.slice (some ⟨w.heap.size,0,none⟩) 1 1,.slice none 0 0]] #[] tcetE tcetS 2199023255552 _ (by decide) (HM.out.below hb0 (Nat.le_refl _)) he0 (by omega) (by omega) tcet_err tcetS tcet_shows)
 unfold oneZ eraP tcetE tcetS at HC
 unfold eraP tcetE tcetS at hb0
 clear he0
 go_wp2_with fail
 refine HC.out.mono ?_
 rintro o w1 ⟨blk,h1,rfl,h3,h4⟩
 have HB:=Lib.hid h3
 have HL:=Lib.hid h4
 have h3l:=h3.lt
 clear h3 h4 HC
 go_wp2_with fail
 have hR:Blk w1 blk 76 (chgV cetC).toArray:=HB.out
 have hb1:Below w1.heap.size w1 (w1.alloc (.cells (chgV cetC).toArray 76)):=(Below.refl _ _).alloc (Nat.le_refl _) _
 have hs:(w1.alloc (.cells (chgV cetC).toArray 76)).heap.size = w1.heap.size + 1:=World.size_alloc ..
 have HS:=Lib.hid (same_any (w1.alloc (.cells (chgV cetC).toArray 76)) (w1.heap.size + 1) _ _ [cetC] [cetC] (chgs_one (hR.below hb1 hR.lt) (by omega)) (chgs_one (Blk.new w1 76 (chgV cetC).toArray) (by omega)) (by omega))
 rw [sameB_iff.2 rfl] at HS
 refine HS.out.mono ?_
 rintro o w2 ⟨rfl,hb2⟩
 have hbw:=(hb0.trans (HL.out.mono hb0.size))
 have hb3:=hbw.trans ((hb1.trans (hb2.mono hb1.size)).mono hbw.size)
 clear hb2 hbw hb1 hb0 hs hR HS
 go_wp2_with fail
 go_ret
 exact ⟨rfl,hb3⟩
end
section -- HLawM
open Go Go.RowKit Go.Shelf
theorem make_few (zn:ByteArray) (ev sv:Value) (l:List EraF) (S:List SetF) (to:Int) (B:Nat) (w:World) (hz:ZW w B ev sv l S) (hf:fewB l S = true) (ho:ZOk l S) (hlet:∀ s ∈ S,letOk s.l)
  (h:2199023255552 < to∨to ≤ 4000000000) :
  Calls Tryz.prog 38 #[zoneA zn ev,setsV zn ev sv,.int .i64 to] w (MakeEnd S l to w) :=
 zmake_any zn ev sv l S to B w hz ho hlet (fun h0=>endL_few h0 (fewB_iff.1 hf).2.1) (fun _ h2=>by
  by_cases h0:errZ S l = 0
  ·exact changesL_len h0 (fewB_iff.1 hf).2.1 (fewB_iff.1 hf).2.2.1 (by omega)
  ·rw [changesL_bad h0]
   exact Nat.zero_le _)
theorem makeErr_few {S:List SetF} {l:List EraF} {to:Int} (hf:fewB l S = true) (h0:errZ S l = 0) (h1:-2199023255552 ≤ to) (h2:to ≤ 2199023255552):makeErr S l to = 0:=by
 unfold makeErr
 rw [if_neg (fun e=>e h0),if_neg (by omega)]
 exact errI_few h0 (fewB_iff.1 hf).2.1 (by omega) (by omega)
end
section -- HRight
open Go Go.RowKit Go.Shelf
noncomputable def goodZ (l:List EraF) (S:List SetF):Bool:=fewB l S && decide (errZ S l = 0)
theorem good_iff {l:List EraF} {S:List SetF}:goodZ l S = true ↔ fewB l S = true∧errZ S l = 0:=by unfold goodZ;rw [Bool.and_eq_true,decide_eq_true_eq]
theorem few_okR {l:List EraF} {S:List SetF} (h:fewB l S = true):ZOk l S where
 fm:=fun x hx=>by have:=eraFew_fm ((fewB_iff.1 h).1 x hx);omega
 rul:=fun s hs=>right_ok ((fewB_iff.1 h).2.1 s hs)
 len:=by have:=(fewB_iff.1 h).2.2.1;omega
def RightPost (w:World) (l:List EraF) (S:List SetF) (o:Ending) (w':World):Prop :=
 (∃ u v,o = .returned (.tuple #[u,v,.bool (goodZ l S)])∧(goodZ l S = true→∃ R,RowsZ S l R∧RowsM w' u R∧Nums w' w'.heap.size v (endL S l)))∧Below w.heap.size w w'
theorem right14_any (w:World) (zn:ByteArray) (ev sv:Value) (B:Nat) (l:List EraF) (S:List SetF) (hz:ZW w B ev sv l S) (hfm:∀ x ∈ l,x.fm.size < 1152921504606846976) :
  Calls Tryz.prog 23 #[worldA zn ev sv] w (RightPost w l S):=by
 obtain ⟨i0,hi,hz0,hz1,hz2⟩:=info_parts infoInt
 obtain ⟨A,cA,rfl,hlc,hcm⟩:=hz.eras.form
 obtain ⟨A2,cS,rfl,hlc2,hcm2⟩:=hz.sets.form
 unfold maxLen at hcm hcm2
 obtain ⟨W0,hW0⟩:∃ W,(w.alloc (.cells #[.string zn,.slice A l.length cA,.slice A2 S.length cS] 27)) = W:=⟨_,rfl⟩
 have hb0:Below w.heap.size w W0:=by rw [← hW0];exact (Below.refl w.heap.size w).alloc (Nat.le_refl _) _
 have HXX:=Lib.hid (show Blk W0 w.heap.size 27 #[.string zn,.slice A l.length cA,.slice A2 S.length cS] by rw [← hW0];exact Blk.new w _ _)
 have HZ0:=Lib.hid (hz.below hb0)
 have HF:=Lib.hid (few_any W0 zn _ _ B l S (HZ0.out.eras) (HZ0.out.sets) HZ0.out.le hfm)
 have HB0:=Lib.hid hb0
 have HW0:=Lib.hid hW0
 have hBw:=hz.le
 clear hz hb0 hW0 hfm
 unfold worldA at HF ⊢
 go_enter Tryz.func23,Tryz.ntmps23
 go_wp2_with fail
 rw [HW0.out]
 try simp only [HW0.out]
 clear HW0
 cases hf:fewB l S with
 | false =>
   rw [hf] at HF
   have HG:=Lib.hid (show goodZ l S = false by unfold goodZ;rw [hf];rfl)
   clear hf
   refine HF.out.mono ?_
   rintro o w1 ⟨rfl,hb⟩
   have HB1:=Lib.hid (HB0.out.trans (hb.mono HB0.out.size))
   clear hb
   go_wp2_with fail
   go_ret3
   exact ⟨⟨_,_,by rw [HG.out];rfl,fun h=>by rw [HG.out] at h;cases h⟩,HB1.out⟩
 | true =>
   rw [hf] at HF
   have HFEW:=Lib.hid hf
   have HFW:=Lib.hid (fewB_iff.1 hf)
   clear hf
   refine HF.out.mono ?_
   rintro o w1 ⟨rfl,hb⟩
   have HBL:=Lib.hid hb
   have HB1:=Lib.hid (HB0.out.trans (hb.mono HB0.out.size))
   have HCK:=Lib.hid (zcheckZ_any zn _ _ B l S w1 (HZ0.out.below hb) (few_okR HFEW.out))
   unfold setsV zoneA worldA at HCK
   obtain ⟨E,hE⟩:∃ e,errZ S l = e:=⟨_,rfl⟩
   rw [hE] at HCK
   have HE:=Lib.hid hE
   have hxb:=HXX.out.below (HBL.out) HXX.out.lt
   have x0:=hxb.cell 0 (v:=.string zn) rfl
   have x1:=hxb.cell 1 (v:=.slice A l.length cA) rfl
   have x2:=hxb.cell 2 (v:=.slice A2 S.length cS) rfl
   have hxl:=hxb.lt
   clear hxb
   clear hb HF hE
   by_cases hE0:E = 0
   ·subst hE0
    have HG:=Lib.hid (show goodZ l S = true from good_iff.2 ⟨HFEW.out,HE.out⟩)
    have hl1:0 < l.length:=by have:=(errZ_zero HE.out).1;omega
    have hl4:l.length ≤ 4:=HFW.out.2.2.1
    have hn0:((l.length:Int) == 0) = false:=beq_eq_false_iff_ne.2 (by omega)
    have hn1:(l.length == 0) = false:=beq_eq_false_iff_ne.2 (by omega)
    go_wp2_with fail
    refine HCK.out.mono ?_
    rintro o w2 ⟨rfl,hb⟩
    have HBL2:=Lib.hid (HBL.out.trans (hb.mono HBL.out.size))
    have HB2:=Lib.hid (HB1.out.trans (hb.mono HB1.out.size))
    have HRW:=Lib.hid (rows_any zn _ _ B l S w2 (HZ0.out.below HBL2.out) HFW.out.2.1 (by omega))
    unfold worldA RowsPost at HRW
    clear hb x0 x1 x2 hxl HCK
    have hxb:=HXX.out.below (HBL2.out) HXX.out.lt
    have x0:=hxb.cell 0 (v:=.string zn) rfl
    have x1:=hxb.cell 1 (v:=.slice A l.length cA) rfl
    have x2:=hxb.cell 2 (v:=.slice A2 S.length cS) rfl
    have hxl:=hxb.lt
    clear hxb
    go_wp2_with fail
    refine HRW.out.mono ?_
    rintro o w3 ⟨⟨u,R,rfl,hRl,hRok,hRm⟩,hb⟩
    have HBL3:=Lib.hid (HBL2.out.trans (hb.mono HBL2.out.size))
    have HB3:=Lib.hid (HB2.out.trans (hb.mono HB2.out.size))
    have HRL:=Lib.hid hRl
    have HRO:=Lib.hid hRok
    have HRM:=Lib.hid hRm
    obtain ⟨A3,c3,rfl,-,-⟩:=hRm.form
    clear hb hRl hRok hRm x0 x1 x2 hxl HRW
    go_wp2_with fail
    go_loopw [6,7] (fun u iv wr=>∃ k:Nat,k ≤ l.length - 1∧iv = .int .i64 k∧wr.ownsRow w3.heap.size 3 1 u k (intsV ((endL S l).take k))∧Below w3.heap.size w3 wr) (fun _ iv _=>l.length - (intOf iv).toNat)
    case atStart=>exact ⟨0,Nat.zero_le _,rfl,World.ownsRow_nil _ _ _ _,Below.refl _ _⟩
    case round =>
     obtain ⟨k,hk,rfl,hown,hbw⟩:=hrel
     have HOW:=Lib.hid hown
     have HBW3:=Lib.hid hbw
     have HBLW:=Lib.hid (HBL3.out.trans (hbw.mono HBL3.out.size))
     have hxb:=HXX.out.below (HBLW.out) HXX.out.lt
     have x0:=hxb.cell 0 (v:=.string zn) rfl
     have x1:=hxb.cell 1 (v:=.slice A l.length cA) rfl
     have x2:=hxb.cell 2 (v:=.slice A2 S.length cS) rfl
     have hxl:=hxb.lt
     clear hxb
     have HZ4:=Lib.hid (HZ0.out.below HBLW.out)
     have HRM4:=Lib.hid (HRM.out.below hbw)
     obtain ⟨A5,c5,hu,-,-⟩:=Sl.of_own hown
     subst hu
     clear hown hbw
     by_cases hlt:k + 1 < l.length
     ·have hd:decide ((k:Int) + 1 < (l.length:Int)) = true:=decide_eq_true (by omega)
      have hlk:k < l.length:=by omega
      have hRlk:k < R.length:=by rw [HRL.out];exact hlk
      obtain ⟨bb,o,c',e,hbb,hc⟩:=HZ4.out.eras.cells (by omega)
      cases e
      have hx:=hc k hlk
      obtain ⟨br,orr,cr',e,hbr,hcr⟩:=HRM4.out.cells (by omega)
      cases e
      obtain ⟨rc0,rc1⟩:=hcr k hRlk
      have hdr:decide (k < R.length) = true:=decide_eq_true hRlk
      have hrok:=HRO.out k hRlk hlk
      have hrm:FrisN w3 R[k].v R[k].D:=HRM.out.2 _ (List.getElem_mem hRlk)
      have her:=(errZ_zero HE.out).2.2.1 k hlk
      rw [errAt_eq hlk,decide_eq_false (by omega)] at her
      have hen:=endL_get (S:=S) (l:=l) (i:=k) hlt
      have hfx:=HFW.out.1 _ (List.getElem_mem hlk)
      have htk:(endL S l).take (k + 1) = (endL S l).take k ++ [(endL S l).getD k 0]:=by
       have h9:k < (endL S l).length:=by rw [length_endL];omega
       rw [List.take_succ_eq_append_getElem h9,List.getD_eq_getElem?_getD,List.getElem?_eq_getElem h9]
       rfl
      obtain ⟨x,hxk⟩:∃ x,l[k] = x:=⟨_,rfl⟩
      obtain ⟨r,hrk⟩:∃ r,R[k] = r:=⟨_,rfl⟩
      rw [hxk] at hx her hen hfx hrok
      rw [hrk] at rc0 rc1 hrok hrm
      obtain ⟨-,hof,hsf,hee,-,hnb⟩:=errE_zero her
      have hee2:x.en = true:=hee
      have hek:=eraFew_end hfx hee2
      have hkin:0 ≤ x.n.ak∧x.n.ak ≤ 2:=by have:=nomV_in (hnb hee2);omega
      have hrb:rnomB x.n = true:=by rw [← hek.nomB_eq hkin];exact hnb hee2
      have hEQ:=end_eq (ru:=x.ru) hrok.right hof hek hrb
      rw [hEQ] at hen
      have hbd4:=below_drewN HBW3.out 1
      have HRD:=Lib.hid (rend_any (wr.drewN 1) x.n x.ru x.fm true w3.heap.size r.v r.D r.letter (hrm.1.below hbd4) hbd4.size hrok.len hrok.bd hek (by omega) (by omega))
      obtain ⟨A9,c9,hv9,-,-⟩:=hrm.1.form
      rw [hv9] at HRD rc0
      rw [← hen] at HRD
      unfold eraA at HRD
      obtain ⟨ek,hekv⟩:∃ z,(endL S l).getD k 0 = z:=⟨_,rfl⟩
      rw [hekv] at HRD htk
      have HTK:=Lib.hid htk
      have HBD4:=Lib.hid hbd4
      obtain ⟨c0,c1,c2,c3,c4,c5,c6,c7,c8,c9,c10,c11⟩:=hx
      rw [hee2] at c4
      have hul:=HOW.out.lt
      clear hc hcr hxk hrk hrok hrm her hen hfx hof hsf hee hee2 hnb hek hrb hEQ hbd4 hekv htk hv9
      go_wp2_with fail
      refine wp_text (by kernel_rfl) (by kernel_rfl) ?_
      intro K hK
      go_wp2_with fail
      refine HRD.out.mono ?_
      rintro o w5 ⟨rfl,hb⟩
      have HB5:=Lib.hid (HBD4.out.trans (hb.mono HBD4.out.size))
      have HOW5:=Lib.hid (ownsRow_below HOW.out ((below_drewN (Below.refl wr.heap.size wr) 1).trans hb))
      clear hb
      go_wp2_with ((at_builtin;refine wpList_append_own _ rfl _ _ 28 rfl (w3.heap.size) 3 i0 (.int .i64 0) 1 8 Tryz.underlying28 hi hz0 hz1 hz2 rfl (by decide) _ _ _ rfl (HOW5.out.alloc _) ⟨w5.heap.size,0,none⟩ 1 1 [.int .i64 ek] rfl rfl (cell_one_new _ _ _) (by simp [Value.oneCell']) (by unfold maxLen;omega) (by omega) (by have:=HB5.out.size;simp <;> omega) ?_;intro v' w1 hown' hgrow _))
      refine ⟨by simp [goodB,fits,plainPair,isSeqV,quiet,Act.eval],?_⟩
      go_wp2_with fail
      go_roundw
      case rel =>
       refine ⟨k + 1,by omega,by go_num,?_,below_push HB5.out HOW5.out hgrow⟩
       rw [HTK.out,intsV_append]
       exact hown'
      case measure=>first | (simp [intOf];done) | (simp [intOf];omega)
     ·obtain rfl:k = l.length - 1:=by omega
      have hd:decide (((l.length - 1:Nat):Int) + 1 < (l.length:Int)) = false:=decide_eq_false (by omega)
      have HOE:=Lib.hid (show Nums wr wr.heap.size (.slice A5 (l.length - 1) c5) (endL S l) by
       have h:=Sl.of_own HOW.out
       rw [List.take_of_length_le (by rw [length_endL];exact Nat.le_refl _)] at h
       unfold Nums
       rw [length_endL]
       exact h)
      have HB4:=Lib.hid (HB3.out.trans (HBW3.out.mono HB3.out.size))
      go_wp2_with fail
      go_ret3
      exact ⟨⟨_,_,by rw [HG.out];rfl,fun _=>⟨R,⟨HRL.out,HRO.out⟩,HRM4.out,HOE.out⟩⟩,HB4.out⟩
   ·have hne:(E != 0) = true:=by simpa using hE0
    have HG:=Lib.hid (show goodZ l S = false by
     cases hg:goodZ l S with
     | false=>rfl
     | true=>exact absurd (HE.out.symm.trans (good_iff.1 hg).2) hE0)
    go_wp2_with fail
    refine HCK.out.mono ?_
    rintro o w2 ⟨rfl,hb⟩
    have HB2:=Lib.hid (HB1.out.trans (hb.mono HB1.out.size))
    clear hb HCK
    go_wp2_with fail
    go_ret3
    exact ⟨⟨_,_,by rw [HG.out];rfl,fun h=>by rw [HG.out] at h;cases h⟩,HB2.out⟩
end
section -- HErrs
open Go Go.RowKit Go.Shelf
attribute [local go_sem] Oper.semAt_some
theorem fin_factsT {W wz:World} {D rb:Nat} {d:Option (List Deferred)} (hK:W.heap[D]? = some (.deferred d)) (hb:Below W.heap.size W wz) (hr:Blk wz rb 4 #[.bool false]) (hD:D ≠ rb) (b:Bool) :
  (wz.setCell ⟨rb,0,none⟩ (.bool b)).heap[D]? = some (.deferred d)∧((wz.setCell ⟨rb,0,none⟩ (.bool b)).putObj D (.deferred none)).cell? ⟨rb,0,none⟩ = some (.bool b):=by
 have hl:D < W.heap.size:=(Array.getElem?_eq_some_iff.1 hK).1
 have h1:wz.heap[D]? = some (.deferred d):=(hb.block D hl).trans hK
 have h2:=(Fr.setCell (T:=fun k=>k = rb) wz 0 (.bool b) rfl).at_ h1 hD
 exact ⟨h2,(fin_cell h2 _).trans ((hr.set 0 (.bool b)).cell 0 rfl)⟩
end
section -- InvT
open Go Go.RowKit
section
variable {P:Program} {ops:Array Oper}
def needs (ops:Array Oper):Nat→Nat→List Nat
 | 0,_=>[]
 | f + 1,k=>match ops[k]? with
   | some o=>(o.after.toList.filter fun e=>Region.binds .any e).flatMap fun e=>e.on :: needs ops f e.on
   | none=>[]
def tailB (ops:Array Oper) (m:Nat):Bool:=(List.range ops.size).all fun k=>decide (k < m) || (List.range k).all fun j=>(needs ops 8 k).contains j
def closedL (ops:Array Oper) (listed:Array Bool):Prop:=∀ i o,ops[i]? = some o→listed.getD i false = true→∀ e ∈ o.after,Region.binds .any e = true→listed.getD e.on false = true
theorem needs_listed {listed:Array Bool} (hc:closedL ops listed):∀ (f k:Nat),(∀ o,ops[k]? = some o→∀ e ∈ o.after,Region.binds .any e = true→listed.getD e.on false = true)→∀ j ∈ needs ops f k,listed.getD j false = true
 | 0,_,_,j,hj=>by cases hj
 | f + 1,k,h,j,hj=>by
   unfold needs at hj
   split at hj
   ·rename_i o ho
    obtain ⟨e,he,hj⟩:=List.mem_flatMap.1 hj
    rw [List.mem_filter] at he
    have h1:=h o ho e (Array.mem_toList_iff.1 he.1) he.2
    rcases List.mem_cons.1 hj with rfl | hj
    ·exact h1
    ·exact needs_listed hc f e.on (fun o' ho'=>hc e.on o' ho' h1) j hj
   ·cases hj
theorem ready_all {m:Nat} (ht:tailB ops m = true) {listed:Array Bool} (hc:closedL ops listed) {i:Nat} (hi:i ∈ Region.ready .any ops listed) (hm:m ≤ i):∀ j,j < i→listed.getD j false = true:=fun j hj=>by
 obtain ⟨-,o,ho,hall⟩:=mem_ready.1 hi
 have hin:=(Array.getElem?_eq_some_iff.1 ho).1
 unfold tailB at ht
 have h1:=List.all_eq_true.1 ht i (List.mem_range.2 hin)
 rw [decide_eq_false (by omega),Bool.false_or] at h1
 have h2:=List.all_eq_true.1 h1 j (List.mem_range.2 hj)
 rw [List.contains_iff_mem] at h2
 exact needs_listed hc 8 i (fun o' ho'=>by rw [ho] at ho';cases ho';exact hall) j h2
theorem not_listed {listed:Array Bool} {i:Nat} (h:listed.getD i true = false):listed.getD i false = false∧i < listed.size:=by
 by_cases hi:i < listed.size
 ·simp only [Array.getD,hi,dif_pos] at h ⊢
  exact ⟨h,trivial⟩
 ·simp [Array.getD,hi] at h
theorem closed_set {listed:Array Bool} (hc:closedL ops listed) {i:Nat} (hi:i ∈ Region.ready .any ops listed):closedL ops (listed.setIfInBounds i true):=fun k o ho hk e he hb=>by
 have hset:∀ x,listed.getD x false = true→(listed.setIfInBounds i true).getD x false = true:=fun x hx=>by
  rw [getD_set']
  split
  ·rfl
  ·exact hx
 rw [getD_set'] at hk
 by_cases hki:i = k∧i < listed.size
 ·obtain ⟨rfl,-⟩:=hki
  obtain ⟨-,o',ho',hall⟩:=mem_ready.1 hi
  rw [ho'] at ho
  cases ho
  exact hset _ (hall e he hb)
 ·rw [if_neg hki] at hk
  exact hset _ (hc k o ho hk e he hb)
theorem any_tail {l:List Oper} (ho:ops = l.toArray) {m:Nat} (ht:tailB ops m = true) {D:List Nat} (hb:invB ops D = true) {R0:Act→World→Prop} :
  ∀ (fuel:Nat) (listed:Array Bool) (t:Nat) (a:Act) (w:World),listed.size = ops.size→m ≤ t→t ≤ ops.size→ops.size - t ≤ fuel→closedL ops listed→(∀ j,j < ops.size→(listed.getD j false = true ↔ j < t)) →
   wpList P ops (Exit.then R0 (fun _ _ _=>False)) (l.drop t) a w→wpAny P .any ops (Exit.then R0 (fun _ _ _=>False)) fuel listed a w:=by
 have hinv:=hb
 simp only [invB,Bool.and_eq_true,decide_eq_true_eq,List.all_eq_true,List.mem_range] at hinv
 obtain ⟨⟨hinv,-⟩,-⟩:=hinv
 have hlen:ops.size = l.length:=by rw [ho];simp
 have hend:∀ {a:Act} {w:World},wpList P ops (Exit.then R0 (fun _ _ _=>False)) (l.drop ops.size) a w→R0 a w:=fun {a w} h=>by
  rw [hlen,List.drop_length] at h
  exact h
 have hnr:∀ (listed:Array Bool) (t:Nat),listed.size = ops.size→t < ops.size→(∀ j,j < ops.size→(listed.getD j false = true ↔ j < t))→t ∈ Region.ready .any ops listed:=fun listed t hsz htl hl=>by
  refine mem_ready.2 ⟨?_,_,Array.getElem?_eq_getElem htl,fun e he hbd=>?_⟩
  ·cases hx:listed.getD t true with
   | false=>rfl
   | true =>
     have:t < listed.size:=by omega
     have h1:listed.getD t false = true:=by simpa [Array.getD,this] using hx
     have:=(hl t htl).1 h1
     omega
  ·have h1:=hinv t htl
   rw [Array.getElem?_eq_getElem htl] at h1
   have h2:=Array.all_eq_true_iff_forall_mem.1 h1 e he
   simp only [hbd,Bool.not_true,Bool.false_or,decide_eq_true_eq] at h2
   exact (hl e.on (by omega)).2 h2
 intro fuel
 induction fuel with
 | zero =>
   intro listed t a w hsz hmt hts hf hc hl h
   obtain rfl:t = ops.size:=by omega
   refine ⟨?_,hend h⟩
   rcases hr:Region.ready .any ops listed with _ | ⟨i,l'⟩
   ·rfl
   ·have hi:i ∈ Region.ready .any ops listed:=by rw [hr];exact List.mem_cons_self ..
    obtain ⟨h0,o,ho,_⟩:=mem_ready.1 hi
    have hin:=(Array.getElem?_eq_some_iff.1 ho).1
    have h1:=(not_listed h0).1
    rw [(hl i hin).2 hin] at h1
    cases h1
 | succ fuel ih =>
   intro listed t a w hsz hmt hts hf hc hl h
   refine ⟨fun hr=>?_,fun i hi=>?_⟩
   ·by_cases htl:t < ops.size
    ·have:=hnr listed t hsz htl hl
     rw [hr] at this
     cases this
    ·obtain rfl:t = ops.size:=by omega
     exact hend h
   ·obtain ⟨h0,o,hio,-⟩:=mem_ready.1 hi
    have hin:=(Array.getElem?_eq_some_iff.1 hio).1
    have h1:=(not_listed h0).1
    have hit:t ≤ i:=by
     rcases Nat.lt_or_ge i t with g | g
     ·rw [(hl i hin).2 g] at h1
      cases h1
     ·exact g
    have hti:i = t:=by
     rcases Nat.lt_or_ge t i with g | g
     ·have:=(hl t (by omega)).1 (ready_all ht hc hi (by omega) t g)
      omega
     ·omega
    subst hti
    have hil:l[i]? = some o:=by rw [ho] at hio;simpa using hio
    have hdr:l.drop i = o :: l.drop (i + 1):=by
     obtain ⟨hlt,e⟩:=List.getElem?_eq_some_iff.1 hil
     rw [List.drop_eq_getElem_cons hlt,e]
    rw [hdr] at h
    have hnext:∀ (a:Act) (w:World),wpList P ops (Exit.then R0 (fun _ _ _=>False)) (l.drop (i + 1)) a w→wpAny P .any ops (Exit.then R0 (fun _ _ _=>False)) fuel (listed.setIfInBounds i true) a w:=fun a w h =>
     ih (listed.setIfInBounds i true) (i + 1) a w (by simpa using hsz) (by omega) (by omega) (by omega) (closed_set hc hi) (fun j hj=>by
      rw [getD_set']
      by_cases hji:i = j∧i < listed.size
      ·rw [if_pos hji]
       exact ⟨fun _=>by omega,fun _=>rfl⟩
      ·rw [if_neg hji,hl j hj]
       exact ⟨fun h=>by omega,fun h=>by omega⟩) h
    unfold wpOp
    rw [hio]
    unfold wpList at h
    dsimp only
    split at h
    ·rename_i hcn
     rw [if_pos hcn]
     rcases h with h | h
     ·exact .inl (Oper.wp_mono hnext h)
     ·exact .inr h
    ·rename_i hcn
     rw [if_neg hcn]
     exact hnext _ _ h
theorem any_invT {a:Act} {D:List Nat} {F:List Fact} {w0:World} {l:List Oper} (ho:ops = l.toArray) {m:Nat} (hms:m ≤ ops.size) (ht:tailB ops m = true) (hb:invB ops D = true) (hstep:Steps P ops a D F w0 0 (l.take m)) {R0:Act→World→Prop}
  (hend:∀ x w',Below w0.heap.size w0 w'→(∀ i,i < m→(F.getD i .any).p (x (D.getD i 0)) w')→wpList P ops (Exit.then R0 (fun _ _ _=>False)) (l.drop m) (frameOf a D x) w') :
  ∀ (fuel:Nat) (listed:Array Bool),listed.size = ops.size→(unlisted listed).length ≤ fuel→closedL ops listed→(∀ i,listed.getD i false = true→i < m)→∀ (x:Nat→Value) (w:World),Below w0.heap.size w0 w →
   (∀ i,listed.getD i false = true→(F.getD i .any).p (x (D.getD i 0)) w)→wpAny P .any ops (Exit.then R0 (fun _ _ _=>False)) fuel listed (frameOf a D x) w:=by
 have hinv:=hb
 simp only [invB,Bool.and_eq_true,decide_eq_true_eq,List.all_eq_true,List.mem_range] at hinv
 obtain ⟨⟨hinv,hlen⟩,hnd⟩:=hinv
 have hul:∀ (listed:Array Bool),listed.size = ops.size→(∀ j,j < ops.size→(listed.getD j false = true ↔ j < m))→ops.size - m ≤ (unlisted listed).length:=fun listed hsz hl=>by
  have e:unlisted listed = List.range' m (ops.size - m):=by
   unfold unlisted
   rw [hsz,show List.range ops.size = List.range m ++ List.range' m (ops.size - m) by
    rw [List.range_eq_range',List.range_eq_range',show ops.size = m + (ops.size - m) by omega]
    have:=List.range'_append (s:=0) (m:=m) (n:=ops.size - m) (step:=1)
    simp at this
    rw [show m + (ops.size - m) - m = ops.size - m by omega]
    exact this.symm,List.filter_append,List.filter_eq_nil_iff.2 (fun j hj=>by rw [(hl j (by have:=List.mem_range.1 hj;omega)).2 (List.mem_range.1 hj)];decide),List.nil_append,List.filter_eq_self.2 (fun j hj=>by
     have:=List.mem_range'_1.1 hj
     cases hx:listed.getD j false with
     | false=>rfl
     | true=>have:=(hl j (by omega)).1 hx;omega)]
  rw [e,List.length_range']
  exact Nat.le_refl _
 have hall:∀ (fuel:Nat) (listed:Array Bool) (x:Nat→Value) (w:World),listed.size = ops.size→(unlisted listed).length ≤ fuel→closedL ops listed→(∀ i,listed.getD i false = true→i < m)→(∀ j,j < m→listed.getD j false = true)→Below w0.heap.size w0 w →
   (∀ i,listed.getD i false = true→(F.getD i .any).p (x (D.getD i 0)) w)→wpAny P .any ops (Exit.then R0 (fun _ _ _=>False)) fuel listed (frameOf a D x) w:=fun fuel listed x w hsz hf hc hlm hml hB hF=>by
  have hl:∀ j,j < ops.size→(listed.getD j false = true ↔ j < m):=fun j _=>⟨hlm j,hml j⟩
  exact any_tail ho ht hb fuel listed m _ w hsz (Nat.le_refl _) hms (Nat.le_trans (hul listed hsz hl) hf) hc hl (hend x w hB fun i hi=>hF i (hml i hi))
 intro fuel
 induction fuel with
 | zero =>
   intro listed hsz hf hc hlm x w hB hF
   refine hall 0 listed x w hsz hf hc hlm (fun j hj=>?_) hB hF
   cases hl:listed.getD j false with
   | true=>rfl
   | false =>
     have:j ∈ unlisted listed:=by
      simp only [unlisted,List.mem_filter,List.mem_range]
      exact ⟨by omega,by rw [hl];rfl⟩
     rw [List.eq_nil_of_length_eq_zero (Nat.le_zero.1 hf)] at this
     cases this
 | succ fuel ih =>
   intro listed hsz hf hc hlm x w hB hF
   by_cases hdone:∀ j,j < m→listed.getD j false = true
   ·exact hall (fuel + 1) listed x w hsz hf hc hlm hdone hB hF
   ·have hnone:Region.ready .any ops listed = []→∀ i,i < ops.size→listed.getD i false = true:=fun hr i=>by
     induction i using Nat.strongRecOn with
     | _ i ih2 =>
       intro hi
       cases hl:listed.getD i true with
       | true =>
         have:i < listed.size:=by omega
         simpa [Array.getD,this] using hl
       | false =>
         exfalso
         have:i ∈ Region.ready .any ops listed:=mem_ready.2 ⟨hl,_,Array.getElem?_eq_getElem hi,fun e he hbd=>by
          have h1:=hinv i hi
          rw [Array.getElem?_eq_getElem hi] at h1
          have h2:=Array.all_eq_true_iff_forall_mem.1 h1 e he
          simp only [hbd,Bool.not_true,Bool.false_or,decide_eq_true_eq] at h2
          exact ih2 e.on h2 (by omega)⟩
         rw [hr] at this
         cases this
    refine ⟨fun hr=>absurd (fun j hj=>hnone hr j (by omega)) hdone,fun i hi=>?_⟩
    obtain ⟨h0,o,hio,halle⟩:=mem_ready.1 hi
    have hin:=(Array.getElem?_eq_some_iff.1 hio).1
    have him:i < m:=by
     rcases Nat.lt_or_ge i m with g | g
     ·exact g
     ·exact absurd (fun j hj=>ready_all ht hc hi g j (by omega)) hdone
    have hl:(l.take m)[i]? = some o:=by
     rw [List.getElem?_take,if_pos him]
     rw [ho] at hio
     simpa using hio
    have hst:=steps_at hstep hl
    rw [Nat.zero_add] at hst
    refine wpOp_of_list hio _ (hst x w _ hB (fun j hj=>?_) fun v w' hv hw=>ih (listed.setIfInBounds i true) (by simpa using hsz) ?_ (closed_set hc hi) (fun k hk=>?_) _ w' (hB.trans (hw.mono hB.size)) fun k hk=>?_)
    ·obtain ⟨e,he,hej⟩:=Array.any_eq_true'.1 hj
     simp only [Bool.and_eq_true,beq_iff_eq] at hej
     have:=halle e he hej.1
     rw [hej.2] at this
     exact hF j this
    ·have:=unlisted_set (listed:=listed) (i:=i) (by omega) (not_listed h0).1
     omega
    ·rw [getD_set'] at hk
     by_cases hik:i = k∧i < listed.size
     ·omega
     ·rw [if_neg hik] at hk
      exact hlm k hk
    ·rw [getD_set'] at hk
     by_cases hik:i = k
     ·subst hik
      rw [upd_same]
      exact hv
     ·rw [if_neg (fun h=>hik h.1)] at hk
      have hks:k < listed.size:=by
       refine Nat.lt_of_not_le fun h=>?_
       simp [Array.getD,show ¬ k < listed.size by omega] at hk
      have hne:D.getD k 0 ≠ D.getD i 0:=by
       rw [List.getD_eq_getElem?_getD,List.getD_eq_getElem?_getD,List.getElem?_eq_getElem (show k < D.length by omega),List.getElem?_eq_getElem (show i < D.length by omega)]
       intro e
       simp only [Option.getD_some] at e
       have hp:=List.pairwise_iff_getElem.1 hnd
       rcases Nat.lt_or_ge k i with h | h
       ·exact hp k i (by omega) (by omega) h e
       ·exact hp i k (by omega) (by omega) (by omega) e.symm
      rw [upd_other x v hne]
      exact (F.getD k .any).keep _ _ _ (hF k hk) hw
theorem wp_invT {id:Nat} {l:List Oper} {Q:Exit→Act→World→Prop} {a:Act} {w:World} (hm:P.follows .mixedOrders = true) (D:List Nat) (F:List Fact) (m:Nat) (hms:m ≤ l.toArray.size) (ht:tailB l.toArray m = true) (hb:invB l.toArray D = true)
  (hstep:Steps P l.toArray a D F w 0 (l.take m))
  (hend:∀ x w',Below w.heap.size w w'→(∀ i,i < m→(F.getD i .any).p (x (D.getD i 0)) w')→wpList P l.toArray (Exit.then (fun b w'=>Q .normal b w') (fun _ _ _=>False)) (l.drop m) (frameOf a D x) w'):(Code.region id l.toArray true).wp P Q a w:=by
 have h:=any_invT (ops:=l.toArray) (R0:=fun b w'=>Q .normal b w') rfl hms ht hb hstep hend l.toArray.size (Array.replicate l.toArray.size false) (by simp) (by
  refine Nat.le_trans (List.length_filter_le _ _) ?_
  simp) (fun i o _ hl=>by simp [Array.getD] at hl) (fun i hi=>by simp [Array.getD] at hi) (fun j=>a.tmps.getD j undef) w.drew ((Below.refl _ _).drew) (fun i hi=>by simp [Array.getD] at hi)
 rw [frameOf_self] at h
 refine wp_mono (wp_region_any (id:=id) hm h) fun e a w q=>?_
 cases e with
 | normal=>exact q
 | _=>exact q.elim
def StepsL (P:Program) (ops:Array Oper) (fin:(Nat→Value)→Act) (D:List Nat) (F:List Fact) (w0:World):Nat→List Oper→Prop
 | _,[]=>True
 | i,o :: l=>(∀ (x:Nat→Value) (w:World) (R:Act→World→Prop),Below w0.heap.size w0 w→(∀ j,(o.after.any fun e=>Region.binds .any e && e.on == j) = true→(F.getD j .any).p (x (D.getD j 0)) w) →
   (∀ v w',(F.getD i .any).p v w'→Below w.heap.size w w'→R (fin (upd x (D.getD i 0) v)) w')→wpList P ops (Exit.then R (fun _ _ _=>False)) [o] (fin x) w)∧StepsL P ops fin D F w0 (i + 1) l
theorem steps_lit {a:Act} {fin:(Nat→Value)→Act} {D:List Nat} {F:List Fact} {w0:World} (hfin:∀ x,frameOf a D x = fin x):∀ {l:List Oper} {k:Nat},StepsL P ops fin D F w0 k l→Steps P ops a D F w0 k l
 | [],_,_=>trivial
 | _ :: _,_,hs=>⟨fun x w R hB hf hR=>by
    rw [hfin]
    exact hs.1 x w R hB hf (fun v w' h1 h2=>by rw [← hfin];exact hR v w' h1 h2),steps_lit hfin hs.2⟩
theorem wp_invL {id:Nat} {l:List Oper} {Q:Exit→Act→World→Prop} {a:Act} {w:World} {fin:(Nat→Value)→Act} (hm:P.follows .mixedOrders = true) (D:List Nat) (F:List Fact) (m:Nat) (hms:m ≤ l.toArray.size) (ht:tailB l.toArray m = true) (hb:invB l.toArray D = true)
  (hfin:∀ x,frameOf a D x = fin x) (hstep:StepsL P l.toArray fin D F w 0 (l.take m))
  (hend:∀ x w',Below w.heap.size w w'→(∀ i,i < m→(F.getD i .any).p (x (D.getD i 0)) w')→wpList P l.toArray (Exit.then (fun b w'=>Q .normal b w') (fun _ _ _=>False)) (l.drop m) (fin x) w'):(Code.region id l.toArray true).wp P Q a w :=
 wp_invT hm D F m hms ht hb (steps_lit hfin hstep) (fun x w' h1 h2=>by rw [hfin];exact hend x w' h1 h2)
end
end
section -- HJoinM
open Go Go.RowKit Go.Shelf
section
variable {S:List SetF} {l:List EraF}
theorem next_of {P Q pre:List Chg} {c:Chg} {rest:List Chg} {to:Int} (h:P ++ Q = pre ++ c :: rest) (hP:∀ x ∈ P,x.at_ ≤ to) (hQ:∀ x ∈ Q,to < x.at_) (hl:pre.length ≤ P.length) :
  (to < c.at_∧pre.length = P.length)∨(c.at_ ≤ to∧∃ h2:pre.length < P.length,P[pre.length] = c):=by
 by_cases h2:pre.length < P.length
 ·right
  have e:(P ++ Q)[pre.length]? = (pre ++ c :: rest)[pre.length]?:=by rw [h]
  rw [List.getElem?_append_left h2,List.getElem?_append_right (Nat.le_refl _),Nat.sub_self,List.getElem?_eq_getElem h2] at e
  have e:=Option.some.inj e
  exact ⟨by have:=hP _ (List.getElem_mem h2);rw [e] at this;exact this,h2,e⟩
 ·left
  have h3:pre.length = P.length:=by omega
  have e:(P ++ Q)[pre.length]? = (pre ++ c :: rest)[pre.length]?:=by rw [h]
  rw [List.getElem?_append_right (by omega),List.getElem?_append_right (Nat.le_refl _),Nat.sub_self,h3,Nat.sub_self] at e
  have e:Q[0]? = some c:=e
  exact ⟨hQ c (List.mem_of_getElem? e),h3⟩
end
end
end Go.Proofs.YteekjfgjmccdnaaGreatDoor
