/-
  From its Since on a footer shows what the zone shows (plain).
-/
import Derived.Lib.MinMax
import Derived.Deep.QuietTactic
import Derived.BigQuiet
import Derived.WalkKit
import Derived.Test.YteekjfgjmccdnaaGreatDoorChecked
import Derived.Lib.Hide
import Derived.IntWalk
import Derived.Lib.Strings
import Derived.Test.YteekjfgjmccdnaaGreatDoorZr12
set_option maxHeartbeats 16000000
set_option maxRecDepth 100000
namespace Go.Proofs.YteekjfgjmccdnaaGreatDoor
section -- HRch
open Go Go.RowKit Go.Shelf
def instZ (l:List EraF) (R:List RowF) (q j:Nat):Int:=instA ((R.getD q default).D.map FrI.f) (l.getD q default).n.off j
def dlenZ (R:List RowF) (q:Nat):Nat:=(R.getD q default).D.length
def AllK (S:List SetF) (l:List EraF) (R:List RowF) (i k:Nat) (N:List Int):Prop:=∀ x,x ∈ N ↔ x ∈ endL S l∨(∃ q j,q < i∧j < dlenZ R q∧instZ l R q j = x)∨∃ j,j < k∧instZ l R i j = x
section
variable {S:List SetF} {l:List EraF} {R:List RowF}
theorem AllK.start {N:List Int} (h:∀ x,x ∈ N ↔ x ∈ endL S l):AllK S l R 0 0 N:=fun x=>by
 rw [h]
 constructor
 ·exact .inl
 ·rintro (h | ⟨q,j,h,-⟩ | ⟨j,h,-⟩)
  ·exact h
  ·omega
  ·omega
theorem AllK.put {N M:List Int} {i k:Nat} (h:AllK S l R i k N) (hM:∀ x,x ∈ M ↔ x ∈ N∨x = instZ l R i k):AllK S l R i (k + 1) M:=fun x=>by
 rw [hM,h x]
 constructor
 ·rintro ((h | h | ⟨j,hj,e⟩) | rfl)
  ·exact .inl h
  ·exact .inr (.inl h)
  ·exact .inr (.inr ⟨j,by omega,e⟩)
  ·exact .inr (.inr ⟨k,by omega,rfl⟩)
 ·rintro (h | h | ⟨j,hj,e⟩)
  ·exact .inl (.inl h)
  ·exact .inl (.inr (.inl h))
  ·by_cases hk:j = k
   ·subst hk;exact .inr e.symm
   ·exact .inl (.inr (.inr ⟨j,by omega,e⟩))
theorem AllK.next {N:List Int} {i k:Nat} (h:AllK S l R i k N) (hk:k = dlenZ R i):AllK S l R (i + 1) 0 N:=fun x=>by
 rw [h x]
 constructor
 ·rintro (h | ⟨q,j,hq,hj,e⟩ | ⟨j,hj,e⟩)
  ·exact .inl h
  ·exact .inr (.inl ⟨q,j,by omega,hj,e⟩)
  ·exact .inr (.inl ⟨i,j,by omega,by omega,e⟩)
 ·rintro (h | ⟨q,j,hq,hj,e⟩ | ⟨j,hj,e⟩)
  ·exact .inl h
  ·by_cases hqi:q = i
   ·subst hqi;exact .inr (.inr ⟨j,by omega,e⟩)
   ·exact .inr (.inl ⟨q,j,by omega,hj,e⟩)
  ·omega
theorem AllK.all {N:List Int} (hr:RowsZ S l R) (h:AllK S l R R.length 0 N):AllN S l R N:=fun x=>by
 have hg:∀ q (hq:q < R.length),R.getD q default = R[q]:=fun q hq=>by rw [List.getD_eq_getElem?_getD,List.getElem?_eq_getElem hq];rfl
 have hg2:∀ q (hq:q < l.length),l.getD q default = l[q]:=fun q hq=>by rw [List.getD_eq_getElem?_getD,List.getElem?_eq_getElem hq];rfl
 rw [h x]
 constructor
 ·rintro (h | ⟨q,j,hq,hj,e⟩ | ⟨j,hj,e⟩)
  ·exact .inl h
  ·have hql:q < l.length:=by rw [← hr.len];exact hq
   unfold dlenZ at hj;unfold instZ at e;rw [hg q hq] at hj e;rw [hg2 q hql] at e;exact .inr ⟨q,hq,hql,j,hj,e⟩
  ·omega
 ·rintro (h | ⟨q,hq,hql,j,hj,e⟩)
  ·exact .inl h
  ·refine .inr (.inl ⟨q,j,hq,?_,?_⟩)
   ·unfold dlenZ;rw [hg q hq];exact hj
   ·unfold instZ;rw [hg q hq,hg2 q hql];exact e
theorem AllN.in_ (hf:FewZ S l) (hr:RowsZ S l R) {N:List Int} (h:AllN S l R N):∀ x ∈ N,-2000000000000000 ≤ x∧x ≤ 2000000000000000:=fun x hx=>by
 rcases (h x).1 hx with g | ⟨k,hk,hk2,j,hj,rfl⟩
 ·have:=hf.ends x g;omega
 ·have hok:=hr.ok k hk hk2;have hj2:j < (R[k].D.map FrI.f).length:=by rw [List.length_map];exact hj
  have h1:=hok.right.inst_in (hf.off hk2) hj2;have h2:=hok.bd R[k].D[j] (List.getElem_mem hj);rw [List.getElem_map] at h1;omega
theorem outR_next {fr to:Int} {N:List Int} {k:Nat} (hk:k < N.length) (b:Bool) (hb:(decide (fr < N[k]) && (decide (N[k] ≤ to) && !locE (refZ S l R N[k]) (refZ S l R (N[k] - 1)))) = b) :
  outR S l R fr to (N.take (k + 1)) = outR S l R fr to (N.take k) ++ (bif b then [⟨N[k],refZ S l R N[k]⟩] else []):=by
 unfold outR;rw [List.take_succ_eq_append_getElem hk,List.filter_append,List.map_append,List.filter_cons,hb]
 cases b <;> rfl
theorem outR_len {fr to:Int} {N:List Int}:(outR S l R fr to N).length ≤ N.length:=by
 unfold outR;rw [List.length_map];exact List.length_filter_le _ _
end
theorem own_base {w:World} {base base':Nat} {e:TypeId} {sz n:Nat} {v:Value} {xs:List Value} (h:w.ownsRow base e sz v n xs) (hb:base' ≤ base):w.ownsRow base' e sz v n xs:=by
 obtain ⟨h1,h2⟩:=h;refine ⟨h1,h2.imp id ?_⟩;rintro ⟨g,cap,cur,e1,e2,e3⟩;exact ⟨g,cap,cur,e1,Nat.le_trans hb e2,e3⟩
def RchPost (w:World) (S:List SetF) (l:List EraF) (R:List RowF) (fr to:Int) (o:Ending) (w':World):Prop :=
 (∃ q N,o = .returned q∧w'.ownsRow w.heap.size 76 4 q (outR S l R fr to N).length (chgsV (outR S l R fr to N))∧(outR S l R fr to N).length ≤ 1000000∧RiseN N∧AllN S l R N)∧Below w.heap.size w w'
theorem rchanges_any (w:World) (zn:ByteArray) (ev u v:Value) (B:Nat) (l:List EraF) (S:List SetF) (R:List RowF) (fr to:Int) (he:ErasR w B ev l) (hR:RowsB w B u R) (hE:Nums w B v (endL S l)) (hB:B ≤ w.heap.size) (hf:FewZ S l) (hr:RowsZ S l R) (hlet:∀ s ∈ S,letOk s.l) :
  Calls Tryz.prog 31 #[zoneA zn ev,u,v,.int .i64 fr,.int .i64 to] w (RchPost w S l R fr to):=by
 obtain ⟨ic,hic,hc0,hc1,hc2⟩:=info_parts infoChgH;obtain ⟨A,cA,rfl,hlc,hcm⟩:=he.form;obtain ⟨A2,cR,rfl,hlc2,hcm2⟩:=hR.form;obtain ⟨EL,hEL⟩:∃ E,endL S l = E:=⟨_,rfl⟩;have hel:EL.length ≤ 3:=by rw [← hEL,length_endL];have:=(fewB_iff.1 hf.few).2.2.1;omega
 have hl4:l.length ≤ 4:=(fewB_iff.1 hf.few).2.2.1;rw [hEL] at hE;obtain ⟨A3,cE,rfl,hlc3,hcm3⟩:=hE.form;unfold maxLen at hcm hcm2 hcm3;have HEL:=Lib.hid hEL;obtain ⟨W0,hW0⟩:∃ W,(w.alloc (.cells #[.string zn,.slice A l.length cA] 24)) = W:=⟨_,rfl⟩;have HB0:=Lib.hid (show Below w.heap.size w W0 by rw [← hW0];exact (Below.refl w.heap.size w).alloc (Nat.le_refl _) _);have HXX:=Lib.hid (show Blk W0 w.heap.size 24 #[.string zn,.slice A l.length cA] by rw [← hW0];exact Blk.new w _ _);have HE0:=Lib.hid he;have HRB:=Lib.hid hR;have HNE:=Lib.hid hE;have HF:=Lib.hid hf;have HRZ:=Lib.hid hr;have HLET:=Lib.hid hlet;have HW0:=Lib.hid hW0;have hRl:R.length ≤ l.length∧l.length ≤ R.length:=by have:=hr.len;omega
 have HAT:=Lib.hid (fun (W:World) (h:Below w.heap.size w W) (i:Int)=>rat_any W zn _ _ (.slice A3 EL.length cE) B l S R i (he.below (h.mono hB)) (hR.below (h.mono hB)) (by rw [hEL];exact hE.below (h.mono hB)) (Nat.le_trans hB h.size) hf hr hlet);unfold zoneA at HAT;clear he hR hE hf hr hlet hEL hW0;unfold zoneA RchPost;go_enter Tryz.func31,Tryz.ntmps31;go_wp2_with fail;rw [HW0.out];try simp only [HW0.out]
 clear HW0
 go_loopw [11,12] (fun u iv wr=>∃ (k:Nat) (N:List Int),k ≤ EL.length∧iv = .int .i64 k∧Nums wr wr.heap.size u N∧RiseN N∧(∀ x,x ∈ N ↔ x ∈ EL.take k)∧N.length ≤ k∧Below W0.heap.size W0 wr) (fun _ iv _=>EL.length - (intOf iv).toNat)
 case atStart=>exact ⟨0,[],Nat.zero_le _,rfl,Sl.nil _ _ _,List.Pairwise.nil,fun x=>by simp,Nat.zero_le _,Below.refl _ _⟩
 case round =>
  obtain ⟨k,N,hk,rfl,hN,hrN,hmN,hlN,hbq⟩:=hrel;have HN:=Lib.hid hN;have HRN:=Lib.hid hrN;have HMN:=Lib.hid hmN;have HBL:=Lib.hid hbq;have HBQ:=Lib.hid (HB0.out.trans (hbq.mono HB0.out.size));clear hN hrN hmN hbq
  by_cases hlt:k < EL.length
  ·have hd:decide ((k:Int) < (EL.length:Int)) = true:=decide_eq_true (by omega);obtain ⟨b4,o4,c4',e,hb4,hc4⟩:=(Nums.below HNE.out (HBQ.out.mono hB)).cells (by omega)
   cases e
   have e4:=hc4 k hlt;have hb4q:b4 < wr.heap.size:=by have:=HBQ.out.size;omega
   obtain ⟨n,hn⟩:∃ n:Int,EL[k]'hlt = n:=⟨_,rfl⟩;rw [hn] at e4;have hpt:=rput_any wr wr.heap.size _ N n HN.out (Nat.le_refl _) HRN.out (by omega);obtain ⟨Au,cu,hu,-,-⟩:=HN.out.form;subst hu;have HPT:=Lib.hid hpt;have HTK:=Lib.hid (show EL.take (k + 1) = EL.take k ++ [n] by rw [List.take_succ_eq_append_getElem hlt,hn]);clear hc4 hn hpt;go_wp2_with fail;refine HPT.out.mono ?_;rintro o w2 ⟨⟨u2,M,rfl,hM,hins⟩,hb⟩;have HB2:=Lib.hid (HBL.out.trans (hb.mono HBL.out.size));have HM:=Lib.hid hM;have HI:=Lib.hid hins;clear hb hM hins;go_wp2_with fail;go_roundw
   case rel =>
    refine ⟨k + 1,M,by omega,by go_num,HM.out,HI.out.rise,fun x=>?_,by have:=HI.out.len;omega,HB2.out⟩;rw [HI.out.mem,HMN.out,HTK.out,List.mem_append,List.mem_singleton]
   case measure=>first | (simp [intOf];done) | (simp [intOf];omega)
  ·obtain rfl:k = EL.length:=by omega
   have hd:decide ((EL.length:Int) < (EL.length:Int)) = false:=decide_eq_false (by omega);obtain ⟨w2,hw2⟩:∃ x,x = wr:=⟨_,rfl⟩;subst hw2;have HA0:=Lib.hid (AllK.start (S:=S) (l:=l) (R:=R) (N:=N) (fun x=>by rw [HMN.out,List.take_length,HEL.out]));obtain ⟨Au,cu,hu,-,-⟩:=HN.out.form;subst hu;clear hk hlt HMN;go_wp2_with fail
   go_loopw [11,13] (fun u iv wr=>∃ (i:Nat) (M:List Int),i ≤ R.length∧iv = .int .i64 i∧Nums wr wr.heap.size u M∧RiseN M∧AllK S l R i 0 M∧M.length ≤ EL.length + i * 100000∧Below w2.heap.size w2 wr) (fun _ iv _=>R.length - (intOf iv).toNat)
   case atStart=>exact ⟨0,N,Nat.zero_le _,rfl,HN.out,HRN.out,HA0.out,by omega,Below.refl _ _⟩
   case round =>
    obtain ⟨i,M,hi,rfl,hM,hrM,hmM,hlM,hbq⟩:=hrel;have HM:=Lib.hid hM;have HRM:=Lib.hid hrM;have HMM:=Lib.hid hmM;have HBL3:=Lib.hid (HBL.out.trans (hbq.mono HBL.out.size));have HBI2:=Lib.hid hbq;obtain ⟨w3,hw3⟩:∃ x,x = wr:=⟨_,rfl⟩;subst hw3;clear hM hrM hmM hbq;obtain ⟨Am,cm,hu,-,-⟩:=HM.out.form;subst hu
    by_cases hlt:i < R.length
    ·have hd:decide ((i:Int) < (R.length:Int)) = true:=decide_eq_true (by omega);have hil:i < l.length:=by omega
     have hok:=HRZ.out.ok i hlt hil;have hrm:=HRB.out.2 _ (List.getElem_mem hlt);have hof:=HF.out.off hil;have hD:dlenZ R i = R[i].D.length:=by unfold dlenZ;rw [List.getD_eq_getElem?_getD,List.getElem?_eq_getElem hlt];rfl
     have hI:∀ j,instZ l R i j = instA (R[i].D.map FrI.f) l[i].n.off j:=fun j=>by unfold instZ;rw [List.getD_eq_getElem?_getD,List.getElem?_eq_getElem hlt,List.getD_eq_getElem?_getD,List.getElem?_eq_getElem hil];rfl
     obtain ⟨x,hxk⟩:∃ x,l[i] = x:=⟨_,rfl⟩;obtain ⟨r,hrk⟩:∃ r,R[i] = r:=⟨_,rfl⟩;have hdl:r.D.length ≤ 100000:=by rw [← hrk];exact hok.len
     have HXK:=Lib.hid hxk;have HRK:=Lib.hid hrk;rw [hrk] at hD hok hrm;rw [hxk] at hof;simp only [hrk,hxk] at hI;have HD:=Lib.hid hD;have HI:=Lib.hid hI;have HOK:=Lib.hid (And.intro hok.len hok.bd);have HRM2:=Lib.hid hrm;have HOF:=Lib.hid hof;clear hok hrm hof hD hI hxk hrk;go_wp2_with fail
     go_loopw [11,14] (fun u iv wr=>∃ (k:Nat) (M:List Int),k ≤ r.D.length∧iv = .int .i64 k∧Nums wr wr.heap.size u M∧RiseN M∧AllK S l R i k M∧M.length ≤ EL.length + i * 100000 + k∧Below w3.heap.size w3 wr) (fun _ iv _=>r.D.length - (intOf iv).toNat)
     case atStart=>exact ⟨0,M,Nat.zero_le _,rfl,HM.out,HRM.out,HMM.out,by omega,Below.refl _ _⟩
     case round =>
      obtain ⟨k,N3,hk,rfl,hM,hrM,hmM,hlM3,hbq⟩:=hrel;have HN3:=Lib.hid hM;have HRN3:=Lib.hid hrM;have HMN3:=Lib.hid hmM;have HBI:=Lib.hid hbq;have HBW:=Lib.hid (HBL3.out.trans (hbq.mono HBL3.out.size));have HBQ4:=Lib.hid (HB0.out.trans (HBW.out.mono HB0.out.size));clear hM hrM hmM hbq;obtain ⟨br,orr,cr',e,hbr,hcr⟩:=(HRB.out.below (HBQ4.out.mono hB)).cells (by omega)
      cases e
      obtain ⟨rc0,-⟩:=hcr i hlt;obtain ⟨Am3,cm3,hu,-,-⟩:=HN3.out.form;subst hu;rw [HRK.out] at rc0;obtain ⟨A9,c9,hv9,-,-⟩:=HRM2.out.form;rw [hv9] at rc0;have hbrq:br < wr.heap.size:=by have:=HBQ4.out.size;omega
      have hdR:decide (i < R.length) = true:=decide_eq_true hlt;clear hcr
      by_cases hlt3:k < r.D.length
      ·have hd3:decide ((k:Int) < (r.D.length:Int)) = true:=decide_eq_true (by omega);have HIN:=Lib.hid (fun (W:World) (h:Below wr.heap.size wr W)=>rinst_any W B r.v r.D (HRM2.out.below ((HBQ4.out.trans (h.mono HBQ4.out.size)).mono hB)) (Nat.le_trans hB (HBQ4.out.trans (h.mono HBQ4.out.size)).size) HOK.out.1 HOK.out.2 k hlt3 x.n.off (by have:=HOF.out;omega));rw [hv9] at HIN;obtain ⟨n,hn⟩:∃ n,instA (r.D.map FrI.f) x.n.off k = n:=⟨_,rfl⟩;rw [hn] at HIN;have HNK:=Lib.hid (show instZ l R i k = n by rw [HI.out];exact hn);obtain ⟨bb,o,c',e,hbb,hc⟩:=(HE0.out.below (HBQ4.out.mono hB)).cells (by omega)
       cases e
       have c0:=(hc i hil).1;rw [HXK.out] at c0;have hbbq:bb < wr.heap.size:=by have:=HBQ4.out.size;omega
       have hdE:decide (i < l.length) = true:=decide_eq_true hil;have hxb:=HXX.out.below (HBW.out) HXX.out.lt;have x0:=hxb.cell 0 (v:=.string zn) rfl;have x1:=hxb.cell 1 (v:=.slice (some ⟨bb,o,none⟩) l.length cA) rfl;have hxl:=hxb.lt;clear hxb;clear hc hn hv9;go_wp2_with fail;refine wp_text (by kernel_rfl) (by kernel_rfl) ?_;intro K hK;have HBD:=Lib.hid (below_drewN (Below.refl wr.heap.size wr) 1);go_wp2_with fail;refine (HIN.out (wr.drewN 1) HBD.out).mono ?_;rintro o5 w5 ⟨rfl,hb⟩;have HB5:=Lib.hid (HBD.out.trans (hb.mono HBD.out.size));have HPT:=Lib.hid (rput_any w5 w5.heap.size _ N3 n ((HN3.out.below HB5.out).more HB5.out.size) (Nat.le_refl _) HRN3.out (by omega));clear hb HBD;go_wp2_with fail;refine HPT.out.mono ?_;rintro o6 w6 ⟨⟨u6,M6,rfl,hM,hins⟩,hb⟩;have HB6:=Lib.hid (HBI.out.trans ((HB5.out.trans (hb.mono HB5.out.size)).mono HBI.out.size));have HM6:=Lib.hid hM;have HI6:=Lib.hid hins;clear hb hM hins HPT;go_wp2_with fail;refine ⟨by simp [goodB,fits,plainPair,isSeqV,quiet,Act.eval],?_⟩;go_wp2_with fail;go_roundw
       case rel =>
        refine ⟨k + 1,M6,by omega,by go_num,HM6.out,HI6.out.rise,HMN3.out.put (fun y=>by rw [HI6.out.mem,HNK.out]),by have:=HI6.out.len;omega,HB6.out⟩
       case measure=>first | (simp [intOf];done) | (simp [intOf];omega)
      ·obtain rfl:k = r.D.length:=by omega
       have hd3:decide ((r.D.length:Int) < (r.D.length:Int)) = false:=decide_eq_false (by omega);have HNX:=Lib.hid (HMN3.out.next HD.out.symm);go_wp2_with fail;go_roundw
       case rel =>
        refine ⟨i + 1,N3,by omega,by go_num,HN3.out,HRN3.out,HNX.out,by omega,HBI2.out.trans (HBI.out.mono HBI2.out.size)⟩
       case measure=>first | (simp [intOf];done) | (simp [intOf];omega)
    ·obtain rfl:i = R.length:=by omega
     have hd:decide ((R.length:Int) < (R.length:Int)) = false:=decide_eq_false (by omega);have HAN:=Lib.hid (HMM.out.all HRZ.out);have HNI:=Lib.hid (AllN.in_ HF.out HRZ.out HAN.out);have hML:M.length ≤ 1000000:=by omega
     have HMB:=Lib.hid (show Sl w3 w3.heap.size 1 (.slice Am M.length cm) M.length (intsV M) from HM.out);clear HMM hlM hi hlt;go_wp2_with fail
     go_loopw [15,16] (fun u iv wr=>∃ (k:Nat),k ≤ M.length∧iv = .int .i64 k∧wr.ownsRow w3.heap.size 76 4 u (outR S l R fr to (M.take k)).length (chgsV (outR S l R fr to (M.take k)))∧Below w3.heap.size w3 wr) (fun _ iv _=>M.length - (intOf iv).toNat)
     case atStart=>exact ⟨0,Nat.zero_le _,rfl,World.ownsRow_nil _ _ _ _,Below.refl _ _⟩
     case round =>
      obtain ⟨k,hk,rfl,hown,hbq⟩:=hrel;obtain ⟨Q,hQ⟩:∃ Q,outR S l R fr to (M.take k) = Q:=⟨_,rfl⟩;rw [hQ] at hown;have HQ:=Lib.hid hQ;have HOW:=Lib.hid hown;have HBI:=Lib.hid hbq;have HBW:=Lib.hid (HBL3.out.trans (hbq.mono HBL3.out.size));have HBQ4:=Lib.hid (HB0.out.trans (HBW.out.mono HB0.out.size));have hQl:Q.length ≤ 1000000:=by rw [← hQ];exact Nat.le_trans outR_len (by rw [List.length_take];omega)
      obtain ⟨Aq,cq,hu,-,-⟩:=Sl.of_own hown;subst hu;clear hown hbq hQ
      by_cases hlt:k < M.length
      ·have hd:decide ((k:Int) < (M.length:Int)) = true:=decide_eq_true (by omega);obtain ⟨bm,om,cm',e,hbm,hcm'⟩:=(Nums.below HM.out HBI.out).cells (by omega)
       cases e
       obtain ⟨n,hn⟩:∃ n:Int,M[k]'hlt = n:=⟨_,rfl⟩;have hnin:=HNI.out n (by rw [← hn];exact List.getElem_mem _);have HOX:=Lib.hid (fun b hb=>outR_next (S:=S) (l:=l) (R:=R) (fr:=fr) (to:=to) hlt b hb);rw [hn] at HOX;have HCM:=Lib.hid (fun (W:World) (h:Below wr.heap.size wr W)=>show W.cell? ⟨bm,om + k,none⟩ = some (.int .i64 n) from (h.cell (p:=⟨bm,om + k,none⟩) (by show bm < wr.heap.size;have:=HBI.out.size;omega)).trans (by rw [hcm' k hlt,hn]));obtain ⟨⟨xo,xd,xs⟩,hxx⟩:∃ x,refZ S l R n = x:=⟨_,rfl⟩;obtain ⟨⟨yo,yd,ys⟩,hyy⟩:∃ x,refZ S l R (n - 1) = x:=⟨_,rfl⟩;have HAX:=Lib.hid (fun (W:World) (h:Below w.heap.size w W)=>by have:=HAT.out W h n;rw [hxx] at this;exact this);have HAY:=Lib.hid (fun (W:World) (h:Below w.heap.size w W)=>by have:=HAT.out W h (n - 1);rw [hyy] at this;exact this);unfold locA at HAX HAY;rw [hxx,hyy] at HOX;clear hcm' hn hxx hyy;have e0:=HCM.out _ (Below.refl _ _);have hxb:=HXX.out.below (HBW.out) HXX.out.lt;have x0:=hxb.cell 0 (v:=.string zn) rfl;have x1:=hxb.cell 1 (v:=.slice (A) l.length cA) rfl;have hxl:=hxb.lt;clear hxb;have hbmq:bm < wr.heap.size:=by have:=HBI.out.size;omega
       go_wp2_with fail
       refine wp_envA (fin:=?fnxa) (by kernel_rfl) [67,68,69,70,71,72,73,74,17,999]
        [.agg #[.string zn,.slice A l.length cA],.slice A2 R.length cR,.slice A3 EL.length cE,.slice (some ⟨bm,om,none⟩) M.length cm,.int .i64 k,.pointer (some ⟨bm,om + k,none⟩),.int .i64 n,.agg #[.int .i64 xo,.bool xd,.string xs],undef,undef] 8 9 48 #[.int .i64 0,.bool false,.string ⟨#[]⟩] #[.int .i64 xo,.bool xd,.string xs] (by kernel_rfl) (by simp) (by decide) ?finxa ?stepsxa ?nextxa
       case finxa =>
        intro p_;simp only [List.set_cons_succ,List.set_cons_zero,putAll,Act.put,List.setIfInBounds_toArray,List.set_nil]
        rfl
       case stepsxa =>
        refine ⟨?_,?_,?_,?_,?_,?_,?_,?_,?alxa,?stxa,trivial⟩
        case alxa =>
         refine ⟨fun p_=>by kernel_rfl,fun p_ w1_ hB_=>?_⟩
         first | rfl | (go_simp;done) | (go_simp;rfl)
        case stxa =>
         refine ⟨fun p_=>by kernel_rfl,fun b_ w1_ hb_=>⟨(((w1_.setCell ⟨b_,0,none⟩ (.int .i64 xo)).setCell ⟨b_,1,none⟩ (.bool xd)).setCell ⟨b_,2,none⟩ (.string xs)),?_,((Fr.setCell (T:=fun k=>k = b_) w1_ 0 (.int .i64 xo) rfl).then (Fr.setCell _ 1 _ rfl)).then (Fr.setCell _ 2 _ rfl),(((hb_.set 0 (.int .i64 xo)).set 1 (.bool xd)).set 2 (.string xs))⟩⟩;have f0_:=Blk.frozen hb_ 0;have f1_:=Blk.frozen hb_ 1;have f2_:=Blk.frozen hb_ 2;have z0_:=Blk.cell hb_ 0 (v:=.int .i64 0) rfl;have z1_:=Blk.cell hb_ 1 (v:=.bool false) rfl;have z2_:=Blk.cell hb_ 2 (v:=.string ⟨#[]⟩) rfl;go_simp;try rfl
        all_goals
         intro p_;refine .inr ⟨by kernel_rfl,fun w1_ hB_=>?_⟩;have hB6_:=HBQ4.out.trans (hB_.mono HBQ4.out.size);have hxb_:=HXX.out.below (HBW.out.trans (hB_.mono HBW.out.size)) HXX.out.lt;have x0_:=hxb_.cell 0 (v:=.string zn) rfl;have x1_:=hxb_.cell 1 (v:=.slice A l.length cA) rfl;have e0_:=HCM.out _ hB_;go_simp
         first
          | exact ⟨rfl,Below.refl _ _⟩
          | exact ⟨rfl,HAX.out _ hB6_⟩
          | ((first | rw [decide_eq_true (by omega)] | rw [decide_eq_false (by omega)] | rw [if_pos (by omega)] | rw [IntWalk.i64_in _ (by omega)]);exact ⟨rfl,Below.refl _ _⟩)
          | done
       case nextxa =>
       intro xc w10 hb10 hxc hX10;have HB10:=Lib.hid hb10;have HBQ5:=Lib.hid (HBQ4.out.trans (hb10.mono HBQ4.out.size));have HBW5:=Lib.hid (HBW.out.trans (hb10.mono HBW.out.size));have HBI5:=Lib.hid (HBI.out.trans (hb10.mono HBI.out.size));have HOW5:=Lib.hid (ownsRow_below HOW.out hb10);have HX10:=Lib.hid hX10;clear hb10 hxc hX10 e0 x0 x1 hxl;go_wp2_with fail
       by_cases h1:fr < n
       ·have d1:decide (fr < n) = true:=decide_eq_true h1
        by_cases h2:n ≤ to
        ·have d2:decide (n ≤ to) = true:=decide_eq_true h2
         cases hq:locE ⟨xo,xd,xs⟩ ⟨yo,yd,ys⟩ with
         | true =>
           have hyn:=locE_iff.1 hq;injection hyn with f1 f2 f3
           subst f1 f2 f3;have HH:=Lib.hid (show (decide (fr < n) && (decide (n ≤ to) && !locE ⟨xo,xd,xs⟩ ⟨xo,xd,xs⟩)) = false by rw [hq,d1,d2];rfl);clear hq
           refine wp_env (fin:=?fnxc) (by kernel_rfl) [75,76,77,78,79,80,81,82,83,84,85,86,87,88,89,90,91,92,93,94,95,96,97,98,99,100,101]
            [.slice (some ⟨bm,om,none⟩) M.length cm,.int .i64 k,.pointer (some ⟨bm,om + k,none⟩),.int .i64 n,.int .i64 fr,.bool true,.bool true,.slice (some ⟨bm,om,none⟩) M.length cm,.int .i64 k,.pointer (some ⟨bm,om + k,none⟩),.int .i64 n,.int .i64 to,.bool true,.bool true,.bool true,.agg #[.int .i64 xo,.bool xd,.string xs],.agg #[.string zn,.slice A l.length cA],.slice A2 R.length cR,.slice A3 EL.length cE,.slice (some ⟨bm,om,none⟩) M.length cm,.int .i64 k,.pointer (some ⟨bm,om + k,none⟩),.int .i64 n,.int .i64 (n - 1),.agg #[.int .i64 xo,.bool xd,.string xs],.bool false,.bool false] (by kernel_rfl) ?finxc ?stepsxc ?nextxc
           case finxc =>
            simp only [putAll,Act.put,List.setIfInBounds_toArray,List.set_cons_succ,List.set_cons_zero]
            rfl
           case stepsxc =>
            refine ⟨?_,?_,?_,?_,?_,?_,?_,?_,?_,?_,?_,?_,?_,?_,?_,?_,?_,?_,?_,?_,?_,?_,?_,?_,?_,?_,?_,trivial⟩
            all_goals refine .inr ⟨by kernel_rfl,fun w1_ hB_=>?_⟩
            all_goals
             have hBw_:=HB10.out.trans (hB_.mono HB10.out.size);have hB6_:=HBQ4.out.trans (hBw_.mono HBQ4.out.size);have hxb_:=HXX.out.below (HBW.out.trans (hBw_.mono HBW.out.size)) HXX.out.lt;have x0_:=hxb_.cell 0 (v:=.string zn) rfl;have x1_:=hxb_.cell 1 (v:=.slice A l.length cA) rfl;have e0_:=HCM.out _ hBw_;have hxx_:=HX10.out.below hB_ HX10.out.lt;have q0_:=hxx_.cell 0 (v:=.int .i64 xo) rfl;have q1_:=hxx_.cell 1 (v:=.bool xd) rfl;have q2_:=hxx_.cell 2 (v:=.string xs) rfl;go_simp
             first
              | exact ⟨rfl,Below.refl _ _⟩
              | exact ⟨rfl,HAY.out _ hB6_⟩
              | ((first | rw [decide_eq_true (by omega)] | rw [decide_eq_false (by omega)] | rw [if_pos (by omega)] | rw [IntWalk.i64_in _ (by omega)]);exact ⟨rfl,Below.refl _ _⟩)
              | done
           case nextxc =>
           intro w11 hb11;have HB11:=Lib.hid (HBI5.out.trans (hb11.mono HBI5.out.size));have HOW6:=Lib.hid (ownsRow_below HOW5.out hb11);clear hb11;go_wp2_with fail;go_roundw
           case rel =>
            refine ⟨k + 1,by omega,by go_num,?_,HB11.out⟩;rw [HOX.out false (by exact HH.out),HQ.out,cond_false,List.append_nil];exact HOW6.out
           case measure=>first | (simp [intOf];done) | (simp [intOf];omega)
         | false =>
           have HH:=Lib.hid (show (decide (fr < n) && (decide (n ≤ to) && !locE ⟨xo,xd,xs⟩ ⟨yo,yd,ys⟩)) = true by rw [hq,d1,d2];rfl);have hq3:=hq;unfold locE at hq3;rw [decide_eq_false_iff_not] at hq3
           have hcase:¬ xo = yo∨(xo = yo∧¬ xd = yd)∨(xo = yo∧xd = yd∧¬ xs.toList = ys.toList):=by
            by_cases h1:xo = yo
            ·by_cases h2:xd = yd
             ·exact .inr (.inr ⟨h1,h2,fun h3=>hq3 ⟨h1,h2,h3⟩⟩)
             ·exact .inr (.inl ⟨h1,h2⟩)
            ·exact .inl h1
           clear hq hq3
           refine wp_env (fin:=?fnxd) (by kernel_rfl) [75,76,77,78,79,80,81,82,83,84,85,86,87,88,89,90,91,92,93,94,95,96,97,98,99,100,101]
            [.slice (some ⟨bm,om,none⟩) M.length cm,.int .i64 k,.pointer (some ⟨bm,om + k,none⟩),.int .i64 n,.int .i64 fr,.bool true,.bool true,.slice (some ⟨bm,om,none⟩) M.length cm,.int .i64 k,.pointer (some ⟨bm,om + k,none⟩),.int .i64 n,.int .i64 to,.bool true,.bool true,.bool true,.agg #[.int .i64 xo,.bool xd,.string xs],.agg #[.string zn,.slice A l.length cA],.slice A2 R.length cR,.slice A3 EL.length cE,.slice (some ⟨bm,om,none⟩) M.length cm,.int .i64 k,.pointer (some ⟨bm,om + k,none⟩),.int .i64 n,.int .i64 (n - 1),.agg #[.int .i64 yo,.bool yd,.string ys],.bool true,.bool true] (by kernel_rfl) ?finxd ?stepsxd ?nextxd
           case finxd =>
            simp only [putAll,Act.put,List.setIfInBounds_toArray,List.set_cons_succ,List.set_cons_zero]
            rfl
           case stepsxd =>
            refine ⟨?_,?_,?_,?_,?_,?_,?_,?_,?_,?_,?_,?_,?_,?_,?_,?_,?_,?_,?_,?_,?_,?_,?_,?_,?_,?_,?_,trivial⟩
            all_goals refine .inr ⟨by kernel_rfl,fun w1_ hB_=>?_⟩
            all_goals
             have hBw_:=HB10.out.trans (hB_.mono HB10.out.size);have hB6_:=HBQ4.out.trans (hBw_.mono HBQ4.out.size);have hxb_:=HXX.out.below (HBW.out.trans (hBw_.mono HBW.out.size)) HXX.out.lt;have x0_:=hxb_.cell 0 (v:=.string zn) rfl;have x1_:=hxb_.cell 1 (v:=.slice A l.length cA) rfl;have e0_:=HCM.out _ hBw_;have hxx_:=HX10.out.below hB_ HX10.out.lt;have q0_:=hxx_.cell 0 (v:=.int .i64 xo) rfl;have q1_:=hxx_.cell 1 (v:=.bool xd) rfl;have q2_:=hxx_.cell 2 (v:=.string xs) rfl;go_simp
             first
              | exact ⟨rfl,Below.refl _ _⟩
              | exact ⟨rfl,HAY.out _ hB6_⟩
              | (rcases hcase with g1 | ⟨g1,g2⟩ | ⟨g1,g2,g3⟩;(rw [if_neg g1];exact ⟨rfl,Below.refl _ _⟩);(rw [if_pos g1,if_neg g2];exact ⟨rfl,Below.refl _ _⟩);(rw [if_pos g1,if_pos g2,if_neg g3];exact ⟨rfl,Below.refl _ _⟩))
              | ((first | rw [decide_eq_true (by omega)] | rw [decide_eq_false (by omega)] | rw [if_pos (by omega)] | rw [IntWalk.i64_in _ (by omega)]);exact ⟨rfl,Below.refl _ _⟩)
              | done
           case nextxd =>
           intro w11 hb11;have HB11:=Lib.hid ((HBI5.out.trans (hb11.mono HBI5.out.size)));have HBD:=Lib.hid (below_drewN HB11.out 1);have HOWD:=Lib.hid (ownsRow_below HOW5.out (below_drewN hb11 1));have hx11:=HX10.out.below hb11 HX10.out.lt;have q0:=hx11.cell 0 (v:=.int .i64 xo) rfl;have q1:=hx11.cell 1 (v:=.bool xd) rfl;have q2:=hx11.cell 2 (v:=.string xs) rfl;have e0:=HCM.out _ (HB10.out.trans (hb11.mono HB10.out.size));have hbm11:bm < w11.heap.size:=by have:=HB10.out.size;have:=hb11.size;omega
           have hxc11:=hx11.lt;have hqs:=HB11.out.size;clear hb11 hx11 hcase h1 h2;go_wp2_with fail;refine wp_text (by kernel_rfl) (by kernel_rfl) ?_;intro K hK;go_wp2_with (at_builtin;go_loud (refine wpList_append_own _ rfl _ _ 70 rfl w3.heap.size 76 ic (.agg #[.int .i64 0,.int .i64 0,.bool false,.string ⟨#[]⟩]) 4 40 Tryz.underlying70 hic hc0 hc1 hc2 rfl (by decide) _ Q.length _ rfl (HOWD.out.alloc _) ⟨w11.heap.size,0,none⟩ 1 1 (chgV ⟨n,⟨xo,xd,xs⟩⟩) rfl rfl (fun j y hy=>by rw [Addr.add_lit,Nat.zero_add];exact (cell_new _ _ _ _ j).trans (by simpa [chgV] using hy)) (by simp [chgV,Value.oneCell']) (by unfold maxLen;omega) (by omega) (by simp;omega) ?_);intro v' w12 hown' hgrow _);refine ⟨by simp [goodB,fits,plainPair,isSeqV,quiet,Act.eval],?_⟩;go_wp2_with fail;go_roundw
           case rel =>
            refine ⟨k + 1,by omega,by go_num,?_,below_push HBD.out HOWD.out hgrow⟩;rw [HOX.out true HH.out,HQ.out,cond_true,List.length_append,chgsV_append];exact hown'
           case measure=>first | (simp [intOf];done) | (simp [intOf];omega)
        ·have d2:decide (n ≤ to) = false:=decide_eq_false h2
         refine wp_env (fin:=?fnxb) (by kernel_rfl) [75,76,77,78,79,80,81,82,83,84,85,86,87,88,89,90,91,92,93,94,95,96,97,98,99,100,101]
          [.slice (some ⟨bm,om,none⟩) M.length cm,.int .i64 k,.pointer (some ⟨bm,om + k,none⟩),.int .i64 n,.int .i64 fr,.bool true,.bool true,.slice (some ⟨bm,om,none⟩) M.length cm,.int .i64 k,.pointer (some ⟨bm,om + k,none⟩),.int .i64 n,.int .i64 to,.bool false,.bool false,.bool false,undef,undef,undef,undef,undef,undef,undef,undef,undef,undef,undef,.bool false] (by kernel_rfl) ?finxb ?stepsxb ?nextxb
         case finxb =>
          simp only [putAll,Act.put,List.setIfInBounds_toArray,List.set_cons_succ,List.set_cons_zero]
          rfl
         case stepsxb =>
          refine ⟨?_,?_,?_,?_,?_,?_,?_,?_,?_,?_,?_,?_,?_,?_,?_,?_,?_,?_,?_,?_,?_,?_,?_,?_,?_,?_,?_,trivial⟩
          all_goals first | exact .inl ⟨by kernel_rfl,rfl⟩ | refine .inr ⟨by kernel_rfl,fun w1_ hB_=>?_⟩
          all_goals
           have hBw_:=HB10.out.trans (hB_.mono HB10.out.size);have hB6_:=HBQ4.out.trans (hBw_.mono HBQ4.out.size);have hxb_:=HXX.out.below (HBW.out.trans (hBw_.mono HBW.out.size)) HXX.out.lt;have x0_:=hxb_.cell 0 (v:=.string zn) rfl;have x1_:=hxb_.cell 1 (v:=.slice A l.length cA) rfl;have e0_:=HCM.out _ hBw_;have hxx_:=HX10.out.below hB_ HX10.out.lt;have q0_:=hxx_.cell 0 (v:=.int .i64 xo) rfl;have q1_:=hxx_.cell 1 (v:=.bool xd) rfl;have q2_:=hxx_.cell 2 (v:=.string xs) rfl;go_simp
           first
            | exact ⟨rfl,Below.refl _ _⟩
            | exact ⟨rfl,HAY.out _ hB6_⟩
            | ((first | rw [decide_eq_true (by omega)] | rw [decide_eq_false (by omega)] | rw [if_pos (by omega)] | rw [IntWalk.i64_in _ (by omega)]);exact ⟨rfl,Below.refl _ _⟩)
            | done
         case nextxb =>
         intro w11 hb11;have HB11:=Lib.hid (HBI5.out.trans (hb11.mono HBI5.out.size));have HOW6:=Lib.hid (ownsRow_below HOW5.out hb11);clear hb11;go_wp2_with fail;go_roundw
         case rel =>
          refine ⟨k + 1,by omega,by go_num,?_,HB11.out⟩;rw [HOX.out false (by rw [d1,d2];rfl),HQ.out,cond_false,List.append_nil];exact HOW6.out
         case measure=>first | (simp [intOf];done) | (simp [intOf];omega)
       ·have d1:decide (fr < n) = false:=decide_eq_false h1
        refine wp_env (fin:=?fnxa2) (by kernel_rfl) [75,76,77,78,79,80,81,82,83,84,85,86,87,88,89,90,91,92,93,94,95,96,97,98,99,100,101]
         [.slice (some ⟨bm,om,none⟩) M.length cm,.int .i64 k,.pointer (some ⟨bm,om + k,none⟩),.int .i64 n,.int .i64 fr,.bool false,.bool false,undef,undef,undef,undef,undef,undef,.bool false,.bool false,undef,undef,undef,undef,undef,undef,undef,undef,undef,undef,undef,.bool false] (by kernel_rfl) ?finxa2 ?stepsxa2 ?nextxa2
        case finxa2 =>
         simp only [putAll,Act.put,List.setIfInBounds_toArray,List.set_cons_succ,List.set_cons_zero]
         rfl
        case stepsxa2 =>
         refine ⟨?_,?_,?_,?_,?_,?_,?_,?_,?_,?_,?_,?_,?_,?_,?_,?_,?_,?_,?_,?_,?_,?_,?_,?_,?_,?_,?_,trivial⟩
         all_goals first | exact .inl ⟨by kernel_rfl,rfl⟩ | refine .inr ⟨by kernel_rfl,fun w1_ hB_=>?_⟩
         all_goals
          have hBw_:=HB10.out.trans (hB_.mono HB10.out.size);have hB6_:=HBQ4.out.trans (hBw_.mono HBQ4.out.size);have hxb_:=HXX.out.below (HBW.out.trans (hBw_.mono HBW.out.size)) HXX.out.lt;have x0_:=hxb_.cell 0 (v:=.string zn) rfl;have x1_:=hxb_.cell 1 (v:=.slice A l.length cA) rfl;have e0_:=HCM.out _ hBw_;have hxx_:=HX10.out.below hB_ HX10.out.lt;have q0_:=hxx_.cell 0 (v:=.int .i64 xo) rfl;have q1_:=hxx_.cell 1 (v:=.bool xd) rfl;have q2_:=hxx_.cell 2 (v:=.string xs) rfl;go_simp
          first
           | exact ⟨rfl,Below.refl _ _⟩
           | exact ⟨rfl,HAY.out _ hB6_⟩
           | ((first | rw [decide_eq_true (by omega)] | rw [decide_eq_false (by omega)] | rw [if_pos (by omega)] | rw [IntWalk.i64_in _ (by omega)]);exact ⟨rfl,Below.refl _ _⟩)
           | done
        case nextxa2 =>
        intro w11 hb11;have HB11:=Lib.hid (HBI5.out.trans (hb11.mono HBI5.out.size));have HOW6:=Lib.hid (ownsRow_below HOW5.out hb11);clear hb11;go_wp2_with fail;go_roundw
        case rel =>
         refine ⟨k + 1,by omega,by go_num,?_,HB11.out⟩;rw [HOX.out false (by rw [d1];rfl),HQ.out,cond_false,List.append_nil];exact HOW6.out
        case measure=>first | (simp [intOf];done) | (simp [intOf];omega)
      ·obtain rfl:k = M.length:=by omega
       have hd:decide ((M.length:Int) < (M.length:Int)) = false:=decide_eq_false (by omega);have hw3w:w.heap.size ≤ w3.heap.size:=(HB0.out.trans (HBL3.out.mono HB0.out.size)).size;have HQM:=Lib.hid (show outR S l R fr to M = Q by rw [← HQ.out,List.take_length]);go_wp2_with fail;go_ret;exact ⟨⟨_,M,rfl,by rw [HQM.out];exact own_base HOW.out hw3w,by rw [HQM.out];exact hQl,HRM.out,HAN.out⟩,HBQ4.out⟩
end
section -- HAll
open Go Go.RowKit Go.Shelf
end
section -- TSteps
open Go Go.RowKit Go.Shelf
attribute [local go_sem] Oper.semAt_some
end
section -- TChanges
open Go Go.RowKit Go.Shelf
attribute [local go_sem] Oper.semAt_some
end
section -- TMake
open Go Go.RowKit Go.Shelf
end
section -- TRise
open Go Go.RowKit
open Go Go.RowKit
end
section -- TSame
open Go Go.RowKit
end
section -- TAwake
open Go Go.RowKit Go.Shelf
end
section -- HLawM
open Go Go.RowKit Go.Shelf
end
section -- HRight
open Go Go.RowKit Go.Shelf
noncomputable def goodZ (l:List EraF) (S:List SetF):Bool:=fewB l S && decide (errZ S l = 0)
theorem good_iff {l:List EraF} {S:List SetF}:goodZ l S = true ↔ fewB l S = true∧errZ S l = 0:=by unfold goodZ;rw [Bool.and_eq_true,decide_eq_true_eq]
theorem few_okR {l:List EraF} {S:List SetF} (h:fewB l S = true):ZOk l S where
 fm:=fun x hx=>by have:=eraFew_fm ((fewB_iff.1 h).1 x hx);omega
 rul:=fun s hs=>right_ok ((fewB_iff.1 h).2.1 s hs)
 len:=by have:=(fewB_iff.1 h).2.2.1;omega
def RightPost (w:World) (l:List EraF) (S:List SetF) (o:Ending) (w':World):Prop :=
 (∃ u v,o = .returned (.tuple #[u,v,.bool (goodZ l S)])∧(goodZ l S = true→∃ R,RowsZ S l R∧RowsM w' u R∧Nums w' w'.heap.size v (endL S l)))∧Below w.heap.size w w'
theorem right14_any (w:World) (zn:ByteArray) (ev sv:Value) (B:Nat) (l:List EraF) (S:List SetF) (hz:ZW w B ev sv l S) (hfm:∀ x ∈ l,x.fm.size < 1152921504606846976) :
  Calls Tryz.prog 23 #[worldA zn ev sv] w (RightPost w l S):=by
 obtain ⟨i0,hi,hz0,hz1,hz2⟩:=info_parts infoInt;obtain ⟨A,cA,rfl,hlc,hcm⟩:=hz.eras.form;obtain ⟨A2,cS,rfl,hlc2,hcm2⟩:=hz.sets.form;unfold maxLen at hcm hcm2;obtain ⟨W0,hW0⟩:∃ W,(w.alloc (.cells #[.string zn,.slice A l.length cA,.slice A2 S.length cS] 27)) = W:=⟨_,rfl⟩;have hb0:Below w.heap.size w W0:=by rw [← hW0];exact (Below.refl w.heap.size w).alloc (Nat.le_refl _) _
 have HXX:=Lib.hid (show Blk W0 w.heap.size 27 #[.string zn,.slice A l.length cA,.slice A2 S.length cS] by rw [← hW0];exact Blk.new w _ _);have HZ0:=Lib.hid (hz.below hb0);have HF:=Lib.hid (few_any W0 zn _ _ B l S (HZ0.out.eras) (HZ0.out.sets) HZ0.out.le hfm);have HB0:=Lib.hid hb0;have HW0:=Lib.hid hW0;have hBw:=hz.le;clear hz hb0 hW0 hfm;unfold worldA at HF ⊢;go_enter Tryz.func23,Tryz.ntmps23;go_wp2_with fail;rw [HW0.out];try simp only [HW0.out]
 clear HW0
 cases hf:fewB l S with
 | false =>
   rw [hf] at HF;have HG:=Lib.hid (show goodZ l S = false by unfold goodZ;rw [hf];rfl);clear hf;refine HF.out.mono ?_;rintro o w1 ⟨rfl,hb⟩;have HB1:=Lib.hid (HB0.out.trans (hb.mono HB0.out.size));clear hb;go_wp2_with fail
   go_ret3
   exact ⟨⟨_,_,by rw [HG.out];rfl,fun h=>by rw [HG.out] at h;cases h⟩,HB1.out⟩
 | true =>
   rw [hf] at HF;have HFEW:=Lib.hid hf;have HFW:=Lib.hid (fewB_iff.1 hf);clear hf;refine HF.out.mono ?_;rintro o w1 ⟨rfl,hb⟩;have HBL:=Lib.hid hb;have HB1:=Lib.hid (HB0.out.trans (hb.mono HB0.out.size));have HCK:=Lib.hid (zcheckZ_any zn _ _ B l S w1 (HZ0.out.below hb) (few_okR HFEW.out));unfold setsV zoneA worldA at HCK;obtain ⟨E,hE⟩:∃ e,errZ S l = e:=⟨_,rfl⟩;rw [hE] at HCK;have HE:=Lib.hid hE;have hxb:=HXX.out.below (HBL.out) HXX.out.lt;have x0:=hxb.cell 0 (v:=.string zn) rfl;have x1:=hxb.cell 1 (v:=.slice A l.length cA) rfl;have x2:=hxb.cell 2 (v:=.slice A2 S.length cS) rfl;have hxl:=hxb.lt;clear hxb;clear hb HF hE
   by_cases hE0:E = 0
   ·subst hE0;have HG:=Lib.hid (show goodZ l S = true from good_iff.2 ⟨HFEW.out,HE.out⟩);have hl1:0 < l.length:=by have:=(errZ_zero HE.out).1;omega
    have hl4:l.length ≤ 4:=HFW.out.2.2.1;have hn0:((l.length:Int) == 0) = false:=beq_eq_false_iff_ne.2 (by omega);have hn1:(l.length == 0) = false:=beq_eq_false_iff_ne.2 (by omega);go_wp2_with fail;refine HCK.out.mono ?_;rintro o w2 ⟨rfl,hb⟩;have HBL2:=Lib.hid (HBL.out.trans (hb.mono HBL.out.size));have HB2:=Lib.hid (HB1.out.trans (hb.mono HB1.out.size));have HRW:=Lib.hid (rows_any zn _ _ B l S w2 (HZ0.out.below HBL2.out) HFW.out.2.1 (by omega));unfold worldA RowsPost at HRW;clear hb x0 x1 x2 hxl HCK;have hxb:=HXX.out.below (HBL2.out) HXX.out.lt;have x0:=hxb.cell 0 (v:=.string zn) rfl;have x1:=hxb.cell 1 (v:=.slice A l.length cA) rfl;have x2:=hxb.cell 2 (v:=.slice A2 S.length cS) rfl;have hxl:=hxb.lt;clear hxb;go_wp2_with fail;refine HRW.out.mono ?_;rintro o w3 ⟨⟨u,R,rfl,hRl,hRok,hRm⟩,hb⟩;have HBL3:=Lib.hid (HBL2.out.trans (hb.mono HBL2.out.size));have HB3:=Lib.hid (HB2.out.trans (hb.mono HB2.out.size));have HRL:=Lib.hid hRl;have HRO:=Lib.hid hRok;have HRM:=Lib.hid hRm;obtain ⟨A3,c3,rfl,-,-⟩:=hRm.form;clear hb hRl hRok hRm x0 x1 x2 hxl HRW;go_wp2_with fail
    go_loopw [6,7] (fun u iv wr=>∃ k:Nat,k ≤ l.length - 1∧iv = .int .i64 k∧wr.ownsRow w3.heap.size 3 1 u k (intsV ((endL S l).take k))∧Below w3.heap.size w3 wr) (fun _ iv _=>l.length - (intOf iv).toNat)
    case atStart=>exact ⟨0,Nat.zero_le _,rfl,World.ownsRow_nil _ _ _ _,Below.refl _ _⟩
    case round =>
     obtain ⟨k,hk,rfl,hown,hbw⟩:=hrel;have HOW:=Lib.hid hown;have HBW3:=Lib.hid hbw;have HBLW:=Lib.hid (HBL3.out.trans (hbw.mono HBL3.out.size));have hxb:=HXX.out.below (HBLW.out) HXX.out.lt;have x0:=hxb.cell 0 (v:=.string zn) rfl;have x1:=hxb.cell 1 (v:=.slice A l.length cA) rfl;have x2:=hxb.cell 2 (v:=.slice A2 S.length cS) rfl;have hxl:=hxb.lt;clear hxb;have HZ4:=Lib.hid (HZ0.out.below HBLW.out);have HRM4:=Lib.hid (HRM.out.below hbw);obtain ⟨A5,c5,hu,-,-⟩:=Sl.of_own hown;subst hu;clear hown hbw
     by_cases hlt:k + 1 < l.length
     ·have hd:decide ((k:Int) + 1 < (l.length:Int)) = true:=decide_eq_true (by omega);have hlk:k < l.length:=by omega
      have hRlk:k < R.length:=by rw [HRL.out];exact hlk
      obtain ⟨bb,o,c',e,hbb,hc⟩:=HZ4.out.eras.cells (by omega)
      cases e
      have hx:=hc k hlk;obtain ⟨br,orr,cr',e,hbr,hcr⟩:=HRM4.out.cells (by omega)
      cases e
      obtain ⟨rc0,rc1⟩:=hcr k hRlk;have hdr:decide (k < R.length) = true:=decide_eq_true hRlk;have hrok:=HRO.out k hRlk hlk;have hrm:FrisN w3 R[k].v R[k].D:=HRM.out.2 _ (List.getElem_mem hRlk);have her:=(errZ_zero HE.out).2.2.1 k hlk;rw [errAt_eq hlk,decide_eq_false (by omega)] at her;have hen:=endL_get (S:=S) (l:=l) (i:=k) hlt;have hfx:=HFW.out.1 _ (List.getElem_mem hlk)
      have htk:(endL S l).take (k + 1) = (endL S l).take k ++ [(endL S l).getD k 0]:=by
       have h9:k < (endL S l).length:=by rw [length_endL];omega
       rw [List.take_succ_eq_append_getElem h9,List.getD_eq_getElem?_getD,List.getElem?_eq_getElem h9]
       rfl
      obtain ⟨x,hxk⟩:∃ x,l[k] = x:=⟨_,rfl⟩;obtain ⟨r,hrk⟩:∃ r,R[k] = r:=⟨_,rfl⟩;rw [hxk] at hx her hen hfx hrok;rw [hrk] at rc0 rc1 hrok hrm;obtain ⟨-,hof,hsf,hee,-,hnb⟩:=errE_zero her;have hee2:x.en = true:=hee;have hek:=eraFew_end hfx hee2;have hkin:0 ≤ x.n.ak∧x.n.ak ≤ 2:=by have:=nomV_in (hnb hee2);omega
      have hrb:rnomB x.n = true:=by rw [← hek.nomB_eq hkin];exact hnb hee2
      have hEQ:=end_eq (ru:=x.ru) hrok.right hof hek hrb;rw [hEQ] at hen;have hbd4:=below_drewN HBW3.out 1;have HRD:=Lib.hid (rend_any (wr.drewN 1) x.n x.ru x.fm true w3.heap.size r.v r.D r.letter (hrm.1.below hbd4) hbd4.size hrok.len hrok.bd hek (by omega) (by omega));obtain ⟨A9,c9,hv9,-,-⟩:=hrm.1.form;rw [hv9] at HRD rc0;rw [← hen] at HRD;unfold eraA at HRD;obtain ⟨ek,hekv⟩:∃ z,(endL S l).getD k 0 = z:=⟨_,rfl⟩;rw [hekv] at HRD htk;have HTK:=Lib.hid htk;have HBD4:=Lib.hid hbd4;obtain ⟨c0,c1,c2,c3,c4,c5,c6,c7,c8,c9,c10,c11⟩:=hx;rw [hee2] at c4;have hul:=HOW.out.lt;clear hc hcr hxk hrk hrok hrm her hen hfx hof hsf hee hee2 hnb hek hrb hEQ hbd4 hekv htk hv9;go_wp2_with fail;refine wp_text (by kernel_rfl) (by kernel_rfl) ?_;intro K hK;go_wp2_with fail;refine HRD.out.mono ?_;rintro o w5 ⟨rfl,hb⟩;have HB5:=Lib.hid (HBD4.out.trans (hb.mono HBD4.out.size));have HOW5:=Lib.hid (ownsRow_below HOW.out ((below_drewN (Below.refl wr.heap.size wr) 1).trans hb));clear hb;go_wp2_with ((at_builtin;refine wpList_append_own _ rfl _ _ 28 rfl (w3.heap.size) 3 i0 (.int .i64 0) 1 8 Tryz.underlying28 hi hz0 hz1 hz2 rfl (by decide) _ _ _ rfl (HOW5.out.alloc _) ⟨w5.heap.size,0,none⟩ 1 1 [.int .i64 ek] rfl rfl (cell_one_new _ _ _) (by simp [Value.oneCell']) (by unfold maxLen;omega) (by omega) (by have:=HB5.out.size;simp <;> omega) ?_;intro v' w1 hown' hgrow _));refine ⟨by simp [goodB,fits,plainPair,isSeqV,quiet,Act.eval],?_⟩;go_wp2_with fail;go_roundw
      case rel =>
       refine ⟨k + 1,by omega,by go_num,?_,below_push HB5.out HOW5.out hgrow⟩;rw [HTK.out,intsV_append];exact hown'
      case measure=>first | (simp [intOf];done) | (simp [intOf];omega)
     ·obtain rfl:k = l.length - 1:=by omega
      have hd:decide (((l.length - 1:Nat):Int) + 1 < (l.length:Int)) = false:=decide_eq_false (by omega)
      have HOE:=Lib.hid (show Nums wr wr.heap.size (.slice A5 (l.length - 1) c5) (endL S l) by
       have h:=Sl.of_own HOW.out
       rw [List.take_of_length_le (by rw [length_endL];exact Nat.le_refl _)] at h
       unfold Nums
       rw [length_endL]
       exact h)
      have HB4:=Lib.hid (HB3.out.trans (HBW3.out.mono HB3.out.size));go_wp2_with fail
      go_ret3
      exact ⟨⟨_,_,by rw [HG.out];rfl,fun _=>⟨R,⟨HRL.out,HRO.out⟩,HRM4.out,HOE.out⟩⟩,HB4.out⟩
   ·have hne:(E != 0) = true:=by simpa using hE0
    have HG:=Lib.hid (show goodZ l S = false by
     cases hg:goodZ l S with
     | false=>rfl
     | true=>exact absurd (HE.out.symm.trans (good_iff.1 hg).2) hE0)
    go_wp2_with fail;refine HCK.out.mono ?_;rintro o w2 ⟨rfl,hb⟩;have HB2:=Lib.hid (HB1.out.trans (hb.mono HB1.out.size));clear hb HCK;go_wp2_with fail
    go_ret3
    exact ⟨⟨_,_,by rw [HG.out];rfl,fun h=>by rw [HG.out] at h;cases h⟩,HB2.out⟩
end
section -- FTellM
open Go Go.RowKit Go.Shelf
theorem tryY_congr {r:Rul} {st:Int} {m1 m2:Fir→Bool}:∀ {n:Nat} {y:Int},(∀ j:Nat,j < n→ofB r (y + st * j) = true→m1 (firOf r (y + st * j)) = m2 (firOf r (y + st * j)))→tryY r st m1 n y = tryY r st m2 n y
 | 0,_,_=>rfl
 | n + 1,y,h=>by
   have h0:=h 0 (by omega)
   have hn:=tryY_congr (r:=r) (st:=st) (m1:=m1) (m2:=m2) (n:=n) (y:=y + st) (fun j hj=>by
    have:=h (j + 1) (by omega)
    rw [show y + st * ((j + 1:Nat):Int) = y + st + st * (j:Int) by push_cast;rw [Int.mul_add];omega] at this
    exact this)
   rw [show y + st * ((0:Nat):Int) = y by simp] at h0;unfold tryY
   cases ho:ofB r y with
   | false=>simpa using hn
   | true =>
     rw [h0 ho]
     cases m2 (firOf r y) with
     | true=>rfl
     | false=>simpa using hn
theorem tryY_never {r:Rul} (h:∀ y,ofB r y = false) (st:Int) (m:Fir→Bool):∀ (n:Nat) (y:Int),tryY r st m n y = none
 | 0,_=>rfl
 | n + 1,y=>by
   unfold tryY;rw [h y,Bool.false_and,if_neg (by decide)];exact tryY_never h st m n _
theorem never_fires {r:Rul} (h:firesB r = false) (y:Int):ofB r y = false:=by
 cases ho:ofB r y with
 | false=>rfl
 | true =>
   exfalso;obtain ⟨-,-,m1,m2,-,-,-,hd,-⟩:=of_month ho;unfold firesB at h;rw [Bool.or_eq_false_iff,Bool.or_eq_false_iff] at h;have h2:=of_decide_eq_false h.2.2;unfold longV at h2;rw [if_pos (by unfold ymB;rw [decide_eq_true_eq];omega)] at h2;simp only at h2;have e1:=leapsV_in y;have e2:leapsV 2000 = 1:=by decide
   unfold lenV at hd h2;rw [e2] at h2
   split at hd <;> simp_all <;> omega
theorem pickV_filter {p:Rul→Bool} {yr:Rul→Int} {st:Int} {b:Fir→Fir→Bool} {m:Fir→Bool}:∀ (l:List Rul),(∀ r ∈ l,p r = false→tryY r st m 12 (yr r) = none)→pickV (l.filter p) yr st b m = pickV l yr st b m:=by
 have main:∀ (l:List Rul) (o:Option Fir),(∀ r ∈ l,p r = false→tryY r st m 12 (yr r) = none)→(l.filter p).foldl (fun o r=>pickS b o (tryY r st m 12 (yr r))) o = l.foldl (fun o r=>pickS b o (tryY r st m 12 (yr r))) o:=by
  intro l
  induction l with
  | nil=>exact fun o _=>rfl
  | cons r l ih =>
    intro o h;have hl:=fun x hx=>h x (List.mem_cons_of_mem _ hx)
    cases hp:p r with
    | true=>rw [List.filter_cons,hp,if_pos rfl];exact ih _ hl
    | false =>
      rw [List.filter_cons,hp,if_neg (by decide),List.foldl_cons,h r (by simp) hp];exact ih _ hl
 exact fun l h=>main l none h
theorem pickV_congr {yr yr':Rul→Int} {st:Int} {b:Fir→Fir→Bool} {m m':Fir→Bool}:∀ (l:List Rul),(∀ r ∈ l,tryY r st m 12 (yr r) = tryY r st m' 12 (yr' r))→pickV l yr st b m = pickV l yr' st b m':=by
 have main:∀ (l:List Rul) (o:Option Fir),(∀ r ∈ l,tryY r st m 12 (yr r) = tryY r st m' 12 (yr' r))→l.foldl (fun o r=>pickS b o (tryY r st m 12 (yr r))) o = l.foldl (fun o r=>pickS b o (tryY r st m' 12 (yr' r))) o:=by
  intro l
  induction l with
  | nil=>exact fun o _=>rfl
  | cons r l ih =>
    intro o h;rw [List.foldl_cons,List.foldl_cons,h r (by simp)];exact ih _ (fun x hx=>h x (List.mem_cons_of_mem _ hx))
 exact fun l h=>main l none h
theorem ahead_filter (all:List Rul) (s:Int):aheadF (all.filter firesB) s = aheadF all s :=
 pickV_filter all fun _ _ hp=>tryY_never (never_fires hp) _ _ _ _
theorem saved_filter (all:List Rul) (f:Fir):savedF (all.filter firesB) f = savedF all f:=by
 unfold savedF;rw [ahead_filter]
theorem under_cap {r:Rul} {y:Int} (h:ofB r y = true) (hr:r.to_ ≤ 2105):(firOf r y).nominal < capN:=by
 obtain ⟨-,-,-,-,-,h2,-⟩:=of_month h;have h1:=(firOf_in h).2;have e1:=yearV_mono (show y + 1 ≤ 2106 by omega);have e2:yearV 2106 = 49673:=by decide
 unfold capN;omega
theorem sec_cap:secYear capN = 2110:=by decide
theorem sec_far:secYear 2199023435553 = 71654:=by decide
theorem ahead_far {l:List Rul} (hend:∀ r ∈ l,r.to_ ≤ 2105):aheadF l 2199023435553 = aheadF l capN:=by
 unfold aheadF;rw [sec_cap,sec_far];refine pickV_congr l fun r hr=>?_
 have h1:=hend r hr;rw [show min r.to_ (71654 + 1) = r.to_ by omega,show min r.to_ (2110 + 1) = r.to_ by omega];refine tryY_congr fun j _ ho=>?_
 have h2:=under_cap ho h1;unfold underB;rw [decide_eq_true h2,decide_eq_true (by unfold capN at h2;omega)]
theorem latest_ended {all:List Rul} {A:List Fir} (h:RightR all A) {off:Int} (ho:-90000 < off∧off < 90000) (hend:∀ r ∈ all.filter firesB,r.to_ ≤ 2105) :
  latestF (all.filter firesB) off 2199023255552 = prevO A A.length∧∀ f ∈ A,f.nominal < capN:=by
 have hcap:∀ f ∈ A,f.nominal < capN:=fun f hf=>by
  obtain ⟨r,hr,y,-,-,hy,rfl⟩:=(h.mem f).1 hf;refine under_cap hy (hend r (List.mem_filter.2 ⟨hr,?_⟩))
  cases hb:firesB r with
  | true=>rfl
  | false=>rw [never_fires hb y] at hy;cases hy
 refine ⟨?_,hcap⟩
 have hc:Cut A (nomA A) capN A.length:=⟨Nat.le_refl _,fun j hj=>by
  rw [nomA_at hj]
  exact ⟨fun _=>hcap _ (List.getElem_mem hj),fun _=>hj⟩⟩
 unfold latestF;rw [show (2199023255552:Int) + 180001 = 2199023435553 from rfl,ahead_far hend,ahead_filter,ahead_row h hc (by decide) (Int.le_refl _)];obtain ⟨n,hn⟩:∃ n,((2199023435553:Int) + farN).toNat = n + 1:=⟨7199023435552,by decide⟩;rw [hn]
 rcases Nat.eq_zero_or_pos A.length with h0 | h0
 ·rw [h0,prevO_zero]
  rfl
 ·obtain ⟨k,hk⟩:∃ k,A.length = k + 1:=⟨A.length - 1,by omega⟩;rw [hk,prevO_succ (by omega)];unfold backF;have h1:=instF_in (f:=A[k]) ho (h.saved A[k]);have h2:=hcap A[k] (List.getElem_mem _);rw [saved_filter,if_neg (by unfold capN at h2;omega)]
noncomputable def refOf (x:EraF) (b:Int) (all:List Rul) (A:List Fir):Foot :=
 if x.ru.size = 0 then ⟨b,x.n.off,x.n.save,⟨#[]⟩,x.fm,[]⟩
 else if 0 < ((all.filter firesB).filter endlB).length then ⟨max b (settledV (all.filter firesB)),x.n.off,0,⟨#[]⟩,x.fm,(all.filter firesB).filter endlB⟩
 else match prevO A A.length with
  | none=>⟨b,x.n.off,0,letV all,x.fm,[]⟩
  | some f=>⟨max b (instA A x.n.off (A.length - 1)),x.n.off,f.save,f.letter,x.fm,[]⟩
theorem footOf_ref {x:EraF} {b:Int} {all:List Rul} {A:List Fir} (h:RightR all A) (ho:-90000 < x.n.off∧x.n.off < 90000) (hend:∀ r ∈ all,r.to_ ≤ 2105∨1048576 ≤ r.to_):footOf x b all = refOf x b all A:=by
 unfold footOf refOf
 split
 ·rfl
 ·split
  ·rfl
  ·rename_i hne
   have hen:∀ r ∈ all.filter firesB,r.to_ ≤ 2105:=fun r hr=>by
    rcases hend r (List.mem_filter.1 hr).1 with h1 | h1
    ·exact h1
    ·exfalso;apply hne;refine List.length_pos_of_mem (a:=r) (List.mem_filter.2 ⟨hr,?_⟩);unfold endlB;exact decide_eq_true h1
   obtain ⟨h1,h2⟩:=latest_ended h ho hen;rw [h1]
   rcases Nat.eq_zero_or_pos A.length with h0 | h0
   ·rw [h0,prevO_zero]
   ·obtain ⟨k,hk⟩:∃ k,A.length = k + 1:=⟨A.length - 1,by omega⟩;have hkl:k < A.length:=by omega
    have h3:=h2 A[k] (List.getElem_mem _);have h4:=saved_row h hkl (by omega) (h.low (List.getElem_mem _));rw [show A.length - 1 = k by omega,instA_at hkl,← h4,← saved_filter];rw [hk,prevO_succ hkl]
end
section -- FTellW
open Go Go.RowKit Go.Shelf
end
section -- FTellX
open Go Go.RowKit Go.Shelf
end
section -- FTellY
open Go Go.RowKit Go.Shelf
end
section -- FTellZ
open Go Go.RowKit Go.Shelf
def endR (r:Rul):Bool:=!(decide (2105 < r.to_) && decide (r.to_ < 1048576))
def endedB (S:List SetF):Bool:=S.all fun s=>s.l.all endR
theorem ended_no {S:List SetF} {k j:Nat} (hk:k < S.length) (hj:j < S[k].l.length) (h:endR S[k].l[j] = false):endedB S = false:=by
 unfold endedB;rw [List.all_eq_false];refine ⟨S[k],List.getElem_mem hk,?_⟩;rw [Bool.not_eq_true,List.all_eq_false];exact ⟨S[k].l[j],List.getElem_mem hj,by rw [h];decide⟩
theorem ended_yes {S:List SetF} (h:∀ k (hk:k < S.length),∀ j (hj:j < S[k].l.length),endR S[k].l[j] = true):endedB S = true:=by
 unfold endedB;rw [List.all_eq_true];intro s hs;obtain ⟨k,hk,rfl⟩:=List.getElem_of_mem hs;rw [List.all_eq_true];intro r hr;obtain ⟨j,hj,rfl⟩:=List.getElem_of_mem hr;exact h k hk j hj
theorem endR_iff {r:Rul}:endR r = true ↔ r.to_ ≤ 2105∨1048576 ≤ r.to_:=by
 unfold endR;rw [Bool.not_eq_true',Bool.and_eq_false_iff,decide_eq_false_iff_not,decide_eq_false_iff_not];omega
theorem ended_rules {S:List SetF} (h:endedB S = true) (name:ByteArray):∀ r ∈ ofRul S name,r.to_ ≤ 2105∨1048576 ≤ r.to_:=by
 unfold ofRul
 cases hs:ofS S name with
 | none=>exact fun r hr=>(by cases hr)
 | some s =>
   intro r hr;unfold endedB at h;rw [List.all_eq_true] at h;have h1:=h s (List.mem_of_find?_eq_some hs);rw [List.all_eq_true] at h1;exact endR_iff.1 (h1 r hr)
theorem ended_any (w:World) (zn:ByteArray) (ev sv:Value) (B:Nat) (S:List SetF) (hs:SetsR w B sv S) (hB:B ≤ w.heap.size) (hl:∀ s ∈ S,s.l.length ≤ 100000) :
  Calls Tryz.prog 20 #[worldA zn ev sv] w fun o w'=>o = .returned (.bool (endedB S))∧Below w.heap.size w w':=by
 obtain ⟨A2,cS,rfl,hlc,hcm⟩:=hs.form;unfold maxLen at hcm;obtain ⟨W0,hW0⟩:∃ W,w.alloc (.cells #[.string zn,ev,.slice A2 S.length cS] 27) = W:=⟨_,rfl⟩;have hb0:Below w.heap.size w W0:=by rw [← hW0];exact (Below.refl w.heap.size w).alloc (Nat.le_refl _) _
 have hx0:Blk W0 w.heap.size 27 #[.string zn,ev,.slice A2 S.length cS]:=by rw [← hW0];exact Blk.new w _ _
 have HX:=Lib.hid hx0;have HB0:=Lib.hid hb0;have HS:=Lib.hid (hs.below (hb0.mono hB));have HLN:=Lib.hid (fun k (hk:k < S.length)=>hl S[k] (List.getElem_mem hk));have hsz:=hb0.size;have HW0:=Lib.hid hW0;clear hs hl hb0 hx0 hW0;unfold worldA;go_enter Tryz.func20,Tryz.ntmps20;go_wp2_with fail;rw [HW0.out];try simp only [HW0.out]
 clear HW0
 go_loopw [3] (fun iv wr=>∃ k:Nat,k ≤ S.length∧iv = .int .i64 k∧(∀ i (h:i < S.length),i < k→∀ j (hj:j < S[i].l.length),endR S[i].l[j] = true)∧Below W0.heap.size W0 wr) (fun iv _=>S.length - (intOf iv).toNat)
 case atStart=>exact ⟨0,Nat.zero_le _,rfl,fun i _ h=>absurd h (by omega),Below.refl _ _⟩
 case round =>
  obtain ⟨k,hk,rfl,hno,hb⟩:=hrel;have HNO:=Lib.hid hno;have HB:=Lib.hid hb;have hws:=hb.size;have HXR:=Lib.hid (HX.out.below hb HX.out.lt);clear hno hb
  by_cases hlt:k < S.length
  ·have hd:decide ((k:Int) < (S.length:Int)) = true:=decide_eq_true (by omega);obtain ⟨bs,os,c',e,hbs,hc⟩:=(HS.out.below (HB.out.mono (by omega))).cells (by omega)
   cases e
   obtain ⟨s0,s1⟩:=hc k hlt;have HSK:=Lib.hid (fun (W:World) (h:Below W0.heap.size W0 W)=>(HS.out.below (h.mono (by omega))).2 S[k] (List.getElem_mem hlt));have hln:=HLN.out k hlt;have HBAD:=Lib.hid (fun j (hj:j < S[k].l.length) (h:endR S[k].l[j] = false)=>ended_no hlt hj h)
   have HNX:=Lib.hid (fun (h:∀ j (hj:j < S[k].l.length),endR S[k].l[j] = true)=>show ∀ i (hi:i < S.length),i < k + 1→∀ j (hj:j < S[i].l.length),endR S[i].l[j] = true from fun i hi hik=>by
    rcases Nat.lt_or_ge i k with g | g
    ·exact HNO.out i hi g
    ·obtain rfl:i = k:=by omega
     exact h)
   have HSC:=Lib.hid (fun (W:World) (h:Below W0.heap.size W0 W)=>show W.cell? ⟨bs,os + k * 2 + 1,none⟩ = some S[k].v by
    obtain ⟨_,_,_,e,-,hc⟩:=(HS.out.below (h.mono (by omega))).cells (by omega)
    cases e
    exact (hc k hlt).2)
   obtain ⟨s,hsk⟩:∃ s,S[k] = s:=⟨_,rfl⟩;rw [hsk] at s0 s1 HSK hln HBAD HNX HSC;obtain ⟨⟨sn,svl,sl⟩,rfl⟩:∃ t,s = t:=⟨_,rfl⟩;obtain ⟨As,cs,hsv,-,-⟩:=(HSK.out _ HB.out).form;simp only at s0 s1 HSK hln HBAD HNX HSC hsv;subst hsv;clear hc hsk;have x0:=HXR.out.cell 0 (v:=.string zn) rfl;have x1:=HXR.out.cell 1 (v:=ev) rfl;have x2:=HXR.out.cell 2 (v:=.slice (some ⟨bs,os,none⟩) S.length cS) rfl;have xl:=HXR.out.lt;go_wp2_with fail;clear x0 x1 x2 xl
   go_loopw [4] (fun jv wi=>∃ j:Nat,j ≤ sl.length∧jv = .int .i64 j∧(∀ i (h:i < sl.length),i < j→endR sl[i] = true)∧Below W0.heap.size W0 wi) (fun jv _=>sl.length - (intOf jv).toNat)
   case atStart=>exact ⟨0,Nat.zero_le _,rfl,fun i _ h=>absurd h (by omega),HB.out⟩
   case round =>
    obtain ⟨j,hj,rfl,hno,hb⟩:=hrel;have HNJ:=Lib.hid hno;have HBI:=Lib.hid hb;have hwi:=hb.size;have HXI:=Lib.hid (HX.out.below hb HX.out.lt);have s1:=HSC.out _ hb;have x0:=HXI.out.cell 0 (v:=.string zn) rfl;have x1:=HXI.out.cell 1 (v:=ev) rfl;have x2:=HXI.out.cell 2 (v:=.slice (some ⟨bs,os,none⟩) S.length cS) rfl;have xl:=HXI.out.lt;clear hno hb
    by_cases hjl:j < sl.length
    ·have hdj:decide ((j:Int) < (sl.length:Int)) = true:=decide_eq_true (by omega);obtain ⟨bb,o,c',e,hbb,hc⟩:=(HSK.out _ HBI.out).cells (by omega)
     cases e
     obtain ⟨a0,a1,a2,a3,a4,a5,a6,a7,a8,a9,a10⟩:=hc j hjl;have HBJ:=Lib.hid (HBAD.out j hjl)
     have HNR:=Lib.hid (fun (h:endR sl[j] = true)=>show ∀ i (hi:i < sl.length),i < j + 1→endR sl[i] = true from fun i hi hij=>by
      rcases Nat.lt_or_ge i j with g | g
      ·exact HNJ.out i hi g
      ·obtain rfl:i = j:=by omega
       exact h)
     obtain ⟨r,hr⟩:∃ r,sl[j] = r:=⟨_,rfl⟩;rw [hr] at a0 a1 a2 a3 a4 a5 a6 a7 a8 a9 a10 HBJ HNR;clear hc hr a0 a1 a3 a4 a5 a6 a7 a8 a9 a10
     by_cases h1:2105 < r.to_
     ·have d1:decide (2105 < r.to_) = true:=decide_eq_true h1
      by_cases h2:r.to_ < 1048576
      ·have d2:decide (r.to_ < 1048576) = true:=decide_eq_true h2;have HV:=Lib.hid (HBJ.out (by unfold endR;rw [d1,d2];rfl));go_wp2_with fail;go_ret;exact ⟨by rw [HV.out];rfl,HB0.out.trans (HBI.out.mono hsz)⟩
      ·have d2:decide (r.to_ < 1048576) = false:=decide_eq_false h2;have HER:=Lib.hid (show endR r = true by unfold endR;rw [d1,d2];rfl);go_wp2_with fail;go_roundw
       case rel=>exact ⟨j + 1,by omega,by go_num,HNR.out HER.out,HBI.out⟩
       case measure=>simp [intOf];omega
     ·have d1:decide (2105 < r.to_) = false:=decide_eq_false h1;have HER:=Lib.hid (show endR r = true by unfold endR;rw [d1];rfl);go_wp2_with fail;go_roundw
      case rel=>exact ⟨j + 1,by omega,by go_num,HNR.out HER.out,HBI.out⟩
      case measure=>simp [intOf];omega
    ·have hdj:decide ((j:Int) < (sl.length:Int)) = false:=decide_eq_false (by omega);have HALL:=Lib.hid (HNX.out fun i hi=>HNJ.out i hi (by omega));go_wp2_with fail;go_roundw
     case rel=>exact ⟨k + 1,by omega,by go_num,HALL.out,HBI.out⟩
     case measure=>simp [intOf];omega
  ·have hd:decide ((k:Int) < (S.length:Int)) = false:=decide_eq_false (by omega);have HV:=Lib.hid (ended_yes fun i hi j hj=>HNO.out i hi (by omega) j hj);have x0:=HXR.out.cell 0 (v:=.string zn) rfl;have x1:=HXR.out.cell 1 (v:=ev) rfl;have x2:=HXR.out.cell 2 rfl;have xl:=HXR.out.lt;go_wp2_with fail;go_ret;exact ⟨by rw [HV.out];rfl,HB0.out.trans (HB.out.mono hsz)⟩
end
section -- GRow
open Go Go.RowKit Go.Shelf
def capG:Int:=2304634636800
structure RightG (l:List Rul) (A:List Fir):Prop where
 small:∀ r ∈ l,1890 ≤ r.from_∧r.from_ ≤ 2100
 mem:∀ f,f ∈ A ↔ ∃ r ∈ l,∃ y,1890 ≤ y∧y ≤ 75000∧ofB r y = true∧f = firOf r y
 save:∀ f ∈ A,-90000 < f.save∧f.save < 90000
 kind:∀ f ∈ A,0 ≤ f.kind∧f.kind ≤ 2
 gap:∀ i (h:i + 1 < A.length),A[i].nominal + 180000 < A[i + 1].nominal
section
variable {l:List Rul} {A:List Fir}
theorem RightG.ok (h:RightG l A):∀ r ∈ l,okR r:=fun r hr=>by have:=h.small r hr;unfold okR;omega
theorem RightG.lt (h:RightG l A):∀ (d i:Nat) (hj:i + d + 1 < A.length),A[i].nominal + 180000 < A[i + d + 1].nominal
 | 0,i,hj=>h.gap i hj
 | d + 1,i,hj=>by
   have h1:=h.lt d i (by omega);have h2:=h.gap (i + d + 1) (by omega);have e:A[i + (d + 1) + 1] = A[i + d + 1 + 1]:=rfl;rw [e];omega
theorem RightG.rise (h:RightG l A) {i j:Nat} (hij:i < j) (hj:j < A.length):A[i].nominal + 180000 < A[j].nominal:=by
 obtain ⟨d,rfl⟩:∃ d,j = i + d + 1:=⟨j - i - 1,by omega⟩;exact h.lt d i hj
theorem capG_eq:capG = 86400 * yearV 75001 - 1123200:=by decide
theorem RightG.fires (h:RightG l A) {f:Fir} (hf:f ∈ A):Fires l f:=by
 obtain ⟨r,hr,y,-,-,hy,rfl⟩:=(h.mem f).1 hf;exact ⟨r,hr,y,hy,rfl⟩
theorem RightG.near (h:RightG l A) {f:Fir} (hf:Fires l f) (hn:f.nominal < capG):f ∈ A:=by
 obtain ⟨r,hr,y,hy,rfl⟩:=hf;have hs:=h.small r hr;obtain ⟨-,-,-,-,h1,-⟩:=of_month hy;refine (h.mem _).2 ⟨r,hr,y,by omega,?_,hy,rfl⟩
 by_cases hc:y ≤ 75000
 ·exact hc
 ·have e:=yearV_mono (show 75001 ≤ y by omega);have g:=(firOf_in hy).1;rw [capG_eq] at hn;omega
theorem RightG.cut (h:RightG l A) (s:Int):∃ k,Cut A (nomA A) s k:=cut_some (fun i j hij hj=>by rw [nomA_at (by omega),nomA_at hj];have:=h.rise hij hj;omega) s
theorem ahead_rowG (h:RightG l A) {s:Int} {k:Nat} (hc:Cut A (nomA A) s k) (h1:-3217862419200 ≤ s) (h2:s ≤ capG):aheadF l s = prevO A k:=by
 have hb:=ahead_best h1 (show s ≤ 2500000000000 by unfold capG at h2;omega) h.ok;have hm:∀ j (hj:j < A.length),j < k ↔ A[j].nominal < s:=fun j hj=>by rw [hc.2 j hj,nomA_at hj]
 cases ho:aheadF l s with
 | none =>
   rcases k with _ | k
   ·rfl
   ·exfalso;have hk:k < A.length:=by have:=hc.1;omega
    have:=hb.none ho A[k] (h.fires (List.getElem_mem hk));unfold underB at this;rw [decide_eq_false_iff_not] at this;exact this ((hm k hk).1 (by omega))
 | some f =>
   obtain ⟨a1,a2,a3⟩:=hb.some f ho;unfold underB at a2;rw [decide_eq_true_eq] at a2;have hfA:=h.near a1 (by omega);obtain ⟨j,hj,rfl⟩:=List.getElem_of_mem hfA;have hjk:=(hm j hj).2 a2;obtain ⟨k,rfl⟩:∃ m,k = m + 1:=⟨k - 1,by omega⟩;have hk:k < A.length:=by have:=hc.1;omega
   have hle:=a3 A[k] (h.fires (List.getElem_mem hk)) (by unfold underB;rw [decide_eq_true_eq];exact (hm k hk).1 (by omega));rw [prevO_succ hk]
   by_cases e:j = k
   ·subst e;rfl
   ·have:=h.rise (show j < k by omega) hk;omega
theorem behind_rowG (h:RightG l A) {s:Int} {k:Nat} (hc:Cut A (nomA A) s k) (h1:-3217862419200 ≤ s) (h2:s ≤ capG) (hk:k < A.length) (hcap:A[k].nominal < capG):behindF l s = some A[k]:=by
 have hb:=behind_best h1 (show s ≤ 2500000000000 by unfold capG at h2;omega) h.ok;have hm:∀ j (hj:j < A.length),j < k ↔ A[j].nominal < s:=fun j hj=>by rw [hc.2 j hj,nomA_at hj]
 have hks:s ≤ A[k].nominal:=by have:=hm k hk;omega
 cases ho:behindF l s with
 | none =>
   exfalso;have:=hb.none ho A[k] (h.fires (List.getElem_mem hk));unfold atB at this;rw [decide_eq_false_iff_not] at this;exact this hks
 | some f =>
   obtain ⟨a1,a2,a3⟩:=hb.some f ho;have hle:=a3 A[k] (h.fires (List.getElem_mem hk)) (by unfold atB;rw [decide_eq_true_eq];exact hks);unfold atB at a2;rw [decide_eq_true_eq] at a2;obtain ⟨j,hj,rfl⟩:=List.getElem_of_mem (h.near a1 (by omega));have hjk:¬ j < k:=by have:=hm j hj;omega
   by_cases e:j = k
   ·subst e;rfl
   ·have:=h.rise (show k < j by omega) hj;omega
theorem behind_farG (h:RightG l A) {s:Int} {k:Nat} (hc:Cut A (nomA A) s k) (h1:-3217862419200 ≤ s) (h2:s ≤ capG) (hcap:∀ hk:k < A.length,capG ≤ A[k].nominal) {f:Fir} (hf:behindF l s = some f):capG ≤ f.nominal:=by
 have hb:=behind_best h1 (show s ≤ 2500000000000 by unfold capG at h2;omega) h.ok;obtain ⟨a1,a2,a3⟩:=hb.some f hf;unfold atB at a2;rw [decide_eq_true_eq] at a2
 by_cases hn:f.nominal < capG
 ·obtain ⟨j,hj,rfl⟩:=List.getElem_of_mem (h.near a1 hn);have hjk:¬ j < k:=by have:=hc.2 j hj;rw [nomA_at hj] at this;omega
  have hkl:k < A.length:=by omega
  have:=hcap hkl
  by_cases e:j = k
  ·subst e;omega
  ·have:=h.rise (show k < j by omega) hj;omega
 ·omega
theorem RightG.prev (h:RightG l A) {j:Nat} (hj:j ≤ A.length):-90000 < saveO (prevO A j)∧saveO (prevO A j) < 90000:=by
 rcases j with _ | j
 ·rw [prevO_zero,saveO_none];omega
 ·rw [prevO_succ (by omega),saveO_some];exact h.save _ (List.getElem_mem _)
theorem RightG.inst_in (h:RightG l A) {off:Int} (ho:-90000 < off∧off < 90000) {j:Nat} (hj:j < A.length):A[j].nominal - 179998 ≤ instA A off j∧instA A off j ≤ A[j].nominal + 179998:=by
 rw [instA_at hj];exact instF_in ho (h.prev (by omega))
theorem RightG.inst_next (h:RightG l A) {off:Int} (ho:-90000 < off∧off < 90000) {j:Nat} (hj:j + 1 < A.length):instA A off j < instA A off (j + 1):=by
 rw [instA_at hj,instA_at (show j < A.length by omega),prevO_succ (by omega)];have g:=h.gap j hj;have p:=h.prev (show j ≤ A.length by omega);have q:=h.save A[j] (List.getElem_mem _);rw [saveO_some];generalize saveO (prevO A j) = sv at p ⊢;unfold instF
 split <;> split <;> (try split) <;> (try split) <;> omega
theorem RightG.inst_lt (h:RightG l A) {off:Int} (ho:-90000 < off∧off < 90000) {i j:Nat} (hij:i < j) (hj:j < A.length):instA A off i < instA A off j:=by
 induction j with
 | zero=>omega
 | succ j ih =>
   have h1:=h.inst_next ho hj
   by_cases e:i = j
   ·subst e;exact h1
   ·have:=ih (by omega) (by omega);omega
theorem RightG.icut (h:RightG l A) {off:Int} (ho:-90000 < off∧off < 90000) (s:Int):∃ k,Cut A (instA A off) s k:=cut_some (fun _ _ hij hj=>h.inst_lt ho hij hj) s
theorem saved_rowG (h:RightG l A) {j:Nat} (hj:j < A.length) (hcap:A[j].nominal ≤ capG) (h1:-3217862419200 ≤ A[j].nominal):savedF l A[j] = saveO (prevO A j):=by
 unfold savedF;rw [ahead_rowG h (k:=j) ⟨by omega,fun i hi=>?_⟩ h1 hcap];rw [nomA_at hi]
 constructor
 ·intro g;have:=h.rise g hj;omega
 ·intro g
  rcases Nat.lt_trichotomy i j with e | e | e
  ·exact e
  ·subst e;omega
  ·have:=h.rise e hi;omega
theorem RightG.low (h:RightG l A) {f:Fir} (hf:f ∈ A):-3217862419200 ≤ f.nominal:=by
 obtain ⟨r,hr,y,y1,y2,hy,rfl⟩:=(h.mem f).1 hf;have g:=(firOf_in hy).1;have e:=yearV_mono y1;have e2:yearV 1890 = -29219:=by decide
 omega
theorem RightG.low2 (h:RightG l A) {f:Fir} (hf:f ∈ A):-2600000000 ≤ f.nominal:=by
 obtain ⟨r,hr,y,y1,y2,hy,rfl⟩:=(h.mem f).1 hf;have g:=(firOf_in hy).1;have e:=yearV_mono y1;have e2:yearV 1890 = -29219:=by decide
 omega
theorem RightG.count (h:RightG l A):∀ (j:Nat) (hj:j < A.length),-2600000000 + 180000 * (j:Int) ≤ A[j].nominal
 | 0,hj=>by have:=h.low2 (List.getElem_mem hj);omega
 | j + 1,hj=>by
   have h1:=h.count j (by omega);have h2:=h.gap j hj;push_cast;omega
theorem back_rowG (h:RightG l A) {off i:Int} (ho:-90000 < off∧off < 90000) {k:Nat} (hc:Cut A (instA A off) (i + 1) k):∀ (m n:Nat),k ≤ m→m ≤ A.length→(∀ f,prevO A m = some f→f.nominal ≤ capG)→m - k < n→backF l off i n (prevO A m) = prevO A k
 | m,0,_,_,_,hn=>absurd hn (by omega)
 | 0,n + 1,hk,hm,hb,hn=>by
   obtain rfl:k = 0:=by omega
   rfl
 | m + 1,n + 1,hk,hm,hb,hn=>by
   have hml:m < A.length:=by omega
   have hcap:A[m].nominal ≤ capG:=hb _ (prevO_succ hml);rw [prevO_succ hml];unfold backF;rw [saved_rowG h hml hcap (h.low (List.getElem_mem _)),← instA_at hml];have:=hc.2 m hml
   by_cases hlt:i < instA A off m
   ·rw [if_pos hlt]
    have e:aheadF l A[m].nominal = prevO A m:=by
     refine ahead_rowG h ⟨by omega,fun j hj=>?_⟩ (h.low (List.getElem_mem _)) hcap;rw [nomA_at hj]
     constructor
     ·intro g;have:=h.rise g hml;omega
     ·intro g
      rcases Nat.lt_trichotomy j m with e | e | e
      ·exact e
      ·subst e;omega
      ·have:=h.rise e hj;omega
    rw [e];refine back_rowG h ho hc m n (by omega) (by omega) (fun f hf=>?_) (by omega)
    rcases m with _ | m
    ·cases hf
    ·rw [prevO_succ (by omega)] at hf
     cases hf
     have:=h.rise (show m < m + 1 by omega) hml;omega
   ·rw [if_neg hlt];obtain rfl:k = m + 1:=by omega
    rw [prevO_succ hml]
theorem latest_rowG (h:RightG l A) {off i:Int} (ho:-90000 < off∧off < 90000) (h1:-3217862419200 ≤ i) (h2:i + 180001 ≤ capG) {k:Nat} (hc:Cut A (instA A off) (i + 1) k):latestF l off i = prevO A k:=by
 obtain ⟨m,hm⟩:=h.cut (i + 180001);unfold latestF;rw [ahead_rowG h hm (by omega) h2];refine back_rowG h ho hc m _ ?_ hm.1 (fun f hf=>?_) ?_
 ·rcases Nat.lt_or_ge m k with g | g
  ·exfalso;have hml:m < A.length:=by have:=hc.1;omega
   have e1:=(hc.2 m hml).1 g;have e2:=hm.2 m hml;have e3:=h.inst_in ho hml;rw [nomA_at hml] at e2;omega
  ·exact g
 ·rcases m with _ | m
  ·cases hf
  ·have hml:m < A.length:=by have:=hm.1;omega
   rw [prevO_succ hml] at hf
   cases hf
   have:=(hm.2 m hml).1 (by omega);rw [nomA_at hml] at this;omega
 ·unfold farN
  rcases m with _ | m
  ·omega
  ·have hml:m < A.length:=by have:=hm.1;omega
   have:=(hm.2 m hml).1 (by omega);rw [nomA_at hml] at this;have:=h.count m hml;omega
def CurG (A:List Fir) (j:Nat) (o:Option Fir):Prop:=(∃ h:j < A.length,A[j].nominal < capG∧o = some A[j])∨((∀ h:j < A.length,capG ≤ A[j].nominal)∧∀ f,o = some f→capG ≤ f.nominal)
theorem behind_curG (h:RightG l A) {s:Int} {k:Nat} (hc:Cut A (nomA A) s k) (h1:-3217862419200 ≤ s) (h2:s ≤ capG):CurG A k (behindF l s):=by
 by_cases hk:∃ hk:k < A.length,A[k].nominal < capG
 ·obtain ⟨hk,hn⟩:=hk;exact .inl ⟨hk,hn,behind_rowG h hc h1 h2 hk hn⟩
 ·have g:∀ hk:k < A.length,capG ≤ A[k].nominal:=fun hk2=>by
   by_cases e:A[k].nominal < capG
   ·exact absurd ⟨hk2,e⟩ hk
   ·omega
  exact .inr ⟨g,fun f hf=>behind_farG h hc h1 h2 g hf⟩
theorem cut_behindG (h:RightG l A) {j:Nat} (hj:j < A.length):Cut A (nomA A) (A[j].nominal + 1) (j + 1):=⟨by omega,fun i hi=>by
 rw [nomA_at hi]
 constructor
 ·intro g
  by_cases e:i = j
  ·subst e;omega
  ·have:=h.rise (show i < j by omega) hj;omega
 ·intro g
  rcases Nat.lt_trichotomy i j with e | e | e
  ·omega
  ·omega
  ·have:=h.rise e hi;omega⟩
theorem firedN_rowG (h:RightG l A) {off fr to:Int} (ho:-90000 < off∧off < 90000) (hto:to + 180000 < capG):∀ (n j:Nat) (o:Option Fir),CurG A j o→A.length - j < n→firedN l off fr to n o = segA A off fr to j (A.length - j)
 | 0,j,o,_,hn=>absurd hn (by omega)
 | n + 1,j,o,hcur,hn=>by
   rcases hcur with ⟨hj,hcap,rfl⟩ | ⟨hfar,hout⟩
   ·have hin:=h.inst_in ho hj;have hs:=saved_rowG h hj (by omega) (h.low (List.getElem_mem _));have hnext:CurG A (j + 1) (behindF l (A[j].nominal + 1)):=behind_curG h (cut_behindG h hj) (by have:=h.low (List.getElem_mem hj);omega) (by omega);have ih:=firedN_rowG (fr:=fr) h ho hto n (j + 1) _ hnext (by omega);rw [show A.length - j = (A.length - (j + 1)) + 1 by omega,segA_succ,List.getElem?_eq_getElem hj];unfold firedN;rw [hs,← instA_at hj,ih]
    by_cases hle:A[j].nominal ≤ to + 180000
    ·rw [if_pos hle]
     by_cases hout:instA A off j ≤ fr∨to < instA A off j
     ·rw [if_pos hout,if_neg (by omega)]
      rfl
     ·rw [if_neg hout,if_pos (by omega)]
      rfl
    ·rw [if_neg hle,if_neg (by omega),segA_nil (fun i hi hl=>by
      by_cases e:i = j + 1∨j + 1 < i
      ·have h1:=h.inst_lt ho (show j < i by omega) hl
       omega
      ·omega)]
     rfl
   ·rw [segA_nil (fun i hi hl=>by
     have h1:=h.inst_in ho hl
     by_cases e:i = j
     ·subst e;have:=hfar hl;omega
     ·have h2:=h.rise (show j < i by omega) hl
      have h3:=hfar (by omega)
      omega)]
    rcases o with _ | f
    ·rfl
    ·have:=hout f rfl;unfold firedN;rw [if_neg (by omega)]
theorem fired_rowG (h:RightG l A) {off fr to:Int} (ho:-90000 < off∧off < 90000) (h1:-3217862419200 ≤ fr - 180000) (h2:fr ≤ to) (hto:to + 180000 < capG):firedF l off fr to = segA A off fr to 0 A.length:=by
 obtain ⟨k,hk⟩:=h.cut (fr - 180000)
 have hlen:A.length - k < (to + 180001 + farN).toNat:=by
  have hcap:(A.length:Int) ≤ 20000000:=by
   by_cases h0:A.length = 0
   ·omega
   ·have hl:A.length - 1 < A.length:=by omega
    have h3:=h.count (A.length - 1) hl;obtain ⟨r,hr,y,y1,y2,hy,e⟩:=(h.mem _).1 (List.getElem_mem hl);rw [e] at h3;have g:=(firOf_in hy).2;have e1:=yearV_mono (show y + 1 ≤ 75001 by omega);have e2:yearV 75001 = 26674025:=by decide
    omega
  unfold farN;omega
 unfold firedF;rw [firedN_rowG h ho hto _ k _ (behind_curG h hk h1 (by omega)) hlen]
 have hsplit:∀ (m j:Nat),(∀ i,i < m→i + j < A.length→¬ (fr < instA A off (i + j)∧instA A off (i + j) ≤ to))→∀ n,segA A off fr to j (m + n) = segA A off fr to (j + m) n:=by
  intro m
  induction m with
  | zero=>intro j _ n;rw [Nat.zero_add];rfl
  | succ m ih =>
    intro j hj n;rw [show m + 1 + n = (m + n) + 1 by omega,segA_succ,ih (j + 1) (fun i hi hl=>by have:=hj (i + 1) (by omega) (by omega);rwa [show i + 1 + j = i + (j + 1) by omega] at this) n,show j + 1 + m = j + (m + 1) by omega]
    by_cases hl:j < A.length
    ·have:=hj 0 (by omega) (by omega);rw [Nat.zero_add] at this;rw [if_neg this]
     rfl
    ·rw [List.getElem?_eq_none (by omega),Option.map_none,ite_self]
     rfl
 have:=hsplit k 0 (fun i hi hl=>by
  have hl2:i < A.length:=by omega
  have g:=(hk.2 i hl2).1 hi
  have e:=h.inst_in ho hl2
  rw [nomA_at hl2] at g
  rw [Nat.add_zero]
  omega) (A.length - k)
 rw [show k + (A.length - k) = A.length by have:=hk.1;omega,Nat.zero_add] at this;exact this.symm
end
end
section -- GApart
open Go Go.RowKit Go.Shelf
def patB (y z:Int):Bool:=decide ((yearV z - yearV y) % 7 = 0) && (leapB y == leapB z && leapB (y + 1) == leapB (z + 1))
def patAll:Bool:=(List.range 400).all fun r=>(List.range 28).any fun k=>patB (r:Nat) (2070 + (k:Nat))
theorem pat_all:patAll = true:=by kernel_rfl
theorem leapB_cycle (q r:Int):leapB (400 * q + r) = leapB r:=by
 unfold leapB;exact decide_eq_decide.2 (by omega)
theorem yearV_cycle (q r:Int):yearV (400 * q + r) = yearV r + 146097 * q:=by unfold yearV;omega
theorem pat_some (y:Int):∃ z,2070 ≤ z∧z ≤ 2097∧(yearV z - yearV y) % 7 = 0∧leapB y = leapB z∧leapB (y + 1) = leapB (z + 1):=by
 have h:=pat_all;unfold patAll at h;rw [List.all_eq_true] at h;have h1:=h (y % 400).toNat (List.mem_range.2 (by omega));rw [List.any_eq_true] at h1;obtain ⟨k,hk,hp⟩:=h1;rw [List.mem_range] at hk;unfold patB at hp;simp only [Bool.and_eq_true,decide_eq_true_eq,beq_iff_eq] at hp;obtain ⟨p1,p2,p3⟩:=hp;rw [show (((y % 400).toNat:Nat):Int) = y % 400 by omega] at p1 p2 p3;have e1:=leapB_cycle (y / 400) (y % 400);have e2:=leapB_cycle (y / 400) (y % 400 + 1);have e3:=yearV_cycle (y / 400) (y % 400);rw [show 400 * (y / 400) + y % 400 = y by omega] at e1 e3;rw [show 400 * (y / 400) + (y % 400 + 1) = y + 1 by omega] at e2;refine ⟨2070 + (k:Nat),by omega,by omega,?_,e1.trans p2,e2.trans p3⟩;rw [e3];omega
theorem weekV_shift (a d:Int) (h:d % 7 = 0):weekV (a + d) = weekV a:=by unfold weekV;omega
theorem seekV_shift (a d st wk:Int) (h:d % 7 = 0):seekV (a + d) st wk = seekV a st wk + d:=by
 unfold seekV;rw [weekV_shift a d h]
 split <;> omega
theorem inDay_shift {y z:Int} (hl:leapB y = leapB z) (h7:(yearV z - yearV y) % 7 = 0) (k wk n m:Int):inDay k wk n z m = inDay k wk n y m + (yearV z - yearV y):=by
 have e1:leapsV z = leapsV y:=by unfold leapsV;rw [hl]
 have e2:startV z m = startV y m:=by unfold startV;rw [e1]
 have e3:lenV z m = lenV y m:=by unfold lenV;rw [e1]
 have e4:∀ d,dayV z m d = dayV y m d + (yearV z - yearV y):=fun d=>by unfold dayV;rw [e2];omega
 unfold inDay;rw [e3]
 split
 ·exact e4 n
 ·split
  ·rw [e4,seekV_shift _ _ _ _ h7]
  ·rw [e4,seekV_shift _ _ _ _ h7]
theorem firOf_shift {y z:Int} (hl:leapB y = leapB z) (h7:(yearV z - yearV y) % 7 = 0) (r:Rul):firOf r z = { firOf r y with nominal:=(firOf r y).nominal + 86400 * (yearV z - yearV y) }:=by
 unfold firOf;rw [inDay_shift hl h7];simp only [Fir.mk.injEq,and_self,and_true];omega
theorem ofB_shift {r:Rul} {y z:Int} (h:ofB r y = true) (hl:leapB y = leapB z) (z1:-99000 ≤ z) (z2:z ≤ 90000) (hf:r.from_ ≤ z) (ht:z ≤ r.to_):ofB r z = true:=by
 obtain ⟨-,-,m1,m2,-,-,hok,hn,s1,s2⟩:=of_month h;have e1:leapsV z = leapsV y:=by unfold leapsV;rw [hl]
 have e3:lenV z r.month = lenV y r.month:=by unfold lenV;rw [e1]
 exact of_make z1 z2 hf ht m1 m2 hok (by rw [e3];exact hn) s1 s2
theorem sort_gap:∀ (M:List Fir),(∀ f ∈ M,∀ g ∈ M,f ≠ g→f.nominal + 180000 < g.nominal∨g.nominal + 180000 < f.nominal)→∃ A:List Fir,(∀ f,f ∈ A ↔ f ∈ M)∧A.Pairwise fun f g=>f.nominal + 180000 < g.nominal
 | [],_=>⟨[],fun _=>Iff.rfl,List.Pairwise.nil⟩
 | f :: M,h=>by
   obtain ⟨A,hA,hp⟩:=sort_gap M fun x hx y hy=>h x (List.mem_cons_of_mem _ hx) y (List.mem_cons_of_mem _ hy)
   by_cases hf:f ∈ M
   ·refine ⟨A,fun g=>?_,hp⟩;rw [hA,List.mem_cons];exact ⟨.inr,fun e=>e.elim (fun e=>e ▸ hf) id⟩
   ·have hd:∀ g ∈ A,f.nominal + 180000 < g.nominal∨g.nominal + 180000 < f.nominal:=fun g hg=>h f List.mem_cons_self g (List.mem_cons_of_mem _ ((hA g).1 hg)) (fun e=>hf (e ▸ (hA g).1 hg))
    refine ⟨A.filter (fun g=>decide (g.nominal < f.nominal)) ++ f :: A.filter (fun g=>decide (f.nominal < g.nominal)),fun g=>?_,?_⟩
    ·rw [List.mem_append,List.mem_cons,List.mem_filter,List.mem_filter,decide_eq_true_eq,decide_eq_true_eq,List.mem_cons,← hA g]
     constructor
     ·rintro (h | h | h)
      ·exact .inr h.1
      ·exact .inl h
      ·exact .inr h.1
     ·rintro (h | h)
      ·exact .inr (.inl h)
      ·rcases hd g h with e | e
       ·exact .inr (.inr ⟨h,by omega⟩)
       ·exact .inl ⟨h,by omega⟩
    ·rw [List.pairwise_append];refine ⟨hp.filter _,List.pairwise_cons.2 ⟨fun g hg=>?_,hp.filter _⟩,fun a ha b hb=>?_⟩
     ·rw [List.mem_filter,decide_eq_true_eq] at hg;have:=hd g hg.1;omega
     ·rw [List.mem_filter,decide_eq_true_eq] at ha;have h1:=hd a ha.1
      rcases List.mem_cons.1 hb with rfl | hb
      ·omega
      ·rw [List.mem_filter,decide_eq_true_eq] at hb;have h2:=hd b hb.1;omega
theorem RightR.apart {l:List Rul} {A:List Fir} (h:RightR l A) {f g:Fir} (hf:f ∈ A) (hg:g ∈ A) (hne:f ≠ g):f.nominal + 180000 < g.nominal∨g.nominal + 180000 < f.nominal:=by
 obtain ⟨i,hi,rfl⟩:=List.getElem_of_mem hf;obtain ⟨j,hj,rfl⟩:=List.getElem_of_mem hg
 rcases Nat.lt_trichotomy i j with e | e | e
 ·exact .inl (h.rise e hj)
 ·subst e;exact absurd rfl hne
 ·exact .inr (h.rise e hi)
section
variable {l l':List Rul} {A:List Fir}
theorem apart_year (h:RightR l A) (hs:∀ r ∈ l',r ∈ l∧1048576 ≤ r.to_) {r s:Rul} (hr:r ∈ l') (hsm:s ∈ l') {y z:Int} (hy:ofB r y = true) (hz:ofB s z = true) (hyz:z = y∨z = y + 1) (hne:firOf r y ≠ firOf s z) :
  (firOf r y).nominal + 180000 < (firOf s z).nominal∨(firOf s z).nominal + 180000 < (firOf r y).nominal:=by
 obtain ⟨y',y1,y2,h7,hl,hl1⟩:=pat_some y;have r1:=h.small r (hs r hr).1;have s1:=h.small s (hs s hsm).1;have r2:=(hs r hr).2;have s2:=(hs s hsm).2
 have hz':∃ z',leapB z = leapB z'∧yearV z' - yearV z = yearV y' - yearV y∧2070 ≤ z'∧z' ≤ 2098:=by
  rcases hyz with rfl | rfl
  ·exact ⟨y',hl,rfl,y1,by omega⟩
  ·refine ⟨y' + 1,hl1,?_,by omega,by omega⟩;have e1:=yearV_next y;have e2:=yearV_next y';have e3:leapsV y' = leapsV y:=by unfold leapsV;rw [hl]
   omega
 obtain ⟨z',hlz,hdz,z1,z2⟩:=hz';have h7z:(yearV z' - yearV z) % 7 = 0:=by rw [hdz];exact h7
 have e1:=firOf_shift hl h7 r;have e2:=firOf_shift hlz h7z s;have m1:firOf r y' ∈ A:=(h.mem _).2 ⟨r,(hs r hr).1,y',by omega,by omega,ofB_shift hy hl (by omega) (by omega) (by omega) (by omega),rfl⟩;have m2:firOf s z' ∈ A:=(h.mem _).2 ⟨s,(hs s hsm).1,z',by omega,by omega,ofB_shift hz hlz (by omega) (by omega) (by omega) (by omega),rfl⟩;have n1:(firOf r y').nominal = (firOf r y).nominal + 86400 * (yearV y' - yearV y):=by rw [e1]
 have n2:(firOf s z').nominal = (firOf s z).nominal + 86400 * (yearV y' - yearV y):=by rw [e2,hdz]
 have hne':firOf r y' ≠ firOf s z':=fun e=>by
  apply hne;have k1:(firOf r y').kind = (firOf s z').kind:=by rw [e]
  have k2:(firOf r y').save = (firOf s z').save:=by rw [e]
  have k3:(firOf r y').letter = (firOf s z').letter:=by rw [e]
  have k4:(firOf r y').nominal = (firOf s z').nominal:=by rw [e]
  rw [n1,n2] at k4;have:(firOf r y).nominal = (firOf s z).nominal:=by omega
  cases hfr:firOf r y
  cases hfs:firOf s z
  rw [hfr,hfs] at this;simp only [firOf,Fir.mk.injEq] at hfr hfs k1 k2 k3 this;rw [Fir.mk.injEq];exact ⟨this,by rw [← hfr.2.1,← hfs.2.1];exact k1,by rw [← hfr.2.2.1,← hfs.2.2.1];exact k2,by rw [← hfr.2.2.2,← hfs.2.2.2];exact k3⟩
 have:=h.apart m1 m2 hne';omega
theorem apart_ever (h:RightR l A) (hs:∀ r ∈ l',r ∈ l∧1048576 ≤ r.to_) {f g:Fir} (hf:Fires l' f) (hg:Fires l' g) (hne:f ≠ g):f.nominal + 180000 < g.nominal∨g.nominal + 180000 < f.nominal:=by
 obtain ⟨r,hr,y,hy,rfl⟩:=hf;obtain ⟨s,hsm,z,hz,rfl⟩:=hg;have f1:=firOf_in hy;have f2:=firOf_in hz
 by_cases c1:z = y∨z = y + 1
 ·exact apart_year h hs hr hsm hy hz c1 hne
 ·by_cases c2:y = z + 1
  ·exact (apart_year h hs hsm hr hz hy (.inr c2) (Ne.symm hne)).symm
  ·rcases Int.lt_or_le y z with c | c
   ·have:=yearV_far (show y + 1 ≤ z by omega);omega
   ·have:=yearV_far (show z + 1 ≤ y by omega);omega
theorem rightG_of (h:RightR l A) (hs:∀ r ∈ l',r ∈ l∧1048576 ≤ r.to_):∃ A',RightG l' A':=by
 obtain ⟨A',hA,hp⟩:=sort_gap (genL l' 1890 75000) fun f hf g hg hne=>by
  unfold genL genR at hf hg;simp only [List.mem_flatMap,List.mem_map,List.mem_filter] at hf hg;obtain ⟨r,hr,y,⟨-,hy⟩,rfl⟩:=hf;obtain ⟨s,hsm,z,⟨-,hz⟩,rfl⟩:=hg;exact apart_ever h hs ⟨r,hr,y,hy,rfl⟩ ⟨s,hsm,z,hz,rfl⟩ hne
 have hmem:∀ f,f ∈ A' ↔ ∃ r ∈ l',∃ y,1890 ≤ y∧y ≤ 75000∧ofB r y = true∧f = firOf r y:=fun f=>by
  rw [hA];unfold genL genR yrs;simp only [List.mem_flatMap,List.mem_map,List.mem_filter,List.mem_range]
  constructor
  ·rintro ⟨r,hr,y,⟨⟨i,hi,rfl⟩,hy⟩,rfl⟩;exact ⟨r,hr,_,by omega,by omega,hy,rfl⟩
  ·rintro ⟨r,hr,y,y1,y2,hy,rfl⟩;exact ⟨r,hr,y,⟨⟨(y - 1890).toNat,by omega,by omega⟩,hy⟩,rfl⟩
 have hone:∀ f ∈ A',∃ g ∈ A,f.save = g.save∧f.kind = g.kind:=fun f hf=>by
  obtain ⟨r,hr,y,y1,y2,hy,rfl⟩:=(hmem f).1 hf;obtain ⟨y',z1,z2,h7,hl,hl1⟩:=pat_some y;have r1:=h.small r (hs r hr).1;have r2:=(hs r hr).2;exact ⟨firOf r y',(h.mem _).2 ⟨r,(hs r hr).1,y',by omega,by omega,ofB_shift hy hl (by omega) (by omega) (by omega) (by omega),rfl⟩,rfl,rfl⟩
 exact ⟨A',fun r hr=>by have:=h.small r (hs r hr).1;omega,hmem,fun f hf=>by obtain ⟨g,hg,e,-⟩:=hone f hf;rw [e];exact h.save g hg,fun f hf=>by obtain ⟨g,hg,-,e⟩:=hone f hf;rw [e];exact h.kind g hg,fun i hi=>List.pairwise_iff_getElem.1 hp i (i + 1) (by omega) hi (by omega)⟩
end
end
section -- GNextM
open Go Go.RowKit Go.Shelf
def turnF (F:Foot) (i:Int):Bool:=decide (F.since < i∧i ≤ 2199023255552) && !locE (locF F (i - 1)) (locF F i)
theorem turnF_iff {F:Foot} {i:Int}:turnF F i = true ↔ (F.since < i∧i ≤ 2199023255552)∧locF F i ≠ locF F (i - 1):=by
 unfold turnF;rw [Bool.and_eq_true,decide_eq_true_eq,Bool.not_eq_true',← Bool.not_eq_true,locE_iff];exact ⟨fun h=>⟨h.1,fun e=>h.2 e.symm⟩,fun h=>⟨h.1,fun e=>h.2 e.symm⟩⟩
def nextS (F:Foot) (m:Int):List (Int × Fir)→Option Int
 | []=>none
 | x :: xs=>if turnF F x.1 then some x.1 else if m + 12622780800 < x.1 then none else nextS F m xs
def nextF (F:Foot) (i:Int):Option Int:=if 0 < F.rules.length∧i < 2199023255552 then nextS F (max i F.since) (firedF F.rules F.off (max i F.since) 2199023255552) else none
def lastS (F:Foot) (o:Option Int) (xs:List (Int × Fir)):Option Int:=xs.foldl (fun o x=>if turnF F x.1 then some x.1 else o) o
def prevN (F:Foot) (first:Int):Nat→Int→Option Int
 | 0,_=>none
 | n + 1,to=>if F.since < to∧first - 12749270400 < to then
    match lastS F none (firedF F.rules F.off (max F.since (to - 126489600)) to) with
    | some a=>some a
    | none=>prevN F first n (to - 126489600)
   else none
def prevF (F:Foot) (i:Int):Option Int:=if 0 < F.rules.length then prevN F (min i 2199023255552) 200 (min i 2199023255552) else none
theorem nextS_spec {F:Foot} {m T:Int}:∀ (xs:List (Int × Fir)),(∀ x ∈ xs,m < x.1∧x.1 ≤ T)→xs.Pairwise (fun x y=>x.1 < y.1) →
  (∀ a,nextS F m xs = some a→(∃ x ∈ xs,x.1 = a)∧turnF F a = true∧∀ x ∈ xs,turnF F x.1 = true→a ≤ x.1) ∧
  (nextS F m xs = none→∀ x ∈ xs,turnF F x.1 = true→m + 12622780800 < x.1)
 | [],_,_=>⟨fun a h=>(by cases h),fun _ x hx=>(by cases hx)⟩
 | y :: ys,hb,hp=>by
   obtain ⟨h1,h2⟩:=List.pairwise_cons.1 hp;obtain ⟨i1,i2⟩:=nextS_spec (F:=F) (m:=m) (T:=T) ys (fun x hx=>hb x (List.mem_cons_of_mem _ hx)) h2;unfold nextS
   cases ht:turnF F y.1 with
   | true =>
     rw [if_pos rfl];refine ⟨fun a ha=>?_,fun h=>(by cases h)⟩
     cases ha
     refine ⟨⟨y,List.mem_cons_self,rfl⟩,ht,fun x hx _=>?_⟩
     rcases List.mem_cons.1 hx with rfl | hx
     ·exact Int.le_refl _
     ·exact Int.le_of_lt (h1 x hx)
   | false =>
     rw [if_neg (by decide)]
     by_cases hc:m + 12622780800 < y.1
     ·rw [if_pos hc];refine ⟨fun a ha=>(by cases ha),fun _ x hx htx=>?_⟩
      rcases List.mem_cons.1 hx with rfl | hx
      ·exact hc
      ·have:=h1 x hx;omega
     ·rw [if_neg hc];refine ⟨fun a ha=>?_,fun hn x hx htx=>?_⟩
      ·obtain ⟨⟨x,hx,e⟩,h3,h4⟩:=i1 a ha;refine ⟨⟨x,List.mem_cons_of_mem _ hx,e⟩,h3,fun z hz htz=>?_⟩
       rcases List.mem_cons.1 hz with rfl | hz
       ·rw [ht] at htz;cases htz
       ·exact h4 z hz htz
      ·rcases List.mem_cons.1 hx with rfl | hx
       ·rw [ht] at htx;cases htx
       ·exact i2 hn x hx htx
theorem lastS_spec {F:Foot}:∀ (xs:List (Int × Fir)) (o:Option Int),(∀ b,o = some b→∀ x ∈ xs,b < x.1)→xs.Pairwise (fun x y=>x.1 < y.1) →
  (∀ a,lastS F o xs = some a→(o = some a∨((∃ x ∈ xs,x.1 = a)∧turnF F a = true))∧∀ x ∈ xs,turnF F x.1 = true→x.1 ≤ a) ∧
  (lastS F o xs = none→o = none∧∀ x ∈ xs,turnF F x.1 = false)
 | [],o,_,_=>⟨fun a h=>⟨.inl h,fun x hx=>(by cases hx)⟩,fun h=>⟨h,fun x hx=>(by cases hx)⟩⟩
 | y :: ys,o,hb,hp=>by
   obtain ⟨h1,h2⟩:=List.pairwise_cons.1 hp;have e:lastS F o (y :: ys) = lastS F (if turnF F y.1 then some y.1 else o) ys:=rfl;rw [e]
   cases ht:turnF F y.1 with
   | true =>
     rw [if_pos rfl];obtain ⟨i1,i2⟩:=lastS_spec (F:=F) ys (some y.1) (fun b hb x hx=>by cases hb;exact h1 x hx) h2;refine ⟨fun a ha=>?_,fun h=>(by have:=(i2 h).1;cases this)⟩;obtain ⟨j1,j2⟩:=i1 a ha
     have hya:y.1 ≤ a:=by
      rcases j1 with j1 | ⟨⟨x,hx,rfl⟩,-⟩
      ·cases j1;exact Int.le_refl _
      ·exact Int.le_of_lt (h1 x hx)
     refine ⟨.inr ?_,fun x hx htx=>?_⟩
     ·rcases j1 with j1 | ⟨⟨x,hx,e⟩,h3⟩
      ·cases j1;exact ⟨⟨y,List.mem_cons_self,rfl⟩,ht⟩
      ·exact ⟨⟨x,List.mem_cons_of_mem _ hx,e⟩,h3⟩
     ·rcases List.mem_cons.1 hx with rfl | hx
      ·exact hya
      ·exact j2 x hx htx
   | false =>
     rw [if_neg (by decide)];obtain ⟨i1,i2⟩:=lastS_spec (F:=F) ys o (fun b hb2 x hx=>hb b hb2 x (List.mem_cons_of_mem _ hx)) h2;refine ⟨fun a ha=>?_,fun h=>⟨(i2 h).1,fun x hx=>?_⟩⟩
     ·obtain ⟨j1,j2⟩:=i1 a ha;refine ⟨j1.imp id fun ⟨⟨x,hx,e⟩,h3⟩=>⟨⟨x,List.mem_cons_of_mem _ hx,e⟩,h3⟩,fun x hx htx=>?_⟩
      rcases List.mem_cons.1 hx with rfl | hx
      ·rw [ht] at htx;cases htx
      ·exact j2 x hx htx
     ·rcases List.mem_cons.1 hx with rfl | hx
      ·exact ht
      ·exact (i2 h).2 x hx
section
variable {l:List Rul} {A:List Fir} {F:Foot}
theorem segA_riseG (h:RightG l A) {off fr to:Int} (ho:-90000 < off∧off < 90000):∀ (n j:Nat),(segA A off fr to j n).Pairwise fun x y=>x.1 < y.1
 | 0,_=>List.Pairwise.nil
 | n + 1,j=>by
   rw [segA_succ];refine List.pairwise_append.2 ⟨?_,segA_riseG h ho n (j + 1),fun x hx y hy=>?_⟩
   ·split
    ·exact List.pairwise_singleton _ _
    ·exact List.Pairwise.nil
   ·split at hx
    ·rename_i z e;have hxz:=List.mem_singleton.1 hx
     split at e
     ·obtain ⟨f,hf,rfl⟩:=Option.map_eq_some_iff.1 e;obtain ⟨i,i1,-,hi,rfl,-⟩:=segA_in hy;rw [hxz];exact h.inst_lt ho (show j < i by omega) hi
     ·cases e
    ·cases hx
theorem locF_still (h:RightG F.rules A) (ho:-90000 < F.off∧F.off < 90000) {i:Int} (h1:-3217862419200 < i) (h2:i + 180001 ≤ capG) (hno:∀ j,j < A.length→instA A F.off j ≠ i):locF F i = locF F (i - 1):=by
 obtain ⟨k,hc⟩:=h.icut ho (i + 1)
 have hc2:Cut A (instA A F.off) (i - 1 + 1) k:=⟨hc.1,fun j hj=>by
  have:=hc.2 j hj
  have:=hno j hj
  omega⟩
 have e:savesV (eraO F) ⟨#[45]⟩ F.rules i = savesV (eraO F) ⟨#[45]⟩ F.rules (i - 1):=by
  unfold savesV
  split
  ·rfl
  ·show (match latestF F.rules F.off i with | some f=>(f.save,f.letter) | none=>(0,letV F.rules)) = (match latestF F.rules F.off (i - 1) with | some f=>(f.save,f.letter) | none=>(0,letV F.rules))
   rw [latest_rowG h ho (by omega) h2 hc,latest_rowG h ho (by omega) (by omega) hc2]
 unfold locF;rw [e]
theorem turn_fired (h:RightG F.rules A) (ho:-90000 < F.off∧F.off < 90000) {fr to:Int} (h1:-2199023255552 ≤ fr) (h2:fr ≤ to) (h3:to ≤ 2199023255552) :
  (∀ x ∈ firedF F.rules F.off fr to,fr < x.1∧x.1 ≤ to)∧(firedF F.rules F.off fr to).Pairwise (fun x y=>x.1 < y.1)∧∀ i,fr < i→i ≤ to→turnF F i = true→∃ x ∈ firedF F.rules F.off fr to,x.1 = i:=by
 have hcap:(2304634636800:Int) = capG:=rfl;refine ⟨fun x hx=>firedF_in hx,?_,fun i i1 i2 ht=>?_⟩
 ·rw [fired_rowG h ho (by omega) h2 (by omega)];exact segA_riseG h ho _ _
 ·rw [fired_rowG h ho (by omega) h2 (by omega)];have hne:=(turnF_iff.1 ht).2
  by_cases hx:∃ j,j < A.length∧instA A F.off j = i
  ·obtain ⟨j,hj,e⟩:=hx;exact ⟨_,segA_has (n:=A.length) hj (Nat.zero_le _) (by omega) (by omega) (by omega),e⟩
  ·exact absurd (locF_still h ho (by omega) (by omega) (fun j hj e=>hx ⟨j,hj,e⟩)) hne
theorem next_some (h:RightG F.rules A) (ho:-90000 < F.off∧F.off < 90000) (hs:-2199023255552 ≤ F.since) {i a:Int} (hn:nextF F i = some a):(max i F.since < a∧a ≤ 2199023255552)∧turnF F a = true∧∀ j,max i F.since < j→j < a→turnF F j = false:=by
 unfold nextF at hn
 split at hn
 ·rename_i hc
  by_cases hm:max i F.since ≤ 2199023255552
  ·obtain ⟨f1,f2,f3⟩:=turn_fired h ho (fr:=max i F.since) (to:=2199023255552) (by omega) hm (Int.le_refl _);obtain ⟨⟨x,hx,e⟩,ht,hall⟩:=(nextS_spec (F:=F) _ f1 f2).1 a hn;have:=f1 x hx;refine ⟨by omega,ht,fun j j1 j2=>?_⟩
   cases htj:turnF F j with
   | false=>rfl
   | true =>
     obtain ⟨y,hy,ey⟩:=f3 j j1 (by omega) htj;have:=hall y hy (by rw [ey];exact htj);omega
  ·exfalso;have hnil:firedF F.rules F.off (max i F.since) 2199023255552 = []:=List.eq_nil_iff_forall_not_mem.2 fun x hx=>by have:=firedF_in hx;omega
   rw [hnil] at hn
   cases hn
 ·cases hn
theorem next_none (h:RightG F.rules A) (ho:-90000 < F.off∧F.off < 90000) (hs:-2199023255552 ≤ F.since) (hr:0 < F.rules.length) {i:Int} (hn:nextF F i = none):∀ j,max i F.since < j→j ≤ max i F.since + 12622780800→turnF F j = false:=by
 intro j j1 j2
 cases htj:turnF F j with
 | false=>rfl
 | true =>
   exfalso;have hj:=(turnF_iff.1 htj).1;unfold nextF at hn;rw [if_pos ⟨hr,by omega⟩] at hn;obtain ⟨f1,f2,f3⟩:=turn_fired h ho (fr:=max i F.since) (to:=2199023255552) (by omega) (by omega) (Int.le_refl _);obtain ⟨y,hy,ey⟩:=f3 j j1 (by omega) htj;have:=(nextS_spec (F:=F) _ f1 f2).2 hn y hy (by rw [ey];exact htj);omega
theorem prevN_spec (h:RightG F.rules A) (ho:-90000 < F.off∧F.off < 90000) (hs:-2199023255552 ≤ F.since) {first:Int} (hf:first ≤ 2199023255552):∀ (n:Nat) (to:Int),to ≤ first→(∀ j,to < j→j ≤ first→turnF F j = false)→12749270400 - (first - to) < 126489600 * (n:Int) →
  (∀ a,prevN F first n to = some a→(F.since < a∧a ≤ first)∧turnF F a = true∧∀ j,a < j→j ≤ first→turnF F j = false) ∧
  (prevN F first n to = none→∀ j,first - 12622780800 < j→j ≤ first→turnF F j = false)
 | 0,to,h1,h2,h3=>⟨fun a ha=>(by cases ha),fun _ j j1 j2=>by
    refine h2 j ?_ j2
    simp at h3
    omega⟩
 | n + 1,to,h1,h2,h3=>by
   unfold prevN
   by_cases hc:F.since < to∧first - 12749270400 < to
   ·rw [if_pos hc];obtain ⟨f1,f2,f3⟩:=turn_fired h ho (fr:=max F.since (to - 126489600)) (to:=to) (by omega) (by omega) (by omega);obtain ⟨l1,l2⟩:=lastS_spec (F:=F) (firedF F.rules F.off (max F.since (to - 126489600)) to) none (fun b hb=>(by cases hb)) f2
    cases hl:lastS F none (firedF F.rules F.off (max F.since (to - 126489600)) to) with
    | some a =>
      simp only;refine ⟨fun b hb=>?_,fun e=>(by cases e)⟩
      cases hb
      obtain ⟨j1,j2⟩:=l1 a hl
      rcases j1 with j1 | ⟨⟨x,hx,e⟩,ht⟩
      ·cases j1
      ·have hxb:=f1 x hx;refine ⟨by omega,ht,fun j k1 k2=>?_⟩
       cases htj:turnF F j with
       | false=>rfl
       | true =>
         exfalso
         by_cases hjt:j ≤ to
         ·obtain ⟨y,hy,ey⟩:=f3 j (by omega) hjt htj;have:=j2 y hy (by rw [ey];exact htj);omega
         ·rw [h2 j (by omega) k2] at htj;cases htj
    | none =>
      simp only;refine prevN_spec h ho hs hf n (to - 126489600) (by omega) (fun j j1 j2=>?_) (by push_cast at h3;omega)
      cases htj:turnF F j with
      | false=>rfl
      | true =>
        exfalso;have hsj:=(turnF_iff.1 htj).1
        by_cases hjt:j ≤ to
        ·obtain ⟨y,hy,ey⟩:=f3 j (by omega) hjt htj;have:=(l2 hl).2 y hy;rw [ey,htj] at this
         cases this
        ·rw [h2 j (by omega) j2] at htj;cases htj
   ·rw [if_neg hc];refine ⟨fun a ha=>(by cases ha),fun _ j j1 j2=>?_⟩
    by_cases hj:to < j
    ·exact h2 j hj j2
    ·cases htj:turnF F j with
     | false=>rfl
     | true =>
       exfalso;have:=(turnF_iff.1 htj).1;omega
theorem prev_some (h:RightG F.rules A) (ho:-90000 < F.off∧F.off < 90000) (hs:-2199023255552 ≤ F.since) {i a:Int} (hi:i ≤ 2199023255552) (hn:prevF F i = some a):(F.since < a∧a ≤ i)∧turnF F a = true∧∀ j,a < j→j ≤ i→turnF F j = false:=by
 unfold prevF at hn;rw [show min i 2199023255552 = i by omega] at hn
 split at hn
 ·exact (prevN_spec h ho hs hi 200 i (Int.le_refl _) (fun j j1 j2=>by omega) (by push_cast;omega)).1 a hn
 ·cases hn
theorem prev_none (h:RightG F.rules A) (ho:-90000 < F.off∧F.off < 90000) (hs:-2199023255552 ≤ F.since) (hr:0 < F.rules.length) {i:Int} (hi:i ≤ 2199023255552) (hn:prevF F i = none):∀ j,i - 12622780800 < j→j ≤ i→turnF F j = false:=by
 unfold prevF at hn;rw [show min i 2199023255552 = i by omega,if_pos hr] at hn;exact (prevN_spec h ho hs hi 200 i (Int.le_refl _) (fun j j1 j2=>by omega) (by push_cast;omega)).2 hn
end
section
variable {F:Foot} {A:List Fir}
theorem next_nil (h:¬ 0 < F.rules.length) (i:Int):nextF F i = none:=by unfold nextF;rw [if_neg (fun e=>h e.1)]
theorem prev_nil (h:¬ 0 < F.rules.length) (i:Int):prevF F i = none:=by unfold prevF;rw [if_neg h]
end
end
section -- GHoldM
open Go Go.RowKit Go.Shelf
section
variable {l l':List Rul} {A A2:List Fir}
theorem RightR.sub (h:RightR l A) (hs:∀ r ∈ l',r ∈ l):∃ A2,RightR l' A2∧∀ f ∈ A2,f ∈ A:=by
 classical
 have hp:A.Pairwise fun f g=>f.nominal + 180000 < g.nominal:=List.pairwise_iff_getElem.2 fun i j hi hj hij=>h.rise hij hj
 have hm:∀ f,f ∈ A.filter (fun f=>decide (∃ r ∈ l',∃ y,1890 ≤ y∧y ≤ 2110∧ofB r y = true∧f = firOf r y)) ↔ ∃ r ∈ l',∃ y,1890 ≤ y∧y ≤ 2110∧ofB r y = true∧f = firOf r y:=fun f=>by
  rw [List.mem_filter,decide_eq_true_eq];exact ⟨fun g=>g.2,fun g=>⟨(h.mem f).2 (by obtain ⟨r,hr,y,e⟩:=g;exact ⟨r,hs r hr,y,e⟩),g⟩⟩
 have ha:∀ f,f ∈ A.filter (fun f=>decide (∃ r ∈ l',∃ y,1890 ≤ y∧y ≤ 2110∧ofB r y = true∧f = firOf r y))→f ∈ A:=fun f hf=>(List.mem_filter.1 hf).1
 refine ⟨A.filter (fun f=>decide (∃ r ∈ l',∃ y,1890 ≤ y∧y ≤ 2110∧ofB r y = true∧f = firOf r y)),⟨fun r hr=>h.small r (hs r hr),hm,fun f hf=>h.save f (ha f hf),fun f hf=>h.kind f (ha f hf),fun i hi=>List.pairwise_iff_getElem.1 (hp.filter _) i (i + 1) (by omega) hi (by omega)⟩,ha⟩
theorem sub_next (h:RightR l A) (h2:RightR l' A2) (hs:∀ f ∈ A2,f ∈ A) {m:Nat} (hm:m + 1 < A.length) (f1:A[m + 1] ∈ A2) {c:Nat} (hc:c < A2.length) (e:A2[c] = A[m]):∃ hc1:c + 1 < A2.length,A2[c + 1] = A[m + 1]:=by
 obtain ⟨d,hd,ed⟩:=List.getElem_of_mem f1
 have hcd:c < d:=by
  rcases Nat.lt_trichotomy c d with g | g | g
  ·exact g
  ·subst g;rw [e] at ed;have:=h.rise (show m < m + 1 by omega) hm;rw [ed] at this;omega
  ·have g1:=h2.rise g hc;have g2:=h.rise (show m < m + 1 by omega) hm;rw [e,ed] at g1;omega
 refine ⟨by omega,?_⟩
 by_cases hq:c + 1 = d
 ·subst hq;exact ed
 ·exfalso;have hcl:c + 1 < A2.length:=by omega
  obtain ⟨q,hq1,eq⟩:=List.getElem_of_mem (hs _ (List.getElem_mem hcl));have g1:=h2.rise (show c < c + 1 by omega) hcl;have g2:=h2.rise (show c + 1 < d by omega) hd;rw [e,← eq] at g1;rw [ed,← eq] at g2
  have k1:m < q:=by
   rcases Nat.lt_trichotomy m q with g | g | g
   ·exact g
   ·subst g;omega
   ·have:=h.rise g (by omega);omega
  have k2:q < m + 1:=by
   rcases Nat.lt_trichotomy q (m + 1) with g | g | g
   ·exact g
   ·subst g;omega
   ·have:=h.rise g hq1;omega
  omega
theorem sub_last (h:RightR l A) (h2:RightR l' A2) (hs:∀ f ∈ A2,f ∈ A) {m:Nat} (hm:m + 1 = A.length) {c:Nat} (hc:c < A2.length) (e:A2[c] = A[m]):c + 1 = A2.length:=by
 rcases Nat.lt_or_ge (c + 1) A2.length with g | g
 ·exfalso;obtain ⟨q,hq1,eq⟩:=List.getElem_of_mem (hs _ (List.getElem_mem g));have g1:=h2.rise (show c < c + 1 by omega) g;rw [e,← eq] at g1
  rcases Nat.lt_trichotomy m q with k | k | k
  ·omega
  ·subst k;omega
  ·have:=h.rise k (by omega);omega
 ·omega
theorem fires_leap {r:Rul} (hs:smallR r = true) (hf:firesB r = true) {y:Int} (hl:leapB y = true) (h1:r.from_ ≤ y) (h2:y ≤ r.to_) (b1:-99000 ≤ y) (b2:y ≤ 90000):ofB r y = true:=by
 unfold smallR at hs;rw [Bool.and_eq_true,decide_eq_true_eq] at hs;obtain ⟨⟨-,-,-,m1,m2,s1,s2,-,-⟩,hok⟩:=hs;refine of_make b1 b2 h1 h2 m1 m2 hok ?_ (by omega) (by omega);have hlen:=lenV_in (y:=y) m1 m2;have hd:=day_ok hok;unfold firesB at hf;rw [Bool.or_eq_true,Bool.or_eq_true,decide_eq_true_eq,decide_eq_true_eq,decide_eq_true_eq] at hf;have e2:leapsV 2000 = 1:=by decide
 have e1:leapsV y = 1:=by unfold leapsV;rw [if_pos hl]
 have e3:lenV y r.month = lenV 2000 r.month:=by unfold lenV;rw [e1,e2]
 rcases hf with hk | hk | hk
 ·unfold dayOkB at hok;simp at hok;omega
 ·exfalso;apply hk;unfold longV;rw [if_pos (by unfold ymB;rw [decide_eq_true_eq];omega)]
 ·unfold longV at hk;rw [if_pos (by unfold ymB;rw [decide_eq_true_eq];omega)] at hk;rw [e3];exact hk
theorem latest_endless (h:RightR l A) (hs:∀ r ∈ l',r ∈ l∧1048576 ≤ r.to_) {L:Int} (hL0:1890 ≤ L) (hL1:∀ r ∈ l,r ∉ l'→∀ y,ofB r y = true→y ≤ L) (hL2:∀ r ∈ l',r.from_ ≤ L) {r0:Rul} (hr0:r0 ∈ l') (hsm:smallR r0 = true) (hfi:firesB r0 = true)
  {off:Int} (ho:-90000 < off∧off < 90000) {i:Int} (h1:86400 * yearV (L + 20) ≤ i) (h2:i ≤ 4200000000):latestF l' off i = latestF l off i:=by
 obtain ⟨A2,hR2,hA2⟩:=h.sub (fun r hr=>(hs r hr).1);obtain ⟨k,hk⟩:=h.icut ho (i + 1);have hcapN:(4448390400:Int) = capN:=rfl
 have hL3:L + 20 ≤ 2105:=by
  by_cases g:L + 20 ≤ 2105
  ·exact g
  ·exfalso;have e1:=yearV_mono (show 2106 ≤ L + 20 by omega);have e2:yearV 2106 = 49673:=by decide
   omega
 have htail:∀ f ∈ A,86400 * yearV (L + 1) + 1123200 ≤ f.nominal→f ∈ A2:=fun f hf hn=>by
  obtain ⟨r,hr,y,y1,y2,hy,rfl⟩:=(h.mem f).1 hf;refine (hR2.mem _).2 ⟨r,?_,y,y1,y2,hy,rfl⟩
  by_cases hrl:r ∈ l'
  ·exact hrl
  ·exfalso;have hyL:=hL1 r hr hrl y hy;have e1:=(firOf_in hy).2;have e2:=yearV_mono (show y + 1 ≤ L + 1 by omega);omega
 obtain ⟨j1,a1,a2,a3⟩:=leap_near (L + 2);obtain ⟨j2,b1,b2,b3⟩:=leap_near (L + 10);have hf0:=hL2 r0 hr0;have ht0:=(hs r0 hr0).2;have o1:=fires_leap hsm hfi a3 (by omega) (by omega) (by omega) (by omega);have o2:=fires_leap hsm hfi b3 (by omega) (by omega) (by omega) (by omega);have m1:firOf r0 j1 ∈ A:=(h.mem _).2 ⟨r0,(hs r0 hr0).1,j1,by omega,by omega,o1,rfl⟩;have m2:firOf r0 j2 ∈ A:=(h.mem _).2 ⟨r0,(hs r0 hr0).1,j2,by omega,by omega,o2,rfl⟩;have n1:=(firOf_in o1).1;have n2:=(firOf_in o2).2;have n12:=firOf_lt o1 o2 (by omega);have v1:=yearV_mono (show L + 2 ≤ j1 by omega);have v2:=yearV_far (show L + 1 ≤ L + 2 by omega);have v3:=yearV_mono (show j2 + 1 ≤ L + 18 by omega);have v4:=yearV_far (show L + 18 ≤ L + 20 by omega);obtain ⟨a,ha,ea⟩:=List.getElem_of_mem m1;obtain ⟨b,hb,eb⟩:=List.getElem_of_mem m2
 have hab:a < b:=by
  rcases Nat.lt_trichotomy a b with g | g | g
  ·exact g
  ·subst g;rw [ea] at eb;rw [eb] at n12;omega
  ·have:=h.rise g ha;rw [ea,eb] at this;omega
 have hbk:b < k:=(hk.2 b hb).2 (by have:=(h.inst_in ho hb).2;rw [eb] at this;omega);obtain ⟨m,rfl⟩:∃ m,k = m + 2:=⟨k - 2,by omega⟩;have hkl:=hk.1;have hmA:m < A.length:=by omega
 have hm1:m + 1 < A.length:=by omega
 have hge:∀ j (hj:j < A.length),a ≤ j→86400 * yearV (L + 1) + 1123200 ≤ A[j].nominal:=fun j hj haj=>by
  rcases Nat.lt_or_ge a j with g | g
  ·have:=h.rise g hj;rw [ea] at this;omega
  ·obtain rfl:j = a:=by omega
   rw [ea];omega
 have i0:=htail _ (List.getElem_mem hmA) (hge m hmA (by omega));have i1:=htail _ (List.getElem_mem hm1) (hge (m + 1) hm1 (by omega));obtain ⟨c,hc,ec⟩:=List.getElem_of_mem i0;obtain ⟨hc1,ec1⟩:=sub_next h hR2 hA2 hm1 i1 hc ec
 have hcut:Cut A2 (instA A2 off) (i + 1) (c + 2):=by
  refine ⟨by omega,fun j hj=>?_⟩
  have q1:instA A2 off (c + 1) = instA A off (m + 1):=by
   rw [instA_at hc1,instA_at hm1,prevO_succ hc,prevO_succ hmA,ec,ec1]
  have q2:=(hk.2 (m + 1) hm1).1 (by omega)
  constructor
  ·intro g
   rcases Nat.lt_or_ge j (c + 1) with e | e
   ·have:=hR2.inst_lt ho e hc1;omega
   ·obtain rfl:j = c + 1:=by omega
    omega
  ·intro g
   rcases Nat.lt_or_ge j (c + 2) with e | e
   ·exact e
   ·exfalso
    by_cases hm2:m + 2 < A.length
    ·have i2:=htail _ (List.getElem_mem hm2) (hge (m + 2) hm2 (by omega));obtain ⟨hc2,ec2⟩:=sub_next h hR2 hA2 hm2 i2 hc1 ec1
     have q3:instA A2 off (c + 1 + 1) = instA A off (m + 1 + 1):=by
      rw [instA_at hc2,instA_at hm2,prevO_succ hc1,prevO_succ hm1,ec1,ec2]
     have q4:¬ instA A off (m + 1 + 1) < i + 1:=fun e=>absurd ((hk.2 (m + 1 + 1) hm2).2 e) (by omega)
     rcases Nat.lt_or_ge (c + 1 + 1) j with e3 | e3
     ·have:=hR2.inst_lt ho e3 hj;omega
     ·obtain rfl:j = c + 1 + 1:=by omega
      omega
    ·have:=sub_last h hR2 hA2 (show m + 1 + 1 = A.length by omega) hc1 ec1;omega
 have hlow:-3217862419200 ≤ i:=by
  have e1:=yearV_mono (show 1890 ≤ L + 20 by omega);have e2:yearV 1890 = -29219:=by decide
  omega
 rw [latest_row hR2 ho hlow (by omega) hcut,latest_row h ho hlow (by omega) hk,prevO_succ hc1,prevO_succ hm1,ec1]
end
def savesF (F:Foot) (i:Int):Int × ByteArray:=if 0 < F.rules.length then savesV (eraO F) ⟨#[45]⟩ F.rules i else (F.save,F.letter)
theorem locF_saves (F:Foot) (i:Int):locF F i = ⟨F.off + (savesF F i).1,dstB (savesF F i).1,(showV F.fm (F.off + (savesF F i).1) (dstB (savesF F i).1) (savesF F i).2).1⟩:=by
 unfold locF savesF
 split <;> rfl
theorem savesF_good {F:Foot} (h:FootGood F) (i:Int):-90000 < (savesF F i).1∧(savesF F i).1 < 90000:=by
 unfold savesF
 split
 ·exact (saves_good h i).1
 ·exact h.save
theorem lastL_in {L:List Rul}:∀ (m:Int),m ≤ lastL m L∧∀ r ∈ L,r.from_ ≤ lastL m L∧(endlB r = false→r.to_ ≤ lastL m L):=by
 unfold lastL
 induction L with
 | nil=>exact fun m=>⟨Int.le_refl _,fun r hr=>by cases hr⟩
 | cons x L ih =>
   intro m;rw [List.foldl_cons];obtain ⟨h1,h2⟩:=ih (lastY m x)
   have hx:m ≤ lastY m x∧x.from_ ≤ lastY m x∧(endlB x = false→x.to_ ≤ lastY m x):=by
    unfold lastY
    cases endlB x with
    | true=>simp only [if_true];exact ⟨by omega,by omega,fun e=>by cases e⟩
    | false=>simp only [Bool.false_eq_true,if_false];exact ⟨by omega,by omega,fun _=>by omega⟩
   refine ⟨by omega,fun r hr=>?_⟩
   rcases List.mem_cons.1 hr with rfl | hr
   ·exact ⟨by omega,fun e=>by have:=hx.2.2 e;omega⟩
   ·exact h2 r hr
theorem lastL_le {L:List Rul} {B:Int} (h:∀ r ∈ L,r.from_ ≤ B∧(endlB r = false→r.to_ ≤ B)):∀ (m:Int),m ≤ B→lastL m L ≤ B:=by
 unfold lastL
 induction L with
 | nil=>exact fun m hm=>hm
 | cons x L ih =>
   intro m hm;rw [List.foldl_cons];refine ih (fun r hr=>h r (List.mem_cons_of_mem _ hr)) _ ?_;have hx:=h x List.mem_cons_self;unfold lastY
   cases he:endlB x with
   | true=>simp only [if_true];omega
   | false=>have:=hx.2 he;simp only [Bool.false_eq_true,if_false];omega
theorem settledV_eq {L:List Rul} {r:Rul} {t:List Rul} (hL:L = r :: t) (h1:-90000 ≤ lastL r.from_ L) (h2:lastL r.from_ L ≤ 90000):settledV L = 86400 * yearV (lastL r.from_ L + 20):=by
 subst hL;unfold settledV;simp only;obtain ⟨y,hy⟩:∃ y,lastL r.from_ (r :: t) = y:=⟨_,rfl⟩;rw [hy] at h1 h2 ⊢
 have hd:dateB (y + 20) 1 1 = true:=by
  have:=lenV_in (y:=y + 20) (m:=1) (by omega) (by omega);unfold dateB ymB;rw [Bool.and_eq_true,decide_eq_true_eq,decide_eq_true_eq];omega
 have hm:mayB 0 = true:=by decide
 rw [hd,hm];simp only [Bool.and_self,if_true];unfold dayV startV;simp [aheadV];omega
section
variable {S:List SetF} {l:List EraF}
theorem set_small (h:∀ s ∈ S,rightB s.l = true) (name:ByteArray):∀ r ∈ ofRul S name,smallR r = true∧r.from_ ≤ 2070:=by
 have hr:=rightB_iff.1 (set_right h name);have hs:=hr.1;unfold smallB at hs;rw [Bool.and_eq_true,List.all_eq_true] at hs;exact fun r hx=>⟨hs.1 r hx,hr.2.1 r hx⟩
theorem foot_saves {x:EraF} {all:List Rul} {A:List Fir} (h:RightR all A) (ho:-90000 < x.n.off∧x.n.off < 90000) (hsm:∀ r ∈ all,smallR r = true∧r.from_ ≤ 2070) (hend:∀ r ∈ all,r.to_ ≤ 2105∨1048576 ≤ r.to_) {b i:Int} (hb:-2199023255552 ≤ b) (h1:(footOf x b all).since ≤ i) (h2:i ≤ 4200000000) :
  savesF (footOf x b all) i = savesV x.n x.ru all i:=by
 have hcapN:(4448390400:Int) = capN:=rfl
 by_cases hru:x.ru.size = 0
 ·unfold footOf savesF savesV;rw [if_pos hru,if_pos hru]
  rfl
 ·by_cases hlen:0 < ((all.filter firesB).filter endlB).length
  ·have hF:footOf x b all = ⟨max b (settledV (all.filter firesB)),x.n.off,0,⟨#[]⟩,x.fm,(all.filter firesB).filter endlB⟩:=by unfold footOf;rw [if_neg hru,if_pos hlen]
   rw [hF] at h1 ⊢;have h1:max b (settledV (all.filter firesB)) ≤ i:=h1;unfold savesF savesV;simp only;rw [if_pos hlen,if_neg (show ¬ (⟨#[45]⟩:ByteArray).size = 0 by decide),if_neg hru];obtain ⟨r0,hr0⟩:=List.exists_mem_of_length_pos hlen;obtain ⟨hr1,hr2⟩:=List.mem_filter.1 hr0;obtain ⟨hr3,hr4⟩:=List.mem_filter.1 hr1
   obtain ⟨q,t,hqt⟩:∃ q t,all.filter firesB = q :: t:=by
    cases hx:all.filter firesB with
    | nil=>rw [hx] at hr1;cases hr1
    | cons q t=>exact ⟨q,t,rfl⟩
   have hq:q ∈ all:=(List.mem_filter.1 (show q ∈ all.filter firesB by rw [hqt];exact List.mem_cons_self)).1;have hqf:=h.small q hq;obtain ⟨g1,g2⟩:=lastL_in (L:=all.filter firesB) q.from_
   have g3:=lastL_le (L:=all.filter firesB) (B:=2105) (fun r hr=>by
    have hra:=(List.mem_filter.1 hr).1
    have e1:=h.small r hra
    refine ⟨by omega,fun e=>?_⟩
    unfold endlB at e
    rw [decide_eq_false_iff_not] at e
    have:=hend r hra
    omega) q.from_ (by omega)
   have hse:=settledV_eq hqt (by omega) (by omega);rw [hse] at h1
   have hle:latestF ((all.filter firesB).filter endlB) x.n.off i = latestF all x.n.off i:=by
    refine latest_endless h (fun r hr=>?_) (L:=lastL q.from_ (all.filter firesB)) (by omega) (fun r hr hno y hy=>?_) (fun r hr=>(g2 r (List.mem_filter.1 hr).1).1) hr0 (hsm r0 hr3).1 hr4 ho (by omega) h2
    ·obtain ⟨k1,k2⟩:=List.mem_filter.1 hr;unfold endlB at k2;exact ⟨(List.mem_filter.1 k1).1,of_decide_eq_true k2⟩
    ·have hfr:firesB r = true:=by
      cases e:firesB r with
      | true=>rfl
      | false=>rw [never_fires e y] at hy;cases hy
     have hmem:r ∈ all.filter firesB:=List.mem_filter.2 ⟨hr,hfr⟩
     have hen:endlB r = false:=by
      cases e:endlB r with
      | false=>rfl
      | true=>exact absurd (List.mem_filter.2 ⟨hmem,e⟩) hno
     have:=(g2 r hmem).2 hen;obtain ⟨-,-,-,-,-,k2,-⟩:=of_month hy;omega
   have hoff:(eraO ⟨max b (settledV (all.filter firesB)),x.n.off,0,⟨#[]⟩,x.fm,(all.filter firesB).filter endlB⟩).off = x.n.off:=rfl;rw [hoff,hle]
   cases hl:latestF all x.n.off i with
   | some f=>rfl
   | none =>
     exfalso;obtain ⟨k,hk⟩:=h.icut ho (i + 1);have e1:=yearV_mono (show 1910 ≤ lastL q.from_ (all.filter firesB) + 20 by omega);have e2:yearV 1910 = -21915:=by decide
     rw [latest_row h ho (by omega) (by omega) hk] at hl;obtain ⟨j,j1,j2,j3⟩:=leap_near (lastL q.from_ (all.filter firesB) + 2);have hr5:=(g2 r0 hr1).1;unfold endlB at hr2;have hr6:=of_decide_eq_true hr2
     have hL3:lastL q.from_ (all.filter firesB) + 20 ≤ 2105:=by
      by_cases g:lastL q.from_ (all.filter firesB) + 20 ≤ 2105
      ·exact g
      ·exfalso;have e1:=yearV_mono (show 2106 ≤ lastL q.from_ (all.filter firesB) + 20 by omega);have e2:yearV 2106 = 49673:=by decide
       omega
     have o1:=fires_leap (hsm r0 hr3).1 hr4 j3 (by omega) (by omega) (by omega) (by omega);have m1:firOf r0 j ∈ A:=(h.mem _).2 ⟨r0,hr3,j,by omega,by omega,o1,rfl⟩;obtain ⟨a,ha,ea⟩:=List.getElem_of_mem m1;have n2:=(firOf_in o1).2;have v3:=yearV_far (show j + 1 ≤ lastL q.from_ (all.filter firesB) + 20 by omega);have hka:a < k:=(hk.2 a ha).2 (by have:=(h.inst_in ho ha).2;rw [ea] at this;omega);obtain ⟨m,rfl⟩:∃ m,k = m + 1:=⟨k - 1,by omega⟩;rw [prevO_succ (by have:=hk.1;omega)] at hl
     cases hl
  ·have hen:∀ r ∈ all.filter firesB,r.to_ ≤ 2105:=fun r hr=>by
    rcases hend r (List.mem_filter.1 hr).1 with e | e
    ·exact e
    ·exfalso;apply hlen;refine List.length_pos_of_mem (a:=r) (List.mem_filter.2 ⟨hr,?_⟩);unfold endlB;exact decide_eq_true e
   obtain ⟨l1,l2⟩:=latest_ended h ho hen;rw [footOf_ref h ho hend] at h1 ⊢;obtain ⟨k,hk⟩:=h.icut ho (i + 1)
   rcases Nat.eq_zero_or_pos A.length with h0 | h0
   ·have hF:refOf x b all A = ⟨b,x.n.off,0,letV all,x.fm,[]⟩:=by unfold refOf;rw [if_neg hru,if_neg hlen,h0,prevO_zero]
    rw [hF] at h1 ⊢;unfold savesF savesV;simp only [List.length_nil,Nat.lt_irrefl,if_false];rw [if_neg hru];simp only at h1;obtain rfl:k = 0:=by have:=hk.1;omega
    rw [latest_row h ho (by omega) (by omega) hk,prevO_zero]
   ·obtain ⟨n,hn⟩:∃ n,A.length = n + 1:=⟨A.length - 1,by omega⟩;have hnl:n < A.length:=by omega
    have hF:refOf x b all A = ⟨max b (instA A x.n.off n),x.n.off,A[n].save,A[n].letter,x.fm,[]⟩:=by
     unfold refOf;rw [if_neg hru,if_neg hlen,hn,prevO_succ hnl]
     rfl
    rw [hF] at h1 ⊢;unfold savesF savesV;simp only [List.length_nil,Nat.lt_irrefl,if_false];rw [if_neg hru];simp only at h1;have hkn:n < k:=(hk.2 n hnl).2 (by omega);obtain rfl:k = n + 1:=by have:=hk.1;omega
    rw [latest_row h ho (by omega) (by omega) hk,prevO_succ hnl]
theorem hold_loc (h:FewZ S l) (hlet:∀ s ∈ S,letOk s.l) (hend:∀ name,∀ r ∈ ofRul S name,r.to_ ≤ 2105∨1048576 ≤ r.to_) {i:Int} (h1:(footZ S l).since ≤ i) (h2:i ≤ 4200000000):locZ S l i = locF (footZ S l) i:=by
 have hp:=h.pos;have hgood:=footZ_good h (few_okR h.few) hlet
 have hx:lastE l = l[l.length - 1]:=by
  unfold lastE;rw [List.getD_eq_getElem?_getD,List.getElem?_eq_getElem (by omega)]
  rfl
 have hoff:=h.off (k:=l.length - 1) (by omega);have hsv:=h.save (k:=l.length - 1) (by omega);have hkd:=h.kind (k:=l.length - 1) (by omega);have hE:(endL S l).length = l.length - 1:=by unfold endL;simp
 have hFZ:footZ S l = footOf (lastE l) (begV (endL S l)) (ofRul S (lastE l).ru):=by unfold footZ;rw [if_pos h.err]
 have hsb:begV (endL S l) ≤ (footZ S l).since:=by
  rw [hFZ];unfold footOf
  split
  ·exact Int.le_refl _
  ·split
   ·exact Int.le_max_left _ _
   ·split
    ·exact Int.le_refl _
    ·exact Int.le_max_left _ _
 have hbin:=begV_in (endL S l)
 have hfrom:fromV (endL S l) (l.length - 1) ≤ i:=by
  unfold fromV
  by_cases h0:l.length - 1 = 0
  ·rw [if_pos h0];omega
  ·rw [if_neg h0];have hlt:l.length - 1 - 1 < (endL S l).length:=by omega
   have hb:=begV_last (E:=endL S l) (n:=l.length - 1 - 1) (by omega) hlt;have he:=h.ends _ (List.getElem_mem hlt);unfold toV;rw [List.getD_eq_getElem?_getD,List.getElem?_eq_getElem hlt];simp only [Option.getD_some];omega
 have hto:i < toV (endL S l) (l.length - 1):=by
  unfold toV;rw [List.getD_eq_getElem?_getD,List.getElem?_eq_none (by omega)];simp only [Option.getD_none];omega
 rw [h.loc (k:=l.length - 1) (by omega) hfrom hto (by omega) (by omega),locF_saves];rw [← hx] at hoff hsv hkd ⊢
 have hfoot:(footZ S l).off = (lastE l).n.off∧(footZ S l).fm = (lastE l).fm:=by
  rw [hFZ];unfold footOf
  split
  ·exact ⟨rfl,rfl⟩
  ·split
   ·exact ⟨rfl,rfl⟩
   ·split <;> exact ⟨rfl,rfl⟩
 have hsaves:savesF (footZ S l) i = savesV (lastE l).n (lastE l).ru (ruleE S (lastE l)) i:=by
  rw [hFZ] at h1 ⊢
  by_cases hru:(lastE l).ru.size = 0
  ·unfold footOf savesF savesV;rw [if_pos hru,if_pos hru]
   rfl
  ·obtain ⟨A,hA⟩:=h.right (lastE l);unfold ruleE at hA ⊢;rw [if_neg hru] at hA ⊢;exact foot_saves hA hoff (set_small (fewB_iff.1 h.few).2.1 _) (hend _) hbin.1 h1 h2
 have hsg:=savesF_good hgood i;rw [hfoot.1,hfoot.2,hsaves];rw [hsaves] at hsg;unfold locW;rw [if_pos (showV_fine hkd (by omega))]
end
end
end Go.Proofs.YteekjfgjmccdnaaGreatDoor
