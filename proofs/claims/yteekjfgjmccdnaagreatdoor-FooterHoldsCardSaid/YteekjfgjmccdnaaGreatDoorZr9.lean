/-
  Layer 14 at a few world: nothing is wrong where its zone may be (plain).
-/
import Derived.RangeFuncNested
import Derived.RangeFuncBound
import Derived.RangeFuncCalls
import Derived.RangeFuncLeaves
import Derived.RangeFuncFrom
import Derived.OwnWalkIn
import Derived.TacticsInMore
import Derived.LoopNIn
import Derived.LoopIn
import Derived.Test.YteekjfgjmccdnaaGreatDoorZr8
set_option maxHeartbeats 16000000
set_option maxRecDepth 100000
namespace Go.Proofs.YteekjfgjmccdnaaGreatDoor
section -- AFew
open Go Go.RowKit Go.Shelf
def eraFewB (x:EraF):Bool:=decide (x.fm.size ≤ 100) && (!x.en || (decide ((1900 ≤ x.n.year∧x.n.year ≤ 2090)∧(1 ≤ x.n.month∧x.n.month ≤ 12)∧(-172800 ≤ x.n.sec∧x.n.sec ≤ 259200)) && dayOkB x.n.dk x.n.dw x.n.dn))
theorem eraFew_end {x:EraF} (h:eraFewB x = true) (he:x.en = true):EndOk x.n:=by
 unfold eraFewB at h;rw [he] at h;simp only [Bool.and_eq_true,Bool.not_true,Bool.false_or,decide_eq_true_eq] at h;exact ⟨h.2.1.1,h.2.1.2.1,h.2.1.2.2,h.2.2⟩
theorem eraFew_fm {x:EraF} (h:eraFewB x = true):x.fm.size ≤ 100:=by
 unfold eraFewB at h;rw [Bool.and_eq_true,decide_eq_true_eq] at h;exact h.1
noncomputable def fewB (l:List EraF) (S:List SetF):Bool:=l.all eraFewB && (S.all fun s=>rightB s.l) && (decide (l.length ≤ 4) && decide (S.length ≤ 3))
theorem fewB_iff {l:List EraF} {S:List SetF}:fewB l S = true ↔ (∀ x ∈ l,eraFewB x = true)∧(∀ s ∈ S,rightB s.l = true)∧l.length ≤ 4∧S.length ≤ 3:=by
 unfold fewB;simp only [Bool.and_eq_true,List.all_eq_true,decide_eq_true_eq,and_assoc]
theorem fewB_era {l:List EraF} {S:List SetF} {k:Nat} {x:EraF} (hk:k < l.length) (hx:l[k] = x) (h:eraFewB x = false):fewB l S = false:=by
 cases hf:fewB l S with
 | false=>rfl
 | true=>have:=(fewB_iff.1 hf).1 x (hx ▸ List.getElem_mem hk);rw [h] at this;exact absurd this (by decide)
theorem fewB_set {l:List EraF} {S:List SetF} {k:Nat} {s:SetF} (hk:k < S.length) (hs:S[k] = s) (h:rightB s.l = false):fewB l S = false:=by
 cases hf:fewB l S with
 | false=>rfl
 | true=>have:=(fewB_iff.1 hf).2.1 s (hs ▸ List.getElem_mem hk);rw [h] at this;exact absurd this (by decide)
theorem few_any (w:World) (zn:ByteArray) (ev sv:Value) (B:Nat) (l:List EraF) (S:List SetF) (he:ErasR w B ev l) (hs:SetsR w B sv S) (hB:B ≤ w.heap.size) (hfm:∀ x ∈ l,x.fm.size < 1152921504606846976) :
  Calls Tryz.prog 16 #[worldA zn ev sv] w fun o w'=>o = .returned (.bool (fewB l S))∧Below w.heap.size w w':=by
 obtain ⟨A,cA,rfl,hlc,hcm⟩:=he.form;obtain ⟨A2,cS,rfl,hlc2,hcm2⟩:=hs.form;unfold maxLen at hcm hcm2;have hb0:Below w.heap.size w (w.alloc (.cells #[.string zn,.slice A l.length cA,.slice A2 S.length cS] 27)):=(Below.refl w.heap.size w).alloc (Nat.le_refl _) _;have HX:=Lib.hid (Blk.new w 27 #[.string zn,.slice A l.length cA,.slice A2 S.length cS]);have HE:=Lib.hid (he.below (hb0.mono hB));have HS:=Lib.hid (hs.below (hb0.mono hB));have HB:=Lib.hid hb0;have HFM:=Lib.hid hfm;clear hb0 he hs hfm;unfold worldA;go_enter Tryz.func16,Tryz.ntmps16;go_wp2_with fail;obtain ⟨W0,hW0⟩:∃ W,w.alloc (.cells #[.string zn,.slice A l.length cA,.slice A2 S.length cS] 27) = W:=⟨_,rfl⟩;rw [hW0] at HX HE HS HB;try simp only [hW0]
 clear hW0
 go_loopw [3] (fun iv wr=>∃ k:Nat,k ≤ l.length∧iv = .int .i64 k∧(∀ i (h:i < l.length),i < k→eraFewB l[i] = true)∧Below w.heap.size w wr∧Below W0.heap.size W0 wr) (fun iv _=>l.length - (intOf iv).toNat)
 case atStart=>exact ⟨0,Nat.zero_le _,rfl,fun i _ h=>absurd h (by omega),HB.out,Below.refl _ _⟩
 case round =>
  obtain ⟨k,hk,rfl,hno,hbw,hbi⟩:=hrel;have HNO:=Lib.hid hno;have HBW:=Lib.hid hbw;have HBI:=Lib.hid hbi;have HXW:=Lib.hid (HX.out.below hbi HX.out.lt);have hws:=hbw.size;have hxl:=HXW.out.lt;have x1:=HXW.out.cell 1 (v:=.slice A l.length cA) rfl;have x2:=HXW.out.cell 2 (v:=.slice A2 S.length cS) rfl;have HEW:=Lib.hid (HE.out.below (hbi.mono (Nat.le_trans hB HB.out.size)));clear hno hbw hbi
  by_cases hlt:k < l.length
  ·have hd:decide ((k:Int) < (l.length:Int)) = true:=decide_eq_true (by omega);obtain ⟨bb,o,c',e,hbb,hc⟩:=HEW.out.cells (by omega)
   cases e
   have hx:=hc k hlt;have hf9:=HFM.out _ (List.getElem_mem hlt);obtain ⟨x,hxk⟩:∃ x,l[k] = x:=⟨_,rfl⟩;rw [hxk] at hx hf9;have HXK:=Lib.hid hxk;obtain ⟨c0,c1,c2,c3,c4,c5,c6,c7,c8,c9,c10,c11⟩:=hx;have HBAD:=Lib.hid (fun h=>fewB_era (S:=S) hlt hxk h);have HDF:=Lib.hid (fun W=>dfcheck_any x.n.dk x.n.dw x.n.dn W);unfold dayA at HDF;clear hc hxk
   by_cases h1:100 < x.fm.size
   ·have d1:decide ((100:Int) < (x.fm.size:Int)) = true:=decide_eq_true (by omega);have HN:=Lib.hid (HBAD.out (by unfold eraFewB;rw [decide_eq_false (by omega)];rfl));go_wp2_with fail;go_ret;exact ⟨by rw [HN.out];rfl,((HBW.out).alloc hws _).alloc (by simp;omega) _⟩
   ·have d1:decide ((100:Int) < (x.fm.size:Int)) = false:=decide_eq_false (by omega);obtain ⟨en,hen⟩:∃ en,x.en = en:=⟨_,rfl⟩;rw [hen] at c4
    cases en with
    | false =>
      have HOK:=Lib.hid (show eraFewB x = true by unfold eraFewB;rw [decide_eq_true (by omega),hen];rfl);go_wp2_with fail;go_roundw
      case rel =>
       refine ⟨k + 1,by omega,by go_num,fun i h hik=>?_,((HBW.out).alloc hws _).alloc (by simp;omega) _,((HBI.out).alloc HBI.out.size _).alloc (by have:=HBI.out.size;simp;omega) _⟩
       rcases Nat.lt_or_ge i k with g | g
       ·exact HNO.out i h g
       ·obtain rfl:i = k:=by omega
        rw [HXK.out];exact HOK.out
      case measure=>simp [intOf];omega
    | true =>
      by_cases g0:x.n.year < 1900
      ·have e0:decide (x.n.year < 1900) = true:=decide_eq_true g0;have HN:=Lib.hid (HBAD.out (by unfold eraFewB;rw [hen,decide_eq_false (p:=(1900 ≤ x.n.year∧x.n.year ≤ 2090)∧(1 ≤ x.n.month∧x.n.month ≤ 12)∧(-172800 ≤ x.n.sec∧x.n.sec ≤ 259200)) (by omega)];simp));go_wp2_with fail;go_ret;exact ⟨by rw [HN.out];rfl,((HBW.out).alloc hws _).alloc (by simp;omega) _⟩
      ·have e0:decide (x.n.year < 1900) = false:=decide_eq_false g0
       by_cases g1:2090 < x.n.year
       ·have e1:decide (2090 < x.n.year) = true:=decide_eq_true g1;have HN:=Lib.hid (HBAD.out (by unfold eraFewB;rw [hen,decide_eq_false (p:=(1900 ≤ x.n.year∧x.n.year ≤ 2090)∧(1 ≤ x.n.month∧x.n.month ≤ 12)∧(-172800 ≤ x.n.sec∧x.n.sec ≤ 259200)) (by omega)];simp));go_wp2_with fail;go_ret;exact ⟨by rw [HN.out];rfl,((HBW.out).alloc hws _).alloc (by simp;omega) _⟩
       ·have e1:decide (2090 < x.n.year) = false:=decide_eq_false g1
        by_cases g2:x.n.month < 1
        ·have e2:decide (x.n.month < 1) = true:=decide_eq_true g2;have HN:=Lib.hid (HBAD.out (by unfold eraFewB;rw [hen,decide_eq_false (p:=(1900 ≤ x.n.year∧x.n.year ≤ 2090)∧(1 ≤ x.n.month∧x.n.month ≤ 12)∧(-172800 ≤ x.n.sec∧x.n.sec ≤ 259200)) (by omega)];simp));go_wp2_with fail;go_ret;exact ⟨by rw [HN.out];rfl,((HBW.out).alloc hws _).alloc (by simp;omega) _⟩
        ·have e2:decide (x.n.month < 1) = false:=decide_eq_false g2
         by_cases g3:12 < x.n.month
         ·have e3:decide (12 < x.n.month) = true:=decide_eq_true g3;have HN:=Lib.hid (HBAD.out (by unfold eraFewB;rw [hen,decide_eq_false (p:=(1900 ≤ x.n.year∧x.n.year ≤ 2090)∧(1 ≤ x.n.month∧x.n.month ≤ 12)∧(-172800 ≤ x.n.sec∧x.n.sec ≤ 259200)) (by omega)];simp));go_wp2_with fail;go_ret;exact ⟨by rw [HN.out];rfl,((HBW.out).alloc hws _).alloc (by simp;omega) _⟩
         ·have e3:decide (12 < x.n.month) = false:=decide_eq_false g3
          by_cases g4:x.n.sec < -172800
          ·have e4:decide (x.n.sec < -172800) = true:=decide_eq_true g4;have HN:=Lib.hid (HBAD.out (by unfold eraFewB;rw [hen,decide_eq_false (p:=(1900 ≤ x.n.year∧x.n.year ≤ 2090)∧(1 ≤ x.n.month∧x.n.month ≤ 12)∧(-172800 ≤ x.n.sec∧x.n.sec ≤ 259200)) (by omega)];simp));go_wp2_with fail;go_ret;exact ⟨by rw [HN.out];rfl,((HBW.out).alloc hws _).alloc (by simp;omega) _⟩
          ·have e4:decide (x.n.sec < -172800) = false:=decide_eq_false g4
           by_cases g5:259200 < x.n.sec
           ·have e5:decide (259200 < x.n.sec) = true:=decide_eq_true g5;have HN:=Lib.hid (HBAD.out (by unfold eraFewB;rw [hen,decide_eq_false (p:=(1900 ≤ x.n.year∧x.n.year ≤ 2090)∧(1 ≤ x.n.month∧x.n.month ≤ 12)∧(-172800 ≤ x.n.sec∧x.n.sec ≤ 259200)) (by omega)];simp));go_wp2_with fail;go_ret;exact ⟨by rw [HN.out];rfl,((HBW.out).alloc hws _).alloc (by simp;omega) _⟩
           ·have e5:decide (259200 < x.n.sec) = false:=decide_eq_false g5
            cases hdk:dayOkB x.n.dk x.n.dw x.n.dn with
            | false =>
              simp only [hdk,Bool.false_eq_true,if_false] at HDF;have HN:=Lib.hid (HBAD.out (by unfold eraFewB;rw [hen,hdk];simp));go_wp2_with fail;refine (HDF.out _).mono ?_;rintro e w2 ⟨rfl,hb⟩;have HB2:=Lib.hid ((((HBW.out).alloc hws _).alloc (by simp;omega) _).trans (hb.mono (by simp;omega)));have HQ2:=Lib.hid (((Below.refl wr.heap.size wr).alloc (Nat.le_refl _) _).alloc (by simp) _ |>.trans (hb.mono (by simp;omega)));clear hb;go_wp2_with fail;go_ret;exact ⟨by rw [HN.out];rfl,HB2.out⟩
            | true =>
              simp only [hdk,if_true] at HDF;have HOK:=Lib.hid (show eraFewB x = true by unfold eraFewB;rw [hen,hdk,decide_eq_true (by omega),decide_eq_true (p:=(1900 ≤ x.n.year∧x.n.year ≤ 2090)∧(1 ≤ x.n.month∧x.n.month ≤ 12)∧(-172800 ≤ x.n.sec∧x.n.sec ≤ 259200)) (by omega)];rfl);go_wp2_with fail;refine (HDF.out _).mono ?_;rintro e w2 ⟨rfl,hb⟩;have HB2:=Lib.hid ((((HBW.out).alloc hws _).alloc (by simp;omega) _).trans (hb.mono (by simp;omega)));have HQ2:=Lib.hid (((Below.refl wr.heap.size wr).alloc (Nat.le_refl _) _).alloc (by simp) _ |>.trans (hb.mono (by simp;omega)));clear hb;go_wp2_with fail;go_roundw
              case rel =>
               refine ⟨k + 1,by omega,by go_num,fun i h hik=>?_,HB2.out,HBI.out.trans (HQ2.out.mono HBI.out.size)⟩
               rcases Nat.lt_or_ge i k with g | g
               ·exact HNO.out i h g
               ·obtain rfl:i = k:=by omega
                rw [HXK.out];exact HOK.out
              case measure=>simp [intOf];omega
  ·obtain rfl:k = l.length:=by omega
   have hd:decide ((l.length:Int) < (l.length:Int)) = false:=decide_eq_false (by omega);obtain ⟨w1,hw1⟩:∃ x,x = wr:=⟨_,rfl⟩;subst hw1
   have HALL:=Lib.hid (show ∀ x ∈ l,eraFewB x = true from fun x hx=>by
    obtain ⟨i,hi,rfl⟩:=List.getElem_of_mem hx
    exact HNO.out i hi hi)
   have HSW:=Lib.hid (HS.out.below (HBI.out.mono (Nat.le_trans hB HB.out.size)));have hbw:=Nat.le_trans hB hws;clear HNO HE HS HBI hk;go_wp2_with fail
   go_loopw [6] (fun iv W2=>∃ k:Nat,k ≤ S.length∧iv = .int .i64 k∧(∀ i (h:i < S.length),i < k→rightB S[i].l = true)∧Below w1.heap.size w1 W2) (fun iv _=>S.length - (intOf iv).toNat)
   case atStart=>exact ⟨0,Nat.zero_le _,rfl,fun i _ h=>absurd h (by omega),Below.refl _ _⟩
   case round =>
    obtain ⟨j,hj,rfl,hno,hb2⟩:=hrel;have HNO:=Lib.hid hno;have HB2:=Lib.hid hb2;have hws2:=hb2.size;have HX2:=Lib.hid (HXW.out.below hb2 hxl);have HS2:=Lib.hid (HSW.out.below (hb2.mono hbw));have hxl2:=HX2.out.lt;have x1:=HX2.out.cell 1 (v:=.slice A l.length cA) rfl;have x2:=HX2.out.cell 2 (v:=.slice A2 S.length cS) rfl;clear hno hb2
    by_cases hlt:j < S.length
    ·have hd:decide ((j:Int) < (S.length:Int)) = true:=decide_eq_true (by omega);obtain ⟨bb,o,c',e,hbb,hc⟩:=HS2.out.cells (by omega)
     cases e
     obtain ⟨-,c1⟩:=hc j hlt;have HRU:=Lib.hid (HS2.out.2 S[j] (List.getElem_mem hlt));have HBAD:=Lib.hid (fun s hs h=>fewB_set (l:=l) (s:=s) hlt hs h);obtain ⟨s,hsk⟩:∃ s,S[j] = s:=⟨_,rfl⟩;have HSK:=Lib.hid hsk;rw [hsk] at c1 HRU;have HRI:=Lib.hid (right_any wr B s.v s.l HRU.out (by omega));have HBAD2:=Lib.hid (HBAD.out s hsk);clear hc hsk HBAD;generalize s.v = vs at *
     cases hr:rightB s.l with
     | false =>
       have HN:=Lib.hid (HBAD2.out hr);rw [hr] at HRI;go_wp2_with fail;refine HRI.out.mono ?_;rintro e w3 ⟨⟨u,rfl⟩,hb⟩;have HB3:=Lib.hid (HBW.out.trans ((HB2.out.trans (hb.mono hws2)).mono hws));clear hb;go_wp2_with fail;go_ret;exact ⟨by rw [HN.out];rfl,HB3.out⟩
     | true =>
       have HR9:=Lib.hid hr;rw [hr] at HRI;clear hr;go_wp2_with fail;refine HRI.out.mono ?_;rintro e w3 ⟨⟨u,rfl⟩,hb⟩;have HB3:=Lib.hid (HB2.out.trans (hb.mono hws2));clear hb;go_wp2_with fail;go_roundw
       case rel =>
        refine ⟨j + 1,by omega,by go_num,fun i h hik=>?_,HB3.out⟩
        rcases Nat.lt_or_ge i j with g | g
        ·exact HNO.out i h g
        ·obtain rfl:i = j:=by omega
         rw [HSK.out];exact HR9.out
       case measure=>simp [intOf];omega
    ·obtain rfl:j = S.length:=by omega
     have hd2:decide ((S.length:Int) < (S.length:Int)) = false:=decide_eq_false (by omega)
     have HALS:=Lib.hid (show ∀ x ∈ S,rightB x.l = true from fun x hx=>by
      obtain ⟨i,hi,rfl⟩:=List.getElem_of_mem hx
      exact HNO.out i hi hi)
     have HV:=Lib.hid (show fewB l S = (decide (l.length ≤ 4) && decide (S.length ≤ 3)) by
      unfold fewB
      rw [List.all_eq_true.2 HALL.out,List.all_eq_true.2 HALS.out]
      rfl)
     have HB3:=Lib.hid (HBW.out.trans (HB2.out.mono hws))
     by_cases h4:l.length ≤ 4
     ·have d4:decide ((l.length:Int) ≤ 4) = true:=decide_eq_true (by omega);rw [decide_eq_true h4] at HV
      by_cases h3:S.length ≤ 3
      ·have d3:decide ((S.length:Int) ≤ 3) = true:=decide_eq_true (by omega);rw [decide_eq_true h3] at HV;go_wp2_with fail;go_ret;exact ⟨by rw [HV.out];rfl,HB3.out⟩
      ·have d3:decide ((S.length:Int) ≤ 3) = false:=decide_eq_false (by omega);rw [decide_eq_false h3] at HV;go_wp2_with fail;go_ret;exact ⟨by rw [HV.out];rfl,HB3.out⟩
     ·have d4:decide ((l.length:Int) ≤ 4) = false:=decide_eq_false (by omega);rw [decide_eq_false h4] at HV;go_wp2_with fail;go_ret;exact ⟨by rw [HV.out];rfl,HB3.out⟩
end
section -- AWithM
open Go Go.RowKit Go.Shelf
theorem right_nil:rightB [] = true:=rightB_iff.2 ⟨rfl,fun r hr=>(by cases hr),[],Stab.nil,rfl⟩
theorem set_right {S:List SetF} (h:∀ s ∈ S,rightB s.l = true) (name:ByteArray):rightB (ofRul S name) = true:=by
 unfold ofRul
 cases hs:ofS S name with
 | none=>exact right_nil
 | some s=>exact h s (List.mem_of_find?_eq_some hs)
theorem right_small {l:List Rul} (h:rightB l = true):smallB l = true:=(rightB_iff.1 h).1
theorem right_ok {l:List Rul} (h:rightB l = true):RuOk l where
 yr:=small_yr (right_small h)
 sv:=right_sv h
 len:=by have:=(small_all (right_small h)).2;omega
 mon:=fun z hz=>small_mo ((small_all (right_small h)).1 z hz)
def letOk (l:List Rul):Prop:=∀ r ∈ l,r.letter.size ≤ 140737488351232
theorem bestR_mem {l:List Rul} {r:Rul} (h:bestR l = some r):r ∈ l:=by
 have hg:∀ (l:List Rul) (b:Option Rul),l.foldl bestS b = some r→b = some r∨r ∈ l:=by
  intro l
  induction l with
  | nil=>exact fun b h=>.inl h
  | cons x t ih =>
    intro b h;rw [List.foldl_cons] at h
    rcases ih _ h with h2 | h2
    ·unfold bestS at h2
     split at h2
     ·split at h2
      ·right;injection h2 with h2;subst h2;exact List.mem_cons_self
      ·split at h2
       ·right;injection h2 with h2;subst h2;exact List.mem_cons_self
       ·exact .inl h2
     ·exact .inl h2
    ·exact .inr (List.mem_cons_of_mem _ h2)
 rcases hg l none h with h2 | h2
 ·cases h2
 ·exact h2
theorem letV_in {l:List Rul} (h:letOk l):(letV l).size ≤ 140737488351232:=by
 unfold letV
 cases hb:bestR l with
 | none=>exact (by decide)
 | some r=>exact h r (bestR_mem hb)
theorem fires_let {l:List Rul} {f:Fir} (h:letOk l) (hf:Fires l f):f.letter.size ≤ 140737488351232:=by
 obtain ⟨r,hr,y,-,rfl⟩:=hf;exact h r hr
theorem end_eq {e:EraN} {ru:ByteArray} {l:List Rul} {A:List Fir} (h:RightR l A) (ho:-90000 < e.off∧e.off < 90000) (he:EndOk e) (hb:rnomB e = true):endN e ru l = rendV e ru A:=by
 have hn:rnomV e = nomV e:=by unfold rnomV;rw [if_pos hb]
 have hin:=he.rnom_in;unfold endN rendV;rw [hn] at hin ⊢;rw [end_save h ho (by omega) (by unfold capN;omega)]
theorem D_fires {l:List Rul} {D:List FrI} (hst:Stab Fir.nominal (genL l 1890 2110) (D.map FrI.f)):∀ x ∈ D,Fires l x.f:=fun x hx=>by
 have hm:x.f ∈ genL l 1890 2110:=hst.1.mem_iff.1 (List.mem_map.2 ⟨x,hx,rfl⟩);unfold genL genR at hm;rw [List.mem_flatMap] at hm;obtain ⟨r,hr,hm⟩:=hm;rw [List.mem_map] at hm;obtain ⟨y,hy,e⟩:=hm;rw [List.mem_filter] at hy;exact ⟨r,hr,y,hy.2,e.symm⟩
theorem D_ok {l:List Rul} (hr:rightB l = true) {D:List FrI} (hst:Stab Fir.nominal (genL l 1890 2110) (D.map FrI.f)):D.length ≤ 100000∧∀ x ∈ D,(-1000000000000000 ≤ x.f.nominal∧x.f.nominal ≤ 1000000000000000)∧-1000000000000000 ≤ x.f.save∧x.f.save ≤ 1000000000000000:=by
 constructor
 ·have h1:=hst.1.length_eq;rw [List.length_map] at h1;have h2:(genL l 1890 2110).length ≤ l.length * 221:=genL_len l 1890 2110;have h3:=(small_all (right_small hr)).2;omega
 ·exact fun x hx=>⟨D_nom hst x hx,right_sv hr _ (D_fires hst x hx)⟩
end
section -- GMath
open Go Go.RowKit Go.Shelf
def ruleE (S:List SetF) (x:EraF):List Rul:=if x.ru.size = 0 then [] else ofRul S x.ru
def rvalE (S:List SetF) (x:EraF):Value:=if x.ru.size = 0 then .slice none 0 0 else ofVal S x.ru
def errE (x:EraF) (last:Bool):Int :=
 if (kindR x.fm.data.toList).2 = 0 then
  (if withinB x.n.off && withinB x.n.save then
    (if (decide (x.ru.size ≠ 0) && decide (x.n.save ≠ 0)) || (x.en == last) then 12
      else if x.en then (nomR x.n).2 else 0)
    else 10)
 else (kindR x.fm.data.toList).2
def missB (S:List SetF) (x:EraF):Bool:=decide (x.ru.size ≠ 0) && decide ((ofRul S x.ru).length = 0)
def errAt (l:List EraF) (i:Nat):Int:=match l[i]? with | some x=>errE x (decide (i + 1 = l.length)) | none=>0
def errsF (l:List EraF):Int:=match (List.range l.length).find? (fun i=>decide (errAt l i ≠ 0)) with | some i=>errAt l i | none=>0
def endL (S:List SetF) (l:List EraF):List Int:=l.dropLast.map fun x=>endN x.n x.ru (ruleE S x)
def riseI (l:List Int):Bool:=(List.range (l.length - 1)).all fun i=>decide (l.getD i 0 < l.getD (i + 1) 0)
def errZ (S:List SetF) (l:List EraF):Int :=
 if l.length = 0∨l.any (missB S) = true then 16 else if errsF l ≠ 0 then errsF l else if riseI (endL S l) then 0 else 17
theorem errAt_eq {l:List EraF} {i:Nat} (h:i < l.length):errAt l i = errE l[i] (decide (i + 1 = l.length)):=by unfold errAt;rw [List.getElem?_eq_getElem h]
theorem errsF_at {l:List EraF} {k:Nat} (hk:k < l.length) (hno:∀ i,i < k→errAt l i = 0) (h:errAt l k ≠ 0):errsF l = errAt l k:=by
 have:(List.range l.length).find? (fun i=>decide (errAt l i ≠ 0)) = some k:=by
  rw [List.find?_eq_some_iff_getElem];refine ⟨by simpa using h,k,by simpa using hk,by simp,fun j hj=>?_⟩;simp [hno j hj]
 unfold errsF;rw [this]
theorem errsF_none {l:List EraF} (h:∀ i,i < l.length→errAt l i = 0):errsF l = 0:=by
 have:(List.range l.length).find? (fun i=>decide (errAt l i ≠ 0)) = none:=by
  rw [List.find?_eq_none];intro i hi;simp [h i (by simpa using hi)]
 unfold errsF;rw [this]
theorem errsF_zero {l:List EraF} (h:errsF l = 0):∀ i,i < l.length→errAt l i = 0:=by
 intro i hi;unfold errsF at h
 cases hf:(List.range l.length).find? (fun i=>decide (errAt l i ≠ 0)) with
 | none =>
   rw [List.find?_eq_none] at hf;have:=hf i (by simpa using hi);simpa using this
 | some k =>
   rw [hf] at h;have:=List.find?_some hf;simp at this;exact absurd h this
theorem errZ_none {S:List SetF} {l:List EraF} (h:l.length = 0):errZ S l = 16:=by unfold errZ;rw [if_pos (.inl h)]
theorem errZ_miss {S:List SetF} {l:List EraF} {k:Nat} (hk:k < l.length) (h:missB S l[k] = true):errZ S l = 16:=by
 unfold errZ;rw [if_pos (.inr (List.any_eq_true.2 ⟨_,List.getElem_mem hk,h⟩))]
theorem errZ_there {S:List SetF} {l:List EraF} (h0:l.length ≠ 0) (h:∀ i (hi:i < l.length),missB S l[i] = false):errZ S l = if errsF l ≠ 0 then errsF l else if riseI (endL S l) then 0 else 17:=by
 unfold errZ;rw [if_neg];rintro (e | e)
 ·exact h0 e
 ·obtain ⟨x,hx,he⟩:=List.any_eq_true.1 e;obtain ⟨i,hi,rfl⟩:=List.getElem_of_mem hx;rw [h i hi] at he
  cases he
theorem length_endL (S:List SetF) (l:List EraF):(endL S l).length = l.length - 1:=by unfold endL;simp
theorem endL_at {S:List SetF} {l:List EraF} {i:Nat} (h:i + 1 < l.length):(endL S l)[i]? = some (endN l[i].n l[i].ru (ruleE S l[i])):=by
 unfold endL;rw [List.getElem?_map,List.getElem?_dropLast,if_pos (by omega),List.getElem?_eq_getElem (by omega)]
 rfl
theorem endL_get {S:List SetF} {l:List EraF} {i:Nat} (h:i + 1 < l.length):(endL S l).getD i 0 = endN l[i].n l[i].ru (ruleE S l[i]):=by
 rw [List.getD_eq_getElem?_getD,endL_at h];rfl
theorem riseI_iff {l:List Int}:riseI l = true ↔ ∀ i,i + 1 < l.length→l.getD i 0 < l.getD (i + 1) 0:=by
 unfold riseI;rw [List.all_eq_true]
 constructor
 ·exact fun h i hi=>of_decide_eq_true (h i (by simp;omega))
 ·exact fun h i hi=>decide_eq_true (h i (by have:=List.mem_range.1 hi;omega))
theorem riseI_no {l:List Int} {i:Nat} (hi:i + 1 < l.length) (h:l.getD (i + 1) 0 ≤ l.getD i 0):riseI l = false:=by
 cases hr:riseI l with
 | false=>rfl
 | true=>have:=riseI_iff.1 hr i hi;omega
def eraI (ends:List Int) (i:Int):Nat:=(ends.findIdx fun n=>decide (i < n))
theorem eraI_at {ends:List Int} {i:Int} {k:Nat} (hk:k < ends.length) (hno:∀ j (h:j < ends.length),j < k→¬ i < ends[j]) (h:i < ends[k]):eraI ends i = k:=by
 unfold eraI;rw [List.findIdx_eq hk];exact ⟨decide_eq_true h,fun j hj=>decide_eq_false (hno j (by omega) hj)⟩
theorem eraI_none {ends:List Int} {i:Int} (hno:∀ j (h:j < ends.length),¬ i < ends[j]):eraI ends i = ends.length:=by
 unfold eraI;rw [List.findIdx_eq_length];intro x hx;obtain ⟨j,hj,rfl⟩:=List.getElem_of_mem hx;exact decide_eq_false (hno j hj)
theorem eraI_le (ends:List Int) (i:Int):eraI ends i ≤ ends.length:=List.findIdx_le_length
theorem errZ_zero {S:List SetF} {l:List EraF} (h:errZ S l = 0):l.length ≠ 0∧(∀ i (hi:i < l.length),missB S l[i] = false)∧(∀ i,i < l.length→errAt l i = 0)∧riseI (endL S l) = true:=by
 unfold errZ at h
 split at h
 ·cases h
 ·rename_i hn;have hn1:l.length ≠ 0:=fun e=>hn (.inl e)
  have hn2:∀ i (hi:i < l.length),missB S l[i] = false:=fun i hi=>by
   cases hm:missB S l[i] with
   | false=>rfl
   | true=>exact absurd (.inr (List.any_eq_true.2 ⟨_,List.getElem_mem hi,hm⟩)) hn
  split at h
  ·rename_i he;exact absurd h he
  ·rename_i he
   split at h
   ·rename_i hr;exact ⟨hn1,hn2,errsF_zero (Classical.not_not.1 he),hr⟩
   ·cases h
theorem errE_zero {x:EraF} {last:Bool} (h:errE x last = 0):(kindR x.fm.data.toList).2 = 0∧(-90000 < x.n.off∧x.n.off < 90000)∧(-90000 < x.n.save∧x.n.save < 90000)∧x.en = !last∧(x.ru.size ≠ 0→x.n.save = 0)∧(x.en = true→nomB x.n = true):=by
 unfold errE at h
 split at h
 ·rename_i hk
  split at h
  ·rename_i hw;rw [Bool.and_eq_true] at hw
   split at h
   ·cases h
   ·rename_i hf;rw [Bool.or_eq_true,not_or,Bool.and_eq_true,not_and,decide_eq_true_eq] at hf;refine ⟨hk,withinB_iff.1 hw.1,withinB_iff.1 hw.2,?_,fun h0=>?_,fun he=>?_⟩
    ·have:=hf.2
     revert this
     cases x.en <;> cases last <;> simp
    ·have:=hf.1 h0;simpa using this
    ·rw [if_pos he] at h;unfold nomR at h
     cases hb:nomB x.n with
     | true=>rfl
     | false=>rw [hb] at h;simp at h
  ·cases h
 ·rename_i hk;exact absurd h hk
end
section -- GCheck
open Go Go.RowKit Go.Shelf
theorem zcheck_any (x:EraF) (last:Bool) (w:World) (hs:x.fm.size < 4294967281) (hm:Tryz.MaxL w) (ha:Ahead w) :
  Calls Tryz.prog 66 #[eraA x.n x.ru x.fm x.en,.bool last] w fun o w'=>o = .returned (.int .i64 (errE x last))∧Below w.heap.size w w':=by
 unfold eraA;have hb0:=(Below.refl w.heap.size w).alloc (Nat.le_refl _) (.cells (eraC x.n x.ru x.fm x.en) 42);have hblk:=Blk.new w 42 (eraC x.n x.ru x.fm x.en);unfold eraC at hb0 hblk
 rcases kindR_cases x.fm.data.toList with h | h
 ·have HK:=fun W=>kind_at x.fm hs _ _ (show kindR x.fm.data.toList = ((kindR x.fm.data.toList).1,0) by rw [← h]) W
  have H0:=Lib.hid h;have HN:=Lib.hid (fun (W:World) (hb:Below w.heap.size w W)=>nominal_any W x.n (ha.below hb (Nat.le_refl _)));unfold untilA at HN;clear h;generalize (kindR x.fm.data.toList).1 = k at HK;go_enter Tryz.func66,Tryz.ntmps66;go_wp2_with fail;refine (HK _ (hm.below hb0 (Nat.le_refl _))).mono ?_;rintro o w1 ⟨rfl,hb⟩;have hbl:=hblk.below hb hblk.lt;have q0:=hbl.cell 0 (v:=.int .i64 x.n.off) rfl;have q1:=hbl.cell 1 (v:=.string x.ru) rfl;have q2:=hbl.cell 2 (v:=.int .i64 x.n.save) rfl;have q4:=hbl.cell 4 (v:=.bool x.en) rfl;have q5:=hbl.cell 5 (v:=.int .i64 x.n.year) rfl;have q6:=hbl.cell 6 (v:=.int .i64 x.n.month) rfl;have q7:=hbl.cell 7 (v:=.int .i64 x.n.dk) rfl;have q8:=hbl.cell 8 (v:=.int .i64 x.n.dw) rfl;have q9:=hbl.cell 9 (v:=.int .i64 x.n.dn) rfl;have q10:=hbl.cell 10 (v:=.int .i64 x.n.sec) rfl;have q11:=hbl.cell 11 (v:=.int .i64 x.n.ak) rfl;have HB:=Lib.hid (hb0.trans (hb.mono hb0.size));clear hb hb0 hblk hbl hm ha HK
  cases g1:withinB x.n.off
  ·have H1:=within_at x.n.off _ g1;have HV:=Lib.hid (show errE x last = 10 by unfold errE;rw [if_pos H0.out,g1];rfl);go_wp2_with fail;refine (H1 _).mono ?_;rintro o w2 ⟨rfl,rfl⟩;go_wp2_with fail;go_ret;exact ⟨by rw [HV.out];rfl,HB.out⟩
  ·have H1:=within_at x.n.off _ g1
   cases g2:withinB x.n.save
   ·have H2:=within_at x.n.save _ g2;have HV:=Lib.hid (show errE x last = 10 by unfold errE;rw [if_pos H0.out,g1,g2];rfl);go_wp2_with fail;refine (H1 _).mono ?_;rintro o w2 ⟨rfl,rfl⟩;go_wp2_with fail;refine (H2 _).mono ?_;rintro o w2 ⟨rfl,rfl⟩;go_wp2_with fail;go_ret;exact ⟨by rw [HV.out];rfl,HB.out⟩
   ·have H2:=within_at x.n.save _ g2;have HE:=Lib.hid (show errE x last = if (decide (x.ru.size ≠ 0) && decide (x.n.save ≠ 0)) || (x.en == last) then 12 else if x.en then (nomR x.n).2 else 0 by unfold errE;rw [if_pos H0.out,g1,g2];rfl);obtain ⟨bad,hbad⟩:∃ b,(decide (x.ru.size ≠ 0) && decide (x.n.save ≠ 0)) = b:=⟨_,rfl⟩
    cases bad with
    | true =>
      have hb2:=hbad;rw [Bool.and_eq_true,decide_eq_true_eq,decide_eq_true_eq] at hb2;have hr0:=hb2.1;have hs0:=hb2.2;clear hb2;have HV:=Lib.hid (show errE x last = 12 by rw [HE.out,hbad];rfl);have hem:(x.ru.toList == []) = false:=by rw [emp_size,decide_eq_false hr0]
      have hsv:(x.n.save != 0) = true:=by simpa using hs0
      clear hr0 hs0 hbad HE g1 g2 HN;go_wp2_with fail;refine (H1 _).mono ?_;rintro o w2 ⟨rfl,rfl⟩;go_wp2_with fail;refine (H2 _).mono ?_;rintro o w2 ⟨rfl,rfl⟩;go_wp2_with fail;go_ret;exact ⟨by rw [HV.out];rfl,HB.out⟩
    | false =>
      have HE2:=Lib.hid (show errE x last = if (x.en == last) then 12 else if x.en then (nomR x.n).2 else 0 by rw [HE.out,hbad];rfl);obtain ⟨ee,hee⟩:∃ b,x.en = b:=⟨_,rfl⟩;rw [hee] at q4 HE2
      by_cases hr0:x.ru.size = 0
      ·have hem:(x.ru.toList == []) = true:=by rw [emp_size,decide_eq_true hr0]
       clear hbad hr0 hee HE g1 g2
       cases ee <;> cases last
       ·have HV:=Lib.hid (show errE x false = 12 from HE2.out);go_wp2_with fail;refine (H1 _).mono ?_;rintro o w2 ⟨rfl,rfl⟩;go_wp2_with fail;refine (H2 _).mono ?_;rintro o w2 ⟨rfl,rfl⟩;go_wp2_with fail;go_ret;exact ⟨by rw [HV.out];rfl,HB.out⟩
       ·have HV:=Lib.hid (show errE x true = 0 from HE2.out);go_wp2_with fail;refine (H1 _).mono ?_;rintro o w2 ⟨rfl,rfl⟩;go_wp2_with fail;refine (H2 _).mono ?_;rintro o w2 ⟨rfl,rfl⟩;go_wp2_with fail;go_ret;exact ⟨by rw [HV.out];rfl,HB.out⟩
       ·have HV:=Lib.hid (show errE x false = (nomR x.n).2 from HE2.out);go_wp2_with fail;refine (H1 _).mono ?_;rintro o w2 ⟨rfl,rfl⟩;go_wp2_with fail;refine (H2 _).mono ?_;rintro o w2 ⟨rfl,rfl⟩;go_wp2_with fail;refine (HN.out _ HB.out).mono ?_;rintro o w3 ⟨rfl,hb⟩;have HB3:=Lib.hid (HB.out.trans (hb.mono HB.out.size));clear hb;go_wp2_with fail;go_ret;exact ⟨by rw [HV.out];rfl,HB3.out⟩
       ·have HV:=Lib.hid (show errE x true = 12 from HE2.out);go_wp2_with fail;refine (H1 _).mono ?_;rintro o w2 ⟨rfl,rfl⟩;go_wp2_with fail;refine (H2 _).mono ?_;rintro o w2 ⟨rfl,rfl⟩;go_wp2_with fail;go_ret;exact ⟨by rw [HV.out];rfl,HB.out⟩
      ·have hem:(x.ru.toList == []) = false:=by rw [emp_size,decide_eq_false hr0]
       have hsv:(x.n.save != 0) = false:=by
        have:x.n.save = 0:=by
         rw [decide_eq_true hr0,Bool.true_and,decide_eq_false_iff_not] at hbad;omega
        simpa using this
       clear hbad hr0 hee HE g1 g2
       cases ee <;> cases last
       ·have HV:=Lib.hid (show errE x false = 12 from HE2.out);go_wp2_with fail;refine (H1 _).mono ?_;rintro o w2 ⟨rfl,rfl⟩;go_wp2_with fail;refine (H2 _).mono ?_;rintro o w2 ⟨rfl,rfl⟩;go_wp2_with fail;go_ret;exact ⟨by rw [HV.out];rfl,HB.out⟩
       ·have HV:=Lib.hid (show errE x true = 0 from HE2.out);go_wp2_with fail;refine (H1 _).mono ?_;rintro o w2 ⟨rfl,rfl⟩;go_wp2_with fail;refine (H2 _).mono ?_;rintro o w2 ⟨rfl,rfl⟩;go_wp2_with fail;go_ret;exact ⟨by rw [HV.out];rfl,HB.out⟩
       ·have HV:=Lib.hid (show errE x false = (nomR x.n).2 from HE2.out);go_wp2_with fail;refine (H1 _).mono ?_;rintro o w2 ⟨rfl,rfl⟩;go_wp2_with fail;refine (H2 _).mono ?_;rintro o w2 ⟨rfl,rfl⟩;go_wp2_with fail;refine (HN.out _ HB.out).mono ?_;rintro o w3 ⟨rfl,hb⟩;have HB3:=Lib.hid (HB.out.trans (hb.mono HB.out.size));clear hb;go_wp2_with fail;go_ret;exact ⟨by rw [HV.out];rfl,HB3.out⟩
       ·have HV:=Lib.hid (show errE x true = 12 from HE2.out);go_wp2_with fail;refine (H1 _).mono ?_;rintro o w2 ⟨rfl,rfl⟩;go_wp2_with fail;refine (H2 _).mono ?_;rintro o w2 ⟨rfl,rfl⟩;go_wp2_with fail;go_ret;exact ⟨by rw [HV.out];rfl,HB.out⟩
 ·have HK:=fun W=>kind_at x.fm hs _ _ h W
  have HV:=Lib.hid (show errE x last = 12 by unfold errE;rw [h];rfl);clear h;go_enter Tryz.func66,Tryz.ntmps66;go_wp2_with fail;refine (HK _ (hm.below hb0 (Nat.le_refl _))).mono ?_;rintro o w1 ⟨rfl,hb⟩;have HB:=Lib.hid (hb0.trans (hb.mono hb0.size));clear hb hb0 hblk hm;go_wp2_with fail;go_ret;exact ⟨by rw [HV.out];rfl,HB.out⟩
end
section -- GOf
open Go Go.RowKit Go.Shelf
def setsV (zn:ByteArray) (ev sv:Value):Value:=.func (.func 15) #[worldA zn ev sv] #[]
theorem ruls_nil (w:World) (B:Nat):Ruls w B (.slice none 0 0) []:=Sl.nil _ _ _
theorem SetsR.rule {w:World} {B:Nat} {v:Value} {S:List SetF} (h:SetsR w B v S) (x:EraF):Ruls w B (rvalE S x) (ruleE S x):=by
 unfold rvalE ruleE
 split
 ·exact ruls_nil _ _
 ·exact h.of_ruls x.ru
theorem rvalE_form {w:World} {B:Nat} {v:Value} {S:List SetF} (h:SetsR w B v S) (x:EraF):∃ A c,rvalE S x = .slice A (ruleE S x).length c:=by
 obtain ⟨A,c,e,_⟩:=(h.rule x).form;exact ⟨A,c,e⟩
theorem zof_any (w:World) (zn:ByteArray) (ev sv:Value) (B:Nat) (S:List SetF) (hs:SetsR w B sv S) (hB:B ≤ w.heap.size) (x:EraF) :
  Calls Tryz.prog 45 #[setsV zn ev sv,eraA x.n x.ru x.fm x.en] w fun o w'=>o = .returned (rvalE S x)∧Below w.heap.size w w':=by
 have hb0:=(Below.refl w.heap.size w).alloc (Nat.le_refl _) (.cells (eraC x.n x.ru x.fm x.en) 42);have HO:=Lib.hid (fun (W:World) (hb:Below w.heap.size w W)=>wof_any W zn ev sv B S (hs.below (hb.mono hB)) (Nat.le_trans hB hb.size) x.ru);unfold worldA at HO;unfold setsV eraA worldA
 by_cases hr0:x.ru.size = 0
 ·have hem:(x.ru.toList == []) = true:=by rw [emp_size,decide_eq_true hr0]
  have HV:=Lib.hid (show rvalE S x = .slice none 0 0 by unfold rvalE;rw [if_pos hr0]);clear hr0 hs;go_enter Tryz.func45,Tryz.ntmps45;go_wp2_with fail;go_ret;exact ⟨by rw [HV.out];rfl,(Below.refl _ _).alloc (Nat.le_refl _) _⟩
 ·have hem:(x.ru.toList == []) = false:=by rw [emp_size,decide_eq_false hr0]
  have HV:=Lib.hid (show rvalE S x = ofVal S x.ru by unfold rvalE;rw [if_neg hr0]);unfold eraC at hb0;have HB:=Lib.hid hb0;clear hr0 hs hb0;go_enter Tryz.func45,Tryz.ntmps45;go_wp2_with fail;refine (HO.out _ HB.out).mono ?_;rintro o w1 ⟨rfl,hb⟩;have HB1:=Lib.hid (HB.out.trans (hb.mono HB.out.size));clear hb;go_wp2_with fail;go_ret;exact ⟨by rw [HV.out];rfl,HB1.out⟩
end
section -- GZone
open Go Go.RowKit Go.Shelf
structure ZW (W:World) (B:Nat) (ev sv:Value) (l:List EraF) (S:List SetF):Prop where
 eras:ErasR W B ev l
 sets:SetsR W B sv S
 ahead:Ahead W
 tab:0 < B
 maxl:Tryz.MaxL W
 le:B ≤ W.heap.size
theorem ZW.below {W W':World} {B:Nat} {ev sv:Value} {l:List EraF} {S:List SetF} (h:ZW W B ev sv l S) (hb:Below W.heap.size W W'):ZW W' B ev sv l S :=
 ⟨h.eras.below (hb.mono h.le),h.sets.below (hb.mono h.le),h.ahead.below hb (Nat.le_refl _),h.tab,h.maxl.below hb (Nat.le_refl _),Nat.le_trans h.le hb.size⟩
structure ZOk (l:List EraF) (S:List SetF):Prop where
 fm:∀ x ∈ l,x.fm.size < 4294967281
 rul:∀ s ∈ S,RuOk s.l
 len:l.length ≤ 1000000
theorem ruok_nil:RuOk [] where
 yr:=fun r hr=>(by cases hr)
 sv:=fun f hf=>(by obtain ⟨r,hr,_⟩:=hf;cases hr)
 len:=by decide
 mon:=fun z hz=>(by cases hz)
theorem ZOk.rule {l:List EraF} {S:List SetF} (h:ZOk l S) (x:EraF):RuOk (ruleE S x):=by
 unfold ruleE ofRul
 split
 ·exact ruok_nil
 ·cases hs:ofS S x.ru with
  | none=>exact ruok_nil
  | some s=>exact h.rul s (List.mem_of_find?_eq_some hs)
def zoneA (zn:ByteArray) (ev:Value):Value:=.agg #[.string zn,ev]
theorem zcheckZ_gen (zn zn2:ByteArray) (ev ev2 sv:Value) (B:Nat) (l:List EraF) (S:List SetF) (w:World) (hz:ZW w B ev sv l S) (ho:ZOk l S) :
  Calls Tryz.prog 25 #[zoneA zn ev,setsV zn2 ev2 sv] w fun o w'=>o = .returned (.int .i64 (errZ S l))∧Below w.heap.size w w':=by
 obtain ⟨A,cA,rfl,hlc,hcm⟩:=hz.eras.form;unfold maxLen at hcm;have heq:=fun (w:World)=>run_eql_func_nil w 90 (.func 15) #[worldA zn2 ev2 sv] #[] Tryz.underlying90
 have hb0:Below w.heap.size w (w.alloc (.cells #[.string zn,.slice A l.length cA] 24)):=(Below.refl w.heap.size w).alloc (Nat.le_refl _) _;have HX:=Lib.hid (Blk.new w 24 #[.string zn,.slice A l.length cA]);have HZ:=Lib.hid (hz.below hb0);have HB:=Lib.hid hb0;have HO:=Lib.hid ho;clear hz hb0 ho;unfold setsV zoneA;unfold worldA at heq ⊢
 by_cases hl0:l.length = 0
 ·have HV:=Lib.hid (errZ_none (S:=S) hl0);have hd0:((l.length:Int) == 0) = true:=by simpa using hl0
  clear hl0;go_enter Tryz.func25,Tryz.ntmps25;go_wp2_with fail;go_ret;exact ⟨by rw [HV.out];rfl,HB.out⟩
 ·have hd0:((l.length:Int) == 0) = false:=by simpa using hl0
  have HL0:=Lib.hid hl0;clear hl0;go_enter Tryz.func25,Tryz.ntmps25;go_wp2_with fail;obtain ⟨W0,hW0⟩:∃ W,w.alloc (.cells #[.string zn,.slice A l.length cA] 24) = W:=⟨_,rfl⟩;rw [hW0] at HX HZ HB;try simp only [hW0]
  clear hW0
  go_loopw [27] (fun iv wr=>∃ k:Nat,k ≤ l.length∧iv = .int .i64 k∧(∀ i (h:i < l.length),i < k→missB S l[i] = false)∧Below w.heap.size w wr∧Below W0.heap.size W0 wr) (fun iv _=>l.length - (intOf iv).toNat)
  case atStart=>exact ⟨0,Nat.zero_le _,rfl,fun i _ h=>absurd h (by omega),HB.out,Below.refl _ _⟩
  case round =>
   obtain ⟨k,hk,rfl,hno,hbw,hbi⟩:=hrel;have HNO:=Lib.hid hno;have HBW:=Lib.hid hbw;have HBI:=Lib.hid hbi;have HXW:=Lib.hid (HX.out.below hbi HX.out.lt);have hws:=hbw.size;have hxl:=HXW.out.lt;have x1:=HXW.out.cell 1 (v:=.slice A l.length cA) rfl;have HZW:=Lib.hid (HZ.out.below hbi);clear hno hbw hbi
   by_cases hlt:k < l.length
   ·have hd:decide ((k:Int) < (l.length:Int)) = true:=decide_eq_true (by omega);obtain ⟨bb,o,c',e,hbb,hc⟩:=HZW.out.eras.cells (by omega)
    cases e
    have hx:=hc k hlt;obtain ⟨x,hxk⟩:∃ x,l[k] = x:=⟨_,rfl⟩;rw [hxk] at hx;have HXK:=Lib.hid hxk;obtain ⟨c0,c1,c2,c3,c4,c5,c6,c7,c8,c9,c10,c11⟩:=hx;have hb2:=HBW.out.alloc hws (.cells (eraC x.n x.ru x.fm x.en) 42);have hbi2:=HBI.out.alloc HBI.out.size (.cells (eraC x.n x.ru x.fm x.en) 42);have HZ2:=Lib.hid (HZ.out.below hbi2);unfold eraC at hb2 hbi2 HZ2;have HB2:=Lib.hid hb2;have HBI2:=Lib.hid hbi2;clear hc hxk hb2 hbi2
    by_cases hru:x.ru.size = 0
    ·have hem:(x.ru.toList == []) = true:=by rw [emp_size,decide_eq_true hru]
     have HM:=Lib.hid (show missB S x = false by unfold missB;rw [decide_eq_false (by simpa using hru)];rfl);clear hru;go_wp2_with fail;go_roundw
     case rel =>
      refine ⟨k + 1,by omega,by go_num,fun i h hik=>?_,HB2.out,HBI2.out⟩
      rcases Nat.lt_or_ge i k with g | g
      ·exact HNO.out i h g
      ·obtain rfl:i = k:=by omega
       rw [HXK.out];exact HM.out
     case measure=>simp [intOf];omega
    ·have hem:(x.ru.toList == []) = false:=by rw [emp_size,decide_eq_false hru]
     obtain ⟨A3,c3',e3⟩:=ofVal_form HZ2.out.sets x.ru;have HOF:=Lib.hid (wof_any _ zn2 ev2 sv B S HZ2.out.sets HZ2.out.le x.ru);rw [e3] at HOF;unfold worldA at HOF;have HM:=Lib.hid (show missB S x = decide ((ofRul S x.ru).length = 0) by unfold missB;rw [decide_eq_true hru];rfl);clear hru e3;generalize ofRul S x.ru = R at *
     by_cases hR:R.length = 0
     ·have hd3:((R.length:Int) == 0) = true:=by simpa using hR
      have HV:=Lib.hid (errZ_miss hlt (show missB S l[k] = true by rw [HXK.out,HM.out,decide_eq_true hR]));clear hR;go_wp2_with fail;refine HOF.out.mono ?_;rintro o w2 ⟨rfl,hb⟩;have HB3:=Lib.hid (HB2.out.trans (hb.mono HB2.out.size));clear hb;go_wp2_with fail;go_ret;exact ⟨by rw [HV.out];rfl,HB3.out⟩
     ·have hd3:((R.length:Int) == 0) = false:=by simpa using hR
      rw [decide_eq_false hR] at HM;clear hR;go_wp2_with fail;refine HOF.out.mono ?_;rintro o w2 ⟨rfl,hb⟩;have HB3:=Lib.hid (HB2.out.trans (hb.mono HB2.out.size));have HBI3:=Lib.hid (HBI2.out.trans (hb.mono HBI2.out.size));clear hb;go_wp2_with fail;go_roundw
      case rel =>
       refine ⟨k + 1,by omega,by go_num,fun i h hik=>?_,HB3.out,HBI3.out⟩
       rcases Nat.lt_or_ge i k with g | g
       ·exact HNO.out i h g
       ·obtain rfl:i = k:=by omega
        rw [HXK.out];exact HM.out
      case measure=>simp [intOf];omega
   ·obtain rfl:k = l.length:=by omega
    have hd:decide ((l.length:Int) < (l.length:Int)) = false:=decide_eq_false (by omega);obtain ⟨w1,hw1⟩:∃ x,x = wr:=⟨_,rfl⟩;subst hw1;have HTH:=Lib.hid (errZ_there HL0.out (fun i hi=>HNO.out i hi hi));clear HNO hk;go_wp2_with fail
    go_loopw [46] (fun iv W2=>∃ k:Nat,k ≤ l.length∧iv = .int .i64 k∧(∀ i,i < k→errAt l i = 0)∧Below w1.heap.size w1 W2) (fun iv _=>l.length - (intOf iv).toNat)
    case atStart=>exact ⟨0,Nat.zero_le _,rfl,fun i h=>absurd h (by omega),Below.refl _ _⟩
    case round =>
     obtain ⟨k,hk,rfl,hno,hbi⟩:=hrel;have HNO:=Lib.hid hno;have HBI:=Lib.hid hbi;have HX2:=Lib.hid (HXW.out.below hbi HXW.out.lt);have hws2:=hbi.size;have hxl2:=HX2.out.lt;have x1:=HX2.out.cell 1 (v:=.slice A l.length cA) rfl;have HZ2:=Lib.hid (HZW.out.below hbi);have HBW2:=Lib.hid (HBW.out.trans (hbi.mono hws));clear hno hbi
     by_cases hlt:k < l.length
     ·have hd:decide ((k:Int) < (l.length:Int)) = true:=decide_eq_true (by omega);obtain ⟨bb,o,c',e,hbb,hc⟩:=HZ2.out.eras.cells (by omega)
      cases e
      have hx:=hc k hlt;have hfm:=HO.out.fm _ (List.getElem_mem hlt);have hat:=errAt_eq hlt;obtain ⟨x,hxk⟩:∃ x,l[k] = x:=⟨_,rfl⟩;rw [hxk] at hx hfm hat;obtain ⟨c0,c1,c2,c3,c4,c5,c6,c7,c8,c9,c10,c11⟩:=hx;obtain ⟨la,hla⟩:∃ b,decide (k + 1 = l.length) = b:=⟨_,rfl⟩
      have hlast:((k:Int) == (l.length:Int) - 1) = la:=by
       rw [← hla]
       by_cases h:k + 1 = l.length
       ·rw [decide_eq_true h];exact beq_iff_eq.2 (by omega)
       ·rw [decide_eq_false h];exact beq_eq_false_iff_ne.2 (by omega)
      rw [hla] at hat;have HAT:=Lib.hid hat;have hb2:=HBW2.out.alloc HBW2.out.size (.cells (eraC x.n x.ru x.fm x.en) 42);have hbi2:=HBI.out.alloc hws2 (.cells (eraC x.n x.ru x.fm x.en) 42);have HZ3:=Lib.hid (HZ2.out.below ((Below.refl wr.heap.size wr).alloc (Nat.le_refl _) (.cells (eraC x.n x.ru x.fm x.en) 42)));have HC:=Lib.hid (zcheck_any x la _ hfm HZ3.out.maxl HZ3.out.ahead);unfold eraC at hb2 hbi2 HZ3 HC;unfold eraA at HC;have HB3:=Lib.hid hb2;have HBI3:=Lib.hid hbi2;clear hc hxk hla hat hb2 hbi2 hfm;obtain ⟨E,hE⟩:∃ e,errE x la = e:=⟨_,rfl⟩;rw [hE] at HC HAT;clear hE
      by_cases hE0:E = 0
      ·subst hE0;go_wp2_with fail;refine HC.out.mono ?_;rintro o w3 ⟨rfl,hb⟩;have HBI4:=Lib.hid (HBI3.out.trans (hb.mono HBI3.out.size));clear hb;go_wp2_with fail;go_roundw
       case rel =>
        refine ⟨k + 1,by omega,by go_num,fun i hik=>?_,HBI4.out⟩
        rcases Nat.lt_or_ge i k with g | g
        ·exact HNO.out i g
        ·obtain rfl:i = k:=by omega
         exact HAT.out
       case measure=>simp [intOf];omega
      ·have he0:(E != 0) = true:=by simpa using hE0
       have HV:=Lib.hid (show errZ S l = E by
        have h:=errsF_at hlt (fun i hi=>HNO.out i hi) (by rw [HAT.out];exact hE0)
        rw [HTH.out,if_pos (by rw [h,HAT.out];exact hE0),h,HAT.out])
       clear hE0;go_wp2_with fail;refine HC.out.mono ?_;rintro o w3 ⟨rfl,hb⟩;have HB4:=Lib.hid (HB3.out.trans (hb.mono HB3.out.size));clear hb;go_wp2_with fail;go_ret;exact ⟨by rw [HV.out];rfl,HB4.out⟩
     ·obtain rfl:k = l.length:=by omega
      obtain ⟨w2,hw2⟩:∃ x,x = wr:=⟨_,rfl⟩;subst hw2;have HERR:=Lib.hid (show ∀ i,i < l.length→errAt l i = 0 from fun i hi=>HNO.out i hi);have HTH2:=Lib.hid (show errZ S l = if riseI (endL S l) then 0 else 17 by rw [HTH.out,errsF_none HERR.out];rfl);clear HNO hk HTH;have hl1:0 < l.length:=by have:=HL0.out;omega
      have hsub:wrap64 ((l.length:Int) - 1) = (l.length:Int) - 1:=IntWalk.wrap64_in _ (by omega);go_wp2_with fail
      go_loopw [10,11,71] (fun lv fv iv W3=>∃ k:Nat,k ≤ l.length - 1∧iv = .int .i64 k∧(k = 0∧lv = .int .i64 0∧fv = .bool true∨∃ q,k = q + 1∧lv = .int .i64 ((endL S l).getD q 0)∧fv = .bool false)∧(∀ i,i + 1 < k→(endL S l).getD i 0 < (endL S l).getD (i + 1) 0)∧Below w2.heap.size w2 W3) (fun _ _ iv _=>l.length - (intOf iv).toNat)
      case atStart=>exact ⟨0,Nat.zero_le _,rfl,.inl ⟨rfl,rfl,rfl⟩,fun i h=>absurd h (by omega),Below.refl _ _⟩
      case round =>
       obtain ⟨k,hk,rfl,hlf,hno,hbi⟩:=hrel;have HNO:=Lib.hid hno;have HBI3:=Lib.hid hbi;have HX3:=Lib.hid (HX2.out.below hbi HX2.out.lt);have hws3:=hbi.size;have HZ3:=Lib.hid (HZ2.out.below hbi);have HBW3:=Lib.hid (HBW2.out.trans (hbi.mono HBW2.out.size));clear hno hbi
       by_cases hlt:k < l.length - 1
       ·have hd:decide ((k:Int) < ((l.length - 1:Nat):Int)) = true:=decide_eq_true (by omega);have hlk:k < l.length:=by omega
        obtain ⟨bb,o,c',e,hbb,hc⟩:=HZ3.out.eras.cells (by omega)
        cases e
        have hx:=hc k hlk;have her:=HERR.out k hlk;rw [errAt_eq hlk,decide_eq_false (by omega)] at her;have hen:=endL_get (S:=S) (l:=l) (i:=k) (by omega);obtain ⟨x,hxk⟩:∃ x,l[k] = x:=⟨_,rfl⟩;rw [hxk] at hx her hen;obtain ⟨-,hof,hsf,hee,-,hnb⟩:=errE_zero her;have hee2:x.en = true:=hee
        have hV:endV x.n x.ru x.en (ruleE S x) = ((endL S l).getD k 0,0):=by
         unfold endV;rw [hee2,hnb hee2,hen]
         rfl
        obtain ⟨c0,c1,c2,c3,c4,c5,c6,c7,c8,c9,c10,c11⟩:=hx;have hb3:=HBW3.out.alloc HBW3.out.size (.cells (eraC x.n x.ru x.fm x.en) 42);have hbi3:=HBI3.out.alloc hws3 (.cells (eraC x.n x.ru x.fm x.en) 42);have HZ4:=Lib.hid (HZ3.out.below ((Below.refl wr.heap.size wr).alloc (Nat.le_refl _) (.cells (eraC x.n x.ru x.fm x.en) 42)));have HE4:=Lib.hid (Blk.new wr 42 (eraC x.n x.ru x.fm x.en));have HOF:=Lib.hid (fun (W:World) (h:ZW W B (.slice (some ⟨bb,o,none⟩) l.length cA) sv l S)=>zof_any W zn2 ev2 sv B S h.sets h.le x);have HEN:=Lib.hid (fun (W:World) (h:ZW W B (.slice (some ⟨bb,o,none⟩) l.length cA) sv l S)=>zend_any W x.n x.ru x.fm x.en B (rvalE S x) (ruleE S x) ⟨h.sets.rule x,h.ahead,h.tab,h.le⟩ (HO.out.rule x) (by omega) (by omega));obtain ⟨ek,hek⟩:∃ z,(endL S l).getD k 0 = z:=⟨_,rfl⟩;have HEK:=Lib.hid hek;rw [hek] at hV;rw [hV] at HEN;obtain ⟨A3,c3',e3⟩:=rvalE_form HZ4.out.sets x;rw [e3] at HOF HEN;unfold setsV worldA eraA at HOF;unfold eraA at HEN;unfold eraC at hb3 hbi3 HZ4 HE4;have HB4:=Lib.hid hb3;have HBI4:=Lib.hid hbi3;clear hc hxk hb3 hbi3 her hen hV hek hof hsf hee hee2 hnb
        have hfl:∃ (f:Bool) (n:Int),u11 = .bool f∧u10 = .int .i64 n∧(f = true∧k = 0∨f = false∧∃ q,k = q + 1∧n = (endL S l).getD q 0):=by
         rcases hlf with ⟨h0,h1,h2⟩ | ⟨q,h0,h1,h2⟩
         ·exact ⟨_,_,h2,h1,.inl ⟨rfl,h0⟩⟩
         ·exact ⟨_,_,h2,h1,.inr ⟨rfl,q,h0,rfl⟩⟩
        obtain ⟨fv,lv,rfl,rfl,hfk⟩:=hfl;have HFK:=Lib.hid hfk;clear hlf hfk;go_wp2_with fail;obtain ⟨W3,hW3⟩:∃ W,wr.alloc (.cells #[.int .i64 x.n.off,.string x.ru,.int .i64 x.n.save,.string x.fm,.bool x.en,.int .i64 x.n.year,.int .i64 x.n.month,.int .i64 x.n.dk,.int .i64 x.n.dw,.int .i64 x.n.dn,.int .i64 x.n.sec,.int .i64 x.n.ak] 42) = W:=⟨_,rfl⟩;rw [hW3] at HB4 HBI4 HZ4 HE4;try simp only [hW3]
        clear hW3
        refine wp_env (fin:=?fna) (by kernel_rfl) [76,77,78,79,80,75,81,82,14,15]
         [.agg #[.int .i64 x.n.off,.string x.ru,.int .i64 x.n.save,.string x.fm,.bool x.en,.int .i64 x.n.year,.int .i64 x.n.month,.int .i64 x.n.dk,.int .i64 x.n.dw,.int .i64 x.n.dn,.int .i64 x.n.sec,.int .i64 x.n.ak],.func (.func 15) #[.agg #[.string zn2,ev2,sv]] #[],.agg #[.int .i64 x.n.off,.string x.ru,.int .i64 x.n.save,.string x.fm,.bool x.en,.int .i64 x.n.year,.int .i64 x.n.month,.int .i64 x.n.dk,.int .i64 x.n.dw,.int .i64 x.n.dn,.int .i64 x.n.sec,.int .i64 x.n.ak],.slice A3 (ruleE S x).length c3',.tuple #[.int .i64 ek,.int .i64 0],.tuple #[.int .i64 ek,.int .i64 0],.int .i64 ek,.int .i64 0,.int .i64 ek,.int .i64 0] (by kernel_rfl) ?fina ?stepsa ?nexta
        case fina =>
         simp only [putAll,Act.put,List.setIfInBounds_toArray,List.set_cons_succ,List.set_cons_zero]
         rfl
        case stepsa =>
         refine ⟨?_,?_,?_,?_,?_,?_,?_,?_,?_,?_,trivial⟩
         all_goals refine .inr ⟨by kernel_rfl,fun w1_ hB_=>?_⟩
         all_goals
          have hc:=HE4.out.below hB_ HE4.out.lt;have hz:=HZ4.out.below hB_;have c0:=hc.cell 0 (v:=.int .i64 x.n.off) rfl;have c1:=hc.cell 1 (v:=.string x.ru) rfl;have c2:=hc.cell 2 (v:=.int .i64 x.n.save) rfl;have c3:=hc.cell 3 (v:=.string x.fm) rfl;have c4:=hc.cell 4 (v:=.bool x.en) rfl;have c5:=hc.cell 5 (v:=.int .i64 x.n.year) rfl;have c6:=hc.cell 6 (v:=.int .i64 x.n.month) rfl;have c7:=hc.cell 7 (v:=.int .i64 x.n.dk) rfl;have c8:=hc.cell 8 (v:=.int .i64 x.n.dw) rfl;have c9:=hc.cell 9 (v:=.int .i64 x.n.dn) rfl;have c10:=hc.cell 10 (v:=.int .i64 x.n.sec) rfl;have c11:=hc.cell 11 (v:=.int .i64 x.n.ak) rfl;go_simp
          first
           | exact ⟨rfl,Below.refl _ _⟩
           | exact ⟨rfl,HOF.out w1_ hz⟩
           | exact ⟨rfl,HEN.out w1_ hz⟩
           | ((first | rw [decide_eq_true (by omega)] | rw [decide_eq_false (by omega)] | rw [if_pos (by omega)] | rw [IntWalk.i64_in _ (by omega)]);exact ⟨rfl,Below.refl _ _⟩)
           | done
        case nexta =>
        intro w4 hb4;have HB5:=Lib.hid (HB4.out.trans (hb4.mono HB4.out.size));have HBI5:=Lib.hid (HBI4.out.trans (hb4.mono HBI4.out.size));clear hb4
        rcases HFK.out with ⟨rfl,hk0⟩ | ⟨rfl,q,hkq,hlv⟩
        ·go_wp2_with fail;go_roundw
         case rel=>exact ⟨k + 1,by omega,by go_num,.inr ⟨k,rfl,by rw [HEK.out],rfl⟩,fun i hi=>absurd hi (by omega),HBI5.out⟩
         case measure=>simp [intOf];omega
        ·have HKQ:=Lib.hid hkq;have HLV:=Lib.hid hlv;clear hkq hlv
         by_cases hle:ek ≤ lv
         ·have hdl:decide (ek ≤ lv) = true:=decide_eq_true hle
          have HV:=Lib.hid (show errZ S l = 17 by
           rw [HTH2.out,riseI_no (i:=q) (by rw [length_endL];have:=HKQ.out;omega) (by rw [← HKQ.out,HEK.out,← HLV.out];exact hle)]
           rfl)
          clear hle;go_wp2_with fail;go_ret;exact ⟨by rw [HV.out];rfl,HB5.out⟩
         ·have hdl:decide (ek ≤ lv) = false:=decide_eq_false hle;have HLT:=Lib.hid (show (endL S l).getD q 0 < (endL S l).getD k 0 by rw [HEK.out,← HLV.out];omega);clear hle;go_wp2_with fail;go_roundw
          case rel =>
           refine ⟨k + 1,by omega,by go_num,.inr ⟨k,rfl,by rw [HEK.out],rfl⟩,fun i hi=>?_,HBI5.out⟩
           rcases Nat.lt_or_ge (i + 1) k with g | g
           ·exact HNO.out i g
           ·have:=HKQ.out;obtain rfl:i = q:=by omega
            rw [← HKQ.out];exact HLT.out
          case measure=>simp [intOf];omega
       ·obtain rfl:k = l.length - 1:=by omega
        have hd:decide (((l.length - 1:Nat):Int) < ((l.length - 1:Nat):Int)) = false:=decide_eq_false (by omega)
        have HV:=Lib.hid (show errZ S l = 0 by
         rw [HTH2.out,riseI_iff.2 (fun i hi=>HNO.out i (by rw [length_endL] at hi;omega))]
         rfl)
        have hlf2:∃ a b,u10 = a∧u11 = b:=⟨_,_,rfl,rfl⟩;clear hlf hlt hk;go_wp2_with fail;go_ret;exact ⟨by rw [HV.out];rfl,HBW3.out⟩
theorem zcheckZ_any (zn:ByteArray) (ev sv:Value) (B:Nat) (l:List EraF) (S:List SetF) (w:World) (hz:ZW w B ev sv l S) (ho:ZOk l S) :
  Calls Tryz.prog 25 #[zoneA zn ev,setsV zn ev sv] w fun o w'=>o = .returned (.int .i64 (errZ S l))∧Below w.heap.size w w':=zcheckZ_gen zn zn ev ev sv B l S w hz ho
end
section -- GEnds
open Go Go.RowKit Go.Shelf
def intsV (l:List Int):List Value:=l.map fun n=>.int .i64 n
theorem intsV_append (l m:List Int):intsV (l ++ m) = intsV l ++ intsV m:=by simp [intsV]
theorem intsV_at (l:List Int) (j:Nat) (h:j < l.length):(intsV l)[j]? = some (.int .i64 l[j]):=by simp [intsV,h]
theorem infoInt:(Tryz.prog.info? 3).map (fun i=>(i.zero,i.size,i.bytes)) = some (some (.int .i64 0),1,8):=by kernel_rfl
def Nums (w:World) (B:Nat) (v:Value) (l:List Int):Prop:=Sl w B 1 v l.length (intsV l)
theorem Nums.below {w w':World} {B:Nat} {v:Value} {l:List Int} (h:Nums w B v l) (hb:Below B w w'):Nums w' B v l:=Sl.below h hb
theorem Nums.form {w:World} {B:Nat} {v:Value} {l:List Int} (h:Nums w B v l):∃ A c,v = .slice A l.length c∧l.length ≤ c∧c ≤ maxLen:=by obtain ⟨A,c,e,h1,h2,_⟩:=h;exact ⟨A,c,e,h1,h2⟩
theorem Nums.cells {w:World} {B:Nat} {v:Value} {l:List Int} (h:Nums w B v l) (hl:0 < l.length):∃ b o c,v = .slice (some ⟨b,o,none⟩) l.length c∧b < B∧∀ i (hi:i < l.length),w.cell? ⟨b,o + i,none⟩ = some (.int .i64 l[i]):=by
 obtain ⟨b,o,c,e,hb,hc⟩:=Sl.at_ h hl;exact ⟨b,o,c,e,hb,fun i hi=>hc i _ (intsV_at l i hi)⟩
def EndsPost (w:World) (S:List SetF) (l:List EraF) (o:Ending) (w':World):Prop :=
 (∃ v,o = .returned (.tuple #[v,.int .i64 (errZ S l)])∧(errZ S l = 0→w'.ownsRow w.heap.size 3 1 v (endL S l).length (intsV (endL S l)))∧(errZ S l ≠ 0→v = .slice none 0 0))∧Below w.heap.size w w'
theorem zends_gen (zn zn2:ByteArray) (ev ev2 sv:Value) (B:Nat) (l:List EraF) (S:List SetF) (w:World) (hz:ZW w B ev sv l S) (ho:ZOk l S) :
  Calls Tryz.prog 14 #[zoneA zn ev,setsV zn2 ev2 sv] w (EndsPost w S l):=by
 obtain ⟨A,cA,rfl,hlc,hcm⟩:=hz.eras.form;unfold maxLen at hcm;have hb0:Below w.heap.size w (w.alloc (.cells #[.string zn,.slice A l.length cA] 24)):=(Below.refl w.heap.size w).alloc (Nat.le_refl _) _;have HX:=Lib.hid (Blk.new w 24 #[.string zn,.slice A l.length cA]);have HZ:=Lib.hid (hz.below hb0);have HB:=Lib.hid hb0;have HO:=Lib.hid ho;have HZ0:=Lib.hid hz;have HC:=Lib.hid (zcheckZ_gen zn zn2 (.slice A l.length cA) ev2 sv B l S _ HZ.out ho);obtain ⟨i0,hi,hz0,hz1,hz2⟩:=info_parts infoInt;clear hz hb0 ho;obtain ⟨E,hE⟩:∃ e,errZ S l = e:=⟨_,rfl⟩;rw [hE] at HC;have HE:=Lib.hid hE;unfold setsV zoneA worldA at HC ⊢;clear hE
 by_cases hE0:E = 0
 ·subst hE0;obtain ⟨hl0,-,hat,-⟩:=errZ_zero HE.out;have HERR:=Lib.hid hat;have hl1:0 < l.length:=by omega
  have hsub:wrap64 ((l.length:Int) - 1) = (l.length:Int) - 1:=IntWalk.wrap64_in _ (by omega);clear hat hl0;go_enter Tryz.func14,Tryz.ntmps14;go_wp2_with fail;refine HC.out.mono ?_;rintro o w1 ⟨rfl,hb⟩;have HX1:=Lib.hid (HX.out.below hb HX.out.lt);have HB1:=Lib.hid (HB.out.trans (hb.mono HB.out.size));have x1:=HX1.out.cell 1 (v:=.slice A l.length cA) rfl;have hxl:=HX1.out.lt;clear hb HC HX HB HZ;go_wp2_with fail
  go_loopw [7,26] (fun u iv wr=>∃ k:Nat,k ≤ l.length - 1∧iv = .int .i64 k∧wr.ownsRow w.heap.size 3 1 u ((endL S l).take k).length (intsV ((endL S l).take k))∧Below w.heap.size w wr) (fun _ iv _=>l.length - (intOf iv).toNat)
  case atStart=>exact ⟨0,Nat.zero_le _,rfl,World.ownsRow_nil _ _ _ _,HB1.out⟩
  case round =>
   obtain ⟨k,hk,rfl,hown,hbw⟩:=hrel;have HOW:=Lib.hid hown;have HBW:=Lib.hid hbw;have HZ2:=Lib.hid (HZ0.out.below hbw);obtain ⟨A5,c5,hu⟩:=(Sl.of_own hown).form;have hlen:((endL S l).take k).length = k:=by rw [List.length_take,length_endL];omega
   rw [hlen] at HOW hu;subst hu;have HLEN:=Lib.hid hlen;clear hown hbw hlen
   by_cases hlt:k < l.length - 1
   ·have hd:decide ((k:Int) < ((l.length - 1:Nat):Int)) = true:=decide_eq_true (by omega);have hlk:k < l.length:=by omega
    obtain ⟨bb,o,c',e,hbb,hc⟩:=HZ2.out.eras.cells (by omega)
    cases e
    have hx:=hc k hlk;have her:=HERR.out k hlk;rw [errAt_eq hlk,decide_eq_false (by omega)] at her;have hen:=endL_get (S:=S) (l:=l) (i:=k) (by omega)
    have htk:(endL S l).take (k + 1) = (endL S l).take k ++ [(endL S l).getD k 0]:=by
     have h9:k < (endL S l).length:=by rw [length_endL];omega
     rw [List.take_succ_eq_append_getElem h9,List.getD_eq_getElem?_getD,List.getElem?_eq_getElem h9]
     rfl
    obtain ⟨x,hxk⟩:∃ x,l[k] = x:=⟨_,rfl⟩;rw [hxk] at hx her hen;obtain ⟨-,hof,hsf,hee,-,hnb⟩:=errE_zero her;have hee2:x.en = true:=hee
    have hV:endV x.n x.ru x.en (ruleE S x) = ((endL S l).getD k 0,0):=by
     unfold endV;rw [hee2,hnb hee2,hen]
     rfl
    obtain ⟨c0,c1,c2,c3,c4,c5,c6,c7,c8,c9,c10,c11⟩:=hx;have hb3:=HBW.out.alloc HBW.out.size (.cells (eraC x.n x.ru x.fm x.en) 42);have HZ4:=Lib.hid (HZ0.out.below hb3);have HE4:=Lib.hid (Blk.new wr 42 (eraC x.n x.ru x.fm x.en));have HOW4:=Lib.hid (HOW.out.alloc (.cells (eraC x.n x.ru x.fm x.en) 42));have HOF:=Lib.hid (fun (W:World) (h:ZW W B (.slice (some ⟨bb,o,none⟩) l.length cA) sv l S)=>zof_any W zn2 ev2 sv B S h.sets h.le x);have HEN:=Lib.hid (fun (W:World) (h:ZW W B (.slice (some ⟨bb,o,none⟩) l.length cA) sv l S)=>zend_any W x.n x.ru x.fm x.en B (rvalE S x) (ruleE S x) ⟨h.sets.rule x,h.ahead,h.tab,h.le⟩ (HO.out.rule x) (by omega) (by omega));obtain ⟨ek,hek⟩:∃ z,(endL S l).getD k 0 = z:=⟨_,rfl⟩;rw [hek] at hV htk;rw [hV] at HEN;have HTK:=Lib.hid htk;obtain ⟨A3,c3',e3⟩:=rvalE_form HZ4.out.sets x;rw [e3] at HOF HEN;unfold setsV worldA eraA at HOF;unfold eraA at HEN;unfold eraC at hb3 HZ4 HE4 HOW4;have HB4:=Lib.hid hb3;have hul:=HOW.out.lt;clear hc hxk hb3 her hen hV hek hof hsf hee hee2 hnb htk;go_wp2_with fail;obtain ⟨W3,hW3⟩:∃ W,wr.alloc (.cells #[.int .i64 x.n.off,.string x.ru,.int .i64 x.n.save,.string x.fm,.bool x.en,.int .i64 x.n.year,.int .i64 x.n.month,.int .i64 x.n.dk,.int .i64 x.n.dw,.int .i64 x.n.dn,.int .i64 x.n.sec,.int .i64 x.n.ak] 42) = W:=⟨_,rfl⟩;rw [hW3] at HB4 HZ4 HE4 HOW4;try simp only [hW3]
    clear hW3
    refine wp_env (fin:=?fna) (by kernel_rfl) [31,32,33,34,35,30,36,37,10,11]
     [.agg #[.int .i64 x.n.off,.string x.ru,.int .i64 x.n.save,.string x.fm,.bool x.en,.int .i64 x.n.year,.int .i64 x.n.month,.int .i64 x.n.dk,.int .i64 x.n.dw,.int .i64 x.n.dn,.int .i64 x.n.sec,.int .i64 x.n.ak],.func (.func 15) #[.agg #[.string zn2,ev2,sv]] #[],.agg #[.int .i64 x.n.off,.string x.ru,.int .i64 x.n.save,.string x.fm,.bool x.en,.int .i64 x.n.year,.int .i64 x.n.month,.int .i64 x.n.dk,.int .i64 x.n.dw,.int .i64 x.n.dn,.int .i64 x.n.sec,.int .i64 x.n.ak],.slice A3 (ruleE S x).length c3',.tuple #[.int .i64 ek,.int .i64 0],.tuple #[.int .i64 ek,.int .i64 0],.int .i64 ek,.int .i64 0,.int .i64 ek,.int .i64 0] (by kernel_rfl) ?fina ?stepsa ?nexta
    case fina =>
     simp only [putAll,Act.put,List.setIfInBounds_toArray,List.set_cons_succ,List.set_cons_zero]
     rfl
    case stepsa =>
     refine ⟨?_,?_,?_,?_,?_,?_,?_,?_,?_,?_,trivial⟩
     all_goals refine .inr ⟨by kernel_rfl,fun w1_ hB_=>?_⟩
     all_goals
      have hc:=HE4.out.below hB_ HE4.out.lt;have hz:=HZ4.out.below hB_;have c0:=hc.cell 0 (v:=.int .i64 x.n.off) rfl;have c1:=hc.cell 1 (v:=.string x.ru) rfl;have c2:=hc.cell 2 (v:=.int .i64 x.n.save) rfl;have c3:=hc.cell 3 (v:=.string x.fm) rfl;have c4:=hc.cell 4 (v:=.bool x.en) rfl;have c5:=hc.cell 5 (v:=.int .i64 x.n.year) rfl;have c6:=hc.cell 6 (v:=.int .i64 x.n.month) rfl;have c7:=hc.cell 7 (v:=.int .i64 x.n.dk) rfl;have c8:=hc.cell 8 (v:=.int .i64 x.n.dw) rfl;have c9:=hc.cell 9 (v:=.int .i64 x.n.dn) rfl;have c10:=hc.cell 10 (v:=.int .i64 x.n.sec) rfl;have c11:=hc.cell 11 (v:=.int .i64 x.n.ak) rfl;go_simp
      first
       | exact ⟨rfl,Below.refl _ _⟩
       | exact ⟨rfl,HOF.out w1_ hz⟩
       | exact ⟨rfl,HEN.out w1_ hz⟩
       | ((first | rw [decide_eq_true (by omega)] | rw [decide_eq_false (by omega)] | rw [if_pos (by omega)] | rw [IntWalk.i64_in _ (by omega)]);exact ⟨rfl,Below.refl _ _⟩)
       | done
    case nexta =>
    intro w4 hb4;have hb5:=HB4.out.trans (hb4.mono HB4.out.size);have HOW5:=Lib.hid (ownsRow_below HOW4.out hb4);clear hb4;have hkb:k ≤ 1000000:=by have:=HO.out.len;omega
    go_wp2_with ((at_builtin;refine wpList_append_own _ rfl _ _ 28 rfl (w.heap.size) 3 i0 (.int .i64 0) 1 8 Tryz.underlying28 hi hz0 hz1 hz2 rfl (by decide) _ _ _ rfl (HOW5.out.alloc _) ⟨w4.heap.size,0,none⟩ 1 1 [.int .i64 ek] rfl rfl (cell_one_new _ _ _) (by simp [Value.oneCell']) (by unfold maxLen;omega) (by omega) (by have:=hb5.size;simp <;> omega) ?_;intro v' w1 hown' hgrow _));go_roundw
    case rel =>
     refine ⟨k + 1,by omega,by go_num,?_,below_push hb5 HOW5.out hgrow⟩;rw [HTK.out,intsV_append,List.length_append,HLEN.out];exact hown'
    case measure=>first | (simp [intOf];done) | (simp [intOf];omega)
   ·obtain rfl:k = l.length - 1:=by omega
    have hd:decide (((l.length - 1:Nat):Int) < ((l.length - 1:Nat):Int)) = false:=decide_eq_false (by omega)
    have HOE:=Lib.hid (show wr.ownsRow w.heap.size 3 1 (.slice A5 (l.length - 1) c5) (endL S l).length (intsV (endL S l)) by
     have h:=HOW.out
     rw [List.take_of_length_le (by rw [length_endL];exact Nat.le_refl _)] at h
     rw [length_endL]
     exact h)
    go_wp2_with fail;go_ret2;exact ⟨⟨_,by rw [HE.out];rfl,fun _=>HOE.out,fun h=>absurd HE.out h⟩,HBW.out⟩
 ·have he0:(E != 0) = true:=by simpa using hE0
  have HN:=Lib.hid hE0;clear hE0;go_enter Tryz.func14,Tryz.ntmps14;go_wp2_with fail;refine HC.out.mono ?_;rintro o w1 ⟨rfl,hb⟩;have HB1:=Lib.hid (HB.out.trans (hb.mono HB.out.size));clear hb HC HX HB HZ;go_wp2_with fail;go_ret2;exact ⟨⟨_,by rw [HE.out];rfl,fun h=>absurd (HE.out.symm.trans h) HN.out,fun _=>rfl⟩,HB1.out⟩
end
section -- GAt
open Go Go.RowKit Go.Shelf
theorem ZOk.ruleL {S:List SetF} (hlt:∀ s ∈ S,letOk s.l) (x:EraF):letOk (ruleE S x):=by
 unfold ruleE ofRul
 split
 ·exact fun r hr=>(by cases hr)
 ·cases hs:ofS S x.ru with
  | none=>exact fun r hr=>(by cases hr)
  | some s=>exact hlt s (List.mem_of_find?_eq_some hs)
def atX (S:List SetF) (l:List EraF) (i:Int):EraF:=l.getD (eraI (endL S l) i) default
def atZ (S:List SetF) (l:List EraF) (i:Int):Value :=
 if errZ S l ≠ 0 then badL (errZ S l) else if i < -2199023255552∨2199023255552 < i then badL 10 else zwithinV (atX S l i).n (atX S l i).ru (atX S l i).fm (ruleE S (atX S l i)) i
theorem zwithinV_form (e:EraN) (ru f:ByteArray) (l:List Rul) (i:Int):∃ a d s err,zwithinV e ru f l i = .tuple #[.agg #[.int .i64 a,.bool d,.string s],.int .i64 err]:=by
 unfold zwithinV withinR
 split
 ·exact ⟨_,_,_,_,rfl⟩
 ·exact ⟨_,_,_,_,rfl⟩
end
section -- FAt
open Go Go.RowKit Go.Shelf
structure Foot where
 since:Int
 off:Int
 save:Int
 letter:ByteArray
 fm:ByteArray
 rules:List Rul
def footC (F:Foot) (u:Value):Array Value:=#[.int .i64 F.since,.int .i64 F.off,.int .i64 F.save,.string F.letter,.string F.fm,u]
def footA (F:Foot) (u:Value):Value:=.agg #[.int .i64 F.since,.int .i64 F.off,.int .i64 F.save,.string F.letter,.string F.fm,u]
theorem fendless_any (w:World) (F:Foot) (A:Option Addr) (c:Nat) :
  Calls Tryz.prog 29 #[footA F (.slice A F.rules.length c)] w fun o w'=>o = .returned (.bool (decide (0 < F.rules.length)))∧Below w.heap.size w w':=by
 have HB0:=Lib.hid ((Below.refl w.heap.size w).alloc (Nat.le_refl _) (.cells (footC F (.slice A F.rules.length c)) 54));have hx:=Blk.new w 54 (footC F (.slice A F.rules.length c));unfold footC at hx HB0;have q5:=Blk.cell hx 5 (v:=.slice A F.rules.length c) rfl;clear hx;unfold footA;obtain ⟨n,hn⟩:∃ n,F.rules.length = n:=⟨_,rfl⟩;rw [hn] at q5 HB0 ⊢;clear hn
 by_cases h0:0 < n
 ·have d1:decide ((0:Int) < (n:Int)) = true:=decide_eq_true (by omega);rw [decide_eq_true h0];go_enter Tryz.func29,Tryz.ntmps29;go_wp2_with fail;go_ret;exact ⟨rfl,HB0.out⟩
 ·obtain rfl:n = 0:=by omega
  rw [decide_eq_false h0];go_enter Tryz.func29,Tryz.ntmps29;go_wp2_with fail;go_ret;exact ⟨rfl,HB0.out⟩
def eraO (F:Foot):EraN:=⟨F.off,0,0,0,0,0,0,0,0⟩
def fatV (F:Foot) (i:Int):Value :=
 if i < F.since then .tuple #[.agg #[.int .i64 0,.bool false,.string ⟨#[]⟩],.int .i64 16]
 else if 2199023255552 < i then .tuple #[.agg #[.int .i64 0,.bool false,.string ⟨#[]⟩],.int .i64 10]
 else if 0 < F.rules.length then zwithinV (eraO F) ⟨#[45]⟩ F.fm F.rules i
 else withinR (F.off + F.save) (dstB F.save) (showV F.fm (F.off + F.save) (dstB F.save) F.letter).1 (showV F.fm (F.off + F.save) (dstB F.save) F.letter).2
structure FootOk (F:Foot):Prop where
 off:-1000000000000000 ≤ F.off∧F.off ≤ 1000000000000000
 save:-1000000000000000 ≤ F.save∧F.save ≤ 1000000000000000
 letter:F.letter.size ≤ 140737488351232
 fm:F.fm.size < 4294967281
 since:-4500000000000 ≤ F.since
 ok:RuOk F.rules
 sum:∀ i,F.since ≤ i→i ≤ 2199023255552→sumOk (eraO F) ⟨#[45]⟩ F.rules i
theorem fat_any (w:World) (B:Nat) (u:Value) (F:Foot) (i:Int) (hm:Tryz.MaxL w) (hrw:RW w B u F.rules) (ho:FootOk F) :
  Calls Tryz.prog 30 #[footA F u,.int .i64 i] w fun o w'=>o = .returned (fatV F i)∧Below w.heap.size w w':=by
 obtain ⟨A,c,rfl,hlc,hcm⟩:=hrw.ruls.form;unfold maxLen at hcm;have hb0:=((Below.refl w.heap.size w).alloc (Nat.le_refl _) (.cells (footC F (.slice A F.rules.length c)) 54)).alloc (by simp) (.cells #[.int .i64 0,.bool false,.string ⟨#[]⟩] 48);have hx0:=(Blk.new w 54 (footC F (.slice A F.rules.length c))).alloc (.cells #[.int .i64 0,.bool false,.string ⟨#[]⟩] 48);have hr0:=Blk.new (w.alloc (.cells (footC F (.slice A F.rules.length c)) 54)) 48 #[.int .i64 0,.bool false,.string ⟨#[]⟩];rw [World.size_alloc] at hr0;have HX:=Lib.hid hx0;have HR:=Lib.hid hr0;have HB:=Lib.hid hb0;have HM:=Lib.hid (fun (W:World) (h:Below w.heap.size w W)=>hm.below h (Nat.le_refl _));have HRW:=Lib.hid (fun (W:World) (h:Below w.heap.size w W)=>hrw.below h);have HO:=Lib.hid ho;have HE:=Lib.hid (fun W=>fendless_any W F A c);unfold footC at hx0 HX HB HR;unfold footA at HE ⊢;have xq0:=Blk.cell hx0 0 (v:=.int .i64 F.since) rfl;have xq1:=Blk.cell hx0 1 (v:=.int .i64 F.off) rfl;have xq2:=Blk.cell hx0 2 (v:=.int .i64 F.save) rfl;have xq3:=Blk.cell hx0 3 (v:=.string F.letter) rfl;have xq4:=Blk.cell hx0 4 (v:=.string F.fm) rfl;have xq5:=Blk.cell hx0 5 (v:=.slice A F.rules.length c) rfl;have xql:=Blk.lt hx0;have r0:=HR.out.cell 0 (v:=.int .i64 0) rfl;have r1:=HR.out.cell 1 (v:=.bool false) rfl;have r2:=HR.out.cell 2 (v:=.string ⟨#[]⟩) rfl;have f0:=HR.out.frozen 0;have f1:=HR.out.frozen 1;have f2:=HR.out.frozen 2;have rl:=HR.out.lt;unfold fatV;clear hm hrw ho hb0 hx0 hr0
 by_cases h1:i < F.since
 ·rw [if_pos h1];have d1:decide (i < F.since) = true:=decide_eq_true h1;go_enter Tryz.func30,Tryz.ntmps30;go_wp2_with fail;refine bodyPost_ret (v:=.tuple #[.agg #[.int .i64 0,.bool false,.string ⟨#[]⟩],.int .i64 16]) ?_ rfl ⟨rfl,HB.out⟩;simp [results,Tryz.f30,go_sem,r0,r1,r2]
 ·rw [if_neg h1];have d1:decide (i < F.since) = false:=decide_eq_false h1
  by_cases h2:2199023255552 < i
  ·rw [if_pos h2];have d2:decide (2199023255552 < i) = true:=decide_eq_true h2;go_enter Tryz.func30,Tryz.ntmps30;go_wp2_with fail;refine bodyPost_ret (v:=.tuple #[.agg #[.int .i64 0,.bool false,.string ⟨#[]⟩],.int .i64 10]) ?_ rfl ⟨rfl,HB.out⟩;simp [results,Tryz.f30,go_sem,r0,r1,r2]
  ·rw [if_neg h2];have d2:decide (2199023255552 < i) = false:=decide_eq_false h2
   by_cases h3:0 < F.rules.length
   ·rw [if_pos h3];rw [decide_eq_true h3] at HE;have HSI:=HO.out.since;have HW:=Lib.hid (fun (W:World) (h:Below w.heap.size w W)=>zwithin_any W (eraO F) ⟨#[45]⟩ F.fm false B (.slice A F.rules.length c) F.rules (HM.out W h) HO.out.fm (HRW.out W h) HO.out.ok i HO.out.off (by omega) (by omega) (HO.out.sum i (by omega) (by omega)));unfold eraA eraO at HW;obtain ⟨a,d,s,err,hz⟩:=zwithinV_form (eraO F) ⟨#[45]⟩ F.fm F.rules i;unfold eraO at hz ⊢;rw [hz] at HW;rw [hz];clear hz;go_enter Tryz.func30,Tryz.ntmps30;go_wp2_with fail;refine (HE.out _).mono ?_;rintro o w1 ⟨rfl,hb⟩;have HB1:=Lib.hid (HB.out.trans (hb.mono HB.out.size));have HX1:=Lib.hid (HX.out.below hb HX.out.lt);have HR1:=Lib.hid (HR.out.below hb HR.out.lt);clear xq0 xq1 xq2 xq3 xq4 xq5 xql r0 r1 r2 f0 f1 f2 rl hb HX HR HB HE;have xq0:=Blk.cell HX1.out 0 (v:=.int .i64 F.since) rfl;have xq1:=Blk.cell HX1.out 1 (v:=.int .i64 F.off) rfl;have xq2:=Blk.cell HX1.out 2 (v:=.int .i64 F.save) rfl;have xq3:=Blk.cell HX1.out 3 (v:=.string F.letter) rfl;have xq4:=Blk.cell HX1.out 4 (v:=.string F.fm) rfl;have xq5:=Blk.cell HX1.out 5 (v:=.slice A F.rules.length c) rfl;have xql:=Blk.lt HX1.out;go_wp2_with fail;refine (HW.out _ HB1.out).mono ?_;rintro o w2 ⟨rfl,hb⟩;have HB2:=Lib.hid (HB1.out.trans (hb.mono HB1.out.size));have HR2:=Lib.hid (HR1.out.below hb HR1.out.lt);clear xq0 xq1 xq2 xq3 xq4 xq5 xql hb HX1 HR1 HB1 HW;have r0:=HR2.out.cell 0 (v:=.int .i64 0) rfl;have r1:=HR2.out.cell 1 (v:=.bool false) rfl;have r2:=HR2.out.cell 2 (v:=.string ⟨#[]⟩) rfl;have f0:=HR2.out.frozen 0;have f1:=HR2.out.frozen 1;have f2:=HR2.out.frozen 2;have rl:=HR2.out.lt;go_wp2_with fail;have HY:=Lib.hid (((HR2.out.set 0 (.int .i64 (a))).set 1 (.bool d)).set 2 (.string s));have c0:=HY.out.cell 0 (v:=.int .i64 (a)) rfl;have c1:=HY.out.cell 1 (v:=.bool d) rfl;have c2:=HY.out.cell 2 (v:=.string s) rfl;refine bodyPost_ret (v:=.tuple #[.agg #[.int .i64 (a),.bool d,.string s],.int .i64 err]) ?_ rfl ⟨rfl,below_set3 HB2.out (by omega) _ _ _⟩;simp [results,Tryz.f30,go_sem,c0,c1,c2]
   ·rw [if_neg h3];rw [decide_eq_false h3] at HE;have HS:=Lib.hid (fun (W:World) (h:Below w.heap.size w W)=>show_any F.fm (F.off + F.save) (dstB F.save) F.letter W HO.out.fm HO.out.letter (HM.out W h));obtain ⟨⟨s,err⟩,hse⟩:∃ x,showV F.fm (F.off + F.save) (dstB F.save) F.letter = x:=⟨_,rfl⟩;rw [hse] at HS;rw [hse];have hof:=HO.out.off;have hsv:=HO.out.save;unfold withinR;simp only at HS ⊢;unfold dstB at *;clear hse h3;go_enter Tryz.func30,Tryz.ntmps30;go_wp2_with fail;refine (HE.out _).mono ?_;rintro o w1 ⟨rfl,hb⟩;have HB1:=Lib.hid (HB.out.trans (hb.mono HB.out.size));have HX1:=Lib.hid (HX.out.below hb HX.out.lt);have HR1:=Lib.hid (HR.out.below hb HR.out.lt);clear xq0 xq1 xq2 xq3 xq4 xq5 xql r0 r1 r2 f0 f1 f2 rl hb HX HR HB HE;have xq0:=Blk.cell HX1.out 0 (v:=.int .i64 F.since) rfl;have xq1:=Blk.cell HX1.out 1 (v:=.int .i64 F.off) rfl;have xq2:=Blk.cell HX1.out 2 (v:=.int .i64 F.save) rfl;have xq3:=Blk.cell HX1.out 3 (v:=.string F.letter) rfl;have xq4:=Blk.cell HX1.out 4 (v:=.string F.fm) rfl;have xq5:=Blk.cell HX1.out 5 (v:=.slice A F.rules.length c) rfl;have xql:=Blk.lt HX1.out;go_wp2_with fail;refine (HS.out _ HB1.out).mono ?_;rintro o w2 ⟨rfl,hb⟩;have HB2:=Lib.hid (HB1.out.trans (hb.mono HB1.out.size));have HX2:=Lib.hid (HX1.out.below hb HX1.out.lt);have HR2:=Lib.hid (HR1.out.below hb HR1.out.lt);clear xq0 xq1 xq2 xq3 xq4 xq5 xql hb HX1 HR1 HB1 HS;have xq0:=Blk.cell HX2.out 0 (v:=.int .i64 F.since) rfl;have xq1:=Blk.cell HX2.out 1 (v:=.int .i64 F.off) rfl;have xq2:=Blk.cell HX2.out 2 (v:=.int .i64 F.save) rfl;have xq3:=Blk.cell HX2.out 3 (v:=.string F.letter) rfl;have xq4:=Blk.cell HX2.out 4 (v:=.string F.fm) rfl;have xq5:=Blk.cell HX2.out 5 (v:=.slice A F.rules.length c) rfl;have xql:=Blk.lt HX2.out;have r0:=HR2.out.cell 0 (v:=.int .i64 0) rfl;have r1:=HR2.out.cell 1 (v:=.bool false) rfl;have r2:=HR2.out.cell 2 (v:=.string ⟨#[]⟩) rfl;have f0:=HR2.out.frozen 0;have f1:=HR2.out.frozen 1;have f2:=HR2.out.frozen 2;have rl:=HR2.out.lt
    by_cases h0:err = 0
    ·subst h0;go_wp2_with fail;have HY:=Lib.hid (((HR2.out.set 0 (.int .i64 (F.off + F.save))).set 1 (.bool (F.save != 0))).set 2 (.string s));have c0:=HY.out.cell 0 (v:=.int .i64 (F.off + F.save)) rfl;have c1:=HY.out.cell 1 (v:=.bool (F.save != 0)) rfl;have c2:=HY.out.cell 2 (v:=.string s) rfl;refine bodyPost_ret (v:=.tuple #[.agg #[.int .i64 (F.off + F.save),.bool (F.save != 0),.string s],.int .i64 0]) ?_ rfl ⟨rfl,below_set3 HB2.out (by omega) _ _ _⟩;simp [results,Tryz.f30,go_sem,c0,c1,c2]
    ·have h1:(err != 0) = true:=by simpa using h0
     go_wp2_with fail;have HY:=Lib.hid (((HR2.out.set 0 (.int .i64 (0))).set 1 (.bool false)).set 2 (.string ⟨#[]⟩));have c0:=HY.out.cell 0 (v:=.int .i64 (0)) rfl;have c1:=HY.out.cell 1 (v:=.bool false) rfl;have c2:=HY.out.cell 2 (v:=.string ⟨#[]⟩) rfl;refine bodyPost_ret (v:=.tuple #[.agg #[.int .i64 (0),.bool false,.string ⟨#[]⟩],.int .i64 err]) ?_ rfl ⟨rfl,below_set3 HB2.out (by omega) _ _ _⟩;simp [results,Tryz.f30,go_sem,c0,c1,c2]
end
section -- FDel
open Go Go.RowKit Go.Shelf
def fbadAt (l:List Rul):Nat:=(l.takeWhile firesB).length
def fidxV (l:List Rul):Int:=if fbadAt l < l.length then fbadAt l else -1
theorem fbadAt_spec:∀ {l:List Rul} {k:Nat},(∀ i (h:i < l.length),i < k→firesB l[i] = true)→(hk:k < l.length)→firesB l[k] = false→fbadAt l = k
 | [],k,_,hk,_=>by simp at hk
 | x :: l,0,_,_,h=>by
   have h:firesB x = false:=h;unfold fbadAt;rw [List.takeWhile_cons,h]
   rfl
 | x :: l,k + 1,h1,hk,h=>by
   have h0:firesB x = true:=h1 0 (by simp) (by omega);unfold fbadAt;rw [List.takeWhile_cons,if_pos h0,List.length_cons];have:=fbadAt_spec (l:=l) (k:=k) (fun i hi hik=>by have:=h1 (i + 1) (by simpa using hi) (by omega);simpa using this) (by simpa using hk) (by simpa using h);unfold fbadAt at this;rw [this]
theorem fbadAt_all {l:List Rul} (h:∀ i (h:i < l.length),firesB l[i] = true):fbadAt l = l.length:=by
 unfold fbadAt
 have:∀ m:List Rul,(∀ x ∈ m,firesB x = true)→m.takeWhile firesB = m:=fun m=>by
  induction m with
  | nil=>intro _;rfl
  | cons x m ih =>
    intro hm;rw [List.takeWhile_cons,if_pos (hm x (by simp)),ih (fun y hy=>hm y (by simp [hy]))]
 rw [this l (fun x hx=>by obtain ⟨i,hi,rfl⟩:=List.getElem_of_mem hx;exact h i hi)]
theorem fbadAt_take:∀ (l:List Rul),(l.take (fbadAt l)).filter firesB = l.take (fbadAt l)∧∀ h:fbadAt l < l.length,firesB l[fbadAt l] = false
 | []=>⟨rfl,fun h=>by simp at h⟩
 | x :: l=>by
   have ih:=fbadAt_take l
   cases hx:firesB x with
   | false =>
     have e:fbadAt (x :: l) = 0:=by unfold fbadAt;rw [List.takeWhile_cons,hx];rfl
     simp only [e];exact ⟨rfl,fun _=>hx⟩
   | true =>
     have e:fbadAt (x :: l) = fbadAt l + 1:=by unfold fbadAt;rw [List.takeWhile_cons,if_pos hx];rfl
     simp only [e];refine ⟨by rw [List.take_succ_cons,List.filter_cons,if_pos hx,ih.1],fun h=>?_⟩;exact ih.2 (by simpa using h)
theorem drop_fbadAt {l:List Rul} (h:fbadAt l < l.length):l.take (fbadAt l) ++ l[fbadAt l] :: l.drop (fbadAt l + 1) = l∧firesB l[fbadAt l] = false :=
 ⟨by rw [← List.drop_eq_getElem_cons h,List.take_append_drop],(fbadAt_take l).2 h⟩
theorem fires_ne {r:Rul} {b:Bool} (h:firesB r = b):(!firesB r) = !b:=by rw [h]
theorem fidx_any (w:World) (B:Nat) (v:Value) (l:List Rul) (hv:Ruls w B v l) (hB:B ≤ w.heap.size) (hl:l.length ≤ 100000) (ha:Ahead w) :
  Calls Tryz.prog 90 #[v,.func (.func 54) #[] #[]] w fun e w'=>e = .returned (.int .i64 (fidxV l))∧Below w.heap.size w w':=by
 obtain ⟨A,c,rfl,hlc,hcm⟩:=hv.form;unfold maxLen at hcm;have HV:=Lib.hid hv;have HA:=Lib.hid (fun (W:World) (h:Below w.heap.size w W)=>ha.below h (Nat.le_refl _));clear hv ha;go_enter Tryz.func90,Tryz.ntmps90;go_wp2_with fail
 go_loopw [8] (fun iv wr=>∃ k:Nat,k ≤ l.length∧iv = .int .i64 k∧(∀ i (h:i < l.length),i < k→firesB l[i] = true)∧Below w.heap.size w wr) (fun iv _=>l.length - (intOf iv).toNat)
 case atStart=>exact ⟨0,Nat.zero_le _,rfl,fun i h hk=>by omega,Below.refl _ _⟩
 case round =>
  obtain ⟨k,hk,rfl,hall,hbw⟩:=hrel;have HALL:=Lib.hid hall;have HBW:=Lib.hid hbw;have hws:=hbw.size;clear hall hbw
  by_cases hlt:k < l.length
  ·have hd:decide ((k:Int) < (l.length:Int)) = true:=decide_eq_true (by omega);obtain ⟨bb,o,c',e,hbb,hc⟩:=(HV.out.below (HBW.out.mono hB)).cells (by omega)
   cases e
   obtain ⟨c0,c1,c2,c3,c4,c5,c6,c7,c8,c9,c10⟩:=hc k hlt;obtain ⟨r,hr⟩:∃ r,l[k] = r:=⟨_,rfl⟩;rw [hr] at c0 c1 c2 c3 c4 c5 c6 c7 c8 c9 c10;have HR:=Lib.hid hr;have HP:=Lib.hid (fpred_any r wr (HA.out wr HBW.out));unfold rulA at HP;clear hc hr
   cases hkb:firesB r with
   | true =>
     rw [fires_ne hkb] at HP;have HKB:=Lib.hid hkb;clear hkb;go_wp2_with fail;refine HP.out.mono ?_;rintro e w1 ⟨rfl,hb⟩;have HB1:=Lib.hid (HBW.out.trans (hb.mono hws));clear hb c0 c1 c2 c3 c4 c5 c6 c7 c8 c9 c10;go_wp2_with fail;go_roundw
     case rel=>exact ⟨k + 1,by omega,by go_num,fun i h hik=>by
      rcases Nat.lt_or_ge i k with h1 | h1
      ·exact HALL.out i h h1
      ·have:i = k:=by omega
       subst this
       rw [HR.out]
       exact HKB.out,HB1.out⟩
     case measure=>simp [intOf];omega
   | false =>
     rw [fires_ne hkb] at HP
     have HI:=Lib.hid (show fidxV l = k by
      have h:=fbadAt_spec HALL.out hlt (by rw [HR.out];exact hkb)
      unfold fidxV
      rw [h,if_pos hlt])
     clear hkb;go_wp2_with fail;refine HP.out.mono ?_;rintro e w1 ⟨rfl,hb⟩;have HB1:=Lib.hid (HBW.out.trans (hb.mono hws));clear hb c0 c1 c2 c3 c4 c5 c6 c7 c8 c9 c10;go_wp2_with fail;go_ret;exact ⟨by rw [HI.out];rfl,HB1.out⟩
  ·have hd:decide ((k:Int) < (l.length:Int)) = false:=decide_eq_false (by omega)
   have HI:=Lib.hid (show fidxV l = -1 by
    have h:=fbadAt_all (l:=l) (fun i h=>HALL.out i h (by omega))
    unfold fidxV
    rw [h,if_neg (by omega)])
   go_wp2_with fail;go_ret;exact ⟨by rw [HI.out];rfl,HBW.out⟩
theorem fdelete_any (w:World) (base g cap n:Nat) (d:List Rul) (hR:RwR w base g cap n d) (hn:n ≤ 100000) (ha:Ahead w) (htab:0 < base) :
  Calls Tryz.prog 52 #[.slice (some ⟨g,0,none⟩) n cap,.func (.func 54) #[] #[]] w fun e w'=>e = .returned (.slice (some ⟨g,0,none⟩) (d.filter firesB).length cap)∧RwR w' base g cap (d.filter firesB).length (d.filter firesB)∧Fr (fun k=>k = g) w w':=by
 have hroom:=hR.room;have hlen:=hR.len;unfold maxLen at hroom;have hlt0:=hR.lt;have HR:=Lib.hid hR;have HI:=Lib.hid (fidx_any w w.heap.size (.slice (some ⟨g,0,none⟩) n cap) d (by have:=Sl.of_own hR.2;unfold Ruls;rw [hlen];exact this) (Nat.le_refl _) (by omega) ha);have HA:=Lib.hid (fun (W:World) (h:Fr (fun k=>k = g) w W)=>Ahead.fr ha h (by omega));clear hR ha
 rcases Nat.lt_or_ge (fbadAt d) d.length with hbad | hbad
 ·have HIV:=Lib.hid (show fidxV d = (fbadAt d:Nat) by unfold fidxV;rw [if_pos hbad]);rw [HIV.out] at HI;have HK0:=Lib.hid (fbadAt_take d);obtain ⟨t,ht⟩:∃ t,fbadAt d = t:=⟨_,rfl⟩;have htl:t < d.length:=ht ▸ hbad;have HD:=Lib.hid (show d.take t ++ d[t] :: d.drop (t + 1) = d∧firesB d[t] = false by subst ht;exact drop_fbadAt hbad);rw [ht] at HI;have HK0:=Lib.hid (show (d.take t).filter firesB = d.take t from ht ▸ HK0.out.1);clear ht HIV hbad;have hbad:=htl;have htm:((t:Int) == -1) = false:=by simp
  go_enter Tryz.func52,Tryz.ntmps52;go_wp2_with fail;refine HI.out.mono ?_;rintro e w1 ⟨rfl,hb⟩;have HB1:=Lib.hid hb;clear hb HI;go_wp2_with fail
  go_loopw [5,6] (fun kv jv wr=>∃ (j:Nat) (K:List Rul) (y:Rul) (Y:List Rul),jv = .int .i64 j∧kv = .int .i64 K.length∧j ≤ n∧K = (d.take j).filter firesB∧K.length + 1 + Y.length = j∧RwR wr base g cap n (K ++ y :: (Y ++ d.drop j))∧Fr (fun k=>k = g) w wr) (fun _ jv _=>n - (intOf jv).toNat)
  case atStart=>exact ⟨t + 1,d.take t,d[t],[],by go_num,by rw [List.length_take,Nat.min_eq_left (by omega)],by omega,by rw [List.take_succ_eq_append_getElem hbad,List.filter_append,HK0.out,List.filter_cons,if_neg (by rw [HD.out.2];decide)];simp,by rw [List.length_take,Nat.min_eq_left (by omega)];rfl,by
   exact (congrArg (RwR w1 base g cap n) HD.out.1).mpr (HR.out.below HB1.out),Fr.of_below HB1.out (Nat.le_refl _)⟩
  case round =>
   obtain ⟨j,K,y,Y,rfl,rfl,hj,hK,hKY,hrw,hfr⟩:=hrel;have HKJ:=Lib.hid hK;have HRW:=Lib.hid hrw;have HFR:=Lib.hid hfr;have hws:=hfr.size;clear hK hrw hfr;obtain ⟨k,hkl⟩:∃ k,K.length = k:=⟨_,rfl⟩;rw [hkl] at hKY ⊢;have HKL:=Lib.hid hkl;clear hkl
   by_cases hlt:j < n
   ·have hd:decide ((j:Int) < (n:Int)) = true:=decide_eq_true (by omega);have hjd:j < d.length:=by omega
    obtain ⟨r,hr⟩:∃ r,d[j] = r:=⟨_,rfl⟩;have hdj:d.drop j = r :: d.drop (j + 1):=by rw [List.drop_eq_getElem_cons hjd,hr]
    have htj:d.take (j + 1) = d.take j ++ [r]:=by rw [List.take_succ_eq_append_getElem hjd,hr]
    obtain ⟨T,hT⟩:∃ T,d.drop (j + 1) = T:=⟨_,rfl⟩;rw [hT] at hdj;have HRX:=Lib.hid (show RwR wr base g cap n ((K ++ y :: Y) ++ r :: T) by have h:=HRW.out;rw [hdj] at h;simpa using h);have HLX:=Lib.hid (show (K ++ y :: Y).length = j by simp [HKL.out];omega);have HC:=Lib.hid (HLX.out ▸ HRX.out.at_);have HTT:=Lib.hid (And.intro htj hT);obtain ⟨c0,c1,c2,c3,c4,c5,c6,c7,c8,c9,c10⟩:=HC.out;have HP:=Lib.hid (fun (W:World) (h:Below wr.heap.size wr W)=>fpred_any r W ((HA.out wr HFR.out).below h (Nat.le_refl _)));unfold rulA at HP
    obtain ⟨y',Y',hY⟩:∃ y' Y',Y ++ [r] = y' :: Y':=by
     cases Y with
     | nil=>exact ⟨r,[],rfl⟩
     | cons a Y=>exact ⟨a,Y ++ [r],rfl⟩
    have hYl:Y'.length = Y.length:=by have:=congrArg List.length hY;simpa using this.symm
    have HYY:=Lib.hid hY;clear hr hdj htj hT hY
    cases hkb:firesB r with
    | true =>
      rw [fires_ne hkb] at HP;have HN:=Lib.hid (show (d.take (j + 1)).filter firesB = K ++ [r] by rw [HTT.out.1,List.filter_append,← HKJ.out,List.filter_cons,if_pos hkb];rfl);clear hkb;go_wp2_with fail;refine (HP.out _ (by first | exact Below.refl _ _ | exact (Below.refl _ _).alloc (Nat.le_refl _) _)).mono ?_;rintro e w2 ⟨rfl,hb⟩;have hbx:RulB w2 wr.heap.size r:=Blk.below (Blk.new wr 106 #[.string r.name,.int .i64 r.from_,.int .i64 r.to_,.int .i64 r.month,.int .i64 r.dk,.int .i64 r.dw,.int .i64 r.dn,.int .i64 r.sec,.int .i64 r.kind,.int .i64 r.save,.string r.letter]) hb (by simp);have hb2:Below wr.heap.size wr w2:=((Below.refl _ _).alloc (Nat.le_refl _) _).trans (hb.mono (by simp));have HB2:=Lib.hid hb2;have hr2:=HRX.out.below hb2;have HR2:=Lib.hid (show RwR w2 base g cap n (K ++ y :: (Y ++ r :: T)) by simpa using hr2);have HLT2:=hr2.lt;clear hb hb2 hr2 c0 c1 c2 c3 c4 c5 c6 c7 c8 c9 c10 HC;have q0:=Blk.cell hbx 0 (v:=.string r.name) rfl;have q1:=Blk.cell hbx 1 (v:=.int .i64 r.from_) rfl;have q2:=Blk.cell hbx 2 (v:=.int .i64 r.to_) rfl;have q3:=Blk.cell hbx 3 (v:=.int .i64 r.month) rfl;have q4:=Blk.cell hbx 4 (v:=.int .i64 r.dk) rfl;have q5:=Blk.cell hbx 5 (v:=.int .i64 r.dw) rfl;have q6:=Blk.cell hbx 6 (v:=.int .i64 r.dn) rfl;have q7:=Blk.cell hbx 7 (v:=.int .i64 r.sec) rfl;have q8:=Blk.cell hbx 8 (v:=.int .i64 r.kind) rfl;have q9:=Blk.cell hbx 9 (v:=.int .i64 r.save) rfl;have q10:=Blk.cell hbx 10 (v:=.string r.letter) rfl;have hd_:=HR2.out.at_;rw [HKL.out] at hd_;obtain ⟨d0,d1,d2,d3,d4,d5,d6,d7,d8,d9,d10⟩:=hd_;have fz:=HR2.out.frozen;have hkn:k < n:=by omega
      have HP2:=Lib.hid (HR2.out.put r);rw [HKL.out] at HP2;go_wp2_with fail;go_roundw
      case rel=>exact ⟨j + 1,K ++ [r],y',Y',by go_num,by rw [List.length_append,HKL.out];rfl,by omega,HN.out.symm,by simp [HKL.out];omega,by
       rw [HTT.out.2]
       have h:=HP2.out
       have e:K ++ [r] ++ y' :: (Y' ++ T) = K ++ r :: (Y ++ r :: T):=by
        rw [← List.cons_append,← HYY.out]
        simp
       rw [e]
       exact h,(HFR.out.then (Fr.of_below HB2.out (Nat.le_refl _))).then (putR_fr w2 g (k * 11) r)⟩
      case measure=>simp [intOf];omega
    | false =>
      rw [fires_ne hkb] at HP;have HN:=Lib.hid (show (d.take (j + 1)).filter firesB = K by rw [HTT.out.1,List.filter_append,← HKJ.out,List.filter_cons,if_neg (by rw [hkb];decide)];simp);clear hkb;go_wp2_with fail;refine (HP.out _ (by first | exact Below.refl _ _ | exact (Below.refl _ _).alloc (Nat.le_refl _) _)).mono ?_;rintro e w2 ⟨rfl,hb⟩;have hb2:Below wr.heap.size wr w2:=((Below.refl _ _).alloc (Nat.le_refl _) _).trans (hb.mono (by simp));have HB2:=Lib.hid hb2;clear hb hb2 c0 c1 c2 c3 c4 c5 c6 c7 c8 c9 c10 HC;go_wp2_with fail;go_roundw
      case rel=>exact ⟨j + 1,K,y,Y ++ [r],by go_num,by rw [HKL.out],by omega,HN.out.symm,by simp [HKL.out];omega,by
       rw [HTT.out.2]
       have h:=HRX.out.below HB2.out
       simpa using h,HFR.out.then (Fr.of_below HB2.out (Nat.le_refl _))⟩
      case measure=>simp [intOf];omega
   ·obtain rfl:j = n:=by omega
    have hd:decide ((j:Int) < (j:Int)) = false:=decide_eq_false (by omega);obtain ⟨vs,hcl⟩:=clear_run HRW.out 0 (k * 11) (j - k) (cap - k) (by omega) (by omega);have HBH:=Lib.hid (RwR.behind vs (k * 11) (Nat.le_refl _) (HRW.out.front HKL.out));have HKF:=Lib.hid (show K = d.filter firesB by rw [HKJ.out,List.take_of_length_le (by omega)]);have hck:¬ cap = k:=by omega
    go_wp2_with fail;go_ret;rw [HKF.out] at HKL HBH;rw [HKL.out];exact ⟨rfl,HBH.out.1,HFR.out.then HBH.out.2⟩
 ·have HIV:=Lib.hid (show fidxV d = -1 by unfold fidxV;rw [if_neg (by omega)]);rw [HIV.out] at HI
  have HE:=Lib.hid (show d.filter firesB = d by
   have h:=(fbadAt_take d).1
   rwa [List.take_of_length_le hbad] at h)
  rw [HE.out,hlen];clear HIV;go_enter Tryz.func52,Tryz.ntmps52;go_wp2_with fail;refine HI.out.mono ?_;rintro e w1 ⟨rfl,hb⟩;have HB1:=Lib.hid hb;clear hb HI;go_wp2_with fail;go_ret;exact ⟨rfl,HR.out.below HB1.out,Fr.of_below HB1.out (Nat.le_refl _)⟩
end
section -- TMath
structure Loc where
 off:Int
 dst:Bool
 abbr:ByteArray
structure Chg where
 at_:Int
 loc:Loc
def Loc.zero:Loc:=⟨0,false,⟨#[]⟩⟩
def Chg.zero:Chg:=⟨0,.zero⟩
instance:Inhabited Loc:=⟨.zero⟩
instance:Inhabited Chg:=⟨.zero⟩
def Rising (l:List Chg):Prop:=∀ i (h:i + 1 < l.length),(l[i]).at_ < (l[i + 1]).at_
end
section -- TBase
open Go Go.RowKit
def chgV (c:Chg):List Value:=[.int .i64 c.at_,.int .i64 c.loc.off,.bool c.loc.dst,.string c.loc.abbr]
def locA (x:Loc):Value:=.agg #[.int .i64 x.off,.bool x.dst,.string x.abbr]
def chgA (c:Chg):Value:=.agg #[.int .i64 c.at_,.int .i64 c.loc.off,.bool c.loc.dst,.string c.loc.abbr]
def chgsV (l:List Chg):List Value:=l.flatMap chgV
theorem chgsV_at (l:List Chg) (i:Nat) (h:i < l.length):(chgsV l)[i * 4]? = some (.int .i64 (l[i]).at_)∧(chgsV l)[i * 4 + 1]? = some (.int .i64 (l[i]).loc.off)∧(chgsV l)[i * 4 + 2]? = some (.bool (l[i]).loc.dst)∧(chgsV l)[i * 4 + 3]? = some (.string (l[i]).loc.abbr):=by
 induction l generalizing i with
 | nil=>exact absurd h (by simp)
 | cons c l ih =>
   rcases i with _ | i
   ·exact ⟨rfl,rfl,rfl,rfl⟩
   ·have:=ih i (by simpa using h);rw [show (i + 1) * 4 = i * 4 + 1 + 1 + 1 + 1 by omega];exact this
theorem chgsV_append (l m:List Chg):chgsV (l ++ m) = chgsV l ++ chgsV m:=by simp [chgsV]
def Chgs (w:World) (B:Nat) (v:Value) (l:List Chg):Prop:=Sl w B 4 v l.length (chgsV l)
section
variable {w w':World} {B B':Nat} {v:Value} {l:List Chg}
theorem Chgs.form (h:Chgs w B v l):∃ A c,v = .slice A l.length c∧l.length ≤ c∧c ≤ maxLen:=by
 obtain ⟨A,c,rfl,h1,h2,-⟩:=h;exact ⟨A,c,rfl,h1,h2⟩
theorem Chgs.below (h:Chgs w B v l) (hb:Below B w w'):Chgs w' B v l:=Sl.below h hb
theorem Chgs.cells (h:Chgs w B v l) (hl:0 < l.length):∃ b o c,v = .slice (some ⟨b,o,none⟩) l.length c∧b < B∧∀ i (hi:i < l.length),w.cell? ⟨b,o + i * 4,none⟩ = some (.int .i64 (l[i]).at_)∧w.cell? ⟨b,o + i * 4 + 1,none⟩ = some (.int .i64 (l[i]).loc.off) ∧
  w.cell? ⟨b,o + i * 4 + 2,none⟩ = some (.bool (l[i]).loc.dst)∧w.cell? ⟨b,o + i * 4 + 3,none⟩ = some (.string (l[i]).loc.abbr):=by
 obtain ⟨b,o,c,e,hb,hc⟩:=Sl.at_ h hl;refine ⟨b,o,c,e,hb,fun i hi=>?_⟩;obtain ⟨h0,h1,h2,h3⟩:=chgsV_at l i hi;exact ⟨hc _ _ h0,by rw [Nat.add_assoc];exact hc _ _ h1,by rw [Nat.add_assoc];exact hc _ _ h2,by rw [Nat.add_assoc];exact hc _ _ h3⟩
end
abbrev ChgB (W:World) (b:Nat) (c:Chg):Prop:=Blk W b 76 #[.int .i64 c.at_,.int .i64 c.loc.off,.bool c.loc.dst,.string c.loc.abbr]
end
section -- HMath
open Go Go.RowKit Go.Shelf
def locE (x y:Loc):Bool:=decide (x.off = y.off∧x.dst = y.dst∧x.abbr.toList = y.abbr.toList)
theorem bytes_list {a b:ByteArray} (h:a.toList = b.toList):a = b:=by
 rw [ByteArray.toList_eq,ByteArray.toList_eq] at h;obtain ⟨⟨l⟩⟩:=a;obtain ⟨⟨m⟩⟩:=b;have h2:l = m:=h;rw [h2]
theorem locE_iff {x y:Loc}:locE x y = true ↔ x = y:=by
 unfold locE;rw [decide_eq_true_eq]
 constructor
 ·rintro ⟨h1,h2,h3⟩;obtain ⟨a,b,c⟩:=x;obtain ⟨a',b',c'⟩:=y;have h4:=bytes_list h3;simp only at h1 h2 h4;subst h1 h2 h4
  rfl
 ·rintro rfl;exact ⟨rfl,rfl,rfl⟩
def locW (x:EraF) (R:List Rul) (i:Int):Loc :=
 if (showV x.fm (x.n.off + (savesV x.n x.ru R i).1) (dstB (savesV x.n x.ru R i).1) (savesV x.n x.ru R i).2).2 = 0 then ⟨x.n.off + (savesV x.n x.ru R i).1,dstB (savesV x.n x.ru R i).1,(showV x.fm (x.n.off + (savesV x.n x.ru R i).1) (dstB (savesV x.n x.ru R i).1) (savesV x.n x.ru R i).2).1⟩ else .zero
def turnsF (x:EraF) (R:List Rul):Chg→List (Int × Fir)→List Chg
 | _,[]=>[]
 | now,y :: t=>bif locE (locW x R y.1) now.loc then (if max now.at_ 64060588800 + 12680582400 < y.1 then [] else turnsF x R now t) else ⟨y.1,locW x R y.1⟩ :: turnsF x R ⟨y.1,locW x R y.1⟩ t
def turnsL (x:EraF) (R:List Rul) (fr to:Int):List Chg:=turnsF x R ⟨fr,locW x R fr⟩ (firedF R x.n.off fr to)
theorem turnsF_same {x:EraF} {R:List Rul} {now:Chg} {y:Int × Fir} {t:List (Int × Fir)} (h:locE (locW x R y.1) now.loc = true) (h2:¬ max now.at_ 64060588800 + 12680582400 < y.1):turnsF x R now (y :: t) = turnsF x R now t:=by
 show (bif locE (locW x R y.1) now.loc then _ else _) = _
 rw [h,cond_true,if_neg h2]
theorem turnsF_end {x:EraF} {R:List Rul} {now:Chg} {y:Int × Fir} {t:List (Int × Fir)} (h:locE (locW x R y.1) now.loc = true) (h2:max now.at_ 64060588800 + 12680582400 < y.1):turnsF x R now (y :: t) = []:=by
 show (bif locE (locW x R y.1) now.loc then _ else _) = _
 rw [h,cond_true,if_pos h2]
theorem turnsF_turn {x:EraF} {R:List Rul} {now:Chg} {y:Int × Fir} {t:List (Int × Fir)} (h:locE (locW x R y.1) now.loc = false):turnsF x R now (y :: t) = ⟨y.1,locW x R y.1⟩ :: turnsF x R ⟨y.1,locW x R y.1⟩ t:=by
 show (bif locE (locW x R y.1) now.loc then _ else _) = _
 rw [h,cond_false]
theorem firedN_in {l:List Rul} {off fr to:Int}:∀ {n:Nat} {o:Option Fir} {x:Int × Fir},x ∈ firedN l off fr to n o→fr < x.1∧x.1 ≤ to
 | 0,_,_,h=>by cases h
 | _ + 1,none,_,h=>by cases h
 | n + 1,some f,x,h=>by
   unfold firedN at h
   split at h
   ·split at h
    ·exact firedN_in h
    ·rename_i hn
     rcases List.mem_cons.1 h with rfl | h
     ·show fr < instF f off (savedF l f)∧instF f off (savedF l f) ≤ to
      omega
     ·exact firedN_in h
   ·cases h
theorem firedF_in {l:List Rul} {off fr to:Int} {x:Int × Fir} (h:x ∈ firedF l off fr to):fr < x.1∧x.1 ≤ to:=firedN_in h
end
section -- NSpans
open Go Go.RowKit Go.Shelf
attribute [local go_sem] Oper.semAt_some
end
section -- GSpans
open Go Go.RowKit Go.Shelf
attribute [local go_sem] Oper.semAt_some
def toV (E:List Int) (k:Nat):Int:=E.getD k 2199023255553
def fromV (E:List Int) (k:Nat):Int:=if k = 0 then -2199023255553 else toV E (k - 1)
theorem toV_at {E:List Int} {k:Nat} (h:k < E.length):toV E k = E[k]:=by unfold toV;rw [List.getD_eq_getElem?_getD,List.getElem?_eq_getElem h];rfl
theorem toV_out {E:List Int} {k:Nat} (h:E.length ≤ k):toV E k = 2199023255553:=by unfold toV;rw [List.getD_eq_getElem?_getD,List.getElem?_eq_none h];rfl
theorem fromV_succ (E:List Int) (k:Nat):fromV E (k + 1) = toV E k:=by unfold fromV;rw [if_neg (by omega)];rfl
end
section -- HStepM
open Go Go.RowKit Go.Shelf
def eraT (S:List SetF) (l:List EraF) (fr to:Int) (k:Nat):List Chg :=
 if toV (endL S l) k - 1 ≤ fr∨to < fromV (endL S l) k then [] else
  (if fr < fromV (endL S l) k then [⟨fromV (endL S l) k,locW (l.getD k default) (ruleE S (l.getD k default)) (fromV (endL S l) k)⟩] else []) ++
    turnsL (l.getD k default) (ruleE S (l.getD k default)) (max fr (fromV (endL S l) k)) (min to (toV (endL S l) k - 1))
def stepsL (S:List SetF) (l:List EraF) (fr to:Int):List Chg:=(List.range l.length).flatMap (eraT S l fr to)
section
variable {S:List SetF} {l:List EraF} {fr to:Int} {k:Nat}
theorem stepsF_succ:(List.range (k + 1)).flatMap (eraT S l fr to) = (List.range k).flatMap (eraT S l fr to) ++ eraT S l fr to k:=by
 rw [List.range_succ,List.flatMap_append];simp
theorem eraT_skip (h:toV (endL S l) k - 1 ≤ fr∨to < fromV (endL S l) k):eraT S l fr to k = []:=by unfold eraT;rw [if_pos h]
theorem eraT_at (h:¬ (toV (endL S l) k - 1 ≤ fr∨to < fromV (endL S l) k)) (h2:fr < fromV (endL S l) k):eraT S l fr to k = ⟨fromV (endL S l) k,locW (l.getD k default) (ruleE S (l.getD k default)) (fromV (endL S l) k)⟩ :: turnsL (l.getD k default) (ruleE S (l.getD k default)) (max fr (fromV (endL S l) k)) (min to (toV (endL S l) k - 1)):=by
 unfold eraT;rw [if_neg h,if_pos h2]
 rfl
theorem eraT_in (h:¬ (toV (endL S l) k - 1 ≤ fr∨to < fromV (endL S l) k)) (h2:¬ fr < fromV (endL S l) k):eraT S l fr to k = turnsL (l.getD k default) (ruleE S (l.getD k default)) (max fr (fromV (endL S l) k)) (min to (toV (endL S l) k - 1)):=by
 unfold eraT;rw [if_neg h,if_neg h2]
 rfl
theorem errZ_off (h:errZ S l = 0) (hk:k < l.length):(-90000 < l[k].n.off∧l[k].n.off < 90000)∧(-90000 < l[k].n.save∧l[k].n.save < 90000):=by
 have h1:=(errZ_zero h).2.2.1 k hk;rw [errAt_eq hk] at h1;unfold errE at h1
 split at h1
 ·split at h1
  ·rename_i h2;unfold withinB at h2;simp only [Bool.and_eq_true,decide_eq_true_eq] at h2;omega
  ·cases h1
 ·rename_i hn;exact absurd h1 hn
end
end
section -- HShown
open Go Go.RowKit Go.Shelf
end
section -- GRows
open Go Go.RowKit Go.Shelf
structure RowF where
 v:Value
 D:List FrI
 letter:ByteArray
instance:Inhabited RowF:=⟨⟨.slice none 0 0,[],⟨#[]⟩⟩⟩
def RowF.cells (r:RowF):List Value:=[r.v,.string r.letter]
theorem infoRow:(Tryz.prog.info? 121).map (fun i=>(i.zero,i.size,i.bytes)) = some (some (.agg #[.slice none 0 0,.string ⟨#[]⟩]),2,40):=by kernel_rfl
theorem rule_right {S:List SetF} (h:∀ s ∈ S,rightB s.l = true) (x:EraF):rightB (ruleE S x) = true:=by
 unfold ruleE
 split
 ·exact right_nil
 ·exact set_right h x.ru
structure RowOk (S:List SetF) (x:EraF) (r:RowF):Prop where
 right:RightR (ruleE S x) (r.D.map FrI.f)
 letter:r.letter = letV (ruleE S x)
 len:r.D.length ≤ 100000
 bd:∀ y ∈ r.D,(-1000000000000000 ≤ y.f.nominal∧y.f.nominal ≤ 1000000000000000)∧-1000000000000000 ≤ y.f.save∧y.f.save ≤ 1000000000000000
theorem rowOk_of {S:List SetF} (hS:∀ s ∈ S,rightB s.l = true) {x:EraF} {r:RowF} (hst:Stab Fir.nominal (genL (ruleE S x) 1890 2110) (r.D.map FrI.f)) (hl:r.letter = letV (ruleE S x)):RowOk S x r:=by
 obtain ⟨A,hA,hs,-⟩:=right_yes (rule_right hS x);have e:=hst.unique hs;obtain ⟨h1,h2⟩:=D_ok (rule_right hS x) hst;exact ⟨by rw [e];exact hA,hl,h1,h2⟩
theorem rowOk_nil {S:List SetF} (hS:∀ s ∈ S,rightB s.l = true) {x:EraF} (h0:x.ru.size = 0):RowOk S x ⟨.slice none 0 0,[],⟨#[]⟩⟩:=by
 have e:ruleE S x = []:=by unfold ruleE;rw [if_pos h0]
 refine rowOk_of hS ?_ ?_
 ·rw [e];exact Stab.nil
 ·rw [e];rfl
theorem own_ne {W:World} {X:Nat} {t e:TypeId} {cs:Array Value} {base sz n:Nat} {u:Value} {xs:List Value} (hx:Blk W X t cs) (ho:W.ownsRow base e sz u n xs) (hte:t ≠ e):u.ownBlock ≠ some X:=fun h=>by
 rcases ho.2 with ⟨rfl,_⟩ | ⟨g,cap,cur,rfl,hb,hg,-⟩
 ·cases h
 ·have h1:g = X:=by injection h
  subst h1;unfold Blk at hx;rw [hx] at hg;injection hg with hg
  injection hg with _ hg
  exact hte hg
theorem frisN_grown {W W':World} {v u:Value} {D:List FrI} {base sz n:Nat} {xs:List Value} (h:FrisN W v D) (ho:W.ownsRow base 121 sz u n xs) (hg:W.grownBy W' u.ownBlock):FrisN W' v D:=by
 have hne:∀ (b:Nat) (cs:Array Value) (fr:Nat × Nat),W.heap[b]? = some (Obj.cells cs 129 fr)→W'.heap[b]? = W.heap[b]?:=fun b cs fr hb=>by
  refine hg.block b (Array.getElem?_eq_some_iff.1 hb).1 fun e=>?_
  rcases ho.2 with ⟨rfl,_⟩ | ⟨g,cap,cur,rfl,hb2,hg2,-⟩
  ·cases e
  ·have h1:b = g:=by injection e
   subst h1;rw [hb] at hg2;injection hg2 with hg2
   injection hg2 with _ hg2
   revert hg2
   decide
 obtain ⟨⟨A,c,rfl,h1,h2,hl,hc⟩,hty⟩:=h;refine ⟨⟨A,c,rfl,h1,h2,hl,fun hn=>?_⟩,hty.kept hne⟩;obtain ⟨b,o,rfl,hb,hcc⟩:=hc hn;obtain ⟨cs,fr,hbt⟩:=hty b o _ _ rfl;exact ⟨b,o,rfl,Nat.lt_of_lt_of_le hb hg.size,fun j y hy=>(World.cell?_of_block (hne b cs fr hbt)).trans (hcc j y hy)⟩
def RowsM (W:World) (u:Value) (R:List RowF):Prop:=Sl W W.heap.size 2 u R.length (R.flatMap RowF.cells)∧∀ r ∈ R,FrisN W r.v r.D
theorem RowsM.below {W W':World} {u:Value} {R:List RowF} (h:RowsM W u R) (hb:Below W.heap.size W W'):RowsM W' u R:=⟨Sl.more (Sl.below h.1 hb) hb.size,fun r hr=>(h.2 r hr).below hb⟩
theorem RowsM.form {W:World} {u:Value} {R:List RowF} (h:RowsM W u R):∃ A c,u = .slice A R.length c∧R.length ≤ c∧c ≤ maxLen:=by obtain ⟨A,c,e,h1,h2,_⟩:=h.1;exact ⟨A,c,e,h1,h2⟩
theorem RowsM.cells {W:World} {u:Value} {R:List RowF} (h:RowsM W u R) (hl:0 < R.length):∃ b o c,u = .slice (some ⟨b,o,none⟩) R.length c∧b < W.heap.size∧∀ i (hi:i < R.length),W.cell? ⟨b,o + i * 2,none⟩ = some R[i].v∧W.cell? ⟨b,o + i * 2 + 1,none⟩ = some (.string R[i].letter):=by
 obtain ⟨b,o,c,e,hb,hc⟩:=Sl.at_ h.1 hl;refine ⟨b,o,c,e,hb,fun i hi=>?_⟩
 have hk:∀ k u,k < 2→(RowF.cells R[i])[k]? = some u→W.cell? ⟨b,o + i * 2 + k,none⟩ = some u:=fun k u hk hu=>by
  rw [Nat.add_assoc];exact hc _ u (by rw [flat_at RowF.cells 2 R (fun a _=>rfl) i k hi hk];exact hu)
 exact ⟨hk 0 _ (by omega) rfl,hk 1 _ (by omega) rfl⟩
def RowsPost (w:World) (S:List SetF) (l:List EraF) (o:Ending) (w':World):Prop :=
 (∃ u R,o = .returned u∧R.length = l.length∧(∀ i (h:i < R.length) (h2:i < l.length),RowOk S l[i] R[i])∧RowsM w' u R)∧Below w.heap.size w w'
theorem rows_any (zn:ByteArray) (ev sv:Value) (B:Nat) (l:List EraF) (S:List SetF) (w:World) (hz:ZW w B ev sv l S) (hS:∀ s ∈ S,rightB s.l = true) (hl:l.length ≤ 1000000) :
  Calls Tryz.prog 62 #[worldA zn ev sv] w (RowsPost w S l):=by
 obtain ⟨A,cA,rfl,hlc,hcm⟩:=hz.eras.form;obtain ⟨A2,cS,rfl,-,-⟩:=hz.sets.form;unfold maxLen at hcm;have hb0:Below w.heap.size w (w.alloc (.cells #[.string zn,.slice A l.length cA,.slice A2 S.length cS] 27)):=(Below.refl w.heap.size w).alloc (Nat.le_refl _) _;have HX:=Lib.hid (Blk.new w 27 #[.string zn,.slice A l.length cA,.slice A2 S.length cS]);have HB:=Lib.hid hb0;have HZ0:=Lib.hid hz;have HS:=Lib.hid hS;obtain ⟨i0,hi0,hz0,hz1,hz2⟩:=info_parts infoRow;clear hz hb0 hS;unfold worldA;go_enter Tryz.func62,Tryz.ntmps62;go_wp2_with fail;obtain ⟨W0,hW0⟩:∃ W,w.alloc (.cells #[.string zn,.slice A l.length cA,.slice A2 S.length cS] 27) = W:=⟨_,rfl⟩;rw [hW0] at HX HB;try simp only [hW0]
 clear hW0
 go_loopw [3,4] (fun u iv wr=>∃ R:List RowF,R.length ≤ l.length∧iv = .int .i64 R.length∧wr.ownsRow w.heap.size 121 2 u R.length (R.flatMap RowF.cells)∧(∀ r ∈ R,FrisN wr r.v r.D)∧(∀ i (h:i < R.length) (h2:i < l.length),RowOk S l[i] R[i])∧Blk wr w.heap.size 27 #[.string zn,.slice A l.length cA,.slice A2 S.length cS]∧Below w.heap.size w wr) (fun _ iv _=>l.length - (intOf iv).toNat)
 case atStart=>exact ⟨[],Nat.zero_le _,rfl,World.ownsRow_nil _ _ _ _,fun _ h=>absurd h List.not_mem_nil,fun i h=>absurd h (Nat.not_lt_zero i),HX.out,HB.out⟩
 case round =>
  obtain ⟨R,hR,rfl,hown,hfs,hro,hxb,hbw⟩:=hrel;have HOW:=Lib.hid hown;have HFS:=Lib.hid hfs;have HRO:=Lib.hid hro;have HXW:=Lib.hid hxb;have HBW:=Lib.hid hbw;have HZW:=Lib.hid (HZ0.out.below hbw);obtain ⟨A5,c5,hu⟩:=(Sl.of_own hown).form;subst hu;have hws:=hbw.size;have hxl:=HXW.out.lt;have x0:=HXW.out.cell 0 (v:=.string zn) rfl;have x1:=HXW.out.cell 1 (v:=.slice A l.length cA) rfl;have x2:=HXW.out.cell 2 (v:=.slice A2 S.length cS) rfl;clear hown hfs hro hxb hbw
  by_cases hlt:R.length < l.length
  ·have hd:decide ((R.length:Int) < (l.length:Int)) = true:=decide_eq_true (by omega);obtain ⟨bb,o,c',e,hbb,hc⟩:=HZW.out.eras.cells (by omega)
   cases e
   have hx:=hc _ hlt;have hbbl:bb < wr.heap.size:=by have:=HZW.out.le;omega
   obtain ⟨x,hxk⟩:∃ x,l[R.length] = x:=⟨_,rfl⟩;rw [hxk] at hx;have HXK:=Lib.hid hxk;obtain ⟨c0,c1,c2,c3,c4,c5,c6,c7,c8,c9,c10,c11⟩:=hx;have HBI2:=Lib.hid ((Below.refl wr.heap.size wr).alloc (Nat.le_refl _) (.cells #[.slice none 0 0,.string ⟨#[]⟩] 121));have HR2:=Lib.hid (Blk.new wr 121 #[.slice none 0 0,.string ⟨#[]⟩]);have HRL:=Lib.hid (show R.length ≤ 1000000 by omega);clear hc hxk c0 c2 c3 c4 c5 c6 c7 c8 c9 c10 c11
   by_cases hru:x.ru.size = 0
   ·have hem:(x.ru.toList == []) = true:=by rw [emp_size,decide_eq_true hru]
    have HROK:=Lib.hid (rowOk_nil HS.out hru);obtain ⟨rr,hrr⟩:∃ r:RowF,(⟨.slice none 0 0,[],⟨#[]⟩⟩:RowF) = r:=⟨_,rfl⟩;have HRR:=Lib.hid (show FrisN (wr.alloc (.cells #[.slice none 0 0,.string ⟨#[]⟩] 121)) rr.v rr.D by rw [← hrr];exact ⟨Sl.nil _ _ _,TyF.nil _ _ _⟩);have HRV:=Lib.hid (show rr.v = .slice none 0 0∧rr.letter = ⟨#[]⟩ by rw [← hrr];exact ⟨rfl,rfl⟩);rw [hrr] at HROK;have HBI5:=HBI2;clear hru hrr;have HOW5:=Lib.hid (ownsRow_below HOW.out HBI5.out);have HB5:=Lib.hid (HBW.out.trans (HBI5.out.mono HBW.out.size));have HX5:=Lib.hid (HXW.out.below HBI5.out HXW.out.lt);have hsz5:=HB5.out.size;go_wp2_with (at_builtin;go_loud (refine wpList_append_own _ rfl _ _ 57 rfl w.heap.size 121 i0 (.agg #[.slice none 0 0,.string ⟨#[]⟩]) 2 40 Tryz.underlying57 hi0 hz0 hz1 hz2 rfl (by decide) _ R.length _ rfl (HOW5.out.alloc _) ⟨wr.heap.size + 1,0,none⟩ 1 1 [.slice none 0 0,.string ⟨#[]⟩] rfl rfl (fun j y hy=>by rw [Addr.add_lit,Nat.zero_add];first | exact (cell_new2 _ _ _ _ _ j).trans (by simpa using hy) | exact (cell_new _ _ _ _ j).trans (by simpa using hy)) (by simp [Value.oneCell']) (by unfold maxLen;omega) (by omega) (by simp;omega) ?_);intro v' w1 hown' hgrow _);go_roundw
    case rel =>
     refine ⟨R ++ [rr],?_,by rw [List.length_append];go_num,?_,?_,?_,?_,below_push HB5.out HOW5.out hgrow⟩
     ·rw [List.length_append];exact hlt
     ·rw [List.length_append,List.flatMap_append];simpa [RowF.cells,HRV.out] using hown'
     ·intro r hr;have ho:=HOW5.out.alloc (.cells #[.slice none 0 0,.string ⟨#[]⟩] 121);have hab:Below (wr.alloc (.cells #[.slice none 0 0,.string ⟨#[]⟩] 121)).heap.size (wr.alloc (.cells #[.slice none 0 0,.string ⟨#[]⟩] 121)) ((wr.alloc (.cells #[.slice none 0 0,.string ⟨#[]⟩] 121)).alloc (.cells #[.slice none 0 0,.string ⟨#[]⟩] 121)):=(Below.refl _ _).alloc (Nat.le_refl _) _
      rcases List.mem_append.1 hr with hr | hr
      ·exact frisN_grown (((HFS.out r hr).below HBI5.out).below hab) ho hgrow
      ·obtain rfl:r = rr:=by simpa using hr
       exact frisN_grown (HRR.out.below hab) ho hgrow
     ·intro i h h2
      rcases Nat.lt_or_ge i R.length with g | g
      ·rw [List.getElem_append_left g];exact HRO.out i g h2
      ·have:i = R.length:=by rw [List.length_append] at h;simp at h;omega
       subst this;rw [List.getElem_append_right (Nat.le_refl _)];simp only [Nat.sub_self,List.getElem_cons_zero];rw [HXK.out];exact HROK.out
     ·exact (HX5.out.alloc (.cells #[.slice none 0 0,.string ⟨#[]⟩] 121)).grown hgrow (own_ne (HX5.out.alloc (.cells #[.slice none 0 0,.string ⟨#[]⟩] 121)) (HOW5.out.alloc (.cells #[.slice none 0 0,.string ⟨#[]⟩] 121)) (by decide))
    case measure=>first | (simp [intOf];done) | (simp [intOf];omega)
   ·have hem:(x.ru.toList == []) = false:=by rw [emp_size,decide_eq_false hru]
    have HRE:=Lib.hid (show ruleE S x = ofRul S x.ru by unfold ruleE;rw [if_neg hru]);clear hru;go_wp2_with fail;obtain ⟨W5,hW5⟩:∃ W,wr.alloc (.cells #[.slice none 0 0,.string ⟨#[]⟩] 121) = W:=⟨_,rfl⟩;rw [hW5] at HBI2 HR2;try simp only [hW5]
    clear hW5;have HZ5:=Lib.hid (HZW.out.below (below_drewN HBI2.out 1));have HX5_:=Lib.hid (HXW.out.below HBI2.out HXW.out.lt);have hx5l:=HX5_.out.lt;have x0:=HX5_.out.cell 0 (v:=.string zn) rfl;have x1:=HX5_.out.cell 1 (v:=.slice (some ⟨bb,o,none⟩) l.length cA) rfl;have x2:=HX5_.out.cell 2 (v:=.slice A2 S.length cS) rfl;have c1:=(HBI2.out.cell (p:=⟨bb,o + R.length * 12 + 1,none⟩) (by show bb < _;have:=HZW.out.le;omega)).trans c1;have HOF:=Lib.hid (wof_any _ zn (.slice (some ⟨bb,o,none⟩) l.length cA) (.slice A2 S.length cS) B S HZ5.out.sets HZ5.out.le x.ru);obtain ⟨A3,c3',e3⟩:=ofVal_form HZ5.out.sets x.ru;have HRU:=Lib.hid (HZ5.out.sets.of_ruls x.ru);rw [e3] at HOF HRU;unfold worldA at HOF;refine wp_text (by kernel_rfl) (by kernel_rfl) ?_;intro K hK;go_wp2_with fail;refine HOF.out.mono ?_;rintro e w6 ⟨rfl,hb⟩;have HB6:=Lib.hid ((below_drewN (Below.refl W5.heap.size W5) 1).trans hb);have HR6:=Lib.hid (HRU.out.below (hb.mono HZ5.out.le));have hs6:=HB6.out.size;clear hb x0 x1 x2 c1 HOF HZ5 HRU;go_wp2_with fail;refine (rof_any w6 B _ (ofRul S x.ru) HR6.out (by have:=HZW.out.le;have:=HBI2.out.size;omega) (right_small (set_right HS.out x.ru))).mono ?_;rintro e w7 ⟨u,D,rfl,hst,hfr,hb⟩;have HB7:=Lib.hid (HB6.out.trans (hb.mono hs6));have hr7:=(HR2.out.below HB6.out HR2.out.lt).below hb (Nat.lt_of_lt_of_le HR2.out.lt hs6);have HR7:=Lib.hid hr7;have HFR:=Lib.hid hfr;have hr7l:=hr7.lt;have r0:=hr7.cell 0 (v:=.slice none 0 0) rfl;have r1:=hr7.cell 1 (v:=.string ⟨#[]⟩) rfl;have f0:=hr7.frozen 0;have f1:=hr7.frozen 1;have HROK:=Lib.hid (show RowOk S x ⟨u,D,letV (ofRul S x.ru)⟩ from rowOk_of HS.out (by rw [HRE.out];exact hst) (by rw [HRE.out]));obtain ⟨A6,c6',rfl,-,-⟩:=hfr.1.form;clear hb hr7 hst hfr;go_wp2_with fail;refine ⟨by simp [goodB,fits,plainPair,isSeqV,quiet,Act.eval],?_⟩;obtain ⟨rr,hrr⟩:∃ r:RowF,(⟨.slice A6 D.length c6',D,letV (ofRul S x.ru)⟩:RowF) = r:=⟨_,rfl⟩;have hf8:=(Fr.setCell (T:=fun k=>k = wr.heap.size) w7 0 (.slice A6 D.length c6') rfl).then (Fr.setCell (b:=wr.heap.size) _ 1 (.string (letV (ofRul S x.ru))) rfl)
    have hn8:FrisN ((w7.setCell ⟨wr.heap.size,0,none⟩ (.slice A6 D.length c6')).setCell ⟨wr.heap.size,1,none⟩ (.string (letV (ofRul S x.ru)))) (.slice A6 D.length c6') D :=
     ⟨fris_other HFR.out.1 HR7.out rfl rfl hf8 (by simp),HFR.out.2.kept fun b cs fr h1=>hf8.block b (Array.getElem?_eq_some_iff.1 h1).1 (fun e=>by have h2:=HR7.out;subst e;unfold Blk at h2;rw [h1] at h2;injection h2 with h2;injection h2 with _ h2;revert h2;decide)⟩
    have hb8:Below wr.heap.size wr ((w7.setCell ⟨wr.heap.size,0,none⟩ (.slice A6 D.length c6')).setCell ⟨wr.heap.size,1,none⟩ (.string (letV (ofRul S x.ru)))):=((HBI2.out.trans (HB7.out.mono HBI2.out.size)).setCell (Nat.le_refl _) _).setCell (Nat.le_refl _) _;have hr8:=(HR7.out.set 0 (.slice A6 D.length c6')).set 1 (.string (letV (ofRul S x.ru)));obtain ⟨w8,hw8⟩:∃ W,(w7.setCell ⟨wr.heap.size,0,none⟩ (.slice A6 D.length c6')).setCell ⟨wr.heap.size,1,none⟩ (.string (letV (ofRul S x.ru))) = W:=⟨_,rfl⟩;rw [hw8] at hn8 hb8 hr8 ⊢;have HRR:=Lib.hid (show FrisN w8 rr.v rr.D by rw [← hrr];exact hn8);have HRV:=Lib.hid (show rr.v = .slice A6 D.length c6'∧rr.letter = letV (ofRul S x.ru) by rw [← hrr];exact ⟨rfl,rfl⟩);rw [hrr] at HROK;have HBI5:=Lib.hid hb8;have r0:=hr8.cell 0 (v:=.slice A6 D.length c6') rfl;have r1:=hr8.cell 1 (v:=.string (letV (ofRul S x.ru))) rfl;have hr8l:=hr8.lt;clear hrr hf8 hn8 hb8 hr8 hw8 f0 f1 hr7l;have HOW5:=Lib.hid (ownsRow_below HOW.out HBI5.out);have HB5:=Lib.hid (HBW.out.trans (HBI5.out.mono HBW.out.size));have HX5:=Lib.hid (HXW.out.below HBI5.out HXW.out.lt);have hsz5:=HB5.out.size;go_wp2_with (at_builtin;go_loud (refine wpList_append_own _ rfl _ _ 57 rfl w.heap.size 121 i0 (.agg #[.slice none 0 0,.string ⟨#[]⟩]) 2 40 Tryz.underlying57 hi0 hz0 hz1 hz2 rfl (by decide) _ R.length _ rfl (HOW5.out.alloc _) ⟨w8.heap.size,0,none⟩ 1 1 [.slice A6 D.length c6',.string (letV (ofRul S x.ru))] rfl rfl (fun j y hy=>by rw [Addr.add_lit,Nat.zero_add];first | exact (cell_new2 _ _ _ _ _ j).trans (by simpa using hy) | exact (cell_new _ _ _ _ j).trans (by simpa using hy)) (by simp [Value.oneCell']) (by unfold maxLen;omega) (by omega) (by simp;omega) ?_);intro v' w1 hown' hgrow _);go_roundw
    case rel =>
     refine ⟨R ++ [rr],?_,by rw [List.length_append];go_num,?_,?_,?_,?_,below_push HB5.out HOW5.out hgrow⟩
     ·rw [List.length_append];exact hlt
     ·rw [List.length_append,List.flatMap_append];simpa [RowF.cells,HRV.out] using hown'
     ·intro r hr;have ho:=HOW5.out.alloc (.cells #[.slice A6 D.length c6',.string (letV (ofRul S x.ru))] 121);have hab:Below (w8).heap.size (w8) ((w8).alloc (.cells #[.slice A6 D.length c6',.string (letV (ofRul S x.ru))] 121)):=(Below.refl _ _).alloc (Nat.le_refl _) _
      rcases List.mem_append.1 hr with hr | hr
      ·exact frisN_grown (((HFS.out r hr).below HBI5.out).below hab) ho hgrow
      ·obtain rfl:r = rr:=by simpa using hr
       exact frisN_grown (HRR.out.below hab) ho hgrow
     ·intro i h h2
      rcases Nat.lt_or_ge i R.length with g | g
      ·rw [List.getElem_append_left g];exact HRO.out i g h2
      ·have:i = R.length:=by rw [List.length_append] at h;simp at h;omega
       subst this;rw [List.getElem_append_right (Nat.le_refl _)];simp only [Nat.sub_self,List.getElem_cons_zero];rw [HXK.out];exact HROK.out
     ·exact (HX5.out.alloc (.cells #[.slice A6 D.length c6',.string (letV (ofRul S x.ru))] 121)).grown hgrow (own_ne (HX5.out.alloc (.cells #[.slice A6 D.length c6',.string (letV (ofRul S x.ru))] 121)) (HOW5.out.alloc (.cells #[.slice A6 D.length c6',.string (letV (ofRul S x.ru))] 121)) (by decide))
    case measure=>first | (simp [intOf];done) | (simp [intOf];omega)
  ·obtain he:R.length = l.length:=by omega
   have hd:decide ((R.length:Int) < (l.length:Int)) = false:=decide_eq_false (by omega);have HLE:=Lib.hid he;clear he;go_wp2_with fail;go_ret;exact ⟨⟨_,R,rfl,HLE.out,HRO.out,Sl.of_own HOW.out,HFS.out⟩,HBW.out⟩
end
section -- ANear
open Go Go.RowKit Go.Shelf
def nearB (i:Int):Bool:=decide (-2366841600 < i∧i < 3944678400)
theorem near_any (i:Int) (w:World):Calls Tryz.prog 32 #[.int .i64 i] w fun o w'=>o = .returned (.bool (nearB i))∧w' = w:=by
 by_cases h1:-2366841600 < i
 ·have d1:decide (-2366841600 < i) = true:=decide_eq_true h1
  by_cases h2:i < 3944678400
  ·have HV:=Lib.hid (show nearB i = true by unfold nearB;rw [decide_eq_true_eq];omega);have d2:decide (i < 3944678400) = true:=decide_eq_true h2;go_enter Tryz.func32,Tryz.ntmps32;go_wp2_with fail;go_ret;exact ⟨by rw [HV.out];rfl,rfl⟩
  ·have HV:=Lib.hid (show nearB i = false by unfold nearB;rw [decide_eq_false_iff_not];omega);have d2:decide (i < 3944678400) = false:=decide_eq_false h2;go_enter Tryz.func32,Tryz.ntmps32;go_wp2_with fail;go_ret;exact ⟨by rw [HV.out];rfl,rfl⟩
 ·have HV:=Lib.hid (show nearB i = false by unfold nearB;rw [decide_eq_false_iff_not];omega);have d1:decide (-2366841600 < i) = false:=decide_eq_false h1;go_enter Tryz.func32,Tryz.ntmps32;go_wp2_with fail;go_ret;exact ⟨by rw [HV.out];rfl,rfl⟩
end
section -- GShowM
open Go Go.RowKit Go.Shelf
theorem Nums.more {w:World} {B B':Nat} {v:Value} {l:List Int} (h:Nums w B v l) (hB:B ≤ B'):Nums w B' v l:=Sl.more h hB
theorem showV_err {f:ByteArray} {off:Int} {dst:Bool} {letter:ByteArray} (h:(kindR f.data.toList).2 = 0):(showV f off dst letter).2 = 0∨showV f off dst letter = (⟨#[]⟩,10):=by
 unfold showV;rw [if_pos h]
 split
 ·exact .inl rfl
 ·split
  ·split
   ·exact .inl rfl
   ·exact .inr rfl
  ·split
   ·exact .inl rfl
   ·exact .inl rfl
theorem eraI_loop {E:List Int} {i:Int} {k:Nat} (hk:k ≤ E.length) (hno:∀ j (h:j < E.length),j < k→E[j] ≤ i) (hend:∀ h:k < E.length,¬ E[k] ≤ i):eraI E i = k:=by
 by_cases hlt:k < E.length
 ·exact eraI_at hlt (fun j hj hjk=>by have:=hno j hj hjk;omega) (by have:=hend hlt;omega)
 ·have:k = E.length:=by omega
  subst this;exact eraI_none (fun j hj=>by have:=hno j hj hj;omega)
end
section -- HChangeM
open Go Go.RowKit Go.Shelf
def errOf:Value→Int
 | .tuple ⟨[_,.int _ e]⟩=>e
 | _=>0
def locZ (S:List SetF) (l:List EraF) (i:Int):Loc:=if errZ S l ≠ 0 then .zero else if i < -2199023255552∨2199023255552 < i then .zero else locW (atX S l i) (ruleE S (atX S l i)) i
def errI (S:List SetF) (l:List EraF) (i:Int):Int:=errOf (atZ S l i)
def dropF:Loc→List Chg→List Chg
 | _,[]=>[]
 | now,c :: t=>bif locE c.loc now then dropF now t else c :: dropF c.loc t
def changesL (S:List SetF) (l:List EraF) (fr to:Int):List Chg :=
 if errI S l (max fr (-2199023255552)) = 0 then dropF (locZ S l (max fr (-2199023255552))) (stepsL S l (max fr (-2199023255552)) to) else []
theorem dropF_same {now:Loc} {c:Chg} {t:List Chg} (h:locE c.loc now = true):dropF now (c :: t) = dropF now t:=by
 show (bif locE c.loc now then _ else _) = _
 rw [h,cond_true]
theorem dropF_turn {now:Loc} {c:Chg} {t:List Chg} (h:locE c.loc now = false):dropF now (c :: t) = c :: dropF c.loc t:=by
 show (bif locE c.loc now then _ else _) = _
 rw [h,cond_false]
end
section -- HErr
open Go Go.RowKit Go.Shelf
theorem ruleE_right {S:List SetF} (h:∀ s ∈ S,rightB s.l = true) {x:EraF} (hx:x.ru.size ≠ 0):rightB (ruleE S x) = true:=by
 unfold ruleE;rw [if_neg hx];exact set_right h _
theorem saves_small {S:List SetF} (h:∀ s ∈ S,rightB s.l = true) {x:EraF} (hs:-90000 < x.n.save∧x.n.save < 90000) (i:Int):-90000 < (savesV x.n x.ru (ruleE S x) i).1∧(savesV x.n x.ru (ruleE S x) i).1 < 90000:=by
 unfold savesV
 split
 ·exact hs
 ·rename_i hx
  split
  ·rename_i f hf;obtain ⟨A,hA,-,-⟩:=right_yes (ruleE_right h hx);have:=hA.save_all (latestF_mem hf)
   show -90000 < f.save∧f.save < 90000
   omega
  ·show (-90000:Int) < 0∧(0:Int) < 90000
   omega
theorem errI_few {S:List SetF} {l:List EraF} (h:errZ S l = 0) (hs:∀ s ∈ S,rightB s.l = true) {i:Int} (h1:-2199023255552 ≤ i) (h2:i ≤ 2199023255552):errI S l i = 0:=by
 obtain ⟨h0,-,hat,-⟩:=errZ_zero h;have hk:=eraI_le (endL S l) i;rw [length_endL] at hk;have hkl:eraI (endL S l) i < l.length:=by omega
 have hax:atX S l i = l[eraI (endL S l) i]:=by unfold atX;rw [List.getD_eq_getElem?_getD,List.getElem?_eq_getElem hkl];rfl
 have her:=hat _ hkl;rw [errAt_eq hkl] at her;obtain ⟨hkn,hof,hsv,-⟩:=errE_zero her;have hsm:=saves_small hs hsv i;unfold errI atZ;rw [if_neg (fun e=>e h),if_neg (by omega),hax];unfold zwithinV
 rcases showV_err (off:=l[eraI (endL S l) i].n.off + (savesV l[eraI (endL S l) i].n l[eraI (endL S l) i].ru (ruleE S l[eraI (endL S l) i]) i).1) (dst:=dstB (savesV l[eraI (endL S l) i].n l[eraI (endL S l) i].ru (ruleE S l[eraI (endL S l) i]) i).1) (letter:=(savesV l[eraI (endL S l) i].n l[eraI (endL S l) i].ru (ruleE S l[eraI (endL S l) i]) i).2) hkn with h3 | h3
 ·rw [h3]
  rfl
 ·exfalso;unfold showV at h3;rw [if_pos hkn] at h3
  split at h3
  ·have h4:(0:Int) = 10:=congrArg Prod.snd h3;omega
  ·split at h3
   ·rw [if_pos (by omega)] at h3;have h4:(0:Int) = 10:=congrArg Prod.snd h3;omega
   ·split at h3
    ·split at h3
     ·have h4:(0:Int) = 10:=congrArg Prod.snd h3;omega
     ·have h4:(0:Int) = 10:=congrArg Prod.snd h3;omega
    ·have h4:(0:Int) = 10:=congrArg Prod.snd h3;omega
theorem row_few {R:List Rul} {A:List Fir} (h:RightR R A):A.length ≤ 10000000000:=by
 by_cases h0:A.length = 0
 ·omega
 ·have hl:A.length - 1 < A.length:=by omega
  have h3:=h.count (A.length - 1) hl;obtain ⟨r,hr,y,y1,y2,hy,e⟩:=(h.mem _).1 (List.getElem_mem hl);rw [e] at h3;have g:=(firOf_in hy).2;have e1:=yearV_mono (show y + 1 ≤ 2111 by omega);have e2:yearV 2111 = 51499:=by decide
  omega
end
end Go.Proofs.YteekjfgjmccdnaaGreatDoor
