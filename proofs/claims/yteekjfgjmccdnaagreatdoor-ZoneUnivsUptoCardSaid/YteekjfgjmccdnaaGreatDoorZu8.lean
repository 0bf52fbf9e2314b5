/-
  Layer 14's law: Right, walked.
-/
import Derived.RangeFuncNested
import Derived.RangeFuncBound
import Derived.RangeFuncCalls
import Derived.RangeFuncLeaves
import Derived.RangeFuncFrom
import Derived.OwnWalkIn
import Derived.TacticsInMore
import Derived.LoopNIn
import Derived.LoopIn
import Derived.Lib.MinMax
import Derived.Deep.QuietTactic
import Derived.BigQuiet
import Derived.WalkKit
import Derived.Test.YteekjfgjmccdnaaGreatDoorChecked
import Derived.Lib.Hide
import Derived.IntWalk
import Derived.Lib.Strings
import Derived.Test.YteekjfgjmccdnaaGreatDoorZu7
set_option maxHeartbeats 16000000
set_option maxRecDepth 100000
namespace Go.Proofs.YteekjfgjmccdnaaGreatDoor
section -- GOf
open Go Go.RowKit Go.Shelf
def setsV (zn:ByteArray) (ev sv:Value):Value:=.func (.func 15) #[worldA zn ev sv] #[]
theorem ruls_nil (w:World) (B:Nat):Ruls w B (.slice none 0 0) []:=Sl.nil _ _ _
theorem SetsR.rule {w:World} {B:Nat} {v:Value} {S:List SetF} (h:SetsR w B v S) (x:EraF):Ruls w B (rvalE S x) (ruleE S x):=by
 unfold rvalE ruleE
 split
 ·exact ruls_nil _ _
 ·exact h.of_ruls x.ru
theorem rvalE_form {w:World} {B:Nat} {v:Value} {S:List SetF} (h:SetsR w B v S) (x:EraF):∃ A c,rvalE S x = .slice A (ruleE S x).length c:=by
 obtain ⟨A,c,e,_⟩:=(h.rule x).form
 exact ⟨A,c,e⟩
theorem zof_any (w:World) (zn:ByteArray) (ev sv:Value) (B:Nat) (S:List SetF) (hs:SetsR w B sv S) (hB:B ≤ w.heap.size) (x:EraF) :
  Calls Tryz.prog 45 #[setsV zn ev sv,eraA x.n x.ru x.fm x.en] w fun o w'=>o = .returned (rvalE S x)∧Below w.heap.size w w':=by
 have hb0:=(Below.refl w.heap.size w).alloc (Nat.le_refl _) (.cells (eraC x.n x.ru x.fm x.en) 42)
 have HO:=Lib.hid (fun (W:World) (hb:Below w.heap.size w W)=>wof_any W zn ev sv B S (hs.below (hb.mono hB)) (Nat.le_trans hB hb.size) x.ru)
 unfold worldA at HO
 unfold setsV eraA worldA
 by_cases hr0:x.ru.size = 0
 ·have hem:(x.ru.toList == []) = true:=by rw [emp_size,decide_eq_true hr0]
  have HV:=Lib.hid (show rvalE S x = .slice none 0 0 by unfold rvalE;rw [if_pos hr0])
  clear hr0 hs
  go_enter Tryz.func45,Tryz.ntmps45
  go_wp2_with fail
  go_ret
  exact ⟨by rw [HV.out];rfl,(Below.refl _ _).alloc (Nat.le_refl _) _⟩
 ·have hem:(x.ru.toList == []) = false:=by rw [emp_size,decide_eq_false hr0]
  have HV:=Lib.hid (show rvalE S x = ofVal S x.ru by unfold rvalE;rw [if_neg hr0])
  unfold eraC at hb0
  have HB:=Lib.hid hb0
  clear hr0 hs hb0
  go_enter Tryz.func45,Tryz.ntmps45
  go_wp2_with fail
  refine (HO.out _ HB.out).mono ?_
  rintro o w1 ⟨rfl,hb⟩
  have HB1:=Lib.hid (HB.out.trans (hb.mono HB.out.size))
  clear hb
  go_wp2_with fail
  go_ret
  exact ⟨by rw [HV.out];rfl,HB1.out⟩
end
section -- GZone
open Go Go.RowKit Go.Shelf
structure ZW (W:World) (B:Nat) (ev sv:Value) (l:List EraF) (S:List SetF):Prop where
 eras:ErasR W B ev l
 sets:SetsR W B sv S
 ahead:Ahead W
 tab:0 < B
 maxl:Tryz.MaxL W
 le:B ≤ W.heap.size
theorem ZW.below {W W':World} {B:Nat} {ev sv:Value} {l:List EraF} {S:List SetF} (h:ZW W B ev sv l S) (hb:Below W.heap.size W W'):ZW W' B ev sv l S :=
 ⟨h.eras.below (hb.mono h.le),h.sets.below (hb.mono h.le),h.ahead.below hb (Nat.le_refl _),h.tab,h.maxl.below hb (Nat.le_refl _),Nat.le_trans h.le hb.size⟩
structure ZOk (l:List EraF) (S:List SetF):Prop where
 fm:∀ x ∈ l,x.fm.size < 4294967281
 rul:∀ s ∈ S,RuOk s.l
 len:l.length ≤ 1000000
theorem ruok_nil:RuOk [] where
 yr:=fun r hr=>(by cases hr)
 sv:=fun f hf=>(by obtain ⟨r,hr,_⟩:=hf;cases hr)
 len:=by decide
 mon:=fun z hz=>(by cases hz)
theorem ZOk.rule {l:List EraF} {S:List SetF} (h:ZOk l S) (x:EraF):RuOk (ruleE S x):=by
 unfold ruleE ofRul
 split
 ·exact ruok_nil
 ·cases hs:ofS S x.ru with
  | none=>exact ruok_nil
  | some s=>exact h.rul s (List.mem_of_find?_eq_some hs)
def zoneA (zn:ByteArray) (ev:Value):Value:=.agg #[.string zn,ev]
theorem zcheckZ_gen (zn zn2:ByteArray) (ev ev2 sv:Value) (B:Nat) (l:List EraF) (S:List SetF) (w:World) (hz:ZW w B ev sv l S) (ho:ZOk l S) :
  Calls Tryz.prog 25 #[zoneA zn ev,setsV zn2 ev2 sv] w fun o w'=>o = .returned (.int .i64 (errZ S l))∧Below w.heap.size w w':=by
 obtain ⟨A,cA,rfl,hlc,hcm⟩:=hz.eras.form
 unfold maxLen at hcm
 have heq:=fun (w:World)=>run_eql_func_nil w 90 (.func 15) #[worldA zn2 ev2 sv] #[] Tryz.underlying90
 have hb0:Below w.heap.size w (w.alloc (.cells #[.string zn,.slice A l.length cA] 24)):=(Below.refl w.heap.size w).alloc (Nat.le_refl _) _
 have HX:=Lib.hid (Blk.new w 24 #[.string zn,.slice A l.length cA])
 have HZ:=Lib.hid (hz.below hb0)
 have HB:=Lib.hid hb0
 have HO:=Lib.hid ho
 clear hz hb0 ho
 unfold setsV zoneA
 unfold worldA at heq ⊢
 by_cases hl0:l.length = 0
 ·have HV:=Lib.hid (errZ_none (S:=S) hl0)
  have hd0:((l.length:Int) == 0) = true:=by simpa using hl0
  clear hl0
  go_enter Tryz.func25,Tryz.ntmps25
  go_wp2_with fail
  go_ret
  exact ⟨by rw [HV.out];rfl,HB.out⟩
 ·have hd0:((l.length:Int) == 0) = false:=by simpa using hl0
  have HL0:=Lib.hid hl0
  clear hl0
  go_enter Tryz.func25,Tryz.ntmps25
  go_wp2_with fail
  obtain ⟨W0,hW0⟩:∃ W,w.alloc (.cells #[.string zn,.slice A l.length cA] 24) = W:=⟨_,rfl⟩
  rw [hW0] at HX HZ HB
  try simp only [hW0]
  clear hW0
  go_loopw [27] (fun iv wr=>∃ k:Nat,k ≤ l.length∧iv = .int .i64 k∧(∀ i (h:i < l.length),i < k→missB S l[i] = false)∧Below w.heap.size w wr∧Below W0.heap.size W0 wr) (fun iv _=>l.length - (intOf iv).toNat)
  case atStart=>exact ⟨0,Nat.zero_le _,rfl,fun i _ h=>absurd h (by omega),HB.out,Below.refl _ _⟩
  case round =>
   obtain ⟨k,hk,rfl,hno,hbw,hbi⟩:=hrel
   have HNO:=Lib.hid hno
   have HBW:=Lib.hid hbw
   have HBI:=Lib.hid hbi
   have HXW:=Lib.hid (HX.out.below hbi HX.out.lt)
   have hws:=hbw.size
   have hxl:=HXW.out.lt
   have x1:=HXW.out.cell 1 (v:=.slice A l.length cA) rfl
   have HZW:=Lib.hid (HZ.out.below hbi)
   clear hno hbw hbi
   by_cases hlt:k < l.length
   ·have hd:decide ((k:Int) < (l.length:Int)) = true:=decide_eq_true (by omega)
    obtain ⟨bb,o,c',e,hbb,hc⟩:=HZW.out.eras.cells (by omega)
    cases e
    have hx:=hc k hlt
    obtain ⟨x,hxk⟩:∃ x,l[k] = x:=⟨_,rfl⟩
    rw [hxk] at hx
    have HXK:=Lib.hid hxk
    obtain ⟨c0,c1,c2,c3,c4,c5,c6,c7,c8,c9,c10,c11⟩:=hx
    have hb2:=HBW.out.alloc hws (.cells (eraC x.n x.ru x.fm x.en) 42)
    have hbi2:=HBI.out.alloc HBI.out.size (.cells (eraC x.n x.ru x.fm x.en) 42)
    have HZ2:=Lib.hid (HZ.out.below hbi2)
    unfold eraC at hb2 hbi2 HZ2
    have HB2:=Lib.hid hb2
    have HBI2:=Lib.hid hbi2
    clear hc hxk hb2 hbi2
    by_cases hru:x.ru.size = 0
    ·have hem:(x.ru.toList == []) = true:=by rw [emp_size,decide_eq_true hru]
     have HM:=Lib.hid (show missB S x = false by unfold missB;rw [decide_eq_false (by simpa using hru)];rfl)
     clear hru
     go_wp2_with fail
     go_roundw
     case rel =>
      refine ⟨k + 1,by omega,by go_num,fun i h hik=>?_,HB2.out,HBI2.out⟩
      rcases Nat.lt_or_ge i k with g | g
      ·exact HNO.out i h g
      ·obtain rfl:i = k:=by omega
       rw [HXK.out];exact HM.out
     case measure=>simp [intOf];omega
    ·have hem:(x.ru.toList == []) = false:=by rw [emp_size,decide_eq_false hru]
     obtain ⟨A3,c3',e3⟩:=ofVal_form HZ2.out.sets x.ru
     have HOF:=Lib.hid (wof_any _ zn2 ev2 sv B S HZ2.out.sets HZ2.out.le x.ru)
     rw [e3] at HOF
     unfold worldA at HOF
     have HM:=Lib.hid (show missB S x = decide ((ofRul S x.ru).length = 0) by unfold missB;rw [decide_eq_true hru];rfl)
     clear hru e3
     generalize ofRul S x.ru = R at *
     by_cases hR:R.length = 0
     ·have hd3:((R.length:Int) == 0) = true:=by simpa using hR
      have HV:=Lib.hid (errZ_miss hlt (show missB S l[k] = true by rw [HXK.out,HM.out,decide_eq_true hR]))
      clear hR
      go_wp2_with fail
      refine HOF.out.mono ?_
      rintro o w2 ⟨rfl,hb⟩
      have HB3:=Lib.hid (HB2.out.trans (hb.mono HB2.out.size))
      clear hb
      go_wp2_with fail
      go_ret
      exact ⟨by rw [HV.out];rfl,HB3.out⟩
     ·have hd3:((R.length:Int) == 0) = false:=by simpa using hR
      rw [decide_eq_false hR] at HM
      clear hR
      go_wp2_with fail
      refine HOF.out.mono ?_
      rintro o w2 ⟨rfl,hb⟩
      have HB3:=Lib.hid (HB2.out.trans (hb.mono HB2.out.size))
      have HBI3:=Lib.hid (HBI2.out.trans (hb.mono HBI2.out.size))
      clear hb
      go_wp2_with fail
      go_roundw
      case rel =>
       refine ⟨k + 1,by omega,by go_num,fun i h hik=>?_,HB3.out,HBI3.out⟩
       rcases Nat.lt_or_ge i k with g | g
       ·exact HNO.out i h g
       ·obtain rfl:i = k:=by omega
        rw [HXK.out];exact HM.out
      case measure=>simp [intOf];omega
   ·obtain rfl:k = l.length:=by omega
    have hd:decide ((l.length:Int) < (l.length:Int)) = false:=decide_eq_false (by omega)
    obtain ⟨w1,hw1⟩:∃ x,x = wr:=⟨_,rfl⟩
    subst hw1
    have HTH:=Lib.hid (errZ_there HL0.out (fun i hi=>HNO.out i hi hi))
    clear HNO hk
    go_wp2_with fail
    go_loopw [46] (fun iv W2=>∃ k:Nat,k ≤ l.length∧iv = .int .i64 k∧(∀ i,i < k→errAt l i = 0)∧Below w1.heap.size w1 W2) (fun iv _=>l.length - (intOf iv).toNat)
    case atStart=>exact ⟨0,Nat.zero_le _,rfl,fun i h=>absurd h (by omega),Below.refl _ _⟩
    case round =>
     obtain ⟨k,hk,rfl,hno,hbi⟩:=hrel
     have HNO:=Lib.hid hno
     have HBI:=Lib.hid hbi
     have HX2:=Lib.hid (HXW.out.below hbi HXW.out.lt)
     have hws2:=hbi.size
     have hxl2:=HX2.out.lt
     have x1:=HX2.out.cell 1 (v:=.slice A l.length cA) rfl
     have HZ2:=Lib.hid (HZW.out.below hbi)
     have HBW2:=Lib.hid (HBW.out.trans (hbi.mono hws))
     clear hno hbi
     by_cases hlt:k < l.length
     ·have hd:decide ((k:Int) < (l.length:Int)) = true:=decide_eq_true (by omega)
      obtain ⟨bb,o,c',e,hbb,hc⟩:=HZ2.out.eras.cells (by omega)
      cases e
      have hx:=hc k hlt
      have hfm:=HO.out.fm _ (List.getElem_mem hlt)
      have hat:=errAt_eq hlt
      obtain ⟨x,hxk⟩:∃ x,l[k] = x:=⟨_,rfl⟩
      rw [hxk] at hx hfm hat
      obtain ⟨c0,c1,c2,c3,c4,c5,c6,c7,c8,c9,c10,c11⟩:=hx
      obtain ⟨la,hla⟩:∃ b,decide (k + 1 = l.length) = b:=⟨_,rfl⟩
      have hlast:((k:Int) == (l.length:Int) - 1) = la:=by
       rw [← hla]
       by_cases h:k + 1 = l.length
       ·rw [decide_eq_true h];exact beq_iff_eq.2 (by omega)
       ·rw [decide_eq_false h];exact beq_eq_false_iff_ne.2 (by omega)
      rw [hla] at hat
      have HAT:=Lib.hid hat
      have hb2:=HBW2.out.alloc HBW2.out.size (.cells (eraC x.n x.ru x.fm x.en) 42)
      have hbi2:=HBI.out.alloc hws2 (.cells (eraC x.n x.ru x.fm x.en) 42)
      have HZ3:=Lib.hid (HZ2.out.below ((Below.refl wr.heap.size wr).alloc (Nat.le_refl _) (.cells (eraC x.n x.ru x.fm x.en) 42)))
      have HC:=Lib.hid (zcheck_any x la _ hfm HZ3.out.maxl HZ3.out.ahead)
      unfold eraC at hb2 hbi2 HZ3 HC
      unfold eraA at HC
      have HB3:=Lib.hid hb2
      have HBI3:=Lib.hid hbi2
      clear hc hxk hla hat hb2 hbi2 hfm
      obtain ⟨E,hE⟩:∃ e,errE x la = e:=⟨_,rfl⟩
      rw [hE] at HC HAT
      clear hE
      by_cases hE0:E = 0
      ·subst hE0
       go_wp2_with fail
       refine HC.out.mono ?_
       rintro o w3 ⟨rfl,hb⟩
       have HBI4:=Lib.hid (HBI3.out.trans (hb.mono HBI3.out.size))
       clear hb
       go_wp2_with fail
       go_roundw
       case rel =>
        refine ⟨k + 1,by omega,by go_num,fun i hik=>?_,HBI4.out⟩
        rcases Nat.lt_or_ge i k with g | g
        ·exact HNO.out i g
        ·obtain rfl:i = k:=by omega
         exact HAT.out
       case measure=>simp [intOf];omega
      ·have he0:(E != 0) = true:=by simpa using hE0
       have HV:=Lib.hid (show errZ S l = E by
        have h:=errsF_at hlt (fun i hi=>HNO.out i hi) (by rw [HAT.out];exact hE0)
        rw [HTH.out,if_pos (by rw [h,HAT.out];exact hE0),h,HAT.out])
       clear hE0
       go_wp2_with fail
       refine HC.out.mono ?_
       rintro o w3 ⟨rfl,hb⟩
       have HB4:=Lib.hid (HB3.out.trans (hb.mono HB3.out.size))
       clear hb
       go_wp2_with fail
       go_ret
       exact ⟨by rw [HV.out];rfl,HB4.out⟩
     ·obtain rfl:k = l.length:=by omega
      obtain ⟨w2,hw2⟩:∃ x,x = wr:=⟨_,rfl⟩
      subst hw2
      have HERR:=Lib.hid (show ∀ i,i < l.length→errAt l i = 0 from fun i hi=>HNO.out i hi)
      have HTH2:=Lib.hid (show errZ S l = if riseI (endL S l) then 0 else 17 by rw [HTH.out,errsF_none HERR.out];rfl)
      clear HNO hk HTH
      have hl1:0 < l.length:=by have:=HL0.out;omega
      have hsub:wrap64 ((l.length:Int) - 1) = (l.length:Int) - 1:=IntWalk.wrap64_in _ (by omega)
      go_wp2_with fail
      go_loopw [10,11,71] (fun lv fv iv W3=>∃ k:Nat,k ≤ l.length - 1∧iv = .int .i64 k∧(k = 0∧lv = .int .i64 0∧fv = .bool true∨∃ q,k = q + 1∧lv = .int .i64 ((endL S l).getD q 0)∧fv = .bool false)∧(∀ i,i + 1 < k→(endL S l).getD i 0 < (endL S l).getD (i + 1) 0)∧Below w2.heap.size w2 W3) (fun _ _ iv _=>l.length - (intOf iv).toNat)
      case atStart=>exact ⟨0,Nat.zero_le _,rfl,.inl ⟨rfl,rfl,rfl⟩,fun i h=>absurd h (by omega),Below.refl _ _⟩
      case round =>
       obtain ⟨k,hk,rfl,hlf,hno,hbi⟩:=hrel
       have HNO:=Lib.hid hno
       have HBI3:=Lib.hid hbi
       have HX3:=Lib.hid (HX2.out.below hbi HX2.out.lt)
       have hws3:=hbi.size
       have HZ3:=Lib.hid (HZ2.out.below hbi)
       have HBW3:=Lib.hid (HBW2.out.trans (hbi.mono HBW2.out.size))
       clear hno hbi
       by_cases hlt:k < l.length - 1
       ·have hd:decide ((k:Int) < ((l.length - 1:Nat):Int)) = true:=decide_eq_true (by omega)
        have hlk:k < l.length:=by omega
        obtain ⟨bb,o,c',e,hbb,hc⟩:=HZ3.out.eras.cells (by omega)
        cases e
        have hx:=hc k hlk
        have her:=HERR.out k hlk
        rw [errAt_eq hlk,decide_eq_false (by omega)] at her
        have hen:=endL_get (S:=S) (l:=l) (i:=k) (by omega)
        obtain ⟨x,hxk⟩:∃ x,l[k] = x:=⟨_,rfl⟩
        rw [hxk] at hx her hen
        obtain ⟨-,hof,hsf,hee,-,hnb⟩:=errE_zero her
        have hee2:x.en = true:=hee
        have hV:endV x.n x.ru x.en (ruleE S x) = ((endL S l).getD k 0,0):=by
         unfold endV
         rw [hee2,hnb hee2,hen]
         rfl
        obtain ⟨c0,c1,c2,c3,c4,c5,c6,c7,c8,c9,c10,c11⟩:=hx
        have hb3:=HBW3.out.alloc HBW3.out.size (.cells (eraC x.n x.ru x.fm x.en) 42)
        have hbi3:=HBI3.out.alloc hws3 (.cells (eraC x.n x.ru x.fm x.en) 42)
        have HZ4:=Lib.hid (HZ3.out.below ((Below.refl wr.heap.size wr).alloc (Nat.le_refl _) (.cells (eraC x.n x.ru x.fm x.en) 42)))
        have HE4:=Lib.hid (Blk.new wr 42 (eraC x.n x.ru x.fm x.en))
        have HOF:=Lib.hid (fun (W:World) (h:ZW W B (.slice (some ⟨bb,o,none⟩) l.length cA) sv l S)=>zof_any W zn2 ev2 sv B S h.sets h.le x)
        have HEN:=Lib.hid (fun (W:World) (h:ZW W B (.slice (some ⟨bb,o,none⟩) l.length cA) sv l S)=>zend_any W x.n x.ru x.fm x.en B (rvalE S x) (ruleE S x) ⟨h.sets.rule x,h.ahead,h.tab,h.le⟩ (HO.out.rule x) (by omega) (by omega))
        obtain ⟨ek,hek⟩:∃ z,(endL S l).getD k 0 = z:=⟨_,rfl⟩
        have HEK:=Lib.hid hek
        rw [hek] at hV
        rw [hV] at HEN
        obtain ⟨A3,c3',e3⟩:=rvalE_form HZ4.out.sets x
        rw [e3] at HOF HEN
        unfold setsV worldA eraA at HOF
        unfold eraA at HEN
        unfold eraC at hb3 hbi3 HZ4 HE4
        have HB4:=Lib.hid hb3
        have HBI4:=Lib.hid hbi3
        clear hc hxk hb3 hbi3 her hen hV hek hof hsf hee hee2 hnb
        have hfl:∃ (f:Bool) (n:Int),u11 = .bool f∧u10 = .int .i64 n∧(f = true∧k = 0∨f = false∧∃ q,k = q + 1∧n = (endL S l).getD q 0):=by
         rcases hlf with ⟨h0,h1,h2⟩ | ⟨q,h0,h1,h2⟩
         ·exact ⟨_,_,h2,h1,.inl ⟨rfl,h0⟩⟩
         ·exact ⟨_,_,h2,h1,.inr ⟨rfl,q,h0,rfl⟩⟩
        obtain ⟨fv,lv,rfl,rfl,hfk⟩:=hfl
        have HFK:=Lib.hid hfk
        clear hlf hfk
        go_wp2_with fail
        obtain ⟨W3,hW3⟩:∃ W,wr.alloc (.cells #[.int .i64 x.n.off,.string x.ru,.int .i64 x.n.save,.string x.fm,.bool x.en,.int .i64 x.n.year,.int .i64 x.n.month,.int .i64 x.n.dk,.int .i64 x.n.dw,.int .i64 x.n.dn,.int .i64 x.n.sec,.int .i64 x.n.ak] 42) = W:=⟨_,rfl⟩
        rw [hW3] at HB4 HBI4 HZ4 HE4
        try simp only [hW3]
        clear hW3
        refine wp_env (fin:=?fna) (by kernel_rfl) [76,77,78,79,80,75,81,82,14,15]
         [.agg #[.int .i64 x.n.off,.string x.ru,.int .i64 x.n.save,.string x.fm,.bool x.en,.int .i64 x.n.year,.int .i64 x.n.month,.int .i64 x.n.dk,.int .i64 x.n.dw,.int .i64 x.n.dn,.int .i64 x.n.sec,.int .i64 x.n.ak],.func (.func 15) #[.agg #[.string zn2,ev2,sv]] #[],.agg #[.int .i64 x.n.off,.string x.ru,.int .i64 x.n.save,.string x.fm,.bool x.en,.int .i64 x.n.year,.int .i64 x.n.month,.int .i64 x.n.dk,.int .i64 x.n.dw,.int .i64 x.n.dn,.int .i64 x.n.sec,.int .i64 x.n.ak],.slice A3 (ruleE S x).length c3',.tuple #[.int .i64 ek,.int .i64 0],.tuple #[.int .i64 ek,.int .i64 0],.int .i64 ek,.int .i64 0,.int .i64 ek,.int .i64 0] (by kernel_rfl) ?fina ?stepsa ?nexta
        case fina =>
         simp only [putAll,Act.put,List.setIfInBounds_toArray,List.set_cons_succ,List.set_cons_zero]
         rfl
        case stepsa =>
         refine ⟨?_,?_,?_,?_,?_,?_,?_,?_,?_,?_,trivial⟩
         all_goals refine .inr ⟨by kernel_rfl,fun w1_ hB_=>?_⟩
         all_goals
          have hc:=HE4.out.below hB_ HE4.out.lt
          have hz:=HZ4.out.below hB_
          have c0:=hc.cell 0 (v:=.int .i64 x.n.off) rfl
          have c1:=hc.cell 1 (v:=.string x.ru) rfl
          have c2:=hc.cell 2 (v:=.int .i64 x.n.save) rfl
          have c3:=hc.cell 3 (v:=.string x.fm) rfl
          have c4:=hc.cell 4 (v:=.bool x.en) rfl
          have c5:=hc.cell 5 (v:=.int .i64 x.n.year) rfl
          have c6:=hc.cell 6 (v:=.int .i64 x.n.month) rfl
          have c7:=hc.cell 7 (v:=.int .i64 x.n.dk) rfl
          have c8:=hc.cell 8 (v:=.int .i64 x.n.dw) rfl
          have c9:=hc.cell 9 (v:=.int .i64 x.n.dn) rfl
          have c10:=hc.cell 10 (v:=.int .i64 x.n.sec) rfl
          have c11:=hc.cell 11 (v:=.int .i64 x.n.ak) rfl
          go_simp
          first
           | exact ⟨rfl,Below.refl _ _⟩
           | exact ⟨rfl,HOF.out w1_ hz⟩
           | exact ⟨rfl,HEN.out w1_ hz⟩
           | ((first | rw [decide_eq_true (by omega)] | rw [decide_eq_false (by omega)] | rw [if_pos (by omega)] | rw [IntWalk.i64_in _ (by omega)]);exact ⟨rfl,Below.refl _ _⟩)
           | done
        case nexta =>
        intro w4 hb4
        have HB5:=Lib.hid (HB4.out.trans (hb4.mono HB4.out.size))
        have HBI5:=Lib.hid (HBI4.out.trans (hb4.mono HBI4.out.size))
        clear hb4
        rcases HFK.out with ⟨rfl,hk0⟩ | ⟨rfl,q,hkq,hlv⟩
        ·go_wp2_with fail
         go_roundw
         case rel=>exact ⟨k + 1,by omega,by go_num,.inr ⟨k,rfl,by rw [HEK.out],rfl⟩,fun i hi=>absurd hi (by omega),HBI5.out⟩
         case measure=>simp [intOf];omega
        ·have HKQ:=Lib.hid hkq
         have HLV:=Lib.hid hlv
         clear hkq hlv
         by_cases hle:ek ≤ lv
         ·have hdl:decide (ek ≤ lv) = true:=decide_eq_true hle
          have HV:=Lib.hid (show errZ S l = 17 by
           rw [HTH2.out,riseI_no (i:=q) (by rw [length_endL];have:=HKQ.out;omega) (by rw [← HKQ.out,HEK.out,← HLV.out];exact hle)]
           rfl)
          clear hle
          go_wp2_with fail
          go_ret
          exact ⟨by rw [HV.out];rfl,HB5.out⟩
         ·have hdl:decide (ek ≤ lv) = false:=decide_eq_false hle
          have HLT:=Lib.hid (show (endL S l).getD q 0 < (endL S l).getD k 0 by rw [HEK.out,← HLV.out];omega)
          clear hle
          go_wp2_with fail
          go_roundw
          case rel =>
           refine ⟨k + 1,by omega,by go_num,.inr ⟨k,rfl,by rw [HEK.out],rfl⟩,fun i hi=>?_,HBI5.out⟩
           rcases Nat.lt_or_ge (i + 1) k with g | g
           ·exact HNO.out i g
           ·have:=HKQ.out
            obtain rfl:i = q:=by omega
            rw [← HKQ.out];exact HLT.out
          case measure=>simp [intOf];omega
       ·obtain rfl:k = l.length - 1:=by omega
        have hd:decide (((l.length - 1:Nat):Int) < ((l.length - 1:Nat):Int)) = false:=decide_eq_false (by omega)
        have HV:=Lib.hid (show errZ S l = 0 by
         rw [HTH2.out,riseI_iff.2 (fun i hi=>HNO.out i (by rw [length_endL] at hi;omega))]
         rfl)
        have hlf2:∃ a b,u10 = a∧u11 = b:=⟨_,_,rfl,rfl⟩
        clear hlf hlt hk
        go_wp2_with fail
        go_ret
        exact ⟨by rw [HV.out];rfl,HBW3.out⟩
end
section -- GEnds
open Go Go.RowKit Go.Shelf
def intsV (l:List Int):List Value:=l.map fun n=>.int .i64 n
theorem intsV_append (l m:List Int):intsV (l ++ m) = intsV l ++ intsV m:=by simp [intsV]
theorem intsV_at (l:List Int) (j:Nat) (h:j < l.length):(intsV l)[j]? = some (.int .i64 l[j]):=by simp [intsV,h]
theorem infoInt:(Tryz.prog.info? 3).map (fun i=>(i.zero,i.size,i.bytes)) = some (some (.int .i64 0),1,8):=by kernel_rfl
def Nums (w:World) (B:Nat) (v:Value) (l:List Int):Prop:=Sl w B 1 v l.length (intsV l)
theorem Nums.below {w w':World} {B:Nat} {v:Value} {l:List Int} (h:Nums w B v l) (hb:Below B w w'):Nums w' B v l:=Sl.below h hb
theorem Nums.form {w:World} {B:Nat} {v:Value} {l:List Int} (h:Nums w B v l):∃ A c,v = .slice A l.length c∧l.length ≤ c∧c ≤ maxLen:=by obtain ⟨A,c,e,h1,h2,_⟩:=h;exact ⟨A,c,e,h1,h2⟩
theorem Nums.cells {w:World} {B:Nat} {v:Value} {l:List Int} (h:Nums w B v l) (hl:0 < l.length):∃ b o c,v = .slice (some ⟨b,o,none⟩) l.length c∧b < B∧∀ i (hi:i < l.length),w.cell? ⟨b,o + i,none⟩ = some (.int .i64 l[i]):=by
 obtain ⟨b,o,c,e,hb,hc⟩:=Sl.at_ h hl
 exact ⟨b,o,c,e,hb,fun i hi=>hc i _ (intsV_at l i hi)⟩
def EndsPost (w:World) (S:List SetF) (l:List EraF) (o:Ending) (w':World):Prop :=
 (∃ v,o = .returned (.tuple #[v,.int .i64 (errZ S l)])∧(errZ S l = 0→w'.ownsRow w.heap.size 3 1 v (endL S l).length (intsV (endL S l)))∧(errZ S l ≠ 0→v = .slice none 0 0))∧Below w.heap.size w w'
theorem zends_gen (zn zn2:ByteArray) (ev ev2 sv:Value) (B:Nat) (l:List EraF) (S:List SetF) (w:World) (hz:ZW w B ev sv l S) (ho:ZOk l S) :
  Calls Tryz.prog 14 #[zoneA zn ev,setsV zn2 ev2 sv] w (EndsPost w S l):=by
 obtain ⟨A,cA,rfl,hlc,hcm⟩:=hz.eras.form
 unfold maxLen at hcm
 have hb0:Below w.heap.size w (w.alloc (.cells #[.string zn,.slice A l.length cA] 24)):=(Below.refl w.heap.size w).alloc (Nat.le_refl _) _
 have HX:=Lib.hid (Blk.new w 24 #[.string zn,.slice A l.length cA])
 have HZ:=Lib.hid (hz.below hb0)
 have HB:=Lib.hid hb0
 have HO:=Lib.hid ho
 have HZ0:=Lib.hid hz
 have HC:=Lib.hid (zcheckZ_gen zn zn2 (.slice A l.length cA) ev2 sv B l S _ HZ.out ho)
 obtain ⟨i0,hi,hz0,hz1,hz2⟩:=info_parts infoInt
 clear hz hb0 ho
 obtain ⟨E,hE⟩:∃ e,errZ S l = e:=⟨_,rfl⟩
 rw [hE] at HC
 have HE:=Lib.hid hE
 unfold setsV zoneA worldA at HC ⊢
 clear hE
 by_cases hE0:E = 0
 ·subst hE0
  obtain ⟨hl0,-,hat,-⟩:=errZ_zero HE.out
  have HERR:=Lib.hid hat
  have hl1:0 < l.length:=by omega
  have hsub:wrap64 ((l.length:Int) - 1) = (l.length:Int) - 1:=IntWalk.wrap64_in _ (by omega)
  clear hat hl0
  go_enter Tryz.func14,Tryz.ntmps14
  go_wp2_with fail
  refine HC.out.mono ?_
  rintro o w1 ⟨rfl,hb⟩
  have HX1:=Lib.hid (HX.out.below hb HX.out.lt)
  have HB1:=Lib.hid (HB.out.trans (hb.mono HB.out.size))
  have x1:=HX1.out.cell 1 (v:=.slice A l.length cA) rfl
  have hxl:=HX1.out.lt
  clear hb HC HX HB HZ
  go_wp2_with fail
  go_loopw [7,26] (fun u iv wr=>∃ k:Nat,k ≤ l.length - 1∧iv = .int .i64 k∧wr.ownsRow w.heap.size 3 1 u ((endL S l).take k).length (intsV ((endL S l).take k))∧Below w.heap.size w wr) (fun _ iv _=>l.length - (intOf iv).toNat)
  case atStart=>exact ⟨0,Nat.zero_le _,rfl,World.ownsRow_nil _ _ _ _,HB1.out⟩
  case round =>
   obtain ⟨k,hk,rfl,hown,hbw⟩:=hrel
   have HOW:=Lib.hid hown
   have HBW:=Lib.hid hbw
   have HZ2:=Lib.hid (HZ0.out.below hbw)
   obtain ⟨A5,c5,hu⟩:=(Sl.of_own hown).form
   have hlen:((endL S l).take k).length = k:=by rw [List.length_take,length_endL];omega
   rw [hlen] at HOW hu
   subst hu
   have HLEN:=Lib.hid hlen
   clear hown hbw hlen
   by_cases hlt:k < l.length - 1
   ·have hd:decide ((k:Int) < ((l.length - 1:Nat):Int)) = true:=decide_eq_true (by omega)
    have hlk:k < l.length:=by omega
    obtain ⟨bb,o,c',e,hbb,hc⟩:=HZ2.out.eras.cells (by omega)
    cases e
    have hx:=hc k hlk
    have her:=HERR.out k hlk
    rw [errAt_eq hlk,decide_eq_false (by omega)] at her
    have hen:=endL_get (S:=S) (l:=l) (i:=k) (by omega)
    have htk:(endL S l).take (k + 1) = (endL S l).take k ++ [(endL S l).getD k 0]:=by
     have h9:k < (endL S l).length:=by rw [length_endL];omega
     rw [List.take_succ_eq_append_getElem h9,List.getD_eq_getElem?_getD,List.getElem?_eq_getElem h9]
     rfl
    obtain ⟨x,hxk⟩:∃ x,l[k] = x:=⟨_,rfl⟩
    rw [hxk] at hx her hen
    obtain ⟨-,hof,hsf,hee,-,hnb⟩:=errE_zero her
    have hee2:x.en = true:=hee
    have hV:endV x.n x.ru x.en (ruleE S x) = ((endL S l).getD k 0,0):=by
     unfold endV
     rw [hee2,hnb hee2,hen]
     rfl
    obtain ⟨c0,c1,c2,c3,c4,c5,c6,c7,c8,c9,c10,c11⟩:=hx
    have hb3:=HBW.out.alloc HBW.out.size (.cells (eraC x.n x.ru x.fm x.en) 42)
    have HZ4:=Lib.hid (HZ0.out.below hb3)
    have HE4:=Lib.hid (Blk.new wr 42 (eraC x.n x.ru x.fm x.en))
    have HOW4:=Lib.hid (HOW.out.alloc (.cells (eraC x.n x.ru x.fm x.en) 42))
    have HOF:=Lib.hid (fun (W:World) (h:ZW W B (.slice (some ⟨bb,o,none⟩) l.length cA) sv l S)=>zof_any W zn2 ev2 sv B S h.sets h.le x)
    have HEN:=Lib.hid (fun (W:World) (h:ZW W B (.slice (some ⟨bb,o,none⟩) l.length cA) sv l S)=>zend_any W x.n x.ru x.fm x.en B (rvalE S x) (ruleE S x) ⟨h.sets.rule x,h.ahead,h.tab,h.le⟩ (HO.out.rule x) (by omega) (by omega))
    obtain ⟨ek,hek⟩:∃ z,(endL S l).getD k 0 = z:=⟨_,rfl⟩
    rw [hek] at hV htk
    rw [hV] at HEN
    have HTK:=Lib.hid htk
    obtain ⟨A3,c3',e3⟩:=rvalE_form HZ4.out.sets x
    rw [e3] at HOF HEN
    unfold setsV worldA eraA at HOF
    unfold eraA at HEN
    unfold eraC at hb3 HZ4 HE4 HOW4
    have HB4:=Lib.hid hb3
    have hul:=HOW.out.lt
    clear hc hxk hb3 her hen hV hek hof hsf hee hee2 hnb htk
    go_wp2_with fail
    obtain ⟨W3,hW3⟩:∃ W,wr.alloc (.cells #[.int .i64 x.n.off,.string x.ru,.int .i64 x.n.save,.string x.fm,.bool x.en,.int .i64 x.n.year,.int .i64 x.n.month,.int .i64 x.n.dk,.int .i64 x.n.dw,.int .i64 x.n.dn,.int .i64 x.n.sec,.int .i64 x.n.ak] 42) = W:=⟨_,rfl⟩
    rw [hW3] at HB4 HZ4 HE4 HOW4
    try simp only [hW3]
    clear hW3
    refine wp_env (fin:=?fna) (by kernel_rfl) [31,32,33,34,35,30,36,37,10,11]
     [.agg #[.int .i64 x.n.off,.string x.ru,.int .i64 x.n.save,.string x.fm,.bool x.en,.int .i64 x.n.year,.int .i64 x.n.month,.int .i64 x.n.dk,.int .i64 x.n.dw,.int .i64 x.n.dn,.int .i64 x.n.sec,.int .i64 x.n.ak],.func (.func 15) #[.agg #[.string zn2,ev2,sv]] #[],.agg #[.int .i64 x.n.off,.string x.ru,.int .i64 x.n.save,.string x.fm,.bool x.en,.int .i64 x.n.year,.int .i64 x.n.month,.int .i64 x.n.dk,.int .i64 x.n.dw,.int .i64 x.n.dn,.int .i64 x.n.sec,.int .i64 x.n.ak],.slice A3 (ruleE S x).length c3',.tuple #[.int .i64 ek,.int .i64 0],.tuple #[.int .i64 ek,.int .i64 0],.int .i64 ek,.int .i64 0,.int .i64 ek,.int .i64 0] (by kernel_rfl) ?fina ?stepsa ?nexta
    case fina =>
     simp only [putAll,Act.put,List.setIfInBounds_toArray,List.set_cons_succ,List.set_cons_zero]
     rfl
    case stepsa =>
     refine ⟨?_,?_,?_,?_,?_,?_,?_,?_,?_,?_,trivial⟩
     all_goals refine .inr ⟨by kernel_rfl,fun w1_ hB_=>?_⟩
     all_goals
      have hc:=HE4.out.below hB_ HE4.out.lt
      have hz:=HZ4.out.below hB_
      have c0:=hc.cell 0 (v:=.int .i64 x.n.off) rfl
      have c1:=hc.cell 1 (v:=.string x.ru) rfl
      have c2:=hc.cell 2 (v:=.int .i64 x.n.save) rfl
      have c3:=hc.cell 3 (v:=.string x.fm) rfl
      have c4:=hc.cell 4 (v:=.bool x.en) rfl
      have c5:=hc.cell 5 (v:=.int .i64 x.n.year) rfl
      have c6:=hc.cell 6 (v:=.int .i64 x.n.month) rfl
      have c7:=hc.cell 7 (v:=.int .i64 x.n.dk) rfl
      have c8:=hc.cell 8 (v:=.int .i64 x.n.dw) rfl
      have c9:=hc.cell 9 (v:=.int .i64 x.n.dn) rfl
      have c10:=hc.cell 10 (v:=.int .i64 x.n.sec) rfl
      have c11:=hc.cell 11 (v:=.int .i64 x.n.ak) rfl
      go_simp
      first
       | exact ⟨rfl,Below.refl _ _⟩
       | exact ⟨rfl,HOF.out w1_ hz⟩
       | exact ⟨rfl,HEN.out w1_ hz⟩
       | ((first | rw [decide_eq_true (by omega)] | rw [decide_eq_false (by omega)] | rw [if_pos (by omega)] | rw [IntWalk.i64_in _ (by omega)]);exact ⟨rfl,Below.refl _ _⟩)
       | done
    case nexta =>
    intro w4 hb4
    have hb5:=HB4.out.trans (hb4.mono HB4.out.size)
    have HOW5:=Lib.hid (ownsRow_below HOW4.out hb4)
    clear hb4
    have hkb:k ≤ 1000000:=by have:=HO.out.len;omega
    go_wp2_with ((at_builtin;refine wpList_append_own _ rfl _ _ 28 rfl (w.heap.size) 3 i0 (.int .i64 0) 1 8 Tryz.underlying28 hi hz0 hz1 hz2 rfl (by decide) _ _ _ rfl (HOW5.out.alloc _) ⟨w4.heap.size,0,none⟩ 1 1 [.int .i64 ek] rfl rfl (cell_one_new _ _ _) (by simp [Value.oneCell']) (by unfold maxLen;omega) (by omega) (by have:=hb5.size;simp <;> omega) ?_;intro v' w1 hown' hgrow _))
    go_roundw
    case rel =>
     refine ⟨k + 1,by omega,by go_num,?_,below_push hb5 HOW5.out hgrow⟩
     rw [HTK.out,intsV_append,List.length_append,HLEN.out]
     exact hown'
    case measure=>first | (simp [intOf];done) | (simp [intOf];omega)
   ·obtain rfl:k = l.length - 1:=by omega
    have hd:decide (((l.length - 1:Nat):Int) < ((l.length - 1:Nat):Int)) = false:=decide_eq_false (by omega)
    have HOE:=Lib.hid (show wr.ownsRow w.heap.size 3 1 (.slice A5 (l.length - 1) c5) (endL S l).length (intsV (endL S l)) by
     have h:=HOW.out
     rw [List.take_of_length_le (by rw [length_endL];exact Nat.le_refl _)] at h
     rw [length_endL]
     exact h)
    go_wp2_with fail
    go_ret2
    exact ⟨⟨_,by rw [HE.out];rfl,fun _=>HOE.out,fun h=>absurd HE.out h⟩,HBW.out⟩
 ·have he0:(E != 0) = true:=by simpa using hE0
  have HN:=Lib.hid hE0
  clear hE0
  go_enter Tryz.func14,Tryz.ntmps14
  go_wp2_with fail
  refine HC.out.mono ?_
  rintro o w1 ⟨rfl,hb⟩
  have HB1:=Lib.hid (HB.out.trans (hb.mono HB.out.size))
  clear hb HC HX HB HZ
  go_wp2_with fail
  go_ret2
  exact ⟨⟨_,by rw [HE.out];rfl,fun h=>absurd (HE.out.symm.trans h) HN.out,fun _=>rfl⟩,HB1.out⟩
theorem zends_any (zn:ByteArray) (ev sv:Value) (B:Nat) (l:List EraF) (S:List SetF) (w:World) (hz:ZW w B ev sv l S) (ho:ZOk l S) :
  Calls Tryz.prog 14 #[zoneA zn ev,setsV zn ev sv] w (EndsPost w S l):=zends_gen zn zn ev ev sv B l S w hz ho
theorem zera_any (w:World) (B:Nat) (v:Value) (l:List Int) (i:Int) (hv:Nums w B v l) :
  Calls Tryz.prog 50 #[v,.int .i64 i] w fun o w'=>o = .returned (.int .i64 (eraI l i:Nat))∧w = w':=by
 obtain ⟨A,c,rfl,hlc,hcm⟩:=hv.form
 unfold maxLen at hcm
 have HV:=Lib.hid hv
 clear hv
 go_enter Tryz.func50,Tryz.ntmps50
 go_wp2_with fail
 go_loopw [9] (fun iv wr=>∃ k:Nat,k ≤ l.length∧iv = .int .i64 k∧(∀ j (h:j < l.length),j < k→¬ i < l[j])∧wr = w) (fun iv _=>l.length - (intOf iv).toNat)
 case atStart=>exact ⟨0,Nat.zero_le _,rfl,fun j _ h=>absurd h (by omega),rfl⟩
 case round =>
  obtain ⟨k,hk,rfl,hno,rfl⟩:=hrel
  have HNO:=Lib.hid hno
  clear hno
  by_cases hlt:k < l.length
  ·have hd:decide ((k:Int) < (l.length:Int)) = true:=decide_eq_true (by omega)
   obtain ⟨bb,o,c',e,hbb,hc⟩:=HV.out.cells (by omega)
   cases e
   have HLT:=Lib.hid hlt
   obtain ⟨n,hn⟩:∃ n:Int,l[k]'hlt = n:=⟨_,rfl⟩
   have HN:=Lib.hid hn
   have c0:wr.cell? ⟨bb,o + k,none⟩ = some (.int .i64 n):=by rw [← hn];exact hc k hlt
   clear hc hn
   by_cases h:i < n
   ·have hdi:decide (i < n) = true:=decide_eq_true h
    have HE:=Lib.hid (eraI_at HLT.out HNO.out (by rw [HN.out];exact h))
    clear h
    go_wp2_with fail
    go_ret
    exact ⟨by rw [HE.out];rfl,rfl⟩
   ·have hdi:decide (i < n) = false:=decide_eq_false h
    have HH:=Lib.hid h
    clear h
    go_wp2_with fail
    go_roundw
    case rel =>
     refine ⟨k + 1,by omega,by go_num,fun j h hjk=>?_,by trivial⟩
     rcases Nat.lt_or_ge j k with g | g
     ·exact HNO.out j h g
     ·obtain rfl:j = k:=by omega
      rw [HN.out];exact HH.out
    case measure=>simp [intOf];omega
  ·obtain rfl:k = l.length:=by omega
   have hd:decide ((l.length:Int) < (l.length:Int)) = false:=decide_eq_false (by omega)
   have HE:=Lib.hid (eraI_none (i:=i) (fun j h=>HNO.out j h h))
   go_wp2_with fail
   go_ret
   exact ⟨by rw [HE.out];rfl,rfl⟩
end
section -- UZone
open Go Go.RowKit Go.Shelf
def endLW (S:List SetF) (l:List EraF):List Int:=l.dropLast.map fun x=>endNW x.n x.ru (ruleE S x)
def errZW (S:List SetF) (l:List EraF):Int :=
 if l.length = 0∨l.any (missB S) = true then 16 else if errsF l ≠ 0 then errsF l else if riseI (endLW S l) then 0 else 17
theorem errZW_none {S:List SetF} {l:List EraF} (h:l.length = 0):errZW S l = 16:=by unfold errZW;rw [if_pos (.inl h)]
theorem errZW_miss {S:List SetF} {l:List EraF} {k:Nat} (hk:k < l.length) (h:missB S l[k] = true):errZW S l = 16:=by
 unfold errZW
 rw [if_pos (.inr (List.any_eq_true.2 ⟨_,List.getElem_mem hk,h⟩))]
theorem errZW_there {S:List SetF} {l:List EraF} (h0:l.length ≠ 0) (h:∀ i (hi:i < l.length),missB S l[i] = false):errZW S l = if errsF l ≠ 0 then errsF l else if riseI (endLW S l) then 0 else 17:=by
 unfold errZW
 rw [if_neg]
 rintro (e | e)
 ·exact h0 e
 ·obtain ⟨x,hx,he⟩:=List.any_eq_true.1 e
  obtain ⟨i,hi,rfl⟩:=List.getElem_of_mem hx
  rw [h i hi] at he
  cases he
theorem length_endLW (S:List SetF) (l:List EraF):(endLW S l).length = l.length - 1:=by unfold endLW;simp
theorem endLW_at {S:List SetF} {l:List EraF} {i:Nat} (h:i + 1 < l.length):(endLW S l)[i]? = some (endNW l[i].n l[i].ru (ruleE S l[i])):=by
 unfold endLW
 rw [List.getElem?_map,List.getElem?_dropLast,if_pos (by omega),List.getElem?_eq_getElem (by omega)]
 rfl
theorem endLW_get {S:List SetF} {l:List EraF} {i:Nat} (h:i + 1 < l.length):(endLW S l).getD i 0 = endNW l[i].n l[i].ru (ruleE S l[i]):=by
 rw [List.getD_eq_getElem?_getD,endLW_at h];rfl
theorem errZW_zero {S:List SetF} {l:List EraF} (h:errZW S l = 0):l.length ≠ 0∧(∀ i (hi:i < l.length),missB S l[i] = false)∧(∀ i,i < l.length→errAt l i = 0)∧riseI (endLW S l) = true:=by
 unfold errZW at h
 split at h
 ·cases h
 ·rename_i hn
  have hn1:l.length ≠ 0:=fun e=>hn (.inl e)
  have hn2:∀ i (hi:i < l.length),missB S l[i] = false:=fun i hi=>by
   cases hm:missB S l[i] with
   | false=>rfl
   | true=>exact absurd (.inr (List.any_eq_true.2 ⟨_,List.getElem_mem hi,hm⟩)) hn
  split at h
  ·rename_i he;exact absurd h he
  ·rename_i he
   split at h
   ·rename_i hr;exact ⟨hn1,hn2,errsF_zero (Classical.not_not.1 he),hr⟩
   ·cases h
structure ZOkW (l:List EraF) (S:List SetF):Prop where
 fm:∀ x ∈ l,x.fm.size < 4294967281
 rul:∀ s ∈ S,numsR s.l
 len:l.length ≤ 1300000000000
theorem ZOkW.rule {l:List EraF} {S:List SetF} (h:ZOkW l S) (x:EraF):numsR (ruleE S x):=by
 unfold ruleE ofRul
 split
 ·exact fun r hr=>(by cases hr)
 ·cases hs:ofS S x.ru with
  | none=>exact fun r hr=>(by cases hr)
  | some s=>exact h.rul s (List.mem_of_find?_eq_some hs)
theorem zcheckZ_tot (zn zn2:ByteArray) (ev ev2 sv:Value) (B:Nat) (l:List EraF) (S:List SetF) (w:World) (hz:ZW w B ev sv l S) (ho:ZOkW l S) :
  Calls Tryz.prog 25 #[zoneA zn ev,setsV zn2 ev2 sv] w fun o w'=>o = .returned (.int .i64 (errZW S l))∧Below w.heap.size w w':=by
 obtain ⟨A,cA,rfl,hlc,hcm⟩:=hz.eras.form
 unfold maxLen at hcm
 have heq:=fun (w:World)=>run_eql_func_nil w 90 (.func 15) #[worldA zn2 ev2 sv] #[] Tryz.underlying90
 have hb0:Below w.heap.size w (w.alloc (.cells #[.string zn,.slice A l.length cA] 24)):=(Below.refl w.heap.size w).alloc (Nat.le_refl _) _
 have HX:=Lib.hid (Blk.new w 24 #[.string zn,.slice A l.length cA])
 have HZ:=Lib.hid (hz.below hb0)
 have HB:=Lib.hid hb0
 have HO:=Lib.hid ho
 clear hz hb0 ho
 unfold setsV zoneA
 unfold worldA at heq ⊢
 by_cases hl0:l.length = 0
 ·have HV:=Lib.hid (errZW_none (S:=S) hl0)
  have hd0:((l.length:Int) == 0) = true:=by simpa using hl0
  clear hl0
  go_enter Tryz.func25,Tryz.ntmps25
  go_wp2_with fail
  go_ret
  exact ⟨by rw [HV.out];rfl,HB.out⟩
 ·have hd0:((l.length:Int) == 0) = false:=by simpa using hl0
  have HL0:=Lib.hid hl0
  clear hl0
  go_enter Tryz.func25,Tryz.ntmps25
  go_wp2_with fail
  obtain ⟨W0,hW0⟩:∃ W,w.alloc (.cells #[.string zn,.slice A l.length cA] 24) = W:=⟨_,rfl⟩
  rw [hW0] at HX HZ HB
  try simp only [hW0]
  clear hW0
  go_loopw [27] (fun iv wr=>∃ k:Nat,k ≤ l.length∧iv = .int .i64 k∧(∀ i (h:i < l.length),i < k→missB S l[i] = false)∧Below w.heap.size w wr∧Below W0.heap.size W0 wr) (fun iv _=>l.length - (intOf iv).toNat)
  case atStart=>exact ⟨0,Nat.zero_le _,rfl,fun i _ h=>absurd h (by omega),HB.out,Below.refl _ _⟩
  case round =>
   obtain ⟨k,hk,rfl,hno,hbw,hbi⟩:=hrel
   have HNO:=Lib.hid hno
   have HBW:=Lib.hid hbw
   have HBI:=Lib.hid hbi
   have HXW:=Lib.hid (HX.out.below hbi HX.out.lt)
   have hws:=hbw.size
   have hxl:=HXW.out.lt
   have x1:=HXW.out.cell 1 (v:=.slice A l.length cA) rfl
   have HZW:=Lib.hid (HZ.out.below hbi)
   clear hno hbw hbi
   by_cases hlt:k < l.length
   ·have hd:decide ((k:Int) < (l.length:Int)) = true:=decide_eq_true (by omega)
    obtain ⟨bb,o,c',e,hbb,hc⟩:=HZW.out.eras.cells (by omega)
    cases e
    have hx:=hc k hlt
    obtain ⟨x,hxk⟩:∃ x,l[k] = x:=⟨_,rfl⟩
    rw [hxk] at hx
    have HXK:=Lib.hid hxk
    obtain ⟨c0,c1,c2,c3,c4,c5,c6,c7,c8,c9,c10,c11⟩:=hx
    have hb2:=HBW.out.alloc hws (.cells (eraC x.n x.ru x.fm x.en) 42)
    have hbi2:=HBI.out.alloc HBI.out.size (.cells (eraC x.n x.ru x.fm x.en) 42)
    have HZ2:=Lib.hid (HZ.out.below hbi2)
    unfold eraC at hb2 hbi2 HZ2
    have HB2:=Lib.hid hb2
    have HBI2:=Lib.hid hbi2
    clear hc hxk hb2 hbi2
    by_cases hru:x.ru.size = 0
    ·have hem:(x.ru.toList == []) = true:=by rw [emp_size,decide_eq_true hru]
     have HM:=Lib.hid (show missB S x = false by unfold missB;rw [decide_eq_false (by simpa using hru)];rfl)
     clear hru
     go_wp2_with fail
     go_roundw
     case rel =>
      refine ⟨k + 1,by omega,by go_num,fun i h hik=>?_,HB2.out,HBI2.out⟩
      rcases Nat.lt_or_ge i k with g | g
      ·exact HNO.out i h g
      ·obtain rfl:i = k:=by omega
       rw [HXK.out];exact HM.out
     case measure=>simp [intOf];omega
    ·have hem:(x.ru.toList == []) = false:=by rw [emp_size,decide_eq_false hru]
     obtain ⟨A3,c3',e3⟩:=ofVal_form HZ2.out.sets x.ru
     have HOF:=Lib.hid (wof_any _ zn2 ev2 sv B S HZ2.out.sets HZ2.out.le x.ru)
     rw [e3] at HOF
     unfold worldA at HOF
     have HM:=Lib.hid (show missB S x = decide ((ofRul S x.ru).length = 0) by unfold missB;rw [decide_eq_true hru];rfl)
     clear hru e3
     generalize ofRul S x.ru = R at *
     by_cases hR:R.length = 0
     ·have hd3:((R.length:Int) == 0) = true:=by simpa using hR
      have HV:=Lib.hid (errZW_miss hlt (show missB S l[k] = true by rw [HXK.out,HM.out,decide_eq_true hR]))
      clear hR
      go_wp2_with fail
      refine HOF.out.mono ?_
      rintro o w2 ⟨rfl,hb⟩
      have HB3:=Lib.hid (HB2.out.trans (hb.mono HB2.out.size))
      clear hb
      go_wp2_with fail
      go_ret
      exact ⟨by rw [HV.out];rfl,HB3.out⟩
     ·have hd3:((R.length:Int) == 0) = false:=by simpa using hR
      rw [decide_eq_false hR] at HM
      clear hR
      go_wp2_with fail
      refine HOF.out.mono ?_
      rintro o w2 ⟨rfl,hb⟩
      have HB3:=Lib.hid (HB2.out.trans (hb.mono HB2.out.size))
      have HBI3:=Lib.hid (HBI2.out.trans (hb.mono HBI2.out.size))
      clear hb
      go_wp2_with fail
      go_roundw
      case rel =>
       refine ⟨k + 1,by omega,by go_num,fun i h hik=>?_,HB3.out,HBI3.out⟩
       rcases Nat.lt_or_ge i k with g | g
       ·exact HNO.out i h g
       ·obtain rfl:i = k:=by omega
        rw [HXK.out];exact HM.out
      case measure=>simp [intOf];omega
   ·obtain rfl:k = l.length:=by omega
    have hd:decide ((l.length:Int) < (l.length:Int)) = false:=decide_eq_false (by omega)
    obtain ⟨w1,hw1⟩:∃ x,x = wr:=⟨_,rfl⟩
    subst hw1
    have HTH:=Lib.hid (errZW_there HL0.out (fun i hi=>HNO.out i hi hi))
    clear HNO hk
    go_wp2_with fail
    go_loopw [46] (fun iv W2=>∃ k:Nat,k ≤ l.length∧iv = .int .i64 k∧(∀ i,i < k→errAt l i = 0)∧Below w1.heap.size w1 W2) (fun iv _=>l.length - (intOf iv).toNat)
    case atStart=>exact ⟨0,Nat.zero_le _,rfl,fun i h=>absurd h (by omega),Below.refl _ _⟩
    case round =>
     obtain ⟨k,hk,rfl,hno,hbi⟩:=hrel
     have HNO:=Lib.hid hno
     have HBI:=Lib.hid hbi
     have HX2:=Lib.hid (HXW.out.below hbi HXW.out.lt)
     have hws2:=hbi.size
     have hxl2:=HX2.out.lt
     have x1:=HX2.out.cell 1 (v:=.slice A l.length cA) rfl
     have HZ2:=Lib.hid (HZW.out.below hbi)
     have HBW2:=Lib.hid (HBW.out.trans (hbi.mono hws))
     clear hno hbi
     by_cases hlt:k < l.length
     ·have hd:decide ((k:Int) < (l.length:Int)) = true:=decide_eq_true (by omega)
      obtain ⟨bb,o,c',e,hbb,hc⟩:=HZ2.out.eras.cells (by omega)
      cases e
      have hx:=hc k hlt
      have hfm:=HO.out.fm _ (List.getElem_mem hlt)
      have hat:=errAt_eq hlt
      obtain ⟨x,hxk⟩:∃ x,l[k] = x:=⟨_,rfl⟩
      rw [hxk] at hx hfm hat
      obtain ⟨c0,c1,c2,c3,c4,c5,c6,c7,c8,c9,c10,c11⟩:=hx
      obtain ⟨la,hla⟩:∃ b,decide (k + 1 = l.length) = b:=⟨_,rfl⟩
      have hlast:((k:Int) == (l.length:Int) - 1) = la:=by
       rw [← hla]
       by_cases h:k + 1 = l.length
       ·rw [decide_eq_true h];exact beq_iff_eq.2 (by omega)
       ·rw [decide_eq_false h];exact beq_eq_false_iff_ne.2 (by omega)
      rw [hla] at hat
      have HAT:=Lib.hid hat
      have hb2:=HBW2.out.alloc HBW2.out.size (.cells (eraC x.n x.ru x.fm x.en) 42)
      have hbi2:=HBI.out.alloc hws2 (.cells (eraC x.n x.ru x.fm x.en) 42)
      have HZ3:=Lib.hid (HZ2.out.below ((Below.refl wr.heap.size wr).alloc (Nat.le_refl _) (.cells (eraC x.n x.ru x.fm x.en) 42)))
      have HC:=Lib.hid (zcheck_any x la _ hfm HZ3.out.maxl HZ3.out.ahead)
      unfold eraC at hb2 hbi2 HZ3 HC
      unfold eraA at HC
      have HB3:=Lib.hid hb2
      have HBI3:=Lib.hid hbi2
      clear hc hxk hla hat hb2 hbi2 hfm
      obtain ⟨E,hE⟩:∃ e,errE x la = e:=⟨_,rfl⟩
      rw [hE] at HC HAT
      clear hE
      by_cases hE0:E = 0
      ·subst hE0
       go_wp2_with fail
       refine HC.out.mono ?_
       rintro o w3 ⟨rfl,hb⟩
       have HBI4:=Lib.hid (HBI3.out.trans (hb.mono HBI3.out.size))
       clear hb
       go_wp2_with fail
       go_roundw
       case rel =>
        refine ⟨k + 1,by omega,by go_num,fun i hik=>?_,HBI4.out⟩
        rcases Nat.lt_or_ge i k with g | g
        ·exact HNO.out i g
        ·obtain rfl:i = k:=by omega
         exact HAT.out
       case measure=>simp [intOf];omega
      ·have he0:(E != 0) = true:=by simpa using hE0
       have HV:=Lib.hid (show errZW S l = E by
        have h:=errsF_at hlt (fun i hi=>HNO.out i hi) (by rw [HAT.out];exact hE0)
        rw [HTH.out,if_pos (by rw [h,HAT.out];exact hE0),h,HAT.out])
       clear hE0
       go_wp2_with fail
       refine HC.out.mono ?_
       rintro o w3 ⟨rfl,hb⟩
       have HB4:=Lib.hid (HB3.out.trans (hb.mono HB3.out.size))
       clear hb
       go_wp2_with fail
       go_ret
       exact ⟨by rw [HV.out];rfl,HB4.out⟩
     ·obtain rfl:k = l.length:=by omega
      obtain ⟨w2,hw2⟩:∃ x,x = wr:=⟨_,rfl⟩
      subst hw2
      have HERR:=Lib.hid (show ∀ i,i < l.length→errAt l i = 0 from fun i hi=>HNO.out i hi)
      have HTH2:=Lib.hid (show errZW S l = if riseI (endLW S l) then 0 else 17 by rw [HTH.out,errsF_none HERR.out];rfl)
      clear HNO hk HTH
      have hl1:0 < l.length:=by have:=HL0.out;omega
      have hsub:wrap64 ((l.length:Int) - 1) = (l.length:Int) - 1:=IntWalk.wrap64_in _ (by omega)
      go_wp2_with fail
      go_loopw [10,11,71] (fun lv fv iv W3=>∃ k:Nat,k ≤ l.length - 1∧iv = .int .i64 k∧(k = 0∧lv = .int .i64 0∧fv = .bool true∨∃ q,k = q + 1∧lv = .int .i64 ((endLW S l).getD q 0)∧fv = .bool false)∧(∀ i,i + 1 < k→(endLW S l).getD i 0 < (endLW S l).getD (i + 1) 0)∧Below w2.heap.size w2 W3) (fun _ _ iv _=>l.length - (intOf iv).toNat)
      case atStart=>exact ⟨0,Nat.zero_le _,rfl,.inl ⟨rfl,rfl,rfl⟩,fun i h=>absurd h (by omega),Below.refl _ _⟩
      case round =>
       obtain ⟨k,hk,rfl,hlf,hno,hbi⟩:=hrel
       have HNO:=Lib.hid hno
       have HBI3:=Lib.hid hbi
       have HX3:=Lib.hid (HX2.out.below hbi HX2.out.lt)
       have hws3:=hbi.size
       have HZ3:=Lib.hid (HZ2.out.below hbi)
       have HBW3:=Lib.hid (HBW2.out.trans (hbi.mono HBW2.out.size))
       clear hno hbi
       by_cases hlt:k < l.length - 1
       ·have hd:decide ((k:Int) < ((l.length - 1:Nat):Int)) = true:=decide_eq_true (by omega)
        have hlk:k < l.length:=by omega
        obtain ⟨bb,o,c',e,hbb,hc⟩:=HZ3.out.eras.cells (by omega)
        cases e
        have hx:=hc k hlk
        have her:=HERR.out k hlk
        rw [errAt_eq hlk,decide_eq_false (by omega)] at her
        have hen:=endLW_get (S:=S) (l:=l) (i:=k) (by omega)
        obtain ⟨x,hxk⟩:∃ x,l[k] = x:=⟨_,rfl⟩
        rw [hxk] at hx her hen
        obtain ⟨-,hof,hsf,hee,-,hnb⟩:=errE_zero her
        have hee2:x.en = true:=hee
        have hV:endVW x.n x.ru x.en (ruleE S x) = ((endLW S l).getD k 0,0):=by
         unfold endVW
         rw [hee2,hnb hee2,hen]
         rfl
        obtain ⟨c0,c1,c2,c3,c4,c5,c6,c7,c8,c9,c10,c11⟩:=hx
        have hb3:=HBW3.out.alloc HBW3.out.size (.cells (eraC x.n x.ru x.fm x.en) 42)
        have hbi3:=HBI3.out.alloc hws3 (.cells (eraC x.n x.ru x.fm x.en) 42)
        have HZ4:=Lib.hid (HZ3.out.below ((Below.refl wr.heap.size wr).alloc (Nat.le_refl _) (.cells (eraC x.n x.ru x.fm x.en) 42)))
        have HE4:=Lib.hid (Blk.new wr 42 (eraC x.n x.ru x.fm x.en))
        have HOF:=Lib.hid (fun (W:World) (h:ZW W B (.slice (some ⟨bb,o,none⟩) l.length cA) sv l S)=>zof_any W zn2 ev2 sv B S h.sets h.le x)
        have HEN:=Lib.hid (fun (W:World) (h:ZW W B (.slice (some ⟨bb,o,none⟩) l.length cA) sv l S)=>zend_tot W x.n x.ru x.fm x.en B (rvalE S x) (ruleE S x) ⟨h.sets.rule x,h.ahead,h.tab,h.le⟩ (HO.out.rule x) (by omega) (by omega))
        obtain ⟨ek,hek⟩:∃ z,(endLW S l).getD k 0 = z:=⟨_,rfl⟩
        have HEK:=Lib.hid hek
        rw [hek] at hV
        rw [hV] at HEN
        obtain ⟨A3,c3',e3⟩:=rvalE_form HZ4.out.sets x
        rw [e3] at HOF HEN
        unfold setsV worldA eraA at HOF
        unfold eraA at HEN
        unfold eraC at hb3 hbi3 HZ4 HE4
        have HB4:=Lib.hid hb3
        have HBI4:=Lib.hid hbi3
        clear hc hxk hb3 hbi3 her hen hV hek hof hsf hee hee2 hnb
        have hfl:∃ (f:Bool) (n:Int),u11 = .bool f∧u10 = .int .i64 n∧(f = true∧k = 0∨f = false∧∃ q,k = q + 1∧n = (endLW S l).getD q 0):=by
         rcases hlf with ⟨h0,h1,h2⟩ | ⟨q,h0,h1,h2⟩
         ·exact ⟨_,_,h2,h1,.inl ⟨rfl,h0⟩⟩
         ·exact ⟨_,_,h2,h1,.inr ⟨rfl,q,h0,rfl⟩⟩
        obtain ⟨fv,lv,rfl,rfl,hfk⟩:=hfl
        have HFK:=Lib.hid hfk
        clear hlf hfk
        go_wp2_with fail
        obtain ⟨W3,hW3⟩:∃ W,wr.alloc (.cells #[.int .i64 x.n.off,.string x.ru,.int .i64 x.n.save,.string x.fm,.bool x.en,.int .i64 x.n.year,.int .i64 x.n.month,.int .i64 x.n.dk,.int .i64 x.n.dw,.int .i64 x.n.dn,.int .i64 x.n.sec,.int .i64 x.n.ak] 42) = W:=⟨_,rfl⟩
        rw [hW3] at HB4 HBI4 HZ4 HE4
        try simp only [hW3]
        clear hW3
        refine wp_env (fin:=?fna) (by kernel_rfl) [76,77,78,79,80,75,81,82,14,15]
         [.agg #[.int .i64 x.n.off,.string x.ru,.int .i64 x.n.save,.string x.fm,.bool x.en,.int .i64 x.n.year,.int .i64 x.n.month,.int .i64 x.n.dk,.int .i64 x.n.dw,.int .i64 x.n.dn,.int .i64 x.n.sec,.int .i64 x.n.ak],.func (.func 15) #[.agg #[.string zn2,ev2,sv]] #[],.agg #[.int .i64 x.n.off,.string x.ru,.int .i64 x.n.save,.string x.fm,.bool x.en,.int .i64 x.n.year,.int .i64 x.n.month,.int .i64 x.n.dk,.int .i64 x.n.dw,.int .i64 x.n.dn,.int .i64 x.n.sec,.int .i64 x.n.ak],.slice A3 (ruleE S x).length c3',.tuple #[.int .i64 ek,.int .i64 0],.tuple #[.int .i64 ek,.int .i64 0],.int .i64 ek,.int .i64 0,.int .i64 ek,.int .i64 0] (by kernel_rfl) ?fina ?stepsa ?nexta
        case fina =>
         simp only [putAll,Act.put,List.setIfInBounds_toArray,List.set_cons_succ,List.set_cons_zero]
         rfl
        case stepsa =>
         refine ⟨?_,?_,?_,?_,?_,?_,?_,?_,?_,?_,trivial⟩
         all_goals refine .inr ⟨by kernel_rfl,fun w1_ hB_=>?_⟩
         all_goals
          have hc:=HE4.out.below hB_ HE4.out.lt
          have hz:=HZ4.out.below hB_
          have c0:=hc.cell 0 (v:=.int .i64 x.n.off) rfl
          have c1:=hc.cell 1 (v:=.string x.ru) rfl
          have c2:=hc.cell 2 (v:=.int .i64 x.n.save) rfl
          have c3:=hc.cell 3 (v:=.string x.fm) rfl
          have c4:=hc.cell 4 (v:=.bool x.en) rfl
          have c5:=hc.cell 5 (v:=.int .i64 x.n.year) rfl
          have c6:=hc.cell 6 (v:=.int .i64 x.n.month) rfl
          have c7:=hc.cell 7 (v:=.int .i64 x.n.dk) rfl
          have c8:=hc.cell 8 (v:=.int .i64 x.n.dw) rfl
          have c9:=hc.cell 9 (v:=.int .i64 x.n.dn) rfl
          have c10:=hc.cell 10 (v:=.int .i64 x.n.sec) rfl
          have c11:=hc.cell 11 (v:=.int .i64 x.n.ak) rfl
          go_simp
          first
           | exact ⟨rfl,Below.refl _ _⟩
           | exact ⟨rfl,HOF.out w1_ hz⟩
           | exact ⟨rfl,HEN.out w1_ hz⟩
           | ((first | rw [decide_eq_true (by omega)] | rw [decide_eq_false (by omega)] | rw [if_pos (by omega)] | rw [IntWalk.i64_in _ (by omega)]);exact ⟨rfl,Below.refl _ _⟩)
           | done
        case nexta =>
        intro w4 hb4
        have HB5:=Lib.hid (HB4.out.trans (hb4.mono HB4.out.size))
        have HBI5:=Lib.hid (HBI4.out.trans (hb4.mono HBI4.out.size))
        clear hb4
        rcases HFK.out with ⟨rfl,hk0⟩ | ⟨rfl,q,hkq,hlv⟩
        ·go_wp2_with fail
         go_roundw
         case rel=>exact ⟨k + 1,by omega,by go_num,.inr ⟨k,rfl,by rw [HEK.out],rfl⟩,fun i hi=>absurd hi (by omega),HBI5.out⟩
         case measure=>simp [intOf];omega
        ·have HKQ:=Lib.hid hkq
         have HLV:=Lib.hid hlv
         clear hkq hlv
         by_cases hle:ek ≤ lv
         ·have hdl:decide (ek ≤ lv) = true:=decide_eq_true hle
          have HV:=Lib.hid (show errZW S l = 17 by
           rw [HTH2.out,riseI_no (i:=q) (by rw [length_endLW];have:=HKQ.out;omega) (by rw [← HKQ.out,HEK.out,← HLV.out];exact hle)]
           rfl)
          clear hle
          go_wp2_with fail
          go_ret
          exact ⟨by rw [HV.out];rfl,HB5.out⟩
         ·have hdl:decide (ek ≤ lv) = false:=decide_eq_false hle
          have HLT:=Lib.hid (show (endLW S l).getD q 0 < (endLW S l).getD k 0 by rw [HEK.out,← HLV.out];omega)
          clear hle
          go_wp2_with fail
          go_roundw
          case rel =>
           refine ⟨k + 1,by omega,by go_num,.inr ⟨k,rfl,by rw [HEK.out],rfl⟩,fun i hi=>?_,HBI5.out⟩
           rcases Nat.lt_or_ge (i + 1) k with g | g
           ·exact HNO.out i g
           ·have:=HKQ.out
            obtain rfl:i = q:=by omega
            rw [← HKQ.out];exact HLT.out
          case measure=>simp [intOf];omega
       ·obtain rfl:k = l.length - 1:=by omega
        have hd:decide (((l.length - 1:Nat):Int) < ((l.length - 1:Nat):Int)) = false:=decide_eq_false (by omega)
        have HV:=Lib.hid (show errZW S l = 0 by
         rw [HTH2.out,riseI_iff.2 (fun i hi=>HNO.out i (by rw [length_endLW] at hi;omega))]
         rfl)
        have hlf2:∃ a b,u10 = a∧u11 = b:=⟨_,_,rfl,rfl⟩
        clear hlf hlt hk
        go_wp2_with fail
        go_ret
        exact ⟨by rw [HV.out];rfl,HBW3.out⟩
end
section -- UEnds
open Go Go.RowKit Go.Shelf
def EndsPostW (w:World) (S:List SetF) (l:List EraF) (o:Ending) (w':World):Prop :=
 (∃ v,o = .returned (.tuple #[v,.int .i64 (errZW S l)])∧(errZW S l = 0→w'.ownsRow w.heap.size 3 1 v (endLW S l).length (intsV (endLW S l)))∧(errZW S l ≠ 0→v = .slice none 0 0))∧Below w.heap.size w w'
theorem zends_tot (zn zn2:ByteArray) (ev ev2 sv:Value) (B:Nat) (l:List EraF) (S:List SetF) (w:World) (hz:ZW w B ev sv l S) (ho:ZOkW l S) :
  Calls Tryz.prog 14 #[zoneA zn ev,setsV zn2 ev2 sv] w (EndsPostW w S l):=by
 obtain ⟨A,cA,rfl,hlc,hcm⟩:=hz.eras.form
 unfold maxLen at hcm
 have hb0:Below w.heap.size w (w.alloc (.cells #[.string zn,.slice A l.length cA] 24)):=(Below.refl w.heap.size w).alloc (Nat.le_refl _) _
 have HX:=Lib.hid (Blk.new w 24 #[.string zn,.slice A l.length cA])
 have HZ:=Lib.hid (hz.below hb0)
 have HB:=Lib.hid hb0
 have HO:=Lib.hid ho
 have HZ0:=Lib.hid hz
 have HC:=Lib.hid (zcheckZ_tot zn zn2 (.slice A l.length cA) ev2 sv B l S _ HZ.out ho)
 obtain ⟨i0,hi,hz0,hz1,hz2⟩:=info_parts infoInt
 clear hz hb0 ho
 obtain ⟨E,hE⟩:∃ e,errZW S l = e:=⟨_,rfl⟩
 rw [hE] at HC
 have HE:=Lib.hid hE
 unfold setsV zoneA worldA at HC ⊢
 clear hE
 by_cases hE0:E = 0
 ·subst hE0
  obtain ⟨hl0,-,hat,-⟩:=errZW_zero HE.out
  have HERR:=Lib.hid hat
  have hl1:0 < l.length:=by omega
  have hsub:wrap64 ((l.length:Int) - 1) = (l.length:Int) - 1:=IntWalk.wrap64_in _ (by omega)
  clear hat hl0
  go_enter Tryz.func14,Tryz.ntmps14
  go_wp2_with fail
  refine HC.out.mono ?_
  rintro o w1 ⟨rfl,hb⟩
  have HX1:=Lib.hid (HX.out.below hb HX.out.lt)
  have HB1:=Lib.hid (HB.out.trans (hb.mono HB.out.size))
  have x1:=HX1.out.cell 1 (v:=.slice A l.length cA) rfl
  have hxl:=HX1.out.lt
  clear hb HC HX HB HZ
  go_wp2_with fail
  go_loopw [7,26] (fun u iv wr=>∃ k:Nat,k ≤ l.length - 1∧iv = .int .i64 k∧wr.ownsRow w.heap.size 3 1 u ((endLW S l).take k).length (intsV ((endLW S l).take k))∧Below w.heap.size w wr) (fun _ iv _=>l.length - (intOf iv).toNat)
  case atStart=>exact ⟨0,Nat.zero_le _,rfl,World.ownsRow_nil _ _ _ _,HB1.out⟩
  case round =>
   obtain ⟨k,hk,rfl,hown,hbw⟩:=hrel
   have HOW:=Lib.hid hown
   have HBW:=Lib.hid hbw
   have HZ2:=Lib.hid (HZ0.out.below hbw)
   obtain ⟨A5,c5,hu⟩:=(Sl.of_own hown).form
   have hlen:((endLW S l).take k).length = k:=by rw [List.length_take,length_endLW];omega
   rw [hlen] at HOW hu
   subst hu
   have HLEN:=Lib.hid hlen
   clear hown hbw hlen
   by_cases hlt:k < l.length - 1
   ·have hd:decide ((k:Int) < ((l.length - 1:Nat):Int)) = true:=decide_eq_true (by omega)
    have hlk:k < l.length:=by omega
    obtain ⟨bb,o,c',e,hbb,hc⟩:=HZ2.out.eras.cells (by omega)
    cases e
    have hx:=hc k hlk
    have her:=HERR.out k hlk
    rw [errAt_eq hlk,decide_eq_false (by omega)] at her
    have hen:=endLW_get (S:=S) (l:=l) (i:=k) (by omega)
    have htk:(endLW S l).take (k + 1) = (endLW S l).take k ++ [(endLW S l).getD k 0]:=by
     have h9:k < (endLW S l).length:=by rw [length_endLW];omega
     rw [List.take_succ_eq_append_getElem h9,List.getD_eq_getElem?_getD,List.getElem?_eq_getElem h9]
     rfl
    obtain ⟨x,hxk⟩:∃ x,l[k] = x:=⟨_,rfl⟩
    rw [hxk] at hx her hen
    obtain ⟨-,hof,hsf,hee,-,hnb⟩:=errE_zero her
    have hee2:x.en = true:=hee
    have hV:endVW x.n x.ru x.en (ruleE S x) = ((endLW S l).getD k 0,0):=by
     unfold endVW
     rw [hee2,hnb hee2,hen]
     rfl
    obtain ⟨c0,c1,c2,c3,c4,c5,c6,c7,c8,c9,c10,c11⟩:=hx
    have hb3:=HBW.out.alloc HBW.out.size (.cells (eraC x.n x.ru x.fm x.en) 42)
    have HZ4:=Lib.hid (HZ0.out.below hb3)
    have HE4:=Lib.hid (Blk.new wr 42 (eraC x.n x.ru x.fm x.en))
    have HOW4:=Lib.hid (HOW.out.alloc (.cells (eraC x.n x.ru x.fm x.en) 42))
    have HOF:=Lib.hid (fun (W:World) (h:ZW W B (.slice (some ⟨bb,o,none⟩) l.length cA) sv l S)=>zof_any W zn2 ev2 sv B S h.sets h.le x)
    have HEN:=Lib.hid (fun (W:World) (h:ZW W B (.slice (some ⟨bb,o,none⟩) l.length cA) sv l S)=>zend_tot W x.n x.ru x.fm x.en B (rvalE S x) (ruleE S x) ⟨h.sets.rule x,h.ahead,h.tab,h.le⟩ (HO.out.rule x) (by omega) (by omega))
    obtain ⟨ek,hek⟩:∃ z,(endLW S l).getD k 0 = z:=⟨_,rfl⟩
    rw [hek] at hV htk
    rw [hV] at HEN
    have HTK:=Lib.hid htk
    obtain ⟨A3,c3',e3⟩:=rvalE_form HZ4.out.sets x
    rw [e3] at HOF HEN
    unfold setsV worldA eraA at HOF
    unfold eraA at HEN
    unfold eraC at hb3 HZ4 HE4 HOW4
    have HB4:=Lib.hid hb3
    have hul:=HOW.out.lt
    clear hc hxk hb3 her hen hV hek hof hsf hee hee2 hnb htk
    go_wp2_with fail
    obtain ⟨W3,hW3⟩:∃ W,wr.alloc (.cells #[.int .i64 x.n.off,.string x.ru,.int .i64 x.n.save,.string x.fm,.bool x.en,.int .i64 x.n.year,.int .i64 x.n.month,.int .i64 x.n.dk,.int .i64 x.n.dw,.int .i64 x.n.dn,.int .i64 x.n.sec,.int .i64 x.n.ak] 42) = W:=⟨_,rfl⟩
    rw [hW3] at HB4 HZ4 HE4 HOW4
    try simp only [hW3]
    clear hW3
    refine wp_env (fin:=?fna) (by kernel_rfl) [31,32,33,34,35,30,36,37,10,11]
     [.agg #[.int .i64 x.n.off,.string x.ru,.int .i64 x.n.save,.string x.fm,.bool x.en,.int .i64 x.n.year,.int .i64 x.n.month,.int .i64 x.n.dk,.int .i64 x.n.dw,.int .i64 x.n.dn,.int .i64 x.n.sec,.int .i64 x.n.ak],.func (.func 15) #[.agg #[.string zn2,ev2,sv]] #[],.agg #[.int .i64 x.n.off,.string x.ru,.int .i64 x.n.save,.string x.fm,.bool x.en,.int .i64 x.n.year,.int .i64 x.n.month,.int .i64 x.n.dk,.int .i64 x.n.dw,.int .i64 x.n.dn,.int .i64 x.n.sec,.int .i64 x.n.ak],.slice A3 (ruleE S x).length c3',.tuple #[.int .i64 ek,.int .i64 0],.tuple #[.int .i64 ek,.int .i64 0],.int .i64 ek,.int .i64 0,.int .i64 ek,.int .i64 0] (by kernel_rfl) ?fina ?stepsa ?nexta
    case fina =>
     simp only [putAll,Act.put,List.setIfInBounds_toArray,List.set_cons_succ,List.set_cons_zero]
     rfl
    case stepsa =>
     refine ⟨?_,?_,?_,?_,?_,?_,?_,?_,?_,?_,trivial⟩
     all_goals refine .inr ⟨by kernel_rfl,fun w1_ hB_=>?_⟩
     all_goals
      have hc:=HE4.out.below hB_ HE4.out.lt
      have hz:=HZ4.out.below hB_
      have c0:=hc.cell 0 (v:=.int .i64 x.n.off) rfl
      have c1:=hc.cell 1 (v:=.string x.ru) rfl
      have c2:=hc.cell 2 (v:=.int .i64 x.n.save) rfl
      have c3:=hc.cell 3 (v:=.string x.fm) rfl
      have c4:=hc.cell 4 (v:=.bool x.en) rfl
      have c5:=hc.cell 5 (v:=.int .i64 x.n.year) rfl
      have c6:=hc.cell 6 (v:=.int .i64 x.n.month) rfl
      have c7:=hc.cell 7 (v:=.int .i64 x.n.dk) rfl
      have c8:=hc.cell 8 (v:=.int .i64 x.n.dw) rfl
      have c9:=hc.cell 9 (v:=.int .i64 x.n.dn) rfl
      have c10:=hc.cell 10 (v:=.int .i64 x.n.sec) rfl
      have c11:=hc.cell 11 (v:=.int .i64 x.n.ak) rfl
      go_simp
      first
       | exact ⟨rfl,Below.refl _ _⟩
       | exact ⟨rfl,HOF.out w1_ hz⟩
       | exact ⟨rfl,HEN.out w1_ hz⟩
       | ((first | rw [decide_eq_true (by omega)] | rw [decide_eq_false (by omega)] | rw [if_pos (by omega)] | rw [IntWalk.i64_in _ (by omega)]);exact ⟨rfl,Below.refl _ _⟩)
       | done
    case nexta =>
    intro w4 hb4
    have hb5:=HB4.out.trans (hb4.mono HB4.out.size)
    have HOW5:=Lib.hid (ownsRow_below HOW4.out hb4)
    clear hb4
    have hkb:k ≤ 1300000000000:=by have:=HO.out.len;omega
    go_wp2_with ((at_builtin;refine wpList_append_own _ rfl _ _ 28 rfl (w.heap.size) 3 i0 (.int .i64 0) 1 8 Tryz.underlying28 hi hz0 hz1 hz2 rfl (by decide) _ _ _ rfl (HOW5.out.alloc _) ⟨w4.heap.size,0,none⟩ 1 1 [.int .i64 ek] rfl rfl (cell_one_new _ _ _) (by simp [Value.oneCell']) (by unfold maxLen;omega) (by omega) (by have:=hb5.size;simp <;> omega) ?_;intro v' w1 hown' hgrow _))
    go_roundw
    case rel =>
     refine ⟨k + 1,by omega,by go_num,?_,below_push hb5 HOW5.out hgrow⟩
     rw [HTK.out,intsV_append,List.length_append,HLEN.out]
     exact hown'
    case measure=>first | (simp [intOf];done) | (simp [intOf];omega)
   ·obtain rfl:k = l.length - 1:=by omega
    have hd:decide (((l.length - 1:Nat):Int) < ((l.length - 1:Nat):Int)) = false:=decide_eq_false (by omega)
    have HOE:=Lib.hid (show wr.ownsRow w.heap.size 3 1 (.slice A5 (l.length - 1) c5) (endLW S l).length (intsV (endLW S l)) by
     have h:=HOW.out
     rw [List.take_of_length_le (by rw [length_endLW];exact Nat.le_refl _)] at h
     rw [length_endLW]
     exact h)
    go_wp2_with fail
    go_ret2
    exact ⟨⟨_,by rw [HE.out];rfl,fun _=>HOE.out,fun h=>absurd HE.out h⟩,HBW.out⟩
 ·have he0:(E != 0) = true:=by simpa using hE0
  have HN:=Lib.hid hE0
  clear hE0
  go_enter Tryz.func14,Tryz.ntmps14
  go_wp2_with fail
  refine HC.out.mono ?_
  rintro o w1 ⟨rfl,hb⟩
  have HB1:=Lib.hid (HB.out.trans (hb.mono HB.out.size))
  clear hb HC HX HB HZ
  go_wp2_with fail
  go_ret2
  exact ⟨⟨_,by rw [HE.out];rfl,fun h=>absurd (HE.out.symm.trans h) HN.out,fun _=>rfl⟩,HB1.out⟩
end
section -- GAt
open Go Go.RowKit Go.Shelf
theorem sum_ok {e:EraN} {ru:ByteArray} {l:List Rul} {i:Int} (hr:RuOk l) (hl:letOk l) (hs:-90000 < e.save∧e.save < 90000):sumOk e ru l i:=by
 unfold sumOk savesV
 split
 ·show (-1000000000000000 ≤ e.save∧e.save ≤ 1000000000000000)∧(⟨#[]⟩:ByteArray).size ≤ 140737488351232
  exact ⟨⟨by omega,by omega⟩,by decide⟩
 ·cases ho:latestF l e.off i with
  | none=>exact (show (-1000000000000000 ≤ (0:Int)∧(0:Int) ≤ 1000000000000000)∧(letV l).size ≤ 140737488351232 from ⟨⟨by decide,by decide⟩,letV_in hl⟩)
  | some f=>exact ⟨hr.sv f (latestF_mem ho),fires_let hl (latestF_mem ho)⟩
theorem ZOk.ruleL {S:List SetF} (hlt:∀ s ∈ S,letOk s.l) (x:EraF):letOk (ruleE S x):=by
 unfold ruleE ofRul
 split
 ·exact fun r hr=>(by cases hr)
 ·cases hs:ofS S x.ru with
  | none=>exact fun r hr=>(by cases hr)
  | some s=>exact hlt s (List.mem_of_find?_eq_some hs)
def atX (S:List SetF) (l:List EraF) (i:Int):EraF:=l.getD (eraI (endL S l) i) default
def atZ (S:List SetF) (l:List EraF) (i:Int):Value :=
 if errZ S l ≠ 0 then badL (errZ S l) else if i < -2199023255552∨2199023255552 < i then badL 10 else zwithinV (atX S l i).n (atX S l i).ru (atX S l i).fm (ruleE S (atX S l i)) i
theorem zwithinV_form (e:EraN) (ru f:ByteArray) (l:List Rul) (i:Int):∃ a d s err,zwithinV e ru f l i = .tuple #[.agg #[.int .i64 a,.bool d,.string s],.int .i64 err]:=by
 unfold zwithinV withinR
 split
 ·exact ⟨_,_,_,_,rfl⟩
 ·exact ⟨_,_,_,_,rfl⟩
theorem zat_any (zn:ByteArray) (ev sv:Value) (B:Nat) (l:List EraF) (S:List SetF) (i:Int) (w:World) (hz:ZW w B ev sv l S) (ho:ZOk l S) (hlt:∀ s ∈ S,letOk s.l) :
  Calls Tryz.prog 19 #[zoneA zn ev,setsV zn ev sv,.int .i64 i] w fun o w'=>o = .returned (atZ S l i)∧Below w.heap.size w w':=by
 obtain ⟨A,cA,rfl,hlc,hcm⟩:=hz.eras.form
 unfold maxLen at hcm
 have hb0:Below w.heap.size w ((w.alloc (.cells #[.string zn,.slice A l.length cA] 24)).alloc (.cells #[.int .i64 0,.bool false,.string ⟨#[]⟩] 48)):=((Below.refl w.heap.size w).alloc (Nat.le_refl _) _).alloc (by simp) _
 have HX:=Lib.hid ((Blk.new w 24 #[.string zn,.slice A l.length cA]).alloc (.cells #[.int .i64 0,.bool false,.string ⟨#[]⟩] 48))
 have hr0:=Blk.new (w.alloc (.cells #[.string zn,.slice A l.length cA] 24)) 48 #[.int .i64 0,.bool false,.string ⟨#[]⟩]
 rw [World.size_alloc] at hr0
 have HR:=Lib.hid hr0
 have HB:=Lib.hid hb0
 have HZ0:=Lib.hid hz
 have HO:=Lib.hid ho
 have HLT:=Lib.hid hlt
 have HC:=Lib.hid (zends_any zn (.slice A l.length cA) sv B l S _ (hz.below hb0) ho)
 unfold EndsPost at HC
 clear hb0 hr0 hz ho hlt
 obtain ⟨E,hE⟩:∃ e,errZ S l = e:=⟨_,rfl⟩
 rw [hE] at HC
 have HE:=Lib.hid hE
 unfold setsV zoneA worldA at HC ⊢
 clear hE
 go_enter Tryz.func19,Tryz.ntmps19
 go_wp2_with fail
 refine HC.out.mono ?_
 rintro o w1 ⟨⟨v,rfl,hv0,hvn⟩,hb⟩
 have HX1:=Lib.hid (HX.out.below hb HX.out.lt)
 have HR1:=Lib.hid (HR.out.below hb HR.out.lt)
 have HB1:=Lib.hid (HB.out.trans (hb.mono HB.out.size))
 have HZ1:=Lib.hid (HZ0.out.below HB1.out)
 have hrl:=HR1.out.lt
 clear hb HC HX HR HB
 by_cases hE0:E = 0
 ·have HV0:=Lib.hid (show Nums w1 w1.heap.size v (endL S l) from Sl.of_own (hv0 hE0))
  subst hE0
  clear hv0 hvn
  by_cases hi:i < -2199023255552∨2199023255552 < i
  ·have HV:=Lib.hid (show atZ S l i = badL 10 by unfold atZ;rw [if_neg (fun h=>h HE.out),if_pos hi])
   unfold badL at HV
   have r0:=HR1.out.cell 0 (v:=.int .i64 0) rfl
   have r1:=HR1.out.cell 1 (v:=.bool false) rfl
   have r2:=HR1.out.cell 2 (v:=.string ⟨#[]⟩) rfl
   have f0:=HR1.out.frozen 0
   have f1:=HR1.out.frozen 1
   have f2:=HR1.out.frozen 2
   obtain ⟨d1,d2,hd1,hd2,hdd⟩:∃ a b,decide (i < -2199023255552) = a∧decide (2199023255552 < i) = b∧(a = true∨a = false∧b = true):=by
    refine ⟨_,_,rfl,rfl,?_⟩
    by_cases h:i < -2199023255552
    ·exact .inl (decide_eq_true h)
    ·exact .inr ⟨decide_eq_false h,decide_eq_true (by omega)⟩
   clear hi
   rcases hdd with rfl | ⟨rfl,rfl⟩
   ·go_wp2_with fail
    have HW:=Lib.hid (((HR1.out.set 0 (.int .i64 0)).set 1 (.bool false)).set 2 (.string ⟨#[]⟩))
    refine bodyPost_ret (v:=.tuple #[.agg #[.int .i64 0,.bool false,.string ⟨#[]⟩],.int .i64 10]) ?_ rfl ⟨by rw [HV.out],below_set3 HB1.out (by omega) _ _ _⟩
    have c0:=HW.out.cell 0 (v:=.int .i64 0) rfl
    have c1:=HW.out.cell 1 (v:=.bool false) rfl
    have c2:=HW.out.cell 2 (v:=.string ⟨#[]⟩) rfl
    simp [results,Tryz.f19,go_sem,c0,c1,c2]
   ·go_wp2_with fail
    have HW:=Lib.hid (((HR1.out.set 0 (.int .i64 0)).set 1 (.bool false)).set 2 (.string ⟨#[]⟩))
    refine bodyPost_ret (v:=.tuple #[.agg #[.int .i64 0,.bool false,.string ⟨#[]⟩],.int .i64 10]) ?_ rfl ⟨by rw [HV.out],below_set3 HB1.out (by omega) _ _ _⟩
    have c0:=HW.out.cell 0 (v:=.int .i64 0) rfl
    have c1:=HW.out.cell 1 (v:=.bool false) rfl
    have c2:=HW.out.cell 2 (v:=.string ⟨#[]⟩) rfl
    simp [results,Tryz.f19,go_sem,c0,c1,c2]
  ·have hd1:decide (i < -2199023255552) = false:=decide_eq_false (by omega)
   have hd2:decide (2199023255552 < i) = false:=decide_eq_false (by omega)
   have HIN:=Lib.hid hi
   obtain ⟨hl0,-,hat,-⟩:=errZ_zero HE.out
   have hkle:=eraI_le (endL S l) i
   rw [length_endL] at hkle
   obtain ⟨k,hk⟩:∃ k,eraI (endL S l) i = k:=⟨_,rfl⟩
   rw [hk] at hkle
   have hlk:k < l.length:=by omega
   have hk0:(0:Int) ≤ (k:Int):=by omega
   have hkl:(k:Int) < (l.length:Int):=by omega
   obtain ⟨bb,o,c',e,hbb,hc⟩:=HZ1.out.eras.cells (by omega)
   cases e
   have hx:=hc k hlk
   have her:=hat k hlk
   rw [errAt_eq hlk] at her
   obtain ⟨x,hxk⟩:∃ x,l[k] = x:=⟨_,rfl⟩
   rw [hxk] at hx her
   obtain ⟨-,hof,hsf,-,-,-⟩:=errE_zero her
   have hax:atX S l i = x:=by unfold atX;rw [hk,List.getD_eq_getElem?_getD,List.getElem?_eq_getElem hlk,hxk];rfl
   have HV:=Lib.hid (show atZ S l i = zwithinV x.n x.ru x.fm (ruleE S x) i by unfold atZ;rw [if_neg (fun h=>h HE.out),if_neg hi,hax])
   obtain ⟨a,d,s,err,hzw⟩:=zwithinV_form x.n x.ru x.fm (ruleE S x) i
   have hfm:x.fm.size < 4294967281:=by rw [← hxk];exact HO.out.fm _ (List.getElem_mem hlk)
   have HOF:=Lib.hid (fun (W:World) (h:ZW W B (.slice (some ⟨bb,o,none⟩) l.length cA) sv l S)=>zof_any W zn (.slice (some ⟨bb,o,none⟩) l.length cA) sv B S h.sets h.le x)
   have HWI:=Lib.hid (fun (W:World) (h:ZW W B (.slice (some ⟨bb,o,none⟩) l.length cA) sv l S)=>zwithin_any W x.n x.ru x.fm x.en B (rvalE S x) (ruleE S x) h.maxl hfm ⟨h.sets.rule x,h.ahead,h.tab,h.le⟩ (HO.out.rule x) i (by omega) (by omega) (by omega) (sum_ok (HO.out.rule x) (ZOk.ruleL HLT.out x) hsf))
   rw [hzw] at HV HWI
   obtain ⟨A3,c3',e3⟩:=rvalE_form HZ1.out.sets x
   rw [e3] at HOF HWI
   unfold setsV worldA eraA at HOF
   unfold eraA at HWI
   obtain ⟨c0,c1,c2,c3,c4,c5,c6,c7,c8,c9,c10,c11⟩:=hx
   have HERA:=Lib.hid (fun (W:World) (h:Below w1.heap.size w1 W)=>zera_any W w1.heap.size v (endL S l) i (HV0.out.below h))
   rw [hk] at HERA
   have x1:=HX1.out.cell 1 (v:=.slice (some ⟨bb,o,none⟩) l.length cA) rfl
   have hzl1:w.heap.size < w1.heap.size:=HX1.out.lt
   have hbl1:bb < w1.heap.size:=by have:=HZ1.out.le;omega
   clear hi hl0 hat hkle hk hc her hof hsf hax hzw hfm e3 hxk
   obtain ⟨A6,c6',hv6,-,-⟩:=HV0.out.form
   rw [hv6] at HERA ⊢
   clear hv6
   go_wp2_with fail
   go_region_held3 (fun w'=>w'.cell? ⟨w.heap.size,1,none⟩ = some (.slice (some ⟨bb,o,none⟩) l.length cA)∧w'.cell? ⟨bb,o + k * 12,none⟩ = some (.int .i64 x.n.off)∧w'.cell? ⟨bb,o + k * 12 + 1,none⟩ = some (.string x.ru)∧w'.cell? ⟨bb,o + k * 12 + 2,none⟩ = some (.int .i64 x.n.save)∧w'.cell? ⟨bb,o + k * 12 + 3,none⟩ = some (.string x.fm)∧w'.cell? ⟨bb,o + k * 12 + 4,none⟩ = some (.bool x.en)∧w'.cell? ⟨bb,o + k * 12 + 5,none⟩ = some (.int .i64 x.n.year)∧w'.cell? ⟨bb,o + k * 12 + 6,none⟩ = some (.int .i64 x.n.month)∧w'.cell? ⟨bb,o + k * 12 + 7,none⟩ = some (.int .i64 x.n.dk)∧w'.cell? ⟨bb,o + k * 12 + 8,none⟩ = some (.int .i64 x.n.dw)∧w'.cell? ⟨bb,o + k * 12 + 9,none⟩ = some (.int .i64 x.n.dn)∧w'.cell? ⟨bb,o + k * 12 + 10,none⟩ = some (.int .i64 x.n.sec)∧w'.cell? ⟨bb,o + k * 12 + 11,none⟩ = some (.int .i64 x.n.ak)) (first | exact ⟨x1,c0,c1,c2,c3,c4,c5,c6,c7,c8,c9,c10,c11⟩ | go_keep)
    (first | (go_at_call 50;refine (HERA.out _ (by first | exact Below.refl _ _ | exact (Below.refl _ _).drew | exact ((Below.refl _ _).alloc (Nat.le_refl _) _).drew)).mono ?_;rintro o w' ⟨rfl,rfl⟩))
   all_goals
    rename_i K0 hK0 hh
    clear hh
    refine hK0 _ _ ?_
    clear hK0
    go_wp2_with fail
    have hb6:Below w.heap.size w (w1.alloc (.cells #[.int .i64 x.n.off,.string x.ru,.int .i64 x.n.save,.string x.fm,.bool x.en,.int .i64 x.n.year,.int .i64 x.n.month,.int .i64 x.n.dk,.int .i64 x.n.dw,.int .i64 x.n.dn,.int .i64 x.n.sec,.int .i64 x.n.ak] 42)).drew:=(HB1.out.alloc HB1.out.size _).drew
    have he6:Blk (w1.alloc (.cells #[.int .i64 x.n.off,.string x.ru,.int .i64 x.n.save,.string x.fm,.bool x.en,.int .i64 x.n.year,.int .i64 x.n.month,.int .i64 x.n.dk,.int .i64 x.n.dw,.int .i64 x.n.dn,.int .i64 x.n.sec,.int .i64 x.n.ak] 42)).drew w1.heap.size 42 #[.int .i64 x.n.off,.string x.ru,.int .i64 x.n.save,.string x.fm,.bool x.en,.int .i64 x.n.year,.int .i64 x.n.month,.int .i64 x.n.dk,.int .i64 x.n.dw,.int .i64 x.n.dn,.int .i64 x.n.sec,.int .i64 x.n.ak]:=Blk.new w1 42 _
    have hr6:Blk (w1.alloc (.cells #[.int .i64 x.n.off,.string x.ru,.int .i64 x.n.save,.string x.fm,.bool x.en,.int .i64 x.n.year,.int .i64 x.n.month,.int .i64 x.n.dk,.int .i64 x.n.dw,.int .i64 x.n.dn,.int .i64 x.n.sec,.int .i64 x.n.ak] 42)).drew (w.heap.size + 1) 48 #[.int .i64 0,.bool false,.string ⟨#[]⟩]:=HR1.out.alloc (.cells #[.int .i64 x.n.off,.string x.ru,.int .i64 x.n.save,.string x.fm,.bool x.en,.int .i64 x.n.year,.int .i64 x.n.month,.int .i64 x.n.dk,.int .i64 x.n.dw,.int .i64 x.n.dn,.int .i64 x.n.sec,.int .i64 x.n.ak] 42)
    obtain ⟨W6,hW6⟩:∃ W,(w1.alloc (.cells #[.int .i64 x.n.off,.string x.ru,.int .i64 x.n.save,.string x.fm,.bool x.en,.int .i64 x.n.year,.int .i64 x.n.month,.int .i64 x.n.dk,.int .i64 x.n.dw,.int .i64 x.n.dn,.int .i64 x.n.sec,.int .i64 x.n.ak] 42)).drew = W:=⟨_,rfl⟩
    rw [hW6] at hb6 he6 hr6 ⊢
    clear hW6 c0 c1 c2 c3 c4 c5 c6 c7 c8 c9 c10 c11 x1
    have HB6:=Lib.hid hb6
    have HE6:=Lib.hid he6
    have HR6:=Lib.hid hr6
    clear hb6 he6 hr6
    refine wp_envS (fin:=?fnA) (by kernel_rfl) [35,36,37,38,39,40,41,42,99,7]
     [.agg #[.int .i64 x.n.off,.string x.ru,.int .i64 x.n.save,.string x.fm,.bool x.en,.int .i64 x.n.year,.int .i64 x.n.month,.int .i64 x.n.dk,.int .i64 x.n.dw,.int .i64 x.n.dn,.int .i64 x.n.sec,.int .i64 x.n.ak],.func (.func 15) #[.agg #[.string zn,.slice (some ⟨bb,o,none⟩) l.length cA,sv]] #[],.agg #[.int .i64 x.n.off,.string x.ru,.int .i64 x.n.save,.string x.fm,.bool x.en,.int .i64 x.n.year,.int .i64 x.n.month,.int .i64 x.n.dk,.int .i64 x.n.dw,.int .i64 x.n.dn,.int .i64 x.n.sec,.int .i64 x.n.ak],.slice A3 (ruleE S x).length c3',.int .i64 i,.tuple #[.agg #[.int .i64 a,.bool d,.string s],.int .i64 err],.agg #[.int .i64 a,.bool d,.string s],.int .i64 err,undef,.int .i64 err] 8 (fun k=>k = w.heap.size + 1) (fun W=>Blk W (w.heap.size + 1) 48 #[.int .i64 a,.bool d,.string s]) (fun W W' h hb=>Blk.below h hb (Blk.lt h)) (by kernel_rfl) (by decide) (by simp) ?finA ?stepsA ?nextA
    case finA =>
     simp only [putAll,Act.put,List.setIfInBounds_toArray,List.set_cons_succ,List.set_cons_zero,List.set_nil]
     try rfl
    case stepsA =>
     refine ⟨?_,?_,?_,?_,?_,?_,?_,?_,?_,?_,trivial⟩
     all_goals
      refine .inr ⟨by kernel_rfl,fun w1_ hB_ hF_=>?_⟩
      have he7:Blk w1_ w1.heap.size 42 #[.int .i64 x.n.off,.string x.ru,.int .i64 x.n.save,.string x.fm,.bool x.en,.int .i64 x.n.year,.int .i64 x.n.month,.int .i64 x.n.dk,.int .i64 x.n.dw,.int .i64 x.n.dn,.int .i64 x.n.sec,.int .i64 x.n.ak]:=Blk.fr HE6.out hF_ (by omega)
      have hz7:=HZ0.out.below (HB6.out.trans (hF_.below HB6.out.size (fun k hk=>by omega)))
      have c0:=he7.cell 0 (v:=.int .i64 x.n.off) rfl
      have c1:=he7.cell 1 (v:=.string x.ru) rfl
      have c2:=he7.cell 2 (v:=.int .i64 x.n.save) rfl
      have c3:=he7.cell 3 (v:=.string x.fm) rfl
      have c4:=he7.cell 4 (v:=.bool x.en) rfl
      have c5:=he7.cell 5 (v:=.int .i64 x.n.year) rfl
      have c6:=he7.cell 6 (v:=.int .i64 x.n.month) rfl
      have c7:=he7.cell 7 (v:=.int .i64 x.n.dk) rfl
      have c8:=he7.cell 8 (v:=.int .i64 x.n.dw) rfl
      have c9:=he7.cell 9 (v:=.int .i64 x.n.dn) rfl
      have c10:=he7.cell 10 (v:=.int .i64 x.n.sec) rfl
      have c11:=he7.cell 11 (v:=.int .i64 x.n.ak) rfl
      first
       | (go_simp;first | exact ⟨rfl,rfl,Below.refl _ _⟩ | exact ⟨rfl,rfl,HOF.out _ hz7⟩ | exact ⟨rfl,rfl,HWI.out _ hz7⟩)
       | (have hr7:=HR6.out.below (hB_ rfl) HR6.out.lt;have f0:=hr7.frozen 0;have f1:=hr7.frozen 1;have f2:=hr7.frozen 2;have r0:=hr7.cell 0 (v:=.int .i64 0) rfl;have r1:=hr7.cell 1 (v:=.bool false) rfl;have r2:=hr7.cell 2 (v:=.string ⟨#[]⟩) rfl;go_simp;exact ⟨rfl,rfl,fr_set3 (T:=fun k=>k = w.heap.size + 1) _ rfl _ _ _,((hr7.set 0 _).set 1 _).set 2 _⟩)
    case nextA =>
     intro W8 hF8 hR8
     have hb8:=HB6.out.trans (hF8.below HB6.out.size (fun k hk=>by omega))
     go_wp2_with fail
     refine bodyPost_ret (v:=.tuple #[.agg #[.int .i64 a,.bool d,.string s],.int .i64 err]) ?_ rfl ⟨by rw [HV.out],hb8⟩
     have c0:=hR8.cell 0 (v:=.int .i64 a) rfl
     have c1:=hR8.cell 1 (v:=.bool d) rfl
     have c2:=hR8.cell 2 (v:=.string s) rfl
     simp [results,Tryz.f19,go_sem,c0,c1,c2]
 ·have HV:=Lib.hid (show atZ S l i = badL E by unfold atZ;rw [if_pos (by rw [HE.out];exact hE0),HE.out])
  unfold badL at HV
  have he0:(E != 0) = true:=by simpa using hE0
  have hvv:=hvn hE0
  subst hvv
  have r0:=HR1.out.cell 0 (v:=.int .i64 0) rfl
  have r1:=HR1.out.cell 1 (v:=.bool false) rfl
  have r2:=HR1.out.cell 2 (v:=.string ⟨#[]⟩) rfl
  have f0:=HR1.out.frozen 0
  have f1:=HR1.out.frozen 1
  have f2:=HR1.out.frozen 2
  clear hv0 hvn hE0
  go_wp2_with fail
  have HW:=Lib.hid (((HR1.out.set 0 (.int .i64 0)).set 1 (.bool false)).set 2 (.string ⟨#[]⟩))
  refine bodyPost_ret (v:=.tuple #[.agg #[.int .i64 0,.bool false,.string ⟨#[]⟩],.int .i64 E]) ?_ rfl ⟨by rw [HV.out],below_set3 HB1.out (by omega) _ _ _⟩
  have c0:=HW.out.cell 0 (v:=.int .i64 0) rfl
  have c1:=HW.out.cell 1 (v:=.bool false) rfl
  have c2:=HW.out.cell 2 (v:=.string ⟨#[]⟩) rfl
  simp [results,Tryz.f19,go_sem,c0,c1,c2]
end
section -- TMath
structure Loc where
 off:Int
 dst:Bool
 abbr:ByteArray
structure Chg where
 at_:Int
 loc:Loc
def Loc.zero:Loc:=⟨0,false,⟨#[]⟩⟩
def Chg.zero:Chg:=⟨0,.zero⟩
instance:Inhabited Loc:=⟨.zero⟩
instance:Inhabited Chg:=⟨.zero⟩
def Rising (l:List Chg):Prop:=∀ i (h:i + 1 < l.length),(l[i]).at_ < (l[i + 1]).at_
theorem Rising.lt {l:List Chg} (h:Rising l):∀ {i j:Nat} (hj:j < l.length) (hij:i < j),(l[i]).at_ < (l[j]).at_:=by
 intro i j hj hij
 induction j with
 | zero=>omega
 | succ j ih =>
   have h1:=h j hj
   rcases Nat.lt_or_ge i j with h2 | h2
   ·have:=ih (by omega) h2;omega
   ·obtain rfl:i = j:=by omega
    exact h1
end
section -- TBase
open Go Go.RowKit
section
variable {w w':World} {B B':Nat} {v:Value} {l:List Chg}
end
end
section -- HMath
open Go Go.RowKit Go.Shelf
def locE (x y:Loc):Bool:=decide (x.off = y.off∧x.dst = y.dst∧x.abbr.toList = y.abbr.toList)
def locW (x:EraF) (R:List Rul) (i:Int):Loc :=
 if (showV x.fm (x.n.off + (savesV x.n x.ru R i).1) (dstB (savesV x.n x.ru R i).1) (savesV x.n x.ru R i).2).2 = 0 then ⟨x.n.off + (savesV x.n x.ru R i).1,dstB (savesV x.n x.ru R i).1,(showV x.fm (x.n.off + (savesV x.n x.ru R i).1) (dstB (savesV x.n x.ru R i).1) (savesV x.n x.ru R i).2).1⟩ else .zero
def turnsF (x:EraF) (R:List Rul):Chg→List (Int × Fir)→List Chg
 | _,[]=>[]
 | now,y :: t=>bif locE (locW x R y.1) now.loc then (if max now.at_ 64060588800 + 12680582400 < y.1 then [] else turnsF x R now t) else ⟨y.1,locW x R y.1⟩ :: turnsF x R ⟨y.1,locW x R y.1⟩ t
def turnsL (x:EraF) (R:List Rul) (fr to:Int):List Chg:=turnsF x R ⟨fr,locW x R fr⟩ (firedF R x.n.off fr to)
end
section -- NSpans
open Go Go.RowKit Go.Shelf
attribute [local go_sem] Oper.semAt_some
end
section -- GSpans
open Go Go.RowKit Go.Shelf
attribute [local go_sem] Oper.semAt_some
def toV (E:List Int) (k:Nat):Int:=E.getD k 2199023255553
def fromV (E:List Int) (k:Nat):Int:=if k = 0 then -2199023255553 else toV E (k - 1)
theorem toV_at {E:List Int} {k:Nat} (h:k < E.length):toV E k = E[k]:=by unfold toV;rw [List.getD_eq_getElem?_getD,List.getElem?_eq_getElem h];rfl
end
section -- HStepM
open Go Go.RowKit Go.Shelf
def eraT (S:List SetF) (l:List EraF) (fr to:Int) (k:Nat):List Chg :=
 if toV (endL S l) k - 1 ≤ fr∨to < fromV (endL S l) k then [] else
  (if fr < fromV (endL S l) k then [⟨fromV (endL S l) k,locW (l.getD k default) (ruleE S (l.getD k default)) (fromV (endL S l) k)⟩] else []) ++
    turnsL (l.getD k default) (ruleE S (l.getD k default)) (max fr (fromV (endL S l) k)) (min to (toV (endL S l) k - 1))
def stepsL (S:List SetF) (l:List EraF) (fr to:Int):List Chg:=(List.range l.length).flatMap (eraT S l fr to)
section
variable {S:List SetF} {l:List EraF} {fr to:Int} {k:Nat}
theorem errZ_off (h:errZ S l = 0) (hk:k < l.length):(-90000 < l[k].n.off∧l[k].n.off < 90000)∧(-90000 < l[k].n.save∧l[k].n.save < 90000):=by
 have h1:=(errZ_zero h).2.2.1 k hk
 rw [errAt_eq hk] at h1
 unfold errE at h1
 split at h1
 ·split at h1
  ·rename_i h2
   unfold withinB at h2
   simp only [Bool.and_eq_true,decide_eq_true_eq] at h2
   omega
  ·cases h1
 ·rename_i hn
  exact absurd h1 hn
end
end
section -- HShown
open Go Go.RowKit Go.Shelf
end
section -- GRows
open Go Go.RowKit Go.Shelf
structure RowF where
 v:Value
 D:List FrI
 letter:ByteArray
instance:Inhabited RowF:=⟨⟨.slice none 0 0,[],⟨#[]⟩⟩⟩
theorem rule_right {S:List SetF} (h:∀ s ∈ S,rightB s.l = true) (x:EraF):rightB (ruleE S x) = true:=by
 unfold ruleE
 split
 ·exact right_nil
 ·exact set_right h x.ru
end
section -- ANear
open Go Go.RowKit Go.Shelf
end
section -- GShowM
open Go Go.RowKit Go.Shelf
theorem Nums.more {w:World} {B B':Nat} {v:Value} {l:List Int} (h:Nums w B v l) (hB:B ≤ B'):Nums w B' v l:=Sl.more h hB
theorem atZ_form (S:List SetF) (l:List EraF) (i:Int):∃ a d s err,atZ S l i = .tuple #[.agg #[.int .i64 a,.bool d,.string s],.int .i64 err]:=by
 unfold atZ
 split
 ·exact ⟨_,_,_,_,rfl⟩
 ·split
  ·exact ⟨_,_,_,_,rfl⟩
  ·exact zwithinV_form _ _ _ _ _
end
section -- HChangeM
open Go Go.RowKit Go.Shelf
def locZ (S:List SetF) (l:List EraF) (i:Int):Loc:=if errZ S l ≠ 0 then .zero else if i < -2199023255552∨2199023255552 < i then .zero else locW (atX S l i) (ruleE S (atX S l i)) i
end
section -- HErr
open Go Go.RowKit Go.Shelf
end
section -- HSpecM
open Go Go.RowKit Go.Shelf
end
section -- HSpecZ
open Go Go.RowKit Go.Shelf
theorem getD_atZ {E:List Int} {j:Nat} (hj:j < E.length):E.getD j 0 = E[j]:=by rw [List.getD_eq_getElem?_getD,List.getElem?_eq_getElem hj];rfl
section
variable {l:List Rul} {A:List Fir}
end
theorem endLoop_save {m:Int}:∀ {xs:List (Int × Fir)} {sv:Int},(-90000 < sv∧sv < 90000)→(∀ x ∈ xs,-90000 < x.2.save∧x.2.save < 90000)→-90000 < endLoop m sv xs∧endLoop m sv xs < 90000
 | [],_,h,_=>h
 | x :: t,sv,h,h2=>by
   unfold endLoop
   split
   ·exact h
   ·exact endLoop_save (h2 x List.mem_cons_self) fun y hy=>h2 y (List.mem_cons_of_mem _ hy)
theorem endSave_few {R:List Rul} {A:List Fir} (h:RightR R A) (off n:Int):-90000 < endSave R off n∧endSave R off n < 90000:=by
 unfold endSave
 refine endLoop_save ?_ fun x hx=>h.save_all (firedF_mem hx)
 cases hl:latestF R off (n - 360000) with
 | none=>exact (by decide:(-90000:Int) < 0∧(0:Int) < 90000)
 | some f=>exact h.save_all (latestF_mem hl)
structure FewZ (S:List SetF) (l:List EraF):Prop where
 err:errZ S l = 0
 few:fewB l S = true
section
variable {S:List SetF} {l:List EraF}
theorem FewZ.right (h:FewZ S l) (x:EraF):∃ A,RightR (ruleE S x) A:=by
 obtain ⟨A,hA,-,-⟩:=right_yes (rule_right (fewB_iff.1 h.few).2.1 x)
 exact ⟨A,hA⟩
theorem FewZ.pos (h:FewZ S l):0 < l.length:=by
 have:=(errZ_zero h.err).1
 omega
theorem FewZ.off (h:FewZ S l) {k:Nat} (hk:k < l.length):-90000 < l[k].n.off∧l[k].n.off < 90000:=(errZ_off h.err hk).1
theorem FewZ.ends (h:FewZ S l):∀ e ∈ endL S l,-2501000000 ≤ e∧e ≤ 4001000000:=by
 intro e he
 obtain ⟨i,hi,rfl⟩:=List.getElem_of_mem he
 have hil:=hi
 rw [length_endL] at hil
 obtain ⟨h0,-,hat,-⟩:=errZ_zero h.err
 have hE:=endL_at (S:=S) (l:=l) (i:=i) (by omega)
 rw [List.getElem?_eq_getElem hi] at hE
 have hE:=Option.some.inj hE
 have her:=hat i (by omega)
 rw [errAt_eq (by omega),decide_eq_false (by omega)] at her
 obtain ⟨-,hof,hsv,hen,-,hno⟩:=errE_zero her
 have hn:=nomV_in (hno hen)
 have hok:=eraFew_end ((fewB_iff.1 h.few).1 l[i] (List.getElem_mem _)) hen
 have hnm:-2500000000 ≤ nomV l[i].n∧nomV l[i].n ≤ 4000000000:=by
  rcases hok.nom_in with g | g
  ·exact g
  ·rw [← hok.nomB_eq hn.2.2,hno hen] at g
   cases g
 obtain ⟨A,hA⟩:=h.right l[i]
 have hsv2:=endSave_few hA l[i].n.off (nomV l[i].n)
 rw [hE]
 unfold endN
 split
 ·omega
 ·split
  ·omega
  ·split <;> omega
theorem FewZ.lt (h:FewZ S l):∀ (d i:Nat),i + d + 1 < (endL S l).length→(endL S l).getD i 0 < (endL S l).getD (i + d + 1) 0
 | 0,i,hj=>riseI_iff.1 (errZ_zero h.err).2.2.2 i hj
 | d + 1,i,hj=>by
   have h1:=h.lt d i (by omega)
   have h2:=riseI_iff.1 (errZ_zero h.err).2.2.2 (i + d + 1) hj
   rw [show i + (d + 1) + 1 = i + d + 1 + 1 by omega]
   omega
theorem FewZ.mono (h:FewZ S l) {i j:Nat} (hij:i < j) (hj:j < (endL S l).length):(endL S l)[i] < (endL S l)[j]:=by
 have:=h.lt (j - i - 1) i (by omega)
 rw [show i + (j - i - 1) + 1 = j by omega,getD_atZ (by omega),getD_atZ hj] at this
 exact this
theorem FewZ.era (h:FewZ S l) {k:Nat} (hk:k < l.length) {i:Int} (h1:fromV (endL S l) k ≤ i) (h2:i < toV (endL S l) k):eraI (endL S l) i = k:=by
 have hle:=length_endL S l
 have hno:∀ j (hj:j < (endL S l).length),j < k→¬ i < (endL S l)[j]:=fun j hj hjk=>by
  unfold fromV at h1
  rw [if_neg (by omega),toV_at (show k - 1 < (endL S l).length by omega)] at h1
  by_cases e:j = k - 1
  ·subst e
   omega
  ·have:=h.mono (show j < k - 1 by omega) (show k - 1 < (endL S l).length by omega)
   omega
 by_cases hj:k < (endL S l).length
 ·rw [toV_at hj] at h2
  exact eraI_at hj hno h2
 ·rw [eraI_none (fun j hj2=>hno j hj2 (by omega))]
  omega
theorem FewZ.loc (h:FewZ S l) {k:Nat} (hk:k < l.length) {i:Int} (h1:fromV (endL S l) k ≤ i) (h2:i < toV (endL S l) k) (h3:-2199023255552 ≤ i) (h4:i ≤ 2199023255552):locZ S l i = locW l[k] (ruleE S l[k]) i:=by
 have hax:atX S l i = l[k]:=by unfold atX;rw [h.era hk h1 h2,List.getD_eq_getElem?_getD,List.getElem?_eq_getElem hk];rfl
 unfold locZ
 rw [if_neg (fun e=>e h.err),if_neg (by omega),hax]
end
end
section -- HPut
open Go Go.RowKit Go.Shelf
end
section -- HRefM
open Go Go.RowKit Go.Shelf
section
variable {S:List SetF} {l:List EraF} {R:List RowF}
theorem FewZ.kind (h:FewZ S l) {k:Nat} (hk:k < l.length):(kindR l[k].fm.data.toList).2 = 0:=by
 have her:=(errZ_zero h.err).2.2.1 k hk
 rw [errAt_eq hk] at her
 exact (errE_zero her).1
theorem FewZ.save (h:FewZ S l) {k:Nat} (hk:k < l.length):-90000 < l[k].n.save∧l[k].n.save < 90000:=(errZ_off h.err hk).2
theorem FewZ.in_ (h:FewZ S l) (i:Int):eraI (endL S l) i < l.length:=by
 have h1:=eraI_le (endL S l) i
 have h2:=length_endL S l
 have h3:=h.pos
 omega
end
end
section -- VMath
open Go Go.RowKit Go.Shelf
def cutU (x:EraF) (s:Int):EraF:=⟨{ x.n with year:=ofYear (s / 86400),month:=ofMon (s / 86400),dk:=0,dw:=0,dn:=ofDay (s / 86400),sec:=s - s / 86400 * 86400,ak:=2 },x.ru,x.fm,x.en⟩
def univX (E:List Int) (l:List EraF) (i:Nat):EraF:=if i < E.length then cutU (l.getD i default) (E.getD i 0) else l.getD i default
def univL (E:List Int) (l:List EraF):List EraF:=(List.range l.length).map (univX E l)
theorem length_univL (E:List Int) (l:List EraF):(univL E l).length = l.length:=by unfold univL;simp
theorem univL_at {E:List Int} {l:List EraF} {i:Nat} (h:i < (univL E l).length):(univL E l)[i] = univX E l i:=by simp [univL]
theorem univX_cut {E:List Int} {l:List EraF} {i:Nat} (h:i < E.length) (hl:i < l.length):univX E l i = cutU l[i] E[i]:=by
 unfold univX
 rw [if_pos h,List.getD_eq_getElem?_getD,List.getD_eq_getElem?_getD,List.getElem?_eq_getElem hl,List.getElem?_eq_getElem h]
 rfl
theorem univX_last {E:List Int} {l:List EraF} {i:Nat} (h:¬ i < E.length) (hl:i < l.length):univX E l i = l[i]:=by
 unfold univX
 rw [if_neg h,List.getD_eq_getElem?_getD,List.getElem?_eq_getElem hl]
 rfl
theorem nom_cutU (x:EraF) {s:Int} (h1:-3000000000000 ≤ s) (h2:s ≤ 3000000000000):nomB (cutU x s).n = true∧nomV (cutU x s).n = s:=by
 obtain ⟨hd,hv⟩:=of_date (n:=s / 86400) (by omega) (by omega)
 have hy:=dateB_in hd
 have hl:=lenV_in (y:=ofYear (s / 86400)) hy.2.2.1 hy.2.2.2.1
 constructor
 ·unfold nomB inOkB inB ymB mayB dayOkB cutU
  simp only [Bool.and_eq_true,Bool.or_eq_true,decide_eq_true_eq]
  exact ⟨⟨⟨⟨⟨.inl ⟨trivial,by omega,by omega,trivial⟩,by omega,by omega,by omega,by omega⟩,by omega⟩,.inl trivial⟩,by omega⟩,by omega,by omega⟩
 ·unfold nomV inDay cutU
  simp only [if_true]
  rw [hv]
  omega
section
variable {S:List SetF} {l:List EraF}
theorem univ_len (h:FewZ S l):(endL S l).length + 1 = l.length:=by
 have:=h.pos
 rw [length_endL]
 omega
theorem univ_same (_:FewZ S l) {i:Nat} (hi:i < l.length):(univX (endL S l) l i).n.off = l[i].n.off∧(univX (endL S l) l i).n.save = l[i].n.save∧(univX (endL S l) l i).ru = l[i].ru∧(univX (endL S l) l i).fm = l[i].fm∧(univX (endL S l) l i).en = l[i].en:=by
 by_cases hE:i < (endL S l).length
 ·rw [univX_cut hE hi]
  exact ⟨rfl,rfl,rfl,rfl,rfl⟩
 ·rw [univX_last hE hi]
  exact ⟨rfl,rfl,rfl,rfl,rfl⟩
theorem univ_ruleE {x y:EraF} (h:x.ru = y.ru):ruleE S x = ruleE S y:=by unfold ruleE;rw [h]
theorem univ_ends (h:FewZ S l):endL S (univL (endL S l) l) = endL S l:=by
 have hlen:=univ_len h
 refine List.ext_getElem (by rw [length_endL,length_univL];omega) fun i h1 h2=>?_
 have h3:i < l.length:=by omega
 have h4:i + 1 < (univL (endL S l) l).length:=by rw [length_univL];omega
 have e1:=endL_at (S:=S) h4
 rw [List.getElem?_eq_getElem h1] at e1
 injection e1 with e1
 rw [e1,univL_at (by omega),univX_cut h2 h3]
 have he:=h.ends _ (List.getElem_mem h2)
 have hn:=(nom_cutU l[i] (s:=(endL S l)[i]) (by omega) (by omega)).2
 unfold endN
 rw [if_pos (show (cutU l[i] (endL S l)[i]).n.ak = 2 from rfl),hn]
theorem univ_err (h:FewZ S l):errZ S (univL (endL S l) l) = 0:=by
 obtain ⟨h0,hmis,hat,hri⟩:=errZ_zero h.err
 have hlen:=univ_len h
 have hl:=length_univL (endL S l) l
 rw [errZ_there (by omega) (fun i hi=>by
  have hi2:i < l.length:=by omega
  have:=hmis i hi2
  have hs:=univ_same h hi2
  rw [univL_at hi]
  unfold missB at this ⊢
  rw [hs.2.2.1]
  exact this),errsF_none fun i hi=>?_,univ_ends h,hri]
 ·rfl
 ·have hi2:i < l.length:=by omega
  have he:=hat i hi2
  rw [errAt_eq hi2] at he
  rw [errAt_eq hi,hl,univL_at hi]
  have hz:=errE_zero he
  have hs:=univ_same h hi2
  by_cases hE:i < (endL S l).length
  ·rw [univX_cut hE hi2] at hs ⊢
   have hends:=h.ends _ (List.getElem_mem hE)
   have hn:=(nom_cutU l[i] (s:=(endL S l)[i]) (by omega) (by omega)).1
   unfold errE at he ⊢
   have hnr:(nomR (cutU l[i] (endL S l)[i]).n).2 = 0:=by unfold nomR;rw [hn];rfl
   have hnr2:l[i].en = true→(nomR l[i].n).2 = 0:=fun e=>by unfold nomR;rw [hz.2.2.2.2.2 e];rfl
   show (if (kindR l[i].fm.data.toList).2 = 0 then (if withinB l[i].n.off && withinB l[i].n.save then (if (decide (l[i].ru.size ≠ 0) && decide (l[i].n.save ≠ 0)) || (l[i].en == decide (i + 1 = l.length)) then 12 else if l[i].en then (nomR (cutU l[i] (endL S l)[i]).n).2 else 0) else 10) else (kindR l[i].fm.data.toList).2) = 0
   rw [hnr]
   rw [if_pos hz.1] at he ⊢
   cases hen:l[i].en with
   | true =>
     rw [hen,hnr2 hen] at he
     simpa using he
   | false =>
     rw [hen] at he
     simpa using he
  ·rw [univX_last hE hi2]
   exact he
theorem univ_at (h:FewZ S l) (i:Int):atZ S (univL (endL S l) l) i = atZ S l i:=by
 have hk:eraI (endL S l) i < l.length:=h.in_ i
 unfold atZ
 rw [univ_err h,h.err]
 simp only [ne_eq,not_true_eq_false,if_false]
 split
 ·rfl
 ·have e1:atX S (univL (endL S l) l) i = univX (endL S l) l (eraI (endL S l) i):=by
   unfold atX
   rw [univ_ends h,List.getD_eq_getElem?_getD,List.getElem?_eq_getElem (by rw [length_univL];exact hk),Option.getD_some,univL_at]
  have e2:atX S l i = l[eraI (endL S l) i]:=by
   unfold atX
   rw [List.getD_eq_getElem?_getD,List.getElem?_eq_getElem hk,Option.getD_some]
  have hs:=univ_same h hk
  rw [e1,e2,univ_ruleE hs.2.2.1,hs.2.2.1,hs.2.2.2.1]
  unfold zwithinV savesV
  rw [hs.1,hs.2.1]
theorem univ_ok (hok:ZOk l S) (E:List Int):ZOk (univL E l) S where
 fm:=fun x hx=>by
  obtain ⟨i,hi,rfl⟩:=List.getElem_of_mem hx
  have hi2:i < l.length:=by rw [length_univL] at hi;exact hi
  rw [univL_at hi]
  have:=hok.fm _ (List.getElem_mem hi2)
  by_cases hE:i < E.length
  ·rw [univX_cut hE hi2];exact this
  ·rw [univX_last hE hi2];exact this
 rul:=hok.rul
 len:=by rw [length_univL];exact hok.len
end
end
section -- VSplit
open Go Go.RowKit Go.Shelf
theorem split_any (s:Int) (w:World) (h1:-3000000000000 ≤ s) (h2:s ≤ 3000000000000) (ha:Ahead w) :
  Calls Tryz.prog 18 #[.int .i64 s] w fun o w'=>o = .returned (.tuple #[dateA (ofYear (s / 86400)) (ofMon (s / 86400)) (ofDay (s / 86400)),.int .i64 (s - s / 86400 * 86400),.int .i64 0])∧Below w.heap.size w w':=by
 have hb0:=(Below.refl w.heap.size w).alloc (Nat.le_refl _) (.cells #[.int .i64 0,.int .i64 0,.int .i64 0] 44)
 have HB:=Lib.hid hb0
 have HR:=Lib.hid (Blk.new w 44 #[.int .i64 0,.int .i64 0,.int .i64 0])
 have HD:=Lib.hid (fun (W:World)=>div_any s 86400 (by decide) (by omega) (by omega) W)
 have hq:-40000000 ≤ s / 86400∧s / 86400 ≤ 40000000∧0 ≤ s - s / 86400 * 86400∧s - s / 86400 * 86400 < 86400:=by omega
 have HO:=Lib.hid (fun (W:World) (h:Below w.heap.size w W)=>of_any (s / 86400) (by omega) (by omega) W (ha.below h (Nat.le_refl _)))
 obtain ⟨n,hn⟩:∃ n,s / 86400 = n:=⟨_,rfl⟩
 rw [hn] at HD HO hq ⊢
 unfold dateA at HO ⊢
 obtain ⟨y,hy⟩:∃ y,ofYear n = y:=⟨_,rfl⟩
 obtain ⟨m,hm⟩:∃ y,ofMon n = y:=⟨_,rfl⟩
 obtain ⟨d,hd⟩:∃ y,ofDay n = y:=⟨_,rfl⟩
 rw [hy,hm,hd] at HO ⊢
 clear hb0 ha hn hy hm hd
 go_enter Tryz.func18,Tryz.ntmps18
 go_wp2_with fail
 refine (HD.out _).mono ?_
 rintro o w1 ⟨rfl,rfl⟩
 go_wp2_with fail
 refine (HO.out _ HB.out).mono ?_
 rintro o w2 ⟨rfl,hb⟩
 have hr:=HR.out.below hb HR.out.lt
 have HB2:=Lib.hid ((HB.out.trans (hb.mono HB.out.size)).alloc (Nat.le_trans HB.out.size hb.size) (.cells #[.int .i64 y,.int .i64 m,.int .i64 d] 44))
 have HR2:=Lib.hid (hr.alloc (.cells #[.int .i64 y,.int .i64 m,.int .i64 d] 44))
 have r0:=hr.cell 0 (v:=.int .i64 0) rfl
 have r1:=hr.cell 1 (v:=.int .i64 0) rfl
 have r2:=hr.cell 2 (v:=.int .i64 0) rfl
 have f0:=hr.frozen 0
 have f1:=hr.frozen 1
 have f2:=hr.frozen 2
 have rl:=hr.lt
 have HRW:=Lib.hid hr
 have HBW:=Lib.hid (HB.out.trans (hb.mono HB.out.size))
 clear hb hr HB HR HD HO
 go_wp2_with fail
 have HY:=Lib.hid ((((HRW.out.set 0 (.int .i64 y)).set 1 (.int .i64 m)).set 2 (.int .i64 d)).alloc (.cells #[.int .i64 y,.int .i64 m,.int .i64 d] 44))
 have c0:=HY.out.cell 0 (v:=.int .i64 y) rfl
 have c1:=HY.out.cell 1 (v:=.int .i64 m) rfl
 have c2:=HY.out.cell 2 (v:=.int .i64 d) rfl
 have hb9:=below_set3 HBW.out (show w.heap.size ≤ w.heap.size from Nat.le_refl _) (.int .i64 y) (.int .i64 m) (.int .i64 d)
 refine bodyPost_ret (v:=.tuple #[.agg #[.int .i64 y,.int .i64 m,.int .i64 d],.int .i64 (s - n * 86400),.int .i64 0]) ?_ rfl ⟨rfl,hb9.alloc hb9.size _⟩
 simp [results,Tryz.f18,go_sem,c0,c1,c2]
end
section -- EnvA
open Go Go.RowKit
section
variable {P:Program} {n:Nat} {ops:Array Oper}
def envAB (ops:Array Oper) (D:List Nat) (al st:Nat):Bool :=
 envSB ops D st && decide (al < ops.size) && decide (al ≠ st) && (match ops[st]? with | some o=>o.after.any fun e=>Region.binds .any e && e.on == al | none=>false)
def EnvAStep (P:Program) (ops:Array Oper) (fin:Value→Act) (w0:World) (t:TypeId) (zs cs:Array Value) (o:Oper) (v:Value):Bool→Bool→Prop
 | true,_=>(∀ p,Region.wanted o (yielded ops (fin p).tmps) = true)∧∀ p w,Below w0.heap.size w0 w→(execOp (fin p).eval o).run P w = .ok (.value (.pointer (some ⟨w.heap.size,0,none⟩))) (w.alloc (.cells zs t))
 | false,true=>(∀ p,Region.wanted o (yielded ops (fin p).tmps) = true)∧∀ b w,Blk w b t zs→∃ w',(execOp (fin (.pointer (some ⟨b,0,none⟩))).eval o).run P w = .ok .skip w'∧Fr (fun k=>k = b) w w'∧Blk w' b t cs
 | false,false=>∀ p,EnvStep P ops (fin p) w0 o v
def EnvASteps (P:Program) (ops:Array Oper) (fin:Value→Act) (w0:World) (t:TypeId) (zs cs:Array Value) (al st:Nat):Nat→List Oper→List Value→Prop
 | k,o :: l,v :: V=>EnvAStep P ops fin w0 t zs cs o v (k == al) (k == st)∧EnvASteps P ops fin w0 t zs cs al st (k + 1) l V
 | _,[],[]=>True
 | _,_,_=>False
theorem envASteps_at {fin:Value→Act} {w0:World} {t:TypeId} {zs cs:Array Value} {al st:Nat}:∀ {l:List Oper} {V:List Value} {k:Nat},EnvASteps P ops fin w0 t zs cs al st k l V→∀ {j:Nat} {o:Oper},l[j]? = some o→EnvAStep P ops fin w0 t zs cs o (V.getD j undef) (k + j == al) (k + j == st)
 | [],_,_,_,_,_,h=>by simp at h
 | _ :: _,[],_,hs,_,_,_=>hs.elim
 | x :: l,v :: V,k,hs,0,o,h=>by
   simp only [List.getElem?_cons_zero,Option.some.injEq] at h
   subst h
   exact hs.1
 | x :: l,v :: V,k,hs,j + 1,o,h=>by
   rw [List.getElem?_cons_succ] at h
   have:=envASteps_at hs.2 h
   rw [show k + 1 + j = k + (j + 1) by omega] at this
   simpa using this
theorem envASteps_len {fin:Value→Act} {w0:World} {t:TypeId} {zs cs:Array Value} {al st:Nat}:∀ {l:List Oper} {V:List Value} {k:Nat},EnvASteps P ops fin w0 t zs cs al st k l V→V.length = l.length
 | [],[],_,_=>rfl
 | [],_ :: _,_,h=>h.elim
 | _ :: _,[],_,h=>h.elim
 | _ :: l,_ :: V,_,h=>by simp [envASteps_len h.2]
theorem getD_setU {V:List Value} {al i:Nat} (p:Value) (h:al < V.length):(V.set al p).getD i undef = if al = i then p else V.getD i undef:=by
 rw [List.getD_eq_getElem?_getD,List.getElem?_set,List.getD_eq_getElem?_getD]
 split
 ·rename_i e
  subst e
  rfl
 ·rfl
def EnvAI (w:World) (D:List Nat) (V:List Value) (t:TypeId) (zs cs:Array Value) (al st:Nat) (L:Nat→Bool) (x:Nat→Value) (w':World):Prop :=
 Below w.heap.size w w'∧∃ p,(∀ i,i < D.length→L i = true→x (D.getD i 0) = (V.set al p).getD i undef)∧(L al = true→∃ b,p = .pointer (some ⟨b,0,none⟩)∧w.heap.size ≤ b∧Blk w' b t (if L st = true then cs else zs))∧(L al = false→L st = false)
theorem wpIn_envA {F:Fence} (hF:Wide F) {id:Nat} {l:List Oper} {Q:Exit→Act→World→Prop} {a:Act} {w:World} (hm:P.follows .mixedOrders = true) (D:List Nat) (V:List Value) (al st:Nat) (t:TypeId) (zs cs:Array Value)
  (hb:envAB l.toArray D al st = true) (hsz:a.tmps.size ≤ D.getD st 0) (hstD:st < D.length) {fin:Value→Act} (hfin:∀ p,putAll a D (V.set al p) = fin p)
  (hstep:EnvASteps P l.toArray fin w t zs cs al st 0 l V) (hend:∀ b w',Below w.heap.size w w'→w.heap.size ≤ b→Blk w' b t cs→Q .normal (fin (.pointer (some ⟨b,0,none⟩))) w'):(Code.region id l.toArray true).wpIn F n P Q a w:=by
 unfold envAB at hb
 simp only [Bool.and_eq_true,decide_eq_true_eq] at hb
 obtain ⟨⟨⟨hb,hal⟩,hne⟩,hedge⟩:=hb
 unfold envSB at hb
 rw [Bool.and_eq_true] at hb
 obtain ⟨hi,hb⟩:=hb
 have hi':=hi
 simp only [invB,Bool.and_eq_true,decide_eq_true_eq] at hi'
 obtain ⟨⟨-,hlen⟩,hnd⟩:=hi'
 have hV:V.length = D.length:=by rw [envASteps_len hstep,hlen];simp
 have halV:al < V.length:=by rw [hV,hlen];exact hal
 have hfinp:∀ p,frameOf a D (valOf D (V.set al p)) = fin p:=fun p=>by
  rw [← hfin]
  exact putAll_eq D _ a _ (by rw [List.length_set];exact hV) fun i hi=>by unfold valOf;rw [idxOf_getD hnd hi]
 refine wpIn_inv hm D (EnvAI w D V t zs cs al st) hi (fun x=>⟨(Below.refl _ _).drew,undef,(fun i _ h=>by cases h),(fun h=>by cases h),fun _=>rfl⟩) ?_ ?_
 ·have main:∀ (i:Nat) (o:Oper),l[i]? = some o→StepI F n P l.toArray a D (EnvAI w D V t zs cs al st) i o:=by
   intro k o hlk L x w1 R hI hsh hLk hr hR
   obtain ⟨hbw,p,hx,hblk,hord⟩:=hI
   have hkl:k < l.length:=(List.getElem?_eq_some_iff.1 hlk).1
   have ho:l.toArray[k]? = some o:=by simpa using hlk
   have hkD:k < D.length:=by rw [hlen];simpa using hkl
   have hst1:=envASteps_at hstep hlk
   rw [Nat.zero_add] at hst1
   have hb1:=List.all_eq_true.1 hb k (List.mem_range.2 (by simpa using hkl))
   rw [ho] at hb1
   simp only [Bool.and_eq_true] at hb1
   obtain ⟨⟨hop,hdst⟩,hlook⟩:=hb1
   have hndf:∀ c,o.op ≠ .defer c:=fun c hc=>by rw [hc] at hop;cases hop
   have hnsl:∀ cs b,o.op ≠ .select cs b:=fun c b hc=>by rw [hc] at hop;cases hop
   have hsame:∀ s,s ∈ o.looksAt l.toArray→(frameOf a D x).tmps[s]? = (fin p).tmps[s]?:=by
    intro s hs
    rw [← hfinp,frameOf_tmps,frameOf_tmps]
    by_cases hD:s ∈ D
    ·have:=List.all_eq_true.1 hlook s hs
     rw [Bool.or_eq_true] at this
     rcases this with h | h
     ·simp [hD] at h
     ·obtain ⟨j,hj,hj2⟩:=List.any_eq_true.1 h
      rw [Bool.and_eq_true] at hj2
      obtain ⟨hjs,hje⟩:=hj2
      have hjs:D.getD j 0 = s:=by simpa using hjs
      have hjk:=List.mem_range.1 hj
      have h1:=hx j (by omega) (hr j hje)
      rw [hjs] at h1
      have h2:x s = valOf D (V.set al p) s:=by
       have e:D.idxOf s = j:=by rw [← hjs];exact idxOf_getD hnd (by omega)
       unfold valOf
       rw [e]
       exact h1
      rw [h2]
    ·simp [hD]
   have hev:∀ y ∈ o.op.operands,(frameOf a D x).eval y = (fin p).eval y:=by
    intro y hy
    cases y with
    | tmp s =>
      have h1:=hsame s (List.mem_append_left _ (List.mem_filterMap.2 ⟨.tmp s,by simpa using hy,rfl⟩))
      show (frameOf a D x).tmps.getD s undef = (fin p).tmps.getD s undef
      simp only [Array.getD_eq_getD_getElem?,h1]
    | _=>rfl
   have hex:=execOp_congr (ρ:=(frameOf a D x).eval) (ρ':=(fin p).eval) o hnsl hev
   have hwa:Region.wanted o (yielded l.toArray (frameOf a D x).tmps) = Region.wanted o (yielded l.toArray (fin p).tmps):=by
    unfold Region.wanted
    cases hg:o.guard with
    | none=>rfl
    | some g =>
      obtain ⟨g,b⟩:=g
      dsimp only
      unfold yielded
      cases hd:(l.toArray[g]?).bind (·.dst) with
      | none=>rfl
      | some d =>
        have h1:=hsame d (List.mem_append_right _ (by rw [hg];show d ∈ ((l.toArray[g]?).bind (·.dst)).toList;rw [hd];simp))
        simp only [Option.bind_some,h1]
   have hmem:D.getD k 0 ∈ D:=by rw [List.getD_eq_getElem?_getD,List.getElem?_eq_getElem hkD];exact List.getElem_mem hkD
   have hslot:∀ i,i < D.length→i ≠ k→D.getD i 0 ≠ D.getD k 0:=fun i hiD hik e=>by
    rw [List.getD_eq_getElem?_getD,List.getD_eq_getElem?_getD,List.getElem?_eq_getElem hiD,List.getElem?_eq_getElem hkD] at e
    simp only [Option.getD_some] at e
    have hpw:=List.pairwise_iff_getElem.1 hnd
    rcases Nat.lt_or_ge i k with h | h
    ·exact hpw i k hiD hkD h e
    ·exact hpw k i hkD hiD (by omega) e.symm
   have hmore:∀ i,i ≠ k→more L k i = L i:=fun i hik=>by unfold more;rw [decide_eq_false hik];rfl
   have hmk:more L k k = true:=by unfold more;simp
   unfold wpListIn
   rw [hwa]
   by_cases hka:k = al
   ·subst hka
    rw [beq_self_eq_true] at hst1
    obtain ⟨h1,h2⟩:=hst1
    rw [if_pos (h1 p)]
    refine ⟨fun f _=>hF.fn f,?_⟩
    rw [Oper.semAt_plain F _ o hndf,hex,h2 p w1 hbw,Oper.uponIn_value]
    rw [if_neg hne] at hdst
    have hdst:o.dst = some (D.getD k 0):=by simpa using hdst
    rw [hdst,frameOf_put D x a _ hmem]
    have hLs:L st = false:=hord hLk
    refine hR _ _ ⟨hbw.alloc hbw.size _,.pointer (some ⟨w1.heap.size,0,none⟩),fun i hiD hm=>?_,fun _=>⟨_,rfl,hbw.size,?_⟩,fun h=>?_⟩
    ·rw [getD_setU _ halV]
     by_cases hik:i = k
     ·subst hik;rw [upd_same,if_pos rfl]
     ·rw [hmore i hik] at hm
      have h3:=hx i hiD hm
      rw [getD_setU _ halV,if_neg (fun e=>hik e.symm)] at h3
      rw [upd_other x _ (hslot i hiD hik),if_neg (fun e=>hik e.symm),h3]
    ·rw [hmore st (fun e=>hne e.symm),hLs,if_neg (by decide)]
     exact Blk.new w1 t zs
    ·rw [hmk] at h;cases h
   ·rw [show (k == al) = false by simpa using hka] at hst1
    have hma:more L k al = L al:=hmore al (fun e=>hka e.symm)
    by_cases hks:k = st
    ·subst hks
     rw [beq_self_eq_true] at hst1
     obtain ⟨h1,h2⟩:=hst1
     have hLa:L al = true:=by
      rw [ho] at hedge
      exact hr al hedge
     obtain ⟨b,rfl,hbb,hB⟩:=hblk hLa
     rw [hLk,if_neg (by decide)] at hB
     rw [if_pos (h1 _)]
     refine ⟨fun f _=>hF.fn f,?_⟩
     obtain ⟨w',hrun,hfr,hB'⟩:=h2 b w1 hB
     rw [Oper.semAt_plain F _ o hndf,hex,hrun]
     rw [if_pos rfl] at hdst
     have hdn:o.dst = none:=by simpa using hdst
     rw [Oper.uponIn_skip,hdn]
     have e:(frameOf a D x).put none undef = frameOf a D (upd x (D.getD k 0) (V.getD k undef)):=by
      show frameOf a D x = _
      have h1:(frameOf a D x).tmps = (frameOf a D (upd x (D.getD k 0) (V.getD k undef))).tmps:=by
       apply Array.ext_getElem?
       intro s
       rw [frameOf_tmps,frameOf_tmps]
       by_cases hs:s < a.tmps.size
       ·rw [upd_other x _ (show s ≠ D.getD k 0 by omega)]
       ·simp [hs]
      have h2:(frameOf a D x).defers = (frameOf a D (upd x (D.getD k 0) (V.getD k undef))).defers:=by rw [frameOf_defers,frameOf_defers]
      generalize frameOf a D x = p1 at h1 h2
      generalize frameOf a D (upd x (D.getD k 0) (V.getD k undef)) = q1 at h1 h2
      cases p1
      cases q1
      simp only at h1 h2
      subst h1 h2
      rfl
     rw [e]
     refine hR _ _ ⟨hbw.trans (hfr.below hbw.size (fun j hj e=>by omega)),.pointer (some ⟨b,0,none⟩),fun i hiD hm=>?_,fun _=>⟨b,rfl,hbb,?_⟩,fun h=>?_⟩
     ·by_cases hik:i = k
      ·subst hik;rw [upd_same,getD_setU _ halV,if_neg (fun e=>hka e.symm)]
      ·rw [hmore i hik] at hm
       rw [upd_other x _ (hslot i hiD hik)]
       exact hx i hiD hm
     ·rw [hmk,if_pos rfl];exact hB'
     ·rw [hma,hLa] at h;cases h
    ·rw [show (k == st) = false by simpa using hks] at hst1
     have hms:more L k st = L st:=hmore st (fun e=>hks e.symm)
     rw [if_neg hks] at hdst
     have hdst:o.dst = some (D.getD k 0):=by simpa using hdst
     have hput:∀ v,(frameOf a D x).put o.dst v = frameOf a D (upd x (D.getD k 0) v):=fun v=>by
      rw [hdst]
      exact frameOf_put D x a _ hmem v
     have hvk:(V.set al p).getD k undef = V.getD k undef:=by rw [getD_setU _ halV,if_neg (fun e=>hka e.symm)]
     have hnew:∀ w',Below w1.heap.size w1 w'→EnvAI w D V t zs cs al st (more L k) (upd x (D.getD k 0) (V.getD k undef)) w':=fun w' hb'=>by
      refine ⟨hbw.trans (hb'.mono hbw.size),p,fun i hiD hm=>?_,fun h=>?_,fun h=>?_⟩
      ·by_cases hik:i = k
       ·subst hik;rw [upd_same,hvk]
       ·rw [hmore i hik] at hm
        rw [upd_other x _ (hslot i hiD hik)]
        exact hx i hiD hm
      ·rw [hma] at h
       obtain ⟨b,hp,hbb,hB⟩:=hblk h
       refine ⟨b,hp,hbb,?_⟩
       rw [hms]
       exact hB.below hb' hB.lt
      ·rw [hma] at h;rw [hms];exact hord h
     rcases hst1 p with ⟨h1,h2⟩ | ⟨h1,h2⟩
     ·rw [if_neg (by rw [h1];simp)]
      refine ⟨fun f _=>hF.fn f,?_⟩
      rw [hput,← h2]
      exact hR _ _ (hnew w1 (Below.refl _ _))
     ·rw [if_pos h1]
      refine ⟨fun f _=>hF.fn f,?_⟩
      rw [Oper.semAt_plain F _ o hndf,hex]
      have h3:=h2 w1 hbw
      generalize (execOp (fin p).eval o).run P w1 = r at h3
      cases r with
      | halt hh w'=>exact h3.elim
      | ok nx w' =>
        cases nx with
        | value u =>
          obtain ⟨rfl,hb'⟩:=h3
          rw [Oper.uponIn_value,hput]
          exact hR _ _ (hnew w' hb')
        | enter f args =>
          obtain ⟨rfl,hc⟩:=h3
          rw [Oper.uponIn_enter]
          refine ⟨(fun h=>by rw [hF.depth] at h;cases h),(hF.calls hc).mono ?_⟩
          rintro e w'' ⟨rfl,hb'⟩
          show wpListIn F n P l.toArray _ [] ((frameOf a D x).put o.dst (V.getD k undef)) w''
          rw [hput]
          exact hR _ _ (hnew w'' hb')
        | _=>exact h3.elim
  have all:∀ (m:List Oper) (k:Nat),(∀ j,m[j]? = l[k + j]?)→StepsI F n P l.toArray a D (EnvAI w D V t zs cs al st) k m:=by
   intro m
   induction m with
   | nil=>intro k _;trivial
   | cons o m ih =>
     intro k hk
     exact ⟨main k o (by simpa using (hk 0).symm),ih (k + 1) fun j=>by have:=hk (j + 1);simpa [Nat.add_assoc,Nat.add_comm 1 j] using this⟩
  exact all l 0 fun j=>by simp
 ·rintro x w' L hL ⟨h1,p,h2,h3,-⟩
  obtain ⟨b,rfl,hbb,hB⟩:=h3 (hL al (by simpa using hal))
  rw [hL st (by omega),if_pos rfl] at hB
  have e:frameOf a D x = fin (.pointer (some ⟨b,0,none⟩)):=by
   rw [← hfinp]
   refine frameOf_congr D _ _ a fun s hs=>?_
   obtain ⟨j,hj,rfl⟩:=List.getElem_of_mem hs
   have h4:=h2 j hj (hL j (by omega))
   rw [List.getD_eq_getElem?_getD,List.getElem?_eq_getElem hj] at h4
   have h4:x D[j] = (V.set al (.pointer (some ⟨b,0,none⟩))).getD j undef:=h4
   unfold valOf
   rw [List.Nodup.idxOf_getElem hnd j hj]
   exact h4
  rw [e]
  exact hend b w' h1 hbb hB
theorem wp_envA {id:Nat} {l:List Oper} {Q:Exit→Act→World→Prop} {a:Act} {w:World} (hm:P.follows .mixedOrders = true) (D:List Nat) (V:List Value) (al st:Nat) (t:TypeId) (zs cs:Array Value)
  (hb:envAB l.toArray D al st = true) (hsz:a.tmps.size ≤ D.getD st 0) (hstD:st < D.length) {fin:Value→Act} (hfin:∀ p,putAll a D (V.set al p) = fin p)
  (hstep:EnvASteps P l.toArray fin w t zs cs al st 0 l V) (hend:∀ b w',Below w.heap.size w w'→w.heap.size ≤ b→Blk w' b t cs→Q .normal (fin (.pointer (some ⟨b,0,none⟩))) w'):(Code.region id l.toArray true).wp P Q a w :=
 (wpIn_wide (n:=8)).1 (wpIn_envA wide0 hm D V al st t zs cs hb hsz hstD hfin hstep hend)
end
end
section -- HRat
open Go Go.RowKit Go.Shelf
end
section -- HSame
open Go Go.RowKit Go.Shelf
def SameB (B2:Nat) (Wb W:World):Prop:=B2 ≤ Wb.heap.size∧∀ k,k < B2→W.heap[k]? = Wb.heap[k]?
section
variable {B2:Nat} {Wb W W':World}
theorem SameB.size (h:SameB B2 Wb W):B2 ≤ W.heap.size:=by
 rcases Nat.eq_zero_or_pos B2 with h0 | h0
 ·omega
 ·have h1:=h.2 (B2 - 1) (by omega)
  rw [Array.getElem?_eq_getElem (show B2 - 1 < Wb.heap.size by have:=h.1;omega)] at h1
  have:=(Array.getElem?_eq_some_iff.1 h1).1
  omega
theorem SameB.cell (h:SameB B2 Wb W) {p:Addr} (hp:p.block < B2):W.cell? p = Wb.cell? p:=World.cell?_of_block (h.2 p.block hp)
end
end
section -- HTurns
open Go Go.RowKit Go.Shelf
attribute [local go_sem] Oper.semAt_some
section
variable {eb lb:Nat} {v:Value} {yb nb lp s0:Nat} {x:EraF} {R:List Rul} {now0:Chg} {O0:Nat→Prop} {J Jx:List Chg→(Nat→Prop)→World→Prop}
end
end
section -- EnvY
open Go Go.RowKit
section
variable {P:Program} {n:Nat} {ops:Array Oper}
end
end
section -- HSteps
open Go Go.RowKit Go.Shelf
attribute [local go_sem] Oper.semAt_some
section
variable {sb fb tb yb lp s0:Nat} {sv:Value} {fr to:Int} {O0:Nat→Prop} {J Jx:List Chg→(Nat→Prop)→World→Prop} {L:List Chg} {α:Type}
end
end
section -- HChanges
open Go Go.RowKit Go.Shelf
attribute [local go_sem] Oper.semAt_some
section
variable {yb nb lp s0:Nat} {now0:Loc} {O0:Nat→Prop} {J Jx:List Chg→(Nat→Prop)→World→Prop}
end
end
section -- HMake
open Go Go.RowKit Go.Shelf
attribute [local go_sem] Oper.semAt_some
end
section -- HRch
open Go Go.RowKit Go.Shelf
section
variable {S:List SetF} {l:List EraF} {R:List RowF}
end
end
section -- HAll
open Go Go.RowKit Go.Shelf
end
section -- TSteps
open Go Go.RowKit Go.Shelf
attribute [local go_sem] Oper.semAt_some
end
section -- TChanges
open Go Go.RowKit Go.Shelf
attribute [local go_sem] Oper.semAt_some
end
section -- TMake
open Go Go.RowKit Go.Shelf
end
section -- TRise
open Go Go.RowKit
open Go Go.RowKit
end
section -- TSame
open Go Go.RowKit
end
section -- TAwake
open Go Go.RowKit Go.Shelf
end
section -- HLawM
open Go Go.RowKit Go.Shelf
end
section -- HRight
open Go Go.RowKit Go.Shelf
theorem few_okR {l:List EraF} {S:List SetF} (h:fewB l S = true):ZOk l S where
 fm:=fun x hx=>by have:=eraFew_fm ((fewB_iff.1 h).1 x hx);omega
 rul:=fun s hs=>right_ok ((fewB_iff.1 h).2.1 s hs)
 len:=by have:=(fewB_iff.1 h).2.2.1;omega
end
end Go.Proofs.YteekjfgjmccdnaaGreatDoor
