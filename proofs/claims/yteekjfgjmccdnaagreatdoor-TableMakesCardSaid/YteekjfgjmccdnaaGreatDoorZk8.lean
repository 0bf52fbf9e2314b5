/-
  Layer 13's Ends and Era of any zone, walked.
-/
import Derived.ProofKit
import Derived.OpenShut
import Derived.ShutString
import Derived.ChangeOld
import Derived.Below
import Derived.Deep.Slices
import Derived.Deep.Strs
import Derived.ChangeSame
import Derived.Lib.SmallJoins
import Derived.Test.YteekjfgjmccdnaaGreatDoorZk7
set_option maxHeartbeats 16000000
set_option maxRecDepth 100000
namespace Go.Proofs.YteekjfgjmccdnaaGreatDoor
section -- AEndW
open Go Go.RowKit Go.Shelf
theorem nomV_in {e:EraN} (h:nomB e = true):-3300000000000 ≤ nomV e∧nomV e ≤ 3300000000000∧0 ≤ e.ak∧e.ak ≤ 2:=by
 unfold nomB inOkB inB ymB mayB at h
 simp only [Bool.and_eq_true,decide_eq_true_eq] at h
 obtain ⟨⟨⟨⟨⟨h1,h2⟩,h3⟩,-⟩,h5⟩,h6⟩:=h
 obtain ⟨d1,-,d3⟩:=inDay_in (y:=e.year) h1 h2.2.2.1 h2.2.2.2 h3
 have e1:=yearV_mono h2.1
 have e2:=yearV_mono (show e.year + 1 ≤ 100001 by omega)
 have e3:yearV (-100000) = -37243778:=by decide
 have e4:yearV 100001 = 35805088:=by decide
 unfold nomV
 omega
def endN (e:EraN) (ru:ByteArray) (l:List Rul):Int :=
 if e.ak = 2 then nomV e else if e.ak = 1 then nomV e - e.off else if ru.size = 0 then nomV e - e.off - e.save else nomV e - e.off - endSave l e.off (nomV e)
def endV (e:EraN) (ru:ByteArray) (en:Bool) (l:List Rul):Int × Int:=if en then (if nomB e then (endN e ru l,0) else (0,10)) else (0,16)
theorem endLoop_in {m:Int}:∀ {xs:List (Int × Fir)} {sv:Int},(-1000000000000000 ≤ sv∧sv ≤ 1000000000000000)→(∀ x ∈ xs,-1000000000000000 ≤ x.2.save∧x.2.save ≤ 1000000000000000)→-1000000000000000 ≤ endLoop m sv xs∧endLoop m sv xs ≤ 1000000000000000
 | [],sv,h,_=>h
 | x :: t,sv,h,hx=>by
   unfold endLoop
   split
   ·exact h
   ·exact endLoop_in (hx x (by simp)) (fun y hy=>hx y (by simp [hy]))
theorem endSave_in {l:List Rul} (hs:svOk l) (off n:Int):-1000000000000000 ≤ endSave l off n∧endSave l off n ≤ 1000000000000000:=by
 unfold endSave
 refine endLoop_in ?_ (fun x hx=>hs _ (firedF_mem hx))
 cases ho:latestF l off (n - 360000) with
 | none=>exact ⟨by decide,by decide⟩
 | some x=>exact hs x (latestF_mem ho)
theorem zend_any (w:World) (e:EraN) (ru f:ByteArray) (en:Bool) (B:Nat) (v:Value) (l:List Rul) (hrw:RW w B v l) (hok:RuOk l) (ho:-1000000000000000 ≤ e.off∧e.off ≤ 1000000000000000) (hsv:-1000000000000000 ≤ e.save∧e.save ≤ 1000000000000000) :
  Calls Tryz.prog 44 #[eraA e ru f en,v] w fun o w'=>o = .returned (.tuple #[.int .i64 (endV e ru en l).1,.int .i64 (endV e ru en l).2])∧Below w.heap.size w w':=by
 have hb0:Below w.heap.size w (w.alloc (.cells (eraC e ru f en) 42)):=(Below.refl w.heap.size w).alloc (Nat.le_refl _) _
 have hx0:=Blk.new w 42 (eraC e ru f en)
 have HRW:=Lib.hid (hrw.below hb0)
 have HN:=Lib.hid (nominal_any _ e (hrw.below hb0).ahead)
 have HX:=Lib.hid hx0
 have HB:=Lib.hid hb0
 clear hrw hx0 hb0
 cases en with
 | false =>
   unfold eraA
   unfold eraC at HB
   have HV:=Lib.hid (show endV e ru false l = (0,16) from rfl)
   go_enter Tryz.func44,Tryz.ntmps44
   go_wp2_with fail
   go_ret2
   exact ⟨by rw [HV.out];rfl,HB.out⟩
 | true =>
   cases hnb:nomB e with
   | false =>
     have HV:=Lib.hid (show endV e ru true l = (0,10) by unfold endV;rw [hnb];rfl)
     have hnr:nomR e = (0,10):=by unfold nomR;rw [hnb];rfl
     rw [hnr] at HN
     unfold eraA
     unfold untilA at HN
     unfold eraC at HB HN HX HRW
     clear hnb hnr
     go_enter Tryz.func44,Tryz.ntmps44
     go_wp2_with fail
     refine HN.out.mono ?_
     rintro o w1 ⟨rfl,hb⟩
     have hx1:=HX.out.below hb HX.out.lt
     have HX1:=Lib.hid hx1
     have HB1:=Lib.hid (HB.out.trans (hb.mono HB.out.size))
     have HR1:=Lib.hid (HRW.out.below hb)
     have hl1:=hx1.lt
     have e0:=hx1.cell 0 (v:=.int .i64 e.off) rfl
     have e1:=hx1.cell 1 (v:=.string ru) rfl
     have e2:=hx1.cell 2 (v:=.int .i64 e.save) rfl
     have e11:=hx1.cell 11 (v:=.int .i64 e.ak) rfl
     clear hb hx1 HX HB HRW HN
     go_wp2_with fail
     go_ret2
     exact ⟨by rw [HV.out];rfl,HB1.out⟩
   | true =>
     have HV:=Lib.hid (show endV e ru true l = (endN e ru l,0) by unfold endV;rw [hnb];rfl)
     have hnr:nomR e = (nomV e,0):=by unfold nomR;rw [hnb];rfl
     rw [hnr] at HN
     obtain ⟨n1,n2,k1,k2⟩:=nomV_in hnb
     have HNB:=Lib.hid hnb
     clear hnb hnr
     by_cases hk2:e.ak = 2
     ·have HE:=Lib.hid (show endN e ru l = nomV e by unfold endN;rw [if_pos hk2])
      have d1:(e.ak == 2) = true:=by simpa using hk2
      clear hk2
      generalize nomV e = n at *
      unfold eraA
      unfold untilA at HN
      unfold eraC at HB HN HX HRW
      go_enter Tryz.func44,Tryz.ntmps44
      go_wp2_with fail
      refine HN.out.mono ?_
      rintro o w1 ⟨rfl,hb⟩
      have hx1:=HX.out.below hb HX.out.lt
      have HX1:=Lib.hid hx1
      have HB1:=Lib.hid (HB.out.trans (hb.mono HB.out.size))
      have HR1:=Lib.hid (HRW.out.below hb)
      have hl1:=hx1.lt
      have e0:=hx1.cell 0 (v:=.int .i64 e.off) rfl
      have e1:=hx1.cell 1 (v:=.string ru) rfl
      have e2:=hx1.cell 2 (v:=.int .i64 e.save) rfl
      have e11:=hx1.cell 11 (v:=.int .i64 e.ak) rfl
      clear hb hx1 HX HB HRW HN
      go_wp2_with fail
      go_ret2
      exact ⟨by rw [HV.out,HE.out];rfl,HB1.out⟩
     ·have d1:(e.ak == 2) = false:=by simpa using hk2
      by_cases hk1:e.ak = 1
      ·have HE:=Lib.hid (show endN e ru l = nomV e - e.off by unfold endN;rw [if_neg hk2,if_pos hk1])
       have d2:(e.ak == 1) = true:=by simpa using hk1
       clear hk2 hk1
       generalize nomV e = n at *
       unfold eraA
       unfold untilA at HN
       unfold eraC at HB HN HX HRW
       go_enter Tryz.func44,Tryz.ntmps44
       go_wp2_with fail
       refine HN.out.mono ?_
       rintro o w1 ⟨rfl,hb⟩
       have hx1:=HX.out.below hb HX.out.lt
       have HX1:=Lib.hid hx1
       have HB1:=Lib.hid (HB.out.trans (hb.mono HB.out.size))
       have HR1:=Lib.hid (HRW.out.below hb)
       have hl1:=hx1.lt
       have e0:=hx1.cell 0 (v:=.int .i64 e.off) rfl
       have e1:=hx1.cell 1 (v:=.string ru) rfl
       have e2:=hx1.cell 2 (v:=.int .i64 e.save) rfl
       have e11:=hx1.cell 11 (v:=.int .i64 e.ak) rfl
       clear hb hx1 HX HB HRW HN
       go_wp2_with fail
       go_ret2
       exact ⟨by rw [HV.out,HE.out];rfl,HB1.out⟩
      ·have d2:(e.ak == 1) = false:=by simpa using hk1
       by_cases hru:ru.size = 0
       ·have HE:=Lib.hid (show endN e ru l = nomV e - e.off - e.save by unfold endN;rw [if_neg hk2,if_neg hk1,if_pos hru])
        have hem:(ru.toList == []) = true:=by rw [emp_size,decide_eq_true hru]
        clear hk2 hk1 hru
        generalize nomV e = n at *
        unfold eraA
        unfold untilA at HN
        unfold eraC at HB HN HX HRW
        go_enter Tryz.func44,Tryz.ntmps44
        go_wp2_with fail
        refine HN.out.mono ?_
        rintro o w1 ⟨rfl,hb⟩
        have hx1:=HX.out.below hb HX.out.lt
        have HX1:=Lib.hid hx1
        have HB1:=Lib.hid (HB.out.trans (hb.mono HB.out.size))
        have HR1:=Lib.hid (HRW.out.below hb)
        have hl1:=hx1.lt
        have e0:=hx1.cell 0 (v:=.int .i64 e.off) rfl
        have e1:=hx1.cell 1 (v:=.string ru) rfl
        have e2:=hx1.cell 2 (v:=.int .i64 e.save) rfl
        have e11:=hx1.cell 11 (v:=.int .i64 e.ak) rfl
        clear hb hx1 HX HB HRW HN
        go_wp2_with fail
        go_ret2
        exact ⟨by rw [HV.out,HE.out];rfl,HB1.out⟩
       ·have HE:=Lib.hid (show endN e ru l = nomV e - e.off - endSave l e.off (nomV e) by unfold endN;rw [if_neg hk2,if_neg hk1,if_neg hru])
        have hem:(ru.toList == []) = false:=by rw [emp_size,decide_eq_false hru]
        have hes:=endSave_in hok.sv e.off (nomV e)
        have HA:=Lib.hid (fun (W:World) (h:RW W B v l)=>zahead_any W e ru f true B v l h hok (nomV e) ho (by omega))
        obtain ⟨es,hes2⟩:∃ x,endSave l e.off (nomV e) = x:=⟨_,rfl⟩
        rw [hes2] at HE hes HA
        clear hk2 hk1 hru hes2
        generalize nomV e = n at *
        unfold eraA at HA ⊢
        unfold untilA at HN
        unfold eraC at HB HN HX HRW
        go_enter Tryz.func44,Tryz.ntmps44
        go_wp2_with fail
        refine HN.out.mono ?_
        rintro o w1 ⟨rfl,hb⟩
        have hx1:=HX.out.below hb HX.out.lt
        have HX1:=Lib.hid hx1
        have HB1:=Lib.hid (HB.out.trans (hb.mono HB.out.size))
        have HR1:=Lib.hid (HRW.out.below hb)
        have hl1:=hx1.lt
        have e0:=hx1.cell 0 (v:=.int .i64 e.off) rfl
        have e1:=hx1.cell 1 (v:=.string ru) rfl
        have e2:=hx1.cell 2 (v:=.int .i64 e.save) rfl
        have e11:=hx1.cell 11 (v:=.int .i64 e.ak) rfl
        clear hb hx1 HX HB HRW HN
        go_wp2_with fail
        have HC:=Lib.hid (fun (W:World) (h:Below w1.heap.size w1 W)=>And.intro (HX1.out.below h HX1.out.lt) (HR1.out.below h))
        refine wp_env (fin:=?fna) (by kernel_rfl) [43,44,45,46,47,48,49,50,51,4,5]
         [.int .i64 n,.pointer (some ⟨w.heap.size,0,none⟩),.int .i64 e.off,.int .i64 (n - e.off),.agg #[.int .i64 e.off,.string ru,.int .i64 e.save,.string f,.bool true,.int .i64 e.year,.int .i64 e.month,.int .i64 e.dk,.int .i64 e.dw,.int .i64 e.dn,.int .i64 e.sec,.int .i64 e.ak],v,.int .i64 n,.int .i64 es,.int .i64 (n - e.off - es),.int .i64 (n - e.off - es),.int .i64 0] (by kernel_rfl) ?fina ?stepsa ?nexta
        case fina =>
         simp only [putAll,Act.put,List.setIfInBounds_toArray,List.set_cons_succ,List.set_cons_zero]
         rfl
        case stepsa =>
         refine ⟨?_,?_,?_,?_,?_,?_,?_,?_,?_,?_,?_,trivial⟩
         all_goals refine .inr ⟨by kernel_rfl,fun w1_ hB_=>?_⟩
         all_goals
          obtain ⟨hc,hr⟩:=HC.out w1_ hB_
          have c0:=hc.cell 0 (v:=.int .i64 e.off) rfl
          have c1:=hc.cell 1 (v:=.string ru) rfl
          have c2:=hc.cell 2 (v:=.int .i64 e.save) rfl
          have c3:=hc.cell 3 (v:=.string f) rfl
          have c4:=hc.cell 4 (v:=.bool true) rfl
          have c5:=hc.cell 5 (v:=.int .i64 e.year) rfl
          have c6:=hc.cell 6 (v:=.int .i64 e.month) rfl
          have c7:=hc.cell 7 (v:=.int .i64 e.dk) rfl
          have c8:=hc.cell 8 (v:=.int .i64 e.dw) rfl
          have c9:=hc.cell 9 (v:=.int .i64 e.dn) rfl
          have c10:=hc.cell 10 (v:=.int .i64 e.sec) rfl
          have c11:=hc.cell 11 (v:=.int .i64 e.ak) rfl
          go_simp
          first
           | exact ⟨rfl,Below.refl _ _⟩
           | exact ⟨rfl,HA.out w1_ hr⟩
           | ((first | rw [decide_eq_true (by omega)] | rw [decide_eq_false (by omega)] | rw [if_pos (by omega)] | rw [IntWalk.i64_in _ (by omega)]);exact ⟨rfl,Below.refl _ _⟩)
           | done
        case nexta =>
        intro w2 hb2
        have HB2:=Lib.hid (HB1.out.trans (hb2.mono HB1.out.size))
        clear hb2
        go_wp2_with fail
        go_ret2
        exact ⟨by rw [HV.out,HE.out];rfl,HB2.out⟩
end
section -- Open
open Go Go.ChangeShapes Go.WideShapes Go.ChangeAt Go.RowKit
theorem wf_i64 {a:Int} (h:(Lit.int .i64 a).wf = true):-9223372036854775808 ≤ a∧a ≤ 9223372036854775807:=by
 simpa [Lit.wf,IntKind.min,IntKind.max,IntKind.signed,IntKind.bits] using h
theorem open_int2 {H:Type} {enc:TypeId × Value→H} {P:Program} {W:World} {T E:TypeId} {r:Reach} {base:Nat} {v:Value} {d:DataW H} {p:List MemPlace} (hT:P.underlying T = some (.array 2 E)) (hE:P.underlying E = some (.int .i64)) (hC:P.cellsOf E = 1) (hCT:P.cellsOf T = 2)
  (hok:Value.okWide P W r base T v) (h:DataW.Trod enc P W 0 (fun _=>true) true T v d p) :
  ∃ a b:Int,v = .agg #[.int .i64 a,.int .i64 b]∧(-9223372036854775808 ≤ a∧a ≤ 9223372036854775807)∧(-9223372036854775808 ≤ b∧b ≤ 9223372036854775807):=by
 simp only [Value.okWide,hT] at hok
 obtain ⟨cs,rfl,hsz,_⟩:=hok
 obtain ⟨fuel,hf⟩:=h
 obtain ⟨xs,m,_,_,_,hl,hel⟩:=DataW.trod_array hT hf
 rw [hCT] at hsz
 obtain ⟨l⟩:=cs
 match l,hsz with
 | [c0,c1],_ =>
   match xs,hl with
   | [x0,x1],_ =>
     have h0:=hel 0 (by omega)
     have h1:=hel 1 (by omega)
     simp [hC,Value.cells] at h0 h1
     obtain ⟨a,e0,_,w0⟩:=DataW.trod_int hE h0
     obtain ⟨b,e1,_,w1⟩:=DataW.trod_int hE h1
     simp at e0 e1
     subst e0 e1
     exact ⟨a,b,rfl,wf_i64 w0,wf_i64 w1⟩
end
section -- OpenS
open Go Go.ChangeShapes Go.WideShapes Go.ChangeAt Go.RowKit Go.Deep
section
variable {H:Type} {enc:TypeId × Value→H} {P:Program} {W:World}
theorem flat_len {α:Type} (f:α→List Value) (C:Nat) (l:List α) (h:∀ a ∈ l,(f a).length = C):(l.flatMap f).length = l.length * C:=by
 induction l with
 | nil=>simp
 | cons a l ih =>
   rw [List.flatMap_cons,List.length_append,h a (by simp),ih (fun b hb=>h b (by simp [hb])),List.length_cons,Nat.add_mul]
   omega
theorem flat_at {α:Type} (f:α→List Value) (C:Nat) (l:List α) (h:∀ a ∈ l,(f a).length = C) (i k:Nat) (hi:i < l.length) (hk:k < C):(l.flatMap f)[i * C + k]? = (f l[i])[k]?:=by
 induction l generalizing i with
 | nil=>exact absurd hi (by simp)
 | cons a l ih =>
   have ha:=h a (by simp)
   rw [List.flatMap_cons]
   rcases i with _ | i
   ·rw [Nat.zero_mul,Nat.zero_add,List.getElem?_append_left (by omega)]
    rfl
   ·rw [List.getElem?_append_right (by rw [ha,Nat.add_mul];omega),ha,show (i + 1) * C + k - C = i * C + k by rw [Nat.add_mul];omega,ih (fun b hb=>h b (by simp [hb])) i (by simpa using hi)]
    rfl
end
end
section -- AWorld
open Go Go.RowKit Go.Shelf
structure EraF where
 n:EraN
 ru:ByteArray
 fm:ByteArray
 en:Bool
instance:Inhabited EraF:=⟨⟨⟨0,0,0,0,0,0,0,0,0⟩,⟨#[]⟩,⟨#[]⟩,false⟩⟩
def EraF.cells (x:EraF):List Value:=(eraC x.n x.ru x.fm x.en).toList
def EraF.val (x:EraF):Value:=eraA x.n x.ru x.fm x.en
structure SetF where
 name:ByteArray
 v:Value
 l:List Rul
instance:Inhabited SetF:=⟨⟨⟨#[]⟩,.slice none 0 0,[]⟩⟩
def SetF.cells (x:SetF):List Value:=[.string x.name,x.v]
def ErasR (w:World) (B:Nat) (v:Value) (l:List EraF):Prop:=Sl w B 12 v l.length (l.flatMap EraF.cells)
def SetsR (w:World) (B:Nat) (v:Value) (S:List SetF):Prop:=Sl w B 2 v S.length (S.flatMap SetF.cells)∧∀ s ∈ S,Ruls w B s.v s.l
section
variable {w w':World} {B:Nat} {v:Value} {l:List EraF} {S:List SetF}
theorem ErasR.below (h:ErasR w B v l) (hb:Below B w w'):ErasR w' B v l:=Sl.below h hb
theorem SetsR.below (h:SetsR w B v S) (hb:Below B w w'):SetsR w' B v S:=⟨Sl.below h.1 hb,fun s hs=>(h.2 s hs).below hb⟩
theorem ErasR.form (h:ErasR w B v l):∃ A c,v = .slice A l.length c∧l.length ≤ c∧c ≤ maxLen:=by obtain ⟨A,c,e,h1,h2,_⟩:=h;exact ⟨A,c,e,h1,h2⟩
theorem SetsR.form (h:SetsR w B v S):∃ A c,v = .slice A S.length c∧S.length ≤ c∧c ≤ maxLen:=by obtain ⟨A,c,e,h1,h2,_⟩:=h.1;exact ⟨A,c,e,h1,h2⟩
def EraCc (W:World) (b o:Nat) (x:EraF):Prop:=W.cell? ⟨b,o,none⟩ = some (.int .i64 x.n.off)∧W.cell? ⟨b,o + 1,none⟩ = some (.string x.ru)∧W.cell? ⟨b,o + 2,none⟩ = some (.int .i64 x.n.save)∧W.cell? ⟨b,o + 3,none⟩ = some (.string x.fm)∧W.cell? ⟨b,o + 4,none⟩ = some (.bool x.en) ∧
 W.cell? ⟨b,o + 5,none⟩ = some (.int .i64 x.n.year)∧W.cell? ⟨b,o + 6,none⟩ = some (.int .i64 x.n.month)∧W.cell? ⟨b,o + 7,none⟩ = some (.int .i64 x.n.dk)∧W.cell? ⟨b,o + 8,none⟩ = some (.int .i64 x.n.dw)∧W.cell? ⟨b,o + 9,none⟩ = some (.int .i64 x.n.dn)∧W.cell? ⟨b,o + 10,none⟩ = some (.int .i64 x.n.sec)∧W.cell? ⟨b,o + 11,none⟩ = some (.int .i64 x.n.ak)
theorem ErasR.cells (h:ErasR w B v l) (hl:0 < l.length):∃ b o c,v = .slice (some ⟨b,o,none⟩) l.length c∧b < B∧∀ i (hi:i < l.length),EraCc w b (o + i * 12) l[i]:=by
 obtain ⟨b,o,c,e,hb,hc⟩:=Sl.at_ h hl
 refine ⟨b,o,c,e,hb,fun i hi=>?_⟩
 have hk:∀ k u,k < 12→(EraF.cells l[i])[k]? = some u→w.cell? ⟨b,o + i * 12 + k,none⟩ = some u:=fun k u hk hu=>by
  rw [Nat.add_assoc]
  exact hc _ u (by rw [flat_at EraF.cells 12 l (fun a _=>rfl) i k hi hk];exact hu)
 exact ⟨hk 0 _ (by omega) rfl,hk 1 _ (by omega) rfl,hk 2 _ (by omega) rfl,hk 3 _ (by omega) rfl,hk 4 _ (by omega) rfl,hk 5 _ (by omega) rfl,hk 6 _ (by omega) rfl,hk 7 _ (by omega) rfl,hk 8 _ (by omega) rfl,hk 9 _ (by omega) rfl,hk 10 _ (by omega) rfl,hk 11 _ (by omega) rfl⟩
theorem SetsR.cells (h:SetsR w B v S) (hl:0 < S.length):∃ b o c,v = .slice (some ⟨b,o,none⟩) S.length c∧b < B∧∀ i (hi:i < S.length),w.cell? ⟨b,o + i * 2,none⟩ = some (.string S[i].name)∧w.cell? ⟨b,o + i * 2 + 1,none⟩ = some S[i].v:=by
 obtain ⟨b,o,c,e,hb,hc⟩:=Sl.at_ h.1 hl
 refine ⟨b,o,c,e,hb,fun i hi=>?_⟩
 have hk:∀ k u,k < 2→(SetF.cells S[i])[k]? = some u→w.cell? ⟨b,o + i * 2 + k,none⟩ = some u:=fun k u hk hu=>by
  rw [Nat.add_assoc]
  exact hc _ u (by rw [flat_at SetF.cells 2 S (fun a _=>rfl) i k hi hk];exact hu)
 exact ⟨hk 0 _ (by omega) rfl,hk 1 _ (by omega) rfl⟩
end
def ofS (S:List SetF) (name:ByteArray):Option SetF:=S.find? fun s=>s.name.toList == name.toList
def ofVal (S:List SetF) (name:ByteArray):Value:=match ofS S name with | some s=>s.v | none=>.slice none 0 0
def ofRul (S:List SetF) (name:ByteArray):List Rul:=match ofS S name with | some s=>s.l | none=>[]
theorem SetsR.of_ruls {w:World} {B:Nat} {v:Value} {S:List SetF} (h:SetsR w B v S) (name:ByteArray):Ruls w B (ofVal S name) (ofRul S name):=by
 unfold ofVal ofRul
 cases hs:ofS S name with
 | none=>exact Sl.nil _ _ _
 | some s=>exact h.2 s (List.mem_of_find?_eq_some hs)
theorem ofVal_form {w:World} {B:Nat} {v:Value} {S:List SetF} (h:SetsR w B v S) (name:ByteArray):∃ A c,ofVal S name = .slice A (ofRul S name).length c:=by
 obtain ⟨A,c,e,_⟩:=(h.of_ruls name).form
 exact ⟨A,c,e⟩
theorem ofS_drop {S:List SetF} {name:ByteArray} {k:Nat} (hk:k < S.length) (hno:∀ i (h:i < S.length),i < k→(S[i].name.toList == name.toList) = false) (hy:(S[k].name.toList == name.toList) = true):ofS S name = some S[k]:=by
 unfold ofS
 rw [List.find?_eq_some_iff_getElem]
 exact ⟨hy,k,hk,rfl,fun j hj=>by rw [hno j (by omega) hj];rfl⟩
theorem ofS_none {S:List SetF} {name:ByteArray} (hno:∀ i (h:i < S.length),(S[i].name.toList == name.toList) = false):ofS S name = none:=by
 unfold ofS
 rw [List.find?_eq_none]
 intro x hx
 obtain ⟨i,hi,rfl⟩:=List.getElem_of_mem hx
 rw [hno i hi]
 decide
def worldA (zn:ByteArray) (ev sv:Value):Value:=.agg #[.string zn,ev,sv]
theorem wof_any (w:World) (zn:ByteArray) (ev sv:Value) (B:Nat) (S:List SetF) (hs:SetsR w B sv S) (hB:B ≤ w.heap.size) (name:ByteArray) :
  Calls Tryz.prog 15 #[worldA zn ev sv,.string name] w fun o w'=>o = .returned (ofVal S name)∧Below w.heap.size w w':=by
 have hb0:Below w.heap.size w (w.alloc (.cells #[.string zn,ev,sv] 27)):=(Below.refl w.heap.size w).alloc (Nat.le_refl _) _
 have HX:=Lib.hid (Blk.new w 27 #[.string zn,ev,sv])
 have HS:=Lib.hid (hs.below (hb0.mono hB))
 have HB:=Lib.hid hb0
 obtain ⟨A,c,rfl,hlc,hcm⟩:=hs.form
 unfold maxLen at hcm
 unfold worldA
 clear hs hb0
 obtain ⟨W0,hW0⟩:∃ W,w.alloc (.cells #[.string zn,ev,.slice A S.length c] 27) = W:=⟨_,rfl⟩
 go_enter Tryz.func15,Tryz.ntmps15
 go_wp2_with fail
 rw [hW0] at HX HS HB
 try simp only [hW0]
 have hxl:=HX.out.lt
 clear hW0
 have x2:=HX.out.cell 2 (v:=.slice A S.length c) rfl
 go_loopw [5] (fun iv wr=>∃ k:Nat,k ≤ S.length∧iv = .int .i64 k∧wr = W0∧∀ i (h:i < S.length),i < k→(S[i].name.toList == name.toList) = false) (fun iv _=>S.length - (intOf iv).toNat)
 case atStart=>exact ⟨0,Nat.zero_le _,rfl,rfl,fun i _ h=>absurd h (by omega)⟩
 case round =>
  obtain ⟨k,hk,rfl,rfl,hno⟩:=hrel
  have HNO:=Lib.hid hno
  clear hno
  by_cases hlt:k < S.length
  ·have hd:decide ((k:Int) < (S.length:Int)) = true:=decide_eq_true (by omega)
   obtain ⟨bb,o1,c',e,hbb,hc⟩:=HS.out.cells (by omega)
   cases e
   obtain ⟨c0,c1⟩:=hc k hlt
   have HD:=Lib.hid (fun h=>ofS_drop (name:=name) hlt HNO.out h)
   obtain ⟨s,hsk⟩:∃ s,S[k] = s:=⟨_,rfl⟩
   have HSK:=Lib.hid hsk
   rw [hsk] at c0 c1 HD
   clear hc hsk
   cases hq:(s.name.toList == name.toList) with
   | true =>
     have HV:=Lib.hid (show ofVal S name = s.v by unfold ofVal;rw [HD.out hq])
     clear HD
     go_wp2_with fail
     go_ret
     exact ⟨by rw [HV.out];rfl,HB.out⟩
   | false =>
     have HQ:=Lib.hid hq
     go_wp2_with fail
     go_roundw
     case rel =>
      refine ⟨k + 1,by omega,by go_num,by trivial,fun i h hik=>?_⟩
      rcases Nat.lt_or_ge i k with g | g
      ·exact HNO.out i h g
      ·obtain rfl:i = k:=by omega
       rw [HSK.out];exact HQ.out
     case measure=>simp [intOf];omega
  ·have hd:decide ((k:Int) < (S.length:Int)) = false:=decide_eq_false (by omega)
   have HV:=Lib.hid (show ofVal S name = .slice none 0 0 by unfold ofVal;rw [ofS_none (fun i h=>HNO.out i h (by omega))])
   go_wp2_with fail
   go_ret
   exact ⟨by rw [HV.out];rfl,HB.out⟩
end
section -- ARefW
open Go Go.RowKit Go.Shelf
theorem fris_other {W W':World} {B X:Nat} {v:Value} {D:List FrI} {t:TypeId} {cs:Array Value} {A:Option Addr} {n c:Nat} {s:ByteArray} (h:Fris W B v D) (hx:Blk W X t cs) (h0:cs = #[.slice A n c,.string s]) (hB:B = W.heap.size) (hf:Fr (fun k=>k = X) W W') (hs:W'.heap.size = W.heap.size):Fris W' W'.heap.size v D:=by
 subst h0
 obtain ⟨A2,c2,e,h1,h2,h3,h4⟩:=h
 refine ⟨A2,c2,e,h1,h2,h3,fun hp=>?_⟩
 obtain ⟨b,o,rfl,hb,hc⟩:=h4 hp
 have hbX:b ≠ X:=fun e2=>by
  subst e2
  cases D with
  | nil=>exact absurd hp (by simp)
  | cons x D =>
    have hc0:=hc 0 (.int .i64 x.f.nominal) rfl
    rw [Nat.add_zero] at hc0
    have hcell:W.cell? ⟨b,o,none⟩ = (#[Value.slice A n c,.string s])[o]?:=by
     simp [World.cell?,show W.heap[b]? = _ from hx]
    rw [hcell] at hc0
    rcases o with _ | _ | o
    ·simp at hc0
    ·simp at hc0
    ·simp at hc0
 exact ⟨b,o,rfl,by omega,fun j u hu=>(hf.cell (by show b < _;omega) hbX).trans (hc j u hu)⟩
theorem rof_any (w:World) (B:Nat) (v:Value) (l:List Rul) (hv:Ruls w B v l) (hB:B ≤ w.heap.size) (hs:smallB l = true) :
  Calls Tryz.prog 104 #[v] w fun e w'=>∃ u D,e = .returned (.agg #[u,.string (letV l)])∧Stab Fir.nominal (genL l 1890 2110) (D.map FrI.f)∧FrisN w' u D∧Below w.heap.size w w':=by
 obtain ⟨A,c,rfl,-,-⟩:=hv.form
 have hb0:Below w.heap.size w (w.alloc (.cells #[.slice none 0 0,.string ⟨#[]⟩] 121)):=(Below.refl w.heap.size w).alloc (Nat.le_refl _) _
 have HX:=Lib.hid (Blk.new w 121 #[.slice none 0 0,.string ⟨#[]⟩])
 have HA:=Lib.hid (rall_any _ B _ l 1890 2110 (hv.below (hb0.mono hB)) (Nat.le_trans hB hb0.size) hs (by omega) (by omega))
 have HL:=Lib.hid (fun (W:World) (hb:Below w.heap.size w W)=>rletter_any W B _ l (hv.below (hb.mono hB)) (Nat.le_trans hB hb.size) (by have:=(small_all hs).2;omega) (fun z hz=>small_mo ((small_all hs).1 z hz)))
 have HB:=Lib.hid hb0
 clear hv hb0
 go_enter Tryz.func104,Tryz.ntmps104
 go_wp2_with fail
 refine HA.out.mono ?_
 rintro e w1 ⟨u,D,rfl,hst,-,⟨hfr,hfn⟩,hb⟩
 have HFN:=Lib.hid hfn
 have HX1:=Lib.hid (HX.out.below hb HX.out.lt)
 have HB1:=Lib.hid (HB.out.trans (hb.mono HB.out.size))
 have HST:=Lib.hid hst
 have HFR:=Lib.hid hfr
 clear hb hst hfr hfn HX HB HA
 go_wp2_with fail
 refine (HL.out _ HB1.out).mono ?_
 rintro e w2 ⟨rfl,hb⟩
 have hx2:=HX1.out.below hb HX1.out.lt
 have HX2:=Lib.hid hx2
 have HB2:=Lib.hid (HB1.out.trans (hb.mono HB1.out.size))
 have HF2:=Lib.hid (Sl.more (Sl.below HFR.out hb) hb.size)
 have HFN2:=Lib.hid (HFN.out.below hb)
 have hl2:=hx2.lt
 have r0:=hx2.cell 0 (v:=.slice none 0 0) rfl
 have r1:=hx2.cell 1 (v:=.string ⟨#[]⟩) rfl
 have f0:=hx2.frozen 0
 have f1:=hx2.frozen 1
 clear hb hx2 HFR HX1 HB1
 obtain ⟨A2,c2,rfl,-,-⟩:=(show Fris w2 w2.heap.size u D from HF2.out).form
 go_wp2_with fail
 have HY:=Lib.hid ((HX2.out.set 0 (.slice A2 D.length c2)).set 1 (.string (letV l)))
 have v0:=HY.out.cell 0 (v:=.slice A2 D.length c2) rfl
 have v1:=HY.out.cell 1 (v:=.string (letV l)) rfl
 refine bodyPost_ret (v:=.agg #[.slice A2 D.length c2,.string (letV l)]) ?_ rfl ⟨_,D,rfl,HST.out,?_,(HB2.out.setCell (by simp) _).setCell (by simp) _⟩
 ·simp [results,Tryz.f104,go_sem,v0,v1]
 ·exact ⟨fris_other HF2.out HX2.out (by rfl) (by rfl) ((Fr.setCell (T:=fun k=>k = w.heap.size) w2 0 _ rfl).then (Fr.setCell _ 1 _ rfl)) (by simp),HFN2.out.kept fun b cs fr h1=>((Fr.setCell (T:=fun k=>k = w.heap.size) w2 0 _ rfl).then (Fr.setCell _ 1 _ rfl)).block b (Array.getElem?_eq_some_iff.1 h1).1 (fun e=>by have h2:=HX2.out;subst e;unfold Blk at h2;rw [h1] at h2;injection h2 with h2;injection h2 with _ h2;revert h2;decide)⟩
def rsavesV (e:EraN) (ru:ByteArray) (A:List Fir) (letter:ByteArray) (k:Nat):Int × ByteArray :=
 if ru.size = 0 then (e.save,⟨#[]⟩) else match prevO A k with
  | some f=>(f.save,f.letter)
  | none=>(0,letter)
theorem prevO_next {A:List Fir} {k i:Nat} (hi:i < A.length) (hik:i < k):prevO A (min (i + 1) k) = some A[i]:=by
 rw [show min (i + 1) k = i + 1 by omega]
 exact prevO_succ hi
def pairO (o:Option Fir) (letter:ByteArray):Int × ByteArray:=match o with | some f=>(f.save,f.letter) | none=>(0,letter)
theorem rwithin_any (w:World) (e:EraN) (ru f:ByteArray) (en:Bool) (B:Nat) (u:Value) (D:List FrI) (letter:ByteArray) (hu:Fris w B u D) (hB:B ≤ w.heap.size) (hl:D.length ≤ 100000) (hr:∀ x ∈ D,(-1000000000000000 ≤ x.f.nominal∧x.f.nominal ≤ 1000000000000000)∧-1000000000000000 ≤ x.f.save∧x.f.save ≤ 1000000000000000)
  (i:Int) (k:Nat) (hk:ru.size ≠ 0→Cut (D.map FrI.f) (instA (D.map FrI.f) e.off) (i + 1) k) (hs:f.size < 4294967281) (ho:-1000000000000000 ≤ e.off∧e.off ≤ 1000000000000000)
  (hsum:(-1000000000000000 ≤ (rsavesV e ru (D.map FrI.f) letter k).1∧(rsavesV e ru (D.map FrI.f) letter k).1 ≤ 1000000000000000)∧(rsavesV e ru (D.map FrI.f) letter k).2.size ≤ 140737488351232) :
  Calls Tryz.prog 75 #[eraA e ru f en,.agg #[u,.string letter],.int .i64 i] w fun o w'=>o = .returned (.tuple #[.agg #[.int .i64 (e.off + (rsavesV e ru (D.map FrI.f) letter k).1),.bool (dstB (rsavesV e ru (D.map FrI.f) letter k).1),.string (showV f (e.off + (rsavesV e ru (D.map FrI.f) letter k).1) (dstB (rsavesV e ru (D.map FrI.f) letter k).1) (rsavesV e ru (D.map FrI.f) letter k).2).1],.bool (decide ((showV f (e.off + (rsavesV e ru (D.map FrI.f) letter k).1) (dstB (rsavesV e ru (D.map FrI.f) letter k).1) (rsavesV e ru (D.map FrI.f) letter k).2).2 = 0))])∧Below w.heap.size w w':=by
 obtain ⟨A,c,rfl,hlc,hcm⟩:=hu.form
 unfold maxLen at hcm
 have hb0:Below w.heap.size w (((w.alloc (.cells (eraC e ru f en) 42)).alloc (.cells #[.slice A D.length c,.string letter] 121)).alloc (.cells #[.int .i64 0,.bool false,.string ⟨#[]⟩] 48)):=(((Below.refl w.heap.size w).alloc (Nat.le_refl _) _).alloc (by simp) _).alloc (by simp;omega) _
 have hx0:=((Blk.new w 42 (eraC e ru f en)).alloc (.cells #[.slice A D.length c,.string letter] 121)).alloc (.cells #[.int .i64 0,.bool false,.string ⟨#[]⟩] 48)
 have hy0:=(Blk.new (w.alloc (.cells (eraC e ru f en) 42)) 121 #[.slice A D.length c,.string letter]).alloc (.cells #[.int .i64 0,.bool false,.string ⟨#[]⟩] 48)
 have hr0:=Blk.new ((w.alloc (.cells (eraC e ru f en) 42)).alloc (.cells #[.slice A D.length c,.string letter] 121)) 48 #[.int .i64 0,.bool false,.string ⟨#[]⟩]
 simp only [World.size_alloc] at hy0 hr0
 have HU:=Lib.hid (hu.below (hb0.mono hB))
 have HX:=Lib.hid hx0
 have HY:=Lib.hid hy0
 have HR:=Lib.hid hr0
 have HB:=Lib.hid hb0
 have HRG:=Lib.hid hr
 clear hb0 hx0 hy0 hr0 hu hr
 unfold eraA
 unfold eraC at HX HY HR HB HU
 obtain ⟨⟨sv,lt⟩,hsl⟩:∃ x,rsavesV e ru (D.map FrI.f) letter k = x:=⟨_,rfl⟩
 rw [hsl] at hsum ⊢
 simp only at hsum ⊢
 obtain ⟨⟨hsv1,hsv2⟩,hlt⟩:=hsum
 have HSH:=Lib.hid (fun W=>rshow_any f (e.off + sv) (dstB sv) lt W hs hlt)
 obtain ⟨⟨s,err⟩,hse⟩:∃ x,showV f (e.off + sv) (dstB sv) lt = x:=⟨_,rfl⟩
 rw [hse] at HSH ⊢
 simp only at HSH ⊢
 obtain ⟨ok,hok⟩:∃ x,decide (err = 0) = x:=⟨_,rfl⟩
 rw [hok] at HSH ⊢
 unfold dstB at *
 clear hse hok
 by_cases hru:ru.size = 0
 ·have hem:(ru.toList == []) = true:=by rw [emp_size,decide_eq_true hru]
  have hq:sv = e.save∧lt = ⟨#[]⟩:=by
   unfold rsavesV at hsl
   rw [if_pos hru] at hsl
   injection hsl with h1 h2
   exact ⟨h1.symm,h2.symm⟩
  obtain ⟨rfl,rfl⟩:=hq
  clear hsl hru hk
  go_enter Tryz.func75,Tryz.ntmps75
  go_wp2_with fail
  refine (HSH.out _).mono ?_
  rintro o2 w5 ⟨rfl,hb⟩
  have hx5:=HX.out.below hb HX.out.lt
  have HR5:=Lib.hid (HR.out.below hb HR.out.lt)
  have HB5:=Lib.hid (HB.out.trans (hb.mono HB.out.size))
  have hx5l:=hx5.lt
  have hr5l:=HR5.out.lt
  have e0:=hx5.cell 0 (v:=.int .i64 e.off) rfl
  have r0:=HR5.out.cell 0 (v:=.int .i64 0) rfl
  have r1:=HR5.out.cell 1 (v:=.bool false) rfl
  have r2:=HR5.out.cell 2 (v:=.string ⟨#[]⟩) rfl
  have f0:=HR5.out.frozen 0
  have f1:=HR5.out.frozen 1
  have f2:=HR5.out.frozen 2
  clear hb hx5
  go_wp2_with fail
  have HZ:=Lib.hid (((HR5.out.set 0 (.int .i64 (e.off + e.save))).set 1 (.bool (e.save != 0))).set 2 (.string s))
  have c0:=HZ.out.cell 0 (v:=.int .i64 (e.off + e.save)) rfl
  have c1:=HZ.out.cell 1 (v:=.bool (e.save != 0)) rfl
  have c2:=HZ.out.cell 2 (v:=.string s) rfl
  refine bodyPost_ret (v:=.tuple #[.agg #[.int .i64 (e.off + e.save),.bool (e.save != 0),.string s],.bool ok]) ?_ rfl ⟨rfl,below_set3 HB5.out (by omega) _ _ _⟩
  simp [results,Tryz.f75,go_sem,c0,c1,c2]
 ·have hem:(ru.toList == []) = false:=by rw [emp_size,decide_eq_false hru]
  have HCUT:=Lib.hid (hk hru)
  have HSL:=Lib.hid (show (sv,lt) = pairO (prevO (D.map FrI.f) k) letter by rw [← hsl];unfold rsavesV pairO;rw [if_neg hru])
  have hkl:k ≤ D.length:=by have:=(hk hru).1;rwa [List.length_map] at this
  clear hsl hru hk
  go_enter Tryz.func75,Tryz.ntmps75
  go_wp2_with fail
  obtain ⟨W0,hW0⟩:∃ W,(((w.alloc (.cells #[.int .i64 e.off,.string ru,.int .i64 e.save,.string f,.bool en,.int .i64 e.year,.int .i64 e.month,.int .i64 e.dk,.int .i64 e.dw,.int .i64 e.dn,.int .i64 e.sec,.int .i64 e.ak] 42)).alloc (.cells #[.slice A D.length c,.string letter] 121)).alloc (.cells #[.int .i64 0,.bool false,.string ⟨#[]⟩] 48)) = W:=⟨_,rfl⟩
  rw [hW0] at HX HY HR HB HU
  try simp only [hW0]
  clear hW0
  go_loopw [8,9,10] (fun sv9 lt9 iv wr=>∃ j:Nat,j ≤ D.length∧iv = .int .i64 j∧sv9 = .int .i64 (pairO (prevO (D.map FrI.f) (min j k)) letter).1∧lt9 = .string (pairO (prevO (D.map FrI.f) (min j k)) letter).2∧Below W0.heap.size W0 wr) (fun _ _ iv _=>D.length - (intOf iv).toNat)
  case atStart=>exact ⟨0,Nat.zero_le _,rfl,by rw [Nat.zero_min];rfl,by rw [Nat.zero_min];rfl,Below.refl _ _⟩
  case round =>
   obtain ⟨j,hj,rfl,rfl,rfl,hbw⟩:=hrel
   have HBI:=Lib.hid hbw
   have HXW:=Lib.hid (HX.out.below hbw HX.out.lt)
   have HYW:=Lib.hid (HY.out.below hbw HY.out.lt)
   have HRW:=Lib.hid (HR.out.below hbw HR.out.lt)
   have HBW:=Lib.hid (HB.out.trans (hbw.mono HB.out.size))
   have HUW:=Lib.hid (HU.out.below (hbw.mono (Nat.le_trans hB HB.out.size)))
   have hws:=HBW.out.size
   have e0:=HXW.out.cell 0 (v:=.int .i64 e.off) rfl
   have e3:=HXW.out.cell 3 (v:=.string f) rfl
   have y0:=HYW.out.cell 0 (v:=.slice A D.length c) rfl
   have hxl:=HXW.out.lt
   have hyl:=HYW.out.lt
   clear hbw
   obtain ⟨p,hp⟩:∃ p,pairO (prevO (D.map FrI.f) (min j k)) letter = p:=⟨_,rfl⟩
   rw [hp]
   have HP:=Lib.hid hp
   by_cases hlt2:j < D.length
   ·have hd:decide ((j:Int) < (D.length:Int)) = true:=decide_eq_true (by omega)
    have HIN:=Lib.hid (rinst_any wr B _ D HUW.out (Nat.le_trans hB hws) hl HRG.out j hlt2 e.off ho)
    have hcm2:=HCUT.out.2 j (by rw [List.length_map];exact hlt2)
    obtain ⟨ins,hins⟩:∃ x,instA (D.map FrI.f) e.off j = x:=⟨_,rfl⟩
    rw [hins] at HIN hcm2
    obtain ⟨bb,o,c',e9,hbb,hc⟩:=HUW.out.cells (by omega)
    cases e9
    obtain ⟨-,-,c2,-,c4⟩:=hc j hlt2
    obtain ⟨x,hx⟩:∃ x,D[j] = x:=⟨_,rfl⟩
    rw [hx] at c2 c4
    have HDX:=Lib.hid (show (D.map FrI.f)[j]'(by rw [List.length_map];exact hlt2) = x.f by rw [List.getElem_map,hx])
    clear hins hc hx hp
    by_cases hle:ins ≤ i
    ·have hd2:decide (ins ≤ i) = true:=decide_eq_true hle
     have HNX:=Lib.hid (show pairO (prevO (D.map FrI.f) (min (j + 1) k)) letter = (x.f.save,x.f.letter) by
      rw [prevO_next (by rw [List.length_map];exact hlt2) (by omega),HDX.out];rfl)
     go_wp2_with fail
     refine HIN.out.mono ?_
     rintro o2 w2 ⟨rfl,hb⟩
     have hx2:=HXW.out.below hb hxl
     have hy2:=HYW.out.below hb hyl
     have y0:=hy2.cell 0 (v:=.slice (some ⟨bb,o,none⟩) D.length c) rfl
     have d2:=(hb.cell (p:=⟨bb,o + j * 5 + 2,none⟩) (by show bb < _;omega)).trans c2
     have d4:=(hb.cell (p:=⟨bb,o + j * 5 + 4,none⟩) (by show bb < _;omega)).trans c4
     have HB2:=Lib.hid (HBI.out.trans (hb.mono HBI.out.size))
     have hyl2:=hy2.lt
     have hbl2:bb < w2.heap.size:=by have:=hb.size;omega
     clear hb hx2 hy2 HIN c2 c4
     go_wp2_with fail
     go_roundw
     case rel=>exact ⟨j + 1,by omega,by go_num,by rw [HNX.out],by rw [HNX.out],HB2.out⟩
     case measure=>simp [intOf];omega
    ·have hd2:decide (ins ≤ i) = false:=decide_eq_false hle
     have HNX:=Lib.hid (show pairO (prevO (D.map FrI.f) (min (j + 1) k)) letter = p by
      rw [← HP.out,show min (j + 1) k = min j k by omega])
     go_wp2_with fail
     refine HIN.out.mono ?_
     rintro o2 w2 ⟨rfl,hb⟩
     have HB2:=Lib.hid (HBI.out.trans (hb.mono HBI.out.size))
     clear hb HIN
     go_wp2_with fail
     go_roundw
     case rel=>exact ⟨j + 1,by omega,by go_num,by rw [HNX.out],by rw [HNX.out],HB2.out⟩
     case measure=>simp [intOf];omega
   ·obtain rfl:j = D.length:=by omega
    have hd:decide ((D.length:Int) < (D.length:Int)) = false:=decide_eq_false (by omega)
    obtain ⟨rfl,rfl⟩:sv = p.1∧lt = p.2:=by
     have h:=HSL.out
     rw [show min D.length k = k by omega] at hp
     rw [hp] at h
     rw [← h]
     exact ⟨rfl,rfl⟩
    obtain ⟨sv,lt⟩:=p
    clear hp HP HSL
    go_wp2_with fail
    refine (HSH.out _).mono ?_
    rintro o2 w5 ⟨rfl,hb⟩
    have hx5:=HXW.out.below hb HXW.out.lt
    have HR5:=Lib.hid (HRW.out.below hb HRW.out.lt)
    have HB5:=Lib.hid (HBW.out.trans (hb.mono HBW.out.size))
    have hx5l:=hx5.lt
    have hr5l:=HR5.out.lt
    have e0:=hx5.cell 0 (v:=.int .i64 e.off) rfl
    have r0:=HR5.out.cell 0 (v:=.int .i64 0) rfl
    have r1:=HR5.out.cell 1 (v:=.bool false) rfl
    have r2:=HR5.out.cell 2 (v:=.string ⟨#[]⟩) rfl
    have f0:=HR5.out.frozen 0
    have f1:=HR5.out.frozen 1
    have f2:=HR5.out.frozen 2
    clear hb hx5
    go_wp2_with fail
    have HZ:=Lib.hid (((HR5.out.set 0 (.int .i64 (e.off + sv))).set 1 (.bool (sv != 0))).set 2 (.string s))
    have c0:=HZ.out.cell 0 (v:=.int .i64 (e.off + sv)) rfl
    have c1:=HZ.out.cell 1 (v:=.bool (sv != 0)) rfl
    have c2:=HZ.out.cell 2 (v:=.string s) rfl
    refine bodyPost_ret (v:=.tuple #[.agg #[.int .i64 (e.off + sv),.bool (sv != 0),.string s],.bool ok]) ?_ rfl ⟨rfl,below_set3 HB5.out (by omega) _ _ _⟩
    simp [results,Tryz.f75,go_sem,c0,c1,c2]
end
section -- ARefN
open Go Go.RowKit Go.Shelf
def EndOk (e:EraN):Prop:=(1900 ≤ e.year∧e.year ≤ 2090)∧(1 ≤ e.month∧e.month ≤ 12)∧(-172800 ≤ e.sec∧e.sec ≤ 259200)∧dayOkB e.dk e.dw e.dn = true
def rnomB (e:EraN):Bool:=decide (e.dn ≤ lenV e.year e.month)
def rnomV (e:EraN):Int:=if rnomB e then nomV e else e.sec
theorem EndOk.day_in {e:EraN} (h:EndOk e) (hb:rnomB e = true):-26000 ≤ inDay e.dk e.dw e.dn e.year e.month∧inDay e.dk e.dw e.dn e.year e.month ≤ 45000:=by
 obtain ⟨⟨y1,y2⟩,⟨m1,m2⟩,-,hd⟩:=h
 obtain ⟨d1,-,d3⟩:=inDay_in (y:=e.year) hd m1 m2 (of_decide_eq_true hb)
 have e1:=yearV_mono y1
 have e2:=yearV_mono (show e.year + 1 ≤ 2091 by omega)
 have e3:yearV 1900 = -25567:=by decide
 have e4:yearV 2091 = 44195:=by decide
 omega
theorem EndOk.nom_in {e:EraN} (h:EndOk e):(-2500000000 ≤ nomV e∧nomV e ≤ 4000000000)∨rnomB e = false:=by
 cases hb:rnomB e with
 | false=>exact .inr rfl
 | true =>
   have:=h.day_in hb
   have:=h.2.2.1
   left
   unfold nomV
   omega
theorem EndOk.rnom_in {e:EraN} (h:EndOk e):-2500000000 ≤ rnomV e∧rnomV e ≤ 4000000000:=by
 unfold rnomV
 have:=h.2.2.1
 split
 ·rename_i hb
  rcases h.nom_in with h2 | h2
  ·exact h2
  ·rw [h2] at hb;exact absurd hb (by decide)
 ·omega
theorem EndOk.nomB_eq {e:EraN} (h:EndOk e) (hk:0 ≤ e.ak∧e.ak ≤ 2):nomB e = rnomB e:=by
 have ⟨⟨y1,y2⟩,⟨m1,m2⟩,⟨s1,s2⟩,hd⟩:=h
 unfold nomB inOkB inB ymB mayB
 rw [hd,decide_eq_true (p:=0 ≤ e.ak∧e.ak ≤ 2) hk,decide_eq_true (p:=-604800 < e.sec∧e.sec < 604800) ⟨by omega,by omega⟩,decide_eq_true (p:=-100000 ≤ e.year∧e.year ≤ 100000∧1 ≤ e.month∧e.month ≤ 12) ⟨by omega,by omega,m1,m2⟩]
 show (decide _ && _ && true && true) = rnomB e
 cases hb:rnomB e with
 | false =>
   unfold rnomB at hb
   rw [hb]
   rfl
 | true =>
   have hday:=h.day_in hb
   have hof:ofInB (inDay e.dk e.dw e.dn e.year e.month) = true:=by unfold ofInB;rw [decide_eq_true_eq];omega
   unfold rnomB at hb
   rw [hb,hof,Bool.or_true]
   rfl
theorem rnominal_any (w:World) (e:EraN) (h:EndOk e) :
  Calls Tryz.prog 105 #[untilA e] w fun o w'=>o = .returned (.tuple #[.int .i64 (rnomV e),.bool (rnomB e)])∧Below w.heap.size w w':=by
 have hb0:Below w.heap.size w (w.alloc (.cells #[.int .i64 e.year,.int .i64 e.month,.int .i64 e.dk,.int .i64 e.dw,.int .i64 e.dn,.int .i64 e.sec,.int .i64 e.ak] 40)):=(Below.refl w.heap.size w).alloc (Nat.le_refl _) _
 have hx0:=Blk.new w 40 #[.int .i64 e.year,.int .i64 e.month,.int .i64 e.dk,.int .i64 e.dw,.int .i64 e.dn,.int .i64 e.sec,.int .i64 e.ak]
 have ⟨⟨y1,y2⟩,⟨m1,m2⟩,⟨s1,s2⟩,hd⟩:=h
 have HD:=Lib.hid (fun W=>rday_any e.dk e.dw e.dn e.year e.month hd (by omega) (by omega) m1 m2 W)
 have HDAY:=Lib.hid (fun hb=>h.day_in hb)
 unfold RDay dayA at HD
 have HB0:=Lib.hid hb0
 have HX0:=Lib.hid hx0
 unfold untilA
 clear hb0 hx0 hd h
 cases hb:rnomB e with
 | false =>
   have HV:=Lib.hid (show rnomV e = e.sec by unfold rnomV;rw [hb];rfl)
   have hb2:¬ e.dn ≤ lenV e.year e.month:=of_decide_eq_false hb
   simp only [hb2,if_false] at HD
   clear hb hb2 HDAY
   go_enter Tryz.func105,Tryz.ntmps105
   go_wp2_with fail
   refine (HD.out _).mono ?_
   rintro o w1 ⟨rfl,hb⟩
   have HB1:=Lib.hid (HB0.out.trans (hb.mono HB0.out.size))
   have hx1:=HX0.out.below hb HX0.out.lt
   have hx1l:=hx1.lt
   have q5:=hx1.cell 5 (v:=.int .i64 e.sec) rfl
   clear hb hx1
   go_wp2_with fail
   go_ret2
   exact ⟨by rw [HV.out];first | rfl | simp,HB1.out⟩
 | true =>
   have HV:=Lib.hid (show rnomV e = 86400 * inDay e.dk e.dw e.dn e.year e.month + e.sec by unfold rnomV;rw [hb,if_pos rfl];unfold nomV;omega)
   have hdi:=HDAY.out hb
   have hb2:e.dn ≤ lenV e.year e.month:=of_decide_eq_true hb
   simp only [hb2,if_true] at HD
   obtain ⟨d,hdd⟩:∃ d,inDay e.dk e.dw e.dn e.year e.month = d:=⟨_,rfl⟩
   rw [hdd] at HD HV hdi
   clear hb hb2 HDAY hdd
   go_enter Tryz.func105,Tryz.ntmps105
   go_wp2_with fail
   refine (HD.out _).mono ?_
   rintro o w1 ⟨rfl,hb⟩
   have HB1:=Lib.hid (HB0.out.trans (hb.mono HB0.out.size))
   have hx1:=HX0.out.below hb HX0.out.lt
   have hx1l:=hx1.lt
   have q5:=hx1.cell 5 (v:=.int .i64 e.sec) rfl
   clear hb hx1
   go_wp2_with fail
   go_ret2
   exact ⟨by rw [HV.out];first | rfl | simp,HB1.out⟩
end
section -- ARefE
open Go Go.RowKit Go.Shelf
def rendV (e:EraN) (ru:ByteArray) (A:List Fir):Int :=
 if e.ak = 2 then rnomV e else if e.ak = 1 then rnomV e - e.off else if ru.size = 0 then rnomV e - e.off - e.save else rnomV e - e.off - refSave A e.off (rnomV e - e.off) 0 0 A.length
theorem rend_any (w:World) (e:EraN) (ru f:ByteArray) (en:Bool) (B:Nat) (u:Value) (D:List FrI) (letter:ByteArray) (hu:Fris w B u D) (hB:B ≤ w.heap.size) (hl:D.length ≤ 100000) (hr:∀ x ∈ D,(-1000000000000000 ≤ x.f.nominal∧x.f.nominal ≤ 1000000000000000)∧-1000000000000000 ≤ x.f.save∧x.f.save ≤ 1000000000000000)
  (h:EndOk e) (ho:-1000000000000000 ≤ e.off∧e.off ≤ 1000000000000000) (hsv:-1000000000000000 ≤ e.save∧e.save ≤ 1000000000000000) :
  Calls Tryz.prog 63 #[eraA e ru f en,.agg #[u,.string letter]] w fun o w'=>o = .returned (.int .i64 (rendV e ru (D.map FrI.f)))∧Below w.heap.size w w':=by
 obtain ⟨A,c,rfl,hlc,hcm⟩:=hu.form
 unfold maxLen at hcm
 have hb0:Below w.heap.size w ((w.alloc (.cells (eraC e ru f en) 42)).alloc (.cells #[.slice A D.length c,.string letter] 121)):=((Below.refl w.heap.size w).alloc (Nat.le_refl _) _).alloc (by simp) _
 have hx0:=(Blk.new w 42 (eraC e ru f en)).alloc (.cells #[.slice A D.length c,.string letter] 121)
 have hy0:=Blk.new (w.alloc (.cells (eraC e ru f en) 42)) 121 #[.slice A D.length c,.string letter]
 simp only [World.size_alloc] at hy0
 have HN:=Lib.hid (rnominal_any ((w.alloc (.cells (eraC e ru f en) 42)).alloc (.cells #[.slice A D.length c,.string letter] 121)) e h)
 have HU:=Lib.hid (hu.below (hb0.mono hB))
 have HX:=Lib.hid hx0
 have HY:=Lib.hid hy0
 have HB:=Lib.hid hb0
 have HRG:=Lib.hid hr
 have hn:=h.rnom_in
 clear hb0 hx0 hy0 hu hr h
 obtain ⟨en_,hen_⟩:∃ x,rendV e ru (D.map FrI.f) = x:=⟨_,rfl⟩
 rw [hen_]
 have HE:=Lib.hid (show en_ = if e.ak = 2 then rnomV e else if e.ak = 1 then rnomV e - e.off else if ru.size = 0 then rnomV e - e.off - e.save else rnomV e - e.off - refSave (D.map FrI.f) e.off (rnomV e - e.off) 0 0 (D.map FrI.f).length from hen_.symm)
 clear hen_
 generalize rnomV e = n at *
 generalize rnomB e = nb at *
 unfold eraA
 unfold untilA at HN
 unfold eraC at HB HN HX HY HU
 by_cases hk2:e.ak = 2
 ·have d1:(e.ak == 2) = true:=by simpa using hk2
  have HV:=Lib.hid (show en_ = n by rw [HE.out,if_pos hk2])
  clear hk2
  go_enter Tryz.func63,Tryz.ntmps63
  go_wp2_with fail
  refine HN.out.mono ?_
  rintro o w1 ⟨rfl,hb⟩
  have HX1:=Lib.hid (HX.out.below hb HX.out.lt)
  have HY1:=Lib.hid (HY.out.below hb HY.out.lt)
  have HB1:=Lib.hid (HB.out.trans (hb.mono HB.out.size))
  have HU1:=Lib.hid (HU.out.below (hb.mono (Nat.le_trans hB HB.out.size)))
  have hl1:=HX1.out.lt
  have hyl1:=HY1.out.lt
  have hs1:=HB1.out.size
  have e0:=HX1.out.cell 0 (v:=.int .i64 e.off) rfl
  have e1:=HX1.out.cell 1 (v:=.string ru) rfl
  have e2:=HX1.out.cell 2 (v:=.int .i64 e.save) rfl
  have e11:=HX1.out.cell 11 (v:=.int .i64 e.ak) rfl
  clear hb HX HY HB HU HN
  go_wp2_with fail
  go_ret
  exact ⟨by rw [HV.out];rfl,HB1.out⟩
 ·have d1:(e.ak == 2) = false:=by simpa using hk2
  by_cases hk1:e.ak = 1
  ·have d2:(e.ak == 1) = true:=by simpa using hk1
   have HV:=Lib.hid (show en_ = n - e.off by rw [HE.out,if_neg hk2,if_pos hk1])
   clear hk2 hk1
   go_enter Tryz.func63,Tryz.ntmps63
   go_wp2_with fail
   refine HN.out.mono ?_
   rintro o w1 ⟨rfl,hb⟩
   have HX1:=Lib.hid (HX.out.below hb HX.out.lt)
   have HY1:=Lib.hid (HY.out.below hb HY.out.lt)
   have HB1:=Lib.hid (HB.out.trans (hb.mono HB.out.size))
   have HU1:=Lib.hid (HU.out.below (hb.mono (Nat.le_trans hB HB.out.size)))
   have hl1:=HX1.out.lt
   have hyl1:=HY1.out.lt
   have hs1:=HB1.out.size
   have e0:=HX1.out.cell 0 (v:=.int .i64 e.off) rfl
   have e1:=HX1.out.cell 1 (v:=.string ru) rfl
   have e2:=HX1.out.cell 2 (v:=.int .i64 e.save) rfl
   have e11:=HX1.out.cell 11 (v:=.int .i64 e.ak) rfl
   clear hb HX HY HB HU HN
   go_wp2_with fail
   go_ret
   exact ⟨by rw [HV.out];rfl,HB1.out⟩
  ·have d2:(e.ak == 1) = false:=by simpa using hk1
   by_cases hru:ru.size = 0
   ·have hem:(ru.toList == []) = true:=by rw [emp_size,decide_eq_true hru]
    have HV:=Lib.hid (show en_ = n - e.off - e.save by rw [HE.out,if_neg hk2,if_neg hk1,if_pos hru])
    clear hk2 hk1 hru
    go_enter Tryz.func63,Tryz.ntmps63
    go_wp2_with fail
    refine HN.out.mono ?_
    rintro o w1 ⟨rfl,hb⟩
    have HX1:=Lib.hid (HX.out.below hb HX.out.lt)
    have HY1:=Lib.hid (HY.out.below hb HY.out.lt)
    have HB1:=Lib.hid (HB.out.trans (hb.mono HB.out.size))
    have HU1:=Lib.hid (HU.out.below (hb.mono (Nat.le_trans hB HB.out.size)))
    have hl1:=HX1.out.lt
    have hyl1:=HY1.out.lt
    have hs1:=HB1.out.size
    have e0:=HX1.out.cell 0 (v:=.int .i64 e.off) rfl
    have e1:=HX1.out.cell 1 (v:=.string ru) rfl
    have e2:=HX1.out.cell 2 (v:=.int .i64 e.save) rfl
    have e11:=HX1.out.cell 11 (v:=.int .i64 e.ak) rfl
    clear hb HX HY HB HU HN
    go_wp2_with fail
    go_ret
    exact ⟨by rw [HV.out];rfl,HB1.out⟩
   ·have hem:(ru.toList == []) = false:=by rw [emp_size,decide_eq_false hru]
    have HV:=Lib.hid (show en_ = n - e.off - refSave (D.map FrI.f) e.off (n - e.off) 0 0 (D.map FrI.f).length by rw [HE.out,if_neg hk2,if_neg hk1,if_neg hru])
    rw [List.length_map] at HV
    clear hk2 hk1 hru
    go_enter Tryz.func63,Tryz.ntmps63
    go_wp2_with fail
    refine HN.out.mono ?_
    rintro o w1 ⟨rfl,hb⟩
    have HX1:=Lib.hid (HX.out.below hb HX.out.lt)
    have HY1:=Lib.hid (HY.out.below hb HY.out.lt)
    have HB1:=Lib.hid (HB.out.trans (hb.mono HB.out.size))
    have HU1:=Lib.hid (HU.out.below (hb.mono (Nat.le_trans hB HB.out.size)))
    have hl1:=HX1.out.lt
    have hyl1:=HY1.out.lt
    have hs1:=HB1.out.size
    have e0:=HX1.out.cell 0 (v:=.int .i64 e.off) rfl
    have e1:=HX1.out.cell 1 (v:=.string ru) rfl
    have e2:=HX1.out.cell 2 (v:=.int .i64 e.save) rfl
    have e11:=HX1.out.cell 11 (v:=.int .i64 e.ak) rfl
    clear hb HX HY HB HU HN
    go_wp2_with fail
    go_loopw [7,8] (fun sv9 iv wr=>∃ (j:Nat) (sv:Int),j ≤ D.length∧iv = .int .i64 j∧sv9 = .int .i64 sv∧(-1000000000000000 ≤ sv∧sv ≤ 1000000000000000)∧refSave (D.map FrI.f) e.off (n - e.off) 0 0 D.length = refSave (D.map FrI.f) e.off (n - e.off) sv j (D.length - j)∧Below w1.heap.size w1 wr) (fun _ iv _=>D.length - (intOf iv).toNat)
    case atStart=>exact ⟨0,0,Nat.zero_le _,rfl,rfl,⟨by decide,by decide⟩,rfl,Below.refl _ _⟩
    case round =>
     obtain ⟨j,sv,hj,rfl,rfl,⟨hsv1,hsv2⟩,hq,hbw⟩:=hrel
     have HQ:=Lib.hid hq
     have HBI:=Lib.hid hbw
     have HXW:=Lib.hid (HX1.out.below hbw HX1.out.lt)
     have HYW:=Lib.hid (HY1.out.below hbw HY1.out.lt)
     have HUW:=Lib.hid (HU1.out.below (hbw.mono (Nat.le_trans hB hs1)))
     have hws:=hbw.size
     have e0:=HXW.out.cell 0 (v:=.int .i64 e.off) rfl
     have y0:=HYW.out.cell 0 (v:=.slice A D.length c) rfl
     have hxl:=HXW.out.lt
     have hyl:=HYW.out.lt
     clear hbw hq
     by_cases hlt2:j < D.length
     ·have hd:decide ((j:Int) < (D.length:Int)) = true:=decide_eq_true (by omega)
      have HIN:=Lib.hid (fun (W:World) (h:Below wr.heap.size wr W)=>rinst_any W B _ D (HUW.out.below (h.mono (by omega))) (by have:=h.size;omega) hl HRG.out j hlt2 e.off ho)
      have HC:=Lib.hid (fun (W:World) (h:Below wr.heap.size wr W)=>And.intro (HXW.out.below h hxl) (HYW.out.below h hyl))
      obtain ⟨ins,hins⟩:∃ x,instA (D.map FrI.f) e.off j = x:=⟨_,rfl⟩
      rw [hins] at HIN
      obtain ⟨bb,o,c',e9,hbb,hc⟩:=HUW.out.cells (by omega)
      cases e9
      obtain ⟨-,-,c2,-,-⟩:=hc j hlt2
      obtain ⟨x,hx⟩:∃ x,D[j] = x:=⟨_,rfl⟩
      have hrx:=(HRG.out _ (List.getElem_mem hlt2)).2
      rw [hx] at c2 hrx
      have HS:=Lib.hid (show refSave (D.map FrI.f) e.off (n - e.off) sv j (D.length - j) = if n - e.off - sv ≤ ins then sv else refSave (D.map FrI.f) e.off (n - e.off) x.f.save (j + 1) (D.length - (j + 1)) by
       rw [show D.length - j = (D.length - (j + 1)) + 1 by omega,refSave,List.getElem?_map,List.getElem?_eq_getElem hlt2,hx]
       simp only [Option.map_some,hins])
      clear hc hx hins
      by_cases hle:n - e.off - sv ≤ ins
      ·have hd2:decide (n - e.off - sv ≤ ins) = true:=decide_eq_true hle
       have HS2:=Lib.hid (show en_ = n - e.off - sv by rw [HV.out,HQ.out,HS.out,if_pos hle])
       go_wp2_with fail
       refine wp_env (fin:=?fna) (by kernel_rfl) [47,48,49,50,51,52,53,54,55,56,57,58,59]
        [.pointer (some ⟨w.heap.size + 1,0,none⟩),.slice (some ⟨bb,o,none⟩) D.length c,.int .i64 j,.pointer (some ⟨w.heap.size,0,none⟩),.int .i64 e.off,.int .i64 ins,.int .i64 n,.pointer (some ⟨w.heap.size,0,none⟩),.int .i64 e.off,.int .i64 (n - e.off),.int .i64 sv,.int .i64 (n - e.off - sv),.bool true] (by kernel_rfl) ?fina ?stepsa ?nexta
       case fina =>
        simp only [putAll,Act.put,List.setIfInBounds_toArray,List.set_cons_succ,List.set_cons_zero]
        rfl
       case stepsa =>
        refine ⟨?_,?_,?_,?_,?_,?_,?_,?_,?_,?_,?_,?_,?_,trivial⟩
        all_goals refine .inr ⟨by kernel_rfl,fun w1_ hB_=>?_⟩
        all_goals
         obtain ⟨hc,hr⟩:=HC.out w1_ hB_
         have c0:=hc.cell 0 (v:=.int .i64 e.off) rfl
         have r0:=hr.cell 0 (v:=.slice (some ⟨bb,o,none⟩) D.length c) rfl
         go_simp
         first
          | exact ⟨rfl,Below.refl _ _⟩
          | exact ⟨rfl,HIN.out w1_ hB_⟩
          | ((first | rw [decide_eq_true (by omega)] | rw [decide_eq_false (by omega)] | rw [if_pos (by omega)] | rw [IntWalk.i64_in _ (by omega)]);exact ⟨rfl,Below.refl _ _⟩)
          | done
       case nexta =>
       intro w2 hb2
       have hx2:=HXW.out.below hb2 hxl
       have e0:=hx2.cell 0 (v:=.int .i64 e.off) rfl
       have hx2l:=hx2.lt
       have HB2:=Lib.hid (HB1.out.trans ((HBI.out.trans (hb2.mono hws)).mono hs1))
       clear hb2 hx2
       go_wp2_with fail
       go_ret
       exact ⟨by rw [HS2.out];rfl,HB2.out⟩
      ·have hd2:decide (n - e.off - sv ≤ ins) = false:=decide_eq_false hle
       have HS2:=Lib.hid (show refSave (D.map FrI.f) e.off (n - e.off) 0 0 D.length = refSave (D.map FrI.f) e.off (n - e.off) x.f.save (j + 1) (D.length - (j + 1)) by rw [HQ.out,HS.out,if_neg hle])
       go_wp2_with fail
       refine wp_env (fin:=?fnb) (by kernel_rfl) [47,48,49,50,51,52,53,54,55,56,57,58,59]
        [.pointer (some ⟨w.heap.size + 1,0,none⟩),.slice (some ⟨bb,o,none⟩) D.length c,.int .i64 j,.pointer (some ⟨w.heap.size,0,none⟩),.int .i64 e.off,.int .i64 ins,.int .i64 n,.pointer (some ⟨w.heap.size,0,none⟩),.int .i64 e.off,.int .i64 (n - e.off),.int .i64 sv,.int .i64 (n - e.off - sv),.bool false] (by kernel_rfl) ?finb ?stepsb ?nextb
       case finb =>
        simp only [putAll,Act.put,List.setIfInBounds_toArray,List.set_cons_succ,List.set_cons_zero]
        rfl
       case stepsb =>
        refine ⟨?_,?_,?_,?_,?_,?_,?_,?_,?_,?_,?_,?_,?_,trivial⟩
        all_goals refine .inr ⟨by kernel_rfl,fun w1_ hB_=>?_⟩
        all_goals
         obtain ⟨hc,hr⟩:=HC.out w1_ hB_
         have c0:=hc.cell 0 (v:=.int .i64 e.off) rfl
         have r0:=hr.cell 0 (v:=.slice (some ⟨bb,o,none⟩) D.length c) rfl
         go_simp
         first
          | exact ⟨rfl,Below.refl _ _⟩
          | exact ⟨rfl,HIN.out w1_ hB_⟩
          | ((first | rw [decide_eq_true (by omega)] | rw [decide_eq_false (by omega)] | rw [if_pos (by omega)] | rw [IntWalk.i64_in _ (by omega)]);exact ⟨rfl,Below.refl _ _⟩)
          | done
       case nextb =>
       intro w2 hb2
       have hy2:=HYW.out.below hb2 hyl
       have y0:=hy2.cell 0 (v:=.slice (some ⟨bb,o,none⟩) D.length c) rfl
       have hy2l:=hy2.lt
       have d2:=(hb2.cell (p:=⟨bb,o + j * 5 + 2,none⟩) (by show bb < _;omega)).trans c2
       have hbl2:bb < w2.heap.size:=by have:=hb2.size;omega
       have HB2:=Lib.hid (HBI.out.trans (hb2.mono hws))
       clear hb2 hy2 c2
       go_wp2_with fail
       go_roundw
       case rel=>exact ⟨j + 1,x.f.save,by omega,by go_num,rfl,hrx,HS2.out,HB2.out⟩
       case measure=>simp [intOf];omega
     ·obtain rfl:j = D.length:=by omega
      have hd:decide ((D.length:Int) < (D.length:Int)) = false:=decide_eq_false (by omega)
      have HS2:=Lib.hid (show en_ = n - e.off - sv by rw [HV.out,HQ.out,Nat.sub_self];rfl)
      have HB2:=Lib.hid (HB1.out.trans (HBI.out.mono hs1))
      go_wp2_with fail
      go_ret
      exact ⟨by rw [HS2.out];rfl,HB2.out⟩
end
section -- AFew
open Go Go.RowKit Go.Shelf
def eraFewB (x:EraF):Bool:=decide (x.fm.size ≤ 100) && (!x.en || (decide ((1900 ≤ x.n.year∧x.n.year ≤ 2090)∧(1 ≤ x.n.month∧x.n.month ≤ 12)∧(-172800 ≤ x.n.sec∧x.n.sec ≤ 259200)) && dayOkB x.n.dk x.n.dw x.n.dn))
theorem eraFew_end {x:EraF} (h:eraFewB x = true) (he:x.en = true):EndOk x.n:=by
 unfold eraFewB at h
 rw [he] at h
 simp only [Bool.and_eq_true,Bool.not_true,Bool.false_or,decide_eq_true_eq] at h
 exact ⟨h.2.1.1,h.2.1.2.1,h.2.1.2.2,h.2.2⟩
theorem eraFew_fm {x:EraF} (h:eraFewB x = true):x.fm.size ≤ 100:=by
 unfold eraFewB at h
 rw [Bool.and_eq_true,decide_eq_true_eq] at h
 exact h.1
noncomputable def fewB (l:List EraF) (S:List SetF):Bool:=l.all eraFewB && (S.all fun s=>rightB s.l) && (decide (l.length ≤ 4) && decide (S.length ≤ 3))
theorem fewB_iff {l:List EraF} {S:List SetF}:fewB l S = true ↔ (∀ x ∈ l,eraFewB x = true)∧(∀ s ∈ S,rightB s.l = true)∧l.length ≤ 4∧S.length ≤ 3:=by
 unfold fewB
 simp only [Bool.and_eq_true,List.all_eq_true,decide_eq_true_eq,and_assoc]
theorem fewB_era {l:List EraF} {S:List SetF} {k:Nat} {x:EraF} (hk:k < l.length) (hx:l[k] = x) (h:eraFewB x = false):fewB l S = false:=by
 cases hf:fewB l S with
 | false=>rfl
 | true=>have:=(fewB_iff.1 hf).1 x (hx ▸ List.getElem_mem hk);rw [h] at this;exact absurd this (by decide)
theorem fewB_set {l:List EraF} {S:List SetF} {k:Nat} {s:SetF} (hk:k < S.length) (hs:S[k] = s) (h:rightB s.l = false):fewB l S = false:=by
 cases hf:fewB l S with
 | false=>rfl
 | true=>have:=(fewB_iff.1 hf).2.1 s (hs ▸ List.getElem_mem hk);rw [h] at this;exact absurd this (by decide)
theorem few_any (w:World) (zn:ByteArray) (ev sv:Value) (B:Nat) (l:List EraF) (S:List SetF) (he:ErasR w B ev l) (hs:SetsR w B sv S) (hB:B ≤ w.heap.size) (hfm:∀ x ∈ l,x.fm.size < 1152921504606846976) :
  Calls Tryz.prog 16 #[worldA zn ev sv] w fun o w'=>o = .returned (.bool (fewB l S))∧Below w.heap.size w w':=by
 obtain ⟨A,cA,rfl,hlc,hcm⟩:=he.form
 obtain ⟨A2,cS,rfl,hlc2,hcm2⟩:=hs.form
 unfold maxLen at hcm hcm2
 have hb0:Below w.heap.size w (w.alloc (.cells #[.string zn,.slice A l.length cA,.slice A2 S.length cS] 27)):=(Below.refl w.heap.size w).alloc (Nat.le_refl _) _
 have HX:=Lib.hid (Blk.new w 27 #[.string zn,.slice A l.length cA,.slice A2 S.length cS])
 have HE:=Lib.hid (he.below (hb0.mono hB))
 have HS:=Lib.hid (hs.below (hb0.mono hB))
 have HB:=Lib.hid hb0
 have HFM:=Lib.hid hfm
 clear hb0 he hs hfm
 unfold worldA
 go_enter Tryz.func16,Tryz.ntmps16
 go_wp2_with fail
 obtain ⟨W0,hW0⟩:∃ W,w.alloc (.cells #[.string zn,.slice A l.length cA,.slice A2 S.length cS] 27) = W:=⟨_,rfl⟩
 rw [hW0] at HX HE HS HB
 try simp only [hW0]
 clear hW0
 go_loopw [3] (fun iv wr=>∃ k:Nat,k ≤ l.length∧iv = .int .i64 k∧(∀ i (h:i < l.length),i < k→eraFewB l[i] = true)∧Below w.heap.size w wr∧Below W0.heap.size W0 wr) (fun iv _=>l.length - (intOf iv).toNat)
 case atStart=>exact ⟨0,Nat.zero_le _,rfl,fun i _ h=>absurd h (by omega),HB.out,Below.refl _ _⟩
 case round =>
  obtain ⟨k,hk,rfl,hno,hbw,hbi⟩:=hrel
  have HNO:=Lib.hid hno
  have HBW:=Lib.hid hbw
  have HBI:=Lib.hid hbi
  have HXW:=Lib.hid (HX.out.below hbi HX.out.lt)
  have hws:=hbw.size
  have hxl:=HXW.out.lt
  have x1:=HXW.out.cell 1 (v:=.slice A l.length cA) rfl
  have x2:=HXW.out.cell 2 (v:=.slice A2 S.length cS) rfl
  have HEW:=Lib.hid (HE.out.below (hbi.mono (Nat.le_trans hB HB.out.size)))
  clear hno hbw hbi
  by_cases hlt:k < l.length
  ·have hd:decide ((k:Int) < (l.length:Int)) = true:=decide_eq_true (by omega)
   obtain ⟨bb,o,c',e,hbb,hc⟩:=HEW.out.cells (by omega)
   cases e
   have hx:=hc k hlt
   have hf9:=HFM.out _ (List.getElem_mem hlt)
   obtain ⟨x,hxk⟩:∃ x,l[k] = x:=⟨_,rfl⟩
   rw [hxk] at hx hf9
   have HXK:=Lib.hid hxk
   obtain ⟨c0,c1,c2,c3,c4,c5,c6,c7,c8,c9,c10,c11⟩:=hx
   have HBAD:=Lib.hid (fun h=>fewB_era (S:=S) hlt hxk h)
   have HDF:=Lib.hid (fun W=>dfcheck_any x.n.dk x.n.dw x.n.dn W)
   unfold dayA at HDF
   clear hc hxk
   by_cases h1:100 < x.fm.size
   ·have d1:decide ((100:Int) < (x.fm.size:Int)) = true:=decide_eq_true (by omega)
    have HN:=Lib.hid (HBAD.out (by unfold eraFewB;rw [decide_eq_false (by omega)];rfl))
    go_wp2_with fail
    go_ret
    exact ⟨by rw [HN.out];rfl,((HBW.out).alloc hws _).alloc (by simp;omega) _⟩
   ·have d1:decide ((100:Int) < (x.fm.size:Int)) = false:=decide_eq_false (by omega)
    obtain ⟨en,hen⟩:∃ en,x.en = en:=⟨_,rfl⟩
    rw [hen] at c4
    cases en with
    | false =>
      have HOK:=Lib.hid (show eraFewB x = true by unfold eraFewB;rw [decide_eq_true (by omega),hen];rfl)
      go_wp2_with fail
      go_roundw
      case rel =>
       refine ⟨k + 1,by omega,by go_num,fun i h hik=>?_,((HBW.out).alloc hws _).alloc (by simp;omega) _,((HBI.out).alloc HBI.out.size _).alloc (by have:=HBI.out.size;simp;omega) _⟩
       rcases Nat.lt_or_ge i k with g | g
       ·exact HNO.out i h g
       ·obtain rfl:i = k:=by omega
        rw [HXK.out];exact HOK.out
      case measure=>simp [intOf];omega
    | true =>
      by_cases g0:x.n.year < 1900
      ·have e0:decide (x.n.year < 1900) = true:=decide_eq_true g0
       have HN:=Lib.hid (HBAD.out (by unfold eraFewB;rw [hen,decide_eq_false (p:=(1900 ≤ x.n.year∧x.n.year ≤ 2090)∧(1 ≤ x.n.month∧x.n.month ≤ 12)∧(-172800 ≤ x.n.sec∧x.n.sec ≤ 259200)) (by omega)];simp))
       go_wp2_with fail
       go_ret
       exact ⟨by rw [HN.out];rfl,((HBW.out).alloc hws _).alloc (by simp;omega) _⟩
      ·have e0:decide (x.n.year < 1900) = false:=decide_eq_false g0
       by_cases g1:2090 < x.n.year
       ·have e1:decide (2090 < x.n.year) = true:=decide_eq_true g1
        have HN:=Lib.hid (HBAD.out (by unfold eraFewB;rw [hen,decide_eq_false (p:=(1900 ≤ x.n.year∧x.n.year ≤ 2090)∧(1 ≤ x.n.month∧x.n.month ≤ 12)∧(-172800 ≤ x.n.sec∧x.n.sec ≤ 259200)) (by omega)];simp))
        go_wp2_with fail
        go_ret
        exact ⟨by rw [HN.out];rfl,((HBW.out).alloc hws _).alloc (by simp;omega) _⟩
       ·have e1:decide (2090 < x.n.year) = false:=decide_eq_false g1
        by_cases g2:x.n.month < 1
        ·have e2:decide (x.n.month < 1) = true:=decide_eq_true g2
         have HN:=Lib.hid (HBAD.out (by unfold eraFewB;rw [hen,decide_eq_false (p:=(1900 ≤ x.n.year∧x.n.year ≤ 2090)∧(1 ≤ x.n.month∧x.n.month ≤ 12)∧(-172800 ≤ x.n.sec∧x.n.sec ≤ 259200)) (by omega)];simp))
         go_wp2_with fail
         go_ret
         exact ⟨by rw [HN.out];rfl,((HBW.out).alloc hws _).alloc (by simp;omega) _⟩
        ·have e2:decide (x.n.month < 1) = false:=decide_eq_false g2
         by_cases g3:12 < x.n.month
         ·have e3:decide (12 < x.n.month) = true:=decide_eq_true g3
          have HN:=Lib.hid (HBAD.out (by unfold eraFewB;rw [hen,decide_eq_false (p:=(1900 ≤ x.n.year∧x.n.year ≤ 2090)∧(1 ≤ x.n.month∧x.n.month ≤ 12)∧(-172800 ≤ x.n.sec∧x.n.sec ≤ 259200)) (by omega)];simp))
          go_wp2_with fail
          go_ret
          exact ⟨by rw [HN.out];rfl,((HBW.out).alloc hws _).alloc (by simp;omega) _⟩
         ·have e3:decide (12 < x.n.month) = false:=decide_eq_false g3
          by_cases g4:x.n.sec < -172800
          ·have e4:decide (x.n.sec < -172800) = true:=decide_eq_true g4
           have HN:=Lib.hid (HBAD.out (by unfold eraFewB;rw [hen,decide_eq_false (p:=(1900 ≤ x.n.year∧x.n.year ≤ 2090)∧(1 ≤ x.n.month∧x.n.month ≤ 12)∧(-172800 ≤ x.n.sec∧x.n.sec ≤ 259200)) (by omega)];simp))
           go_wp2_with fail
           go_ret
           exact ⟨by rw [HN.out];rfl,((HBW.out).alloc hws _).alloc (by simp;omega) _⟩
          ·have e4:decide (x.n.sec < -172800) = false:=decide_eq_false g4
           by_cases g5:259200 < x.n.sec
           ·have e5:decide (259200 < x.n.sec) = true:=decide_eq_true g5
            have HN:=Lib.hid (HBAD.out (by unfold eraFewB;rw [hen,decide_eq_false (p:=(1900 ≤ x.n.year∧x.n.year ≤ 2090)∧(1 ≤ x.n.month∧x.n.month ≤ 12)∧(-172800 ≤ x.n.sec∧x.n.sec ≤ 259200)) (by omega)];simp))
            go_wp2_with fail
            go_ret
            exact ⟨by rw [HN.out];rfl,((HBW.out).alloc hws _).alloc (by simp;omega) _⟩
           ·have e5:decide (259200 < x.n.sec) = false:=decide_eq_false g5
            cases hdk:dayOkB x.n.dk x.n.dw x.n.dn with
            | false =>
              simp only [hdk,Bool.false_eq_true,if_false] at HDF
              have HN:=Lib.hid (HBAD.out (by unfold eraFewB;rw [hen,hdk];simp))
              go_wp2_with fail
              refine (HDF.out _).mono ?_
              rintro e w2 ⟨rfl,hb⟩
              have HB2:=Lib.hid ((((HBW.out).alloc hws _).alloc (by simp;omega) _).trans (hb.mono (by simp;omega)))
              have HQ2:=Lib.hid (((Below.refl wr.heap.size wr).alloc (Nat.le_refl _) _).alloc (by simp) _ |>.trans (hb.mono (by simp;omega)))
              clear hb
              go_wp2_with fail
              go_ret
              exact ⟨by rw [HN.out];rfl,HB2.out⟩
            | true =>
              simp only [hdk,if_true] at HDF
              have HOK:=Lib.hid (show eraFewB x = true by unfold eraFewB;rw [hen,hdk,decide_eq_true (by omega),decide_eq_true (p:=(1900 ≤ x.n.year∧x.n.year ≤ 2090)∧(1 ≤ x.n.month∧x.n.month ≤ 12)∧(-172800 ≤ x.n.sec∧x.n.sec ≤ 259200)) (by omega)];rfl)
              go_wp2_with fail
              refine (HDF.out _).mono ?_
              rintro e w2 ⟨rfl,hb⟩
              have HB2:=Lib.hid ((((HBW.out).alloc hws _).alloc (by simp;omega) _).trans (hb.mono (by simp;omega)))
              have HQ2:=Lib.hid (((Below.refl wr.heap.size wr).alloc (Nat.le_refl _) _).alloc (by simp) _ |>.trans (hb.mono (by simp;omega)))
              clear hb
              go_wp2_with fail
              go_roundw
              case rel =>
               refine ⟨k + 1,by omega,by go_num,fun i h hik=>?_,HB2.out,HBI.out.trans (HQ2.out.mono HBI.out.size)⟩
               rcases Nat.lt_or_ge i k with g | g
               ·exact HNO.out i h g
               ·obtain rfl:i = k:=by omega
                rw [HXK.out];exact HOK.out
              case measure=>simp [intOf];omega
  ·obtain rfl:k = l.length:=by omega
   have hd:decide ((l.length:Int) < (l.length:Int)) = false:=decide_eq_false (by omega)
   obtain ⟨w1,hw1⟩:∃ x,x = wr:=⟨_,rfl⟩
   subst hw1
   have HALL:=Lib.hid (show ∀ x ∈ l,eraFewB x = true from fun x hx=>by
    obtain ⟨i,hi,rfl⟩:=List.getElem_of_mem hx
    exact HNO.out i hi hi)
   have HSW:=Lib.hid (HS.out.below (HBI.out.mono (Nat.le_trans hB HB.out.size)))
   have hbw:=Nat.le_trans hB hws
   clear HNO HE HS HBI hk
   go_wp2_with fail
   go_loopw [6] (fun iv W2=>∃ k:Nat,k ≤ S.length∧iv = .int .i64 k∧(∀ i (h:i < S.length),i < k→rightB S[i].l = true)∧Below w1.heap.size w1 W2) (fun iv _=>S.length - (intOf iv).toNat)
   case atStart=>exact ⟨0,Nat.zero_le _,rfl,fun i _ h=>absurd h (by omega),Below.refl _ _⟩
   case round =>
    obtain ⟨j,hj,rfl,hno,hb2⟩:=hrel
    have HNO:=Lib.hid hno
    have HB2:=Lib.hid hb2
    have hws2:=hb2.size
    have HX2:=Lib.hid (HXW.out.below hb2 hxl)
    have HS2:=Lib.hid (HSW.out.below (hb2.mono hbw))
    have hxl2:=HX2.out.lt
    have x1:=HX2.out.cell 1 (v:=.slice A l.length cA) rfl
    have x2:=HX2.out.cell 2 (v:=.slice A2 S.length cS) rfl
    clear hno hb2
    by_cases hlt:j < S.length
    ·have hd:decide ((j:Int) < (S.length:Int)) = true:=decide_eq_true (by omega)
     obtain ⟨bb,o,c',e,hbb,hc⟩:=HS2.out.cells (by omega)
     cases e
     obtain ⟨-,c1⟩:=hc j hlt
     have HRU:=Lib.hid (HS2.out.2 S[j] (List.getElem_mem hlt))
     have HBAD:=Lib.hid (fun s hs h=>fewB_set (l:=l) (s:=s) hlt hs h)
     obtain ⟨s,hsk⟩:∃ s,S[j] = s:=⟨_,rfl⟩
     have HSK:=Lib.hid hsk
     rw [hsk] at c1 HRU
     have HRI:=Lib.hid (right_any wr B s.v s.l HRU.out (by omega))
     have HBAD2:=Lib.hid (HBAD.out s hsk)
     clear hc hsk HBAD
     generalize s.v = vs at *
     cases hr:rightB s.l with
     | false =>
       have HN:=Lib.hid (HBAD2.out hr)
       rw [hr] at HRI
       go_wp2_with fail
       refine HRI.out.mono ?_
       rintro e w3 ⟨⟨u,rfl⟩,hb⟩
       have HB3:=Lib.hid (HBW.out.trans ((HB2.out.trans (hb.mono hws2)).mono hws))
       clear hb
       go_wp2_with fail
       go_ret
       exact ⟨by rw [HN.out];rfl,HB3.out⟩
     | true =>
       have HR9:=Lib.hid hr
       rw [hr] at HRI
       clear hr
       go_wp2_with fail
       refine HRI.out.mono ?_
       rintro e w3 ⟨⟨u,rfl⟩,hb⟩
       have HB3:=Lib.hid (HB2.out.trans (hb.mono hws2))
       clear hb
       go_wp2_with fail
       go_roundw
       case rel =>
        refine ⟨j + 1,by omega,by go_num,fun i h hik=>?_,HB3.out⟩
        rcases Nat.lt_or_ge i j with g | g
        ·exact HNO.out i h g
        ·obtain rfl:i = j:=by omega
         rw [HSK.out];exact HR9.out
       case measure=>simp [intOf];omega
    ·obtain rfl:j = S.length:=by omega
     have hd2:decide ((S.length:Int) < (S.length:Int)) = false:=decide_eq_false (by omega)
     have HALS:=Lib.hid (show ∀ x ∈ S,rightB x.l = true from fun x hx=>by
      obtain ⟨i,hi,rfl⟩:=List.getElem_of_mem hx
      exact HNO.out i hi hi)
     have HV:=Lib.hid (show fewB l S = (decide (l.length ≤ 4) && decide (S.length ≤ 3)) by
      unfold fewB
      rw [List.all_eq_true.2 HALL.out,List.all_eq_true.2 HALS.out]
      rfl)
     have HB3:=Lib.hid (HBW.out.trans (HB2.out.mono hws))
     by_cases h4:l.length ≤ 4
     ·have d4:decide ((l.length:Int) ≤ 4) = true:=decide_eq_true (by omega)
      rw [decide_eq_true h4] at HV
      by_cases h3:S.length ≤ 3
      ·have d3:decide ((S.length:Int) ≤ 3) = true:=decide_eq_true (by omega)
       rw [decide_eq_true h3] at HV
       go_wp2_with fail
       go_ret
       exact ⟨by rw [HV.out];rfl,HB3.out⟩
      ·have d3:decide ((S.length:Int) ≤ 3) = false:=decide_eq_false (by omega)
       rw [decide_eq_false h3] at HV
       go_wp2_with fail
       go_ret
       exact ⟨by rw [HV.out];rfl,HB3.out⟩
     ·have d4:decide ((l.length:Int) ≤ 4) = false:=decide_eq_false (by omega)
      rw [decide_eq_false h4] at HV
      go_wp2_with fail
      go_ret
      exact ⟨by rw [HV.out];rfl,HB3.out⟩
end
section -- AWithM
open Go Go.RowKit Go.Shelf
theorem right_nil:rightB [] = true:=rightB_iff.2 ⟨rfl,fun r hr=>(by cases hr),[],Stab.nil,rfl⟩
theorem set_right {S:List SetF} (h:∀ s ∈ S,rightB s.l = true) (name:ByteArray):rightB (ofRul S name) = true:=by
 unfold ofRul
 cases hs:ofS S name with
 | none=>exact right_nil
 | some s=>exact h s (List.mem_of_find?_eq_some hs)
theorem right_small {l:List Rul} (h:rightB l = true):smallB l = true:=(rightB_iff.1 h).1
theorem right_ok {l:List Rul} (h:rightB l = true):RuOk l where
 yr:=small_yr (right_small h)
 sv:=right_sv h
 len:=by have:=(small_all (right_small h)).2;omega
 mon:=fun z hz=>small_mo ((small_all (right_small h)).1 z hz)
def letOk (l:List Rul):Prop:=∀ r ∈ l,r.letter.size ≤ 140737488351232
theorem bestR_mem {l:List Rul} {r:Rul} (h:bestR l = some r):r ∈ l:=by
 have hg:∀ (l:List Rul) (b:Option Rul),l.foldl bestS b = some r→b = some r∨r ∈ l:=by
  intro l
  induction l with
  | nil=>exact fun b h=>.inl h
  | cons x t ih =>
    intro b h
    rw [List.foldl_cons] at h
    rcases ih _ h with h2 | h2
    ·unfold bestS at h2
     split at h2
     ·split at h2
      ·right;injection h2 with h2;subst h2;exact List.mem_cons_self
      ·split at h2
       ·right;injection h2 with h2;subst h2;exact List.mem_cons_self
       ·exact .inl h2
     ·exact .inl h2
    ·exact .inr (List.mem_cons_of_mem _ h2)
 rcases hg l none h with h2 | h2
 ·cases h2
 ·exact h2
theorem letV_in {l:List Rul} (h:letOk l):(letV l).size ≤ 140737488351232:=by
 unfold letV
 cases hb:bestR l with
 | none=>exact (by decide)
 | some r=>exact h r (bestR_mem hb)
theorem fires_let {l:List Rul} {f:Fir} (h:letOk l) (hf:Fires l f):f.letter.size ≤ 140737488351232:=by
 obtain ⟨r,hr,y,-,rfl⟩:=hf
 exact h r hr
theorem end_eq {e:EraN} {ru:ByteArray} {l:List Rul} {A:List Fir} (h:RightR l A) (ho:-90000 < e.off∧e.off < 90000) (he:EndOk e) (hb:rnomB e = true):endN e ru l = rendV e ru A:=by
 have hn:rnomV e = nomV e:=by unfold rnomV;rw [if_pos hb]
 have hin:=he.rnom_in
 unfold endN rendV
 rw [hn] at hin ⊢
 rw [end_save h ho (by omega) (by unfold capN;omega)]
theorem D_fires {l:List Rul} {D:List FrI} (hst:Stab Fir.nominal (genL l 1890 2110) (D.map FrI.f)):∀ x ∈ D,Fires l x.f:=fun x hx=>by
 have hm:x.f ∈ genL l 1890 2110:=hst.1.mem_iff.1 (List.mem_map.2 ⟨x,hx,rfl⟩)
 unfold genL genR at hm
 rw [List.mem_flatMap] at hm
 obtain ⟨r,hr,hm⟩:=hm
 rw [List.mem_map] at hm
 obtain ⟨y,hy,e⟩:=hm
 rw [List.mem_filter] at hy
 exact ⟨r,hr,y,hy.2,e.symm⟩
theorem D_ok {l:List Rul} (hr:rightB l = true) {D:List FrI} (hst:Stab Fir.nominal (genL l 1890 2110) (D.map FrI.f)):D.length ≤ 100000∧∀ x ∈ D,(-1000000000000000 ≤ x.f.nominal∧x.f.nominal ≤ 1000000000000000)∧-1000000000000000 ≤ x.f.save∧x.f.save ≤ 1000000000000000:=by
 constructor
 ·have h1:=hst.1.length_eq
  rw [List.length_map] at h1
  have h2:(genL l 1890 2110).length ≤ l.length * 221:=genL_len l 1890 2110
  have h3:=(small_all (right_small hr)).2
  omega
 ·exact fun x hx=>⟨D_nom hst x hx,right_sv hr _ (D_fires hst x hx)⟩
end
section -- GMath
open Go Go.RowKit Go.Shelf
def ruleE (S:List SetF) (x:EraF):List Rul:=if x.ru.size = 0 then [] else ofRul S x.ru
def rvalE (S:List SetF) (x:EraF):Value:=if x.ru.size = 0 then .slice none 0 0 else ofVal S x.ru
def errE (x:EraF) (last:Bool):Int :=
 if (kindR x.fm.data.toList).2 = 0 then
  (if withinB x.n.off && withinB x.n.save then
    (if (decide (x.ru.size ≠ 0) && decide (x.n.save ≠ 0)) || (x.en == last) then 12
      else if x.en then (nomR x.n).2 else 0)
    else 10)
 else (kindR x.fm.data.toList).2
def missB (S:List SetF) (x:EraF):Bool:=decide (x.ru.size ≠ 0) && decide ((ofRul S x.ru).length = 0)
def errAt (l:List EraF) (i:Nat):Int:=match l[i]? with | some x=>errE x (decide (i + 1 = l.length)) | none=>0
def errsF (l:List EraF):Int:=match (List.range l.length).find? (fun i=>decide (errAt l i ≠ 0)) with | some i=>errAt l i | none=>0
def endL (S:List SetF) (l:List EraF):List Int:=l.dropLast.map fun x=>endN x.n x.ru (ruleE S x)
def riseI (l:List Int):Bool:=(List.range (l.length - 1)).all fun i=>decide (l.getD i 0 < l.getD (i + 1) 0)
def errZ (S:List SetF) (l:List EraF):Int :=
 if l.length = 0∨l.any (missB S) = true then 16 else if errsF l ≠ 0 then errsF l else if riseI (endL S l) then 0 else 17
theorem errAt_eq {l:List EraF} {i:Nat} (h:i < l.length):errAt l i = errE l[i] (decide (i + 1 = l.length)):=by unfold errAt;rw [List.getElem?_eq_getElem h]
theorem errsF_at {l:List EraF} {k:Nat} (hk:k < l.length) (hno:∀ i,i < k→errAt l i = 0) (h:errAt l k ≠ 0):errsF l = errAt l k:=by
 have:(List.range l.length).find? (fun i=>decide (errAt l i ≠ 0)) = some k:=by
  rw [List.find?_eq_some_iff_getElem]
  refine ⟨by simpa using h,k,by simpa using hk,by simp,fun j hj=>?_⟩
  simp [hno j hj]
 unfold errsF
 rw [this]
theorem errsF_none {l:List EraF} (h:∀ i,i < l.length→errAt l i = 0):errsF l = 0:=by
 have:(List.range l.length).find? (fun i=>decide (errAt l i ≠ 0)) = none:=by
  rw [List.find?_eq_none]
  intro i hi
  simp [h i (by simpa using hi)]
 unfold errsF
 rw [this]
theorem errsF_zero {l:List EraF} (h:errsF l = 0):∀ i,i < l.length→errAt l i = 0:=by
 intro i hi
 unfold errsF at h
 cases hf:(List.range l.length).find? (fun i=>decide (errAt l i ≠ 0)) with
 | none =>
   rw [List.find?_eq_none] at hf
   have:=hf i (by simpa using hi)
   simpa using this
 | some k =>
   rw [hf] at h
   have:=List.find?_some hf
   simp at this
   exact absurd h this
theorem errZ_none {S:List SetF} {l:List EraF} (h:l.length = 0):errZ S l = 16:=by unfold errZ;rw [if_pos (.inl h)]
theorem errZ_miss {S:List SetF} {l:List EraF} {k:Nat} (hk:k < l.length) (h:missB S l[k] = true):errZ S l = 16:=by
 unfold errZ
 rw [if_pos (.inr (List.any_eq_true.2 ⟨_,List.getElem_mem hk,h⟩))]
theorem errZ_there {S:List SetF} {l:List EraF} (h0:l.length ≠ 0) (h:∀ i (hi:i < l.length),missB S l[i] = false):errZ S l = if errsF l ≠ 0 then errsF l else if riseI (endL S l) then 0 else 17:=by
 unfold errZ
 rw [if_neg]
 rintro (e | e)
 ·exact h0 e
 ·obtain ⟨x,hx,he⟩:=List.any_eq_true.1 e
  obtain ⟨i,hi,rfl⟩:=List.getElem_of_mem hx
  rw [h i hi] at he
  cases he
theorem length_endL (S:List SetF) (l:List EraF):(endL S l).length = l.length - 1:=by unfold endL;simp
theorem endL_at {S:List SetF} {l:List EraF} {i:Nat} (h:i + 1 < l.length):(endL S l)[i]? = some (endN l[i].n l[i].ru (ruleE S l[i])):=by
 unfold endL
 rw [List.getElem?_map,List.getElem?_dropLast,if_pos (by omega),List.getElem?_eq_getElem (by omega)]
 rfl
theorem endL_get {S:List SetF} {l:List EraF} {i:Nat} (h:i + 1 < l.length):(endL S l).getD i 0 = endN l[i].n l[i].ru (ruleE S l[i]):=by
 rw [List.getD_eq_getElem?_getD,endL_at h];rfl
theorem riseI_iff {l:List Int}:riseI l = true ↔ ∀ i,i + 1 < l.length→l.getD i 0 < l.getD (i + 1) 0:=by
 unfold riseI
 rw [List.all_eq_true]
 constructor
 ·exact fun h i hi=>of_decide_eq_true (h i (by simp;omega))
 ·exact fun h i hi=>decide_eq_true (h i (by have:=List.mem_range.1 hi;omega))
theorem riseI_no {l:List Int} {i:Nat} (hi:i + 1 < l.length) (h:l.getD (i + 1) 0 ≤ l.getD i 0):riseI l = false:=by
 cases hr:riseI l with
 | false=>rfl
 | true=>have:=riseI_iff.1 hr i hi;omega
def eraI (ends:List Int) (i:Int):Nat:=(ends.findIdx fun n=>decide (i < n))
theorem eraI_at {ends:List Int} {i:Int} {k:Nat} (hk:k < ends.length) (hno:∀ j (h:j < ends.length),j < k→¬ i < ends[j]) (h:i < ends[k]):eraI ends i = k:=by
 unfold eraI
 rw [List.findIdx_eq hk]
 exact ⟨decide_eq_true h,fun j hj=>decide_eq_false (hno j (by omega) hj)⟩
theorem eraI_none {ends:List Int} {i:Int} (hno:∀ j (h:j < ends.length),¬ i < ends[j]):eraI ends i = ends.length:=by
 unfold eraI
 rw [List.findIdx_eq_length]
 intro x hx
 obtain ⟨j,hj,rfl⟩:=List.getElem_of_mem hx
 exact decide_eq_false (hno j hj)
theorem eraI_le (ends:List Int) (i:Int):eraI ends i ≤ ends.length:=List.findIdx_le_length
theorem errZ_zero {S:List SetF} {l:List EraF} (h:errZ S l = 0):l.length ≠ 0∧(∀ i (hi:i < l.length),missB S l[i] = false)∧(∀ i,i < l.length→errAt l i = 0)∧riseI (endL S l) = true:=by
 unfold errZ at h
 split at h
 ·cases h
 ·rename_i hn
  have hn1:l.length ≠ 0:=fun e=>hn (.inl e)
  have hn2:∀ i (hi:i < l.length),missB S l[i] = false:=fun i hi=>by
   cases hm:missB S l[i] with
   | false=>rfl
   | true=>exact absurd (.inr (List.any_eq_true.2 ⟨_,List.getElem_mem hi,hm⟩)) hn
  split at h
  ·rename_i he;exact absurd h he
  ·rename_i he
   split at h
   ·rename_i hr;exact ⟨hn1,hn2,errsF_zero (Classical.not_not.1 he),hr⟩
   ·cases h
theorem errE_zero {x:EraF} {last:Bool} (h:errE x last = 0):(kindR x.fm.data.toList).2 = 0∧(-90000 < x.n.off∧x.n.off < 90000)∧(-90000 < x.n.save∧x.n.save < 90000)∧x.en = !last∧(x.ru.size ≠ 0→x.n.save = 0)∧(x.en = true→nomB x.n = true):=by
 unfold errE at h
 split at h
 ·rename_i hk
  split at h
  ·rename_i hw
   rw [Bool.and_eq_true] at hw
   split at h
   ·cases h
   ·rename_i hf
    rw [Bool.or_eq_true,not_or,Bool.and_eq_true,not_and,decide_eq_true_eq] at hf
    refine ⟨hk,withinB_iff.1 hw.1,withinB_iff.1 hw.2,?_,fun h0=>?_,fun he=>?_⟩
    ·have:=hf.2
     revert this
     cases x.en <;> cases last <;> simp
    ·have:=hf.1 h0
     simpa using this
    ·rw [if_pos he] at h
     unfold nomR at h
     cases hb:nomB x.n with
     | true=>rfl
     | false=>rw [hb] at h;simp at h
  ·cases h
 ·rename_i hk;exact absurd h hk
end
section -- GCheck
open Go Go.RowKit Go.Shelf
theorem zcheck_any (x:EraF) (last:Bool) (w:World) (hs:x.fm.size < 4294967281) (hm:Tryz.MaxL w) (ha:Ahead w) :
  Calls Tryz.prog 66 #[eraA x.n x.ru x.fm x.en,.bool last] w fun o w'=>o = .returned (.int .i64 (errE x last))∧Below w.heap.size w w':=by
 unfold eraA
 have hb0:=(Below.refl w.heap.size w).alloc (Nat.le_refl _) (.cells (eraC x.n x.ru x.fm x.en) 42)
 have hblk:=Blk.new w 42 (eraC x.n x.ru x.fm x.en)
 unfold eraC at hb0 hblk
 rcases kindR_cases x.fm.data.toList with h | h
 ·have HK:=fun W=>kind_at x.fm hs _ _ (show kindR x.fm.data.toList = ((kindR x.fm.data.toList).1,0) by rw [← h]) W
  have H0:=Lib.hid h
  have HN:=Lib.hid (fun (W:World) (hb:Below w.heap.size w W)=>nominal_any W x.n (ha.below hb (Nat.le_refl _)))
  unfold untilA at HN
  clear h
  generalize (kindR x.fm.data.toList).1 = k at HK
  go_enter Tryz.func66,Tryz.ntmps66
  go_wp2_with fail
  refine (HK _ (hm.below hb0 (Nat.le_refl _))).mono ?_
  rintro o w1 ⟨rfl,hb⟩
  have hbl:=hblk.below hb hblk.lt
  have q0:=hbl.cell 0 (v:=.int .i64 x.n.off) rfl
  have q1:=hbl.cell 1 (v:=.string x.ru) rfl
  have q2:=hbl.cell 2 (v:=.int .i64 x.n.save) rfl
  have q4:=hbl.cell 4 (v:=.bool x.en) rfl
  have q5:=hbl.cell 5 (v:=.int .i64 x.n.year) rfl
  have q6:=hbl.cell 6 (v:=.int .i64 x.n.month) rfl
  have q7:=hbl.cell 7 (v:=.int .i64 x.n.dk) rfl
  have q8:=hbl.cell 8 (v:=.int .i64 x.n.dw) rfl
  have q9:=hbl.cell 9 (v:=.int .i64 x.n.dn) rfl
  have q10:=hbl.cell 10 (v:=.int .i64 x.n.sec) rfl
  have q11:=hbl.cell 11 (v:=.int .i64 x.n.ak) rfl
  have HB:=Lib.hid (hb0.trans (hb.mono hb0.size))
  clear hb hb0 hblk hbl hm ha HK
  cases g1:withinB x.n.off
  ·have H1:=within_at x.n.off _ g1
   have HV:=Lib.hid (show errE x last = 10 by unfold errE;rw [if_pos H0.out,g1];rfl)
   go_wp2_with fail
   refine (H1 _).mono ?_
   rintro o w2 ⟨rfl,rfl⟩
   go_wp2_with fail
   go_ret
   exact ⟨by rw [HV.out];rfl,HB.out⟩
  ·have H1:=within_at x.n.off _ g1
   cases g2:withinB x.n.save
   ·have H2:=within_at x.n.save _ g2
    have HV:=Lib.hid (show errE x last = 10 by unfold errE;rw [if_pos H0.out,g1,g2];rfl)
    go_wp2_with fail
    refine (H1 _).mono ?_
    rintro o w2 ⟨rfl,rfl⟩
    go_wp2_with fail
    refine (H2 _).mono ?_
    rintro o w2 ⟨rfl,rfl⟩
    go_wp2_with fail
    go_ret
    exact ⟨by rw [HV.out];rfl,HB.out⟩
   ·have H2:=within_at x.n.save _ g2
    have HE:=Lib.hid (show errE x last = if (decide (x.ru.size ≠ 0) && decide (x.n.save ≠ 0)) || (x.en == last) then 12 else if x.en then (nomR x.n).2 else 0 by unfold errE;rw [if_pos H0.out,g1,g2];rfl)
    obtain ⟨bad,hbad⟩:∃ b,(decide (x.ru.size ≠ 0) && decide (x.n.save ≠ 0)) = b:=⟨_,rfl⟩
    cases bad with
    | true =>
      have hb2:=hbad
      rw [Bool.and_eq_true,decide_eq_true_eq,decide_eq_true_eq] at hb2
      have hr0:=hb2.1
      have hs0:=hb2.2
      clear hb2
      have HV:=Lib.hid (show errE x last = 12 by rw [HE.out,hbad];rfl)
      have hem:(x.ru.toList == []) = false:=by rw [emp_size,decide_eq_false hr0]
      have hsv:(x.n.save != 0) = true:=by simpa using hs0
      clear hr0 hs0 hbad HE g1 g2 HN
      go_wp2_with fail
      refine (H1 _).mono ?_
      rintro o w2 ⟨rfl,rfl⟩
      go_wp2_with fail
      refine (H2 _).mono ?_
      rintro o w2 ⟨rfl,rfl⟩
      go_wp2_with fail
      go_ret
      exact ⟨by rw [HV.out];rfl,HB.out⟩
    | false =>
      have HE2:=Lib.hid (show errE x last = if (x.en == last) then 12 else if x.en then (nomR x.n).2 else 0 by rw [HE.out,hbad];rfl)
      obtain ⟨ee,hee⟩:∃ b,x.en = b:=⟨_,rfl⟩
      rw [hee] at q4 HE2
      by_cases hr0:x.ru.size = 0
      ·have hem:(x.ru.toList == []) = true:=by rw [emp_size,decide_eq_true hr0]
       clear hbad hr0 hee HE g1 g2
       cases ee <;> cases last
       ·have HV:=Lib.hid (show errE x false = 12 from HE2.out)
        go_wp2_with fail
        refine (H1 _).mono ?_
        rintro o w2 ⟨rfl,rfl⟩
        go_wp2_with fail
        refine (H2 _).mono ?_
        rintro o w2 ⟨rfl,rfl⟩
        go_wp2_with fail
        go_ret
        exact ⟨by rw [HV.out];rfl,HB.out⟩
       ·have HV:=Lib.hid (show errE x true = 0 from HE2.out)
        go_wp2_with fail
        refine (H1 _).mono ?_
        rintro o w2 ⟨rfl,rfl⟩
        go_wp2_with fail
        refine (H2 _).mono ?_
        rintro o w2 ⟨rfl,rfl⟩
        go_wp2_with fail
        go_ret
        exact ⟨by rw [HV.out];rfl,HB.out⟩
       ·have HV:=Lib.hid (show errE x false = (nomR x.n).2 from HE2.out)
        go_wp2_with fail
        refine (H1 _).mono ?_
        rintro o w2 ⟨rfl,rfl⟩
        go_wp2_with fail
        refine (H2 _).mono ?_
        rintro o w2 ⟨rfl,rfl⟩
        go_wp2_with fail
        refine (HN.out _ HB.out).mono ?_
        rintro o w3 ⟨rfl,hb⟩
        have HB3:=Lib.hid (HB.out.trans (hb.mono HB.out.size))
        clear hb
        go_wp2_with fail
        go_ret
        exact ⟨by rw [HV.out];rfl,HB3.out⟩
       ·have HV:=Lib.hid (show errE x true = 12 from HE2.out)
        go_wp2_with fail
        refine (H1 _).mono ?_
        rintro o w2 ⟨rfl,rfl⟩
        go_wp2_with fail
        refine (H2 _).mono ?_
        rintro o w2 ⟨rfl,rfl⟩
        go_wp2_with fail
        go_ret
        exact ⟨by rw [HV.out];rfl,HB.out⟩
      ·have hem:(x.ru.toList == []) = false:=by rw [emp_size,decide_eq_false hr0]
       have hsv:(x.n.save != 0) = false:=by
        have:x.n.save = 0:=by
         rw [decide_eq_true hr0,Bool.true_and,decide_eq_false_iff_not] at hbad
         omega
        simpa using this
       clear hbad hr0 hee HE g1 g2
       cases ee <;> cases last
       ·have HV:=Lib.hid (show errE x false = 12 from HE2.out)
        go_wp2_with fail
        refine (H1 _).mono ?_
        rintro o w2 ⟨rfl,rfl⟩
        go_wp2_with fail
        refine (H2 _).mono ?_
        rintro o w2 ⟨rfl,rfl⟩
        go_wp2_with fail
        go_ret
        exact ⟨by rw [HV.out];rfl,HB.out⟩
       ·have HV:=Lib.hid (show errE x true = 0 from HE2.out)
        go_wp2_with fail
        refine (H1 _).mono ?_
        rintro o w2 ⟨rfl,rfl⟩
        go_wp2_with fail
        refine (H2 _).mono ?_
        rintro o w2 ⟨rfl,rfl⟩
        go_wp2_with fail
        go_ret
        exact ⟨by rw [HV.out];rfl,HB.out⟩
       ·have HV:=Lib.hid (show errE x false = (nomR x.n).2 from HE2.out)
        go_wp2_with fail
        refine (H1 _).mono ?_
        rintro o w2 ⟨rfl,rfl⟩
        go_wp2_with fail
        refine (H2 _).mono ?_
        rintro o w2 ⟨rfl,rfl⟩
        go_wp2_with fail
        refine (HN.out _ HB.out).mono ?_
        rintro o w3 ⟨rfl,hb⟩
        have HB3:=Lib.hid (HB.out.trans (hb.mono HB.out.size))
        clear hb
        go_wp2_with fail
        go_ret
        exact ⟨by rw [HV.out];rfl,HB3.out⟩
       ·have HV:=Lib.hid (show errE x true = 12 from HE2.out)
        go_wp2_with fail
        refine (H1 _).mono ?_
        rintro o w2 ⟨rfl,rfl⟩
        go_wp2_with fail
        refine (H2 _).mono ?_
        rintro o w2 ⟨rfl,rfl⟩
        go_wp2_with fail
        go_ret
        exact ⟨by rw [HV.out];rfl,HB.out⟩
 ·have HK:=fun W=>kind_at x.fm hs _ _ h W
  have HV:=Lib.hid (show errE x last = 12 by unfold errE;rw [h];rfl)
  clear h
  go_enter Tryz.func66,Tryz.ntmps66
  go_wp2_with fail
  refine (HK _ (hm.below hb0 (Nat.le_refl _))).mono ?_
  rintro o w1 ⟨rfl,hb⟩
  have HB:=Lib.hid (hb0.trans (hb.mono hb0.size))
  clear hb hb0 hblk hm
  go_wp2_with fail
  go_ret
  exact ⟨by rw [HV.out];rfl,HB.out⟩
end
section -- GOf
open Go Go.RowKit Go.Shelf
def setsV (zn:ByteArray) (ev sv:Value):Value:=.func (.func 15) #[worldA zn ev sv] #[]
theorem ruls_nil (w:World) (B:Nat):Ruls w B (.slice none 0 0) []:=Sl.nil _ _ _
theorem SetsR.rule {w:World} {B:Nat} {v:Value} {S:List SetF} (h:SetsR w B v S) (x:EraF):Ruls w B (rvalE S x) (ruleE S x):=by
 unfold rvalE ruleE
 split
 ·exact ruls_nil _ _
 ·exact h.of_ruls x.ru
theorem rvalE_form {w:World} {B:Nat} {v:Value} {S:List SetF} (h:SetsR w B v S) (x:EraF):∃ A c,rvalE S x = .slice A (ruleE S x).length c:=by
 obtain ⟨A,c,e,_⟩:=(h.rule x).form
 exact ⟨A,c,e⟩
theorem zof_any (w:World) (zn:ByteArray) (ev sv:Value) (B:Nat) (S:List SetF) (hs:SetsR w B sv S) (hB:B ≤ w.heap.size) (x:EraF) :
  Calls Tryz.prog 45 #[setsV zn ev sv,eraA x.n x.ru x.fm x.en] w fun o w'=>o = .returned (rvalE S x)∧Below w.heap.size w w':=by
 have hb0:=(Below.refl w.heap.size w).alloc (Nat.le_refl _) (.cells (eraC x.n x.ru x.fm x.en) 42)
 have HO:=Lib.hid (fun (W:World) (hb:Below w.heap.size w W)=>wof_any W zn ev sv B S (hs.below (hb.mono hB)) (Nat.le_trans hB hb.size) x.ru)
 unfold worldA at HO
 unfold setsV eraA worldA
 by_cases hr0:x.ru.size = 0
 ·have hem:(x.ru.toList == []) = true:=by rw [emp_size,decide_eq_true hr0]
  have HV:=Lib.hid (show rvalE S x = .slice none 0 0 by unfold rvalE;rw [if_pos hr0])
  clear hr0 hs
  go_enter Tryz.func45,Tryz.ntmps45
  go_wp2_with fail
  go_ret
  exact ⟨by rw [HV.out];rfl,(Below.refl _ _).alloc (Nat.le_refl _) _⟩
 ·have hem:(x.ru.toList == []) = false:=by rw [emp_size,decide_eq_false hr0]
  have HV:=Lib.hid (show rvalE S x = ofVal S x.ru by unfold rvalE;rw [if_neg hr0])
  unfold eraC at hb0
  have HB:=Lib.hid hb0
  clear hr0 hs hb0
  go_enter Tryz.func45,Tryz.ntmps45
  go_wp2_with fail
  refine (HO.out _ HB.out).mono ?_
  rintro o w1 ⟨rfl,hb⟩
  have HB1:=Lib.hid (HB.out.trans (hb.mono HB.out.size))
  clear hb
  go_wp2_with fail
  go_ret
  exact ⟨by rw [HV.out];rfl,HB1.out⟩
end
section -- GZone
open Go Go.RowKit Go.Shelf
structure ZW (W:World) (B:Nat) (ev sv:Value) (l:List EraF) (S:List SetF):Prop where
 eras:ErasR W B ev l
 sets:SetsR W B sv S
 ahead:Ahead W
 tab:0 < B
 maxl:Tryz.MaxL W
 le:B ≤ W.heap.size
theorem ZW.below {W W':World} {B:Nat} {ev sv:Value} {l:List EraF} {S:List SetF} (h:ZW W B ev sv l S) (hb:Below W.heap.size W W'):ZW W' B ev sv l S :=
 ⟨h.eras.below (hb.mono h.le),h.sets.below (hb.mono h.le),h.ahead.below hb (Nat.le_refl _),h.tab,h.maxl.below hb (Nat.le_refl _),Nat.le_trans h.le hb.size⟩
structure ZOk (l:List EraF) (S:List SetF):Prop where
 fm:∀ x ∈ l,x.fm.size < 4294967281
 rul:∀ s ∈ S,RuOk s.l
 len:l.length ≤ 1000000
theorem ruok_nil:RuOk [] where
 yr:=fun r hr=>(by cases hr)
 sv:=fun f hf=>(by obtain ⟨r,hr,_⟩:=hf;cases hr)
 len:=by decide
 mon:=fun z hz=>(by cases hz)
theorem ZOk.rule {l:List EraF} {S:List SetF} (h:ZOk l S) (x:EraF):RuOk (ruleE S x):=by
 unfold ruleE ofRul
 split
 ·exact ruok_nil
 ·cases hs:ofS S x.ru with
  | none=>exact ruok_nil
  | some s=>exact h.rul s (List.mem_of_find?_eq_some hs)
def zoneA (zn:ByteArray) (ev:Value):Value:=.agg #[.string zn,ev]
theorem zcheckZ_any (zn:ByteArray) (ev sv:Value) (B:Nat) (l:List EraF) (S:List SetF) (w:World) (hz:ZW w B ev sv l S) (ho:ZOk l S) :
  Calls Tryz.prog 25 #[zoneA zn ev,setsV zn ev sv] w fun o w'=>o = .returned (.int .i64 (errZ S l))∧Below w.heap.size w w':=by
 obtain ⟨A,cA,rfl,hlc,hcm⟩:=hz.eras.form
 unfold maxLen at hcm
 have heq:=fun (w:World)=>run_eql_func_nil w 90 (.func 15) #[worldA zn (.slice A l.length cA) sv] #[] Tryz.underlying90
 have hb0:Below w.heap.size w (w.alloc (.cells #[.string zn,.slice A l.length cA] 24)):=(Below.refl w.heap.size w).alloc (Nat.le_refl _) _
 have HX:=Lib.hid (Blk.new w 24 #[.string zn,.slice A l.length cA])
 have HZ:=Lib.hid (hz.below hb0)
 have HB:=Lib.hid hb0
 have HO:=Lib.hid ho
 clear hz hb0 ho
 unfold setsV zoneA
 unfold worldA at heq ⊢
 by_cases hl0:l.length = 0
 ·have HV:=Lib.hid (errZ_none (S:=S) hl0)
  have hd0:((l.length:Int) == 0) = true:=by simpa using hl0
  clear hl0
  go_enter Tryz.func25,Tryz.ntmps25
  go_wp2_with fail
  go_ret
  exact ⟨by rw [HV.out];rfl,HB.out⟩
 ·have hd0:((l.length:Int) == 0) = false:=by simpa using hl0
  have HL0:=Lib.hid hl0
  clear hl0
  go_enter Tryz.func25,Tryz.ntmps25
  go_wp2_with fail
  obtain ⟨W0,hW0⟩:∃ W,w.alloc (.cells #[.string zn,.slice A l.length cA] 24) = W:=⟨_,rfl⟩
  rw [hW0] at HX HZ HB
  try simp only [hW0]
  clear hW0
  go_loopw [27] (fun iv wr=>∃ k:Nat,k ≤ l.length∧iv = .int .i64 k∧(∀ i (h:i < l.length),i < k→missB S l[i] = false)∧Below w.heap.size w wr∧Below W0.heap.size W0 wr) (fun iv _=>l.length - (intOf iv).toNat)
  case atStart=>exact ⟨0,Nat.zero_le _,rfl,fun i _ h=>absurd h (by omega),HB.out,Below.refl _ _⟩
  case round =>
   obtain ⟨k,hk,rfl,hno,hbw,hbi⟩:=hrel
   have HNO:=Lib.hid hno
   have HBW:=Lib.hid hbw
   have HBI:=Lib.hid hbi
   have HXW:=Lib.hid (HX.out.below hbi HX.out.lt)
   have hws:=hbw.size
   have hxl:=HXW.out.lt
   have x1:=HXW.out.cell 1 (v:=.slice A l.length cA) rfl
   have HZW:=Lib.hid (HZ.out.below hbi)
   clear hno hbw hbi
   by_cases hlt:k < l.length
   ·have hd:decide ((k:Int) < (l.length:Int)) = true:=decide_eq_true (by omega)
    obtain ⟨bb,o,c',e,hbb,hc⟩:=HZW.out.eras.cells (by omega)
    cases e
    have hx:=hc k hlt
    obtain ⟨x,hxk⟩:∃ x,l[k] = x:=⟨_,rfl⟩
    rw [hxk] at hx
    have HXK:=Lib.hid hxk
    obtain ⟨c0,c1,c2,c3,c4,c5,c6,c7,c8,c9,c10,c11⟩:=hx
    have hb2:=HBW.out.alloc hws (.cells (eraC x.n x.ru x.fm x.en) 42)
    have hbi2:=HBI.out.alloc HBI.out.size (.cells (eraC x.n x.ru x.fm x.en) 42)
    have HZ2:=Lib.hid (HZ.out.below hbi2)
    unfold eraC at hb2 hbi2 HZ2
    have HB2:=Lib.hid hb2
    have HBI2:=Lib.hid hbi2
    clear hc hxk hb2 hbi2
    by_cases hru:x.ru.size = 0
    ·have hem:(x.ru.toList == []) = true:=by rw [emp_size,decide_eq_true hru]
     have HM:=Lib.hid (show missB S x = false by unfold missB;rw [decide_eq_false (by simpa using hru)];rfl)
     clear hru
     go_wp2_with fail
     go_roundw
     case rel =>
      refine ⟨k + 1,by omega,by go_num,fun i h hik=>?_,HB2.out,HBI2.out⟩
      rcases Nat.lt_or_ge i k with g | g
      ·exact HNO.out i h g
      ·obtain rfl:i = k:=by omega
       rw [HXK.out];exact HM.out
     case measure=>simp [intOf];omega
    ·have hem:(x.ru.toList == []) = false:=by rw [emp_size,decide_eq_false hru]
     obtain ⟨A3,c3',e3⟩:=ofVal_form HZ2.out.sets x.ru
     have HOF:=Lib.hid (wof_any _ zn (.slice (some ⟨bb,o,none⟩) l.length cA) sv B S HZ2.out.sets HZ2.out.le x.ru)
     rw [e3] at HOF
     unfold worldA at HOF
     have HM:=Lib.hid (show missB S x = decide ((ofRul S x.ru).length = 0) by unfold missB;rw [decide_eq_true hru];rfl)
     clear hru e3
     generalize ofRul S x.ru = R at *
     by_cases hR:R.length = 0
     ·have hd3:((R.length:Int) == 0) = true:=by simpa using hR
      have HV:=Lib.hid (errZ_miss hlt (show missB S l[k] = true by rw [HXK.out,HM.out,decide_eq_true hR]))
      clear hR
      go_wp2_with fail
      refine HOF.out.mono ?_
      rintro o w2 ⟨rfl,hb⟩
      have HB3:=Lib.hid (HB2.out.trans (hb.mono HB2.out.size))
      clear hb
      go_wp2_with fail
      go_ret
      exact ⟨by rw [HV.out];rfl,HB3.out⟩
     ·have hd3:((R.length:Int) == 0) = false:=by simpa using hR
      rw [decide_eq_false hR] at HM
      clear hR
      go_wp2_with fail
      refine HOF.out.mono ?_
      rintro o w2 ⟨rfl,hb⟩
      have HB3:=Lib.hid (HB2.out.trans (hb.mono HB2.out.size))
      have HBI3:=Lib.hid (HBI2.out.trans (hb.mono HBI2.out.size))
      clear hb
      go_wp2_with fail
      go_roundw
      case rel =>
       refine ⟨k + 1,by omega,by go_num,fun i h hik=>?_,HB3.out,HBI3.out⟩
       rcases Nat.lt_or_ge i k with g | g
       ·exact HNO.out i h g
       ·obtain rfl:i = k:=by omega
        rw [HXK.out];exact HM.out
      case measure=>simp [intOf];omega
   ·obtain rfl:k = l.length:=by omega
    have hd:decide ((l.length:Int) < (l.length:Int)) = false:=decide_eq_false (by omega)
    obtain ⟨w1,hw1⟩:∃ x,x = wr:=⟨_,rfl⟩
    subst hw1
    have HTH:=Lib.hid (errZ_there HL0.out (fun i hi=>HNO.out i hi hi))
    clear HNO hk
    go_wp2_with fail
    go_loopw [46] (fun iv W2=>∃ k:Nat,k ≤ l.length∧iv = .int .i64 k∧(∀ i,i < k→errAt l i = 0)∧Below w1.heap.size w1 W2) (fun iv _=>l.length - (intOf iv).toNat)
    case atStart=>exact ⟨0,Nat.zero_le _,rfl,fun i h=>absurd h (by omega),Below.refl _ _⟩
    case round =>
     obtain ⟨k,hk,rfl,hno,hbi⟩:=hrel
     have HNO:=Lib.hid hno
     have HBI:=Lib.hid hbi
     have HX2:=Lib.hid (HXW.out.below hbi HXW.out.lt)
     have hws2:=hbi.size
     have hxl2:=HX2.out.lt
     have x1:=HX2.out.cell 1 (v:=.slice A l.length cA) rfl
     have HZ2:=Lib.hid (HZW.out.below hbi)
     have HBW2:=Lib.hid (HBW.out.trans (hbi.mono hws))
     clear hno hbi
     by_cases hlt:k < l.length
     ·have hd:decide ((k:Int) < (l.length:Int)) = true:=decide_eq_true (by omega)
      obtain ⟨bb,o,c',e,hbb,hc⟩:=HZ2.out.eras.cells (by omega)
      cases e
      have hx:=hc k hlt
      have hfm:=HO.out.fm _ (List.getElem_mem hlt)
      have hat:=errAt_eq hlt
      obtain ⟨x,hxk⟩:∃ x,l[k] = x:=⟨_,rfl⟩
      rw [hxk] at hx hfm hat
      obtain ⟨c0,c1,c2,c3,c4,c5,c6,c7,c8,c9,c10,c11⟩:=hx
      obtain ⟨la,hla⟩:∃ b,decide (k + 1 = l.length) = b:=⟨_,rfl⟩
      have hlast:((k:Int) == (l.length:Int) - 1) = la:=by
       rw [← hla]
       by_cases h:k + 1 = l.length
       ·rw [decide_eq_true h];exact beq_iff_eq.2 (by omega)
       ·rw [decide_eq_false h];exact beq_eq_false_iff_ne.2 (by omega)
      rw [hla] at hat
      have HAT:=Lib.hid hat
      have hb2:=HBW2.out.alloc HBW2.out.size (.cells (eraC x.n x.ru x.fm x.en) 42)
      have hbi2:=HBI.out.alloc hws2 (.cells (eraC x.n x.ru x.fm x.en) 42)
      have HZ3:=Lib.hid (HZ2.out.below ((Below.refl wr.heap.size wr).alloc (Nat.le_refl _) (.cells (eraC x.n x.ru x.fm x.en) 42)))
      have HC:=Lib.hid (zcheck_any x la _ hfm HZ3.out.maxl HZ3.out.ahead)
      unfold eraC at hb2 hbi2 HZ3 HC
      unfold eraA at HC
      have HB3:=Lib.hid hb2
      have HBI3:=Lib.hid hbi2
      clear hc hxk hla hat hb2 hbi2 hfm
      obtain ⟨E,hE⟩:∃ e,errE x la = e:=⟨_,rfl⟩
      rw [hE] at HC HAT
      clear hE
      by_cases hE0:E = 0
      ·subst hE0
       go_wp2_with fail
       refine HC.out.mono ?_
       rintro o w3 ⟨rfl,hb⟩
       have HBI4:=Lib.hid (HBI3.out.trans (hb.mono HBI3.out.size))
       clear hb
       go_wp2_with fail
       go_roundw
       case rel =>
        refine ⟨k + 1,by omega,by go_num,fun i hik=>?_,HBI4.out⟩
        rcases Nat.lt_or_ge i k with g | g
        ·exact HNO.out i g
        ·obtain rfl:i = k:=by omega
         exact HAT.out
       case measure=>simp [intOf];omega
      ·have he0:(E != 0) = true:=by simpa using hE0
       have HV:=Lib.hid (show errZ S l = E by
        have h:=errsF_at hlt (fun i hi=>HNO.out i hi) (by rw [HAT.out];exact hE0)
        rw [HTH.out,if_pos (by rw [h,HAT.out];exact hE0),h,HAT.out])
       clear hE0
       go_wp2_with fail
       refine HC.out.mono ?_
       rintro o w3 ⟨rfl,hb⟩
       have HB4:=Lib.hid (HB3.out.trans (hb.mono HB3.out.size))
       clear hb
       go_wp2_with fail
       go_ret
       exact ⟨by rw [HV.out];rfl,HB4.out⟩
     ·obtain rfl:k = l.length:=by omega
      obtain ⟨w2,hw2⟩:∃ x,x = wr:=⟨_,rfl⟩
      subst hw2
      have HERR:=Lib.hid (show ∀ i,i < l.length→errAt l i = 0 from fun i hi=>HNO.out i hi)
      have HTH2:=Lib.hid (show errZ S l = if riseI (endL S l) then 0 else 17 by rw [HTH.out,errsF_none HERR.out];rfl)
      clear HNO hk HTH
      have hl1:0 < l.length:=by have:=HL0.out;omega
      have hsub:wrap64 ((l.length:Int) - 1) = (l.length:Int) - 1:=IntWalk.wrap64_in _ (by omega)
      go_wp2_with fail
      go_loopw [10,11,71] (fun lv fv iv W3=>∃ k:Nat,k ≤ l.length - 1∧iv = .int .i64 k∧(k = 0∧lv = .int .i64 0∧fv = .bool true∨∃ q,k = q + 1∧lv = .int .i64 ((endL S l).getD q 0)∧fv = .bool false)∧(∀ i,i + 1 < k→(endL S l).getD i 0 < (endL S l).getD (i + 1) 0)∧Below w2.heap.size w2 W3) (fun _ _ iv _=>l.length - (intOf iv).toNat)
      case atStart=>exact ⟨0,Nat.zero_le _,rfl,.inl ⟨rfl,rfl,rfl⟩,fun i h=>absurd h (by omega),Below.refl _ _⟩
      case round =>
       obtain ⟨k,hk,rfl,hlf,hno,hbi⟩:=hrel
       have HNO:=Lib.hid hno
       have HBI3:=Lib.hid hbi
       have HX3:=Lib.hid (HX2.out.below hbi HX2.out.lt)
       have hws3:=hbi.size
       have HZ3:=Lib.hid (HZ2.out.below hbi)
       have HBW3:=Lib.hid (HBW2.out.trans (hbi.mono HBW2.out.size))
       clear hno hbi
       by_cases hlt:k < l.length - 1
       ·have hd:decide ((k:Int) < ((l.length - 1:Nat):Int)) = true:=decide_eq_true (by omega)
        have hlk:k < l.length:=by omega
        obtain ⟨bb,o,c',e,hbb,hc⟩:=HZ3.out.eras.cells (by omega)
        cases e
        have hx:=hc k hlk
        have her:=HERR.out k hlk
        rw [errAt_eq hlk,decide_eq_false (by omega)] at her
        have hen:=endL_get (S:=S) (l:=l) (i:=k) (by omega)
        obtain ⟨x,hxk⟩:∃ x,l[k] = x:=⟨_,rfl⟩
        rw [hxk] at hx her hen
        obtain ⟨-,hof,hsf,hee,-,hnb⟩:=errE_zero her
        have hee2:x.en = true:=hee
        have hV:endV x.n x.ru x.en (ruleE S x) = ((endL S l).getD k 0,0):=by
         unfold endV
         rw [hee2,hnb hee2,hen]
         rfl
        obtain ⟨c0,c1,c2,c3,c4,c5,c6,c7,c8,c9,c10,c11⟩:=hx
        have hb3:=HBW3.out.alloc HBW3.out.size (.cells (eraC x.n x.ru x.fm x.en) 42)
        have hbi3:=HBI3.out.alloc hws3 (.cells (eraC x.n x.ru x.fm x.en) 42)
        have HZ4:=Lib.hid (HZ3.out.below ((Below.refl wr.heap.size wr).alloc (Nat.le_refl _) (.cells (eraC x.n x.ru x.fm x.en) 42)))
        have HE4:=Lib.hid (Blk.new wr 42 (eraC x.n x.ru x.fm x.en))
        have HOF:=Lib.hid (fun (W:World) (h:ZW W B (.slice (some ⟨bb,o,none⟩) l.length cA) sv l S)=>zof_any W zn (.slice (some ⟨bb,o,none⟩) l.length cA) sv B S h.sets h.le x)
        have HEN:=Lib.hid (fun (W:World) (h:ZW W B (.slice (some ⟨bb,o,none⟩) l.length cA) sv l S)=>zend_any W x.n x.ru x.fm x.en B (rvalE S x) (ruleE S x) ⟨h.sets.rule x,h.ahead,h.tab,h.le⟩ (HO.out.rule x) (by omega) (by omega))
        obtain ⟨ek,hek⟩:∃ z,(endL S l).getD k 0 = z:=⟨_,rfl⟩
        have HEK:=Lib.hid hek
        rw [hek] at hV
        rw [hV] at HEN
        obtain ⟨A3,c3',e3⟩:=rvalE_form HZ4.out.sets x
        rw [e3] at HOF HEN
        unfold setsV worldA eraA at HOF
        unfold eraA at HEN
        unfold eraC at hb3 hbi3 HZ4 HE4
        have HB4:=Lib.hid hb3
        have HBI4:=Lib.hid hbi3
        clear hc hxk hb3 hbi3 her hen hV hek hof hsf hee hee2 hnb
        have hfl:∃ (f:Bool) (n:Int),u11 = .bool f∧u10 = .int .i64 n∧(f = true∧k = 0∨f = false∧∃ q,k = q + 1∧n = (endL S l).getD q 0):=by
         rcases hlf with ⟨h0,h1,h2⟩ | ⟨q,h0,h1,h2⟩
         ·exact ⟨_,_,h2,h1,.inl ⟨rfl,h0⟩⟩
         ·exact ⟨_,_,h2,h1,.inr ⟨rfl,q,h0,rfl⟩⟩
        obtain ⟨fv,lv,rfl,rfl,hfk⟩:=hfl
        have HFK:=Lib.hid hfk
        clear hlf hfk
        go_wp2_with fail
        obtain ⟨W3,hW3⟩:∃ W,wr.alloc (.cells #[.int .i64 x.n.off,.string x.ru,.int .i64 x.n.save,.string x.fm,.bool x.en,.int .i64 x.n.year,.int .i64 x.n.month,.int .i64 x.n.dk,.int .i64 x.n.dw,.int .i64 x.n.dn,.int .i64 x.n.sec,.int .i64 x.n.ak] 42) = W:=⟨_,rfl⟩
        rw [hW3] at HB4 HBI4 HZ4 HE4
        try simp only [hW3]
        clear hW3
        refine wp_env (fin:=?fna) (by kernel_rfl) [76,77,78,79,80,75,81,82,14,15]
         [.agg #[.int .i64 x.n.off,.string x.ru,.int .i64 x.n.save,.string x.fm,.bool x.en,.int .i64 x.n.year,.int .i64 x.n.month,.int .i64 x.n.dk,.int .i64 x.n.dw,.int .i64 x.n.dn,.int .i64 x.n.sec,.int .i64 x.n.ak],.func (.func 15) #[.agg #[.string zn,.slice (some ⟨bb,o,none⟩) l.length cA,sv]] #[],.agg #[.int .i64 x.n.off,.string x.ru,.int .i64 x.n.save,.string x.fm,.bool x.en,.int .i64 x.n.year,.int .i64 x.n.month,.int .i64 x.n.dk,.int .i64 x.n.dw,.int .i64 x.n.dn,.int .i64 x.n.sec,.int .i64 x.n.ak],.slice A3 (ruleE S x).length c3',.tuple #[.int .i64 ek,.int .i64 0],.tuple #[.int .i64 ek,.int .i64 0],.int .i64 ek,.int .i64 0,.int .i64 ek,.int .i64 0] (by kernel_rfl) ?fina ?stepsa ?nexta
        case fina =>
         simp only [putAll,Act.put,List.setIfInBounds_toArray,List.set_cons_succ,List.set_cons_zero]
         rfl
        case stepsa =>
         refine ⟨?_,?_,?_,?_,?_,?_,?_,?_,?_,?_,trivial⟩
         all_goals refine .inr ⟨by kernel_rfl,fun w1_ hB_=>?_⟩
         all_goals
          have hc:=HE4.out.below hB_ HE4.out.lt
          have hz:=HZ4.out.below hB_
          have c0:=hc.cell 0 (v:=.int .i64 x.n.off) rfl
          have c1:=hc.cell 1 (v:=.string x.ru) rfl
          have c2:=hc.cell 2 (v:=.int .i64 x.n.save) rfl
          have c3:=hc.cell 3 (v:=.string x.fm) rfl
          have c4:=hc.cell 4 (v:=.bool x.en) rfl
          have c5:=hc.cell 5 (v:=.int .i64 x.n.year) rfl
          have c6:=hc.cell 6 (v:=.int .i64 x.n.month) rfl
          have c7:=hc.cell 7 (v:=.int .i64 x.n.dk) rfl
          have c8:=hc.cell 8 (v:=.int .i64 x.n.dw) rfl
          have c9:=hc.cell 9 (v:=.int .i64 x.n.dn) rfl
          have c10:=hc.cell 10 (v:=.int .i64 x.n.sec) rfl
          have c11:=hc.cell 11 (v:=.int .i64 x.n.ak) rfl
          go_simp
          first
           | exact ⟨rfl,Below.refl _ _⟩
           | exact ⟨rfl,HOF.out w1_ hz⟩
           | exact ⟨rfl,HEN.out w1_ hz⟩
           | ((first | rw [decide_eq_true (by omega)] | rw [decide_eq_false (by omega)] | rw [if_pos (by omega)] | rw [IntWalk.i64_in _ (by omega)]);exact ⟨rfl,Below.refl _ _⟩)
           | done
        case nexta =>
        intro w4 hb4
        have HB5:=Lib.hid (HB4.out.trans (hb4.mono HB4.out.size))
        have HBI5:=Lib.hid (HBI4.out.trans (hb4.mono HBI4.out.size))
        clear hb4
        rcases HFK.out with ⟨rfl,hk0⟩ | ⟨rfl,q,hkq,hlv⟩
        ·go_wp2_with fail
         go_roundw
         case rel=>exact ⟨k + 1,by omega,by go_num,.inr ⟨k,rfl,by rw [HEK.out],rfl⟩,fun i hi=>absurd hi (by omega),HBI5.out⟩
         case measure=>simp [intOf];omega
        ·have HKQ:=Lib.hid hkq
         have HLV:=Lib.hid hlv
         clear hkq hlv
         by_cases hle:ek ≤ lv
         ·have hdl:decide (ek ≤ lv) = true:=decide_eq_true hle
          have HV:=Lib.hid (show errZ S l = 17 by
           rw [HTH2.out,riseI_no (i:=q) (by rw [length_endL];have:=HKQ.out;omega) (by rw [← HKQ.out,HEK.out,← HLV.out];exact hle)]
           rfl)
          clear hle
          go_wp2_with fail
          go_ret
          exact ⟨by rw [HV.out];rfl,HB5.out⟩
         ·have hdl:decide (ek ≤ lv) = false:=decide_eq_false hle
          have HLT:=Lib.hid (show (endL S l).getD q 0 < (endL S l).getD k 0 by rw [HEK.out,← HLV.out];omega)
          clear hle
          go_wp2_with fail
          go_roundw
          case rel =>
           refine ⟨k + 1,by omega,by go_num,.inr ⟨k,rfl,by rw [HEK.out],rfl⟩,fun i hi=>?_,HBI5.out⟩
           rcases Nat.lt_or_ge (i + 1) k with g | g
           ·exact HNO.out i g
           ·have:=HKQ.out
            obtain rfl:i = q:=by omega
            rw [← HKQ.out];exact HLT.out
          case measure=>simp [intOf];omega
       ·obtain rfl:k = l.length - 1:=by omega
        have hd:decide (((l.length - 1:Nat):Int) < ((l.length - 1:Nat):Int)) = false:=decide_eq_false (by omega)
        have HV:=Lib.hid (show errZ S l = 0 by
         rw [HTH2.out,riseI_iff.2 (fun i hi=>HNO.out i (by rw [length_endL] at hi;omega))]
         rfl)
        have hlf2:∃ a b,u10 = a∧u11 = b:=⟨_,_,rfl,rfl⟩
        clear hlf hlt hk
        go_wp2_with fail
        go_ret
        exact ⟨by rw [HV.out];rfl,HBW3.out⟩
end
section -- GEnds
open Go Go.RowKit Go.Shelf
def intsV (l:List Int):List Value:=l.map fun n=>.int .i64 n
theorem intsV_append (l m:List Int):intsV (l ++ m) = intsV l ++ intsV m:=by simp [intsV]
theorem intsV_at (l:List Int) (j:Nat) (h:j < l.length):(intsV l)[j]? = some (.int .i64 l[j]):=by simp [intsV,h]
theorem infoInt:(Tryz.prog.info? 3).map (fun i=>(i.zero,i.size,i.bytes)) = some (some (.int .i64 0),1,8):=by kernel_rfl
def Nums (w:World) (B:Nat) (v:Value) (l:List Int):Prop:=Sl w B 1 v l.length (intsV l)
theorem Nums.below {w w':World} {B:Nat} {v:Value} {l:List Int} (h:Nums w B v l) (hb:Below B w w'):Nums w' B v l:=Sl.below h hb
theorem Nums.form {w:World} {B:Nat} {v:Value} {l:List Int} (h:Nums w B v l):∃ A c,v = .slice A l.length c∧l.length ≤ c∧c ≤ maxLen:=by obtain ⟨A,c,e,h1,h2,_⟩:=h;exact ⟨A,c,e,h1,h2⟩
theorem Nums.cells {w:World} {B:Nat} {v:Value} {l:List Int} (h:Nums w B v l) (hl:0 < l.length):∃ b o c,v = .slice (some ⟨b,o,none⟩) l.length c∧b < B∧∀ i (hi:i < l.length),w.cell? ⟨b,o + i,none⟩ = some (.int .i64 l[i]):=by
 obtain ⟨b,o,c,e,hb,hc⟩:=Sl.at_ h hl
 exact ⟨b,o,c,e,hb,fun i hi=>hc i _ (intsV_at l i hi)⟩
def EndsPost (w:World) (S:List SetF) (l:List EraF) (o:Ending) (w':World):Prop :=
 (∃ v,o = .returned (.tuple #[v,.int .i64 (errZ S l)])∧(errZ S l = 0→w'.ownsRow w.heap.size 3 1 v (endL S l).length (intsV (endL S l)))∧(errZ S l ≠ 0→v = .slice none 0 0))∧Below w.heap.size w w'
theorem zends_any (zn:ByteArray) (ev sv:Value) (B:Nat) (l:List EraF) (S:List SetF) (w:World) (hz:ZW w B ev sv l S) (ho:ZOk l S) :
  Calls Tryz.prog 14 #[zoneA zn ev,setsV zn ev sv] w (EndsPost w S l):=by
 obtain ⟨A,cA,rfl,hlc,hcm⟩:=hz.eras.form
 unfold maxLen at hcm
 have hb0:Below w.heap.size w (w.alloc (.cells #[.string zn,.slice A l.length cA] 24)):=(Below.refl w.heap.size w).alloc (Nat.le_refl _) _
 have HX:=Lib.hid (Blk.new w 24 #[.string zn,.slice A l.length cA])
 have HZ:=Lib.hid (hz.below hb0)
 have HB:=Lib.hid hb0
 have HO:=Lib.hid ho
 have HZ0:=Lib.hid hz
 have HC:=Lib.hid (zcheckZ_any zn (.slice A l.length cA) sv B l S _ HZ.out ho)
 obtain ⟨i0,hi,hz0,hz1,hz2⟩:=info_parts infoInt
 clear hz hb0 ho
 obtain ⟨E,hE⟩:∃ e,errZ S l = e:=⟨_,rfl⟩
 rw [hE] at HC
 have HE:=Lib.hid hE
 unfold setsV zoneA worldA at HC ⊢
 clear hE
 by_cases hE0:E = 0
 ·subst hE0
  obtain ⟨hl0,-,hat,-⟩:=errZ_zero HE.out
  have HERR:=Lib.hid hat
  have hl1:0 < l.length:=by omega
  have hsub:wrap64 ((l.length:Int) - 1) = (l.length:Int) - 1:=IntWalk.wrap64_in _ (by omega)
  clear hat hl0
  go_enter Tryz.func14,Tryz.ntmps14
  go_wp2_with fail
  refine HC.out.mono ?_
  rintro o w1 ⟨rfl,hb⟩
  have HX1:=Lib.hid (HX.out.below hb HX.out.lt)
  have HB1:=Lib.hid (HB.out.trans (hb.mono HB.out.size))
  have x1:=HX1.out.cell 1 (v:=.slice A l.length cA) rfl
  have hxl:=HX1.out.lt
  clear hb HC HX HB HZ
  go_wp2_with fail
  go_loopw [7,26] (fun u iv wr=>∃ k:Nat,k ≤ l.length - 1∧iv = .int .i64 k∧wr.ownsRow w.heap.size 3 1 u ((endL S l).take k).length (intsV ((endL S l).take k))∧Below w.heap.size w wr) (fun _ iv _=>l.length - (intOf iv).toNat)
  case atStart=>exact ⟨0,Nat.zero_le _,rfl,World.ownsRow_nil _ _ _ _,HB1.out⟩
  case round =>
   obtain ⟨k,hk,rfl,hown,hbw⟩:=hrel
   have HOW:=Lib.hid hown
   have HBW:=Lib.hid hbw
   have HZ2:=Lib.hid (HZ0.out.below hbw)
   obtain ⟨A5,c5,hu⟩:=(Sl.of_own hown).form
   have hlen:((endL S l).take k).length = k:=by rw [List.length_take,length_endL];omega
   rw [hlen] at HOW hu
   subst hu
   have HLEN:=Lib.hid hlen
   clear hown hbw hlen
   by_cases hlt:k < l.length - 1
   ·have hd:decide ((k:Int) < ((l.length - 1:Nat):Int)) = true:=decide_eq_true (by omega)
    have hlk:k < l.length:=by omega
    obtain ⟨bb,o,c',e,hbb,hc⟩:=HZ2.out.eras.cells (by omega)
    cases e
    have hx:=hc k hlk
    have her:=HERR.out k hlk
    rw [errAt_eq hlk,decide_eq_false (by omega)] at her
    have hen:=endL_get (S:=S) (l:=l) (i:=k) (by omega)
    have htk:(endL S l).take (k + 1) = (endL S l).take k ++ [(endL S l).getD k 0]:=by
     have h9:k < (endL S l).length:=by rw [length_endL];omega
     rw [List.take_succ_eq_append_getElem h9,List.getD_eq_getElem?_getD,List.getElem?_eq_getElem h9]
     rfl
    obtain ⟨x,hxk⟩:∃ x,l[k] = x:=⟨_,rfl⟩
    rw [hxk] at hx her hen
    obtain ⟨-,hof,hsf,hee,-,hnb⟩:=errE_zero her
    have hee2:x.en = true:=hee
    have hV:endV x.n x.ru x.en (ruleE S x) = ((endL S l).getD k 0,0):=by
     unfold endV
     rw [hee2,hnb hee2,hen]
     rfl
    obtain ⟨c0,c1,c2,c3,c4,c5,c6,c7,c8,c9,c10,c11⟩:=hx
    have hb3:=HBW.out.alloc HBW.out.size (.cells (eraC x.n x.ru x.fm x.en) 42)
    have HZ4:=Lib.hid (HZ0.out.below hb3)
    have HE4:=Lib.hid (Blk.new wr 42 (eraC x.n x.ru x.fm x.en))
    have HOW4:=Lib.hid (HOW.out.alloc (.cells (eraC x.n x.ru x.fm x.en) 42))
    have HOF:=Lib.hid (fun (W:World) (h:ZW W B (.slice (some ⟨bb,o,none⟩) l.length cA) sv l S)=>zof_any W zn (.slice (some ⟨bb,o,none⟩) l.length cA) sv B S h.sets h.le x)
    have HEN:=Lib.hid (fun (W:World) (h:ZW W B (.slice (some ⟨bb,o,none⟩) l.length cA) sv l S)=>zend_any W x.n x.ru x.fm x.en B (rvalE S x) (ruleE S x) ⟨h.sets.rule x,h.ahead,h.tab,h.le⟩ (HO.out.rule x) (by omega) (by omega))
    obtain ⟨ek,hek⟩:∃ z,(endL S l).getD k 0 = z:=⟨_,rfl⟩
    rw [hek] at hV htk
    rw [hV] at HEN
    have HTK:=Lib.hid htk
    obtain ⟨A3,c3',e3⟩:=rvalE_form HZ4.out.sets x
    rw [e3] at HOF HEN
    unfold setsV worldA eraA at HOF
    unfold eraA at HEN
    unfold eraC at hb3 HZ4 HE4 HOW4
    have HB4:=Lib.hid hb3
    have hul:=HOW.out.lt
    clear hc hxk hb3 her hen hV hek hof hsf hee hee2 hnb htk
    go_wp2_with fail
    obtain ⟨W3,hW3⟩:∃ W,wr.alloc (.cells #[.int .i64 x.n.off,.string x.ru,.int .i64 x.n.save,.string x.fm,.bool x.en,.int .i64 x.n.year,.int .i64 x.n.month,.int .i64 x.n.dk,.int .i64 x.n.dw,.int .i64 x.n.dn,.int .i64 x.n.sec,.int .i64 x.n.ak] 42) = W:=⟨_,rfl⟩
    rw [hW3] at HB4 HZ4 HE4 HOW4
    try simp only [hW3]
    clear hW3
    refine wp_env (fin:=?fna) (by kernel_rfl) [31,32,33,34,35,30,36,37,10,11]
     [.agg #[.int .i64 x.n.off,.string x.ru,.int .i64 x.n.save,.string x.fm,.bool x.en,.int .i64 x.n.year,.int .i64 x.n.month,.int .i64 x.n.dk,.int .i64 x.n.dw,.int .i64 x.n.dn,.int .i64 x.n.sec,.int .i64 x.n.ak],.func (.func 15) #[.agg #[.string zn,.slice (some ⟨bb,o,none⟩) l.length cA,sv]] #[],.agg #[.int .i64 x.n.off,.string x.ru,.int .i64 x.n.save,.string x.fm,.bool x.en,.int .i64 x.n.year,.int .i64 x.n.month,.int .i64 x.n.dk,.int .i64 x.n.dw,.int .i64 x.n.dn,.int .i64 x.n.sec,.int .i64 x.n.ak],.slice A3 (ruleE S x).length c3',.tuple #[.int .i64 ek,.int .i64 0],.tuple #[.int .i64 ek,.int .i64 0],.int .i64 ek,.int .i64 0,.int .i64 ek,.int .i64 0] (by kernel_rfl) ?fina ?stepsa ?nexta
    case fina =>
     simp only [putAll,Act.put,List.setIfInBounds_toArray,List.set_cons_succ,List.set_cons_zero]
     rfl
    case stepsa =>
     refine ⟨?_,?_,?_,?_,?_,?_,?_,?_,?_,?_,trivial⟩
     all_goals refine .inr ⟨by kernel_rfl,fun w1_ hB_=>?_⟩
     all_goals
      have hc:=HE4.out.below hB_ HE4.out.lt
      have hz:=HZ4.out.below hB_
      have c0:=hc.cell 0 (v:=.int .i64 x.n.off) rfl
      have c1:=hc.cell 1 (v:=.string x.ru) rfl
      have c2:=hc.cell 2 (v:=.int .i64 x.n.save) rfl
      have c3:=hc.cell 3 (v:=.string x.fm) rfl
      have c4:=hc.cell 4 (v:=.bool x.en) rfl
      have c5:=hc.cell 5 (v:=.int .i64 x.n.year) rfl
      have c6:=hc.cell 6 (v:=.int .i64 x.n.month) rfl
      have c7:=hc.cell 7 (v:=.int .i64 x.n.dk) rfl
      have c8:=hc.cell 8 (v:=.int .i64 x.n.dw) rfl
      have c9:=hc.cell 9 (v:=.int .i64 x.n.dn) rfl
      have c10:=hc.cell 10 (v:=.int .i64 x.n.sec) rfl
      have c11:=hc.cell 11 (v:=.int .i64 x.n.ak) rfl
      go_simp
      first
       | exact ⟨rfl,Below.refl _ _⟩
       | exact ⟨rfl,HOF.out w1_ hz⟩
       | exact ⟨rfl,HEN.out w1_ hz⟩
       | ((first | rw [decide_eq_true (by omega)] | rw [decide_eq_false (by omega)] | rw [if_pos (by omega)] | rw [IntWalk.i64_in _ (by omega)]);exact ⟨rfl,Below.refl _ _⟩)
       | done
    case nexta =>
    intro w4 hb4
    have hb5:=HB4.out.trans (hb4.mono HB4.out.size)
    have HOW5:=Lib.hid (ownsRow_below HOW4.out hb4)
    clear hb4
    have hkb:k ≤ 1000000:=by have:=HO.out.len;omega
    go_wp2_with ((at_builtin;refine wpList_append_own _ rfl _ _ 28 rfl (w.heap.size) 3 i0 (.int .i64 0) 1 8 Tryz.underlying28 hi hz0 hz1 hz2 rfl (by decide) _ _ _ rfl (HOW5.out.alloc _) ⟨w4.heap.size,0,none⟩ 1 1 [.int .i64 ek] rfl rfl (cell_one_new _ _ _) (by simp [Value.oneCell']) (by unfold maxLen;omega) (by omega) (by have:=hb5.size;simp <;> omega) ?_;intro v' w1 hown' hgrow _))
    go_roundw
    case rel =>
     refine ⟨k + 1,by omega,by go_num,?_,below_push hb5 HOW5.out hgrow⟩
     rw [HTK.out,intsV_append,List.length_append,HLEN.out]
     exact hown'
    case measure=>first | (simp [intOf];done) | (simp [intOf];omega)
   ·obtain rfl:k = l.length - 1:=by omega
    have hd:decide (((l.length - 1:Nat):Int) < ((l.length - 1:Nat):Int)) = false:=decide_eq_false (by omega)
    have HOE:=Lib.hid (show wr.ownsRow w.heap.size 3 1 (.slice A5 (l.length - 1) c5) (endL S l).length (intsV (endL S l)) by
     have h:=HOW.out
     rw [List.take_of_length_le (by rw [length_endL];exact Nat.le_refl _)] at h
     rw [length_endL]
     exact h)
    go_wp2_with fail
    go_ret2
    exact ⟨⟨_,by rw [HE.out];rfl,fun _=>HOE.out,fun h=>absurd HE.out h⟩,HBW.out⟩
 ·have he0:(E != 0) = true:=by simpa using hE0
  have HN:=Lib.hid hE0
  clear hE0
  go_enter Tryz.func14,Tryz.ntmps14
  go_wp2_with fail
  refine HC.out.mono ?_
  rintro o w1 ⟨rfl,hb⟩
  have HB1:=Lib.hid (HB.out.trans (hb.mono HB.out.size))
  clear hb HC HX HB HZ
  go_wp2_with fail
  go_ret2
  exact ⟨⟨_,by rw [HE.out];rfl,fun h=>absurd (HE.out.symm.trans h) HN.out,fun _=>rfl⟩,HB1.out⟩
theorem zera_any (w:World) (B:Nat) (v:Value) (l:List Int) (i:Int) (hv:Nums w B v l) :
  Calls Tryz.prog 50 #[v,.int .i64 i] w fun o w'=>o = .returned (.int .i64 (eraI l i:Nat))∧w = w':=by
 obtain ⟨A,c,rfl,hlc,hcm⟩:=hv.form
 unfold maxLen at hcm
 have HV:=Lib.hid hv
 clear hv
 go_enter Tryz.func50,Tryz.ntmps50
 go_wp2_with fail
 go_loopw [9] (fun iv wr=>∃ k:Nat,k ≤ l.length∧iv = .int .i64 k∧(∀ j (h:j < l.length),j < k→¬ i < l[j])∧wr = w) (fun iv _=>l.length - (intOf iv).toNat)
 case atStart=>exact ⟨0,Nat.zero_le _,rfl,fun j _ h=>absurd h (by omega),rfl⟩
 case round =>
  obtain ⟨k,hk,rfl,hno,rfl⟩:=hrel
  have HNO:=Lib.hid hno
  clear hno
  by_cases hlt:k < l.length
  ·have hd:decide ((k:Int) < (l.length:Int)) = true:=decide_eq_true (by omega)
   obtain ⟨bb,o,c',e,hbb,hc⟩:=HV.out.cells (by omega)
   cases e
   have HLT:=Lib.hid hlt
   obtain ⟨n,hn⟩:∃ n:Int,l[k]'hlt = n:=⟨_,rfl⟩
   have HN:=Lib.hid hn
   have c0:wr.cell? ⟨bb,o + k,none⟩ = some (.int .i64 n):=by rw [← hn];exact hc k hlt
   clear hc hn
   by_cases h:i < n
   ·have hdi:decide (i < n) = true:=decide_eq_true h
    have HE:=Lib.hid (eraI_at HLT.out HNO.out (by rw [HN.out];exact h))
    clear h
    go_wp2_with fail
    go_ret
    exact ⟨by rw [HE.out];rfl,rfl⟩
   ·have hdi:decide (i < n) = false:=decide_eq_false h
    have HH:=Lib.hid h
    clear h
    go_wp2_with fail
    go_roundw
    case rel =>
     refine ⟨k + 1,by omega,by go_num,fun j h hjk=>?_,by trivial⟩
     rcases Nat.lt_or_ge j k with g | g
     ·exact HNO.out j h g
     ·obtain rfl:j = k:=by omega
      rw [HN.out];exact HH.out
    case measure=>simp [intOf];omega
  ·obtain rfl:k = l.length:=by omega
   have hd:decide ((l.length:Int) < (l.length:Int)) = false:=decide_eq_false (by omega)
   have HE:=Lib.hid (eraI_none (i:=i) (fun j h=>HNO.out j h h))
   go_wp2_with fail
   go_ret
   exact ⟨by rw [HE.out];rfl,rfl⟩
end
end Go.Proofs.YteekjfgjmccdnaaGreatDoor
