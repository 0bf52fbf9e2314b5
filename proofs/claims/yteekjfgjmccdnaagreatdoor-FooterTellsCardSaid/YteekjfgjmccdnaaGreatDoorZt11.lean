/-
  Layer 15's reference: which footer a last era has, walked.
-/
import Derived.Lib.MinMax
import Derived.Deep.QuietTactic
import Derived.BigQuiet
import Derived.WalkKit
import Derived.Test.YteekjfgjmccdnaaGreatDoorChecked
import Derived.Lib.Hide
import Derived.IntWalk
import Derived.Lib.Strings
import Derived.Test.YteekjfgjmccdnaaGreatDoorZt10
set_option maxHeartbeats 16000000
set_option maxRecDepth 100000
namespace Go.Proofs.YteekjfgjmccdnaaGreatDoor
section -- HSpecM
open Go Go.RowKit Go.Shelf
end
section -- HSpecZ
open Go Go.RowKit Go.Shelf
theorem getD_atZ {E:List Int} {j:Nat} (hj:j < E.length):E.getD j 0 = E[j]:=by rw [List.getD_eq_getElem?_getD,List.getElem?_eq_getElem hj];rfl
section
variable {l:List Rul} {A:List Fir}
theorem RightR.saved (h:RightR l A) (f:Fir):-90000 < savedF l f∧savedF l f < 90000:=by
 unfold savedF
 cases hg:aheadF l f.nominal with
 | none=>exact (by decide:(-90000:Int) < 0∧(0:Int) < 90000)
 | some g=>exact h.save_all (ahead_mem hg).1
end
theorem endLoop_save {m:Int}:∀ {xs:List (Int × Fir)} {sv:Int},(-90000 < sv∧sv < 90000)→(∀ x ∈ xs,-90000 < x.2.save∧x.2.save < 90000)→-90000 < endLoop m sv xs∧endLoop m sv xs < 90000
 | [],_,h,_=>h
 | x :: t,sv,h,h2=>by
   unfold endLoop
   split
   ·exact h
   ·exact endLoop_save (h2 x List.mem_cons_self) fun y hy=>h2 y (List.mem_cons_of_mem _ hy)
theorem endSave_few {R:List Rul} {A:List Fir} (h:RightR R A) (off n:Int):-90000 < endSave R off n∧endSave R off n < 90000:=by
 unfold endSave
 refine endLoop_save ?_ fun x hx=>h.save_all (firedF_mem hx)
 cases hl:latestF R off (n - 360000) with
 | none=>exact (by decide:(-90000:Int) < 0∧(0:Int) < 90000)
 | some f=>exact h.save_all (latestF_mem hl)
structure FewZ (S:List SetF) (l:List EraF):Prop where
 err:errZ S l = 0
 few:fewB l S = true
section
variable {S:List SetF} {l:List EraF}
theorem FewZ.right (h:FewZ S l) (x:EraF):∃ A,RightR (ruleE S x) A:=by
 obtain ⟨A,hA,-,-⟩:=right_yes (rule_right (fewB_iff.1 h.few).2.1 x)
 exact ⟨A,hA⟩
theorem FewZ.pos (h:FewZ S l):0 < l.length:=by
 have:=(errZ_zero h.err).1
 omega
theorem FewZ.off (h:FewZ S l) {k:Nat} (hk:k < l.length):-90000 < l[k].n.off∧l[k].n.off < 90000:=(errZ_off h.err hk).1
theorem FewZ.ends (h:FewZ S l):∀ e ∈ endL S l,-2501000000 ≤ e∧e ≤ 4001000000:=by
 intro e he
 obtain ⟨i,hi,rfl⟩:=List.getElem_of_mem he
 have hil:=hi
 rw [length_endL] at hil
 obtain ⟨h0,-,hat,-⟩:=errZ_zero h.err
 have hE:=endL_at (S:=S) (l:=l) (i:=i) (by omega)
 rw [List.getElem?_eq_getElem hi] at hE
 have hE:=Option.some.inj hE
 have her:=hat i (by omega)
 rw [errAt_eq (by omega),decide_eq_false (by omega)] at her
 obtain ⟨-,hof,hsv,hen,-,hno⟩:=errE_zero her
 have hn:=nomV_in (hno hen)
 have hok:=eraFew_end ((fewB_iff.1 h.few).1 l[i] (List.getElem_mem _)) hen
 have hnm:-2500000000 ≤ nomV l[i].n∧nomV l[i].n ≤ 4000000000:=by
  rcases hok.nom_in with g | g
  ·exact g
  ·rw [← hok.nomB_eq hn.2.2,hno hen] at g
   cases g
 obtain ⟨A,hA⟩:=h.right l[i]
 have hsv2:=endSave_few hA l[i].n.off (nomV l[i].n)
 rw [hE]
 unfold endN
 split
 ·omega
 ·split
  ·omega
  ·split <;> omega
theorem FewZ.lt (h:FewZ S l):∀ (d i:Nat),i + d + 1 < (endL S l).length→(endL S l).getD i 0 < (endL S l).getD (i + d + 1) 0
 | 0,i,hj=>riseI_iff.1 (errZ_zero h.err).2.2.2 i hj
 | d + 1,i,hj=>by
   have h1:=h.lt d i (by omega)
   have h2:=riseI_iff.1 (errZ_zero h.err).2.2.2 (i + d + 1) hj
   rw [show i + (d + 1) + 1 = i + d + 1 + 1 by omega]
   omega
theorem FewZ.mono (h:FewZ S l) {i j:Nat} (hij:i < j) (hj:j < (endL S l).length):(endL S l)[i] < (endL S l)[j]:=by
 have:=h.lt (j - i - 1) i (by omega)
 rw [show i + (j - i - 1) + 1 = j by omega,getD_atZ (by omega),getD_atZ hj] at this
 exact this
theorem FewZ.era (h:FewZ S l) {k:Nat} (hk:k < l.length) {i:Int} (h1:fromV (endL S l) k ≤ i) (h2:i < toV (endL S l) k):eraI (endL S l) i = k:=by
 have hle:=length_endL S l
 have hno:∀ j (hj:j < (endL S l).length),j < k→¬ i < (endL S l)[j]:=fun j hj hjk=>by
  unfold fromV at h1
  rw [if_neg (by omega),toV_at (show k - 1 < (endL S l).length by omega)] at h1
  by_cases e:j = k - 1
  ·subst e
   omega
  ·have:=h.mono (show j < k - 1 by omega) (show k - 1 < (endL S l).length by omega)
   omega
 by_cases hj:k < (endL S l).length
 ·rw [toV_at hj] at h2
  exact eraI_at hj hno h2
 ·rw [eraI_none (fun j hj2=>hno j hj2 (by omega))]
  omega
theorem FewZ.loc (h:FewZ S l) {k:Nat} (hk:k < l.length) {i:Int} (h1:fromV (endL S l) k ≤ i) (h2:i < toV (endL S l) k) (h3:-2199023255552 ≤ i) (h4:i ≤ 2199023255552):locZ S l i = locW l[k] (ruleE S l[k]) i:=by
 have hax:atX S l i = l[k]:=by unfold atX;rw [h.era hk h1 h2,List.getD_eq_getElem?_getD,List.getElem?_eq_getElem hk];rfl
 unfold locZ
 rw [if_neg (fun e=>e h.err),if_neg (by omega),hax]
end
end
section -- HPut
open Go Go.RowKit Go.Shelf
end
section -- HRefM
open Go Go.RowKit Go.Shelf
structure RowsZ (S:List SetF) (l:List EraF) (R:List RowF):Prop where
 len:R.length = l.length
 ok:∀ i (h:i < R.length) (h2:i < l.length),RowOk S l[i] R[i]
section
variable {S:List SetF} {l:List EraF} {R:List RowF}
theorem FewZ.kind (h:FewZ S l) {k:Nat} (hk:k < l.length):(kindR l[k].fm.data.toList).2 = 0:=by
 have her:=(errZ_zero h.err).2.2.1 k hk
 rw [errAt_eq hk] at her
 exact (errE_zero her).1
theorem FewZ.save (h:FewZ S l) {k:Nat} (hk:k < l.length):-90000 < l[k].n.save∧l[k].n.save < 90000:=(errZ_off h.err hk).2
end
end
section -- FootM
open Go Go.RowKit Go.Shelf
theorem ftof_any (zn zn2:ByteArray) (ev ev2 sv:Value) (B:Nat) (l:List EraF) (S:List SetF) (w:World) (hz:ZW w B ev sv l S) (ho:ZOk l S) (hfo:frOk S) :
  Calls Tryz.prog 22 #[zoneA zn ev,setsV zn2 ev2 sv] w (FootPost w S l):=by
 by_cases he:errZ S l = 0
 ·exact fof_ok zn zn2 ev ev2 sv B l S w hz ho hfo he
 ·exact fof_err zn zn2 ev ev2 sv B l S w hz ho he
structure FootGood (F:Foot):Prop where
 off:-90000 < F.off∧F.off < 90000
 save:-90000 < F.save∧F.save < 90000
 kind:(kindR F.fm.data.toList).2 = 0
 fires:∀ f,Fires F.rules f→-90000 < f.save∧f.save < 90000
 since:-2199023255552 ≤ F.since
 letl:letOk F.rules
 letter:F.letter.size ≤ 140737488351232
 fm:F.fm.size < 4294967281
 ok:RuOk F.rules
theorem saves_good {F:Foot} (h:FootGood F) (i:Int):(-90000 < (savesV (eraO F) ⟨#[45]⟩ F.rules i).1∧(savesV (eraO F) ⟨#[45]⟩ F.rules i).1 < 90000)∧(savesV (eraO F) ⟨#[45]⟩ F.rules i).2.size ≤ 140737488351232:=by
 unfold savesV
 rw [if_neg (by decide)]
 cases hl:latestF F.rules (eraO F).off i with
 | none=>exact ⟨⟨by show (-90000:Int) < 0;omega,by show (0:Int) < 90000;omega⟩,letV_in h.letl⟩
 | some f=>exact ⟨h.fires f (latestF_mem hl),fires_let h.letl (latestF_mem hl)⟩
theorem FootGood.footOk {F:Foot} (h:FootGood F):FootOk F where
 off:=⟨by have:=h.off;omega,by have:=h.off;omega⟩
 save:=⟨by have:=h.save;omega,by have:=h.save;omega⟩
 letter:=h.letter
 fm:=h.fm
 since:=by have:=h.since;omega
 ok:=h.ok
 sum:=fun i _ _=>by
  have:=saves_good h i
  exact ⟨⟨by omega,by omega⟩,this.2⟩
theorem fr_few {l:List EraF} {S:List SetF} (h:fewB l S = true):frOk S:=fun s hs r hr=>by
 have h1:=(rightB_iff.1 ((fewB_iff.1 h).2.1 s hs)).1
 unfold smallB at h1
 rw [Bool.and_eq_true,List.all_eq_true] at h1
 have h2:=h1.1 r hr
 unfold smallR at h2
 simp only [Bool.and_eq_true,decide_eq_true_eq] at h2
 omega
end
section -- FAwake
open Go Go.RowKit Go.Shelf
def cetF:EraF:=⟨cetE,⟨#[]⟩,cetS,false⟩
def cetFoot:Foot:=⟨-2199023255552,3600,0,⟨#[]⟩,cetS,[]⟩
theorem cet_errZ:errZ [] [cetF] = 0:=by kernel_rfl
theorem cet_foot:footZ [] [cetF] = cetFoot:=by kernel_rfl
theorem cet_at:fatV cetFoot 2199023255552 = .tuple #[.agg #[.int .i64 3600,.bool false,.string ⟨#[67,69,84]⟩],.int .i64 0]:=by kernel_rfl
theorem cet_good:FootGood cetFoot where
 off:=by decide
 save:=by decide
 kind:=by kernel_rfl
 fires:=fun f hf=>(by obtain ⟨r,hr,-⟩:=hf;cases hr)
 since:=by decide
 letl:=fun r hr=>(by cases hr)
 letter:=by decide
 fm:=by decide
 ok:=ruok_nil
theorem cet_ok:FootOk cetFoot:=cet_good.footOk
theorem cet_zok:ZOk [cetF] [] where
 fm:=fun x hx=>(by rw [List.mem_singleton] at hx;subst hx;decide)
 rul:=fun s hs=>(by cases hs)
 len:=by decide
theorem cet_fr:frOk []:=fun s hs=>(by cases hs)
theorem own_eraO (w:World) (cs:Array Value) (h:cs.size = 12):(w.alloc (.cells cs 42)).ownsRow w.heap.size 42 12 (.slice (some ⟨w.heap.size,0,none⟩) 1 1) 1 cs.toList :=
 ⟨by simp [h],.inr ⟨w.heap.size,1,cs,rfl,Nat.le_refl _,World.alloc_heap_new _ _,Nat.le_refl _,by decide,by simp [h],List.take_of_length_le (by simp [h])⟩⟩
theorem fawake_any (w:World) (ha:Ahead w) (htab:0 < w.heap.size) (hm:Tryz.MaxL w) :
  Calls Tryz.prog 21 #[] w fun e w'=>e = .returned (.bool true)∧Below w.heap.size w w':=by
 have hb0:Below w.heap.size w ((w.alloc (.cells (eraP cetE cetS).toArray 42)).alloc (.cells #[.string ⟨#[88]⟩,.slice (some ⟨w.heap.size,0,none⟩) 1 1,.slice none 0 0] 27)):=((Below.refl w.heap.size w).alloc (Nat.le_refl _) _).alloc (by simp) _
 have hw0:=Blk.new (w.alloc (.cells (eraP cetE cetS).toArray 42)) 27 #[.string ⟨#[88]⟩,.slice (some ⟨w.heap.size,0,none⟩) 1 1,.slice none 0 0]
 have he0:ErasR ((w.alloc (.cells (eraP cetE cetS).toArray 42)).alloc (.cells #[.string ⟨#[88]⟩,.slice (some ⟨w.heap.size,0,none⟩) 1 1,.slice none 0 0] 27)) ((w.alloc (.cells (eraP cetE cetS).toArray 42)).alloc (.cells #[.string ⟨#[88]⟩,.slice (some ⟨w.heap.size,0,none⟩) 1 1,.slice none 0 0] 27)).heap.size (.slice (some ⟨w.heap.size,0,none⟩) 1 1) [cetF]:=Sl.of_own ((own_eraO w (eraP cetE cetS).toArray rfl).alloc _)
 rw [World.size_alloc] at hw0
 have HZ:=Lib.hid (ZW.mk he0 (show SetsR _ _ (.slice none 0 0) [] from ⟨Sl.nil _ _ _,fun s hs=>by cases hs⟩) (ha.below hb0 (Nat.le_refl _)) (Nat.lt_of_lt_of_le htab hb0.size) (hm.below hb0 (Nat.le_refl _)) (Nat.le_refl _))
 have HB0:=Lib.hid hb0
 have hof:=ftof_any ⟨#[88]⟩ ⟨#[88]⟩ (.slice (some ⟨w.heap.size,0,none⟩) 1 1) (.slice (some ⟨w.heap.size,0,none⟩) 1 1) (.slice none 0 0) _ [cetF] [] _ HZ.out cet_zok cet_fr
 unfold FootPost at hof
 rw [cet_errZ,cet_foot] at hof
 have HOF:=Lib.hid hof
 have HAH:=Lib.hid (fun (W:World) (h:Below w.heap.size w W)=>And.intro (ha.below h (Nat.le_refl _)) (hm.below h (Nat.le_refl _)))
 have HTB:=Lib.hid htab
 simp only [zoneA,setsV,worldA,footA,cetFoot,cetS] at HOF
 have HW0:=Lib.hid hw0
 unfold eraP cetE cetS at HB0 HW0
 simp only [eraP,cetE] at HOF
 clear hb0 hw0 he0 hof ha hm HZ
 go_enter Tryz.func21,Tryz.ntmps21
 have q0:=HW0.out.cell 0 (v:=.string ⟨#[88]⟩) rfl
 have q1:=HW0.out.cell 1 (v:=.slice (some ⟨w.heap.size,0,none⟩) 1 1) rfl
 have q2:=HW0.out.cell 2 (v:=.slice none 0 0) rfl
 have ql:=HW0.out.lt
 go_wp2_with fail
 refine HOF.out.mono ?_
 rintro o w1 ⟨⟨u,rfl,how⟩,hb⟩
 have HOW:=Lib.hid how
 have hb1:=HB0.out.trans (hb.mono HB0.out.size)
 have hs1:=hb1.size
 obtain ⟨Au,cu,rfl⟩:=(Sl.of_own how).form
 have hfx:=Blk.new w1 54 #[.int .i64 (-2199023255552),.int .i64 3600,.int .i64 0,.string ⟨#[]⟩,.string ⟨#[67,69,84]⟩,.slice Au 0 cu]
 have hb2:=hb1.alloc hs1 (.cells #[.int .i64 (-2199023255552),.int .i64 3600,.int .i64 0,.string ⟨#[]⟩,.string ⟨#[67,69,84]⟩,.slice Au 0 cu] 54)
 have HAT:=Lib.hid (fun (W:World) (h:Below w.heap.size w W) (hr:Ruls W W.heap.size (.slice Au 0 cu) [])=>fat_any W W.heap.size (.slice Au 0 cu) cetFoot 2199023255552 (HAH.out W h).2 (RW.mk hr (HAH.out W h).1 (Nat.lt_of_lt_of_le HTB.out h.size) (Nat.le_refl _)) cet_ok)
 rw [cet_at] at HAT
 have HEN:=Lib.hid (fun W=>fendless_any W cetFoot Au cu)
 rw [show decide (0 < cetFoot.rules.length) = false from rfl] at HEN
 simp only [footA,cetFoot,cetS] at HAT HEN
 simp only [List.length_nil] at HOW how HEN HAT ⊢
 have HFX:=Lib.hid hfx
 have HB2:=Lib.hid hb2
 have HRU:=Lib.hid (show Ruls (w1.alloc (.cells #[.int .i64 (-2199023255552),.int .i64 3600,.int .i64 0,.string ⟨#[]⟩,.string ⟨#[67,69,84]⟩,.slice Au 0 cu] 54)) (w1.alloc (.cells #[.int .i64 (-2199023255552),.int .i64 3600,.int .i64 0,.string ⟨#[]⟩,.string ⟨#[67,69,84]⟩,.slice Au 0 cu] 54)).heap.size (.slice Au 0 cu) [] from Sl.of_own (World.ownsRow.alloc HOW.out _))
 clear hb hb1 hb2 hfx how q0 q1 q2 ql HOF HW0 HB0
 go_wp2_with fail
 refine (HAT.out _ HB2.out HRU.out).mono ?_
 rintro o w2 ⟨rfl,hb⟩
 have hfy:=HFX.out.below hb HFX.out.lt
 have hb3:=HB2.out.trans (hb.mono HB2.out.size)
 have hs3:=hb3.size
 have HFY:=Lib.hid (hfy.alloc (.cells #[.int .i64 3600,.bool false,.string ⟨#[67,69,84]⟩] 48))
 have HLY:=Lib.hid (Blk.new w2 48 #[.int .i64 3600,.bool false,.string ⟨#[67,69,84]⟩])
 have HB3:=Lib.hid (hb3.alloc hs3 (.cells #[.int .i64 3600,.bool false,.string ⟨#[67,69,84]⟩] 48))
 have fc0:=hfy.cell 0 (v:=.int .i64 (-2199023255552)) rfl
 have fc1:=hfy.cell 1 (v:=.int .i64 3600) rfl
 have fc2:=hfy.cell 2 (v:=.int .i64 0) rfl
 have fc3:=hfy.cell 3 (v:=.string ⟨#[]⟩) rfl
 have fc4:=hfy.cell 4 (v:=.string ⟨#[67,69,84]⟩) rfl
 have fc5:=hfy.cell 5 (v:=.slice Au 0 cu) rfl
 have fl:=hfy.lt
 clear hb hfy hb3 HFX HB2 HAT HRU
 go_wp2_with fail
 refine (HEN.out _).mono ?_
 rintro o w3 ⟨rfl,hb⟩
 have HB4:=Lib.hid (HB3.out.trans (hb.mono HB3.out.size))
 have hly:=HLY.out.below hb HLY.out.lt
 have l0:=hly.cell 0 (v:=.int .i64 3600) rfl
 have l1:=hly.cell 1 (v:=.bool false) rfl
 have l2:=hly.cell 2 (v:=.string ⟨#[67,69,84]⟩) rfl
 have ll:=hly.lt
 clear hb hly fc0 fc1 fc2 fc3 fc4 fc5 fl
 go_wp2_with fail
 go_ret
 exact ⟨rfl,HB4.out⟩
end
section -- EnvA
open Go Go.RowKit
section
variable {P:Program} {n:Nat} {ops:Array Oper}
end
end
section -- HRat
open Go Go.RowKit Go.Shelf
end
section -- HSame
open Go Go.RowKit Go.Shelf
def SameB (B2:Nat) (Wb W:World):Prop:=B2 ≤ Wb.heap.size∧∀ k,k < B2→W.heap[k]? = Wb.heap[k]?
section
variable {B2:Nat} {Wb W W':World}
theorem SameB.size (h:SameB B2 Wb W):B2 ≤ W.heap.size:=by
 rcases Nat.eq_zero_or_pos B2 with h0 | h0
 ·omega
 ·have h1:=h.2 (B2 - 1) (by omega)
  rw [Array.getElem?_eq_getElem (show B2 - 1 < Wb.heap.size by have:=h.1;omega)] at h1
  have:=(Array.getElem?_eq_some_iff.1 h1).1
  omega
theorem SameB.cell (h:SameB B2 Wb W) {p:Addr} (hp:p.block < B2):W.cell? p = Wb.cell? p:=World.cell?_of_block (h.2 p.block hp)
end
end
section -- HTurns
open Go Go.RowKit Go.Shelf
attribute [local go_sem] Oper.semAt_some
section
variable {eb lb:Nat} {v:Value} {yb nb lp s0:Nat} {x:EraF} {R:List Rul} {now0:Chg} {O0:Nat→Prop} {J Jx:List Chg→(Nat→Prop)→World→Prop}
end
end
section -- EnvY
open Go Go.RowKit
section
variable {P:Program} {n:Nat} {ops:Array Oper}
end
end
section -- HSteps
open Go Go.RowKit Go.Shelf
attribute [local go_sem] Oper.semAt_some
section
variable {sb fb tb yb lp s0:Nat} {sv:Value} {fr to:Int} {O0:Nat→Prop} {J Jx:List Chg→(Nat→Prop)→World→Prop} {L:List Chg} {α:Type}
end
end
section -- HChanges
open Go Go.RowKit Go.Shelf
attribute [local go_sem] Oper.semAt_some
section
variable {yb nb lp s0:Nat} {now0:Loc} {O0:Nat→Prop} {J Jx:List Chg→(Nat→Prop)→World→Prop}
end
end
section -- HMake
open Go Go.RowKit Go.Shelf
attribute [local go_sem] Oper.semAt_some
end
section -- HRch
open Go Go.RowKit Go.Shelf
section
variable {S:List SetF} {l:List EraF} {R:List RowF}
end
end
section -- HAll
open Go Go.RowKit Go.Shelf
end
section -- TSteps
open Go Go.RowKit Go.Shelf
attribute [local go_sem] Oper.semAt_some
end
section -- TChanges
open Go Go.RowKit Go.Shelf
attribute [local go_sem] Oper.semAt_some
end
section -- TMake
open Go Go.RowKit Go.Shelf
end
section -- TRise
open Go Go.RowKit
open Go Go.RowKit
end
section -- TSame
open Go Go.RowKit
end
section -- TAwake
open Go Go.RowKit Go.Shelf
end
section -- HLawM
open Go Go.RowKit Go.Shelf
end
section -- HRight
open Go Go.RowKit Go.Shelf
noncomputable def goodZ (l:List EraF) (S:List SetF):Bool:=fewB l S && decide (errZ S l = 0)
theorem good_iff {l:List EraF} {S:List SetF}:goodZ l S = true ↔ fewB l S = true∧errZ S l = 0:=by unfold goodZ;rw [Bool.and_eq_true,decide_eq_true_eq]
theorem few_okR {l:List EraF} {S:List SetF} (h:fewB l S = true):ZOk l S where
 fm:=fun x hx=>by have:=eraFew_fm ((fewB_iff.1 h).1 x hx);omega
 rul:=fun s hs=>right_ok ((fewB_iff.1 h).2.1 s hs)
 len:=by have:=(fewB_iff.1 h).2.2.1;omega
def RightPost (w:World) (l:List EraF) (S:List SetF) (o:Ending) (w':World):Prop :=
 (∃ u v,o = .returned (.tuple #[u,v,.bool (goodZ l S)])∧(goodZ l S = true→∃ R,RowsZ S l R∧RowsM w' u R∧Nums w' w'.heap.size v (endL S l)))∧Below w.heap.size w w'
theorem right14_any (w:World) (zn:ByteArray) (ev sv:Value) (B:Nat) (l:List EraF) (S:List SetF) (hz:ZW w B ev sv l S) (hfm:∀ x ∈ l,x.fm.size < 1152921504606846976) :
  Calls Tryz.prog 23 #[worldA zn ev sv] w (RightPost w l S):=by
 obtain ⟨i0,hi,hz0,hz1,hz2⟩:=info_parts infoInt
 obtain ⟨A,cA,rfl,hlc,hcm⟩:=hz.eras.form
 obtain ⟨A2,cS,rfl,hlc2,hcm2⟩:=hz.sets.form
 unfold maxLen at hcm hcm2
 obtain ⟨W0,hW0⟩:∃ W,(w.alloc (.cells #[.string zn,.slice A l.length cA,.slice A2 S.length cS] 27)) = W:=⟨_,rfl⟩
 have hb0:Below w.heap.size w W0:=by rw [← hW0];exact (Below.refl w.heap.size w).alloc (Nat.le_refl _) _
 have HXX:=Lib.hid (show Blk W0 w.heap.size 27 #[.string zn,.slice A l.length cA,.slice A2 S.length cS] by rw [← hW0];exact Blk.new w _ _)
 have HZ0:=Lib.hid (hz.below hb0)
 have HF:=Lib.hid (few_any W0 zn _ _ B l S (HZ0.out.eras) (HZ0.out.sets) HZ0.out.le hfm)
 have HB0:=Lib.hid hb0
 have HW0:=Lib.hid hW0
 have hBw:=hz.le
 clear hz hb0 hW0 hfm
 unfold worldA at HF ⊢
 go_enter Tryz.func23,Tryz.ntmps23
 go_wp2_with fail
 rw [HW0.out]
 try simp only [HW0.out]
 clear HW0
 cases hf:fewB l S with
 | false =>
   rw [hf] at HF
   have HG:=Lib.hid (show goodZ l S = false by unfold goodZ;rw [hf];rfl)
   clear hf
   refine HF.out.mono ?_
   rintro o w1 ⟨rfl,hb⟩
   have HB1:=Lib.hid (HB0.out.trans (hb.mono HB0.out.size))
   clear hb
   go_wp2_with fail
   go_ret3
   exact ⟨⟨_,_,by rw [HG.out];rfl,fun h=>by rw [HG.out] at h;cases h⟩,HB1.out⟩
 | true =>
   rw [hf] at HF
   have HFEW:=Lib.hid hf
   have HFW:=Lib.hid (fewB_iff.1 hf)
   clear hf
   refine HF.out.mono ?_
   rintro o w1 ⟨rfl,hb⟩
   have HBL:=Lib.hid hb
   have HB1:=Lib.hid (HB0.out.trans (hb.mono HB0.out.size))
   have HCK:=Lib.hid (zcheckZ_any zn _ _ B l S w1 (HZ0.out.below hb) (few_okR HFEW.out))
   unfold setsV zoneA worldA at HCK
   obtain ⟨E,hE⟩:∃ e,errZ S l = e:=⟨_,rfl⟩
   rw [hE] at HCK
   have HE:=Lib.hid hE
   have hxb:=HXX.out.below (HBL.out) HXX.out.lt
   have x0:=hxb.cell 0 (v:=.string zn) rfl
   have x1:=hxb.cell 1 (v:=.slice A l.length cA) rfl
   have x2:=hxb.cell 2 (v:=.slice A2 S.length cS) rfl
   have hxl:=hxb.lt
   clear hxb
   clear hb HF hE
   by_cases hE0:E = 0
   ·subst hE0
    have HG:=Lib.hid (show goodZ l S = true from good_iff.2 ⟨HFEW.out,HE.out⟩)
    have hl1:0 < l.length:=by have:=(errZ_zero HE.out).1;omega
    have hl4:l.length ≤ 4:=HFW.out.2.2.1
    have hn0:((l.length:Int) == 0) = false:=beq_eq_false_iff_ne.2 (by omega)
    have hn1:(l.length == 0) = false:=beq_eq_false_iff_ne.2 (by omega)
    go_wp2_with fail
    refine HCK.out.mono ?_
    rintro o w2 ⟨rfl,hb⟩
    have HBL2:=Lib.hid (HBL.out.trans (hb.mono HBL.out.size))
    have HB2:=Lib.hid (HB1.out.trans (hb.mono HB1.out.size))
    have HRW:=Lib.hid (rows_any zn _ _ B l S w2 (HZ0.out.below HBL2.out) HFW.out.2.1 (by omega))
    unfold worldA RowsPost at HRW
    clear hb x0 x1 x2 hxl HCK
    have hxb:=HXX.out.below (HBL2.out) HXX.out.lt
    have x0:=hxb.cell 0 (v:=.string zn) rfl
    have x1:=hxb.cell 1 (v:=.slice A l.length cA) rfl
    have x2:=hxb.cell 2 (v:=.slice A2 S.length cS) rfl
    have hxl:=hxb.lt
    clear hxb
    go_wp2_with fail
    refine HRW.out.mono ?_
    rintro o w3 ⟨⟨u,R,rfl,hRl,hRok,hRm⟩,hb⟩
    have HBL3:=Lib.hid (HBL2.out.trans (hb.mono HBL2.out.size))
    have HB3:=Lib.hid (HB2.out.trans (hb.mono HB2.out.size))
    have HRL:=Lib.hid hRl
    have HRO:=Lib.hid hRok
    have HRM:=Lib.hid hRm
    obtain ⟨A3,c3,rfl,-,-⟩:=hRm.form
    clear hb hRl hRok hRm x0 x1 x2 hxl HRW
    go_wp2_with fail
    go_loopw [6,7] (fun u iv wr=>∃ k:Nat,k ≤ l.length - 1∧iv = .int .i64 k∧wr.ownsRow w3.heap.size 3 1 u k (intsV ((endL S l).take k))∧Below w3.heap.size w3 wr) (fun _ iv _=>l.length - (intOf iv).toNat)
    case atStart=>exact ⟨0,Nat.zero_le _,rfl,World.ownsRow_nil _ _ _ _,Below.refl _ _⟩
    case round =>
     obtain ⟨k,hk,rfl,hown,hbw⟩:=hrel
     have HOW:=Lib.hid hown
     have HBW3:=Lib.hid hbw
     have HBLW:=Lib.hid (HBL3.out.trans (hbw.mono HBL3.out.size))
     have hxb:=HXX.out.below (HBLW.out) HXX.out.lt
     have x0:=hxb.cell 0 (v:=.string zn) rfl
     have x1:=hxb.cell 1 (v:=.slice A l.length cA) rfl
     have x2:=hxb.cell 2 (v:=.slice A2 S.length cS) rfl
     have hxl:=hxb.lt
     clear hxb
     have HZ4:=Lib.hid (HZ0.out.below HBLW.out)
     have HRM4:=Lib.hid (HRM.out.below hbw)
     obtain ⟨A5,c5,hu,-,-⟩:=Sl.of_own hown
     subst hu
     clear hown hbw
     by_cases hlt:k + 1 < l.length
     ·have hd:decide ((k:Int) + 1 < (l.length:Int)) = true:=decide_eq_true (by omega)
      have hlk:k < l.length:=by omega
      have hRlk:k < R.length:=by rw [HRL.out];exact hlk
      obtain ⟨bb,o,c',e,hbb,hc⟩:=HZ4.out.eras.cells (by omega)
      cases e
      have hx:=hc k hlk
      obtain ⟨br,orr,cr',e,hbr,hcr⟩:=HRM4.out.cells (by omega)
      cases e
      obtain ⟨rc0,rc1⟩:=hcr k hRlk
      have hdr:decide (k < R.length) = true:=decide_eq_true hRlk
      have hrok:=HRO.out k hRlk hlk
      have hrm:FrisN w3 R[k].v R[k].D:=HRM.out.2 _ (List.getElem_mem hRlk)
      have her:=(errZ_zero HE.out).2.2.1 k hlk
      rw [errAt_eq hlk,decide_eq_false (by omega)] at her
      have hen:=endL_get (S:=S) (l:=l) (i:=k) hlt
      have hfx:=HFW.out.1 _ (List.getElem_mem hlk)
      have htk:(endL S l).take (k + 1) = (endL S l).take k ++ [(endL S l).getD k 0]:=by
       have h9:k < (endL S l).length:=by rw [length_endL];omega
       rw [List.take_succ_eq_append_getElem h9,List.getD_eq_getElem?_getD,List.getElem?_eq_getElem h9]
       rfl
      obtain ⟨x,hxk⟩:∃ x,l[k] = x:=⟨_,rfl⟩
      obtain ⟨r,hrk⟩:∃ r,R[k] = r:=⟨_,rfl⟩
      rw [hxk] at hx her hen hfx hrok
      rw [hrk] at rc0 rc1 hrok hrm
      obtain ⟨-,hof,hsf,hee,-,hnb⟩:=errE_zero her
      have hee2:x.en = true:=hee
      have hek:=eraFew_end hfx hee2
      have hkin:0 ≤ x.n.ak∧x.n.ak ≤ 2:=by have:=nomV_in (hnb hee2);omega
      have hrb:rnomB x.n = true:=by rw [← hek.nomB_eq hkin];exact hnb hee2
      have hEQ:=end_eq (ru:=x.ru) hrok.right hof hek hrb
      rw [hEQ] at hen
      have hbd4:=below_drewN HBW3.out 1
      have HRD:=Lib.hid (rend_any (wr.drewN 1) x.n x.ru x.fm true w3.heap.size r.v r.D r.letter (hrm.1.below hbd4) hbd4.size hrok.len hrok.bd hek (by omega) (by omega))
      obtain ⟨A9,c9,hv9,-,-⟩:=hrm.1.form
      rw [hv9] at HRD rc0
      rw [← hen] at HRD
      unfold eraA at HRD
      obtain ⟨ek,hekv⟩:∃ z,(endL S l).getD k 0 = z:=⟨_,rfl⟩
      rw [hekv] at HRD htk
      have HTK:=Lib.hid htk
      have HBD4:=Lib.hid hbd4
      obtain ⟨c0,c1,c2,c3,c4,c5,c6,c7,c8,c9,c10,c11⟩:=hx
      rw [hee2] at c4
      have hul:=HOW.out.lt
      clear hc hcr hxk hrk hrok hrm her hen hfx hof hsf hee hee2 hnb hek hrb hEQ hbd4 hekv htk hv9
      go_wp2_with fail
      refine wp_text (by kernel_rfl) (by kernel_rfl) ?_
      intro K hK
      go_wp2_with fail
      refine HRD.out.mono ?_
      rintro o w5 ⟨rfl,hb⟩
      have HB5:=Lib.hid (HBD4.out.trans (hb.mono HBD4.out.size))
      have HOW5:=Lib.hid (ownsRow_below HOW.out ((below_drewN (Below.refl wr.heap.size wr) 1).trans hb))
      clear hb
      go_wp2_with ((at_builtin;refine wpList_append_own _ rfl _ _ 28 rfl (w3.heap.size) 3 i0 (.int .i64 0) 1 8 Tryz.underlying28 hi hz0 hz1 hz2 rfl (by decide) _ _ _ rfl (HOW5.out.alloc _) ⟨w5.heap.size,0,none⟩ 1 1 [.int .i64 ek] rfl rfl (cell_one_new _ _ _) (by simp [Value.oneCell']) (by unfold maxLen;omega) (by omega) (by have:=HB5.out.size;simp <;> omega) ?_;intro v' w1 hown' hgrow _))
      refine ⟨by simp [goodB,fits,plainPair,isSeqV,quiet,Act.eval],?_⟩
      go_wp2_with fail
      go_roundw
      case rel =>
       refine ⟨k + 1,by omega,by go_num,?_,below_push HB5.out HOW5.out hgrow⟩
       rw [HTK.out,intsV_append]
       exact hown'
      case measure=>first | (simp [intOf];done) | (simp [intOf];omega)
     ·obtain rfl:k = l.length - 1:=by omega
      have hd:decide (((l.length - 1:Nat):Int) + 1 < (l.length:Int)) = false:=decide_eq_false (by omega)
      have HOE:=Lib.hid (show Nums wr wr.heap.size (.slice A5 (l.length - 1) c5) (endL S l) by
       have h:=Sl.of_own HOW.out
       rw [List.take_of_length_le (by rw [length_endL];exact Nat.le_refl _)] at h
       unfold Nums
       rw [length_endL]
       exact h)
      have HB4:=Lib.hid (HB3.out.trans (HBW3.out.mono HB3.out.size))
      go_wp2_with fail
      go_ret3
      exact ⟨⟨_,_,by rw [HG.out];rfl,fun _=>⟨R,⟨HRL.out,HRO.out⟩,HRM4.out,HOE.out⟩⟩,HB4.out⟩
   ·have hne:(E != 0) = true:=by simpa using hE0
    have HG:=Lib.hid (show goodZ l S = false by
     cases hg:goodZ l S with
     | false=>rfl
     | true=>exact absurd (HE.out.symm.trans (good_iff.1 hg).2) hE0)
    go_wp2_with fail
    refine HCK.out.mono ?_
    rintro o w2 ⟨rfl,hb⟩
    have HB2:=Lib.hid (HB1.out.trans (hb.mono HB1.out.size))
    clear hb HCK
    go_wp2_with fail
    go_ret3
    exact ⟨⟨_,_,by rw [HG.out];rfl,fun h=>by rw [HG.out] at h;cases h⟩,HB2.out⟩
end
section -- FTellM
open Go Go.RowKit Go.Shelf
theorem tryY_congr {r:Rul} {st:Int} {m1 m2:Fir→Bool}:∀ {n:Nat} {y:Int},(∀ j:Nat,j < n→ofB r (y + st * j) = true→m1 (firOf r (y + st * j)) = m2 (firOf r (y + st * j)))→tryY r st m1 n y = tryY r st m2 n y
 | 0,_,_=>rfl
 | n + 1,y,h=>by
   have h0:=h 0 (by omega)
   have hn:=tryY_congr (r:=r) (st:=st) (m1:=m1) (m2:=m2) (n:=n) (y:=y + st) (fun j hj=>by
    have:=h (j + 1) (by omega)
    rw [show y + st * ((j + 1:Nat):Int) = y + st + st * (j:Int) by push_cast;rw [Int.mul_add];omega] at this
    exact this)
   rw [show y + st * ((0:Nat):Int) = y by simp] at h0
   unfold tryY
   cases ho:ofB r y with
   | false=>simpa using hn
   | true =>
     rw [h0 ho]
     cases m2 (firOf r y) with
     | true=>rfl
     | false=>simpa using hn
theorem tryY_never {r:Rul} (h:∀ y,ofB r y = false) (st:Int) (m:Fir→Bool):∀ (n:Nat) (y:Int),tryY r st m n y = none
 | 0,_=>rfl
 | n + 1,y=>by
   unfold tryY
   rw [h y,Bool.false_and,if_neg (by decide)]
   exact tryY_never h st m n _
theorem never_fires {r:Rul} (h:firesB r = false) (y:Int):ofB r y = false:=by
 cases ho:ofB r y with
 | false=>rfl
 | true =>
   exfalso
   obtain ⟨-,-,m1,m2,-,-,-,hd,-⟩:=of_month ho
   unfold firesB at h
   rw [Bool.or_eq_false_iff,Bool.or_eq_false_iff] at h
   have h2:=of_decide_eq_false h.2.2
   unfold longV at h2
   rw [if_pos (by unfold ymB;rw [decide_eq_true_eq];omega)] at h2
   simp only at h2
   have e1:=leapsV_in y
   have e2:leapsV 2000 = 1:=by decide
   unfold lenV at hd h2
   rw [e2] at h2
   split at hd <;> simp_all <;> omega
theorem pickV_filter {p:Rul→Bool} {yr:Rul→Int} {st:Int} {b:Fir→Fir→Bool} {m:Fir→Bool}:∀ (l:List Rul),(∀ r ∈ l,p r = false→tryY r st m 12 (yr r) = none)→pickV (l.filter p) yr st b m = pickV l yr st b m:=by
 have main:∀ (l:List Rul) (o:Option Fir),(∀ r ∈ l,p r = false→tryY r st m 12 (yr r) = none)→(l.filter p).foldl (fun o r=>pickS b o (tryY r st m 12 (yr r))) o = l.foldl (fun o r=>pickS b o (tryY r st m 12 (yr r))) o:=by
  intro l
  induction l with
  | nil=>exact fun o _=>rfl
  | cons r l ih =>
    intro o h
    have hl:=fun x hx=>h x (List.mem_cons_of_mem _ hx)
    cases hp:p r with
    | true=>rw [List.filter_cons,hp,if_pos rfl];exact ih _ hl
    | false =>
      rw [List.filter_cons,hp,if_neg (by decide),List.foldl_cons,h r (by simp) hp]
      exact ih _ hl
 exact fun l h=>main l none h
theorem pickV_congr {yr yr':Rul→Int} {st:Int} {b:Fir→Fir→Bool} {m m':Fir→Bool}:∀ (l:List Rul),(∀ r ∈ l,tryY r st m 12 (yr r) = tryY r st m' 12 (yr' r))→pickV l yr st b m = pickV l yr' st b m':=by
 have main:∀ (l:List Rul) (o:Option Fir),(∀ r ∈ l,tryY r st m 12 (yr r) = tryY r st m' 12 (yr' r))→l.foldl (fun o r=>pickS b o (tryY r st m 12 (yr r))) o = l.foldl (fun o r=>pickS b o (tryY r st m' 12 (yr' r))) o:=by
  intro l
  induction l with
  | nil=>exact fun o _=>rfl
  | cons r l ih =>
    intro o h
    rw [List.foldl_cons,List.foldl_cons,h r (by simp)]
    exact ih _ (fun x hx=>h x (List.mem_cons_of_mem _ hx))
 exact fun l h=>main l none h
theorem ahead_filter (all:List Rul) (s:Int):aheadF (all.filter firesB) s = aheadF all s :=
 pickV_filter all fun _ _ hp=>tryY_never (never_fires hp) _ _ _ _
theorem saved_filter (all:List Rul) (f:Fir):savedF (all.filter firesB) f = savedF all f:=by
 unfold savedF
 rw [ahead_filter]
theorem under_cap {r:Rul} {y:Int} (h:ofB r y = true) (hr:r.to_ ≤ 2105):(firOf r y).nominal < capN:=by
 obtain ⟨-,-,-,-,-,h2,-⟩:=of_month h
 have h1:=(firOf_in h).2
 have e1:=yearV_mono (show y + 1 ≤ 2106 by omega)
 have e2:yearV 2106 = 49673:=by decide
 unfold capN
 omega
theorem sec_cap:secYear capN = 2110:=by decide
theorem sec_far:secYear 2199023435553 = 71654:=by decide
theorem ahead_far {l:List Rul} (hend:∀ r ∈ l,r.to_ ≤ 2105):aheadF l 2199023435553 = aheadF l capN:=by
 unfold aheadF
 rw [sec_cap,sec_far]
 refine pickV_congr l fun r hr=>?_
 have h1:=hend r hr
 rw [show min r.to_ (71654 + 1) = r.to_ by omega,show min r.to_ (2110 + 1) = r.to_ by omega]
 refine tryY_congr fun j _ ho=>?_
 have h2:=under_cap ho h1
 unfold underB
 rw [decide_eq_true h2,decide_eq_true (by unfold capN at h2;omega)]
theorem latest_ended {all:List Rul} {A:List Fir} (h:RightR all A) {off:Int} (ho:-90000 < off∧off < 90000) (hend:∀ r ∈ all.filter firesB,r.to_ ≤ 2105) :
  latestF (all.filter firesB) off 2199023255552 = prevO A A.length∧∀ f ∈ A,f.nominal < capN:=by
 have hcap:∀ f ∈ A,f.nominal < capN:=fun f hf=>by
  obtain ⟨r,hr,y,-,-,hy,rfl⟩:=(h.mem f).1 hf
  refine under_cap hy (hend r (List.mem_filter.2 ⟨hr,?_⟩))
  cases hb:firesB r with
  | true=>rfl
  | false=>rw [never_fires hb y] at hy;cases hy
 refine ⟨?_,hcap⟩
 have hc:Cut A (nomA A) capN A.length:=⟨Nat.le_refl _,fun j hj=>by
  rw [nomA_at hj]
  exact ⟨fun _=>hcap _ (List.getElem_mem hj),fun _=>hj⟩⟩
 unfold latestF
 rw [show (2199023255552:Int) + 180001 = 2199023435553 from rfl,ahead_far hend,ahead_filter,ahead_row h hc (by decide) (Int.le_refl _)]
 obtain ⟨n,hn⟩:∃ n,((2199023435553:Int) + farN).toNat = n + 1:=⟨7199023435552,by decide⟩
 rw [hn]
 rcases Nat.eq_zero_or_pos A.length with h0 | h0
 ·rw [h0,prevO_zero]
  rfl
 ·obtain ⟨k,hk⟩:∃ k,A.length = k + 1:=⟨A.length - 1,by omega⟩
  rw [hk,prevO_succ (by omega)]
  unfold backF
  have h1:=instF_in (f:=A[k]) ho (h.saved A[k])
  have h2:=hcap A[k] (List.getElem_mem _)
  rw [saved_filter,if_neg (by unfold capN at h2;omega)]
noncomputable def refOf (x:EraF) (b:Int) (all:List Rul) (A:List Fir):Foot :=
 if x.ru.size = 0 then ⟨b,x.n.off,x.n.save,⟨#[]⟩,x.fm,[]⟩
 else if 0 < ((all.filter firesB).filter endlB).length then ⟨max b (settledV (all.filter firesB)),x.n.off,0,⟨#[]⟩,x.fm,(all.filter firesB).filter endlB⟩
 else match prevO A A.length with
  | none=>⟨b,x.n.off,0,letV all,x.fm,[]⟩
  | some f=>⟨max b (instA A x.n.off (A.length - 1)),x.n.off,f.save,f.letter,x.fm,[]⟩
theorem footOf_ref {x:EraF} {b:Int} {all:List Rul} {A:List Fir} (h:RightR all A) (ho:-90000 < x.n.off∧x.n.off < 90000) (hend:∀ r ∈ all,r.to_ ≤ 2105∨1048576 ≤ r.to_):footOf x b all = refOf x b all A:=by
 unfold footOf refOf
 split
 ·rfl
 ·split
  ·rfl
  ·rename_i hne
   have hen:∀ r ∈ all.filter firesB,r.to_ ≤ 2105:=fun r hr=>by
    rcases hend r (List.mem_filter.1 hr).1 with h1 | h1
    ·exact h1
    ·exfalso
     apply hne
     refine List.length_pos_of_mem (a:=r) (List.mem_filter.2 ⟨hr,?_⟩)
     unfold endlB
     exact decide_eq_true h1
   obtain ⟨h1,h2⟩:=latest_ended h ho hen
   rw [h1]
   rcases Nat.eq_zero_or_pos A.length with h0 | h0
   ·rw [h0,prevO_zero]
   ·obtain ⟨k,hk⟩:∃ k,A.length = k + 1:=⟨A.length - 1,by omega⟩
    have hkl:k < A.length:=by omega
    have h3:=h2 A[k] (List.getElem_mem _)
    have h4:=saved_row h hkl (by omega) (h.low (List.getElem_mem _))
    rw [show A.length - 1 = k by omega,instA_at hkl,← h4,← saved_filter]
    rw [hk,prevO_succ hkl]
end
section -- FTellW
open Go Go.RowKit Go.Shelf
theorem rendless_any (w:World) (B:Nat) (v:Value) (l:List Rul) (hv:Ruls w B v l) (hB:B ≤ w.heap.size) (hl:l.length ≤ 100000) :
  Calls Tryz.prog 67 #[v] w fun e w'=>∃ u,e = .returned u∧OwnR w' w.heap.size u (l.filter endlB)∧Below w.heap.size w w':=by
 obtain ⟨A,c,rfl,hlc,hcm⟩:=hv.form
 unfold maxLen at hcm
 have HV:=Lib.hid hv
 clear hv
 go_enter Tryz.func67,Tryz.ntmps67
 go_wp2_with fail
 go_loopw [3,4] (fun u iv wr=>∃ k:Nat,k ≤ l.length∧iv = .int .i64 k∧wr.ownsRow w.heap.size 106 11 u ((l.take k).filter endlB).length (rulsV ((l.take k).filter endlB))∧Below w.heap.size w wr) (fun _ iv _=>l.length - (intOf iv).toNat)
 case atStart=>exact ⟨0,Nat.zero_le _,rfl,World.ownsRow_nil _ _ _ _,Below.refl _ _⟩
 case round =>
  obtain ⟨k,hk,rfl,how,hb⟩:=hrel
  have HOW:=Lib.hid how
  have HB:=Lib.hid hb
  have hws:=hb.size
  clear how hb
  by_cases hlt:k < l.length
  ·have hd:decide ((k:Int) < (l.length:Int)) = true:=decide_eq_true (by omega)
   obtain ⟨bb,o,c',e,hbb,hc⟩:=(HV.out.below (HB.out.mono hB)).cells (by omega)
   cases e
   obtain ⟨a0,a1,a2,a3,a4,a5,a6,a7,a8,a9,a10⟩:=hc k hlt
   have HN:=Lib.hid (take_filter endlB hlt)
   obtain ⟨r,hr⟩:∃ r,l[k] = r:=⟨_,rfl⟩
   rw [hr] at a0 a1 a2 a3 a4 a5 a6 a7 a8 a9 a10 HN
   clear hc hr
   cases hen:endlB r with
   | true =>
     have HEN:=Lib.hid hen
     unfold endlB at hen
     obtain ⟨i0,hi,hz0,hz1,hz2⟩:=info_parts infoRul
     have hlen:((l.take k).filter endlB).length ≤ l.length:=Nat.le_trans (List.length_filter_le _ _) (by rw [List.length_take];omega)
     obtain ⟨q,hq⟩:∃ q,((l.take k).filter endlB).length = q:=⟨_,rfl⟩
     rw [hq] at HOW hlen
     go_wp2_with (at_builtin;go_loud (refine wpList_append_own _ rfl _ _ 52 rfl w.heap.size 106 i0 (.agg #[.string ⟨#[]⟩,.int .i64 0,.int .i64 0,.int .i64 0,.int .i64 0,.int .i64 0,.int .i64 0,.int .i64 0,.int .i64 0,.int .i64 0,.string ⟨#[]⟩]) 11 104 Tryz.underlying52 hi hz0 hz1 hz2 rfl (by decide) _ q _ rfl (HOW.out.alloc _) ⟨wr.heap.size,0,none⟩ 1 1 (rulV r) rfl rfl (fun j y hy=>by rw [Addr.add_lit,Nat.zero_add];exact (cell_new _ _ _ _ j).trans (by simpa [rulV] using hy)) (by simp [rulV,Value.oneCell']) (by unfold maxLen;omega) (by omega) (by simp;omega) ?_);intro v9 w9 hown9 hgrow9 _)
     go_roundw
     case rel=>exact ⟨k + 1,by omega,by go_num,by
      rw [HN.out,HEN.out,cond_true,List.length_append,hq,rulsV_append]
      exact hown9,below_push HB.out HOW.out hgrow9⟩
     case measure=>simp [intOf];omega
   | false =>
     have HEN:=Lib.hid hen
     unfold endlB at hen
     go_wp2_with fail
     go_roundw
     case rel=>exact ⟨k + 1,by omega,by go_num,by rw [HN.out,HEN.out,cond_false];exact HOW.out,HB.out⟩
     case measure=>simp [intOf];omega
  ·have hd:decide ((k:Int) < (l.length:Int)) = false:=decide_eq_false (by omega)
   obtain rfl:k = l.length:=by omega
   rw [List.take_length] at HOW
   go_wp2_with fail
   go_ret
   exact ⟨_,rfl,HOW.out,HB.out⟩
theorem fires_len {r:Rul} (h:1 ≤ r.month∧r.month ≤ 12):firesB r = (decide (r.dk = 1) || decide (r.dn ≤ lenV 2000 r.month)):=by
 unfold firesB longV
 rw [if_pos (by unfold ymB;rw [decide_eq_true_eq];omega)]
 simp
theorem rfiring_any (w:World) (B:Nat) (v:Value) (l:List Rul) (hv:Ruls w B v l) (hB:B ≤ w.heap.size) (hl:l.length ≤ 100000) (hmo:∀ r ∈ l,1 ≤ r.month∧r.month ≤ 12) :
  Calls Tryz.prog 68 #[v] w fun e w'=>∃ u,e = .returned u∧OwnR w' w.heap.size u (l.filter firesB)∧Below w.heap.size w w':=by
 obtain ⟨A,c,rfl,hlc,hcm⟩:=hv.form
 unfold maxLen at hcm
 have HV:=Lib.hid hv
 have HMO:=Lib.hid (fun k (hk:k < l.length)=>hmo l[k] (List.getElem_mem hk))
 clear hv hmo
 go_enter Tryz.func68,Tryz.ntmps68
 go_wp2_with fail
 go_loopw [3,4] (fun u iv wr=>∃ k:Nat,k ≤ l.length∧iv = .int .i64 k∧wr.ownsRow w.heap.size 106 11 u ((l.take k).filter firesB).length (rulsV ((l.take k).filter firesB))∧Below w.heap.size w wr) (fun _ iv _=>l.length - (intOf iv).toNat)
 case atStart=>exact ⟨0,Nat.zero_le _,rfl,World.ownsRow_nil _ _ _ _,Below.refl _ _⟩
 case round =>
  obtain ⟨k,hk,rfl,how,hb⟩:=hrel
  have HOW0:=Lib.hid how
  have HB0:=Lib.hid hb
  have hws:=hb.size
  clear how hb
  by_cases hlt:k < l.length
  ·have hd:decide ((k:Int) < (l.length:Int)) = true:=decide_eq_true (by omega)
   have HG0:=Lib.hid (fun (W:World) (h:Below w.heap.size w W)=>HV.out.below (h.mono hB))
   obtain ⟨bb,o,c',e,hbb,hc⟩:=(HV.out.below (HB0.out.mono hB)).cells (by omega)
   cases e
   have HN:=Lib.hid (take_filter firesB hlt)
   have hm:=HMO.out k hlt
   have HC:=Lib.hid (fun (W:World) (h:Below wr.heap.size wr W)=>show RulC W bb (o + k * 11) l[k] by
    obtain ⟨_,_,_,e,-,hc⟩:=(HG0.out W (HB0.out.trans (h.mono hws))).cells (by omega)
    cases e
    exact hc k hlt)
   obtain ⟨r,hr⟩:∃ r,l[k] = r:=⟨_,rfl⟩
   rw [hr] at HN hm HC
   have HRL:=Lib.hid (fun W=>rlong_any 2000 r.month hm.1 hm.2 W)
   have HFB:=Lib.hid (fires_len hm)
   obtain ⟨bn,hbn⟩:∃ b,decide (r.dn ≤ lenV 2000 r.month) = b:=⟨_,rfl⟩
   rw [hbn] at HFB
   clear hc hr
   go_wp2_with fail
   by_cases hdk:r.dk = 1
   ·have hd1:(r.dk == 1) = true:=by simpa using hdk
    have HEN:=Lib.hid (show firesB r = true by rw [HFB.out,decide_eq_true hdk];rfl)
    refine wp_env (fin:=?fnfa) (by kernel_rfl) [11,12,13,14,15,16,17,18,19,20,21,22,23,24,25,26,27,28,29,30,31,32]
     [.slice (some ⟨bb,o,none⟩) l.length c,.int .i64 k,.pointer (some ⟨bb,o + k * 11,none⟩),.pointer (some ⟨bb,o + k * 11 + 4,none⟩),.pointer (some ⟨bb,o + k * 11 + 4,none⟩),.int .i64 r.dk,.bool true,.bool true,undef,undef,undef,undef,undef,undef,undef,undef,undef,undef,undef,undef,undef,.bool true] (by kernel_rfl) ?finfa ?stepsfa ?nextfa
    case finfa =>
     simp only [putAll,Act.put,List.setIfInBounds_toArray,List.set_cons_succ,List.set_cons_zero]
     rfl
    case stepsfa =>
     refine ⟨?_,?_,?_,?_,?_,?_,?_,?_,?_,?_,?_,?_,?_,?_,?_,?_,?_,?_,?_,?_,?_,?_,trivial⟩
     all_goals first | exact .inl ⟨by kernel_rfl,rfl⟩ | refine .inr ⟨by kernel_rfl,fun w1_ hB_=>?_⟩
     all_goals
      obtain ⟨a0,a1,a2,a3,a4,a5,a6,a7,a8,a9,a10⟩:=HC.out _ hB_
      go_simp
      first
       | exact ⟨rfl,Below.refl _ _⟩
       | done
       | ((first | rw [decide_eq_true (by omega)] | rw [decide_eq_false (by omega)] | rw [if_pos (by omega)] | rw [IntWalk.i64_in _ (by omega)]);exact ⟨rfl,Below.refl _ _⟩)
       | done
    case nextfa =>
    intro w2 hb2
    have HB:=Lib.hid (HB0.out.trans (hb2.mono hws))
    have HOW:=Lib.hid (ownsRow_below HOW0.out hb2)
    have hws2:=HB.out.size
    obtain ⟨a0,a1,a2,a3,a4,a5,a6,a7,a8,a9,a10⟩:=HC.out _ hb2
    clear hb2 HB0 HOW0 hdk hd1
    obtain ⟨i0,hi,hz0,hz1,hz2⟩:=info_parts infoRul
    have hlen:((l.take k).filter firesB).length ≤ l.length:=Nat.le_trans (List.length_filter_le _ _) (by rw [List.length_take];omega)
    obtain ⟨q,hq⟩:∃ q,((l.take k).filter firesB).length = q:=⟨_,rfl⟩
    rw [hq] at HOW hlen
    go_wp2_with (at_builtin;go_loud (refine wpList_append_own _ rfl _ _ 52 rfl w.heap.size 106 i0 (.agg #[.string ⟨#[]⟩,.int .i64 0,.int .i64 0,.int .i64 0,.int .i64 0,.int .i64 0,.int .i64 0,.int .i64 0,.int .i64 0,.int .i64 0,.string ⟨#[]⟩]) 11 104 Tryz.underlying52 hi hz0 hz1 hz2 rfl (by decide) _ q _ rfl (HOW.out.alloc _) ⟨w2.heap.size,0,none⟩ 1 1 (rulV r) rfl rfl (fun j y hy=>by rw [Addr.add_lit,Nat.zero_add];exact (cell_new _ _ _ _ j).trans (by simpa [rulV] using hy)) (by simp [rulV,Value.oneCell']) (by unfold maxLen;omega) (by omega) (by simp;omega) ?_);intro v9 w9 hown9 hgrow9 _)
    go_roundw
    case rel=>exact ⟨k + 1,by omega,by go_num,by
     rw [HN.out,HEN.out,cond_true,List.length_append,hq,rulsV_append]
     exact hown9,below_push HB.out HOW.out hgrow9⟩
    case measure=>simp [intOf];omega
   ·have hd1:(r.dk == 1) = false:=by simpa using hdk
    rw [decide_eq_false hdk,Bool.false_or] at HFB
    refine wp_env (fin:=?fnfb) (by kernel_rfl) [11,12,13,14,15,16,17,18,19,20,21,22,23,24,25,26,27,28,29,30,31,32]
     [.slice (some ⟨bb,o,none⟩) l.length c,.int .i64 k,.pointer (some ⟨bb,o + k * 11,none⟩),.pointer (some ⟨bb,o + k * 11 + 4,none⟩),.pointer (some ⟨bb,o + k * 11 + 4,none⟩),.int .i64 r.dk,.bool false,.bool false,.slice (some ⟨bb,o,none⟩) l.length c,.int .i64 k,.pointer (some ⟨bb,o + k * 11,none⟩),.pointer (some ⟨bb,o + k * 11 + 4,none⟩),.pointer (some ⟨bb,o + k * 11 + 4 + 2,none⟩),.int .i64 r.dn,.slice (some ⟨bb,o,none⟩) l.length c,.int .i64 k,.pointer (some ⟨bb,o + k * 11,none⟩),.pointer (some ⟨bb,o + k * 11 + 3,none⟩),.int .i64 r.month,.int .i64 (lenV 2000 r.month),.bool bn,.bool bn] (by kernel_rfl) ?finfb ?stepsfb ?nextfb
    case finfb =>
     simp only [putAll,Act.put,List.setIfInBounds_toArray,List.set_cons_succ,List.set_cons_zero]
     rfl
    case stepsfb =>
     refine ⟨?_,?_,?_,?_,?_,?_,?_,?_,?_,?_,?_,?_,?_,?_,?_,?_,?_,?_,?_,?_,?_,?_,trivial⟩
     all_goals refine .inr ⟨by kernel_rfl,fun w1_ hB_=>?_⟩
     all_goals
      obtain ⟨a0,a1,a2,a3,a4,a5,a6,a7,a8,a9,a10⟩:=HC.out _ hB_
      go_simp
      first
       | exact ⟨rfl,Below.refl _ _⟩
       | exact ⟨rfl,HRL.out _⟩
       | ((first | rw [decide_eq_true (by omega)] | rw [decide_eq_false (by omega)] | rw [if_pos (by omega)] | rw [IntWalk.i64_in _ (by omega)]);exact ⟨rfl,Below.refl _ _⟩)
       | done
    case nextfb =>
    intro w2 hb2
    have HB:=Lib.hid (HB0.out.trans (hb2.mono hws))
    have HOW:=Lib.hid (ownsRow_below HOW0.out hb2)
    have hws2:=HB.out.size
    obtain ⟨a0,a1,a2,a3,a4,a5,a6,a7,a8,a9,a10⟩:=HC.out _ hb2
    clear hb2 HB0 HOW0 hdk hd1 hbn
    cases bn with
    | true =>
      have HEN:=HFB
      obtain ⟨i0,hi,hz0,hz1,hz2⟩:=info_parts infoRul
      have hlen:((l.take k).filter firesB).length ≤ l.length:=Nat.le_trans (List.length_filter_le _ _) (by rw [List.length_take];omega)
      obtain ⟨q,hq⟩:∃ q,((l.take k).filter firesB).length = q:=⟨_,rfl⟩
      rw [hq] at HOW hlen
      go_wp2_with (at_builtin;go_loud (refine wpList_append_own _ rfl _ _ 52 rfl w.heap.size 106 i0 (.agg #[.string ⟨#[]⟩,.int .i64 0,.int .i64 0,.int .i64 0,.int .i64 0,.int .i64 0,.int .i64 0,.int .i64 0,.int .i64 0,.int .i64 0,.string ⟨#[]⟩]) 11 104 Tryz.underlying52 hi hz0 hz1 hz2 rfl (by decide) _ q _ rfl (HOW.out.alloc _) ⟨w2.heap.size,0,none⟩ 1 1 (rulV r) rfl rfl (fun j y hy=>by rw [Addr.add_lit,Nat.zero_add];exact (cell_new _ _ _ _ j).trans (by simpa [rulV] using hy)) (by simp [rulV,Value.oneCell']) (by unfold maxLen;omega) (by omega) (by simp;omega) ?_);intro v9 w9 hown9 hgrow9 _)
      go_roundw
      case rel=>exact ⟨k + 1,by omega,by go_num,by
       rw [HN.out,HEN.out,cond_true,List.length_append,hq,rulsV_append]
       exact hown9,below_push HB.out HOW.out hgrow9⟩
      case measure=>simp [intOf];omega
    | false =>
      have HEN:=HFB
      go_wp2_with fail
      go_roundw
      case rel=>exact ⟨k + 1,by omega,by go_num,by rw [HN.out,HEN.out,cond_false];exact HOW.out,HB.out⟩
      case measure=>simp [intOf];omega
  ·have hd:decide ((k:Int) < (l.length:Int)) = false:=decide_eq_false (by omega)
   obtain rfl:k = l.length:=by omega
   rw [List.take_length] at HOW0
   go_wp2_with fail
   go_ret
   exact ⟨_,rfl,HOW0.out,HB0.out⟩
end
section -- FTellX
open Go Go.RowKit Go.Shelf
theorem lastY_end {m:Int} {r:Rul} (hm:1900 ≤ m∧m ≤ 2105) (hr:1900 ≤ r.from_∧r.from_ ≤ 2100) (he:r.to_ ≤ 2105∨1048576 ≤ r.to_):1900 ≤ lastY m r∧lastY m r ≤ 2105:=by
 unfold lastY
 split
 ·omega
 ·rename_i h
  unfold endlB at h
  rw [decide_eq_true_eq] at h
  omega
theorem settled_end {l:List Rul} {x:Rul} {t:List Rul} (hx:l = x :: t) {m:Int} (hm:lastL x.from_ l = m) (h1:1900 ≤ m∧m ≤ 2105):settledV l = 86400 * (yearV (m + 20) + startV (m + 20) 1):=by
 subst hx
 show (if dateB (lastL x.from_ (x :: t) + 20) 1 1 && mayB 0 then dayV (lastL x.from_ (x :: t) + 20) 1 1 * 86400 + 0 else 0) = _
 rw [hm]
 have h2:dateB (m + 20) 1 1 = true:=by
  have hl:1 ≤ lenV (m + 20) 1:=by
   unfold lenV
   rw [if_neg (by decide)]
   decide
  unfold dateB ymB
  rw [Bool.and_eq_true,decide_eq_true_eq,decide_eq_true_eq]
  omega
 rw [if_pos (by rw [h2];rfl)]
 unfold dayV
 omega
theorem rsettled_any (w:World) (B:Nat) (v:Value) (l:List Rul) (hv:Ruls w B v l) (hB:B ≤ w.heap.size) (hl:0 < l.length) (hr:∀ r ∈ l,1900 ≤ r.from_∧r.from_ ≤ 2100) (he:∀ r ∈ l,r.to_ ≤ 2105∨1048576 ≤ r.to_) :
  Calls Tryz.prog 69 #[v] w fun e w'=>e = .returned (.int .i64 (settledV l))∧Below w.heap.size w w':=by
 obtain ⟨A,c,rfl,hlc,hcm⟩:=hv.form
 unfold maxLen at hcm
 have HV:=Lib.hid hv
 obtain ⟨bb,o,c',e,hbb,hc⟩:=hv.cells hl
 cases e
 obtain ⟨a0,a1,a2,a3,a4,a5,a6,a7,a8,a9,a10⟩:=hc 0 hl
 clear hc a0 a2 a3 a4 a5 a6 a7 a8 a9 a10 hv
 obtain ⟨x,hx⟩:∃ x,l[0] = x:=⟨_,rfl⟩
 rw [hx] at a1
 have hx0:=hr x (hx ▸ List.getElem_mem hl)
 have HR:=Lib.hid (fun k (hk:k < l.length)=>hr l[k] (List.getElem_mem hk))
 have HE:=Lib.hid (fun k (hk:k < l.length)=>he l[k] (List.getElem_mem hk))
 have HXT:=Lib.hid (show ∃ t,l = x :: t by
  cases l with
  | nil=>simp at hl
  | cons r l=>cases hx;exact ⟨_,rfl⟩)
 obtain ⟨f0,hf0⟩:∃ f,x.from_ = f:=⟨_,rfl⟩
 have HF0:=Lib.hid hf0
 rw [hf0] at a1 hx0
 clear hx hr he hf0
 go_enter Tryz.func69,Tryz.ntmps69
 go_wp2_with fail
 go_loopw [3,4] (fun mv iv wr=>∃ k m,k ≤ l.length∧iv = .int .i64 (k:Nat)∧mv = .int .i64 m∧m = lastL f0 (l.take k)∧(1900 ≤ m∧m ≤ 2105)∧Below w.heap.size w wr) (fun _ iv _=>l.length - (intOf iv).toNat)
 case atStart=>exact ⟨0,f0,Nat.zero_le _,rfl,rfl,rfl,by omega,Below.refl _ _⟩
 case round =>
  obtain ⟨k,m,hk,rfl,rfl,hm,hmi,hbw⟩:=hrel
  have HBW:=Lib.hid hbw
  have hws:=hbw.size
  have HM:=Lib.hid hm
  clear hbw hm a1
  by_cases hlt:k < l.length
  ·have hd:decide ((k:Int) < (l.length:Int)) = true:=decide_eq_true (by omega)
   obtain ⟨bb,o,c',e,hbb,hc⟩:=(HV.out.below (HBW.out.mono hB)).cells (by omega)
   cases e
   obtain ⟨c0,c1,c2,c3,c4,c5,c6,c7,c8,c9,c10⟩:=hc k hlt
   have hri:=HR.out k hlt
   have hei:=HE.out k hlt
   have HN:=Lib.hid (lastL_succ (m:=f0) hlt)
   rw [← HM.out] at HN
   obtain ⟨r,hr⟩:∃ r,l[k] = r:=⟨_,rfl⟩
   rw [hr] at c0 c1 c2 c3 c4 c5 c6 c7 c8 c9 c10 hri hei HN
   have HLI:=Lib.hid (lastY_end hmi hri hei)
   unfold lastY at HN HLI
   clear hc hr c0 c3 c4 c5 c6 c7 c8 c9 c10
   by_cases hto:r.to_ < 1048576
   ·have hd2:decide (r.to_ < 1048576) = true:=decide_eq_true hto
    rw [show endlB r = false by unfold endlB;exact decide_eq_false (by omega)] at HN HLI
    simp only [Bool.false_eq_true,if_false] at HN HLI
    go_wp2_with fail
    go_roundw
    case rel=>exact ⟨k + 1,max m (max r.from_ r.to_),by omega,by go_num,rfl,by rw [HN.out] <;> omega,by have:=HLI.out;omega,HBW.out⟩
    case measure=>simp [intOf];omega
   ·have hd2:decide (r.to_ < 1048576) = false:=decide_eq_false hto
    rw [show endlB r = true by unfold endlB;exact decide_eq_true (by omega)] at HN HLI
    simp only [if_true] at HN HLI
    go_wp2_with fail
    go_roundw
    case rel=>exact ⟨k + 1,max m r.from_,by omega,by go_num,rfl,HN.out.symm,HLI.out,HBW.out⟩
    case measure=>simp [intOf];omega
  ·have hd:decide ((k:Int) < (l.length:Int)) = false:=decide_eq_false (by omega)
   have HM2:=Lib.hid (show lastL f0 l = m by rw [HM.out,List.take_of_length_le (by omega)])
   obtain ⟨t,ht⟩:=HXT.out
   have HSV:=Lib.hid (settled_end ht (by rw [HF0.out];exact HM2.out) hmi)
   have HDY:=Lib.hid (fun W=>rdays_any (m + 20) 1 (by omega) (by omega) (by omega) (by omega) W)
   have hyi:-40000000 ≤ yearV (m + 20)∧yearV (m + 20) ≤ 40000000:=yearV_in (by omega) (by omega)
   have hsi:0 ≤ startV (m + 20) 1∧startV (m + 20) 1 ≤ 400:=by
    unfold startV
    rw [if_neg (by decide)]
    decide
   obtain ⟨z,hz⟩:∃ z,yearV (m + 20) + startV (m + 20) 1 = z:=⟨_,rfl⟩
   rw [hz] at HSV HDY
   have hzi:-50000000 ≤ z∧z ≤ 50000000:=by omega
   clear ht hz hyi hsi
   go_wp2_with fail
   refine (HDY.out _).mono ?_
   rintro e w1 ⟨rfl,hb⟩
   have HB2:=Lib.hid (HBW.out.trans (hb.mono hws))
   clear hb HDY
   go_wp2_with fail
   go_ret
   exact ⟨by rw [HSV.out];rfl,HB2.out⟩
end
section -- FTellY
open Go Go.RowKit Go.Shelf
theorem three_same (d:Nat) (a b c:Int) (W:World):(Op.equalIn (d + 2) 62 (.agg #[.int .i64 a,.int .i64 b,.int .i64 c]) (.agg #[.int .i64 a,.int .i64 b,.int .i64 c])).run Tryz.prog W = .ok true W:=by
 obtain ⟨i,hi⟩:∃ i,Tryz.prog.info? 3 = some i:=Option.isSome_iff_exists.1 (by kernel_rfl)
 rw [run_equalIn_array W (d + 1) _ _ (by kernel_rfl) hi,show Tryz.prog.cellsOf 3 = 1 by kernel_rfl,show List.range 3 = [0,1,2] by decide]
 have hu:Tryz.prog.underlying 3 = some (.int .i64):=by kernel_rfl
 simp [Op.eqItems,go_sem,run_equalIn_int _ d _ _ _ _ _ hu]
theorem fplain_any (w:World) (F:Foot) (A:Option Addr) (n c:Nat) :
  Calls Tryz.prog 28 #[footA F (.slice A n c)] w fun o w'=>o = .returned (footA F (.slice A n c))∧Below w.heap.size w w':=by
 have hb0:=((Below.refl w.heap.size w).alloc (Nat.le_refl _) (.cells (footC F (.slice A n c)) 54)).alloc (by simp) (.cells #[.int .i64 0,.int .i64 0,.int .i64 0,.string ⟨#[]⟩,.string ⟨#[]⟩,.slice none 0 0] 64)
 have hx:=(Blk.new w 54 (footC F (.slice A n c))).alloc (.cells #[.int .i64 0,.int .i64 0,.int .i64 0,.string ⟨#[]⟩,.string ⟨#[]⟩,.slice none 0 0] 64)
 have hb1:=fun o:Obj=>((Below.refl w.heap.size w).alloc (Nat.le_refl _) (.cells (footC F (.slice A n c)) 54)).alloc (by simp) o
 unfold footC at hx hb0 hb1
 have xq0:=Blk.cell hx 0 (v:=.int .i64 F.since) rfl
 have xq1:=Blk.cell hx 1 (v:=.int .i64 F.off) rfl
 have xq2:=Blk.cell hx 2 (v:=.int .i64 F.save) rfl
 have xq3:=Blk.cell hx 3 (v:=.string F.letter) rfl
 have xq4:=Blk.cell hx 4 (v:=.string F.fm) rfl
 have xq5:=Blk.cell hx 5 (v:=.slice A n c) rfl
 have xql:=Blk.lt hx
 clear hx
 unfold footA
 go_enter Tryz.func28,Tryz.ntmps28
 go_wp2_with fail
 refine bodyPost_ret (v:=.agg #[.int .i64 F.since,.int .i64 F.off,.int .i64 F.save,.string F.letter,.string F.fm,.slice A n c]) ?_ rfl ⟨rfl,hb1 _⟩
 simp [results,Tryz.f28,go_sem]
theorem falike_any (w:World) (B:Nat) (u v:Value) (F:Foot) (hu:Ruls w B u F.rules) (hv:Ruls w B v F.rules) (hB:B ≤ w.heap.size) :
  Calls Tryz.prog 27 #[footA F u,footA F v] w fun o w'=>o = .returned (.bool true)∧Below w.heap.size w w':=by
 obtain ⟨A,c,rfl,hlc,hcm⟩:=hu.form
 obtain ⟨A2,c2,rfl,hlc2,hcm2⟩:=hv.form
 unfold maxLen at hcm hcm2
 have hb0:=((Below.refl w.heap.size w).alloc (Nat.le_refl _) (.cells (footC F (.slice A F.rules.length c)) 64)).alloc (by simp) (.cells (footC F (.slice A2 F.rules.length c2)) 64)
 have hx:=(Blk.new w 64 (footC F (.slice A F.rules.length c))).alloc (.cells (footC F (.slice A2 F.rules.length c2)) 64)
 have hy:=Blk.new (w.alloc (.cells (footC F (.slice A F.rules.length c)) 64)) 64 (footC F (.slice A2 F.rules.length c2))
 rw [World.size_alloc] at hy
 have HX:=Lib.hid hx
 have HY:=Lib.hid hy
 have HB0:=Lib.hid hb0
 have HU:=Lib.hid hu
 have HV:=Lib.hid hv
 obtain ⟨l,hl⟩:∃ l,F.rules = l:=⟨_,rfl⟩
 unfold footC at hx hy HX HY HB0
 rw [hl] at hx hy HX HY HB0 HU HV hlc hlc2
 have xq0:=Blk.cell hx 0 (v:=.int .i64 F.since) rfl
 have xq1:=Blk.cell hx 1 (v:=.int .i64 F.off) rfl
 have xq2:=Blk.cell hx 2 (v:=.int .i64 F.save) rfl
 have xq3:=Blk.cell hx 3 (v:=.string F.letter) rfl
 have xq4:=Blk.cell hx 4 (v:=.string F.fm) rfl
 have xq5:=Blk.cell hx 5 (v:=.slice A l.length c) rfl
 have xql:=Blk.lt hx
 have yq0:=Blk.cell hy 0 (v:=.int .i64 F.since) rfl
 have yq1:=Blk.cell hy 1 (v:=.int .i64 F.off) rfl
 have yq2:=Blk.cell hy 2 (v:=.int .i64 F.save) rfl
 have yq3:=Blk.cell hy 3 (v:=.string F.letter) rfl
 have yq4:=Blk.cell hy 4 (v:=.string F.fm) rfl
 have yq5:=Blk.cell hy 5 (v:=.slice A2 l.length c2) rfl
 have yql:=Blk.lt hy
 have hq:∀ W,(Op.equalIn 10000 62 (.agg #[.int .i64 F.since,.int .i64 F.off,.int .i64 F.save]) (.agg #[.int .i64 F.since,.int .i64 F.off,.int .i64 F.save])).run Tryz.prog W = .ok true W:=fun W=>three_same 9998 F.since F.off F.save W
 unfold footA
 rw [hl]
 clear hx hy hb0 hu hv hl
 go_enter Tryz.func27,Tryz.ntmps27
 have hxl:=HX.out.lt
 have hyl:=HY.out.lt
 go_wp2_with fail
 obtain ⟨W0,hW0⟩:∃ W,((w.alloc (.cells #[.int .i64 F.since,.int .i64 F.off,.int .i64 F.save,.string F.letter,.string F.fm,.slice A l.length c] 64)).alloc (.cells #[.int .i64 F.since,.int .i64 F.off,.int .i64 F.save,.string F.letter,.string F.fm,.slice A2 l.length c2] 64)) = W:=⟨_,rfl⟩
 rw [hW0] at HX HY HB0
 try simp only [hW0]
 clear hW0 xq0 xq1 xq2 xq3 xq4 xq5 xql yq0 yq1 yq2 yq3 yq4 yq5 yql hxl hyl
 go_loopw [5] (fun iv wr=>∃ k:Nat,k ≤ l.length∧iv = .int .i64 k∧Below W0.heap.size W0 wr) (fun iv _=>l.length - (intOf iv).toNat)
 case atStart=>exact ⟨0,Nat.zero_le _,rfl,Below.refl _ _⟩
 case round =>
  obtain ⟨k,hk,rfl,hb⟩:=hrel
  have HB:=Lib.hid hb
  have hws:=hb.size
  have hB0:=HB0.out.size
  have hx:=HX.out.below hb HX.out.lt
  have hy:=HY.out.below hb HY.out.lt
  have xq5:=hx.cell 5 (v:=.slice A l.length c) rfl
  have yq5:=hy.cell 5 (v:=.slice A2 l.length c2) rfl
  have hxl:=hx.lt
  have hyl:=hy.lt
  have HXR:=Lib.hid hx
  have HYR:=Lib.hid hy
  clear hx hy hb
  by_cases hlt:k < l.length
  ·have hd:decide ((k:Int) < (l.length:Int)) = true:=decide_eq_true (by omega)
   have hbW:=HB0.out.trans (HB.out.mono hB0)
   obtain ⟨bb,o,c',e,hbb,hc⟩:=(HU.out.below (hbW.mono hB)).cells (by omega)
   cases e
   obtain ⟨b2,o2,c2',e,hbb2,hc2⟩:=(HV.out.below (hbW.mono hB)).cells (by omega)
   cases e
   have HC:=Lib.hid (fun (W:World) (h:Below wr.heap.size wr W)=>show RulC W bb (o + k * 11) l[k]∧RulC W b2 (o2 + k * 11) l[k]∧W.cell? ⟨w.heap.size,5,none⟩ = some (.slice (some ⟨bb,o,none⟩) l.length c)∧W.cell? ⟨w.heap.size + 1,5,none⟩ = some (.slice (some ⟨b2,o2,none⟩) l.length c2) by
    have hb2:=hbW.trans (h.mono (by omega))
    obtain ⟨_,_,_,e,-,hc⟩:=(HU.out.below (hb2.mono hB)).cells (by omega)
    cases e
    obtain ⟨_,_,_,e,-,hc2⟩:=(HV.out.below (hb2.mono hB)).cells (by omega)
    cases e
    exact ⟨hc k hlt,hc2 k hlt,(HXR.out.below h HXR.out.lt).cell 5 rfl,(HYR.out.below h HYR.out.lt).cell 5 rfl⟩)
   obtain ⟨r,hr⟩:∃ r,l[k] = r:=⟨_,rfl⟩
   rw [hr] at HC
   clear hc hc2 hr hbW
   go_wp2_with fail
   refine wp_env (fin:=?fnal) (by kernel_rfl) [41,42,43,44,45,46,47,48,49,50,51]
    [.pointer (some ⟨w.heap.size,5,none⟩),.slice (some ⟨bb,o,none⟩) l.length c,.int .i64 k,.pointer (some ⟨bb,o + k * 11,none⟩),rulA r,.pointer (some ⟨w.heap.size + 1,5,none⟩),.slice (some ⟨b2,o2,none⟩) l.length c2,.int .i64 k,.pointer (some ⟨b2,o2 + k * 11,none⟩),rulA r,.bool false] (by kernel_rfl) ?final ?stepsal ?nextal
   case final =>
    simp only [putAll,Act.put,List.setIfInBounds_toArray,List.set_cons_succ,List.set_cons_zero]
    rfl
   case stepsal =>
    refine ⟨?_,?_,?_,?_,?_,?_,?_,?_,?_,?_,?_,trivial⟩
    all_goals refine .inr ⟨by kernel_rfl,fun w1_ hB_=>?_⟩
    all_goals
     obtain ⟨⟨a0,a1,a2,a3,a4,a5,a6,a7,a8,a9,a10⟩,⟨d0,d1,d2,d3,d4,d5,d6,d7,d8,d9,d10⟩,x5,y5⟩:=HC.out _ hB_
     unfold rulA
     go_simp
     first
      | exact ⟨rfl,Below.refl _ _⟩
      | done
      | ((first | rw [decide_eq_true (by omega)] | rw [decide_eq_false (by omega)] | rw [if_pos (by omega)] | rw [IntWalk.i64_in _ (by omega)]);exact ⟨rfl,Below.refl _ _⟩)
      | done
   case nextal =>
   intro w2 hb2
   have HB2:=Lib.hid (HB.out.trans (hb2.mono hws))
   clear hb2 xq5 yq5
   go_wp2_with fail
   go_roundw
   case rel=>exact ⟨k + 1,by omega,by go_num,HB2.out⟩
   case measure=>simp [intOf];omega
  ·have hd:decide ((k:Int) < (l.length:Int)) = false:=decide_eq_false (by omega)
   go_wp2_with fail
   go_ret
   exact ⟨rfl,HB0.out.trans (HB.out.mono hB0)⟩
end
section -- FTellZ
open Go Go.RowKit Go.Shelf
def endR (r:Rul):Bool:=!(decide (2105 < r.to_) && decide (r.to_ < 1048576))
def endedB (S:List SetF):Bool:=S.all fun s=>s.l.all endR
theorem ended_no {S:List SetF} {k j:Nat} (hk:k < S.length) (hj:j < S[k].l.length) (h:endR S[k].l[j] = false):endedB S = false:=by
 unfold endedB
 rw [List.all_eq_false]
 refine ⟨S[k],List.getElem_mem hk,?_⟩
 rw [Bool.not_eq_true,List.all_eq_false]
 exact ⟨S[k].l[j],List.getElem_mem hj,by rw [h];decide⟩
theorem ended_yes {S:List SetF} (h:∀ k (hk:k < S.length),∀ j (hj:j < S[k].l.length),endR S[k].l[j] = true):endedB S = true:=by
 unfold endedB
 rw [List.all_eq_true]
 intro s hs
 obtain ⟨k,hk,rfl⟩:=List.getElem_of_mem hs
 rw [List.all_eq_true]
 intro r hr
 obtain ⟨j,hj,rfl⟩:=List.getElem_of_mem hr
 exact h k hk j hj
theorem endR_iff {r:Rul}:endR r = true ↔ r.to_ ≤ 2105∨1048576 ≤ r.to_:=by
 unfold endR
 rw [Bool.not_eq_true',Bool.and_eq_false_iff,decide_eq_false_iff_not,decide_eq_false_iff_not]
 omega
theorem ended_rules {S:List SetF} (h:endedB S = true) (name:ByteArray):∀ r ∈ ofRul S name,r.to_ ≤ 2105∨1048576 ≤ r.to_:=by
 unfold ofRul
 cases hs:ofS S name with
 | none=>exact fun r hr=>(by cases hr)
 | some s =>
   intro r hr
   unfold endedB at h
   rw [List.all_eq_true] at h
   have h1:=h s (List.mem_of_find?_eq_some hs)
   rw [List.all_eq_true] at h1
   exact endR_iff.1 (h1 r hr)
theorem ended_any (w:World) (zn:ByteArray) (ev sv:Value) (B:Nat) (S:List SetF) (hs:SetsR w B sv S) (hB:B ≤ w.heap.size) (hl:∀ s ∈ S,s.l.length ≤ 100000) :
  Calls Tryz.prog 20 #[worldA zn ev sv] w fun o w'=>o = .returned (.bool (endedB S))∧Below w.heap.size w w':=by
 obtain ⟨A2,cS,rfl,hlc,hcm⟩:=hs.form
 unfold maxLen at hcm
 obtain ⟨W0,hW0⟩:∃ W,w.alloc (.cells #[.string zn,ev,.slice A2 S.length cS] 27) = W:=⟨_,rfl⟩
 have hb0:Below w.heap.size w W0:=by rw [← hW0];exact (Below.refl w.heap.size w).alloc (Nat.le_refl _) _
 have hx0:Blk W0 w.heap.size 27 #[.string zn,ev,.slice A2 S.length cS]:=by rw [← hW0];exact Blk.new w _ _
 have HX:=Lib.hid hx0
 have HB0:=Lib.hid hb0
 have HS:=Lib.hid (hs.below (hb0.mono hB))
 have HLN:=Lib.hid (fun k (hk:k < S.length)=>hl S[k] (List.getElem_mem hk))
 have hsz:=hb0.size
 have HW0:=Lib.hid hW0
 clear hs hl hb0 hx0 hW0
 unfold worldA
 go_enter Tryz.func20,Tryz.ntmps20
 go_wp2_with fail
 rw [HW0.out]
 try simp only [HW0.out]
 clear HW0
 go_loopw [3] (fun iv wr=>∃ k:Nat,k ≤ S.length∧iv = .int .i64 k∧(∀ i (h:i < S.length),i < k→∀ j (hj:j < S[i].l.length),endR S[i].l[j] = true)∧Below W0.heap.size W0 wr) (fun iv _=>S.length - (intOf iv).toNat)
 case atStart=>exact ⟨0,Nat.zero_le _,rfl,fun i _ h=>absurd h (by omega),Below.refl _ _⟩
 case round =>
  obtain ⟨k,hk,rfl,hno,hb⟩:=hrel
  have HNO:=Lib.hid hno
  have HB:=Lib.hid hb
  have hws:=hb.size
  have HXR:=Lib.hid (HX.out.below hb HX.out.lt)
  clear hno hb
  by_cases hlt:k < S.length
  ·have hd:decide ((k:Int) < (S.length:Int)) = true:=decide_eq_true (by omega)
   obtain ⟨bs,os,c',e,hbs,hc⟩:=(HS.out.below (HB.out.mono (by omega))).cells (by omega)
   cases e
   obtain ⟨s0,s1⟩:=hc k hlt
   have HSK:=Lib.hid (fun (W:World) (h:Below W0.heap.size W0 W)=>(HS.out.below (h.mono (by omega))).2 S[k] (List.getElem_mem hlt))
   have hln:=HLN.out k hlt
   have HBAD:=Lib.hid (fun j (hj:j < S[k].l.length) (h:endR S[k].l[j] = false)=>ended_no hlt hj h)
   have HNX:=Lib.hid (fun (h:∀ j (hj:j < S[k].l.length),endR S[k].l[j] = true)=>show ∀ i (hi:i < S.length),i < k + 1→∀ j (hj:j < S[i].l.length),endR S[i].l[j] = true from fun i hi hik=>by
    rcases Nat.lt_or_ge i k with g | g
    ·exact HNO.out i hi g
    ·obtain rfl:i = k:=by omega
     exact h)
   have HSC:=Lib.hid (fun (W:World) (h:Below W0.heap.size W0 W)=>show W.cell? ⟨bs,os + k * 2 + 1,none⟩ = some S[k].v by
    obtain ⟨_,_,_,e,-,hc⟩:=(HS.out.below (h.mono (by omega))).cells (by omega)
    cases e
    exact (hc k hlt).2)
   obtain ⟨s,hsk⟩:∃ s,S[k] = s:=⟨_,rfl⟩
   rw [hsk] at s0 s1 HSK hln HBAD HNX HSC
   obtain ⟨⟨sn,svl,sl⟩,rfl⟩:∃ t,s = t:=⟨_,rfl⟩
   obtain ⟨As,cs,hsv,-,-⟩:=(HSK.out _ HB.out).form
   simp only at s0 s1 HSK hln HBAD HNX HSC hsv
   subst hsv
   clear hc hsk
   have x0:=HXR.out.cell 0 (v:=.string zn) rfl
   have x1:=HXR.out.cell 1 (v:=ev) rfl
   have x2:=HXR.out.cell 2 (v:=.slice (some ⟨bs,os,none⟩) S.length cS) rfl
   have xl:=HXR.out.lt
   go_wp2_with fail
   clear x0 x1 x2 xl
   go_loopw [4] (fun jv wi=>∃ j:Nat,j ≤ sl.length∧jv = .int .i64 j∧(∀ i (h:i < sl.length),i < j→endR sl[i] = true)∧Below W0.heap.size W0 wi) (fun jv _=>sl.length - (intOf jv).toNat)
   case atStart=>exact ⟨0,Nat.zero_le _,rfl,fun i _ h=>absurd h (by omega),HB.out⟩
   case round =>
    obtain ⟨j,hj,rfl,hno,hb⟩:=hrel
    have HNJ:=Lib.hid hno
    have HBI:=Lib.hid hb
    have hwi:=hb.size
    have HXI:=Lib.hid (HX.out.below hb HX.out.lt)
    have s1:=HSC.out _ hb
    have x0:=HXI.out.cell 0 (v:=.string zn) rfl
    have x1:=HXI.out.cell 1 (v:=ev) rfl
    have x2:=HXI.out.cell 2 (v:=.slice (some ⟨bs,os,none⟩) S.length cS) rfl
    have xl:=HXI.out.lt
    clear hno hb
    by_cases hjl:j < sl.length
    ·have hdj:decide ((j:Int) < (sl.length:Int)) = true:=decide_eq_true (by omega)
     obtain ⟨bb,o,c',e,hbb,hc⟩:=(HSK.out _ HBI.out).cells (by omega)
     cases e
     obtain ⟨a0,a1,a2,a3,a4,a5,a6,a7,a8,a9,a10⟩:=hc j hjl
     have HBJ:=Lib.hid (HBAD.out j hjl)
     have HNR:=Lib.hid (fun (h:endR sl[j] = true)=>show ∀ i (hi:i < sl.length),i < j + 1→endR sl[i] = true from fun i hi hij=>by
      rcases Nat.lt_or_ge i j with g | g
      ·exact HNJ.out i hi g
      ·obtain rfl:i = j:=by omega
       exact h)
     obtain ⟨r,hr⟩:∃ r,sl[j] = r:=⟨_,rfl⟩
     rw [hr] at a0 a1 a2 a3 a4 a5 a6 a7 a8 a9 a10 HBJ HNR
     clear hc hr a0 a1 a3 a4 a5 a6 a7 a8 a9 a10
     by_cases h1:2105 < r.to_
     ·have d1:decide (2105 < r.to_) = true:=decide_eq_true h1
      by_cases h2:r.to_ < 1048576
      ·have d2:decide (r.to_ < 1048576) = true:=decide_eq_true h2
       have HV:=Lib.hid (HBJ.out (by unfold endR;rw [d1,d2];rfl))
       go_wp2_with fail
       go_ret
       exact ⟨by rw [HV.out];rfl,HB0.out.trans (HBI.out.mono hsz)⟩
      ·have d2:decide (r.to_ < 1048576) = false:=decide_eq_false h2
       have HER:=Lib.hid (show endR r = true by unfold endR;rw [d1,d2];rfl)
       go_wp2_with fail
       go_roundw
       case rel=>exact ⟨j + 1,by omega,by go_num,HNR.out HER.out,HBI.out⟩
       case measure=>simp [intOf];omega
     ·have d1:decide (2105 < r.to_) = false:=decide_eq_false h1
      have HER:=Lib.hid (show endR r = true by unfold endR;rw [d1];rfl)
      go_wp2_with fail
      go_roundw
      case rel=>exact ⟨j + 1,by omega,by go_num,HNR.out HER.out,HBI.out⟩
      case measure=>simp [intOf];omega
    ·have hdj:decide ((j:Int) < (sl.length:Int)) = false:=decide_eq_false (by omega)
     have HALL:=Lib.hid (HNX.out fun i hi=>HNJ.out i hi (by omega))
     go_wp2_with fail
     go_roundw
     case rel=>exact ⟨k + 1,by omega,by go_num,HALL.out,HBI.out⟩
     case measure=>simp [intOf];omega
  ·have hd:decide ((k:Int) < (S.length:Int)) = false:=decide_eq_false (by omega)
   have HV:=Lib.hid (ended_yes fun i hi j hj=>HNO.out i hi (by omega) j hj)
   have x0:=HXR.out.cell 0 (v:=.string zn) rfl
   have x1:=HXR.out.cell 1 (v:=ev) rfl
   have x2:=HXR.out.cell 2 rfl
   have xl:=HXR.out.lt
   go_wp2_with fail
   go_ret
   exact ⟨by rw [HV.out];rfl,HB0.out.trans (HB.out.mono hsz)⟩
end
section -- FTellO
open Go Go.RowKit Go.Shelf
theorem rfoot_end {w:World} {rb:Nat} (W:World) (a0 a1 a2:Int) (a3 a4:ByteArray) (u:Value) {rules:List Rul} (hR:Blk W rb 64 #[.int .i64 0,.int .i64 0,.int .i64 0,.string ⟨#[]⟩,.string ⟨#[]⟩,.slice none 0 0]) (hB:Below w.heap.size w W) (hrb:w.heap.size ≤ rb) (how:OwnR W w.heap.size u rules) (hne:u.ownBlock ≠ some rb) :
  Below w.heap.size w ((((((W.setCell ⟨rb,0,none⟩ (.int .i64 a0)).setCell ⟨rb,1,none⟩ (.int .i64 a1)).setCell ⟨rb,2,none⟩ (.int .i64 a2)).setCell ⟨rb,3,none⟩ (.string a3)).setCell ⟨rb,4,none⟩ (.string a4)).setCell ⟨rb,5,none⟩ u) ∧
  OwnR ((((((W.setCell ⟨rb,0,none⟩ (.int .i64 a0)).setCell ⟨rb,1,none⟩ (.int .i64 a1)).setCell ⟨rb,2,none⟩ (.int .i64 a2)).setCell ⟨rb,3,none⟩ (.string a3)).setCell ⟨rb,4,none⟩ (.string a4)).setCell ⟨rb,5,none⟩ u) w.heap.size u rules ∧
  Blk ((((((W.setCell ⟨rb,0,none⟩ (.int .i64 a0)).setCell ⟨rb,1,none⟩ (.int .i64 a1)).setCell ⟨rb,2,none⟩ (.int .i64 a2)).setCell ⟨rb,3,none⟩ (.string a3)).setCell ⟨rb,4,none⟩ (.string a4)).setCell ⟨rb,5,none⟩ u) rb 64 #[.int .i64 a0,.int .i64 a1,.int .i64 a2,.string a3,.string a4,u] :=
 ⟨hB.trans ((fr_set6 (T:=fun k=>k = rb) W rfl _ _ _ _ _ _).below hB.size (fun k hk=>by omega)),(fr_set6 (T:=fun k=>k = rb) W rfl _ _ _ _ _ _).own how (fun g hg e=>hne (by rw [hg,e])),(((((hR.set 0 _).set 1 _).set 2 _).set 3 _).set 4 _).set 5 _⟩
theorem fris_ne {W:World} {X:Nat} {cs:Array Value} {v:Value} {o n c:Nat} (hx:Blk W X 64 cs) (ho:TyF W v) (e:v = .slice (some ⟨X,o,none⟩) n c):False:=by
 obtain ⟨cs',fr,h⟩:=ho X o n c e
 unfold Blk at hx
 rw [hx] at h
 injection h with h
 injection h with _ h
 exact absurd h (by decide)
theorem fr_set3b {T:Nat→Prop} (W:World) {b:Nat} (h:T b) (u v x:Value):Fr T W (((W.setCell ⟨b,0,none⟩ u).setCell ⟨b,2,none⟩ v).setCell ⟨b,3,none⟩ x):=((Fr.setCell _ 0 _ h).then (Fr.setCell _ 2 _ h)).then (Fr.setCell _ 3 _ h)
theorem rfof_any (w:World) (B:Nat) (v:Value) (x:EraF) (b:Int) (all:List Rul) (A:List Fir) (hv:Ruls w B v all) (hB:B ≤ w.heap.size) (hA:x.ru.size ≠ 0→rightB all = true∧RightR all A∧Stab Fir.nominal (genL all 1890 2110) A)
  (hfr:∀ r ∈ all,1900 ≤ r.from_∧r.from_ ≤ 2100) (hend:∀ r ∈ all,r.to_ ≤ 2105∨1048576 ≤ r.to_) (hlen:all.length ≤ 19) (hmo:∀ z ∈ all,mOk z) (hmon:x.ru.size ≠ 0→∀ r ∈ all,1 ≤ r.month∧r.month ≤ 12) (ho:-90000 < x.n.off∧x.n.off < 90000) :
  Calls Tryz.prog 26 #[eraA x.n x.ru x.fm x.en,.int .i64 b,v] w fun o w'=>∃ u,o = .returned (footA (refOf x b all A) u)∧OwnR w' w.heap.size u (refOf x b all A).rules∧Below w.heap.size w w':=by
 obtain ⟨Av,cv,rfl,hlc,hcm⟩:=hv.form
 unfold maxLen at hcm
 have hb0:=fun o1 o2 o3:Obj=>(((Below.refl w.heap.size w).alloc (Nat.le_refl _) o1).alloc (by simp) o2).alloc (by simp;omega) o3
 have hE0:=((Blk.new w 42 (eraC x.n x.ru x.fm x.en)).alloc (.cells #[.int .i64 0,.int .i64 0,.int .i64 0,.string ⟨#[]⟩,.string ⟨#[]⟩,.slice none 0 0] 64)).alloc (.cells #[.int .i64 b,.int .i64 x.n.off,.int .i64 0,.string ⟨#[]⟩,.string x.fm,.slice none 0 0] 64)
 have hR0:=(Blk.new (w.alloc (.cells (eraC x.n x.ru x.fm x.en) 42)) 64 #[.int .i64 0,.int .i64 0,.int .i64 0,.string ⟨#[]⟩,.string ⟨#[]⟩,.slice none 0 0]).alloc (.cells #[.int .i64 b,.int .i64 x.n.off,.int .i64 0,.string ⟨#[]⟩,.string x.fm,.slice none 0 0] 64)
 have hF0:=Blk.new ((w.alloc (.cells (eraC x.n x.ru x.fm x.en) 42)).alloc (.cells #[.int .i64 0,.int .i64 0,.int .i64 0,.string ⟨#[]⟩,.string ⟨#[]⟩,.slice none 0 0] 64)) 64 #[.int .i64 b,.int .i64 x.n.off,.int .i64 0,.string ⟨#[]⟩,.string x.fm,.slice none 0 0]
 simp only [World.size_alloc] at hR0 hF0
 have HV:=Lib.hid (fun (W:World) (h:Below w.heap.size w W)=>hv.below (h.mono hB))
 unfold eraC at hE0 hR0 hF0
 unfold eraA
 by_cases hru:x.ru.size = 0
 ·have hem:(x.ru.toList == []) = true:=by rw [emp_size,decide_eq_true hru]
  have HFF:=Lib.hid (show refOf x b all A = ⟨b,x.n.off,x.n.save,⟨#[]⟩,x.fm,[]⟩ by unfold refOf;rw [if_pos hru])
  have HB0:=Lib.hid hb0
  clear hv hA hfr hend hmo hmon hE0 hR0 hF0 hb0 hru
  go_enter Tryz.func26,Tryz.ntmps26
  go_wp2_with fail
  refine bodyPost_ret (v:=.agg #[.int .i64 b,.int .i64 x.n.off,.int .i64 x.n.save,.string ⟨#[]⟩,.string x.fm,.slice none 0 0]) ?_ rfl ⟨.slice none 0 0,by rw [HFF.out];rfl,by rw [HFF.out];exact ownR_nil _ _,HB0.out _ _ _⟩
  simp [results,Tryz.f26,go_sem]
 ·have hem:(x.ru.toList == []) = false:=by rw [emp_size,decide_eq_false hru]
  obtain ⟨hrb,hAr,hst⟩:=hA hru
  have hmn:=hmon hru
  have HFF:=Lib.hid (show refOf x b all A = _ from by unfold refOf;rw [if_neg hru])
  have HAR:=Lib.hid hAr
  have HST:=Lib.hid hst
  have HRB:=Lib.hid hrb
  have HFI:=Lib.hid (fun (W:World) (h:Below w.heap.size w W)=>rfiring_any W B (.slice Av all.length cv) all (HV.out W h) (Nat.le_trans hB h.size) (by omega) hmn)
  have HAL:=Lib.hid (fun (W:World) (h:Below w.heap.size w W)=>rall_any W B (.slice Av all.length cv) all 1890 2110 (HV.out W h) (Nat.le_trans hB h.size) (rightB_iff.1 hrb).1 (by omega) (by omega))
  have HLE:=Lib.hid (fun (W:World) (h:Below w.heap.size w W)=>rletter_any W B (.slice Av all.length cv) all (HV.out W h) (Nat.le_trans hB h.size) (by omega) hmo)
  have HFR:=Lib.hid (fun r (hr:r ∈ all.filter firesB)=>hfr r (List.mem_filter.1 hr).1)
  have HND:=Lib.hid (fun r (hr:r ∈ all.filter firesB)=>hend r (List.mem_filter.1 hr).1)
  have hfl:(all.filter firesB).length ≤ all.length:=List.length_filter_le _ _
  have HB3:=Lib.hid (hb0 (.cells #[.int .i64 x.n.off,.string x.ru,.int .i64 x.n.save,.string x.fm,.bool x.en,.int .i64 x.n.year,.int .i64 x.n.month,.int .i64 x.n.dk,.int .i64 x.n.dw,.int .i64 x.n.dn,.int .i64 x.n.sec,.int .i64 x.n.ak] 42) (.cells #[.int .i64 0,.int .i64 0,.int .i64 0,.string ⟨#[]⟩,.string ⟨#[]⟩,.slice none 0 0] 64) (.cells #[.int .i64 b,.int .i64 x.n.off,.int .i64 0,.string ⟨#[]⟩,.string x.fm,.slice none 0 0] 64))
  have HE3:=Lib.hid hE0
  have HR3:=Lib.hid hR0
  have HF3:=Lib.hid hF0
  clear hv hA hfr hend hmo hmon hE0 hR0 hF0 hb0 hru hrb hAr hst hmn
  go_enter Tryz.func26,Tryz.ntmps26
  go_wp2_with fail
  refine (HFI.out _ HB3.out).mono ?_
  rintro o w4 ⟨u1,rfl,how1,hb⟩
  have hs3:=HB3.out.size
  have HB4:=Lib.hid (HB3.out.trans (hb.mono HB3.out.size))
  have HR4:=Lib.hid (HR3.out.below hb HR3.out.lt)
  have HE4:=Lib.hid (HE3.out.below hb HE3.out.lt)
  have HF4:=Lib.hid (HF3.out.below hb HF3.out.lt)
  have hs4:=HB4.out.size
  clear hb HB3 HR3 HE3 HF3
  obtain ⟨A1,c1,rfl⟩:=(Sl.of_own how1).form
  have HEN:=Lib.hid (rendless_any w4 w4.heap.size _ (all.filter firesB) (Sl.of_own how1) (Nat.le_refl _) (by omega))
  have ec0:=HE4.out.cell 0 (v:=.int .i64 x.n.off) rfl
  have ec1:=HE4.out.cell 1 (v:=.string x.ru) rfl
  have ec2:=HE4.out.cell 2 (v:=.int .i64 x.n.save) rfl
  have ec3:=HE4.out.cell 3 (v:=.string x.fm) rfl
  have el:=HE4.out.lt
  have fc0:=HF4.out.cell 0 (v:=.int .i64 b) rfl
  have fc1:=HF4.out.cell 1 (v:=.int .i64 x.n.off) rfl
  have fc2:=HF4.out.cell 2 (v:=.int .i64 0) rfl
  have fc3:=HF4.out.cell 3 (v:=.string ⟨#[]⟩) rfl
  have fc4:=HF4.out.cell 4 (v:=.string x.fm) rfl
  have fc5:=HF4.out.cell 5 (v:=.slice none 0 0) rfl
  have fz0:=HF4.out.frozen 0
  have fz2:=HF4.out.frozen 2
  have fz3:=HF4.out.frozen 3
  have fz5:=HF4.out.frozen 5
  have fl:=HF4.out.lt
  have rz0:=HR4.out.frozen 0
  have rz1:=HR4.out.frozen 1
  have rz2:=HR4.out.frozen 2
  have rz3:=HR4.out.frozen 3
  have rz4:=HR4.out.frozen 4
  have rz5:=HR4.out.frozen 5
  have rc0:=HR4.out.cell 0 (v:=.int .i64 0) rfl
  have rc1:=HR4.out.cell 1 (v:=.int .i64 0) rfl
  have rc2:=HR4.out.cell 2 (v:=.int .i64 0) rfl
  have rc3:=HR4.out.cell 3 (v:=.string ⟨#[]⟩) rfl
  have rc4:=HR4.out.cell 4 (v:=.string ⟨#[]⟩) rfl
  have rc5:=HR4.out.cell 5 (v:=.slice none 0 0) rfl
  have rl:=HR4.out.lt
  clear how1
  go_wp2_with fail
  refine HEN.out.mono ?_
  rintro o w5 ⟨u2,rfl,how2,hb⟩
  clear ec0 ec1 ec2 ec3 el fc0 fc1 fc2 fc3 fc4 fc5 fz0 fz2 fz3 fz5 fl rz0 rz1 rz2 rz3 rz4 rz5 rc0 rc1 rc2 rc3 rc4 rc5 rl
  have HB5:=Lib.hid (HB4.out.trans (hb.mono HB4.out.size))
  have HR5:=Lib.hid (HR4.out.below hb HR4.out.lt)
  have HE5:=Lib.hid (HE4.out.below hb HE4.out.lt)
  have HF5:=Lib.hid (HF4.out.below hb HF4.out.lt)
  have hs5:=HB5.out.size
  clear hb HB4 HR4 HE4 HF4
  obtain ⟨A2,c2,rfl⟩:=(Sl.of_own how2).form
  have HO5:=Lib.hid how2
  have hef:((all.filter firesB).filter endlB).length ≤ (all.filter firesB).length:=List.length_filter_le _ _
  obtain ⟨R,hR⟩:∃ R,(all.filter firesB).filter endlB = R:=⟨_,rfl⟩
  rw [hR] at HO5 HFF hef ⊢
  have ec0:=HE5.out.cell 0 (v:=.int .i64 x.n.off) rfl
  have ec1:=HE5.out.cell 1 (v:=.string x.ru) rfl
  have ec2:=HE5.out.cell 2 (v:=.int .i64 x.n.save) rfl
  have ec3:=HE5.out.cell 3 (v:=.string x.fm) rfl
  have el:=HE5.out.lt
  have fc0:=HF5.out.cell 0 (v:=.int .i64 b) rfl
  have fc1:=HF5.out.cell 1 (v:=.int .i64 x.n.off) rfl
  have fc2:=HF5.out.cell 2 (v:=.int .i64 0) rfl
  have fc3:=HF5.out.cell 3 (v:=.string ⟨#[]⟩) rfl
  have fc4:=HF5.out.cell 4 (v:=.string x.fm) rfl
  have fc5:=HF5.out.cell 5 (v:=.slice none 0 0) rfl
  have fz0:=HF5.out.frozen 0
  have fz2:=HF5.out.frozen 2
  have fz3:=HF5.out.frozen 3
  have fz5:=HF5.out.frozen 5
  have fl:=HF5.out.lt
  have rz0:=HR5.out.frozen 0
  have rz1:=HR5.out.frozen 1
  have rz2:=HR5.out.frozen 2
  have rz3:=HR5.out.frozen 3
  have rz4:=HR5.out.frozen 4
  have rz5:=HR5.out.frozen 5
  have rc0:=HR5.out.cell 0 (v:=.int .i64 0) rfl
  have rc1:=HR5.out.cell 1 (v:=.int .i64 0) rfl
  have rc2:=HR5.out.cell 2 (v:=.int .i64 0) rfl
  have rc3:=HR5.out.cell 3 (v:=.string ⟨#[]⟩) rfl
  have rc4:=HR5.out.cell 4 (v:=.string ⟨#[]⟩) rfl
  have rc5:=HR5.out.cell 5 (v:=.slice none 0 0) rfl
  have rl:=HR5.out.lt
  have hl5:=HF5.out.lt
  have hf:Fr (fun k=>k = w.heap.size + 1 + 1) w5 (w5.setCell ⟨w.heap.size + 1 + 1,5,none⟩ (.slice A2 R.length c2)):=Fr.setCell w5 5 _ rfl
  have hb:=HB5.out
  have HB6:=Lib.hid (hb.trans (hf.below hb.size (fun k hk=>by omega)))
  have HR6:=Lib.hid (HR5.out.fr hf (by omega))
  have HE6:=Lib.hid (HE5.out.fr hf (by omega))
  have hs6:=HB6.out.size
  have HF6:=Lib.hid (HF5.out.set 5 (.slice A2 R.length c2))
  have HO6:=Lib.hid (hf.own HO5.out (fun g hg e=>own_ne HF5.out HO5.out (by decide) (by rw [hg,e])))
  clear hf hb how2 hR
  by_cases hr0:0 < R.length
  ·have d0:decide ((0:Int) < (R.length:Int)) = true:=decide_eq_true (by omega)
   rw [if_pos hr0] at HFF
   have hl0:0 < (all.filter firesB).length:=by omega
   go_wp2_with fail
   refine (HFI.out _ HB6.out).mono ?_
   rintro o w7 ⟨u3,rfl,how3,hb⟩
   clear ec0 ec1 ec2 ec3 el fc0 fc1 fc2 fc3 fc4 fc5 fz0 fz2 fz3 fz5 fl rz0 rz1 rz2 rz3 rz4 rz5 rc0 rc1 rc2 rc3 rc4 rc5 rl
   have HO7:=Lib.hid (ownsRow_below HO6.out hb)
   have HB7:=Lib.hid (HB6.out.trans (hb.mono HB6.out.size))
   have HR7:=Lib.hid (HR6.out.below hb HR6.out.lt)
   have HE7:=Lib.hid (HE6.out.below hb HE6.out.lt)
   have HF7:=Lib.hid (HF6.out.below hb HF6.out.lt)
   have hs7:=HB7.out.size
   clear hb HB6 HR6 HE6 HF6
   obtain ⟨A3,c3,rfl⟩:=(Sl.of_own how3).form
   have HSE:=Lib.hid (rsettled_any w7 w7.heap.size _ (all.filter firesB) (Sl.of_own how3) (Nat.le_refl _) hl0 HFR.out HND.out)
   obtain ⟨s,hs_⟩:∃ s,settledV (all.filter firesB) = s:=⟨_,rfl⟩
   rw [hs_] at HSE HFF
   clear how3 hs_
   have ec0:=HE7.out.cell 0 (v:=.int .i64 x.n.off) rfl
   have ec1:=HE7.out.cell 1 (v:=.string x.ru) rfl
   have ec2:=HE7.out.cell 2 (v:=.int .i64 x.n.save) rfl
   have ec3:=HE7.out.cell 3 (v:=.string x.fm) rfl
   have el:=HE7.out.lt
   have fc0:=HF7.out.cell 0 (v:=.int .i64 b) rfl
   have fc1:=HF7.out.cell 1 (v:=.int .i64 x.n.off) rfl
   have fc2:=HF7.out.cell 2 (v:=.int .i64 0) rfl
   have fc3:=HF7.out.cell 3 (v:=.string ⟨#[]⟩) rfl
   have fc4:=HF7.out.cell 4 (v:=.string x.fm) rfl
   have fc5:=HF7.out.cell 5 (v:=.slice A2 R.length c2) rfl
   have fz0:=HF7.out.frozen 0
   have fz2:=HF7.out.frozen 2
   have fz3:=HF7.out.frozen 3
   have fz5:=HF7.out.frozen 5
   have fl:=HF7.out.lt
   have rz0:=HR7.out.frozen 0
   have rz1:=HR7.out.frozen 1
   have rz2:=HR7.out.frozen 2
   have rz3:=HR7.out.frozen 3
   have rz4:=HR7.out.frozen 4
   have rz5:=HR7.out.frozen 5
   have rc0:=HR7.out.cell 0 (v:=.int .i64 0) rfl
   have rc1:=HR7.out.cell 1 (v:=.int .i64 0) rfl
   have rc2:=HR7.out.cell 2 (v:=.int .i64 0) rfl
   have rc3:=HR7.out.cell 3 (v:=.string ⟨#[]⟩) rfl
   have rc4:=HR7.out.cell 4 (v:=.string ⟨#[]⟩) rfl
   have rc5:=HR7.out.cell 5 (v:=.slice none 0 0) rfl
   have rl:=HR7.out.lt
   go_wp2_with fail
   refine HSE.out.mono ?_
   rintro o w8 ⟨rfl,hb⟩
   clear ec0 ec1 ec2 ec3 el fc0 fc1 fc2 fc3 fc4 fc5 fz0 fz2 fz3 fz5 fl rz0 rz1 rz2 rz3 rz4 rz5 rc0 rc1 rc2 rc3 rc4 rc5 rl
   have HO8:=Lib.hid (ownsRow_below HO7.out hb)
   have HB8:=Lib.hid (HB7.out.trans (hb.mono HB7.out.size))
   have HR8:=Lib.hid (HR7.out.below hb HR7.out.lt)
   have HE8:=Lib.hid (HE7.out.below hb HE7.out.lt)
   have HF8:=Lib.hid (HF7.out.below hb HF7.out.lt)
   have hs8:=HB8.out.size
   clear hb HB7 HR7 HE7 HF7
   have ec0:=HE8.out.cell 0 (v:=.int .i64 x.n.off) rfl
   have ec1:=HE8.out.cell 1 (v:=.string x.ru) rfl
   have ec2:=HE8.out.cell 2 (v:=.int .i64 x.n.save) rfl
   have ec3:=HE8.out.cell 3 (v:=.string x.fm) rfl
   have el:=HE8.out.lt
   have fc0:=HF8.out.cell 0 (v:=.int .i64 b) rfl
   have fc1:=HF8.out.cell 1 (v:=.int .i64 x.n.off) rfl
   have fc2:=HF8.out.cell 2 (v:=.int .i64 0) rfl
   have fc3:=HF8.out.cell 3 (v:=.string ⟨#[]⟩) rfl
   have fc4:=HF8.out.cell 4 (v:=.string x.fm) rfl
   have fc5:=HF8.out.cell 5 (v:=.slice A2 R.length c2) rfl
   have fz0:=HF8.out.frozen 0
   have fz2:=HF8.out.frozen 2
   have fz3:=HF8.out.frozen 3
   have fz5:=HF8.out.frozen 5
   have fl:=HF8.out.lt
   have rz0:=HR8.out.frozen 0
   have rz1:=HR8.out.frozen 1
   have rz2:=HR8.out.frozen 2
   have rz3:=HR8.out.frozen 3
   have rz4:=HR8.out.frozen 4
   have rz5:=HR8.out.frozen 5
   have rc0:=HR8.out.cell 0 (v:=.int .i64 0) rfl
   have rc1:=HR8.out.cell 1 (v:=.int .i64 0) rfl
   have rc2:=HR8.out.cell 2 (v:=.int .i64 0) rfl
   have rc3:=HR8.out.cell 3 (v:=.string ⟨#[]⟩) rfl
   have rc4:=HR8.out.cell 4 (v:=.string ⟨#[]⟩) rfl
   have rc5:=HR8.out.cell 5 (v:=.slice none 0 0) rfl
   have rl:=HR8.out.lt
   go_wp2_with fail
   have hl8:=HF8.out.lt
   have hf:Fr (fun k=>k = w.heap.size + 1 + 1) w8 (w8.setCell ⟨w.heap.size + 1 + 1,0,none⟩ (.int .i64 (max b s))):=Fr.setCell w8 0 _ rfl
   have hb:=HB8.out
   have HB9:=Lib.hid (hb.trans (hf.below hb.size (fun k hk=>by omega)))
   have HR9:=Lib.hid (HR8.out.fr hf (by omega))
   have HE9:=Lib.hid (HE8.out.fr hf (by omega))
   have hs9:=HB9.out.size
   have HO9:=Lib.hid (hf.own HO8.out (fun g hg e=>own_ne HF8.out HO8.out (by decide) (by rw [hg,e])))
   have HEND:=Lib.hid (rfoot_end _ (max b s) x.n.off (0) (⟨#[]⟩) x.fm (.slice A2 R.length c2) HR9.out HB9.out (by omega) (own_wide HO9.out (by omega)) (own_ne HR9.out (own_wide HO9.out (by omega)) (by decide)))
   have cc0:=HEND.out.2.2.cell 0 (v:=.int .i64 (max b s)) rfl
   have cc1:=HEND.out.2.2.cell 1 (v:=.int .i64 x.n.off) rfl
   have cc2:=HEND.out.2.2.cell 2 (v:=.int .i64 (0)) rfl
   have cc3:=HEND.out.2.2.cell 3 (v:=.string (⟨#[]⟩)) rfl
   have cc4:=HEND.out.2.2.cell 4 (v:=.string x.fm) rfl
   have cc5:=HEND.out.2.2.cell 5 (v:=.slice A2 R.length c2) rfl
   refine bodyPost_ret (v:=.agg #[.int .i64 (max b s),.int .i64 x.n.off,.int .i64 (0),.string (⟨#[]⟩),.string x.fm,.slice A2 R.length c2]) ?_ rfl ⟨.slice A2 R.length c2,by rw [HFF.out];rfl,by rw [HFF.out];exact HEND.out.2.1,HEND.out.1⟩
   simp [results,Tryz.f26,go_sem,cc0,cc1,cc2,cc3,cc4,cc5]
  ·have d0:decide ((0:Int) < (R.length:Int)) = false:=decide_eq_false (by omega)
   rw [if_neg hr0] at HFF
   have hR0:R = []:=List.eq_nil_of_length_eq_zero (by omega)
   subst hR0
   simp only [List.length_nil] at HO6 HF6 HB6 HR6 HE6 d0 ⊢
   clear hr0
   go_wp2_with fail
   refine (HAL.out _ HB6.out).mono ?_
   rintro o w7 ⟨u3,D,rfl,hst,-,hfn,hb⟩
   clear ec0 ec1 ec2 ec3 el fc0 fc1 fc2 fc3 fc4 fc5 fz0 fz2 fz3 fz5 fl rz0 rz1 rz2 rz3 rz4 rz5 rc0 rc1 rc2 rc3 rc4 rc5 rl
   have HO7:=Lib.hid (ownsRow_below HO6.out hb)
   have HB7:=Lib.hid (HB6.out.trans (hb.mono HB6.out.size))
   have HR7:=Lib.hid (HR6.out.below hb HR6.out.lt)
   have HE7:=Lib.hid (HE6.out.below hb HE6.out.lt)
   have HF7:=Lib.hid (HF6.out.below hb HF6.out.lt)
   have hs7:=HB7.out.size
   clear hb HB6 HR6 HE6 HF6
   have hDA:D.map FrI.f = A:=hst.unique HST.out
   obtain ⟨hD1,hD2⟩:=D_ok HRB.out hst
   obtain ⟨A3,c3,e3,-,-⟩:=hfn.1.form
   subst e3
   have HFN:=Lib.hid hfn
   have hDL:D.length = A.length:=by rw [← hDA,List.length_map]
   clear hfn hst
   have hnf:∀ bb o:Nat,A3 = some ⟨bb,o,none⟩→bb ≠ w.heap.size + 1 + 1:=fun bb o e1 e2=>by
    subst e1 e2
    exact fris_ne HF7.out HFN.out.2 rfl
   rcases Nat.eq_zero_or_pos D.length with hz | hz
   ·have hd1:((D.length:Int) == 0) = true:=by simpa using hz
    have hA0:A = []:=List.eq_nil_of_length_eq_zero (by omega)
    have HF0:=Lib.hid (show refOf x b all A = ⟨b,x.n.off,0,letV all,x.fm,[]⟩ by rw [HFF.out,hA0];rfl)
    clear HFF
    have HFF:=HF0
    have HL7:=Lib.hid (HLE.out w7 HB7.out)
    rw [hz] at hd1 ⊢
    have ec0:=HE7.out.cell 0 (v:=.int .i64 x.n.off) rfl
    have ec1:=HE7.out.cell 1 (v:=.string x.ru) rfl
    have ec2:=HE7.out.cell 2 (v:=.int .i64 x.n.save) rfl
    have ec3:=HE7.out.cell 3 (v:=.string x.fm) rfl
    have el:=HE7.out.lt
    have fc0:=HF7.out.cell 0 (v:=.int .i64 b) rfl
    have fc1:=HF7.out.cell 1 (v:=.int .i64 x.n.off) rfl
    have fc2:=HF7.out.cell 2 (v:=.int .i64 0) rfl
    have fc3:=HF7.out.cell 3 (v:=.string ⟨#[]⟩) rfl
    have fc4:=HF7.out.cell 4 (v:=.string x.fm) rfl
    have fc5:=HF7.out.cell 5 (v:=.slice A2 0 c2) rfl
    have fz0:=HF7.out.frozen 0
    have fz2:=HF7.out.frozen 2
    have fz3:=HF7.out.frozen 3
    have fz5:=HF7.out.frozen 5
    have fl:=HF7.out.lt
    have rz0:=HR7.out.frozen 0
    have rz1:=HR7.out.frozen 1
    have rz2:=HR7.out.frozen 2
    have rz3:=HR7.out.frozen 3
    have rz4:=HR7.out.frozen 4
    have rz5:=HR7.out.frozen 5
    have rc0:=HR7.out.cell 0 (v:=.int .i64 0) rfl
    have rc1:=HR7.out.cell 1 (v:=.int .i64 0) rfl
    have rc2:=HR7.out.cell 2 (v:=.int .i64 0) rfl
    have rc3:=HR7.out.cell 3 (v:=.string ⟨#[]⟩) rfl
    have rc4:=HR7.out.cell 4 (v:=.string ⟨#[]⟩) rfl
    have rc5:=HR7.out.cell 5 (v:=.slice none 0 0) rfl
    have rl:=HR7.out.lt
    go_wp2_with fail
    refine HL7.out.mono ?_
    rintro o w8 ⟨rfl,hb⟩
    clear ec0 ec1 ec2 ec3 el fc0 fc1 fc2 fc3 fc4 fc5 fz0 fz2 fz3 fz5 fl rz0 rz1 rz2 rz3 rz4 rz5 rc0 rc1 rc2 rc3 rc4 rc5 rl
    have HO8:=Lib.hid (ownsRow_below HO7.out hb)
    clear HL7
    have HB8:=Lib.hid (HB7.out.trans (hb.mono HB7.out.size))
    have HR8:=Lib.hid (HR7.out.below hb HR7.out.lt)
    have HE8:=Lib.hid (HE7.out.below hb HE7.out.lt)
    have HF8:=Lib.hid (HF7.out.below hb HF7.out.lt)
    have hs8:=HB8.out.size
    clear hb HB7 HR7 HE7 HF7
    have ec0:=HE8.out.cell 0 (v:=.int .i64 x.n.off) rfl
    have ec1:=HE8.out.cell 1 (v:=.string x.ru) rfl
    have ec2:=HE8.out.cell 2 (v:=.int .i64 x.n.save) rfl
    have ec3:=HE8.out.cell 3 (v:=.string x.fm) rfl
    have el:=HE8.out.lt
    have fc0:=HF8.out.cell 0 (v:=.int .i64 b) rfl
    have fc1:=HF8.out.cell 1 (v:=.int .i64 x.n.off) rfl
    have fc2:=HF8.out.cell 2 (v:=.int .i64 0) rfl
    have fc3:=HF8.out.cell 3 (v:=.string ⟨#[]⟩) rfl
    have fc4:=HF8.out.cell 4 (v:=.string x.fm) rfl
    have fc5:=HF8.out.cell 5 (v:=.slice A2 0 c2) rfl
    have fz0:=HF8.out.frozen 0
    have fz2:=HF8.out.frozen 2
    have fz3:=HF8.out.frozen 3
    have fz5:=HF8.out.frozen 5
    have fl:=HF8.out.lt
    have rz0:=HR8.out.frozen 0
    have rz1:=HR8.out.frozen 1
    have rz2:=HR8.out.frozen 2
    have rz3:=HR8.out.frozen 3
    have rz4:=HR8.out.frozen 4
    have rz5:=HR8.out.frozen 5
    have rc0:=HR8.out.cell 0 (v:=.int .i64 0) rfl
    have rc1:=HR8.out.cell 1 (v:=.int .i64 0) rfl
    have rc2:=HR8.out.cell 2 (v:=.int .i64 0) rfl
    have rc3:=HR8.out.cell 3 (v:=.string ⟨#[]⟩) rfl
    have rc4:=HR8.out.cell 4 (v:=.string ⟨#[]⟩) rfl
    have rc5:=HR8.out.cell 5 (v:=.slice none 0 0) rfl
    have rl:=HR8.out.lt
    go_wp2_with fail
    have hl8:=HF8.out.lt
    have hf:Fr (fun k=>k = w.heap.size + 1 + 1) w8 (w8.setCell ⟨w.heap.size + 1 + 1,3,none⟩ (.string (letV all))):=Fr.setCell w8 3 _ rfl
    have hb:=HB8.out
    have HB9:=Lib.hid (hb.trans (hf.below hb.size (fun k hk=>by omega)))
    have HR9:=Lib.hid (HR8.out.fr hf (by omega))
    have HE9:=Lib.hid (HE8.out.fr hf (by omega))
    have hs9:=HB9.out.size
    have HO9:=Lib.hid (hf.own HO8.out (fun g hg e=>own_ne HF8.out HO8.out (by decide) (by rw [hg,e])))
    have HEND:=Lib.hid (rfoot_end _ (b) x.n.off (0) (letV all) x.fm (.slice A2 0 c2) HR9.out HB9.out (by omega) (own_wide HO9.out (by omega)) (own_ne HR9.out (own_wide HO9.out (by omega)) (by decide)))
    have cc0:=HEND.out.2.2.cell 0 (v:=.int .i64 (b)) rfl
    have cc1:=HEND.out.2.2.cell 1 (v:=.int .i64 x.n.off) rfl
    have cc2:=HEND.out.2.2.cell 2 (v:=.int .i64 (0)) rfl
    have cc3:=HEND.out.2.2.cell 3 (v:=.string (letV all)) rfl
    have cc4:=HEND.out.2.2.cell 4 (v:=.string x.fm) rfl
    have cc5:=HEND.out.2.2.cell 5 (v:=.slice A2 0 c2) rfl
    refine bodyPost_ret (v:=.agg #[.int .i64 (b),.int .i64 x.n.off,.int .i64 (0),.string (letV all),.string x.fm,.slice A2 0 c2]) ?_ rfl ⟨.slice A2 0 c2,by rw [HFF.out];rfl,by rw [HFF.out];exact HEND.out.2.1,HEND.out.1⟩
    simp [results,Tryz.f26,go_sem,cc0,cc1,cc2,cc3,cc4,cc5]
   ·obtain ⟨m,hm⟩:∃ m,D.length = m + 1:=⟨D.length - 1,by omega⟩
    have hml:m < D.length:=by omega
    obtain ⟨bb,ob,c',e,hbb,hc⟩:=HFN.out.1.cells (by omega)
    cases e
    have hne:=hnf bb ob rfl
    obtain ⟨g0,g1,g2,g3,g4⟩:=hc m hml
    obtain ⟨y,hy⟩:∃ y,D[m] = y:=⟨_,rfl⟩
    rw [hy] at g0 g1 g2 g3 g4
    have hpr:prevO A A.length = some y.f:=by
     rw [← hDL,hm,prevO_succ (by omega)]
     subst hDA
     rw [List.getElem_map,hy]
    have HIN:=Lib.hid (rinst_any w7 w7.heap.size (.slice (some ⟨bb,ob,none⟩) D.length c3) D HFN.out.1 (Nat.le_refl _) hD1 hD2 m hml x.n.off (by omega))
    rw [hDA] at HIN
    obtain ⟨ii,hii⟩:∃ i,instA A x.n.off m = i:=⟨_,rfl⟩
    rw [hii] at HIN
    have HF0:=Lib.hid (show refOf x b all A = ⟨max b ii,x.n.off,y.f.save,y.f.letter,x.fm,[]⟩ by rw [HFF.out,hpr,show A.length - 1 = m by omega,hii])
    clear HFF
    have HFF:=HF0
    rw [hm] at HIN ⊢
    have hd1:(((m + 1:Nat):Int) == 0) = false:=beq_eq_false_iff_ne.2 (by omega)
    have HG:=Lib.hid (And.intro g2 g4)
    clear hc hy hpr hii hnf g0 g1 g3 g2 g4
    have ec0:=HE7.out.cell 0 (v:=.int .i64 x.n.off) rfl
    have ec1:=HE7.out.cell 1 (v:=.string x.ru) rfl
    have ec2:=HE7.out.cell 2 (v:=.int .i64 x.n.save) rfl
    have ec3:=HE7.out.cell 3 (v:=.string x.fm) rfl
    have el:=HE7.out.lt
    have fc0:=HF7.out.cell 0 (v:=.int .i64 b) rfl
    have fc1:=HF7.out.cell 1 (v:=.int .i64 x.n.off) rfl
    have fc2:=HF7.out.cell 2 (v:=.int .i64 0) rfl
    have fc3:=HF7.out.cell 3 (v:=.string ⟨#[]⟩) rfl
    have fc4:=HF7.out.cell 4 (v:=.string x.fm) rfl
    have fc5:=HF7.out.cell 5 (v:=.slice A2 0 c2) rfl
    have fz0:=HF7.out.frozen 0
    have fz2:=HF7.out.frozen 2
    have fz3:=HF7.out.frozen 3
    have fz5:=HF7.out.frozen 5
    have fl:=HF7.out.lt
    have rz0:=HR7.out.frozen 0
    have rz1:=HR7.out.frozen 1
    have rz2:=HR7.out.frozen 2
    have rz3:=HR7.out.frozen 3
    have rz4:=HR7.out.frozen 4
    have rz5:=HR7.out.frozen 5
    have rc0:=HR7.out.cell 0 (v:=.int .i64 0) rfl
    have rc1:=HR7.out.cell 1 (v:=.int .i64 0) rfl
    have rc2:=HR7.out.cell 2 (v:=.int .i64 0) rfl
    have rc3:=HR7.out.cell 3 (v:=.string ⟨#[]⟩) rfl
    have rc4:=HR7.out.cell 4 (v:=.string ⟨#[]⟩) rfl
    have rc5:=HR7.out.cell 5 (v:=.slice none 0 0) rfl
    have rl:=HR7.out.lt
    go_wp2_with fail
    refine HIN.out.mono ?_
    rintro o w8 ⟨rfl,hb⟩
    clear ec0 ec1 ec2 ec3 el fc0 fc1 fc2 fc3 fc4 fc5 fz0 fz2 fz3 fz5 fl rz0 rz1 rz2 rz3 rz4 rz5 rc0 rc1 rc2 rc3 rc4 rc5 rl
    have HO8:=Lib.hid (ownsRow_below HO7.out hb)
    have g2:=(hb.cell (p:=⟨bb,ob + m * 5 + 2,none⟩) hbb).trans HG.out.1
    have g4:=(hb.cell (p:=⟨bb,ob + m * 5 + 4,none⟩) hbb).trans HG.out.2
    clear HIN
    have HB8:=Lib.hid (HB7.out.trans (hb.mono HB7.out.size))
    have HR8:=Lib.hid (HR7.out.below hb HR7.out.lt)
    have HE8:=Lib.hid (HE7.out.below hb HE7.out.lt)
    have HF8:=Lib.hid (HF7.out.below hb HF7.out.lt)
    have hs8:=HB8.out.size
    clear hb HB7 HR7 HE7 HF7
    have ec0:=HE8.out.cell 0 (v:=.int .i64 x.n.off) rfl
    have ec1:=HE8.out.cell 1 (v:=.string x.ru) rfl
    have ec2:=HE8.out.cell 2 (v:=.int .i64 x.n.save) rfl
    have ec3:=HE8.out.cell 3 (v:=.string x.fm) rfl
    have el:=HE8.out.lt
    have fc0:=HF8.out.cell 0 (v:=.int .i64 b) rfl
    have fc1:=HF8.out.cell 1 (v:=.int .i64 x.n.off) rfl
    have fc2:=HF8.out.cell 2 (v:=.int .i64 0) rfl
    have fc3:=HF8.out.cell 3 (v:=.string ⟨#[]⟩) rfl
    have fc4:=HF8.out.cell 4 (v:=.string x.fm) rfl
    have fc5:=HF8.out.cell 5 (v:=.slice A2 0 c2) rfl
    have fz0:=HF8.out.frozen 0
    have fz2:=HF8.out.frozen 2
    have fz3:=HF8.out.frozen 3
    have fz5:=HF8.out.frozen 5
    have fl:=HF8.out.lt
    have rz0:=HR8.out.frozen 0
    have rz1:=HR8.out.frozen 1
    have rz2:=HR8.out.frozen 2
    have rz3:=HR8.out.frozen 3
    have rz4:=HR8.out.frozen 4
    have rz5:=HR8.out.frozen 5
    have rc0:=HR8.out.cell 0 (v:=.int .i64 0) rfl
    have rc1:=HR8.out.cell 1 (v:=.int .i64 0) rfl
    have rc2:=HR8.out.cell 2 (v:=.int .i64 0) rfl
    have rc3:=HR8.out.cell 3 (v:=.string ⟨#[]⟩) rfl
    have rc4:=HR8.out.cell 4 (v:=.string ⟨#[]⟩) rfl
    have rc5:=HR8.out.cell 5 (v:=.slice none 0 0) rfl
    have rl:=HR8.out.lt
    have hl8:=HF8.out.lt
    go_wp2_with fail
    have hf:Fr (fun k=>k = w.heap.size + 1 + 1) w8 (((w8.setCell ⟨w.heap.size + 1 + 1,0,none⟩ (.int .i64 (max b ii))).setCell ⟨w.heap.size + 1 + 1,2,none⟩ (.int .i64 y.f.save)).setCell ⟨w.heap.size + 1 + 1,3,none⟩ (.string y.f.letter)):=fr_set3b (T:=fun k=>k = w.heap.size + 1 + 1) _ rfl _ _ _
    have hb:=HB8.out
    have HB9:=Lib.hid (hb.trans (hf.below hb.size (fun k hk=>by omega)))
    have HR9:=Lib.hid (HR8.out.fr hf (by omega))
    have HE9:=Lib.hid (HE8.out.fr hf (by omega))
    have hs9:=HB9.out.size
    have HO9:=Lib.hid (hf.own HO8.out (fun g hg e=>own_ne HF8.out HO8.out (by decide) (by rw [hg,e])))
    have HEND:=Lib.hid (rfoot_end _ (max b ii) x.n.off (y.f.save) (y.f.letter) x.fm (.slice A2 0 c2) HR9.out HB9.out (by omega) (own_wide HO9.out (by omega)) (own_ne HR9.out (own_wide HO9.out (by omega)) (by decide)))
    have cc0:=HEND.out.2.2.cell 0 (v:=.int .i64 (max b ii)) rfl
    have cc1:=HEND.out.2.2.cell 1 (v:=.int .i64 x.n.off) rfl
    have cc2:=HEND.out.2.2.cell 2 (v:=.int .i64 (y.f.save)) rfl
    have cc3:=HEND.out.2.2.cell 3 (v:=.string (y.f.letter)) rfl
    have cc4:=HEND.out.2.2.cell 4 (v:=.string x.fm) rfl
    have cc5:=HEND.out.2.2.cell 5 (v:=.slice A2 0 c2) rfl
    refine bodyPost_ret (v:=.agg #[.int .i64 (max b ii),.int .i64 x.n.off,.int .i64 (y.f.save),.string (y.f.letter),.string x.fm,.slice A2 0 c2]) ?_ rfl ⟨.slice A2 0 c2,by rw [HFF.out];rfl,by rw [HFF.out];exact HEND.out.2.1,HEND.out.1⟩
    simp [results,Tryz.f26,go_sem,cc0,cc1,cc2,cc3,cc4,cc5]
end
end Go.Proofs.YteekjfgjmccdnaaGreatDoor
