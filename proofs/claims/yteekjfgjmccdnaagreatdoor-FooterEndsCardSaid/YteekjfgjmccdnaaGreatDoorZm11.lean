/-
  The law FooterEnds of package meridianlaw15 holds: for every input the call returns true, and each argument reads afterwards as it read before.
  Conditions: none beyond the row's own (the listed package-level variables read as the row lists them; the card ties that to the text).
-/
import Derived.Lib.MinMax
import Derived.Deep.QuietTactic
import Derived.BigQuiet
import Derived.WalkKit
import Derived.Test.YteekjfgjmccdnaaGreatDoorChecked
import Derived.Lib.Hide
import Derived.IntWalk
import Derived.Lib.Strings
import Derived.Test.YteekjfgjmccdnaaGreatDoorRows
import Derived.Lib.LaidTab
import Derived.SizedLaws
import Derived.LaidSub
import Derived.Test.YteekjfgjmccdnaaGreatDoorCards
import Derived.Test.YteekjfgjmccdnaaGreatDoorTie
import Derived.Deep.DeepHandedRow
import Derived.Lay
import Derived.Test.YteekjfgjmccdnaaGreatDoorZm10
set_option maxHeartbeats 16000000
set_option maxRecDepth 100000
namespace Go.Proofs.YteekjfgjmccdnaaGreatDoor
section -- HSpecM
open Go Go.RowKit Go.Shelf
end
section -- HSpecZ
open Go Go.RowKit Go.Shelf
theorem getD_atZ {E:List Int} {j:Nat} (hj:j < E.length):E.getD j 0 = E[j]:=by rw [List.getD_eq_getElem?_getD,List.getElem?_eq_getElem hj];rfl
section
variable {l:List Rul} {A:List Fir}
end
structure FewZ (S:List SetF) (l:List EraF):Prop where
 err:errZ S l = 0
 few:fewB l S = true
section
variable {S:List SetF} {l:List EraF}
theorem FewZ.right (h:FewZ S l) (x:EraF):∃ A,RightR (ruleE S x) A:=by
 obtain ⟨A,hA,-,-⟩:=right_yes (rule_right (fewB_iff.1 h.few).2.1 x)
 exact ⟨A,hA⟩
theorem FewZ.pos (h:FewZ S l):0 < l.length:=by
 have:=(errZ_zero h.err).1
 omega
theorem FewZ.off (h:FewZ S l) {k:Nat} (hk:k < l.length):-90000 < l[k].n.off∧l[k].n.off < 90000:=(errZ_off h.err hk).1
theorem FewZ.lt (h:FewZ S l):∀ (d i:Nat),i + d + 1 < (endL S l).length→(endL S l).getD i 0 < (endL S l).getD (i + d + 1) 0
 | 0,i,hj=>riseI_iff.1 (errZ_zero h.err).2.2.2 i hj
 | d + 1,i,hj=>by
   have h1:=h.lt d i (by omega)
   have h2:=riseI_iff.1 (errZ_zero h.err).2.2.2 (i + d + 1) hj
   rw [show i + (d + 1) + 1 = i + d + 1 + 1 by omega]
   omega
theorem FewZ.mono (h:FewZ S l) {i j:Nat} (hij:i < j) (hj:j < (endL S l).length):(endL S l)[i] < (endL S l)[j]:=by
 have:=h.lt (j - i - 1) i (by omega)
 rw [show i + (j - i - 1) + 1 = j by omega,getD_atZ (by omega),getD_atZ hj] at this
 exact this
theorem FewZ.era (h:FewZ S l) {k:Nat} (hk:k < l.length) {i:Int} (h1:fromV (endL S l) k ≤ i) (h2:i < toV (endL S l) k):eraI (endL S l) i = k:=by
 have hle:=length_endL S l
 have hno:∀ j (hj:j < (endL S l).length),j < k→¬ i < (endL S l)[j]:=fun j hj hjk=>by
  unfold fromV at h1
  rw [if_neg (by omega),toV_at (show k - 1 < (endL S l).length by omega)] at h1
  by_cases e:j = k - 1
  ·subst e
   omega
  ·have:=h.mono (show j < k - 1 by omega) (show k - 1 < (endL S l).length by omega)
   omega
 by_cases hj:k < (endL S l).length
 ·rw [toV_at hj] at h2
  exact eraI_at hj hno h2
 ·rw [eraI_none (fun j hj2=>hno j hj2 (by omega))]
  omega
theorem FewZ.loc (h:FewZ S l) {k:Nat} (hk:k < l.length) {i:Int} (h1:fromV (endL S l) k ≤ i) (h2:i < toV (endL S l) k) (h3:-2199023255552 ≤ i) (h4:i ≤ 2199023255552):locZ S l i = locW l[k] (ruleE S l[k]) i:=by
 have hax:atX S l i = l[k]:=by unfold atX;rw [h.era hk h1 h2,List.getD_eq_getElem?_getD,List.getElem?_eq_getElem hk];rfl
 unfold locZ
 rw [if_neg (fun e=>e h.err),if_neg (by omega),hax]
end
end
section -- HPut
open Go Go.RowKit Go.Shelf
end
section -- HRefM
open Go Go.RowKit Go.Shelf
theorem showV_fine {f:ByteArray} {off:Int} {dst:Bool} {letter:ByteArray} (h:(kindR f.data.toList).2 = 0) (ho:-180000 < off∧off < 180000):(showV f off dst letter).2 = 0:=by
 rcases showV_err (off:=off) (dst:=dst) (letter:=letter) h with h3 | h3
 ·exact h3
 ·exfalso
  unfold showV at h3
  rw [if_pos h] at h3
  split at h3
  ·have h4:(0:Int) = 10:=congrArg Prod.snd h3
   omega
  ·split at h3
   ·rw [if_pos (by omega)] at h3
    have h4:(0:Int) = 10:=congrArg Prod.snd h3
    omega
   ·split at h3
    ·split at h3
     ·have h4:(0:Int) = 10:=congrArg Prod.snd h3
      omega
     ·have h4:(0:Int) = 10:=congrArg Prod.snd h3
      omega
    ·have h4:(0:Int) = 10:=congrArg Prod.snd h3
     omega
structure RowsZ (S:List SetF) (l:List EraF) (R:List RowF):Prop where
 len:R.length = l.length
 ok:∀ i (h:i < R.length) (h2:i < l.length),RowOk S l[i] R[i]
section
variable {S:List SetF} {l:List EraF} {R:List RowF}
theorem FewZ.kind (h:FewZ S l) {k:Nat} (hk:k < l.length):(kindR l[k].fm.data.toList).2 = 0:=by
 have her:=(errZ_zero h.err).2.2.1 k hk
 rw [errAt_eq hk] at her
 exact (errE_zero her).1
theorem FewZ.save (h:FewZ S l) {k:Nat} (hk:k < l.length):-90000 < l[k].n.save∧l[k].n.save < 90000:=(errZ_off h.err hk).2
end
end
section -- FootM
open Go Go.RowKit Go.Shelf
theorem ftof_any (zn zn2:ByteArray) (ev ev2 sv:Value) (B:Nat) (l:List EraF) (S:List SetF) (w:World) (hz:ZW w B ev sv l S) (ho:ZOk l S) (hfo:frOk S) :
  Calls Tryz.prog 22 #[zoneA zn ev,setsV zn2 ev2 sv] w (FootPost w S l):=by
 by_cases he:errZ S l = 0
 ·exact fof_ok zn zn2 ev ev2 sv B l S w hz ho hfo he
 ·exact fof_err zn zn2 ev ev2 sv B l S w hz ho he
theorem fires_filter {l:List Rul} {p:Rul→Bool} {f:Fir} (hf:Fires (l.filter p) f):Fires l f:=by
 obtain ⟨r,hr,h⟩:=hf
 exact ⟨r,(List.mem_filter.1 hr).1,h⟩
theorem letOk_filter {l:List Rul} {p:Rul→Bool} (h:letOk l):letOk (l.filter p):=fun r hr=>h r (List.mem_filter.1 hr).1
structure FootGood (F:Foot):Prop where
 off:-90000 < F.off∧F.off < 90000
 save:-90000 < F.save∧F.save < 90000
 kind:(kindR F.fm.data.toList).2 = 0
 fires:∀ f,Fires F.rules f→-90000 < f.save∧f.save < 90000
 since:-2199023255552 ≤ F.since
 letl:letOk F.rules
 letter:F.letter.size ≤ 140737488351232
 fm:F.fm.size < 4294967281
 ok:RuOk F.rules
def locF (F:Foot) (i:Int):Loc :=
 if 0 < F.rules.length then ⟨F.off + (savesV (eraO F) ⟨#[45]⟩ F.rules i).1,dstB (savesV (eraO F) ⟨#[45]⟩ F.rules i).1,(showV F.fm (F.off + (savesV (eraO F) ⟨#[45]⟩ F.rules i).1) (dstB (savesV (eraO F) ⟨#[45]⟩ F.rules i).1) (savesV (eraO F) ⟨#[45]⟩ F.rules i).2).1⟩
 else ⟨F.off + F.save,dstB F.save,(showV F.fm (F.off + F.save) (dstB F.save) F.letter).1⟩
theorem saves_good {F:Foot} (h:FootGood F) (i:Int):(-90000 < (savesV (eraO F) ⟨#[45]⟩ F.rules i).1∧(savesV (eraO F) ⟨#[45]⟩ F.rules i).1 < 90000)∧(savesV (eraO F) ⟨#[45]⟩ F.rules i).2.size ≤ 140737488351232:=by
 unfold savesV
 rw [if_neg (by decide)]
 cases hl:latestF F.rules (eraO F).off i with
 | none=>exact ⟨⟨by show (-90000:Int) < 0;omega,by show (0:Int) < 90000;omega⟩,letV_in h.letl⟩
 | some f=>exact ⟨h.fires f (latestF_mem hl),fires_let h.letl (latestF_mem hl)⟩
theorem FootGood.footOk {F:Foot} (h:FootGood F):FootOk F where
 off:=⟨by have:=h.off;omega,by have:=h.off;omega⟩
 save:=⟨by have:=h.save;omega,by have:=h.save;omega⟩
 letter:=h.letter
 fm:=h.fm
 since:=by have:=h.since;omega
 ok:=h.ok
 sum:=fun i _ _=>by
  have:=saves_good h i
  exact ⟨⟨by omega,by omega⟩,this.2⟩
theorem fatV_good {F:Foot} (h:FootGood F) {i:Int} (h1:F.since ≤ i) (h2:i ≤ 2199023255552):fatV F i = .tuple #[locA (locF F i),.int .i64 0]:=by
 have ho:=h.off
 have hs:=h.save
 unfold fatV locF
 rw [if_neg (by omega),if_neg (by omega)]
 split
 ·have hv:=saves_good h i
  unfold zwithinV withinR
  rw [if_pos (showV_fine h.kind (by show -180000 < F.off + _∧F.off + _ < 180000;omega))]
  rfl
 ·unfold withinR
  rw [if_pos (showV_fine h.kind (by omega))]
  rfl
theorem fatV_same {F:Foot} (h:¬ 0 < F.rules.length) (i j:Int):locF F i = locF F j:=by
 unfold locF
 rw [if_neg h,if_neg h]
theorem fr_few {l:List EraF} {S:List SetF} (h:fewB l S = true):frOk S:=fun s hs r hr=>by
 have h1:=(rightB_iff.1 ((fewB_iff.1 h).2.1 s hs)).1
 unfold smallB at h1
 rw [Bool.and_eq_true,List.all_eq_true] at h1
 have h2:=h1.1 r hr
 unfold smallR at h2
 simp only [Bool.and_eq_true,decide_eq_true_eq] at h2
 omega
theorem begV_in (E:List Int):-2199023255552 ≤ begV E∧begV E ≤ 2199023255553:=by
 unfold begV
 split <;> omega
theorem footZ_good {S:List SetF} {l:List EraF} (h:FewZ S l) (hok:ZOk l S) (hlet:∀ s ∈ S,letOk s.l):FootGood (footZ S l):=by
 have hp:=h.pos
 have hx:lastE l = l[l.length - 1]:=by
  unfold lastE
  rw [List.getD_eq_getElem?_getD,List.getElem?_eq_getElem (by omega)]
  rfl
 have hoff:=h.off (k:=l.length - 1) (by omega)
 have hsv:=h.save (k:=l.length - 1) (by omega)
 have hkd:=h.kind (k:=l.length - 1) (by omega)
 have hfm:=hok.fm _ (List.getElem_mem (show l.length - 1 < l.length by omega))
 rw [← hx] at hoff hsv hkd hfm
 unfold footZ
 rw [if_pos h.err]
 obtain ⟨x,hxx⟩:∃ x,lastE l = x:=⟨_,rfl⟩
 rw [hxx] at hoff hsv hkd hfm ⊢
 have hb:=begV_in (endL S l)
 have hro:=ofRul_ok hok x.ru
 have hla:letOk (ofRul S x.ru):=by
  unfold ofRul
  cases hs:ofS S x.ru with
  | none=>exact fun r hr=>(by cases hr)
  | some s=>exact hlet s (List.mem_of_find?_eq_some hs)
 have hz:-90000 < (0:Int)∧(0:Int) < 90000:=by omega
 unfold footOf
 split
 ·exact ⟨hoff,hsv,hkd,fun f hf=>(by obtain ⟨r,hr,-⟩:=hf;cases hr),hb.1,fun r hr=>(by cases hr),by show (⟨#[]⟩:ByteArray).size ≤ 140737488351232;decide,hfm,ruok_nil⟩
 ·rename_i hru
  obtain ⟨A,hA⟩:=h.right x
  unfold ruleE at hA
  rw [if_neg hru] at hA
  split
  ·exact ⟨hoff,hz,hkd,fun f hf=>hA.save_all (fires_filter (fires_filter hf)),by show _ ≤ max _ _;omega,letOk_filter (letOk_filter hla),by show (⟨#[]⟩:ByteArray).size ≤ 140737488351232;decide,hfm,ruok_filter (ruok_filter hro _) _⟩
  ·split
   ·exact ⟨hoff,hz,hkd,fun f hf=>(by obtain ⟨r,hr,-⟩:=hf;cases hr),hb.1,fun r hr=>(by cases hr),letV_in hla,hfm,ruok_nil⟩
   ·rename_i f hf
    have hff:=fires_filter (latestF_mem hf)
    exact ⟨hoff,hA.save_all hff,hkd,fun f hf=>(by obtain ⟨r,hr,-⟩:=hf;cases hr),by show _ ≤ max _ _;omega,fun r hr=>(by cases hr),fires_let hla hff,hfm,ruok_nil⟩
end
section -- FAwake
open Go Go.RowKit Go.Shelf
def cetF:EraF:=⟨cetE,⟨#[]⟩,cetS,false⟩
def cetFoot:Foot:=⟨-2199023255552,3600,0,⟨#[]⟩,cetS,[]⟩
theorem cet_errZ:errZ [] [cetF] = 0:=by kernel_rfl
theorem cet_foot:footZ [] [cetF] = cetFoot:=by kernel_rfl
theorem cet_at:fatV cetFoot 2199023255552 = .tuple #[.agg #[.int .i64 3600,.bool false,.string ⟨#[67,69,84]⟩],.int .i64 0]:=by kernel_rfl
theorem cet_good:FootGood cetFoot where
 off:=by decide
 save:=by decide
 kind:=by kernel_rfl
 fires:=fun f hf=>(by obtain ⟨r,hr,-⟩:=hf;cases hr)
 since:=by decide
 letl:=fun r hr=>(by cases hr)
 letter:=by decide
 fm:=by decide
 ok:=ruok_nil
theorem cet_ok:FootOk cetFoot:=cet_good.footOk
theorem cet_zok:ZOk [cetF] [] where
 fm:=fun x hx=>(by rw [List.mem_singleton] at hx;subst hx;decide)
 rul:=fun s hs=>(by cases hs)
 len:=by decide
theorem cet_fr:frOk []:=fun s hs=>(by cases hs)
theorem own_eraO (w:World) (cs:Array Value) (h:cs.size = 12):(w.alloc (.cells cs 42)).ownsRow w.heap.size 42 12 (.slice (some ⟨w.heap.size,0,none⟩) 1 1) 1 cs.toList :=
 ⟨by simp [h],.inr ⟨w.heap.size,1,cs,rfl,Nat.le_refl _,World.alloc_heap_new _ _,Nat.le_refl _,by decide,by simp [h],List.take_of_length_le (by simp [h])⟩⟩
theorem fawake_any (w:World) (ha:Ahead w) (htab:0 < w.heap.size) (hm:Tryz.MaxL w) :
  Calls Tryz.prog 21 #[] w fun e w'=>e = .returned (.bool true)∧Below w.heap.size w w':=by
 have hb0:Below w.heap.size w ((w.alloc (.cells (eraP cetE cetS).toArray 42)).alloc (.cells #[.string ⟨#[88]⟩,.slice (some ⟨w.heap.size,0,none⟩) 1 1,.slice none 0 0] 27)):=((Below.refl w.heap.size w).alloc (Nat.le_refl _) _).alloc (by simp) _
 have hw0:=Blk.new (w.alloc (.cells (eraP cetE cetS).toArray 42)) 27 #[.string ⟨#[88]⟩,.slice (some ⟨w.heap.size,0,none⟩) 1 1,.slice none 0 0]
 have he0:ErasR ((w.alloc (.cells (eraP cetE cetS).toArray 42)).alloc (.cells #[.string ⟨#[88]⟩,.slice (some ⟨w.heap.size,0,none⟩) 1 1,.slice none 0 0] 27)) ((w.alloc (.cells (eraP cetE cetS).toArray 42)).alloc (.cells #[.string ⟨#[88]⟩,.slice (some ⟨w.heap.size,0,none⟩) 1 1,.slice none 0 0] 27)).heap.size (.slice (some ⟨w.heap.size,0,none⟩) 1 1) [cetF]:=Sl.of_own ((own_eraO w (eraP cetE cetS).toArray rfl).alloc _)
 rw [World.size_alloc] at hw0
 have HZ:=Lib.hid (ZW.mk he0 (show SetsR _ _ (.slice none 0 0) [] from ⟨Sl.nil _ _ _,fun s hs=>by cases hs⟩) (ha.below hb0 (Nat.le_refl _)) (Nat.lt_of_lt_of_le htab hb0.size) (hm.below hb0 (Nat.le_refl _)) (Nat.le_refl _))
 have HB0:=Lib.hid hb0
 have hof:=ftof_any ⟨#[88]⟩ ⟨#[88]⟩ (.slice (some ⟨w.heap.size,0,none⟩) 1 1) (.slice (some ⟨w.heap.size,0,none⟩) 1 1) (.slice none 0 0) _ [cetF] [] _ HZ.out cet_zok cet_fr
 unfold FootPost at hof
 rw [cet_errZ,cet_foot] at hof
 have HOF:=Lib.hid hof
 have HAH:=Lib.hid (fun (W:World) (h:Below w.heap.size w W)=>And.intro (ha.below h (Nat.le_refl _)) (hm.below h (Nat.le_refl _)))
 have HTB:=Lib.hid htab
 simp only [zoneA,setsV,worldA,footA,cetFoot,cetS] at HOF
 have HW0:=Lib.hid hw0
 unfold eraP cetE cetS at HB0 HW0
 simp only [eraP,cetE] at HOF
 clear hb0 hw0 he0 hof ha hm HZ
 go_enter Tryz.func21,Tryz.ntmps21
 have q0:=HW0.out.cell 0 (v:=.string ⟨#[88]⟩) rfl
 have q1:=HW0.out.cell 1 (v:=.slice (some ⟨w.heap.size,0,none⟩) 1 1) rfl
 have q2:=HW0.out.cell 2 (v:=.slice none 0 0) rfl
 have ql:=HW0.out.lt
 go_wp2_with fail
 refine HOF.out.mono ?_
 rintro o w1 ⟨⟨u,rfl,how⟩,hb⟩
 have HOW:=Lib.hid how
 have hb1:=HB0.out.trans (hb.mono HB0.out.size)
 have hs1:=hb1.size
 obtain ⟨Au,cu,rfl⟩:=(Sl.of_own how).form
 have hfx:=Blk.new w1 54 #[.int .i64 (-2199023255552),.int .i64 3600,.int .i64 0,.string ⟨#[]⟩,.string ⟨#[67,69,84]⟩,.slice Au 0 cu]
 have hb2:=hb1.alloc hs1 (.cells #[.int .i64 (-2199023255552),.int .i64 3600,.int .i64 0,.string ⟨#[]⟩,.string ⟨#[67,69,84]⟩,.slice Au 0 cu] 54)
 have HAT:=Lib.hid (fun (W:World) (h:Below w.heap.size w W) (hr:Ruls W W.heap.size (.slice Au 0 cu) [])=>fat_any W W.heap.size (.slice Au 0 cu) cetFoot 2199023255552 (HAH.out W h).2 (RW.mk hr (HAH.out W h).1 (Nat.lt_of_lt_of_le HTB.out h.size) (Nat.le_refl _)) cet_ok)
 rw [cet_at] at HAT
 have HEN:=Lib.hid (fun W=>fendless_any W cetFoot Au cu)
 rw [show decide (0 < cetFoot.rules.length) = false from rfl] at HEN
 simp only [footA,cetFoot,cetS] at HAT HEN
 simp only [List.length_nil] at HOW how HEN HAT ⊢
 have HFX:=Lib.hid hfx
 have HB2:=Lib.hid hb2
 have HRU:=Lib.hid (show Ruls (w1.alloc (.cells #[.int .i64 (-2199023255552),.int .i64 3600,.int .i64 0,.string ⟨#[]⟩,.string ⟨#[67,69,84]⟩,.slice Au 0 cu] 54)) (w1.alloc (.cells #[.int .i64 (-2199023255552),.int .i64 3600,.int .i64 0,.string ⟨#[]⟩,.string ⟨#[67,69,84]⟩,.slice Au 0 cu] 54)).heap.size (.slice Au 0 cu) [] from Sl.of_own (World.ownsRow.alloc HOW.out _))
 clear hb hb1 hb2 hfx how q0 q1 q2 ql HOF HW0 HB0
 go_wp2_with fail
 refine (HAT.out _ HB2.out HRU.out).mono ?_
 rintro o w2 ⟨rfl,hb⟩
 have hfy:=HFX.out.below hb HFX.out.lt
 have hb3:=HB2.out.trans (hb.mono HB2.out.size)
 have hs3:=hb3.size
 have HFY:=Lib.hid (hfy.alloc (.cells #[.int .i64 3600,.bool false,.string ⟨#[67,69,84]⟩] 48))
 have HLY:=Lib.hid (Blk.new w2 48 #[.int .i64 3600,.bool false,.string ⟨#[67,69,84]⟩])
 have HB3:=Lib.hid (hb3.alloc hs3 (.cells #[.int .i64 3600,.bool false,.string ⟨#[67,69,84]⟩] 48))
 have fc0:=hfy.cell 0 (v:=.int .i64 (-2199023255552)) rfl
 have fc1:=hfy.cell 1 (v:=.int .i64 3600) rfl
 have fc2:=hfy.cell 2 (v:=.int .i64 0) rfl
 have fc3:=hfy.cell 3 (v:=.string ⟨#[]⟩) rfl
 have fc4:=hfy.cell 4 (v:=.string ⟨#[67,69,84]⟩) rfl
 have fc5:=hfy.cell 5 (v:=.slice Au 0 cu) rfl
 have fl:=hfy.lt
 clear hb hfy hb3 HFX HB2 HAT HRU
 go_wp2_with fail
 refine (HEN.out _).mono ?_
 rintro o w3 ⟨rfl,hb⟩
 have HB4:=Lib.hid (HB3.out.trans (hb.mono HB3.out.size))
 have hly:=HLY.out.below hb HLY.out.lt
 have l0:=hly.cell 0 (v:=.int .i64 3600) rfl
 have l1:=hly.cell 1 (v:=.bool false) rfl
 have l2:=hly.cell 2 (v:=.string ⟨#[67,69,84]⟩) rfl
 have ll:=hly.lt
 clear hb hly fc0 fc1 fc2 fc3 fc4 fc5 fl
 go_wp2_with fail
 go_ret
 exact ⟨rfl,HB4.out⟩
end
section -- EnvA
open Go Go.RowKit
section
variable {P:Program} {n:Nat} {ops:Array Oper}
end
end
section -- HRat
open Go Go.RowKit Go.Shelf
end
section -- HSame
open Go Go.RowKit Go.Shelf
def SameB (B2:Nat) (Wb W:World):Prop:=B2 ≤ Wb.heap.size∧∀ k,k < B2→W.heap[k]? = Wb.heap[k]?
section
variable {B2:Nat} {Wb W W':World}
theorem SameB.size (h:SameB B2 Wb W):B2 ≤ W.heap.size:=by
 rcases Nat.eq_zero_or_pos B2 with h0 | h0
 ·omega
 ·have h1:=h.2 (B2 - 1) (by omega)
  rw [Array.getElem?_eq_getElem (show B2 - 1 < Wb.heap.size by have:=h.1;omega)] at h1
  have:=(Array.getElem?_eq_some_iff.1 h1).1
  omega
theorem SameB.cell (h:SameB B2 Wb W) {p:Addr} (hp:p.block < B2):W.cell? p = Wb.cell? p:=World.cell?_of_block (h.2 p.block hp)
end
end
section -- HTurns
open Go Go.RowKit Go.Shelf
attribute [local go_sem] Oper.semAt_some
section
variable {eb lb:Nat} {v:Value} {yb nb lp s0:Nat} {x:EraF} {R:List Rul} {now0:Chg} {O0:Nat→Prop} {J Jx:List Chg→(Nat→Prop)→World→Prop}
end
end
section -- EnvY
open Go Go.RowKit
section
variable {P:Program} {n:Nat} {ops:Array Oper}
end
end
section -- HSteps
open Go Go.RowKit Go.Shelf
attribute [local go_sem] Oper.semAt_some
section
variable {sb fb tb yb lp s0:Nat} {sv:Value} {fr to:Int} {O0:Nat→Prop} {J Jx:List Chg→(Nat→Prop)→World→Prop} {L:List Chg} {α:Type}
end
end
section -- HChanges
open Go Go.RowKit Go.Shelf
attribute [local go_sem] Oper.semAt_some
section
variable {yb nb lp s0:Nat} {now0:Loc} {O0:Nat→Prop} {J Jx:List Chg→(Nat→Prop)→World→Prop}
end
end
section -- HMake
open Go Go.RowKit Go.Shelf
attribute [local go_sem] Oper.semAt_some
end
section -- HRch
open Go Go.RowKit Go.Shelf
section
variable {S:List SetF} {l:List EraF} {R:List RowF}
end
end
section -- HAll
open Go Go.RowKit Go.Shelf
end
section -- TSteps
open Go Go.RowKit Go.Shelf
attribute [local go_sem] Oper.semAt_some
end
section -- TChanges
open Go Go.RowKit Go.Shelf
attribute [local go_sem] Oper.semAt_some
end
section -- TMake
open Go Go.RowKit Go.Shelf
end
section -- TRise
open Go Go.RowKit
open Go Go.RowKit
end
section -- TSame
open Go Go.RowKit
end
section -- TAwake
open Go Go.RowKit Go.Shelf
end
section -- HLawM
open Go Go.RowKit Go.Shelf
end
section -- HRight
open Go Go.RowKit Go.Shelf
noncomputable def goodZ (l:List EraF) (S:List SetF):Bool:=fewB l S && decide (errZ S l = 0)
theorem good_iff {l:List EraF} {S:List SetF}:goodZ l S = true ↔ fewB l S = true∧errZ S l = 0:=by unfold goodZ;rw [Bool.and_eq_true,decide_eq_true_eq]
theorem few_okR {l:List EraF} {S:List SetF} (h:fewB l S = true):ZOk l S where
 fm:=fun x hx=>by have:=eraFew_fm ((fewB_iff.1 h).1 x hx);omega
 rul:=fun s hs=>right_ok ((fewB_iff.1 h).2.1 s hs)
 len:=by have:=(fewB_iff.1 h).2.2.1;omega
def RightPost (w:World) (l:List EraF) (S:List SetF) (o:Ending) (w':World):Prop :=
 (∃ u v,o = .returned (.tuple #[u,v,.bool (goodZ l S)])∧(goodZ l S = true→∃ R,RowsZ S l R∧RowsM w' u R∧Nums w' w'.heap.size v (endL S l)))∧Below w.heap.size w w'
theorem right14_any (w:World) (zn:ByteArray) (ev sv:Value) (B:Nat) (l:List EraF) (S:List SetF) (hz:ZW w B ev sv l S) (hfm:∀ x ∈ l,x.fm.size < 1152921504606846976) :
  Calls Tryz.prog 23 #[worldA zn ev sv] w (RightPost w l S):=by
 obtain ⟨i0,hi,hz0,hz1,hz2⟩:=info_parts infoInt
 obtain ⟨A,cA,rfl,hlc,hcm⟩:=hz.eras.form
 obtain ⟨A2,cS,rfl,hlc2,hcm2⟩:=hz.sets.form
 unfold maxLen at hcm hcm2
 obtain ⟨W0,hW0⟩:∃ W,(w.alloc (.cells #[.string zn,.slice A l.length cA,.slice A2 S.length cS] 27)) = W:=⟨_,rfl⟩
 have hb0:Below w.heap.size w W0:=by rw [← hW0];exact (Below.refl w.heap.size w).alloc (Nat.le_refl _) _
 have HXX:=Lib.hid (show Blk W0 w.heap.size 27 #[.string zn,.slice A l.length cA,.slice A2 S.length cS] by rw [← hW0];exact Blk.new w _ _)
 have HZ0:=Lib.hid (hz.below hb0)
 have HF:=Lib.hid (few_any W0 zn _ _ B l S (HZ0.out.eras) (HZ0.out.sets) HZ0.out.le hfm)
 have HB0:=Lib.hid hb0
 have HW0:=Lib.hid hW0
 have hBw:=hz.le
 clear hz hb0 hW0 hfm
 unfold worldA at HF ⊢
 go_enter Tryz.func23,Tryz.ntmps23
 go_wp2_with fail
 rw [HW0.out]
 try simp only [HW0.out]
 clear HW0
 cases hf:fewB l S with
 | false =>
   rw [hf] at HF
   have HG:=Lib.hid (show goodZ l S = false by unfold goodZ;rw [hf];rfl)
   clear hf
   refine HF.out.mono ?_
   rintro o w1 ⟨rfl,hb⟩
   have HB1:=Lib.hid (HB0.out.trans (hb.mono HB0.out.size))
   clear hb
   go_wp2_with fail
   go_ret3
   exact ⟨⟨_,_,by rw [HG.out];rfl,fun h=>by rw [HG.out] at h;cases h⟩,HB1.out⟩
 | true =>
   rw [hf] at HF
   have HFEW:=Lib.hid hf
   have HFW:=Lib.hid (fewB_iff.1 hf)
   clear hf
   refine HF.out.mono ?_
   rintro o w1 ⟨rfl,hb⟩
   have HBL:=Lib.hid hb
   have HB1:=Lib.hid (HB0.out.trans (hb.mono HB0.out.size))
   have HCK:=Lib.hid (zcheckZ_any zn _ _ B l S w1 (HZ0.out.below hb) (few_okR HFEW.out))
   unfold setsV zoneA worldA at HCK
   obtain ⟨E,hE⟩:∃ e,errZ S l = e:=⟨_,rfl⟩
   rw [hE] at HCK
   have HE:=Lib.hid hE
   have hxb:=HXX.out.below (HBL.out) HXX.out.lt
   have x0:=hxb.cell 0 (v:=.string zn) rfl
   have x1:=hxb.cell 1 (v:=.slice A l.length cA) rfl
   have x2:=hxb.cell 2 (v:=.slice A2 S.length cS) rfl
   have hxl:=hxb.lt
   clear hxb
   clear hb HF hE
   by_cases hE0:E = 0
   ·subst hE0
    have HG:=Lib.hid (show goodZ l S = true from good_iff.2 ⟨HFEW.out,HE.out⟩)
    have hl1:0 < l.length:=by have:=(errZ_zero HE.out).1;omega
    have hl4:l.length ≤ 4:=HFW.out.2.2.1
    have hn0:((l.length:Int) == 0) = false:=beq_eq_false_iff_ne.2 (by omega)
    have hn1:(l.length == 0) = false:=beq_eq_false_iff_ne.2 (by omega)
    go_wp2_with fail
    refine HCK.out.mono ?_
    rintro o w2 ⟨rfl,hb⟩
    have HBL2:=Lib.hid (HBL.out.trans (hb.mono HBL.out.size))
    have HB2:=Lib.hid (HB1.out.trans (hb.mono HB1.out.size))
    have HRW:=Lib.hid (rows_any zn _ _ B l S w2 (HZ0.out.below HBL2.out) HFW.out.2.1 (by omega))
    unfold worldA RowsPost at HRW
    clear hb x0 x1 x2 hxl HCK
    have hxb:=HXX.out.below (HBL2.out) HXX.out.lt
    have x0:=hxb.cell 0 (v:=.string zn) rfl
    have x1:=hxb.cell 1 (v:=.slice A l.length cA) rfl
    have x2:=hxb.cell 2 (v:=.slice A2 S.length cS) rfl
    have hxl:=hxb.lt
    clear hxb
    go_wp2_with fail
    refine HRW.out.mono ?_
    rintro o w3 ⟨⟨u,R,rfl,hRl,hRok,hRm⟩,hb⟩
    have HBL3:=Lib.hid (HBL2.out.trans (hb.mono HBL2.out.size))
    have HB3:=Lib.hid (HB2.out.trans (hb.mono HB2.out.size))
    have HRL:=Lib.hid hRl
    have HRO:=Lib.hid hRok
    have HRM:=Lib.hid hRm
    obtain ⟨A3,c3,rfl,-,-⟩:=hRm.form
    clear hb hRl hRok hRm x0 x1 x2 hxl HRW
    go_wp2_with fail
    go_loopw [6,7] (fun u iv wr=>∃ k:Nat,k ≤ l.length - 1∧iv = .int .i64 k∧wr.ownsRow w3.heap.size 3 1 u k (intsV ((endL S l).take k))∧Below w3.heap.size w3 wr) (fun _ iv _=>l.length - (intOf iv).toNat)
    case atStart=>exact ⟨0,Nat.zero_le _,rfl,World.ownsRow_nil _ _ _ _,Below.refl _ _⟩
    case round =>
     obtain ⟨k,hk,rfl,hown,hbw⟩:=hrel
     have HOW:=Lib.hid hown
     have HBW3:=Lib.hid hbw
     have HBLW:=Lib.hid (HBL3.out.trans (hbw.mono HBL3.out.size))
     have hxb:=HXX.out.below (HBLW.out) HXX.out.lt
     have x0:=hxb.cell 0 (v:=.string zn) rfl
     have x1:=hxb.cell 1 (v:=.slice A l.length cA) rfl
     have x2:=hxb.cell 2 (v:=.slice A2 S.length cS) rfl
     have hxl:=hxb.lt
     clear hxb
     have HZ4:=Lib.hid (HZ0.out.below HBLW.out)
     have HRM4:=Lib.hid (HRM.out.below hbw)
     obtain ⟨A5,c5,hu,-,-⟩:=Sl.of_own hown
     subst hu
     clear hown hbw
     by_cases hlt:k + 1 < l.length
     ·have hd:decide ((k:Int) + 1 < (l.length:Int)) = true:=decide_eq_true (by omega)
      have hlk:k < l.length:=by omega
      have hRlk:k < R.length:=by rw [HRL.out];exact hlk
      obtain ⟨bb,o,c',e,hbb,hc⟩:=HZ4.out.eras.cells (by omega)
      cases e
      have hx:=hc k hlk
      obtain ⟨br,orr,cr',e,hbr,hcr⟩:=HRM4.out.cells (by omega)
      cases e
      obtain ⟨rc0,rc1⟩:=hcr k hRlk
      have hdr:decide (k < R.length) = true:=decide_eq_true hRlk
      have hrok:=HRO.out k hRlk hlk
      have hrm:FrisN w3 R[k].v R[k].D:=HRM.out.2 _ (List.getElem_mem hRlk)
      have her:=(errZ_zero HE.out).2.2.1 k hlk
      rw [errAt_eq hlk,decide_eq_false (by omega)] at her
      have hen:=endL_get (S:=S) (l:=l) (i:=k) hlt
      have hfx:=HFW.out.1 _ (List.getElem_mem hlk)
      have htk:(endL S l).take (k + 1) = (endL S l).take k ++ [(endL S l).getD k 0]:=by
       have h9:k < (endL S l).length:=by rw [length_endL];omega
       rw [List.take_succ_eq_append_getElem h9,List.getD_eq_getElem?_getD,List.getElem?_eq_getElem h9]
       rfl
      obtain ⟨x,hxk⟩:∃ x,l[k] = x:=⟨_,rfl⟩
      obtain ⟨r,hrk⟩:∃ r,R[k] = r:=⟨_,rfl⟩
      rw [hxk] at hx her hen hfx hrok
      rw [hrk] at rc0 rc1 hrok hrm
      obtain ⟨-,hof,hsf,hee,-,hnb⟩:=errE_zero her
      have hee2:x.en = true:=hee
      have hek:=eraFew_end hfx hee2
      have hkin:0 ≤ x.n.ak∧x.n.ak ≤ 2:=by have:=nomV_in (hnb hee2);omega
      have hrb:rnomB x.n = true:=by rw [← hek.nomB_eq hkin];exact hnb hee2
      have hEQ:=end_eq (ru:=x.ru) hrok.right hof hek hrb
      rw [hEQ] at hen
      have hbd4:=below_drewN HBW3.out 1
      have HRD:=Lib.hid (rend_any (wr.drewN 1) x.n x.ru x.fm true w3.heap.size r.v r.D r.letter (hrm.1.below hbd4) hbd4.size hrok.len hrok.bd hek (by omega) (by omega))
      obtain ⟨A9,c9,hv9,-,-⟩:=hrm.1.form
      rw [hv9] at HRD rc0
      rw [← hen] at HRD
      unfold eraA at HRD
      obtain ⟨ek,hekv⟩:∃ z,(endL S l).getD k 0 = z:=⟨_,rfl⟩
      rw [hekv] at HRD htk
      have HTK:=Lib.hid htk
      have HBD4:=Lib.hid hbd4
      obtain ⟨c0,c1,c2,c3,c4,c5,c6,c7,c8,c9,c10,c11⟩:=hx
      rw [hee2] at c4
      have hul:=HOW.out.lt
      clear hc hcr hxk hrk hrok hrm her hen hfx hof hsf hee hee2 hnb hek hrb hEQ hbd4 hekv htk hv9
      go_wp2_with fail
      refine wp_text (by kernel_rfl) (by kernel_rfl) ?_
      intro K hK
      go_wp2_with fail
      refine HRD.out.mono ?_
      rintro o w5 ⟨rfl,hb⟩
      have HB5:=Lib.hid (HBD4.out.trans (hb.mono HBD4.out.size))
      have HOW5:=Lib.hid (ownsRow_below HOW.out ((below_drewN (Below.refl wr.heap.size wr) 1).trans hb))
      clear hb
      go_wp2_with ((at_builtin;refine wpList_append_own _ rfl _ _ 28 rfl (w3.heap.size) 3 i0 (.int .i64 0) 1 8 Tryz.underlying28 hi hz0 hz1 hz2 rfl (by decide) _ _ _ rfl (HOW5.out.alloc _) ⟨w5.heap.size,0,none⟩ 1 1 [.int .i64 ek] rfl rfl (cell_one_new _ _ _) (by simp [Value.oneCell']) (by unfold maxLen;omega) (by omega) (by have:=HB5.out.size;simp <;> omega) ?_;intro v' w1 hown' hgrow _))
      refine ⟨by simp [goodB,fits,plainPair,isSeqV,quiet,Act.eval],?_⟩
      go_wp2_with fail
      go_roundw
      case rel =>
       refine ⟨k + 1,by omega,by go_num,?_,below_push HB5.out HOW5.out hgrow⟩
       rw [HTK.out,intsV_append]
       exact hown'
      case measure=>first | (simp [intOf];done) | (simp [intOf];omega)
     ·obtain rfl:k = l.length - 1:=by omega
      have hd:decide (((l.length - 1:Nat):Int) + 1 < (l.length:Int)) = false:=decide_eq_false (by omega)
      have HOE:=Lib.hid (show Nums wr wr.heap.size (.slice A5 (l.length - 1) c5) (endL S l) by
       have h:=Sl.of_own HOW.out
       rw [List.take_of_length_le (by rw [length_endL];exact Nat.le_refl _)] at h
       unfold Nums
       rw [length_endL]
       exact h)
      have HB4:=Lib.hid (HB3.out.trans (HBW3.out.mono HB3.out.size))
      go_wp2_with fail
      go_ret3
      exact ⟨⟨_,_,by rw [HG.out];rfl,fun _=>⟨R,⟨HRL.out,HRO.out⟩,HRM4.out,HOE.out⟩⟩,HB4.out⟩
   ·have hne:(E != 0) = true:=by simpa using hE0
    have HG:=Lib.hid (show goodZ l S = false by
     cases hg:goodZ l S with
     | false=>rfl
     | true=>exact absurd (HE.out.symm.trans (good_iff.1 hg).2) hE0)
    go_wp2_with fail
    refine HCK.out.mono ?_
    rintro o w2 ⟨rfl,hb⟩
    have HB2:=Lib.hid (HB1.out.trans (hb.mono HB1.out.size))
    clear hb HCK
    go_wp2_with fail
    go_ret3
    exact ⟨⟨_,_,by rw [HG.out];rfl,fun h=>by rw [HG.out] at h;cases h⟩,HB2.out⟩
end
section -- FEnds
open Go Go.RowKit Go.Shelf
theorem fends_walk (w:World) (zn:ByteArray) (ev sv:Value) (l:List EraF) (S:List SetF) (a1:Int) (he:ErasR w w.heap.size ev l) (hs:SetsR w w.heap.size sv S) (hfm:∀ x ∈ l,x.fm.size < 1152921504606846976) (hlet:∀ s ∈ S,letOk s.l)
  (h1:-9223372036854775808 ≤ a1∧a1 ≤ 9223372036854775807) (ha:Ahead w) (htab:0 < w.heap.size) (hm:Tryz.MaxL w) :
  Calls Tryz.prog 5 #[worldA zn ev sv,.int .i64 a1] w fun o w'=>o = .returned (.bool true)∧Below w.heap.size w w':=by
 obtain ⟨A,cA,rfl,hlc,hcm⟩:=he.form
 obtain ⟨A2,cS,rfl,hlc2,hcm2⟩:=hs.form
 unfold maxLen at hcm hcm2
 obtain ⟨W0,hW0⟩:∃ W,w.alloc (.cells #[.string zn,.slice A l.length cA,.slice A2 S.length cS] 27) = W:=⟨_,rfl⟩
 have hb0:Below w.heap.size w W0:=by rw [← hW0];exact (Below.refl w.heap.size w).alloc (Nat.le_refl _) _
 have hxx:Blk W0 w.heap.size 27 #[.string zn,.slice A l.length cA,.slice A2 S.length cS]:=by rw [← hW0];exact Blk.new w _ _
 have HXX:=Lib.hid hxx
 have hz0:=ZW.mk (he.below hb0) (hs.below hb0) (ha.below hb0 (Nat.le_refl _)) htab (hm.below hb0 (Nat.le_refl _)) hb0.size
 have HF:=Lib.hid (right14_any W0 zn _ _ w.heap.size l S hz0 hfm)
 have HZ0:=Lib.hid hz0
 have HB0:=Lib.hid hb0
 have HLET:=Lib.hid hlet
 clear hb0 hxx he hs hm hlet hfm ha hz0
 have HW0:=Lib.hid hW0
 clear hW0
 unfold worldA at *
 go_enter Tryz.func5,Tryz.ntmps5
 have x0:=HXX.out.cell 0 (v:=.string zn) rfl
 have x1:=HXX.out.cell 1 (v:=.slice A l.length cA) rfl
 have x2:=HXX.out.cell 2 (v:=.slice A2 S.length cS) rfl
 have hxl:=HXX.out.lt
 rw [← HW0.out] at x0 x1 x2 hxl
 go_wp2_with fail
 rw [HW0.out]
 try simp only [HW0.out]
 refine HF.out.mono ?_
 rintro o w1 ⟨⟨u,v,rfl,hR⟩,hb⟩
 clear x0 x1 x2 hxl HW0
 have HB1:=Lib.hid hb
 cases hg:goodZ l S with
 | false =>
   clear hR hb HF hg
   go_wp2_with fail
   refine (fawake_any _ ((HZ0.out.below (HB1.out)).ahead) (Nat.lt_of_lt_of_le ((HZ0.out.below (HB1.out)).tab) ((HZ0.out.below (HB1.out)).le)) ((HZ0.out.below (HB1.out)).maxl)).mono ?_
   rintro o wz ⟨rfl,hbz⟩
   have HBZ:=Lib.hid (HB0.out.trans ((HB1.out).mono HB0.out.size |>.trans (hbz.mono (Nat.le_trans HB0.out.size (HB1.out).size))))
   clear hbz
   go_wp2_with fail
   go_ret
   exact ⟨rfl,HBZ.out⟩
 | true =>
   have HFZ:=Lib.hid (FewZ.mk (good_iff.1 hg).2 (good_iff.1 hg).1)
   have HFEW:=Lib.hid (good_iff.1 hg).1
   have HGG:=Lib.hid (footZ_good HFZ.out (few_okR HFEW.out) HLET.out)
   have hof:=ftof_any zn zn (.slice A l.length cA) (.slice A l.length cA) (.slice A2 S.length cS) w.heap.size l S w1 (HZ0.out.below HB1.out) (few_okR HFEW.out) (fr_few HFEW.out)
   unfold FootPost at hof
   rw [HFZ.out.err] at hof
   have HOF:=Lib.hid hof
   unfold zoneA setsV worldA at HOF
   clear hR hb HF hg hof HLET
   by_cases h4:4000000000 < a1
   ·have d4:decide (4000000000 < a1) = true:=decide_eq_true h4
    by_cases h5:a1 ≤ 2195023255552
    ·have d5:decide (a1 ≤ 2195023255552) = true:=decide_eq_true h5
     clear HOF HGG
     go_wp2_with fail
     refine (fawake_any _ ((HZ0.out.below (HB1.out)).ahead) (Nat.lt_of_lt_of_le ((HZ0.out.below (HB1.out)).tab) ((HZ0.out.below (HB1.out)).le)) ((HZ0.out.below (HB1.out)).maxl)).mono ?_
     rintro o wz ⟨rfl,hbz⟩
     have HBZ:=Lib.hid (HB0.out.trans ((HB1.out).mono HB0.out.size |>.trans (hbz.mono (Nat.le_trans HB0.out.size (HB1.out).size))))
     clear hbz
     go_wp2_with fail
     go_ret
     exact ⟨rfl,HBZ.out⟩
    ·have d5:decide (a1 ≤ 2195023255552) = false:=decide_eq_false h5
     have hxb:=HXX.out.below (HB1.out) HXX.out.lt
     have x0:=hxb.cell 0 (v:=.string zn) rfl
     have x1:=hxb.cell 1 (v:=.slice A l.length cA) rfl
     have x2:=hxb.cell 2 (v:=.slice A2 S.length cS) rfl
     have hxl:=hxb.lt
     clear hxb
     go_wp2_with fail
     refine HOF.out.mono ?_
     rintro o w2 ⟨⟨uf,rfl,how⟩,hb⟩
     have HB2:=Lib.hid (HB1.out.trans (hb.mono HB1.out.size))
     obtain ⟨⟨sc,ofs,sv,ltr,fm,Rl⟩,hFF⟩:∃ F,footZ S l = F:=⟨_,rfl⟩
     have HG:=HGG
     rw [hFF] at HG how ⊢
     clear hFF hb HOF x0 x1 x2 hxl
     obtain ⟨Au,cu,rfl⟩:=(Sl.of_own how).form
     have HOW:=Lib.hid how
     have hsc:=HG.out.since
     have hof:=HG.out.off
     have HAT:=Lib.hid (fun (W:World) (h:Below W0.heap.size W0 W) (i:Int) (hr:Ruls W W.heap.size (.slice Au Rl.length cu) Rl)=>fat_any W W.heap.size (.slice Au Rl.length cu) ⟨sc,ofs,sv,ltr,fm,Rl⟩ i ((HZ0.out.below h).maxl) (RW.mk hr ((HZ0.out.below h).ahead) (Nat.lt_of_lt_of_le ((HZ0.out.below h).tab) ((HZ0.out.below h).le)) (Nat.le_refl _)) HG.out.footOk)
     unfold footA at HAT
     unfold footA
     simp only at HAT ⊢
     have hfx:=Blk.new w2 54 #[.int .i64 sc,.int .i64 ofs,.int .i64 sv,.string ltr,.string fm,.slice Au Rl.length cu]
     have HFX:=Lib.hid hfx
     have HB3:=Lib.hid (HB2.out.alloc HB2.out.size (.cells #[.int .i64 sc,.int .i64 ofs,.int .i64 sv,.string ltr,.string fm,.slice Au Rl.length cu] 54))
     have HO3:=Lib.hid (how.alloc (.cells #[.int .i64 sc,.int .i64 ofs,.int .i64 sv,.string ltr,.string fm,.slice Au Rl.length cu] 54))
     clear how hfx
     have hs2:=HB2.out.size
     go_wp2_with fail
     obtain ⟨w3,hw3⟩:∃ W,w2.alloc (.cells #[.int .i64 sc,.int .i64 ofs,.int .i64 sv,.string ltr,.string fm,.slice Au Rl.length cu] 54) = W:=⟨_,rfl⟩
     rw [hw3] at HFX HB3 HO3 ⊢
     clear hw3
     have HAA:=Lib.hid (HAT.out w3 HB3.out a1 (Sl.of_own HO3.out))
     by_cases h1:a1 < sc
     ·have d1:decide (a1 < sc) = true:=decide_eq_true h1
      have hv:fatV ⟨sc,ofs,sv,ltr,fm,Rl⟩ a1 = .tuple #[.agg #[.int .i64 0,.bool false,.string ⟨#[]⟩],.int .i64 16]:=by unfold fatV;rw [if_pos h1]
      rw [hv] at HAA
      clear hv
      refine HAA.out.mono ?_
      rintro o w4 ⟨rfl,hb⟩
      have hfy:=HFX.out.below hb HFX.out.lt
      have HB4:=Lib.hid ((HB3.out.trans (hb.mono HB3.out.size)).alloc (Nat.le_trans HB3.out.size hb.size) (.cells #[.int .i64 0,.bool false,.string ⟨#[]⟩] 48))
      clear hb HAA HAT
      have fc0:=hfy.cell 0 (v:=.int .i64 sc) rfl
      have fc1:=hfy.cell 1 (v:=.int .i64 ofs) rfl
      have fc2:=hfy.cell 2 (v:=.int .i64 sv) rfl
      have fc3:=hfy.cell 3 (v:=.string ltr) rfl
      have fc4:=hfy.cell 4 (v:=.string fm) rfl
      have fc5:=hfy.cell 5 (v:=.slice Au Rl.length cu) rfl
      have fl:=hfy.lt
      clear hfy
      go_wp2_with fail
      refine (fawake_any _ ((HZ0.out.below (HB4.out)).ahead) (Nat.lt_of_lt_of_le ((HZ0.out.below (HB4.out)).tab) ((HZ0.out.below (HB4.out)).le)) ((HZ0.out.below (HB4.out)).maxl)).mono ?_
      rintro o wz ⟨rfl,hbz⟩
      have HBZ:=Lib.hid (HB0.out.trans ((HB4.out).mono HB0.out.size |>.trans (hbz.mono (Nat.le_trans HB0.out.size (HB4.out).size))))
      clear hbz
      go_wp2_with fail
      go_ret
      exact ⟨rfl,HBZ.out⟩
     ·have d1:decide (a1 < sc) = false:=decide_eq_false h1
      by_cases h2:2199023255552 < a1
      ·
       have d2:decide (2199023255552 < a1) = true:=decide_eq_true h2
       have hv:fatV ⟨sc,ofs,sv,ltr,fm,Rl⟩ a1 = .tuple #[.agg #[.int .i64 0,.bool false,.string ⟨#[]⟩],.int .i64 10]:=by unfold fatV;rw [if_neg h1,if_pos h2]
       rw [hv] at HAA
       clear hv
       refine HAA.out.mono ?_
       rintro o w4 ⟨rfl,hb⟩
       have hfy:=HFX.out.below hb HFX.out.lt
       have HB4:=Lib.hid ((HB3.out.trans (hb.mono HB3.out.size)).alloc (Nat.le_trans HB3.out.size hb.size) (.cells #[.int .i64 0,.bool false,.string ⟨#[]⟩] 48))
       clear hb HAA HAT
       have fc0:=hfy.cell 0 (v:=.int .i64 sc) rfl
       have fc1:=hfy.cell 1 (v:=.int .i64 ofs) rfl
       have fc2:=hfy.cell 2 (v:=.int .i64 sv) rfl
       have fc3:=hfy.cell 3 (v:=.string ltr) rfl
       have fc4:=hfy.cell 4 (v:=.string fm) rfl
       have fc5:=hfy.cell 5 (v:=.slice Au Rl.length cu) rfl
       have fl:=hfy.lt
       clear hfy
       go_wp2_with fail
       refine (fawake_any _ ((HZ0.out.below (HB4.out)).ahead) (Nat.lt_of_lt_of_le ((HZ0.out.below (HB4.out)).tab) ((HZ0.out.below (HB4.out)).le)) ((HZ0.out.below (HB4.out)).maxl)).mono ?_
       rintro o wz ⟨rfl,hbz⟩
       have HBZ:=Lib.hid (HB0.out.trans ((HB4.out).mono HB0.out.size |>.trans (hbz.mono (Nat.le_trans HB0.out.size (HB4.out).size))))
       clear hbz
       go_wp2_with fail
       go_ret
       exact ⟨rfl,HBZ.out⟩
      ·have d2:decide (2199023255552 < a1) = false:=decide_eq_false h2
       have hv:=fatV_good HG.out (i:=a1) (by show sc ≤ a1;omega) (by omega)
       have hv2:=fatV_good HG.out (i:=sc) (by show sc ≤ sc;omega) (by omega)
       have HSA:=Lib.hid (fun h=>fatV_same (F:=⟨sc,ofs,sv,ltr,fm,Rl⟩) h a1 sc)
       obtain ⟨⟨xo,xd,xs⟩,hx⟩:∃ x,locF ⟨sc,ofs,sv,ltr,fm,Rl⟩ a1 = x:=⟨_,rfl⟩
       obtain ⟨⟨yo,yd,ys⟩,hy⟩:∃ x,locF ⟨sc,ofs,sv,ltr,fm,Rl⟩ sc = x:=⟨_,rfl⟩
       rw [hx] at hv HSA
       rw [hy] at hv2 HSA
       unfold locA at hv hv2
       rw [hv] at HAA
       have HAS:=Lib.hid (fun (W:World) (h:Below W0.heap.size W0 W) (hr:Ruls W W.heap.size (.slice Au Rl.length cu) Rl)=>HAT.out W h sc hr)
       rw [hv2] at HAS
       clear hx hy hv hv2 HAT
       refine HAA.out.mono ?_
       rintro o w4 ⟨rfl,hb⟩
       have HFY:=Lib.hid ((HFX.out.below hb HFX.out.lt).alloc (.cells #[.int .i64 xo,.bool xd,.string xs] 48))
       have hfy:=HFX.out.below hb HFX.out.lt
       have HXY:=Lib.hid (Blk.new w4 48 #[.int .i64 xo,.bool xd,.string xs])
       have HB4:=Lib.hid ((HB3.out.trans (hb.mono HB3.out.size)).alloc (Nat.le_trans HB3.out.size hb.size) (.cells #[.int .i64 xo,.bool xd,.string xs] 48))
       have HO4:=Lib.hid ((ownsRow_below HO3.out hb).alloc (.cells #[.int .i64 xo,.bool xd,.string xs] 48))
       clear hb HAA HFX
       have fc0:=hfy.cell 0 (v:=.int .i64 sc) rfl
       have fc1:=hfy.cell 1 (v:=.int .i64 ofs) rfl
       have fc2:=hfy.cell 2 (v:=.int .i64 sv) rfl
       have fc3:=hfy.cell 3 (v:=.string ltr) rfl
       have fc4:=hfy.cell 4 (v:=.string fm) rfl
       have fc5:=hfy.cell 5 (v:=.slice Au Rl.length cu) rfl
       have fl:=hfy.lt
       clear hfy
       go_wp2_with fail
       refine (HAS.out _ HB4.out (Sl.of_own HO4.out)).mono ?_
       rintro o w5 ⟨rfl,hb⟩
       clear fc0 fc1 fc2 fc3 fc4 fc5 fl
       have HFZ:=Lib.hid (((HFY.out.below hb HFY.out.lt).alloc (.cells #[.int .i64 yo,.bool yd,.string ys] 48)).alloc (.cells #[.int .i64 sc,.int .i64 (ofs + 1),.int .i64 sv,.string ltr,.string fm,.slice Au Rl.length cu] 54))
       have hfy:=HFY.out.below hb HFY.out.lt
       have HXZ:=Lib.hid (((HXY.out.below hb HXY.out.lt).alloc (.cells #[.int .i64 yo,.bool yd,.string ys] 48)).alloc (.cells #[.int .i64 sc,.int .i64 (ofs + 1),.int .i64 sv,.string ltr,.string fm,.slice Au Rl.length cu] 54))
       have HYZ:=Lib.hid ((Blk.new w5 48 #[.int .i64 yo,.bool yd,.string ys]).alloc (.cells #[.int .i64 sc,.int .i64 (ofs + 1),.int .i64 sv,.string ltr,.string fm,.slice Au Rl.length cu] 54))
       have hgz:=Blk.new (w5.alloc (.cells #[.int .i64 yo,.bool yd,.string ys] 48)) 54 #[.int .i64 sc,.int .i64 (ofs + 1),.int .i64 sv,.string ltr,.string fm,.slice Au Rl.length cu]
       rw [World.size_alloc] at hgz
       have HGZ:=Lib.hid hgz
       have HB5:=Lib.hid (((HB4.out.trans (hb.mono HB4.out.size)).alloc (Nat.le_trans HB4.out.size hb.size) (.cells #[.int .i64 yo,.bool yd,.string ys] 48)).alloc (by have:=HB4.out.size;have:=hb.size;simp;omega) (.cells #[.int .i64 sc,.int .i64 (ofs + 1),.int .i64 sv,.string ltr,.string fm,.slice Au Rl.length cu] 54))
       have HO5:=Lib.hid (((ownsRow_below HO4.out hb).alloc (.cells #[.int .i64 yo,.bool yd,.string ys] 48)).alloc (.cells #[.int .i64 sc,.int .i64 (ofs + 1),.int .i64 sv,.string ltr,.string fm,.slice Au Rl.length cu] 54))
       have HFY5:=HFY
       have HXY5:=HXY
       clear hgz HFY HXY HAS HO4 HB4
       have fc0:=hfy.cell 0 (v:=.int .i64 sc) rfl
       have fc1:=hfy.cell 1 (v:=.int .i64 ofs) rfl
       have fc2:=hfy.cell 2 (v:=.int .i64 sv) rfl
       have fc3:=hfy.cell 3 (v:=.string ltr) rfl
       have fc4:=hfy.cell 4 (v:=.string fm) rfl
       have fc5:=hfy.cell 5 (v:=.slice Au Rl.length cu) rfl
       have fl:=hfy.lt
       clear hfy
       have HEN:=Lib.hid (fun W=>fendless_any W ⟨sc,ofs,sv,ltr,fm,Rl⟩ Au cu)
       unfold footA at HEN
       simp only at HEN
       have hs5:=hb.size
       have HF6:=HFZ
       have HX6:=HXZ
       have HY6:=HYZ
       have HG6:=HGZ
       have HB6:=HB5
       have HO6:=HO5
       by_cases hr:0 < Rl.length
       ·rw [decide_eq_true hr] at HEN
        clear hb HFY5 HXY5 HFZ HXZ HYZ HGZ HB5 HO5 HSA
        go_wp2_with fail
        obtain ⟨w6,hw6⟩:∃ W,(w5.alloc (.cells #[.int .i64 yo,.bool yd,.string ys] 48)).alloc (.cells #[.int .i64 sc,.int .i64 (ofs + 1),.int .i64 sv,.string ltr,.string fm,.slice Au Rl.length cu] 54) = W:=⟨_,rfl⟩
        rw [hw6] at HF6 HX6 HY6 HG6 HB6 HO6 ⊢
        clear hw6
        refine (HEN.out _).mono ?_
        rintro o w7 ⟨rfl,hb⟩
        have HB7:=Lib.hid (HB6.out.trans (hb.mono HB6.out.size))
        have hf7:=HF6.out.below hb HF6.out.lt
        have hg7:=HG6.out.below hb HG6.out.lt
        have hx7:=HX6.out.below hb HX6.out.lt
        have hy7:=HY6.out.below hb HY6.out.lt
        have HO7:=Lib.hid (ownsRow_below HO6.out hb)
        clear fc0 fc1 fc2 fc3 fc4 fc5 fl
        have fc0:=hf7.cell 0 (v:=.int .i64 sc) rfl
        have fc1:=hf7.cell 1 (v:=.int .i64 ofs) rfl
        have fc2:=hf7.cell 2 (v:=.int .i64 sv) rfl
        have fc3:=hf7.cell 3 (v:=.string ltr) rfl
        have fc4:=hf7.cell 4 (v:=.string fm) rfl
        have fc5:=hf7.cell 5 (v:=.slice Au Rl.length cu) rfl
        have fl:=hf7.lt
        have xc0:=hx7.cell 0 (v:=.int .i64 xo) rfl
        have xc1:=hx7.cell 1 (v:=.bool xd) rfl
        have xc2:=hx7.cell 2 (v:=.string xs) rfl
        have xl:=hx7.lt
        have yc0:=hy7.cell 0 (v:=.int .i64 yo) rfl
        have yc1:=hy7.cell 1 (v:=.bool yd) rfl
        have yc2:=hy7.cell 2 (v:=.string ys) rfl
        have yl:=hy7.lt
        have gc0:=hg7.cell 0 (v:=.int .i64 sc) rfl
        have gc1:=hg7.cell 1 (v:=.int .i64 (ofs + 1)) rfl
        have gc2:=hg7.cell 2 (v:=.int .i64 sv) rfl
        have gc3:=hg7.cell 3 (v:=.string ltr) rfl
        have gc4:=hg7.cell 4 (v:=.string fm) rfl
        have gc5:=hg7.cell 5 (v:=.slice Au Rl.length cu) rfl
        have gl:=hg7.lt
        have HSM:=Lib.hid (fsame_any w7 w7.heap.size (.slice Au Rl.length cu) (.slice Au Rl.length cu) ⟨sc,ofs,sv,ltr,fm,Rl⟩ ⟨sc,ofs + 1,sv,ltr,fm,Rl⟩ (Sl.of_own HO7.out) (Sl.of_own HO7.out) (Nat.le_refl _))
        rw [show sameF ⟨sc,ofs,sv,ltr,fm,Rl⟩ ⟨sc,ofs + 1,sv,ltr,fm,Rl⟩ = false from by
         cases e:sameF ⟨sc,ofs,sv,ltr,fm,Rl⟩ ⟨sc,ofs + 1,sv,ltr,fm,Rl⟩ with
         | false=>rfl
         | true =>
           have:=congrArg Foot.off (sameF_iff.1 e)
           simp only at this
           omega] at HSM
        unfold footA at HSM
        simp only at HSM
        clear hb hf7 hg7 hx7 hy7 HF6 HX6 HY6 HG6 HB6 HO6 HEN
        go_wp2_with fail
        refine HSM.out.mono ?_
        rintro o w8 ⟨rfl,hb⟩
        have HB8:=Lib.hid (HB7.out.trans (hb.mono HB7.out.size))
        clear hb HSM xc0 xc1 xc2 xl yc0 yc1 yc2 yl gc0 gc1 gc2 gc3 gc4 gc5 gl
        clear fc0 fc1 fc2 fc3 fc4 fc5 fl
        go_wp2_with fail
        refine (fawake_any _ ((HZ0.out.below (HB8.out)).ahead) (Nat.lt_of_lt_of_le ((HZ0.out.below (HB8.out)).tab) ((HZ0.out.below (HB8.out)).le)) ((HZ0.out.below (HB8.out)).maxl)).mono ?_
        rintro o wz ⟨rfl,hbz⟩
        have HBZ:=Lib.hid (HB0.out.trans ((HB8.out).mono HB0.out.size |>.trans (hbz.mono (Nat.le_trans HB0.out.size (HB8.out).size))))
        clear hbz
        go_wp2_with fail
        go_ret
        exact ⟨rfl,HBZ.out⟩
       ·rw [decide_eq_false hr] at HEN
        have HSE:=HSA.out hr
        obtain ⟨e1,e2,e3⟩:=Loc.mk.inj HSE
        clear HSE
        clear hb HFY5 HXY5 HFZ HXZ HYZ HGZ HB5 HO5 HSA
        go_wp2_with fail
        obtain ⟨w6,hw6⟩:∃ W,(w5.alloc (.cells #[.int .i64 yo,.bool yd,.string ys] 48)).alloc (.cells #[.int .i64 sc,.int .i64 (ofs + 1),.int .i64 sv,.string ltr,.string fm,.slice Au Rl.length cu] 54) = W:=⟨_,rfl⟩
        rw [hw6] at HF6 HX6 HY6 HG6 HB6 HO6 ⊢
        clear hw6
        refine (HEN.out _).mono ?_
        rintro o w7 ⟨rfl,hb⟩
        have HB7:=Lib.hid (HB6.out.trans (hb.mono HB6.out.size))
        have hf7:=HF6.out.below hb HF6.out.lt
        have hg7:=HG6.out.below hb HG6.out.lt
        have hx7:=HX6.out.below hb HX6.out.lt
        have hy7:=HY6.out.below hb HY6.out.lt
        have HO7:=Lib.hid (ownsRow_below HO6.out hb)
        clear fc0 fc1 fc2 fc3 fc4 fc5 fl
        have fc0:=hf7.cell 0 (v:=.int .i64 sc) rfl
        have fc1:=hf7.cell 1 (v:=.int .i64 ofs) rfl
        have fc2:=hf7.cell 2 (v:=.int .i64 sv) rfl
        have fc3:=hf7.cell 3 (v:=.string ltr) rfl
        have fc4:=hf7.cell 4 (v:=.string fm) rfl
        have fc5:=hf7.cell 5 (v:=.slice Au Rl.length cu) rfl
        have fl:=hf7.lt
        have xc0:=hx7.cell 0 (v:=.int .i64 xo) rfl
        have xc1:=hx7.cell 1 (v:=.bool xd) rfl
        have xc2:=hx7.cell 2 (v:=.string xs) rfl
        have xl:=hx7.lt
        have yc0:=hy7.cell 0 (v:=.int .i64 yo) rfl
        have yc1:=hy7.cell 1 (v:=.bool yd) rfl
        have yc2:=hy7.cell 2 (v:=.string ys) rfl
        have yl:=hy7.lt
        have gc0:=hg7.cell 0 (v:=.int .i64 sc) rfl
        have gc1:=hg7.cell 1 (v:=.int .i64 (ofs + 1)) rfl
        have gc2:=hg7.cell 2 (v:=.int .i64 sv) rfl
        have gc3:=hg7.cell 3 (v:=.string ltr) rfl
        have gc4:=hg7.cell 4 (v:=.string fm) rfl
        have gc5:=hg7.cell 5 (v:=.slice Au Rl.length cu) rfl
        have gl:=hg7.lt
        have HSM:=Lib.hid (fsame_any w7 w7.heap.size (.slice Au Rl.length cu) (.slice Au Rl.length cu) ⟨sc,ofs,sv,ltr,fm,Rl⟩ ⟨sc,ofs + 1,sv,ltr,fm,Rl⟩ (Sl.of_own HO7.out) (Sl.of_own HO7.out) (Nat.le_refl _))
        rw [show sameF ⟨sc,ofs,sv,ltr,fm,Rl⟩ ⟨sc,ofs + 1,sv,ltr,fm,Rl⟩ = false from by
         cases e:sameF ⟨sc,ofs,sv,ltr,fm,Rl⟩ ⟨sc,ofs + 1,sv,ltr,fm,Rl⟩ with
         | false=>rfl
         | true =>
           have:=congrArg Foot.off (sameF_iff.1 e)
           simp only at this
           omega] at HSM
        unfold footA at HSM
        simp only at HSM
        clear hb hf7 hg7 hx7 hy7 HF6 HX6 HY6 HG6 HB6 HO6 HEN
        go_wp2_with fail
        refine HSM.out.mono ?_
        rintro o w8 ⟨rfl,hb⟩
        have HB8:=Lib.hid (HB7.out.trans (hb.mono HB7.out.size))
        clear hb HSM xc0 xc1 xc2 xl yc0 yc1 yc2 yl gc0 gc1 gc2 gc3 gc4 gc5 gl
        clear fc0 fc1 fc2 fc3 fc4 fc5 fl
        go_wp2_with fail
        refine (fawake_any _ ((HZ0.out.below (HB8.out)).ahead) (Nat.lt_of_lt_of_le ((HZ0.out.below (HB8.out)).tab) ((HZ0.out.below (HB8.out)).le)) ((HZ0.out.below (HB8.out)).maxl)).mono ?_
        rintro o wz ⟨rfl,hbz⟩
        have HBZ:=Lib.hid (HB0.out.trans ((HB8.out).mono HB0.out.size |>.trans (hbz.mono (Nat.le_trans HB0.out.size (HB8.out).size))))
        clear hbz
        go_wp2_with fail
        go_ret
        exact ⟨rfl,HBZ.out⟩
   ·have d4:decide (4000000000 < a1) = false:=decide_eq_false h4
    have hxb:=HXX.out.below (HB1.out) HXX.out.lt
    have x0:=hxb.cell 0 (v:=.string zn) rfl
    have x1:=hxb.cell 1 (v:=.slice A l.length cA) rfl
    have x2:=hxb.cell 2 (v:=.slice A2 S.length cS) rfl
    have hxl:=hxb.lt
    clear hxb
    go_wp2_with fail
    refine HOF.out.mono ?_
    rintro o w2 ⟨⟨uf,rfl,how⟩,hb⟩
    have HB2:=Lib.hid (HB1.out.trans (hb.mono HB1.out.size))
    obtain ⟨⟨sc,ofs,sv,ltr,fm,Rl⟩,hFF⟩:∃ F,footZ S l = F:=⟨_,rfl⟩
    have HG:=HGG
    rw [hFF] at HG how ⊢
    clear hFF hb HOF x0 x1 x2 hxl
    obtain ⟨Au,cu,rfl⟩:=(Sl.of_own how).form
    have HOW:=Lib.hid how
    have hsc:=HG.out.since
    have hof:=HG.out.off
    have HAT:=Lib.hid (fun (W:World) (h:Below W0.heap.size W0 W) (i:Int) (hr:Ruls W W.heap.size (.slice Au Rl.length cu) Rl)=>fat_any W W.heap.size (.slice Au Rl.length cu) ⟨sc,ofs,sv,ltr,fm,Rl⟩ i ((HZ0.out.below h).maxl) (RW.mk hr ((HZ0.out.below h).ahead) (Nat.lt_of_lt_of_le ((HZ0.out.below h).tab) ((HZ0.out.below h).le)) (Nat.le_refl _)) HG.out.footOk)
    unfold footA at HAT
    unfold footA
    simp only at HAT ⊢
    have hfx:=Blk.new w2 54 #[.int .i64 sc,.int .i64 ofs,.int .i64 sv,.string ltr,.string fm,.slice Au Rl.length cu]
    have HFX:=Lib.hid hfx
    have HB3:=Lib.hid (HB2.out.alloc HB2.out.size (.cells #[.int .i64 sc,.int .i64 ofs,.int .i64 sv,.string ltr,.string fm,.slice Au Rl.length cu] 54))
    have HO3:=Lib.hid (how.alloc (.cells #[.int .i64 sc,.int .i64 ofs,.int .i64 sv,.string ltr,.string fm,.slice Au Rl.length cu] 54))
    clear how hfx
    have hs2:=HB2.out.size
    go_wp2_with fail
    obtain ⟨w3,hw3⟩:∃ W,w2.alloc (.cells #[.int .i64 sc,.int .i64 ofs,.int .i64 sv,.string ltr,.string fm,.slice Au Rl.length cu] 54) = W:=⟨_,rfl⟩
    rw [hw3] at HFX HB3 HO3 ⊢
    clear hw3
    have HAA:=Lib.hid (HAT.out w3 HB3.out a1 (Sl.of_own HO3.out))
    by_cases h1:a1 < sc
    ·have d1:decide (a1 < sc) = true:=decide_eq_true h1
     have hv:fatV ⟨sc,ofs,sv,ltr,fm,Rl⟩ a1 = .tuple #[.agg #[.int .i64 0,.bool false,.string ⟨#[]⟩],.int .i64 16]:=by unfold fatV;rw [if_pos h1]
     rw [hv] at HAA
     clear hv
     refine HAA.out.mono ?_
     rintro o w4 ⟨rfl,hb⟩
     have hfy:=HFX.out.below hb HFX.out.lt
     have HB4:=Lib.hid ((HB3.out.trans (hb.mono HB3.out.size)).alloc (Nat.le_trans HB3.out.size hb.size) (.cells #[.int .i64 0,.bool false,.string ⟨#[]⟩] 48))
     clear hb HAA HAT
     have fc0:=hfy.cell 0 (v:=.int .i64 sc) rfl
     have fc1:=hfy.cell 1 (v:=.int .i64 ofs) rfl
     have fc2:=hfy.cell 2 (v:=.int .i64 sv) rfl
     have fc3:=hfy.cell 3 (v:=.string ltr) rfl
     have fc4:=hfy.cell 4 (v:=.string fm) rfl
     have fc5:=hfy.cell 5 (v:=.slice Au Rl.length cu) rfl
     have fl:=hfy.lt
     clear hfy
     go_wp2_with fail
     refine (fawake_any _ ((HZ0.out.below (HB4.out)).ahead) (Nat.lt_of_lt_of_le ((HZ0.out.below (HB4.out)).tab) ((HZ0.out.below (HB4.out)).le)) ((HZ0.out.below (HB4.out)).maxl)).mono ?_
     rintro o wz ⟨rfl,hbz⟩
     have HBZ:=Lib.hid (HB0.out.trans ((HB4.out).mono HB0.out.size |>.trans (hbz.mono (Nat.le_trans HB0.out.size (HB4.out).size))))
     clear hbz
     go_wp2_with fail
     go_ret
     exact ⟨rfl,HBZ.out⟩
    ·have d1:decide (a1 < sc) = false:=decide_eq_false h1
     by_cases h2:2199023255552 < a1
     ·
      exfalso
      omega
     ·have d2:decide (2199023255552 < a1) = false:=decide_eq_false h2
      have hv:=fatV_good HG.out (i:=a1) (by show sc ≤ a1;omega) (by omega)
      have hv2:=fatV_good HG.out (i:=sc) (by show sc ≤ sc;omega) (by omega)
      have HSA:=Lib.hid (fun h=>fatV_same (F:=⟨sc,ofs,sv,ltr,fm,Rl⟩) h a1 sc)
      obtain ⟨⟨xo,xd,xs⟩,hx⟩:∃ x,locF ⟨sc,ofs,sv,ltr,fm,Rl⟩ a1 = x:=⟨_,rfl⟩
      obtain ⟨⟨yo,yd,ys⟩,hy⟩:∃ x,locF ⟨sc,ofs,sv,ltr,fm,Rl⟩ sc = x:=⟨_,rfl⟩
      rw [hx] at hv HSA
      rw [hy] at hv2 HSA
      unfold locA at hv hv2
      rw [hv] at HAA
      have HAS:=Lib.hid (fun (W:World) (h:Below W0.heap.size W0 W) (hr:Ruls W W.heap.size (.slice Au Rl.length cu) Rl)=>HAT.out W h sc hr)
      rw [hv2] at HAS
      clear hx hy hv hv2 HAT
      refine HAA.out.mono ?_
      rintro o w4 ⟨rfl,hb⟩
      have HFY:=Lib.hid ((HFX.out.below hb HFX.out.lt).alloc (.cells #[.int .i64 xo,.bool xd,.string xs] 48))
      have hfy:=HFX.out.below hb HFX.out.lt
      have HXY:=Lib.hid (Blk.new w4 48 #[.int .i64 xo,.bool xd,.string xs])
      have HB4:=Lib.hid ((HB3.out.trans (hb.mono HB3.out.size)).alloc (Nat.le_trans HB3.out.size hb.size) (.cells #[.int .i64 xo,.bool xd,.string xs] 48))
      have HO4:=Lib.hid ((ownsRow_below HO3.out hb).alloc (.cells #[.int .i64 xo,.bool xd,.string xs] 48))
      clear hb HAA HFX
      have fc0:=hfy.cell 0 (v:=.int .i64 sc) rfl
      have fc1:=hfy.cell 1 (v:=.int .i64 ofs) rfl
      have fc2:=hfy.cell 2 (v:=.int .i64 sv) rfl
      have fc3:=hfy.cell 3 (v:=.string ltr) rfl
      have fc4:=hfy.cell 4 (v:=.string fm) rfl
      have fc5:=hfy.cell 5 (v:=.slice Au Rl.length cu) rfl
      have fl:=hfy.lt
      clear hfy
      go_wp2_with fail
      refine (HAS.out _ HB4.out (Sl.of_own HO4.out)).mono ?_
      rintro o w5 ⟨rfl,hb⟩
      clear fc0 fc1 fc2 fc3 fc4 fc5 fl
      have HFZ:=Lib.hid (((HFY.out.below hb HFY.out.lt).alloc (.cells #[.int .i64 yo,.bool yd,.string ys] 48)).alloc (.cells #[.int .i64 sc,.int .i64 (ofs + 1),.int .i64 sv,.string ltr,.string fm,.slice Au Rl.length cu] 54))
      have hfy:=HFY.out.below hb HFY.out.lt
      have HXZ:=Lib.hid (((HXY.out.below hb HXY.out.lt).alloc (.cells #[.int .i64 yo,.bool yd,.string ys] 48)).alloc (.cells #[.int .i64 sc,.int .i64 (ofs + 1),.int .i64 sv,.string ltr,.string fm,.slice Au Rl.length cu] 54))
      have HYZ:=Lib.hid ((Blk.new w5 48 #[.int .i64 yo,.bool yd,.string ys]).alloc (.cells #[.int .i64 sc,.int .i64 (ofs + 1),.int .i64 sv,.string ltr,.string fm,.slice Au Rl.length cu] 54))
      have hgz:=Blk.new (w5.alloc (.cells #[.int .i64 yo,.bool yd,.string ys] 48)) 54 #[.int .i64 sc,.int .i64 (ofs + 1),.int .i64 sv,.string ltr,.string fm,.slice Au Rl.length cu]
      rw [World.size_alloc] at hgz
      have HGZ:=Lib.hid hgz
      have HB5:=Lib.hid (((HB4.out.trans (hb.mono HB4.out.size)).alloc (Nat.le_trans HB4.out.size hb.size) (.cells #[.int .i64 yo,.bool yd,.string ys] 48)).alloc (by have:=HB4.out.size;have:=hb.size;simp;omega) (.cells #[.int .i64 sc,.int .i64 (ofs + 1),.int .i64 sv,.string ltr,.string fm,.slice Au Rl.length cu] 54))
      have HO5:=Lib.hid (((ownsRow_below HO4.out hb).alloc (.cells #[.int .i64 yo,.bool yd,.string ys] 48)).alloc (.cells #[.int .i64 sc,.int .i64 (ofs + 1),.int .i64 sv,.string ltr,.string fm,.slice Au Rl.length cu] 54))
      have HFY5:=HFY
      have HXY5:=HXY
      clear hgz HFY HXY HAS HO4 HB4
      have fc0:=hfy.cell 0 (v:=.int .i64 sc) rfl
      have fc1:=hfy.cell 1 (v:=.int .i64 ofs) rfl
      have fc2:=hfy.cell 2 (v:=.int .i64 sv) rfl
      have fc3:=hfy.cell 3 (v:=.string ltr) rfl
      have fc4:=hfy.cell 4 (v:=.string fm) rfl
      have fc5:=hfy.cell 5 (v:=.slice Au Rl.length cu) rfl
      have fl:=hfy.lt
      clear hfy
      have HEN:=Lib.hid (fun W=>fendless_any W ⟨sc,ofs,sv,ltr,fm,Rl⟩ Au cu)
      unfold footA at HEN
      simp only at HEN
      have hs5:=hb.size
      have HF6:=HFZ
      have HX6:=HXZ
      have HY6:=HYZ
      have HG6:=HGZ
      have HB6:=HB5
      have HO6:=HO5
      by_cases hr:0 < Rl.length
      ·rw [decide_eq_true hr] at HEN
       clear hb HFY5 HXY5 HFZ HXZ HYZ HGZ HB5 HO5 HSA
       go_wp2_with fail
       obtain ⟨w6,hw6⟩:∃ W,(w5.alloc (.cells #[.int .i64 yo,.bool yd,.string ys] 48)).alloc (.cells #[.int .i64 sc,.int .i64 (ofs + 1),.int .i64 sv,.string ltr,.string fm,.slice Au Rl.length cu] 54) = W:=⟨_,rfl⟩
       rw [hw6] at HF6 HX6 HY6 HG6 HB6 HO6 ⊢
       clear hw6
       refine (HEN.out _).mono ?_
       rintro o w7 ⟨rfl,hb⟩
       have HB7:=Lib.hid (HB6.out.trans (hb.mono HB6.out.size))
       have hf7:=HF6.out.below hb HF6.out.lt
       have hg7:=HG6.out.below hb HG6.out.lt
       have hx7:=HX6.out.below hb HX6.out.lt
       have hy7:=HY6.out.below hb HY6.out.lt
       have HO7:=Lib.hid (ownsRow_below HO6.out hb)
       clear fc0 fc1 fc2 fc3 fc4 fc5 fl
       have fc0:=hf7.cell 0 (v:=.int .i64 sc) rfl
       have fc1:=hf7.cell 1 (v:=.int .i64 ofs) rfl
       have fc2:=hf7.cell 2 (v:=.int .i64 sv) rfl
       have fc3:=hf7.cell 3 (v:=.string ltr) rfl
       have fc4:=hf7.cell 4 (v:=.string fm) rfl
       have fc5:=hf7.cell 5 (v:=.slice Au Rl.length cu) rfl
       have fl:=hf7.lt
       have xc0:=hx7.cell 0 (v:=.int .i64 xo) rfl
       have xc1:=hx7.cell 1 (v:=.bool xd) rfl
       have xc2:=hx7.cell 2 (v:=.string xs) rfl
       have xl:=hx7.lt
       have yc0:=hy7.cell 0 (v:=.int .i64 yo) rfl
       have yc1:=hy7.cell 1 (v:=.bool yd) rfl
       have yc2:=hy7.cell 2 (v:=.string ys) rfl
       have yl:=hy7.lt
       have gc0:=hg7.cell 0 (v:=.int .i64 sc) rfl
       have gc1:=hg7.cell 1 (v:=.int .i64 (ofs + 1)) rfl
       have gc2:=hg7.cell 2 (v:=.int .i64 sv) rfl
       have gc3:=hg7.cell 3 (v:=.string ltr) rfl
       have gc4:=hg7.cell 4 (v:=.string fm) rfl
       have gc5:=hg7.cell 5 (v:=.slice Au Rl.length cu) rfl
       have gl:=hg7.lt
       have HSM:=Lib.hid (fsame_any w7 w7.heap.size (.slice Au Rl.length cu) (.slice Au Rl.length cu) ⟨sc,ofs,sv,ltr,fm,Rl⟩ ⟨sc,ofs + 1,sv,ltr,fm,Rl⟩ (Sl.of_own HO7.out) (Sl.of_own HO7.out) (Nat.le_refl _))
       rw [show sameF ⟨sc,ofs,sv,ltr,fm,Rl⟩ ⟨sc,ofs + 1,sv,ltr,fm,Rl⟩ = false from by
        cases e:sameF ⟨sc,ofs,sv,ltr,fm,Rl⟩ ⟨sc,ofs + 1,sv,ltr,fm,Rl⟩ with
        | false=>rfl
        | true =>
          have:=congrArg Foot.off (sameF_iff.1 e)
          simp only at this
          omega] at HSM
       unfold footA at HSM
       simp only at HSM
       clear hb hf7 hg7 hx7 hy7 HF6 HX6 HY6 HG6 HB6 HO6 HEN
       go_wp2_with fail
       refine HSM.out.mono ?_
       rintro o w8 ⟨rfl,hb⟩
       have HB8:=Lib.hid (HB7.out.trans (hb.mono HB7.out.size))
       clear hb HSM xc0 xc1 xc2 xl yc0 yc1 yc2 yl gc0 gc1 gc2 gc3 gc4 gc5 gl
       clear fc0 fc1 fc2 fc3 fc4 fc5 fl
       go_wp2_with fail
       refine (fawake_any _ ((HZ0.out.below (HB8.out)).ahead) (Nat.lt_of_lt_of_le ((HZ0.out.below (HB8.out)).tab) ((HZ0.out.below (HB8.out)).le)) ((HZ0.out.below (HB8.out)).maxl)).mono ?_
       rintro o wz ⟨rfl,hbz⟩
       have HBZ:=Lib.hid (HB0.out.trans ((HB8.out).mono HB0.out.size |>.trans (hbz.mono (Nat.le_trans HB0.out.size (HB8.out).size))))
       clear hbz
       go_wp2_with fail
       go_ret
       exact ⟨rfl,HBZ.out⟩
      ·rw [decide_eq_false hr] at HEN
       have HSE:=HSA.out hr
       obtain ⟨e1,e2,e3⟩:=Loc.mk.inj HSE
       clear HSE
       clear hb HFY5 HXY5 HFZ HXZ HYZ HGZ HB5 HO5 HSA
       go_wp2_with fail
       obtain ⟨w6,hw6⟩:∃ W,(w5.alloc (.cells #[.int .i64 yo,.bool yd,.string ys] 48)).alloc (.cells #[.int .i64 sc,.int .i64 (ofs + 1),.int .i64 sv,.string ltr,.string fm,.slice Au Rl.length cu] 54) = W:=⟨_,rfl⟩
       rw [hw6] at HF6 HX6 HY6 HG6 HB6 HO6 ⊢
       clear hw6
       refine (HEN.out _).mono ?_
       rintro o w7 ⟨rfl,hb⟩
       have HB7:=Lib.hid (HB6.out.trans (hb.mono HB6.out.size))
       have hf7:=HF6.out.below hb HF6.out.lt
       have hg7:=HG6.out.below hb HG6.out.lt
       have hx7:=HX6.out.below hb HX6.out.lt
       have hy7:=HY6.out.below hb HY6.out.lt
       have HO7:=Lib.hid (ownsRow_below HO6.out hb)
       clear fc0 fc1 fc2 fc3 fc4 fc5 fl
       have fc0:=hf7.cell 0 (v:=.int .i64 sc) rfl
       have fc1:=hf7.cell 1 (v:=.int .i64 ofs) rfl
       have fc2:=hf7.cell 2 (v:=.int .i64 sv) rfl
       have fc3:=hf7.cell 3 (v:=.string ltr) rfl
       have fc4:=hf7.cell 4 (v:=.string fm) rfl
       have fc5:=hf7.cell 5 (v:=.slice Au Rl.length cu) rfl
       have fl:=hf7.lt
       have xc0:=hx7.cell 0 (v:=.int .i64 xo) rfl
       have xc1:=hx7.cell 1 (v:=.bool xd) rfl
       have xc2:=hx7.cell 2 (v:=.string xs) rfl
       have xl:=hx7.lt
       have yc0:=hy7.cell 0 (v:=.int .i64 yo) rfl
       have yc1:=hy7.cell 1 (v:=.bool yd) rfl
       have yc2:=hy7.cell 2 (v:=.string ys) rfl
       have yl:=hy7.lt
       have gc0:=hg7.cell 0 (v:=.int .i64 sc) rfl
       have gc1:=hg7.cell 1 (v:=.int .i64 (ofs + 1)) rfl
       have gc2:=hg7.cell 2 (v:=.int .i64 sv) rfl
       have gc3:=hg7.cell 3 (v:=.string ltr) rfl
       have gc4:=hg7.cell 4 (v:=.string fm) rfl
       have gc5:=hg7.cell 5 (v:=.slice Au Rl.length cu) rfl
       have gl:=hg7.lt
       have HSM:=Lib.hid (fsame_any w7 w7.heap.size (.slice Au Rl.length cu) (.slice Au Rl.length cu) ⟨sc,ofs,sv,ltr,fm,Rl⟩ ⟨sc,ofs + 1,sv,ltr,fm,Rl⟩ (Sl.of_own HO7.out) (Sl.of_own HO7.out) (Nat.le_refl _))
       rw [show sameF ⟨sc,ofs,sv,ltr,fm,Rl⟩ ⟨sc,ofs + 1,sv,ltr,fm,Rl⟩ = false from by
        cases e:sameF ⟨sc,ofs,sv,ltr,fm,Rl⟩ ⟨sc,ofs + 1,sv,ltr,fm,Rl⟩ with
        | false=>rfl
        | true =>
          have:=congrArg Foot.off (sameF_iff.1 e)
          simp only at this
          omega] at HSM
       unfold footA at HSM
       simp only at HSM
       clear hb hf7 hg7 hx7 hy7 HF6 HX6 HY6 HG6 HB6 HO6 HEN
       go_wp2_with fail
       refine HSM.out.mono ?_
       rintro o w8 ⟨rfl,hb⟩
       have HB8:=Lib.hid (HB7.out.trans (hb.mono HB7.out.size))
       clear hb HSM xc0 xc1 xc2 xl yc0 yc1 yc2 yl gc0 gc1 gc2 gc3 gc4 gc5 gl
       clear fc0 fc1 fc2 fc3 fc4 fc5 fl
       go_wp2_with fail
       refine (fawake_any _ ((HZ0.out.below (HB8.out)).ahead) (Nat.lt_of_lt_of_le ((HZ0.out.below (HB8.out)).tab) ((HZ0.out.below (HB8.out)).le)) ((HZ0.out.below (HB8.out)).maxl)).mono ?_
       rintro o wz ⟨rfl,hbz⟩
       have HBZ:=Lib.hid (HB0.out.trans ((HB8.out).mono HB0.out.size |>.trans (hbz.mono (Nat.le_trans HB0.out.size (HB8.out).size))))
       clear hbz
       go_wp2_with fail
       go_ret
       exact ⟨rfl,HBZ.out⟩
end
section -- FOpen
open Go Go.ChangeShapes Go.WideShapes Go.ChangeAt Go.RowKit Go.Deep
def aheadI:List Int:=[0,31,59,90,120,151,181,212,243,273,304,334,365]
theorem ahead_of {W : World} (h : laidMetH Tryz.prog [("meridian/civil.ahead", Rows.laid_meridian_civil_ahead)] W) : Ahead W := fun i hi => by
 have ht : Lib.TabIs Tryz.prog W "meridian/civil.ahead" .i64 aheadI := Lib.tabIs_of_head (rest := []) (g := 0) (by kernel_rfl) (by kernel_rfl) Tryz.underlying175 Tryz.underlying3 (by kernel_rfl) (by kernel_rfl) h
 have hc:=ht.cell (g:=0) (by kernel_rfl) i (by simpa [aheadI] using hi)
 rw [hc]
 have:i = 0∨i = 1∨i = 2∨i = 3∨i = 4∨i = 5∨i = 6∨i = 7∨i = 8∨i = 9∨i = 10∨i = 11∨i = 12:=by omega
 rcases this with h | h | h | h | h | h | h | h | h | h | h | h | h <;> subst h <;> rfl
section
variable {H:Type} {enc:TypeId × Value→H} {P:Program} {W:World} {base:Nat} {spare:MemPlace→Bool} {held:Bool}
theorem trod_struct8 {t:TypeId} {f0 f1 f2 f3 f4 f5 f6 f7:Field} {fuel:Nat} {cs:List Value} {x:DataW H × List MemPlace} (ht:P.underlying t = some (.struct #[f0,f1,f2,f3,f4,f5,f6,f7])) (h:DataW.trod enc P W 0 (fun _=>true) true fuel t cs = some x) :
  ∃ y0 y1 y2 y3 y4 y5 y6 y7 n,cs.length = P.cellsOf t∧DataW.trod enc P W 0 (fun _=>true) true n f0.type ((cs.drop f0.offset).take (P.cellsOf f0.type)) = some y0∧DataW.trod enc P W 0 (fun _=>true) true n f1.type ((cs.drop f1.offset).take (P.cellsOf f1.type)) = some y1 ∧
   DataW.trod enc P W 0 (fun _=>true) true n f2.type ((cs.drop f2.offset).take (P.cellsOf f2.type)) = some y2∧DataW.trod enc P W 0 (fun _=>true) true n f3.type ((cs.drop f3.offset).take (P.cellsOf f3.type)) = some y3∧DataW.trod enc P W 0 (fun _=>true) true n f4.type ((cs.drop f4.offset).take (P.cellsOf f4.type)) = some y4 ∧
   DataW.trod enc P W 0 (fun _=>true) true n f5.type ((cs.drop f5.offset).take (P.cellsOf f5.type)) = some y5∧DataW.trod enc P W 0 (fun _=>true) true n f6.type ((cs.drop f6.offset).take (P.cellsOf f6.type)) = some y6∧DataW.trod enc P W 0 (fun _=>true) true n f7.type ((cs.drop f7.offset).take (P.cellsOf f7.type)) = some y7:=by
 obtain ⟨xs,n,_,rfl,hl,hlen,hf⟩:=DataW.trod_struct ht h
 match xs,hlen with
 | [y0,y1,y2,y3,y4,y5,y6,y7],_=>exact ⟨y0,y1,y2,y3,y4,y5,y6,y7,n,hl,by simpa using hf 0 f0 rfl,by simpa using hf 1 f1 rfl,by simpa using hf 2 f2 rfl,by simpa using hf 3 f3 rfl,by simpa using hf 4 f4 rfl,by simpa using hf 5 f5 rfl,by simpa using hf 6 f6 rfl,by simpa using hf 7 f7 rfl⟩
end
section
variable {H:Type} {enc:TypeId × Value→H} {W:World}
theorem trod_day {n:Nat} {cs:List Value} {y:DataW H × List MemPlace} (h:DataW.trod enc Tryz.prog W 0 (fun _=>true) true n 36 cs = some y):∃ a b c:Int,cs = [.int .i64 a,.int .i64 b,.int .i64 c]:=by
 obtain ⟨y0,y1,y2,k,-,hl,h0,h1,h2⟩:=trod_struct3 Tryz.underlying36 h
 rw [show Tryz.prog.cellsOf 36 = 3 by kernel_rfl] at hl
 obtain ⟨a,e0,_,_⟩:=DataW.trod_int Tryz.underlying3 h0
 obtain ⟨b,e1,_,_⟩:=DataW.trod_int Tryz.underlying3 h1
 obtain ⟨c,e2,_,_⟩:=DataW.trod_int Tryz.underlying3 h2
 match cs,hl with
 | [v0,v1,v2],_ =>
   rw [show Tryz.prog.cellsOf 3 = 1 by kernel_rfl] at e0 e1 e2
   simp at e0 e1 e2
   subst e0 e1 e2
   exact ⟨a,b,c,rfl⟩
theorem trod_clock {n:Nat} {cs:List Value} {y:DataW H × List MemPlace} (h:DataW.trod enc Tryz.prog W 0 (fun _=>true) true n 38 cs = some y):∃ a b:Int,cs = [.int .i64 a,.int .i64 b]:=by
 obtain ⟨y0,y1,k,-,hl,h0,h1⟩:=trod_struct2 Tryz.underlying38 h
 rw [show Tryz.prog.cellsOf 38 = 2 by kernel_rfl] at hl
 obtain ⟨a,e0,_,_⟩:=DataW.trod_int Tryz.underlying3 h0
 obtain ⟨b,e1,_,_⟩:=DataW.trod_int Tryz.underlying3 h1
 match cs,hl with
 | [v0,v1],_ =>
   rw [show Tryz.prog.cellsOf 3 = 1 by kernel_rfl] at e0 e1
   simp at e0 e1
   subst e0 e1
   exact ⟨a,b,rfl⟩
theorem trod_rul {n:Nat} {cs:List Value} {y:DataW H × List MemPlace} (h:DataW.trod enc Tryz.prog W 0 (fun _=>true) true n 106 cs = some y):∃ r:Rul,cs = rulV r∧True:=by
 obtain ⟨y0,y1,y2,y3,y4,y5,y6,y7,k,hl,h0,h1,h2,h3,h4,h5,h6,h7⟩:=trod_struct8 Tryz.underlying106 h
 rw [show Tryz.prog.cellsOf 106 = 11 by kernel_rfl] at hl
 obtain ⟨nm,e0,_,_⟩:=DataW.trod_string Tryz.underlying9 h0
 obtain ⟨fr,e1,_,_⟩:=DataW.trod_int Tryz.underlying3 h1
 obtain ⟨to,e2,_,_⟩:=DataW.trod_int Tryz.underlying3 h2
 obtain ⟨mo,e3,_,_⟩:=DataW.trod_int Tryz.underlying3 h3
 obtain ⟨dk,dw,dn,e4⟩:=trod_day h4
 obtain ⟨sc,kd,e5⟩:=trod_clock h5
 obtain ⟨sv,e6,_,_⟩:=DataW.trod_int Tryz.underlying3 h6
 obtain ⟨lt,e7,_,_⟩:=DataW.trod_string Tryz.underlying9 h7
 match cs,hl with
 | [v0,v1,v2,v3,v4,v5,v6,v7,v8,v9,v10],_ =>
   rw [show Tryz.prog.cellsOf 3 = 1 by kernel_rfl] at e1 e2 e3 e6
   rw [show Tryz.prog.cellsOf 9 = 1 by kernel_rfl] at e0 e7
   rw [show Tryz.prog.cellsOf 36 = 3 by kernel_rfl] at e4
   rw [show Tryz.prog.cellsOf 38 = 2 by kernel_rfl] at e5
   simp at e0 e1 e2 e3 e4 e5 e6 e7
   obtain ⟨rfl,rfl,rfl⟩:=e4
   obtain ⟨rfl,rfl⟩:=e5
   subst e0 e1 e2 e3 e6 e7
   exact ⟨⟨nm,fr,to,mo,dk,dw,dn,sc,kd,sv,lt⟩,rfl,trivial⟩
instance:Inhabited Rul:=⟨⟨⟨#[]⟩,0,0,0,0,0,0,0,0,0,⟨#[]⟩⟩⟩
end
end
section -- AOpen
open Go Go.ChangeShapes Go.WideShapes Go.ChangeAt Go.RowKit Go.Deep
section
variable {H:Type} {enc:TypeId × Value→H} {P:Program} {W:World}
theorem trod_struct4 {t:TypeId} {f0 f1 f2 f3:Field} {fuel:Nat} {cs:List Value} {x:DataW H × List MemPlace} (ht:P.underlying t = some (.struct #[f0,f1,f2,f3])) (h:DataW.trod enc P W 0 (fun _=>true) true fuel t cs = some x) :
  ∃ y0 y1 y2 y3 n,cs.length = P.cellsOf t∧DataW.trod enc P W 0 (fun _=>true) true n f0.type ((cs.drop f0.offset).take (P.cellsOf f0.type)) = some y0∧DataW.trod enc P W 0 (fun _=>true) true n f1.type ((cs.drop f1.offset).take (P.cellsOf f1.type)) = some y1 ∧
   DataW.trod enc P W 0 (fun _=>true) true n f2.type ((cs.drop f2.offset).take (P.cellsOf f2.type)) = some y2∧DataW.trod enc P W 0 (fun _=>true) true n f3.type ((cs.drop f3.offset).take (P.cellsOf f3.type)) = some y3:=by
 obtain ⟨xs,n,_,rfl,hl,hlen,hf⟩:=DataW.trod_struct ht h
 match xs,hlen with
 | [y0,y1,y2,y3],_=>exact ⟨y0,y1,y2,y3,n,hl,by simpa using hf 0 f0 rfl,by simpa using hf 1 f1 rfl,by simpa using hf 2 f2 rfl,by simpa using hf 3 f3 rfl⟩
theorem trod_struct6 {t:TypeId} {f0 f1 f2 f3 f4 f5:Field} {fuel:Nat} {cs:List Value} {x:DataW H × List MemPlace} (ht:P.underlying t = some (.struct #[f0,f1,f2,f3,f4,f5])) (h:DataW.trod enc P W 0 (fun _=>true) true fuel t cs = some x) :
  ∃ y0 y1 y2 y3 y4 y5 n,cs.length = P.cellsOf t∧DataW.trod enc P W 0 (fun _=>true) true n f0.type ((cs.drop f0.offset).take (P.cellsOf f0.type)) = some y0∧DataW.trod enc P W 0 (fun _=>true) true n f1.type ((cs.drop f1.offset).take (P.cellsOf f1.type)) = some y1 ∧
   DataW.trod enc P W 0 (fun _=>true) true n f2.type ((cs.drop f2.offset).take (P.cellsOf f2.type)) = some y2∧DataW.trod enc P W 0 (fun _=>true) true n f3.type ((cs.drop f3.offset).take (P.cellsOf f3.type)) = some y3 ∧
   DataW.trod enc P W 0 (fun _=>true) true n f4.type ((cs.drop f4.offset).take (P.cellsOf f4.type)) = some y4∧DataW.trod enc P W 0 (fun _=>true) true n f5.type ((cs.drop f5.offset).take (P.cellsOf f5.type)) = some y5:=by
 obtain ⟨xs,n,_,rfl,hl,hlen,hf⟩:=DataW.trod_struct ht h
 match xs,hlen with
 | [y0,y1,y2,y3,y4,y5],_=>exact ⟨y0,y1,y2,y3,y4,y5,n,hl,by simpa using hf 0 f0 rfl,by simpa using hf 1 f1 rfl,by simpa using hf 2 f2 rfl,by simpa using hf 3 f3 rfl,by simpa using hf 4 f4 rfl,by simpa using hf 5 f5 rfl⟩
end
section
variable {H:Type} {enc:TypeId × Value→H} {W:World}
theorem trod_until {n:Nat} {cs:List Value} {y:DataW H × List MemPlace} (h:DataW.trod enc Tryz.prog W 0 (fun _=>true) true n 40 cs = some y):∃ a b c d e f g:Int,cs = [.int .i64 a,.int .i64 b,.int .i64 c,.int .i64 d,.int .i64 e,.int .i64 f,.int .i64 g]:=by
 obtain ⟨y0,y1,y2,y3,k,hl,h0,h1,h2,h3⟩:=trod_struct4 Tryz.underlying40 h
 rw [show Tryz.prog.cellsOf 40 = 7 by kernel_rfl] at hl
 obtain ⟨a,e0,_,_⟩:=DataW.trod_int Tryz.underlying3 h0
 obtain ⟨b,e1,_,_⟩:=DataW.trod_int Tryz.underlying3 h1
 obtain ⟨dk,dw,dn,e2⟩:=trod_day h2
 obtain ⟨sc,kd,e3⟩:=trod_clock h3
 match cs,hl with
 | [v0,v1,v2,v3,v4,v5,v6],_ =>
   rw [show Tryz.prog.cellsOf 3 = 1 by kernel_rfl] at e0 e1
   rw [show Tryz.prog.cellsOf 36 = 3 by kernel_rfl] at e2
   rw [show Tryz.prog.cellsOf 38 = 2 by kernel_rfl] at e3
   simp at e0 e1 e2 e3
   obtain ⟨rfl,rfl,rfl⟩:=e2
   obtain ⟨rfl,rfl⟩:=e3
   subst e0 e1
   exact ⟨a,b,dk,dw,dn,sc,kd,rfl⟩
theorem trod_era {n:Nat} {cs:List Value} {y:DataW H × List MemPlace} (h:DataW.trod enc Tryz.prog W 0 (fun _=>true) true n 42 cs = some y) :
  ∃ (e:EraN) (ru f:ByteArray) (en:Bool),cs = [.int .i64 e.off,.string ru,.int .i64 e.save,.string f,.bool en,.int .i64 e.year,.int .i64 e.month,.int .i64 e.dk,.int .i64 e.dw,.int .i64 e.dn,.int .i64 e.sec,.int .i64 e.ak] ∧
   (-9223372036854775808 ≤ e.off∧e.off ≤ 9223372036854775807)∧(-9223372036854775808 ≤ e.save∧e.save ≤ 9223372036854775807):=by
 obtain ⟨y0,y1,y2,y3,y4,y5,k,hl,h0,h1,h2,h3,h4,h5⟩:=trod_struct6 Tryz.underlying42 h
 rw [show Tryz.prog.cellsOf 42 = 12 by kernel_rfl] at hl
 obtain ⟨off,e0,_,w0⟩:=DataW.trod_int Tryz.underlying3 h0
 obtain ⟨ru,e1,_,_⟩:=DataW.trod_string Tryz.underlying9 h1
 obtain ⟨sv,e2,_,w2⟩:=DataW.trod_int Tryz.underlying3 h2
 obtain ⟨f,e3,_,_⟩:=DataW.trod_string Tryz.underlying9 h3
 obtain ⟨en,e4,_⟩:=DataW.trod_bool Tryz.underlying4 h4
 obtain ⟨yr,mo,dk,dw,dn,sc,kd,e5⟩:=trod_until h5
 match cs,hl with
 | [v0,v1,v2,v3,v4,v5,v6,v7,v8,v9,v10,v11],_ =>
   rw [show Tryz.prog.cellsOf 3 = 1 by kernel_rfl] at e0 e2
   rw [show Tryz.prog.cellsOf 9 = 1 by kernel_rfl] at e1 e3
   rw [show Tryz.prog.cellsOf 4 = 1 by kernel_rfl] at e4
   rw [show Tryz.prog.cellsOf 40 = 7 by kernel_rfl] at e5
   simp at e0 e1 e2 e3 e4 e5
   obtain ⟨rfl,rfl,rfl,rfl,rfl,rfl,rfl⟩:=e5
   subst e0 e1 e2 e3 e4
   exact ⟨⟨off,sv,yr,mo,dk,dw,dn,sc,kd⟩,ru,f,en,rfl,wf_i64 w0,wf_i64 w2⟩
end
end
section -- AOpenW
open Go Go.ChangeShapes Go.WideShapes Go.ChangeAt Go.RowKit Go.Deep
section
variable {H:Type} {enc:TypeId × Value→H} {P:Program} {W:World}
def Light (P:Program) (t:TypeId) (d:DataW H):Prop:=∀ k ∈ d.weights P t,k ≤ 140737488351232
theorem weightsAll_mem {e:TypeId}:∀ {l:List (DataW H)} {d:DataW H},d ∈ l→∀ k ∈ d.weights P e,k ∈ DataW.weightsAll P e l
 | x :: l,d,h,k,hk=>by
   simp only [DataW.weightsAll,List.mem_append]
   rcases List.mem_cons.1 h with rfl | h
   ·exact .inl hk
   ·exact .inr (weightsAll_mem h k hk)
theorem Light.elem {T E:TypeId} {a b:List (DataW H)} (hT:P.underlying T = some (.slice E)) (h:Light P T (.slice a b)) {d:DataW H} (hd:d ∈ a):Light P E d:=fun k hk=>by
 refine h k ?_
 simp only [DataW.weights,hT,List.mem_cons,List.mem_append]
 exact .inr (.inl (weightsAll_mem hd k hk))
theorem Light.part {T:TypeId} {fs:Array Field} {l:List (DataW H)} (hT:P.underlying T = some (.struct fs)) (h:Light P T (.agg l)) {i:Nat} {t:TypeId} {d:DataW H} (ht:(fs.toList.map (·.type))[i]? = some t) (hd:l[i]? = some d):Light P t d:=fun k hk=>by
 refine h k ?_
 simp only [DataW.weights,hT]
 exact DataW.weights_mem_each ht hd k hk
theorem Light.str {t:TypeId} {s:List UInt8} (h:Light P t (DataW.lit (H:=H) (.string s))):s.length ≤ 140737488351232:=h _ (by simp [DataW.weights])
theorem open_listW {α:Type} [Inhabited α] (f:α→List Value) (Pr:α→Prop) {T E:TypeId} {C:Nat} (hT:P.underlying T = some (.slice E)) (hC:P.cellsOf E = C) (h0:0 < C)
  (hel:∀ (n:Nat) (cs:List Value) (y:DataW H × List MemPlace),cs.length = C→DataW.trod enc P W 0 (fun _=>true) true n E cs = some y→Light P E y.1→∃ a,cs = f a∧Pr a)
  {n:Nat} {cs:List Value} {x:DataW H × List MemPlace} (h:DataW.trod enc P W 0 (fun _=>true) true n T cs = some x) (hw:Light P T x.1):∃ (v:Value) (l:List α),cs = [v]∧Sl W W.heap.size C v l.length (l.flatMap f)∧∀ a ∈ l,Pr a∧(f a).length = C:=by
 rcases open_slice hT h with ⟨rfl,_⟩ | ⟨a,len,cap,m,k,D,Pl,rfl,_,hl,hm,hmm,rfl,hx⟩
 ·exact ⟨_,[],rfl,Sl.nil _ _ _,fun a h=>by cases h⟩
 ·simp only [if_true] at hmm
  subst hmm
  have hD:∀ i,i < len→Light P E (D i):=fun i hi=>Light.elem hT hw (List.mem_map.2 ⟨i,List.mem_range.2 hi,rfl⟩)
  have each:∀ i,∃ q:α,i < len→W.cells? 0 (a.add (i * C)) C = some (f q)∧Pr q∧(f q).length = C:=fun i=>by
   by_cases hi:i < len
   ·obtain ⟨cs',h1,h2⟩:=hx i (by omega)
    rw [hC] at h1
    obtain ⟨_,hlen,_⟩:=World.cells?_some h1
    obtain ⟨q,rfl,hq⟩:=hel _ _ _ hlen h2 (hD i hi)
    exact ⟨q,fun _=>⟨h1,hq,hlen⟩⟩
   ·exact ⟨default,fun h=>absurd h hi⟩
  obtain ⟨Q,hQ⟩:=Classical.axiomOfChoice each
  have hlen:((List.range len).map Q).length = len:=by simp
  have hfl:∀ b ∈ (List.range len).map Q,Pr b∧(f b).length = C:=fun b hb=>by
   obtain ⟨i,hi,rfl⟩:=List.mem_map.1 hb
   exact ⟨(hQ i (List.mem_range.1 hi)).2.1,(hQ i (List.mem_range.1 hi)).2.2⟩
  refine ⟨_,(List.range len).map Q,rfl,?_,hfl⟩
  have hfl2:=flat_len f C _ (fun b hb=>(hfl b hb).2)
  rw [hlen] at hfl2 ⊢
  refine ⟨_,_,rfl,hl,hm,hfl2,fun hp=>?_⟩
  obtain ⟨b,o,spot⟩:=a
  obtain ⟨_,_,hc0⟩:=World.cells?_some (hQ 0 hp).1
  have h00:=hc0 0 h0
  rw [List.getElem?_eq_getElem (by rw [(hQ 0 hp).2.2];exact h0)] at h00
  have hspot:spot = none:=by simpa [Addr.add] using World.cell?_spot h00
  subst hspot
  refine ⟨b,o,rfl,?_,fun j u hu=>?_⟩
  ·have:=World.block_lt_of_cell? W _ h00
   simpa [Addr.add_lit] using this
  ·have hj:j < len * C:=by
    have:=(List.getElem?_eq_some_iff.1 hu).1
    rwa [hfl2] at this
   have hd:j / C < len:=Nat.div_lt_of_lt_mul (by rw [Nat.mul_comm];exact hj)
   have hr:j % C < C:=Nat.mod_lt _ h0
   have he:j = j / C * C + j % C:=by rw [Nat.mul_comm];exact (Nat.div_add_mod j C).symm
   obtain ⟨_,hll,hcc⟩:=World.cells?_some (hQ (j / C) hd).1
   have hc:=hcc (j % C) hr
   rw [he,flat_at f C _ (fun b hb=>(hfl b hb).2) _ _ (by rw [hlen];exact hd) hr] at hu
   simp only [List.getElem_map,List.getElem_range] at hu
   rw [he]
   have e2:(some u:Option Value) = some ((f (Q (j / C)))[j % C]'(by omega)):=by rw [← hu];exact List.getElem?_eq_getElem _
   rw [Option.some.inj e2,← List.getElem?_eq_getElem]
   simpa [Addr.add_lit,Nat.add_assoc] using hc
end
theorem ahead_in {l : List (String × DataW Unit)} {W : World} (hl : l.filter (fun x => x.1 == "meridian/civil.ahead") = [("meridian/civil.ahead", Rows.laid_meridian_civil_ahead)]) (h : laidMetH Tryz.prog l W) : Ahead W := ahead_of (by rw [← hl]; exact h.filter _)
theorem tab_in {W:World} (h:Ahead W):0 < W.heap.size:=World.block_lt_of_cell? W _ (h 0 (by decide))
section
variable {H:Type} {enc:TypeId × Value→H} {W:World}
theorem trod_rulW {n:Nat} {cs:List Value} {y:DataW H × List MemPlace} (h:DataW.trod enc Tryz.prog W 0 (fun _=>true) true n 106 cs = some y) (hw:Light Tryz.prog 106 y.1):∃ r:Rul,cs = rulV r∧r.letter.size ≤ 140737488351232:=by
 obtain ⟨r,rfl,-⟩:=trod_rul h
 refine ⟨r,rfl,?_⟩
 obtain ⟨xs,m,_,rfl,hl,hlen,hf⟩:=DataW.trod_struct Tryz.underlying106 h
 match xs,hlen with
 | [y0,y1,y2,y3,y4,y5,y6,y7],_ =>
   have h7:=hf 7 _ rfl
   obtain ⟨s,e7,e8,-⟩:=DataW.trod_string Tryz.underlying9 h7
   have h9:r.letter = s:=by
    have e9:([.string r.letter]:List Value) = [.string s]:=e7
    injection e9 with e9
    injection e9
   have h10:=Light.part Tryz.underlying106 hw (i:=7) (t:=9) (d:=y7.1) rfl rfl
   rw [e8] at h10
   have h11:=h10.str
   rw [h9,Lib.size_eq]
   exact h11
theorem trod_eraW {n:Nat} {cs:List Value} {y:DataW H × List MemPlace} (h:DataW.trod enc Tryz.prog W 0 (fun _=>true) true n 42 cs = some y) (hw:Light Tryz.prog 42 y.1):∃ x:EraF,cs = x.cells∧x.fm.size ≤ 140737488351232:=by
 obtain ⟨e,ru,f,en,rfl,-,-⟩:=trod_era h
 refine ⟨⟨e,ru,f,en⟩,rfl,?_⟩
 obtain ⟨xs,m,_,rfl,hl,hlen,hf⟩:=DataW.trod_struct Tryz.underlying42 h
 match xs,hlen with
 | [y0,y1,y2,y3,y4,y5],_ =>
   have h7:=hf 3 _ rfl
   obtain ⟨s,e7,e8,-⟩:=DataW.trod_string Tryz.underlying9 h7
   have h9:f = s:=by
    have e9:([.string f]:List Value) = [.string s]:=e7
    injection e9 with e9
    injection e9
   have h10:=Light.part Tryz.underlying42 hw (i:=3) (t:=9) (d:=y3.1) rfl rfl
   rw [e8] at h10
   have h11:=h10.str
   show f.size ≤ _
   rw [h9,Lib.size_eq]
   exact h11
theorem trod_setW {n:Nat} {cs:List Value} {y:DataW H × List MemPlace} (h:DataW.trod enc Tryz.prog W 0 (fun _=>true) true n 95 cs = some y) (hw:Light Tryz.prog 95 y.1):∃ s:SetF,cs = s.cells∧(Ruls W W.heap.size s.v s.l∧letOk s.l):=by
 obtain ⟨xs,m,_,rfl,hl,hlen,hf⟩:=DataW.trod_struct Tryz.underlying95 h
 match xs,hlen with
 | [y0,y1],_ =>
   obtain ⟨s,e0,_,-⟩:=DataW.trod_string Tryz.underlying9 (hf 0 _ rfl)
   have h1:=hf 1 _ rfl
   have h10:=Light.part Tryz.underlying95 hw (i:=1) (t:=52) (d:=y1.1) rfl rfl
   obtain ⟨v,l,e1,hs,hl2⟩:=open_listW (C:=11) rulV (fun r=>r.letter.size ≤ 140737488351232) Tryz.underlying52 (by kernel_rfl) (by decide) (fun n cs y _ hy hw=>trod_rulW hy hw) h1 h10
   rw [show Tryz.prog.cellsOf 95 = 2 by kernel_rfl] at hl
   match cs,hl with
   | [v0,v1],_ =>
     have e2:([v0]:List Value) = [.string s]:=e0
     have e3:([v1]:List Value) = [v]:=e1
     injection e2 with e2
     injection e3 with e3
     subst e2 e3
     exact ⟨⟨s,v1,l⟩,rfl,hs,fun r hr=>(hl2 r hr).1⟩
theorem open_world {r:Reach} {base:Nat} {v:Value} {d:DataW H} {p:List MemPlace} (hok:Value.okWide Tryz.prog W r base 27 v) (h:DataW.Trod enc Tryz.prog W 0 (fun _=>true) true 27 v d p) (hw:Light Tryz.prog 27 d) :
  ∃ (zn:ByteArray) (ev sv:Value) (l:List EraF) (S:List SetF),v = worldA zn ev sv∧ErasR W W.heap.size ev l∧SetsR W W.heap.size sv S∧(∀ x ∈ l,x.fm.size < 1152921504606846976)∧∀ s ∈ S,letOk s.l:=by
 have hu:Tryz.prog.underlying 27 = _:=Tryz.underlying27
 simp only [Value.okWide,hu] at hok
 obtain ⟨cs,rfl,hsz,_⟩:=hok
 obtain ⟨fuel,hg⟩:=h
 obtain ⟨xs,m,_,e0,hl,hlen,hf⟩:=DataW.trod_struct Tryz.underlying27 hg
 clear hg
 match xs,hlen with
 | [y0,y1],_ =>
   injection e0 with e0 e00
   subst e0
   have h0:=hf 0 _ rfl
   have h1:=hf 1 _ rfl
   have w0:=Light.part Tryz.underlying27 hw (i:=0) (t:=24) (d:=y0.1) rfl rfl
   have w1:=Light.part Tryz.underlying27 hw (i:=1) (t:=25) (d:=y1.1) rfl rfl
   obtain ⟨sv,S,e1,hs,hs2⟩:=open_listW (C:=2) SetF.cells (fun s=>Ruls W W.heap.size s.v s.l∧letOk s.l) Tryz.underlying25 (by kernel_rfl) (by decide) (fun n cs y _ hy hw=>trod_setW hy hw) h1 w1
   obtain ⟨zs,m2,_,e2,hl2,hlen2,hf2⟩:=DataW.trod_struct Tryz.underlying24 h0
   match zs,hlen2 with
   | [z0,z1],_ =>
     rw [e2] at w0
     obtain ⟨zn,e3,_,-⟩:=DataW.trod_string Tryz.underlying9 (hf2 0 _ rfl)
     have w2:=Light.part Tryz.underlying24 w0 (i:=1) (t:=22) (d:=z1.1) rfl rfl
     obtain ⟨ev,l,e4,he,he2⟩:=open_listW (C:=12) EraF.cells (fun x=>x.fm.size ≤ 140737488351232) Tryz.underlying22 (by kernel_rfl) (by decide) (fun n cs y _ hy hw=>trod_eraW hy hw) (hf2 1 _ rfl) w2
     rw [show Tryz.prog.cellsOf 27 = 3 by kernel_rfl] at hl
     obtain ⟨c⟩:=cs
     simp only [Value.cells] at hl
     match c,hl with
     | [v0,v1,v2],_ =>
       have q0:([v0]:List Value) = [.string zn]:=e3
       have q1:([v1]:List Value) = [ev]:=e4
       have q2:([v2]:List Value) = [sv]:=e1
       injection q0 with q0
       injection q1 with q1
       injection q2 with q2
       subst q0 q1 q2
       exact ⟨zn,v1,v2,l,S,rfl,he,⟨hs,fun s hs3=>(hs2 s hs3).1.1⟩,fun x hx=>by have:=(he2 x hx).1;omega,fun s hs3=>(hs2 s hs3).1.2⟩
end
end
end Go.Proofs.YteekjfgjmccdnaaGreatDoor
section -- RowFooterEnds
namespace Go.Proofs.YteekjfgjmccdnaaGreatDoor.footerEnds
open Go.ChangeShapes Go.WideShapes Go.ChangeAt Go.RowKit
open Go.ChangeMaps (open_string shut_string)
set_option linter.unusedVariables false
theorem own:ownKnob Tryz.prog.godebug = none:=by kernel_rfl
theorem laidOut:laidOutB Tryz.prog = true:=by kernel_rfl
theorem contract (H:Type) (enc:TypeId × Value→H) (W:World) (base:Nat) (args:Array Value) (ds gs:List (DataW H)) (before:List MemPlace)
  (hval:∀ (j:Nat) t v,Tryz.f5.params[j]? = some t→args[j]? = some v→Value.okWide Tryz.prog W .any base t v)
  (hW:DataW.Whole enc Tryz.prog Tryz.f5.params.toList Rows.footerEndsSpec.vars false W args.toList ds gs before) (hwt:(DataW.weightsEach Tryz.prog (Tryz.f5.params.toList ++ (OpenSpec.ofChange Rows.footerEndsSpec).bare.plain.varTypes Tryz.prog) (ds ++ gs)).all (· ≤ reachBytes) = true) (hL:laidMetH Tryz.prog Rows.footerEndsRow.laid W) (hsh:W.ShapedOpen Tryz.prog) :
  Calls Tryz.prog 5 args W fun e W'=>∃ v,e = .returned v∧Rows.footerEndsSpec.post enc Tryz.prog Tryz.f5 false true false false W args v W':=by
 have hW':=hW
 obtain ⟨p,q,hA0,hV,rfl,hfz,hnd⟩:=hW
 have hA:DataW.TrodAll enc Tryz.prog W 0 (fun _=>true) true Tryz.f5.params.toList args.toList ds p:=hA0
 rw [Tryz.params5] at hA hval
 obtain ⟨v0,vs0,d0,ds0,p0,q0,hargs,rfl,rfl,h0,r0⟩:=trodAll_cons hA
 obtain ⟨v1,vs1,d1,ds1,p1,q1,rfl,rfl,rfl,h1,r1⟩:=trodAll_cons r0
 obtain ⟨rfl,rfl,rfl⟩:=trodAll_nil r1
 obtain rfl:args = #[v0,v1]:=by cases args;simp_all
 obtain ⟨rfl,rfl⟩:=trodVars_none hV
 have k0:=h0
 have lt0:∀ x ∈ p0,x.block < W.heap.size:=by obtain ⟨m,hm⟩:=k0;exact DataW.trod_lt m _ _ _ hm
 have lw0:Light Tryz.prog 27 d0:=fun k hk=>by have:=List.all_eq_true.1 hwt k (DataW.weights_mem_each (j:=0) (t:=27) (d:=d0) rfl rfl k hk);exact of_decide_eq_true this
 obtain ⟨zn0,ev0,sv0,l0,s0,rfl,he0,hs0,hf0,ht0⟩:=open_world (hval 0 27 v0 rfl rfl) h0 lw0
 obtain ⟨a1,rfl,rfl,rfl,w1⟩:=open_int Tryz.underlying3 (hval 1 3 v1 rfl rfl) h1
 clear hA0
 refine (fends_walk W zn0 ev0 sv0 l0 s0 a1 he0 hs0 hf0 ht0 (wf_i64 w1) (ahead_in (by kernel_rfl) hL) (tab_in (ahead_in (by kernel_rfl) hL)) (Tryz.maxL_of hsh)).mono fun e W' ⟨he,bel⟩=>?_
 subst he
 exact ⟨_,rfl,_,_,_,[],_,[],hW',trodAll_mk1 (shut_bool Tryz.underlying4 _),(trodAll_cons_mk (Below.trod laidOut (by kernel_rfl) (of_decide_eq_true (by kernel_rfl)) k0 bel lt0) (trodAll_cons_mk (shut_int Tryz.underlying3 w1) trodAll_mk0)),rfl,bel.frame _,fun h=>by cases h⟩
noncomputable def laidWorld (os:Os):World :=
 World.laidAll Tryz.prog os Rows.footerEndsRow.laid
theorem laid_met (os:Os):laidMet Tryz.prog Rows.footerEndsRow.laid ((laidWorld os).forCall (fun _ _=>0) ⟨#[],#[.agg #[.string ⟨#[]⟩,.slice none 0 0,.slice none 0 0],.int .i64 0],[]⟩).memory :=
 laidMet_laidAll _ (by kernel_rfl) (by kernel_rfl)
theorem reads (os:Os) {H:Type} (enc:TypeId × Value→H):∃ places,DataW.whole enc Tryz.prog ((laidWorld os).forCall (fun _ _=>0) ⟨#[],#[.agg #[.string ⟨#[]⟩,.slice none 0 0,.slice none 0 0],.int .i64 0],[]⟩).memory Tryz.f5.params.toList Rows.footerEndsSpec.vars false (#[.agg #[.string ⟨#[]⟩,.slice none 0 0,.slice none 0 0],.int .i64 0]:Array Value).toList 8 = some ([.agg [.agg [.lit (.string []),.nil],.nil],.lit (.int .i64 0)],[],places) :=
 ⟨[],by kernel_rfl⟩
theorem lifted (os:Os) (started:os.Started) (H:Type) (enc:TypeId × Value→H) (F:Stop.Interp) :
  ReturnsInHanded {} Tryz.checked os 5 .any ((OpenSpec.ofChange Rows.footerEndsSpec).preRow enc Tryz.prog Tryz.f5 Rows.footerEndsRow.domain false Rows.footerEndsRow.laid) (((OpenSpec.ofChange Rows.footerEndsSpec).at F).post enc Tryz.prog Tryz.f5 false true false false):=by
 obtain ⟨places,hx⟩:=reads os enc
 refine returnsInHanded_of_row (C:=Tryz.checked) (s:=OpenSpec.ofChange Rows.footerEndsSpec) own started (by kernel_rfl) Tryz.func5
  (witness_row_at (enc:=enc) (C:=Tryz.checked) false (laidWorld os) #[.agg #[.string ⟨#[]⟩,.slice none 0 0,.slice none 0 0],.int .i64 0] (World.laidAll_os _ _ _) (by kernel_rfl) (by kernel_rfl) (by kernel_rfl)
    (OpenSpec.preRow_of_cond 8 hx (by kernel_rfl) (fun k hk=>by cases hk) (by kernel_rfl) (laid_met os))) ?_
 intro W base args ds gs before hval hW _ _ hwt hL hsh _
 exact contract H enc W base args ds gs before hval hW hwt hL hsh
theorem said:Rows.FooterEndsSaid :=
 OpenClaim.holds_of_cond 5 Tryz.f5 rfl rfl rfl rfl rfl rfl rfl ⟨rfl,rfl,rfl,rfl,rfl⟩ rfl rfl rfl rfl rfl (by kernel_rfl) Tryz.func5 (by kernel_rfl)
  (of_decide_eq_true (by kernel_rfl)) (by unfold Func.isWrapper;first | (rw [if_pos (by decide +kernel)];kernel_rfl) | (rw [if_neg (by decide +kernel)];exact ⟨rfl,rfl⟩))
  (fun os started H enc _ F=>by rw [OpenClaim.pre_eq_preRow];exact lifted os started H enc F)
theorem plain (f : FuncId) (fn : Func) (hf : Tryz.pinned.checked.prog.funcNamed "meridian/meridianlaw15.FooterEnds" = some f) (hfn : Tryz.pinned.checked.prog.funcs[f]? = some fn) :
  false = Tryz.pinned.checked.prog.looks []∧∀ (j:Nat) t,fn.params[j]? = some t→Tryz.pinned.checked.prog.wantsStandIn t = false:=by
 obtain rfl : f = 5 := Option.some.inj ((show Tryz.prog.funcNamed "meridian/meridianlaw15.FooterEnds" = some 5 by kernel_rfl).symm.trans hf) |>.symm
 obtain rfl:fn = Tryz.f5:=(Option.some.inj (Tryz.func5.symm.trans hfn)).symm
 refine ⟨by kernel_rfl,fun j t ht=>?_⟩
 rw [Tryz.params5] at ht
 have hall:∀ t ∈ [27,3],Tryz.prog.wantsStandIn t = false:=by
  intro t ht
  simp only [List.mem_cons,List.not_mem_nil,or_false] at ht
  rcases ht with rfl | rfl
  all_goals kernel_rfl
 exact hall t (by simpa using Array.mem_of_getElem? ht)
theorem card:Rows.FooterEndsCardSaid :=
 Claim7.holds_tied_plain_at .later [] _ _ _ _ said (fun _ h=>by cases h) (by kernel_rfl) (fun _ h=>by cases h) footerEnds_row_tie rfl ⟨rfl,rfl⟩ (by kernel_rfl) rfl plain (by kernel_rfl)
#print axioms card
end Go.Proofs.YteekjfgjmccdnaaGreatDoor.footerEnds
end