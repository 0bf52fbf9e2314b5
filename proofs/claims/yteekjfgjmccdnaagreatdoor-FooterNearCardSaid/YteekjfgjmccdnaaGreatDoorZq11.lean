/-
  A footer's next change, walked.
-/
import Derived.Lib.MinMax
import Derived.Deep.QuietTactic
import Derived.BigQuiet
import Derived.WalkKit
import Derived.Test.YteekjfgjmccdnaaGreatDoorChecked
import Derived.Lib.Hide
import Derived.IntWalk
import Derived.Lib.Strings
import Derived.RegionTactic
import Derived.Test.YteekjfgjmccdnaaGreatDoorZq10
set_option maxHeartbeats 16000000
set_option maxRecDepth 100000
namespace Go.Proofs.YteekjfgjmccdnaaGreatDoor
section -- HSpecM
open Go Go.RowKit Go.Shelf
theorem still_of {g:Int→Loc} {a b:Int} (h:∀ i,a < i→i ≤ b→g i = g (i - 1)):∀ (n:Nat),a + n ≤ b→g (a + n) = g a
 | 0,_=>by rw [show a + ((0:Nat):Int) = a by omega]
 | n + 1,hn=>by
   rw [h _ (by omega) hn,show a + ((n + 1:Nat):Int) - 1 = a + n by omega]
   exact still_of h n (by omega)
end
section -- HSpecZ
open Go Go.RowKit Go.Shelf
theorem getD_atZ {E:List Int} {j:Nat} (hj:j < E.length):E.getD j 0 = E[j]:=by rw [List.getD_eq_getElem?_getD,List.getElem?_eq_getElem hj];rfl
section
variable {l:List Rul} {A:List Fir}
theorem segA_in {off fr to:Int} {j n:Nat} {y:Int × Fir} (h:y ∈ segA A off fr to j n):∃ i,j ≤ i∧i < j + n∧∃ hi:i < A.length,y = (instA A off i,A[i])∧fr < instA A off i∧instA A off i ≤ to:=by
 unfold segA at h
 obtain ⟨i,hi,e⟩:=List.mem_filterMap.1 h
 rw [List.mem_range'_1] at hi
 split at e
 ·rename_i hc
  obtain ⟨f,hf,rfl⟩:=Option.map_eq_some_iff.1 e
  obtain ⟨hl,rfl⟩:=List.getElem?_eq_some_iff.1 hf
  exact ⟨i,hi.1,by omega,hl,rfl,hc⟩
 ·cases e
theorem segA_has {off fr to:Int} {j n i:Nat} (hi:i < A.length) (h1:j ≤ i) (h2:i < j + n) (h3:fr < instA A off i) (h4:instA A off i ≤ to):(instA A off i,A[i]) ∈ segA A off fr to j n:=by
 unfold segA
 refine List.mem_filterMap.2 ⟨i,List.mem_range'_1.2 ⟨h1,by omega⟩,?_⟩
 rw [if_pos ⟨h3,h4⟩,List.getElem?_eq_getElem hi]
 rfl
end
structure FewZ (S:List SetF) (l:List EraF):Prop where
 err:errZ S l = 0
 few:fewB l S = true
section
variable {S:List SetF} {l:List EraF}
theorem FewZ.right (h:FewZ S l) (x:EraF):∃ A,RightR (ruleE S x) A:=by
 obtain ⟨A,hA,-,-⟩:=right_yes (rule_right (fewB_iff.1 h.few).2.1 x)
 exact ⟨A,hA⟩
theorem FewZ.pos (h:FewZ S l):0 < l.length:=by
 have:=(errZ_zero h.err).1
 omega
theorem FewZ.off (h:FewZ S l) {k:Nat} (hk:k < l.length):-90000 < l[k].n.off∧l[k].n.off < 90000:=(errZ_off h.err hk).1
theorem FewZ.lt (h:FewZ S l):∀ (d i:Nat),i + d + 1 < (endL S l).length→(endL S l).getD i 0 < (endL S l).getD (i + d + 1) 0
 | 0,i,hj=>riseI_iff.1 (errZ_zero h.err).2.2.2 i hj
 | d + 1,i,hj=>by
   have h1:=h.lt d i (by omega)
   have h2:=riseI_iff.1 (errZ_zero h.err).2.2.2 (i + d + 1) hj
   rw [show i + (d + 1) + 1 = i + d + 1 + 1 by omega]
   omega
theorem FewZ.mono (h:FewZ S l) {i j:Nat} (hij:i < j) (hj:j < (endL S l).length):(endL S l)[i] < (endL S l)[j]:=by
 have:=h.lt (j - i - 1) i (by omega)
 rw [show i + (j - i - 1) + 1 = j by omega,getD_atZ (by omega),getD_atZ hj] at this
 exact this
theorem FewZ.era (h:FewZ S l) {k:Nat} (hk:k < l.length) {i:Int} (h1:fromV (endL S l) k ≤ i) (h2:i < toV (endL S l) k):eraI (endL S l) i = k:=by
 have hle:=length_endL S l
 have hno:∀ j (hj:j < (endL S l).length),j < k→¬ i < (endL S l)[j]:=fun j hj hjk=>by
  unfold fromV at h1
  rw [if_neg (by omega),toV_at (show k - 1 < (endL S l).length by omega)] at h1
  by_cases e:j = k - 1
  ·subst e
   omega
  ·have:=h.mono (show j < k - 1 by omega) (show k - 1 < (endL S l).length by omega)
   omega
 by_cases hj:k < (endL S l).length
 ·rw [toV_at hj] at h2
  exact eraI_at hj hno h2
 ·rw [eraI_none (fun j hj2=>hno j hj2 (by omega))]
  omega
theorem FewZ.loc (h:FewZ S l) {k:Nat} (hk:k < l.length) {i:Int} (h1:fromV (endL S l) k ≤ i) (h2:i < toV (endL S l) k) (h3:-2199023255552 ≤ i) (h4:i ≤ 2199023255552):locZ S l i = locW l[k] (ruleE S l[k]) i:=by
 have hax:atX S l i = l[k]:=by unfold atX;rw [h.era hk h1 h2,List.getD_eq_getElem?_getD,List.getElem?_eq_getElem hk];rfl
 unfold locZ
 rw [if_neg (fun e=>e h.err),if_neg (by omega),hax]
end
end
section -- HPut
open Go Go.RowKit Go.Shelf
end
section -- HRefM
open Go Go.RowKit Go.Shelf
theorem showV_fine {f:ByteArray} {off:Int} {dst:Bool} {letter:ByteArray} (h:(kindR f.data.toList).2 = 0) (ho:-180000 < off∧off < 180000):(showV f off dst letter).2 = 0:=by
 rcases showV_err (off:=off) (dst:=dst) (letter:=letter) h with h3 | h3
 ·exact h3
 ·exfalso
  unfold showV at h3
  rw [if_pos h] at h3
  split at h3
  ·have h4:(0:Int) = 10:=congrArg Prod.snd h3
   omega
  ·split at h3
   ·rw [if_pos (by omega)] at h3
    have h4:(0:Int) = 10:=congrArg Prod.snd h3
    omega
   ·split at h3
    ·split at h3
     ·have h4:(0:Int) = 10:=congrArg Prod.snd h3
      omega
     ·have h4:(0:Int) = 10:=congrArg Prod.snd h3
      omega
    ·have h4:(0:Int) = 10:=congrArg Prod.snd h3
     omega
structure RowsZ (S:List SetF) (l:List EraF) (R:List RowF):Prop where
 len:R.length = l.length
 ok:∀ i (h:i < R.length) (h2:i < l.length),RowOk S l[i] R[i]
section
variable {S:List SetF} {l:List EraF} {R:List RowF}
theorem FewZ.kind (h:FewZ S l) {k:Nat} (hk:k < l.length):(kindR l[k].fm.data.toList).2 = 0:=by
 have her:=(errZ_zero h.err).2.2.1 k hk
 rw [errAt_eq hk] at her
 exact (errE_zero her).1
theorem FewZ.save (h:FewZ S l) {k:Nat} (hk:k < l.length):-90000 < l[k].n.save∧l[k].n.save < 90000:=(errZ_off h.err hk).2
end
end
section -- FootM
open Go Go.RowKit Go.Shelf
theorem ftof_any (zn zn2:ByteArray) (ev ev2 sv:Value) (B:Nat) (l:List EraF) (S:List SetF) (w:World) (hz:ZW w B ev sv l S) (ho:ZOk l S) (hfo:frOk S) :
  Calls Tryz.prog 22 #[zoneA zn ev,setsV zn2 ev2 sv] w (FootPost w S l):=by
 by_cases he:errZ S l = 0
 ·exact fof_ok zn zn2 ev ev2 sv B l S w hz ho hfo he
 ·exact fof_err zn zn2 ev ev2 sv B l S w hz ho he
theorem fires_filter {l:List Rul} {p:Rul→Bool} {f:Fir} (hf:Fires (l.filter p) f):Fires l f:=by
 obtain ⟨r,hr,h⟩:=hf
 exact ⟨r,(List.mem_filter.1 hr).1,h⟩
theorem letOk_filter {l:List Rul} {p:Rul→Bool} (h:letOk l):letOk (l.filter p):=fun r hr=>h r (List.mem_filter.1 hr).1
structure FootGood (F:Foot):Prop where
 off:-90000 < F.off∧F.off < 90000
 save:-90000 < F.save∧F.save < 90000
 kind:(kindR F.fm.data.toList).2 = 0
 fires:∀ f,Fires F.rules f→-90000 < f.save∧f.save < 90000
 since:-2199023255552 ≤ F.since
 letl:letOk F.rules
 letter:F.letter.size ≤ 140737488351232
 fm:F.fm.size < 4294967281
 ok:RuOk F.rules
def locF (F:Foot) (i:Int):Loc :=
 if 0 < F.rules.length then ⟨F.off + (savesV (eraO F) ⟨#[45]⟩ F.rules i).1,dstB (savesV (eraO F) ⟨#[45]⟩ F.rules i).1,(showV F.fm (F.off + (savesV (eraO F) ⟨#[45]⟩ F.rules i).1) (dstB (savesV (eraO F) ⟨#[45]⟩ F.rules i).1) (savesV (eraO F) ⟨#[45]⟩ F.rules i).2).1⟩
 else ⟨F.off + F.save,dstB F.save,(showV F.fm (F.off + F.save) (dstB F.save) F.letter).1⟩
theorem saves_good {F:Foot} (h:FootGood F) (i:Int):(-90000 < (savesV (eraO F) ⟨#[45]⟩ F.rules i).1∧(savesV (eraO F) ⟨#[45]⟩ F.rules i).1 < 90000)∧(savesV (eraO F) ⟨#[45]⟩ F.rules i).2.size ≤ 140737488351232:=by
 unfold savesV
 rw [if_neg (by decide)]
 cases hl:latestF F.rules (eraO F).off i with
 | none=>exact ⟨⟨by show (-90000:Int) < 0;omega,by show (0:Int) < 90000;omega⟩,letV_in h.letl⟩
 | some f=>exact ⟨h.fires f (latestF_mem hl),fires_let h.letl (latestF_mem hl)⟩
theorem FootGood.footOk {F:Foot} (h:FootGood F):FootOk F where
 off:=⟨by have:=h.off;omega,by have:=h.off;omega⟩
 save:=⟨by have:=h.save;omega,by have:=h.save;omega⟩
 letter:=h.letter
 fm:=h.fm
 since:=by have:=h.since;omega
 ok:=h.ok
 sum:=fun i _ _=>by
  have:=saves_good h i
  exact ⟨⟨by omega,by omega⟩,this.2⟩
theorem fatV_good {F:Foot} (h:FootGood F) {i:Int} (h1:F.since ≤ i) (h2:i ≤ 2199023255552):fatV F i = .tuple #[locA (locF F i),.int .i64 0]:=by
 have ho:=h.off
 have hs:=h.save
 unfold fatV locF
 rw [if_neg (by omega),if_neg (by omega)]
 split
 ·have hv:=saves_good h i
  unfold zwithinV withinR
  rw [if_pos (showV_fine h.kind (by show -180000 < F.off + _∧F.off + _ < 180000;omega))]
  rfl
 ·unfold withinR
  rw [if_pos (showV_fine h.kind (by omega))]
  rfl
theorem fr_few {l:List EraF} {S:List SetF} (h:fewB l S = true):frOk S:=fun s hs r hr=>by
 have h1:=(rightB_iff.1 ((fewB_iff.1 h).2.1 s hs)).1
 unfold smallB at h1
 rw [Bool.and_eq_true,List.all_eq_true] at h1
 have h2:=h1.1 r hr
 unfold smallR at h2
 simp only [Bool.and_eq_true,decide_eq_true_eq] at h2
 omega
theorem begV_in (E:List Int):-2199023255552 ≤ begV E∧begV E ≤ 2199023255553:=by
 unfold begV
 split <;> omega
theorem footZ_good {S:List SetF} {l:List EraF} (h:FewZ S l) (hok:ZOk l S) (hlet:∀ s ∈ S,letOk s.l):FootGood (footZ S l):=by
 have hp:=h.pos
 have hx:lastE l = l[l.length - 1]:=by
  unfold lastE
  rw [List.getD_eq_getElem?_getD,List.getElem?_eq_getElem (by omega)]
  rfl
 have hoff:=h.off (k:=l.length - 1) (by omega)
 have hsv:=h.save (k:=l.length - 1) (by omega)
 have hkd:=h.kind (k:=l.length - 1) (by omega)
 have hfm:=hok.fm _ (List.getElem_mem (show l.length - 1 < l.length by omega))
 rw [← hx] at hoff hsv hkd hfm
 unfold footZ
 rw [if_pos h.err]
 obtain ⟨x,hxx⟩:∃ x,lastE l = x:=⟨_,rfl⟩
 rw [hxx] at hoff hsv hkd hfm ⊢
 have hb:=begV_in (endL S l)
 have hro:=ofRul_ok hok x.ru
 have hla:letOk (ofRul S x.ru):=by
  unfold ofRul
  cases hs:ofS S x.ru with
  | none=>exact fun r hr=>(by cases hr)
  | some s=>exact hlet s (List.mem_of_find?_eq_some hs)
 have hz:-90000 < (0:Int)∧(0:Int) < 90000:=by omega
 unfold footOf
 split
 ·exact ⟨hoff,hsv,hkd,fun f hf=>(by obtain ⟨r,hr,-⟩:=hf;cases hr),hb.1,fun r hr=>(by cases hr),by show (⟨#[]⟩:ByteArray).size ≤ 140737488351232;decide,hfm,ruok_nil⟩
 ·rename_i hru
  obtain ⟨A,hA⟩:=h.right x
  unfold ruleE at hA
  rw [if_neg hru] at hA
  split
  ·exact ⟨hoff,hz,hkd,fun f hf=>hA.save_all (fires_filter (fires_filter hf)),by show _ ≤ max _ _;omega,letOk_filter (letOk_filter hla),by show (⟨#[]⟩:ByteArray).size ≤ 140737488351232;decide,hfm,ruok_filter (ruok_filter hro _) _⟩
  ·split
   ·exact ⟨hoff,hz,hkd,fun f hf=>(by obtain ⟨r,hr,-⟩:=hf;cases hr),hb.1,fun r hr=>(by cases hr),letV_in hla,hfm,ruok_nil⟩
   ·rename_i f hf
    have hff:=fires_filter (latestF_mem hf)
    exact ⟨hoff,hA.save_all hff,hkd,fun f hf=>(by obtain ⟨r,hr,-⟩:=hf;cases hr),by show _ ≤ max _ _;omega,fun r hr=>(by cases hr),fires_let hla hff,hfm,ruok_nil⟩
end
section -- FAwake
open Go Go.RowKit Go.Shelf
def cetF:EraF:=⟨cetE,⟨#[]⟩,cetS,false⟩
def cetFoot:Foot:=⟨-2199023255552,3600,0,⟨#[]⟩,cetS,[]⟩
theorem cet_errZ:errZ [] [cetF] = 0:=by kernel_rfl
theorem cet_foot:footZ [] [cetF] = cetFoot:=by kernel_rfl
theorem cet_at:fatV cetFoot 2199023255552 = .tuple #[.agg #[.int .i64 3600,.bool false,.string ⟨#[67,69,84]⟩],.int .i64 0]:=by kernel_rfl
theorem cet_good:FootGood cetFoot where
 off:=by decide
 save:=by decide
 kind:=by kernel_rfl
 fires:=fun f hf=>(by obtain ⟨r,hr,-⟩:=hf;cases hr)
 since:=by decide
 letl:=fun r hr=>(by cases hr)
 letter:=by decide
 fm:=by decide
 ok:=ruok_nil
theorem cet_ok:FootOk cetFoot:=cet_good.footOk
theorem cet_zok:ZOk [cetF] [] where
 fm:=fun x hx=>(by rw [List.mem_singleton] at hx;subst hx;decide)
 rul:=fun s hs=>(by cases hs)
 len:=by decide
theorem cet_fr:frOk []:=fun s hs=>(by cases hs)
theorem own_eraO (w:World) (cs:Array Value) (h:cs.size = 12):(w.alloc (.cells cs 42)).ownsRow w.heap.size 42 12 (.slice (some ⟨w.heap.size,0,none⟩) 1 1) 1 cs.toList :=
 ⟨by simp [h],.inr ⟨w.heap.size,1,cs,rfl,Nat.le_refl _,World.alloc_heap_new _ _,Nat.le_refl _,by decide,by simp [h],List.take_of_length_le (by simp [h])⟩⟩
theorem fawake_any (w:World) (ha:Ahead w) (htab:0 < w.heap.size) (hm:Tryz.MaxL w) :
  Calls Tryz.prog 21 #[] w fun e w'=>e = .returned (.bool true)∧Below w.heap.size w w':=by
 have hb0:Below w.heap.size w ((w.alloc (.cells (eraP cetE cetS).toArray 42)).alloc (.cells #[.string ⟨#[88]⟩,.slice (some ⟨w.heap.size,0,none⟩) 1 1,.slice none 0 0] 27)):=((Below.refl w.heap.size w).alloc (Nat.le_refl _) _).alloc (by simp) _
 have hw0:=Blk.new (w.alloc (.cells (eraP cetE cetS).toArray 42)) 27 #[.string ⟨#[88]⟩,.slice (some ⟨w.heap.size,0,none⟩) 1 1,.slice none 0 0]
 have he0:ErasR ((w.alloc (.cells (eraP cetE cetS).toArray 42)).alloc (.cells #[.string ⟨#[88]⟩,.slice (some ⟨w.heap.size,0,none⟩) 1 1,.slice none 0 0] 27)) ((w.alloc (.cells (eraP cetE cetS).toArray 42)).alloc (.cells #[.string ⟨#[88]⟩,.slice (some ⟨w.heap.size,0,none⟩) 1 1,.slice none 0 0] 27)).heap.size (.slice (some ⟨w.heap.size,0,none⟩) 1 1) [cetF]:=Sl.of_own ((own_eraO w (eraP cetE cetS).toArray rfl).alloc _)
 rw [World.size_alloc] at hw0
 have HZ:=Lib.hid (ZW.mk he0 (show SetsR _ _ (.slice none 0 0) [] from ⟨Sl.nil _ _ _,fun s hs=>by cases hs⟩) (ha.below hb0 (Nat.le_refl _)) (Nat.lt_of_lt_of_le htab hb0.size) (hm.below hb0 (Nat.le_refl _)) (Nat.le_refl _))
 have HB0:=Lib.hid hb0
 have hof:=ftof_any ⟨#[88]⟩ ⟨#[88]⟩ (.slice (some ⟨w.heap.size,0,none⟩) 1 1) (.slice (some ⟨w.heap.size,0,none⟩) 1 1) (.slice none 0 0) _ [cetF] [] _ HZ.out cet_zok cet_fr
 unfold FootPost at hof
 rw [cet_errZ,cet_foot] at hof
 have HOF:=Lib.hid hof
 have HAH:=Lib.hid (fun (W:World) (h:Below w.heap.size w W)=>And.intro (ha.below h (Nat.le_refl _)) (hm.below h (Nat.le_refl _)))
 have HTB:=Lib.hid htab
 simp only [zoneA,setsV,worldA,footA,cetFoot,cetS] at HOF
 have HW0:=Lib.hid hw0
 unfold eraP cetE cetS at HB0 HW0
 simp only [eraP,cetE] at HOF
 clear hb0 hw0 he0 hof ha hm HZ
 go_enter Tryz.func21,Tryz.ntmps21
 have q0:=HW0.out.cell 0 (v:=.string ⟨#[88]⟩) rfl
 have q1:=HW0.out.cell 1 (v:=.slice (some ⟨w.heap.size,0,none⟩) 1 1) rfl
 have q2:=HW0.out.cell 2 (v:=.slice none 0 0) rfl
 have ql:=HW0.out.lt
 go_wp2_with fail
 refine HOF.out.mono ?_
 rintro o w1 ⟨⟨u,rfl,how⟩,hb⟩
 have HOW:=Lib.hid how
 have hb1:=HB0.out.trans (hb.mono HB0.out.size)
 have hs1:=hb1.size
 obtain ⟨Au,cu,rfl⟩:=(Sl.of_own how).form
 have hfx:=Blk.new w1 54 #[.int .i64 (-2199023255552),.int .i64 3600,.int .i64 0,.string ⟨#[]⟩,.string ⟨#[67,69,84]⟩,.slice Au 0 cu]
 have hb2:=hb1.alloc hs1 (.cells #[.int .i64 (-2199023255552),.int .i64 3600,.int .i64 0,.string ⟨#[]⟩,.string ⟨#[67,69,84]⟩,.slice Au 0 cu] 54)
 have HAT:=Lib.hid (fun (W:World) (h:Below w.heap.size w W) (hr:Ruls W W.heap.size (.slice Au 0 cu) [])=>fat_any W W.heap.size (.slice Au 0 cu) cetFoot 2199023255552 (HAH.out W h).2 (RW.mk hr (HAH.out W h).1 (Nat.lt_of_lt_of_le HTB.out h.size) (Nat.le_refl _)) cet_ok)
 rw [cet_at] at HAT
 have HEN:=Lib.hid (fun W=>fendless_any W cetFoot Au cu)
 rw [show decide (0 < cetFoot.rules.length) = false from rfl] at HEN
 simp only [footA,cetFoot,cetS] at HAT HEN
 simp only [List.length_nil] at HOW how HEN HAT ⊢
 have HFX:=Lib.hid hfx
 have HB2:=Lib.hid hb2
 have HRU:=Lib.hid (show Ruls (w1.alloc (.cells #[.int .i64 (-2199023255552),.int .i64 3600,.int .i64 0,.string ⟨#[]⟩,.string ⟨#[67,69,84]⟩,.slice Au 0 cu] 54)) (w1.alloc (.cells #[.int .i64 (-2199023255552),.int .i64 3600,.int .i64 0,.string ⟨#[]⟩,.string ⟨#[67,69,84]⟩,.slice Au 0 cu] 54)).heap.size (.slice Au 0 cu) [] from Sl.of_own (World.ownsRow.alloc HOW.out _))
 clear hb hb1 hb2 hfx how q0 q1 q2 ql HOF HW0 HB0
 go_wp2_with fail
 refine (HAT.out _ HB2.out HRU.out).mono ?_
 rintro o w2 ⟨rfl,hb⟩
 have hfy:=HFX.out.below hb HFX.out.lt
 have hb3:=HB2.out.trans (hb.mono HB2.out.size)
 have hs3:=hb3.size
 have HFY:=Lib.hid (hfy.alloc (.cells #[.int .i64 3600,.bool false,.string ⟨#[67,69,84]⟩] 48))
 have HLY:=Lib.hid (Blk.new w2 48 #[.int .i64 3600,.bool false,.string ⟨#[67,69,84]⟩])
 have HB3:=Lib.hid (hb3.alloc hs3 (.cells #[.int .i64 3600,.bool false,.string ⟨#[67,69,84]⟩] 48))
 have fc0:=hfy.cell 0 (v:=.int .i64 (-2199023255552)) rfl
 have fc1:=hfy.cell 1 (v:=.int .i64 3600) rfl
 have fc2:=hfy.cell 2 (v:=.int .i64 0) rfl
 have fc3:=hfy.cell 3 (v:=.string ⟨#[]⟩) rfl
 have fc4:=hfy.cell 4 (v:=.string ⟨#[67,69,84]⟩) rfl
 have fc5:=hfy.cell 5 (v:=.slice Au 0 cu) rfl
 have fl:=hfy.lt
 clear hb hfy hb3 HFX HB2 HAT HRU
 go_wp2_with fail
 refine (HEN.out _).mono ?_
 rintro o w3 ⟨rfl,hb⟩
 have HB4:=Lib.hid (HB3.out.trans (hb.mono HB3.out.size))
 have hly:=HLY.out.below hb HLY.out.lt
 have l0:=hly.cell 0 (v:=.int .i64 3600) rfl
 have l1:=hly.cell 1 (v:=.bool false) rfl
 have l2:=hly.cell 2 (v:=.string ⟨#[67,69,84]⟩) rfl
 have ll:=hly.lt
 clear hb hly fc0 fc1 fc2 fc3 fc4 fc5 fl
 go_wp2_with fail
 go_ret
 exact ⟨rfl,HB4.out⟩
end
section -- EnvA
open Go Go.RowKit
section
variable {P:Program} {n:Nat} {ops:Array Oper}
end
end
section -- HRat
open Go Go.RowKit Go.Shelf
end
section -- HSame
open Go Go.RowKit Go.Shelf
def SameB (B2:Nat) (Wb W:World):Prop:=B2 ≤ Wb.heap.size∧∀ k,k < B2→W.heap[k]? = Wb.heap[k]?
section
variable {B2:Nat} {Wb W W':World}
theorem SameB.size (h:SameB B2 Wb W):B2 ≤ W.heap.size:=by
 rcases Nat.eq_zero_or_pos B2 with h0 | h0
 ·omega
 ·have h1:=h.2 (B2 - 1) (by omega)
  rw [Array.getElem?_eq_getElem (show B2 - 1 < Wb.heap.size by have:=h.1;omega)] at h1
  have:=(Array.getElem?_eq_some_iff.1 h1).1
  omega
theorem SameB.cell (h:SameB B2 Wb W) {p:Addr} (hp:p.block < B2):W.cell? p = Wb.cell? p:=World.cell?_of_block (h.2 p.block hp)
theorem SameB.sl (h:SameB B2 Wb W) {B sz n:Nat} {v:Value} {xs:List Value} (hs:Sl Wb B sz v n xs) (hB:B ≤ B2):Sl W B sz v n xs:=hs.keep fun p hp=>h.cell (by omega)
theorem SameB.ahead (h:SameB B2 Wb W) (ha:Ahead Wb) (hB:0 < B2):Ahead W:=fun k hk=>(h.cell (p:=⟨0,k,none⟩) hB).trans (ha k hk)
theorem SameB.maxl (h:SameB B2 Wb W) (hm:Tryz.MaxL Wb) {w0:World} (h0:Tryz.MaxL w0) (hB:w0.heap.size ≤ B2):Tryz.MaxL W:=by
 obtain ⟨m,hc⟩:=hm
 obtain ⟨m0,hc0⟩:=h0
 have:=World.block_lt_of_cell? w0 _ hc0
 exact ⟨m,(h.cell (Nat.lt_of_lt_of_le this hB)).trans hc⟩
theorem SameB.rw_ (h:SameB B2 Wb W) {B:Nat} {v:Value} {l:List Rul} (hr:RW Wb B v l) (hB:B ≤ B2):RW W B v l :=
 ⟨h.sl hr.ruls hB,h.ahead hr.ahead (Nat.lt_of_lt_of_le hr.tab hB),hr.tab,Nat.le_trans hB h.size⟩
theorem SameB.then_fr (h:SameB B2 Wb W) {T:Nat→Prop} (hf:Fr T W W') (hT:∀ k,k < B2→¬ T k):SameB B2 Wb W':=⟨h.1,fun k hk=>(hf.block k (by have:=h.size;omega) (hT k hk)).trans (h.2 k hk)⟩
end
end
section -- HTurns
open Go Go.RowKit Go.Shelf
attribute [local go_sem] Oper.semAt_some
section
variable {eb lb:Nat} {v:Value} {yb nb lp s0:Nat} {x:EraF} {R:List Rul} {now0:Chg} {O0:Nat→Prop} {J Jx:List Chg→(Nat→Prop)→World→Prop}
end
end
section -- EnvY
open Go Go.RowKit
section
variable {P:Program} {n:Nat} {ops:Array Oper}
end
end
section -- HSteps
open Go Go.RowKit Go.Shelf
attribute [local go_sem] Oper.semAt_some
section
variable {sb fb tb yb lp s0:Nat} {sv:Value} {fr to:Int} {O0:Nat→Prop} {J Jx:List Chg→(Nat→Prop)→World→Prop} {L:List Chg} {α:Type}
end
end
section -- HChanges
open Go Go.RowKit Go.Shelf
attribute [local go_sem] Oper.semAt_some
section
variable {yb nb lp s0:Nat} {now0:Loc} {O0:Nat→Prop} {J Jx:List Chg→(Nat→Prop)→World→Prop}
end
end
section -- HMake
open Go Go.RowKit Go.Shelf
attribute [local go_sem] Oper.semAt_some
end
section -- HRch
open Go Go.RowKit Go.Shelf
section
variable {S:List SetF} {l:List EraF} {R:List RowF}
end
end
section -- HAll
open Go Go.RowKit Go.Shelf
end
section -- TSteps
open Go Go.RowKit Go.Shelf
attribute [local go_sem] Oper.semAt_some
end
section -- TChanges
open Go Go.RowKit Go.Shelf
attribute [local go_sem] Oper.semAt_some
end
section -- TMake
open Go Go.RowKit Go.Shelf
end
section -- TRise
open Go Go.RowKit
open Go Go.RowKit
end
section -- TSame
open Go Go.RowKit
end
section -- TAwake
open Go Go.RowKit Go.Shelf
end
section -- HLawM
open Go Go.RowKit Go.Shelf
end
section -- HRight
open Go Go.RowKit Go.Shelf
noncomputable def goodZ (l:List EraF) (S:List SetF):Bool:=fewB l S && decide (errZ S l = 0)
theorem good_iff {l:List EraF} {S:List SetF}:goodZ l S = true ↔ fewB l S = true∧errZ S l = 0:=by unfold goodZ;rw [Bool.and_eq_true,decide_eq_true_eq]
theorem few_okR {l:List EraF} {S:List SetF} (h:fewB l S = true):ZOk l S where
 fm:=fun x hx=>by have:=eraFew_fm ((fewB_iff.1 h).1 x hx);omega
 rul:=fun s hs=>right_ok ((fewB_iff.1 h).2.1 s hs)
 len:=by have:=(fewB_iff.1 h).2.2.1;omega
def RightPost (w:World) (l:List EraF) (S:List SetF) (o:Ending) (w':World):Prop :=
 (∃ u v,o = .returned (.tuple #[u,v,.bool (goodZ l S)])∧(goodZ l S = true→∃ R,RowsZ S l R∧RowsM w' u R∧Nums w' w'.heap.size v (endL S l)))∧Below w.heap.size w w'
theorem right14_any (w:World) (zn:ByteArray) (ev sv:Value) (B:Nat) (l:List EraF) (S:List SetF) (hz:ZW w B ev sv l S) (hfm:∀ x ∈ l,x.fm.size < 1152921504606846976) :
  Calls Tryz.prog 23 #[worldA zn ev sv] w (RightPost w l S):=by
 obtain ⟨i0,hi,hz0,hz1,hz2⟩:=info_parts infoInt
 obtain ⟨A,cA,rfl,hlc,hcm⟩:=hz.eras.form
 obtain ⟨A2,cS,rfl,hlc2,hcm2⟩:=hz.sets.form
 unfold maxLen at hcm hcm2
 obtain ⟨W0,hW0⟩:∃ W,(w.alloc (.cells #[.string zn,.slice A l.length cA,.slice A2 S.length cS] 27)) = W:=⟨_,rfl⟩
 have hb0:Below w.heap.size w W0:=by rw [← hW0];exact (Below.refl w.heap.size w).alloc (Nat.le_refl _) _
 have HXX:=Lib.hid (show Blk W0 w.heap.size 27 #[.string zn,.slice A l.length cA,.slice A2 S.length cS] by rw [← hW0];exact Blk.new w _ _)
 have HZ0:=Lib.hid (hz.below hb0)
 have HF:=Lib.hid (few_any W0 zn _ _ B l S (HZ0.out.eras) (HZ0.out.sets) HZ0.out.le hfm)
 have HB0:=Lib.hid hb0
 have HW0:=Lib.hid hW0
 have hBw:=hz.le
 clear hz hb0 hW0 hfm
 unfold worldA at HF ⊢
 go_enter Tryz.func23,Tryz.ntmps23
 go_wp2_with fail
 rw [HW0.out]
 try simp only [HW0.out]
 clear HW0
 cases hf:fewB l S with
 | false =>
   rw [hf] at HF
   have HG:=Lib.hid (show goodZ l S = false by unfold goodZ;rw [hf];rfl)
   clear hf
   refine HF.out.mono ?_
   rintro o w1 ⟨rfl,hb⟩
   have HB1:=Lib.hid (HB0.out.trans (hb.mono HB0.out.size))
   clear hb
   go_wp2_with fail
   go_ret3
   exact ⟨⟨_,_,by rw [HG.out];rfl,fun h=>by rw [HG.out] at h;cases h⟩,HB1.out⟩
 | true =>
   rw [hf] at HF
   have HFEW:=Lib.hid hf
   have HFW:=Lib.hid (fewB_iff.1 hf)
   clear hf
   refine HF.out.mono ?_
   rintro o w1 ⟨rfl,hb⟩
   have HBL:=Lib.hid hb
   have HB1:=Lib.hid (HB0.out.trans (hb.mono HB0.out.size))
   have HCK:=Lib.hid (zcheckZ_any zn _ _ B l S w1 (HZ0.out.below hb) (few_okR HFEW.out))
   unfold setsV zoneA worldA at HCK
   obtain ⟨E,hE⟩:∃ e,errZ S l = e:=⟨_,rfl⟩
   rw [hE] at HCK
   have HE:=Lib.hid hE
   have hxb:=HXX.out.below (HBL.out) HXX.out.lt
   have x0:=hxb.cell 0 (v:=.string zn) rfl
   have x1:=hxb.cell 1 (v:=.slice A l.length cA) rfl
   have x2:=hxb.cell 2 (v:=.slice A2 S.length cS) rfl
   have hxl:=hxb.lt
   clear hxb
   clear hb HF hE
   by_cases hE0:E = 0
   ·subst hE0
    have HG:=Lib.hid (show goodZ l S = true from good_iff.2 ⟨HFEW.out,HE.out⟩)
    have hl1:0 < l.length:=by have:=(errZ_zero HE.out).1;omega
    have hl4:l.length ≤ 4:=HFW.out.2.2.1
    have hn0:((l.length:Int) == 0) = false:=beq_eq_false_iff_ne.2 (by omega)
    have hn1:(l.length == 0) = false:=beq_eq_false_iff_ne.2 (by omega)
    go_wp2_with fail
    refine HCK.out.mono ?_
    rintro o w2 ⟨rfl,hb⟩
    have HBL2:=Lib.hid (HBL.out.trans (hb.mono HBL.out.size))
    have HB2:=Lib.hid (HB1.out.trans (hb.mono HB1.out.size))
    have HRW:=Lib.hid (rows_any zn _ _ B l S w2 (HZ0.out.below HBL2.out) HFW.out.2.1 (by omega))
    unfold worldA RowsPost at HRW
    clear hb x0 x1 x2 hxl HCK
    have hxb:=HXX.out.below (HBL2.out) HXX.out.lt
    have x0:=hxb.cell 0 (v:=.string zn) rfl
    have x1:=hxb.cell 1 (v:=.slice A l.length cA) rfl
    have x2:=hxb.cell 2 (v:=.slice A2 S.length cS) rfl
    have hxl:=hxb.lt
    clear hxb
    go_wp2_with fail
    refine HRW.out.mono ?_
    rintro o w3 ⟨⟨u,R,rfl,hRl,hRok,hRm⟩,hb⟩
    have HBL3:=Lib.hid (HBL2.out.trans (hb.mono HBL2.out.size))
    have HB3:=Lib.hid (HB2.out.trans (hb.mono HB2.out.size))
    have HRL:=Lib.hid hRl
    have HRO:=Lib.hid hRok
    have HRM:=Lib.hid hRm
    obtain ⟨A3,c3,rfl,-,-⟩:=hRm.form
    clear hb hRl hRok hRm x0 x1 x2 hxl HRW
    go_wp2_with fail
    go_loopw [6,7] (fun u iv wr=>∃ k:Nat,k ≤ l.length - 1∧iv = .int .i64 k∧wr.ownsRow w3.heap.size 3 1 u k (intsV ((endL S l).take k))∧Below w3.heap.size w3 wr) (fun _ iv _=>l.length - (intOf iv).toNat)
    case atStart=>exact ⟨0,Nat.zero_le _,rfl,World.ownsRow_nil _ _ _ _,Below.refl _ _⟩
    case round =>
     obtain ⟨k,hk,rfl,hown,hbw⟩:=hrel
     have HOW:=Lib.hid hown
     have HBW3:=Lib.hid hbw
     have HBLW:=Lib.hid (HBL3.out.trans (hbw.mono HBL3.out.size))
     have hxb:=HXX.out.below (HBLW.out) HXX.out.lt
     have x0:=hxb.cell 0 (v:=.string zn) rfl
     have x1:=hxb.cell 1 (v:=.slice A l.length cA) rfl
     have x2:=hxb.cell 2 (v:=.slice A2 S.length cS) rfl
     have hxl:=hxb.lt
     clear hxb
     have HZ4:=Lib.hid (HZ0.out.below HBLW.out)
     have HRM4:=Lib.hid (HRM.out.below hbw)
     obtain ⟨A5,c5,hu,-,-⟩:=Sl.of_own hown
     subst hu
     clear hown hbw
     by_cases hlt:k + 1 < l.length
     ·have hd:decide ((k:Int) + 1 < (l.length:Int)) = true:=decide_eq_true (by omega)
      have hlk:k < l.length:=by omega
      have hRlk:k < R.length:=by rw [HRL.out];exact hlk
      obtain ⟨bb,o,c',e,hbb,hc⟩:=HZ4.out.eras.cells (by omega)
      cases e
      have hx:=hc k hlk
      obtain ⟨br,orr,cr',e,hbr,hcr⟩:=HRM4.out.cells (by omega)
      cases e
      obtain ⟨rc0,rc1⟩:=hcr k hRlk
      have hdr:decide (k < R.length) = true:=decide_eq_true hRlk
      have hrok:=HRO.out k hRlk hlk
      have hrm:FrisN w3 R[k].v R[k].D:=HRM.out.2 _ (List.getElem_mem hRlk)
      have her:=(errZ_zero HE.out).2.2.1 k hlk
      rw [errAt_eq hlk,decide_eq_false (by omega)] at her
      have hen:=endL_get (S:=S) (l:=l) (i:=k) hlt
      have hfx:=HFW.out.1 _ (List.getElem_mem hlk)
      have htk:(endL S l).take (k + 1) = (endL S l).take k ++ [(endL S l).getD k 0]:=by
       have h9:k < (endL S l).length:=by rw [length_endL];omega
       rw [List.take_succ_eq_append_getElem h9,List.getD_eq_getElem?_getD,List.getElem?_eq_getElem h9]
       rfl
      obtain ⟨x,hxk⟩:∃ x,l[k] = x:=⟨_,rfl⟩
      obtain ⟨r,hrk⟩:∃ r,R[k] = r:=⟨_,rfl⟩
      rw [hxk] at hx her hen hfx hrok
      rw [hrk] at rc0 rc1 hrok hrm
      obtain ⟨-,hof,hsf,hee,-,hnb⟩:=errE_zero her
      have hee2:x.en = true:=hee
      have hek:=eraFew_end hfx hee2
      have hkin:0 ≤ x.n.ak∧x.n.ak ≤ 2:=by have:=nomV_in (hnb hee2);omega
      have hrb:rnomB x.n = true:=by rw [← hek.nomB_eq hkin];exact hnb hee2
      have hEQ:=end_eq (ru:=x.ru) hrok.right hof hek hrb
      rw [hEQ] at hen
      have hbd4:=below_drewN HBW3.out 1
      have HRD:=Lib.hid (rend_any (wr.drewN 1) x.n x.ru x.fm true w3.heap.size r.v r.D r.letter (hrm.1.below hbd4) hbd4.size hrok.len hrok.bd hek (by omega) (by omega))
      obtain ⟨A9,c9,hv9,-,-⟩:=hrm.1.form
      rw [hv9] at HRD rc0
      rw [← hen] at HRD
      unfold eraA at HRD
      obtain ⟨ek,hekv⟩:∃ z,(endL S l).getD k 0 = z:=⟨_,rfl⟩
      rw [hekv] at HRD htk
      have HTK:=Lib.hid htk
      have HBD4:=Lib.hid hbd4
      obtain ⟨c0,c1,c2,c3,c4,c5,c6,c7,c8,c9,c10,c11⟩:=hx
      rw [hee2] at c4
      have hul:=HOW.out.lt
      clear hc hcr hxk hrk hrok hrm her hen hfx hof hsf hee hee2 hnb hek hrb hEQ hbd4 hekv htk hv9
      go_wp2_with fail
      refine wp_text (by kernel_rfl) (by kernel_rfl) ?_
      intro K hK
      go_wp2_with fail
      refine HRD.out.mono ?_
      rintro o w5 ⟨rfl,hb⟩
      have HB5:=Lib.hid (HBD4.out.trans (hb.mono HBD4.out.size))
      have HOW5:=Lib.hid (ownsRow_below HOW.out ((below_drewN (Below.refl wr.heap.size wr) 1).trans hb))
      clear hb
      go_wp2_with ((at_builtin;refine wpList_append_own _ rfl _ _ 28 rfl (w3.heap.size) 3 i0 (.int .i64 0) 1 8 Tryz.underlying28 hi hz0 hz1 hz2 rfl (by decide) _ _ _ rfl (HOW5.out.alloc _) ⟨w5.heap.size,0,none⟩ 1 1 [.int .i64 ek] rfl rfl (cell_one_new _ _ _) (by simp [Value.oneCell']) (by unfold maxLen;omega) (by omega) (by have:=HB5.out.size;simp <;> omega) ?_;intro v' w1 hown' hgrow _))
      refine ⟨by simp [goodB,fits,plainPair,isSeqV,quiet,Act.eval],?_⟩
      go_wp2_with fail
      go_roundw
      case rel =>
       refine ⟨k + 1,by omega,by go_num,?_,below_push HB5.out HOW5.out hgrow⟩
       rw [HTK.out,intsV_append]
       exact hown'
      case measure=>first | (simp [intOf];done) | (simp [intOf];omega)
     ·obtain rfl:k = l.length - 1:=by omega
      have hd:decide (((l.length - 1:Nat):Int) + 1 < (l.length:Int)) = false:=decide_eq_false (by omega)
      have HOE:=Lib.hid (show Nums wr wr.heap.size (.slice A5 (l.length - 1) c5) (endL S l) by
       have h:=Sl.of_own HOW.out
       rw [List.take_of_length_le (by rw [length_endL];exact Nat.le_refl _)] at h
       unfold Nums
       rw [length_endL]
       exact h)
      have HB4:=Lib.hid (HB3.out.trans (HBW3.out.mono HB3.out.size))
      go_wp2_with fail
      go_ret3
      exact ⟨⟨_,_,by rw [HG.out];rfl,fun _=>⟨R,⟨HRL.out,HRO.out⟩,HRM4.out,HOE.out⟩⟩,HB4.out⟩
   ·have hne:(E != 0) = true:=by simpa using hE0
    have HG:=Lib.hid (show goodZ l S = false by
     cases hg:goodZ l S with
     | false=>rfl
     | true=>exact absurd (HE.out.symm.trans (good_iff.1 hg).2) hE0)
    go_wp2_with fail
    refine HCK.out.mono ?_
    rintro o w2 ⟨rfl,hb⟩
    have HB2:=Lib.hid (HB1.out.trans (hb.mono HB1.out.size))
    clear hb HCK
    go_wp2_with fail
    go_ret3
    exact ⟨⟨_,_,by rw [HG.out];rfl,fun h=>by rw [HG.out] at h;cases h⟩,HB2.out⟩
end
section -- GRow
open Go Go.RowKit Go.Shelf
def capG:Int:=2304634636800
structure RightG (l:List Rul) (A:List Fir):Prop where
 small:∀ r ∈ l,1890 ≤ r.from_∧r.from_ ≤ 2100
 mem:∀ f,f ∈ A ↔ ∃ r ∈ l,∃ y,1890 ≤ y∧y ≤ 75000∧ofB r y = true∧f = firOf r y
 save:∀ f ∈ A,-90000 < f.save∧f.save < 90000
 kind:∀ f ∈ A,0 ≤ f.kind∧f.kind ≤ 2
 gap:∀ i (h:i + 1 < A.length),A[i].nominal + 180000 < A[i + 1].nominal
section
variable {l:List Rul} {A:List Fir}
theorem RightG.ok (h:RightG l A):∀ r ∈ l,okR r:=fun r hr=>by have:=h.small r hr;unfold okR;omega
theorem RightG.lt (h:RightG l A):∀ (d i:Nat) (hj:i + d + 1 < A.length),A[i].nominal + 180000 < A[i + d + 1].nominal
 | 0,i,hj=>h.gap i hj
 | d + 1,i,hj=>by
   have h1:=h.lt d i (by omega)
   have h2:=h.gap (i + d + 1) (by omega)
   have e:A[i + (d + 1) + 1] = A[i + d + 1 + 1]:=rfl
   rw [e]
   omega
theorem RightG.rise (h:RightG l A) {i j:Nat} (hij:i < j) (hj:j < A.length):A[i].nominal + 180000 < A[j].nominal:=by
 obtain ⟨d,rfl⟩:∃ d,j = i + d + 1:=⟨j - i - 1,by omega⟩
 exact h.lt d i hj
theorem capG_eq:capG = 86400 * yearV 75001 - 1123200:=by decide
theorem RightG.fires (h:RightG l A) {f:Fir} (hf:f ∈ A):Fires l f:=by
 obtain ⟨r,hr,y,-,-,hy,rfl⟩:=(h.mem f).1 hf
 exact ⟨r,hr,y,hy,rfl⟩
theorem RightG.near (h:RightG l A) {f:Fir} (hf:Fires l f) (hn:f.nominal < capG):f ∈ A:=by
 obtain ⟨r,hr,y,hy,rfl⟩:=hf
 have hs:=h.small r hr
 obtain ⟨-,-,-,-,h1,-⟩:=of_month hy
 refine (h.mem _).2 ⟨r,hr,y,by omega,?_,hy,rfl⟩
 by_cases hc:y ≤ 75000
 ·exact hc
 ·have e:=yearV_mono (show 75001 ≤ y by omega)
  have g:=(firOf_in hy).1
  rw [capG_eq] at hn
  omega
theorem RightG.cut (h:RightG l A) (s:Int):∃ k,Cut A (nomA A) s k:=cut_some (fun i j hij hj=>by rw [nomA_at (by omega),nomA_at hj];have:=h.rise hij hj;omega) s
theorem ahead_rowG (h:RightG l A) {s:Int} {k:Nat} (hc:Cut A (nomA A) s k) (h1:-3217862419200 ≤ s) (h2:s ≤ capG):aheadF l s = prevO A k:=by
 have hb:=ahead_best h1 (show s ≤ 2500000000000 by unfold capG at h2;omega) h.ok
 have hm:∀ j (hj:j < A.length),j < k ↔ A[j].nominal < s:=fun j hj=>by rw [hc.2 j hj,nomA_at hj]
 cases ho:aheadF l s with
 | none =>
   rcases k with _ | k
   ·rfl
   ·exfalso
    have hk:k < A.length:=by have:=hc.1;omega
    have:=hb.none ho A[k] (h.fires (List.getElem_mem hk))
    unfold underB at this
    rw [decide_eq_false_iff_not] at this
    exact this ((hm k hk).1 (by omega))
 | some f =>
   obtain ⟨a1,a2,a3⟩:=hb.some f ho
   unfold underB at a2
   rw [decide_eq_true_eq] at a2
   have hfA:=h.near a1 (by omega)
   obtain ⟨j,hj,rfl⟩:=List.getElem_of_mem hfA
   have hjk:=(hm j hj).2 a2
   obtain ⟨k,rfl⟩:∃ m,k = m + 1:=⟨k - 1,by omega⟩
   have hk:k < A.length:=by have:=hc.1;omega
   have hle:=a3 A[k] (h.fires (List.getElem_mem hk)) (by unfold underB;rw [decide_eq_true_eq];exact (hm k hk).1 (by omega))
   rw [prevO_succ hk]
   by_cases e:j = k
   ·subst e;rfl
   ·have:=h.rise (show j < k by omega) hk;omega
theorem behind_rowG (h:RightG l A) {s:Int} {k:Nat} (hc:Cut A (nomA A) s k) (h1:-3217862419200 ≤ s) (h2:s ≤ capG) (hk:k < A.length) (hcap:A[k].nominal < capG):behindF l s = some A[k]:=by
 have hb:=behind_best h1 (show s ≤ 2500000000000 by unfold capG at h2;omega) h.ok
 have hm:∀ j (hj:j < A.length),j < k ↔ A[j].nominal < s:=fun j hj=>by rw [hc.2 j hj,nomA_at hj]
 have hks:s ≤ A[k].nominal:=by have:=hm k hk;omega
 cases ho:behindF l s with
 | none =>
   exfalso
   have:=hb.none ho A[k] (h.fires (List.getElem_mem hk))
   unfold atB at this
   rw [decide_eq_false_iff_not] at this
   exact this hks
 | some f =>
   obtain ⟨a1,a2,a3⟩:=hb.some f ho
   have hle:=a3 A[k] (h.fires (List.getElem_mem hk)) (by unfold atB;rw [decide_eq_true_eq];exact hks)
   unfold atB at a2
   rw [decide_eq_true_eq] at a2
   obtain ⟨j,hj,rfl⟩:=List.getElem_of_mem (h.near a1 (by omega))
   have hjk:¬ j < k:=by have:=hm j hj;omega
   by_cases e:j = k
   ·subst e;rfl
   ·have:=h.rise (show k < j by omega) hj;omega
theorem behind_farG (h:RightG l A) {s:Int} {k:Nat} (hc:Cut A (nomA A) s k) (h1:-3217862419200 ≤ s) (h2:s ≤ capG) (hcap:∀ hk:k < A.length,capG ≤ A[k].nominal) {f:Fir} (hf:behindF l s = some f):capG ≤ f.nominal:=by
 have hb:=behind_best h1 (show s ≤ 2500000000000 by unfold capG at h2;omega) h.ok
 obtain ⟨a1,a2,a3⟩:=hb.some f hf
 unfold atB at a2
 rw [decide_eq_true_eq] at a2
 by_cases hn:f.nominal < capG
 ·obtain ⟨j,hj,rfl⟩:=List.getElem_of_mem (h.near a1 hn)
  have hjk:¬ j < k:=by have:=hc.2 j hj;rw [nomA_at hj] at this;omega
  have hkl:k < A.length:=by omega
  have:=hcap hkl
  by_cases e:j = k
  ·subst e;omega
  ·have:=h.rise (show k < j by omega) hj;omega
 ·omega
theorem RightG.prev (h:RightG l A) {j:Nat} (hj:j ≤ A.length):-90000 < saveO (prevO A j)∧saveO (prevO A j) < 90000:=by
 rcases j with _ | j
 ·rw [prevO_zero,saveO_none];omega
 ·rw [prevO_succ (by omega),saveO_some]
  exact h.save _ (List.getElem_mem _)
theorem RightG.inst_in (h:RightG l A) {off:Int} (ho:-90000 < off∧off < 90000) {j:Nat} (hj:j < A.length):A[j].nominal - 179998 ≤ instA A off j∧instA A off j ≤ A[j].nominal + 179998:=by
 rw [instA_at hj]
 exact instF_in ho (h.prev (by omega))
theorem RightG.inst_next (h:RightG l A) {off:Int} (ho:-90000 < off∧off < 90000) {j:Nat} (hj:j + 1 < A.length):instA A off j < instA A off (j + 1):=by
 rw [instA_at hj,instA_at (show j < A.length by omega),prevO_succ (by omega)]
 have g:=h.gap j hj
 have p:=h.prev (show j ≤ A.length by omega)
 have q:=h.save A[j] (List.getElem_mem _)
 rw [saveO_some]
 generalize saveO (prevO A j) = sv at p ⊢
 unfold instF
 split <;> split <;> (try split) <;> (try split) <;> omega
theorem RightG.inst_lt (h:RightG l A) {off:Int} (ho:-90000 < off∧off < 90000) {i j:Nat} (hij:i < j) (hj:j < A.length):instA A off i < instA A off j:=by
 induction j with
 | zero=>omega
 | succ j ih =>
   have h1:=h.inst_next ho hj
   by_cases e:i = j
   ·subst e;exact h1
   ·have:=ih (by omega) (by omega);omega
theorem RightG.icut (h:RightG l A) {off:Int} (ho:-90000 < off∧off < 90000) (s:Int):∃ k,Cut A (instA A off) s k:=cut_some (fun _ _ hij hj=>h.inst_lt ho hij hj) s
theorem saved_rowG (h:RightG l A) {j:Nat} (hj:j < A.length) (hcap:A[j].nominal ≤ capG) (h1:-3217862419200 ≤ A[j].nominal):savedF l A[j] = saveO (prevO A j):=by
 unfold savedF
 rw [ahead_rowG h (k:=j) ⟨by omega,fun i hi=>?_⟩ h1 hcap]
 rw [nomA_at hi]
 constructor
 ·intro g;have:=h.rise g hj;omega
 ·intro g
  rcases Nat.lt_trichotomy i j with e | e | e
  ·exact e
  ·subst e;omega
  ·have:=h.rise e hi;omega
theorem RightG.low (h:RightG l A) {f:Fir} (hf:f ∈ A):-3217862419200 ≤ f.nominal:=by
 obtain ⟨r,hr,y,y1,y2,hy,rfl⟩:=(h.mem f).1 hf
 have g:=(firOf_in hy).1
 have e:=yearV_mono y1
 have e2:yearV 1890 = -29219:=by decide
 omega
theorem RightG.low2 (h:RightG l A) {f:Fir} (hf:f ∈ A):-2600000000 ≤ f.nominal:=by
 obtain ⟨r,hr,y,y1,y2,hy,rfl⟩:=(h.mem f).1 hf
 have g:=(firOf_in hy).1
 have e:=yearV_mono y1
 have e2:yearV 1890 = -29219:=by decide
 omega
theorem RightG.count (h:RightG l A):∀ (j:Nat) (hj:j < A.length),-2600000000 + 180000 * (j:Int) ≤ A[j].nominal
 | 0,hj=>by have:=h.low2 (List.getElem_mem hj);omega
 | j + 1,hj=>by
   have h1:=h.count j (by omega)
   have h2:=h.gap j hj
   push_cast
   omega
theorem back_rowG (h:RightG l A) {off i:Int} (ho:-90000 < off∧off < 90000) {k:Nat} (hc:Cut A (instA A off) (i + 1) k):∀ (m n:Nat),k ≤ m→m ≤ A.length→(∀ f,prevO A m = some f→f.nominal ≤ capG)→m - k < n→backF l off i n (prevO A m) = prevO A k
 | m,0,_,_,_,hn=>absurd hn (by omega)
 | 0,n + 1,hk,hm,hb,hn=>by
   obtain rfl:k = 0:=by omega
   rfl
 | m + 1,n + 1,hk,hm,hb,hn=>by
   have hml:m < A.length:=by omega
   have hcap:A[m].nominal ≤ capG:=hb _ (prevO_succ hml)
   rw [prevO_succ hml]
   unfold backF
   rw [saved_rowG h hml hcap (h.low (List.getElem_mem _)),← instA_at hml]
   have:=hc.2 m hml
   by_cases hlt:i < instA A off m
   ·rw [if_pos hlt]
    have e:aheadF l A[m].nominal = prevO A m:=by
     refine ahead_rowG h ⟨by omega,fun j hj=>?_⟩ (h.low (List.getElem_mem _)) hcap
     rw [nomA_at hj]
     constructor
     ·intro g;have:=h.rise g hml;omega
     ·intro g
      rcases Nat.lt_trichotomy j m with e | e | e
      ·exact e
      ·subst e;omega
      ·have:=h.rise e hj;omega
    rw [e]
    refine back_rowG h ho hc m n (by omega) (by omega) (fun f hf=>?_) (by omega)
    rcases m with _ | m
    ·cases hf
    ·rw [prevO_succ (by omega)] at hf
     cases hf
     have:=h.rise (show m < m + 1 by omega) hml
     omega
   ·rw [if_neg hlt]
    obtain rfl:k = m + 1:=by omega
    rw [prevO_succ hml]
theorem latest_rowG (h:RightG l A) {off i:Int} (ho:-90000 < off∧off < 90000) (h1:-3217862419200 ≤ i) (h2:i + 180001 ≤ capG) {k:Nat} (hc:Cut A (instA A off) (i + 1) k):latestF l off i = prevO A k:=by
 obtain ⟨m,hm⟩:=h.cut (i + 180001)
 unfold latestF
 rw [ahead_rowG h hm (by omega) h2]
 refine back_rowG h ho hc m _ ?_ hm.1 (fun f hf=>?_) ?_
 ·rcases Nat.lt_or_ge m k with g | g
  ·exfalso
   have hml:m < A.length:=by have:=hc.1;omega
   have e1:=(hc.2 m hml).1 g
   have e2:=hm.2 m hml
   have e3:=h.inst_in ho hml
   rw [nomA_at hml] at e2
   omega
  ·exact g
 ·rcases m with _ | m
  ·cases hf
  ·have hml:m < A.length:=by have:=hm.1;omega
   rw [prevO_succ hml] at hf
   cases hf
   have:=(hm.2 m hml).1 (by omega)
   rw [nomA_at hml] at this
   omega
 ·unfold farN
  rcases m with _ | m
  ·omega
  ·have hml:m < A.length:=by have:=hm.1;omega
   have:=(hm.2 m hml).1 (by omega)
   rw [nomA_at hml] at this
   have:=h.count m hml
   omega
def CurG (A:List Fir) (j:Nat) (o:Option Fir):Prop:=(∃ h:j < A.length,A[j].nominal < capG∧o = some A[j])∨((∀ h:j < A.length,capG ≤ A[j].nominal)∧∀ f,o = some f→capG ≤ f.nominal)
theorem behind_curG (h:RightG l A) {s:Int} {k:Nat} (hc:Cut A (nomA A) s k) (h1:-3217862419200 ≤ s) (h2:s ≤ capG):CurG A k (behindF l s):=by
 by_cases hk:∃ hk:k < A.length,A[k].nominal < capG
 ·obtain ⟨hk,hn⟩:=hk
  exact .inl ⟨hk,hn,behind_rowG h hc h1 h2 hk hn⟩
 ·have g:∀ hk:k < A.length,capG ≤ A[k].nominal:=fun hk2=>by
   by_cases e:A[k].nominal < capG
   ·exact absurd ⟨hk2,e⟩ hk
   ·omega
  exact .inr ⟨g,fun f hf=>behind_farG h hc h1 h2 g hf⟩
theorem cut_behindG (h:RightG l A) {j:Nat} (hj:j < A.length):Cut A (nomA A) (A[j].nominal + 1) (j + 1):=⟨by omega,fun i hi=>by
 rw [nomA_at hi]
 constructor
 ·intro g
  by_cases e:i = j
  ·subst e;omega
  ·have:=h.rise (show i < j by omega) hj;omega
 ·intro g
  rcases Nat.lt_trichotomy i j with e | e | e
  ·omega
  ·omega
  ·have:=h.rise e hi;omega⟩
theorem firedN_rowG (h:RightG l A) {off fr to:Int} (ho:-90000 < off∧off < 90000) (hto:to + 180000 < capG):∀ (n j:Nat) (o:Option Fir),CurG A j o→A.length - j < n→firedN l off fr to n o = segA A off fr to j (A.length - j)
 | 0,j,o,_,hn=>absurd hn (by omega)
 | n + 1,j,o,hcur,hn=>by
   rcases hcur with ⟨hj,hcap,rfl⟩ | ⟨hfar,hout⟩
   ·have hin:=h.inst_in ho hj
    have hs:=saved_rowG h hj (by omega) (h.low (List.getElem_mem _))
    have hnext:CurG A (j + 1) (behindF l (A[j].nominal + 1)):=behind_curG h (cut_behindG h hj) (by have:=h.low (List.getElem_mem hj);omega) (by omega)
    have ih:=firedN_rowG (fr:=fr) h ho hto n (j + 1) _ hnext (by omega)
    rw [show A.length - j = (A.length - (j + 1)) + 1 by omega,segA_succ,List.getElem?_eq_getElem hj]
    unfold firedN
    rw [hs,← instA_at hj,ih]
    by_cases hle:A[j].nominal ≤ to + 180000
    ·rw [if_pos hle]
     by_cases hout:instA A off j ≤ fr∨to < instA A off j
     ·rw [if_pos hout,if_neg (by omega)]
      rfl
     ·rw [if_neg hout,if_pos (by omega)]
      rfl
    ·rw [if_neg hle,if_neg (by omega),segA_nil (fun i hi hl=>by
      by_cases e:i = j + 1∨j + 1 < i
      ·have h1:=h.inst_lt ho (show j < i by omega) hl
       omega
      ·omega)]
     rfl
   ·rw [segA_nil (fun i hi hl=>by
     have h1:=h.inst_in ho hl
     by_cases e:i = j
     ·subst e;have:=hfar hl;omega
     ·have h2:=h.rise (show j < i by omega) hl
      have h3:=hfar (by omega)
      omega)]
    rcases o with _ | f
    ·rfl
    ·have:=hout f rfl
     unfold firedN
     rw [if_neg (by omega)]
theorem fired_rowG (h:RightG l A) {off fr to:Int} (ho:-90000 < off∧off < 90000) (h1:-3217862419200 ≤ fr - 180000) (h2:fr ≤ to) (hto:to + 180000 < capG):firedF l off fr to = segA A off fr to 0 A.length:=by
 obtain ⟨k,hk⟩:=h.cut (fr - 180000)
 have hlen:A.length - k < (to + 180001 + farN).toNat:=by
  have hcap:(A.length:Int) ≤ 20000000:=by
   by_cases h0:A.length = 0
   ·omega
   ·have hl:A.length - 1 < A.length:=by omega
    have h3:=h.count (A.length - 1) hl
    obtain ⟨r,hr,y,y1,y2,hy,e⟩:=(h.mem _).1 (List.getElem_mem hl)
    rw [e] at h3
    have g:=(firOf_in hy).2
    have e1:=yearV_mono (show y + 1 ≤ 75001 by omega)
    have e2:yearV 75001 = 26674025:=by decide
    omega
  unfold farN
  omega
 unfold firedF
 rw [firedN_rowG h ho hto _ k _ (behind_curG h hk h1 (by omega)) hlen]
 have hsplit:∀ (m j:Nat),(∀ i,i < m→i + j < A.length→¬ (fr < instA A off (i + j)∧instA A off (i + j) ≤ to))→∀ n,segA A off fr to j (m + n) = segA A off fr to (j + m) n:=by
  intro m
  induction m with
  | zero=>intro j _ n;rw [Nat.zero_add];rfl
  | succ m ih =>
    intro j hj n
    rw [show m + 1 + n = (m + n) + 1 by omega,segA_succ,ih (j + 1) (fun i hi hl=>by have:=hj (i + 1) (by omega) (by omega);rwa [show i + 1 + j = i + (j + 1) by omega] at this) n,show j + 1 + m = j + (m + 1) by omega]
    by_cases hl:j < A.length
    ·have:=hj 0 (by omega) (by omega)
     rw [Nat.zero_add] at this
     rw [if_neg this]
     rfl
    ·rw [List.getElem?_eq_none (by omega),Option.map_none,ite_self]
     rfl
 have:=hsplit k 0 (fun i hi hl=>by
  have hl2:i < A.length:=by omega
  have g:=(hk.2 i hl2).1 hi
  have e:=h.inst_in ho hl2
  rw [nomA_at hl2] at g
  rw [Nat.add_zero]
  omega) (A.length - k)
 rw [show k + (A.length - k) = A.length by have:=hk.1;omega,Nat.zero_add] at this
 exact this.symm
end
end
section -- GApart
open Go Go.RowKit Go.Shelf
def patB (y z:Int):Bool:=decide ((yearV z - yearV y) % 7 = 0) && (leapB y == leapB z && leapB (y + 1) == leapB (z + 1))
def patAll:Bool:=(List.range 400).all fun r=>(List.range 28).any fun k=>patB (r:Nat) (2070 + (k:Nat))
theorem pat_all:patAll = true:=by kernel_rfl
theorem leapB_cycle (q r:Int):leapB (400 * q + r) = leapB r:=by
 unfold leapB
 exact decide_eq_decide.2 (by omega)
theorem yearV_cycle (q r:Int):yearV (400 * q + r) = yearV r + 146097 * q:=by unfold yearV;omega
theorem pat_some (y:Int):∃ z,2070 ≤ z∧z ≤ 2097∧(yearV z - yearV y) % 7 = 0∧leapB y = leapB z∧leapB (y + 1) = leapB (z + 1):=by
 have h:=pat_all
 unfold patAll at h
 rw [List.all_eq_true] at h
 have h1:=h (y % 400).toNat (List.mem_range.2 (by omega))
 rw [List.any_eq_true] at h1
 obtain ⟨k,hk,hp⟩:=h1
 rw [List.mem_range] at hk
 unfold patB at hp
 simp only [Bool.and_eq_true,decide_eq_true_eq,beq_iff_eq] at hp
 obtain ⟨p1,p2,p3⟩:=hp
 rw [show (((y % 400).toNat:Nat):Int) = y % 400 by omega] at p1 p2 p3
 have e1:=leapB_cycle (y / 400) (y % 400)
 have e2:=leapB_cycle (y / 400) (y % 400 + 1)
 have e3:=yearV_cycle (y / 400) (y % 400)
 rw [show 400 * (y / 400) + y % 400 = y by omega] at e1 e3
 rw [show 400 * (y / 400) + (y % 400 + 1) = y + 1 by omega] at e2
 refine ⟨2070 + (k:Nat),by omega,by omega,?_,e1.trans p2,e2.trans p3⟩
 rw [e3]
 omega
theorem weekV_shift (a d:Int) (h:d % 7 = 0):weekV (a + d) = weekV a:=by unfold weekV;omega
theorem seekV_shift (a d st wk:Int) (h:d % 7 = 0):seekV (a + d) st wk = seekV a st wk + d:=by
 unfold seekV
 rw [weekV_shift a d h]
 split <;> omega
theorem inDay_shift {y z:Int} (hl:leapB y = leapB z) (h7:(yearV z - yearV y) % 7 = 0) (k wk n m:Int):inDay k wk n z m = inDay k wk n y m + (yearV z - yearV y):=by
 have e1:leapsV z = leapsV y:=by unfold leapsV;rw [hl]
 have e2:startV z m = startV y m:=by unfold startV;rw [e1]
 have e3:lenV z m = lenV y m:=by unfold lenV;rw [e1]
 have e4:∀ d,dayV z m d = dayV y m d + (yearV z - yearV y):=fun d=>by unfold dayV;rw [e2];omega
 unfold inDay
 rw [e3]
 split
 ·exact e4 n
 ·split
  ·rw [e4,seekV_shift _ _ _ _ h7]
  ·rw [e4,seekV_shift _ _ _ _ h7]
theorem firOf_shift {y z:Int} (hl:leapB y = leapB z) (h7:(yearV z - yearV y) % 7 = 0) (r:Rul):firOf r z = { firOf r y with nominal:=(firOf r y).nominal + 86400 * (yearV z - yearV y) }:=by
 unfold firOf
 rw [inDay_shift hl h7]
 simp only [Fir.mk.injEq,and_self,and_true]
 omega
theorem ofB_shift {r:Rul} {y z:Int} (h:ofB r y = true) (hl:leapB y = leapB z) (z1:-99000 ≤ z) (z2:z ≤ 90000) (hf:r.from_ ≤ z) (ht:z ≤ r.to_):ofB r z = true:=by
 obtain ⟨-,-,m1,m2,-,-,hok,hn,s1,s2⟩:=of_month h
 have e1:leapsV z = leapsV y:=by unfold leapsV;rw [hl]
 have e3:lenV z r.month = lenV y r.month:=by unfold lenV;rw [e1]
 exact of_make z1 z2 hf ht m1 m2 hok (by rw [e3];exact hn) s1 s2
theorem sort_gap:∀ (M:List Fir),(∀ f ∈ M,∀ g ∈ M,f ≠ g→f.nominal + 180000 < g.nominal∨g.nominal + 180000 < f.nominal)→∃ A:List Fir,(∀ f,f ∈ A ↔ f ∈ M)∧A.Pairwise fun f g=>f.nominal + 180000 < g.nominal
 | [],_=>⟨[],fun _=>Iff.rfl,List.Pairwise.nil⟩
 | f :: M,h=>by
   obtain ⟨A,hA,hp⟩:=sort_gap M fun x hx y hy=>h x (List.mem_cons_of_mem _ hx) y (List.mem_cons_of_mem _ hy)
   by_cases hf:f ∈ M
   ·refine ⟨A,fun g=>?_,hp⟩
    rw [hA,List.mem_cons]
    exact ⟨.inr,fun e=>e.elim (fun e=>e ▸ hf) id⟩
   ·have hd:∀ g ∈ A,f.nominal + 180000 < g.nominal∨g.nominal + 180000 < f.nominal:=fun g hg=>h f List.mem_cons_self g (List.mem_cons_of_mem _ ((hA g).1 hg)) (fun e=>hf (e ▸ (hA g).1 hg))
    refine ⟨A.filter (fun g=>decide (g.nominal < f.nominal)) ++ f :: A.filter (fun g=>decide (f.nominal < g.nominal)),fun g=>?_,?_⟩
    ·rw [List.mem_append,List.mem_cons,List.mem_filter,List.mem_filter,decide_eq_true_eq,decide_eq_true_eq,List.mem_cons,← hA g]
     constructor
     ·rintro (h | h | h)
      ·exact .inr h.1
      ·exact .inl h
      ·exact .inr h.1
     ·rintro (h | h)
      ·exact .inr (.inl h)
      ·rcases hd g h with e | e
       ·exact .inr (.inr ⟨h,by omega⟩)
       ·exact .inl ⟨h,by omega⟩
    ·rw [List.pairwise_append]
     refine ⟨hp.filter _,List.pairwise_cons.2 ⟨fun g hg=>?_,hp.filter _⟩,fun a ha b hb=>?_⟩
     ·rw [List.mem_filter,decide_eq_true_eq] at hg
      have:=hd g hg.1
      omega
     ·rw [List.mem_filter,decide_eq_true_eq] at ha
      have h1:=hd a ha.1
      rcases List.mem_cons.1 hb with rfl | hb
      ·omega
      ·rw [List.mem_filter,decide_eq_true_eq] at hb
       have h2:=hd b hb.1
       omega
theorem RightR.apart {l:List Rul} {A:List Fir} (h:RightR l A) {f g:Fir} (hf:f ∈ A) (hg:g ∈ A) (hne:f ≠ g):f.nominal + 180000 < g.nominal∨g.nominal + 180000 < f.nominal:=by
 obtain ⟨i,hi,rfl⟩:=List.getElem_of_mem hf
 obtain ⟨j,hj,rfl⟩:=List.getElem_of_mem hg
 rcases Nat.lt_trichotomy i j with e | e | e
 ·exact .inl (h.rise e hj)
 ·subst e;exact absurd rfl hne
 ·exact .inr (h.rise e hi)
section
variable {l l':List Rul} {A:List Fir}
theorem apart_year (h:RightR l A) (hs:∀ r ∈ l',r ∈ l∧1048576 ≤ r.to_) {r s:Rul} (hr:r ∈ l') (hsm:s ∈ l') {y z:Int} (hy:ofB r y = true) (hz:ofB s z = true) (hyz:z = y∨z = y + 1) (hne:firOf r y ≠ firOf s z) :
  (firOf r y).nominal + 180000 < (firOf s z).nominal∨(firOf s z).nominal + 180000 < (firOf r y).nominal:=by
 obtain ⟨y',y1,y2,h7,hl,hl1⟩:=pat_some y
 have r1:=h.small r (hs r hr).1
 have s1:=h.small s (hs s hsm).1
 have r2:=(hs r hr).2
 have s2:=(hs s hsm).2
 have hz':∃ z',leapB z = leapB z'∧yearV z' - yearV z = yearV y' - yearV y∧2070 ≤ z'∧z' ≤ 2098:=by
  rcases hyz with rfl | rfl
  ·exact ⟨y',hl,rfl,y1,by omega⟩
  ·refine ⟨y' + 1,hl1,?_,by omega,by omega⟩
   have e1:=yearV_next y
   have e2:=yearV_next y'
   have e3:leapsV y' = leapsV y:=by unfold leapsV;rw [hl]
   omega
 obtain ⟨z',hlz,hdz,z1,z2⟩:=hz'
 have h7z:(yearV z' - yearV z) % 7 = 0:=by rw [hdz];exact h7
 have e1:=firOf_shift hl h7 r
 have e2:=firOf_shift hlz h7z s
 have m1:firOf r y' ∈ A:=(h.mem _).2 ⟨r,(hs r hr).1,y',by omega,by omega,ofB_shift hy hl (by omega) (by omega) (by omega) (by omega),rfl⟩
 have m2:firOf s z' ∈ A:=(h.mem _).2 ⟨s,(hs s hsm).1,z',by omega,by omega,ofB_shift hz hlz (by omega) (by omega) (by omega) (by omega),rfl⟩
 have n1:(firOf r y').nominal = (firOf r y).nominal + 86400 * (yearV y' - yearV y):=by rw [e1]
 have n2:(firOf s z').nominal = (firOf s z).nominal + 86400 * (yearV y' - yearV y):=by rw [e2,hdz]
 have hne':firOf r y' ≠ firOf s z':=fun e=>by
  apply hne
  have k1:(firOf r y').kind = (firOf s z').kind:=by rw [e]
  have k2:(firOf r y').save = (firOf s z').save:=by rw [e]
  have k3:(firOf r y').letter = (firOf s z').letter:=by rw [e]
  have k4:(firOf r y').nominal = (firOf s z').nominal:=by rw [e]
  rw [n1,n2] at k4
  have:(firOf r y).nominal = (firOf s z).nominal:=by omega
  cases hfr:firOf r y
  cases hfs:firOf s z
  rw [hfr,hfs] at this
  simp only [firOf,Fir.mk.injEq] at hfr hfs k1 k2 k3 this
  rw [Fir.mk.injEq]
  exact ⟨this,by rw [← hfr.2.1,← hfs.2.1];exact k1,by rw [← hfr.2.2.1,← hfs.2.2.1];exact k2,by rw [← hfr.2.2.2,← hfs.2.2.2];exact k3⟩
 have:=h.apart m1 m2 hne'
 omega
theorem apart_ever (h:RightR l A) (hs:∀ r ∈ l',r ∈ l∧1048576 ≤ r.to_) {f g:Fir} (hf:Fires l' f) (hg:Fires l' g) (hne:f ≠ g):f.nominal + 180000 < g.nominal∨g.nominal + 180000 < f.nominal:=by
 obtain ⟨r,hr,y,hy,rfl⟩:=hf
 obtain ⟨s,hsm,z,hz,rfl⟩:=hg
 have f1:=firOf_in hy
 have f2:=firOf_in hz
 by_cases c1:z = y∨z = y + 1
 ·exact apart_year h hs hr hsm hy hz c1 hne
 ·by_cases c2:y = z + 1
  ·exact (apart_year h hs hsm hr hz hy (.inr c2) (Ne.symm hne)).symm
  ·rcases Int.lt_or_le y z with c | c
   ·have:=yearV_far (show y + 1 ≤ z by omega)
    omega
   ·have:=yearV_far (show z + 1 ≤ y by omega)
    omega
theorem rightG_of (h:RightR l A) (hs:∀ r ∈ l',r ∈ l∧1048576 ≤ r.to_):∃ A',RightG l' A':=by
 obtain ⟨A',hA,hp⟩:=sort_gap (genL l' 1890 75000) fun f hf g hg hne=>by
  unfold genL genR at hf hg
  simp only [List.mem_flatMap,List.mem_map,List.mem_filter] at hf hg
  obtain ⟨r,hr,y,⟨-,hy⟩,rfl⟩:=hf
  obtain ⟨s,hsm,z,⟨-,hz⟩,rfl⟩:=hg
  exact apart_ever h hs ⟨r,hr,y,hy,rfl⟩ ⟨s,hsm,z,hz,rfl⟩ hne
 have hmem:∀ f,f ∈ A' ↔ ∃ r ∈ l',∃ y,1890 ≤ y∧y ≤ 75000∧ofB r y = true∧f = firOf r y:=fun f=>by
  rw [hA]
  unfold genL genR yrs
  simp only [List.mem_flatMap,List.mem_map,List.mem_filter,List.mem_range]
  constructor
  ·rintro ⟨r,hr,y,⟨⟨i,hi,rfl⟩,hy⟩,rfl⟩
   exact ⟨r,hr,_,by omega,by omega,hy,rfl⟩
  ·rintro ⟨r,hr,y,y1,y2,hy,rfl⟩
   exact ⟨r,hr,y,⟨⟨(y - 1890).toNat,by omega,by omega⟩,hy⟩,rfl⟩
 have hone:∀ f ∈ A',∃ g ∈ A,f.save = g.save∧f.kind = g.kind:=fun f hf=>by
  obtain ⟨r,hr,y,y1,y2,hy,rfl⟩:=(hmem f).1 hf
  obtain ⟨y',z1,z2,h7,hl,hl1⟩:=pat_some y
  have r1:=h.small r (hs r hr).1
  have r2:=(hs r hr).2
  exact ⟨firOf r y',(h.mem _).2 ⟨r,(hs r hr).1,y',by omega,by omega,ofB_shift hy hl (by omega) (by omega) (by omega) (by omega),rfl⟩,rfl,rfl⟩
 exact ⟨A',fun r hr=>by have:=h.small r (hs r hr).1;omega,hmem,fun f hf=>by obtain ⟨g,hg,e,-⟩:=hone f hf;rw [e];exact h.save g hg,fun f hf=>by obtain ⟨g,hg,-,e⟩:=hone f hf;rw [e];exact h.kind g hg,fun i hi=>List.pairwise_iff_getElem.1 hp i (i + 1) (by omega) hi (by omega)⟩
end
end
section -- GNextM
open Go Go.RowKit Go.Shelf
def turnF (F:Foot) (i:Int):Bool:=decide (F.since < i∧i ≤ 2199023255552) && !locE (locF F (i - 1)) (locF F i)
theorem turnF_iff {F:Foot} {i:Int}:turnF F i = true ↔ (F.since < i∧i ≤ 2199023255552)∧locF F i ≠ locF F (i - 1):=by
 unfold turnF
 rw [Bool.and_eq_true,decide_eq_true_eq,Bool.not_eq_true',← Bool.not_eq_true,locE_iff]
 exact ⟨fun h=>⟨h.1,fun e=>h.2 e.symm⟩,fun h=>⟨h.1,fun e=>h.2 e.symm⟩⟩
def nextS (F:Foot) (m:Int):List (Int × Fir)→Option Int
 | []=>none
 | x :: xs=>if turnF F x.1 then some x.1 else if m + 12622780800 < x.1 then none else nextS F m xs
def nextF (F:Foot) (i:Int):Option Int:=if 0 < F.rules.length∧i < 2199023255552 then nextS F (max i F.since) (firedF F.rules F.off (max i F.since) 2199023255552) else none
def lastS (F:Foot) (o:Option Int) (xs:List (Int × Fir)):Option Int:=xs.foldl (fun o x=>if turnF F x.1 then some x.1 else o) o
def prevN (F:Foot) (first:Int):Nat→Int→Option Int
 | 0,_=>none
 | n + 1,to=>if F.since < to∧first - 12749270400 < to then
    match lastS F none (firedF F.rules F.off (max F.since (to - 126489600)) to) with
    | some a=>some a
    | none=>prevN F first n (to - 126489600)
   else none
def prevF (F:Foot) (i:Int):Option Int:=if 0 < F.rules.length then prevN F (min i 2199023255552) 200 (min i 2199023255552) else none
theorem nextS_spec {F:Foot} {m T:Int}:∀ (xs:List (Int × Fir)),(∀ x ∈ xs,m < x.1∧x.1 ≤ T)→xs.Pairwise (fun x y=>x.1 < y.1) →
  (∀ a,nextS F m xs = some a→(∃ x ∈ xs,x.1 = a)∧turnF F a = true∧∀ x ∈ xs,turnF F x.1 = true→a ≤ x.1) ∧
  (nextS F m xs = none→∀ x ∈ xs,turnF F x.1 = true→m + 12622780800 < x.1)
 | [],_,_=>⟨fun a h=>(by cases h),fun _ x hx=>(by cases hx)⟩
 | y :: ys,hb,hp=>by
   obtain ⟨h1,h2⟩:=List.pairwise_cons.1 hp
   obtain ⟨i1,i2⟩:=nextS_spec (F:=F) (m:=m) (T:=T) ys (fun x hx=>hb x (List.mem_cons_of_mem _ hx)) h2
   unfold nextS
   cases ht:turnF F y.1 with
   | true =>
     rw [if_pos rfl]
     refine ⟨fun a ha=>?_,fun h=>(by cases h)⟩
     cases ha
     refine ⟨⟨y,List.mem_cons_self,rfl⟩,ht,fun x hx _=>?_⟩
     rcases List.mem_cons.1 hx with rfl | hx
     ·exact Int.le_refl _
     ·exact Int.le_of_lt (h1 x hx)
   | false =>
     rw [if_neg (by decide)]
     by_cases hc:m + 12622780800 < y.1
     ·rw [if_pos hc]
      refine ⟨fun a ha=>(by cases ha),fun _ x hx htx=>?_⟩
      rcases List.mem_cons.1 hx with rfl | hx
      ·exact hc
      ·have:=h1 x hx;omega
     ·rw [if_neg hc]
      refine ⟨fun a ha=>?_,fun hn x hx htx=>?_⟩
      ·obtain ⟨⟨x,hx,e⟩,h3,h4⟩:=i1 a ha
       refine ⟨⟨x,List.mem_cons_of_mem _ hx,e⟩,h3,fun z hz htz=>?_⟩
       rcases List.mem_cons.1 hz with rfl | hz
       ·rw [ht] at htz;cases htz
       ·exact h4 z hz htz
      ·rcases List.mem_cons.1 hx with rfl | hx
       ·rw [ht] at htx;cases htx
       ·exact i2 hn x hx htx
theorem lastS_spec {F:Foot}:∀ (xs:List (Int × Fir)) (o:Option Int),(∀ b,o = some b→∀ x ∈ xs,b < x.1)→xs.Pairwise (fun x y=>x.1 < y.1) →
  (∀ a,lastS F o xs = some a→(o = some a∨((∃ x ∈ xs,x.1 = a)∧turnF F a = true))∧∀ x ∈ xs,turnF F x.1 = true→x.1 ≤ a) ∧
  (lastS F o xs = none→o = none∧∀ x ∈ xs,turnF F x.1 = false)
 | [],o,_,_=>⟨fun a h=>⟨.inl h,fun x hx=>(by cases hx)⟩,fun h=>⟨h,fun x hx=>(by cases hx)⟩⟩
 | y :: ys,o,hb,hp=>by
   obtain ⟨h1,h2⟩:=List.pairwise_cons.1 hp
   have e:lastS F o (y :: ys) = lastS F (if turnF F y.1 then some y.1 else o) ys:=rfl
   rw [e]
   cases ht:turnF F y.1 with
   | true =>
     rw [if_pos rfl]
     obtain ⟨i1,i2⟩:=lastS_spec (F:=F) ys (some y.1) (fun b hb x hx=>by cases hb;exact h1 x hx) h2
     refine ⟨fun a ha=>?_,fun h=>(by have:=(i2 h).1;cases this)⟩
     obtain ⟨j1,j2⟩:=i1 a ha
     have hya:y.1 ≤ a:=by
      rcases j1 with j1 | ⟨⟨x,hx,rfl⟩,-⟩
      ·cases j1;exact Int.le_refl _
      ·exact Int.le_of_lt (h1 x hx)
     refine ⟨.inr ?_,fun x hx htx=>?_⟩
     ·rcases j1 with j1 | ⟨⟨x,hx,e⟩,h3⟩
      ·cases j1;exact ⟨⟨y,List.mem_cons_self,rfl⟩,ht⟩
      ·exact ⟨⟨x,List.mem_cons_of_mem _ hx,e⟩,h3⟩
     ·rcases List.mem_cons.1 hx with rfl | hx
      ·exact hya
      ·exact j2 x hx htx
   | false =>
     rw [if_neg (by decide)]
     obtain ⟨i1,i2⟩:=lastS_spec (F:=F) ys o (fun b hb2 x hx=>hb b hb2 x (List.mem_cons_of_mem _ hx)) h2
     refine ⟨fun a ha=>?_,fun h=>⟨(i2 h).1,fun x hx=>?_⟩⟩
     ·obtain ⟨j1,j2⟩:=i1 a ha
      refine ⟨j1.imp id fun ⟨⟨x,hx,e⟩,h3⟩=>⟨⟨x,List.mem_cons_of_mem _ hx,e⟩,h3⟩,fun x hx htx=>?_⟩
      rcases List.mem_cons.1 hx with rfl | hx
      ·rw [ht] at htx;cases htx
      ·exact j2 x hx htx
     ·rcases List.mem_cons.1 hx with rfl | hx
      ·exact ht
      ·exact (i2 h).2 x hx
section
variable {l:List Rul} {A:List Fir} {F:Foot}
theorem segA_riseG (h:RightG l A) {off fr to:Int} (ho:-90000 < off∧off < 90000):∀ (n j:Nat),(segA A off fr to j n).Pairwise fun x y=>x.1 < y.1
 | 0,_=>List.Pairwise.nil
 | n + 1,j=>by
   rw [segA_succ]
   refine List.pairwise_append.2 ⟨?_,segA_riseG h ho n (j + 1),fun x hx y hy=>?_⟩
   ·split
    ·exact List.pairwise_singleton _ _
    ·exact List.Pairwise.nil
   ·split at hx
    ·rename_i z e
     have hxz:=List.mem_singleton.1 hx
     split at e
     ·obtain ⟨f,hf,rfl⟩:=Option.map_eq_some_iff.1 e
      obtain ⟨i,i1,-,hi,rfl,-⟩:=segA_in hy
      rw [hxz]
      exact h.inst_lt ho (show j < i by omega) hi
     ·cases e
    ·cases hx
theorem locF_still (h:RightG F.rules A) (ho:-90000 < F.off∧F.off < 90000) {i:Int} (h1:-3217862419200 < i) (h2:i + 180001 ≤ capG) (hno:∀ j,j < A.length→instA A F.off j ≠ i):locF F i = locF F (i - 1):=by
 obtain ⟨k,hc⟩:=h.icut ho (i + 1)
 have hc2:Cut A (instA A F.off) (i - 1 + 1) k:=⟨hc.1,fun j hj=>by
  have:=hc.2 j hj
  have:=hno j hj
  omega⟩
 have e:savesV (eraO F) ⟨#[45]⟩ F.rules i = savesV (eraO F) ⟨#[45]⟩ F.rules (i - 1):=by
  unfold savesV
  split
  ·rfl
  ·show (match latestF F.rules F.off i with | some f=>(f.save,f.letter) | none=>(0,letV F.rules)) = (match latestF F.rules F.off (i - 1) with | some f=>(f.save,f.letter) | none=>(0,letV F.rules))
   rw [latest_rowG h ho (by omega) h2 hc,latest_rowG h ho (by omega) (by omega) hc2]
 unfold locF
 rw [e]
theorem turn_fired (h:RightG F.rules A) (ho:-90000 < F.off∧F.off < 90000) {fr to:Int} (h1:-2199023255552 ≤ fr) (h2:fr ≤ to) (h3:to ≤ 2199023255552) :
  (∀ x ∈ firedF F.rules F.off fr to,fr < x.1∧x.1 ≤ to)∧(firedF F.rules F.off fr to).Pairwise (fun x y=>x.1 < y.1)∧∀ i,fr < i→i ≤ to→turnF F i = true→∃ x ∈ firedF F.rules F.off fr to,x.1 = i:=by
 have hcap:(2304634636800:Int) = capG:=rfl
 refine ⟨fun x hx=>firedF_in hx,?_,fun i i1 i2 ht=>?_⟩
 ·rw [fired_rowG h ho (by omega) h2 (by omega)]
  exact segA_riseG h ho _ _
 ·rw [fired_rowG h ho (by omega) h2 (by omega)]
  have hne:=(turnF_iff.1 ht).2
  by_cases hx:∃ j,j < A.length∧instA A F.off j = i
  ·obtain ⟨j,hj,e⟩:=hx
   exact ⟨_,segA_has (n:=A.length) hj (Nat.zero_le _) (by omega) (by omega) (by omega),e⟩
  ·exact absurd (locF_still h ho (by omega) (by omega) (fun j hj e=>hx ⟨j,hj,e⟩)) hne
theorem next_some (h:RightG F.rules A) (ho:-90000 < F.off∧F.off < 90000) (hs:-2199023255552 ≤ F.since) {i a:Int} (hn:nextF F i = some a):(max i F.since < a∧a ≤ 2199023255552)∧turnF F a = true∧∀ j,max i F.since < j→j < a→turnF F j = false:=by
 unfold nextF at hn
 split at hn
 ·rename_i hc
  by_cases hm:max i F.since ≤ 2199023255552
  ·obtain ⟨f1,f2,f3⟩:=turn_fired h ho (fr:=max i F.since) (to:=2199023255552) (by omega) hm (Int.le_refl _)
   obtain ⟨⟨x,hx,e⟩,ht,hall⟩:=(nextS_spec (F:=F) _ f1 f2).1 a hn
   have:=f1 x hx
   refine ⟨by omega,ht,fun j j1 j2=>?_⟩
   cases htj:turnF F j with
   | false=>rfl
   | true =>
     obtain ⟨y,hy,ey⟩:=f3 j j1 (by omega) htj
     have:=hall y hy (by rw [ey];exact htj)
     omega
  ·exfalso
   have hnil:firedF F.rules F.off (max i F.since) 2199023255552 = []:=List.eq_nil_iff_forall_not_mem.2 fun x hx=>by have:=firedF_in hx;omega
   rw [hnil] at hn
   cases hn
 ·cases hn
theorem next_none (h:RightG F.rules A) (ho:-90000 < F.off∧F.off < 90000) (hs:-2199023255552 ≤ F.since) (hr:0 < F.rules.length) {i:Int} (hn:nextF F i = none):∀ j,max i F.since < j→j ≤ max i F.since + 12622780800→turnF F j = false:=by
 intro j j1 j2
 cases htj:turnF F j with
 | false=>rfl
 | true =>
   exfalso
   have hj:=(turnF_iff.1 htj).1
   unfold nextF at hn
   rw [if_pos ⟨hr,by omega⟩] at hn
   obtain ⟨f1,f2,f3⟩:=turn_fired h ho (fr:=max i F.since) (to:=2199023255552) (by omega) (by omega) (Int.le_refl _)
   obtain ⟨y,hy,ey⟩:=f3 j j1 (by omega) htj
   have:=(nextS_spec (F:=F) _ f1 f2).2 hn y hy (by rw [ey];exact htj)
   omega
theorem prevN_spec (h:RightG F.rules A) (ho:-90000 < F.off∧F.off < 90000) (hs:-2199023255552 ≤ F.since) {first:Int} (hf:first ≤ 2199023255552):∀ (n:Nat) (to:Int),to ≤ first→(∀ j,to < j→j ≤ first→turnF F j = false)→12749270400 - (first - to) < 126489600 * (n:Int) →
  (∀ a,prevN F first n to = some a→(F.since < a∧a ≤ first)∧turnF F a = true∧∀ j,a < j→j ≤ first→turnF F j = false) ∧
  (prevN F first n to = none→∀ j,first - 12622780800 < j→j ≤ first→turnF F j = false)
 | 0,to,h1,h2,h3=>⟨fun a ha=>(by cases ha),fun _ j j1 j2=>by
    refine h2 j ?_ j2
    simp at h3
    omega⟩
 | n + 1,to,h1,h2,h3=>by
   unfold prevN
   by_cases hc:F.since < to∧first - 12749270400 < to
   ·rw [if_pos hc]
    obtain ⟨f1,f2,f3⟩:=turn_fired h ho (fr:=max F.since (to - 126489600)) (to:=to) (by omega) (by omega) (by omega)
    obtain ⟨l1,l2⟩:=lastS_spec (F:=F) (firedF F.rules F.off (max F.since (to - 126489600)) to) none (fun b hb=>(by cases hb)) f2
    cases hl:lastS F none (firedF F.rules F.off (max F.since (to - 126489600)) to) with
    | some a =>
      simp only
      refine ⟨fun b hb=>?_,fun e=>(by cases e)⟩
      cases hb
      obtain ⟨j1,j2⟩:=l1 a hl
      rcases j1 with j1 | ⟨⟨x,hx,e⟩,ht⟩
      ·cases j1
      ·have hxb:=f1 x hx
       refine ⟨by omega,ht,fun j k1 k2=>?_⟩
       cases htj:turnF F j with
       | false=>rfl
       | true =>
         exfalso
         by_cases hjt:j ≤ to
         ·obtain ⟨y,hy,ey⟩:=f3 j (by omega) hjt htj
          have:=j2 y hy (by rw [ey];exact htj)
          omega
         ·rw [h2 j (by omega) k2] at htj;cases htj
    | none =>
      simp only
      refine prevN_spec h ho hs hf n (to - 126489600) (by omega) (fun j j1 j2=>?_) (by push_cast at h3;omega)
      cases htj:turnF F j with
      | false=>rfl
      | true =>
        exfalso
        have hsj:=(turnF_iff.1 htj).1
        by_cases hjt:j ≤ to
        ·obtain ⟨y,hy,ey⟩:=f3 j (by omega) hjt htj
         have:=(l2 hl).2 y hy
         rw [ey,htj] at this
         cases this
        ·rw [h2 j (by omega) j2] at htj;cases htj
   ·rw [if_neg hc]
    refine ⟨fun a ha=>(by cases ha),fun _ j j1 j2=>?_⟩
    by_cases hj:to < j
    ·exact h2 j hj j2
    ·cases htj:turnF F j with
     | false=>rfl
     | true =>
       exfalso
       have:=(turnF_iff.1 htj).1
       omega
theorem prev_some (h:RightG F.rules A) (ho:-90000 < F.off∧F.off < 90000) (hs:-2199023255552 ≤ F.since) {i a:Int} (hi:i ≤ 2199023255552) (hn:prevF F i = some a):(F.since < a∧a ≤ i)∧turnF F a = true∧∀ j,a < j→j ≤ i→turnF F j = false:=by
 unfold prevF at hn
 rw [show min i 2199023255552 = i by omega] at hn
 split at hn
 ·exact (prevN_spec h ho hs hi 200 i (Int.le_refl _) (fun j j1 j2=>by omega) (by push_cast;omega)).1 a hn
 ·cases hn
theorem prev_none (h:RightG F.rules A) (ho:-90000 < F.off∧F.off < 90000) (hs:-2199023255552 ≤ F.since) (hr:0 < F.rules.length) {i:Int} (hi:i ≤ 2199023255552) (hn:prevF F i = none):∀ j,i - 12622780800 < j→j ≤ i→turnF F j = false:=by
 unfold prevF at hn
 rw [show min i 2199023255552 = i by omega,if_pos hr] at hn
 exact (prevN_spec h ho hs hi 200 i (Int.le_refl _) (fun j j1 j2=>by omega) (by push_cast;omega)).2 hn
end
theorem still_turn {F:Foot} {a b:Int} (ha:F.since ≤ a) (hb:b ≤ 2199023255552) (h:∀ j,a < j→j ≤ b→turnF F j = false) (hab:a ≤ b):locF F b = locF F a:=by
 have hs:=still_of (g:=locF F) (a:=a) (b:=b) (fun i h1 h2=>by
  by_cases e:locF F i = locF F (i - 1)
  ·exact e
  ·have:=turnF_iff.2 ⟨⟨by omega,by omega⟩,e⟩
   rw [h i h1 h2] at this
   cases this) (b - a).toNat (by omega)
 rwa [show a + ((b - a).toNat:Nat) = b by omega] at hs
section
variable {F:Foot} {A:List Fir}
theorem prev_at (h:RightG F.rules A) (ho:-90000 < F.off∧F.off < 90000) (hs:-2199023255552 ≤ F.since) (hr:0 < F.rules.length) {x:Int} (ht:turnF F x = true):prevF F x = some x:=by
 have hx:=(turnF_iff.1 ht).1
 cases hp:prevF F x with
 | none=>have:=prev_none h ho hs hr hx.2 hp x (by omega) (Int.le_refl _);rw [ht] at this;cases this
 | some a =>
   obtain ⟨h1,-,h3⟩:=prev_some h ho hs hx.2 hp
   by_cases e:a = x
   ·rw [e]
   ·have:=h3 x (by omega) (Int.le_refl _);rw [ht] at this;cases this
theorem next_at (h:RightG F.rules A) (ho:-90000 < F.off∧F.off < 90000) (hs:-2199023255552 ≤ F.since) (hr:0 < F.rules.length) {y:Int} (ht:turnF F y = true):nextF F (y - 1) = some y:=by
 have hy:=(turnF_iff.1 ht).1
 cases hp:nextF F (y - 1) with
 | none=>have:=next_none h ho hs hr hp y (by omega) (by omega);rw [ht] at this;cases this
 | some a =>
   obtain ⟨h1,-,h3⟩:=next_some h ho hs hp
   by_cases e:a = y
   ·rw [e]
   ·have:=h3 y (by omega) (by omega);rw [ht] at this;cases this
theorem next_nil (h:¬ 0 < F.rules.length) (i:Int):nextF F i = none:=by unfold nextF;rw [if_neg (fun e=>h e.1)]
theorem prev_nil (h:¬ 0 < F.rules.length) (i:Int):prevF F i = none:=by unfold prevF;rw [if_neg h]
end
end
section -- GTurns
open Go Go.RowKit Go.Shelf
def tlocF (F:Foot) (i:Int):Loc:=if i < F.since∨2199023255552 < i then .zero else locF F i
def terrF (F:Foot) (i:Int):Int:=if i < F.since then 16 else if 2199023255552 < i then 10 else 0
theorem fatV_all {F:Foot} (h:FootGood F) (i:Int):fatV F i = .tuple #[locA (tlocF F i),.int .i64 (terrF F i)]:=by
 unfold tlocF terrF
 by_cases h1:i < F.since
 ·rw [if_pos (.inl h1),if_pos h1]
  unfold fatV
  rw [if_pos h1]
  rfl
 ·by_cases h2:2199023255552 < i
  ·rw [if_pos (.inr h2),if_neg h1,if_pos h2]
   unfold fatV
   rw [if_neg h1,if_pos h2]
   rfl
  ·rw [if_neg (by omega),if_neg h1,if_neg h2]
   exact fatV_good h (by omega) (by omega)
theorem turnF_err {F:Foot} {i:Int}:turnF F i = (decide (terrF F (i - 1) = 0) && (decide (terrF F i = 0) && !locE (tlocF F (i - 1)) (tlocF F i))):=by
 unfold turnF terrF tlocF
 by_cases h1:i - 1 < F.since
 ·rw [if_pos h1,decide_eq_false (show ¬ (F.since < i∧i ≤ 2199023255552) by omega),decide_eq_false (show ¬ (16:Int) = 0 by decide)]
  rfl
 ·by_cases h2:2199023255552 < i
  ·rw [if_neg h1,if_neg (show ¬ i < F.since by omega),if_pos h2,decide_eq_false (show ¬ (F.since < i∧i ≤ 2199023255552) by omega),decide_eq_false (show ¬ (10:Int) = 0 by decide)]
   simp
  ·rw [if_neg h1,if_neg (show ¬ i < F.since by omega),if_neg h2,if_neg (show ¬ 2199023255552 < i - 1 by omega),if_neg (show ¬ (i - 1 < F.since∨2199023255552 < i - 1) by omega),if_neg (show ¬ (i < F.since∨2199023255552 < i) by omega),decide_eq_true (show F.since < i∧i ≤ 2199023255552 by omega),decide_eq_true (show (0:Int) = 0 by rfl)]
   simp
theorem fturns_any (w:World) (B:Nat) (u:Value) (F:Foot) (i:Int) (hm:Tryz.MaxL w) (hrw:RW w B u F.rules) (hg:FootGood F) (hi:-9000000000000000000 ≤ i∧i ≤ 9000000000000000000) :
  Calls Tryz.prog 77 #[footA F u,.int .i64 i] w fun o w'=>o = .returned (.tuple #[chgA ⟨i,tlocF F i⟩,.bool (turnF F i)])∧Below w.heap.size w w':=by
 obtain ⟨A,c,rfl,hlc,hcm⟩:=hrw.ruls.form
 have hb0:=((Below.refl w.heap.size w).alloc (Nat.le_refl _) (.cells (footC F (.slice A F.rules.length c)) 54)).alloc (by simp) (.cells #[.int .i64 0,.int .i64 0,.bool false,.string ⟨#[]⟩] 76)
 have hx0:=(Blk.new w 54 (footC F (.slice A F.rules.length c))).alloc (.cells #[.int .i64 0,.int .i64 0,.bool false,.string ⟨#[]⟩] 76)
 have hr0:=Blk.new (w.alloc (.cells (footC F (.slice A F.rules.length c)) 54)) 76 #[.int .i64 0,.int .i64 0,.bool false,.string ⟨#[]⟩]
 rw [World.size_alloc] at hr0
 have HX:=Lib.hid hx0
 have HR:=Lib.hid hr0
 have HB:=Lib.hid hb0
 have HAT:=Lib.hid (fun (W:World) (h:Below w.heap.size w W) (j:Int)=>fat_any W B (.slice A F.rules.length c) F j (hm.below h (Nat.le_refl _)) (hrw.below h) hg.footOk)
 have HA1:=Lib.hid (fun (W:World) (h:Below w.heap.size w W)=>HAT.out W h (i - 1))
 have HA2:=Lib.hid (fun (W:World) (h:Below w.heap.size w W)=>HAT.out W h i)
 rw [fatV_all hg] at HA1 HA2
 have HT:=Lib.hid (@turnF_err F i)
 obtain ⟨⟨po,pd,ps⟩,hp⟩:∃ p,tlocF F (i - 1) = p:=⟨_,rfl⟩
 obtain ⟨⟨qo,qd,qs⟩,hq⟩:∃ q,tlocF F i = q:=⟨_,rfl⟩
 obtain ⟨e1,he1⟩:∃ e,terrF F (i - 1) = e:=⟨_,rfl⟩
 obtain ⟨e2,he2⟩:∃ e,terrF F i = e:=⟨_,rfl⟩
 rw [hp,he1] at HA1
 rw [hq,he2] at HA2
 rw [hp,hq,he1,he2] at HT
 rw [hq]
 unfold footA locA at HA1 HA2
 unfold footC at hx0 HX HB HR
 unfold footA chgA
 simp only at HA1 HA2 ⊢
 have xq0:=Blk.cell hx0 0 (v:=.int .i64 F.since) rfl
 have xq1:=Blk.cell hx0 1 (v:=.int .i64 F.off) rfl
 have xq2:=Blk.cell hx0 2 (v:=.int .i64 F.save) rfl
 have xq3:=Blk.cell hx0 3 (v:=.string F.letter) rfl
 have xq4:=Blk.cell hx0 4 (v:=.string F.fm) rfl
 have xq5:=Blk.cell hx0 5 (v:=.slice A F.rules.length c) rfl
 have xql:=Blk.lt hx0
 clear hm hrw hg hb0 hx0 hr0 hp hq he1 he2 HAT
 go_enter Tryz.func77,Tryz.ntmps77
 go_wp2_with fail
 refine (HA1.out _ HB.out).mono ?_
 rintro o w1 ⟨rfl,hb⟩
 have HB1:=Lib.hid ((HB.out.trans (hb.mono HB.out.size)).alloc (Nat.le_trans HB.out.size hb.size) (.cells #[.int .i64 po,.bool pd,.string ps] 48))
 have HX1:=Lib.hid ((HX.out.below hb HX.out.lt).alloc (.cells #[.int .i64 po,.bool pd,.string ps] 48))
 have HR1:=Lib.hid ((HR.out.below hb HR.out.lt).alloc (.cells #[.int .i64 po,.bool pd,.string ps] 48))
 have HP1:=Lib.hid (Blk.new w1 48 #[.int .i64 po,.bool pd,.string ps])
 have hs1:=Nat.le_trans HB.out.size hb.size
 have hs1l:=(HR.out.below hb HR.out.lt).lt
 have hx1:=HX.out.below hb HX.out.lt
 clear xq0 xq1 xq2 xq3 xq4 xq5 xql hb HX HR HB HA1
 have xq0:=Blk.cell hx1 0 (v:=.int .i64 F.since) rfl
 have xq1:=Blk.cell hx1 1 (v:=.int .i64 F.off) rfl
 have xq2:=Blk.cell hx1 2 (v:=.int .i64 F.save) rfl
 have xq3:=Blk.cell hx1 3 (v:=.string F.letter) rfl
 have xq4:=Blk.cell hx1 4 (v:=.string F.fm) rfl
 have xq5:=Blk.cell hx1 5 (v:=.slice A F.rules.length c) rfl
 have xql:=Blk.lt hx1
 have hpl2:=HP1.out.lt
 clear hx1
 go_wp2_with fail
 refine (HA2.out _ HB1.out).mono ?_
 rintro o w3 ⟨rfl,hb⟩
 have HB3:=Lib.hid ((HB1.out.trans (hb.mono HB1.out.size)).alloc (Nat.le_trans HB1.out.size hb.size) (.cells #[.int .i64 qo,.bool qd,.string qs] 48))
 have HR3:=Lib.hid ((HR1.out.below hb HR1.out.lt).alloc (.cells #[.int .i64 qo,.bool qd,.string qs] 48))
 have HP3:=Lib.hid ((HP1.out.below hb HP1.out.lt).alloc (.cells #[.int .i64 qo,.bool qd,.string qs] 48))
 have HQ3:=Lib.hid (Blk.new w3 48 #[.int .i64 qo,.bool qd,.string qs])
 have hs3:=Nat.le_trans HB1.out.size hb.size
 have hr3:=HR1.out.below hb HR1.out.lt
 have hp3:=HP1.out.below hb HP1.out.lt
 clear xq0 xq1 xq2 xq3 xq4 xq5 xql hb HX1 HR1 HB1 HA2 HP1
 have rl:=hr3.lt
 have pl:=hp3.lt
 have n1:w1.heap.size ≠ w.heap.size + 1:=by omega
 have n2:w3.heap.size ≠ w.heap.size + 1:=by omega
 have n3:w.heap.size + 1 ≠ w1.heap.size:=by omega
 have n4:w.heap.size + 1 ≠ w3.heap.size:=by omega
 clear hr3 hp3
 go_wp2_with fail
 obtain ⟨w4,hw4⟩:∃ W,w3.alloc (.cells #[.int .i64 qo,.bool qd,.string qs] 48) = W:=⟨_,rfl⟩
 rw [hw4] at HB3 HR3 HP3 HQ3 ⊢
 clear hw4
 have r0:=HR3.out.cell 0 (v:=.int .i64 0) rfl
 have r1:=HR3.out.cell 1 (v:=.int .i64 0) rfl
 have r2:=HR3.out.cell 2 (v:=.bool false) rfl
 have r3:=HR3.out.cell 3 (v:=.string ⟨#[]⟩) rfl
 have f0:=HR3.out.frozen 0
 have f1:=HR3.out.frozen 1
 have f2:=HR3.out.frozen 2
 have f3:=HR3.out.frozen 3
 have rl:=HR3.out.lt
 have p0:=HP3.out.cell 0 (v:=.int .i64 po) rfl
 have p1:=HP3.out.cell 1 (v:=.bool pd) rfl
 have p2:=HP3.out.cell 2 (v:=.string ps) rfl
 have pl:=HP3.out.lt
 have q0:=HQ3.out.cell 0 (v:=.int .i64 qo) rfl
 have q1:=HQ3.out.cell 1 (v:=.bool qd) rfl
 have q2:=HQ3.out.cell 2 (v:=.string qs) rfl
 have ql:=HQ3.out.lt
 by_cases h1:e1 = 0
 ·subst h1
  by_cases h2:e2 = 0
  ·subst h2
   cases hq:locE ⟨po,pd,ps⟩ ⟨qo,qd,qs⟩ with
   | true =>
     obtain ⟨g1,g2,g3⟩:=Loc.mk.inj (locE_iff.1 hq)
     have HV:=Lib.hid (show turnF F i = false by rw [HT.out,hq];rfl)
     clear hq HT
     subst g1 g2 g3
     go_region
     go_wp2_with fail
     refine bodyPost_ret (v:=.tuple #[.agg #[.int .i64 i,.int .i64 po,.bool pd,.string ps],.bool false]) ?_ rfl ⟨by rw [HV.out],(below_set4 HB3.out (by omega) _ _ _ _).drew⟩
     have HY:=Lib.hid ((((HR3.out.set 0 (.int .i64 i)).set 1 (.int .i64 po)).set 2 (.bool pd)).set 3 (.string ps))
     have c0:=HY.out.cell 0 (v:=.int .i64 i) rfl
     have c1:=HY.out.cell 1 (v:=.int .i64 po) rfl
     have c2:=HY.out.cell 2 (v:=.bool pd) rfl
     have c3:=HY.out.cell 3 (v:=.string ps) rfl
     simp [results,Tryz.f77,go_sem,c0,c1,c2,c3]
   | false =>
     have HV:=Lib.hid (show turnF F i = true by rw [HT.out,hq];rfl)
     have hq3:=hq
     unfold locE at hq3
     rw [decide_eq_false_iff_not] at hq3
     have hcase:(po == qo) = false∨((po == qo) = true∧(pd == qd) = false)∨((po == qo) = true∧(pd == qd) = true∧(ps.toList == qs.toList) = false):=by
      by_cases h1:po = qo
      ·by_cases h2:pd = qd
       ·exact .inr (.inr ⟨by simpa using h1,by simpa using h2,beq_eq_false_iff_ne.2 fun h3=>hq3 ⟨h1,h2,h3⟩⟩)
       ·exact .inr (.inl ⟨by simpa using h1,by simpa using h2⟩)
      ·exact .inl (by simpa using h1)
     clear hq hq3 HT
     rcases hcase with c1 | ⟨c1,c2⟩ | ⟨c1,c2,c3⟩
     ·go_region
      go_wp2_with fail
      refine bodyPost_ret (v:=.tuple #[.agg #[.int .i64 i,.int .i64 qo,.bool qd,.string qs],.bool true]) ?_ rfl ⟨by rw [HV.out],(below_set4 HB3.out (by omega) _ _ _ _).drew⟩
      have HY:=Lib.hid ((((HR3.out.set 0 (.int .i64 i)).set 1 (.int .i64 qo)).set 2 (.bool qd)).set 3 (.string qs))
      have c0:=HY.out.cell 0 (v:=.int .i64 i) rfl
      have c1:=HY.out.cell 1 (v:=.int .i64 qo) rfl
      have c2:=HY.out.cell 2 (v:=.bool qd) rfl
      have c3:=HY.out.cell 3 (v:=.string qs) rfl
      simp [results,Tryz.f77,go_sem,c0,c1,c2,c3]
     ·go_region
      go_wp2_with fail
      refine bodyPost_ret (v:=.tuple #[.agg #[.int .i64 i,.int .i64 qo,.bool qd,.string qs],.bool true]) ?_ rfl ⟨by rw [HV.out],(below_set4 HB3.out (by omega) _ _ _ _).drew⟩
      have HY:=Lib.hid ((((HR3.out.set 0 (.int .i64 i)).set 1 (.int .i64 qo)).set 2 (.bool qd)).set 3 (.string qs))
      have c0:=HY.out.cell 0 (v:=.int .i64 i) rfl
      have c1:=HY.out.cell 1 (v:=.int .i64 qo) rfl
      have c2:=HY.out.cell 2 (v:=.bool qd) rfl
      have c3:=HY.out.cell 3 (v:=.string qs) rfl
      simp [results,Tryz.f77,go_sem,c0,c1,c2,c3]
     ·go_region
      go_wp2_with fail
      refine bodyPost_ret (v:=.tuple #[.agg #[.int .i64 i,.int .i64 qo,.bool qd,.string qs],.bool true]) ?_ rfl ⟨by rw [HV.out],(below_set4 HB3.out (by omega) _ _ _ _).drew⟩
      have HY:=Lib.hid ((((HR3.out.set 0 (.int .i64 i)).set 1 (.int .i64 qo)).set 2 (.bool qd)).set 3 (.string qs))
      have c0:=HY.out.cell 0 (v:=.int .i64 i) rfl
      have c1:=HY.out.cell 1 (v:=.int .i64 qo) rfl
      have c2:=HY.out.cell 2 (v:=.bool qd) rfl
      have c3:=HY.out.cell 3 (v:=.string qs) rfl
      simp [results,Tryz.f77,go_sem,c0,c1,c2,c3]
  ·have h2:(e2 == 0) = false:=by simpa using h2
   have HV:=Lib.hid (show turnF F i = false by rw [HT.out,decide_eq_false (beq_eq_false_iff_ne.1 h2)];simp)
   clear HT
   go_region
   go_wp2_with fail
   refine bodyPost_ret (v:=.tuple #[.agg #[.int .i64 i,.int .i64 qo,.bool qd,.string qs],.bool false]) ?_ rfl ⟨by rw [HV.out],(below_set4 HB3.out (by omega) _ _ _ _).drew⟩
   have HY:=Lib.hid ((((HR3.out.set 0 (.int .i64 i)).set 1 (.int .i64 qo)).set 2 (.bool qd)).set 3 (.string qs))
   have c0:=HY.out.cell 0 (v:=.int .i64 i) rfl
   have c1:=HY.out.cell 1 (v:=.int .i64 qo) rfl
   have c2:=HY.out.cell 2 (v:=.bool qd) rfl
   have c3:=HY.out.cell 3 (v:=.string qs) rfl
   simp [results,Tryz.f77,go_sem,c0,c1,c2,c3]
 ·have h1:(e1 == 0) = false:=by simpa using h1
  have HV:=Lib.hid (show turnF F i = false by rw [HT.out,decide_eq_false (beq_eq_false_iff_ne.1 h1)];rfl)
  clear HT
  go_region
  go_wp2_with fail
  refine bodyPost_ret (v:=.tuple #[.agg #[.int .i64 i,.int .i64 qo,.bool qd,.string qs],.bool false]) ?_ rfl ⟨by rw [HV.out],(below_set4 HB3.out (by omega) _ _ _ _).drew⟩
  have HY:=Lib.hid ((((HR3.out.set 0 (.int .i64 i)).set 1 (.int .i64 qo)).set 2 (.bool qd)).set 3 (.string qs))
  have c0:=HY.out.cell 0 (v:=.int .i64 i) rfl
  have c1:=HY.out.cell 1 (v:=.int .i64 qo) rfl
  have c2:=HY.out.cell 2 (v:=.bool qd) rfl
  have c3:=HY.out.cell 3 (v:=.string qs) rfl
  simp [results,Tryz.f77,go_sem,c0,c1,c2,c3]
end
section -- GNext
open Go Go.RowKit Go.Shelf
attribute [local go_sem] Oper.semAt_some
def chgO (F:Foot) (o:Option Int):Value:=match o with
 | some a=>.tuple #[chgA ⟨a,tlocF F a⟩,.bool true]
 | none=>.tuple #[.agg #[.int .i64 0,.int .i64 0,.bool false,.string ⟨#[]⟩],.bool false]
def NxI (fb ib ob nb:Nat) (F:Foot) (u:Value) (i m:Int) (pre:List (Int × Fir)) (O:Nat→Prop) (W:World):Prop :=
 (O fb∧O ib∧O ob∧O nb)∧Blk W fb 54 (footC F u)∧Blk W ib 3 #[.int .i64 i]∧(∃ c,ChgB W ob c)∧Blk W nb 4 #[.bool false]∧∀ rest,nextS F m (pre ++ rest) = nextS F m rest
def NxX (ob nb:Nat) (F:Foot) (m:Int) (c:Code) (pre:List (Int × Fir)) (O:Nat→Prop) (W:World):Prop :=
 c = .exit 0∧(O ob∧O nb)∧((∃ a,ChgB W ob ⟨a,tlocF F a⟩∧Blk W nb 4 #[.bool true]∧∀ rest,nextS F m (pre ++ rest) = some a)∨((∃ c,ChgB W ob c)∧Blk W nb 4 #[.bool false]∧∀ rest,nextS F m (pre ++ rest) = none))
theorem nxI_feet (fb ib ob nb:Nat) (F:Foot) (u:Value) (i m:Int):Feet (NxI fb ib ob nb F u i m):=by
 rintro pre O W W' ⟨⟨o0,o1,o2,o3⟩,h0,h1,⟨c,h2⟩,h3,hr⟩ hf
 exact ⟨⟨o0,o1,o2,o3⟩,h0.fr hf (fun h=>h o0),h1.fr hf (fun h=>h o1),⟨c,Blk.fr h2 hf (fun h=>h o2)⟩,h3.fr hf (fun h=>h o3),hr⟩
theorem nxX_feet (ob nb:Nat) (F:Foot) (m:Int) (c:Code):Feet (NxX ob nb F m c):=by
 rintro pre O W W' ⟨hc,⟨o0,o1⟩,h⟩ hf
 refine ⟨hc,⟨o0,o1⟩,?_⟩
 rcases h with ⟨a,h1,h2,h3⟩ | ⟨⟨x,h1⟩,h2,h3⟩
 ·exact .inl ⟨a,Blk.fr h1 hf (fun h=>h o0),h2.fr hf (fun h=>h o1),h3⟩
 ·exact .inr ⟨⟨x,Blk.fr h1 hf (fun h=>h o0)⟩,h2.fr hf (fun h=>h o1),h3⟩
theorem fnext_any (w:World) (B:Nat) (u:Value) (F:Foot) (i:Int) (hm:Tryz.MaxL w) (hrw:RW w B u F.rules) (hg:FootGood F) (hs:F.since ≤ 9000000000000000000) (hi:-9000000000000000000 ≤ i∧i ≤ 9000000000000000000) :
  Calls Tryz.prog 35 #[footA F u,.int .i64 i] w fun o w'=>o = .returned (chgO F (nextF F i))∧Below w.heap.size w w':=by
 obtain ⟨A,cp,rfl,hlc,hcm⟩:=hrw.ruls.form
 have hb0:=(((Below.refl w.heap.size w).alloc (Nat.le_refl _) (.cells (footC F (.slice A F.rules.length cp)) 54)).alloc (by simp) (.cells #[.int .i64 i] 3)).alloc (by simp;omega) (.cells #[.int .i64 0,.int .i64 0,.bool false,.string ⟨#[]⟩] 76)
 have hx0:=((Blk.new w 54 (footC F (.slice A F.rules.length cp))).alloc (.cells #[.int .i64 i] 3)).alloc (.cells #[.int .i64 0,.int .i64 0,.bool false,.string ⟨#[]⟩] 76)
 have hi0:=(Blk.new (w.alloc (.cells (footC F (.slice A F.rules.length cp)) 54)) 3 #[.int .i64 i]).alloc (.cells #[.int .i64 0,.int .i64 0,.bool false,.string ⟨#[]⟩] 76)
 have hr0:=Blk.new ((w.alloc (.cells (footC F (.slice A F.rules.length cp)) 54)).alloc (.cells #[.int .i64 i] 3)) 76 #[.int .i64 0,.int .i64 0,.bool false,.string ⟨#[]⟩]
 simp only [World.size_alloc] at hi0 hr0
 have HX:=Lib.hid hx0
 have HI:=Lib.hid hi0
 have HR:=Lib.hid hr0
 have HB:=Lib.hid hb0
 have HM:=Lib.hid hm
 have HRW:=Lib.hid hrw
 have HG:=Lib.hid hg
 have HE:=Lib.hid (fun W=>callsIn_wide (n:=7).2 (fendless_any W F A cp))
 have hoff:=hg.off
 have hsc:=hg.since
 unfold footC at hx0 HX HB HR HI
 unfold footA at HE ⊢
 have xq0:=Blk.cell hx0 0 (v:=.int .i64 F.since) rfl
 have xq1:=Blk.cell hx0 1 (v:=.int .i64 F.off) rfl
 have xq2:=Blk.cell hx0 2 (v:=.int .i64 F.save) rfl
 have xq3:=Blk.cell hx0 3 (v:=.string F.letter) rfl
 have xq4:=Blk.cell hx0 4 (v:=.string F.fm) rfl
 have xq5:=Blk.cell hx0 5 (v:=.slice A F.rules.length cp) rfl
 have xql:=Blk.lt hx0
 clear hm hrw hg hb0 hx0 hi0 hr0
 refine (callsIn_wide (n:=8)).1 ?_
 refine callsIn_of_wp_marks Tryz.func35 rfl trivial ?_ rfl
 simp only [Tryz.ntmps35,List.size_toArray,List.length_cons,List.length_nil,Nat.reduceAdd,Nat.reduceSub,Array.replicate_succ,Array.replicate_zero,List.push_toArray,List.append_toArray,List.nil_append,List.cons_append]
 gi_wp2
 refine wpIn_scope ?_
 by_cases hlen:0 < F.rules.length
 ·rw [decide_eq_true hlen] at HE
  gi_wp2
  refine ⟨trivial,(HE.out _).mono ?_⟩
  rintro o w1 ⟨rfl,hb⟩
  have HB1:=Lib.hid (HB.out.trans (hb.mono HB.out.size))
  have HX1:=Lib.hid (HX.out.below hb HX.out.lt)
  have HI1:=Lib.hid (HI.out.below hb HI.out.lt)
  have HR1:=Lib.hid (HR.out.below hb HR.out.lt)
  clear xq0 xq1 xq2 xq3 xq4 xq5 xql
  clear hb HE HX HI HR HB
  have i0:=HI1.out.cell 0 (v:=.int .i64 i) rfl
  have il:=HI1.out.lt
  by_cases him:i < 2199023255552
  ·have d1:decide (2199023255552 ≤ i) = false:=decide_eq_false (by omega)
   gi_wp2
   refine wpIn_label ?_
   obtain ⟨W2,hW2⟩:∃ W,(w1.alloc (.cells #[.int .i64 0,.int .i64 0,.bool false,.string ⟨#[]⟩] 76)).alloc (.cells #[.bool false] 4) = W:=⟨_,rfl⟩
   obtain ⟨c0,c1,hb2,hs2⟩:=blks2 w1 _ _ _ _ W2 hW2
   try simp only [hW2]
   try rw [hW2]
   clear hW2
   have HX2:=Lib.hid (HX1.out.below hb2 HX1.out.lt)
   have HI2:=Lib.hid (HI1.out.below hb2 HI1.out.lt)
   have HR2:=Lib.hid (HR1.out.below hb2 HR1.out.lt)
   have HO2:=Lib.hid (show ChgB W2 w1.heap.size ⟨0,⟨0,false,⟨#[]⟩⟩⟩ from c0)
   have HN2:=Lib.hid c1
   have HB2:=Lib.hid (HB1.out.trans (hb2.mono HB1.out.size))
   have hw1:=HR1.out.lt
   obtain ⟨ob,hob⟩:∃ b,w1.heap.size = b:=⟨_,rfl⟩
   rw [hob] at HO2 HN2 hw1 hs2 ⊢
   have hs2a:ob + 1 < W2.heap.size:=by omega
   clear hb2 c0 c1 i0 il HX1 HI1 HR1 HB1 hob hs2
   have xq0:=Blk.cell HX2.out 0 (v:=.int .i64 F.since) rfl
   have xq1:=Blk.cell HX2.out 1 (v:=.int .i64 F.off) rfl
   have xq2:=Blk.cell HX2.out 2 (v:=.int .i64 F.save) rfl
   have xq3:=Blk.cell HX2.out 3 (v:=.string F.letter) rfl
   have xq4:=Blk.cell HX2.out 4 (v:=.string F.fm) rfl
   have xq5:=Blk.cell HX2.out 5 (v:=.slice A F.rules.length cp) rfl
   have xql:=Blk.lt HX2.out
   have i0:=HI2.out.cell 0 (v:=.int .i64 i) rfl
   have il:=HI2.out.lt
   obtain ⟨m,hmm⟩:∃ m,max i F.since = m:=⟨_,rfl⟩
   have hm1:-2199023255552 ≤ m∧m ≤ 9000000000000000000:=by omega
   have HFI:=Lib.hid (callsIn_wide (n:=7).2 (fired_any W2 (.slice A F.rules.length cp) A F.rules.length cp rfl F.off m 2199023255552))
   gi_wp2
   refine ⟨trivial,HFI.out.mono ?_⟩
   rintro o W3 ⟨rfl,hb3,g0,g1,g2,g3⟩
   clear xq0 xq1 xq2 xq3 xq4 xq5 xql
   have HX3:=Lib.hid (HX2.out.below hb3 HX2.out.lt)
   have HI3:=Lib.hid (HI2.out.below hb3 HI2.out.lt)
   have HR3:=Lib.hid (HR2.out.below hb3 HR2.out.lt)
   have HO3:=Lib.hid (HO2.out.below hb3 HO2.out.lt)
   have HN3:=Lib.hid (HN2.out.below hb3 HN2.out.lt)
   have HB3:=Lib.hid (HB2.out.trans (hb3.mono HB2.out.size))
   have HC3:=Lib.hid (And.intro g0 (And.intro g1 (And.intro g2 g3)))
   have hs3:=hb3.size
   have l3:=g3.lt
   have hBw:=HRW.out.le
   clear hb3 g0 g1 g2 g3 HX2 HI2 HR2 HO2 HN2 HB2 HFI i0 il
   have HV:=Lib.hid (show nextF F i = nextS F m (firedF F.rules F.off m 2199023255552) by unfold nextF;rw [if_pos ⟨hlen,him⟩,hmm])
   have HMM:=Lib.hid hmm
   clear hmm
   gi_wp2
   refine range_own (α:=Int × Fir) rfl (by omega) (gf:=116) (lb:=#[.pointer (some ⟨W2.heap.size,0,none⟩),.pointer (some ⟨W2.heap.size + 2,0,none⟩),.pointer (some ⟨W2.heap.size + 3,0,none⟩),.pointer (some ⟨W2.heap.size + 1,0,none⟩)]) rfl trivial (enters_of Tryz.func116 (by kernel_rfl) rfl)
    (encs:=encF) (R:=RF F.rules F.off m 2199023255552 w.heap.size W3) (K:=fun k=>KF W2.heap.size (W2.heap.size + 2) (W2.heap.size + 3) (W2.heap.size + 1) B k∨k < w.heap.size)
    (fun V hV=>fired_iter2 7 (by omega) _ _ _ _ B w.heap.size W3 _ F.rules F.off m 2199023255552 V (HC3.out.1.below hV HC3.out.1.lt) (HC3.out.2.2.1.below hV HC3.out.2.2.1.lt) (HC3.out.2.2.2.below hV HC3.out.2.2.2.lt) (HC3.out.2.1.below hV HC3.out.2.1.lt) ((HRW.out.below HB3.out).below hV) HG.out.ok.yr HG.out.ok.sv (by omega) (by omega) (by omega) (by have:=hV.size;have:=HB3.out.size;omega) (fun k hk=>hV.block k (by have:=HB3.out.size;omega)))
    (fun _=>rfl) (NxI w.heap.size (w.heap.size + 1) ob (ob + 1) F (.slice A F.rules.length cp) i m) (NxX ob (ob + 1) F m) (nxI_feet _ _ _ _ _ _ _ _) (nxX_feet _ _ _ _)
    (fun k=>k = w.heap.size∨k = w.heap.size + 1∨k = ob∨k = ob + 1) ⟨⟨.inl rfl,.inr (.inl rfl),.inr (.inr (.inl rfl)),.inr (.inr (.inr rfl))⟩,HX3.out,HI3.out,⟨⟨0,⟨0,false,⟨#[]⟩⟩⟩,HO3.out⟩,HN3.out,fun rest=>rfl⟩ (fun k hk=>by omega) (fun k hk=>by unfold KF at hk;omega) (fun k hk h=>by unfold KF at hk;omega) ?round ?done ?stop
   case round =>
    intro l2 pre y O D V hI hBO hBD hDO hR nOl nDl hlow hltl
    obtain ⟨at_,f⟩:=y
    obtain ⟨hnD,⟨rest,hrest⟩,hsame⟩:=hR
    have hsb:SameB w.heap.size W3 V:=⟨by have:=HB3.out.size;omega,hsame⟩
    have hat:m < at_∧at_ ≤ 2199023255552:=firedF_in (x:=(at_,f)) (by rw [hrest];simp)
    have HREST:=Lib.hid hrest
    have HBO:=Lib.hid hBO
    unfold encF firA
    clear hI hBO hBD hDO hrest hsame
    gi_wp2
    refine ⟨Below.refl _ _,?_⟩
    intro Vb hfb hIb _
    obtain ⟨⟨o0,o1,o2,o3⟩,hx,hi_,⟨cz,hc⟩,hn,hall⟩:=hIb
    have hsb2:=hsb.then_fr hfb (fun k hk e=>by omega)
    have HT:=Lib.hid ((wide1 l2).calls (n:=5) (fturns_any Vb B (.slice A F.rules.length cp) F at_ (hsb2.maxl (HM.out.below HB3.out (Nat.le_refl _)) HM.out (Nat.le_refl _)) (hsb2.rw_ (HRW.out.below HB3.out) hBw) HG.out (by omega)))
    have HALL:=Lib.hid hall
    have HBB:=Lib.hid (HBO.out.fr hfb)
    have HXb:=Lib.hid hx
    have HIb:=Lib.hid hi_
    have HOb:=Lib.hid hc
    have HNb:=Lib.hid hn
    have xq0:=Blk.cell hx 0 (v:=.int .i64 F.since) rfl
    have xq1:=Blk.cell hx 1 (v:=.int .i64 F.off) rfl
    have xq2:=Blk.cell hx 2 (v:=.int .i64 F.save) rfl
    have xq3:=Blk.cell hx 3 (v:=.string F.letter) rfl
    have xq4:=Blk.cell hx 4 (v:=.string F.fm) rfl
    have xq5:=Blk.cell hx 5 (v:=.slice A F.rules.length cp) rfl
    have xql:=Blk.lt hx
    unfold footA chgA at HT
    obtain ⟨⟨yo,yd,ys⟩,hy⟩:∃ y,tlocF F at_ = y:=⟨_,rfl⟩
    rw [hy] at HT
    have HY:=Lib.hid hy
    clear hy hx hi_ hc hn hall hfb hsb hsb2 HBO
    gi_wp2
    refine ⟨trivial,HT.out.mono ?_⟩
    rintro o v4 ⟨rfl,hb4⟩
    clear xq0 xq1 xq2 xq3 xq4 xq5 xql
    have HB4:=Lib.hid hb4
    have ho4:=Blk.below HOb.out hb4 (Blk.lt HOb.out)
    have hn4:=HNb.out.below hb4 HNb.out.lt
    have HO4:=Lib.hid ho4
    have HN4:=Lib.hid hn4
    have k0:=Blk.cell ho4 0 (v:=.int .i64 cz.at_) rfl
    have k1:=Blk.cell ho4 1 (v:=.int .i64 cz.loc.off) rfl
    have k2:=Blk.cell ho4 2 (v:=.bool cz.loc.dst) rfl
    have k3:=Blk.cell ho4 3 (v:=.string cz.loc.abbr) rfl
    have z0:=Blk.frozen ho4 0
    have z1:=Blk.frozen ho4 1
    have z2:=Blk.frozen ho4 2
    have z3:=Blk.frozen ho4 3
    have zn:=hn4.frozen 0
    have kn:=hn4.cell 0 (v:=.bool false) rfl
    have ko:=Blk.lt ho4
    have kl:=hn4.lt
    clear hb4 ho4 hn4 HT
    cases ht:turnF F at_ with
    | true =>
      have HX:=Lib.hid (show ∀ rest,nextS F m ((pre ++ [(at_,f)]) ++ rest) = some at_ from fun rest=>by
       rw [List.append_assoc,HALL.out]
       show nextS F m ((at_,f) :: rest) = _
       unfold nextS
       rw [if_pos ht])
      clear ht
      have HF5:=Lib.hid (((Fr.of_below (T:=fun k=>O k∨D k) HB4.out (Nat.le_refl _)).then (fr_set4 (T:=fun k=>O k∨D k) v4 (.inl o2) (.int .i64 at_) (.int .i64 yo) (.bool yd) (.string ys))).then (Fr.setCell (T:=fun k=>O k∨D k) _ 0 (.bool true) (.inl o3)))
      have HO5:=Lib.hid (((((Blk.set HO4.out 0 (.int .i64 at_)).set 1 (.int .i64 yo)).set 2 (.bool yd)).set 3 (.string ys)).other (show ob ≠ ob + 1 by omega) 0 (.bool true))
      have HN5:=Lib.hid ((((((HN4.out.other (show ob + 1 ≠ ob by omega) 0 (.int .i64 at_)).other (show ob + 1 ≠ ob by omega) 1 (.int .i64 yo)).other (show ob + 1 ≠ ob by omega) 2 (.bool yd)).other (show ob + 1 ≠ ob by omega) 3 (.string ys))).set 0 (.bool true))
      gi_wp2
      exact ⟨O,fun k h=>.inl h,HBB.out.fr HF5.out,HF5.out,rfl,⟨o2,o3⟩,.inl ⟨at_,by rw [HY.out];exact HO5.out,HN5.out,HX.out⟩⟩
    | false =>
      have HF5:=Lib.hid (((Fr.of_below (T:=fun k=>O k∨D k) HB4.out (Nat.le_refl _)).then (fr_set4 (T:=fun k=>O k∨D k) v4 (.inl o2) (.int .i64 at_) (.int .i64 yo) (.bool yd) (.string ys))).then (Fr.setCell (T:=fun k=>O k∨D k) _ 0 (.bool false) (.inl o3)))
      have HO5:=Lib.hid (((((Blk.set HO4.out 0 (.int .i64 at_)).set 1 (.int .i64 yo)).set 2 (.bool yd)).set 3 (.string ys)).other (show ob ≠ ob + 1 by omega) 0 (.bool false))
      have HN5:=Lib.hid ((((((HN4.out.other (show ob + 1 ≠ ob by omega) 0 (.int .i64 at_)).other (show ob + 1 ≠ ob by omega) 1 (.int .i64 yo)).other (show ob + 1 ≠ ob by omega) 2 (.bool yd)).other (show ob + 1 ≠ ob by omega) 3 (.string ys))).set 0 (.bool false))
      have HX4:=Lib.hid (HXb.out.below HB4.out HXb.out.lt)
      have HI4:=Lib.hid (HIb.out.below HB4.out HIb.out.lt)
      have hx4:=HX4.out
      have xq0:=Blk.cell hx4 0 (v:=.int .i64 F.since) rfl
      have xql:=hx4.lt
      have i0:=HI4.out.cell 0 (v:=.int .i64 i) rfl
      have il:=HI4.out.lt
      have hmm:=HMM.out
      have n1:ob ≠ w.heap.size:=by omega
      have n2:ob ≠ w.heap.size + 1:=by omega
      have n3:ob + 1 ≠ w.heap.size:=by omega
      have n4:ob + 1 ≠ w.heap.size + 1:=by omega
      have n5:w.heap.size ≠ ob:=by omega
      have n6:w.heap.size + 1 ≠ ob:=by omega
      have n7:w.heap.size ≠ ob + 1:=by omega
      have n8:w.heap.size + 1 ≠ ob + 1:=by omega
      have HST:=Lib.hid (show ∀ rest,nextS F m ((pre ++ [(at_,f)]) ++ rest) = if m + 12622780800 < at_ then none else nextS F m rest from fun rest=>by
       rw [List.append_assoc,HALL.out]
       show (if turnF F at_ then some at_ else if m + 12622780800 < at_ then none else nextS F m rest) = _
       rw [if_neg (by rw [ht];decide)])
      clear ht hx4
      by_cases hfar:m + 12622780800 < at_
      ·have d2:decide (m + 12622780800 < at_) = true:=decide_eq_true hfar
       gi_wp2
       exact ⟨O,fun k h=>.inl h,HBB.out.fr HF5.out,HF5.out,rfl,⟨o2,o3⟩,.inr ⟨⟨⟨at_,⟨yo,yd,ys⟩⟩,HO5.out⟩,HN5.out,fun rest=>by rw [HST.out,if_pos hfar]⟩⟩
      ·have d2:decide (m + 12622780800 < at_) = false:=decide_eq_false hfar
       have HX5:=Lib.hid (((((HX4.out.other n5 0 (.int .i64 at_)).other n5 1 (.int .i64 yo)).other n5 2 (.bool yd)).other n5 3 (.string ys)).other n7 0 (.bool false))
       have HI5:=Lib.hid (((((HI4.out.other n6 0 (.int .i64 at_)).other n6 1 (.int .i64 yo)).other n6 2 (.bool yd)).other n6 3 (.string ys)).other n8 0 (.bool false))
       gi_wp2
       exact ⟨O,fun k h=>.inl h,HBB.out.fr HF5.out,HF5.out,⟨o0,o1,o2,o3⟩,HX5.out,HI5.out,⟨⟨at_,⟨yo,yd,ys⟩⟩,HO5.out⟩,HN5.out,fun rest=>by rw [HST.out,if_neg (by omega)]⟩
   case done =>
    intro D xs O W hD hS hI hO hBO hOD hfr hK
    obtain ⟨-,-,-,-,hn,hall⟩:=hI
    have HNO:=Lib.hid (show nextF F i = none by
     have h:=hall []
     rw [List.append_nil,hS] at h
     rw [HV.out,h]
     rfl)
    have HB4:=Lib.hid (HB3.out.trans (hfr.below HB3.out.size (fun k hk h=>by rcases h with (h | h | h | h) | h <;> omega)))
    have HR4:=Lib.hid (HR3.out.fr hfr (fun h=>by rcases h with (h | h | h | h) | h <;> omega))
    have HN4:=Lib.hid hn
    have HK:=Lib.hid ((fr_set4 (T:=fun k=>k = w.heap.size + 1 + 1) W rfl (.int .i64 0) (.int .i64 0) (.bool false) (.string ⟨#[]⟩)).at_ hK (by omega))
    clear hn hall hfr hK HV
    have kn:=HN4.out.cell 0 (v:=.bool false) rfl
    have kl:=HN4.out.lt
    have r0:=Blk.cell HR4.out 0 (v:=.int .i64 0) rfl
    have r1:=Blk.cell HR4.out 1 (v:=.int .i64 0) rfl
    have r2:=Blk.cell HR4.out 2 (v:=.bool false) rfl
    have r3:=Blk.cell HR4.out 3 (v:=.string ⟨#[]⟩) rfl
    have f0:=Blk.frozen HR4.out 0
    have f1:=Blk.frozen HR4.out 1
    have f2:=Blk.frozen HR4.out 2
    have f3:=Blk.frozen HR4.out 3
    have rl:=Blk.lt HR4.out
    gi_wp2
    simp only [Exit.noGoto]
    have hy:=((((HR4.out.set 0 (.int .i64 0)).set 1 (.int .i64 0)).set 2 (.bool false)).set 3 (.string ⟨#[]⟩))
    have c0:=(fin_cell HK.out _).trans (hy.cell 0 (v:=.int .i64 0) rfl)
    have c1:=(fin_cell HK.out _).trans (hy.cell 1 (v:=.int .i64 0) rfl)
    have c2:=(fin_cell HK.out _).trans (hy.cell 2 (v:=.bool false) rfl)
    have c3:=(fin_cell HK.out _).trans (hy.cell 3 (v:=.string ⟨#[]⟩) rfl)
    refine ⟨by simp,.inl ⟨_,_,rfl,run_takeDeferred HK.out,?_⟩⟩
    refine ⟨.tuple #[.agg #[.int .i64 0,.int .i64 0,.bool false,.string ⟨#[]⟩],.bool false],?_,⟨by rw [HNO.out];rfl,fin_below (below_set4 HB4.out (by omega) _ _ _ _) (by omega)⟩⟩
    simp [results,Tryz.f35,go_sem,c0,c1,c2,c3]
   case stop =>
    intro D c pre O W hD hS hI hO hBO hOD hfr hK
    obtain ⟨rest,hrest⟩:=hS
    obtain ⟨rfl,-,hcase⟩:=hI
    rcases hcase with ⟨a,hc,hn,hall⟩ | ⟨-,hn,hall⟩
    ·have HNO:=Lib.hid (show nextF F i = some a by rw [HV.out,hrest];exact hall rest)
     have HB4:=Lib.hid (HB3.out.trans (hfr.below HB3.out.size (fun k hk h=>by rcases h with (h | h | h | h) | h <;> omega)))
     have HR4:=Lib.hid (HR3.out.fr hfr (fun h=>by rcases h with (h | h | h | h) | h <;> omega))
     have HN4:=Lib.hid hn
     obtain ⟨⟨yo,yd,ys⟩,hy⟩:∃ y,tlocF F a = y:=⟨_,rfl⟩
     rw [hy] at hc
     have HY:=Lib.hid hy
     have HC4:=Lib.hid hc
     have HK:=Lib.hid ((fr_set4 (T:=fun k=>k = w.heap.size + 1 + 1) W rfl (.int .i64 a) (.int .i64 yo) (.bool yd) (.string ys)).at_ hK (by omega))
     clear hn hc hall hrest hfr hK hy HV
     have kn:=HN4.out.cell 0 (v:=.bool true) rfl
     have kl:=HN4.out.lt
     have k0:=Blk.cell HC4.out 0 (v:=.int .i64 a) rfl
     have k1:=Blk.cell HC4.out 1 (v:=.int .i64 yo) rfl
     have k2:=Blk.cell HC4.out 2 (v:=.bool yd) rfl
     have k3:=Blk.cell HC4.out 3 (v:=.string ys) rfl
     have ko:=HC4.out.lt
     have r0:=Blk.cell HR4.out 0 (v:=.int .i64 0) rfl
     have r1:=Blk.cell HR4.out 1 (v:=.int .i64 0) rfl
     have r2:=Blk.cell HR4.out 2 (v:=.bool false) rfl
     have r3:=Blk.cell HR4.out 3 (v:=.string ⟨#[]⟩) rfl
     have f0:=Blk.frozen HR4.out 0
     have f1:=Blk.frozen HR4.out 1
     have f2:=Blk.frozen HR4.out 2
     have f3:=Blk.frozen HR4.out 3
     have rl:=Blk.lt HR4.out
     gi_wp2
     simp only [Exit.noGoto]
     have hy1:=((((HR4.out.set 0 (.int .i64 a)).set 1 (.int .i64 yo)).set 2 (.bool yd)).set 3 (.string ys))
     have c0:=(fin_cell HK.out _).trans (hy1.cell 0 (v:=.int .i64 a) rfl)
     have c1:=(fin_cell HK.out _).trans (hy1.cell 1 (v:=.int .i64 yo) rfl)
     have c2:=(fin_cell HK.out _).trans (hy1.cell 2 (v:=.bool yd) rfl)
     have c3:=(fin_cell HK.out _).trans (hy1.cell 3 (v:=.string ys) rfl)
     refine ⟨by simp,.inl ⟨_,_,rfl,run_takeDeferred HK.out,?_⟩⟩
     refine ⟨.tuple #[.agg #[.int .i64 a,.int .i64 yo,.bool yd,.string ys],.bool true],?_,⟨by rw [HNO.out];unfold chgO;simp only;rw [HY.out];rfl,fin_below (below_set4 HB4.out (by omega) _ _ _ _) (by omega)⟩⟩
     simp [results,Tryz.f35,go_sem,c0,c1,c2,c3]
    ·have HNO:=Lib.hid (show nextF F i = none by rw [HV.out,hrest];exact hall rest)
     have HB4:=Lib.hid (HB3.out.trans (hfr.below HB3.out.size (fun k hk h=>by rcases h with (h | h | h | h) | h <;> omega)))
     have HR4:=Lib.hid (HR3.out.fr hfr (fun h=>by rcases h with (h | h | h | h) | h <;> omega))
     have HN4:=Lib.hid hn
     have HK:=Lib.hid ((fr_set4 (T:=fun k=>k = w.heap.size + 1 + 1) W rfl (.int .i64 0) (.int .i64 0) (.bool false) (.string ⟨#[]⟩)).at_ hK (by omega))
     clear hn hall hfr hK HV
     have kn:=HN4.out.cell 0 (v:=.bool false) rfl
     have kl:=HN4.out.lt
     have r0:=Blk.cell HR4.out 0 (v:=.int .i64 0) rfl
     have r1:=Blk.cell HR4.out 1 (v:=.int .i64 0) rfl
     have r2:=Blk.cell HR4.out 2 (v:=.bool false) rfl
     have r3:=Blk.cell HR4.out 3 (v:=.string ⟨#[]⟩) rfl
     have f0:=Blk.frozen HR4.out 0
     have f1:=Blk.frozen HR4.out 1
     have f2:=Blk.frozen HR4.out 2
     have f3:=Blk.frozen HR4.out 3
     have rl:=Blk.lt HR4.out
     gi_wp2
     simp only [Exit.noGoto]
     have hy:=((((HR4.out.set 0 (.int .i64 0)).set 1 (.int .i64 0)).set 2 (.bool false)).set 3 (.string ⟨#[]⟩))
     have c0:=(fin_cell HK.out _).trans (hy.cell 0 (v:=.int .i64 0) rfl)
     have c1:=(fin_cell HK.out _).trans (hy.cell 1 (v:=.int .i64 0) rfl)
     have c2:=(fin_cell HK.out _).trans (hy.cell 2 (v:=.bool false) rfl)
     have c3:=(fin_cell HK.out _).trans (hy.cell 3 (v:=.string ⟨#[]⟩) rfl)
     refine ⟨by simp,.inl ⟨_,_,rfl,run_takeDeferred HK.out,?_⟩⟩
     refine ⟨.tuple #[.agg #[.int .i64 0,.int .i64 0,.bool false,.string ⟨#[]⟩],.bool false],?_,⟨by rw [HNO.out];rfl,fin_below (below_set4 HB4.out (by omega) _ _ _ _) (by omega)⟩⟩
     simp [results,Tryz.f35,go_sem,c0,c1,c2,c3]
  ·have d1:decide (2199023255552 ≤ i) = true:=decide_eq_true (by omega)
   have HNO:=Lib.hid (show nextF F i = none by unfold nextF;rw [if_neg (fun e=>him e.2)])
   have r0:=Blk.cell HR1.out 0 (v:=.int .i64 0) rfl
   have r1:=Blk.cell HR1.out 1 (v:=.int .i64 0) rfl
   have r2:=Blk.cell HR1.out 2 (v:=.bool false) rfl
   have r3:=Blk.cell HR1.out 3 (v:=.string ⟨#[]⟩) rfl
   have f0:=Blk.frozen HR1.out 0
   have f1:=Blk.frozen HR1.out 1
   have f2:=Blk.frozen HR1.out 2
   have f3:=Blk.frozen HR1.out 3
   have rl:=Blk.lt HR1.out
   gi_wp2
   simp only [Exit.noGoto]
   have HY:=Lib.hid (((((HR1.out).set 0 (.int .i64 0)).set 1 (.int .i64 0)).set 2 (.bool false)).set 3 (.string ⟨#[]⟩))
   have c0:=HY.out.cell 0 (v:=.int .i64 0) rfl
   have c1:=HY.out.cell 1 (v:=.int .i64 0) rfl
   have c2:=HY.out.cell 2 (v:=.bool false) rfl
   have c3:=HY.out.cell 3 (v:=.string ⟨#[]⟩) rfl
   refine ⟨.tuple #[.agg #[.int .i64 0,.int .i64 0,.bool false,.string ⟨#[]⟩],.bool false],?_,⟨by rw [HNO.out];rfl,below_set4 HB1.out (by omega) _ _ _ _⟩⟩
   simp [results,Tryz.f35,go_sem,c0,c1,c2,c3]
 ·rw [decide_eq_false hlen] at HE
  have HNO:=Lib.hid (next_nil hlen i)
  gi_wp2
  refine ⟨trivial,(HE.out _).mono ?_⟩
  rintro o w1 ⟨rfl,hb⟩
  have HB1:=Lib.hid (HB.out.trans (hb.mono HB.out.size))
  have HR1:=Lib.hid (HR.out.below hb HR.out.lt)
  clear xq0 xq1 xq2 xq3 xq4 xq5 xql
  clear hb HE HX HI HR HB
  have r0:=Blk.cell HR1.out 0 (v:=.int .i64 0) rfl
  have r1:=Blk.cell HR1.out 1 (v:=.int .i64 0) rfl
  have r2:=Blk.cell HR1.out 2 (v:=.bool false) rfl
  have r3:=Blk.cell HR1.out 3 (v:=.string ⟨#[]⟩) rfl
  have f0:=Blk.frozen HR1.out 0
  have f1:=Blk.frozen HR1.out 1
  have f2:=Blk.frozen HR1.out 2
  have f3:=Blk.frozen HR1.out 3
  have rl:=Blk.lt HR1.out
  gi_wp2
  simp only [Exit.noGoto]
  have HY:=Lib.hid (((((HR1.out).set 0 (.int .i64 0)).set 1 (.int .i64 0)).set 2 (.bool false)).set 3 (.string ⟨#[]⟩))
  have c0:=HY.out.cell 0 (v:=.int .i64 0) rfl
  have c1:=HY.out.cell 1 (v:=.int .i64 0) rfl
  have c2:=HY.out.cell 2 (v:=.bool false) rfl
  have c3:=HY.out.cell 3 (v:=.string ⟨#[]⟩) rfl
  refine ⟨.tuple #[.agg #[.int .i64 0,.int .i64 0,.bool false,.string ⟨#[]⟩],.bool false],?_,⟨by rw [HNO.out];rfl,below_set4 HB1.out (by omega) _ _ _ _⟩⟩
  simp [results,Tryz.f35,go_sem,c0,c1,c2,c3]
end
end Go.Proofs.YteekjfgjmccdnaaGreatDoor
