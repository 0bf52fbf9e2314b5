/-
  A zone's footer, walked.
-/
import Derived.BigRegion
import Derived.ChangeAlike
import Derived.RegionTactic
import Derived.Test.YteekjfgjmccdnaaGreatDoorZq9
set_option maxHeartbeats 16000000
set_option maxRecDepth 100000
namespace Go.Proofs.YteekjfgjmccdnaaGreatDoor
section -- FOf
open Go Go.RowKit Go.Shelf
def begV (E:List Int):Int:=match E.getLast? with
 | none=>-2199023255552
 | some n=>min (max (-2199023255552) n) 2199023255553
def footOf (x:EraF) (b:Int) (all:List Rul):Foot :=
 if x.ru.size = 0 then ⟨b,x.n.off,x.n.save,⟨#[]⟩,x.fm,[]⟩
 else if 0 < ((all.filter firesB).filter endlB).length then ⟨max b (settledV (all.filter firesB)),x.n.off,0,⟨#[]⟩,x.fm,(all.filter firesB).filter endlB⟩
 else match latestF (all.filter firesB) x.n.off 2199023255552 with
  | none=>⟨b,x.n.off,0,letV all,x.fm,[]⟩
  | some f=>⟨max b (instF f x.n.off (savedF (all.filter firesB) f)),x.n.off,f.save,f.letter,x.fm,[]⟩
def footZero:Foot:=⟨0,0,0,⟨#[]⟩,⟨#[]⟩,[]⟩
def lastE (l:List EraF):EraF:=l.getD (l.length - 1) default
def footZ (S:List SetF) (l:List EraF):Foot:=if errZ S l = 0 then footOf (lastE l) (begV (endL S l)) (ofRul S (lastE l).ru) else footZero
def FootPost (w:World) (S:List SetF) (l:List EraF) (o:Ending) (w':World):Prop :=
 (∃ u,o = .returned (.tuple #[footA (footZ S l) u,.int .i64 (errZ S l)])∧OwnR w' w.heap.size u (footZ S l).rules)∧Below w.heap.size w w'
def frOk (S:List SetF):Prop:=∀ s ∈ S,∀ r ∈ s.l,1900 ≤ r.from_∧r.from_ ≤ 2100
theorem fr_set6 {T:Nat→Prop} (w:World) {b:Nat} (hT:T b) (a0 a1 a2 a3 a4 a5:Value):Fr T w ((((((w.setCell ⟨b,0,none⟩ a0).setCell ⟨b,1,none⟩ a1).setCell ⟨b,2,none⟩ a2).setCell ⟨b,3,none⟩ a3).setCell ⟨b,4,none⟩ a4).setCell ⟨b,5,none⟩ a5) :=
 (((((Fr.setCell w 0 a0 hT).then (Fr.setCell _ 1 a1 hT)).then (Fr.setCell _ 2 a2 hT)).then (Fr.setCell _ 3 a3 hT)).then (Fr.setCell _ 4 a4 hT)).then (Fr.setCell _ 5 a5 hT)
theorem fof_err (zn zn2:ByteArray) (ev ev2 sv:Value) (B:Nat) (l:List EraF) (S:List SetF) (w:World) (hz:ZW w B ev sv l S) (ho:ZOk l S) (he:errZ S l ≠ 0) :
  Calls Tryz.prog 22 #[zoneA zn ev,setsV zn2 ev2 sv] w (FootPost w S l):=by
 obtain ⟨A,cA,rfl,hlc,hcm⟩:=hz.eras.form
 unfold maxLen at hcm
 have hb0:=((Below.refl w.heap.size w).alloc (Nat.le_refl _) (.cells #[.string zn,.slice A l.length cA] 24)).alloc (by simp) (.cells (footC footZero (.slice none 0 0)) 54)
 have HEN:=Lib.hid (zends_gen zn zn2 (.slice A l.length cA) ev2 sv B l S _ (hz.below hb0) ho)
 have hr0:=Blk.new (w.alloc (.cells #[.string zn,.slice A l.length cA] 24)) 54 (footC footZero (.slice none 0 0))
 have hx0:=(Blk.new w 24 #[.string zn,.slice A l.length cA]).alloc (.cells (footC footZero (.slice none 0 0)) 54)
 rw [World.size_alloc] at hr0
 have HR:=Lib.hid hr0
 have HB:=Lib.hid hb0
 have HFZ:=Lib.hid (show footZ S l = footZero by unfold footZ;rw [if_neg he])
 have he1:(errZ S l != 0) = true:=by simpa using he
 have x0:=hx0.cell 0 (v:=.string zn) rfl
 have x1:=hx0.cell 1 (v:=.slice A l.length cA) rfl
 have xl:=hx0.lt
 obtain ⟨E,hE⟩:∃ e,errZ S l = e:=⟨_,rfl⟩
 have HE:=Lib.hid hE
 rw [hE] at he1
 unfold EndsPost at HEN
 rw [hE] at HEN
 unfold footC footZero at HR HB HEN hx0 x0 x1 xl
 unfold zoneA setsV worldA at HEN ⊢
 clear hz ho hb0 hr0 hx0 hE he
 go_enter Tryz.func22,Tryz.ntmps22
 go_wp2_with fail
 refine HEN.out.mono ?_
 rintro o w1 ⟨⟨v,rfl,-,-⟩,hb⟩
 have HR1:=Lib.hid (HR.out.below hb HR.out.lt)
 have HB1:=Lib.hid (HB.out.trans (hb.mono HB.out.size))
 have r0:=HR1.out.cell 0 (v:=.int .i64 0) rfl
 have r1:=HR1.out.cell 1 (v:=.int .i64 0) rfl
 have r2:=HR1.out.cell 2 (v:=.int .i64 0) rfl
 have r3:=HR1.out.cell 3 (v:=.string ⟨#[]⟩) rfl
 have r4:=HR1.out.cell 4 (v:=.string ⟨#[]⟩) rfl
 have r5:=HR1.out.cell 5 (v:=.slice none 0 0) rfl
 have f0:=HR1.out.frozen 0
 have f1:=HR1.out.frozen 1
 have f2:=HR1.out.frozen 2
 have f3:=HR1.out.frozen 3
 have f4:=HR1.out.frozen 4
 have f5:=HR1.out.frozen 5
 have rl:=HR1.out.lt
 clear hb HEN x0 x1 xl HR HB
 go_wp2_with fail
 have HY:=Lib.hid ((((((HR1.out.set 0 (.int .i64 0)).set 1 (.int .i64 0)).set 2 (.int .i64 0)).set 3 (.string ⟨#[]⟩)).set 4 (.string ⟨#[]⟩)).set 5 (.slice none 0 0))
 have c0:=HY.out.cell 0 (v:=.int .i64 0) rfl
 have c1:=HY.out.cell 1 (v:=.int .i64 0) rfl
 have c2:=HY.out.cell 2 (v:=.int .i64 0) rfl
 have c3:=HY.out.cell 3 (v:=.string ⟨#[]⟩) rfl
 have c4:=HY.out.cell 4 (v:=.string ⟨#[]⟩) rfl
 have c5:=HY.out.cell 5 (v:=.slice none 0 0) rfl
 refine bodyPost_ret (v:=.tuple #[footA footZero (.slice none 0 0),.int .i64 E]) ?_ rfl ⟨⟨.slice none 0 0,by rw [HFZ.out,HE.out],by rw [HFZ.out];exact World.ownsRow_nil _ _ _ _⟩,HB1.out.trans ((fr_set6 (T:=fun k=>k = w.heap.size + 1) w1 rfl _ _ _ _ _ _).below HB1.out.size (fun k hk=>by omega))⟩
 unfold footA footZero
 simp [results,Tryz.f22,go_sem,c0,c1,c2,c3,c4,c5]
theorem foot_end {w:World} {rb:Nat} (W:World) (a0 a1 a2:Int) (a3 a4:ByteArray) (u:Value) {rules:List Rul} (hR:Blk W rb 54 #[.int .i64 0,.int .i64 0,.int .i64 0,.string ⟨#[]⟩,.string ⟨#[]⟩,.slice none 0 0]) (hB:Below w.heap.size w W) (hrb:w.heap.size ≤ rb) (how:OwnR W w.heap.size u rules) (hne:u.ownBlock ≠ some rb) :
  Below w.heap.size w ((((((W.setCell ⟨rb,0,none⟩ (.int .i64 a0)).setCell ⟨rb,1,none⟩ (.int .i64 a1)).setCell ⟨rb,2,none⟩ (.int .i64 a2)).setCell ⟨rb,3,none⟩ (.string a3)).setCell ⟨rb,4,none⟩ (.string a4)).setCell ⟨rb,5,none⟩ u) ∧
  OwnR ((((((W.setCell ⟨rb,0,none⟩ (.int .i64 a0)).setCell ⟨rb,1,none⟩ (.int .i64 a1)).setCell ⟨rb,2,none⟩ (.int .i64 a2)).setCell ⟨rb,3,none⟩ (.string a3)).setCell ⟨rb,4,none⟩ (.string a4)).setCell ⟨rb,5,none⟩ u) w.heap.size u rules ∧
  Blk ((((((W.setCell ⟨rb,0,none⟩ (.int .i64 a0)).setCell ⟨rb,1,none⟩ (.int .i64 a1)).setCell ⟨rb,2,none⟩ (.int .i64 a2)).setCell ⟨rb,3,none⟩ (.string a3)).setCell ⟨rb,4,none⟩ (.string a4)).setCell ⟨rb,5,none⟩ u) rb 54 #[.int .i64 a0,.int .i64 a1,.int .i64 a2,.string a3,.string a4,u] :=
 ⟨hB.trans ((fr_set6 (T:=fun k=>k = rb) W rfl _ _ _ _ _ _).below hB.size (fun k hk=>by omega)),(fr_set6 (T:=fun k=>k = rb) W rfl _ _ _ _ _ _).own how (fun g hg e=>hne (by rw [hg,e])),(((((hR.set 0 _).set 1 _).set 2 _).set 3 _).set 4 _).set 5 _⟩
theorem wpList_stop {P:Program} {ops:Array Oper} {l:List Oper} {a:Act} {w:World} {Q:Act→World→Prop} {X:Exit→Act→World→Prop} (f:Act) (v:World) (h:∀ Q':Act→World→Prop,Q' f v→wpList P ops (Exit.then Q' X) l a w) (hR:Q f v):wpList P ops (Exit.then Q X) l a w:=h Q hR
theorem own_low {W:World} {e:TypeId} {base sz n:Nat} {u:Value} {xs:List Value} (ho:W.ownsRow base e sz u n xs):∀ g,u.ownBlock = some g→base ≤ g∧g < W.heap.size:=fun k h=>by
 rcases ho.2 with ⟨rfl,_⟩ | ⟨g,cap,cur,rfl,hb,hg,-⟩
 ·cases h
 ·have h1:g = k:=by injection h
  subst h1
  exact ⟨hb,(Array.getElem?_eq_some_iff.1 hg).1⟩
theorem own_wide {w:World} {base base':Nat} {e:TypeId} {sz n:Nat} {v:Value} {xs:List Value} (h:w.ownsRow base e sz v n xs) (hb:base' ≤ base):w.ownsRow base' e sz v n xs:=by
 obtain ⟨h1,h2⟩:=h
 refine ⟨h1,h2.imp id ?_⟩
 rintro ⟨g,cap,cur,e1,e2,e3⟩
 exact ⟨g,cap,cur,e1,Nat.le_trans hb e2,e3⟩
theorem ownR_nil (w:World) (base:Nat):OwnR w base (.slice none 0 0) []:=World.ownsRow_nil _ _ _ _
theorem ofRul_ok {l:List EraF} {S:List SetF} (h:ZOk l S) (name:ByteArray):RuOk (ofRul S name):=by
 unfold ofRul
 cases hs:ofS S name with
 | none=>exact ruok_nil
 | some s=>exact h.rul s (List.mem_of_find?_eq_some hs)
theorem ofRul_fr {S:List SetF} (h:frOk S) (name:ByteArray):∀ r ∈ ofRul S name,1900 ≤ r.from_∧r.from_ ≤ 2100:=by
 unfold ofRul
 cases hs:ofS S name with
 | none=>exact fun r hr=>(by cases hr)
 | some s=>exact h s (List.mem_of_find?_eq_some hs)
theorem ruok_filter {l:List Rul} (h:RuOk l) (p:Rul→Bool):RuOk (l.filter p) where
 yr:=fun r hr=>h.yr r (List.mem_filter.1 hr).1
 sv:=fun f hf=>h.sv f (by obtain ⟨r,hr,hx⟩:=hf;exact ⟨r,(List.mem_filter.1 hr).1,hx⟩)
 len:=Nat.le_trans (List.length_filter_le _ _) h.len
 mon:=fun z hz=>h.mon z (List.mem_filter.1 hz).1
theorem take_filter (p:Rul→Bool) {L:List Rul} {k:Nat} (hk:k < L.length):(L.take (k + 1)).filter p = bif p L[k] then (L.take k).filter p ++ [L[k]] else (L.take k).filter p:=by
 rw [List.take_succ_eq_append_getElem hk,List.filter_append,List.filter_cons]
 cases p L[k] <;> simp
theorem begV_last {E:List Int} {n:Nat} (h:E.length = n + 1) (hn:n < E.length):begV E = min (max (-2199023255552) E[n]) 2199023255553:=by
 unfold begV
 rw [List.getLast?_eq_getElem?,h,Nat.add_sub_cancel,List.getElem?_eq_getElem hn]
theorem fof_ok (zn zn2:ByteArray) (ev ev2 sv:Value) (B:Nat) (l:List EraF) (S:List SetF) (w:World) (hz:ZW w B ev sv l S) (ho:ZOk l S) (hfo:frOk S) (he:errZ S l = 0) :
  Calls Tryz.prog 22 #[zoneA zn ev,setsV zn2 ev2 sv] w (FootPost w S l):=by
 obtain ⟨A,cA,rfl,hlc,hcm⟩:=hz.eras.form
 unfold maxLen at hcm
 have hb0:=((Below.refl w.heap.size w).alloc (Nat.le_refl _) (.cells #[.string zn,.slice A l.length cA] 24)).alloc (by simp) (.cells (footC footZero (.slice none 0 0)) 54)
 have HEN:=Lib.hid (zends_gen zn zn2 (.slice A l.length cA) ev2 sv B l S _ (hz.below hb0) ho)
 have hr0:=Blk.new (w.alloc (.cells #[.string zn,.slice A l.length cA] 24)) 54 (footC footZero (.slice none 0 0))
 have hx0:=(Blk.new w 24 #[.string zn,.slice A l.length cA]).alloc (.cells (footC footZero (.slice none 0 0)) 54)
 rw [World.size_alloc] at hr0
 have HR:=Lib.hid hr0
 have HX:=Lib.hid hx0
 have HB:=Lib.hid hb0
 have HZ:=Lib.hid (fun (W:World) (h:Below w.heap.size w W)=>hz.below h)
 have HO:=Lib.hid ho
 have HFO:=Lib.hid hfo
 obtain ⟨hl0,hmis,hat,-⟩:=errZ_zero he
 obtain ⟨nL,hnL⟩:∃ n,l.length = n + 1:=⟨l.length - 1,by omega⟩
 have HFZ:=Lib.hid (show footZ S l = footOf (lastE l) (begV (endL S l)) (ofRul S (lastE l).ru) by unfold footZ;rw [if_pos he])
 have HMIS:=Lib.hid hmis
 have HOFF:=Lib.hid (show -90000 < (lastE l).n.off∧(lastE l).n.off < 90000 from by
  have h:=(errZ_off he (show nL < l.length by omega)).1
  unfold lastE
  rw [hnL,Nat.add_sub_cancel,List.getD_eq_getElem?_getD,List.getElem?_eq_getElem (by omega)]
  exact h)
 have x0:=hx0.cell 0 (v:=.string zn) rfl
 have x1:=hx0.cell 1 (v:=.slice A l.length cA) rfl
 have xl:=hx0.lt
 unfold EndsPost at HEN
 rw [he] at HEN
 have HE0:=Lib.hid he
 unfold footC footZero at HR HB HEN HX hx0 x0 x1 xl
 unfold zoneA setsV worldA at HEN ⊢
 have HNL:=Lib.hid hnL
 clear hz ho hb0 hr0 hx0 he hl0 hmis hat hfo hnL
 go_enter Tryz.func22,Tryz.ntmps22
 go_wp2_with fail
 refine HEN.out.mono ?_
 rintro o w1 ⟨⟨v,rfl,hv,-⟩,hb⟩
 have hv:=hv (by trivial)
 simp only [World.size_alloc] at hv hb
 have HR1:=Lib.hid (HR.out.below (hb.mono (by simp)) HR.out.lt)
 have hx1:=HX.out.below (hb.mono (by simp)) HX.out.lt
 have HB1:=Lib.hid (HB.out.trans (hb.mono (by omega)))
 have HV:=Lib.hid hv
 have x1:=hx1.cell 1 (v:=.slice A l.length cA) rfl
 have xl:=hx1.lt
 clear hb HEN x0 HR HB HX
 obtain ⟨bb,o,c',e,hbb,hc⟩:=(HZ.out w1 HB1.out).eras.cells (by have:=HNL.out;omega)
 cases e
 have hx:=hc nL (by have:=HNL.out;omega)
 obtain ⟨x,hxk⟩:∃ x,lastE l = x:=⟨_,rfl⟩
 have HLX:=Lib.hid (show l[nL]'(by have:=HNL.out;omega) = x by
  rw [← hxk]
  unfold lastE
  rw [List.getD_eq_getElem?_getD]
  have:=HNL.out
  rw [show l.length - 1 = nL by omega,List.getElem?_eq_getElem (by omega)]
  rfl)
 rw [HLX.out] at hx
 rw [hxk] at HFZ HOFF
 obtain ⟨c0,c1,c2,c3,c4,c5,c6,c7,c8,c9,c10,c11⟩:=hx
 have HXK:=Lib.hid hxk
 clear hc hxk hx1
 have hnl:=HNL.out
 have hnl2:wrap64 ((l.length:Int) - 1) = (nL:Int):=by rw [hnl];have:=hcm;exact (show ((nL + 1:Nat):Int) - 1 = (nL:Int) by omega) ▸ IntWalk.wrap64_in _ (by omega)
 have hdl:decide ((l.length:Int) ≤ (nL:Int)) = false:=decide_eq_false (by omega)
 have hdl2:nL < l.length:=by omega
 go_wp2_with fail
 obtain ⟨nE,hnE⟩:∃ n,(endL S l).length = n:=⟨_,rfl⟩
 rw [hnE] at HV
 have HNE:=Lib.hid hnE
 have hF:=Blk.new (w1.alloc (.cells #[.int .i64 x.n.off,.string x.ru,.int .i64 x.n.save,.string x.fm,.bool x.en,.int .i64 x.n.year,.int .i64 x.n.month,.int .i64 x.n.dk,.int .i64 x.n.dw,.int .i64 x.n.dn,.int .i64 x.n.sec,.int .i64 x.n.ak] 42)) 54 #[.int .i64 (-2199023255552),.int .i64 x.n.off,.int .i64 0,.string ⟨#[]⟩,.string x.fm,.slice none 0 0]
 have hEE:=(Blk.new w1 42 #[.int .i64 x.n.off,.string x.ru,.int .i64 x.n.save,.string x.fm,.bool x.en,.int .i64 x.n.year,.int .i64 x.n.month,.int .i64 x.n.dk,.int .i64 x.n.dw,.int .i64 x.n.dn,.int .i64 x.n.sec,.int .i64 x.n.ak]).alloc (.cells #[.int .i64 (-2199023255552),.int .i64 x.n.off,.int .i64 0,.string ⟨#[]⟩,.string x.fm,.slice none 0 0] 54)
 rw [World.size_alloc] at hF
 have hb2:=(HB1.out.alloc HB1.out.size (.cells #[.int .i64 x.n.off,.string x.ru,.int .i64 x.n.save,.string x.fm,.bool x.en,.int .i64 x.n.year,.int .i64 x.n.month,.int .i64 x.n.dk,.int .i64 x.n.dw,.int .i64 x.n.dn,.int .i64 x.n.sec,.int .i64 x.n.ak] 42)).alloc (by have:=HB1.out.size;simp;omega) (.cells #[.int .i64 (-2199023255552),.int .i64 x.n.off,.int .i64 0,.string ⟨#[]⟩,.string x.fm,.slice none 0 0] 54)
 have hr2:=(HR1.out.alloc (.cells #[.int .i64 x.n.off,.string x.ru,.int .i64 x.n.save,.string x.fm,.bool x.en,.int .i64 x.n.year,.int .i64 x.n.month,.int .i64 x.n.dk,.int .i64 x.n.dw,.int .i64 x.n.dn,.int .i64 x.n.sec,.int .i64 x.n.ak] 42)).alloc (.cells #[.int .i64 (-2199023255552),.int .i64 x.n.off,.int .i64 0,.string ⟨#[]⟩,.string x.fm,.slice none 0 0] 54)
 have hv2:=(HV.out.alloc (.cells #[.int .i64 x.n.off,.string x.ru,.int .i64 x.n.save,.string x.fm,.bool x.en,.int .i64 x.n.year,.int .i64 x.n.month,.int .i64 x.n.dk,.int .i64 x.n.dw,.int .i64 x.n.dn,.int .i64 x.n.sec,.int .i64 x.n.ak] 42)).alloc (.cells #[.int .i64 (-2199023255552),.int .i64 x.n.off,.int .i64 0,.string ⟨#[]⟩,.string x.fm,.slice none 0 0] 54)
 have hrl:=HR1.out.lt
 obtain ⟨W2,hW2⟩:∃ W,(w1.alloc (.cells #[.int .i64 x.n.off,.string x.ru,.int .i64 x.n.save,.string x.fm,.bool x.en,.int .i64 x.n.year,.int .i64 x.n.month,.int .i64 x.n.dk,.int .i64 x.n.dw,.int .i64 x.n.dn,.int .i64 x.n.sec,.int .i64 x.n.ak] 42)).alloc (.cells #[.int .i64 (-2199023255552),.int .i64 x.n.off,.int .i64 0,.string ⟨#[]⟩,.string x.fm,.slice none 0 0] 54) = W:=⟨_,rfl⟩
 rw [hW2] at hF hEE hb2 hr2 hv2
 simp only [hW2]
 have HF2:=Lib.hid hF
 have HE2:=Lib.hid hEE
 have HB2:=Lib.hid hb2
 have HR2:=Lib.hid hr2
 have HV2:=Lib.hid hv2
 have HMX:=Lib.hid (show x.ru.size ≠ 0→0 < (ofRul S x.ru).length from fun h=>by
  have:=HMIS.out nL (by have:=HNL.out;omega)
  rw [HLX.out] at this
  unfold missB at this
  rw [decide_eq_true h,Bool.true_and,decide_eq_false_iff_not] at this
  omega)
 clear hnE hF hEE hb2 hr2 hv2 hW2 HB1 HR1 HV
 obtain ⟨Av,cv,rfl⟩:=(Sl.of_own HV2.out).form
 clear c0 c1 c2 c3 c4 c5 c6 c7 c8 c9 c10 c11 x1 xl hrl
 go_simp
 rcases Nat.eq_zero_or_pos nE with hn0 | hn0
 ·subst hn0
  have HBV:=Lib.hid (show begV (endL S l) = -2199023255552 by rw [List.eq_nil_of_length_eq_zero HNE.out];rfl)
  obtain ⟨b,hb_⟩:∃ b,(-2199023255552:Int) = b:=⟨_,rfl⟩
  rw [hb_] at HBV HF2
  clear hb_
  obtain ⟨W3,hW3⟩:∃ W,W2 = W:=⟨_,rfl⟩
  rw [hW3] at HB2 HR2 HE2 HF2 ⊢
  clear hW3 HV2
  have HB3:=HB2
  have HR3:=HR2
  have HE3:=HE2
  have HF3:=HF2
  have hs3:=HB3.out.size
  clear HB2 HR2 HE2 HF2
  have ec0:=HE3.out.cell 0 (v:=.int .i64 x.n.off) rfl
  have ec1:=HE3.out.cell 1 (v:=.string x.ru) rfl
  have ec2:=HE3.out.cell 2 (v:=.int .i64 x.n.save) rfl
  have ec3:=HE3.out.cell 3 (v:=.string x.fm) rfl
  have el:=HE3.out.lt
  have fc0:=HF3.out.cell 0 (v:=.int .i64 b) rfl
  have fc1:=HF3.out.cell 1 (v:=.int .i64 x.n.off) rfl
  have fc2:=HF3.out.cell 2 (v:=.int .i64 0) rfl
  have fc3:=HF3.out.cell 3 (v:=.string ⟨#[]⟩) rfl
  have fc4:=HF3.out.cell 4 (v:=.string x.fm) rfl
  have fc5:=HF3.out.cell 5 (v:=.slice none 0 0) rfl
  have fz0:=HF3.out.frozen 0
  have fz1:=HF3.out.frozen 1
  have fz2:=HF3.out.frozen 2
  have fz3:=HF3.out.frozen 3
  have fz4:=HF3.out.frozen 4
  have fz5:=HF3.out.frozen 5
  have fl:=HF3.out.lt
  have rz0:=HR3.out.frozen 0
  have rz1:=HR3.out.frozen 1
  have rz2:=HR3.out.frozen 2
  have rz3:=HR3.out.frozen 3
  have rz4:=HR3.out.frozen 4
  have rz5:=HR3.out.frozen 5
  have rc0:=HR3.out.cell 0 (v:=.int .i64 0) rfl
  have rc1:=HR3.out.cell 1 (v:=.int .i64 0) rfl
  have rc2:=HR3.out.cell 2 (v:=.int .i64 0) rfl
  have rc3:=HR3.out.cell 3 (v:=.string ⟨#[]⟩) rfl
  have rc4:=HR3.out.cell 4 (v:=.string ⟨#[]⟩) rfl
  have rc5:=HR3.out.cell 5 (v:=.slice none 0 0) rfl
  have rl:=HR3.out.lt
  by_cases hru:x.ru.size = 0
  ·have hem:(x.ru.toList == []) = true:=by rw [emp_size,decide_eq_true hru]
   have HFF:=Lib.hid (show footZ S l = ⟨b,x.n.off,x.n.save,⟨#[]⟩,x.fm,[]⟩ by rw [HFZ.out,HBV.out];unfold footOf;rw [if_pos hru])
   clear hru
   go_wp2_with fail
   have hf:Fr (fun k=>k = w1.heap.size + 1) W3 (W3.setCell ⟨w1.heap.size + 1,2,none⟩ (.int .i64 x.n.save)):=Fr.setCell W3 2 _ rfl
   have HB4:=Lib.hid (HB3.out.trans ((hf).below HB3.out.size (fun k hk=>by omega)))
   have HR4:=Lib.hid (HR3.out.fr hf (by omega))
   have HE4:=Lib.hid (HE3.out.fr hf (by omega))
   have HF4:=Lib.hid (HF3.out.set 2 (.int .i64 x.n.save))
   have hs4:=HB4.out.size
   have HEND:=Lib.hid (foot_end _ (b) (x.n.off) (x.n.save) (⟨#[]⟩) (x.fm) (.slice none 0 0) HR4.out HB4.out (by omega) (ownR_nil _ _) (fun e=>by cases e))
   have c0:=HEND.out.2.2.cell 0 (v:=.int .i64 b) rfl
   have c1:=HEND.out.2.2.cell 1 (v:=.int .i64 x.n.off) rfl
   have c2:=HEND.out.2.2.cell 2 (v:=.int .i64 x.n.save) rfl
   have c3:=HEND.out.2.2.cell 3 (v:=.string ⟨#[]⟩) rfl
   have c4:=HEND.out.2.2.cell 4 (v:=.string x.fm) rfl
   have c5:=HEND.out.2.2.cell 5 (v:=.slice none 0 0) rfl
   refine bodyPost_ret (v:=.tuple #[.agg #[.int .i64 b,.int .i64 x.n.off,.int .i64 x.n.save,.string ⟨#[]⟩,.string x.fm,.slice none 0 0],.int .i64 0]) ?_ rfl ⟨⟨.slice none 0 0,by rw [HFF.out,HE0.out];rfl,by rw [HFF.out];exact HEND.out.2.1⟩,HEND.out.1⟩
   simp [results,Tryz.f22,go_sem,c0,c1,c2,c3,c4,c5]
  ·have hem:(x.ru.toList == []) = false:=by rw [emp_size,decide_eq_false hru]
   obtain ⟨A3,c3v,e3⟩:=ofVal_form (HZ.out W3 HB3.out).sets x.ru
   have HOF:=Lib.hid (wof_any W3 zn2 ev2 sv B S (HZ.out W3 HB3.out).sets (HZ.out W3 HB3.out).le x.ru)
   have HRU:=Lib.hid (fun (W:World) (h:Below w.heap.size w W)=>(HZ.out W h).sets.of_ruls x.ru)
   rw [e3] at HOF HRU
   unfold worldA at HOF
   have HAL:=Lib.hid (HMX.out hru)
   have HFF:=Lib.hid (show footZ S l = footOf x b (ofRul S x.ru) by rw [HFZ.out,HBV.out])
   have HRK:=Lib.hid (ofRul_ok HO.out x.ru)
   have HFR:=Lib.hid (ofRul_fr HFO.out x.ru)
   unfold footOf at HFF
   rw [if_neg hru] at HFF
   clear e3 hru
   obtain ⟨all,hall⟩:∃ a,ofRul S x.ru = a:=⟨_,rfl⟩
   rw [hall] at HOF HRU HAL HFF HRK HFR
   clear hall
   go_wp2_with fail
   refine HOF.out.mono ?_
   rintro o_ w3 ⟨rfl,hb⟩
   clear ec0 ec1 ec2 ec3 el fl rl fc0 fc1 fc2 fc3 fc4 fc5 fz0 fz1 fz2 fz3 fz4 fz5 rc0 rc1 rc2 rc3 rc4 rc5 rz0 rz1 rz2 rz3 rz4 rz5
   clear HOF
   have HB4:=Lib.hid (HB3.out.trans (hb.mono HB3.out.size))
   have HR4:=Lib.hid (HR3.out.below hb HR3.out.lt)
   have HE4:=Lib.hid (HE3.out.below hb HE3.out.lt)
   have HF4:=Lib.hid (HF3.out.below hb HF3.out.lt)
   have hs4:=HB4.out.size
   have hq4:=HF4.out.lt
   clear hb HB3 HR3 HE3 HF3
   have ec0:=HE4.out.cell 0 (v:=.int .i64 x.n.off) rfl
   have ec1:=HE4.out.cell 1 (v:=.string x.ru) rfl
   have ec2:=HE4.out.cell 2 (v:=.int .i64 x.n.save) rfl
   have ec3:=HE4.out.cell 3 (v:=.string x.fm) rfl
   have el:=HE4.out.lt
   have fc0:=HF4.out.cell 0 (v:=.int .i64 b) rfl
   have fc1:=HF4.out.cell 1 (v:=.int .i64 x.n.off) rfl
   have fc2:=HF4.out.cell 2 (v:=.int .i64 0) rfl
   have fc3:=HF4.out.cell 3 (v:=.string ⟨#[]⟩) rfl
   have fc4:=HF4.out.cell 4 (v:=.string x.fm) rfl
   have fc5:=HF4.out.cell 5 (v:=.slice none 0 0) rfl
   have fz0:=HF4.out.frozen 0
   have fz1:=HF4.out.frozen 1
   have fz2:=HF4.out.frozen 2
   have fz3:=HF4.out.frozen 3
   have fz4:=HF4.out.frozen 4
   have fz5:=HF4.out.frozen 5
   have fl:=HF4.out.lt
   have rz0:=HR4.out.frozen 0
   have rz1:=HR4.out.frozen 1
   have rz2:=HR4.out.frozen 2
   have rz3:=HR4.out.frozen 3
   have rz4:=HR4.out.frozen 4
   have rz5:=HR4.out.frozen 5
   have rc0:=HR4.out.cell 0 (v:=.int .i64 0) rfl
   have rc1:=HR4.out.cell 1 (v:=.int .i64 0) rfl
   have rc2:=HR4.out.cell 2 (v:=.int .i64 0) rfl
   have rc3:=HR4.out.cell 3 (v:=.string ⟨#[]⟩) rfl
   have rc4:=HR4.out.cell 4 (v:=.string ⟨#[]⟩) rfl
   have rc5:=HR4.out.cell 5 (v:=.slice none 0 0) rfl
   have rl:=HR4.out.lt
   have HCL:=Lib.hid (rclone_any w3 B (.slice A3 all.length c3v) all (HRU.out w3 HB4.out) (HZ.out w3 HB4.out).le (by have:=HRK.out.len;omega))
   have hs34:=HB4.out.size
   go_wp2_with fail
   refine HCL.out.mono ?_
   rintro o_ w4 ⟨u0,rfl,how,hb⟩
   clear ec0 ec1 ec2 ec3 el fl rl fc0 fc1 fc2 fc3 fc4 fc5 fz0 fz1 fz2 fz3 fz4 fz5 rc0 rc1 rc2 rc3 rc4 rc5 rz0 rz1 rz2 rz3 rz4 rz5
   clear HCL
   have hs45:=hb.size
   have HB5:=Lib.hid (HB4.out.trans (hb.mono HB4.out.size))
   have HR5:=Lib.hid (HR4.out.below hb HR4.out.lt)
   have HE5:=Lib.hid (HE4.out.below hb HE4.out.lt)
   have HF5:=Lib.hid (HF4.out.below hb HF4.out.lt)
   have hs5:=HB5.out.size
   have hq5:=HF5.out.lt
   clear hb HB4 HR4 HE4 HF4
   rcases how.cases with ⟨-,h0⟩ | ⟨g,cap,rfl,hrw⟩
   ·exfalso
    have:=HAL.out
    rw [h0] at this
    cases this
   ·have HW5:=Lib.hid hrw
    obtain ⟨hg1,hg2⟩:=hrw.lt
    clear how hrw
    have ec0:=HE5.out.cell 0 (v:=.int .i64 x.n.off) rfl
    have ec1:=HE5.out.cell 1 (v:=.string x.ru) rfl
    have ec2:=HE5.out.cell 2 (v:=.int .i64 x.n.save) rfl
    have ec3:=HE5.out.cell 3 (v:=.string x.fm) rfl
    have el:=HE5.out.lt
    have fc0:=HF5.out.cell 0 (v:=.int .i64 b) rfl
    have fc1:=HF5.out.cell 1 (v:=.int .i64 x.n.off) rfl
    have fc2:=HF5.out.cell 2 (v:=.int .i64 0) rfl
    have fc3:=HF5.out.cell 3 (v:=.string ⟨#[]⟩) rfl
    have fc4:=HF5.out.cell 4 (v:=.string x.fm) rfl
    have fc5:=HF5.out.cell 5 (v:=.slice none 0 0) rfl
    have fz0:=HF5.out.frozen 0
    have fz1:=HF5.out.frozen 1
    have fz2:=HF5.out.frozen 2
    have fz3:=HF5.out.frozen 3
    have fz4:=HF5.out.frozen 4
    have fz5:=HF5.out.frozen 5
    have fl:=HF5.out.lt
    have rz0:=HR5.out.frozen 0
    have rz1:=HR5.out.frozen 1
    have rz2:=HR5.out.frozen 2
    have rz3:=HR5.out.frozen 3
    have rz4:=HR5.out.frozen 4
    have rz5:=HR5.out.frozen 5
    have rc0:=HR5.out.cell 0 (v:=.int .i64 0) rfl
    have rc1:=HR5.out.cell 1 (v:=.int .i64 0) rfl
    have rc2:=HR5.out.cell 2 (v:=.int .i64 0) rfl
    have rc3:=HR5.out.cell 3 (v:=.string ⟨#[]⟩) rfl
    have rc4:=HR5.out.cell 4 (v:=.string ⟨#[]⟩) rfl
    have rc5:=HR5.out.cell 5 (v:=.slice none 0 0) rfl
    have rl:=HR5.out.lt
    have HDL:=Lib.hid (fdelete_any w4 w3.heap.size g cap all.length all HW5.out (by have:=HRK.out.len;omega) (HZ.out w4 HB5.out).ahead (by have:=(HZ.out w4 HB5.out).tab;have:=(HZ.out w (Below.refl _ _)).le;omega))
    go_wp2_with fail
    refine HDL.out.mono ?_
    rintro o_ w5 ⟨rfl,hrl,hfr⟩
    clear ec0 ec1 ec2 ec3 el fl rl fc0 fc1 fc2 fc3 fc4 fc5 fz0 fz1 fz2 fz3 fz4 fz5 rc0 rc1 rc2 rc3 rc4 rc5 rz0 rz1 rz2 rz3 rz4 rz5
    clear HDL HW5
    have HB6:=Lib.hid (HB5.out.trans (hfr.below HB5.out.size (fun k hk=>by omega)))
    have HR6:=Lib.hid (HR5.out.fr hfr (by omega))
    have HE6:=Lib.hid (HE5.out.fr hfr (by omega))
    have HF6:=Lib.hid (HF5.out.fr hfr (by omega))
    have hs6:=hfr.size
    have HLK:=Lib.hid (ruok_filter HRK.out firesB)
    have HLF:=Lib.hid (fun r (hr:r ∈ all.filter firesB)=>HFR.out r (List.mem_filter.1 hr).1)
    clear hfr HB5 HR5 HE5 HF5
    obtain ⟨L,hL⟩:∃ L,all.filter firesB = L:=⟨_,rfl⟩
    rw [hL] at hrl HFF HLK HLF
    try simp only [hL]
    clear hL
    have HW6:=Lib.hid hrl
    have hgl:=hrl.lt.2
    have hroom:=hrl.room
    unfold maxLen at hroom
    clear hrl
    have ec0:=HE6.out.cell 0 (v:=.int .i64 x.n.off) rfl
    have ec1:=HE6.out.cell 1 (v:=.string x.ru) rfl
    have ec2:=HE6.out.cell 2 (v:=.int .i64 x.n.save) rfl
    have ec3:=HE6.out.cell 3 (v:=.string x.fm) rfl
    have el:=HE6.out.lt
    have fc0:=HF6.out.cell 0 (v:=.int .i64 b) rfl
    have fc1:=HF6.out.cell 1 (v:=.int .i64 x.n.off) rfl
    have fc2:=HF6.out.cell 2 (v:=.int .i64 0) rfl
    have fc3:=HF6.out.cell 3 (v:=.string ⟨#[]⟩) rfl
    have fc4:=HF6.out.cell 4 (v:=.string x.fm) rfl
    have fc5:=HF6.out.cell 5 (v:=.slice none 0 0) rfl
    have fz0:=HF6.out.frozen 0
    have fz1:=HF6.out.frozen 1
    have fz2:=HF6.out.frozen 2
    have fz3:=HF6.out.frozen 3
    have fz4:=HF6.out.frozen 4
    have fz5:=HF6.out.frozen 5
    have fl:=HF6.out.lt
    have rz0:=HR6.out.frozen 0
    have rz1:=HR6.out.frozen 1
    have rz2:=HR6.out.frozen 2
    have rz3:=HR6.out.frozen 3
    have rz4:=HR6.out.frozen 4
    have rz5:=HR6.out.frozen 5
    have rc0:=HR6.out.cell 0 (v:=.int .i64 0) rfl
    have rc1:=HR6.out.cell 1 (v:=.int .i64 0) rfl
    have rc2:=HR6.out.cell 2 (v:=.int .i64 0) rfl
    have rc3:=HR6.out.cell 3 (v:=.string ⟨#[]⟩) rfl
    have rc4:=HR6.out.cell 4 (v:=.string ⟨#[]⟩) rfl
    have rc5:=HR6.out.cell 5 (v:=.slice none 0 0) rfl
    have rl:=HR6.out.lt
    go_wp2_with fail
    clear ec0 ec1 ec2 ec3 el fl rl fc0 fc1 fc2 fc3 fc4 fc5 fz0 fz1 fz2 fz3 fz4 fz5 rc0 rc1 rc2 rc3 rc4 rc5 rz0 rz1 rz2 rz3 rz4 rz5
    go_loopw [72] (fun iv wr=>∃ (k:Nat) (u:Value),k ≤ L.length∧iv = .int .i64 k∧Fr (fun j=>j = w1.heap.size + 1) w5 wr∧Blk wr (w1.heap.size + 1) 54 #[.int .i64 b,.int .i64 x.n.off,.int .i64 0,.string ⟨#[]⟩,.string x.fm,u]∧wr.ownsRow w5.heap.size 106 11 u ((L.take k).filter endlB).length (rulsV ((L.take k).filter endlB))) (fun iv _=>L.length - (intOf iv).toNat)
    case atStart=>exact ⟨0,_,Nat.zero_le _,rfl,Fr.refl _ _,HF6.out,World.ownsRow_nil _ _ _ _⟩
    case round =>
     obtain ⟨k,u,hk,rfl,hfr,hF,how⟩:=hrel
     have HFRW:=Lib.hid hfr
     have HOW:=Lib.hid how
     have HB7:=Lib.hid (HB6.out.trans (hfr.below HB6.out.size (fun k hk=>by omega)))
     have HR7:=Lib.hid (HR6.out.fr hfr (by omega))
     have HE7:=Lib.hid (HE6.out.fr hfr (by omega))
     have HF7:=Lib.hid hF
     have hs7:=hfr.size
     have HW7:=Lib.hid (HW6.out.fr hfr (by omega))
     have hRU:=Sl.of_own HW7.out.2
     have HN:=Lib.hid (fun (hk:k < L.length)=>take_filter endlB hk)
     clear hfr hF how
     by_cases hlt:k < L.length
     ·have hd:decide ((k:Int) < (L.length:Int)) = true:=decide_eq_true (by omega)
      obtain ⟨b_,o_,c_,e_,hbb_,hc⟩:=Ruls.cells (w:=wr) (B:=wr.heap.size) (l:=L) hRU (by omega)
      cases e_
      obtain ⟨a0,a1,a2,a3,a4,a5,a6,a7,a8,a9,a10⟩:=hc k hlt
      simp only [Nat.zero_add] at a0 a1 a2 a3 a4 a5 a6 a7 a8 a9 a10
      obtain ⟨r,hr⟩:∃ r,L[k] = r:=⟨_,rfl⟩
      have HN2:=Lib.hid (HN.out hlt)
      rw [hr] at a0 a1 a2 a3 a4 a5 a6 a7 a8 a9 a10 HN2
      have HEL:=Lib.hid (fun W=>endless_any r W)
      unfold rulA at HEL
      clear hc hr hRU
      have fc0:=HF7.out.cell 0 (v:=.int .i64 b) rfl
      have fc1:=HF7.out.cell 1 (v:=.int .i64 x.n.off) rfl
      have fc2:=HF7.out.cell 2 (v:=.int .i64 0) rfl
      have fc3:=HF7.out.cell 3 (v:=.string ⟨#[]⟩) rfl
      have fc4:=HF7.out.cell 4 (v:=.string x.fm) rfl
      have fc5:=HF7.out.cell 5 (v:=u) rfl
      have fz0:=HF7.out.frozen 0
      have fz1:=HF7.out.frozen 1
      have fz2:=HF7.out.frozen 2
      have fz3:=HF7.out.frozen 3
      have fz4:=HF7.out.frozen 4
      have fz5:=HF7.out.frozen 5
      have fl:=HF7.out.lt
      have HX8:=Lib.hid (Blk.new wr 106 #[.string r.name,.int .i64 r.from_,.int .i64 r.to_,.int .i64 r.month,.int .i64 r.dk,.int .i64 r.dw,.int .i64 r.dn,.int .i64 r.sec,.int .i64 r.kind,.int .i64 r.save,.string r.letter])
      cases hen:endlB r with
      | false =>
        rw [hen] at HEL
        clear HX8
        go_wp2_with fail
        refine (HEL.out _).mono ?_
        rintro e_ w6 ⟨rfl,hb⟩
        have hbr:Below wr.heap.size wr w6:=((Below.refl wr.heap.size wr).alloc (Nat.le_refl _) _).trans (hb.mono (by simp))
        have HBR:=Lib.hid hbr
        clear hb hbr a0 a1 a2 a3 a4 a5 a6 a7 a8 a9 a10 fc0 fc1 fc2 fc3 fc4 fc5 fz0 fz1 fz2 fz3 fz4 fz5 fl
        go_wp2_with fail
        go_roundw
        case rel=>exact ⟨k + 1,u,by omega,by go_num,HFRW.out.then (Fr.of_below HBR.out (Nat.le_refl _)),HF7.out.below HBR.out HF7.out.lt,by rw [HN2.out,hen,cond_false];exact ownsRow_below HOW.out HBR.out⟩
        case measure=>simp [intOf];omega
      | true =>
        rw [hen] at HEL
        go_wp2_with fail
        refine (HEL.out _).mono ?_
        rintro e_ w6 ⟨rfl,hb⟩
        have hbr:Below wr.heap.size wr w6:=((Below.refl wr.heap.size wr).alloc (Nat.le_refl _) _).trans (hb.mono (by simp))
        have hx8:=HX8.out.below hb (by simp)
        have HBR:=Lib.hid hbr
        have HX9:=Lib.hid hx8
        have HF8:=Lib.hid (HF7.out.below hbr HF7.out.lt)
        have HOW8:=Lib.hid (ownsRow_below HOW.out hbr)
        have hs8:=hbr.size
        have hlen:((L.take k).filter endlB).length ≤ L.length:=Nat.le_trans (List.length_filter_le _ _) (by rw [List.length_take];omega)
        clear hb hbr hx8 a0 a1 a2 a3 a4 a5 a6 a7 a8 a9 a10 fc0 fc1 fc2 fc3 fc4 fc5 fz0 fz1 fz2 fz3 fz4 fz5 fl
        obtain ⟨q,hq⟩:∃ q,((L.take k).filter endlB).length = q:=⟨_,rfl⟩
        rw [hq] at HOW8 hlen
        have fc0:=HF8.out.cell 0 (v:=.int .i64 b) rfl
        have fc1:=HF8.out.cell 1 (v:=.int .i64 x.n.off) rfl
        have fc2:=HF8.out.cell 2 (v:=.int .i64 0) rfl
        have fc3:=HF8.out.cell 3 (v:=.string ⟨#[]⟩) rfl
        have fc4:=HF8.out.cell 4 (v:=.string x.fm) rfl
        have fc5:=HF8.out.cell 5 (v:=u) rfl
        have fz0:=HF8.out.frozen 0
        have fz1:=HF8.out.frozen 1
        have fz2:=HF8.out.frozen 2
        have fz3:=HF8.out.frozen 3
        have fz4:=HF8.out.frozen 4
        have fz5:=HF8.out.frozen 5
        have fl:=HF8.out.lt
        have xq0:=HX9.out.cell 0 (v:=.string r.name) rfl
        have xq1:=HX9.out.cell 1 (v:=.int .i64 r.from_) rfl
        have xq2:=HX9.out.cell 2 (v:=.int .i64 r.to_) rfl
        have xq3:=HX9.out.cell 3 (v:=.int .i64 r.month) rfl
        have xq4:=HX9.out.cell 4 (v:=.int .i64 r.dk) rfl
        have xq5:=HX9.out.cell 5 (v:=.int .i64 r.dw) rfl
        have xq6:=HX9.out.cell 6 (v:=.int .i64 r.dn) rfl
        have xq7:=HX9.out.cell 7 (v:=.int .i64 r.sec) rfl
        have xq8:=HX9.out.cell 8 (v:=.int .i64 r.kind) rfl
        have xq9:=HX9.out.cell 9 (v:=.int .i64 r.save) rfl
        have xq10:=HX9.out.cell 10 (v:=.string r.letter) rfl
        have xl:=HX9.out.lt
        obtain ⟨i0,hi,hz0,hz1,hz2⟩:=info_parts infoRul
        have hcl:=HLK.out.len
        go_wp2_with (at_builtin;go_loud (refine wpList_append_own _ rfl _ _ 52 rfl w5.heap.size 106 i0 (.agg #[.string ⟨#[]⟩,.int .i64 0,.int .i64 0,.int .i64 0,.int .i64 0,.int .i64 0,.int .i64 0,.int .i64 0,.int .i64 0,.int .i64 0,.string ⟨#[]⟩]) 11 104 Tryz.underlying52 hi hz0 hz1 hz2 rfl (by decide) _ q _ rfl (HOW8.out.alloc _) ⟨w6.heap.size,0,none⟩ 1 1 (rulV r) rfl rfl (fun j y hy=>by rw [Addr.add_lit,Nat.zero_add];exact (cell_new _ _ _ _ j).trans (by simpa [rulV] using hy)) (by simp [rulV,Value.oneCell']) (by unfold maxLen;omega) (by omega) (by simp;omega) ?_);intro v9 w9 hown9 hgrow9 _;go_loud (obtain ⟨A9,c9,rfl⟩:=(Sl.of_own hown9).form;have hf9:=(HF8.out.alloc _).grown hgrow9 (own_ne HF8.out HOW8.out (by decide));have fz5:=hf9.frozen 5;have fc5:=hf9.cell 5 (v:=u) rfl;have fl:=hf9.lt;have HF9:=Lib.hid hf9;have HOW9:=Lib.hid hown9;have HG9:=Lib.hid hgrow9;clear hf9 hown9 hgrow9))
        go_roundw
        case rel=>exact ⟨k + 1,.slice A9 (q + 1) c9,by omega,by go_num,HFRW.out.trans (T':=fun k=>k = w1.heap.size + 1∨w5.heap.size ≤ k) ((Fr.of_below HBR.out (Nat.le_refl _)).then ((Fr.alloc _ _).then ((Fr.grown HG9.out (fun g hg=>.inl (.inr (own_low HOW8.out g hg).1))).then (Fr.setCell _ 5 _ (.inl rfl))))) (fun k h=>h),HF9.out.set 5 _,by
          have ho:=(Fr.setCell (T:=fun k=>k = w1.heap.size + 1) w9 5 (.slice A9 (q + 1) c9) rfl).own HOW9.out (fun g hg e=>own_ne HF9.out HOW9.out (by decide) (by rw [hg,e]))
          rw [HN2.out,hen,cond_true,List.length_append,hq,rulsV_append]
          exact ho⟩
        case measure=>simp [intOf];omega
     ·have hd:decide ((k:Int) < (L.length:Int)) = false:=decide_eq_false (by omega)
      obtain rfl:k = L.length:=by omega
      clear HN
      rw [List.take_length] at HOW
      have hRN:=List.length_filter_le endlB L
      obtain ⟨R,hR⟩:∃ R,L.filter endlB = R:=⟨_,rfl⟩
      rw [hR] at HOW HFF hRN
      clear hR
      obtain ⟨Au,cu,rfl⟩:=(Sl.of_own HOW.out).form
      have HEE:=Lib.hid (fun W=>fendless_any W ⟨b,x.n.off,0,⟨#[]⟩,x.fm,R⟩ Au cu)
      unfold footA at HEE
      simp only at HEE
      have ec0:=HE7.out.cell 0 (v:=.int .i64 x.n.off) rfl
      have ec1:=HE7.out.cell 1 (v:=.string x.ru) rfl
      have ec2:=HE7.out.cell 2 (v:=.int .i64 x.n.save) rfl
      have ec3:=HE7.out.cell 3 (v:=.string x.fm) rfl
      have el:=HE7.out.lt
      have fc0:=HF7.out.cell 0 (v:=.int .i64 b) rfl
      have fc1:=HF7.out.cell 1 (v:=.int .i64 x.n.off) rfl
      have fc2:=HF7.out.cell 2 (v:=.int .i64 0) rfl
      have fc3:=HF7.out.cell 3 (v:=.string ⟨#[]⟩) rfl
      have fc4:=HF7.out.cell 4 (v:=.string x.fm) rfl
      have fc5:=HF7.out.cell 5 (v:=.slice Au R.length cu) rfl
      have fz0:=HF7.out.frozen 0
      have fz1:=HF7.out.frozen 1
      have fz2:=HF7.out.frozen 2
      have fz3:=HF7.out.frozen 3
      have fz4:=HF7.out.frozen 4
      have fz5:=HF7.out.frozen 5
      have fl:=HF7.out.lt
      have rz0:=HR7.out.frozen 0
      have rz1:=HR7.out.frozen 1
      have rz2:=HR7.out.frozen 2
      have rz3:=HR7.out.frozen 3
      have rz4:=HR7.out.frozen 4
      have rz5:=HR7.out.frozen 5
      have rc0:=HR7.out.cell 0 (v:=.int .i64 0) rfl
      have rc1:=HR7.out.cell 1 (v:=.int .i64 0) rfl
      have rc2:=HR7.out.cell 2 (v:=.int .i64 0) rfl
      have rc3:=HR7.out.cell 3 (v:=.string ⟨#[]⟩) rfl
      have rc4:=HR7.out.cell 4 (v:=.string ⟨#[]⟩) rfl
      have rc5:=HR7.out.cell 5 (v:=.slice none 0 0) rfl
      have rl:=HR7.out.lt
      by_cases hr0:0 < R.length
      ·rw [decide_eq_true hr0] at HEE
       rw [if_pos hr0] at HFF
       have hl0:0 < L.length:=by omega
       go_wp2_with fail
       refine (HEE.out _).mono ?_
       rintro o_ w7 ⟨rfl,hb⟩
       clear ec0 ec1 ec2 ec3 el fl rl fc0 fc1 fc2 fc3 fc4 fc5 fz0 fz1 fz2 fz3 fz4 fz5 rc0 rc1 rc2 rc3 rc4 rc5 rz0 rz1 rz2 rz3 rz4 rz5
       clear HEE
       have HW8:=Lib.hid (HW7.out.below hb)
       have HOW8:=Lib.hid (ownsRow_below HOW.out hb)
       have HB8:=Lib.hid (HB7.out.trans (hb.mono HB7.out.size))
       have HR8:=Lib.hid (HR7.out.below hb HR7.out.lt)
       have HE8:=Lib.hid (HE7.out.below hb HE7.out.lt)
       have HF8:=Lib.hid (HF7.out.below hb HF7.out.lt)
       have hs8:=HB8.out.size
       have hq8:=HF8.out.lt
       clear hb HB7 HR7 HE7 HF7
       have HST:=Lib.hid (fun (W:World) (h:Below w7.heap.size w7 W)=>settled_any W W.heap.size (.slice (some ⟨g,0,none⟩) L.length cap) L (Sl.of_own (HW8.out.below h).2) (Nat.le_refl _) hl0 HLF.out (HZ.out W (HB8.out.trans (h.mono HB8.out.size))).ahead)
       obtain ⟨s,hs_⟩:∃ s,settledV L = s:=⟨_,rfl⟩
       rw [hs_] at HST HFF
       clear hs_
       have ec0:=HE8.out.cell 0 (v:=.int .i64 x.n.off) rfl
       have ec1:=HE8.out.cell 1 (v:=.string x.ru) rfl
       have ec2:=HE8.out.cell 2 (v:=.int .i64 x.n.save) rfl
       have ec3:=HE8.out.cell 3 (v:=.string x.fm) rfl
       have el:=HE8.out.lt
       have fc0:=HF8.out.cell 0 (v:=.int .i64 b) rfl
       have fc1:=HF8.out.cell 1 (v:=.int .i64 x.n.off) rfl
       have fc2:=HF8.out.cell 2 (v:=.int .i64 0) rfl
       have fc3:=HF8.out.cell 3 (v:=.string ⟨#[]⟩) rfl
       have fc4:=HF8.out.cell 4 (v:=.string x.fm) rfl
       have fc5:=HF8.out.cell 5 (v:=.slice Au R.length cu) rfl
       have fz0:=HF8.out.frozen 0
       have fz1:=HF8.out.frozen 1
       have fz2:=HF8.out.frozen 2
       have fz3:=HF8.out.frozen 3
       have fz4:=HF8.out.frozen 4
       have fz5:=HF8.out.frozen 5
       have fl:=HF8.out.lt
       have rz0:=HR8.out.frozen 0
       have rz1:=HR8.out.frozen 1
       have rz2:=HR8.out.frozen 2
       have rz3:=HR8.out.frozen 3
       have rz4:=HR8.out.frozen 4
       have rz5:=HR8.out.frozen 5
       have rc0:=HR8.out.cell 0 (v:=.int .i64 0) rfl
       have rc1:=HR8.out.cell 1 (v:=.int .i64 0) rfl
       have rc2:=HR8.out.cell 2 (v:=.int .i64 0) rfl
       have rc3:=HR8.out.cell 3 (v:=.string ⟨#[]⟩) rfl
       have rc4:=HR8.out.cell 4 (v:=.string ⟨#[]⟩) rfl
       have rc5:=HR8.out.cell 5 (v:=.slice none 0 0) rfl
       have rl:=HR8.out.lt
       go_wp2_with fail
       clear ec0 ec1 ec2 ec3 el fl rl fc0 fc1 fc2 fc3 fc4 fc5 fz0 fz1 fz2 fz3 fz4 fz5 rc0 rc1 rc2 rc3 rc4 rc5 rz0 rz1 rz2 rz3 rz4 rz5
       refine wp_invL (fin:=?fnS4) (by kernel_rfl) [87,88,89,90,91,92,999]
        [.is (.pointer (some ⟨w1.heap.size + 1,0,none⟩)),.is (.int .i64 b),.is (.slice (some ⟨g,0,none⟩) L.length cap),.is (.int .i64 s),.is (.int .i64 (max b s)),.is (.pointer (some ⟨w1.heap.size + 1,0,none⟩))] 6 (by simp) (by kernel_rfl) (by kernel_rfl) ?finS4 ?_ ?_
       case finS4 =>
        intro x_
        simp only [frameOf,List.foldl_cons,List.foldl_nil,Act.put,List.setIfInBounds_toArray,List.set_cons_succ,List.set_cons_zero,List.set_nil]
        rfl
       ·as_aux_lemma =>
         simp only [List.take_succ_cons,List.take_zero]
         refine ⟨?_,?_,?_,?_,?_,?_,trivial⟩
         ·intro x_ w1_ R_ hB_ hf hR
          clear hf
          simp only [upd] at hR ⊢
          go_wp2_with fail
          exact hR _ _ rfl (Below.refl _ _)
         ·intro x_ w1_ R_ hB_ hf hR
          have e0:x_ 87 = .pointer (some ⟨w1.heap.size + 1,0,none⟩):=hf 0 (by kernel_rfl)
          have q0:=Blk.cell (Blk.below HF8.out hB_ HF8.out.lt) 0 (v:=.int .i64 b) rfl
          clear hf
          simp only [upd] at hR ⊢
          simp only [e0] at hR ⊢
          go_wp2_with fail
          exact hR _ _ rfl (Below.refl _ _)
         ·intro x_ w1_ R_ hB_ hf hR
          clear hf
          simp only [upd] at hR ⊢
          go_wp2_with fail
          exact hR _ _ rfl (Below.refl _ _)
         ·intro x_ w1_ R_ hB_ hf hR
          have e2:x_ 89 = .slice (some ⟨g,0,none⟩) L.length cap:=hf 2 (by kernel_rfl)
          clear hf
          simp only [upd] at hR ⊢
          simp only [e2] at hR ⊢
          go_wp2_with fail
          refine (HST.out w1_ hB_).mono ?_
          rintro o_ w2_ ⟨rfl,hb⟩
          go_wp2_with fail
          exact hR _ _ rfl hb
         ·intro x_ w1_ R_ hB_ hf hR
          have e1:x_ 88 = .int .i64 b:=hf 1 (by kernel_rfl)
          have e3:x_ 90 = .int .i64 s:=hf 3 (by kernel_rfl)
          clear hf
          simp only [upd] at hR ⊢
          simp only [e1,e3] at hR ⊢
          go_wp2_with fail
          exact hR _ _ rfl (Below.refl _ _)
         ·intro x_ w1_ R_ hB_ hf hR
          clear hf
          simp only [upd] at hR ⊢
          go_wp2_with fail
          exact hR _ _ rfl (Below.refl _ _)
       ·intro x8 w8 hb_ hF_
        have e0:x8 87 = .pointer (some ⟨w1.heap.size + 1,0,none⟩):=hF_ 0 (by omega)
        have e1:x8 88 = .int .i64 b:=hF_ 1 (by omega)
        have e2:x8 89 = .slice (some ⟨g,0,none⟩) L.length cap:=hF_ 2 (by omega)
        have e3:x8 90 = .int .i64 s:=hF_ 3 (by omega)
        have e4:x8 91 = .int .i64 (max b s):=hF_ 4 (by omega)
        have e5:x8 92 = .pointer (some ⟨w1.heap.size + 1,0,none⟩):=hF_ 5 (by omega)
        simp only [List.drop_succ_cons,List.drop_zero]
        simp only [e0,e1,e2,e3,e4,e5]
        clear hF_ e0 e1 e2 e3 e4 e5
        have HF9:=Lib.hid (HF8.out.below hb_ HF8.out.lt)
        have fc0:=HF9.out.cell 0 (v:=.int .i64 b) rfl
        have fz0:=HF9.out.frozen 0
        have fl:=HF9.out.lt
        refine wpList_stop ?gS4 (w8.setCell ⟨w1.heap.size + 1,0,none⟩ (.int .i64 (max b s))) ?aS4 ?bS4
        case aS4 =>
         intro Q_ hQ_
         go_wp2_with fail
         exact hQ_
        try dsimp only
        clear fc0 fz0 fl
        have hf:Fr (fun k=>k = w1.heap.size + 1) w8 (w8.setCell ⟨w1.heap.size + 1,0,none⟩ (.int .i64 (max b s))):=Fr.setCell w8 0 _ rfl
        have hb:=hb_
        have HOW9:=Lib.hid (hf.own (ownsRow_below HOW8.out hb) (fun g hg e=>own_ne HF9.out (ownsRow_below HOW8.out hb) (by decide) (by rw [hg,e])))
        have HBa:=Lib.hid (HB8.out.trans (hb.mono HB8.out.size))
        have HRa:=Lib.hid (HR8.out.below hb HR8.out.lt)
        have HEa:=Lib.hid (HE8.out.below hb HE8.out.lt)
        have hsa:=HBa.out.size
        have HBb:=Lib.hid (HBa.out.trans ((hf).below HBa.out.size (fun k hk=>by omega)))
        have HRb:=Lib.hid (HRa.out.fr hf (by omega))
        have HEb:=Lib.hid (HEa.out.fr hf (by omega))
        have HFb:=Lib.hid (HF9.out.set 0 (.int .i64 (max b s)))
        have hsb:=HBb.out.size
        have ec0:=HEb.out.cell 0 (v:=.int .i64 x.n.off) rfl
        have ec1:=HEb.out.cell 1 (v:=.string x.ru) rfl
        have ec2:=HEb.out.cell 2 (v:=.int .i64 x.n.save) rfl
        have ec3:=HEb.out.cell 3 (v:=.string x.fm) rfl
        have el:=HEb.out.lt
        have fc0:=HFb.out.cell 0 (v:=.int .i64 ((max b s))) rfl
        have fc1:=HFb.out.cell 1 (v:=.int .i64 x.n.off) rfl
        have fc2:=HFb.out.cell 2 (v:=.int .i64 0) rfl
        have fc3:=HFb.out.cell 3 (v:=.string ⟨#[]⟩) rfl
        have fc4:=HFb.out.cell 4 (v:=.string x.fm) rfl
        have fc5:=HFb.out.cell 5 (v:=.slice Au R.length cu) rfl
        have fz0:=HFb.out.frozen 0
        have fz1:=HFb.out.frozen 1
        have fz2:=HFb.out.frozen 2
        have fz3:=HFb.out.frozen 3
        have fz4:=HFb.out.frozen 4
        have fz5:=HFb.out.frozen 5
        have fl:=HFb.out.lt
        have rz0:=HRb.out.frozen 0
        have rz1:=HRb.out.frozen 1
        have rz2:=HRb.out.frozen 2
        have rz3:=HRb.out.frozen 3
        have rz4:=HRb.out.frozen 4
        have rz5:=HRb.out.frozen 5
        have rc0:=HRb.out.cell 0 (v:=.int .i64 0) rfl
        have rc1:=HRb.out.cell 1 (v:=.int .i64 0) rfl
        have rc2:=HRb.out.cell 2 (v:=.int .i64 0) rfl
        have rc3:=HRb.out.cell 3 (v:=.string ⟨#[]⟩) rfl
        have rc4:=HRb.out.cell 4 (v:=.string ⟨#[]⟩) rfl
        have rc5:=HRb.out.cell 5 (v:=.slice none 0 0) rfl
        have rl:=HRb.out.lt
        have hrb:w.heap.size + 1 ≠ w1.heap.size + 1:=by omega
        go_wp2_with fail
        have HEND:=Lib.hid (foot_end _ (((max b s))) (x.n.off) (0) (⟨#[]⟩) (x.fm) (.slice Au R.length cu) HRb.out HBb.out (by omega) (own_wide HOW9.out (by omega)) (own_ne HRb.out HOW9.out (by decide)))
        have c0:=HEND.out.2.2.cell 0 (v:=.int .i64 ((max b s))) rfl
        have c1:=HEND.out.2.2.cell 1 (v:=.int .i64 x.n.off) rfl
        have c2:=HEND.out.2.2.cell 2 (v:=.int .i64 0) rfl
        have c3:=HEND.out.2.2.cell 3 (v:=.string ⟨#[]⟩) rfl
        have c4:=HEND.out.2.2.cell 4 (v:=.string x.fm) rfl
        have c5:=HEND.out.2.2.cell 5 (v:=.slice Au R.length cu) rfl
        refine bodyPost_ret (v:=.tuple #[.agg #[.int .i64 ((max b s)),.int .i64 x.n.off,.int .i64 0,.string ⟨#[]⟩,.string x.fm,.slice Au R.length cu],.int .i64 0]) ?_ rfl ⟨⟨.slice Au R.length cu,by rw [HFF.out,HE0.out];rfl,by rw [HFF.out];exact HEND.out.2.1⟩,HEND.out.1⟩
        simp [results,Tryz.f22,go_sem,c0,c1,c2,c3,c4,c5]
      ·rw [decide_eq_false hr0] at HEE
       rw [if_neg hr0] at HFF
       have hR0:R = []:=List.eq_nil_of_length_eq_zero (by omega)
       subst hR0
       clear hr0
       simp only [List.length_nil] at HEE HOW HF7 ⊢
       try simp only [List.length_nil] at fc5
       go_wp2_with fail
       refine (HEE.out _).mono ?_
       rintro o_ w7 ⟨rfl,hb⟩
       clear ec0 ec1 ec2 ec3 el fl rl fc0 fc1 fc2 fc3 fc4 fc5 fz0 fz1 fz2 fz3 fz4 fz5 rc0 rc1 rc2 rc3 rc4 rc5 rz0 rz1 rz2 rz3 rz4 rz5
       clear HEE
       have HW8:=Lib.hid (HW7.out.below hb)
       have HOW8:=Lib.hid (ownsRow_below HOW.out hb)
       have HB8:=Lib.hid (HB7.out.trans (hb.mono HB7.out.size))
       have HR8:=Lib.hid (HR7.out.below hb HR7.out.lt)
       have HE8:=Lib.hid (HE7.out.below hb HE7.out.lt)
       have HF8:=Lib.hid (HF7.out.below hb HF7.out.lt)
       have hs8:=HB8.out.size
       have hq8:=HF8.out.lt
       clear hb HB7 HR7 HE7 HF7
       have HLQ:=Lib.hid (fun (W:World) (h:Below w.heap.size w W) (hl:Ruls W W.heap.size (.slice (some ⟨g,0,none⟩) L.length cap) L)=>latest_any W (.slice (some ⟨g,0,none⟩) L.length cap) L hl (HZ.out W h).ahead HLK.out.yr HLK.out.sv x.n.off 2199023255552 (by have:=HOFF.out;omega) (by omega) (by omega))
       have HLT:=Lib.hid (HLQ.out w7 HB8.out (Sl.of_own HW8.out.2))
       obtain ⟨qf,hqf⟩:∃ q,latestF L x.n.off 2199023255552 = q:=⟨_,rfl⟩
       have HQM:=Lib.hid (fun f (h:qf = some f)=>latestF_mem (hqf.trans h))
       rw [hqf] at HLT HFF
       clear hqf HLQ
       have ec0:=HE8.out.cell 0 (v:=.int .i64 x.n.off) rfl
       have ec1:=HE8.out.cell 1 (v:=.string x.ru) rfl
       have ec2:=HE8.out.cell 2 (v:=.int .i64 x.n.save) rfl
       have ec3:=HE8.out.cell 3 (v:=.string x.fm) rfl
       have el:=HE8.out.lt
       have fc0:=HF8.out.cell 0 (v:=.int .i64 b) rfl
       have fc1:=HF8.out.cell 1 (v:=.int .i64 x.n.off) rfl
       have fc2:=HF8.out.cell 2 (v:=.int .i64 0) rfl
       have fc3:=HF8.out.cell 3 (v:=.string ⟨#[]⟩) rfl
       have fc4:=HF8.out.cell 4 (v:=.string x.fm) rfl
       have fc5:=HF8.out.cell 5 (v:=.slice Au 0 cu) rfl
       have fz0:=HF8.out.frozen 0
       have fz1:=HF8.out.frozen 1
       have fz2:=HF8.out.frozen 2
       have fz3:=HF8.out.frozen 3
       have fz4:=HF8.out.frozen 4
       have fz5:=HF8.out.frozen 5
       have fl:=HF8.out.lt
       have rz0:=HR8.out.frozen 0
       have rz1:=HR8.out.frozen 1
       have rz2:=HR8.out.frozen 2
       have rz3:=HR8.out.frozen 3
       have rz4:=HR8.out.frozen 4
       have rz5:=HR8.out.frozen 5
       have rc0:=HR8.out.cell 0 (v:=.int .i64 0) rfl
       have rc1:=HR8.out.cell 1 (v:=.int .i64 0) rfl
       have rc2:=HR8.out.cell 2 (v:=.int .i64 0) rfl
       have rc3:=HR8.out.cell 3 (v:=.string ⟨#[]⟩) rfl
       have rc4:=HR8.out.cell 4 (v:=.string ⟨#[]⟩) rfl
       have rc5:=HR8.out.cell 5 (v:=.slice none 0 0) rfl
       have rl:=HR8.out.lt
       cases qf with
       | none =>
         simp only at HFF
         unfold resO firO firA Fir.zero at HLT
         simp only [Option.isSome] at HLT
         go_wp2_with fail
         refine HLT.out.mono ?_
         rintro o_ w8 ⟨rfl,hb⟩
         clear ec0 ec1 ec2 ec3 el fl rl fc0 fc1 fc2 fc3 fc4 fc5 fz0 fz1 fz2 fz3 fz4 fz5 rc0 rc1 rc2 rc3 rc4 rc5 rz0 rz1 rz2 rz3 rz4 rz5
         clear HLT
         have HOW9:=Lib.hid (ownsRow_below HOW8.out hb)
         have HB9:=Lib.hid (HB8.out.trans (hb.mono HB8.out.size))
         have HR9:=Lib.hid (HR8.out.below hb HR8.out.lt)
         have HE9:=Lib.hid (HE8.out.below hb HE8.out.lt)
         have HF9:=Lib.hid (HF8.out.below hb HF8.out.lt)
         have hs9:=HB9.out.size
         have hq9:=HF9.out.lt
         clear hb HB8 HR8 HE8 HF8
         have hbA:=(Below.refl w8.heap.size w8).alloc (Nat.le_refl _) (.cells #[.int .i64 0,.int .i64 0,.int .i64 0,.string ⟨#[]⟩] 112)
         have HLE:=Lib.hid (fun (W:World) (h:Below w8.heap.size w8 W)=>fletter_any W B (.slice A3 all.length c3v) all (HRU.out W (HB9.out.trans (h.mono HB9.out.size))) (HZ.out W (HB9.out.trans (h.mono HB9.out.size))).le HRK.out.len HRK.out.mon)
         have ec0:=HE9.out.cell 0 (v:=.int .i64 x.n.off) rfl
         have ec1:=HE9.out.cell 1 (v:=.string x.ru) rfl
         have ec2:=HE9.out.cell 2 (v:=.int .i64 x.n.save) rfl
         have ec3:=HE9.out.cell 3 (v:=.string x.fm) rfl
         have el:=HE9.out.lt
         have fc0:=HF9.out.cell 0 (v:=.int .i64 b) rfl
         have fc1:=HF9.out.cell 1 (v:=.int .i64 x.n.off) rfl
         have fc2:=HF9.out.cell 2 (v:=.int .i64 0) rfl
         have fc3:=HF9.out.cell 3 (v:=.string ⟨#[]⟩) rfl
         have fc4:=HF9.out.cell 4 (v:=.string x.fm) rfl
         have fc5:=HF9.out.cell 5 (v:=.slice Au 0 cu) rfl
         have fz0:=HF9.out.frozen 0
         have fz1:=HF9.out.frozen 1
         have fz2:=HF9.out.frozen 2
         have fz3:=HF9.out.frozen 3
         have fz4:=HF9.out.frozen 4
         have fz5:=HF9.out.frozen 5
         have fl:=HF9.out.lt
         have rz0:=HR9.out.frozen 0
         have rz1:=HR9.out.frozen 1
         have rz2:=HR9.out.frozen 2
         have rz3:=HR9.out.frozen 3
         have rz4:=HR9.out.frozen 4
         have rz5:=HR9.out.frozen 5
         have rc0:=HR9.out.cell 0 (v:=.int .i64 0) rfl
         have rc1:=HR9.out.cell 1 (v:=.int .i64 0) rfl
         have rc2:=HR9.out.cell 2 (v:=.int .i64 0) rfl
         have rc3:=HR9.out.cell 3 (v:=.string ⟨#[]⟩) rfl
         have rc4:=HR9.out.cell 4 (v:=.string ⟨#[]⟩) rfl
         have rc5:=HR9.out.cell 5 (v:=.slice none 0 0) rfl
         have rl:=HR9.out.lt
         go_wp2_with fail
         refine (HLE.out _ hbA).mono ?_
         rintro o_ w9 ⟨rfl,hb⟩
         clear ec0 ec1 ec2 ec3 el fl rl fc0 fc1 fc2 fc3 fc4 fc5 fz0 fz1 fz2 fz3 fz4 fz5 rc0 rc1 rc2 rc3 rc4 rc5 rz0 rz1 rz2 rz3 rz4 rz5
         have hb:=hbA.trans (hb.mono (by simp))
         have HOWa:=Lib.hid (ownsRow_below HOW9.out hb)
         clear HLE hbA
         have HBa:=Lib.hid (HB9.out.trans (hb.mono HB9.out.size))
         have HRa:=Lib.hid (HR9.out.below hb HR9.out.lt)
         have HEa:=Lib.hid (HE9.out.below hb HE9.out.lt)
         have HFa:=Lib.hid (HF9.out.below hb HF9.out.lt)
         have hsa:=HBa.out.size
         have hqa:=HFa.out.lt
         clear hb HB9 HR9 HE9 HF9
         have ec0:=HEa.out.cell 0 (v:=.int .i64 x.n.off) rfl
         have ec1:=HEa.out.cell 1 (v:=.string x.ru) rfl
         have ec2:=HEa.out.cell 2 (v:=.int .i64 x.n.save) rfl
         have ec3:=HEa.out.cell 3 (v:=.string x.fm) rfl
         have el:=HEa.out.lt
         have fc0:=HFa.out.cell 0 (v:=.int .i64 b) rfl
         have fc1:=HFa.out.cell 1 (v:=.int .i64 x.n.off) rfl
         have fc2:=HFa.out.cell 2 (v:=.int .i64 0) rfl
         have fc3:=HFa.out.cell 3 (v:=.string ⟨#[]⟩) rfl
         have fc4:=HFa.out.cell 4 (v:=.string x.fm) rfl
         have fc5:=HFa.out.cell 5 (v:=.slice Au 0 cu) rfl
         have fz0:=HFa.out.frozen 0
         have fz1:=HFa.out.frozen 1
         have fz2:=HFa.out.frozen 2
         have fz3:=HFa.out.frozen 3
         have fz4:=HFa.out.frozen 4
         have fz5:=HFa.out.frozen 5
         have fl:=HFa.out.lt
         have rz0:=HRa.out.frozen 0
         have rz1:=HRa.out.frozen 1
         have rz2:=HRa.out.frozen 2
         have rz3:=HRa.out.frozen 3
         have rz4:=HRa.out.frozen 4
         have rz5:=HRa.out.frozen 5
         have rc0:=HRa.out.cell 0 (v:=.int .i64 0) rfl
         have rc1:=HRa.out.cell 1 (v:=.int .i64 0) rfl
         have rc2:=HRa.out.cell 2 (v:=.int .i64 0) rfl
         have rc3:=HRa.out.cell 3 (v:=.string ⟨#[]⟩) rfl
         have rc4:=HRa.out.cell 4 (v:=.string ⟨#[]⟩) rfl
         have rc5:=HRa.out.cell 5 (v:=.slice none 0 0) rfl
         have rl:=HRa.out.lt
         go_wp2_with fail
         have hf:Fr (fun k=>k = w1.heap.size + 1) w9 (w9.setCell ⟨w1.heap.size + 1,3,none⟩ (.string (letV all))):=Fr.setCell w9 3 _ rfl
         have HBb:=Lib.hid (HBa.out.trans ((hf).below HBa.out.size (fun k hk=>by omega)))
         have HRb:=Lib.hid (HRa.out.fr hf (by omega))
         have HEb:=Lib.hid (HEa.out.fr hf (by omega))
         have HFb:=Lib.hid (HFa.out.set 3 (.string (letV all)))
         have hsb:=HBb.out.size
         have HOWb:=Lib.hid (hf.own HOWa.out (fun g hg e=>own_ne HFa.out HOWa.out (by decide) (by rw [hg,e])))
         have HEND:=Lib.hid (foot_end _ (b) (x.n.off) (0) ((letV all)) (x.fm) (.slice Au 0 cu) HRb.out HBb.out (by omega) (own_wide HOWb.out (by omega)) (own_ne HRb.out HOWb.out (by decide)))
         have c0:=HEND.out.2.2.cell 0 (v:=.int .i64 b) rfl
         have c1:=HEND.out.2.2.cell 1 (v:=.int .i64 x.n.off) rfl
         have c2:=HEND.out.2.2.cell 2 (v:=.int .i64 0) rfl
         have c3:=HEND.out.2.2.cell 3 (v:=.string (letV all)) rfl
         have c4:=HEND.out.2.2.cell 4 (v:=.string x.fm) rfl
         have c5:=HEND.out.2.2.cell 5 (v:=.slice Au 0 cu) rfl
         refine bodyPost_ret (v:=.tuple #[.agg #[.int .i64 b,.int .i64 x.n.off,.int .i64 0,.string (letV all),.string x.fm,.slice Au 0 cu],.int .i64 0]) ?_ rfl ⟨⟨.slice Au 0 cu,by rw [HFF.out,HE0.out];rfl,by rw [HFF.out];exact HEND.out.2.1⟩,HEND.out.1⟩
         simp [results,Tryz.f22,go_sem,c0,c1,c2,c3,c4,c5]
       | some f =>
         simp only at HFF
         have hff:=HQM.out f rfl
         have hnom:=fires_nom hff
         have hfs:=HLK.out.sv f hff
         unfold resO firO firA at HLT
         simp only [Option.isSome] at HLT
         have HAH:=Lib.hid (fun (W:World) (h:Below w.heap.size w W) (hl:Ruls W W.heap.size (.slice (some ⟨g,0,none⟩) L.length cap) L)=>fahead_any W (.slice (some ⟨g,0,none⟩) L.length cap) L hl (HZ.out W h).ahead HLK.out.yr f.nominal (by omega) (by omega))
         have hsv:=savedF_in HLK.out.sv f
         have HSV:=Lib.hid (show savedF L f = (firO (aheadF L f.nominal)).save by unfold savedF;exact saveO_firO _)
         unfold resO at HAH
         rw [HSV.out] at hsv HFF
         obtain ⟨yo,hyo⟩:∃ o,aheadF L f.nominal = o:=⟨_,rfl⟩
         rw [hyo] at HAH hsv HFF
         obtain ⟨y,hy⟩:∃ y,firO yo = y:=⟨_,rfl⟩
         rw [hy] at HAH hsv HFF
         unfold firA at HAH
         have HIN:=Lib.hid (fun W=>inst_any W f x.n.off y.save (by omega) (by have:=HOFF.out;omega) hsv)
         obtain ⟨ii,hii⟩:∃ i,instF f x.n.off y.save = i:=⟨_,rfl⟩
         rw [hii] at HIN HFF
         unfold firA at HIN
         clear hyo hy hii HSV hff
         go_wp2_with fail
         refine HLT.out.mono ?_
         rintro o_ w8 ⟨rfl,hb⟩
         clear ec0 ec1 ec2 ec3 el fl rl fc0 fc1 fc2 fc3 fc4 fc5 fz0 fz1 fz2 fz3 fz4 fz5 rc0 rc1 rc2 rc3 rc4 rc5 rz0 rz1 rz2 rz3 rz4 rz5
         clear HLT HQM
         have HW9:=Lib.hid (HW8.out.below hb)
         have HOW9:=Lib.hid (ownsRow_below HOW8.out hb)
         have HB9:=Lib.hid (HB8.out.trans (hb.mono HB8.out.size))
         have HR9:=Lib.hid (HR8.out.below hb HR8.out.lt)
         have HE9:=Lib.hid (HE8.out.below hb HE8.out.lt)
         have HF9:=Lib.hid (HF8.out.below hb HF8.out.lt)
         have hs9:=HB9.out.size
         have hq9:=HF9.out.lt
         clear hb HB8 HR8 HE8 HF8
         have hbA:=(Below.refl w8.heap.size w8).alloc (Nat.le_refl _) (.cells #[.int .i64 f.nominal,.int .i64 f.kind,.int .i64 f.save,.string f.letter] 112)
         have HXA:=Lib.hid (Blk.new w8 112 #[.int .i64 f.nominal,.int .i64 f.kind,.int .i64 f.save,.string f.letter])
         have ec0:=HE9.out.cell 0 (v:=.int .i64 x.n.off) rfl
         have ec1:=HE9.out.cell 1 (v:=.string x.ru) rfl
         have ec2:=HE9.out.cell 2 (v:=.int .i64 x.n.save) rfl
         have ec3:=HE9.out.cell 3 (v:=.string x.fm) rfl
         have el:=HE9.out.lt
         have fc0:=HF9.out.cell 0 (v:=.int .i64 b) rfl
         have fc1:=HF9.out.cell 1 (v:=.int .i64 x.n.off) rfl
         have fc2:=HF9.out.cell 2 (v:=.int .i64 0) rfl
         have fc3:=HF9.out.cell 3 (v:=.string ⟨#[]⟩) rfl
         have fc4:=HF9.out.cell 4 (v:=.string x.fm) rfl
         have fc5:=HF9.out.cell 5 (v:=.slice Au 0 cu) rfl
         have fz0:=HF9.out.frozen 0
         have fz1:=HF9.out.frozen 1
         have fz2:=HF9.out.frozen 2
         have fz3:=HF9.out.frozen 3
         have fz4:=HF9.out.frozen 4
         have fz5:=HF9.out.frozen 5
         have fl:=HF9.out.lt
         have rz0:=HR9.out.frozen 0
         have rz1:=HR9.out.frozen 1
         have rz2:=HR9.out.frozen 2
         have rz3:=HR9.out.frozen 3
         have rz4:=HR9.out.frozen 4
         have rz5:=HR9.out.frozen 5
         have rc0:=HR9.out.cell 0 (v:=.int .i64 0) rfl
         have rc1:=HR9.out.cell 1 (v:=.int .i64 0) rfl
         have rc2:=HR9.out.cell 2 (v:=.int .i64 0) rfl
         have rc3:=HR9.out.cell 3 (v:=.string ⟨#[]⟩) rfl
         have rc4:=HR9.out.cell 4 (v:=.string ⟨#[]⟩) rfl
         have rc5:=HR9.out.cell 5 (v:=.slice none 0 0) rfl
         have rl:=HR9.out.lt
         go_wp2_with fail
         refine (HAH.out _ (HB9.out.trans (hbA.mono HB9.out.size)) (Sl.of_own (HW9.out.below hbA).2)).mono ?_
         rintro o_ w9 ⟨rfl,hb⟩
         clear ec0 ec1 ec2 ec3 el fl rl fc0 fc1 fc2 fc3 fc4 fc5 fz0 fz1 fz2 fz3 fz4 fz5 rc0 rc1 rc2 rc3 rc4 rc5 rz0 rz1 rz2 rz3 rz4 rz5
         have HX9:=Lib.hid (HXA.out.below hb (by simp))
         have hb:=hbA.trans (hb.mono (by simp))
         have HOWa:=Lib.hid (ownsRow_below HOW9.out hb)
         have hs89:=hb.size
         clear HAH hbA HXA HW9
         have HBa:=Lib.hid (HB9.out.trans (hb.mono HB9.out.size))
         have HRa:=Lib.hid (HR9.out.below hb HR9.out.lt)
         have HEa:=Lib.hid (HE9.out.below hb HE9.out.lt)
         have HFa:=Lib.hid (HF9.out.below hb HF9.out.lt)
         have hsa:=HBa.out.size
         have hqa:=HFa.out.lt
         clear hb HB9 HR9 HE9 HF9
         have ec0:=HEa.out.cell 0 (v:=.int .i64 x.n.off) rfl
         have ec1:=HEa.out.cell 1 (v:=.string x.ru) rfl
         have ec2:=HEa.out.cell 2 (v:=.int .i64 x.n.save) rfl
         have ec3:=HEa.out.cell 3 (v:=.string x.fm) rfl
         have el:=HEa.out.lt
         have fc0:=HFa.out.cell 0 (v:=.int .i64 b) rfl
         have fc1:=HFa.out.cell 1 (v:=.int .i64 x.n.off) rfl
         have fc2:=HFa.out.cell 2 (v:=.int .i64 0) rfl
         have fc3:=HFa.out.cell 3 (v:=.string ⟨#[]⟩) rfl
         have fc4:=HFa.out.cell 4 (v:=.string x.fm) rfl
         have fc5:=HFa.out.cell 5 (v:=.slice Au 0 cu) rfl
         have fz0:=HFa.out.frozen 0
         have fz1:=HFa.out.frozen 1
         have fz2:=HFa.out.frozen 2
         have fz3:=HFa.out.frozen 3
         have fz4:=HFa.out.frozen 4
         have fz5:=HFa.out.frozen 5
         have fl:=HFa.out.lt
         have rz0:=HRa.out.frozen 0
         have rz1:=HRa.out.frozen 1
         have rz2:=HRa.out.frozen 2
         have rz3:=HRa.out.frozen 3
         have rz4:=HRa.out.frozen 4
         have rz5:=HRa.out.frozen 5
         have rc0:=HRa.out.cell 0 (v:=.int .i64 0) rfl
         have rc1:=HRa.out.cell 1 (v:=.int .i64 0) rfl
         have rc2:=HRa.out.cell 2 (v:=.int .i64 0) rfl
         have rc3:=HRa.out.cell 3 (v:=.string ⟨#[]⟩) rfl
         have rc4:=HRa.out.cell 4 (v:=.string ⟨#[]⟩) rfl
         have rc5:=HRa.out.cell 5 (v:=.slice none 0 0) rfl
         have rl:=HRa.out.lt
         go_wp2_with fail
         clear ec0 ec1 ec2 ec3 el fl rl fc0 fc1 fc2 fc3 fc4 fc5 fz0 fz1 fz2 fz3 fz4 fz5 rc0 rc1 rc2 rc3 rc4 rc5 rz0 rz1 rz2 rz3 rz4 rz5
         have hb:=(Below.refl w9.heap.size w9).alloc (Nat.le_refl _) (.cells #[.int .i64 y.nominal,.int .i64 y.kind,.int .i64 y.save,.string y.letter] 112)
         have HXc:=Lib.hid (HX9.out.below hb HX9.out.lt)
         have HYc:=Lib.hid (Blk.new w9 112 #[.int .i64 y.nominal,.int .i64 y.kind,.int .i64 y.save,.string y.letter])
         have HOWc:=Lib.hid (ownsRow_below HOWa.out hb)
         have HBc:=Lib.hid (HBa.out.trans (hb.mono HBa.out.size))
         have HRc:=Lib.hid (HRa.out.below hb HRa.out.lt)
         have HEc:=Lib.hid (HEa.out.below hb HEa.out.lt)
         have HFc:=Lib.hid (HFa.out.below hb HFa.out.lt)
         have hsc:=HBc.out.size
         have hqc:=HFc.out.lt
         clear hb HBa HRa HEa HFa
         obtain ⟨w10,hw10⟩:∃ W,w9.alloc (.cells #[.int .i64 y.nominal,.int .i64 y.kind,.int .i64 y.save,.string y.letter] 112) = W:=⟨_,rfl⟩
         rw [hw10] at HBc HRc HEc HFc HXc HYc HOWc hsc hqc ⊢
         clear hw10
         have hxl9:=HX9.out.lt
         have xq0:=HXc.out.cell 0 (v:=.int .i64 f.nominal) rfl
         have xq1:=HXc.out.cell 1 (v:=.int .i64 f.kind) rfl
         have xq2:=HXc.out.cell 2 (v:=.int .i64 f.save) rfl
         have xq3:=HXc.out.cell 3 (v:=.string f.letter) rfl
         have ec0:=HEc.out.cell 0 (v:=.int .i64 x.n.off) rfl
         have ec1:=HEc.out.cell 1 (v:=.string x.ru) rfl
         have ec2:=HEc.out.cell 2 (v:=.int .i64 x.n.save) rfl
         have ec3:=HEc.out.cell 3 (v:=.string x.fm) rfl
         have el:=HEc.out.lt
         have fc0:=HFc.out.cell 0 (v:=.int .i64 b) rfl
         have fc1:=HFc.out.cell 1 (v:=.int .i64 x.n.off) rfl
         have fc2:=HFc.out.cell 2 (v:=.int .i64 0) rfl
         have fc3:=HFc.out.cell 3 (v:=.string ⟨#[]⟩) rfl
         have fc4:=HFc.out.cell 4 (v:=.string x.fm) rfl
         have fc5:=HFc.out.cell 5 (v:=.slice Au 0 cu) rfl
         have fz0:=HFc.out.frozen 0
         have fz1:=HFc.out.frozen 1
         have fz2:=HFc.out.frozen 2
         have fz3:=HFc.out.frozen 3
         have fz4:=HFc.out.frozen 4
         have fz5:=HFc.out.frozen 5
         have fl:=HFc.out.lt
         have rz0:=HRc.out.frozen 0
         have rz1:=HRc.out.frozen 1
         have rz2:=HRc.out.frozen 2
         have rz3:=HRc.out.frozen 3
         have rz4:=HRc.out.frozen 4
         have rz5:=HRc.out.frozen 5
         have rc0:=HRc.out.cell 0 (v:=.int .i64 0) rfl
         have rc1:=HRc.out.cell 1 (v:=.int .i64 0) rfl
         have rc2:=HRc.out.cell 2 (v:=.int .i64 0) rfl
         have rc3:=HRc.out.cell 3 (v:=.string ⟨#[]⟩) rfl
         have rc4:=HRc.out.cell 4 (v:=.string ⟨#[]⟩) rfl
         have rc5:=HRc.out.cell 5 (v:=.slice none 0 0) rfl
         have rl:=HRc.out.lt
         go_region
         clear xq0 xq1 xq2 xq3
         clear ec0 ec1 ec2 ec3 el fl rl fc0 fc1 fc2 fc3 fc4 fc5 fz0 fz1 fz2 fz3 fz4 fz5 rc0 rc1 rc2 rc3 rc4 rc5 rz0 rz1 rz2 rz3 rz4 rz5
         have hf:Fr (fun k=>k = w1.heap.size + 1) w10 ((w10.setCell ⟨w1.heap.size + 1,2,none⟩ (.int .i64 f.save)).setCell ⟨w1.heap.size + 1,3,none⟩ (.string f.letter)).drew:=((Fr.setCell (T:=fun k=>k = w1.heap.size + 1) w10 2 _ rfl).then (Fr.setCell _ 3 _ rfl)).then (Fr.drew _)
         have hF:=(((HFc.out.set 2 (.int .i64 f.save)).set 3 (.string f.letter)).below ((Below.refl _ _).drew) (by have:=hqc;simpa using this))
         obtain ⟨w11,hw11⟩:∃ W,((w10.setCell ⟨w1.heap.size + 1,2,none⟩ (.int .i64 f.save)).setCell ⟨w1.heap.size + 1,3,none⟩ (.string f.letter)).drew = W:=⟨_,rfl⟩
         rw [hw11] at hf hF ⊢
         clear hw11
         have HXd:=Lib.hid (HXc.out.fr hf (by omega))
         have HYd:=Lib.hid (HYc.out.fr hf (by omega))
         have HOWd:=Lib.hid (hf.own HOWc.out (fun g hg e=>own_ne HFc.out HOWc.out (by decide) (by rw [hg,e])))
         have HBd:=Lib.hid (HBc.out.trans ((hf).below HBc.out.size (fun k hk=>by omega)))
         have HRd:=Lib.hid (HRc.out.fr hf (by omega))
         have HEd:=Lib.hid (HEc.out.fr hf (by omega))
         have HFd:=Lib.hid (hF)
         have hsd:=HBd.out.size
         clear hf hF HOWc HXc HYc
         go_wp2_with fail
         refine wp_invL (fin:=?fnI5) (by kernel_rfl) [120,121,122,123,124,125,126,127,128,129,999]
          [.is (.pointer (some ⟨w1.heap.size + 1,0,none⟩)),.is (.int .i64 b),.is (.agg #[.int .i64 f.nominal,.int .i64 f.kind,.int .i64 f.save,.string f.letter]),.is (.pointer (some ⟨w1.heap.size,0,none⟩)),.is (.int .i64 x.n.off),.is (.pointer (some ⟨w9.heap.size,2,none⟩)),.is (.int .i64 y.save),.is (.int .i64 ii),.is (.int .i64 (max b ii)),.is (.pointer (some ⟨w1.heap.size + 1,0,none⟩))] 10 (by simp) (by kernel_rfl) (by kernel_rfl) ?finI5 ?_ ?_
         case finI5 =>
          intro x_
          simp only [frameOf,List.foldl_cons,List.foldl_nil,Act.put,List.setIfInBounds_toArray,List.set_cons_succ,List.set_cons_zero,List.set_nil]
          rfl
         ·as_aux_lemma =>
           simp only [List.take_succ_cons,List.take_zero]
           refine ⟨?_,?_,?_,?_,?_,?_,?_,?_,?_,?_,trivial⟩
           ·intro x_ w1_ R_ hB_ hf hR
            clear hf
            simp only [upd] at hR ⊢
            go_wp2_with fail
            exact hR _ _ rfl (Below.refl _ _)
           ·intro x_ w1_ R_ hB_ hf hR
            have e0:x_ 120 = .pointer (some ⟨w1.heap.size + 1,0,none⟩):=hf 0 (by kernel_rfl)
            have q0:=Blk.cell (Blk.below HFd.out hB_ HFd.out.lt) 0 (v:=.int .i64 b) rfl
            clear hf
            simp only [upd] at hR ⊢
            simp only [e0] at hR ⊢
            go_wp2_with fail
            exact hR _ _ rfl (Below.refl _ _)
           ·intro x_ w1_ R_ hB_ hf hR
            have hx_:=Blk.below HXd.out hB_ HXd.out.lt
            have q0:=hx_.cell 0 (v:=.int .i64 f.nominal) rfl
            have q1:=hx_.cell 1 (v:=.int .i64 f.kind) rfl
            have q2:=hx_.cell 2 (v:=.int .i64 f.save) rfl
            have q3:=hx_.cell 3 (v:=.string f.letter) rfl
            clear hf
            simp only [upd] at hR ⊢
            go_wp2_with fail
            exact hR _ _ rfl (Below.refl _ _)
           ·intro x_ w1_ R_ hB_ hf hR
            clear hf
            simp only [upd] at hR ⊢
            go_wp2_with fail
            exact hR _ _ rfl (Below.refl _ _)
           ·intro x_ w1_ R_ hB_ hf hR
            have e3:x_ 123 = .pointer (some ⟨w1.heap.size,0,none⟩):=hf 3 (by kernel_rfl)
            have q0:=Blk.cell (Blk.below HEd.out hB_ HEd.out.lt) 0 (v:=.int .i64 x.n.off) rfl
            clear hf
            simp only [upd] at hR ⊢
            simp only [e3] at hR ⊢
            go_wp2_with fail
            exact hR _ _ rfl (Below.refl _ _)
           ·intro x_ w1_ R_ hB_ hf hR
            clear hf
            simp only [upd] at hR ⊢
            go_wp2_with fail
            exact hR _ _ rfl (Below.refl _ _)
           ·intro x_ w1_ R_ hB_ hf hR
            have e5:x_ 125 = .pointer (some ⟨w9.heap.size,2,none⟩):=hf 5 (by kernel_rfl)
            have q0:=Blk.cell (Blk.below HYd.out hB_ HYd.out.lt) 2 (v:=.int .i64 y.save) rfl
            clear hf
            simp only [upd] at hR ⊢
            simp only [e5] at hR ⊢
            go_wp2_with fail
            exact hR _ _ rfl (Below.refl _ _)
           ·intro x_ w1_ R_ hB_ hf hR
            have e2:x_ 122 = .agg #[.int .i64 f.nominal,.int .i64 f.kind,.int .i64 f.save,.string f.letter]:=hf 2 (by kernel_rfl)
            have e4:x_ 124 = .int .i64 x.n.off:=hf 4 (by kernel_rfl)
            have e6:x_ 126 = .int .i64 y.save:=hf 6 (by kernel_rfl)
            clear hf
            simp only [upd] at hR ⊢
            simp only [e2,e4,e6] at hR ⊢
            go_wp2_with fail
            refine (HIN.out w1_).mono ?_
            rintro o_ w2_ ⟨rfl,hb⟩
            go_wp2_with fail
            exact hR _ _ rfl hb
           ·intro x_ w1_ R_ hB_ hf hR
            have e1:x_ 121 = .int .i64 b:=hf 1 (by kernel_rfl)
            have e7:x_ 127 = .int .i64 ii:=hf 7 (by kernel_rfl)
            clear hf
            simp only [upd] at hR ⊢
            simp only [e1,e7] at hR ⊢
            go_wp2_with fail
            exact hR _ _ rfl (Below.refl _ _)
           ·intro x_ w1_ R_ hB_ hf hR
            clear hf
            simp only [upd] at hR ⊢
            go_wp2_with fail
            exact hR _ _ rfl (Below.refl _ _)
         ·intro x12 w12 hb_ hF_
          have e0:x12 120 = .pointer (some ⟨w1.heap.size + 1,0,none⟩):=hF_ 0 (by omega)
          have e1:x12 121 = .int .i64 b:=hF_ 1 (by omega)
          have e2:x12 122 = .agg #[.int .i64 f.nominal,.int .i64 f.kind,.int .i64 f.save,.string f.letter]:=hF_ 2 (by omega)
          have e3:x12 123 = .pointer (some ⟨w1.heap.size,0,none⟩):=hF_ 3 (by omega)
          have e4:x12 124 = .int .i64 x.n.off:=hF_ 4 (by omega)
          have e5:x12 125 = .pointer (some ⟨w9.heap.size,2,none⟩):=hF_ 5 (by omega)
          have e6:x12 126 = .int .i64 y.save:=hF_ 6 (by omega)
          have e7:x12 127 = .int .i64 ii:=hF_ 7 (by omega)
          have e8:x12 128 = .int .i64 (max b ii):=hF_ 8 (by omega)
          have e9:x12 129 = .pointer (some ⟨w1.heap.size + 1,0,none⟩):=hF_ 9 (by omega)
          simp only [List.drop_succ_cons,List.drop_zero]
          simp only [e0,e1,e2,e3,e4,e5,e6,e7,e8,e9]
          clear hF_ e0 e1 e2 e3 e4 e5 e6 e7 e8 e9
          have HF9:=Lib.hid (HFd.out.below hb_ HFd.out.lt)
          have fc0:=HF9.out.cell 0 (v:=.int .i64 b) rfl
          have fz0:=HF9.out.frozen 0
          have fl:=HF9.out.lt
          refine wpList_stop ?gS5 (w12.setCell ⟨w1.heap.size + 1,0,none⟩ (.int .i64 (max b ii))) ?aS5 ?bS5
          case aS5 =>
           intro Q_ hQ_
           go_wp2_with fail
           exact hQ_
          try dsimp only
          clear fc0 fz0 fl
          have hf:Fr (fun k=>k = w1.heap.size + 1) w12 (w12.setCell ⟨w1.heap.size + 1,0,none⟩ (.int .i64 (max b ii))):=Fr.setCell w12 0 _ rfl
          have hb:=hb_
          have HOWe:=Lib.hid (hf.own (ownsRow_below HOWd.out hb) (fun g hg e=>own_ne HF9.out (ownsRow_below HOWd.out hb) (by decide) (by rw [hg,e])))
          have HBe:=Lib.hid (HBd.out.trans (hb.mono HBd.out.size))
          have HRe:=Lib.hid (HRd.out.below hb HRd.out.lt)
          have HEe:=Lib.hid (HEd.out.below hb HEd.out.lt)
          have hse:=HBe.out.size
          have HBg:=Lib.hid (HBe.out.trans ((hf).below HBe.out.size (fun k hk=>by omega)))
          have HRg:=Lib.hid (HRe.out.fr hf (by omega))
          have HEg:=Lib.hid (HEe.out.fr hf (by omega))
          have HFg:=Lib.hid (HF9.out.set 0 (.int .i64 (max b ii)))
          have hsg:=HBg.out.size
          have ec0:=HEg.out.cell 0 (v:=.int .i64 x.n.off) rfl
          have ec1:=HEg.out.cell 1 (v:=.string x.ru) rfl
          have ec2:=HEg.out.cell 2 (v:=.int .i64 x.n.save) rfl
          have ec3:=HEg.out.cell 3 (v:=.string x.fm) rfl
          have el:=HEg.out.lt
          have fc0:=HFg.out.cell 0 (v:=.int .i64 ((max b ii))) rfl
          have fc1:=HFg.out.cell 1 (v:=.int .i64 x.n.off) rfl
          have fc2:=HFg.out.cell 2 (v:=.int .i64 f.save) rfl
          have fc3:=HFg.out.cell 3 (v:=.string f.letter) rfl
          have fc4:=HFg.out.cell 4 (v:=.string x.fm) rfl
          have fc5:=HFg.out.cell 5 (v:=.slice Au 0 cu) rfl
          have fz0:=HFg.out.frozen 0
          have fz1:=HFg.out.frozen 1
          have fz2:=HFg.out.frozen 2
          have fz3:=HFg.out.frozen 3
          have fz4:=HFg.out.frozen 4
          have fz5:=HFg.out.frozen 5
          have fl:=HFg.out.lt
          have rz0:=HRg.out.frozen 0
          have rz1:=HRg.out.frozen 1
          have rz2:=HRg.out.frozen 2
          have rz3:=HRg.out.frozen 3
          have rz4:=HRg.out.frozen 4
          have rz5:=HRg.out.frozen 5
          have rc0:=HRg.out.cell 0 (v:=.int .i64 0) rfl
          have rc1:=HRg.out.cell 1 (v:=.int .i64 0) rfl
          have rc2:=HRg.out.cell 2 (v:=.int .i64 0) rfl
          have rc3:=HRg.out.cell 3 (v:=.string ⟨#[]⟩) rfl
          have rc4:=HRg.out.cell 4 (v:=.string ⟨#[]⟩) rfl
          have rc5:=HRg.out.cell 5 (v:=.slice none 0 0) rfl
          have rl:=HRg.out.lt
          go_wp2_with fail
          have HEND:=Lib.hid (foot_end _ (((max b ii))) (x.n.off) (f.save) (f.letter) (x.fm) (.slice Au 0 cu) HRg.out HBg.out (by omega) (own_wide HOWe.out (by omega)) (own_ne HRg.out HOWe.out (by decide)))
          have c0:=HEND.out.2.2.cell 0 (v:=.int .i64 ((max b ii))) rfl
          have c1:=HEND.out.2.2.cell 1 (v:=.int .i64 x.n.off) rfl
          have c2:=HEND.out.2.2.cell 2 (v:=.int .i64 f.save) rfl
          have c3:=HEND.out.2.2.cell 3 (v:=.string f.letter) rfl
          have c4:=HEND.out.2.2.cell 4 (v:=.string x.fm) rfl
          have c5:=HEND.out.2.2.cell 5 (v:=.slice Au 0 cu) rfl
          refine bodyPost_ret (v:=.tuple #[.agg #[.int .i64 ((max b ii)),.int .i64 x.n.off,.int .i64 f.save,.string f.letter,.string x.fm,.slice Au 0 cu],.int .i64 0]) ?_ rfl ⟨⟨.slice Au 0 cu,by rw [HFF.out,HE0.out];rfl,by rw [HFF.out];exact HEND.out.2.1⟩,HEND.out.1⟩
          simp [results,Tryz.f22,go_sem,c0,c1,c2,c3,c4,c5]
 ·obtain ⟨m,rfl⟩:∃ m,nE = m + 1:=⟨nE - 1,by omega⟩
  have d0:decide ((0:Int) < ((m + 1:Nat):Int)) = true:=decide_eq_true (by omega)
  obtain ⟨bv,ov,cv_,ev_,hbv,hcv⟩:=Sl.at_ (Sl.of_own HV2.out) (by omega)
  cases ev_
  obtain ⟨ee,hee⟩:∃ e,(endL S l)[m]'(by rw [HNE.out];omega) = e:=⟨_,rfl⟩
  have HEV:=Lib.hid (show W2.cell? ⟨bv,ov + m,none⟩ = some (.int .i64 ee) from hcv m _ (by rw [intsV_at _ m (by rw [HNE.out];omega),hee]))
  have HBV:=Lib.hid (show begV (endL S l) = min (max (-2199023255552) ee) 2199023255553 by rw [begV_last HNE.out (by rw [HNE.out];omega),hee])
  clear hcv hee
  obtain ⟨_,_,hec_,hcv1,hcv2⟩:=(show Nums W2 W2.heap.size (.slice (some ⟨bv,ov,none⟩) (m + 1) cv) (endL S l) from by have h:=Sl.of_own HV2.out;unfold Nums;rw [HNE.out];exact h).form
  have hcve:m + 1 ≤ 2 ^ 63 - 1:=by unfold maxLen at hcv2;rw [HNE.out] at hcv1;omega
  clear hec_ hcv1 hcv2
  go_wp2_with fail
  refine wp_invL (fin:=?fnH3) (by kernel_rfl) [46,47,48,49,50,51,52,53,54,55,999]
   [.is (.pointer (some ⟨w1.heap.size + 1,0,none⟩)),.is (.int .i64 (-2199023255552)),.is (.slice (some ⟨bv,ov,none⟩) (m + 1) cv),.is (.int .i64 ((m + 1:Nat):Int)),.is (.int .i64 (m:Nat)),.is (.pointer (some ⟨bv,ov + m,none⟩)),.is (.int .i64 ee),.is (.int .i64 (max (-2199023255552) ee)),.is (.int .i64 (min (max (-2199023255552) ee) 2199023255553)),.is (.pointer (some ⟨w1.heap.size + 1,0,none⟩))] 10 (by simp) (by kernel_rfl) (by kernel_rfl) ?finH3 ?_ ?_
  case finH3 =>
   intro x_
   simp only [frameOf,List.foldl_cons,List.foldl_nil,Act.put,List.setIfInBounds_toArray,List.set_cons_succ,List.set_cons_zero,List.set_nil]
   rfl
  ·as_aux_lemma =>
    simp only [List.take_succ_cons,List.take_zero]
    refine ⟨?_,?_,?_,?_,?_,?_,?_,?_,?_,?_,trivial⟩
    ·intro x_ w1_ R_ hB_ hf hR
     clear hf
     simp only [upd] at hR ⊢
     go_wp2_with fail
     exact hR _ _ rfl (Below.refl _ _)
    ·intro x_ w1_ R_ hB_ hf hR
     have e0:x_ 46 = .pointer (some ⟨w1.heap.size + 1,0,none⟩):=hf 0 (by kernel_rfl)
     have q0:=Blk.cell (Blk.below HF2.out hB_ HF2.out.lt) 0 (v:=.int .i64 (-2199023255552)) rfl
     clear hf
     simp only [upd] at hR ⊢
     simp only [e0] at hR ⊢
     go_wp2_with fail
     exact hR _ _ rfl (Below.refl _ _)
    ·intro x_ w1_ R_ hB_ hf hR
     clear hf
     simp only [upd] at hR ⊢
     go_wp2_with fail
     exact hR _ _ rfl (Below.refl _ _)
    ·intro x_ w1_ R_ hB_ hf hR
     clear hf
     simp only [upd] at hR ⊢
     go_wp2_with fail
     exact hR _ _ rfl (Below.refl _ _)
    ·intro x_ w1_ R_ hB_ hf hR
     have e3:x_ 49 = .int .i64 ((m + 1:Nat):Int):=hf 3 (by kernel_rfl)
     have hwm:wrap64 (m:Int) = (m:Int):=IntWalk.wrap64_in _ (by have:=hcve;omega)
     clear hf
     simp only [upd] at hR ⊢
     simp only [e3] at hR ⊢
     go_wp2_with fail
     exact hR _ _ (show Value.int .i64 (wrap64 (m:Int)) = .int .i64 (m:Int) by rw [hwm]) (Below.refl _ _)
    ·intro x_ w1_ R_ hB_ hf hR
     have e2:x_ 48 = .slice (some ⟨bv,ov,none⟩) (m + 1) cv:=hf 2 (by kernel_rfl)
     have e4:x_ 50 = .int .i64 (m:Nat):=hf 4 (by kernel_rfl)
     clear hf
     simp only [upd] at hR ⊢
     simp only [e2,e4] at hR ⊢
     go_wp2_with fail
     exact hR _ _ rfl (Below.refl _ _)
    ·intro x_ w1_ R_ hB_ hf hR
     have e5:x_ 51 = .pointer (some ⟨bv,ov + m,none⟩):=hf 5 (by kernel_rfl)
     have q0:=(hB_.cell (p:=⟨bv,ov + m,none⟩) hbv).trans HEV.out
     clear hf
     simp only [upd] at hR ⊢
     simp only [e5] at hR ⊢
     go_wp2_with fail
     exact hR _ _ rfl (Below.refl _ _)
    ·intro x_ w1_ R_ hB_ hf hR
     have e1:x_ 47 = .int .i64 (-2199023255552):=hf 1 (by kernel_rfl)
     have e6:x_ 52 = .int .i64 ee:=hf 6 (by kernel_rfl)
     clear hf
     simp only [upd] at hR ⊢
     simp only [e1,e6] at hR ⊢
     go_wp2_with fail
     exact hR _ _ rfl (Below.refl _ _)
    ·intro x_ w1_ R_ hB_ hf hR
     have e7:x_ 53 = .int .i64 (max (-2199023255552) ee):=hf 7 (by kernel_rfl)
     clear hf
     simp only [upd] at hR ⊢
     simp only [e7] at hR ⊢
     go_wp2_with fail
     exact hR _ _ rfl (Below.refl _ _)
    ·intro x_ w1_ R_ hB_ hf hR
     clear hf
     simp only [upd] at hR ⊢
     go_wp2_with fail
     exact hR _ _ rfl (Below.refl _ _)
  ·intro x5 w5_ hb_ hF_
   have e0:x5 46 = .pointer (some ⟨w1.heap.size + 1,0,none⟩):=hF_ 0 (by omega)
   have e1:x5 47 = .int .i64 (-2199023255552):=hF_ 1 (by omega)
   have e2:x5 48 = .slice (some ⟨bv,ov,none⟩) (m + 1) cv:=hF_ 2 (by omega)
   have e3:x5 49 = .int .i64 ((m + 1:Nat):Int):=hF_ 3 (by omega)
   have e4:x5 50 = .int .i64 (m:Nat):=hF_ 4 (by omega)
   have e5:x5 51 = .pointer (some ⟨bv,ov + m,none⟩):=hF_ 5 (by omega)
   have e6:x5 52 = .int .i64 ee:=hF_ 6 (by omega)
   have e7:x5 53 = .int .i64 (max (-2199023255552) ee):=hF_ 7 (by omega)
   have e8:x5 54 = .int .i64 (min (max (-2199023255552) ee) 2199023255553):=hF_ 8 (by omega)
   have e9:x5 55 = .pointer (some ⟨w1.heap.size + 1,0,none⟩):=hF_ 9 (by omega)
   simp only [List.drop_succ_cons,List.drop_zero]
   simp only [e0,e1,e2,e3,e4,e5,e6,e7,e8,e9]
   clear hF_ e0 e1 e2 e3 e4 e5 e6 e7 e8 e9
   have HF9:=Lib.hid (HF2.out.below hb_ HF2.out.lt)
   have fc0:=HF9.out.cell 0 (v:=.int .i64 (-2199023255552)) rfl
   have fz0:=HF9.out.frozen 0
   have fl:=HF9.out.lt
   refine wpList_stop ?gS1 (w5_.setCell ⟨w1.heap.size + 1,0,none⟩ (.int .i64 (min (max (-2199023255552) ee) 2199023255553))) ?aS1 ?bS1
   case aS1 =>
    intro Q_ hQ_
    go_wp2_with fail
    exact hQ_
   try dsimp only
   have HB9:=Lib.hid (HB2.out.trans (hb_.mono HB2.out.size))
   have hs9:=HB9.out.size
   have hb3:=HB9.out.setCell (p:=⟨w1.heap.size + 1,0,none⟩) (by show w.heap.size ≤ w1.heap.size + 1;omega) (.int .i64 (min (max (-2199023255552) ee) 2199023255553))
   have hf:Fr (fun k=>k = w1.heap.size + 1) w5_ (w5_.setCell ⟨w1.heap.size + 1,0,none⟩ (.int .i64 (min (max (-2199023255552) ee) 2199023255553))):=Fr.setCell w5_ 0 _ rfl
   have hr3:=(HR2.out.below hb_ HR2.out.lt).fr hf (by omega)
   have he3:=(HE2.out.below hb_ HE2.out.lt).fr hf (by omega)
   have hf3:=HF9.out.set 0 (.int .i64 (min (max (-2199023255552) ee) 2199023255553))
   obtain ⟨W3,hW3⟩:∃ W,w5_.setCell ⟨w1.heap.size + 1,0,none⟩ (.int .i64 (min (max (-2199023255552) ee) 2199023255553)) = W:=⟨_,rfl⟩
   rw [hW3] at hb3 hr3 he3 hf3 ⊢
   clear hW3 hf fc0 fz0 fl
   obtain ⟨b,hb9⟩:∃ b,min (max (-2199023255552) ee) 2199023255553 = b:=⟨_,rfl⟩
   rw [hb9] at HBV hf3
   clear hb9
   have HB3:=Lib.hid hb3
   have HR3:=Lib.hid hr3
   have HE3:=Lib.hid he3
   have HF3:=Lib.hid (show Blk W3 (w1.heap.size + 1) 54 #[.int .i64 b,.int .i64 x.n.off,.int .i64 0,.string ⟨#[]⟩,.string x.fm,.slice none 0 0] from hf3)
   have hs3:=HB3.out.size
   clear hb3 hr3 he3 hf3 hb_ HF9 HB9 HB2 HR2 HE2 HF2 HV2 HEV
   have ec0:=HE3.out.cell 0 (v:=.int .i64 x.n.off) rfl
   have ec1:=HE3.out.cell 1 (v:=.string x.ru) rfl
   have ec2:=HE3.out.cell 2 (v:=.int .i64 x.n.save) rfl
   have ec3:=HE3.out.cell 3 (v:=.string x.fm) rfl
   have el:=HE3.out.lt
   have fc0:=HF3.out.cell 0 (v:=.int .i64 b) rfl
   have fc1:=HF3.out.cell 1 (v:=.int .i64 x.n.off) rfl
   have fc2:=HF3.out.cell 2 (v:=.int .i64 0) rfl
   have fc3:=HF3.out.cell 3 (v:=.string ⟨#[]⟩) rfl
   have fc4:=HF3.out.cell 4 (v:=.string x.fm) rfl
   have fc5:=HF3.out.cell 5 (v:=.slice none 0 0) rfl
   have fz0:=HF3.out.frozen 0
   have fz1:=HF3.out.frozen 1
   have fz2:=HF3.out.frozen 2
   have fz3:=HF3.out.frozen 3
   have fz4:=HF3.out.frozen 4
   have fz5:=HF3.out.frozen 5
   have fl:=HF3.out.lt
   have rz0:=HR3.out.frozen 0
   have rz1:=HR3.out.frozen 1
   have rz2:=HR3.out.frozen 2
   have rz3:=HR3.out.frozen 3
   have rz4:=HR3.out.frozen 4
   have rz5:=HR3.out.frozen 5
   have rc0:=HR3.out.cell 0 (v:=.int .i64 0) rfl
   have rc1:=HR3.out.cell 1 (v:=.int .i64 0) rfl
   have rc2:=HR3.out.cell 2 (v:=.int .i64 0) rfl
   have rc3:=HR3.out.cell 3 (v:=.string ⟨#[]⟩) rfl
   have rc4:=HR3.out.cell 4 (v:=.string ⟨#[]⟩) rfl
   have rc5:=HR3.out.cell 5 (v:=.slice none 0 0) rfl
   have rl:=HR3.out.lt
   by_cases hru:x.ru.size = 0
   ·have hem:(x.ru.toList == []) = true:=by rw [emp_size,decide_eq_true hru]
    have HFF:=Lib.hid (show footZ S l = ⟨b,x.n.off,x.n.save,⟨#[]⟩,x.fm,[]⟩ by rw [HFZ.out,HBV.out];unfold footOf;rw [if_pos hru])
    clear hru
    go_wp2_with fail
    have hf:Fr (fun k=>k = w1.heap.size + 1) W3 (W3.setCell ⟨w1.heap.size + 1,2,none⟩ (.int .i64 x.n.save)):=Fr.setCell W3 2 _ rfl
    have HB4:=Lib.hid (HB3.out.trans ((hf).below HB3.out.size (fun k hk=>by omega)))
    have HR4:=Lib.hid (HR3.out.fr hf (by omega))
    have HE4:=Lib.hid (HE3.out.fr hf (by omega))
    have HF4:=Lib.hid (HF3.out.set 2 (.int .i64 x.n.save))
    have hs4:=HB4.out.size
    have HEND:=Lib.hid (foot_end _ (b) (x.n.off) (x.n.save) (⟨#[]⟩) (x.fm) (.slice none 0 0) HR4.out HB4.out (by omega) (ownR_nil _ _) (fun e=>by cases e))
    have c0:=HEND.out.2.2.cell 0 (v:=.int .i64 b) rfl
    have c1:=HEND.out.2.2.cell 1 (v:=.int .i64 x.n.off) rfl
    have c2:=HEND.out.2.2.cell 2 (v:=.int .i64 x.n.save) rfl
    have c3:=HEND.out.2.2.cell 3 (v:=.string ⟨#[]⟩) rfl
    have c4:=HEND.out.2.2.cell 4 (v:=.string x.fm) rfl
    have c5:=HEND.out.2.2.cell 5 (v:=.slice none 0 0) rfl
    refine bodyPost_ret (v:=.tuple #[.agg #[.int .i64 b,.int .i64 x.n.off,.int .i64 x.n.save,.string ⟨#[]⟩,.string x.fm,.slice none 0 0],.int .i64 0]) ?_ rfl ⟨⟨.slice none 0 0,by rw [HFF.out,HE0.out];rfl,by rw [HFF.out];exact HEND.out.2.1⟩,HEND.out.1⟩
    simp [results,Tryz.f22,go_sem,c0,c1,c2,c3,c4,c5]
   ·have hem:(x.ru.toList == []) = false:=by rw [emp_size,decide_eq_false hru]
    obtain ⟨A3,c3v,e3⟩:=ofVal_form (HZ.out W3 HB3.out).sets x.ru
    have HOF:=Lib.hid (wof_any W3 zn2 ev2 sv B S (HZ.out W3 HB3.out).sets (HZ.out W3 HB3.out).le x.ru)
    have HRU:=Lib.hid (fun (W:World) (h:Below w.heap.size w W)=>(HZ.out W h).sets.of_ruls x.ru)
    rw [e3] at HOF HRU
    unfold worldA at HOF
    have HAL:=Lib.hid (HMX.out hru)
    have HFF:=Lib.hid (show footZ S l = footOf x b (ofRul S x.ru) by rw [HFZ.out,HBV.out])
    have HRK:=Lib.hid (ofRul_ok HO.out x.ru)
    have HFR:=Lib.hid (ofRul_fr HFO.out x.ru)
    unfold footOf at HFF
    rw [if_neg hru] at HFF
    clear e3 hru
    obtain ⟨all,hall⟩:∃ a,ofRul S x.ru = a:=⟨_,rfl⟩
    rw [hall] at HOF HRU HAL HFF HRK HFR
    clear hall
    go_wp2_with fail
    refine HOF.out.mono ?_
    rintro o_ w3 ⟨rfl,hb⟩
    clear ec0 ec1 ec2 ec3 el fl rl fc0 fc1 fc2 fc3 fc4 fc5 fz0 fz1 fz2 fz3 fz4 fz5 rc0 rc1 rc2 rc3 rc4 rc5 rz0 rz1 rz2 rz3 rz4 rz5
    clear HOF
    have HB4:=Lib.hid (HB3.out.trans (hb.mono HB3.out.size))
    have HR4:=Lib.hid (HR3.out.below hb HR3.out.lt)
    have HE4:=Lib.hid (HE3.out.below hb HE3.out.lt)
    have HF4:=Lib.hid (HF3.out.below hb HF3.out.lt)
    have hs4:=HB4.out.size
    have hq4:=HF4.out.lt
    clear hb HB3 HR3 HE3 HF3
    have ec0:=HE4.out.cell 0 (v:=.int .i64 x.n.off) rfl
    have ec1:=HE4.out.cell 1 (v:=.string x.ru) rfl
    have ec2:=HE4.out.cell 2 (v:=.int .i64 x.n.save) rfl
    have ec3:=HE4.out.cell 3 (v:=.string x.fm) rfl
    have el:=HE4.out.lt
    have fc0:=HF4.out.cell 0 (v:=.int .i64 b) rfl
    have fc1:=HF4.out.cell 1 (v:=.int .i64 x.n.off) rfl
    have fc2:=HF4.out.cell 2 (v:=.int .i64 0) rfl
    have fc3:=HF4.out.cell 3 (v:=.string ⟨#[]⟩) rfl
    have fc4:=HF4.out.cell 4 (v:=.string x.fm) rfl
    have fc5:=HF4.out.cell 5 (v:=.slice none 0 0) rfl
    have fz0:=HF4.out.frozen 0
    have fz1:=HF4.out.frozen 1
    have fz2:=HF4.out.frozen 2
    have fz3:=HF4.out.frozen 3
    have fz4:=HF4.out.frozen 4
    have fz5:=HF4.out.frozen 5
    have fl:=HF4.out.lt
    have rz0:=HR4.out.frozen 0
    have rz1:=HR4.out.frozen 1
    have rz2:=HR4.out.frozen 2
    have rz3:=HR4.out.frozen 3
    have rz4:=HR4.out.frozen 4
    have rz5:=HR4.out.frozen 5
    have rc0:=HR4.out.cell 0 (v:=.int .i64 0) rfl
    have rc1:=HR4.out.cell 1 (v:=.int .i64 0) rfl
    have rc2:=HR4.out.cell 2 (v:=.int .i64 0) rfl
    have rc3:=HR4.out.cell 3 (v:=.string ⟨#[]⟩) rfl
    have rc4:=HR4.out.cell 4 (v:=.string ⟨#[]⟩) rfl
    have rc5:=HR4.out.cell 5 (v:=.slice none 0 0) rfl
    have rl:=HR4.out.lt
    have HCL:=Lib.hid (rclone_any w3 B (.slice A3 all.length c3v) all (HRU.out w3 HB4.out) (HZ.out w3 HB4.out).le (by have:=HRK.out.len;omega))
    have hs34:=HB4.out.size
    go_wp2_with fail
    refine HCL.out.mono ?_
    rintro o_ w4 ⟨u0,rfl,how,hb⟩
    clear ec0 ec1 ec2 ec3 el fl rl fc0 fc1 fc2 fc3 fc4 fc5 fz0 fz1 fz2 fz3 fz4 fz5 rc0 rc1 rc2 rc3 rc4 rc5 rz0 rz1 rz2 rz3 rz4 rz5
    clear HCL
    have hs45:=hb.size
    have HB5:=Lib.hid (HB4.out.trans (hb.mono HB4.out.size))
    have HR5:=Lib.hid (HR4.out.below hb HR4.out.lt)
    have HE5:=Lib.hid (HE4.out.below hb HE4.out.lt)
    have HF5:=Lib.hid (HF4.out.below hb HF4.out.lt)
    have hs5:=HB5.out.size
    have hq5:=HF5.out.lt
    clear hb HB4 HR4 HE4 HF4
    rcases how.cases with ⟨-,h0⟩ | ⟨g,cap,rfl,hrw⟩
    ·exfalso
     have:=HAL.out
     rw [h0] at this
     cases this
    ·have HW5:=Lib.hid hrw
     obtain ⟨hg1,hg2⟩:=hrw.lt
     clear how hrw
     have ec0:=HE5.out.cell 0 (v:=.int .i64 x.n.off) rfl
     have ec1:=HE5.out.cell 1 (v:=.string x.ru) rfl
     have ec2:=HE5.out.cell 2 (v:=.int .i64 x.n.save) rfl
     have ec3:=HE5.out.cell 3 (v:=.string x.fm) rfl
     have el:=HE5.out.lt
     have fc0:=HF5.out.cell 0 (v:=.int .i64 b) rfl
     have fc1:=HF5.out.cell 1 (v:=.int .i64 x.n.off) rfl
     have fc2:=HF5.out.cell 2 (v:=.int .i64 0) rfl
     have fc3:=HF5.out.cell 3 (v:=.string ⟨#[]⟩) rfl
     have fc4:=HF5.out.cell 4 (v:=.string x.fm) rfl
     have fc5:=HF5.out.cell 5 (v:=.slice none 0 0) rfl
     have fz0:=HF5.out.frozen 0
     have fz1:=HF5.out.frozen 1
     have fz2:=HF5.out.frozen 2
     have fz3:=HF5.out.frozen 3
     have fz4:=HF5.out.frozen 4
     have fz5:=HF5.out.frozen 5
     have fl:=HF5.out.lt
     have rz0:=HR5.out.frozen 0
     have rz1:=HR5.out.frozen 1
     have rz2:=HR5.out.frozen 2
     have rz3:=HR5.out.frozen 3
     have rz4:=HR5.out.frozen 4
     have rz5:=HR5.out.frozen 5
     have rc0:=HR5.out.cell 0 (v:=.int .i64 0) rfl
     have rc1:=HR5.out.cell 1 (v:=.int .i64 0) rfl
     have rc2:=HR5.out.cell 2 (v:=.int .i64 0) rfl
     have rc3:=HR5.out.cell 3 (v:=.string ⟨#[]⟩) rfl
     have rc4:=HR5.out.cell 4 (v:=.string ⟨#[]⟩) rfl
     have rc5:=HR5.out.cell 5 (v:=.slice none 0 0) rfl
     have rl:=HR5.out.lt
     have HDL:=Lib.hid (fdelete_any w4 w3.heap.size g cap all.length all HW5.out (by have:=HRK.out.len;omega) (HZ.out w4 HB5.out).ahead (by have:=(HZ.out w4 HB5.out).tab;have:=(HZ.out w (Below.refl _ _)).le;omega))
     go_wp2_with fail
     refine HDL.out.mono ?_
     rintro o_ w5 ⟨rfl,hrl,hfr⟩
     clear ec0 ec1 ec2 ec3 el fl rl fc0 fc1 fc2 fc3 fc4 fc5 fz0 fz1 fz2 fz3 fz4 fz5 rc0 rc1 rc2 rc3 rc4 rc5 rz0 rz1 rz2 rz3 rz4 rz5
     clear HDL HW5
     have HB6:=Lib.hid (HB5.out.trans (hfr.below HB5.out.size (fun k hk=>by omega)))
     have HR6:=Lib.hid (HR5.out.fr hfr (by omega))
     have HE6:=Lib.hid (HE5.out.fr hfr (by omega))
     have HF6:=Lib.hid (HF5.out.fr hfr (by omega))
     have hs6:=hfr.size
     have HLK:=Lib.hid (ruok_filter HRK.out firesB)
     have HLF:=Lib.hid (fun r (hr:r ∈ all.filter firesB)=>HFR.out r (List.mem_filter.1 hr).1)
     clear hfr HB5 HR5 HE5 HF5
     obtain ⟨L,hL⟩:∃ L,all.filter firesB = L:=⟨_,rfl⟩
     rw [hL] at hrl HFF HLK HLF
     try simp only [hL]
     clear hL
     have HW6:=Lib.hid hrl
     have hgl:=hrl.lt.2
     have hroom:=hrl.room
     unfold maxLen at hroom
     clear hrl
     have ec0:=HE6.out.cell 0 (v:=.int .i64 x.n.off) rfl
     have ec1:=HE6.out.cell 1 (v:=.string x.ru) rfl
     have ec2:=HE6.out.cell 2 (v:=.int .i64 x.n.save) rfl
     have ec3:=HE6.out.cell 3 (v:=.string x.fm) rfl
     have el:=HE6.out.lt
     have fc0:=HF6.out.cell 0 (v:=.int .i64 b) rfl
     have fc1:=HF6.out.cell 1 (v:=.int .i64 x.n.off) rfl
     have fc2:=HF6.out.cell 2 (v:=.int .i64 0) rfl
     have fc3:=HF6.out.cell 3 (v:=.string ⟨#[]⟩) rfl
     have fc4:=HF6.out.cell 4 (v:=.string x.fm) rfl
     have fc5:=HF6.out.cell 5 (v:=.slice none 0 0) rfl
     have fz0:=HF6.out.frozen 0
     have fz1:=HF6.out.frozen 1
     have fz2:=HF6.out.frozen 2
     have fz3:=HF6.out.frozen 3
     have fz4:=HF6.out.frozen 4
     have fz5:=HF6.out.frozen 5
     have fl:=HF6.out.lt
     have rz0:=HR6.out.frozen 0
     have rz1:=HR6.out.frozen 1
     have rz2:=HR6.out.frozen 2
     have rz3:=HR6.out.frozen 3
     have rz4:=HR6.out.frozen 4
     have rz5:=HR6.out.frozen 5
     have rc0:=HR6.out.cell 0 (v:=.int .i64 0) rfl
     have rc1:=HR6.out.cell 1 (v:=.int .i64 0) rfl
     have rc2:=HR6.out.cell 2 (v:=.int .i64 0) rfl
     have rc3:=HR6.out.cell 3 (v:=.string ⟨#[]⟩) rfl
     have rc4:=HR6.out.cell 4 (v:=.string ⟨#[]⟩) rfl
     have rc5:=HR6.out.cell 5 (v:=.slice none 0 0) rfl
     have rl:=HR6.out.lt
     go_wp2_with fail
     clear ec0 ec1 ec2 ec3 el fl rl fc0 fc1 fc2 fc3 fc4 fc5 fz0 fz1 fz2 fz3 fz4 fz5 rc0 rc1 rc2 rc3 rc4 rc5 rz0 rz1 rz2 rz3 rz4 rz5
     go_loopw [72] (fun iv wr=>∃ (k:Nat) (u:Value),k ≤ L.length∧iv = .int .i64 k∧Fr (fun j=>j = w1.heap.size + 1) w5 wr∧Blk wr (w1.heap.size + 1) 54 #[.int .i64 b,.int .i64 x.n.off,.int .i64 0,.string ⟨#[]⟩,.string x.fm,u]∧wr.ownsRow w5.heap.size 106 11 u ((L.take k).filter endlB).length (rulsV ((L.take k).filter endlB))) (fun iv _=>L.length - (intOf iv).toNat)
     case atStart=>exact ⟨0,_,Nat.zero_le _,rfl,Fr.refl _ _,HF6.out,World.ownsRow_nil _ _ _ _⟩
     case round =>
      obtain ⟨k,u,hk,rfl,hfr,hF,how⟩:=hrel
      have HFRW:=Lib.hid hfr
      have HOW:=Lib.hid how
      have HB7:=Lib.hid (HB6.out.trans (hfr.below HB6.out.size (fun k hk=>by omega)))
      have HR7:=Lib.hid (HR6.out.fr hfr (by omega))
      have HE7:=Lib.hid (HE6.out.fr hfr (by omega))
      have HF7:=Lib.hid hF
      have hs7:=hfr.size
      have HW7:=Lib.hid (HW6.out.fr hfr (by omega))
      have hRU:=Sl.of_own HW7.out.2
      have HN:=Lib.hid (fun (hk:k < L.length)=>take_filter endlB hk)
      clear hfr hF how
      by_cases hlt:k < L.length
      ·have hd:decide ((k:Int) < (L.length:Int)) = true:=decide_eq_true (by omega)
       obtain ⟨b_,o_,c_,e_,hbb_,hc⟩:=Ruls.cells (w:=wr) (B:=wr.heap.size) (l:=L) hRU (by omega)
       cases e_
       obtain ⟨a0,a1,a2,a3,a4,a5,a6,a7,a8,a9,a10⟩:=hc k hlt
       simp only [Nat.zero_add] at a0 a1 a2 a3 a4 a5 a6 a7 a8 a9 a10
       obtain ⟨r,hr⟩:∃ r,L[k] = r:=⟨_,rfl⟩
       have HN2:=Lib.hid (HN.out hlt)
       rw [hr] at a0 a1 a2 a3 a4 a5 a6 a7 a8 a9 a10 HN2
       have HEL:=Lib.hid (fun W=>endless_any r W)
       unfold rulA at HEL
       clear hc hr hRU
       have fc0:=HF7.out.cell 0 (v:=.int .i64 b) rfl
       have fc1:=HF7.out.cell 1 (v:=.int .i64 x.n.off) rfl
       have fc2:=HF7.out.cell 2 (v:=.int .i64 0) rfl
       have fc3:=HF7.out.cell 3 (v:=.string ⟨#[]⟩) rfl
       have fc4:=HF7.out.cell 4 (v:=.string x.fm) rfl
       have fc5:=HF7.out.cell 5 (v:=u) rfl
       have fz0:=HF7.out.frozen 0
       have fz1:=HF7.out.frozen 1
       have fz2:=HF7.out.frozen 2
       have fz3:=HF7.out.frozen 3
       have fz4:=HF7.out.frozen 4
       have fz5:=HF7.out.frozen 5
       have fl:=HF7.out.lt
       have HX8:=Lib.hid (Blk.new wr 106 #[.string r.name,.int .i64 r.from_,.int .i64 r.to_,.int .i64 r.month,.int .i64 r.dk,.int .i64 r.dw,.int .i64 r.dn,.int .i64 r.sec,.int .i64 r.kind,.int .i64 r.save,.string r.letter])
       cases hen:endlB r with
       | false =>
         rw [hen] at HEL
         clear HX8
         go_wp2_with fail
         refine (HEL.out _).mono ?_
         rintro e_ w6 ⟨rfl,hb⟩
         have hbr:Below wr.heap.size wr w6:=((Below.refl wr.heap.size wr).alloc (Nat.le_refl _) _).trans (hb.mono (by simp))
         have HBR:=Lib.hid hbr
         clear hb hbr a0 a1 a2 a3 a4 a5 a6 a7 a8 a9 a10 fc0 fc1 fc2 fc3 fc4 fc5 fz0 fz1 fz2 fz3 fz4 fz5 fl
         go_wp2_with fail
         go_roundw
         case rel=>exact ⟨k + 1,u,by omega,by go_num,HFRW.out.then (Fr.of_below HBR.out (Nat.le_refl _)),HF7.out.below HBR.out HF7.out.lt,by rw [HN2.out,hen,cond_false];exact ownsRow_below HOW.out HBR.out⟩
         case measure=>simp [intOf];omega
       | true =>
         rw [hen] at HEL
         go_wp2_with fail
         refine (HEL.out _).mono ?_
         rintro e_ w6 ⟨rfl,hb⟩
         have hbr:Below wr.heap.size wr w6:=((Below.refl wr.heap.size wr).alloc (Nat.le_refl _) _).trans (hb.mono (by simp))
         have hx8:=HX8.out.below hb (by simp)
         have HBR:=Lib.hid hbr
         have HX9:=Lib.hid hx8
         have HF8:=Lib.hid (HF7.out.below hbr HF7.out.lt)
         have HOW8:=Lib.hid (ownsRow_below HOW.out hbr)
         have hs8:=hbr.size
         have hlen:((L.take k).filter endlB).length ≤ L.length:=Nat.le_trans (List.length_filter_le _ _) (by rw [List.length_take];omega)
         clear hb hbr hx8 a0 a1 a2 a3 a4 a5 a6 a7 a8 a9 a10 fc0 fc1 fc2 fc3 fc4 fc5 fz0 fz1 fz2 fz3 fz4 fz5 fl
         obtain ⟨q,hq⟩:∃ q,((L.take k).filter endlB).length = q:=⟨_,rfl⟩
         rw [hq] at HOW8 hlen
         have fc0:=HF8.out.cell 0 (v:=.int .i64 b) rfl
         have fc1:=HF8.out.cell 1 (v:=.int .i64 x.n.off) rfl
         have fc2:=HF8.out.cell 2 (v:=.int .i64 0) rfl
         have fc3:=HF8.out.cell 3 (v:=.string ⟨#[]⟩) rfl
         have fc4:=HF8.out.cell 4 (v:=.string x.fm) rfl
         have fc5:=HF8.out.cell 5 (v:=u) rfl
         have fz0:=HF8.out.frozen 0
         have fz1:=HF8.out.frozen 1
         have fz2:=HF8.out.frozen 2
         have fz3:=HF8.out.frozen 3
         have fz4:=HF8.out.frozen 4
         have fz5:=HF8.out.frozen 5
         have fl:=HF8.out.lt
         have xq0:=HX9.out.cell 0 (v:=.string r.name) rfl
         have xq1:=HX9.out.cell 1 (v:=.int .i64 r.from_) rfl
         have xq2:=HX9.out.cell 2 (v:=.int .i64 r.to_) rfl
         have xq3:=HX9.out.cell 3 (v:=.int .i64 r.month) rfl
         have xq4:=HX9.out.cell 4 (v:=.int .i64 r.dk) rfl
         have xq5:=HX9.out.cell 5 (v:=.int .i64 r.dw) rfl
         have xq6:=HX9.out.cell 6 (v:=.int .i64 r.dn) rfl
         have xq7:=HX9.out.cell 7 (v:=.int .i64 r.sec) rfl
         have xq8:=HX9.out.cell 8 (v:=.int .i64 r.kind) rfl
         have xq9:=HX9.out.cell 9 (v:=.int .i64 r.save) rfl
         have xq10:=HX9.out.cell 10 (v:=.string r.letter) rfl
         have xl:=HX9.out.lt
         obtain ⟨i0,hi,hz0,hz1,hz2⟩:=info_parts infoRul
         have hcl:=HLK.out.len
         go_wp2_with (at_builtin;go_loud (refine wpList_append_own _ rfl _ _ 52 rfl w5.heap.size 106 i0 (.agg #[.string ⟨#[]⟩,.int .i64 0,.int .i64 0,.int .i64 0,.int .i64 0,.int .i64 0,.int .i64 0,.int .i64 0,.int .i64 0,.int .i64 0,.string ⟨#[]⟩]) 11 104 Tryz.underlying52 hi hz0 hz1 hz2 rfl (by decide) _ q _ rfl (HOW8.out.alloc _) ⟨w6.heap.size,0,none⟩ 1 1 (rulV r) rfl rfl (fun j y hy=>by rw [Addr.add_lit,Nat.zero_add];exact (cell_new _ _ _ _ j).trans (by simpa [rulV] using hy)) (by simp [rulV,Value.oneCell']) (by unfold maxLen;omega) (by omega) (by simp;omega) ?_);intro v9 w9 hown9 hgrow9 _;go_loud (obtain ⟨A9,c9,rfl⟩:=(Sl.of_own hown9).form;have hf9:=(HF8.out.alloc _).grown hgrow9 (own_ne HF8.out HOW8.out (by decide));have fz5:=hf9.frozen 5;have fc5:=hf9.cell 5 (v:=u) rfl;have fl:=hf9.lt;have HF9:=Lib.hid hf9;have HOW9:=Lib.hid hown9;have HG9:=Lib.hid hgrow9;clear hf9 hown9 hgrow9))
         go_roundw
         case rel=>exact ⟨k + 1,.slice A9 (q + 1) c9,by omega,by go_num,HFRW.out.trans (T':=fun k=>k = w1.heap.size + 1∨w5.heap.size ≤ k) ((Fr.of_below HBR.out (Nat.le_refl _)).then ((Fr.alloc _ _).then ((Fr.grown HG9.out (fun g hg=>.inl (.inr (own_low HOW8.out g hg).1))).then (Fr.setCell _ 5 _ (.inl rfl))))) (fun k h=>h),HF9.out.set 5 _,by
           have ho:=(Fr.setCell (T:=fun k=>k = w1.heap.size + 1) w9 5 (.slice A9 (q + 1) c9) rfl).own HOW9.out (fun g hg e=>own_ne HF9.out HOW9.out (by decide) (by rw [hg,e]))
           rw [HN2.out,hen,cond_true,List.length_append,hq,rulsV_append]
           exact ho⟩
         case measure=>simp [intOf];omega
      ·have hd:decide ((k:Int) < (L.length:Int)) = false:=decide_eq_false (by omega)
       obtain rfl:k = L.length:=by omega
       clear HN
       rw [List.take_length] at HOW
       have hRN:=List.length_filter_le endlB L
       obtain ⟨R,hR⟩:∃ R,L.filter endlB = R:=⟨_,rfl⟩
       rw [hR] at HOW HFF hRN
       clear hR
       obtain ⟨Au,cu,rfl⟩:=(Sl.of_own HOW.out).form
       have HEE:=Lib.hid (fun W=>fendless_any W ⟨b,x.n.off,0,⟨#[]⟩,x.fm,R⟩ Au cu)
       unfold footA at HEE
       simp only at HEE
       have ec0:=HE7.out.cell 0 (v:=.int .i64 x.n.off) rfl
       have ec1:=HE7.out.cell 1 (v:=.string x.ru) rfl
       have ec2:=HE7.out.cell 2 (v:=.int .i64 x.n.save) rfl
       have ec3:=HE7.out.cell 3 (v:=.string x.fm) rfl
       have el:=HE7.out.lt
       have fc0:=HF7.out.cell 0 (v:=.int .i64 b) rfl
       have fc1:=HF7.out.cell 1 (v:=.int .i64 x.n.off) rfl
       have fc2:=HF7.out.cell 2 (v:=.int .i64 0) rfl
       have fc3:=HF7.out.cell 3 (v:=.string ⟨#[]⟩) rfl
       have fc4:=HF7.out.cell 4 (v:=.string x.fm) rfl
       have fc5:=HF7.out.cell 5 (v:=.slice Au R.length cu) rfl
       have fz0:=HF7.out.frozen 0
       have fz1:=HF7.out.frozen 1
       have fz2:=HF7.out.frozen 2
       have fz3:=HF7.out.frozen 3
       have fz4:=HF7.out.frozen 4
       have fz5:=HF7.out.frozen 5
       have fl:=HF7.out.lt
       have rz0:=HR7.out.frozen 0
       have rz1:=HR7.out.frozen 1
       have rz2:=HR7.out.frozen 2
       have rz3:=HR7.out.frozen 3
       have rz4:=HR7.out.frozen 4
       have rz5:=HR7.out.frozen 5
       have rc0:=HR7.out.cell 0 (v:=.int .i64 0) rfl
       have rc1:=HR7.out.cell 1 (v:=.int .i64 0) rfl
       have rc2:=HR7.out.cell 2 (v:=.int .i64 0) rfl
       have rc3:=HR7.out.cell 3 (v:=.string ⟨#[]⟩) rfl
       have rc4:=HR7.out.cell 4 (v:=.string ⟨#[]⟩) rfl
       have rc5:=HR7.out.cell 5 (v:=.slice none 0 0) rfl
       have rl:=HR7.out.lt
       by_cases hr0:0 < R.length
       ·rw [decide_eq_true hr0] at HEE
        rw [if_pos hr0] at HFF
        have hl0:0 < L.length:=by omega
        go_wp2_with fail
        refine (HEE.out _).mono ?_
        rintro o_ w7 ⟨rfl,hb⟩
        clear ec0 ec1 ec2 ec3 el fl rl fc0 fc1 fc2 fc3 fc4 fc5 fz0 fz1 fz2 fz3 fz4 fz5 rc0 rc1 rc2 rc3 rc4 rc5 rz0 rz1 rz2 rz3 rz4 rz5
        clear HEE
        have HW8:=Lib.hid (HW7.out.below hb)
        have HOW8:=Lib.hid (ownsRow_below HOW.out hb)
        have HB8:=Lib.hid (HB7.out.trans (hb.mono HB7.out.size))
        have HR8:=Lib.hid (HR7.out.below hb HR7.out.lt)
        have HE8:=Lib.hid (HE7.out.below hb HE7.out.lt)
        have HF8:=Lib.hid (HF7.out.below hb HF7.out.lt)
        have hs8:=HB8.out.size
        have hq8:=HF8.out.lt
        clear hb HB7 HR7 HE7 HF7
        have HST:=Lib.hid (fun (W:World) (h:Below w7.heap.size w7 W)=>settled_any W W.heap.size (.slice (some ⟨g,0,none⟩) L.length cap) L (Sl.of_own (HW8.out.below h).2) (Nat.le_refl _) hl0 HLF.out (HZ.out W (HB8.out.trans (h.mono HB8.out.size))).ahead)
        obtain ⟨s,hs_⟩:∃ s,settledV L = s:=⟨_,rfl⟩
        rw [hs_] at HST HFF
        clear hs_
        have ec0:=HE8.out.cell 0 (v:=.int .i64 x.n.off) rfl
        have ec1:=HE8.out.cell 1 (v:=.string x.ru) rfl
        have ec2:=HE8.out.cell 2 (v:=.int .i64 x.n.save) rfl
        have ec3:=HE8.out.cell 3 (v:=.string x.fm) rfl
        have el:=HE8.out.lt
        have fc0:=HF8.out.cell 0 (v:=.int .i64 b) rfl
        have fc1:=HF8.out.cell 1 (v:=.int .i64 x.n.off) rfl
        have fc2:=HF8.out.cell 2 (v:=.int .i64 0) rfl
        have fc3:=HF8.out.cell 3 (v:=.string ⟨#[]⟩) rfl
        have fc4:=HF8.out.cell 4 (v:=.string x.fm) rfl
        have fc5:=HF8.out.cell 5 (v:=.slice Au R.length cu) rfl
        have fz0:=HF8.out.frozen 0
        have fz1:=HF8.out.frozen 1
        have fz2:=HF8.out.frozen 2
        have fz3:=HF8.out.frozen 3
        have fz4:=HF8.out.frozen 4
        have fz5:=HF8.out.frozen 5
        have fl:=HF8.out.lt
        have rz0:=HR8.out.frozen 0
        have rz1:=HR8.out.frozen 1
        have rz2:=HR8.out.frozen 2
        have rz3:=HR8.out.frozen 3
        have rz4:=HR8.out.frozen 4
        have rz5:=HR8.out.frozen 5
        have rc0:=HR8.out.cell 0 (v:=.int .i64 0) rfl
        have rc1:=HR8.out.cell 1 (v:=.int .i64 0) rfl
        have rc2:=HR8.out.cell 2 (v:=.int .i64 0) rfl
        have rc3:=HR8.out.cell 3 (v:=.string ⟨#[]⟩) rfl
        have rc4:=HR8.out.cell 4 (v:=.string ⟨#[]⟩) rfl
        have rc5:=HR8.out.cell 5 (v:=.slice none 0 0) rfl
        have rl:=HR8.out.lt
        go_wp2_with fail
        clear ec0 ec1 ec2 ec3 el fl rl fc0 fc1 fc2 fc3 fc4 fc5 fz0 fz1 fz2 fz3 fz4 fz5 rc0 rc1 rc2 rc3 rc4 rc5 rz0 rz1 rz2 rz3 rz4 rz5
        refine wp_invL (fin:=?fnS1) (by kernel_rfl) [87,88,89,90,91,92,999]
         [.is (.pointer (some ⟨w1.heap.size + 1,0,none⟩)),.is (.int .i64 b),.is (.slice (some ⟨g,0,none⟩) L.length cap),.is (.int .i64 s),.is (.int .i64 (max b s)),.is (.pointer (some ⟨w1.heap.size + 1,0,none⟩))] 6 (by simp) (by kernel_rfl) (by kernel_rfl) ?finS1 ?_ ?_
        case finS1 =>
         intro x_
         simp only [frameOf,List.foldl_cons,List.foldl_nil,Act.put,List.setIfInBounds_toArray,List.set_cons_succ,List.set_cons_zero,List.set_nil]
         rfl
        ·as_aux_lemma =>
          simp only [List.take_succ_cons,List.take_zero]
          refine ⟨?_,?_,?_,?_,?_,?_,trivial⟩
          ·intro x_ w1_ R_ hB_ hf hR
           clear hf
           simp only [upd] at hR ⊢
           go_wp2_with fail
           exact hR _ _ rfl (Below.refl _ _)
          ·intro x_ w1_ R_ hB_ hf hR
           have e0:x_ 87 = .pointer (some ⟨w1.heap.size + 1,0,none⟩):=hf 0 (by kernel_rfl)
           have q0:=Blk.cell (Blk.below HF8.out hB_ HF8.out.lt) 0 (v:=.int .i64 b) rfl
           clear hf
           simp only [upd] at hR ⊢
           simp only [e0] at hR ⊢
           go_wp2_with fail
           exact hR _ _ rfl (Below.refl _ _)
          ·intro x_ w1_ R_ hB_ hf hR
           clear hf
           simp only [upd] at hR ⊢
           go_wp2_with fail
           exact hR _ _ rfl (Below.refl _ _)
          ·intro x_ w1_ R_ hB_ hf hR
           have e2:x_ 89 = .slice (some ⟨g,0,none⟩) L.length cap:=hf 2 (by kernel_rfl)
           clear hf
           simp only [upd] at hR ⊢
           simp only [e2] at hR ⊢
           go_wp2_with fail
           refine (HST.out w1_ hB_).mono ?_
           rintro o_ w2_ ⟨rfl,hb⟩
           go_wp2_with fail
           exact hR _ _ rfl hb
          ·intro x_ w1_ R_ hB_ hf hR
           have e1:x_ 88 = .int .i64 b:=hf 1 (by kernel_rfl)
           have e3:x_ 90 = .int .i64 s:=hf 3 (by kernel_rfl)
           clear hf
           simp only [upd] at hR ⊢
           simp only [e1,e3] at hR ⊢
           go_wp2_with fail
           exact hR _ _ rfl (Below.refl _ _)
          ·intro x_ w1_ R_ hB_ hf hR
           clear hf
           simp only [upd] at hR ⊢
           go_wp2_with fail
           exact hR _ _ rfl (Below.refl _ _)
        ·intro x8 w8 hb_ hF_
         have e0:x8 87 = .pointer (some ⟨w1.heap.size + 1,0,none⟩):=hF_ 0 (by omega)
         have e1:x8 88 = .int .i64 b:=hF_ 1 (by omega)
         have e2:x8 89 = .slice (some ⟨g,0,none⟩) L.length cap:=hF_ 2 (by omega)
         have e3:x8 90 = .int .i64 s:=hF_ 3 (by omega)
         have e4:x8 91 = .int .i64 (max b s):=hF_ 4 (by omega)
         have e5:x8 92 = .pointer (some ⟨w1.heap.size + 1,0,none⟩):=hF_ 5 (by omega)
         simp only [List.drop_succ_cons,List.drop_zero]
         simp only [e0,e1,e2,e3,e4,e5]
         clear hF_ e0 e1 e2 e3 e4 e5
         have HF9:=Lib.hid (HF8.out.below hb_ HF8.out.lt)
         have fc0:=HF9.out.cell 0 (v:=.int .i64 b) rfl
         have fz0:=HF9.out.frozen 0
         have fl:=HF9.out.lt
         refine wpList_stop ?gS2 (w8.setCell ⟨w1.heap.size + 1,0,none⟩ (.int .i64 (max b s))) ?aS2 ?bS2
         case aS2 =>
          intro Q_ hQ_
          go_wp2_with fail
          exact hQ_
         try dsimp only
         clear fc0 fz0 fl
         have hf:Fr (fun k=>k = w1.heap.size + 1) w8 (w8.setCell ⟨w1.heap.size + 1,0,none⟩ (.int .i64 (max b s))):=Fr.setCell w8 0 _ rfl
         have hb:=hb_
         have HOW9:=Lib.hid (hf.own (ownsRow_below HOW8.out hb) (fun g hg e=>own_ne HF9.out (ownsRow_below HOW8.out hb) (by decide) (by rw [hg,e])))
         have HBa:=Lib.hid (HB8.out.trans (hb.mono HB8.out.size))
         have HRa:=Lib.hid (HR8.out.below hb HR8.out.lt)
         have HEa:=Lib.hid (HE8.out.below hb HE8.out.lt)
         have hsa:=HBa.out.size
         have HBb:=Lib.hid (HBa.out.trans ((hf).below HBa.out.size (fun k hk=>by omega)))
         have HRb:=Lib.hid (HRa.out.fr hf (by omega))
         have HEb:=Lib.hid (HEa.out.fr hf (by omega))
         have HFb:=Lib.hid (HF9.out.set 0 (.int .i64 (max b s)))
         have hsb:=HBb.out.size
         have ec0:=HEb.out.cell 0 (v:=.int .i64 x.n.off) rfl
         have ec1:=HEb.out.cell 1 (v:=.string x.ru) rfl
         have ec2:=HEb.out.cell 2 (v:=.int .i64 x.n.save) rfl
         have ec3:=HEb.out.cell 3 (v:=.string x.fm) rfl
         have el:=HEb.out.lt
         have fc0:=HFb.out.cell 0 (v:=.int .i64 ((max b s))) rfl
         have fc1:=HFb.out.cell 1 (v:=.int .i64 x.n.off) rfl
         have fc2:=HFb.out.cell 2 (v:=.int .i64 0) rfl
         have fc3:=HFb.out.cell 3 (v:=.string ⟨#[]⟩) rfl
         have fc4:=HFb.out.cell 4 (v:=.string x.fm) rfl
         have fc5:=HFb.out.cell 5 (v:=.slice Au R.length cu) rfl
         have fz0:=HFb.out.frozen 0
         have fz1:=HFb.out.frozen 1
         have fz2:=HFb.out.frozen 2
         have fz3:=HFb.out.frozen 3
         have fz4:=HFb.out.frozen 4
         have fz5:=HFb.out.frozen 5
         have fl:=HFb.out.lt
         have rz0:=HRb.out.frozen 0
         have rz1:=HRb.out.frozen 1
         have rz2:=HRb.out.frozen 2
         have rz3:=HRb.out.frozen 3
         have rz4:=HRb.out.frozen 4
         have rz5:=HRb.out.frozen 5
         have rc0:=HRb.out.cell 0 (v:=.int .i64 0) rfl
         have rc1:=HRb.out.cell 1 (v:=.int .i64 0) rfl
         have rc2:=HRb.out.cell 2 (v:=.int .i64 0) rfl
         have rc3:=HRb.out.cell 3 (v:=.string ⟨#[]⟩) rfl
         have rc4:=HRb.out.cell 4 (v:=.string ⟨#[]⟩) rfl
         have rc5:=HRb.out.cell 5 (v:=.slice none 0 0) rfl
         have rl:=HRb.out.lt
         have hrb:w.heap.size + 1 ≠ w1.heap.size + 1:=by omega
         go_wp2_with fail
         have HEND:=Lib.hid (foot_end _ (((max b s))) (x.n.off) (0) (⟨#[]⟩) (x.fm) (.slice Au R.length cu) HRb.out HBb.out (by omega) (own_wide HOW9.out (by omega)) (own_ne HRb.out HOW9.out (by decide)))
         have c0:=HEND.out.2.2.cell 0 (v:=.int .i64 ((max b s))) rfl
         have c1:=HEND.out.2.2.cell 1 (v:=.int .i64 x.n.off) rfl
         have c2:=HEND.out.2.2.cell 2 (v:=.int .i64 0) rfl
         have c3:=HEND.out.2.2.cell 3 (v:=.string ⟨#[]⟩) rfl
         have c4:=HEND.out.2.2.cell 4 (v:=.string x.fm) rfl
         have c5:=HEND.out.2.2.cell 5 (v:=.slice Au R.length cu) rfl
         refine bodyPost_ret (v:=.tuple #[.agg #[.int .i64 ((max b s)),.int .i64 x.n.off,.int .i64 0,.string ⟨#[]⟩,.string x.fm,.slice Au R.length cu],.int .i64 0]) ?_ rfl ⟨⟨.slice Au R.length cu,by rw [HFF.out,HE0.out];rfl,by rw [HFF.out];exact HEND.out.2.1⟩,HEND.out.1⟩
         simp [results,Tryz.f22,go_sem,c0,c1,c2,c3,c4,c5]
       ·rw [decide_eq_false hr0] at HEE
        rw [if_neg hr0] at HFF
        have hR0:R = []:=List.eq_nil_of_length_eq_zero (by omega)
        subst hR0
        clear hr0
        simp only [List.length_nil] at HEE HOW HF7 ⊢
        try simp only [List.length_nil] at fc5
        go_wp2_with fail
        refine (HEE.out _).mono ?_
        rintro o_ w7 ⟨rfl,hb⟩
        clear ec0 ec1 ec2 ec3 el fl rl fc0 fc1 fc2 fc3 fc4 fc5 fz0 fz1 fz2 fz3 fz4 fz5 rc0 rc1 rc2 rc3 rc4 rc5 rz0 rz1 rz2 rz3 rz4 rz5
        clear HEE
        have HW8:=Lib.hid (HW7.out.below hb)
        have HOW8:=Lib.hid (ownsRow_below HOW.out hb)
        have HB8:=Lib.hid (HB7.out.trans (hb.mono HB7.out.size))
        have HR8:=Lib.hid (HR7.out.below hb HR7.out.lt)
        have HE8:=Lib.hid (HE7.out.below hb HE7.out.lt)
        have HF8:=Lib.hid (HF7.out.below hb HF7.out.lt)
        have hs8:=HB8.out.size
        have hq8:=HF8.out.lt
        clear hb HB7 HR7 HE7 HF7
        have HLQ:=Lib.hid (fun (W:World) (h:Below w.heap.size w W) (hl:Ruls W W.heap.size (.slice (some ⟨g,0,none⟩) L.length cap) L)=>latest_any W (.slice (some ⟨g,0,none⟩) L.length cap) L hl (HZ.out W h).ahead HLK.out.yr HLK.out.sv x.n.off 2199023255552 (by have:=HOFF.out;omega) (by omega) (by omega))
        have HLT:=Lib.hid (HLQ.out w7 HB8.out (Sl.of_own HW8.out.2))
        obtain ⟨qf,hqf⟩:∃ q,latestF L x.n.off 2199023255552 = q:=⟨_,rfl⟩
        have HQM:=Lib.hid (fun f (h:qf = some f)=>latestF_mem (hqf.trans h))
        rw [hqf] at HLT HFF
        clear hqf HLQ
        have ec0:=HE8.out.cell 0 (v:=.int .i64 x.n.off) rfl
        have ec1:=HE8.out.cell 1 (v:=.string x.ru) rfl
        have ec2:=HE8.out.cell 2 (v:=.int .i64 x.n.save) rfl
        have ec3:=HE8.out.cell 3 (v:=.string x.fm) rfl
        have el:=HE8.out.lt
        have fc0:=HF8.out.cell 0 (v:=.int .i64 b) rfl
        have fc1:=HF8.out.cell 1 (v:=.int .i64 x.n.off) rfl
        have fc2:=HF8.out.cell 2 (v:=.int .i64 0) rfl
        have fc3:=HF8.out.cell 3 (v:=.string ⟨#[]⟩) rfl
        have fc4:=HF8.out.cell 4 (v:=.string x.fm) rfl
        have fc5:=HF8.out.cell 5 (v:=.slice Au 0 cu) rfl
        have fz0:=HF8.out.frozen 0
        have fz1:=HF8.out.frozen 1
        have fz2:=HF8.out.frozen 2
        have fz3:=HF8.out.frozen 3
        have fz4:=HF8.out.frozen 4
        have fz5:=HF8.out.frozen 5
        have fl:=HF8.out.lt
        have rz0:=HR8.out.frozen 0
        have rz1:=HR8.out.frozen 1
        have rz2:=HR8.out.frozen 2
        have rz3:=HR8.out.frozen 3
        have rz4:=HR8.out.frozen 4
        have rz5:=HR8.out.frozen 5
        have rc0:=HR8.out.cell 0 (v:=.int .i64 0) rfl
        have rc1:=HR8.out.cell 1 (v:=.int .i64 0) rfl
        have rc2:=HR8.out.cell 2 (v:=.int .i64 0) rfl
        have rc3:=HR8.out.cell 3 (v:=.string ⟨#[]⟩) rfl
        have rc4:=HR8.out.cell 4 (v:=.string ⟨#[]⟩) rfl
        have rc5:=HR8.out.cell 5 (v:=.slice none 0 0) rfl
        have rl:=HR8.out.lt
        cases qf with
        | none =>
          simp only at HFF
          unfold resO firO firA Fir.zero at HLT
          simp only [Option.isSome] at HLT
          go_wp2_with fail
          refine HLT.out.mono ?_
          rintro o_ w8 ⟨rfl,hb⟩
          clear ec0 ec1 ec2 ec3 el fl rl fc0 fc1 fc2 fc3 fc4 fc5 fz0 fz1 fz2 fz3 fz4 fz5 rc0 rc1 rc2 rc3 rc4 rc5 rz0 rz1 rz2 rz3 rz4 rz5
          clear HLT
          have HOW9:=Lib.hid (ownsRow_below HOW8.out hb)
          have HB9:=Lib.hid (HB8.out.trans (hb.mono HB8.out.size))
          have HR9:=Lib.hid (HR8.out.below hb HR8.out.lt)
          have HE9:=Lib.hid (HE8.out.below hb HE8.out.lt)
          have HF9:=Lib.hid (HF8.out.below hb HF8.out.lt)
          have hs9:=HB9.out.size
          have hq9:=HF9.out.lt
          clear hb HB8 HR8 HE8 HF8
          have hbA:=(Below.refl w8.heap.size w8).alloc (Nat.le_refl _) (.cells #[.int .i64 0,.int .i64 0,.int .i64 0,.string ⟨#[]⟩] 112)
          have HLE:=Lib.hid (fun (W:World) (h:Below w8.heap.size w8 W)=>fletter_any W B (.slice A3 all.length c3v) all (HRU.out W (HB9.out.trans (h.mono HB9.out.size))) (HZ.out W (HB9.out.trans (h.mono HB9.out.size))).le HRK.out.len HRK.out.mon)
          have ec0:=HE9.out.cell 0 (v:=.int .i64 x.n.off) rfl
          have ec1:=HE9.out.cell 1 (v:=.string x.ru) rfl
          have ec2:=HE9.out.cell 2 (v:=.int .i64 x.n.save) rfl
          have ec3:=HE9.out.cell 3 (v:=.string x.fm) rfl
          have el:=HE9.out.lt
          have fc0:=HF9.out.cell 0 (v:=.int .i64 b) rfl
          have fc1:=HF9.out.cell 1 (v:=.int .i64 x.n.off) rfl
          have fc2:=HF9.out.cell 2 (v:=.int .i64 0) rfl
          have fc3:=HF9.out.cell 3 (v:=.string ⟨#[]⟩) rfl
          have fc4:=HF9.out.cell 4 (v:=.string x.fm) rfl
          have fc5:=HF9.out.cell 5 (v:=.slice Au 0 cu) rfl
          have fz0:=HF9.out.frozen 0
          have fz1:=HF9.out.frozen 1
          have fz2:=HF9.out.frozen 2
          have fz3:=HF9.out.frozen 3
          have fz4:=HF9.out.frozen 4
          have fz5:=HF9.out.frozen 5
          have fl:=HF9.out.lt
          have rz0:=HR9.out.frozen 0
          have rz1:=HR9.out.frozen 1
          have rz2:=HR9.out.frozen 2
          have rz3:=HR9.out.frozen 3
          have rz4:=HR9.out.frozen 4
          have rz5:=HR9.out.frozen 5
          have rc0:=HR9.out.cell 0 (v:=.int .i64 0) rfl
          have rc1:=HR9.out.cell 1 (v:=.int .i64 0) rfl
          have rc2:=HR9.out.cell 2 (v:=.int .i64 0) rfl
          have rc3:=HR9.out.cell 3 (v:=.string ⟨#[]⟩) rfl
          have rc4:=HR9.out.cell 4 (v:=.string ⟨#[]⟩) rfl
          have rc5:=HR9.out.cell 5 (v:=.slice none 0 0) rfl
          have rl:=HR9.out.lt
          go_wp2_with fail
          refine (HLE.out _ hbA).mono ?_
          rintro o_ w9 ⟨rfl,hb⟩
          clear ec0 ec1 ec2 ec3 el fl rl fc0 fc1 fc2 fc3 fc4 fc5 fz0 fz1 fz2 fz3 fz4 fz5 rc0 rc1 rc2 rc3 rc4 rc5 rz0 rz1 rz2 rz3 rz4 rz5
          have hb:=hbA.trans (hb.mono (by simp))
          have HOWa:=Lib.hid (ownsRow_below HOW9.out hb)
          clear HLE hbA
          have HBa:=Lib.hid (HB9.out.trans (hb.mono HB9.out.size))
          have HRa:=Lib.hid (HR9.out.below hb HR9.out.lt)
          have HEa:=Lib.hid (HE9.out.below hb HE9.out.lt)
          have HFa:=Lib.hid (HF9.out.below hb HF9.out.lt)
          have hsa:=HBa.out.size
          have hqa:=HFa.out.lt
          clear hb HB9 HR9 HE9 HF9
          have ec0:=HEa.out.cell 0 (v:=.int .i64 x.n.off) rfl
          have ec1:=HEa.out.cell 1 (v:=.string x.ru) rfl
          have ec2:=HEa.out.cell 2 (v:=.int .i64 x.n.save) rfl
          have ec3:=HEa.out.cell 3 (v:=.string x.fm) rfl
          have el:=HEa.out.lt
          have fc0:=HFa.out.cell 0 (v:=.int .i64 b) rfl
          have fc1:=HFa.out.cell 1 (v:=.int .i64 x.n.off) rfl
          have fc2:=HFa.out.cell 2 (v:=.int .i64 0) rfl
          have fc3:=HFa.out.cell 3 (v:=.string ⟨#[]⟩) rfl
          have fc4:=HFa.out.cell 4 (v:=.string x.fm) rfl
          have fc5:=HFa.out.cell 5 (v:=.slice Au 0 cu) rfl
          have fz0:=HFa.out.frozen 0
          have fz1:=HFa.out.frozen 1
          have fz2:=HFa.out.frozen 2
          have fz3:=HFa.out.frozen 3
          have fz4:=HFa.out.frozen 4
          have fz5:=HFa.out.frozen 5
          have fl:=HFa.out.lt
          have rz0:=HRa.out.frozen 0
          have rz1:=HRa.out.frozen 1
          have rz2:=HRa.out.frozen 2
          have rz3:=HRa.out.frozen 3
          have rz4:=HRa.out.frozen 4
          have rz5:=HRa.out.frozen 5
          have rc0:=HRa.out.cell 0 (v:=.int .i64 0) rfl
          have rc1:=HRa.out.cell 1 (v:=.int .i64 0) rfl
          have rc2:=HRa.out.cell 2 (v:=.int .i64 0) rfl
          have rc3:=HRa.out.cell 3 (v:=.string ⟨#[]⟩) rfl
          have rc4:=HRa.out.cell 4 (v:=.string ⟨#[]⟩) rfl
          have rc5:=HRa.out.cell 5 (v:=.slice none 0 0) rfl
          have rl:=HRa.out.lt
          go_wp2_with fail
          have hf:Fr (fun k=>k = w1.heap.size + 1) w9 (w9.setCell ⟨w1.heap.size + 1,3,none⟩ (.string (letV all))):=Fr.setCell w9 3 _ rfl
          have HBb:=Lib.hid (HBa.out.trans ((hf).below HBa.out.size (fun k hk=>by omega)))
          have HRb:=Lib.hid (HRa.out.fr hf (by omega))
          have HEb:=Lib.hid (HEa.out.fr hf (by omega))
          have HFb:=Lib.hid (HFa.out.set 3 (.string (letV all)))
          have hsb:=HBb.out.size
          have HOWb:=Lib.hid (hf.own HOWa.out (fun g hg e=>own_ne HFa.out HOWa.out (by decide) (by rw [hg,e])))
          have HEND:=Lib.hid (foot_end _ (b) (x.n.off) (0) ((letV all)) (x.fm) (.slice Au 0 cu) HRb.out HBb.out (by omega) (own_wide HOWb.out (by omega)) (own_ne HRb.out HOWb.out (by decide)))
          have c0:=HEND.out.2.2.cell 0 (v:=.int .i64 b) rfl
          have c1:=HEND.out.2.2.cell 1 (v:=.int .i64 x.n.off) rfl
          have c2:=HEND.out.2.2.cell 2 (v:=.int .i64 0) rfl
          have c3:=HEND.out.2.2.cell 3 (v:=.string (letV all)) rfl
          have c4:=HEND.out.2.2.cell 4 (v:=.string x.fm) rfl
          have c5:=HEND.out.2.2.cell 5 (v:=.slice Au 0 cu) rfl
          refine bodyPost_ret (v:=.tuple #[.agg #[.int .i64 b,.int .i64 x.n.off,.int .i64 0,.string (letV all),.string x.fm,.slice Au 0 cu],.int .i64 0]) ?_ rfl ⟨⟨.slice Au 0 cu,by rw [HFF.out,HE0.out];rfl,by rw [HFF.out];exact HEND.out.2.1⟩,HEND.out.1⟩
          simp [results,Tryz.f22,go_sem,c0,c1,c2,c3,c4,c5]
        | some f =>
          simp only at HFF
          have hff:=HQM.out f rfl
          have hnom:=fires_nom hff
          have hfs:=HLK.out.sv f hff
          unfold resO firO firA at HLT
          simp only [Option.isSome] at HLT
          have HAH:=Lib.hid (fun (W:World) (h:Below w.heap.size w W) (hl:Ruls W W.heap.size (.slice (some ⟨g,0,none⟩) L.length cap) L)=>fahead_any W (.slice (some ⟨g,0,none⟩) L.length cap) L hl (HZ.out W h).ahead HLK.out.yr f.nominal (by omega) (by omega))
          have hsv:=savedF_in HLK.out.sv f
          have HSV:=Lib.hid (show savedF L f = (firO (aheadF L f.nominal)).save by unfold savedF;exact saveO_firO _)
          unfold resO at HAH
          rw [HSV.out] at hsv HFF
          obtain ⟨yo,hyo⟩:∃ o,aheadF L f.nominal = o:=⟨_,rfl⟩
          rw [hyo] at HAH hsv HFF
          obtain ⟨y,hy⟩:∃ y,firO yo = y:=⟨_,rfl⟩
          rw [hy] at HAH hsv HFF
          unfold firA at HAH
          have HIN:=Lib.hid (fun W=>inst_any W f x.n.off y.save (by omega) (by have:=HOFF.out;omega) hsv)
          obtain ⟨ii,hii⟩:∃ i,instF f x.n.off y.save = i:=⟨_,rfl⟩
          rw [hii] at HIN HFF
          unfold firA at HIN
          clear hyo hy hii HSV hff
          go_wp2_with fail
          refine HLT.out.mono ?_
          rintro o_ w8 ⟨rfl,hb⟩
          clear ec0 ec1 ec2 ec3 el fl rl fc0 fc1 fc2 fc3 fc4 fc5 fz0 fz1 fz2 fz3 fz4 fz5 rc0 rc1 rc2 rc3 rc4 rc5 rz0 rz1 rz2 rz3 rz4 rz5
          clear HLT HQM
          have HW9:=Lib.hid (HW8.out.below hb)
          have HOW9:=Lib.hid (ownsRow_below HOW8.out hb)
          have HB9:=Lib.hid (HB8.out.trans (hb.mono HB8.out.size))
          have HR9:=Lib.hid (HR8.out.below hb HR8.out.lt)
          have HE9:=Lib.hid (HE8.out.below hb HE8.out.lt)
          have HF9:=Lib.hid (HF8.out.below hb HF8.out.lt)
          have hs9:=HB9.out.size
          have hq9:=HF9.out.lt
          clear hb HB8 HR8 HE8 HF8
          have hbA:=(Below.refl w8.heap.size w8).alloc (Nat.le_refl _) (.cells #[.int .i64 f.nominal,.int .i64 f.kind,.int .i64 f.save,.string f.letter] 112)
          have HXA:=Lib.hid (Blk.new w8 112 #[.int .i64 f.nominal,.int .i64 f.kind,.int .i64 f.save,.string f.letter])
          have ec0:=HE9.out.cell 0 (v:=.int .i64 x.n.off) rfl
          have ec1:=HE9.out.cell 1 (v:=.string x.ru) rfl
          have ec2:=HE9.out.cell 2 (v:=.int .i64 x.n.save) rfl
          have ec3:=HE9.out.cell 3 (v:=.string x.fm) rfl
          have el:=HE9.out.lt
          have fc0:=HF9.out.cell 0 (v:=.int .i64 b) rfl
          have fc1:=HF9.out.cell 1 (v:=.int .i64 x.n.off) rfl
          have fc2:=HF9.out.cell 2 (v:=.int .i64 0) rfl
          have fc3:=HF9.out.cell 3 (v:=.string ⟨#[]⟩) rfl
          have fc4:=HF9.out.cell 4 (v:=.string x.fm) rfl
          have fc5:=HF9.out.cell 5 (v:=.slice Au 0 cu) rfl
          have fz0:=HF9.out.frozen 0
          have fz1:=HF9.out.frozen 1
          have fz2:=HF9.out.frozen 2
          have fz3:=HF9.out.frozen 3
          have fz4:=HF9.out.frozen 4
          have fz5:=HF9.out.frozen 5
          have fl:=HF9.out.lt
          have rz0:=HR9.out.frozen 0
          have rz1:=HR9.out.frozen 1
          have rz2:=HR9.out.frozen 2
          have rz3:=HR9.out.frozen 3
          have rz4:=HR9.out.frozen 4
          have rz5:=HR9.out.frozen 5
          have rc0:=HR9.out.cell 0 (v:=.int .i64 0) rfl
          have rc1:=HR9.out.cell 1 (v:=.int .i64 0) rfl
          have rc2:=HR9.out.cell 2 (v:=.int .i64 0) rfl
          have rc3:=HR9.out.cell 3 (v:=.string ⟨#[]⟩) rfl
          have rc4:=HR9.out.cell 4 (v:=.string ⟨#[]⟩) rfl
          have rc5:=HR9.out.cell 5 (v:=.slice none 0 0) rfl
          have rl:=HR9.out.lt
          go_wp2_with fail
          refine (HAH.out _ (HB9.out.trans (hbA.mono HB9.out.size)) (Sl.of_own (HW9.out.below hbA).2)).mono ?_
          rintro o_ w9 ⟨rfl,hb⟩
          clear ec0 ec1 ec2 ec3 el fl rl fc0 fc1 fc2 fc3 fc4 fc5 fz0 fz1 fz2 fz3 fz4 fz5 rc0 rc1 rc2 rc3 rc4 rc5 rz0 rz1 rz2 rz3 rz4 rz5
          have HX9:=Lib.hid (HXA.out.below hb (by simp))
          have hb:=hbA.trans (hb.mono (by simp))
          have HOWa:=Lib.hid (ownsRow_below HOW9.out hb)
          have hs89:=hb.size
          clear HAH hbA HXA HW9
          have HBa:=Lib.hid (HB9.out.trans (hb.mono HB9.out.size))
          have HRa:=Lib.hid (HR9.out.below hb HR9.out.lt)
          have HEa:=Lib.hid (HE9.out.below hb HE9.out.lt)
          have HFa:=Lib.hid (HF9.out.below hb HF9.out.lt)
          have hsa:=HBa.out.size
          have hqa:=HFa.out.lt
          clear hb HB9 HR9 HE9 HF9
          have ec0:=HEa.out.cell 0 (v:=.int .i64 x.n.off) rfl
          have ec1:=HEa.out.cell 1 (v:=.string x.ru) rfl
          have ec2:=HEa.out.cell 2 (v:=.int .i64 x.n.save) rfl
          have ec3:=HEa.out.cell 3 (v:=.string x.fm) rfl
          have el:=HEa.out.lt
          have fc0:=HFa.out.cell 0 (v:=.int .i64 b) rfl
          have fc1:=HFa.out.cell 1 (v:=.int .i64 x.n.off) rfl
          have fc2:=HFa.out.cell 2 (v:=.int .i64 0) rfl
          have fc3:=HFa.out.cell 3 (v:=.string ⟨#[]⟩) rfl
          have fc4:=HFa.out.cell 4 (v:=.string x.fm) rfl
          have fc5:=HFa.out.cell 5 (v:=.slice Au 0 cu) rfl
          have fz0:=HFa.out.frozen 0
          have fz1:=HFa.out.frozen 1
          have fz2:=HFa.out.frozen 2
          have fz3:=HFa.out.frozen 3
          have fz4:=HFa.out.frozen 4
          have fz5:=HFa.out.frozen 5
          have fl:=HFa.out.lt
          have rz0:=HRa.out.frozen 0
          have rz1:=HRa.out.frozen 1
          have rz2:=HRa.out.frozen 2
          have rz3:=HRa.out.frozen 3
          have rz4:=HRa.out.frozen 4
          have rz5:=HRa.out.frozen 5
          have rc0:=HRa.out.cell 0 (v:=.int .i64 0) rfl
          have rc1:=HRa.out.cell 1 (v:=.int .i64 0) rfl
          have rc2:=HRa.out.cell 2 (v:=.int .i64 0) rfl
          have rc3:=HRa.out.cell 3 (v:=.string ⟨#[]⟩) rfl
          have rc4:=HRa.out.cell 4 (v:=.string ⟨#[]⟩) rfl
          have rc5:=HRa.out.cell 5 (v:=.slice none 0 0) rfl
          have rl:=HRa.out.lt
          go_wp2_with fail
          clear ec0 ec1 ec2 ec3 el fl rl fc0 fc1 fc2 fc3 fc4 fc5 fz0 fz1 fz2 fz3 fz4 fz5 rc0 rc1 rc2 rc3 rc4 rc5 rz0 rz1 rz2 rz3 rz4 rz5
          have hb:=(Below.refl w9.heap.size w9).alloc (Nat.le_refl _) (.cells #[.int .i64 y.nominal,.int .i64 y.kind,.int .i64 y.save,.string y.letter] 112)
          have HXc:=Lib.hid (HX9.out.below hb HX9.out.lt)
          have HYc:=Lib.hid (Blk.new w9 112 #[.int .i64 y.nominal,.int .i64 y.kind,.int .i64 y.save,.string y.letter])
          have HOWc:=Lib.hid (ownsRow_below HOWa.out hb)
          have HBc:=Lib.hid (HBa.out.trans (hb.mono HBa.out.size))
          have HRc:=Lib.hid (HRa.out.below hb HRa.out.lt)
          have HEc:=Lib.hid (HEa.out.below hb HEa.out.lt)
          have HFc:=Lib.hid (HFa.out.below hb HFa.out.lt)
          have hsc:=HBc.out.size
          have hqc:=HFc.out.lt
          clear hb HBa HRa HEa HFa
          obtain ⟨w10,hw10⟩:∃ W,w9.alloc (.cells #[.int .i64 y.nominal,.int .i64 y.kind,.int .i64 y.save,.string y.letter] 112) = W:=⟨_,rfl⟩
          rw [hw10] at HBc HRc HEc HFc HXc HYc HOWc hsc hqc ⊢
          clear hw10
          have hxl9:=HX9.out.lt
          have xq0:=HXc.out.cell 0 (v:=.int .i64 f.nominal) rfl
          have xq1:=HXc.out.cell 1 (v:=.int .i64 f.kind) rfl
          have xq2:=HXc.out.cell 2 (v:=.int .i64 f.save) rfl
          have xq3:=HXc.out.cell 3 (v:=.string f.letter) rfl
          have ec0:=HEc.out.cell 0 (v:=.int .i64 x.n.off) rfl
          have ec1:=HEc.out.cell 1 (v:=.string x.ru) rfl
          have ec2:=HEc.out.cell 2 (v:=.int .i64 x.n.save) rfl
          have ec3:=HEc.out.cell 3 (v:=.string x.fm) rfl
          have el:=HEc.out.lt
          have fc0:=HFc.out.cell 0 (v:=.int .i64 b) rfl
          have fc1:=HFc.out.cell 1 (v:=.int .i64 x.n.off) rfl
          have fc2:=HFc.out.cell 2 (v:=.int .i64 0) rfl
          have fc3:=HFc.out.cell 3 (v:=.string ⟨#[]⟩) rfl
          have fc4:=HFc.out.cell 4 (v:=.string x.fm) rfl
          have fc5:=HFc.out.cell 5 (v:=.slice Au 0 cu) rfl
          have fz0:=HFc.out.frozen 0
          have fz1:=HFc.out.frozen 1
          have fz2:=HFc.out.frozen 2
          have fz3:=HFc.out.frozen 3
          have fz4:=HFc.out.frozen 4
          have fz5:=HFc.out.frozen 5
          have fl:=HFc.out.lt
          have rz0:=HRc.out.frozen 0
          have rz1:=HRc.out.frozen 1
          have rz2:=HRc.out.frozen 2
          have rz3:=HRc.out.frozen 3
          have rz4:=HRc.out.frozen 4
          have rz5:=HRc.out.frozen 5
          have rc0:=HRc.out.cell 0 (v:=.int .i64 0) rfl
          have rc1:=HRc.out.cell 1 (v:=.int .i64 0) rfl
          have rc2:=HRc.out.cell 2 (v:=.int .i64 0) rfl
          have rc3:=HRc.out.cell 3 (v:=.string ⟨#[]⟩) rfl
          have rc4:=HRc.out.cell 4 (v:=.string ⟨#[]⟩) rfl
          have rc5:=HRc.out.cell 5 (v:=.slice none 0 0) rfl
          have rl:=HRc.out.lt
          go_region
          clear xq0 xq1 xq2 xq3
          clear ec0 ec1 ec2 ec3 el fl rl fc0 fc1 fc2 fc3 fc4 fc5 fz0 fz1 fz2 fz3 fz4 fz5 rc0 rc1 rc2 rc3 rc4 rc5 rz0 rz1 rz2 rz3 rz4 rz5
          have hf:Fr (fun k=>k = w1.heap.size + 1) w10 ((w10.setCell ⟨w1.heap.size + 1,2,none⟩ (.int .i64 f.save)).setCell ⟨w1.heap.size + 1,3,none⟩ (.string f.letter)).drew:=((Fr.setCell (T:=fun k=>k = w1.heap.size + 1) w10 2 _ rfl).then (Fr.setCell _ 3 _ rfl)).then (Fr.drew _)
          have hF:=(((HFc.out.set 2 (.int .i64 f.save)).set 3 (.string f.letter)).below ((Below.refl _ _).drew) (by have:=hqc;simpa using this))
          obtain ⟨w11,hw11⟩:∃ W,((w10.setCell ⟨w1.heap.size + 1,2,none⟩ (.int .i64 f.save)).setCell ⟨w1.heap.size + 1,3,none⟩ (.string f.letter)).drew = W:=⟨_,rfl⟩
          rw [hw11] at hf hF ⊢
          clear hw11
          have HXd:=Lib.hid (HXc.out.fr hf (by omega))
          have HYd:=Lib.hid (HYc.out.fr hf (by omega))
          have HOWd:=Lib.hid (hf.own HOWc.out (fun g hg e=>own_ne HFc.out HOWc.out (by decide) (by rw [hg,e])))
          have HBd:=Lib.hid (HBc.out.trans ((hf).below HBc.out.size (fun k hk=>by omega)))
          have HRd:=Lib.hid (HRc.out.fr hf (by omega))
          have HEd:=Lib.hid (HEc.out.fr hf (by omega))
          have HFd:=Lib.hid (hF)
          have hsd:=HBd.out.size
          clear hf hF HOWc HXc HYc
          go_wp2_with fail
          refine wp_invL (fin:=?fnI2) (by kernel_rfl) [120,121,122,123,124,125,126,127,128,129,999]
           [.is (.pointer (some ⟨w1.heap.size + 1,0,none⟩)),.is (.int .i64 b),.is (.agg #[.int .i64 f.nominal,.int .i64 f.kind,.int .i64 f.save,.string f.letter]),.is (.pointer (some ⟨w1.heap.size,0,none⟩)),.is (.int .i64 x.n.off),.is (.pointer (some ⟨w9.heap.size,2,none⟩)),.is (.int .i64 y.save),.is (.int .i64 ii),.is (.int .i64 (max b ii)),.is (.pointer (some ⟨w1.heap.size + 1,0,none⟩))] 10 (by simp) (by kernel_rfl) (by kernel_rfl) ?finI2 ?_ ?_
          case finI2 =>
           intro x_
           simp only [frameOf,List.foldl_cons,List.foldl_nil,Act.put,List.setIfInBounds_toArray,List.set_cons_succ,List.set_cons_zero,List.set_nil]
           rfl
          ·as_aux_lemma =>
            simp only [List.take_succ_cons,List.take_zero]
            refine ⟨?_,?_,?_,?_,?_,?_,?_,?_,?_,?_,trivial⟩
            ·intro x_ w1_ R_ hB_ hf hR
             clear hf
             simp only [upd] at hR ⊢
             go_wp2_with fail
             exact hR _ _ rfl (Below.refl _ _)
            ·intro x_ w1_ R_ hB_ hf hR
             have e0:x_ 120 = .pointer (some ⟨w1.heap.size + 1,0,none⟩):=hf 0 (by kernel_rfl)
             have q0:=Blk.cell (Blk.below HFd.out hB_ HFd.out.lt) 0 (v:=.int .i64 b) rfl
             clear hf
             simp only [upd] at hR ⊢
             simp only [e0] at hR ⊢
             go_wp2_with fail
             exact hR _ _ rfl (Below.refl _ _)
            ·intro x_ w1_ R_ hB_ hf hR
             have hx_:=Blk.below HXd.out hB_ HXd.out.lt
             have q0:=hx_.cell 0 (v:=.int .i64 f.nominal) rfl
             have q1:=hx_.cell 1 (v:=.int .i64 f.kind) rfl
             have q2:=hx_.cell 2 (v:=.int .i64 f.save) rfl
             have q3:=hx_.cell 3 (v:=.string f.letter) rfl
             clear hf
             simp only [upd] at hR ⊢
             go_wp2_with fail
             exact hR _ _ rfl (Below.refl _ _)
            ·intro x_ w1_ R_ hB_ hf hR
             clear hf
             simp only [upd] at hR ⊢
             go_wp2_with fail
             exact hR _ _ rfl (Below.refl _ _)
            ·intro x_ w1_ R_ hB_ hf hR
             have e3:x_ 123 = .pointer (some ⟨w1.heap.size,0,none⟩):=hf 3 (by kernel_rfl)
             have q0:=Blk.cell (Blk.below HEd.out hB_ HEd.out.lt) 0 (v:=.int .i64 x.n.off) rfl
             clear hf
             simp only [upd] at hR ⊢
             simp only [e3] at hR ⊢
             go_wp2_with fail
             exact hR _ _ rfl (Below.refl _ _)
            ·intro x_ w1_ R_ hB_ hf hR
             clear hf
             simp only [upd] at hR ⊢
             go_wp2_with fail
             exact hR _ _ rfl (Below.refl _ _)
            ·intro x_ w1_ R_ hB_ hf hR
             have e5:x_ 125 = .pointer (some ⟨w9.heap.size,2,none⟩):=hf 5 (by kernel_rfl)
             have q0:=Blk.cell (Blk.below HYd.out hB_ HYd.out.lt) 2 (v:=.int .i64 y.save) rfl
             clear hf
             simp only [upd] at hR ⊢
             simp only [e5] at hR ⊢
             go_wp2_with fail
             exact hR _ _ rfl (Below.refl _ _)
            ·intro x_ w1_ R_ hB_ hf hR
             have e2:x_ 122 = .agg #[.int .i64 f.nominal,.int .i64 f.kind,.int .i64 f.save,.string f.letter]:=hf 2 (by kernel_rfl)
             have e4:x_ 124 = .int .i64 x.n.off:=hf 4 (by kernel_rfl)
             have e6:x_ 126 = .int .i64 y.save:=hf 6 (by kernel_rfl)
             clear hf
             simp only [upd] at hR ⊢
             simp only [e2,e4,e6] at hR ⊢
             go_wp2_with fail
             refine (HIN.out w1_).mono ?_
             rintro o_ w2_ ⟨rfl,hb⟩
             go_wp2_with fail
             exact hR _ _ rfl hb
            ·intro x_ w1_ R_ hB_ hf hR
             have e1:x_ 121 = .int .i64 b:=hf 1 (by kernel_rfl)
             have e7:x_ 127 = .int .i64 ii:=hf 7 (by kernel_rfl)
             clear hf
             simp only [upd] at hR ⊢
             simp only [e1,e7] at hR ⊢
             go_wp2_with fail
             exact hR _ _ rfl (Below.refl _ _)
            ·intro x_ w1_ R_ hB_ hf hR
             clear hf
             simp only [upd] at hR ⊢
             go_wp2_with fail
             exact hR _ _ rfl (Below.refl _ _)
          ·intro x12 w12 hb_ hF_
           have e0:x12 120 = .pointer (some ⟨w1.heap.size + 1,0,none⟩):=hF_ 0 (by omega)
           have e1:x12 121 = .int .i64 b:=hF_ 1 (by omega)
           have e2:x12 122 = .agg #[.int .i64 f.nominal,.int .i64 f.kind,.int .i64 f.save,.string f.letter]:=hF_ 2 (by omega)
           have e3:x12 123 = .pointer (some ⟨w1.heap.size,0,none⟩):=hF_ 3 (by omega)
           have e4:x12 124 = .int .i64 x.n.off:=hF_ 4 (by omega)
           have e5:x12 125 = .pointer (some ⟨w9.heap.size,2,none⟩):=hF_ 5 (by omega)
           have e6:x12 126 = .int .i64 y.save:=hF_ 6 (by omega)
           have e7:x12 127 = .int .i64 ii:=hF_ 7 (by omega)
           have e8:x12 128 = .int .i64 (max b ii):=hF_ 8 (by omega)
           have e9:x12 129 = .pointer (some ⟨w1.heap.size + 1,0,none⟩):=hF_ 9 (by omega)
           simp only [List.drop_succ_cons,List.drop_zero]
           simp only [e0,e1,e2,e3,e4,e5,e6,e7,e8,e9]
           clear hF_ e0 e1 e2 e3 e4 e5 e6 e7 e8 e9
           have HF9:=Lib.hid (HFd.out.below hb_ HFd.out.lt)
           have fc0:=HF9.out.cell 0 (v:=.int .i64 b) rfl
           have fz0:=HF9.out.frozen 0
           have fl:=HF9.out.lt
           refine wpList_stop ?gS3 (w12.setCell ⟨w1.heap.size + 1,0,none⟩ (.int .i64 (max b ii))) ?aS3 ?bS3
           case aS3 =>
            intro Q_ hQ_
            go_wp2_with fail
            exact hQ_
           try dsimp only
           clear fc0 fz0 fl
           have hf:Fr (fun k=>k = w1.heap.size + 1) w12 (w12.setCell ⟨w1.heap.size + 1,0,none⟩ (.int .i64 (max b ii))):=Fr.setCell w12 0 _ rfl
           have hb:=hb_
           have HOWe:=Lib.hid (hf.own (ownsRow_below HOWd.out hb) (fun g hg e=>own_ne HF9.out (ownsRow_below HOWd.out hb) (by decide) (by rw [hg,e])))
           have HBe:=Lib.hid (HBd.out.trans (hb.mono HBd.out.size))
           have HRe:=Lib.hid (HRd.out.below hb HRd.out.lt)
           have HEe:=Lib.hid (HEd.out.below hb HEd.out.lt)
           have hse:=HBe.out.size
           have HBg:=Lib.hid (HBe.out.trans ((hf).below HBe.out.size (fun k hk=>by omega)))
           have HRg:=Lib.hid (HRe.out.fr hf (by omega))
           have HEg:=Lib.hid (HEe.out.fr hf (by omega))
           have HFg:=Lib.hid (HF9.out.set 0 (.int .i64 (max b ii)))
           have hsg:=HBg.out.size
           have ec0:=HEg.out.cell 0 (v:=.int .i64 x.n.off) rfl
           have ec1:=HEg.out.cell 1 (v:=.string x.ru) rfl
           have ec2:=HEg.out.cell 2 (v:=.int .i64 x.n.save) rfl
           have ec3:=HEg.out.cell 3 (v:=.string x.fm) rfl
           have el:=HEg.out.lt
           have fc0:=HFg.out.cell 0 (v:=.int .i64 ((max b ii))) rfl
           have fc1:=HFg.out.cell 1 (v:=.int .i64 x.n.off) rfl
           have fc2:=HFg.out.cell 2 (v:=.int .i64 f.save) rfl
           have fc3:=HFg.out.cell 3 (v:=.string f.letter) rfl
           have fc4:=HFg.out.cell 4 (v:=.string x.fm) rfl
           have fc5:=HFg.out.cell 5 (v:=.slice Au 0 cu) rfl
           have fz0:=HFg.out.frozen 0
           have fz1:=HFg.out.frozen 1
           have fz2:=HFg.out.frozen 2
           have fz3:=HFg.out.frozen 3
           have fz4:=HFg.out.frozen 4
           have fz5:=HFg.out.frozen 5
           have fl:=HFg.out.lt
           have rz0:=HRg.out.frozen 0
           have rz1:=HRg.out.frozen 1
           have rz2:=HRg.out.frozen 2
           have rz3:=HRg.out.frozen 3
           have rz4:=HRg.out.frozen 4
           have rz5:=HRg.out.frozen 5
           have rc0:=HRg.out.cell 0 (v:=.int .i64 0) rfl
           have rc1:=HRg.out.cell 1 (v:=.int .i64 0) rfl
           have rc2:=HRg.out.cell 2 (v:=.int .i64 0) rfl
           have rc3:=HRg.out.cell 3 (v:=.string ⟨#[]⟩) rfl
           have rc4:=HRg.out.cell 4 (v:=.string ⟨#[]⟩) rfl
           have rc5:=HRg.out.cell 5 (v:=.slice none 0 0) rfl
           have rl:=HRg.out.lt
           go_wp2_with fail
           have HEND:=Lib.hid (foot_end _ (((max b ii))) (x.n.off) (f.save) (f.letter) (x.fm) (.slice Au 0 cu) HRg.out HBg.out (by omega) (own_wide HOWe.out (by omega)) (own_ne HRg.out HOWe.out (by decide)))
           have c0:=HEND.out.2.2.cell 0 (v:=.int .i64 ((max b ii))) rfl
           have c1:=HEND.out.2.2.cell 1 (v:=.int .i64 x.n.off) rfl
           have c2:=HEND.out.2.2.cell 2 (v:=.int .i64 f.save) rfl
           have c3:=HEND.out.2.2.cell 3 (v:=.string f.letter) rfl
           have c4:=HEND.out.2.2.cell 4 (v:=.string x.fm) rfl
           have c5:=HEND.out.2.2.cell 5 (v:=.slice Au 0 cu) rfl
           refine bodyPost_ret (v:=.tuple #[.agg #[.int .i64 ((max b ii)),.int .i64 x.n.off,.int .i64 f.save,.string f.letter,.string x.fm,.slice Au 0 cu],.int .i64 0]) ?_ rfl ⟨⟨.slice Au 0 cu,by rw [HFF.out,HE0.out];rfl,by rw [HFF.out];exact HEND.out.2.1⟩,HEND.out.1⟩
           simp [results,Tryz.f22,go_sem,c0,c1,c2,c3,c4,c5]
end
end Go.Proofs.YteekjfgjmccdnaaGreatDoor
