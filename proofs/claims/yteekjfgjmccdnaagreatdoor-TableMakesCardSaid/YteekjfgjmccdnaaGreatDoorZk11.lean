/-
  Layer 14's Make at any zone, walked.
-/
import Derived.Test.YteekjfgjmccdnaaGreatDoorZk10
set_option maxHeartbeats 16000000
set_option maxRecDepth 100000
namespace Go.Proofs.YteekjfgjmccdnaaGreatDoor
section -- HSteps
open Go Go.RowKit Go.Shelf
attribute [local go_sem] Oper.semAt_some
theorem zsteps_any (w:World) (zn:ByteArray) (ev sv:Value) (fr to:Int) :
  Calls Tryz.prog 119 #[zoneA zn ev,setsV zn ev sv,.int .i64 fr,.int .i64 to] w fun o w'=>o = .returned (.func (.func 147) #[] #[.pointer (some ⟨w.heap.size,0,none⟩),.pointer (some ⟨w.heap.size + 1,0,none⟩),.pointer (some ⟨w.heap.size + 2,0,none⟩),.pointer (some ⟨w.heap.size + 3,0,none⟩)])∧Below w.heap.size w w' ∧
   Blk w' w.heap.size 24 #[.string zn,ev]∧Blk w' (w.heap.size + 1) 90 #[setsV zn ev sv]∧Blk w' (w.heap.size + 2) 3 #[.int .i64 fr]∧Blk w' (w.heap.size + 3) 3 #[.int .i64 to]∧w'.heap.size = w.heap.size + 4:=by
 have h1:=(((Blk.new w 24 #[.string zn,ev]).alloc (.cells #[setsV zn ev sv] 90)).alloc (.cells #[.int .i64 fr] 3)).alloc (.cells #[.int .i64 to] 3)
 have h2:=((Blk.new (w.alloc (.cells #[.string zn,ev] 24)) 90 #[setsV zn ev sv]).alloc (.cells #[.int .i64 fr] 3)).alloc (.cells #[.int .i64 to] 3)
 have h3:=(Blk.new ((w.alloc (.cells #[.string zn,ev] 24)).alloc (.cells #[setsV zn ev sv] 90)) 3 #[.int .i64 fr]).alloc (.cells #[.int .i64 to] 3)
 have h4:=Blk.new (((w.alloc (.cells #[.string zn,ev] 24)).alloc (.cells #[setsV zn ev sv] 90)).alloc (.cells #[.int .i64 fr] 3)) 3 #[.int .i64 to]
 simp only [World.size_alloc] at h2 h3 h4
 have HB:=Lib.hid (((((Below.refl w.heap.size w).alloc (Nat.le_refl _) (.cells #[.string zn,ev] 24)).alloc (by simp) (.cells #[setsV zn ev sv] 90)).alloc (by simp;omega) (.cells #[.int .i64 fr] 3)).alloc (by simp;omega) (.cells #[.int .i64 to] 3))
 have HH:=Lib.hid (And.intro h1 (And.intro h2 (And.intro h3 h4)))
 clear h1 h2 h3 h4
 unfold setsV zoneA worldA at *
 go_enter Tryz.func119,Tryz.ntmps119
 go_wp2_with fail
 go_ret
 exact ⟨rfl,HB.out,HH.out.1,HH.out.2.1,HH.out.2.2.1,HH.out.2.2.2,by simp⟩
theorem roundIn_out {P:Program} {a b l l':Nat} {f:FuncId} {tmps:Array Value} {assign body:Code} {w:World} {R:Ending→World→Prop} (h:RoundIn (Fence.wide.inRound l) a P l' f tmps assign body w R):RoundIn Fence.wide b P l' f tmps assign body w R :=
 ⟨trivial,fun c cs _=>h.2 c cs (fun _ h=>by cases h)⟩
theorem iter_in {α:Type} {n l₀:Nat} {P:Program} {g:Nat} {lb:Array Value} {encs:α→Array Value} {R:List α→α→(Nat→Prop)→World→Prop} {S Sp:List α→Prop} {K M:Nat→Prop} {W:World} (h:Iter Fence.wide n P g lb encs R S Sp K M W):Iter (Fence.wide.inRound l₀) n P g lb encs R S Sp K M W :=
 fun l J Jx fJ fx hY O h1 h2 h3=>(h l J Jx fJ fx (fun pre x D O W a b c d e=>let ⟨fn,t,ag,bd,hr,hR⟩:=hY pre x D O W a b c d e;⟨fn,t,ag,bd,hr,roundIn_out hR⟩) O h1 h2 h3).inRound l₀
def StG (sb fb tb:Nat) (sv:Value) (fr to:Int) (yb lp s0:Nat) (O0:Nat→Prop) (J:List Chg→(Nat→Prop)→World→Prop) (out:List Chg) (O:Nat→Prop) (W:World):Prop :=
 ∃ Oj,(∀ k,Oj k→O k)∧J out Oj W∧(O yb∧O sb∧O fb∧O tb)∧(¬ Oj yb∧¬ Oj sb∧¬ Oj fb∧¬ Oj tb)∧(∀ k,Oj k→O0 k∨s0 ≤ k)∧Blk W yb 172 #[.func (.yield lp) #[] #[]]∧Blk W sb 90 #[sv]∧Blk W fb 3 #[.int .i64 fr]∧Blk W tb 3 #[.int .i64 to]
def StX (L:List Chg) (s0:Nat) (O0:Nat→Prop) (Jx:List Chg→(Nat→Prop)→World→Prop) (c:Code) (out:List Chg) (O:Nat→Prop) (W:World):Prop :=
 ∃ Oj,(∀ k,Oj k→O k)∧(∀ k,Oj k→O0 k∨s0 ≤ k)∧c = .ret∧Jx out Oj W∧∃ r2,L = out ++ r2
section
variable {sb fb tb yb lp s0:Nat} {sv:Value} {fr to:Int} {O0:Nat→Prop} {J Jx:List Chg→(Nat→Prop)→World→Prop} {L:List Chg} {α:Type}
theorem stG_feet (fJ:Feet J) (g:List α→List Chg):Feet (fun pre=>StG sb fb tb sv fr to yb lp s0 O0 J (g pre)):=by
 rintro pre O W W' ⟨Oj,h1,h2,⟨o1,o2,o3,o4⟩,h3,h4,h5,h6,h7,h8⟩ hf
 exact ⟨Oj,h1,fJ _ _ _ _ h2 (hf.mono fun k hk=>.inl fun h=>hk (h1 k h)),⟨o1,o2,o3,o4⟩,h3,h4,h5.fr hf (fun h=>h o1),h6.fr hf (fun h=>h o2),h7.fr hf (fun h=>h o3),h8.fr hf (fun h=>h o4)⟩
theorem stX_feet (fx:Feet Jx) (g:List α→List Chg) (c:Code):Feet (fun pre=>StX L s0 O0 Jx c (g pre)):=by
 rintro pre O W W' ⟨Oj,h1,h2,hc,hJ,hr⟩ hf
 exact ⟨Oj,h1,h2,hc,fx _ _ _ _ hJ (hf.mono fun k hk=>.inl fun h=>hk (h1 k h)),hr⟩
def eraG (S:List SetF) (l:List EraF) (fr to:Int) (pre:List Nat):List Chg:=(List.range pre.length).flatMap (eraT S l fr to)
def StE (L:List Chg) (s0:Nat) (O0:Nat→Prop) (Jx:List Chg→(Nat→Prop)→World→Prop) (c:Code) (_:List Nat) (O:Nat→Prop) (W:World):Prop:=∃ out,StX L s0 O0 Jx c out O W
theorem stE_feet (fx:Feet Jx) (c:Code):Feet (StE L s0 O0 Jx c):=by
 rintro pre O W W' ⟨out,h⟩ hf
 exact ⟨out,stX_feet (α:=Unit) fx (fun _=>out) c [] O W W' h hf⟩
end
theorem steps_iter (n:Nat) (hn:8 ≤ n) (zb sb fb tb B B2:Nat) (Wb w0:World) (zn:ByteArray) (ev sv:Value) (l:List EraF) (S:List SetF) (fr to:Int) (W:World)
  (hzb:Blk W zb 24 #[.string zn,ev]) (hsb:Blk W sb 90 #[setsV zn ev sv]) (hfb:Blk W fb 3 #[.int .i64 fr]) (htb:Blk W tb 3 #[.int .i64 to]) (hz:ZW W B ev sv l S) (ho:ZOk l S) (h0:errZ S l = 0) (hlet:∀ s ∈ S,letOk s.l)
  (hE:∀ e ∈ endL S l,-9000000000000000000 ≤ e∧e ≤ 9000000000000000000) (hfr:-4500000000000 ≤ fr∧fr ≤ 4500000000000) (hto:-4500000000000 ≤ to∧to ≤ 4500000000000)
  (hbs:B2 ≤ sb∧B2 ≤ fb∧B2 ≤ tb∧B ≤ B2) (hB2:B2 ≤ W.heap.size) (hWb:SameB B2 Wb W) (hm0:Tryz.MaxL w0) (hw0:w0.heap.size ≤ B2) :
  Iter Fence.wide n Tryz.prog 147 #[.pointer (some ⟨zb,0,none⟩),.pointer (some ⟨sb,0,none⟩),.pointer (some ⟨fb,0,none⟩),.pointer (some ⟨tb,0,none⟩)] encC (RC (stepsL S l fr to) B2 Wb) (fun xs=>xs = stepsL S l fr to) (fun pre=>∃ rest,stepsL S l fr to = pre ++ rest) (fun k=>(k = sb∨k = fb∨k = tb)∨k < B2) (fun k=>k = sb∨k = fb∨k = tb) W:=by
 intro lp J Jx fJ fx hY O0 hJ0 hO0 hK
 obtain ⟨hsB,hfB,htB,hBB⟩:=hbs
 show CallsIn Fence.wide n Tryz.prog 147 #[.func (.yield lp) #[] #[],.pointer (some ⟨zb,0,none⟩),.pointer (some ⟨sb,0,none⟩),.pointer (some ⟨fb,0,none⟩),.pointer (some ⟨tb,0,none⟩)] W _
 refine callsIn_of_wp_marks Tryz.func147 rfl trivial ?_ rfl
 simp only [Tryz.ntmps147,List.size_toArray,List.length_cons,List.length_nil,Nat.reduceAdd,Nat.reduceSub,Array.replicate_succ,Array.replicate_zero,List.push_toArray,List.append_toArray,List.nil_append,List.cons_append]
 have z0:=hzb.cell 0 (v:=.string zn) rfl
 have z1:=hzb.cell 1 (v:=ev) rfl
 have s0:=hsb.cell 0 (v:=setsV zn ev sv) rfl
 have hzl:=hzb.lt
 have hsl:=hsb.lt
 have hfl:=hfb.lt
 have htl:=htb.lt
 have HSB:=Lib.hid hsb
 have HFB:=Lib.hid hfb
 have HTB:=Lib.hid htb
 have HZ:=Lib.hid hz
 have HO:=Lib.hid ho
 have HE0:=Lib.hid h0
 have HLT:=Lib.hid hlet
 have HEI:=Lib.hid hE
 have HWB:=Lib.hid hWb
 obtain ⟨sz,hsz⟩:∃ v,setsV zn ev sv = v:=⟨_,rfl⟩
 obtain ⟨Ae,ce,he,-,-⟩:=hz.eras.form
 have HSZ:=Lib.hid hsz
 have HEV:=Lib.hid he
 rw [hsz] at s0
 rw [he] at z1
 clear hzb hsb hfb htb hz ho h0 hlet hE hWb hsz he
 gi_wp2
 refine wpIn_scope ?_
 gi_wp2
 refine wpIn_label ?_
 gi_wp2
 have hb1:Below W.heap.size W (W.alloc (.cells #[.func (.yield lp) #[] #[]] 172)):=(Below.refl _ _).alloc (Nat.le_refl _) _
 have hy1:=Blk.new W 172 #[.func (.yield lp) #[] #[]]
 obtain ⟨W1,hW1⟩:∃ W1,W.alloc (.cells #[.func (.yield lp) #[] #[]] 172) = W1:=⟨_,rfl⟩
 rw [hW1] at hb1 hy1 ⊢
 have hs1:=hy1.lt
 have HB1:=Lib.hid hb1
 have HY1:=Lib.hid hy1
 have HSP:=Lib.hid (callsIn_wide (n:=n - 1).2 (spansZ_any W1 zn ev sv))
 rw [HSZ.out,HEV.out] at HSP
 unfold zoneA at HSP
 clear hW1 z0 z1 s0 hb1 hy1
 refine ⟨trivial,fun _=>by omega,HSP.out.mono ?_⟩
 rintro o w3 ⟨rfl,hb3,hz3,hs3,hs3s⟩
 have HB3:=Lib.hid (HB1.out.trans (hb3.mono HB1.out.size))
 have HY3:=Lib.hid (HY1.out.below hb3 hs1)
 have HC3:=Lib.hid (And.intro hz3 hs3)
 have hw3:=hb3.size
 clear HSP hb3 hz3 hs3
 gi_wp2
 refine range_own (α:=Nat) rfl (by omega) (gf:=173) (lb:=#[.pointer (some ⟨W1.heap.size,0,none⟩),.pointer (some ⟨W1.heap.size + 1,0,none⟩)]) rfl trivial (enters_of Tryz.func173 (by kernel_rfl) rfl)
  (encs:=encS l (endL S l)) (R:=RS l B2 w3) (K:=fun k=>k < B2)
  (fun V hV=>spansZ_iter (n - 1) (by omega) _ _ B B2 w3 zn ev sv l S V (by rw [HEV.out];exact HC3.out.1.below hV HC3.out.1.lt) (by rw [HSZ.out];exact HC3.out.2.below hV HC3.out.2.lt) ((HZ.out.below HB3.out).below hV) HO.out HE0.out hBB (by have:=hV.size;omega) (fun k hk=>hV.block k (by omega)))
  (fun _=>rfl) (fun pre=>StG sb fb tb sz fr to W.heap.size lp W.heap.size O0 J (eraG S l fr to pre)) (StE (stepsL S l fr to) W.heap.size O0 Jx) (stG_feet fJ _) (stE_feet fx)
  (fun k=>O0 k∨k = W.heap.size∨k = sb∨k = fb∨k = tb) ⟨O0,fun k h=>.inl h,fJ _ _ _ _ hJ0 (Fr.of_below HB3.out (Nat.le_refl _)),⟨.inr (.inl rfl),.inr (.inr (.inl rfl)),.inr (.inr (.inr (.inl rfl))),.inr (.inr (.inr (.inr rfl)))⟩,⟨fun e=>by have:=hO0 _ e;omega,hK _ (.inl (.inl rfl)),hK _ (.inl (.inr (.inl rfl))),hK _ (.inl (.inr (.inr rfl)))⟩,fun k h=>.inl h,HY3.out,by rw [← HSZ.out];exact HSB.out.below HB3.out hsl,HFB.out.below HB3.out hfl,HTB.out.below HB3.out htl⟩
  (fun k hk=>by rcases hk with h | h | h | h | h;have:=hO0 _ h;all_goals omega) (fun k hk=>by omega) (fun k hk h=>by
    rcases h with h | h | h | h | h
    ·exact hK k (.inr hk) h
    ·omega
    ·omega
    ·omega
    ·omega) ?round ?done ?stop
 case round =>
  intro l2 pre kx O D V hI hBO hBD hDO hR nOl nDl hlow hltl
  obtain ⟨hnD,rfl,hkl,hsame⟩:=hR
  have hsb:SameB B2 w3 V:=⟨by omega,hsame⟩
  have hVs:w3.heap.size < V.heap.size:=by omega
  obtain ⟨k,hpk⟩:∃ k,pre.length = k:=⟨_,rfl⟩
  rw [hpk] at hkl ⊢
  have hgx:l.getD k default = l[k]:=by rw [List.getD_eq_getElem?_getD,List.getElem?_eq_getElem hkl];rfl
  have hmem:l[k] ∈ l:=List.getElem_mem hkl
  have hoff:=errZ_off HE0.out hkl
  obtain ⟨x,hx⟩:∃ x,l[k] = x:=⟨_,rfl⟩
  rw [hx] at hgx hmem hoff
  have hfv:=fromV_in HEI.out k
  have htv:=toV_in HEI.out k
  have HAT:=Lib.hid (fun h=>eraT_at (S:=S) (l:=l) (fr:=fr) (to:=to) (k:=k) h)
  have HIN:=Lib.hid (fun h=>eraT_in (S:=S) (l:=l) (fr:=fr) (to:=to) (k:=k) h)
  have HSK:=Lib.hid (fun h=>eraT_skip (S:=S) (l:=l) (fr:=fr) (to:=to) (k:=k) h)
  obtain ⟨rest0,hrest0⟩:=stepsL_split (S:=S) (fr:=fr) (to:=to) hkl
  obtain ⟨fv,hfv2⟩:∃ f,fromV (endL S l) k = f:=⟨_,rfl⟩
  obtain ⟨tv,htv2⟩:∃ f,toV (endL S l) k = f:=⟨_,rfl⟩
  unfold encS
  rw [hgx,hfv2,htv2]
  rw [hgx,hfv2,htv2] at HAT HIN
  rw [hfv2,htv2] at HSK
  rw [hfv2] at hfv
  rw [htv2] at htv
  have HREST:=Lib.hid hrest0
  have HPK:=Lib.hid hpk
  have HBO:=Lib.hid hBO
  have HMEM:=Lib.hid hmem
  have hE1:=(Blk.new V 42 #[.int .i64 x.n.off,.string x.ru,.int .i64 x.n.save,.string x.fm,.bool x.en,.int .i64 x.n.year,.int .i64 x.n.month,.int .i64 x.n.dk,.int .i64 x.n.dw,.int .i64 x.n.dn,.int .i64 x.n.sec,.int .i64 x.n.ak]).alloc (.cells #[.int .i64 fv,.int .i64 tv] 80)
  have hT1:=Blk.new (V.alloc (.cells #[.int .i64 x.n.off,.string x.ru,.int .i64 x.n.save,.string x.fm,.bool x.en,.int .i64 x.n.year,.int .i64 x.n.month,.int .i64 x.n.dk,.int .i64 x.n.dw,.int .i64 x.n.dn,.int .i64 x.n.sec,.int .i64 x.n.ak] 42)) 80 #[.int .i64 fv,.int .i64 tv]
  rw [World.size_alloc] at hT1
  have hbV:Below V.heap.size V ((V.alloc (.cells #[.int .i64 x.n.off,.string x.ru,.int .i64 x.n.save,.string x.fm,.bool x.en,.int .i64 x.n.year,.int .i64 x.n.month,.int .i64 x.n.dk,.int .i64 x.n.dw,.int .i64 x.n.dn,.int .i64 x.n.sec,.int .i64 x.n.ak] 42)).alloc (.cells #[.int .i64 fv,.int .i64 tv] 80)):=((Below.refl _ _).alloc (Nat.le_refl _) _).alloc (by simp) _
  unfold EraF.val eraA
  clear hI hBO hBD hDO hsame hpk hgx hmem hx hfv2 htv2 hrest0
  gi_wp2
  intro Vb hfb hIb r0 hr0
  obtain ⟨Oj,hsub,hJ,⟨oy,os,of_,ot⟩,⟨ny,ns,nf,nt⟩,hext,hyb,hsbb,hfbb,htbb⟩:=hIb
  have hE2:=hE1.fr hfb (by omega)
  have hT2:=hT1.fr hfb (by omega)
  have hVb:V.heap.size + 2 ≤ Vb.heap.size:=Nat.le_trans (by simp) hfb.size
  have hsb2:=(hsb.then_below hbV (by omega)).then_fr hfb (fun k hk e=>by omega)
  have HBB:=Lib.hid ((HBO.out.fr (Fr.of_below (T:=fun _=>True) hbV (Nat.le_refl _))).fr hfb)
  have HS2:=Lib.hid hsb2
  have HSW:=Lib.hid ((HWB.out.then_below HB3.out hB2).trans hsb2)
  have HJ:=Lib.hid hJ
  have HYB:=Lib.hid hyb
  have HSBB:=Lib.hid hsbb
  have HFBB:=Lib.hid hfbb
  have HTBB:=Lib.hid htbb
  have HEB:=Lib.hid hE2
  have HTT:=Lib.hid hT2
  have HSUB:=Lib.hid hsub
  have HEXT:=Lib.hid hext
  have HZB:=Lib.hid (hsb2.zw (HZ.out.below HB3.out) hBB hm0 hw0)
  have hnyb:=hyb.lt
  have HRU:=Lib.hid ((wide1 l2).calls (n:=n - 1 - 1 - 1) (rulesT_any Vb zn ev sv B S HZB.out.sets HZB.out.le x))
  rw [HSZ.out] at HRU
  unfold EraF.val eraA at HRU
  have t0:=hT2.cell 0 (v:=.int .i64 fv) rfl
  have t1:=hT2.cell 1 (v:=.int .i64 tv) rfl
  have f0:=hfbb.cell 0 (v:=.int .i64 fr) rfl
  have b0:=htbb.cell 0 (v:=.int .i64 to) rfl
  have q0:=hsbb.cell 0 (v:=sz) rfl
  have e0:=hE2.cell 0 (v:=.int .i64 x.n.off) rfl
  have e1:=hE2.cell 1 (v:=.string x.ru) rfl
  have e2:=hE2.cell 2 (v:=.int .i64 x.n.save) rfl
  have e3:=hE2.cell 3 (v:=.string x.fm) rfl
  have e4:=hE2.cell 4 (v:=.bool x.en) rfl
  have e5:=hE2.cell 5 (v:=.int .i64 x.n.year) rfl
  have e6:=hE2.cell 6 (v:=.int .i64 x.n.month) rfl
  have e7:=hE2.cell 7 (v:=.int .i64 x.n.dk) rfl
  have e8:=hE2.cell 8 (v:=.int .i64 x.n.dw) rfl
  have e9:=hE2.cell 9 (v:=.int .i64 x.n.dn) rfl
  have e10:=hE2.cell 10 (v:=.int .i64 x.n.sec) rfl
  have e11:=hE2.cell 11 (v:=.int .i64 x.n.ak) rfl
  have hebl:=hE2.lt
  have htbl:=hT2.lt
  have hsbl:=hsbb.lt
  have hfbl:=hfbb.lt
  have htbl2:=htbb.lt
  have hwrap:wrap64 (tv - 1) = tv - 1:=IntWalk.wrap64_in _ (by omega)
  have hwrap2:IntKind.i64.wrap (tv - 1) = tv - 1:=IntWalk.i64_in _ (by omega)
  clear hsb hsb2 hE1 hT1 hE2 hT2 hbV hfb hJ hyb hsbb hfbb htbb hsub hext
  have hskip:(tv - 1 ≤ fr∨to < fv)∨¬ (tv - 1 ≤ fr∨to < fv):=Classical.em _
  rcases hskip with hsk | hsk
  ·have HG:=Lib.hid (show eraG S l fr to (pre ++ [k]) = eraG S l fr to pre by
    unfold eraG
    rw [List.length_append,List.length_singleton,HPK.out,stepsF_succ,HSK.out hsk,List.append_nil])
   have hcase:decide (tv - 1 ≤ fr) = true∨(decide (tv - 1 ≤ fr) = false∧decide (to < fv) = true):=by
    by_cases h:tv - 1 ≤ fr
    ·exact .inl (decide_eq_true h)
    ·exact .inr ⟨decide_eq_false h,decide_eq_true (by omega)⟩
   clear HRU hsk
   rcases hcase with c1 | ⟨c1,c2⟩
   all_goals
    gi_wp2
    refine ⟨O,fun k h=>.inl h,HBB.out,Fr.refl _ _,?_⟩
    show StG _ _ _ _ _ _ _ _ _ _ _ (eraG S l fr to (pre ++ [k])) O Vb
    rw [HG.out]
    exact ⟨Oj,HSUB.out,HJ.out,⟨oy,os,of_,ot⟩,⟨ny,ns,nf,nt⟩,HEXT.out,HYB.out,HSBB.out,HFBB.out,HTBB.out⟩
  ·have d1:decide (tv - 1 ≤ fr) = false:=decide_eq_false (by omega)
   have d2:decide (to < fv) = false:=decide_eq_false (by omega)
   have HNS:=Lib.hid hsk
   obtain ⟨A,cR,hrv⟩:=rvalE_form HZB.out.sets x
   have HRL:=Lib.hid (HZB.out.sets.rule x)
   rw [hrv] at HRU HRL
   have HRV:=Lib.hid hrv
   have HRO:=Lib.hid (HO.out.rule x)
   have HLO:=Lib.hid (ZOk.ruleL HLT.out x)
   obtain ⟨R,hR⟩:∃ R,ruleE S x = R:=⟨_,rfl⟩
   rw [hR] at HRU HRL HAT HIN HRO HLO
   have HRQ:=Lib.hid hR
   have hfm:=HO.out.fm x HMEM.out
   clear hrv hR
   gi_wp2
   refine ⟨trivial,fun _=>by omega,HRU.out.mono ?_⟩
   rintro o w5 ⟨rfl,hb5⟩
   have HB5:=Lib.hid hb5
   have HQ:=Lib.hid (fun (U:World) (h:Below w5.heap.size w5 U)=>show U.cell? ⟨V.heap.size + 1,0,none⟩ = some (.int .i64 fv)∧U.cell? ⟨V.heap.size + 1,1,none⟩ = some (.int .i64 tv)∧U.cell? ⟨fb,0,none⟩ = some (.int .i64 fr)∧U.cell? ⟨W.heap.size,0,none⟩ = some (.func (.yield lp) #[] #[])∧(U.cell? ⟨V.heap.size,0,none⟩ = some (.int .i64 x.n.off)∧U.cell? ⟨V.heap.size,1,none⟩ = some (.string x.ru)∧U.cell? ⟨V.heap.size,2,none⟩ = some (.int .i64 x.n.save)∧U.cell? ⟨V.heap.size,3,none⟩ = some (.string x.fm)∧U.cell? ⟨V.heap.size,4,none⟩ = some (.bool x.en)∧U.cell? ⟨V.heap.size,5,none⟩ = some (.int .i64 x.n.year)∧U.cell? ⟨V.heap.size,6,none⟩ = some (.int .i64 x.n.month)∧U.cell? ⟨V.heap.size,7,none⟩ = some (.int .i64 x.n.dk)∧U.cell? ⟨V.heap.size,8,none⟩ = some (.int .i64 x.n.dw)∧U.cell? ⟨V.heap.size,9,none⟩ = some (.int .i64 x.n.dn)∧U.cell? ⟨V.heap.size,10,none⟩ = some (.int .i64 x.n.sec)∧U.cell? ⟨V.heap.size,11,none⟩ = some (.int .i64 x.n.ak)) from by
    have hb:=HB5.out.trans (h.mono HB5.out.size)
    have hh:=HEB.out.below hb HEB.out.lt
    exact ⟨(HTT.out.below hb HTT.out.lt).cell 0 rfl,(HTT.out.below hb HTT.out.lt).cell 1 rfl,(HFBB.out.below hb HFBB.out.lt).cell 0 rfl,(HYB.out.below hb HYB.out.lt).cell 0 rfl,hh.cell 0 rfl,hh.cell 1 rfl,hh.cell 2 rfl,hh.cell 3 rfl,hh.cell 4 rfl,hh.cell 5 rfl,hh.cell 6 rfl,hh.cell 7 rfl,hh.cell 8 rfl,hh.cell 9 rfl,hh.cell 10 rfl,hh.cell 11 rfl⟩)
   have hs5:=hb5.size
   have hwd:=wide1 l2
   obtain ⟨p0,p1,p2,p3,m0,m1,m2,m3,m4,m5,m6,m7,m8,m9,m10,m11⟩:=HQ.out w5 (Below.refl _ _)
   clear hb5 t0 t1 f0 b0 q0 e0 e1 e2 e3 e4 e5 e6 e7 e8 e9 e10 e11 HRU
   by_cases hat:fr < fv
   ·have d3:decide (fr < fv) = true:=decide_eq_true hat
    have HG:=Lib.hid (HAT.out HNS.out hat)
    have HSH:=Lib.hid (fun (U:World) (h:Below w5.heap.size w5 U)=>shown_any U x B (.slice A R.length cR) R ((HZB.out.maxl.below HB5.out (Nat.le_refl _)).below h (Nat.le_refl _)) hfm ((RW.mk HRL.out HZB.out.ahead HZB.out.tab HZB.out.le).below (HB5.out.trans (h.mono hs5))) HRO.out fv (by omega) (by omega) (by omega) (sum_ok HRO.out HLO.out hoff.2))
    obtain ⟨⟨yo,yd,ys⟩,hy⟩:∃ y,locW x R fv = y:=⟨_,rfl⟩
    rw [hy] at HSH HG
    unfold EraF.val eraA chgA at HSH
    clear hat hy
    obtain ⟨out,hout⟩:∃ o,eraG S l fr to pre = o:=⟨_,rfl⟩
    have HOUT:=Lib.hid hout
    have HJ2:=Lib.hid (show J out Oj Vb by rw [← HOUT.out];exact HJ.out)
    have hnext:∃ rest,stepsL S l fr to = out ++ ⟨fv,⟨yo,yd,ys⟩⟩ :: rest:=by
     have h:=HREST.out
     rw [HG.out] at h
     refine ⟨turnsL x R (max fr fv) (min to (tv - 1)) ++ rest0,h.trans ?_⟩
     rw [← HOUT.out]
     unfold eraG
     rw [HPK.out]
     rfl
    have HNX:=Lib.hid hnext
    clear hnext hout
    gi_wp2
    refine wpIn_envY (fin:=?fnY) hwd (by kernel_rfl) [29,30,31,32,33,34,35,36,37,38,39,40,41,42]
     [.pointer (some ⟨V.heap.size + 1,0,none⟩),.int .i64 fv,.int .i64 fr,.bool true,.bool true,.func (.yield lp) #[] #[],.agg #[.int .i64 x.n.off,.string x.ru,.int .i64 x.n.save,.string x.fm,.bool x.en,.int .i64 x.n.year,.int .i64 x.n.month,.int .i64 x.n.dk,.int .i64 x.n.dw,.int .i64 x.n.dn,.int .i64 x.n.sec,.int .i64 x.n.ak],.slice A R.length cR,.pointer (some ⟨V.heap.size + 1,0,none⟩),.int .i64 fv,.agg #[.int .i64 fv,.int .i64 yo,.bool yd,.string ys]]
     (fun b=>[.bool (!b),.bool (!b)]) (fun b U=>∃ O6,(∀ k,O6 k→Oj k∨Vb.heap.size ≤ k)∧Bd O6 U∧Fr Oj Vb U∧((b = true∧J (out ++ [⟨fv,⟨yo,yd,ys⟩⟩]) O6 U)∨(b = false∧Jx (out ++ [⟨fv,⟨yo,yd,ys⟩⟩]) O6 U))) (by kernel_rfl) ?finY ?stepsY ?nextY
    case finY =>
     intro b_
     simp only [List.cons_append,List.nil_append,putAll,Act.put,List.setIfInBounds_toArray,List.set_cons_succ,List.set_cons_zero]
     rfl
    case stepsY =>
     refine ⟨?_,?_,?_,?_,?_,?_,?_,?_,?_,?_,?_,⟨fun b_=>by kernel_rfl,fun w1_ hB_=>?yld⟩,fun b_=>⟨.inr ⟨by kernel_rfl,fun w1_=>?_⟩,.inr ⟨by kernel_rfl,fun w1_=>?_⟩,trivial⟩⟩
     case yld =>
      have hb:=HB5.out.trans (hB_.mono hs5)
      obtain ⟨fn,tmps,assign,body,hyd,hRd⟩:=hY out ⟨fv,⟨yo,yd,ys⟩⟩ (fun _=>False) Oj w1_ (fJ _ _ _ _ HJ2.out (Fr.of_below hb (Nat.le_refl _))) (fun k h=>Nat.lt_of_lt_of_le (HBB.out k (HSUB.out k h)) hb.size) (fun _ h=>h.elim) (fun _ h=>h.elim) ⟨fun _ h=>h,HNX.out,HSW.out.then_below hb HS2.out.size⟩
      unfold encC chgA at hyd
      simp only at hyd
      refine ⟨lp,fn,tmps,assign,body,fun b_=>?_,(roundIn_in hRd).mono ?_⟩
      ·go_simp
       try rfl
      ·rintro e U ⟨O6,hx6,hbd6,hf6,hend⟩
       have h1:∀ k,O6 k→Oj k∨Vb.heap.size ≤ k:=fun k h=>by
        rcases hx6 k h with h | h | h
        ·exact .inl h
        ·exact h.elim
        ·exact .inr (Nat.le_trans hb.size h)
       have h2:Fr Oj Vb U:=(Fr.of_below hb (Nat.le_refl _)).then (hf6.mono fun k hk=>.inl (hk.elim id False.elim))
       rcases hend with ⟨rfl,h3⟩ | ⟨rfl,h3⟩
       ·exact ⟨true,rfl,O6,h1,hbd6,h2,.inl ⟨rfl,h3⟩⟩
       ·exact ⟨false,rfl,O6,h1,hbd6,h2,.inr ⟨rfl,h3⟩⟩
     all_goals
      first
       | (intro b_
          refine .inr ⟨by kernel_rfl,fun w1_ hB_=>?_⟩
          obtain ⟨p0,p1,p2,p3,m0,m1,m2,m3,m4,m5,m6,m7,m8,m9,m10,m11⟩:=HQ.out w1_ hB_
          go_simp
          first
           | exact ⟨rfl,Below.refl _ _⟩
           | exact ⟨rfl,HSH.out _ hB_⟩)
       | (go_simp;done)
       | (cases b_ <;> go_simp <;> rfl)
    case nextY =>
     rintro b v6 ⟨O6,hx6,hbd6,hf6,hend⟩
     have HT1:=Lib.hid (show eraG S l fr to (pre ++ [k]) = (out ++ [⟨fv,⟨yo,yd,ys⟩⟩]) ++ turnsL x R (max fr fv) (min to (tv - 1)) by
      unfold eraG
      rw [List.length_append,List.length_singleton,HPK.out,stepsF_succ,HG.out,← HOUT.out]
      unfold eraG
      rw [HPK.out,List.append_assoc]
      rfl)
     have HT2:=Lib.hid (show stepsL S l fr to = (out ++ [⟨fv,⟨yo,yd,ys⟩⟩]) ++ (turnsL x R (max fr fv) (min to (tv - 1)) ++ rest0) by
      rw [HREST.out,HG.out,← HOUT.out]
      unfold eraG
      rw [HPK.out,List.append_assoc]
      rfl)
     obtain ⟨out6,hout6⟩:∃ o,out ++ [⟨fv,⟨yo,yd,ys⟩⟩] = o:=⟨_,rfl⟩
     rw [hout6] at hend HT1 HT2
     clear hout6
     rcases hend with ⟨rfl,hJ6⟩ | ⟨rfl,hJx6⟩
     ·
      have hno6:∀ k,k < Vb.heap.size→¬ Oj k→¬ O6 k:=fun k hk hn h=>(hx6 k h).elim hn (fun h=>by omega)
      have hnV:∀ k,V.heap.size ≤ k→¬ Oj k:=fun k hk h=>by have:=HBO.out k (HSUB.out k h);omega
      have hY6:=HYB.out.fr hf6 ny
      have hS6:=HSBB.out.fr hf6 ns
      have hF6:=HFBB.out.fr hf6 nf
      have hT6:=HTBB.out.fr hf6 nt
      have hE6:=HEB.out.fr hf6 (hnV _ (Nat.le_refl _))
      have hP6:=HTT.out.fr hf6 (hnV _ (by omega))
      have hext6:∀ k,O6 k→O0 k∨W.heap.size ≤ k:=fun k h=>by
       rcases hx6 k h with h | h
       ·exact HEXT.out k h
       ·exact .inr (by omega)
      have hnB:∀ k,k < B2→¬ Oj k:=fun k hk h=>by
       rcases HEXT.out k h with h | h
       ·exact hK k (.inr hk) h
       ·omega
      have hsb6:=HSW.out.then_fr hf6 hnB
      have hz6:=(HS2.out.then_fr hf6 hnB).zw (HZ.out.below HB3.out) hBB hm0 hw0
      have HRW6:=Lib.hid (show RW v6 B (.slice A R.length cR) R by
       have h:=hz6.sets.rule x
       rw [HRV.out,HRQ.out] at h
       exact ⟨h,hz6.ahead,hz6.tab,hz6.le⟩)
      have HMX6:=Lib.hid hz6.maxl
      have hs6:=hf6.size
      have hl6:v6.heap[l2]? = some (.loop r0):=(hf6.block l2 (Array.getElem?_eq_some_iff.1 hr0).1 (fun h=>nOl (HSUB.out _ h))).trans hr0
      have HL6:=Lib.hid hl6
      have HY6:=Lib.hid hY6
      have HS6:=Lib.hid hS6
      have HF6:=Lib.hid hF6
      have HT6:=Lib.hid hT6
      have HSW6:=Lib.hid hsb6
      have HJ6:=Lib.hid hJ6
      have HX6:=Lib.hid hx6
      have HF6R:=Lib.hid hf6
      have HEX6:=Lib.hid hext6
      have HNO6:=Lib.hid hno6
      have HBD6:=Lib.hid hbd6
      have e0:=hE6.cell 0 (v:=.int .i64 x.n.off) rfl
      have e1:=hE6.cell 1 (v:=.string x.ru) rfl
      have e2:=hE6.cell 2 (v:=.int .i64 x.n.save) rfl
      have e3:=hE6.cell 3 (v:=.string x.fm) rfl
      have e4:=hE6.cell 4 (v:=.bool x.en) rfl
      have e5:=hE6.cell 5 (v:=.int .i64 x.n.year) rfl
      have e6:=hE6.cell 6 (v:=.int .i64 x.n.month) rfl
      have e7:=hE6.cell 7 (v:=.int .i64 x.n.dk) rfl
      have e8:=hE6.cell 8 (v:=.int .i64 x.n.dw) rfl
      have e9:=hE6.cell 9 (v:=.int .i64 x.n.dn) rfl
      have e10:=hE6.cell 10 (v:=.int .i64 x.n.sec) rfl
      have e11:=hE6.cell 11 (v:=.int .i64 x.n.ak) rfl
      have t0:=hP6.cell 0 (v:=.int .i64 fv) rfl
      have t1:=hP6.cell 1 (v:=.int .i64 tv) rfl
      have f0:=hF6.cell 0 (v:=.int .i64 fr) rfl
      have b0:=hT6.cell 0 (v:=.int .i64 to) rfl
      have heq:∀ (w:World) (a:Option Addr) (n c n' c':Nat),(binOp .eql 52 (.slice a n c) (.slice none n' c')).run Tryz.prog w = .ok (.bool a.isNone) w:=fun w a n c n' c'=>Lib.run_eql_slice_nil w _ _ a n c n' c' Tryz.underlying52
      have hOO:∀ k,(O k∨O6 k)→O k∨D k∨Vb.heap.size ≤ k:=fun k h=>by
       rcases h with h | h
       ·exact .inl h
       ·rcases HX6.out k h with h | h
        ·exact .inl (HSUB.out k h)
        ·exact .inr (.inr h)
      have hfrO:Fr (fun k=>O k∨D k) Vb v6:=HF6R.out.mono fun k h=>.inl (.inl (HSUB.out k h))
      have HOO:=Lib.hid hOO
      have HFRO:=Lib.hid hfrO
      clear hno6 hnV hY6 hS6 hF6 hT6 hE6 hP6 hext6 hnB hsb6 hz6 hl6 hJ6 hx6 hf6 hbd6 hOO hfrO p0 p1 p2 p3 m0 m1 m2 m3 m4 m5 m6 m7 m8 m9 m10 m11
      cases hA:A with
      | none =>
        have hnil:R = []:=by
         rcases Nat.eq_zero_or_pos R.length with h | h
         ·exact List.eq_nil_of_length_eq_zero h
         ·exfalso
          obtain ⟨b,o,c',e,-⟩:=HRL.out.cells h
          rw [hA] at e
          cases e
        have HT1N:=Lib.hid (show eraG S l fr to (pre ++ [k]) = out6 by rw [HT1.out,hnil,turnsL_nil,List.append_nil])
        clear hnil
        gi_wp2
        refine ⟨fun k=>O k∨O6 k,HOO.out,fun k h=>h.elim ((HBB.out.fr HFRO.out) k) (HBD6.out k),HFRO.out,?_⟩
        show StG _ _ _ _ _ _ _ _ _ _ _ (eraG S l fr to (pre ++ [k])) _ v6
        rw [HT1N.out]
        exact ⟨O6,fun k h=>.inr h,HJ6.out,⟨.inl oy,.inl os,.inl of_,.inl ot⟩,⟨HNO6.out _ hnyb ny,HNO6.out _ hsbl ns,HNO6.out _ hfbl nf,HNO6.out _ htbl2 nt⟩,HEX6.out,HY6.out,HS6.out,HF6.out,HT6.out⟩
      | some a6 =>
        subst hA
        have HTU:=Lib.hid ((wide1 l2).calls (n:=n - 1 - 1 - 1) (turns_any v6 x (.slice (some a6) R.length cR) (some a6) R.length cR rfl (max fr fv) (min to (tv - 1))))
        unfold EraF.val eraA at HTU
        gi_wp2
        refine ⟨trivial,fun _=>by omega,HTU.out.mono ?_⟩
        rintro o w8 ⟨rfl,hb8,g0,g1,g2,g3,hs8⟩
        have HB8:=Lib.hid hb8
        have HC8:=Lib.hid (And.intro g0 (And.intro g1 (And.intro g2 g3)))
        have hl8:w8.heap[l2]? = some (.loop r0):=(hb8.block l2 (Array.getElem?_eq_some_iff.1 HL6.out).1).trans HL6.out
        have hl6s:=(Array.getElem?_eq_some_iff.1 HL6.out).1
        clear HTU hb8 g0 g1 g2 g3 t0 t1 f0 b0 heq e0 e1 e2 e3 e4 e5 e6 e7 e8 e9 e10 e11
        gi_wp2
        refine range_own_in (α:=Chg) (l₀:=l2) (r₀:=r0) rfl hl8 (by omega) (gf:=175) (lb:=#[.pointer (some ⟨v6.heap.size,0,none⟩),.pointer (some ⟨v6.heap.size + 1,0,none⟩),.pointer (some ⟨v6.heap.size + 2,0,none⟩),.pointer (some ⟨v6.heap.size + 3,0,none⟩)]) rfl trivial (enters_of Tryz.func175 (by kernel_rfl) rfl)
         (encs:=encC) (R:=RC (turnsL x R (max fr fv) (min to (tv - 1))) B2 Wb) (K:=fun k=>(k = v6.heap.size∨k = v6.heap.size + 1)∨k < B2)
         (fun U hU=>iter_in (turns_iter (n - 1 - 1 - 1) (by omega) _ _ _ _ B B2 Wb w0 x _ R (max fr fv) (min to (tv - 1)) U (HC8.out.1.below hU HC8.out.1.lt) (HC8.out.2.1.below hU HC8.out.2.1.lt) (HC8.out.2.2.1.below hU HC8.out.2.2.1.lt) (HC8.out.2.2.2.below hU HC8.out.2.2.2.lt) ((HRW6.out.below HB8.out).below hU) HRO.out HLO.out ((HMX6.out.below HB8.out (Nat.le_refl _)).below hU (Nat.le_refl _)) hfm (by omega) hoff.2 (by omega) (by omega) ⟨by omega,by omega,hBB⟩ (by have:=hU.size;omega) ((HSW6.out.then_below HB8.out (by omega)).then_below hU (by omega)) hm0 hw0))
         (fun _=>rfl) (fun pre2=>StG sb fb tb sz fr to W.heap.size lp W.heap.size O0 J (out6 ++ pre2)) (fun c pre2=>StX (stepsL S l fr to) W.heap.size O0 Jx c (out6 ++ pre2)) (stG_feet fJ (fun pre2=>out6 ++ pre2)) (fun c=>stX_feet fx (fun pre2=>out6 ++ pre2) c)
         (fun k=>O6 k∨k = W.heap.size∨k = sb∨k = fb∨k = tb) ⟨O6,fun k h=>.inl h,fJ _ _ _ _ (by rw [List.append_nil];exact HJ6.out) (Fr.of_below HB8.out (Nat.le_refl _)),⟨.inr (.inl rfl),.inr (.inr (.inl rfl)),.inr (.inr (.inr (.inl rfl))),.inr (.inr (.inr (.inr rfl)))⟩,⟨HNO6.out _ hnyb ny,HNO6.out _ hsbl ns,HNO6.out _ hfbl nf,HNO6.out _ htbl2 nt⟩,HEX6.out,HY6.out.below HB8.out HY6.out.lt,HS6.out.below HB8.out HS6.out.lt,HF6.out.below HB8.out HF6.out.lt,HT6.out.below HB8.out HT6.out.lt⟩
         (fun k hk=>by rcases hk with h | h | h | h | h;have:=HBD6.out _ h;all_goals omega) (fun k hk=>by omega) (fun k hk h=>by
           rcases h with h | h | h | h | h
           ·rcases hk with hk | hk
            ·have:=HBD6.out _ h
             omega
            ·rcases HEX6.out k h with h | h
             ·exact hK k (.inr hk) h
             ·omega
           ·omega
           ·omega
           ·omega
           ·omega) ?round2x ?done2x ?stop2x
        case round2x =>
         intro l3 pre2 c O3 D3 U hI3 hBO3 hBD3 hDO3 hR3 nOl3 nDl3 hlow3 hltl3
         obtain ⟨ca,⟨co,cd,cs⟩⟩:=c
         obtain ⟨hnD3,⟨rest3,hrest3⟩,hsame3⟩:=hR3
         have HR3:=Lib.hid hrest3
         have HS3:=Lib.hid hsame3
         have HBO3:=Lib.hid hBO3
         have HC3U:=Lib.hid (Blk.new U 76 #[.int .i64 ca,.int .i64 co,.bool cd,.string cs])
         have HB3U:=Lib.hid ((Below.refl U.heap.size U).alloc (Nat.le_refl _) (.cells #[.int .i64 ca,.int .i64 co,.bool cd,.string cs] 76))
         unfold encC chgA
         clear hI3 hBO3 hBD3 hDO3 hrest3 hsame3
         gi_wp2
         refine ⟨HB3U.out,?_⟩
         intro Ub hfb3 hIb3 _
         obtain ⟨Oj3,hsub3,hJ3,⟨oy3,os3,of3,ot3⟩,⟨ny3,ns3,nf3,nt3⟩,hext3,hyb3,hsb3,hfb3b,htb3⟩:=hIb3
         have hC3:=HC3U.out.fr hfb3 (by omega)
         have hUb:U.heap.size ≤ Ub.heap.size:=Nat.le_trans HB3U.out.size hfb3.size
         have HSM:=Lib.hid ((SameB.then_below HS3.out HB3U.out (SameB.size HS3.out)).then_fr hfb3 (fun k hk e=>by omega))
         have HFRU:=Lib.hid ((Fr.of_below (T:=fun _=>True) HB3U.out (Nat.le_refl _)).then (hfb3.mono fun k _=>.inl trivial))
         have k0:=hC3.cell 0 (v:=.int .i64 ca) rfl
         have k1:=hC3.cell 1 (v:=.int .i64 co) rfl
         have k2:=hC3.cell 2 (v:=.bool cd) rfl
         have k3:=hC3.cell 3 (v:=.string cs) rfl
         have y0:=hyb3.cell 0 (v:=.func (.yield lp) #[] #[]) rfl
         have hcl3:=hC3.lt
         have hyl3:=hyb3.lt
         have hsl3:=hsb3.lt
         have hfl3:=hfb3b.lt
         have htl3:=htb3.lt
         have HNX3:=Lib.hid (show stepsL S l fr to = (out6 ++ pre2) ++ ⟨ca,⟨co,cd,cs⟩⟩ :: (rest3 ++ rest0) by
          rw [HT2.out,HR3.out]
          simp)
         have HBJ:=Lib.hid (show Bd Oj3 Ub from fun k h=>Nat.lt_of_lt_of_le (HBO3.out k (hsub3 k h)) hUb)
         obtain ⟨fn,tmps,assign,body,hyd,hRd⟩:=hY (out6 ++ pre2) ⟨ca,⟨co,cd,cs⟩⟩ (fun _=>False) Oj3 Ub hJ3 HBJ.out (fun _ h=>h.elim) (fun _ h=>h.elim) ⟨fun _ h=>h,⟨_,HNX3.out⟩,HSM.out⟩
         unfold encC chgA at hyd
         simp only at hyd
         have HRD:=Lib.hid hRd
         have HSUB3:=Lib.hid hsub3
         have HEXT3:=Lib.hid hext3
         have HYB3:=Lib.hid hyb3
         have HSB3:=Lib.hid hsb3
         have HFB3:=Lib.hid hfb3b
         have HTB3:=Lib.hid htb3
         clear hRd hsub3 hext3 hyb3 hsb3 hfb3b htb3 hJ3 hC3 hfb3
         gi_wp2
         refine ⟨fun _=>by omega,(roundIn_in HRD.out).mono ?_⟩
         rintro o V7 ⟨O7,hx7,hbd7,hf7,hend7⟩
         have hY7:=HYB3.out.fr hf7 (fun e=>e.elim ny3 id)
         have hS7:=HSB3.out.fr hf7 (fun e=>e.elim ns3 id)
         have hF7:=HFB3.out.fr hf7 (fun e=>e.elim nf3 id)
         have hT7:=HTB3.out.fr hf7 (fun e=>e.elim nt3 id)
         have hext7:∀ k,O7 k→O0 k∨W.heap.size ≤ k:=fun k h=>by
          rcases hx7 k h with h | h | h
          ·exact HEXT3.out k h
          ·exact h.elim
          ·exact .inr (by omega)
         have hno7:∀ k,k < Ub.heap.size→¬ Oj3 k→¬ O7 k:=fun k hk hn h=>by
          rcases hx7 k h with h | h | h
          ·exact hn h
          ·exact h
          ·omega
         have hOO7:∀ k,(O3 k∨O7 k)→O3 k∨D3 k∨Ub.heap.size ≤ k:=fun k h=>by
          rcases h with h | h
          ·exact .inl h
          ·rcases hx7 k h with h | h | h
           ·exact .inl (HSUB3.out k h)
           ·exact h.elim
           ·exact .inr (.inr h)
         have hfr7:Fr (fun k=>O3 k∨D3 k) Ub V7:=hf7.mono fun k hk=>.inl (.inl (HSUB3.out k (hk.elim id False.elim)))
         have hbd7':Bd (fun k=>O3 k∨O7 k) V7:=fun k h=>by
          rcases h with h | h
          ·exact Nat.lt_of_lt_of_le (HBO3.out k h) (Nat.le_trans hUb hf7.size)
          ·exact hbd7 k h
         clear hyd
         rcases hend7 with ⟨rfl,hJ7⟩ | ⟨rfl,hJx7⟩
         ·have HJ7:=Lib.hid hJ7
          clear hJ7
          gi_wp2
          exact ⟨fun k=>O3 k∨O7 k,hOO7,hbd7',hfr7,O7,fun k h=>.inr h,(by rw [← List.append_assoc];exact HJ7.out),⟨.inl oy3,.inl os3,.inl of3,.inl ot3⟩,⟨hno7 _ hyl3 ny3,hno7 _ hsl3 ns3,hno7 _ hfl3 nf3,hno7 _ htl3 nt3⟩,hext7,hY7,hS7,hF7,hT7⟩
         ·have HJ7:=Lib.hid hJx7
          clear hJx7
          gi_wp2
          exact ⟨fun k=>O3 k∨O7 k,hOO7,hbd7',hfr7,O7,fun k h=>.inr h,hext7,rfl,(by rw [← List.append_assoc];exact HJ7.out),rest3 ++ rest0,(by rw [HNX3.out];simp)⟩
        case done2x =>
         intro xs3 O3 U hS3 hI3 hO3 hBO3 hfr3
         have HFIN:=Lib.hid ((HFRO.out.then (Fr.of_below HB8.out (Nat.le_refl _))).trans hfr3 (fun k hk=>by
          rcases hk with (hk | hk | hk | hk | hk) | hk
          ·rcases HX6.out k hk with h | h
           ·exact .inl (.inl (HSUB.out k h))
           ·exact .inr h
          ·exact .inl (.inl (by rw [hk];exact oy))
          ·exact .inl (.inl (by rw [hk];exact os))
          ·exact .inl (.inl (by rw [hk];exact of_))
          ·exact .inl (.inl (by rw [hk];exact ot))
          ·exact .inr (by omega)))
         have HO3:=Lib.hid (show ∀ k,O3 k→O k∨D k∨Vb.heap.size ≤ k from fun k h=>by
          rcases hO3 k h with (hk | hk | hk | hk | hk) | hk
          ·rcases HX6.out k hk with h | h
           ·exact .inl (HSUB.out k h)
           ·exact .inr (.inr h)
          ·exact .inl (by rw [hk];exact oy)
          ·exact .inl (by rw [hk];exact os)
          ·exact .inl (by rw [hk];exact of_)
          ·exact .inl (by rw [hk];exact ot)
          ·exact .inr (.inr (by have:=HB8.out.size;omega)))
         have HI3:=Lib.hid (show StG sb fb tb sz fr to W.heap.size lp W.heap.size O0 J (eraG S l fr to (pre ++ [k])) O3 U by
          rw [HT1.out,← hS3]
          exact hI3)
         have HBD3:=Lib.hid hBO3
         clear hS3 hI3 hO3 hBO3 hfr3
         gi_wp2
         exact ⟨O3,HO3.out,HBD3.out,HFIN.out,HI3.out⟩
        case stop2x =>
         intro c pre2 O3 U hS3 hX3 hO3 hBO3 hfr3
         have HFIN:=Lib.hid ((HFRO.out.then (Fr.of_below HB8.out (Nat.le_refl _))).trans hfr3 (fun k hk=>by
          rcases hk with (hk | hk | hk | hk | hk) | hk
          ·rcases HX6.out k hk with h | h
           ·exact .inl (.inl (HSUB.out k h))
           ·exact .inr h
          ·exact .inl (.inl (by rw [hk];exact oy))
          ·exact .inl (.inl (by rw [hk];exact os))
          ·exact .inl (.inl (by rw [hk];exact of_))
          ·exact .inl (.inl (by rw [hk];exact ot))
          ·exact .inr (by omega)))
         have HO3:=Lib.hid (show ∀ k,O3 k→O k∨D k∨Vb.heap.size ≤ k from fun k h=>by
          rcases hO3 k h with (hk | hk | hk | hk | hk) | hk
          ·rcases HX6.out k hk with h | h
           ·exact .inl (HSUB.out k h)
           ·exact .inr (.inr h)
          ·exact .inl (by rw [hk];exact oy)
          ·exact .inl (by rw [hk];exact os)
          ·exact .inl (by rw [hk];exact of_)
          ·exact .inl (by rw [hk];exact ot)
          ·exact .inr (.inr (by have:=HB8.out.size;omega)))
         obtain ⟨Oj3,hsub3,hext3,rfl,hJx3,r2,hr2⟩:=hX3
         have HX3:=Lib.hid (And.intro hsub3 (And.intro hext3 (And.intro hJx3 hr2)))
         have HBD3:=Lib.hid hBO3
         clear hS3 hO3 hBO3 hfr3 hsub3 hext3 hJx3 hr2
         gi_wp2
         exact ⟨O3,HO3.out,HBD3.out,HFIN.out,out6 ++ pre2,Oj3,HX3.out.1,HX3.out.2.1,rfl,HX3.out.2.2.1,r2,HX3.out.2.2.2⟩
     ·have HX6:=Lib.hid hx6
      have HF6R:=Lib.hid hf6
      have HBD6:=Lib.hid hbd6
      have HJX:=Lib.hid hJx6
      clear hx6 hf6 hbd6 hJx6
      gi_wp2
      exact ⟨fun k=>O k∨O6 k,(fun k h=>by
       rcases h with h | h
       ·exact .inl h
       ·rcases HX6.out k h with h | h
        ·exact .inl (HSUB.out k h)
        ·exact .inr (.inr h)),(fun k h=>h.elim ((HBB.out.fr HF6R.out) k) (HBD6.out k)),(HF6R.out.mono fun k h=>.inl (.inl (HSUB.out k h))),out6,O6,(fun k h=>.inr h),(fun k h=>by
       rcases HX6.out k h with h | h
       ·exact HEXT.out k h
       ·exact .inr (by omega)),rfl,HJX.out,⟨_,HT2.out⟩⟩
   ·have d3:decide (fr < fv) = false:=decide_eq_false hat
    have HG:=Lib.hid (HIN.out HNS.out (by omega))
    obtain ⟨out6,hout6⟩:∃ o,eraG S l fr to pre = o:=⟨_,rfl⟩
    have HT1:=Lib.hid (show eraG S l fr to (pre ++ [k]) = out6 ++ turnsL x R (max fr fv) (min to (tv - 1)) by
     rw [← hout6]
     unfold eraG
     rw [List.length_append,List.length_singleton,HPK.out,stepsF_succ,HG.out])
    have HT2:=Lib.hid (show stepsL S l fr to = out6 ++ (turnsL x R (max fr fv) (min to (tv - 1)) ++ rest0) by
     rw [HREST.out,HG.out,← hout6]
     unfold eraG
     rw [HPK.out])
    have HJ2:=Lib.hid (show J out6 Oj Vb by rw [← hout6];exact HJ.out)
    clear hat hout6
    gi_wp2
    refine wpIn_env (fin:=?fnzs) (hwd) (by kernel_rfl) [29,30,31,32,33,34,35,36,37,38,39,40,41,42]
     [.pointer (some ⟨V.heap.size + 1,0,none⟩),.int .i64 fv,.int .i64 fr,.bool false,.bool false,undef,undef,undef,undef,undef,undef,undef,undef,.bool false] (by kernel_rfl) ?finzs ?stepszs ?nextzs
    case finzs =>
     simp only [putAll,Act.put,List.setIfInBounds_toArray,List.set_cons_succ,List.set_cons_zero]
     rfl
    case stepszs =>
     refine ⟨?_,?_,?_,?_,?_,?_,?_,?_,?_,?_,?_,?_,?_,?_,trivial⟩
     all_goals first | exact .inl ⟨by kernel_rfl,rfl⟩ | refine .inr ⟨by kernel_rfl,fun w1_ hB_=>?_⟩
     all_goals
      obtain ⟨p0,p1,p2,p3,m0,m1,m2,m3,m4,m5,m6,m7,m8,m9,m10,m11⟩:=HQ.out w1_ hB_
      go_simp
      first
       | exact ⟨rfl,Below.refl _ _⟩
       | ((first | rw [decide_eq_true (by omega)] | rw [decide_eq_false (by omega)] | rw [if_pos (by omega)] | rw [IntWalk.i64_in _ (by omega)]);exact ⟨rfl,Below.refl _ _⟩)
       | done
    case nextzs =>
    intro v6 hb6
    have hbv:=HB5.out.trans (hb6.mono hs5)
    obtain ⟨O6,hO6⟩:∃ o,o = Oj:=⟨_,rfl⟩
    have hx6:∀ k,O6 k→Oj k∨Vb.heap.size ≤ k:=fun k h=>.inl (by rw [← hO6];exact h)
    have hbd6:Bd O6 v6:=fun k h=>Nat.lt_of_lt_of_le (HBB.out k (HSUB.out k (by rw [← hO6];exact h))) hbv.size
    have hf6:Fr Oj Vb v6:=Fr.of_below hbv (Nat.le_refl _)
    have hJ6:J out6 O6 v6:=by rw [hO6];exact fJ _ _ _ _ HJ2.out (Fr.of_below hbv (Nat.le_refl _))
    clear hO6 hb6 hbv
    have hno6:∀ k,k < Vb.heap.size→¬ Oj k→¬ O6 k:=fun k hk hn h=>(hx6 k h).elim hn (fun h=>by omega)
    have hnV:∀ k,V.heap.size ≤ k→¬ Oj k:=fun k hk h=>by have:=HBO.out k (HSUB.out k h);omega
    have hY6:=HYB.out.fr hf6 ny
    have hS6:=HSBB.out.fr hf6 ns
    have hF6:=HFBB.out.fr hf6 nf
    have hT6:=HTBB.out.fr hf6 nt
    have hE6:=HEB.out.fr hf6 (hnV _ (Nat.le_refl _))
    have hP6:=HTT.out.fr hf6 (hnV _ (by omega))
    have hext6:∀ k,O6 k→O0 k∨W.heap.size ≤ k:=fun k h=>by
     rcases hx6 k h with h | h
     ·exact HEXT.out k h
     ·exact .inr (by omega)
    have hnB:∀ k,k < B2→¬ Oj k:=fun k hk h=>by
     rcases HEXT.out k h with h | h
     ·exact hK k (.inr hk) h
     ·omega
    have hsb6:=HSW.out.then_fr hf6 hnB
    have hz6:=(HS2.out.then_fr hf6 hnB).zw (HZ.out.below HB3.out) hBB hm0 hw0
    have HRW6:=Lib.hid (show RW v6 B (.slice A R.length cR) R by
     have h:=hz6.sets.rule x
     rw [HRV.out,HRQ.out] at h
     exact ⟨h,hz6.ahead,hz6.tab,hz6.le⟩)
    have HMX6:=Lib.hid hz6.maxl
    have hs6:=hf6.size
    have hl6:v6.heap[l2]? = some (.loop r0):=(hf6.block l2 (Array.getElem?_eq_some_iff.1 hr0).1 (fun h=>nOl (HSUB.out _ h))).trans hr0
    have HL6:=Lib.hid hl6
    have HY6:=Lib.hid hY6
    have HS6:=Lib.hid hS6
    have HF6:=Lib.hid hF6
    have HT6:=Lib.hid hT6
    have HSW6:=Lib.hid hsb6
    have HJ6:=Lib.hid hJ6
    have HX6:=Lib.hid hx6
    have HF6R:=Lib.hid hf6
    have HEX6:=Lib.hid hext6
    have HNO6:=Lib.hid hno6
    have HBD6:=Lib.hid hbd6
    have e0:=hE6.cell 0 (v:=.int .i64 x.n.off) rfl
    have e1:=hE6.cell 1 (v:=.string x.ru) rfl
    have e2:=hE6.cell 2 (v:=.int .i64 x.n.save) rfl
    have e3:=hE6.cell 3 (v:=.string x.fm) rfl
    have e4:=hE6.cell 4 (v:=.bool x.en) rfl
    have e5:=hE6.cell 5 (v:=.int .i64 x.n.year) rfl
    have e6:=hE6.cell 6 (v:=.int .i64 x.n.month) rfl
    have e7:=hE6.cell 7 (v:=.int .i64 x.n.dk) rfl
    have e8:=hE6.cell 8 (v:=.int .i64 x.n.dw) rfl
    have e9:=hE6.cell 9 (v:=.int .i64 x.n.dn) rfl
    have e10:=hE6.cell 10 (v:=.int .i64 x.n.sec) rfl
    have e11:=hE6.cell 11 (v:=.int .i64 x.n.ak) rfl
    have t0:=hP6.cell 0 (v:=.int .i64 fv) rfl
    have t1:=hP6.cell 1 (v:=.int .i64 tv) rfl
    have f0:=hF6.cell 0 (v:=.int .i64 fr) rfl
    have b0:=hT6.cell 0 (v:=.int .i64 to) rfl
    have heq:∀ (w:World) (a:Option Addr) (n c n' c':Nat),(binOp .eql 52 (.slice a n c) (.slice none n' c')).run Tryz.prog w = .ok (.bool a.isNone) w:=fun w a n c n' c'=>Lib.run_eql_slice_nil w _ _ a n c n' c' Tryz.underlying52
    have hOO:∀ k,(O k∨O6 k)→O k∨D k∨Vb.heap.size ≤ k:=fun k h=>by
     rcases h with h | h
     ·exact .inl h
     ·rcases HX6.out k h with h | h
      ·exact .inl (HSUB.out k h)
      ·exact .inr (.inr h)
    have hfrO:Fr (fun k=>O k∨D k) Vb v6:=HF6R.out.mono fun k h=>.inl (.inl (HSUB.out k h))
    have HOO:=Lib.hid hOO
    have HFRO:=Lib.hid hfrO
    clear hno6 hnV hY6 hS6 hF6 hT6 hE6 hP6 hext6 hnB hsb6 hz6 hl6 hJ6 hx6 hf6 hbd6 hOO hfrO p0 p1 p2 p3 m0 m1 m2 m3 m4 m5 m6 m7 m8 m9 m10 m11
    cases hA:A with
    | none =>
      have hnil:R = []:=by
       rcases Nat.eq_zero_or_pos R.length with h | h
       ·exact List.eq_nil_of_length_eq_zero h
       ·exfalso
        obtain ⟨b,o,c',e,-⟩:=HRL.out.cells h
        rw [hA] at e
        cases e
      have HT1N:=Lib.hid (show eraG S l fr to (pre ++ [k]) = out6 by rw [HT1.out,hnil,turnsL_nil,List.append_nil])
      clear hnil
      gi_wp2
      refine ⟨fun k=>O k∨O6 k,HOO.out,fun k h=>h.elim ((HBB.out.fr HFRO.out) k) (HBD6.out k),HFRO.out,?_⟩
      show StG _ _ _ _ _ _ _ _ _ _ _ (eraG S l fr to (pre ++ [k])) _ v6
      rw [HT1N.out]
      exact ⟨O6,fun k h=>.inr h,HJ6.out,⟨.inl oy,.inl os,.inl of_,.inl ot⟩,⟨HNO6.out _ hnyb ny,HNO6.out _ hsbl ns,HNO6.out _ hfbl nf,HNO6.out _ htbl2 nt⟩,HEX6.out,HY6.out,HS6.out,HF6.out,HT6.out⟩
    | some a6 =>
      subst hA
      have HTU:=Lib.hid ((wide1 l2).calls (n:=n - 1 - 1 - 1) (turns_any v6 x (.slice (some a6) R.length cR) (some a6) R.length cR rfl (max fr fv) (min to (tv - 1))))
      unfold EraF.val eraA at HTU
      gi_wp2
      refine ⟨trivial,fun _=>by omega,HTU.out.mono ?_⟩
      rintro o w8 ⟨rfl,hb8,g0,g1,g2,g3,hs8⟩
      have HB8:=Lib.hid hb8
      have HC8:=Lib.hid (And.intro g0 (And.intro g1 (And.intro g2 g3)))
      have hl8:w8.heap[l2]? = some (.loop r0):=(hb8.block l2 (Array.getElem?_eq_some_iff.1 HL6.out).1).trans HL6.out
      have hl6s:=(Array.getElem?_eq_some_iff.1 HL6.out).1
      clear HTU hb8 g0 g1 g2 g3 t0 t1 f0 b0 heq e0 e1 e2 e3 e4 e5 e6 e7 e8 e9 e10 e11
      gi_wp2
      refine range_own_in (α:=Chg) (l₀:=l2) (r₀:=r0) rfl hl8 (by omega) (gf:=175) (lb:=#[.pointer (some ⟨v6.heap.size,0,none⟩),.pointer (some ⟨v6.heap.size + 1,0,none⟩),.pointer (some ⟨v6.heap.size + 2,0,none⟩),.pointer (some ⟨v6.heap.size + 3,0,none⟩)]) rfl trivial (enters_of Tryz.func175 (by kernel_rfl) rfl)
       (encs:=encC) (R:=RC (turnsL x R (max fr fv) (min to (tv - 1))) B2 Wb) (K:=fun k=>(k = v6.heap.size∨k = v6.heap.size + 1)∨k < B2)
       (fun U hU=>iter_in (turns_iter (n - 1 - 1 - 1) (by omega) _ _ _ _ B B2 Wb w0 x _ R (max fr fv) (min to (tv - 1)) U (HC8.out.1.below hU HC8.out.1.lt) (HC8.out.2.1.below hU HC8.out.2.1.lt) (HC8.out.2.2.1.below hU HC8.out.2.2.1.lt) (HC8.out.2.2.2.below hU HC8.out.2.2.2.lt) ((HRW6.out.below HB8.out).below hU) HRO.out HLO.out ((HMX6.out.below HB8.out (Nat.le_refl _)).below hU (Nat.le_refl _)) hfm (by omega) hoff.2 (by omega) (by omega) ⟨by omega,by omega,hBB⟩ (by have:=hU.size;omega) ((HSW6.out.then_below HB8.out (by omega)).then_below hU (by omega)) hm0 hw0))
       (fun _=>rfl) (fun pre2=>StG sb fb tb sz fr to W.heap.size lp W.heap.size O0 J (out6 ++ pre2)) (fun c pre2=>StX (stepsL S l fr to) W.heap.size O0 Jx c (out6 ++ pre2)) (stG_feet fJ (fun pre2=>out6 ++ pre2)) (fun c=>stX_feet fx (fun pre2=>out6 ++ pre2) c)
       (fun k=>O6 k∨k = W.heap.size∨k = sb∨k = fb∨k = tb) ⟨O6,fun k h=>.inl h,fJ _ _ _ _ (by rw [List.append_nil];exact HJ6.out) (Fr.of_below HB8.out (Nat.le_refl _)),⟨.inr (.inl rfl),.inr (.inr (.inl rfl)),.inr (.inr (.inr (.inl rfl))),.inr (.inr (.inr (.inr rfl)))⟩,⟨HNO6.out _ hnyb ny,HNO6.out _ hsbl ns,HNO6.out _ hfbl nf,HNO6.out _ htbl2 nt⟩,HEX6.out,HY6.out.below HB8.out HY6.out.lt,HS6.out.below HB8.out HS6.out.lt,HF6.out.below HB8.out HF6.out.lt,HT6.out.below HB8.out HT6.out.lt⟩
       (fun k hk=>by rcases hk with h | h | h | h | h;have:=HBD6.out _ h;all_goals omega) (fun k hk=>by omega) (fun k hk h=>by
         rcases h with h | h | h | h | h
         ·rcases hk with hk | hk
          ·have:=HBD6.out _ h
           omega
          ·rcases HEX6.out k h with h | h
           ·exact hK k (.inr hk) h
           ·omega
         ·omega
         ·omega
         ·omega
         ·omega) ?round2y ?done2y ?stop2y
      case round2y =>
       intro l3 pre2 c O3 D3 U hI3 hBO3 hBD3 hDO3 hR3 nOl3 nDl3 hlow3 hltl3
       obtain ⟨ca,⟨co,cd,cs⟩⟩:=c
       obtain ⟨hnD3,⟨rest3,hrest3⟩,hsame3⟩:=hR3
       have HR3:=Lib.hid hrest3
       have HS3:=Lib.hid hsame3
       have HBO3:=Lib.hid hBO3
       have HC3U:=Lib.hid (Blk.new U 76 #[.int .i64 ca,.int .i64 co,.bool cd,.string cs])
       have HB3U:=Lib.hid ((Below.refl U.heap.size U).alloc (Nat.le_refl _) (.cells #[.int .i64 ca,.int .i64 co,.bool cd,.string cs] 76))
       unfold encC chgA
       clear hI3 hBO3 hBD3 hDO3 hrest3 hsame3
       gi_wp2
       refine ⟨HB3U.out,?_⟩
       intro Ub hfb3 hIb3 _
       obtain ⟨Oj3,hsub3,hJ3,⟨oy3,os3,of3,ot3⟩,⟨ny3,ns3,nf3,nt3⟩,hext3,hyb3,hsb3,hfb3b,htb3⟩:=hIb3
       have hC3:=HC3U.out.fr hfb3 (by omega)
       have hUb:U.heap.size ≤ Ub.heap.size:=Nat.le_trans HB3U.out.size hfb3.size
       have HSM:=Lib.hid ((SameB.then_below HS3.out HB3U.out (SameB.size HS3.out)).then_fr hfb3 (fun k hk e=>by omega))
       have HFRU:=Lib.hid ((Fr.of_below (T:=fun _=>True) HB3U.out (Nat.le_refl _)).then (hfb3.mono fun k _=>.inl trivial))
       have k0:=hC3.cell 0 (v:=.int .i64 ca) rfl
       have k1:=hC3.cell 1 (v:=.int .i64 co) rfl
       have k2:=hC3.cell 2 (v:=.bool cd) rfl
       have k3:=hC3.cell 3 (v:=.string cs) rfl
       have y0:=hyb3.cell 0 (v:=.func (.yield lp) #[] #[]) rfl
       have hcl3:=hC3.lt
       have hyl3:=hyb3.lt
       have hsl3:=hsb3.lt
       have hfl3:=hfb3b.lt
       have htl3:=htb3.lt
       have HNX3:=Lib.hid (show stepsL S l fr to = (out6 ++ pre2) ++ ⟨ca,⟨co,cd,cs⟩⟩ :: (rest3 ++ rest0) by
        rw [HT2.out,HR3.out]
        simp)
       have HBJ:=Lib.hid (show Bd Oj3 Ub from fun k h=>Nat.lt_of_lt_of_le (HBO3.out k (hsub3 k h)) hUb)
       obtain ⟨fn,tmps,assign,body,hyd,hRd⟩:=hY (out6 ++ pre2) ⟨ca,⟨co,cd,cs⟩⟩ (fun _=>False) Oj3 Ub hJ3 HBJ.out (fun _ h=>h.elim) (fun _ h=>h.elim) ⟨fun _ h=>h,⟨_,HNX3.out⟩,HSM.out⟩
       unfold encC chgA at hyd
       simp only at hyd
       have HRD:=Lib.hid hRd
       have HSUB3:=Lib.hid hsub3
       have HEXT3:=Lib.hid hext3
       have HYB3:=Lib.hid hyb3
       have HSB3:=Lib.hid hsb3
       have HFB3:=Lib.hid hfb3b
       have HTB3:=Lib.hid htb3
       clear hRd hsub3 hext3 hyb3 hsb3 hfb3b htb3 hJ3 hC3 hfb3
       gi_wp2
       refine ⟨fun _=>by omega,(roundIn_in HRD.out).mono ?_⟩
       rintro o V7 ⟨O7,hx7,hbd7,hf7,hend7⟩
       have hY7:=HYB3.out.fr hf7 (fun e=>e.elim ny3 id)
       have hS7:=HSB3.out.fr hf7 (fun e=>e.elim ns3 id)
       have hF7:=HFB3.out.fr hf7 (fun e=>e.elim nf3 id)
       have hT7:=HTB3.out.fr hf7 (fun e=>e.elim nt3 id)
       have hext7:∀ k,O7 k→O0 k∨W.heap.size ≤ k:=fun k h=>by
        rcases hx7 k h with h | h | h
        ·exact HEXT3.out k h
        ·exact h.elim
        ·exact .inr (by omega)
       have hno7:∀ k,k < Ub.heap.size→¬ Oj3 k→¬ O7 k:=fun k hk hn h=>by
        rcases hx7 k h with h | h | h
        ·exact hn h
        ·exact h
        ·omega
       have hOO7:∀ k,(O3 k∨O7 k)→O3 k∨D3 k∨Ub.heap.size ≤ k:=fun k h=>by
        rcases h with h | h
        ·exact .inl h
        ·rcases hx7 k h with h | h | h
         ·exact .inl (HSUB3.out k h)
         ·exact h.elim
         ·exact .inr (.inr h)
       have hfr7:Fr (fun k=>O3 k∨D3 k) Ub V7:=hf7.mono fun k hk=>.inl (.inl (HSUB3.out k (hk.elim id False.elim)))
       have hbd7':Bd (fun k=>O3 k∨O7 k) V7:=fun k h=>by
        rcases h with h | h
        ·exact Nat.lt_of_lt_of_le (HBO3.out k h) (Nat.le_trans hUb hf7.size)
        ·exact hbd7 k h
       clear hyd
       rcases hend7 with ⟨rfl,hJ7⟩ | ⟨rfl,hJx7⟩
       ·have HJ7:=Lib.hid hJ7
        clear hJ7
        gi_wp2
        exact ⟨fun k=>O3 k∨O7 k,hOO7,hbd7',hfr7,O7,fun k h=>.inr h,(by rw [← List.append_assoc];exact HJ7.out),⟨.inl oy3,.inl os3,.inl of3,.inl ot3⟩,⟨hno7 _ hyl3 ny3,hno7 _ hsl3 ns3,hno7 _ hfl3 nf3,hno7 _ htl3 nt3⟩,hext7,hY7,hS7,hF7,hT7⟩
       ·have HJ7:=Lib.hid hJx7
        clear hJx7
        gi_wp2
        exact ⟨fun k=>O3 k∨O7 k,hOO7,hbd7',hfr7,O7,fun k h=>.inr h,hext7,rfl,(by rw [← List.append_assoc];exact HJ7.out),rest3 ++ rest0,(by rw [HNX3.out];simp)⟩
      case done2y =>
       intro xs3 O3 U hS3 hI3 hO3 hBO3 hfr3
       have HFIN:=Lib.hid ((HFRO.out.then (Fr.of_below HB8.out (Nat.le_refl _))).trans hfr3 (fun k hk=>by
        rcases hk with (hk | hk | hk | hk | hk) | hk
        ·rcases HX6.out k hk with h | h
         ·exact .inl (.inl (HSUB.out k h))
         ·exact .inr h
        ·exact .inl (.inl (by rw [hk];exact oy))
        ·exact .inl (.inl (by rw [hk];exact os))
        ·exact .inl (.inl (by rw [hk];exact of_))
        ·exact .inl (.inl (by rw [hk];exact ot))
        ·exact .inr (by omega)))
       have HO3:=Lib.hid (show ∀ k,O3 k→O k∨D k∨Vb.heap.size ≤ k from fun k h=>by
        rcases hO3 k h with (hk | hk | hk | hk | hk) | hk
        ·rcases HX6.out k hk with h | h
         ·exact .inl (HSUB.out k h)
         ·exact .inr (.inr h)
        ·exact .inl (by rw [hk];exact oy)
        ·exact .inl (by rw [hk];exact os)
        ·exact .inl (by rw [hk];exact of_)
        ·exact .inl (by rw [hk];exact ot)
        ·exact .inr (.inr (by have:=HB8.out.size;omega)))
       have HI3:=Lib.hid (show StG sb fb tb sz fr to W.heap.size lp W.heap.size O0 J (eraG S l fr to (pre ++ [k])) O3 U by
        rw [HT1.out,← hS3]
        exact hI3)
       have HBD3:=Lib.hid hBO3
       clear hS3 hI3 hO3 hBO3 hfr3
       gi_wp2
       exact ⟨O3,HO3.out,HBD3.out,HFIN.out,HI3.out⟩
      case stop2y =>
       intro c pre2 O3 U hS3 hX3 hO3 hBO3 hfr3
       have HFIN:=Lib.hid ((HFRO.out.then (Fr.of_below HB8.out (Nat.le_refl _))).trans hfr3 (fun k hk=>by
        rcases hk with (hk | hk | hk | hk | hk) | hk
        ·rcases HX6.out k hk with h | h
         ·exact .inl (.inl (HSUB.out k h))
         ·exact .inr h
        ·exact .inl (.inl (by rw [hk];exact oy))
        ·exact .inl (.inl (by rw [hk];exact os))
        ·exact .inl (.inl (by rw [hk];exact of_))
        ·exact .inl (.inl (by rw [hk];exact ot))
        ·exact .inr (by omega)))
       have HO3:=Lib.hid (show ∀ k,O3 k→O k∨D k∨Vb.heap.size ≤ k from fun k h=>by
        rcases hO3 k h with (hk | hk | hk | hk | hk) | hk
        ·rcases HX6.out k hk with h | h
         ·exact .inl (HSUB.out k h)
         ·exact .inr (.inr h)
        ·exact .inl (by rw [hk];exact oy)
        ·exact .inl (by rw [hk];exact os)
        ·exact .inl (by rw [hk];exact of_)
        ·exact .inl (by rw [hk];exact ot)
        ·exact .inr (.inr (by have:=HB8.out.size;omega)))
       obtain ⟨Oj3,hsub3,hext3,rfl,hJx3,r2,hr2⟩:=hX3
       have HX3:=Lib.hid (And.intro hsub3 (And.intro hext3 (And.intro hJx3 hr2)))
       have HBD3:=Lib.hid hBO3
       clear hS3 hO3 hBO3 hfr3 hsub3 hext3 hJx3 hr2
       gi_wp2
       exact ⟨O3,HO3.out,HBD3.out,HFIN.out,out6 ++ pre2,Oj3,HX3.out.1,HX3.out.2.1,rfl,HX3.out.2.2.1,r2,HX3.out.2.2.2⟩
 case done =>
  intro D xs O V hD hS hI hO hBO hOD hfr hK2
  obtain ⟨Oj,hsub,hJ,-,-,hext,-⟩:=hI
  have HOUT:=Lib.hid (show eraG S l fr to xs = stepsL S l fr to by
   unfold eraG stepsL
   rw [show xs.length = l.length from hS])
  have HK2:=Lib.hid hK2
  have HFR:=Lib.hid (((Fr.of_below (T:=fun k=>O0 k∨(k = sb∨k = fb∨k = tb)) HB3.out (Nat.le_refl _)).trans hfr fun k hk=>by
   rcases hk with (hk | hk | hk | hk | hk) | hk
   ·exact .inl (.inl hk)
   ·exact .inr (by omega)
   ·exact .inl (.inr (.inl hk))
   ·exact .inl (.inr (.inr (.inl hk)))
   ·exact .inl (.inr (.inr (.inr hk)))
   ·exact hk.elim))
  have hDl:D < V.heap.size:=(Array.getElem?_eq_some_iff.1 hK2).1
  have hDw:W.heap.size ≤ D:=by omega
  have hnD:¬ Oj D:=fun h=>hOD (hsub D h)
  have HJ:=Lib.hid (show J (stepsL S l fr to) Oj V by rw [← HOUT.out];exact hJ)
  have HBO:=Lib.hid hBO
  have HSUB:=Lib.hid hsub
  have HEXT:=Lib.hid hext
  clear hS hfr hK2 hJ hBO hsub hext hO
  gi_wp2
  simp only [Exit.noGoto]
  refine ⟨by simp,.inl ⟨_,_,rfl,run_takeDeferred HK2.out,?_⟩⟩
  refine ⟨_,results_none rfl _ _ _,?_⟩
  exact ⟨⟨_,rfl⟩,Oj,HEXT.out,fun k h=>Nat.lt_of_lt_of_le (HBO.out k (HSUB.out k h)) (Nat.le_of_eq (fin_size V D _).symm),HFR.out.trans (Fr.putObj (T:=fun k=>k = D) V _ rfl) (fun k hk=>.inr (by omega)),.inl ⟨_,rfl,fJ _ _ _ _ HJ.out (Fr.putObj V _ hnD)⟩⟩
 case stop =>
  intro D c pre O V hD hS hX hO hBO hOD hfr hK2
  obtain ⟨out,Oj,hsub,hext,rfl,hJx,r2,hr2⟩:=hX
  have HK2:=Lib.hid hK2
  have HFR:=Lib.hid (((Fr.of_below (T:=fun k=>O0 k∨(k = sb∨k = fb∨k = tb)) HB3.out (Nat.le_refl _)).trans hfr fun k hk=>by
   rcases hk with (hk | hk | hk | hk | hk) | hk
   ·exact .inl (.inl hk)
   ·exact .inr (by omega)
   ·exact .inl (.inr (.inl hk))
   ·exact .inl (.inr (.inr (.inl hk)))
   ·exact .inl (.inr (.inr (.inr hk)))
   ·exact hk.elim))
  have hDl:D < V.heap.size:=(Array.getElem?_eq_some_iff.1 hK2).1
  have hDw:W.heap.size ≤ D:=by omega
  have hnD:¬ Oj D:=fun h=>hOD (hsub D h)
  have HJ:=Lib.hid (And.intro hJx hr2)
  have HBO:=Lib.hid hBO
  have HSUB:=Lib.hid hsub
  have HEXT:=Lib.hid hext
  clear hS hfr hK2 hJx hr2 hBO hsub hext hO
  gi_wp2
  simp only [Exit.noGoto]
  refine ⟨by simp,.inl ⟨_,_,rfl,run_takeDeferred HK2.out,?_⟩⟩
  refine ⟨_,results_none rfl _ _ _,?_⟩
  exact ⟨⟨_,rfl⟩,Oj,HEXT.out,fun k h=>Nat.lt_of_lt_of_le (HBO.out k (HSUB.out k h)) (Nat.le_of_eq (fin_size V D _).symm),HFR.out.trans (Fr.putObj (T:=fun k=>k = D) V _ rfl) (fun k hk=>.inr (by omega)),.inr ⟨out,⟨r2,HJ.out.2⟩,fx _ _ _ _ HJ.out.1 (Fr.putObj V _ hnD)⟩⟩
end
section -- HChanges
open Go Go.RowKit Go.Shelf
attribute [local go_sem] Oper.semAt_some
theorem zchanges_any (w:World) (zn:ByteArray) (ev sv:Value) (fr to:Int) :
  Calls Tryz.prog 79 #[zoneA zn ev,setsV zn ev sv,.int .i64 fr,.int .i64 to] w fun o w'=>o = .returned (.func (.func 118) #[] #[.pointer (some ⟨w.heap.size + 2,0,none⟩),.pointer (some ⟨w.heap.size,0,none⟩),.pointer (some ⟨w.heap.size + 1,0,none⟩),.pointer (some ⟨w.heap.size + 3,0,none⟩)])∧Below w.heap.size w w' ∧
   Blk w' w.heap.size 24 #[.string zn,ev]∧Blk w' (w.heap.size + 1) 90 #[setsV zn ev sv]∧Blk w' (w.heap.size + 2) 3 #[.int .i64 fr]∧Blk w' (w.heap.size + 3) 3 #[.int .i64 to]∧w'.heap.size = w.heap.size + 4:=by
 have h1:=(((Blk.new w 24 #[.string zn,ev]).alloc (.cells #[setsV zn ev sv] 90)).alloc (.cells #[.int .i64 fr] 3)).alloc (.cells #[.int .i64 to] 3)
 have h2:=((Blk.new (w.alloc (.cells #[.string zn,ev] 24)) 90 #[setsV zn ev sv]).alloc (.cells #[.int .i64 fr] 3)).alloc (.cells #[.int .i64 to] 3)
 have h3:=(Blk.new ((w.alloc (.cells #[.string zn,ev] 24)).alloc (.cells #[setsV zn ev sv] 90)) 3 #[.int .i64 fr]).alloc (.cells #[.int .i64 to] 3)
 have h4:=Blk.new (((w.alloc (.cells #[.string zn,ev] 24)).alloc (.cells #[setsV zn ev sv] 90)).alloc (.cells #[.int .i64 fr] 3)) 3 #[.int .i64 to]
 simp only [World.size_alloc] at h2 h3 h4
 have HB:=Lib.hid (((((Below.refl w.heap.size w).alloc (Nat.le_refl _) (.cells #[.string zn,ev] 24)).alloc (by simp) (.cells #[setsV zn ev sv] 90)).alloc (by simp;omega) (.cells #[.int .i64 fr] 3)).alloc (by simp;omega) (.cells #[.int .i64 to] 3))
 have HH:=Lib.hid (And.intro h1 (And.intro h2 (And.intro h3 h4)))
 clear h1 h2 h3 h4
 unfold setsV zoneA worldA at *
 go_enter Tryz.func79,Tryz.ntmps79
 go_wp2_with fail
 go_ret
 exact ⟨rfl,HB.out,HH.out.1,HH.out.2.1,HH.out.2.2.1,HH.out.2.2.2,by simp⟩
def ChI (yb nb lp:Nat) (now0:Loc) (s0:Nat) (O0:Nat→Prop) (J:List Chg→(Nat→Prop)→World→Prop) (pre:List Chg) (O:Nat→Prop) (W:World):Prop :=
 ∃ Oj out now,(∀ k,Oj k→O k)∧J out Oj W∧(O yb∧O nb)∧(¬ Oj yb∧¬ Oj nb)∧(∀ k,Oj k→O0 k∨s0 ≤ k)∧Blk W yb 172 #[.func (.yield lp) #[] #[]]∧ChgB W nb now∧(∀ rest,dropF now0 (pre ++ rest) = out ++ dropF now.loc rest)
def ChX (now0:Loc) (s0:Nat) (O0:Nat→Prop) (Jx:List Chg→(Nat→Prop)→World→Prop) (c:Code) (pre:List Chg) (O:Nat→Prop) (W:World):Prop :=
 ∃ Oj out,(∀ k,Oj k→O k)∧(∀ k,Oj k→O0 k∨s0 ≤ k)∧c = .ret∧Jx out Oj W∧∀ rest,∃ r2,dropF now0 (pre ++ rest) = out ++ r2
section
variable {yb nb lp s0:Nat} {now0:Loc} {O0:Nat→Prop} {J Jx:List Chg→(Nat→Prop)→World→Prop}
theorem chI_feet (fJ:Feet J):Feet (ChI yb nb lp now0 s0 O0 J):=by
 rintro pre O W W' ⟨Oj,out,now,h1,h2,⟨o1,o2⟩,h3,h4,h5,h6,h7⟩ hf
 exact ⟨Oj,out,now,h1,fJ _ _ _ _ h2 (hf.mono fun k hk=>.inl fun h=>hk (h1 k h)),⟨o1,o2⟩,h3,h4,h5.fr hf (fun h=>h o1),Blk.fr h6 hf (fun h=>h o2),h7⟩
theorem chX_feet (fx:Feet Jx) (c:Code):Feet (ChX now0 s0 O0 Jx c):=by
 rintro pre O W W' ⟨Oj,out,h1,h2,hc,hJ,hr⟩ hf
 exact ⟨Oj,out,h1,h2,hc,fx _ _ _ _ hJ (hf.mono fun k hk=>.inl fun h=>hk (h1 k h)),hr⟩
end
theorem errI_zero {S:List SetF} {l:List EraF} {i:Int} (h:errI S l i = 0):errZ S l = 0:=by
 unfold errI atZ at h
 split at h
 ·exact h
 ·rename_i hn
  omega
theorem changes_iter (n:Nat) (hn:10 ≤ n) (zb sb fb tb B B2:Nat) (Wb w0:World) (zn:ByteArray) (ev sv:Value) (l:List EraF) (S:List SetF) (fr to:Int) (W:World)
  (hzb:Blk W zb 24 #[.string zn,ev]) (hsb:Blk W sb 90 #[setsV zn ev sv]) (hfb:Blk W fb 3 #[.int .i64 fr]) (htb:Blk W tb 3 #[.int .i64 to]) (hz:ZW W B ev sv l S) (ho:ZOk l S) (hlet:∀ s ∈ S,letOk s.l)
  (hE:errZ S l = 0→∀ e ∈ endL S l,-9000000000000000000 ≤ e∧e ≤ 9000000000000000000) (hfr:-9000000000000000000 ≤ fr∧fr ≤ 4500000000000) (hto:-4500000000000 ≤ to∧to ≤ 4500000000000)
  (hbs:B2 ≤ fb∧B ≤ B2∧zb ≠ fb∧sb ≠ fb∧tb ≠ fb) (hB2:B2 ≤ W.heap.size) (hWb:SameB B2 Wb W) (hm0:Tryz.MaxL w0) (hw0:w0.heap.size ≤ B2) :
  Iter Fence.wide n Tryz.prog 118 #[.pointer (some ⟨fb,0,none⟩),.pointer (some ⟨zb,0,none⟩),.pointer (some ⟨sb,0,none⟩),.pointer (some ⟨tb,0,none⟩)] encC (RC (changesL S l fr to) B2 Wb) (fun xs=>xs = changesL S l fr to) (fun pre=>∃ rest,changesL S l fr to = pre ++ rest) (fun k=>k = fb∨k < B2) (fun k=>k = fb) W:=by
 intro lp J Jx fJ fx hY O0 hJ0 hO0 hK
 obtain ⟨hfB,hBB,hzn,hsn,htn⟩:=hbs
 show CallsIn Fence.wide n Tryz.prog 118 #[.func (.yield lp) #[] #[],.pointer (some ⟨fb,0,none⟩),.pointer (some ⟨zb,0,none⟩),.pointer (some ⟨sb,0,none⟩),.pointer (some ⟨tb,0,none⟩)] W _
 refine callsIn_of_wp_marks Tryz.func118 rfl trivial ?_ rfl
 simp only [Tryz.ntmps118,List.size_toArray,List.length_cons,List.length_nil,Nat.reduceAdd,Nat.reduceSub,Array.replicate_succ,Array.replicate_zero,List.push_toArray,List.append_toArray,List.nil_append,List.cons_append]
 obtain ⟨f,hmax⟩:∃ f,max fr (-2199023255552) = f:=⟨_,rfl⟩
 have hf1:-2199023255552 ≤ f∧f ≤ 4500000000000:=by omega
 have HCL:=Lib.hid (show changesL S l fr to = if errI S l f = 0 then dropF (locZ S l f) (stepsL S l f to) else [] by unfold changesL;rw [hmax])
 have hfl:=hfb.lt
 have hzl:=hzb.lt
 have hsl:=hsb.lt
 have htl:=htb.lt
 have hF1:Fr (fun k=>k = fb) W ((W.setCell ⟨fb,0,none⟩ (.int .i64 f)).alloc (.cells #[.func (.yield lp) #[] #[]] 172)):=(Fr.setCell (T:=fun k=>k = fb) _ 0 _ rfl).then (Fr.alloc _ _)
 have hfb1:=(hfb.set 0 (.int .i64 f)).alloc (.cells #[.func (.yield lp) #[] #[]] 172)
 have hy1:=Blk.new (W.setCell ⟨fb,0,none⟩ (.int .i64 f)) 172 #[.func (.yield lp) #[] #[]]
 rw [show (W.setCell ⟨fb,0,none⟩ (.int .i64 f)).heap.size = W.heap.size by simp] at hy1
 obtain ⟨sz,hsz⟩:∃ v,setsV zn ev sv = v:=⟨_,rfl⟩
 obtain ⟨Ae,ce,he,-,-⟩:=hz.eras.form
 have HSZ:=Lib.hid hsz
 have HEV:=Lib.hid he
 rw [hsz] at hsb
 rw [he] at hzb
 have z0:=hzb.cell 0 (v:=.string zn) rfl
 have z1:=hzb.cell 1 (v:=.slice Ae l.length ce) rfl
 have s0:=hsb.cell 0 (v:=sz) rfl
 have f0:=hfb.cell 0 (v:=.int .i64 fr) rfl
 have ff:=hfb.frozen 0
 have t0:=htb.cell 0 (v:=.int .i64 to) rfl
 have HZB:=Lib.hid hzb
 have HSB:=Lib.hid hsb
 have HTB:=Lib.hid htb
 have HZ:=Lib.hid hz
 have HO:=Lib.hid ho
 have HLT:=Lib.hid hlet
 have HEI:=Lib.hid hE
 have HWB:=Lib.hid hWb
 have HF1:=Lib.hid hF1
 have HFB1:=Lib.hid hfb1
 have HY1:=Lib.hid hy1
 have hnz:zb ≠ W.heap.size:=by omega
 clear hzb hsb hfb htb hz ho hlet hE hWb hsz he hF1 hfb1 hy1
 gi_wp2
 refine wpIn_scope ?_
 gi_wp2
 obtain ⟨W1,hW1⟩:∃ W1,(W.setCell ⟨fb,0,none⟩ (.int .i64 f)).alloc (.cells #[.func (.yield lp) #[] #[]] 172) = W1:=⟨_,rfl⟩
 rw [hW1] at HF1 HFB1 HY1 ⊢
 have hsW:SameB B2 W W1:=(SameB.refl hB2).then_fr HF1.out (fun k hk e=>by omega)
 have hz1:=hsW.zw HZ.out hBB hm0 hw0
 have HSW1:=Lib.hid (HWB.out.trans hsW)
 have HZ1:=Lib.hid hz1
 have HFI:=Lib.hid (callsIn_wide (n:=n - 1).2 (zfirst_any zn ev sv B l S f W1 hz1 HO.out HLT.out))
 rw [HSZ.out,HEV.out] at HFI
 unfold zoneA at HFI
 obtain ⟨⟨yo,yd,ys⟩,hy⟩:∃ y,locZ S l f = y:=⟨_,rfl⟩
 obtain ⟨er,her⟩:∃ e,errI S l f = e:=⟨_,rfl⟩
 rw [hy,her] at HFI HCL
 unfold chgA at HFI
 have HER:=Lib.hid her
 have hs1:=HY1.out.lt
 have hws1:=HF1.out.size
 have hJ1:J [] O0 W1:=fJ _ _ _ _ hJ0 (HF1.out.mono fun k hk=>.inl (by rw [hk];exact hK fb (.inl rfl)))
 have HJ1:=Lib.hid hJ1
 clear hW1 z0 z1 s0 f0 ff t0 hsW hz1 hy her hJ1 hmax
 refine ⟨trivial,fun _=>by omega,HFI.out.mono ?_⟩
 rintro o w2 ⟨rfl,hb2⟩
 have z0:=((HZB.out.fr HF1.out hzn).below hb2 (by omega)).cell 0 (v:=.string zn) rfl
 have z1:=((HZB.out.fr HF1.out hzn).below hb2 (by omega)).cell 1 (v:=.slice Ae l.length ce) rfl
 have s0:=((HSB.out.fr HF1.out hsn).below hb2 (by omega)).cell 0 (v:=sz) rfl
 have t0:=((HTB.out.fr HF1.out htn).below hb2 (by omega)).cell 0 (v:=.int .i64 to) rfl
 have f0:=(HFB1.out.below hb2 (by omega)).cell 0 (v:=.int .i64 f) rfl
 have hs2:=hb2.size
 have hz2l:zb < w2.heap.size:=by omega
 have hs2l:sb < w2.heap.size:=by omega
 have ht2l:tb < w2.heap.size:=by omega
 have hf2l:fb < w2.heap.size:=by omega
 have HB2:=Lib.hid hb2
 have HN3:=Lib.hid (Blk.new w2 76 #[.int .i64 f,.int .i64 yo,.bool yd,.string ys])
 have HB3:=Lib.hid (HB2.out.trans (((Below.refl w2.heap.size w2).alloc (Nat.le_refl _) (.cells #[.int .i64 f,.int .i64 yo,.bool yd,.string ys] 76)).mono hs2))
 have hs3:(w2.alloc (.cells #[.int .i64 f,.int .i64 yo,.bool yd,.string ys] 76)).heap.size = w2.heap.size + 1:=by simp
 clear HFI hb2
 by_cases he0:er = 0
 ·subst he0
  rw [if_pos rfl] at HCL
  gi_wp2
  refine wpIn_label ?_
  gi_wp2
  obtain ⟨w3,hw3⟩:∃ w3,w2.alloc (.cells #[.int .i64 f,.int .i64 yo,.bool yd,.string ys] 76) = w3:=⟨_,rfl⟩
  rw [hw3] at HN3 HB3 hs3 ⊢
  have HS3:=Lib.hid hs3
  clear hw3 hs3 z0 z1 s0 f0 t0
  have HST:=Lib.hid (callsIn_wide (n:=n - 1).2 (zsteps_any w3 zn ev sv f to))
  rw [HSZ.out,HEV.out] at HST
  unfold zoneA at HST
  refine ⟨trivial,fun _=>by omega,HST.out.mono ?_⟩
  rintro o w4 ⟨rfl,hb4,g0,g1,g2,g3,hs4⟩
  have HB4:=Lib.hid (HB3.out.trans (hb4.mono HB3.out.size))
  have HN4:=Lib.hid (HN3.out.below hb4 HN3.out.lt)
  have HY4:=Lib.hid (HY1.out.below HB4.out hs1)
  have HC4:=Lib.hid (And.intro g0 (And.intro g1 (And.intro g2 g3)))
  clear hb4 g0 g1 g2 g3 HST
  gi_wp2
  have h34:w2.heap.size < w3.heap.size:=by have:=HS3.out;omega
  have HZE:=Lib.hid (errI_zero HER.out)
  refine range_own (α:=Chg) rfl (by omega) (gf:=147) (lb:=#[.pointer (some ⟨w3.heap.size,0,none⟩),.pointer (some ⟨w3.heap.size + 1,0,none⟩),.pointer (some ⟨w3.heap.size + 2,0,none⟩),.pointer (some ⟨w3.heap.size + 3,0,none⟩)]) rfl trivial (enters_of Tryz.func147 (by kernel_rfl) rfl)
   (encs:=encC) (R:=RC (stepsL S l f to) B2 Wb) (K:=fun k=>(k = w3.heap.size + 1∨k = w3.heap.size + 2∨k = w3.heap.size + 3)∨k < B2)
   (fun V hV=>steps_iter (n - 1) (by omega) _ _ _ _ B B2 Wb w0 zn ev sv l S f to V (by rw [HEV.out];exact HC4.out.1.below hV HC4.out.1.lt) (by rw [HSZ.out];exact HC4.out.2.1.below hV HC4.out.2.1.lt) (HC4.out.2.2.1.below hV HC4.out.2.2.1.lt) (HC4.out.2.2.2.below hV HC4.out.2.2.2.lt) ((HZ1.out.below HB4.out).below hV) HO.out HZE.out HLT.out (HEI.out HZE.out) (by omega) hto ⟨by omega,by omega,by omega,hBB⟩ (by have:=hV.size;omega) ((HSW1.out.then_below HB4.out (by omega)).then_below hV (by omega)) hm0 hw0)
   (fun _=>rfl) (ChI W.heap.size w2.heap.size lp ⟨yo,yd,ys⟩ W.heap.size O0 J) (ChX ⟨yo,yd,ys⟩ W.heap.size O0 Jx) (chI_feet fJ) (chX_feet fx)
   (fun k=>O0 k∨k = W.heap.size∨k = w2.heap.size) ⟨O0,[],⟨f,⟨yo,yd,ys⟩⟩,fun k h=>.inl h,fJ _ _ _ _ HJ1.out (Fr.of_below HB4.out (Nat.le_refl _)),⟨.inr (.inl rfl),.inr (.inr rfl)⟩,⟨fun e=>by have:=hO0 _ e;omega,fun e=>by have:=hO0 _ e;omega⟩,fun k h=>.inl h,HY4.out,HN4.out,fun rest=>rfl⟩
   (fun k hk=>by rcases hk with h | h | h;have:=hO0 _ h;all_goals omega) (fun k hk=>by omega) (fun k hk h=>by
     rcases h with h | h | h
     ·rcases hk with hk | hk
      ·have:=hO0 _ h
       omega
      ·exact hK k (.inr hk) h
     ·omega
     ·omega) ?round ?done ?stop
  case round =>
   intro l2 pre c O D V hI hBO hBD hDO hR nOl nDl hlow hltl
   obtain ⟨ca,⟨co,cd,cs⟩⟩:=c
   obtain ⟨hnD,⟨rest,hrest⟩,hsb⟩:=hR
   have HREST:=Lib.hid hrest
   have HBO:=Lib.hid hBO
   have HSB3:=Lib.hid hsb
   have HCV:=Lib.hid (Blk.new V 76 #[.int .i64 ca,.int .i64 co,.bool cd,.string cs])
   have HBV:=Lib.hid ((Below.refl V.heap.size V).alloc (Nat.le_refl _) (.cells #[.int .i64 ca,.int .i64 co,.bool cd,.string cs] 76))
   unfold encC chgA
   clear hI hBO hBD hDO hrest hsb
   gi_wp2
   refine ⟨HBV.out,?_⟩
   intro Vb hfb hIb _
   obtain ⟨Oj,out,⟨na,⟨no,nd,nst⟩⟩,hsub,hJ,⟨oy,on⟩,⟨ny,nn⟩,hext,hyb,hnb,hall⟩:=hIb
   have hC:=HCV.out.fr hfb (by omega)
   have hVb:V.heap.size ≤ Vb.heap.size:=Nat.le_trans HBV.out.size hfb.size
   have HSM:=Lib.hid ((SameB.then_below HSB3.out HBV.out (SameB.size HSB3.out)).then_fr hfb (fun k hk e=>by omega))
   have HBB:=Lib.hid (show Bd O Vb from fun k h=>Nat.lt_of_lt_of_le (HBO.out k h) hVb)
   have hnV:∀ k,V.heap.size ≤ k→¬ O k:=fun k hk h=>by have:=HBO.out k h;omega
   have hnbl:=Blk.lt hnb
   have hybl:=hyb.lt
   have hcl:=hC.lt
   have c0:=hC.cell 0 (v:=.int .i64 ca) rfl
   have c1:=hC.cell 1 (v:=.int .i64 co) rfl
   have c2:=hC.cell 2 (v:=.bool cd) rfl
   have c3:=hC.cell 3 (v:=.string cs) rfl
   have n0:=Blk.cell hnb 0 (v:=.int .i64 na) rfl
   have n1:=Blk.cell hnb 1 (v:=.int .i64 no) rfl
   have n2:=Blk.cell hnb 2 (v:=.bool nd) rfl
   have n3:=Blk.cell hnb 3 (v:=.string nst) rfl
   have HJ:=Lib.hid hJ
   have HYB:=Lib.hid hyb
   have HNB:=Lib.hid hnb
   have HALL:=Lib.hid hall
   have HSUB:=Lib.hid hsub
   have HEXT:=Lib.hid hext
   have HC:=Lib.hid hC
   have hncn:V.heap.size ≠ w2.heap.size:=fun e=>hnV _ (Nat.le_refl _) (by rw [e];exact on)
   clear hJ hyb hnb hall hsub hext hC hfb
   cases hq:locE ⟨co,cd,cs⟩ ⟨no,nd,nst⟩ with
   | true =>
     have hyn:=locE_iff.1 hq
     injection hyn with e1 e2 e3
     subst e1 e2 e3
     have HE:=Lib.hid (show ∀ rest,dropF ⟨yo,yd,ys⟩ ((pre ++ [⟨ca,⟨co,cd,cs⟩⟩]) ++ rest) = out ++ dropF ⟨co,cd,cs⟩ rest from fun rest=>by
      rw [List.append_assoc,HALL.out]
      show out ++ dropF ⟨co,cd,cs⟩ (⟨ca,⟨co,cd,cs⟩⟩ :: rest) = _
      rw [dropF_same hq])
     clear hq
     gi_wp2
     exact ⟨O,fun k h=>.inl h,HBB.out,Fr.refl _ _,Oj,out,⟨na,⟨co,cd,cs⟩⟩,HSUB.out,HJ.out,⟨oy,on⟩,⟨ny,nn⟩,HEXT.out,HYB.out,HNB.out,HE.out⟩
   | false =>
     have HQ:=Lib.hid hq
     have hq3:=hq
     unfold locE at hq3
     rw [decide_eq_false_iff_not] at hq3
     clear hq
     have y0:=HYB.out.cell 0 (v:=.func (.yield lp) #[] #[]) rfl
     have g0:=Blk.frozen HNB.out 0
     have g1:=Blk.frozen HNB.out 1
     have g2:=Blk.frozen HNB.out 2
     have g3:=Blk.frozen HNB.out 3
     have hcase:(co == no) = false∨((co == no) = true∧(cd == nd) = false)∨((co == no) = true∧(cd == nd) = true∧(cs.toList == nst.toList) = false):=by
      by_cases h1:co = no
      ·by_cases h2:cd = nd
       ·exact .inr (.inr ⟨by simpa using h1,by simpa using h2,beq_eq_false_iff_ne.2 fun h3=>hq3 ⟨h1,h2,h3⟩⟩)
       ·exact .inr (.inl ⟨by simpa using h1,by simpa using h2⟩)
      ·exact .inl (by simpa using h1)
     have hF5:=fr_set4 (T:=fun k=>k = w2.heap.size) Vb rfl (.int .i64 ca) (.int .i64 co) (.bool cd) (.string cs)
     have hN5:ChgB ((((Vb.setCell ⟨w2.heap.size,0,none⟩ (.int .i64 ca)).setCell ⟨w2.heap.size,1,none⟩ (.int .i64 co)).setCell ⟨w2.heap.size,2,none⟩ (.bool cd)).setCell ⟨w2.heap.size,3,none⟩ (.string cs)) w2.heap.size ⟨ca,⟨co,cd,cs⟩⟩:=(((Blk.set HNB.out 0 (.int .i64 ca)).set 1 (.int .i64 co)).set 2 (.bool cd)).set 3 (.string cs)
     obtain ⟨v5,hv5⟩:∃ v,((((Vb.setCell ⟨w2.heap.size,0,none⟩ (.int .i64 ca)).setCell ⟨w2.heap.size,1,none⟩ (.int .i64 co)).setCell ⟨w2.heap.size,2,none⟩ (.bool cd)).setCell ⟨w2.heap.size,3,none⟩ (.string cs)) = v:=⟨_,rfl⟩
     rw [hv5] at hF5 hN5
     have HF5:=Lib.hid hF5
     have HN5:=Lib.hid hN5
     have HY5:=Lib.hid (HYB.out.fr hF5 (by omega))
     have HC5:=Lib.hid (HC.out.fr hF5 hncn)
     have hs5:=hF5.size
     have y5:=HY5.out.cell 0 (v:=.func (.yield lp) #[] #[]) rfl
     have k0:=HC5.out.cell 0 (v:=.int .i64 ca) rfl
     have k1:=HC5.out.cell 1 (v:=.int .i64 co) rfl
     have k2:=HC5.out.cell 2 (v:=.bool cd) rfl
     have k3:=HC5.out.cell 3 (v:=.string cs) rfl
     have hyl5:=HY5.out.lt
     have hcl5:=HC5.out.lt
     have HSB5:=Lib.hid (HSM.out.then_fr hF5 (fun k hk e=>by omega))
     have HT:=Lib.hid (show ∀ rest,dropF ⟨yo,yd,ys⟩ ((pre ++ [⟨ca,⟨co,cd,cs⟩⟩]) ++ rest) = (out ++ [⟨ca,⟨co,cd,cs⟩⟩]) ++ dropF ⟨co,cd,cs⟩ rest from fun rest=>by
      rw [List.append_assoc,HALL.out]
      show out ++ dropF ⟨no,nd,nst⟩ (⟨ca,⟨co,cd,cs⟩⟩ :: rest) = _
      rw [dropF_turn HQ.out,List.append_assoc]
      rfl)
     have hnext:∃ rest,changesL S l fr to = out ++ ⟨ca,⟨co,cd,cs⟩⟩ :: rest:=⟨dropF ⟨co,cd,cs⟩ rest,by
      have h:=HT.out rest
      rw [List.append_assoc,List.append_assoc] at h
      rw [HCL.out,HREST.out]
      exact h⟩
     obtain ⟨fn,tmps,assign,body,hyd,hR⟩:=hY out ⟨ca,⟨co,cd,cs⟩⟩ (fun _=>False) Oj v5 (fJ _ _ _ _ HJ.out (hF5.mono fun k hk=>.inl fun h=>by subst hk;exact nn h)) (fun k h=>Nat.lt_of_lt_of_le (HBB.out k (HSUB.out k h)) hs5) (fun _ h=>h.elim) (fun _ h=>h.elim) ⟨fun _ h=>h,hnext,HSB5.out⟩
     unfold encC chgA at hyd
     simp only at hyd
     have HY2:=Lib.hid hR
     clear hq3 hF5 hN5 hR hnext
     rcases hcase with d1 | ⟨d1,d2⟩ | ⟨d1,d2,d3⟩
     all_goals
      gi_wp2
      refine ⟨fun _=>by omega,(roundIn_in HY2.out).mono ?_⟩
      rintro o v6 ⟨O6,hx6,hbd6,hf6,hend⟩
      have hN6:=Blk.fr HN5.out hf6 (fun e=>e.elim nn id)
      have hY6:=HY5.out.fr hf6 (fun e=>e.elim ny id)
      have hext6:∀ k,O6 k→O0 k∨W.heap.size ≤ k:=fun k h=>by
       rcases hx6 k h with h | h | h
       ·exact HEXT.out k h
       ·exact h.elim
       ·exact .inr (by omega)
      have hno6:∀ k,k ≤ w2.heap.size→¬ Oj k→¬ O6 k:=fun k hk hn h=>by
       rcases hx6 k h with h | h | h
       ·exact hn h
       ·exact h
       ·omega
      have hO':∀ k,(O k∨O6 k)→O k∨D k∨Vb.heap.size ≤ k:=fun k h=>by
       rcases h with h | h
       ·exact .inl h
       ·rcases hx6 k h with h | h | h
        ·exact .inl (HSUB.out k h)
        ·exact h.elim
        ·exact .inr (.inr (by omega))
      have hfr6:Fr (fun k=>O k∨D k) Vb v6:=((HF5.out.mono (T':=fun k=>O k∨D k) fun k hk=>.inl (.inl (by subst hk;exact on))).then (hf6.mono (T':=fun k=>O k∨D k) fun k hk=>.inl (.inl (HSUB.out k (hk.elim id False.elim)))))
      have hbd':Bd (fun k=>O k∨O6 k) v6:=fun k h=>by
       rcases h with h | h
       ·exact (HBB.out.fr hfr6) k h
       ·exact hbd6 k h
      clear hyd
      rcases hend with ⟨rfl,hJ6⟩ | ⟨rfl,hJx6⟩
      ·have HJ6:=Lib.hid hJ6
       clear hJ6
       gi_wp2
       exact ⟨fun k=>O k∨O6 k,hO',hbd',hfr6,O6,out ++ [⟨ca,⟨co,cd,cs⟩⟩],⟨ca,⟨co,cd,cs⟩⟩,fun k h=>.inr h,HJ6.out,⟨.inl oy,.inl on⟩,⟨hno6 _ (by omega) ny,hno6 _ (Nat.le_refl _) nn⟩,hext6,hY6,hN6,HT.out⟩
      ·have HJ6:=Lib.hid hJx6
       clear hJx6
       gi_wp2
       exact ⟨fun k=>O k∨O6 k,hO',hbd',hfr6,O6,out ++ [⟨ca,⟨co,cd,cs⟩⟩],fun k h=>.inr h,hext6,rfl,HJ6.out,fun rest=>⟨dropF ⟨co,cd,cs⟩ rest,HT.out rest⟩⟩
  case done =>
   intro D xs O V hD hS hI hO hBO hOD hfr hK2
   obtain ⟨Oj,out,now,hsub,hJ,-,-,hext,-,-,hall⟩:=hI
   have hout:out = changesL S l fr to:=by
    have h:=hall []
    rw [List.append_nil,hS] at h
    rw [HCL.out,h]
    exact (List.append_nil out).symm
   have HK2:=Lib.hid hK2
   have HOUT:=Lib.hid hout
   have HJ:=Lib.hid hJ
   have HFR:=Lib.hid ((((HF1.out.mono (T':=fun k=>O0 k∨k = fb) fun k hk=>.inl (.inr hk)).then (Fr.of_below HB4.out (Nat.le_refl _))).trans hfr fun k hk=>by
    rcases hk with (hk | hk | hk) | hk
    ·exact .inl (.inl hk)
    ·exact .inr (by omega)
    ·exact .inr (by omega)
    ·exact .inr (by omega)))
   have hDl:D < V.heap.size:=(Array.getElem?_eq_some_iff.1 hK2).1
   have hDw:W.heap.size ≤ D:=by omega
   have hnD:¬ Oj D:=fun h=>hOD (hsub D h)
   have HEXT:=Lib.hid (show ∀ k,Oj k→O0 k∨W.heap.size ≤ k from hext)
   have HSUB:=Lib.hid hsub
   have HBO:=Lib.hid hBO
   clear hS hfr hK2 hall hout hJ hext hsub hBO hO
   gi_wp2
   simp only [Exit.noGoto]
   refine ⟨by simp,.inl ⟨_,_,rfl,run_takeDeferred HK2.out,?_⟩⟩
   refine ⟨_,results_none rfl _ _ _,?_⟩
   exact ⟨⟨_,rfl⟩,Oj,HEXT.out,fun k h=>Nat.lt_of_lt_of_le (HBO.out k (HSUB.out k h)) (Nat.le_of_eq (fin_size V D _).symm),HFR.out.trans (Fr.putObj (T:=fun k=>k = D) V _ rfl) (fun k hk=>.inr (by omega)),.inl ⟨out,HOUT.out,fJ _ _ _ _ HJ.out (Fr.putObj V _ hnD)⟩⟩
  case stop =>
   intro D c pre O V hD hS hX hO hBO hOD hfr hK2
   obtain ⟨rest,hrest⟩:=hS
   obtain ⟨Oj,out,hsub,hext,rfl,hJx,hr⟩:=hX
   obtain ⟨r2,hr2⟩:=hr rest
   have HOUT:=Lib.hid (show ∃ rest,changesL S l fr to = out ++ rest from ⟨r2,by
    rw [HCL.out,hrest]
    exact hr2⟩)
   have HK2:=Lib.hid hK2
   have HJ:=Lib.hid hJx
   have HFR:=Lib.hid ((((HF1.out.mono (T':=fun k=>O0 k∨k = fb) fun k hk=>.inl (.inr hk)).then (Fr.of_below HB4.out (Nat.le_refl _))).trans hfr fun k hk=>by
    rcases hk with (hk | hk | hk) | hk
    ·exact .inl (.inl hk)
    ·exact .inr (by omega)
    ·exact .inr (by omega)
    ·exact .inr (by omega)))
   have hDl:D < V.heap.size:=(Array.getElem?_eq_some_iff.1 hK2).1
   have hDw:W.heap.size ≤ D:=by omega
   have hnD:¬ Oj D:=fun h=>hOD (hsub D h)
   have HEXT:=Lib.hid (show ∀ k,Oj k→O0 k∨W.heap.size ≤ k from hext)
   have HSUB:=Lib.hid hsub
   have HBO:=Lib.hid hBO
   clear hrest hfr hK2 hr hr2 hJx hext hsub hBO hO
   gi_wp2
   simp only [Exit.noGoto]
   refine ⟨by simp,.inl ⟨_,_,rfl,run_takeDeferred HK2.out,?_⟩⟩
   refine ⟨_,results_none rfl _ _ _,?_⟩
   exact ⟨⟨_,rfl⟩,Oj,HEXT.out,fun k h=>Nat.lt_of_lt_of_le (HBO.out k (HSUB.out k h)) (Nat.le_of_eq (fin_size V D _).symm),HFR.out.trans (Fr.putObj (T:=fun k=>k = D) V _ rfl) (fun k hk=>.inr (by omega)),.inr ⟨out,HOUT.out,fx _ _ _ _ HJ.out (Fr.putObj V _ hnD)⟩⟩
 ·have hne:(er == 0) = false:=beq_eq_false_iff_ne.2 he0
  rw [if_neg he0] at HCL
  gi_wp2
  rw [Exit.noGoto_ret]
  refine ⟨_,results_none rfl _ _ _,?_⟩
  have HFR:Fr (fun k=>O0 k∨k = fb) W (w2.alloc (.cells #[.int .i64 f,.int .i64 yo,.bool yd,.string ys] 76)):=(HF1.out.mono fun k hk=>.inl (.inr hk)).then (Fr.of_below HB3.out (Nat.le_refl _))
  exact ⟨⟨_,rfl⟩,O0,fun k h=>.inl h,hO0.fr HFR,HFR,.inl ⟨[],HCL.out.symm,fJ _ _ _ _ HJ1.out (Fr.of_below HB3.out (Nat.le_refl _))⟩⟩
end
section -- HMake
open Go Go.RowKit Go.Shelf
attribute [local go_sem] Oper.semAt_some
def makeErr (S:List SetF) (l:List EraF) (to:Int):Int :=
 if errZ S l ≠ 0 then errZ S l else if to < -2199023255552∨2199023255552 < to then 10 else errI S l (-2199023255552)
def tabL (S:List SetF) (l:List EraF) (to:Int):List Chg:=⟨-2199023255552,locZ S l (-2199023255552)⟩ :: changesL S l (-2199023255552) to
def MakeEnd (S:List SetF) (l:List EraF) (to:Int) (w:World) (o:Ending) (w':World):Prop :=
 (∃ v,o = .returned (.tuple #[v,.int .i64 (makeErr S l to)])∧(makeErr S l to = 0→Chgs w' w'.heap.size v (tabL S l to))∧(makeErr S l to ≠ 0→v = .slice none 0 0))∧Below w.heap.size w w'
theorem infoChgH:(Tryz.prog.info? 76).map (fun i=>(i.zero,i.size,i.bytes)) = some (some (.agg #[.int .i64 0,.int .i64 0,.bool false,.string ⟨#[]⟩]),4,40):=by kernel_rfl
def MkI (ob base:Nat) (c0:Chg) (pre:List Chg) (O:Nat→Prop) (W:World):Prop :=
 ∃ v,O ob∧Blk W ob 81 #[v]∧W.ownsRow base 76 4 v (c0 :: pre).length (chgsV (c0 :: pre))∧∀ g,v.ownBlock = some g→O g∧g ≠ ob
theorem mkI_feet (ob base:Nat) (c0:Chg):Feet (MkI ob base c0):=by
 rintro pre O W W' ⟨v,h3,h4,h5,h6⟩ hf
 exact ⟨v,h3,h4.fr hf (fun h=>h h3),hf.own h5 (fun g hg h=>h (h6 g hg).1),h6⟩
theorem MkI.push {ob base:Nat} {c0 c:Chg} {pre:List Chg} {O:Nat→Prop} {W W1 W2:World} {v v':Value} (hBO:Bd O W) (ho1:O ob)
  (h1:Below W.heap.size W W1) (hv:Blk W ob 81 #[v]) (hvo:∀ g,v.ownBlock = some g→O g∧g ≠ ob) (hg:W1.grownBy W2 v.ownBlock) (ho:W2.ownsRow base 76 4 v' ((c0 :: pre).length + 1) (chgsV (c0 :: pre) ++ chgV c))
  (hl:v'.ownBlock = v.ownBlock∨v'.ownBlock = some W1.heap.size) :
  ∃ O',(∀ k,O' k→O k∨W.heap.size ≤ k)∧Bd O' (W2.setCell ⟨ob,0,none⟩ v')∧Fr O W (W2.setCell ⟨ob,0,none⟩ v')∧MkI ob base c0 (pre ++ [c]) O' (W2.setCell ⟨ob,0,none⟩ v'):=by
 have hob:=hv.lt
 have hs1:=h1.size
 have hvn:v'.ownBlock ≠ some ob:=by
  rcases hl with e | e
  ·rw [e];exact fun e=>(hvo _ e).2 rfl
  ·rw [e];exact fun e=>by cases e;omega
 have n2:v.ownBlock ≠ some ob:=fun e=>(hvo _ e).2 rfl
 have g2:Blk W2 ob 81 #[v]:=(hv.below h1 hob).grown hg n2
 refine ⟨fun k=>O k∨v'.ownBlock = some k,?_,?_,?_,v',.inl ho1,g2.set 0 v',?_,fun g hg'=>⟨.inr hg',fun e=>hvn (by rw [hg',e])⟩⟩
 ·intro k hk
  rcases hk with hk | hk
  ·exact .inl hk
  ·rcases hl with e | e
   ·rw [e] at hk;exact .inl (hvo k hk).1
   ·rw [e] at hk;cases hk;exact .inr hs1
 ·intro k hk
  have hsz:(W2.setCell ⟨ob,0,none⟩ v').heap.size = W2.heap.size:=by simp
  rw [hsz]
  rcases hk with hk | hk
  ·have:=hBO k hk;have:=hg.size;omega
  ·exact (ho.lt _ hk).2
 ·exact (((Fr.of_below h1 (Nat.le_refl _)).then (Fr.grown hg (fun g e=>.inl (hvo g e).1))).then (Fr.setCell _ 0 _ ho1))
 ·have e1:c0 :: (pre ++ [c]) = (c0 :: pre) ++ [c]:=rfl
  rw [e1,chgsV_append,List.length_append,List.length_singleton,show chgsV [c] = chgV c by simp [chgsV]]
  exact Fr.own (Fr.setCell (T:=fun k=>k = ob) W2 0 v' rfl) ho (fun g hg' e=>hvn (by rw [hg',e]))
theorem own_one (w:World) (c:Chg) (base:Nat) (hb:base ≤ w.heap.size):(w.alloc (.cells #[.int .i64 c.at_,.int .i64 c.loc.off,.bool c.loc.dst,.string c.loc.abbr] 76)).ownsRow base 76 4 (.slice (some ⟨w.heap.size,0,none⟩) 1 1) 1 (chgsV [c]) :=
 ⟨by simp [chgsV,chgV],.inr ⟨w.heap.size,1,_,rfl,hb,World.alloc_heap_new _ _,Nat.le_refl _,by decide,rfl,by simp [chgsV,chgV]⟩⟩
theorem zmake_any (zn:ByteArray) (ev sv:Value) (l:List EraF) (S:List SetF) (to:Int) (B:Nat) (w:World) (hz:ZW w B ev sv l S) (ho:ZOk l S) (hlet:∀ s ∈ S,letOk s.l)
  (hE:errZ S l = 0→∀ e ∈ endL S l,-9000000000000000000 ≤ e∧e ≤ 9000000000000000000) (hcl:-2199023255552 ≤ to→to ≤ 2199023255552→(changesL S l (-2199023255552) to).length ≤ 1000000000000) :
  Calls Tryz.prog 38 #[zoneA zn ev,setsV zn ev sv,.int .i64 to] w (MakeEnd S l to w):=by
 obtain ⟨Ae,ce,he,-,-⟩:=hz.eras.form
 have HEV:=Lib.hid he
 have hb0:Below w.heap.size w (w.alloc (.cells #[.string zn,ev] 24)):=(Below.refl _ _).alloc (Nat.le_refl _) _
 have hz0:=Blk.new w 24 #[.string zn,ev]
 have HC:=Lib.hid (zcheckZ_any zn ev sv B l S _ (hz.below hb0) ho)
 obtain ⟨sz,hsz⟩:∃ v,setsV zn ev sv = v:=⟨_,rfl⟩
 have HSZ:=Lib.hid hsz
 obtain ⟨eZ,heZ⟩:∃ e,errZ S l = e:=⟨_,rfl⟩
 rw [hsz,heZ] at HC
 rw [hsz]
 have HEZ:=Lib.hid heZ
 rw [he] at hz0 HC hb0 ⊢
 unfold zoneA at HC ⊢
 have HZ:=Lib.hid hz
 have HO:=Lib.hid ho
 have HLT:=Lib.hid hlet
 have HEI:=Lib.hid hE
 have HCLN:=Lib.hid hcl
 have HB0:=Lib.hid hb0
 have HZ0:=Lib.hid hz0
 clear he hsz heZ hz ho hlet hE hcl hb0 hz0
 refine (callsIn_wide (n:=14)).1 ?_
 refine callsIn_of_wp_marks Tryz.func38 rfl trivial ?_ rfl
 simp only [Tryz.ntmps38,List.size_toArray,List.length_cons,List.length_nil,Nat.reduceAdd,Nat.reduceSub,Array.replicate_succ,Array.replicate_zero,List.push_toArray,List.append_toArray,List.nil_append,List.cons_append]
 refine wpIn_wide.2 ?_
 go_wp2_with fail
 refine HC.out.mono ?_
 rintro o w1 ⟨rfl,hb⟩
 have HB1:=Lib.hid (HB0.out.trans (hb.mono HB0.out.size))
 have HZ1:=Lib.hid (HZ0.out.below hb HZ0.out.lt)
 have hs1:=HZ1.out.lt
 have z0:=HZ1.out.cell 0 (v:=.string zn) rfl
 have z1:=HZ1.out.cell 1 (v:=.slice Ae l.length ce) rfl
 clear HC hb
 by_cases h0:eZ = 0
 ·subst h0
  by_cases hr1:to < -2199023255552
  ·have d1:decide (to < -2199023255552) = true:=decide_eq_true hr1
   have HER:=Lib.hid (show makeErr S l to = 10 by unfold makeErr;rw [HEZ.out,if_neg (by simp),if_pos (.inl hr1)])
   go_wp2_with fail
   refine ⟨.tuple #[.slice none 0 0,.int .i64 (10)],by simp [results,Tryz.f38,go_sem],⟨_,by rw [HER.out],fun h=>absurd (HER.out.symm.trans h) (by decide),fun _=>rfl⟩,HB1.out⟩
  ·by_cases hr2:2199023255552 < to
   ·have d1:decide (to < -2199023255552) = false:=decide_eq_false hr1
    have d2:decide (2199023255552 < to) = true:=decide_eq_true hr2
    have HER:=Lib.hid (show makeErr S l to = 10 by unfold makeErr;rw [HEZ.out,if_neg (by simp),if_pos (.inr hr2)])
    go_wp2_with fail
    refine ⟨.tuple #[.slice none 0 0,.int .i64 (10)],by simp [results,Tryz.f38,go_sem],⟨_,by rw [HER.out],fun h=>absurd (HER.out.symm.trans h) (by decide),fun _=>rfl⟩,HB1.out⟩
   ·have d1:decide (to < -2199023255552) = false:=decide_eq_false hr1
    have d2:decide (2199023255552 < to) = false:=decide_eq_false hr2
    have HER:=Lib.hid (show makeErr S l to = errI S l (-2199023255552) by unfold makeErr;rw [HEZ.out,if_neg (by simp),if_neg (by omega)])
    have HFI:=Lib.hid (zfirst_any zn ev sv B l S (-2199023255552) w1 (HZ.out.below HB1.out) HO.out HLT.out)
    rw [HSZ.out,HEV.out] at HFI
    unfold zoneA at HFI
    obtain ⟨⟨yo,yd,ys⟩,hy⟩:∃ y,locZ S l (-2199023255552) = y:=⟨_,rfl⟩
    obtain ⟨er,her⟩:∃ e,errI S l (-2199023255552) = e:=⟨_,rfl⟩
    rw [hy,her] at HFI
    rw [her] at HER
    unfold chgA at HFI
    have HY:=Lib.hid hy
    have HTO:=Lib.hid (show -2199023255552 ≤ to∧to ≤ 2199023255552 by omega)
    clear hy her hr1 hr2
    go_wp2_with fail
    refine HFI.out.mono ?_
    rintro o w2 ⟨rfl,hb⟩
    have HB2:=Lib.hid (HB1.out.trans (hb.mono HB1.out.size))
    have HZ2:=Lib.hid (HZ1.out.below hb hs1)
    have hs2:=HZ2.out.lt
    clear z0 z1 hb HFI
    have z0:=HZ2.out.cell 0 (v:=.string zn) rfl
    have z1:=HZ2.out.cell 1 (v:=.slice Ae l.length ce) rfl
    by_cases he0:er = 0
    ·subst he0
     have lz1:w.heap.size < w2.heap.size + 1:=by omega
     have lz2:w.heap.size < w2.heap.size + 1 + 1:=by omega
     have HOW:=Lib.hid (own_one (w2.alloc (.cells #[.int .i64 (-2199023255552),.int .i64 yo,.bool yd,.string ys] 76)) ⟨-2199023255552,⟨yo,yd,ys⟩⟩ w.heap.size (by simp;omega))
     have HT:=Lib.hid (Blk.new ((w2.alloc (.cells #[.int .i64 (-2199023255552),.int .i64 yo,.bool yd,.string ys] 76)).alloc (.cells #[.int .i64 (-2199023255552),.int .i64 yo,.bool yd,.string ys] 76)) 81 #[.slice (some ⟨w2.heap.size + 1,0,none⟩) 1 1])
     have HB3:=Lib.hid ((((Below.refl w2.heap.size w2).alloc (Nat.le_refl _) (.cells #[.int .i64 (-2199023255552),.int .i64 yo,.bool yd,.string ys] 76)).alloc (by simp) (.cells #[.int .i64 (-2199023255552),.int .i64 yo,.bool yd,.string ys] 76)).alloc (by simp;omega) (.cells #[.slice (some ⟨w2.heap.size + 1,0,none⟩) 1 1] 81))
     have HO3:=Lib.hid (HOW.out.alloc (.cells #[.slice (some ⟨w2.heap.size + 1,0,none⟩) 1 1] 81))
     have hs3:((((w2.alloc (.cells #[.int .i64 (-2199023255552),.int .i64 yo,.bool yd,.string ys] 76)).alloc (.cells #[.int .i64 (-2199023255552),.int .i64 yo,.bool yd,.string ys] 76)).alloc (.cells #[.slice (some ⟨w2.heap.size + 1,0,none⟩) 1 1] 81))).heap.size = w2.heap.size + 3:=by simp
     simp only [World.size_alloc] at HT HO3
     have HS3:=Lib.hid hs3
     clear hs3
     go_wp2_with fail
     obtain ⟨w3,hw3⟩:∃ w3,(((w2.alloc (.cells #[.int .i64 (-2199023255552),.int .i64 yo,.bool yd,.string ys] 76)).alloc (.cells #[.int .i64 (-2199023255552),.int .i64 yo,.bool yd,.string ys] 76)).alloc (.cells #[.slice (some ⟨w2.heap.size + 1,0,none⟩) 1 1] 81)) = w3:=⟨_,rfl⟩
     rw [hw3] at HB3 HT HO3 HS3 ⊢
     clear hw3 z0 z1 lz1 lz2
     have HCH:=Lib.hid (zchanges_any w3 zn ev sv (-2199023255552) to)
     rw [HSZ.out,HEV.out] at HCH
     unfold zoneA at HCH
     refine HCH.out.mono ?_
     rintro o w4 ⟨rfl,hb4,g0,g1,g2,g3,hs4⟩
     have HB4:=Lib.hid ((HB2.out.trans (HB3.out.mono (by omega))).trans (hb4.mono (by have:=HS3.out;omega)))
     have HC4:=Lib.hid (And.intro g0 (And.intro g1 (And.intro g2 g3)))
     have HT4:=Lib.hid (HT.out.below hb4 HT.out.lt)
     have HO4:=Lib.hid (ownsRow_below HO3.out hb4)
     have HS4:=Lib.hid hs4
     clear hb4 g0 g1 g2 g3 hs4 HCH
     go_wp2_with fail
     have h23:=HS3.out
     have h44:=HS4.out
     have hle:=HZ.out.le
     refine (wpIn_wide (n:=14)).1 ?_
     refine range_own (α:=Chg) rfl (by omega) (gf:=118) (lb:=#[.pointer (some ⟨w3.heap.size + 2,0,none⟩),.pointer (some ⟨w3.heap.size,0,none⟩),.pointer (some ⟨w3.heap.size + 1,0,none⟩),.pointer (some ⟨w3.heap.size + 3,0,none⟩)]) rfl trivial (enters_of Tryz.func118 (by kernel_rfl) rfl)
      (encs:=encC) (R:=RC (changesL S l (-2199023255552) to) w.heap.size w4) (K:=fun k=>k = w3.heap.size + 2∨k < w.heap.size)
      (fun V hV=>changes_iter 13 (by omega) _ _ _ _ B w.heap.size w4 w zn ev sv l S (-2199023255552) to V (by rw [HEV.out];exact HC4.out.1.below hV HC4.out.1.lt) (by rw [HSZ.out];exact HC4.out.2.1.below hV HC4.out.2.1.lt) (HC4.out.2.2.1.below hV HC4.out.2.2.1.lt) (HC4.out.2.2.2.below hV HC4.out.2.2.2.lt) ((HZ.out.below HB4.out).below hV) HO.out HLT.out HEI.out (by omega) (by have:=HTO.out;omega) ⟨by omega,by omega,by omega,by omega,by omega⟩ (by have:=hV.size;omega) ((SameB.refl (by omega)).then_below hV (by omega)) HZ.out.maxl (Nat.le_refl _))
      (fun _=>rfl) (MkI (w2.heap.size + 1 + 1) w.heap.size ⟨-2199023255552,⟨yo,yd,ys⟩⟩) (fun _ _ _ _=>False) (mkI_feet _ _ _) (fun _ _ _ _ _ h _=>h)
      (fun k=>k = w2.heap.size + 1 + 1∨k = w2.heap.size + 1) ⟨_,.inl rfl,HT4.out,HO4.out,fun g hg=>by cases hg;exact ⟨.inr rfl,by show w2.heap.size + 1 ≠ _;omega⟩⟩
      (fun k hk=>by omega) (fun k hk=>by omega) (fun k hk=>by omega) ?round ?done ?stop
     case stop =>
      intro _ _ _ _ _ _ _ h
      exact h.elim
     case round =>
      intro lp pre c O D V hI hBO hBD hDO hR nOl nDl hlow hltl
      obtain ⟨ca,⟨co,cd,cs⟩⟩:=c
      obtain ⟨hnD,⟨rest,hrest⟩,hsame⟩:=hR
      have hcl:=HCLN.out HTO.out.1 HTO.out.2
      rw [hrest,List.length_append,List.length_cons] at hcl
      have hpl:pre.length + 1 ≤ 1000000000000:=by omega
      have HBO:=Lib.hid hBO
      have HCV:=Lib.hid (Blk.new V 76 #[.int .i64 ca,.int .i64 co,.bool cd,.string cs])
      have HBV:=Lib.hid ((Below.refl V.heap.size V).alloc (Nat.le_refl _) (.cells #[.int .i64 ca,.int .i64 co,.bool cd,.string cs] 76))
      unfold encC chgA
      clear hI hBO hBD hDO hrest hsame hcl
      gi_wp2
      refine ⟨HBV.out,?_⟩
      intro Vb hfb hIb _
      obtain ⟨v,o2,hobb,hown,huo⟩:=hIb
      obtain ⟨A,c5,rfl⟩:=(Sl.of_own hown).form
      have hC:=HCV.out.fr hfb (by omega)
      have hVb:V.heap.size ≤ Vb.heap.size:=Nat.le_trans HBV.out.size hfb.size
      have HBB:=Lib.hid (show Bd O Vb from fun k h=>Nat.lt_of_lt_of_le (HBO.out k h) hVb)
      have HOB:=Lib.hid hobb
      have HOW:=Lib.hid hown
      have HUO:=Lib.hid huo
      have hwV:w.heap.size ≤ Vb.heap.size:=by omega
      have hAP:∃ v5 u5,(Builtin.append_ #[81,81] 81 #[.slice A ((⟨-2199023255552,⟨yo,yd,ys⟩⟩:Chg) :: pre).length c5,.slice (some ⟨Vb.heap.size,0,none⟩) 1 1]).run Tryz.prog (Vb.alloc (.cells #[.int .i64 ca,.int .i64 co,.bool cd,.string cs] 76)) = .ok v5 u5∧u5.ownsRow w.heap.size 76 4 v5 (((⟨-2199023255552,⟨yo,yd,ys⟩⟩:Chg) :: pre).length + 1) (chgsV ((⟨-2199023255552,⟨yo,yd,ys⟩⟩:Chg) :: pre) ++ chgV ⟨ca,⟨co,cd,cs⟩⟩) ∧
        (Vb.alloc (.cells #[.int .i64 ca,.int .i64 co,.bool cd,.string cs] 76)).grownBy u5 (Value.slice A ((⟨-2199023255552,⟨yo,yd,ys⟩⟩:Chg) :: pre).length c5).ownBlock∧(v5.ownBlock = (Value.slice A ((⟨-2199023255552,⟨yo,yd,ys⟩⟩:Chg) :: pre).length c5).ownBlock∨v5.ownBlock = some (Vb.alloc (.cells #[.int .i64 ca,.int .i64 co,.bool cd,.string cs] 76)).heap.size):=by
       obtain ⟨i0,hi,hz0,hz1,hz2⟩:=info_parts infoChgH
       obtain ⟨v5,u5,h2,h3,h4,-,h5⟩:=run_append_own_at (P:=Tryz.prog) (Vb.alloc (.cells #[.int .i64 ca,.int .i64 co,.bool cd,.string cs] 76)) w.heap.size 81 81 76 i0 (.agg #[.int .i64 0,.int .i64 0,.bool false,.string ⟨#[]⟩]) 4 40 Tryz.underlying81 hi hz0 hz1 hz2 rfl (by decide) _ _ _ (HOW.out.alloc _) ⟨Vb.heap.size,0,none⟩ 1 1 (chgV ⟨ca,⟨co,cd,cs⟩⟩) rfl (fun j y hy=>by rw [Addr.add_lit,Nat.zero_add];exact (cell_new _ _ _ _ j).trans (by simpa [chgV] using hy)) (by simp [chgV,Value.oneCell']) (by unfold maxLen;simp only [List.length_cons];omega) (by simp only [List.length_cons];omega) (by simp;omega)
       exact ⟨v5,u5,h2,h3,h4,h5⟩
      obtain ⟨v5,u5,hrun,how,hgr,hlo⟩:=hAP
      have hBn:Below Vb.heap.size Vb (Vb.alloc (.cells #[.int .i64 ca,.int .i64 co,.bool cd,.string cs] 76)):=(Below.refl _ _).alloc (Nat.le_refl _) _
      obtain ⟨A5,c6,rfl⟩:=(Sl.of_own how).form
      obtain ⟨O',hx',hbd',hfr',hI'⟩:=MkI.push (base:=w.heap.size) (c0:=⟨-2199023255552,⟨yo,yd,ys⟩⟩) (c:=⟨ca,⟨co,cd,cs⟩⟩) (pre:=pre) HBB.out o2 hBn HOB.out HUO.out hgr how hlo
      have rf5:u5.frozen? ⟨w2.heap.size + 1 + 1,0,none⟩ = false:=((HOB.out.alloc (.cells #[.int .i64 ca,.int .i64 co,.bool cd,.string cs] 76)).grown hgr (fun e=>(HUO.out _ e).2 rfl)).frozen 0
      have rc5:=((HOB.out.alloc (.cells #[.int .i64 ca,.int .i64 co,.bool cd,.string cs] 76)).grown hgr (fun e=>(HUO.out _ e).2 rfl)).cell 0 (v:=.slice A ((⟨-2199023255552,⟨yo,yd,ys⟩⟩:Chg) :: pre).length c5) rfl
      have HRES:=Lib.hid (show leftO (MkI (w2.heap.size + 1 + 1) w.heap.size ⟨-2199023255552,⟨yo,yd,ys⟩⟩) (fun _ _ _ _=>False) (pre ++ [⟨ca,⟨co,cd,cs⟩⟩]) O D Vb .normal ⟨#[],[]⟩ (u5.setCell ⟨w2.heap.size + 1 + 1,0,none⟩ (.slice A5 (((⟨-2199023255552,⟨yo,yd,ys⟩⟩:Chg) :: pre).length + 1) c6)) from ⟨O',fun k h=>by rcases hx' k h with h | h;exact .inl h;exact .inr (.inr h),hbd',hfr'.mono (fun k h=>.inl (.inl h)),hI'⟩)
      have r0:Vb.cell? ⟨w2.heap.size + 1 + 1,0,none⟩ = some (.slice A ((⟨-2199023255552,⟨yo,yd,ys⟩⟩:Chg) :: pre).length c5):=HOB.out.cell 0 rfl
      have rl:=HOB.out.lt
      have c0:=hC.cell 0 (v:=.int .i64 ca) rfl
      have c1:=hC.cell 1 (v:=.int .i64 co) rfl
      have c2:=hC.cell 2 (v:=.bool cd) rfl
      have c3:=hC.cell 3 (v:=.string cs) rfl
      have hcl:=hC.lt
      obtain ⟨m,hm⟩:∃ m,((⟨-2199023255552,⟨yo,yd,ys⟩⟩:Chg) :: pre).length = m:=⟨_,rfl⟩
      rw [hm] at hrun rc5 r0 HRES
      clear hx' hbd' hfr' hI' how hgr hlo hobb hown huo hC hm hfb
      gi_wp2_with (gi_at_builtin;refine wpListIn_append_run rfl _ _ _ rfl rfl rfl hrun ?_)
      exact HRES.out
     case done =>
      intro D xs O V hD hS hI hO hBO hOD hfr hK2
      obtain ⟨u,o2,hobb,hown,huo⟩:=hI
      have HTL:=Lib.hid (show tabL S l to = ⟨-2199023255552,⟨yo,yd,ys⟩⟩ :: xs by unfold tabL;rw [HY.out,hS])
      have r0:=hobb.cell 0 (v:=u) rfl
      have HSL:=Lib.hid (Sl.of_own hown)
      have HBL:=Lib.hid (show Below w.heap.size w V from HB4.out.trans (hfr.below (by omega) (fun k hk h=>by rcases h with (h | h) | h <;> omega)))
      have HK2:=Lib.hid hK2
      have rl:=hobb.lt
      clear hobb hown huo hfr hO hBO hS hK2
      go_wp2_with fail
      refine ⟨by simp,.inl ⟨_,_,rfl,run_takeDeferred HK2.out,?_⟩⟩
      refine ⟨.tuple #[u,.int .i64 0],?_,⟨u,by rw [HER.out],fun _=>?_,fun h=>absurd HER.out h⟩,fin_below HBL.out (by omega)⟩
      ·simp [results,Tryz.f38,go_sem]
      ·rw [HTL.out,fin_size]
       exact fin_sl HSL.out HK2.out
    ·have hne:(er == 0) = false:=beq_eq_false_iff_ne.2 he0
     go_wp2_with fail
     refine ⟨.tuple #[.slice none 0 0,.int .i64 er],by simp [results,Tryz.f38,go_sem],⟨_,by rw [HER.out],fun h=>absurd (HER.out.symm.trans h) he0,fun _=>rfl⟩,HB2.out.alloc HB2.out.size _⟩
 ·have hne:(eZ == 0) = false:=beq_eq_false_iff_ne.2 h0
  have HER:=Lib.hid (show makeErr S l to = eZ by unfold makeErr;rw [HEZ.out,if_pos h0])
  go_wp2_with fail
  refine ⟨.tuple #[.slice none 0 0,.int .i64 (eZ)],by simp [results,Tryz.f38,go_sem],⟨_,by rw [HER.out],fun h=>absurd (HER.out.symm.trans h) (h0),fun _=>rfl⟩,HB1.out⟩
end
end Go.Proofs.YteekjfgjmccdnaaGreatDoor
