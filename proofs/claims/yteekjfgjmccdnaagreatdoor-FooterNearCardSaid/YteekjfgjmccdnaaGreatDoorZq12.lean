/-
  The law FooterNear of package meridianlaw15 holds: for every input the call returns true, and each argument reads afterwards as it read before.
  Conditions: none beyond the row's own (the listed package-level variables read as the row lists them; the card ties that to the text).
-/
import Derived.Test.YteekjfgjmccdnaaGreatDoorChecked
import Derived.Test.YteekjfgjmccdnaaGreatDoorRows
import Derived.Lib.LaidTab
import Derived.SizedLaws
import Derived.LaidSub
import Derived.Test.YteekjfgjmccdnaaGreatDoorCards
import Derived.Test.YteekjfgjmccdnaaGreatDoorTie
import Derived.Deep.DeepHandedRow
import Derived.Lay
import Derived.Test.YteekjfgjmccdnaaGreatDoorZq11
set_option maxHeartbeats 16000000
set_option maxRecDepth 100000
namespace Go.Proofs.YteekjfgjmccdnaaGreatDoor
section -- GPrev
open Go Go.RowKit Go.Shelf
attribute [local go_sem] Oper.semAt_some
def DefsOk (B:Nat) (ds:List Deferred) (w:World):Prop:=(∀ d ∈ ds,∃ D,d = { target:=.collected D,args:=#[] }∧B ≤ D∧w.heap[D]? = some (.deferred (some [])))∧ds.Nodup
theorem DefsOk.fr {B:Nat} {ds:List Deferred} {w w':World} {T:Nat→Prop} (h:DefsOk B ds w) (hf:Fr T w w') (hT:∀ k,T k→∀ x,w.heap[k]? ≠ some (.deferred x)):DefsOk B ds w' :=
 ⟨fun d hd=>by obtain ⟨D,e,hB,hD⟩:=h.1 d hd;exact ⟨D,e,hB,hf.at_ hD (fun e=>hT D e _ hD)⟩,h.2⟩
theorem DefsOk.push {B D:Nat} {ds:List Deferred} {w w':World} {T:Nat→Prop} (h:DefsOk B ds w) (hf:Fr T w w') (hT:∀ k,T k→∀ x,w.heap[k]? ≠ some (.deferred x)) (hD:w.heap.size ≤ D) (hB:B ≤ D) (hK:w'.heap[D]? = some (.deferred (some []))):DefsOk B ({ target:=.collected D,args:=#[] } :: ds) w':=by
 have h1:=h.fr hf hT
 refine ⟨fun d hd=>?_,List.nodup_cons.2 ⟨fun hd=>?_,h.2⟩⟩
 ·rcases List.mem_cons.1 hd with rfl | hd
  ·exact ⟨D,rfl,hB,hK⟩
  ·exact h1.1 d hd
 ·obtain ⟨D2,e,-,h2⟩:=h.1 _ hd
  have h3:=(Array.getElem?_eq_some_iff.1 h2).1
  have:D = D2:=by injection e with e1 _;injection e1
  omega
theorem leave_defs {F:Fence} {n:Nat} {P:Program} {fn:Func} {tmps:Array Value} {R:Ending→World→Prop} {B:Nat}:∀ (ds:List Deferred) (w:World),DefsOk B ds w→(∀ w',Fr (fun k=>B ≤ k∧∃ x,w.heap[k]? = some (.deferred x)) w w'→LeavesIn F n P fn tmps R [] .returning w')→LeavesInM F n P fn tmps R ds .returning w
 | [],w,_,h=>h w (Fr.refl _ _)
 | d :: ds,w,hd,h=>by
   obtain ⟨D,rfl,hB,hD⟩:=hd.1 d List.mem_cons_self
   have h2:DefsOk B ds (w.putObj D (.deferred none)):=⟨fun e he=>by
    obtain ⟨D2,rfl,hB2,hD2⟩:=hd.1 e (List.mem_cons_of_mem _ he)
    have hne:D2 ≠ D:=fun e=>by subst e;exact (List.nodup_cons.1 hd.2).1 he
    exact ⟨D2,rfl,hB2,(World.putObj_heap_other hne).trans hD2⟩,(List.nodup_cons.1 hd.2).2⟩
   have h3:∀ w',Fr (fun k=>B ≤ k∧∃ x,(w.putObj D (.deferred none)).heap[k]? = some (.deferred x)) (w.putObj D (.deferred none)) w'→LeavesIn F n P fn tmps R [] .returning w':=fun w' hf=>h w' ((Fr.putObj (T:=fun k=>B ≤ k∧∃ x,w.heap[k]? = some (.deferred x)) w _ ⟨hB,_,hD⟩).then (hf.mono fun k hk=>.inl ⟨hk.1,by
    obtain ⟨x,hx⟩:=hk.2
    by_cases e:k = D
    ·subst e;exact ⟨_,hD⟩
    ·exact ⟨x,(World.putObj_heap_other e).symm.trans hx⟩⟩))
   exact ⟨by simp,.inl ⟨D,_,rfl,run_takeDeferred hD,leave_defs ds _ h2 h3⟩⟩
def PvI (fb ob nb:Nat) (F:Foot) (u:Value) (pre:List (Int × Fir)) (O:Nat→Prop) (W:World):Prop :=
 (O fb∧O ob∧O nb)∧Blk W fb 54 (footC F u)∧∃ o:Option Int,(∃ c:Chg,ChgB W ob c∧∀ a,o = some a→c = ⟨a,tlocF F a⟩)∧Blk W nb 4 #[.bool o.isSome]∧∀ rest,lastS F none (pre ++ rest) = lastS F o rest
theorem pvI_feet (fb ob nb:Nat) (F:Foot) (u:Value):Feet (PvI fb ob nb F u):=by
 rintro pre O W W' ⟨⟨o0,o1,o2⟩,h0,o,⟨c,h1,h2⟩,h3,hr⟩ hf
 exact ⟨⟨o0,o1,o2⟩,h0.fr hf (fun h=>h o0),o,⟨c,Blk.fr h1 hf (fun h=>h o1),h2⟩,h3.fr hf (fun h=>h o2),hr⟩
def PvX (_:Code) (_:List (Int × Fir)) (_:Nat→Prop) (_:World):Prop:=False
theorem pvX_feet (c:Code):Feet (PvX c):=fun _ _ _ _ h _=>h
theorem fprev_any (w:World) (B:Nat) (u:Value) (F:Foot) (i:Int) (hm:Tryz.MaxL w) (hrw:RW w B u F.rules) (hg:FootGood F) (hs:F.since ≤ 9000000000000000000) (hi:-9000000000000000000 ≤ i∧i ≤ 9000000000000000000) :
  Calls Tryz.prog 36 #[footA F u,.int .i64 i] w fun o w'=>o = .returned (chgO F (prevF F i))∧Below w.heap.size w w':=by
 obtain ⟨A,cp,rfl,hlc,hcm⟩:=hrw.ruls.form
 have hb0:=((Below.refl w.heap.size w).alloc (Nat.le_refl _) (.cells (footC F (.slice A F.rules.length cp)) 54)).alloc (by simp) (.cells #[.int .i64 0,.int .i64 0,.bool false,.string ⟨#[]⟩] 76)
 have hx0:=(Blk.new w 54 (footC F (.slice A F.rules.length cp))).alloc (.cells #[.int .i64 0,.int .i64 0,.bool false,.string ⟨#[]⟩] 76)
 have hr0:=Blk.new (w.alloc (.cells (footC F (.slice A F.rules.length cp)) 54)) 76 #[.int .i64 0,.int .i64 0,.bool false,.string ⟨#[]⟩]
 rw [World.size_alloc] at hr0
 have HX:=Lib.hid hx0
 have HR:=Lib.hid hr0
 have HB:=Lib.hid hb0
 have HM:=Lib.hid hm
 have HRW:=Lib.hid hrw
 have HG:=Lib.hid hg
 have HE:=Lib.hid (fun W=>callsIn_wide (n:=7).2 (fendless_any W F A cp))
 have hoff:=hg.off
 have hsc:=hg.since
 unfold footC at hx0 HX HB HR
 unfold footA at HE ⊢
 have xq0:=Blk.cell hx0 0 (v:=.int .i64 F.since) rfl
 have xq1:=Blk.cell hx0 1 (v:=.int .i64 F.off) rfl
 have xq2:=Blk.cell hx0 2 (v:=.int .i64 F.save) rfl
 have xq3:=Blk.cell hx0 3 (v:=.string F.letter) rfl
 have xq4:=Blk.cell hx0 4 (v:=.string F.fm) rfl
 have xq5:=Blk.cell hx0 5 (v:=.slice A F.rules.length cp) rfl
 have xql:=Blk.lt hx0
 clear hm hrw hg hb0 hx0 hr0
 refine (callsIn_wide (n:=8)).1 ?_
 refine callsIn_of_wp_marks Tryz.func36 rfl trivial ?_ rfl
 simp only [Tryz.ntmps36,List.size_toArray,List.length_cons,List.length_nil,Nat.reduceAdd,Nat.reduceSub,Array.replicate_succ,Array.replicate_zero,List.push_toArray,List.append_toArray,List.nil_append,List.cons_append]
 by_cases hlen:0 < F.rules.length
 ·rw [decide_eq_true hlen] at HE
  gi_wp2
  refine ⟨trivial,(HE.out _).mono ?_⟩
  rintro o w1 ⟨rfl,hb⟩
  have HB1:=Lib.hid (HB.out.trans (hb.mono HB.out.size))
  have HX1:=Lib.hid (HX.out.below hb HX.out.lt)
  have HR1:=Lib.hid (HR.out.below hb HR.out.lt)
  clear xq0 xq1 xq2 xq3 xq4 xq5 xql
  clear hb HE HX HR HB
  obtain ⟨first,hfi⟩:∃ x,min i 2199023255552 = x:=⟨_,rfl⟩
  have hf1:first ≤ 2199023255552∧first ≤ i∧-9000000000000000000 ≤ first:=by omega
  have HPF:=Lib.hid (show prevF F i = prevN F first 200 first by unfold prevF;rw [if_pos hlen,hfi])
  gi_wp2
  clear hfi
  have hs1:=HR1.out.lt
  refine wpIn_loop (fun a W=>∃ (k:Nat) (to:Int) (ds:List Deferred) (u8 u9 u20 u21 u22 u23 u24 u25 u26 u27 u28 u29 u30 u31 u32 u33 u34 u35 u36 u37 u38 u39 u40 u41 u42 u43 u54:Value),(k ≤ 101∧to = first - 126489600 * (k:Int)∧prevF F i = prevN F first (200 - k) to∧Below w.heap.size w W∧Blk W w.heap.size 54 #[.int .i64 F.since,.int .i64 F.off,.int .i64 F.save,.string F.letter,.string F.fm,.slice A F.rules.length cp]∧Blk W (w.heap.size + 1) 76 #[.int .i64 0,.int .i64 0,.bool false,.string ⟨#[]⟩]∧DefsOk (w.heap.size + 2) ds W)∧a = { tmps:=#[.agg #[.int .i64 F.since,.int .i64 F.off,.int .i64 F.save,.string F.letter,.string F.fm,.slice A F.rules.length cp],.int .i64 i,.pointer (some ⟨w.heap.size,0,none⟩),undef,.pointer (some ⟨w.heap.size + 1,0,none⟩),.bool false,.int .i64 first,.int .i64 to,u8,u9,undef,undef,undef,.agg #[.int .i64 F.since,.int .i64 F.off,.int .i64 F.save,.string F.letter,.string F.fm,.slice A F.rules.length cp],.bool true,.bool false,undef,.int .i64 i,.int .i64 first,.int .i64 first,u20,u21,u22,u23,u24,u25,u26,u27,u28,u29,u30,u31,u32,u33,u34,u35,u36,u37,u38,u39,u40,u41,u42,u43,undef,undef,undef,undef,undef,undef,undef,undef,undef,undef,u54,undef,undef],defers:=ds }) (fun a W=>(intOf (a.tmps.getD 7 undef) + 20000000000000).toNat) ?start ?round
  case start=>exact ⟨0,first,[],undef,undef,undef,undef,undef,undef,undef,undef,undef,undef,undef,undef,undef,undef,undef,undef,undef,undef,undef,undef,undef,undef,undef,undef,undef,undef,undef,⟨by omega,by simp,HPF.out,HB1.out,HX1.out,HR1.out,⟨fun d hd=>(by cases hd),List.nodup_nil⟩⟩,rfl⟩
  case round =>
   clear HPF HB1 HX1 HR1 hs1
   rintro a W ⟨k,to,ds,u8,u9,u20,u21,u22,u23,u24,u25,u26,u27,u28,u29,u30,u31,u32,u33,u34,u35,u36,u37,u38,u39,u40,u41,u42,u43,u54,⟨hk,hto,hpv,hb,hx,hr,hds⟩,rfl⟩
   have HB1:=Lib.hid hb
   have HX1:=Lib.hid hx
   have HR1:=Lib.hid hr
   have HDS:=Lib.hid hds
   have HTO:=Lib.hid hto
   have HPV:=Lib.hid hpv
   have xq0:=Blk.cell hx 0 (v:=.int .i64 F.since) rfl
   have xq1:=Blk.cell hx 1 (v:=.int .i64 F.off) rfl
   have xq2:=Blk.cell hx 2 (v:=.int .i64 F.save) rfl
   have xq3:=Blk.cell hx 3 (v:=.string F.letter) rfl
   have xq4:=Blk.cell hx 4 (v:=.string F.fm) rfl
   have xq5:=Blk.cell hx 5 (v:=.slice A F.rules.length cp) rfl
   have xql:=Blk.lt hx
   have hs1:=hr.lt
   have hto2:to ≤ first:=by omega
   obtain ⟨n,hn⟩:∃ n,200 - k = n + 1:=⟨199 - k,by omega⟩
   rw [hn] at hpv
   unfold prevN at hpv
   have HPN:=Lib.hid hpv
   have HN:=Lib.hid hn
   clear hb hx hr hds hto hpv hn
   by_cases h1:F.since < to
   ·have d1:decide (F.since < to) = true:=decide_eq_true h1
    by_cases h2:first - 12749270400 < to
    ·have d2:decide (first - 12622780800 - 126489600 < to) = true:=decide_eq_true (by omega)
     have HPA:=Lib.hid (show ∀ a,lastS F none (firedF F.rules F.off (max F.since (to - 126489600)) to) = some a→prevF F i = some a from fun a e=>by rw [HPN.out,if_pos ⟨h1,h2⟩,e])
     have HPB:=Lib.hid (show lastS F none (firedF F.rules F.off (max F.since (to - 126489600)) to) = none→prevF F i = prevN F first n (to - 126489600) from fun e=>by rw [HPN.out,if_pos ⟨h1,h2⟩,e])
     gi_wp2
     obtain ⟨W2,hW2⟩:∃ V,(W.alloc (.cells #[.int .i64 0,.int .i64 0,.bool false,.string ⟨#[]⟩] 76)).alloc (.cells #[.bool false] 4) = V:=⟨_,rfl⟩
     obtain ⟨c0,c1,hb2,hs2⟩:=blks2 W _ _ _ _ W2 hW2
     try simp only [hW2]
     clear hW2
     clear xq0 xq1 xq2 xq3 xq4 xq5 xql
     have HX2:=Lib.hid (HX1.out.below hb2 HX1.out.lt)
     have HR2:=Lib.hid (HR1.out.below hb2 HR1.out.lt)
     have HO2:=Lib.hid (show ChgB W2 W.heap.size ⟨0,⟨0,false,⟨#[]⟩⟩⟩ from c0)
     have HN2:=Lib.hid c1
     have HB2:=Lib.hid (HB1.out.trans (hb2.mono HB1.out.size))
     have HD2:=Lib.hid (HDS.out.fr (Fr.of_below (T:=fun _=>False) hb2 (Nat.le_refl _)) (fun _ h=>h.elim))
     obtain ⟨ob,hob⟩:∃ b,W.heap.size = b:=⟨_,rfl⟩
     rw [hob] at HO2 HN2 hs1 hs2 ⊢
     have hs2a:ob + 1 < W2.heap.size:=by omega
     clear hb2 c0 c1 HX1 HR1 HB1 hob hs2 HPN HPV HDS
     obtain ⟨m,hmm⟩:∃ m,max F.since (to - 126489600) = m:=⟨_,rfl⟩
     rw [hmm] at HPA HPB ⊢
     have hm1:-2199023255552 ≤ m∧m ≤ 9000000000000000000:=by omega
     clear hmm
     refine ⟨trivial,(callsIn_wide (n:=7).2 (fired_any W2 (.slice A F.rules.length cp) A F.rules.length cp rfl F.off m to)).mono ?_⟩
     rintro o W3 ⟨rfl,hb3,g0,g1,g2,g3⟩
     have HX3:=Lib.hid (HX2.out.below hb3 HX2.out.lt)
     have HR3:=Lib.hid (HR2.out.below hb3 HR2.out.lt)
     have HO3:=Lib.hid (HO2.out.below hb3 HO2.out.lt)
     have HN3:=Lib.hid (HN2.out.below hb3 HN2.out.lt)
     have HB3:=Lib.hid (HB2.out.trans (hb3.mono HB2.out.size))
     have HD3:=Lib.hid (HD2.out.fr (Fr.of_below (T:=fun _=>False) hb3 (Nat.le_refl _)) (fun _ h=>h.elim))
     have HC3:=Lib.hid (And.intro g0 (And.intro g1 (And.intro g2 g3)))
     have hs3:=hb3.size
     have l3:=g3.lt
     have hBw:=HRW.out.le
     clear hb3 g0 g1 g2 g3 HX2 HR2 HO2 HN2 HB2 HD2
     gi_wp2
     refine range_own (α:=Int × Fir) rfl (by omega) (gf:=116) (lb:=#[.pointer (some ⟨W2.heap.size,0,none⟩),.pointer (some ⟨W2.heap.size + 2,0,none⟩),.pointer (some ⟨W2.heap.size + 3,0,none⟩),.pointer (some ⟨W2.heap.size + 1,0,none⟩)]) rfl trivial (enters_of Tryz.func116 (by kernel_rfl) rfl)
      (encs:=encF) (R:=RF F.rules F.off m to w.heap.size W3) (K:=fun k=>KF W2.heap.size (W2.heap.size + 2) (W2.heap.size + 3) (W2.heap.size + 1) B k∨k < w.heap.size)
      (fun V hV=>fired_iter2 7 (by omega) _ _ _ _ B w.heap.size W3 _ F.rules F.off m to V (HC3.out.1.below hV HC3.out.1.lt) (HC3.out.2.2.1.below hV HC3.out.2.2.1.lt) (HC3.out.2.2.2.below hV HC3.out.2.2.2.lt) (HC3.out.2.1.below hV HC3.out.2.1.lt) ((HRW.out.below HB3.out).below hV) HG.out.ok.yr HG.out.ok.sv (by omega) (by omega) (by omega) (by have:=hV.size;have:=HB3.out.size;omega) (fun k hk=>hV.block k (by have:=HB3.out.size;omega)))
      (fun _=>rfl) (PvI w.heap.size ob (ob + 1) F (.slice A F.rules.length cp)) PvX (pvI_feet _ _ _ _ _) pvX_feet
      (fun k=>k = w.heap.size∨k = ob∨k = ob + 1) ⟨⟨.inl rfl,.inr (.inl rfl),.inr (.inr rfl)⟩,HX3.out,none,⟨⟨0,⟨0,false,⟨#[]⟩⟩⟩,HO3.out,fun a e=>(by cases e)⟩,HN3.out,fun rest=>rfl⟩ (fun k hk=>by omega) (fun k hk=>by unfold KF at hk;omega) (fun k hk h=>by unfold KF at hk;omega) ?round ?done ?stop
     case round =>
      intro l2 pre y O D V hI hBO hBD hDO hR nOl nDl hlow hltl
      obtain ⟨at_,f⟩:=y
      obtain ⟨hnD,⟨rest,hrest⟩,hsame⟩:=hR
      have hsb:SameB w.heap.size W3 V:=⟨by have:=HB3.out.size;omega,hsame⟩
      have hat:m < at_∧at_ ≤ to:=firedF_in (x:=(at_,f)) (by rw [hrest];simp)
      have HBO:=Lib.hid hBO
      unfold encF firA
      clear hI hBO hBD hDO hrest hsame
      gi_wp2
      refine ⟨Below.refl _ _,?_⟩
      intro Vb hfb hIb _
      obtain ⟨⟨o0,o1,o2⟩,hx,oo,⟨cz,hc,hcz⟩,hn,hall⟩:=hIb
      have hsb2:=hsb.then_fr hfb (fun k hk e=>by omega)
      have HT:=Lib.hid ((wide1 l2).calls (n:=5) (fturns_any Vb B (.slice A F.rules.length cp) F at_ (hsb2.maxl (HM.out.below HB3.out (Nat.le_refl _)) HM.out (Nat.le_refl _)) (hsb2.rw_ (HRW.out.below HB3.out) hBw) HG.out (by omega)))
      have HALL:=Lib.hid hall
      have HBB:=Lib.hid (HBO.out.fr hfb)
      have HXb:=Lib.hid hx
      have HOb:=Lib.hid hc
      have HNb:=Lib.hid hn
      have HCZ:=Lib.hid hcz
      have xq0:=Blk.cell hx 0 (v:=.int .i64 F.since) rfl
      have xq1:=Blk.cell hx 1 (v:=.int .i64 F.off) rfl
      have xq2:=Blk.cell hx 2 (v:=.int .i64 F.save) rfl
      have xq3:=Blk.cell hx 3 (v:=.string F.letter) rfl
      have xq4:=Blk.cell hx 4 (v:=.string F.fm) rfl
      have xq5:=Blk.cell hx 5 (v:=.slice A F.rules.length cp) rfl
      have xql:=Blk.lt hx
      unfold footA chgA at HT
      obtain ⟨⟨yo,yd,ys⟩,hy⟩:∃ y,tlocF F at_ = y:=⟨_,rfl⟩
      rw [hy] at HT
      have HY:=Lib.hid hy
      clear hy hx hc hn hall hfb hsb hsb2 HBO hcz
      gi_wp2
      refine ⟨trivial,HT.out.mono ?_⟩
      rintro o v4 ⟨rfl,hb4⟩
      clear xq0 xq1 xq2 xq3 xq4 xq5 xql
      have HB4:=Lib.hid (hb4.alloc hb4.size (.cells #[.int .i64 at_,.int .i64 yo,.bool yd,.string ys] 76))
      have hx4:=(HXb.out.below hb4 HXb.out.lt).alloc (.cells #[.int .i64 at_,.int .i64 yo,.bool yd,.string ys] 76)
      have ho4:=Blk.below HOb.out hb4 (Blk.lt HOb.out)
      have hn4:=HNb.out.below hb4 HNb.out.lt
      have HX4:=Lib.hid hx4
      have HO4:=Lib.hid (Blk.alloc ho4 (.cells #[.int .i64 at_,.int .i64 yo,.bool yd,.string ys] 76))
      have HN4:=Lib.hid (hn4.alloc (.cells #[.int .i64 at_,.int .i64 yo,.bool yd,.string ys] 76))
      have HS:=Lib.hid (show ∀ rest,lastS F none ((pre ++ [(at_,f)]) ++ rest) = lastS F (if turnF F at_ then some at_ else oo) rest from fun rest=>by
       rw [List.append_assoc,HALL.out]
       rfl)
      cases ht:turnF F at_ with
      | true =>
        have HST:=Lib.hid (show ∀ rest,lastS F none ((pre ++ [(at_,f)]) ++ rest) = lastS F (some at_) rest from fun rest=>by rw [HS.out,if_pos ht])
        have k0:=Blk.cell ho4 0 (v:=.int .i64 cz.at_) rfl
        have k1:=Blk.cell ho4 1 (v:=.int .i64 cz.loc.off) rfl
        have k2:=Blk.cell ho4 2 (v:=.bool cz.loc.dst) rfl
        have k3:=Blk.cell ho4 3 (v:=.string cz.loc.abbr) rfl
        have z0:=Blk.frozen ho4 0
        have z1:=Blk.frozen ho4 1
        have z2:=Blk.frozen ho4 2
        have z3:=Blk.frozen ho4 3
        have zn:=hn4.frozen 0
        have kn:=hn4.cell 0 (v:=.bool oo.isSome) rfl
        have ko:=Blk.lt ho4
        have kl:=hn4.lt
        have HF5:=Lib.hid ((((Fr.of_below (T:=fun k=>O k∨D k) hb4 (Nat.le_refl _)).then (fr_set4 (T:=fun k=>O k∨D k) v4 (.inl o1) (.int .i64 at_) (.int .i64 yo) (.bool yd) (.string ys))).then (Fr.setCell (T:=fun k=>O k∨D k) _ 0 (.bool true) (.inl o2))).then (Fr.alloc (T:=fun k=>O k∨D k) _ (.cells #[.int .i64 at_,.int .i64 yo,.bool yd,.string ys] 76)))
        have HO5:=Lib.hid ((((((Blk.set ho4 0 (.int .i64 at_)).set 1 (.int .i64 yo)).set 2 (.bool yd)).set 3 (.string ys)).other (show ob ≠ ob + 1 by omega) 0 (.bool true)).alloc (.cells #[.int .i64 at_,.int .i64 yo,.bool yd,.string ys] 76))
        have HN5:=Lib.hid (((((((hn4.other (show ob + 1 ≠ ob by omega) 0 (.int .i64 at_)).other (show ob + 1 ≠ ob by omega) 1 (.int .i64 yo)).other (show ob + 1 ≠ ob by omega) 2 (.bool yd)).other (show ob + 1 ≠ ob by omega) 3 (.string ys))).set 0 (.bool true)).alloc (.cells #[.int .i64 at_,.int .i64 yo,.bool yd,.string ys] 76))
        have n5:w.heap.size ≠ ob:=by omega
        have n7:w.heap.size ≠ ob + 1:=by omega
        have HX5:=Lib.hid (((((((HXb.out.below hb4 HXb.out.lt).other n5 0 (.int .i64 at_)).other n5 1 (.int .i64 yo)).other n5 2 (.bool yd)).other n5 3 (.string ys)).other n7 0 (.bool true)).alloc (.cells #[.int .i64 at_,.int .i64 yo,.bool yd,.string ys] 76))
        clear hb4 ho4 hn4 hx4 HT ht
        gi_wp2
        exact ⟨O,fun k h=>.inl h,HBB.out.fr HF5.out,HF5.out,⟨o0,o1,o2⟩,HX5.out,some at_,⟨⟨at_,⟨yo,yd,ys⟩⟩,HO5.out,fun a e=>by cases e;rw [HY.out]⟩,HN5.out,HST.out⟩
      | false =>
        have HST:=Lib.hid (show ∀ rest,lastS F none ((pre ++ [(at_,f)]) ++ rest) = lastS F oo rest from fun rest=>by rw [HS.out,if_neg (by rw [ht];decide)])
        clear hb4 ho4 hn4 hx4 HT ht
        gi_wp2
        exact ⟨O,fun k h=>.inl h,HBB.out.fr (Fr.of_below (T:=fun _=>True) HB4.out (Nat.le_refl _)),Fr.of_below HB4.out (Nat.le_refl _),⟨o0,o1,o2⟩,HX4.out,oo,⟨cz,HO4.out,HCZ.out⟩,HN4.out,HST.out⟩
     case done =>
      intro D xs O V hD hS hI hO hBO hOD hfr hK
      obtain ⟨-,hx,oo,⟨cz,hc,hcz⟩,hn,hall⟩:=hI
      have hla:lastS F none (firedF F.rules F.off m to) = oo:=by
       have h:=hall []
       rw [List.append_nil,hS] at h
       exact h
      have hT:∀ k,((k = w.heap.size∨k = ob∨k = ob + 1)∨False)→∀ x,W3.heap[k]? ≠ some (.deferred x):=fun k hk x e=>by
       rcases hk with (rfl | rfl | rfl) | hk
       ·cases (show W3.heap[w.heap.size]? = some _ from HX3.out).symm.trans e
       ·cases (show W3.heap[k]? = some _ from HO3.out).symm.trans e
       ·cases (show W3.heap[ob + 1]? = some _ from HN3.out).symm.trans e
       ·exact hk
      have HD4:=Lib.hid (HD3.out.push hfr hT hD (by omega) hK)
      have HB4:=Lib.hid (HB3.out.trans (hfr.below HB3.out.size (fun k hk h=>by rcases h with (h | h | h) | h <;> omega)))
      have HR4:=Lib.hid (HR3.out.fr hfr (fun h=>by rcases h with (h | h | h) | h <;> omega))
      have HX4:=Lib.hid hx
      have kn:=hn.cell 0 (v:=.bool oo.isSome) rfl
      have kl:=hn.lt
      have k0:=Blk.cell hc 0 (v:=.int .i64 cz.at_) rfl
      have k1:=Blk.cell hc 1 (v:=.int .i64 cz.loc.off) rfl
      have k2:=Blk.cell hc 2 (v:=.bool cz.loc.dst) rfl
      have k3:=Blk.cell hc 3 (v:=.string cz.loc.abbr) rfl
      have ko:=Blk.lt hc
      have HCZ:=Lib.hid hcz
      have HLA:=Lib.hid hla
      clear hx hc hcz hn hall hla hT hfr hK hS
      cases oo with
      | some a =>
        have HNO:=Lib.hid (show prevF F i = some a from HPA.out a HLA.out)
        obtain rfl:=HCZ.out a rfl
        obtain ⟨⟨yo,yd,ys⟩,hy⟩:∃ y,tlocF F a = y:=⟨_,rfl⟩
        rw [hy] at k1 k2 k3
        have HY:=Lib.hid hy
        simp only at k0 k1 k2 k3
        clear hy
        have r0:=Blk.cell HR4.out 0 (v:=.int .i64 0) rfl
        have r1:=Blk.cell HR4.out 1 (v:=.int .i64 0) rfl
        have r2:=Blk.cell HR4.out 2 (v:=.bool false) rfl
        have r3:=Blk.cell HR4.out 3 (v:=.string ⟨#[]⟩) rfl
        have f0:=Blk.frozen HR4.out 0
        have f1:=Blk.frozen HR4.out 1
        have f2:=Blk.frozen HR4.out 2
        have f3:=Blk.frozen HR4.out 3
        have rl:=Blk.lt HR4.out
        simp only [Option.isSome_some] at kn
        gi_wp2
        have hds:=HD4.out.fr (fr_set4 (T:=fun k=>k = w.heap.size + 1) V rfl (.int .i64 a) (.int .i64 yo) (.bool yd) (.string ys)) (fun k hk x e=>by
         subst hk
         cases (show V.heap[w.heap.size + 1]? = some _ from HR4.out).symm.trans e)
        have HY4:=Lib.hid ((((HR4.out.set 0 (.int .i64 a)).set 1 (.int .i64 yo)).set 2 (.bool yd)).set 3 (.string ys))
        have HB5:=Lib.hid (below_set4 HB4.out (show w.heap.size ≤ w.heap.size + 1 by omega) (.int .i64 a) (.int .i64 yo) (.bool yd) (.string ys))
        refine leave_defs _ _ hds fun w' hf=>?_
        have hy:=HY4.out.fr hf (fun h=>by have:=h.1;omega)
        have c0:=hy.cell 0 (v:=.int .i64 a) rfl
        have c1:=hy.cell 1 (v:=.int .i64 yo) rfl
        have c2:=hy.cell 2 (v:=.bool yd) rfl
        have c3:=hy.cell 3 (v:=.string ys) rfl
        refine ⟨.tuple #[.agg #[.int .i64 a,.int .i64 yo,.bool yd,.string ys],.bool true],?_,⟨by rw [HNO.out];unfold chgO;simp only;rw [HY.out];rfl,HB5.out.trans (hf.below HB5.out.size (fun k hk h=>by have:=h.1;omega))⟩⟩
        simp [results,Tryz.f36,go_sem,c0,c1,c2,c3]
      | none =>
        have HNO:=Lib.hid (show prevF F i = prevN F first n (to - 126489600) from HPB.out HLA.out)
        simp only [Option.isSome_none] at kn
        gi_wp2
        have hn9:=HN.out
        exact ⟨⟨k + 1,to - 126489600,_,_,_,_,_,_,_,_,_,_,_,_,_,_,_,_,_,_,_,_,_,_,_,_,_,_,_,_,⟨by have:=HTO.out;omega,by have:=HTO.out;push_cast;omega,by rw [HNO.out,show 200 - (k + 1) = n by omega],HB4.out,HX4.out,HR4.out,HD4.out⟩,rfl⟩,by show ((to - 126489600) + 20000000000000).toNat < (to + 20000000000000).toNat;omega⟩
     case stop =>
      intro D c pre O V hD hS hI
      exact hI.elim
    ·have d2:decide (first - 12622780800 - 126489600 < to) = false:=decide_eq_false (by omega)
     have HNO:=Lib.hid (show prevF F i = none by rw [HPN.out,if_neg (fun e=>h2 e.2)])
     have r0:=Blk.cell HR1.out 0 (v:=.int .i64 0) rfl
     have r1:=Blk.cell HR1.out 1 (v:=.int .i64 0) rfl
     have r2:=Blk.cell HR1.out 2 (v:=.bool false) rfl
     have r3:=Blk.cell HR1.out 3 (v:=.string ⟨#[]⟩) rfl
     have f0:=Blk.frozen HR1.out 0
     have f1:=Blk.frozen HR1.out 1
     have f2:=Blk.frozen HR1.out 2
     have f3:=Blk.frozen HR1.out 3
     have rl:=Blk.lt HR1.out
     gi_wp2
     have hds:=HDS.out.fr (fr_set4 (T:=fun k=>k = w.heap.size + 1) W rfl (.int .i64 0) (.int .i64 0) (.bool false) (.string ⟨#[]⟩)) (fun k hk x e=>by
      subst hk
      cases (show W.heap[w.heap.size + 1]? = some _ from HR1.out).symm.trans e)
     have HY:=Lib.hid ((((HR1.out.set 0 (.int .i64 0)).set 1 (.int .i64 0)).set 2 (.bool false)).set 3 (.string ⟨#[]⟩))
     have HB2:=Lib.hid (below_set4 HB1.out (show w.heap.size ≤ w.heap.size + 1 by omega) (.int .i64 0) (.int .i64 0) (.bool false) (.string ⟨#[]⟩))
     refine leave_defs ds _ hds fun w' hf=>?_
     have hy:=HY.out.fr hf (fun h=>by have:=h.1;omega)
     have c0:=hy.cell 0 (v:=.int .i64 0) rfl
     have c1:=hy.cell 1 (v:=.int .i64 0) rfl
     have c2:=hy.cell 2 (v:=.bool false) rfl
     have c3:=hy.cell 3 (v:=.string ⟨#[]⟩) rfl
     refine ⟨.tuple #[.agg #[.int .i64 0,.int .i64 0,.bool false,.string ⟨#[]⟩],.bool false],?_,⟨by rw [HNO.out];rfl,HB2.out.trans (hf.below HB2.out.size (fun k hk h=>by have:=h.1;omega))⟩⟩
     simp [results,Tryz.f36,go_sem,c0,c1,c2,c3]
   ·have d1:decide (F.since < to) = false:=decide_eq_false h1
    have HNO:=Lib.hid (show prevF F i = none by rw [HPN.out,if_neg (fun e=>h1 e.1)])
    have r0:=Blk.cell HR1.out 0 (v:=.int .i64 0) rfl
    have r1:=Blk.cell HR1.out 1 (v:=.int .i64 0) rfl
    have r2:=Blk.cell HR1.out 2 (v:=.bool false) rfl
    have r3:=Blk.cell HR1.out 3 (v:=.string ⟨#[]⟩) rfl
    have f0:=Blk.frozen HR1.out 0
    have f1:=Blk.frozen HR1.out 1
    have f2:=Blk.frozen HR1.out 2
    have f3:=Blk.frozen HR1.out 3
    have rl:=Blk.lt HR1.out
    gi_wp2
    have hds:=HDS.out.fr (fr_set4 (T:=fun k=>k = w.heap.size + 1) W rfl (.int .i64 0) (.int .i64 0) (.bool false) (.string ⟨#[]⟩)) (fun k hk x e=>by
     subst hk
     cases (show W.heap[w.heap.size + 1]? = some _ from HR1.out).symm.trans e)
    have HY:=Lib.hid ((((HR1.out.set 0 (.int .i64 0)).set 1 (.int .i64 0)).set 2 (.bool false)).set 3 (.string ⟨#[]⟩))
    have HB2:=Lib.hid (below_set4 HB1.out (show w.heap.size ≤ w.heap.size + 1 by omega) (.int .i64 0) (.int .i64 0) (.bool false) (.string ⟨#[]⟩))
    refine leave_defs ds _ hds fun w' hf=>?_
    have hy:=HY.out.fr hf (fun h=>by have:=h.1;omega)
    have c0:=hy.cell 0 (v:=.int .i64 0) rfl
    have c1:=hy.cell 1 (v:=.int .i64 0) rfl
    have c2:=hy.cell 2 (v:=.bool false) rfl
    have c3:=hy.cell 3 (v:=.string ⟨#[]⟩) rfl
    refine ⟨.tuple #[.agg #[.int .i64 0,.int .i64 0,.bool false,.string ⟨#[]⟩],.bool false],?_,⟨by rw [HNO.out];rfl,HB2.out.trans (hf.below HB2.out.size (fun k hk h=>by have:=h.1;omega))⟩⟩
    simp [results,Tryz.f36,go_sem,c0,c1,c2,c3]
 ·rw [decide_eq_false hlen] at HE
  have HNO:=Lib.hid (prev_nil hlen i)
  gi_wp2
  refine ⟨trivial,(HE.out _).mono ?_⟩
  rintro o w1 ⟨rfl,hb⟩
  have HB1:=Lib.hid (HB.out.trans (hb.mono HB.out.size))
  have HR1:=Lib.hid (HR.out.below hb HR.out.lt)
  clear xq0 xq1 xq2 xq3 xq4 xq5 xql
  clear hb HE HX HR HB
  have r0:=Blk.cell HR1.out 0 (v:=.int .i64 0) rfl
  have r1:=Blk.cell HR1.out 1 (v:=.int .i64 0) rfl
  have r2:=Blk.cell HR1.out 2 (v:=.bool false) rfl
  have r3:=Blk.cell HR1.out 3 (v:=.string ⟨#[]⟩) rfl
  have f0:=Blk.frozen HR1.out 0
  have f1:=Blk.frozen HR1.out 1
  have f2:=Blk.frozen HR1.out 2
  have f3:=Blk.frozen HR1.out 3
  have rl:=Blk.lt HR1.out
  gi_wp2
  have HY:=Lib.hid ((((HR1.out.set 0 (.int .i64 0)).set 1 (.int .i64 0)).set 2 (.bool false)).set 3 (.string ⟨#[]⟩))
  have c0:=HY.out.cell 0 (v:=.int .i64 0) rfl
  have c1:=HY.out.cell 1 (v:=.int .i64 0) rfl
  have c2:=HY.out.cell 2 (v:=.bool false) rfl
  have c3:=HY.out.cell 3 (v:=.string ⟨#[]⟩) rfl
  refine ⟨.tuple #[.agg #[.int .i64 0,.int .i64 0,.bool false,.string ⟨#[]⟩],.bool false],?_,⟨by rw [HNO.out];rfl,below_set4 HB1.out (by omega) _ _ _ _⟩⟩
  simp [results,Tryz.f36,go_sem,c0,c1,c2,c3]
end
section -- GNear
open Go Go.RowKit Go.Shelf
theorem foot_rightG {S:List SetF} {l:List EraF} (h:FewZ S l) (hr:0 < (footZ S l).rules.length):∃ A,RightG (footZ S l).rules A:=by
 obtain ⟨A,hA⟩:=h.right (lastE l)
 unfold footZ at hr ⊢
 rw [if_pos h.err] at hr ⊢
 unfold footOf at hr ⊢
 unfold ruleE at hA
 split at hr
 ·simp at hr
 ·rename_i hru
  rw [if_neg hru] at hA
  split at hr
  ·rename_i hl
   rw [if_neg hru,if_pos hl]
   refine rightG_of hA fun r hr=>?_
   obtain ⟨k1,k2⟩:=List.mem_filter.1 hr
   unfold endlB at k2
   exact ⟨(List.mem_filter.1 k1).1,of_decide_eq_true k2⟩
  ·split at hr <;> simp at hr
theorem loc_parts {a b:Int} {x y:Bool} {s t:ByteArray} (h:(⟨a,x,s⟩:Loc) ≠ ⟨b,y,t⟩):(a == b) = false∨((a == b) = true∧(x == y) = false)∨((a == b) = true∧(x == y) = true∧(s.toList == t.toList) = false):=by
 by_cases h1:a = b
 ·by_cases h2:x = y
  ·exact .inr (.inr ⟨by simpa using h1,by simpa using h2,beq_eq_false_iff_ne.2 fun h3=>h (by rw [h1,h2,bytes_list h3])⟩)
  ·exact .inr (.inl ⟨by simpa using h1,by simpa using h2⟩)
 ·exact .inl (by simpa using h1)
theorem fnear_walk (w:World) (zn:ByteArray) (ev sv:Value) (l:List EraF) (S:List SetF) (a1 a2:Int) (he:ErasR w w.heap.size ev l) (hs:SetsR w w.heap.size sv S) (hfm:∀ x ∈ l,x.fm.size < 1152921504606846976) (hlet:∀ s ∈ S,letOk s.l)
  (h1:-9223372036854775808 ≤ a1∧a1 ≤ 9223372036854775807) (h2:-9223372036854775808 ≤ a2∧a2 ≤ 9223372036854775807) (ha:Ahead w) (htab:0 < w.heap.size) (hm:Tryz.MaxL w) :
  Calls Tryz.prog 9 #[worldA zn ev sv,.int .i64 a1,.int .i64 a2] w fun o w'=>o = .returned (.bool true)∧Below w.heap.size w w':=by
 obtain ⟨A,cA,rfl,hlc,hcm⟩:=he.form
 obtain ⟨A2,cS,rfl,hlc2,hcm2⟩:=hs.form
 unfold maxLen at hcm hcm2
 obtain ⟨W0,hW0⟩:∃ W,w.alloc (.cells #[.string zn,.slice A l.length cA,.slice A2 S.length cS] 27) = W:=⟨_,rfl⟩
 have hb0:Below w.heap.size w W0:=by rw [← hW0];exact (Below.refl w.heap.size w).alloc (Nat.le_refl _) _
 have hxx:Blk W0 w.heap.size 27 #[.string zn,.slice A l.length cA,.slice A2 S.length cS]:=by rw [← hW0];exact Blk.new w _ _
 have HXX:=Lib.hid hxx
 have hz0:=ZW.mk (he.below hb0) (hs.below hb0) (ha.below hb0 (Nat.le_refl _)) htab (hm.below hb0 (Nat.le_refl _)) hb0.size
 have HF:=Lib.hid (right14_any W0 zn _ _ w.heap.size l S hz0 hfm)
 have HZ0:=Lib.hid hz0
 have HB0:=Lib.hid hb0
 have HLET:=Lib.hid hlet
 have HNEAR:=Lib.hid (fun W=>near_any a1 W)
 clear hb0 hxx he hs hm hlet hfm ha hz0
 have HW0:=Lib.hid hW0
 clear hW0
 unfold worldA at *
 go_enter Tryz.func9,Tryz.ntmps9
 have x0:=HXX.out.cell 0 (v:=.string zn) rfl
 have x1:=HXX.out.cell 1 (v:=.slice A l.length cA) rfl
 have x2:=HXX.out.cell 2 (v:=.slice A2 S.length cS) rfl
 have hxl:=HXX.out.lt
 rw [← HW0.out] at x0 x1 x2 hxl
 go_wp2_with fail
 rw [HW0.out]
 try simp only [HW0.out]
 refine HF.out.mono ?_
 rintro o w1 ⟨⟨u,v,rfl,hR⟩,hb⟩
 clear x0 x1 x2 hxl HW0
 have HB1:=Lib.hid hb
 cases hg:goodZ l S with
 | false =>
   clear hR hb HF hg
   go_wp2_with fail
   refine (fawake_any _ ((HZ0.out.below (HB1.out)).ahead) (Nat.lt_of_lt_of_le ((HZ0.out.below (HB1.out)).tab) ((HZ0.out.below (HB1.out)).le)) ((HZ0.out.below (HB1.out)).maxl)).mono ?_
   rintro o wz ⟨rfl,hbz⟩
   have HBZ:=Lib.hid (HB0.out.trans ((HB1.out).mono HB0.out.size |>.trans (hbz.mono (Nat.le_trans HB0.out.size (HB1.out).size))))
   clear hbz
   go_wp2_with fail
   go_ret
   exact ⟨rfl,HBZ.out⟩
 | true =>
   have HFZ:=Lib.hid (FewZ.mk (good_iff.1 hg).2 (good_iff.1 hg).1)
   have HFEW:=Lib.hid (good_iff.1 hg).1
   have HGG:=Lib.hid (footZ_good HFZ.out (few_okR HFEW.out) HLET.out)
   have hof:=ftof_any zn zn (.slice A l.length cA) (.slice A l.length cA) (.slice A2 S.length cS) w.heap.size l S w1 (HZ0.out.below HB1.out) (few_okR HFEW.out) (fr_few HFEW.out)
   unfold FootPost at hof
   rw [HFZ.out.err] at hof
   have HOF:=Lib.hid hof
   unfold zoneA setsV worldA at HOF
   clear hR hb HF hg hof HLET
   go_wp2_with fail
   refine (HNEAR.out _).mono ?_
   rintro o w1 ⟨rfl,rfl⟩
   cases hnr:nearB a1 with
   | false =>
     clear HOF HGG
     go_wp2_with fail
     refine (fawake_any _ ((HZ0.out.below (HB1.out)).ahead) (Nat.lt_of_lt_of_le ((HZ0.out.below (HB1.out)).tab) ((HZ0.out.below (HB1.out)).le)) ((HZ0.out.below (HB1.out)).maxl)).mono ?_
     rintro o wz ⟨rfl,hbz⟩
     have HBZ:=Lib.hid (HB0.out.trans ((HB1.out).mono HB0.out.size |>.trans (hbz.mono (Nat.le_trans HB0.out.size (HB1.out).size))))
     clear hbz
     go_wp2_with fail
     go_ret
     exact ⟨rfl,HBZ.out⟩
   | true =>
     have hn1:-2366841600 < a1∧a1 < 3944678400:=by unfold nearB at hnr;rwa [decide_eq_true_eq] at hnr
     clear hnr
     by_cases hc0:a2 < 0
     ·have d1:decide (a2 < 0) = true:=decide_eq_true hc0
      clear HOF HGG
      go_wp2_with fail
      refine (fawake_any _ ((HZ0.out.below (HB1.out)).ahead) (Nat.lt_of_lt_of_le ((HZ0.out.below (HB1.out)).tab) ((HZ0.out.below (HB1.out)).le)) ((HZ0.out.below (HB1.out)).maxl)).mono ?_
      rintro o wz ⟨rfl,hbz⟩
      have HBZ:=Lib.hid (HB0.out.trans ((HB1.out).mono HB0.out.size |>.trans (hbz.mono (Nat.le_trans HB0.out.size (HB1.out).size))))
      clear hbz
      go_wp2_with fail
      go_ret
      exact ⟨rfl,HBZ.out⟩
     ·have d1:decide (a2 < 0) = false:=decide_eq_false hc0
      by_cases hc1:100 < a2
      ·have d2:decide (100 < a2) = true:=decide_eq_true hc1
       clear HOF HGG
       go_wp2_with fail
       refine (fawake_any _ ((HZ0.out.below (HB1.out)).ahead) (Nat.lt_of_lt_of_le ((HZ0.out.below (HB1.out)).tab) ((HZ0.out.below (HB1.out)).le)) ((HZ0.out.below (HB1.out)).maxl)).mono ?_
       rintro o wz ⟨rfl,hbz⟩
       have HBZ:=Lib.hid (HB0.out.trans ((HB1.out).mono HB0.out.size |>.trans (hbz.mono (Nat.le_trans HB0.out.size (HB1.out).size))))
       clear hbz
       go_wp2_with fail
       go_ret
       exact ⟨rfl,HBZ.out⟩
      ·have d2:decide (100 < a2) = false:=decide_eq_false hc1
       obtain ⟨t,htt⟩:∃ t,a1 + a2 * 12622780800 = t:=⟨_,rfl⟩
       have ht1:-2366841600 < t∧t < 1300000000000:=by omega
       have hxb:=HXX.out.below (HB1.out) HXX.out.lt
       have x0:=hxb.cell 0 (v:=.string zn) rfl
       have x1:=hxb.cell 1 (v:=.slice A l.length cA) rfl
       have x2:=hxb.cell 2 (v:=.slice A2 S.length cS) rfl
       have hxl:=hxb.lt
       clear hxb
       go_wp2_with fail
       refine HOF.out.mono ?_
       rintro o w2 ⟨⟨uf,rfl,how⟩,hb⟩
       have HB2:=Lib.hid (HB1.out.trans (hb.mono HB1.out.size))
       have HRG:=Lib.hid (foot_rightG HFZ.out)
       obtain ⟨⟨sc,ofs,sv,ltr,fm,Rl⟩,hFF⟩:∃ F,footZ S l = F:=⟨_,rfl⟩
       have HG:=HGG
       rw [hFF] at HG HRG how ⊢
       clear hFF hb HOF x0 x1 x2 hxl HGG HFZ HFEW
       obtain ⟨Au,cu,rfl⟩:=(Sl.of_own how).form
       have hsc:=HG.out.since
       have hof:=HG.out.off
       simp only at hsc hof
       have HAT:=Lib.hid (fun (W:World) (h:Below W0.heap.size W0 W) (i:Int) (hr:Ruls W W.heap.size (.slice Au Rl.length cu) Rl)=>fat_any W W.heap.size (.slice Au Rl.length cu) ⟨sc,ofs,sv,ltr,fm,Rl⟩ i ((HZ0.out.below h).maxl) (RW.mk hr ((HZ0.out.below h).ahead) (Nat.lt_of_lt_of_le ((HZ0.out.below h).tab) ((HZ0.out.below h).le)) (Nat.le_refl _)) HG.out.footOk)
       unfold footA at HAT ⊢
       simp only at HAT ⊢
       have HF:=Lib.hid (Blk.new w2 54 #[.int .i64 sc,.int .i64 ofs,.int .i64 sv,.string ltr,.string fm,.slice Au Rl.length cu])
       have HB:=Lib.hid (HB2.out.alloc HB2.out.size (.cells #[.int .i64 sc,.int .i64 ofs,.int .i64 sv,.string ltr,.string fm,.slice Au Rl.length cu] 54))
       have HO:=Lib.hid (how.alloc (.cells #[.int .i64 sc,.int .i64 ofs,.int .i64 sv,.string ltr,.string fm,.slice Au Rl.length cu] 54))
       clear how HB2
       by_cases hts:t < sc
       ·have d3:decide (t < sc) = true:=decide_eq_true hts
        go_wp2_with fail
        refine (fawake_any _ ((HZ0.out.below (HB.out)).ahead) (Nat.lt_of_lt_of_le ((HZ0.out.below (HB.out)).tab) ((HZ0.out.below (HB.out)).le)) ((HZ0.out.below (HB.out)).maxl)).mono ?_
        rintro o wz ⟨rfl,hbz⟩
        have HBZ:=Lib.hid (HB0.out.trans ((HB.out).mono HB0.out.size |>.trans (hbz.mono (Nat.le_trans HB0.out.size (HB.out).size))))
        clear hbz
        go_wp2_with fail
        go_ret
        exact ⟨rfl,HBZ.out⟩
       ·have d3:decide (t < sc) = false:=decide_eq_false hts
        have HNX:=Lib.hid (fun (W:World) (h:Below W0.heap.size W0 W) (i:Int) (hr:Ruls W W.heap.size (.slice Au Rl.length cu) Rl) (hi:-9000000000000000000 ≤ i∧i ≤ 9000000000000000000)=>fnext_any W W.heap.size (.slice Au Rl.length cu) ⟨sc,ofs,sv,ltr,fm,Rl⟩ i ((HZ0.out.below h).maxl) (RW.mk hr ((HZ0.out.below h).ahead) (Nat.lt_of_lt_of_le ((HZ0.out.below h).tab) ((HZ0.out.below h).le)) (Nat.le_refl _)) HG.out (show sc ≤ 9000000000000000000 by omega) hi)
        have HPV:=Lib.hid (fun (W:World) (h:Below W0.heap.size W0 W) (i:Int) (hr:Ruls W W.heap.size (.slice Au Rl.length cu) Rl) (hi:-9000000000000000000 ≤ i∧i ≤ 9000000000000000000)=>fprev_any W W.heap.size (.slice Au Rl.length cu) ⟨sc,ofs,sv,ltr,fm,Rl⟩ i ((HZ0.out.below h).maxl) (RW.mk hr ((HZ0.out.below h).ahead) (Nat.lt_of_lt_of_le ((HZ0.out.below h).tab) ((HZ0.out.below h).le)) (Nat.le_refl _)) HG.out (show sc ≤ 9000000000000000000 by omega) hi)
        have HEN:=Lib.hid (fun W=>fendless_any W ⟨sc,ofs,sv,ltr,fm,Rl⟩ Au cu)
        unfold footA at HNX HPV HEN
        simp only at HNX HPV HEN
        have HA1:=Lib.hid (fun (W:World) (h:Below W0.heap.size W0 W) (hr:Ruls W W.heap.size (.slice Au Rl.length cu) Rl)=>HAT.out W h t hr)
        have HN1:=Lib.hid (fun (W:World) (h:Below W0.heap.size W0 W) (hr:Ruls W W.heap.size (.slice Au Rl.length cu) Rl)=>HNX.out W h t hr (by omega))
        have HP1:=Lib.hid (fun (W:World) (h:Below W0.heap.size W0 W) (hr:Ruls W W.heap.size (.slice Au Rl.length cu) Rl)=>HPV.out W h t hr (by omega))
        rw [fatV_good HG.out (show sc ≤ t by omega) (by omega)] at HA1
        obtain ⟨⟨no,nd,ns⟩,hnow⟩:∃ x,locF ⟨sc,ofs,sv,ltr,fm,Rl⟩ t = x:=⟨_,rfl⟩
        rw [hnow] at HA1
        have HNOW:=Lib.hid hnow
        unfold locA at HA1
        simp only at HA1
        clear hnow
        go_wp2_with fail
        refine (HA1.out _ HB.out (Sl.of_own HO.out)).mono ?_
        rintro o w4 ⟨rfl,hb⟩
        try clear fc0 fc1 fc2 fc3 fc4 fc5 fcl
        try clear nc0 nc1 nc2 ncl
        try clear xc0 xc1 xc2 xc3 xcl
        try clear yc0 yc1 yc2 yc3 ycl
        try clear pc0 pc1 pc2 pcl
        try clear qc0 qc1 qc2 qcl
        try clear rc0 rc1 rc2 rc3 rcl
        have h_:=Blk.below HF.out hb (Blk.lt HF.out)
        have fc0:=Blk.cell h_ 0 (v:=.int .i64 sc) rfl
        have fc1:=Blk.cell h_ 1 (v:=.int .i64 ofs) rfl
        have fc2:=Blk.cell h_ 2 (v:=.int .i64 sv) rfl
        have fc3:=Blk.cell h_ 3 (v:=.string ltr) rfl
        have fc4:=Blk.cell h_ 4 (v:=.string fm) rfl
        have fc5:=Blk.cell h_ 5 (v:=.slice Au Rl.length cu) rfl
        have fcl:=Blk.lt h_
        replace HF:=Lib.hid (Blk.alloc h_ (.cells #[.int .i64 no,.bool nd,.string ns] 48))
        clear h_
        replace HO:=Lib.hid ((ownsRow_below HO.out hb).alloc (.cells #[.int .i64 no,.bool nd,.string ns] 48))
        replace HB:=Lib.hid ((HB.out.trans (hb.mono HB.out.size)).alloc (Nat.le_trans HB.out.size hb.size) (.cells #[.int .i64 no,.bool nd,.string ns] 48))
        have HN:=Lib.hid (Blk.new w4 48 #[.int .i64 no,.bool nd,.string ns])
        clear hb HA1
        by_cases hr:0 < Rl.length
        ·obtain ⟨AG,hAG⟩:=HRG.out hr
         have HAG:=Lib.hid hAG
         rw [decide_eq_true hr] at HEN
         clear hAG
         rw [show nextF ⟨sc,ofs,sv,ltr,fm,Rl⟩ t = nextF ⟨sc,ofs,sv,ltr,fm,Rl⟩ t from rfl] at HN1
         cases hnx:nextF ⟨sc,ofs,sv,ltr,fm,Rl⟩ t with
         | some xa =>
           rw [hnx] at HN1
           obtain ⟨⟨hx1,hx2⟩,hxt,hx3⟩:=next_some HAG.out hof hsc hnx
           simp only at hx1
           have hx4:t < xa:=by omega
           have hx5:sc ≤ xa - 1:=by omega
           have hst:=still_turn (F:=⟨sc,ofs,sv,ltr,fm,Rl⟩) (a:=t) (b:=xa - 1) (by show sc ≤ t;omega) (by omega) (fun j j1 j2=>hx3 j (by simp only;omega) (by omega)) (by omega)
           rw [HNOW.out] at hst
           have hne:=(turnF_iff.1 hxt).2
           obtain ⟨⟨xo,xd,xs⟩,hxl⟩:∃ x,locF ⟨sc,ofs,sv,ltr,fm,Rl⟩ xa = x:=⟨_,rfl⟩
           rw [hxl,hst] at hne
           have htl:tlocF ⟨sc,ofs,sv,ltr,fm,Rl⟩ xa = ⟨xo,xd,xs⟩:=by unfold tlocF;rw [if_neg (by show ¬ (xa < sc∨2199023255552 < xa);omega)];exact hxl
           have HA2:=Lib.hid (fun (W:World) (h:Below W0.heap.size W0 W) (hr:Ruls W W.heap.size (.slice Au Rl.length cu) Rl)=>HAT.out W h (xa - 1) hr)
           have HA3:=Lib.hid (fun (W:World) (h:Below W0.heap.size W0 W) (hr:Ruls W W.heap.size (.slice Au Rl.length cu) Rl)=>HAT.out W h xa hr)
           have HP2:=Lib.hid (fun (W:World) (h:Below W0.heap.size W0 W) (hr:Ruls W W.heap.size (.slice Au Rl.length cu) Rl)=>HPV.out W h xa hr (by omega))
           rw [fatV_good HG.out (show sc ≤ xa - 1 by omega) (by omega),hst] at HA2
           rw [fatV_good HG.out (show sc ≤ xa by omega) hx2,hxl] at HA3
           rw [prev_at HAG.out hof hsc hr hxt] at HP2
           unfold chgO at HN1 HP2
           simp only [htl] at HN1 HP2
           unfold chgA at HN1 HP2
           unfold locA at HA2 HA3
           simp only at HN1 HP2 HA2 HA3
           have hcnx:(no == xo) = false∨((no == xo) = true∧(nd == xd) = false)∨((no == xo) = true∧(nd == xd) = true∧(ns.toList == xs.toList) = false):=loc_parts (fun e=>hne e.symm)
           have d4:decide (xa ≤ t) = false:=decide_eq_false (by omega)
           have hxa:-9000000000000000000 ≤ xa∧xa ≤ 9000000000000000000:=by omega
           clear hx1 hx2 hx3 hx4 hx5 hst hne hxl htl hxt hnx
           cases hpv:prevF ⟨sc,ofs,sv,ltr,fm,Rl⟩ t with
           | some ya =>
             rw [hpv] at HP1
             obtain ⟨⟨hy1,hy2⟩,hyt,hy3⟩:=prev_some HAG.out hof hsc (by omega) hpv
             simp only at hy1
             have hst:=still_turn (F:=⟨sc,ofs,sv,ltr,fm,Rl⟩) (a:=ya) (b:=t) (by show sc ≤ ya;omega) (by omega) (fun j j1 j2=>hy3 j j1 j2) (by omega)
             rw [HNOW.out] at hst
             have hne:=(turnF_iff.1 hyt).2
             obtain ⟨⟨ao,ad,as_⟩,hal⟩:∃ x,locF ⟨sc,ofs,sv,ltr,fm,Rl⟩ (ya - 1) = x:=⟨_,rfl⟩
             rw [hal,← hst] at hne
             have htl:tlocF ⟨sc,ofs,sv,ltr,fm,Rl⟩ ya = ⟨no,nd,ns⟩:=by unfold tlocF;rw [if_neg (by show ¬ (ya < sc∨2199023255552 < ya);omega)];exact hst.symm
             have HA4:=Lib.hid (fun (W:World) (h:Below W0.heap.size W0 W) (hr:Ruls W W.heap.size (.slice Au Rl.length cu) Rl)=>HAT.out W h (ya - 1) hr)
             have HN2:=Lib.hid (fun (W:World) (h:Below W0.heap.size W0 W) (hr:Ruls W W.heap.size (.slice Au Rl.length cu) Rl)=>HNX.out W h (ya - 1) hr (by omega))
             rw [fatV_good HG.out (show sc ≤ ya - 1 by omega) (by omega),hal] at HA4
             rw [next_at HAG.out hof hsc hr hyt] at HN2
             unfold chgO at HP1 HN2
             simp only [htl] at HP1 HN2
             unfold chgA at HP1 HN2
             unfold locA at HA4
             simp only at HP1 HN2 HA4
             have hcan:(ao == no) = false∨((ao == no) = true∧(ad == nd) = false)∨((ao == no) = true∧(ad == nd) = true∧(as_.toList == ns.toList) = false):=loc_parts (fun e=>hne e.symm)
             have d5:decide (t < ya) = false:=decide_eq_false (by omega)
             have d6:decide (ya ≤ sc) = false:=decide_eq_false (by omega)
             have hya:-9000000000000000000 ≤ ya∧ya ≤ 9000000000000000000:=by omega
             clear hy1 hy2 hy3 hst hne hal htl hyt hpv
             clear HAT HNX HPV HAG HRG HNOW
             go_wp2_with fail
             refine (HN1.out _ HB.out (Sl.of_own HO.out)).mono ?_
             rintro o v21 ⟨rfl,hb⟩
             try clear fc0 fc1 fc2 fc3 fc4 fc5 fcl
             try clear nc0 nc1 nc2 ncl
             try clear xc0 xc1 xc2 xc3 xcl
             try clear yc0 yc1 yc2 yc3 ycl
             try clear pc0 pc1 pc2 pcl
             try clear qc0 qc1 qc2 qcl
             try clear rc0 rc1 rc2 rc3 rcl
             have h_:=Blk.below HF.out hb (Blk.lt HF.out)
             have fc0:=Blk.cell h_ 0 (v:=.int .i64 sc) rfl
             have fc1:=Blk.cell h_ 1 (v:=.int .i64 ofs) rfl
             have fc2:=Blk.cell h_ 2 (v:=.int .i64 sv) rfl
             have fc3:=Blk.cell h_ 3 (v:=.string ltr) rfl
             have fc4:=Blk.cell h_ 4 (v:=.string fm) rfl
             have fc5:=Blk.cell h_ 5 (v:=.slice Au Rl.length cu) rfl
             have fcl:=Blk.lt h_
             replace HF:=Lib.hid (Blk.alloc h_ (.cells #[.int .i64 xa,.int .i64 xo,.bool xd,.string xs] 76))
             clear h_
             have h_:=Blk.below HN.out hb (Blk.lt HN.out)
             replace HN:=Lib.hid (Blk.alloc h_ (.cells #[.int .i64 xa,.int .i64 xo,.bool xd,.string xs] 76))
             clear h_
             replace HO:=Lib.hid ((ownsRow_below HO.out hb).alloc (.cells #[.int .i64 xa,.int .i64 xo,.bool xd,.string xs] 76))
             replace HB:=Lib.hid ((HB.out.trans (hb.mono HB.out.size)).alloc (Nat.le_trans HB.out.size hb.size) (.cells #[.int .i64 xa,.int .i64 xo,.bool xd,.string xs] 76))
             have HX:=Lib.hid (Blk.new v21 76 #[.int .i64 xa,.int .i64 xo,.bool xd,.string xs])
             clear hb HN1
             go_wp2_with fail
             refine (HP1.out _ HB.out (Sl.of_own HO.out)).mono ?_
             rintro o v22 ⟨rfl,hb⟩
             try clear fc0 fc1 fc2 fc3 fc4 fc5 fcl
             try clear nc0 nc1 nc2 ncl
             try clear xc0 xc1 xc2 xc3 xcl
             try clear yc0 yc1 yc2 yc3 ycl
             try clear pc0 pc1 pc2 pcl
             try clear qc0 qc1 qc2 qcl
             try clear rc0 rc1 rc2 rc3 rcl
             have h_:=Blk.below HF.out hb (Blk.lt HF.out)
             have fc0:=Blk.cell h_ 0 (v:=.int .i64 sc) rfl
             have fc1:=Blk.cell h_ 1 (v:=.int .i64 ofs) rfl
             have fc2:=Blk.cell h_ 2 (v:=.int .i64 sv) rfl
             have fc3:=Blk.cell h_ 3 (v:=.string ltr) rfl
             have fc4:=Blk.cell h_ 4 (v:=.string fm) rfl
             have fc5:=Blk.cell h_ 5 (v:=.slice Au Rl.length cu) rfl
             have fcl:=Blk.lt h_
             replace HF:=Lib.hid (Blk.alloc h_ (.cells #[.int .i64 ya,.int .i64 no,.bool nd,.string ns] 76))
             clear h_
             have h_:=Blk.below HN.out hb (Blk.lt HN.out)
             have nc0:=Blk.cell h_ 0 (v:=.int .i64 no) rfl
             have nc1:=Blk.cell h_ 1 (v:=.bool nd) rfl
             have nc2:=Blk.cell h_ 2 (v:=.string ns) rfl
             have ncl:=Blk.lt h_
             replace HN:=Lib.hid (Blk.alloc h_ (.cells #[.int .i64 ya,.int .i64 no,.bool nd,.string ns] 76))
             clear h_
             have h_:=Blk.below HX.out hb (Blk.lt HX.out)
             have xc0:=Blk.cell h_ 0 (v:=.int .i64 xa) rfl
             have xc1:=Blk.cell h_ 1 (v:=.int .i64 xo) rfl
             have xc2:=Blk.cell h_ 2 (v:=.bool xd) rfl
             have xc3:=Blk.cell h_ 3 (v:=.string xs) rfl
             have xcl:=Blk.lt h_
             replace HX:=Lib.hid (Blk.alloc h_ (.cells #[.int .i64 ya,.int .i64 no,.bool nd,.string ns] 76))
             clear h_
             replace HO:=Lib.hid ((ownsRow_below HO.out hb).alloc (.cells #[.int .i64 ya,.int .i64 no,.bool nd,.string ns] 76))
             replace HB:=Lib.hid ((HB.out.trans (hb.mono HB.out.size)).alloc (Nat.le_trans HB.out.size hb.size) (.cells #[.int .i64 ya,.int .i64 no,.bool nd,.string ns] 76))
             have HY:=Lib.hid (Blk.new v22 76 #[.int .i64 ya,.int .i64 no,.bool nd,.string ns])
             clear hb HP1
             go_wp2_with fail
             refine (HA2.out _ HB.out (Sl.of_own HO.out)).mono ?_
             rintro o v23 ⟨rfl,hb⟩
             try clear fc0 fc1 fc2 fc3 fc4 fc5 fcl
             try clear nc0 nc1 nc2 ncl
             try clear xc0 xc1 xc2 xc3 xcl
             try clear yc0 yc1 yc2 yc3 ycl
             try clear pc0 pc1 pc2 pcl
             try clear qc0 qc1 qc2 qcl
             try clear rc0 rc1 rc2 rc3 rcl
             have h_:=Blk.below HF.out hb (Blk.lt HF.out)
             have fc0:=Blk.cell h_ 0 (v:=.int .i64 sc) rfl
             have fc1:=Blk.cell h_ 1 (v:=.int .i64 ofs) rfl
             have fc2:=Blk.cell h_ 2 (v:=.int .i64 sv) rfl
             have fc3:=Blk.cell h_ 3 (v:=.string ltr) rfl
             have fc4:=Blk.cell h_ 4 (v:=.string fm) rfl
             have fc5:=Blk.cell h_ 5 (v:=.slice Au Rl.length cu) rfl
             have fcl:=Blk.lt h_
             replace HF:=Lib.hid (Blk.alloc h_ (.cells #[.int .i64 no,.bool nd,.string ns] 48))
             clear h_
             have h_:=Blk.below HN.out hb (Blk.lt HN.out)
             replace HN:=Lib.hid (Blk.alloc h_ (.cells #[.int .i64 no,.bool nd,.string ns] 48))
             clear h_
             have h_:=Blk.below HX.out hb (Blk.lt HX.out)
             have xc0:=Blk.cell h_ 0 (v:=.int .i64 xa) rfl
             have xc1:=Blk.cell h_ 1 (v:=.int .i64 xo) rfl
             have xc2:=Blk.cell h_ 2 (v:=.bool xd) rfl
             have xc3:=Blk.cell h_ 3 (v:=.string xs) rfl
             have xcl:=Blk.lt h_
             replace HX:=Lib.hid (Blk.alloc h_ (.cells #[.int .i64 no,.bool nd,.string ns] 48))
             clear h_
             have h_:=Blk.below HY.out hb (Blk.lt HY.out)
             replace HY:=Lib.hid (Blk.alloc h_ (.cells #[.int .i64 no,.bool nd,.string ns] 48))
             clear h_
             replace HO:=Lib.hid ((ownsRow_below HO.out hb).alloc (.cells #[.int .i64 no,.bool nd,.string ns] 48))
             replace HB:=Lib.hid ((HB.out.trans (hb.mono HB.out.size)).alloc (Nat.le_trans HB.out.size hb.size) (.cells #[.int .i64 no,.bool nd,.string ns] 48))
             have HP:=Lib.hid (Blk.new v23 48 #[.int .i64 no,.bool nd,.string ns])
             clear hb HA2
             go_wp2_with fail
             refine (HA3.out _ HB.out (Sl.of_own HO.out)).mono ?_
             rintro o v24 ⟨rfl,hb⟩
             try clear fc0 fc1 fc2 fc3 fc4 fc5 fcl
             try clear nc0 nc1 nc2 ncl
             try clear xc0 xc1 xc2 xc3 xcl
             try clear yc0 yc1 yc2 yc3 ycl
             try clear pc0 pc1 pc2 pcl
             try clear qc0 qc1 qc2 qcl
             try clear rc0 rc1 rc2 rc3 rcl
             have h_:=Blk.below HF.out hb (Blk.lt HF.out)
             have fc0:=Blk.cell h_ 0 (v:=.int .i64 sc) rfl
             have fc1:=Blk.cell h_ 1 (v:=.int .i64 ofs) rfl
             have fc2:=Blk.cell h_ 2 (v:=.int .i64 sv) rfl
             have fc3:=Blk.cell h_ 3 (v:=.string ltr) rfl
             have fc4:=Blk.cell h_ 4 (v:=.string fm) rfl
             have fc5:=Blk.cell h_ 5 (v:=.slice Au Rl.length cu) rfl
             have fcl:=Blk.lt h_
             replace HF:=Lib.hid (Blk.alloc h_ (.cells #[.int .i64 xo,.bool xd,.string xs] 48))
             clear h_
             have h_:=Blk.below HN.out hb (Blk.lt HN.out)
             replace HN:=Lib.hid (Blk.alloc h_ (.cells #[.int .i64 xo,.bool xd,.string xs] 48))
             clear h_
             have h_:=Blk.below HX.out hb (Blk.lt HX.out)
             have xc0:=Blk.cell h_ 0 (v:=.int .i64 xa) rfl
             have xc1:=Blk.cell h_ 1 (v:=.int .i64 xo) rfl
             have xc2:=Blk.cell h_ 2 (v:=.bool xd) rfl
             have xc3:=Blk.cell h_ 3 (v:=.string xs) rfl
             have xcl:=Blk.lt h_
             replace HX:=Lib.hid (Blk.alloc h_ (.cells #[.int .i64 xo,.bool xd,.string xs] 48))
             clear h_
             have h_:=Blk.below HY.out hb (Blk.lt HY.out)
             replace HY:=Lib.hid (Blk.alloc h_ (.cells #[.int .i64 xo,.bool xd,.string xs] 48))
             clear h_
             have h_:=Blk.below HP.out hb (Blk.lt HP.out)
             replace HP:=Lib.hid (Blk.alloc h_ (.cells #[.int .i64 xo,.bool xd,.string xs] 48))
             clear h_
             replace HO:=Lib.hid ((ownsRow_below HO.out hb).alloc (.cells #[.int .i64 xo,.bool xd,.string xs] 48))
             replace HB:=Lib.hid ((HB.out.trans (hb.mono HB.out.size)).alloc (Nat.le_trans HB.out.size hb.size) (.cells #[.int .i64 xo,.bool xd,.string xs] 48))
             have HQ:=Lib.hid (Blk.new v24 48 #[.int .i64 xo,.bool xd,.string xs])
             clear hb HA3
             go_wp2_with fail
             refine (HP2.out _ HB.out (Sl.of_own HO.out)).mono ?_
             rintro o v25 ⟨rfl,hb⟩
             try clear fc0 fc1 fc2 fc3 fc4 fc5 fcl
             try clear nc0 nc1 nc2 ncl
             try clear xc0 xc1 xc2 xc3 xcl
             try clear yc0 yc1 yc2 yc3 ycl
             try clear pc0 pc1 pc2 pcl
             try clear qc0 qc1 qc2 qcl
             try clear rc0 rc1 rc2 rc3 rcl
             have h_:=Blk.below HF.out hb (Blk.lt HF.out)
             have fc0:=Blk.cell h_ 0 (v:=.int .i64 sc) rfl
             have fc1:=Blk.cell h_ 1 (v:=.int .i64 ofs) rfl
             have fc2:=Blk.cell h_ 2 (v:=.int .i64 sv) rfl
             have fc3:=Blk.cell h_ 3 (v:=.string ltr) rfl
             have fc4:=Blk.cell h_ 4 (v:=.string fm) rfl
             have fc5:=Blk.cell h_ 5 (v:=.slice Au Rl.length cu) rfl
             have fcl:=Blk.lt h_
             replace HF:=Lib.hid (Blk.alloc h_ (.cells #[.int .i64 xa,.int .i64 xo,.bool xd,.string xs] 76))
             clear h_
             have h_:=Blk.below HN.out hb (Blk.lt HN.out)
             have nc0:=Blk.cell h_ 0 (v:=.int .i64 no) rfl
             have nc1:=Blk.cell h_ 1 (v:=.bool nd) rfl
             have nc2:=Blk.cell h_ 2 (v:=.string ns) rfl
             have ncl:=Blk.lt h_
             replace HN:=Lib.hid (Blk.alloc h_ (.cells #[.int .i64 xa,.int .i64 xo,.bool xd,.string xs] 76))
             clear h_
             have h_:=Blk.below HX.out hb (Blk.lt HX.out)
             have xc0:=Blk.cell h_ 0 (v:=.int .i64 xa) rfl
             have xc1:=Blk.cell h_ 1 (v:=.int .i64 xo) rfl
             have xc2:=Blk.cell h_ 2 (v:=.bool xd) rfl
             have xc3:=Blk.cell h_ 3 (v:=.string xs) rfl
             have xcl:=Blk.lt h_
             replace HX:=Lib.hid (Blk.alloc h_ (.cells #[.int .i64 xa,.int .i64 xo,.bool xd,.string xs] 76))
             clear h_
             have h_:=Blk.below HY.out hb (Blk.lt HY.out)
             have yc0:=Blk.cell h_ 0 (v:=.int .i64 ya) rfl
             have yc1:=Blk.cell h_ 1 (v:=.int .i64 no) rfl
             have yc2:=Blk.cell h_ 2 (v:=.bool nd) rfl
             have yc3:=Blk.cell h_ 3 (v:=.string ns) rfl
             have ycl:=Blk.lt h_
             replace HY:=Lib.hid (Blk.alloc h_ (.cells #[.int .i64 xa,.int .i64 xo,.bool xd,.string xs] 76))
             clear h_
             have h_:=Blk.below HP.out hb (Blk.lt HP.out)
             have pc0:=Blk.cell h_ 0 (v:=.int .i64 no) rfl
             have pc1:=Blk.cell h_ 1 (v:=.bool nd) rfl
             have pc2:=Blk.cell h_ 2 (v:=.string ns) rfl
             have pcl:=Blk.lt h_
             replace HP:=Lib.hid (Blk.alloc h_ (.cells #[.int .i64 xa,.int .i64 xo,.bool xd,.string xs] 76))
             clear h_
             have h_:=Blk.below HQ.out hb (Blk.lt HQ.out)
             have qc0:=Blk.cell h_ 0 (v:=.int .i64 xo) rfl
             have qc1:=Blk.cell h_ 1 (v:=.bool xd) rfl
             have qc2:=Blk.cell h_ 2 (v:=.string xs) rfl
             have qcl:=Blk.lt h_
             replace HQ:=Lib.hid (Blk.alloc h_ (.cells #[.int .i64 xa,.int .i64 xo,.bool xd,.string xs] 76))
             clear h_
             replace HO:=Lib.hid ((ownsRow_below HO.out hb).alloc (.cells #[.int .i64 xa,.int .i64 xo,.bool xd,.string xs] 76))
             replace HB:=Lib.hid ((HB.out.trans (hb.mono HB.out.size)).alloc (Nat.le_trans HB.out.size hb.size) (.cells #[.int .i64 xa,.int .i64 xo,.bool xd,.string xs] 76))
             have HR:=Lib.hid (Blk.new v25 76 #[.int .i64 xa,.int .i64 xo,.bool xd,.string xs])
             clear hb HP2
             rcases hcnx with c1 | ⟨c1,c2⟩ | ⟨c1,c2,c3⟩
             all_goals
              go_wp2_with fail
              clear HP HQ HR
              refine (HA4.out _ HB.out (Sl.of_own HO.out)).mono ?_
              rintro o v26 ⟨rfl,hb⟩
              try clear fc0 fc1 fc2 fc3 fc4 fc5 fcl
              try clear nc0 nc1 nc2 ncl
              try clear xc0 xc1 xc2 xc3 xcl
              try clear yc0 yc1 yc2 yc3 ycl
              try clear pc0 pc1 pc2 pcl
              try clear qc0 qc1 qc2 qcl
              try clear rc0 rc1 rc2 rc3 rcl
              have h_:=Blk.below HF.out hb (Blk.lt HF.out)
              have fc0:=Blk.cell h_ 0 (v:=.int .i64 sc) rfl
              have fc1:=Blk.cell h_ 1 (v:=.int .i64 ofs) rfl
              have fc2:=Blk.cell h_ 2 (v:=.int .i64 sv) rfl
              have fc3:=Blk.cell h_ 3 (v:=.string ltr) rfl
              have fc4:=Blk.cell h_ 4 (v:=.string fm) rfl
              have fc5:=Blk.cell h_ 5 (v:=.slice Au Rl.length cu) rfl
              have fcl:=Blk.lt h_
              replace HF:=Lib.hid (Blk.alloc h_ (.cells #[.int .i64 ao,.bool ad,.string as_] 48))
              clear h_
              have h_:=Blk.below HN.out hb (Blk.lt HN.out)
              replace HN:=Lib.hid (Blk.alloc h_ (.cells #[.int .i64 ao,.bool ad,.string as_] 48))
              clear h_
              have h_:=Blk.below HY.out hb (Blk.lt HY.out)
              have yc0:=Blk.cell h_ 0 (v:=.int .i64 ya) rfl
              have yc1:=Blk.cell h_ 1 (v:=.int .i64 no) rfl
              have yc2:=Blk.cell h_ 2 (v:=.bool nd) rfl
              have yc3:=Blk.cell h_ 3 (v:=.string ns) rfl
              have ycl:=Blk.lt h_
              replace HY:=Lib.hid (Blk.alloc h_ (.cells #[.int .i64 ao,.bool ad,.string as_] 48))
              clear h_
              replace HO:=Lib.hid ((ownsRow_below HO.out hb).alloc (.cells #[.int .i64 ao,.bool ad,.string as_] 48))
              replace HB:=Lib.hid ((HB.out.trans (hb.mono HB.out.size)).alloc (Nat.le_trans HB.out.size hb.size) (.cells #[.int .i64 ao,.bool ad,.string as_] 48))
              have HP:=Lib.hid (Blk.new v26 48 #[.int .i64 ao,.bool ad,.string as_])
              clear hb HA4
              go_wp2_with fail
              refine (HN2.out _ HB.out (Sl.of_own HO.out)).mono ?_
              rintro o v27 ⟨rfl,hb⟩
              try clear fc0 fc1 fc2 fc3 fc4 fc5 fcl
              try clear nc0 nc1 nc2 ncl
              try clear xc0 xc1 xc2 xc3 xcl
              try clear yc0 yc1 yc2 yc3 ycl
              try clear pc0 pc1 pc2 pcl
              try clear qc0 qc1 qc2 qcl
              try clear rc0 rc1 rc2 rc3 rcl
              have h_:=Blk.below HF.out hb (Blk.lt HF.out)
              have fc0:=Blk.cell h_ 0 (v:=.int .i64 sc) rfl
              have fc1:=Blk.cell h_ 1 (v:=.int .i64 ofs) rfl
              have fc2:=Blk.cell h_ 2 (v:=.int .i64 sv) rfl
              have fc3:=Blk.cell h_ 3 (v:=.string ltr) rfl
              have fc4:=Blk.cell h_ 4 (v:=.string fm) rfl
              have fc5:=Blk.cell h_ 5 (v:=.slice Au Rl.length cu) rfl
              have fcl:=Blk.lt h_
              replace HF:=Lib.hid (Blk.alloc h_ (.cells #[.int .i64 ya,.int .i64 no,.bool nd,.string ns] 76))
              clear h_
              have h_:=Blk.below HN.out hb (Blk.lt HN.out)
              have nc0:=Blk.cell h_ 0 (v:=.int .i64 no) rfl
              have nc1:=Blk.cell h_ 1 (v:=.bool nd) rfl
              have nc2:=Blk.cell h_ 2 (v:=.string ns) rfl
              have ncl:=Blk.lt h_
              replace HN:=Lib.hid (Blk.alloc h_ (.cells #[.int .i64 ya,.int .i64 no,.bool nd,.string ns] 76))
              clear h_
              have h_:=Blk.below HY.out hb (Blk.lt HY.out)
              have yc0:=Blk.cell h_ 0 (v:=.int .i64 ya) rfl
              have yc1:=Blk.cell h_ 1 (v:=.int .i64 no) rfl
              have yc2:=Blk.cell h_ 2 (v:=.bool nd) rfl
              have yc3:=Blk.cell h_ 3 (v:=.string ns) rfl
              have ycl:=Blk.lt h_
              replace HY:=Lib.hid (Blk.alloc h_ (.cells #[.int .i64 ya,.int .i64 no,.bool nd,.string ns] 76))
              clear h_
              have h_:=Blk.below HP.out hb (Blk.lt HP.out)
              have pc0:=Blk.cell h_ 0 (v:=.int .i64 ao) rfl
              have pc1:=Blk.cell h_ 1 (v:=.bool ad) rfl
              have pc2:=Blk.cell h_ 2 (v:=.string as_) rfl
              have pcl:=Blk.lt h_
              replace HP:=Lib.hid (Blk.alloc h_ (.cells #[.int .i64 ya,.int .i64 no,.bool nd,.string ns] 76))
              clear h_
              replace HO:=Lib.hid ((ownsRow_below HO.out hb).alloc (.cells #[.int .i64 ya,.int .i64 no,.bool nd,.string ns] 76))
              replace HB:=Lib.hid ((HB.out.trans (hb.mono HB.out.size)).alloc (Nat.le_trans HB.out.size hb.size) (.cells #[.int .i64 ya,.int .i64 no,.bool nd,.string ns] 76))
              have HR:=Lib.hid (Blk.new v27 76 #[.int .i64 ya,.int .i64 no,.bool nd,.string ns])
              clear hb HN2
              rcases hcan with c4 | ⟨c4,c5⟩ | ⟨c4,c5,c6⟩
              all_goals
               go_wp2_with fail
               refine (HEN.out _).mono ?_
               rintro o w9_ ⟨rfl,hb⟩
               have HB9:=Lib.hid (HB.out.trans (hb.mono HB.out.size))
               clear hb
               try clear fc0 fc1 fc2 fc3 fc4 fc5 fcl
               try clear nc0 nc1 nc2 ncl
               try clear xc0 xc1 xc2 xc3 xcl
               try clear yc0 yc1 yc2 yc3 ycl
               try clear pc0 pc1 pc2 pcl
               try clear qc0 qc1 qc2 qcl
               try clear rc0 rc1 rc2 rc3 rcl
               go_wp2_with fail
               refine (fawake_any _ ((HZ0.out.below (HB9.out)).ahead) (Nat.lt_of_lt_of_le ((HZ0.out.below (HB9.out)).tab) ((HZ0.out.below (HB9.out)).le)) ((HZ0.out.below (HB9.out)).maxl)).mono ?_
               rintro o wz ⟨rfl,hbz⟩
               have HBZ:=Lib.hid (HB0.out.trans ((HB9.out).mono HB0.out.size |>.trans (hbz.mono (Nat.le_trans HB0.out.size (HB9.out).size))))
               clear hbz
               go_wp2_with fail
               go_ret
               exact ⟨rfl,HBZ.out⟩
           | none =>
             rw [hpv] at HP1
             unfold chgO at HP1
             simp only at HP1
             clear hpv
             clear HAT HNX HPV HAG HRG HNOW
             go_wp2_with fail
             refine (HN1.out _ HB.out (Sl.of_own HO.out)).mono ?_
             rintro o v28 ⟨rfl,hb⟩
             try clear fc0 fc1 fc2 fc3 fc4 fc5 fcl
             try clear nc0 nc1 nc2 ncl
             try clear xc0 xc1 xc2 xc3 xcl
             try clear yc0 yc1 yc2 yc3 ycl
             try clear pc0 pc1 pc2 pcl
             try clear qc0 qc1 qc2 qcl
             try clear rc0 rc1 rc2 rc3 rcl
             have h_:=Blk.below HF.out hb (Blk.lt HF.out)
             have fc0:=Blk.cell h_ 0 (v:=.int .i64 sc) rfl
             have fc1:=Blk.cell h_ 1 (v:=.int .i64 ofs) rfl
             have fc2:=Blk.cell h_ 2 (v:=.int .i64 sv) rfl
             have fc3:=Blk.cell h_ 3 (v:=.string ltr) rfl
             have fc4:=Blk.cell h_ 4 (v:=.string fm) rfl
             have fc5:=Blk.cell h_ 5 (v:=.slice Au Rl.length cu) rfl
             have fcl:=Blk.lt h_
             replace HF:=Lib.hid (Blk.alloc h_ (.cells #[.int .i64 xa,.int .i64 xo,.bool xd,.string xs] 76))
             clear h_
             have h_:=Blk.below HN.out hb (Blk.lt HN.out)
             replace HN:=Lib.hid (Blk.alloc h_ (.cells #[.int .i64 xa,.int .i64 xo,.bool xd,.string xs] 76))
             clear h_
             replace HO:=Lib.hid ((ownsRow_below HO.out hb).alloc (.cells #[.int .i64 xa,.int .i64 xo,.bool xd,.string xs] 76))
             replace HB:=Lib.hid ((HB.out.trans (hb.mono HB.out.size)).alloc (Nat.le_trans HB.out.size hb.size) (.cells #[.int .i64 xa,.int .i64 xo,.bool xd,.string xs] 76))
             have HX:=Lib.hid (Blk.new v28 76 #[.int .i64 xa,.int .i64 xo,.bool xd,.string xs])
             clear hb HN1
             go_wp2_with fail
             refine (HP1.out _ HB.out (Sl.of_own HO.out)).mono ?_
             rintro o v29 ⟨rfl,hb⟩
             try clear fc0 fc1 fc2 fc3 fc4 fc5 fcl
             try clear nc0 nc1 nc2 ncl
             try clear xc0 xc1 xc2 xc3 xcl
             try clear yc0 yc1 yc2 yc3 ycl
             try clear pc0 pc1 pc2 pcl
             try clear qc0 qc1 qc2 qcl
             try clear rc0 rc1 rc2 rc3 rcl
             have h_:=Blk.below HF.out hb (Blk.lt HF.out)
             have fc0:=Blk.cell h_ 0 (v:=.int .i64 sc) rfl
             have fc1:=Blk.cell h_ 1 (v:=.int .i64 ofs) rfl
             have fc2:=Blk.cell h_ 2 (v:=.int .i64 sv) rfl
             have fc3:=Blk.cell h_ 3 (v:=.string ltr) rfl
             have fc4:=Blk.cell h_ 4 (v:=.string fm) rfl
             have fc5:=Blk.cell h_ 5 (v:=.slice Au Rl.length cu) rfl
             have fcl:=Blk.lt h_
             replace HF:=Lib.hid (Blk.alloc h_ (.cells #[.int .i64 0,.int .i64 0,.bool false,.string ⟨#[]⟩] 76))
             clear h_
             have h_:=Blk.below HN.out hb (Blk.lt HN.out)
             have nc0:=Blk.cell h_ 0 (v:=.int .i64 no) rfl
             have nc1:=Blk.cell h_ 1 (v:=.bool nd) rfl
             have nc2:=Blk.cell h_ 2 (v:=.string ns) rfl
             have ncl:=Blk.lt h_
             replace HN:=Lib.hid (Blk.alloc h_ (.cells #[.int .i64 0,.int .i64 0,.bool false,.string ⟨#[]⟩] 76))
             clear h_
             have h_:=Blk.below HX.out hb (Blk.lt HX.out)
             have xc0:=Blk.cell h_ 0 (v:=.int .i64 xa) rfl
             have xc1:=Blk.cell h_ 1 (v:=.int .i64 xo) rfl
             have xc2:=Blk.cell h_ 2 (v:=.bool xd) rfl
             have xc3:=Blk.cell h_ 3 (v:=.string xs) rfl
             have xcl:=Blk.lt h_
             replace HX:=Lib.hid (Blk.alloc h_ (.cells #[.int .i64 0,.int .i64 0,.bool false,.string ⟨#[]⟩] 76))
             clear h_
             replace HO:=Lib.hid ((ownsRow_below HO.out hb).alloc (.cells #[.int .i64 0,.int .i64 0,.bool false,.string ⟨#[]⟩] 76))
             replace HB:=Lib.hid ((HB.out.trans (hb.mono HB.out.size)).alloc (Nat.le_trans HB.out.size hb.size) (.cells #[.int .i64 0,.int .i64 0,.bool false,.string ⟨#[]⟩] 76))
             have HY:=Lib.hid (Blk.new v29 76 #[.int .i64 0,.int .i64 0,.bool false,.string ⟨#[]⟩])
             clear hb HP1
             go_wp2_with fail
             refine (HA2.out _ HB.out (Sl.of_own HO.out)).mono ?_
             rintro o v30 ⟨rfl,hb⟩
             try clear fc0 fc1 fc2 fc3 fc4 fc5 fcl
             try clear nc0 nc1 nc2 ncl
             try clear xc0 xc1 xc2 xc3 xcl
             try clear yc0 yc1 yc2 yc3 ycl
             try clear pc0 pc1 pc2 pcl
             try clear qc0 qc1 qc2 qcl
             try clear rc0 rc1 rc2 rc3 rcl
             have h_:=Blk.below HF.out hb (Blk.lt HF.out)
             have fc0:=Blk.cell h_ 0 (v:=.int .i64 sc) rfl
             have fc1:=Blk.cell h_ 1 (v:=.int .i64 ofs) rfl
             have fc2:=Blk.cell h_ 2 (v:=.int .i64 sv) rfl
             have fc3:=Blk.cell h_ 3 (v:=.string ltr) rfl
             have fc4:=Blk.cell h_ 4 (v:=.string fm) rfl
             have fc5:=Blk.cell h_ 5 (v:=.slice Au Rl.length cu) rfl
             have fcl:=Blk.lt h_
             replace HF:=Lib.hid (Blk.alloc h_ (.cells #[.int .i64 no,.bool nd,.string ns] 48))
             clear h_
             have h_:=Blk.below HN.out hb (Blk.lt HN.out)
             replace HN:=Lib.hid (Blk.alloc h_ (.cells #[.int .i64 no,.bool nd,.string ns] 48))
             clear h_
             have h_:=Blk.below HX.out hb (Blk.lt HX.out)
             have xc0:=Blk.cell h_ 0 (v:=.int .i64 xa) rfl
             have xc1:=Blk.cell h_ 1 (v:=.int .i64 xo) rfl
             have xc2:=Blk.cell h_ 2 (v:=.bool xd) rfl
             have xc3:=Blk.cell h_ 3 (v:=.string xs) rfl
             have xcl:=Blk.lt h_
             replace HX:=Lib.hid (Blk.alloc h_ (.cells #[.int .i64 no,.bool nd,.string ns] 48))
             clear h_
             have h_:=Blk.below HY.out hb (Blk.lt HY.out)
             replace HY:=Lib.hid (Blk.alloc h_ (.cells #[.int .i64 no,.bool nd,.string ns] 48))
             clear h_
             replace HO:=Lib.hid ((ownsRow_below HO.out hb).alloc (.cells #[.int .i64 no,.bool nd,.string ns] 48))
             replace HB:=Lib.hid ((HB.out.trans (hb.mono HB.out.size)).alloc (Nat.le_trans HB.out.size hb.size) (.cells #[.int .i64 no,.bool nd,.string ns] 48))
             have HP:=Lib.hid (Blk.new v30 48 #[.int .i64 no,.bool nd,.string ns])
             clear hb HA2
             go_wp2_with fail
             refine (HA3.out _ HB.out (Sl.of_own HO.out)).mono ?_
             rintro o v31 ⟨rfl,hb⟩
             try clear fc0 fc1 fc2 fc3 fc4 fc5 fcl
             try clear nc0 nc1 nc2 ncl
             try clear xc0 xc1 xc2 xc3 xcl
             try clear yc0 yc1 yc2 yc3 ycl
             try clear pc0 pc1 pc2 pcl
             try clear qc0 qc1 qc2 qcl
             try clear rc0 rc1 rc2 rc3 rcl
             have h_:=Blk.below HF.out hb (Blk.lt HF.out)
             have fc0:=Blk.cell h_ 0 (v:=.int .i64 sc) rfl
             have fc1:=Blk.cell h_ 1 (v:=.int .i64 ofs) rfl
             have fc2:=Blk.cell h_ 2 (v:=.int .i64 sv) rfl
             have fc3:=Blk.cell h_ 3 (v:=.string ltr) rfl
             have fc4:=Blk.cell h_ 4 (v:=.string fm) rfl
             have fc5:=Blk.cell h_ 5 (v:=.slice Au Rl.length cu) rfl
             have fcl:=Blk.lt h_
             replace HF:=Lib.hid (Blk.alloc h_ (.cells #[.int .i64 xo,.bool xd,.string xs] 48))
             clear h_
             have h_:=Blk.below HN.out hb (Blk.lt HN.out)
             replace HN:=Lib.hid (Blk.alloc h_ (.cells #[.int .i64 xo,.bool xd,.string xs] 48))
             clear h_
             have h_:=Blk.below HX.out hb (Blk.lt HX.out)
             have xc0:=Blk.cell h_ 0 (v:=.int .i64 xa) rfl
             have xc1:=Blk.cell h_ 1 (v:=.int .i64 xo) rfl
             have xc2:=Blk.cell h_ 2 (v:=.bool xd) rfl
             have xc3:=Blk.cell h_ 3 (v:=.string xs) rfl
             have xcl:=Blk.lt h_
             replace HX:=Lib.hid (Blk.alloc h_ (.cells #[.int .i64 xo,.bool xd,.string xs] 48))
             clear h_
             have h_:=Blk.below HY.out hb (Blk.lt HY.out)
             replace HY:=Lib.hid (Blk.alloc h_ (.cells #[.int .i64 xo,.bool xd,.string xs] 48))
             clear h_
             have h_:=Blk.below HP.out hb (Blk.lt HP.out)
             replace HP:=Lib.hid (Blk.alloc h_ (.cells #[.int .i64 xo,.bool xd,.string xs] 48))
             clear h_
             replace HO:=Lib.hid ((ownsRow_below HO.out hb).alloc (.cells #[.int .i64 xo,.bool xd,.string xs] 48))
             replace HB:=Lib.hid ((HB.out.trans (hb.mono HB.out.size)).alloc (Nat.le_trans HB.out.size hb.size) (.cells #[.int .i64 xo,.bool xd,.string xs] 48))
             have HQ:=Lib.hid (Blk.new v31 48 #[.int .i64 xo,.bool xd,.string xs])
             clear hb HA3
             go_wp2_with fail
             refine (HP2.out _ HB.out (Sl.of_own HO.out)).mono ?_
             rintro o v32 ⟨rfl,hb⟩
             try clear fc0 fc1 fc2 fc3 fc4 fc5 fcl
             try clear nc0 nc1 nc2 ncl
             try clear xc0 xc1 xc2 xc3 xcl
             try clear yc0 yc1 yc2 yc3 ycl
             try clear pc0 pc1 pc2 pcl
             try clear qc0 qc1 qc2 qcl
             try clear rc0 rc1 rc2 rc3 rcl
             have h_:=Blk.below HF.out hb (Blk.lt HF.out)
             have fc0:=Blk.cell h_ 0 (v:=.int .i64 sc) rfl
             have fc1:=Blk.cell h_ 1 (v:=.int .i64 ofs) rfl
             have fc2:=Blk.cell h_ 2 (v:=.int .i64 sv) rfl
             have fc3:=Blk.cell h_ 3 (v:=.string ltr) rfl
             have fc4:=Blk.cell h_ 4 (v:=.string fm) rfl
             have fc5:=Blk.cell h_ 5 (v:=.slice Au Rl.length cu) rfl
             have fcl:=Blk.lt h_
             replace HF:=Lib.hid (Blk.alloc h_ (.cells #[.int .i64 xa,.int .i64 xo,.bool xd,.string xs] 76))
             clear h_
             have h_:=Blk.below HN.out hb (Blk.lt HN.out)
             have nc0:=Blk.cell h_ 0 (v:=.int .i64 no) rfl
             have nc1:=Blk.cell h_ 1 (v:=.bool nd) rfl
             have nc2:=Blk.cell h_ 2 (v:=.string ns) rfl
             have ncl:=Blk.lt h_
             replace HN:=Lib.hid (Blk.alloc h_ (.cells #[.int .i64 xa,.int .i64 xo,.bool xd,.string xs] 76))
             clear h_
             have h_:=Blk.below HX.out hb (Blk.lt HX.out)
             have xc0:=Blk.cell h_ 0 (v:=.int .i64 xa) rfl
             have xc1:=Blk.cell h_ 1 (v:=.int .i64 xo) rfl
             have xc2:=Blk.cell h_ 2 (v:=.bool xd) rfl
             have xc3:=Blk.cell h_ 3 (v:=.string xs) rfl
             have xcl:=Blk.lt h_
             replace HX:=Lib.hid (Blk.alloc h_ (.cells #[.int .i64 xa,.int .i64 xo,.bool xd,.string xs] 76))
             clear h_
             have h_:=Blk.below HY.out hb (Blk.lt HY.out)
             replace HY:=Lib.hid (Blk.alloc h_ (.cells #[.int .i64 xa,.int .i64 xo,.bool xd,.string xs] 76))
             clear h_
             have h_:=Blk.below HP.out hb (Blk.lt HP.out)
             have pc0:=Blk.cell h_ 0 (v:=.int .i64 no) rfl
             have pc1:=Blk.cell h_ 1 (v:=.bool nd) rfl
             have pc2:=Blk.cell h_ 2 (v:=.string ns) rfl
             have pcl:=Blk.lt h_
             replace HP:=Lib.hid (Blk.alloc h_ (.cells #[.int .i64 xa,.int .i64 xo,.bool xd,.string xs] 76))
             clear h_
             have h_:=Blk.below HQ.out hb (Blk.lt HQ.out)
             have qc0:=Blk.cell h_ 0 (v:=.int .i64 xo) rfl
             have qc1:=Blk.cell h_ 1 (v:=.bool xd) rfl
             have qc2:=Blk.cell h_ 2 (v:=.string xs) rfl
             have qcl:=Blk.lt h_
             replace HQ:=Lib.hid (Blk.alloc h_ (.cells #[.int .i64 xa,.int .i64 xo,.bool xd,.string xs] 76))
             clear h_
             replace HO:=Lib.hid ((ownsRow_below HO.out hb).alloc (.cells #[.int .i64 xa,.int .i64 xo,.bool xd,.string xs] 76))
             replace HB:=Lib.hid ((HB.out.trans (hb.mono HB.out.size)).alloc (Nat.le_trans HB.out.size hb.size) (.cells #[.int .i64 xa,.int .i64 xo,.bool xd,.string xs] 76))
             have HR:=Lib.hid (Blk.new v32 76 #[.int .i64 xa,.int .i64 xo,.bool xd,.string xs])
             clear hb HP2
             rcases hcnx with c1 | ⟨c1,c2⟩ | ⟨c1,c2,c3⟩
             all_goals
              go_wp2_with fail
              refine (HEN.out _).mono ?_
              rintro o w9_ ⟨rfl,hb⟩
              have HB9:=Lib.hid (HB.out.trans (hb.mono HB.out.size))
              clear hb
              try clear fc0 fc1 fc2 fc3 fc4 fc5 fcl
              try clear nc0 nc1 nc2 ncl
              try clear xc0 xc1 xc2 xc3 xcl
              try clear yc0 yc1 yc2 yc3 ycl
              try clear pc0 pc1 pc2 pcl
              try clear qc0 qc1 qc2 qcl
              try clear rc0 rc1 rc2 rc3 rcl
              go_wp2_with fail
              refine (fawake_any _ ((HZ0.out.below (HB9.out)).ahead) (Nat.lt_of_lt_of_le ((HZ0.out.below (HB9.out)).tab) ((HZ0.out.below (HB9.out)).le)) ((HZ0.out.below (HB9.out)).maxl)).mono ?_
              rintro o wz ⟨rfl,hbz⟩
              have HBZ:=Lib.hid (HB0.out.trans ((HB9.out).mono HB0.out.size |>.trans (hbz.mono (Nat.le_trans HB0.out.size (HB9.out).size))))
              clear hbz
              go_wp2_with fail
              go_ret
              exact ⟨rfl,HBZ.out⟩
         | none =>
           rw [hnx] at HN1
           unfold chgO at HN1
           simp only at HN1
           clear hnx
           cases hpv:prevF ⟨sc,ofs,sv,ltr,fm,Rl⟩ t with
           | some ya =>
             rw [hpv] at HP1
             obtain ⟨⟨hy1,hy2⟩,hyt,hy3⟩:=prev_some HAG.out hof hsc (by omega) hpv
             simp only at hy1
             have hst:=still_turn (F:=⟨sc,ofs,sv,ltr,fm,Rl⟩) (a:=ya) (b:=t) (by show sc ≤ ya;omega) (by omega) (fun j j1 j2=>hy3 j j1 j2) (by omega)
             rw [HNOW.out] at hst
             have hne:=(turnF_iff.1 hyt).2
             obtain ⟨⟨ao,ad,as_⟩,hal⟩:∃ x,locF ⟨sc,ofs,sv,ltr,fm,Rl⟩ (ya - 1) = x:=⟨_,rfl⟩
             rw [hal,← hst] at hne
             have htl:tlocF ⟨sc,ofs,sv,ltr,fm,Rl⟩ ya = ⟨no,nd,ns⟩:=by unfold tlocF;rw [if_neg (by show ¬ (ya < sc∨2199023255552 < ya);omega)];exact hst.symm
             have HA4:=Lib.hid (fun (W:World) (h:Below W0.heap.size W0 W) (hr:Ruls W W.heap.size (.slice Au Rl.length cu) Rl)=>HAT.out W h (ya - 1) hr)
             have HN2:=Lib.hid (fun (W:World) (h:Below W0.heap.size W0 W) (hr:Ruls W W.heap.size (.slice Au Rl.length cu) Rl)=>HNX.out W h (ya - 1) hr (by omega))
             rw [fatV_good HG.out (show sc ≤ ya - 1 by omega) (by omega),hal] at HA4
             rw [next_at HAG.out hof hsc hr hyt] at HN2
             unfold chgO at HP1 HN2
             simp only [htl] at HP1 HN2
             unfold chgA at HP1 HN2
             unfold locA at HA4
             simp only at HP1 HN2 HA4
             have hcan:(ao == no) = false∨((ao == no) = true∧(ad == nd) = false)∨((ao == no) = true∧(ad == nd) = true∧(as_.toList == ns.toList) = false):=loc_parts (fun e=>hne e.symm)
             have d5:decide (t < ya) = false:=decide_eq_false (by omega)
             have d6:decide (ya ≤ sc) = false:=decide_eq_false (by omega)
             have hya:-9000000000000000000 ≤ ya∧ya ≤ 9000000000000000000:=by omega
             clear hy1 hy2 hy3 hst hne hal htl hyt hpv
             clear HAT HNX HPV HAG HRG HNOW
             go_wp2_with fail
             refine (HN1.out _ HB.out (Sl.of_own HO.out)).mono ?_
             rintro o v33 ⟨rfl,hb⟩
             try clear fc0 fc1 fc2 fc3 fc4 fc5 fcl
             try clear nc0 nc1 nc2 ncl
             try clear xc0 xc1 xc2 xc3 xcl
             try clear yc0 yc1 yc2 yc3 ycl
             try clear pc0 pc1 pc2 pcl
             try clear qc0 qc1 qc2 qcl
             try clear rc0 rc1 rc2 rc3 rcl
             have h_:=Blk.below HF.out hb (Blk.lt HF.out)
             have fc0:=Blk.cell h_ 0 (v:=.int .i64 sc) rfl
             have fc1:=Blk.cell h_ 1 (v:=.int .i64 ofs) rfl
             have fc2:=Blk.cell h_ 2 (v:=.int .i64 sv) rfl
             have fc3:=Blk.cell h_ 3 (v:=.string ltr) rfl
             have fc4:=Blk.cell h_ 4 (v:=.string fm) rfl
             have fc5:=Blk.cell h_ 5 (v:=.slice Au Rl.length cu) rfl
             have fcl:=Blk.lt h_
             replace HF:=Lib.hid (Blk.alloc h_ (.cells #[.int .i64 0,.int .i64 0,.bool false,.string ⟨#[]⟩] 76))
             clear h_
             have h_:=Blk.below HN.out hb (Blk.lt HN.out)
             replace HN:=Lib.hid (Blk.alloc h_ (.cells #[.int .i64 0,.int .i64 0,.bool false,.string ⟨#[]⟩] 76))
             clear h_
             replace HO:=Lib.hid ((ownsRow_below HO.out hb).alloc (.cells #[.int .i64 0,.int .i64 0,.bool false,.string ⟨#[]⟩] 76))
             replace HB:=Lib.hid ((HB.out.trans (hb.mono HB.out.size)).alloc (Nat.le_trans HB.out.size hb.size) (.cells #[.int .i64 0,.int .i64 0,.bool false,.string ⟨#[]⟩] 76))
             have HX:=Lib.hid (Blk.new v33 76 #[.int .i64 0,.int .i64 0,.bool false,.string ⟨#[]⟩])
             clear hb HN1
             go_wp2_with fail
             refine (HP1.out _ HB.out (Sl.of_own HO.out)).mono ?_
             rintro o v34 ⟨rfl,hb⟩
             try clear fc0 fc1 fc2 fc3 fc4 fc5 fcl
             try clear nc0 nc1 nc2 ncl
             try clear xc0 xc1 xc2 xc3 xcl
             try clear yc0 yc1 yc2 yc3 ycl
             try clear pc0 pc1 pc2 pcl
             try clear qc0 qc1 qc2 qcl
             try clear rc0 rc1 rc2 rc3 rcl
             have h_:=Blk.below HF.out hb (Blk.lt HF.out)
             have fc0:=Blk.cell h_ 0 (v:=.int .i64 sc) rfl
             have fc1:=Blk.cell h_ 1 (v:=.int .i64 ofs) rfl
             have fc2:=Blk.cell h_ 2 (v:=.int .i64 sv) rfl
             have fc3:=Blk.cell h_ 3 (v:=.string ltr) rfl
             have fc4:=Blk.cell h_ 4 (v:=.string fm) rfl
             have fc5:=Blk.cell h_ 5 (v:=.slice Au Rl.length cu) rfl
             have fcl:=Blk.lt h_
             replace HF:=Lib.hid (Blk.alloc h_ (.cells #[.int .i64 ya,.int .i64 no,.bool nd,.string ns] 76))
             clear h_
             have h_:=Blk.below HN.out hb (Blk.lt HN.out)
             have nc0:=Blk.cell h_ 0 (v:=.int .i64 no) rfl
             have nc1:=Blk.cell h_ 1 (v:=.bool nd) rfl
             have nc2:=Blk.cell h_ 2 (v:=.string ns) rfl
             have ncl:=Blk.lt h_
             replace HN:=Lib.hid (Blk.alloc h_ (.cells #[.int .i64 ya,.int .i64 no,.bool nd,.string ns] 76))
             clear h_
             have h_:=Blk.below HX.out hb (Blk.lt HX.out)
             have xc0:=Blk.cell h_ 0 (v:=.int .i64 0) rfl
             have xc1:=Blk.cell h_ 1 (v:=.int .i64 0) rfl
             have xc2:=Blk.cell h_ 2 (v:=.bool false) rfl
             have xc3:=Blk.cell h_ 3 (v:=.string ⟨#[]⟩) rfl
             have xcl:=Blk.lt h_
             replace HX:=Lib.hid (Blk.alloc h_ (.cells #[.int .i64 ya,.int .i64 no,.bool nd,.string ns] 76))
             clear h_
             replace HO:=Lib.hid ((ownsRow_below HO.out hb).alloc (.cells #[.int .i64 ya,.int .i64 no,.bool nd,.string ns] 76))
             replace HB:=Lib.hid ((HB.out.trans (hb.mono HB.out.size)).alloc (Nat.le_trans HB.out.size hb.size) (.cells #[.int .i64 ya,.int .i64 no,.bool nd,.string ns] 76))
             have HY:=Lib.hid (Blk.new v34 76 #[.int .i64 ya,.int .i64 no,.bool nd,.string ns])
             clear hb HP1
             go_wp2_with fail
             refine (HA4.out _ HB.out (Sl.of_own HO.out)).mono ?_
             rintro o v35 ⟨rfl,hb⟩
             try clear fc0 fc1 fc2 fc3 fc4 fc5 fcl
             try clear nc0 nc1 nc2 ncl
             try clear xc0 xc1 xc2 xc3 xcl
             try clear yc0 yc1 yc2 yc3 ycl
             try clear pc0 pc1 pc2 pcl
             try clear qc0 qc1 qc2 qcl
             try clear rc0 rc1 rc2 rc3 rcl
             have h_:=Blk.below HF.out hb (Blk.lt HF.out)
             have fc0:=Blk.cell h_ 0 (v:=.int .i64 sc) rfl
             have fc1:=Blk.cell h_ 1 (v:=.int .i64 ofs) rfl
             have fc2:=Blk.cell h_ 2 (v:=.int .i64 sv) rfl
             have fc3:=Blk.cell h_ 3 (v:=.string ltr) rfl
             have fc4:=Blk.cell h_ 4 (v:=.string fm) rfl
             have fc5:=Blk.cell h_ 5 (v:=.slice Au Rl.length cu) rfl
             have fcl:=Blk.lt h_
             replace HF:=Lib.hid (Blk.alloc h_ (.cells #[.int .i64 ao,.bool ad,.string as_] 48))
             clear h_
             have h_:=Blk.below HN.out hb (Blk.lt HN.out)
             replace HN:=Lib.hid (Blk.alloc h_ (.cells #[.int .i64 ao,.bool ad,.string as_] 48))
             clear h_
             have h_:=Blk.below HY.out hb (Blk.lt HY.out)
             have yc0:=Blk.cell h_ 0 (v:=.int .i64 ya) rfl
             have yc1:=Blk.cell h_ 1 (v:=.int .i64 no) rfl
             have yc2:=Blk.cell h_ 2 (v:=.bool nd) rfl
             have yc3:=Blk.cell h_ 3 (v:=.string ns) rfl
             have ycl:=Blk.lt h_
             replace HY:=Lib.hid (Blk.alloc h_ (.cells #[.int .i64 ao,.bool ad,.string as_] 48))
             clear h_
             replace HO:=Lib.hid ((ownsRow_below HO.out hb).alloc (.cells #[.int .i64 ao,.bool ad,.string as_] 48))
             replace HB:=Lib.hid ((HB.out.trans (hb.mono HB.out.size)).alloc (Nat.le_trans HB.out.size hb.size) (.cells #[.int .i64 ao,.bool ad,.string as_] 48))
             have HP:=Lib.hid (Blk.new v35 48 #[.int .i64 ao,.bool ad,.string as_])
             clear hb HA4
             go_wp2_with fail
             refine (HN2.out _ HB.out (Sl.of_own HO.out)).mono ?_
             rintro o v36 ⟨rfl,hb⟩
             try clear fc0 fc1 fc2 fc3 fc4 fc5 fcl
             try clear nc0 nc1 nc2 ncl
             try clear xc0 xc1 xc2 xc3 xcl
             try clear yc0 yc1 yc2 yc3 ycl
             try clear pc0 pc1 pc2 pcl
             try clear qc0 qc1 qc2 qcl
             try clear rc0 rc1 rc2 rc3 rcl
             have h_:=Blk.below HF.out hb (Blk.lt HF.out)
             have fc0:=Blk.cell h_ 0 (v:=.int .i64 sc) rfl
             have fc1:=Blk.cell h_ 1 (v:=.int .i64 ofs) rfl
             have fc2:=Blk.cell h_ 2 (v:=.int .i64 sv) rfl
             have fc3:=Blk.cell h_ 3 (v:=.string ltr) rfl
             have fc4:=Blk.cell h_ 4 (v:=.string fm) rfl
             have fc5:=Blk.cell h_ 5 (v:=.slice Au Rl.length cu) rfl
             have fcl:=Blk.lt h_
             replace HF:=Lib.hid (Blk.alloc h_ (.cells #[.int .i64 ya,.int .i64 no,.bool nd,.string ns] 76))
             clear h_
             have h_:=Blk.below HN.out hb (Blk.lt HN.out)
             have nc0:=Blk.cell h_ 0 (v:=.int .i64 no) rfl
             have nc1:=Blk.cell h_ 1 (v:=.bool nd) rfl
             have nc2:=Blk.cell h_ 2 (v:=.string ns) rfl
             have ncl:=Blk.lt h_
             replace HN:=Lib.hid (Blk.alloc h_ (.cells #[.int .i64 ya,.int .i64 no,.bool nd,.string ns] 76))
             clear h_
             have h_:=Blk.below HY.out hb (Blk.lt HY.out)
             have yc0:=Blk.cell h_ 0 (v:=.int .i64 ya) rfl
             have yc1:=Blk.cell h_ 1 (v:=.int .i64 no) rfl
             have yc2:=Blk.cell h_ 2 (v:=.bool nd) rfl
             have yc3:=Blk.cell h_ 3 (v:=.string ns) rfl
             have ycl:=Blk.lt h_
             replace HY:=Lib.hid (Blk.alloc h_ (.cells #[.int .i64 ya,.int .i64 no,.bool nd,.string ns] 76))
             clear h_
             have h_:=Blk.below HP.out hb (Blk.lt HP.out)
             have pc0:=Blk.cell h_ 0 (v:=.int .i64 ao) rfl
             have pc1:=Blk.cell h_ 1 (v:=.bool ad) rfl
             have pc2:=Blk.cell h_ 2 (v:=.string as_) rfl
             have pcl:=Blk.lt h_
             replace HP:=Lib.hid (Blk.alloc h_ (.cells #[.int .i64 ya,.int .i64 no,.bool nd,.string ns] 76))
             clear h_
             replace HO:=Lib.hid ((ownsRow_below HO.out hb).alloc (.cells #[.int .i64 ya,.int .i64 no,.bool nd,.string ns] 76))
             replace HB:=Lib.hid ((HB.out.trans (hb.mono HB.out.size)).alloc (Nat.le_trans HB.out.size hb.size) (.cells #[.int .i64 ya,.int .i64 no,.bool nd,.string ns] 76))
             have HR:=Lib.hid (Blk.new v36 76 #[.int .i64 ya,.int .i64 no,.bool nd,.string ns])
             clear hb HN2
             rcases hcan with c4 | ⟨c4,c5⟩ | ⟨c4,c5,c6⟩
             all_goals
              go_wp2_with fail
              refine (HEN.out _).mono ?_
              rintro o w9_ ⟨rfl,hb⟩
              have HB9:=Lib.hid (HB.out.trans (hb.mono HB.out.size))
              clear hb
              try clear fc0 fc1 fc2 fc3 fc4 fc5 fcl
              try clear nc0 nc1 nc2 ncl
              try clear xc0 xc1 xc2 xc3 xcl
              try clear yc0 yc1 yc2 yc3 ycl
              try clear pc0 pc1 pc2 pcl
              try clear qc0 qc1 qc2 qcl
              try clear rc0 rc1 rc2 rc3 rcl
              go_wp2_with fail
              refine (fawake_any _ ((HZ0.out.below (HB9.out)).ahead) (Nat.lt_of_lt_of_le ((HZ0.out.below (HB9.out)).tab) ((HZ0.out.below (HB9.out)).le)) ((HZ0.out.below (HB9.out)).maxl)).mono ?_
              rintro o wz ⟨rfl,hbz⟩
              have HBZ:=Lib.hid (HB0.out.trans ((HB9.out).mono HB0.out.size |>.trans (hbz.mono (Nat.le_trans HB0.out.size (HB9.out).size))))
              clear hbz
              go_wp2_with fail
              go_ret
              exact ⟨rfl,HBZ.out⟩
           | none =>
             rw [hpv] at HP1
             unfold chgO at HP1
             simp only at HP1
             clear hpv
             clear HAT HNX HPV HAG HRG HNOW
             go_wp2_with fail
             refine (HN1.out _ HB.out (Sl.of_own HO.out)).mono ?_
             rintro o v37 ⟨rfl,hb⟩
             try clear fc0 fc1 fc2 fc3 fc4 fc5 fcl
             try clear nc0 nc1 nc2 ncl
             try clear xc0 xc1 xc2 xc3 xcl
             try clear yc0 yc1 yc2 yc3 ycl
             try clear pc0 pc1 pc2 pcl
             try clear qc0 qc1 qc2 qcl
             try clear rc0 rc1 rc2 rc3 rcl
             have h_:=Blk.below HF.out hb (Blk.lt HF.out)
             have fc0:=Blk.cell h_ 0 (v:=.int .i64 sc) rfl
             have fc1:=Blk.cell h_ 1 (v:=.int .i64 ofs) rfl
             have fc2:=Blk.cell h_ 2 (v:=.int .i64 sv) rfl
             have fc3:=Blk.cell h_ 3 (v:=.string ltr) rfl
             have fc4:=Blk.cell h_ 4 (v:=.string fm) rfl
             have fc5:=Blk.cell h_ 5 (v:=.slice Au Rl.length cu) rfl
             have fcl:=Blk.lt h_
             replace HF:=Lib.hid (Blk.alloc h_ (.cells #[.int .i64 0,.int .i64 0,.bool false,.string ⟨#[]⟩] 76))
             clear h_
             have h_:=Blk.below HN.out hb (Blk.lt HN.out)
             replace HN:=Lib.hid (Blk.alloc h_ (.cells #[.int .i64 0,.int .i64 0,.bool false,.string ⟨#[]⟩] 76))
             clear h_
             replace HO:=Lib.hid ((ownsRow_below HO.out hb).alloc (.cells #[.int .i64 0,.int .i64 0,.bool false,.string ⟨#[]⟩] 76))
             replace HB:=Lib.hid ((HB.out.trans (hb.mono HB.out.size)).alloc (Nat.le_trans HB.out.size hb.size) (.cells #[.int .i64 0,.int .i64 0,.bool false,.string ⟨#[]⟩] 76))
             have HX:=Lib.hid (Blk.new v37 76 #[.int .i64 0,.int .i64 0,.bool false,.string ⟨#[]⟩])
             clear hb HN1
             go_wp2_with fail
             refine (HP1.out _ HB.out (Sl.of_own HO.out)).mono ?_
             rintro o v38 ⟨rfl,hb⟩
             try clear fc0 fc1 fc2 fc3 fc4 fc5 fcl
             try clear nc0 nc1 nc2 ncl
             try clear xc0 xc1 xc2 xc3 xcl
             try clear yc0 yc1 yc2 yc3 ycl
             try clear pc0 pc1 pc2 pcl
             try clear qc0 qc1 qc2 qcl
             try clear rc0 rc1 rc2 rc3 rcl
             have h_:=Blk.below HF.out hb (Blk.lt HF.out)
             have fc0:=Blk.cell h_ 0 (v:=.int .i64 sc) rfl
             have fc1:=Blk.cell h_ 1 (v:=.int .i64 ofs) rfl
             have fc2:=Blk.cell h_ 2 (v:=.int .i64 sv) rfl
             have fc3:=Blk.cell h_ 3 (v:=.string ltr) rfl
             have fc4:=Blk.cell h_ 4 (v:=.string fm) rfl
             have fc5:=Blk.cell h_ 5 (v:=.slice Au Rl.length cu) rfl
             have fcl:=Blk.lt h_
             replace HF:=Lib.hid (Blk.alloc h_ (.cells #[.int .i64 0,.int .i64 0,.bool false,.string ⟨#[]⟩] 76))
             clear h_
             have h_:=Blk.below HN.out hb (Blk.lt HN.out)
             have nc0:=Blk.cell h_ 0 (v:=.int .i64 no) rfl
             have nc1:=Blk.cell h_ 1 (v:=.bool nd) rfl
             have nc2:=Blk.cell h_ 2 (v:=.string ns) rfl
             have ncl:=Blk.lt h_
             replace HN:=Lib.hid (Blk.alloc h_ (.cells #[.int .i64 0,.int .i64 0,.bool false,.string ⟨#[]⟩] 76))
             clear h_
             have h_:=Blk.below HX.out hb (Blk.lt HX.out)
             have xc0:=Blk.cell h_ 0 (v:=.int .i64 0) rfl
             have xc1:=Blk.cell h_ 1 (v:=.int .i64 0) rfl
             have xc2:=Blk.cell h_ 2 (v:=.bool false) rfl
             have xc3:=Blk.cell h_ 3 (v:=.string ⟨#[]⟩) rfl
             have xcl:=Blk.lt h_
             replace HX:=Lib.hid (Blk.alloc h_ (.cells #[.int .i64 0,.int .i64 0,.bool false,.string ⟨#[]⟩] 76))
             clear h_
             replace HO:=Lib.hid ((ownsRow_below HO.out hb).alloc (.cells #[.int .i64 0,.int .i64 0,.bool false,.string ⟨#[]⟩] 76))
             replace HB:=Lib.hid ((HB.out.trans (hb.mono HB.out.size)).alloc (Nat.le_trans HB.out.size hb.size) (.cells #[.int .i64 0,.int .i64 0,.bool false,.string ⟨#[]⟩] 76))
             have HY:=Lib.hid (Blk.new v38 76 #[.int .i64 0,.int .i64 0,.bool false,.string ⟨#[]⟩])
             clear hb HP1
             go_wp2_with fail
             refine (HEN.out _).mono ?_
             rintro o w9_ ⟨rfl,hb⟩
             have HB9:=Lib.hid (HB.out.trans (hb.mono HB.out.size))
             clear hb
             try clear fc0 fc1 fc2 fc3 fc4 fc5 fcl
             try clear nc0 nc1 nc2 ncl
             try clear xc0 xc1 xc2 xc3 xcl
             try clear yc0 yc1 yc2 yc3 ycl
             try clear pc0 pc1 pc2 pcl
             try clear qc0 qc1 qc2 qcl
             try clear rc0 rc1 rc2 rc3 rcl
             go_wp2_with fail
             refine (fawake_any _ ((HZ0.out.below (HB9.out)).ahead) (Nat.lt_of_lt_of_le ((HZ0.out.below (HB9.out)).tab) ((HZ0.out.below (HB9.out)).le)) ((HZ0.out.below (HB9.out)).maxl)).mono ?_
             rintro o wz ⟨rfl,hbz⟩
             have HBZ:=Lib.hid (HB0.out.trans ((HB9.out).mono HB0.out.size |>.trans (hbz.mono (Nat.le_trans HB0.out.size (HB9.out).size))))
             clear hbz
             go_wp2_with fail
             go_ret
             exact ⟨rfl,HBZ.out⟩
        ·rw [next_nil hr] at HN1
         rw [prev_nil hr] at HP1
         rw [decide_eq_false hr] at HEN
         unfold chgO at HN1 HP1
         simp only at HN1 HP1
         clear HAT HNX HPV HRG HNOW
         go_wp2_with fail
         refine (HN1.out _ HB.out (Sl.of_own HO.out)).mono ?_
         rintro o v39 ⟨rfl,hb⟩
         try clear fc0 fc1 fc2 fc3 fc4 fc5 fcl
         try clear nc0 nc1 nc2 ncl
         try clear xc0 xc1 xc2 xc3 xcl
         try clear yc0 yc1 yc2 yc3 ycl
         try clear pc0 pc1 pc2 pcl
         try clear qc0 qc1 qc2 qcl
         try clear rc0 rc1 rc2 rc3 rcl
         have h_:=Blk.below HF.out hb (Blk.lt HF.out)
         have fc0:=Blk.cell h_ 0 (v:=.int .i64 sc) rfl
         have fc1:=Blk.cell h_ 1 (v:=.int .i64 ofs) rfl
         have fc2:=Blk.cell h_ 2 (v:=.int .i64 sv) rfl
         have fc3:=Blk.cell h_ 3 (v:=.string ltr) rfl
         have fc4:=Blk.cell h_ 4 (v:=.string fm) rfl
         have fc5:=Blk.cell h_ 5 (v:=.slice Au Rl.length cu) rfl
         have fcl:=Blk.lt h_
         replace HF:=Lib.hid (Blk.alloc h_ (.cells #[.int .i64 0,.int .i64 0,.bool false,.string ⟨#[]⟩] 76))
         clear h_
         have h_:=Blk.below HN.out hb (Blk.lt HN.out)
         replace HN:=Lib.hid (Blk.alloc h_ (.cells #[.int .i64 0,.int .i64 0,.bool false,.string ⟨#[]⟩] 76))
         clear h_
         replace HO:=Lib.hid ((ownsRow_below HO.out hb).alloc (.cells #[.int .i64 0,.int .i64 0,.bool false,.string ⟨#[]⟩] 76))
         replace HB:=Lib.hid ((HB.out.trans (hb.mono HB.out.size)).alloc (Nat.le_trans HB.out.size hb.size) (.cells #[.int .i64 0,.int .i64 0,.bool false,.string ⟨#[]⟩] 76))
         have HX:=Lib.hid (Blk.new v39 76 #[.int .i64 0,.int .i64 0,.bool false,.string ⟨#[]⟩])
         clear hb HN1
         go_wp2_with fail
         refine (HP1.out _ HB.out (Sl.of_own HO.out)).mono ?_
         rintro o v40 ⟨rfl,hb⟩
         try clear fc0 fc1 fc2 fc3 fc4 fc5 fcl
         try clear nc0 nc1 nc2 ncl
         try clear xc0 xc1 xc2 xc3 xcl
         try clear yc0 yc1 yc2 yc3 ycl
         try clear pc0 pc1 pc2 pcl
         try clear qc0 qc1 qc2 qcl
         try clear rc0 rc1 rc2 rc3 rcl
         have h_:=Blk.below HF.out hb (Blk.lt HF.out)
         have fc0:=Blk.cell h_ 0 (v:=.int .i64 sc) rfl
         have fc1:=Blk.cell h_ 1 (v:=.int .i64 ofs) rfl
         have fc2:=Blk.cell h_ 2 (v:=.int .i64 sv) rfl
         have fc3:=Blk.cell h_ 3 (v:=.string ltr) rfl
         have fc4:=Blk.cell h_ 4 (v:=.string fm) rfl
         have fc5:=Blk.cell h_ 5 (v:=.slice Au Rl.length cu) rfl
         have fcl:=Blk.lt h_
         replace HF:=Lib.hid (Blk.alloc h_ (.cells #[.int .i64 0,.int .i64 0,.bool false,.string ⟨#[]⟩] 76))
         clear h_
         have h_:=Blk.below HN.out hb (Blk.lt HN.out)
         have nc0:=Blk.cell h_ 0 (v:=.int .i64 no) rfl
         have nc1:=Blk.cell h_ 1 (v:=.bool nd) rfl
         have nc2:=Blk.cell h_ 2 (v:=.string ns) rfl
         have ncl:=Blk.lt h_
         replace HN:=Lib.hid (Blk.alloc h_ (.cells #[.int .i64 0,.int .i64 0,.bool false,.string ⟨#[]⟩] 76))
         clear h_
         have h_:=Blk.below HX.out hb (Blk.lt HX.out)
         have xc0:=Blk.cell h_ 0 (v:=.int .i64 0) rfl
         have xc1:=Blk.cell h_ 1 (v:=.int .i64 0) rfl
         have xc2:=Blk.cell h_ 2 (v:=.bool false) rfl
         have xc3:=Blk.cell h_ 3 (v:=.string ⟨#[]⟩) rfl
         have xcl:=Blk.lt h_
         replace HX:=Lib.hid (Blk.alloc h_ (.cells #[.int .i64 0,.int .i64 0,.bool false,.string ⟨#[]⟩] 76))
         clear h_
         replace HO:=Lib.hid ((ownsRow_below HO.out hb).alloc (.cells #[.int .i64 0,.int .i64 0,.bool false,.string ⟨#[]⟩] 76))
         replace HB:=Lib.hid ((HB.out.trans (hb.mono HB.out.size)).alloc (Nat.le_trans HB.out.size hb.size) (.cells #[.int .i64 0,.int .i64 0,.bool false,.string ⟨#[]⟩] 76))
         have HY:=Lib.hid (Blk.new v40 76 #[.int .i64 0,.int .i64 0,.bool false,.string ⟨#[]⟩])
         clear hb HP1
         go_wp2_with fail
         refine (HEN.out _).mono ?_
         rintro o w9_ ⟨rfl,hb⟩
         have HB9:=Lib.hid (HB.out.trans (hb.mono HB.out.size))
         clear hb
         try clear fc0 fc1 fc2 fc3 fc4 fc5 fcl
         try clear nc0 nc1 nc2 ncl
         try clear xc0 xc1 xc2 xc3 xcl
         try clear yc0 yc1 yc2 yc3 ycl
         try clear pc0 pc1 pc2 pcl
         try clear qc0 qc1 qc2 qcl
         try clear rc0 rc1 rc2 rc3 rcl
         go_wp2_with fail
         refine (fawake_any _ ((HZ0.out.below (HB9.out)).ahead) (Nat.lt_of_lt_of_le ((HZ0.out.below (HB9.out)).tab) ((HZ0.out.below (HB9.out)).le)) ((HZ0.out.below (HB9.out)).maxl)).mono ?_
         rintro o wz ⟨rfl,hbz⟩
         have HBZ:=Lib.hid (HB0.out.trans ((HB9.out).mono HB0.out.size |>.trans (hbz.mono (Nat.le_trans HB0.out.size (HB9.out).size))))
         clear hbz
         go_wp2_with fail
         go_ret
         exact ⟨rfl,HBZ.out⟩
end
section -- FOpen
open Go Go.ChangeShapes Go.WideShapes Go.ChangeAt Go.RowKit Go.Deep
def aheadI:List Int:=[0,31,59,90,120,151,181,212,243,273,304,334,365]
theorem ahead_of {W : World} (h : laidMetH Tryz.prog [("meridian/civil.ahead", Rows.laid_meridian_civil_ahead)] W) : Ahead W := fun i hi => by
 have ht : Lib.TabIs Tryz.prog W "meridian/civil.ahead" .i64 aheadI := Lib.tabIs_of_head (rest := []) (g := 0) (by kernel_rfl) (by kernel_rfl) Tryz.underlying175 Tryz.underlying3 (by kernel_rfl) (by kernel_rfl) h
 have hc:=ht.cell (g:=0) (by kernel_rfl) i (by simpa [aheadI] using hi)
 rw [hc]
 have:i = 0∨i = 1∨i = 2∨i = 3∨i = 4∨i = 5∨i = 6∨i = 7∨i = 8∨i = 9∨i = 10∨i = 11∨i = 12:=by omega
 rcases this with h | h | h | h | h | h | h | h | h | h | h | h | h <;> subst h <;> rfl
section
variable {H:Type} {enc:TypeId × Value→H} {P:Program} {W:World} {base:Nat} {spare:MemPlace→Bool} {held:Bool}
theorem trod_struct8 {t:TypeId} {f0 f1 f2 f3 f4 f5 f6 f7:Field} {fuel:Nat} {cs:List Value} {x:DataW H × List MemPlace} (ht:P.underlying t = some (.struct #[f0,f1,f2,f3,f4,f5,f6,f7])) (h:DataW.trod enc P W 0 (fun _=>true) true fuel t cs = some x) :
  ∃ y0 y1 y2 y3 y4 y5 y6 y7 n,cs.length = P.cellsOf t∧DataW.trod enc P W 0 (fun _=>true) true n f0.type ((cs.drop f0.offset).take (P.cellsOf f0.type)) = some y0∧DataW.trod enc P W 0 (fun _=>true) true n f1.type ((cs.drop f1.offset).take (P.cellsOf f1.type)) = some y1 ∧
   DataW.trod enc P W 0 (fun _=>true) true n f2.type ((cs.drop f2.offset).take (P.cellsOf f2.type)) = some y2∧DataW.trod enc P W 0 (fun _=>true) true n f3.type ((cs.drop f3.offset).take (P.cellsOf f3.type)) = some y3∧DataW.trod enc P W 0 (fun _=>true) true n f4.type ((cs.drop f4.offset).take (P.cellsOf f4.type)) = some y4 ∧
   DataW.trod enc P W 0 (fun _=>true) true n f5.type ((cs.drop f5.offset).take (P.cellsOf f5.type)) = some y5∧DataW.trod enc P W 0 (fun _=>true) true n f6.type ((cs.drop f6.offset).take (P.cellsOf f6.type)) = some y6∧DataW.trod enc P W 0 (fun _=>true) true n f7.type ((cs.drop f7.offset).take (P.cellsOf f7.type)) = some y7:=by
 obtain ⟨xs,n,_,rfl,hl,hlen,hf⟩:=DataW.trod_struct ht h
 match xs,hlen with
 | [y0,y1,y2,y3,y4,y5,y6,y7],_=>exact ⟨y0,y1,y2,y3,y4,y5,y6,y7,n,hl,by simpa using hf 0 f0 rfl,by simpa using hf 1 f1 rfl,by simpa using hf 2 f2 rfl,by simpa using hf 3 f3 rfl,by simpa using hf 4 f4 rfl,by simpa using hf 5 f5 rfl,by simpa using hf 6 f6 rfl,by simpa using hf 7 f7 rfl⟩
end
section
variable {H:Type} {enc:TypeId × Value→H} {W:World}
theorem trod_day {n:Nat} {cs:List Value} {y:DataW H × List MemPlace} (h:DataW.trod enc Tryz.prog W 0 (fun _=>true) true n 36 cs = some y):∃ a b c:Int,cs = [.int .i64 a,.int .i64 b,.int .i64 c]:=by
 obtain ⟨y0,y1,y2,k,-,hl,h0,h1,h2⟩:=trod_struct3 Tryz.underlying36 h
 rw [show Tryz.prog.cellsOf 36 = 3 by kernel_rfl] at hl
 obtain ⟨a,e0,_,_⟩:=DataW.trod_int Tryz.underlying3 h0
 obtain ⟨b,e1,_,_⟩:=DataW.trod_int Tryz.underlying3 h1
 obtain ⟨c,e2,_,_⟩:=DataW.trod_int Tryz.underlying3 h2
 match cs,hl with
 | [v0,v1,v2],_ =>
   rw [show Tryz.prog.cellsOf 3 = 1 by kernel_rfl] at e0 e1 e2
   simp at e0 e1 e2
   subst e0 e1 e2
   exact ⟨a,b,c,rfl⟩
theorem trod_clock {n:Nat} {cs:List Value} {y:DataW H × List MemPlace} (h:DataW.trod enc Tryz.prog W 0 (fun _=>true) true n 38 cs = some y):∃ a b:Int,cs = [.int .i64 a,.int .i64 b]:=by
 obtain ⟨y0,y1,k,-,hl,h0,h1⟩:=trod_struct2 Tryz.underlying38 h
 rw [show Tryz.prog.cellsOf 38 = 2 by kernel_rfl] at hl
 obtain ⟨a,e0,_,_⟩:=DataW.trod_int Tryz.underlying3 h0
 obtain ⟨b,e1,_,_⟩:=DataW.trod_int Tryz.underlying3 h1
 match cs,hl with
 | [v0,v1],_ =>
   rw [show Tryz.prog.cellsOf 3 = 1 by kernel_rfl] at e0 e1
   simp at e0 e1
   subst e0 e1
   exact ⟨a,b,rfl⟩
theorem trod_rul {n:Nat} {cs:List Value} {y:DataW H × List MemPlace} (h:DataW.trod enc Tryz.prog W 0 (fun _=>true) true n 106 cs = some y):∃ r:Rul,cs = rulV r∧True:=by
 obtain ⟨y0,y1,y2,y3,y4,y5,y6,y7,k,hl,h0,h1,h2,h3,h4,h5,h6,h7⟩:=trod_struct8 Tryz.underlying106 h
 rw [show Tryz.prog.cellsOf 106 = 11 by kernel_rfl] at hl
 obtain ⟨nm,e0,_,_⟩:=DataW.trod_string Tryz.underlying9 h0
 obtain ⟨fr,e1,_,_⟩:=DataW.trod_int Tryz.underlying3 h1
 obtain ⟨to,e2,_,_⟩:=DataW.trod_int Tryz.underlying3 h2
 obtain ⟨mo,e3,_,_⟩:=DataW.trod_int Tryz.underlying3 h3
 obtain ⟨dk,dw,dn,e4⟩:=trod_day h4
 obtain ⟨sc,kd,e5⟩:=trod_clock h5
 obtain ⟨sv,e6,_,_⟩:=DataW.trod_int Tryz.underlying3 h6
 obtain ⟨lt,e7,_,_⟩:=DataW.trod_string Tryz.underlying9 h7
 match cs,hl with
 | [v0,v1,v2,v3,v4,v5,v6,v7,v8,v9,v10],_ =>
   rw [show Tryz.prog.cellsOf 3 = 1 by kernel_rfl] at e1 e2 e3 e6
   rw [show Tryz.prog.cellsOf 9 = 1 by kernel_rfl] at e0 e7
   rw [show Tryz.prog.cellsOf 36 = 3 by kernel_rfl] at e4
   rw [show Tryz.prog.cellsOf 38 = 2 by kernel_rfl] at e5
   simp at e0 e1 e2 e3 e4 e5 e6 e7
   obtain ⟨rfl,rfl,rfl⟩:=e4
   obtain ⟨rfl,rfl⟩:=e5
   subst e0 e1 e2 e3 e6 e7
   exact ⟨⟨nm,fr,to,mo,dk,dw,dn,sc,kd,sv,lt⟩,rfl,trivial⟩
instance:Inhabited Rul:=⟨⟨⟨#[]⟩,0,0,0,0,0,0,0,0,0,⟨#[]⟩⟩⟩
end
end
section -- AOpen
open Go Go.ChangeShapes Go.WideShapes Go.ChangeAt Go.RowKit Go.Deep
section
variable {H:Type} {enc:TypeId × Value→H} {P:Program} {W:World}
theorem trod_struct4 {t:TypeId} {f0 f1 f2 f3:Field} {fuel:Nat} {cs:List Value} {x:DataW H × List MemPlace} (ht:P.underlying t = some (.struct #[f0,f1,f2,f3])) (h:DataW.trod enc P W 0 (fun _=>true) true fuel t cs = some x) :
  ∃ y0 y1 y2 y3 n,cs.length = P.cellsOf t∧DataW.trod enc P W 0 (fun _=>true) true n f0.type ((cs.drop f0.offset).take (P.cellsOf f0.type)) = some y0∧DataW.trod enc P W 0 (fun _=>true) true n f1.type ((cs.drop f1.offset).take (P.cellsOf f1.type)) = some y1 ∧
   DataW.trod enc P W 0 (fun _=>true) true n f2.type ((cs.drop f2.offset).take (P.cellsOf f2.type)) = some y2∧DataW.trod enc P W 0 (fun _=>true) true n f3.type ((cs.drop f3.offset).take (P.cellsOf f3.type)) = some y3:=by
 obtain ⟨xs,n,_,rfl,hl,hlen,hf⟩:=DataW.trod_struct ht h
 match xs,hlen with
 | [y0,y1,y2,y3],_=>exact ⟨y0,y1,y2,y3,n,hl,by simpa using hf 0 f0 rfl,by simpa using hf 1 f1 rfl,by simpa using hf 2 f2 rfl,by simpa using hf 3 f3 rfl⟩
theorem trod_struct6 {t:TypeId} {f0 f1 f2 f3 f4 f5:Field} {fuel:Nat} {cs:List Value} {x:DataW H × List MemPlace} (ht:P.underlying t = some (.struct #[f0,f1,f2,f3,f4,f5])) (h:DataW.trod enc P W 0 (fun _=>true) true fuel t cs = some x) :
  ∃ y0 y1 y2 y3 y4 y5 n,cs.length = P.cellsOf t∧DataW.trod enc P W 0 (fun _=>true) true n f0.type ((cs.drop f0.offset).take (P.cellsOf f0.type)) = some y0∧DataW.trod enc P W 0 (fun _=>true) true n f1.type ((cs.drop f1.offset).take (P.cellsOf f1.type)) = some y1 ∧
   DataW.trod enc P W 0 (fun _=>true) true n f2.type ((cs.drop f2.offset).take (P.cellsOf f2.type)) = some y2∧DataW.trod enc P W 0 (fun _=>true) true n f3.type ((cs.drop f3.offset).take (P.cellsOf f3.type)) = some y3 ∧
   DataW.trod enc P W 0 (fun _=>true) true n f4.type ((cs.drop f4.offset).take (P.cellsOf f4.type)) = some y4∧DataW.trod enc P W 0 (fun _=>true) true n f5.type ((cs.drop f5.offset).take (P.cellsOf f5.type)) = some y5:=by
 obtain ⟨xs,n,_,rfl,hl,hlen,hf⟩:=DataW.trod_struct ht h
 match xs,hlen with
 | [y0,y1,y2,y3,y4,y5],_=>exact ⟨y0,y1,y2,y3,y4,y5,n,hl,by simpa using hf 0 f0 rfl,by simpa using hf 1 f1 rfl,by simpa using hf 2 f2 rfl,by simpa using hf 3 f3 rfl,by simpa using hf 4 f4 rfl,by simpa using hf 5 f5 rfl⟩
end
section
variable {H:Type} {enc:TypeId × Value→H} {W:World}
theorem trod_until {n:Nat} {cs:List Value} {y:DataW H × List MemPlace} (h:DataW.trod enc Tryz.prog W 0 (fun _=>true) true n 40 cs = some y):∃ a b c d e f g:Int,cs = [.int .i64 a,.int .i64 b,.int .i64 c,.int .i64 d,.int .i64 e,.int .i64 f,.int .i64 g]:=by
 obtain ⟨y0,y1,y2,y3,k,hl,h0,h1,h2,h3⟩:=trod_struct4 Tryz.underlying40 h
 rw [show Tryz.prog.cellsOf 40 = 7 by kernel_rfl] at hl
 obtain ⟨a,e0,_,_⟩:=DataW.trod_int Tryz.underlying3 h0
 obtain ⟨b,e1,_,_⟩:=DataW.trod_int Tryz.underlying3 h1
 obtain ⟨dk,dw,dn,e2⟩:=trod_day h2
 obtain ⟨sc,kd,e3⟩:=trod_clock h3
 match cs,hl with
 | [v0,v1,v2,v3,v4,v5,v6],_ =>
   rw [show Tryz.prog.cellsOf 3 = 1 by kernel_rfl] at e0 e1
   rw [show Tryz.prog.cellsOf 36 = 3 by kernel_rfl] at e2
   rw [show Tryz.prog.cellsOf 38 = 2 by kernel_rfl] at e3
   simp at e0 e1 e2 e3
   obtain ⟨rfl,rfl,rfl⟩:=e2
   obtain ⟨rfl,rfl⟩:=e3
   subst e0 e1
   exact ⟨a,b,dk,dw,dn,sc,kd,rfl⟩
theorem trod_era {n:Nat} {cs:List Value} {y:DataW H × List MemPlace} (h:DataW.trod enc Tryz.prog W 0 (fun _=>true) true n 42 cs = some y) :
  ∃ (e:EraN) (ru f:ByteArray) (en:Bool),cs = [.int .i64 e.off,.string ru,.int .i64 e.save,.string f,.bool en,.int .i64 e.year,.int .i64 e.month,.int .i64 e.dk,.int .i64 e.dw,.int .i64 e.dn,.int .i64 e.sec,.int .i64 e.ak] ∧
   (-9223372036854775808 ≤ e.off∧e.off ≤ 9223372036854775807)∧(-9223372036854775808 ≤ e.save∧e.save ≤ 9223372036854775807):=by
 obtain ⟨y0,y1,y2,y3,y4,y5,k,hl,h0,h1,h2,h3,h4,h5⟩:=trod_struct6 Tryz.underlying42 h
 rw [show Tryz.prog.cellsOf 42 = 12 by kernel_rfl] at hl
 obtain ⟨off,e0,_,w0⟩:=DataW.trod_int Tryz.underlying3 h0
 obtain ⟨ru,e1,_,_⟩:=DataW.trod_string Tryz.underlying9 h1
 obtain ⟨sv,e2,_,w2⟩:=DataW.trod_int Tryz.underlying3 h2
 obtain ⟨f,e3,_,_⟩:=DataW.trod_string Tryz.underlying9 h3
 obtain ⟨en,e4,_⟩:=DataW.trod_bool Tryz.underlying4 h4
 obtain ⟨yr,mo,dk,dw,dn,sc,kd,e5⟩:=trod_until h5
 match cs,hl with
 | [v0,v1,v2,v3,v4,v5,v6,v7,v8,v9,v10,v11],_ =>
   rw [show Tryz.prog.cellsOf 3 = 1 by kernel_rfl] at e0 e2
   rw [show Tryz.prog.cellsOf 9 = 1 by kernel_rfl] at e1 e3
   rw [show Tryz.prog.cellsOf 4 = 1 by kernel_rfl] at e4
   rw [show Tryz.prog.cellsOf 40 = 7 by kernel_rfl] at e5
   simp at e0 e1 e2 e3 e4 e5
   obtain ⟨rfl,rfl,rfl,rfl,rfl,rfl,rfl⟩:=e5
   subst e0 e1 e2 e3 e4
   exact ⟨⟨off,sv,yr,mo,dk,dw,dn,sc,kd⟩,ru,f,en,rfl,wf_i64 w0,wf_i64 w2⟩
end
end
section -- AOpenW
open Go Go.ChangeShapes Go.WideShapes Go.ChangeAt Go.RowKit Go.Deep
section
variable {H:Type} {enc:TypeId × Value→H} {P:Program} {W:World}
def Light (P:Program) (t:TypeId) (d:DataW H):Prop:=∀ k ∈ d.weights P t,k ≤ 140737488351232
theorem weightsAll_mem {e:TypeId}:∀ {l:List (DataW H)} {d:DataW H},d ∈ l→∀ k ∈ d.weights P e,k ∈ DataW.weightsAll P e l
 | x :: l,d,h,k,hk=>by
   simp only [DataW.weightsAll,List.mem_append]
   rcases List.mem_cons.1 h with rfl | h
   ·exact .inl hk
   ·exact .inr (weightsAll_mem h k hk)
theorem Light.elem {T E:TypeId} {a b:List (DataW H)} (hT:P.underlying T = some (.slice E)) (h:Light P T (.slice a b)) {d:DataW H} (hd:d ∈ a):Light P E d:=fun k hk=>by
 refine h k ?_
 simp only [DataW.weights,hT,List.mem_cons,List.mem_append]
 exact .inr (.inl (weightsAll_mem hd k hk))
theorem Light.part {T:TypeId} {fs:Array Field} {l:List (DataW H)} (hT:P.underlying T = some (.struct fs)) (h:Light P T (.agg l)) {i:Nat} {t:TypeId} {d:DataW H} (ht:(fs.toList.map (·.type))[i]? = some t) (hd:l[i]? = some d):Light P t d:=fun k hk=>by
 refine h k ?_
 simp only [DataW.weights,hT]
 exact DataW.weights_mem_each ht hd k hk
theorem Light.str {t:TypeId} {s:List UInt8} (h:Light P t (DataW.lit (H:=H) (.string s))):s.length ≤ 140737488351232:=h _ (by simp [DataW.weights])
theorem open_listW {α:Type} [Inhabited α] (f:α→List Value) (Pr:α→Prop) {T E:TypeId} {C:Nat} (hT:P.underlying T = some (.slice E)) (hC:P.cellsOf E = C) (h0:0 < C)
  (hel:∀ (n:Nat) (cs:List Value) (y:DataW H × List MemPlace),cs.length = C→DataW.trod enc P W 0 (fun _=>true) true n E cs = some y→Light P E y.1→∃ a,cs = f a∧Pr a)
  {n:Nat} {cs:List Value} {x:DataW H × List MemPlace} (h:DataW.trod enc P W 0 (fun _=>true) true n T cs = some x) (hw:Light P T x.1):∃ (v:Value) (l:List α),cs = [v]∧Sl W W.heap.size C v l.length (l.flatMap f)∧∀ a ∈ l,Pr a∧(f a).length = C:=by
 rcases open_slice hT h with ⟨rfl,_⟩ | ⟨a,len,cap,m,k,D,Pl,rfl,_,hl,hm,hmm,rfl,hx⟩
 ·exact ⟨_,[],rfl,Sl.nil _ _ _,fun a h=>by cases h⟩
 ·simp only [if_true] at hmm
  subst hmm
  have hD:∀ i,i < len→Light P E (D i):=fun i hi=>Light.elem hT hw (List.mem_map.2 ⟨i,List.mem_range.2 hi,rfl⟩)
  have each:∀ i,∃ q:α,i < len→W.cells? 0 (a.add (i * C)) C = some (f q)∧Pr q∧(f q).length = C:=fun i=>by
   by_cases hi:i < len
   ·obtain ⟨cs',h1,h2⟩:=hx i (by omega)
    rw [hC] at h1
    obtain ⟨_,hlen,_⟩:=World.cells?_some h1
    obtain ⟨q,rfl,hq⟩:=hel _ _ _ hlen h2 (hD i hi)
    exact ⟨q,fun _=>⟨h1,hq,hlen⟩⟩
   ·exact ⟨default,fun h=>absurd h hi⟩
  obtain ⟨Q,hQ⟩:=Classical.axiomOfChoice each
  have hlen:((List.range len).map Q).length = len:=by simp
  have hfl:∀ b ∈ (List.range len).map Q,Pr b∧(f b).length = C:=fun b hb=>by
   obtain ⟨i,hi,rfl⟩:=List.mem_map.1 hb
   exact ⟨(hQ i (List.mem_range.1 hi)).2.1,(hQ i (List.mem_range.1 hi)).2.2⟩
  refine ⟨_,(List.range len).map Q,rfl,?_,hfl⟩
  have hfl2:=flat_len f C _ (fun b hb=>(hfl b hb).2)
  rw [hlen] at hfl2 ⊢
  refine ⟨_,_,rfl,hl,hm,hfl2,fun hp=>?_⟩
  obtain ⟨b,o,spot⟩:=a
  obtain ⟨_,_,hc0⟩:=World.cells?_some (hQ 0 hp).1
  have h00:=hc0 0 h0
  rw [List.getElem?_eq_getElem (by rw [(hQ 0 hp).2.2];exact h0)] at h00
  have hspot:spot = none:=by simpa [Addr.add] using World.cell?_spot h00
  subst hspot
  refine ⟨b,o,rfl,?_,fun j u hu=>?_⟩
  ·have:=World.block_lt_of_cell? W _ h00
   simpa [Addr.add_lit] using this
  ·have hj:j < len * C:=by
    have:=(List.getElem?_eq_some_iff.1 hu).1
    rwa [hfl2] at this
   have hd:j / C < len:=Nat.div_lt_of_lt_mul (by rw [Nat.mul_comm];exact hj)
   have hr:j % C < C:=Nat.mod_lt _ h0
   have he:j = j / C * C + j % C:=by rw [Nat.mul_comm];exact (Nat.div_add_mod j C).symm
   obtain ⟨_,hll,hcc⟩:=World.cells?_some (hQ (j / C) hd).1
   have hc:=hcc (j % C) hr
   rw [he,flat_at f C _ (fun b hb=>(hfl b hb).2) _ _ (by rw [hlen];exact hd) hr] at hu
   simp only [List.getElem_map,List.getElem_range] at hu
   rw [he]
   have e2:(some u:Option Value) = some ((f (Q (j / C)))[j % C]'(by omega)):=by rw [← hu];exact List.getElem?_eq_getElem _
   rw [Option.some.inj e2,← List.getElem?_eq_getElem]
   simpa [Addr.add_lit,Nat.add_assoc] using hc
end
theorem ahead_in {l : List (String × DataW Unit)} {W : World} (hl : l.filter (fun x => x.1 == "meridian/civil.ahead") = [("meridian/civil.ahead", Rows.laid_meridian_civil_ahead)]) (h : laidMetH Tryz.prog l W) : Ahead W := ahead_of (by rw [← hl]; exact h.filter _)
theorem tab_in {W:World} (h:Ahead W):0 < W.heap.size:=World.block_lt_of_cell? W _ (h 0 (by decide))
section
variable {H:Type} {enc:TypeId × Value→H} {W:World}
theorem trod_rulW {n:Nat} {cs:List Value} {y:DataW H × List MemPlace} (h:DataW.trod enc Tryz.prog W 0 (fun _=>true) true n 106 cs = some y) (hw:Light Tryz.prog 106 y.1):∃ r:Rul,cs = rulV r∧r.letter.size ≤ 140737488351232:=by
 obtain ⟨r,rfl,-⟩:=trod_rul h
 refine ⟨r,rfl,?_⟩
 obtain ⟨xs,m,_,rfl,hl,hlen,hf⟩:=DataW.trod_struct Tryz.underlying106 h
 match xs,hlen with
 | [y0,y1,y2,y3,y4,y5,y6,y7],_ =>
   have h7:=hf 7 _ rfl
   obtain ⟨s,e7,e8,-⟩:=DataW.trod_string Tryz.underlying9 h7
   have h9:r.letter = s:=by
    have e9:([.string r.letter]:List Value) = [.string s]:=e7
    injection e9 with e9
    injection e9
   have h10:=Light.part Tryz.underlying106 hw (i:=7) (t:=9) (d:=y7.1) rfl rfl
   rw [e8] at h10
   have h11:=h10.str
   rw [h9,Lib.size_eq]
   exact h11
theorem trod_eraW {n:Nat} {cs:List Value} {y:DataW H × List MemPlace} (h:DataW.trod enc Tryz.prog W 0 (fun _=>true) true n 42 cs = some y) (hw:Light Tryz.prog 42 y.1):∃ x:EraF,cs = x.cells∧x.fm.size ≤ 140737488351232:=by
 obtain ⟨e,ru,f,en,rfl,-,-⟩:=trod_era h
 refine ⟨⟨e,ru,f,en⟩,rfl,?_⟩
 obtain ⟨xs,m,_,rfl,hl,hlen,hf⟩:=DataW.trod_struct Tryz.underlying42 h
 match xs,hlen with
 | [y0,y1,y2,y3,y4,y5],_ =>
   have h7:=hf 3 _ rfl
   obtain ⟨s,e7,e8,-⟩:=DataW.trod_string Tryz.underlying9 h7
   have h9:f = s:=by
    have e9:([.string f]:List Value) = [.string s]:=e7
    injection e9 with e9
    injection e9
   have h10:=Light.part Tryz.underlying42 hw (i:=3) (t:=9) (d:=y3.1) rfl rfl
   rw [e8] at h10
   have h11:=h10.str
   show f.size ≤ _
   rw [h9,Lib.size_eq]
   exact h11
theorem trod_setW {n:Nat} {cs:List Value} {y:DataW H × List MemPlace} (h:DataW.trod enc Tryz.prog W 0 (fun _=>true) true n 95 cs = some y) (hw:Light Tryz.prog 95 y.1):∃ s:SetF,cs = s.cells∧(Ruls W W.heap.size s.v s.l∧letOk s.l):=by
 obtain ⟨xs,m,_,rfl,hl,hlen,hf⟩:=DataW.trod_struct Tryz.underlying95 h
 match xs,hlen with
 | [y0,y1],_ =>
   obtain ⟨s,e0,_,-⟩:=DataW.trod_string Tryz.underlying9 (hf 0 _ rfl)
   have h1:=hf 1 _ rfl
   have h10:=Light.part Tryz.underlying95 hw (i:=1) (t:=52) (d:=y1.1) rfl rfl
   obtain ⟨v,l,e1,hs,hl2⟩:=open_listW (C:=11) rulV (fun r=>r.letter.size ≤ 140737488351232) Tryz.underlying52 (by kernel_rfl) (by decide) (fun n cs y _ hy hw=>trod_rulW hy hw) h1 h10
   rw [show Tryz.prog.cellsOf 95 = 2 by kernel_rfl] at hl
   match cs,hl with
   | [v0,v1],_ =>
     have e2:([v0]:List Value) = [.string s]:=e0
     have e3:([v1]:List Value) = [v]:=e1
     injection e2 with e2
     injection e3 with e3
     subst e2 e3
     exact ⟨⟨s,v1,l⟩,rfl,hs,fun r hr=>(hl2 r hr).1⟩
theorem open_world {r:Reach} {base:Nat} {v:Value} {d:DataW H} {p:List MemPlace} (hok:Value.okWide Tryz.prog W r base 27 v) (h:DataW.Trod enc Tryz.prog W 0 (fun _=>true) true 27 v d p) (hw:Light Tryz.prog 27 d) :
  ∃ (zn:ByteArray) (ev sv:Value) (l:List EraF) (S:List SetF),v = worldA zn ev sv∧ErasR W W.heap.size ev l∧SetsR W W.heap.size sv S∧(∀ x ∈ l,x.fm.size < 1152921504606846976)∧∀ s ∈ S,letOk s.l:=by
 have hu:Tryz.prog.underlying 27 = _:=Tryz.underlying27
 simp only [Value.okWide,hu] at hok
 obtain ⟨cs,rfl,hsz,_⟩:=hok
 obtain ⟨fuel,hg⟩:=h
 obtain ⟨xs,m,_,e0,hl,hlen,hf⟩:=DataW.trod_struct Tryz.underlying27 hg
 clear hg
 match xs,hlen with
 | [y0,y1],_ =>
   injection e0 with e0 e00
   subst e0
   have h0:=hf 0 _ rfl
   have h1:=hf 1 _ rfl
   have w0:=Light.part Tryz.underlying27 hw (i:=0) (t:=24) (d:=y0.1) rfl rfl
   have w1:=Light.part Tryz.underlying27 hw (i:=1) (t:=25) (d:=y1.1) rfl rfl
   obtain ⟨sv,S,e1,hs,hs2⟩:=open_listW (C:=2) SetF.cells (fun s=>Ruls W W.heap.size s.v s.l∧letOk s.l) Tryz.underlying25 (by kernel_rfl) (by decide) (fun n cs y _ hy hw=>trod_setW hy hw) h1 w1
   obtain ⟨zs,m2,_,e2,hl2,hlen2,hf2⟩:=DataW.trod_struct Tryz.underlying24 h0
   match zs,hlen2 with
   | [z0,z1],_ =>
     rw [e2] at w0
     obtain ⟨zn,e3,_,-⟩:=DataW.trod_string Tryz.underlying9 (hf2 0 _ rfl)
     have w2:=Light.part Tryz.underlying24 w0 (i:=1) (t:=22) (d:=z1.1) rfl rfl
     obtain ⟨ev,l,e4,he,he2⟩:=open_listW (C:=12) EraF.cells (fun x=>x.fm.size ≤ 140737488351232) Tryz.underlying22 (by kernel_rfl) (by decide) (fun n cs y _ hy hw=>trod_eraW hy hw) (hf2 1 _ rfl) w2
     rw [show Tryz.prog.cellsOf 27 = 3 by kernel_rfl] at hl
     obtain ⟨c⟩:=cs
     simp only [Value.cells] at hl
     match c,hl with
     | [v0,v1,v2],_ =>
       have q0:([v0]:List Value) = [.string zn]:=e3
       have q1:([v1]:List Value) = [ev]:=e4
       have q2:([v2]:List Value) = [sv]:=e1
       injection q0 with q0
       injection q1 with q1
       injection q2 with q2
       subst q0 q1 q2
       exact ⟨zn,v1,v2,l,S,rfl,he,⟨hs,fun s hs3=>(hs2 s hs3).1.1⟩,fun x hx=>by have:=(he2 x hx).1;omega,fun s hs3=>(hs2 s hs3).1.2⟩
end
end
end Go.Proofs.YteekjfgjmccdnaaGreatDoor
section -- RowFooterNear
namespace Go.Proofs.YteekjfgjmccdnaaGreatDoor.footerNear
open Go.ChangeShapes Go.WideShapes Go.ChangeAt Go.RowKit
open Go.ChangeMaps (open_string shut_string)
set_option linter.unusedVariables false
theorem own:ownKnob Tryz.prog.godebug = none:=by kernel_rfl
theorem laidOut:laidOutB Tryz.prog = true:=by kernel_rfl
theorem contract (H:Type) (enc:TypeId × Value→H) (W:World) (base:Nat) (args:Array Value) (ds gs:List (DataW H)) (before:List MemPlace)
  (hval:∀ (j:Nat) t v,Tryz.f9.params[j]? = some t→args[j]? = some v→Value.okWide Tryz.prog W .any base t v)
  (hW:DataW.Whole enc Tryz.prog Tryz.f9.params.toList Rows.footerNearSpec.vars false W args.toList ds gs before) (hwt:(DataW.weightsEach Tryz.prog (Tryz.f9.params.toList ++ (OpenSpec.ofChange Rows.footerNearSpec).bare.plain.varTypes Tryz.prog) (ds ++ gs)).all (· ≤ reachBytes) = true) (hL:laidMetH Tryz.prog Rows.footerNearRow.laid W) (hsh:W.ShapedOpen Tryz.prog) :
  Calls Tryz.prog 9 args W fun e W'=>∃ v,e = .returned v∧Rows.footerNearSpec.post enc Tryz.prog Tryz.f9 false true false false W args v W':=by
 have hW':=hW
 obtain ⟨p,q,hA0,hV,rfl,hfz,hnd⟩:=hW
 have hA:DataW.TrodAll enc Tryz.prog W 0 (fun _=>true) true Tryz.f9.params.toList args.toList ds p:=hA0
 rw [Tryz.params9] at hA hval
 obtain ⟨v0,vs0,d0,ds0,p0,q0,hargs,rfl,rfl,h0,r0⟩:=trodAll_cons hA
 obtain ⟨v1,vs1,d1,ds1,p1,q1,rfl,rfl,rfl,h1,r1⟩:=trodAll_cons r0
 obtain ⟨v2,vs2,d2,ds2,p2,q2,rfl,rfl,rfl,h2,r2⟩:=trodAll_cons r1
 obtain ⟨rfl,rfl,rfl⟩:=trodAll_nil r2
 obtain rfl:args = #[v0,v1,v2]:=by cases args;simp_all
 obtain ⟨rfl,rfl⟩:=trodVars_none hV
 have k0:=h0
 have lt0:∀ x ∈ p0,x.block < W.heap.size:=by obtain ⟨m,hm⟩:=k0;exact DataW.trod_lt m _ _ _ hm
 have lw0:Light Tryz.prog 27 d0:=fun k hk=>by have:=List.all_eq_true.1 hwt k (DataW.weights_mem_each (j:=0) (t:=27) (d:=d0) rfl rfl k hk);exact of_decide_eq_true this
 obtain ⟨zn0,ev0,sv0,l0,s0,rfl,he0,hs0,hf0,ht0⟩:=open_world (hval 0 27 v0 rfl rfl) h0 lw0
 obtain ⟨a1,rfl,rfl,rfl,w1⟩:=open_int Tryz.underlying3 (hval 1 3 v1 rfl rfl) h1
 obtain ⟨a2,rfl,rfl,rfl,w2⟩:=open_int Tryz.underlying3 (hval 2 3 v2 rfl rfl) h2
 clear hA0
 refine (fnear_walk W zn0 ev0 sv0 l0 s0 a1 a2 he0 hs0 hf0 ht0 (wf_i64 w1) (wf_i64 w2) (ahead_in (by kernel_rfl) hL) (tab_in (ahead_in (by kernel_rfl) hL)) (Tryz.maxL_of hsh)).mono fun e W' ⟨he,bel⟩=>?_
 subst he
 exact ⟨_,rfl,_,_,_,[],_,[],hW',trodAll_mk1 (shut_bool Tryz.underlying4 _),(trodAll_cons_mk (Below.trod laidOut (by kernel_rfl) (of_decide_eq_true (by kernel_rfl)) k0 bel lt0) (trodAll_cons_mk (shut_int Tryz.underlying3 w1) (trodAll_cons_mk (shut_int Tryz.underlying3 w2) trodAll_mk0))),rfl,bel.frame _,fun h=>by cases h⟩
noncomputable def laidWorld (os:Os):World :=
 World.laidAll Tryz.prog os Rows.footerNearRow.laid
theorem laid_met (os:Os):laidMet Tryz.prog Rows.footerNearRow.laid ((laidWorld os).forCall (fun _ _=>0) ⟨#[],#[.agg #[.string ⟨#[]⟩,.slice none 0 0,.slice none 0 0],.int .i64 0,.int .i64 0],[]⟩).memory :=
 laidMet_laidAll _ (by kernel_rfl) (by kernel_rfl)
theorem reads (os:Os) {H:Type} (enc:TypeId × Value→H):∃ places,DataW.whole enc Tryz.prog ((laidWorld os).forCall (fun _ _=>0) ⟨#[],#[.agg #[.string ⟨#[]⟩,.slice none 0 0,.slice none 0 0],.int .i64 0,.int .i64 0],[]⟩).memory Tryz.f9.params.toList Rows.footerNearSpec.vars false (#[.agg #[.string ⟨#[]⟩,.slice none 0 0,.slice none 0 0],.int .i64 0,.int .i64 0]:Array Value).toList 8 = some ([.agg [.agg [.lit (.string []),.nil],.nil],.lit (.int .i64 0),.lit (.int .i64 0)],[],places) :=
 ⟨[],by kernel_rfl⟩
theorem lifted (os:Os) (started:os.Started) (H:Type) (enc:TypeId × Value→H) (F:Stop.Interp) :
  ReturnsInHanded {} Tryz.checked os 9 .any ((OpenSpec.ofChange Rows.footerNearSpec).preRow enc Tryz.prog Tryz.f9 Rows.footerNearRow.domain false Rows.footerNearRow.laid) (((OpenSpec.ofChange Rows.footerNearSpec).at F).post enc Tryz.prog Tryz.f9 false true false false):=by
 obtain ⟨places,hx⟩:=reads os enc
 refine returnsInHanded_of_row (C:=Tryz.checked) (s:=OpenSpec.ofChange Rows.footerNearSpec) own started (by kernel_rfl) Tryz.func9
  (witness_row_at (enc:=enc) (C:=Tryz.checked) false (laidWorld os) #[.agg #[.string ⟨#[]⟩,.slice none 0 0,.slice none 0 0],.int .i64 0,.int .i64 0] (World.laidAll_os _ _ _) (by kernel_rfl) (by kernel_rfl) (by kernel_rfl)
    (OpenSpec.preRow_of_cond 8 hx (by kernel_rfl) (fun k hk=>by cases hk) (by kernel_rfl) (laid_met os))) ?_
 intro W base args ds gs before hval hW _ _ hwt hL hsh _
 exact contract H enc W base args ds gs before hval hW hwt hL hsh
theorem said:Rows.FooterNearSaid :=
 OpenClaim.holds_of_cond 9 Tryz.f9 rfl rfl rfl rfl rfl rfl rfl ⟨rfl,rfl,rfl,rfl,rfl⟩ rfl rfl rfl rfl rfl (by kernel_rfl) Tryz.func9 (by kernel_rfl)
  (of_decide_eq_true (by kernel_rfl)) (by unfold Func.isWrapper;first | (rw [if_pos (by decide +kernel)];kernel_rfl) | (rw [if_neg (by decide +kernel)];exact ⟨rfl,rfl⟩))
  (fun os started H enc _ F=>by rw [OpenClaim.pre_eq_preRow];exact lifted os started H enc F)
theorem plain (f : FuncId) (fn : Func) (hf : Tryz.pinned.checked.prog.funcNamed "meridian/meridianlaw15.FooterNear" = some f) (hfn : Tryz.pinned.checked.prog.funcs[f]? = some fn) :
  false = Tryz.pinned.checked.prog.looks []∧∀ (j:Nat) t,fn.params[j]? = some t→Tryz.pinned.checked.prog.wantsStandIn t = false:=by
 obtain rfl : f = 9 := Option.some.inj ((show Tryz.prog.funcNamed "meridian/meridianlaw15.FooterNear" = some 9 by kernel_rfl).symm.trans hf) |>.symm
 obtain rfl:fn = Tryz.f9:=(Option.some.inj (Tryz.func9.symm.trans hfn)).symm
 refine ⟨by kernel_rfl,fun j t ht=>?_⟩
 rw [Tryz.params9] at ht
 have hall:∀ t ∈ [27,3,3],Tryz.prog.wantsStandIn t = false:=by
  intro t ht
  simp only [List.mem_cons,List.not_mem_nil,or_false] at ht
  rcases ht with rfl | rfl | rfl
  all_goals kernel_rfl
 exact hall t (by simpa using Array.mem_of_getElem? ht)
theorem card:Rows.FooterNearCardSaid :=
 Claim7.holds_tied_plain_at .later [] _ _ _ _ said (fun _ h=>by cases h) (by kernel_rfl) (fun _ h=>by cases h) footerNear_row_tie rfl ⟨rfl,rfl⟩ (by kernel_rfl) rfl plain (by kernel_rfl)
#print axioms card
end Go.Proofs.YteekjfgjmccdnaaGreatDoor.footerNear
end