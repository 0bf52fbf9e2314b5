/-
  The last change that is not behind an instant, by the reference.
-/
import Derived.RegionTactic
import Derived.Lib.MinMax
import Derived.Test.YteekjfgjmccdnaaGreatDoorZr13
set_option maxHeartbeats 16000000
set_option maxRecDepth 100000
namespace Go.Proofs.YteekjfgjmccdnaaGreatDoor
section -- GTurns
open Go Go.RowKit Go.Shelf
def tlocF (F:Foot) (i:Int):Loc:=if i < F.since∨2199023255552 < i then .zero else locF F i
def terrF (F:Foot) (i:Int):Int:=if i < F.since then 16 else if 2199023255552 < i then 10 else 0
theorem fatV_all {F:Foot} (h:FootGood F) (i:Int):fatV F i = .tuple #[locA (tlocF F i),.int .i64 (terrF F i)]:=by
 unfold tlocF terrF
 by_cases h1:i < F.since
 ·rw [if_pos (.inl h1),if_pos h1];unfold fatV;rw [if_pos h1]
  rfl
 ·by_cases h2:2199023255552 < i
  ·rw [if_pos (.inr h2),if_neg h1,if_pos h2];unfold fatV;rw [if_neg h1,if_pos h2]
   rfl
  ·rw [if_neg (by omega),if_neg h1,if_neg h2];exact fatV_good h (by omega) (by omega)
theorem turnF_err {F:Foot} {i:Int}:turnF F i = (decide (terrF F (i - 1) = 0) && (decide (terrF F i = 0) && !locE (tlocF F (i - 1)) (tlocF F i))):=by
 unfold turnF terrF tlocF
 by_cases h1:i - 1 < F.since
 ·rw [if_pos h1,decide_eq_false (show ¬ (F.since < i∧i ≤ 2199023255552) by omega),decide_eq_false (show ¬ (16:Int) = 0 by decide)]
  rfl
 ·by_cases h2:2199023255552 < i
  ·rw [if_neg h1,if_neg (show ¬ i < F.since by omega),if_pos h2,decide_eq_false (show ¬ (F.since < i∧i ≤ 2199023255552) by omega),decide_eq_false (show ¬ (10:Int) = 0 by decide)];simp
  ·rw [if_neg h1,if_neg (show ¬ i < F.since by omega),if_neg h2,if_neg (show ¬ 2199023255552 < i - 1 by omega),if_neg (show ¬ (i - 1 < F.since∨2199023255552 < i - 1) by omega),if_neg (show ¬ (i < F.since∨2199023255552 < i) by omega),decide_eq_true (show F.since < i∧i ≤ 2199023255552 by omega),decide_eq_true (show (0:Int) = 0 by rfl)];simp
theorem fturns_any (w:World) (B:Nat) (u:Value) (F:Foot) (i:Int) (hm:Tryz.MaxL w) (hrw:RW w B u F.rules) (hg:FootGood F) (hi:-9000000000000000000 ≤ i∧i ≤ 9000000000000000000) :
  Calls Tryz.prog 77 #[footA F u,.int .i64 i] w fun o w'=>o = .returned (.tuple #[chgA ⟨i,tlocF F i⟩,.bool (turnF F i)])∧Below w.heap.size w w':=by
 obtain ⟨A,c,rfl,hlc,hcm⟩:=hrw.ruls.form;have hb0:=((Below.refl w.heap.size w).alloc (Nat.le_refl _) (.cells (footC F (.slice A F.rules.length c)) 54)).alloc (by simp) (.cells #[.int .i64 0,.int .i64 0,.bool false,.string ⟨#[]⟩] 76);have hx0:=(Blk.new w 54 (footC F (.slice A F.rules.length c))).alloc (.cells #[.int .i64 0,.int .i64 0,.bool false,.string ⟨#[]⟩] 76);have hr0:=Blk.new (w.alloc (.cells (footC F (.slice A F.rules.length c)) 54)) 76 #[.int .i64 0,.int .i64 0,.bool false,.string ⟨#[]⟩];rw [World.size_alloc] at hr0;have HX:=Lib.hid hx0;have HR:=Lib.hid hr0;have HB:=Lib.hid hb0;have HAT:=Lib.hid (fun (W:World) (h:Below w.heap.size w W) (j:Int)=>fat_any W B (.slice A F.rules.length c) F j (hm.below h (Nat.le_refl _)) (hrw.below h) hg.footOk);have HA1:=Lib.hid (fun (W:World) (h:Below w.heap.size w W)=>HAT.out W h (i - 1));have HA2:=Lib.hid (fun (W:World) (h:Below w.heap.size w W)=>HAT.out W h i);rw [fatV_all hg] at HA1 HA2;have HT:=Lib.hid (@turnF_err F i);obtain ⟨⟨po,pd,ps⟩,hp⟩:∃ p,tlocF F (i - 1) = p:=⟨_,rfl⟩;obtain ⟨⟨qo,qd,qs⟩,hq⟩:∃ q,tlocF F i = q:=⟨_,rfl⟩;obtain ⟨e1,he1⟩:∃ e,terrF F (i - 1) = e:=⟨_,rfl⟩;obtain ⟨e2,he2⟩:∃ e,terrF F i = e:=⟨_,rfl⟩;rw [hp,he1] at HA1;rw [hq,he2] at HA2;rw [hp,hq,he1,he2] at HT;rw [hq];unfold footA locA at HA1 HA2;unfold footC at hx0 HX HB HR;unfold footA chgA;simp only at HA1 HA2 ⊢;have xq0:=Blk.cell hx0 0 (v:=.int .i64 F.since) rfl;have xq1:=Blk.cell hx0 1 (v:=.int .i64 F.off) rfl;have xq2:=Blk.cell hx0 2 (v:=.int .i64 F.save) rfl;have xq3:=Blk.cell hx0 3 (v:=.string F.letter) rfl;have xq4:=Blk.cell hx0 4 (v:=.string F.fm) rfl;have xq5:=Blk.cell hx0 5 (v:=.slice A F.rules.length c) rfl;have xql:=Blk.lt hx0;clear hm hrw hg hb0 hx0 hr0 hp hq he1 he2 HAT;go_enter Tryz.func77,Tryz.ntmps77;go_wp2_with fail;refine (HA1.out _ HB.out).mono ?_;rintro o w1 ⟨rfl,hb⟩;have HB1:=Lib.hid ((HB.out.trans (hb.mono HB.out.size)).alloc (Nat.le_trans HB.out.size hb.size) (.cells #[.int .i64 po,.bool pd,.string ps] 48));have HX1:=Lib.hid ((HX.out.below hb HX.out.lt).alloc (.cells #[.int .i64 po,.bool pd,.string ps] 48));have HR1:=Lib.hid ((HR.out.below hb HR.out.lt).alloc (.cells #[.int .i64 po,.bool pd,.string ps] 48));have HP1:=Lib.hid (Blk.new w1 48 #[.int .i64 po,.bool pd,.string ps]);have hs1:=Nat.le_trans HB.out.size hb.size;have hs1l:=(HR.out.below hb HR.out.lt).lt;have hx1:=HX.out.below hb HX.out.lt;clear xq0 xq1 xq2 xq3 xq4 xq5 xql hb HX HR HB HA1;have xq0:=Blk.cell hx1 0 (v:=.int .i64 F.since) rfl;have xq1:=Blk.cell hx1 1 (v:=.int .i64 F.off) rfl;have xq2:=Blk.cell hx1 2 (v:=.int .i64 F.save) rfl;have xq3:=Blk.cell hx1 3 (v:=.string F.letter) rfl;have xq4:=Blk.cell hx1 4 (v:=.string F.fm) rfl;have xq5:=Blk.cell hx1 5 (v:=.slice A F.rules.length c) rfl;have xql:=Blk.lt hx1;have hpl2:=HP1.out.lt;clear hx1;go_wp2_with fail;refine (HA2.out _ HB1.out).mono ?_;rintro o w3 ⟨rfl,hb⟩;have HB3:=Lib.hid ((HB1.out.trans (hb.mono HB1.out.size)).alloc (Nat.le_trans HB1.out.size hb.size) (.cells #[.int .i64 qo,.bool qd,.string qs] 48));have HR3:=Lib.hid ((HR1.out.below hb HR1.out.lt).alloc (.cells #[.int .i64 qo,.bool qd,.string qs] 48));have HP3:=Lib.hid ((HP1.out.below hb HP1.out.lt).alloc (.cells #[.int .i64 qo,.bool qd,.string qs] 48));have HQ3:=Lib.hid (Blk.new w3 48 #[.int .i64 qo,.bool qd,.string qs]);have hs3:=Nat.le_trans HB1.out.size hb.size;have hr3:=HR1.out.below hb HR1.out.lt;have hp3:=HP1.out.below hb HP1.out.lt;clear xq0 xq1 xq2 xq3 xq4 xq5 xql hb HX1 HR1 HB1 HA2 HP1;have rl:=hr3.lt;have pl:=hp3.lt;have n1:w1.heap.size ≠ w.heap.size + 1:=by omega
 have n2:w3.heap.size ≠ w.heap.size + 1:=by omega
 have n3:w.heap.size + 1 ≠ w1.heap.size:=by omega
 have n4:w.heap.size + 1 ≠ w3.heap.size:=by omega
 clear hr3 hp3;go_wp2_with fail;obtain ⟨w4,hw4⟩:∃ W,w3.alloc (.cells #[.int .i64 qo,.bool qd,.string qs] 48) = W:=⟨_,rfl⟩;rw [hw4] at HB3 HR3 HP3 HQ3 ⊢;clear hw4;have r0:=HR3.out.cell 0 (v:=.int .i64 0) rfl;have r1:=HR3.out.cell 1 (v:=.int .i64 0) rfl;have r2:=HR3.out.cell 2 (v:=.bool false) rfl;have r3:=HR3.out.cell 3 (v:=.string ⟨#[]⟩) rfl;have f0:=HR3.out.frozen 0;have f1:=HR3.out.frozen 1;have f2:=HR3.out.frozen 2;have f3:=HR3.out.frozen 3;have rl:=HR3.out.lt;have p0:=HP3.out.cell 0 (v:=.int .i64 po) rfl;have p1:=HP3.out.cell 1 (v:=.bool pd) rfl;have p2:=HP3.out.cell 2 (v:=.string ps) rfl;have pl:=HP3.out.lt;have q0:=HQ3.out.cell 0 (v:=.int .i64 qo) rfl;have q1:=HQ3.out.cell 1 (v:=.bool qd) rfl;have q2:=HQ3.out.cell 2 (v:=.string qs) rfl;have ql:=HQ3.out.lt
 by_cases h1:e1 = 0
 ·subst h1
  by_cases h2:e2 = 0
  ·subst h2
   cases hq:locE ⟨po,pd,ps⟩ ⟨qo,qd,qs⟩ with
   | true =>
     obtain ⟨g1,g2,g3⟩:=Loc.mk.inj (locE_iff.1 hq);have HV:=Lib.hid (show turnF F i = false by rw [HT.out,hq];rfl);clear hq HT;subst g1 g2 g3
     go_region
     go_wp2_with fail;refine bodyPost_ret (v:=.tuple #[.agg #[.int .i64 i,.int .i64 po,.bool pd,.string ps],.bool false]) ?_ rfl ⟨by rw [HV.out],(below_set4 HB3.out (by omega) _ _ _ _).drew⟩;have HY:=Lib.hid ((((HR3.out.set 0 (.int .i64 i)).set 1 (.int .i64 po)).set 2 (.bool pd)).set 3 (.string ps));have c0:=HY.out.cell 0 (v:=.int .i64 i) rfl;have c1:=HY.out.cell 1 (v:=.int .i64 po) rfl;have c2:=HY.out.cell 2 (v:=.bool pd) rfl;have c3:=HY.out.cell 3 (v:=.string ps) rfl;simp [results,Tryz.f77,go_sem,c0,c1,c2,c3]
   | false =>
     have HV:=Lib.hid (show turnF F i = true by rw [HT.out,hq];rfl);have hq3:=hq;unfold locE at hq3;rw [decide_eq_false_iff_not] at hq3
     have hcase:(po == qo) = false∨((po == qo) = true∧(pd == qd) = false)∨((po == qo) = true∧(pd == qd) = true∧(ps.toList == qs.toList) = false):=by
      by_cases h1:po = qo
      ·by_cases h2:pd = qd
       ·exact .inr (.inr ⟨by simpa using h1,by simpa using h2,beq_eq_false_iff_ne.2 fun h3=>hq3 ⟨h1,h2,h3⟩⟩)
       ·exact .inr (.inl ⟨by simpa using h1,by simpa using h2⟩)
      ·exact .inl (by simpa using h1)
     clear hq hq3 HT
     rcases hcase with c1 | ⟨c1,c2⟩ | ⟨c1,c2,c3⟩
     ·go_region
      go_wp2_with fail;refine bodyPost_ret (v:=.tuple #[.agg #[.int .i64 i,.int .i64 qo,.bool qd,.string qs],.bool true]) ?_ rfl ⟨by rw [HV.out],(below_set4 HB3.out (by omega) _ _ _ _).drew⟩;have HY:=Lib.hid ((((HR3.out.set 0 (.int .i64 i)).set 1 (.int .i64 qo)).set 2 (.bool qd)).set 3 (.string qs));have c0:=HY.out.cell 0 (v:=.int .i64 i) rfl;have c1:=HY.out.cell 1 (v:=.int .i64 qo) rfl;have c2:=HY.out.cell 2 (v:=.bool qd) rfl;have c3:=HY.out.cell 3 (v:=.string qs) rfl;simp [results,Tryz.f77,go_sem,c0,c1,c2,c3]
     ·go_region
      go_wp2_with fail;refine bodyPost_ret (v:=.tuple #[.agg #[.int .i64 i,.int .i64 qo,.bool qd,.string qs],.bool true]) ?_ rfl ⟨by rw [HV.out],(below_set4 HB3.out (by omega) _ _ _ _).drew⟩;have HY:=Lib.hid ((((HR3.out.set 0 (.int .i64 i)).set 1 (.int .i64 qo)).set 2 (.bool qd)).set 3 (.string qs));have c0:=HY.out.cell 0 (v:=.int .i64 i) rfl;have c1:=HY.out.cell 1 (v:=.int .i64 qo) rfl;have c2:=HY.out.cell 2 (v:=.bool qd) rfl;have c3:=HY.out.cell 3 (v:=.string qs) rfl;simp [results,Tryz.f77,go_sem,c0,c1,c2,c3]
     ·go_region
      go_wp2_with fail;refine bodyPost_ret (v:=.tuple #[.agg #[.int .i64 i,.int .i64 qo,.bool qd,.string qs],.bool true]) ?_ rfl ⟨by rw [HV.out],(below_set4 HB3.out (by omega) _ _ _ _).drew⟩;have HY:=Lib.hid ((((HR3.out.set 0 (.int .i64 i)).set 1 (.int .i64 qo)).set 2 (.bool qd)).set 3 (.string qs));have c0:=HY.out.cell 0 (v:=.int .i64 i) rfl;have c1:=HY.out.cell 1 (v:=.int .i64 qo) rfl;have c2:=HY.out.cell 2 (v:=.bool qd) rfl;have c3:=HY.out.cell 3 (v:=.string qs) rfl;simp [results,Tryz.f77,go_sem,c0,c1,c2,c3]
  ·have h2:(e2 == 0) = false:=by simpa using h2
   have HV:=Lib.hid (show turnF F i = false by rw [HT.out,decide_eq_false (beq_eq_false_iff_ne.1 h2)];simp);clear HT
   go_region
   go_wp2_with fail;refine bodyPost_ret (v:=.tuple #[.agg #[.int .i64 i,.int .i64 qo,.bool qd,.string qs],.bool false]) ?_ rfl ⟨by rw [HV.out],(below_set4 HB3.out (by omega) _ _ _ _).drew⟩;have HY:=Lib.hid ((((HR3.out.set 0 (.int .i64 i)).set 1 (.int .i64 qo)).set 2 (.bool qd)).set 3 (.string qs));have c0:=HY.out.cell 0 (v:=.int .i64 i) rfl;have c1:=HY.out.cell 1 (v:=.int .i64 qo) rfl;have c2:=HY.out.cell 2 (v:=.bool qd) rfl;have c3:=HY.out.cell 3 (v:=.string qs) rfl;simp [results,Tryz.f77,go_sem,c0,c1,c2,c3]
 ·have h1:(e1 == 0) = false:=by simpa using h1
  have HV:=Lib.hid (show turnF F i = false by rw [HT.out,decide_eq_false (beq_eq_false_iff_ne.1 h1)];rfl);clear HT
  go_region
  go_wp2_with fail;refine bodyPost_ret (v:=.tuple #[.agg #[.int .i64 i,.int .i64 qo,.bool qd,.string qs],.bool false]) ?_ rfl ⟨by rw [HV.out],(below_set4 HB3.out (by omega) _ _ _ _).drew⟩;have HY:=Lib.hid ((((HR3.out.set 0 (.int .i64 i)).set 1 (.int .i64 qo)).set 2 (.bool qd)).set 3 (.string qs));have c0:=HY.out.cell 0 (v:=.int .i64 i) rfl;have c1:=HY.out.cell 1 (v:=.int .i64 qo) rfl;have c2:=HY.out.cell 2 (v:=.bool qd) rfl;have c3:=HY.out.cell 3 (v:=.string qs) rfl;simp [results,Tryz.f77,go_sem,c0,c1,c2,c3]
end
section -- GNext
open Go Go.RowKit Go.Shelf
attribute [local go_sem] Oper.semAt_some
def chgO (F:Foot) (o:Option Int):Value:=match o with
 | some a=>.tuple #[chgA ⟨a,tlocF F a⟩,.bool true]
 | none=>.tuple #[.agg #[.int .i64 0,.int .i64 0,.bool false,.string ⟨#[]⟩],.bool false]
def NxI (fb ib ob nb:Nat) (F:Foot) (u:Value) (i m:Int) (pre:List (Int × Fir)) (O:Nat→Prop) (W:World):Prop :=
 (O fb∧O ib∧O ob∧O nb)∧Blk W fb 54 (footC F u)∧Blk W ib 3 #[.int .i64 i]∧(∃ c,ChgB W ob c)∧Blk W nb 4 #[.bool false]∧∀ rest,nextS F m (pre ++ rest) = nextS F m rest
def NxX (ob nb:Nat) (F:Foot) (m:Int) (c:Code) (pre:List (Int × Fir)) (O:Nat→Prop) (W:World):Prop :=
 c = .exit 0∧(O ob∧O nb)∧((∃ a,ChgB W ob ⟨a,tlocF F a⟩∧Blk W nb 4 #[.bool true]∧∀ rest,nextS F m (pre ++ rest) = some a)∨((∃ c,ChgB W ob c)∧Blk W nb 4 #[.bool false]∧∀ rest,nextS F m (pre ++ rest) = none))
theorem nxI_feet (fb ib ob nb:Nat) (F:Foot) (u:Value) (i m:Int):Feet (NxI fb ib ob nb F u i m):=by
 rintro pre O W W' ⟨⟨o0,o1,o2,o3⟩,h0,h1,⟨c,h2⟩,h3,hr⟩ hf;exact ⟨⟨o0,o1,o2,o3⟩,h0.fr hf (fun h=>h o0),h1.fr hf (fun h=>h o1),⟨c,Blk.fr h2 hf (fun h=>h o2)⟩,h3.fr hf (fun h=>h o3),hr⟩
theorem nxX_feet (ob nb:Nat) (F:Foot) (m:Int) (c:Code):Feet (NxX ob nb F m c):=by
 rintro pre O W W' ⟨hc,⟨o0,o1⟩,h⟩ hf;refine ⟨hc,⟨o0,o1⟩,?_⟩
 rcases h with ⟨a,h1,h2,h3⟩ | ⟨⟨x,h1⟩,h2,h3⟩
 ·exact .inl ⟨a,Blk.fr h1 hf (fun h=>h o0),h2.fr hf (fun h=>h o1),h3⟩
 ·exact .inr ⟨⟨x,Blk.fr h1 hf (fun h=>h o0)⟩,h2.fr hf (fun h=>h o1),h3⟩
theorem fnext_any (w:World) (B:Nat) (u:Value) (F:Foot) (i:Int) (hm:Tryz.MaxL w) (hrw:RW w B u F.rules) (hg:FootGood F) (hs:F.since ≤ 9000000000000000000) (hi:-9000000000000000000 ≤ i∧i ≤ 9000000000000000000) :
  Calls Tryz.prog 35 #[footA F u,.int .i64 i] w fun o w'=>o = .returned (chgO F (nextF F i))∧Below w.heap.size w w':=by
 obtain ⟨A,cp,rfl,hlc,hcm⟩:=hrw.ruls.form;have hb0:=(((Below.refl w.heap.size w).alloc (Nat.le_refl _) (.cells (footC F (.slice A F.rules.length cp)) 54)).alloc (by simp) (.cells #[.int .i64 i] 3)).alloc (by simp;omega) (.cells #[.int .i64 0,.int .i64 0,.bool false,.string ⟨#[]⟩] 76);have hx0:=((Blk.new w 54 (footC F (.slice A F.rules.length cp))).alloc (.cells #[.int .i64 i] 3)).alloc (.cells #[.int .i64 0,.int .i64 0,.bool false,.string ⟨#[]⟩] 76);have hi0:=(Blk.new (w.alloc (.cells (footC F (.slice A F.rules.length cp)) 54)) 3 #[.int .i64 i]).alloc (.cells #[.int .i64 0,.int .i64 0,.bool false,.string ⟨#[]⟩] 76);have hr0:=Blk.new ((w.alloc (.cells (footC F (.slice A F.rules.length cp)) 54)).alloc (.cells #[.int .i64 i] 3)) 76 #[.int .i64 0,.int .i64 0,.bool false,.string ⟨#[]⟩];simp only [World.size_alloc] at hi0 hr0;have HX:=Lib.hid hx0;have HI:=Lib.hid hi0;have HR:=Lib.hid hr0;have HB:=Lib.hid hb0;have HM:=Lib.hid hm;have HRW:=Lib.hid hrw;have HG:=Lib.hid hg;have HE:=Lib.hid (fun W=>callsIn_wide (n:=7).2 (fendless_any W F A cp));have hoff:=hg.off;have hsc:=hg.since;unfold footC at hx0 HX HB HR HI;unfold footA at HE ⊢;have xq0:=Blk.cell hx0 0 (v:=.int .i64 F.since) rfl;have xq1:=Blk.cell hx0 1 (v:=.int .i64 F.off) rfl;have xq2:=Blk.cell hx0 2 (v:=.int .i64 F.save) rfl;have xq3:=Blk.cell hx0 3 (v:=.string F.letter) rfl;have xq4:=Blk.cell hx0 4 (v:=.string F.fm) rfl;have xq5:=Blk.cell hx0 5 (v:=.slice A F.rules.length cp) rfl;have xql:=Blk.lt hx0;clear hm hrw hg hb0 hx0 hi0 hr0;refine (callsIn_wide (n:=8)).1 ?_;refine callsIn_of_wp_marks Tryz.func35 rfl trivial ?_ rfl;simp only [Tryz.ntmps35,List.size_toArray,List.length_cons,List.length_nil,Nat.reduceAdd,Nat.reduceSub,Array.replicate_succ,Array.replicate_zero,List.push_toArray,List.append_toArray,List.nil_append,List.cons_append];gi_wp2;refine wpIn_scope ?_
 by_cases hlen:0 < F.rules.length
 ·rw [decide_eq_true hlen] at HE;gi_wp2;refine ⟨trivial,(HE.out _).mono ?_⟩;rintro o w1 ⟨rfl,hb⟩;have HB1:=Lib.hid (HB.out.trans (hb.mono HB.out.size));have HX1:=Lib.hid (HX.out.below hb HX.out.lt);have HI1:=Lib.hid (HI.out.below hb HI.out.lt);have HR1:=Lib.hid (HR.out.below hb HR.out.lt);clear xq0 xq1 xq2 xq3 xq4 xq5 xql;clear hb HE HX HI HR HB;have i0:=HI1.out.cell 0 (v:=.int .i64 i) rfl;have il:=HI1.out.lt
  by_cases him:i < 2199023255552
  ·have d1:decide (2199023255552 ≤ i) = false:=decide_eq_false (by omega);gi_wp2;refine wpIn_label ?_;obtain ⟨W2,hW2⟩:∃ W,(w1.alloc (.cells #[.int .i64 0,.int .i64 0,.bool false,.string ⟨#[]⟩] 76)).alloc (.cells #[.bool false] 4) = W:=⟨_,rfl⟩;obtain ⟨c0,c1,hb2,hs2⟩:=blks2 w1 _ _ _ _ W2 hW2;try simp only [hW2]
   try rw [hW2]
   clear hW2;have HX2:=Lib.hid (HX1.out.below hb2 HX1.out.lt);have HI2:=Lib.hid (HI1.out.below hb2 HI1.out.lt);have HR2:=Lib.hid (HR1.out.below hb2 HR1.out.lt);have HO2:=Lib.hid (show ChgB W2 w1.heap.size ⟨0,⟨0,false,⟨#[]⟩⟩⟩ from c0);have HN2:=Lib.hid c1;have HB2:=Lib.hid (HB1.out.trans (hb2.mono HB1.out.size));have hw1:=HR1.out.lt;obtain ⟨ob,hob⟩:∃ b,w1.heap.size = b:=⟨_,rfl⟩;rw [hob] at HO2 HN2 hw1 hs2 ⊢;have hs2a:ob + 1 < W2.heap.size:=by omega
   clear hb2 c0 c1 i0 il HX1 HI1 HR1 HB1 hob hs2;have xq0:=Blk.cell HX2.out 0 (v:=.int .i64 F.since) rfl;have xq1:=Blk.cell HX2.out 1 (v:=.int .i64 F.off) rfl;have xq2:=Blk.cell HX2.out 2 (v:=.int .i64 F.save) rfl;have xq3:=Blk.cell HX2.out 3 (v:=.string F.letter) rfl;have xq4:=Blk.cell HX2.out 4 (v:=.string F.fm) rfl;have xq5:=Blk.cell HX2.out 5 (v:=.slice A F.rules.length cp) rfl;have xql:=Blk.lt HX2.out;have i0:=HI2.out.cell 0 (v:=.int .i64 i) rfl;have il:=HI2.out.lt;obtain ⟨m,hmm⟩:∃ m,max i F.since = m:=⟨_,rfl⟩;have hm1:-2199023255552 ≤ m∧m ≤ 9000000000000000000:=by omega
   have HFI:=Lib.hid (callsIn_wide (n:=7).2 (fired_any W2 (.slice A F.rules.length cp) A F.rules.length cp rfl F.off m 2199023255552));gi_wp2;refine ⟨trivial,HFI.out.mono ?_⟩;rintro o W3 ⟨rfl,hb3,g0,g1,g2,g3⟩;clear xq0 xq1 xq2 xq3 xq4 xq5 xql;have HX3:=Lib.hid (HX2.out.below hb3 HX2.out.lt);have HI3:=Lib.hid (HI2.out.below hb3 HI2.out.lt);have HR3:=Lib.hid (HR2.out.below hb3 HR2.out.lt);have HO3:=Lib.hid (HO2.out.below hb3 HO2.out.lt);have HN3:=Lib.hid (HN2.out.below hb3 HN2.out.lt);have HB3:=Lib.hid (HB2.out.trans (hb3.mono HB2.out.size));have HC3:=Lib.hid (And.intro g0 (And.intro g1 (And.intro g2 g3)));have hs3:=hb3.size;have l3:=g3.lt;have hBw:=HRW.out.le;clear hb3 g0 g1 g2 g3 HX2 HI2 HR2 HO2 HN2 HB2 HFI i0 il;have HV:=Lib.hid (show nextF F i = nextS F m (firedF F.rules F.off m 2199023255552) by unfold nextF;rw [if_pos ⟨hlen,him⟩,hmm]);have HMM:=Lib.hid hmm;clear hmm;gi_wp2
   refine range_own (α:=Int × Fir) rfl (by omega) (gf:=116) (lb:=#[.pointer (some ⟨W2.heap.size,0,none⟩),.pointer (some ⟨W2.heap.size + 2,0,none⟩),.pointer (some ⟨W2.heap.size + 3,0,none⟩),.pointer (some ⟨W2.heap.size + 1,0,none⟩)]) rfl trivial (enters_of Tryz.func116 (by kernel_rfl) rfl)
    (encs:=encF) (R:=RF F.rules F.off m 2199023255552 w.heap.size W3) (K:=fun k=>KF W2.heap.size (W2.heap.size + 2) (W2.heap.size + 3) (W2.heap.size + 1) B k∨k < w.heap.size)
    (fun V hV=>fired_iter2 7 (by omega) _ _ _ _ B w.heap.size W3 _ F.rules F.off m 2199023255552 V (HC3.out.1.below hV HC3.out.1.lt) (HC3.out.2.2.1.below hV HC3.out.2.2.1.lt) (HC3.out.2.2.2.below hV HC3.out.2.2.2.lt) (HC3.out.2.1.below hV HC3.out.2.1.lt) ((HRW.out.below HB3.out).below hV) HG.out.ok.yr HG.out.ok.sv (by omega) (by omega) (by omega) (by have:=hV.size;have:=HB3.out.size;omega) (fun k hk=>hV.block k (by have:=HB3.out.size;omega)))
    (fun _=>rfl) (NxI w.heap.size (w.heap.size + 1) ob (ob + 1) F (.slice A F.rules.length cp) i m) (NxX ob (ob + 1) F m) (nxI_feet _ _ _ _ _ _ _ _) (nxX_feet _ _ _ _)
    (fun k=>k = w.heap.size∨k = w.heap.size + 1∨k = ob∨k = ob + 1) ⟨⟨.inl rfl,.inr (.inl rfl),.inr (.inr (.inl rfl)),.inr (.inr (.inr rfl))⟩,HX3.out,HI3.out,⟨⟨0,⟨0,false,⟨#[]⟩⟩⟩,HO3.out⟩,HN3.out,fun rest=>rfl⟩ (fun k hk=>by omega) (fun k hk=>by unfold KF at hk;omega) (fun k hk h=>by unfold KF at hk;omega) ?round ?done ?stop
   case round =>
    intro l2 pre y O D V hI hBO hBD hDO hR nOl nDl hlow hltl;obtain ⟨at_,f⟩:=y;obtain ⟨hnD,⟨rest,hrest⟩,hsame⟩:=hR;have hsb:SameB w.heap.size W3 V:=⟨by have:=HB3.out.size;omega,hsame⟩;have hat:m < at_∧at_ ≤ 2199023255552:=firedF_in (x:=(at_,f)) (by rw [hrest];simp);have HREST:=Lib.hid hrest;have HBO:=Lib.hid hBO;unfold encF firA;clear hI hBO hBD hDO hrest hsame;gi_wp2;refine ⟨Below.refl _ _,?_⟩;intro Vb hfb hIb _;obtain ⟨⟨o0,o1,o2,o3⟩,hx,hi_,⟨cz,hc⟩,hn,hall⟩:=hIb;have hsb2:=hsb.then_fr hfb (fun k hk e=>by omega);have HT:=Lib.hid ((wide1 l2).calls (n:=5) (fturns_any Vb B (.slice A F.rules.length cp) F at_ (hsb2.maxl (HM.out.below HB3.out (Nat.le_refl _)) HM.out (Nat.le_refl _)) (hsb2.rw_ (HRW.out.below HB3.out) hBw) HG.out (by omega)));have HALL:=Lib.hid hall;have HBB:=Lib.hid (HBO.out.fr hfb);have HXb:=Lib.hid hx;have HIb:=Lib.hid hi_;have HOb:=Lib.hid hc;have HNb:=Lib.hid hn;have xq0:=Blk.cell hx 0 (v:=.int .i64 F.since) rfl;have xq1:=Blk.cell hx 1 (v:=.int .i64 F.off) rfl;have xq2:=Blk.cell hx 2 (v:=.int .i64 F.save) rfl;have xq3:=Blk.cell hx 3 (v:=.string F.letter) rfl;have xq4:=Blk.cell hx 4 (v:=.string F.fm) rfl;have xq5:=Blk.cell hx 5 (v:=.slice A F.rules.length cp) rfl;have xql:=Blk.lt hx;unfold footA chgA at HT;obtain ⟨⟨yo,yd,ys⟩,hy⟩:∃ y,tlocF F at_ = y:=⟨_,rfl⟩;rw [hy] at HT;have HY:=Lib.hid hy;clear hy hx hi_ hc hn hall hfb hsb hsb2 HBO;gi_wp2;refine ⟨trivial,HT.out.mono ?_⟩;rintro o v4 ⟨rfl,hb4⟩;clear xq0 xq1 xq2 xq3 xq4 xq5 xql;have HB4:=Lib.hid hb4;have ho4:=Blk.below HOb.out hb4 (Blk.lt HOb.out);have hn4:=HNb.out.below hb4 HNb.out.lt;have HO4:=Lib.hid ho4;have HN4:=Lib.hid hn4;have k0:=Blk.cell ho4 0 (v:=.int .i64 cz.at_) rfl;have k1:=Blk.cell ho4 1 (v:=.int .i64 cz.loc.off) rfl;have k2:=Blk.cell ho4 2 (v:=.bool cz.loc.dst) rfl;have k3:=Blk.cell ho4 3 (v:=.string cz.loc.abbr) rfl;have z0:=Blk.frozen ho4 0;have z1:=Blk.frozen ho4 1;have z2:=Blk.frozen ho4 2;have z3:=Blk.frozen ho4 3;have zn:=hn4.frozen 0;have kn:=hn4.cell 0 (v:=.bool false) rfl;have ko:=Blk.lt ho4;have kl:=hn4.lt;clear hb4 ho4 hn4 HT
    cases ht:turnF F at_ with
    | true =>
      have HX:=Lib.hid (show ∀ rest,nextS F m ((pre ++ [(at_,f)]) ++ rest) = some at_ from fun rest=>by
       rw [List.append_assoc,HALL.out]
       show nextS F m ((at_,f) :: rest) = _
       unfold nextS
       rw [if_pos ht])
      clear ht;have HF5:=Lib.hid (((Fr.of_below (T:=fun k=>O k∨D k) HB4.out (Nat.le_refl _)).then (fr_set4 (T:=fun k=>O k∨D k) v4 (.inl o2) (.int .i64 at_) (.int .i64 yo) (.bool yd) (.string ys))).then (Fr.setCell (T:=fun k=>O k∨D k) _ 0 (.bool true) (.inl o3)));have HO5:=Lib.hid (((((Blk.set HO4.out 0 (.int .i64 at_)).set 1 (.int .i64 yo)).set 2 (.bool yd)).set 3 (.string ys)).other (show ob ≠ ob + 1 by omega) 0 (.bool true));have HN5:=Lib.hid ((((((HN4.out.other (show ob + 1 ≠ ob by omega) 0 (.int .i64 at_)).other (show ob + 1 ≠ ob by omega) 1 (.int .i64 yo)).other (show ob + 1 ≠ ob by omega) 2 (.bool yd)).other (show ob + 1 ≠ ob by omega) 3 (.string ys))).set 0 (.bool true));gi_wp2;exact ⟨O,fun k h=>.inl h,HBB.out.fr HF5.out,HF5.out,rfl,⟨o2,o3⟩,.inl ⟨at_,by rw [HY.out];exact HO5.out,HN5.out,HX.out⟩⟩
    | false =>
      have HF5:=Lib.hid (((Fr.of_below (T:=fun k=>O k∨D k) HB4.out (Nat.le_refl _)).then (fr_set4 (T:=fun k=>O k∨D k) v4 (.inl o2) (.int .i64 at_) (.int .i64 yo) (.bool yd) (.string ys))).then (Fr.setCell (T:=fun k=>O k∨D k) _ 0 (.bool false) (.inl o3)));have HO5:=Lib.hid (((((Blk.set HO4.out 0 (.int .i64 at_)).set 1 (.int .i64 yo)).set 2 (.bool yd)).set 3 (.string ys)).other (show ob ≠ ob + 1 by omega) 0 (.bool false));have HN5:=Lib.hid ((((((HN4.out.other (show ob + 1 ≠ ob by omega) 0 (.int .i64 at_)).other (show ob + 1 ≠ ob by omega) 1 (.int .i64 yo)).other (show ob + 1 ≠ ob by omega) 2 (.bool yd)).other (show ob + 1 ≠ ob by omega) 3 (.string ys))).set 0 (.bool false));have HX4:=Lib.hid (HXb.out.below HB4.out HXb.out.lt);have HI4:=Lib.hid (HIb.out.below HB4.out HIb.out.lt);have hx4:=HX4.out;have xq0:=Blk.cell hx4 0 (v:=.int .i64 F.since) rfl;have xql:=hx4.lt;have i0:=HI4.out.cell 0 (v:=.int .i64 i) rfl;have il:=HI4.out.lt;have hmm:=HMM.out;have n1:ob ≠ w.heap.size:=by omega
      have n2:ob ≠ w.heap.size + 1:=by omega
      have n3:ob + 1 ≠ w.heap.size:=by omega
      have n4:ob + 1 ≠ w.heap.size + 1:=by omega
      have n5:w.heap.size ≠ ob:=by omega
      have n6:w.heap.size + 1 ≠ ob:=by omega
      have n7:w.heap.size ≠ ob + 1:=by omega
      have n8:w.heap.size + 1 ≠ ob + 1:=by omega
      have HST:=Lib.hid (show ∀ rest,nextS F m ((pre ++ [(at_,f)]) ++ rest) = if m + 12622780800 < at_ then none else nextS F m rest from fun rest=>by
       rw [List.append_assoc,HALL.out]
       show (if turnF F at_ then some at_ else if m + 12622780800 < at_ then none else nextS F m rest) = _
       rw [if_neg (by rw [ht];decide)])
      clear ht hx4
      by_cases hfar:m + 12622780800 < at_
      ·have d2:decide (m + 12622780800 < at_) = true:=decide_eq_true hfar;gi_wp2;exact ⟨O,fun k h=>.inl h,HBB.out.fr HF5.out,HF5.out,rfl,⟨o2,o3⟩,.inr ⟨⟨⟨at_,⟨yo,yd,ys⟩⟩,HO5.out⟩,HN5.out,fun rest=>by rw [HST.out,if_pos hfar]⟩⟩
      ·have d2:decide (m + 12622780800 < at_) = false:=decide_eq_false hfar;have HX5:=Lib.hid (((((HX4.out.other n5 0 (.int .i64 at_)).other n5 1 (.int .i64 yo)).other n5 2 (.bool yd)).other n5 3 (.string ys)).other n7 0 (.bool false));have HI5:=Lib.hid (((((HI4.out.other n6 0 (.int .i64 at_)).other n6 1 (.int .i64 yo)).other n6 2 (.bool yd)).other n6 3 (.string ys)).other n8 0 (.bool false));gi_wp2;exact ⟨O,fun k h=>.inl h,HBB.out.fr HF5.out,HF5.out,⟨o0,o1,o2,o3⟩,HX5.out,HI5.out,⟨⟨at_,⟨yo,yd,ys⟩⟩,HO5.out⟩,HN5.out,fun rest=>by rw [HST.out,if_neg (by omega)]⟩
   case done =>
    intro D xs O W hD hS hI hO hBO hOD hfr hK;obtain ⟨-,-,-,-,hn,hall⟩:=hI
    have HNO:=Lib.hid (show nextF F i = none by
     have h:=hall []
     rw [List.append_nil,hS] at h
     rw [HV.out,h]
     rfl)
    have HB4:=Lib.hid (HB3.out.trans (hfr.below HB3.out.size (fun k hk h=>by rcases h with (h | h | h | h) | h <;> omega)));have HR4:=Lib.hid (HR3.out.fr hfr (fun h=>by rcases h with (h | h | h | h) | h <;> omega));have HN4:=Lib.hid hn;have HK:=Lib.hid ((fr_set4 (T:=fun k=>k = w.heap.size + 1 + 1) W rfl (.int .i64 0) (.int .i64 0) (.bool false) (.string ⟨#[]⟩)).at_ hK (by omega));clear hn hall hfr hK HV;have kn:=HN4.out.cell 0 (v:=.bool false) rfl;have kl:=HN4.out.lt;have r0:=Blk.cell HR4.out 0 (v:=.int .i64 0) rfl;have r1:=Blk.cell HR4.out 1 (v:=.int .i64 0) rfl;have r2:=Blk.cell HR4.out 2 (v:=.bool false) rfl;have r3:=Blk.cell HR4.out 3 (v:=.string ⟨#[]⟩) rfl;have f0:=Blk.frozen HR4.out 0;have f1:=Blk.frozen HR4.out 1;have f2:=Blk.frozen HR4.out 2;have f3:=Blk.frozen HR4.out 3;have rl:=Blk.lt HR4.out;gi_wp2;simp only [Exit.noGoto];have hy:=((((HR4.out.set 0 (.int .i64 0)).set 1 (.int .i64 0)).set 2 (.bool false)).set 3 (.string ⟨#[]⟩));have c0:=(fin_cell HK.out _).trans (hy.cell 0 (v:=.int .i64 0) rfl);have c1:=(fin_cell HK.out _).trans (hy.cell 1 (v:=.int .i64 0) rfl);have c2:=(fin_cell HK.out _).trans (hy.cell 2 (v:=.bool false) rfl);have c3:=(fin_cell HK.out _).trans (hy.cell 3 (v:=.string ⟨#[]⟩) rfl);refine ⟨by simp,.inl ⟨_,_,rfl,run_takeDeferred HK.out,?_⟩⟩;refine ⟨.tuple #[.agg #[.int .i64 0,.int .i64 0,.bool false,.string ⟨#[]⟩],.bool false],?_,⟨by rw [HNO.out];rfl,fin_below (below_set4 HB4.out (by omega) _ _ _ _) (by omega)⟩⟩;simp [results,Tryz.f35,go_sem,c0,c1,c2,c3]
   case stop =>
    intro D c pre O W hD hS hI hO hBO hOD hfr hK;obtain ⟨rest,hrest⟩:=hS;obtain ⟨rfl,-,hcase⟩:=hI
    rcases hcase with ⟨a,hc,hn,hall⟩ | ⟨-,hn,hall⟩
    ·have HNO:=Lib.hid (show nextF F i = some a by rw [HV.out,hrest];exact hall rest);have HB4:=Lib.hid (HB3.out.trans (hfr.below HB3.out.size (fun k hk h=>by rcases h with (h | h | h | h) | h <;> omega)));have HR4:=Lib.hid (HR3.out.fr hfr (fun h=>by rcases h with (h | h | h | h) | h <;> omega));have HN4:=Lib.hid hn;obtain ⟨⟨yo,yd,ys⟩,hy⟩:∃ y,tlocF F a = y:=⟨_,rfl⟩;rw [hy] at hc;have HY:=Lib.hid hy;have HC4:=Lib.hid hc;have HK:=Lib.hid ((fr_set4 (T:=fun k=>k = w.heap.size + 1 + 1) W rfl (.int .i64 a) (.int .i64 yo) (.bool yd) (.string ys)).at_ hK (by omega));clear hn hc hall hrest hfr hK hy HV;have kn:=HN4.out.cell 0 (v:=.bool true) rfl;have kl:=HN4.out.lt;have k0:=Blk.cell HC4.out 0 (v:=.int .i64 a) rfl;have k1:=Blk.cell HC4.out 1 (v:=.int .i64 yo) rfl;have k2:=Blk.cell HC4.out 2 (v:=.bool yd) rfl;have k3:=Blk.cell HC4.out 3 (v:=.string ys) rfl;have ko:=HC4.out.lt;have r0:=Blk.cell HR4.out 0 (v:=.int .i64 0) rfl;have r1:=Blk.cell HR4.out 1 (v:=.int .i64 0) rfl;have r2:=Blk.cell HR4.out 2 (v:=.bool false) rfl;have r3:=Blk.cell HR4.out 3 (v:=.string ⟨#[]⟩) rfl;have f0:=Blk.frozen HR4.out 0;have f1:=Blk.frozen HR4.out 1;have f2:=Blk.frozen HR4.out 2;have f3:=Blk.frozen HR4.out 3;have rl:=Blk.lt HR4.out;gi_wp2;simp only [Exit.noGoto];have hy1:=((((HR4.out.set 0 (.int .i64 a)).set 1 (.int .i64 yo)).set 2 (.bool yd)).set 3 (.string ys));have c0:=(fin_cell HK.out _).trans (hy1.cell 0 (v:=.int .i64 a) rfl);have c1:=(fin_cell HK.out _).trans (hy1.cell 1 (v:=.int .i64 yo) rfl);have c2:=(fin_cell HK.out _).trans (hy1.cell 2 (v:=.bool yd) rfl);have c3:=(fin_cell HK.out _).trans (hy1.cell 3 (v:=.string ys) rfl);refine ⟨by simp,.inl ⟨_,_,rfl,run_takeDeferred HK.out,?_⟩⟩;refine ⟨.tuple #[.agg #[.int .i64 a,.int .i64 yo,.bool yd,.string ys],.bool true],?_,⟨by rw [HNO.out];unfold chgO;simp only;rw [HY.out];rfl,fin_below (below_set4 HB4.out (by omega) _ _ _ _) (by omega)⟩⟩;simp [results,Tryz.f35,go_sem,c0,c1,c2,c3]
    ·have HNO:=Lib.hid (show nextF F i = none by rw [HV.out,hrest];exact hall rest);have HB4:=Lib.hid (HB3.out.trans (hfr.below HB3.out.size (fun k hk h=>by rcases h with (h | h | h | h) | h <;> omega)));have HR4:=Lib.hid (HR3.out.fr hfr (fun h=>by rcases h with (h | h | h | h) | h <;> omega));have HN4:=Lib.hid hn;have HK:=Lib.hid ((fr_set4 (T:=fun k=>k = w.heap.size + 1 + 1) W rfl (.int .i64 0) (.int .i64 0) (.bool false) (.string ⟨#[]⟩)).at_ hK (by omega));clear hn hall hfr hK HV;have kn:=HN4.out.cell 0 (v:=.bool false) rfl;have kl:=HN4.out.lt;have r0:=Blk.cell HR4.out 0 (v:=.int .i64 0) rfl;have r1:=Blk.cell HR4.out 1 (v:=.int .i64 0) rfl;have r2:=Blk.cell HR4.out 2 (v:=.bool false) rfl;have r3:=Blk.cell HR4.out 3 (v:=.string ⟨#[]⟩) rfl;have f0:=Blk.frozen HR4.out 0;have f1:=Blk.frozen HR4.out 1;have f2:=Blk.frozen HR4.out 2;have f3:=Blk.frozen HR4.out 3;have rl:=Blk.lt HR4.out;gi_wp2;simp only [Exit.noGoto];have hy:=((((HR4.out.set 0 (.int .i64 0)).set 1 (.int .i64 0)).set 2 (.bool false)).set 3 (.string ⟨#[]⟩));have c0:=(fin_cell HK.out _).trans (hy.cell 0 (v:=.int .i64 0) rfl);have c1:=(fin_cell HK.out _).trans (hy.cell 1 (v:=.int .i64 0) rfl);have c2:=(fin_cell HK.out _).trans (hy.cell 2 (v:=.bool false) rfl);have c3:=(fin_cell HK.out _).trans (hy.cell 3 (v:=.string ⟨#[]⟩) rfl);refine ⟨by simp,.inl ⟨_,_,rfl,run_takeDeferred HK.out,?_⟩⟩;refine ⟨.tuple #[.agg #[.int .i64 0,.int .i64 0,.bool false,.string ⟨#[]⟩],.bool false],?_,⟨by rw [HNO.out];rfl,fin_below (below_set4 HB4.out (by omega) _ _ _ _) (by omega)⟩⟩;simp [results,Tryz.f35,go_sem,c0,c1,c2,c3]
  ·have d1:decide (2199023255552 ≤ i) = true:=decide_eq_true (by omega);have HNO:=Lib.hid (show nextF F i = none by unfold nextF;rw [if_neg (fun e=>him e.2)]);have r0:=Blk.cell HR1.out 0 (v:=.int .i64 0) rfl;have r1:=Blk.cell HR1.out 1 (v:=.int .i64 0) rfl;have r2:=Blk.cell HR1.out 2 (v:=.bool false) rfl;have r3:=Blk.cell HR1.out 3 (v:=.string ⟨#[]⟩) rfl;have f0:=Blk.frozen HR1.out 0;have f1:=Blk.frozen HR1.out 1;have f2:=Blk.frozen HR1.out 2;have f3:=Blk.frozen HR1.out 3;have rl:=Blk.lt HR1.out;gi_wp2;simp only [Exit.noGoto];have HY:=Lib.hid (((((HR1.out).set 0 (.int .i64 0)).set 1 (.int .i64 0)).set 2 (.bool false)).set 3 (.string ⟨#[]⟩));have c0:=HY.out.cell 0 (v:=.int .i64 0) rfl;have c1:=HY.out.cell 1 (v:=.int .i64 0) rfl;have c2:=HY.out.cell 2 (v:=.bool false) rfl;have c3:=HY.out.cell 3 (v:=.string ⟨#[]⟩) rfl;refine ⟨.tuple #[.agg #[.int .i64 0,.int .i64 0,.bool false,.string ⟨#[]⟩],.bool false],?_,⟨by rw [HNO.out];rfl,below_set4 HB1.out (by omega) _ _ _ _⟩⟩;simp [results,Tryz.f35,go_sem,c0,c1,c2,c3]
 ·rw [decide_eq_false hlen] at HE;have HNO:=Lib.hid (next_nil hlen i);gi_wp2;refine ⟨trivial,(HE.out _).mono ?_⟩;rintro o w1 ⟨rfl,hb⟩;have HB1:=Lib.hid (HB.out.trans (hb.mono HB.out.size));have HR1:=Lib.hid (HR.out.below hb HR.out.lt);clear xq0 xq1 xq2 xq3 xq4 xq5 xql;clear hb HE HX HI HR HB;have r0:=Blk.cell HR1.out 0 (v:=.int .i64 0) rfl;have r1:=Blk.cell HR1.out 1 (v:=.int .i64 0) rfl;have r2:=Blk.cell HR1.out 2 (v:=.bool false) rfl;have r3:=Blk.cell HR1.out 3 (v:=.string ⟨#[]⟩) rfl;have f0:=Blk.frozen HR1.out 0;have f1:=Blk.frozen HR1.out 1;have f2:=Blk.frozen HR1.out 2;have f3:=Blk.frozen HR1.out 3;have rl:=Blk.lt HR1.out;gi_wp2;simp only [Exit.noGoto];have HY:=Lib.hid (((((HR1.out).set 0 (.int .i64 0)).set 1 (.int .i64 0)).set 2 (.bool false)).set 3 (.string ⟨#[]⟩));have c0:=HY.out.cell 0 (v:=.int .i64 0) rfl;have c1:=HY.out.cell 1 (v:=.int .i64 0) rfl;have c2:=HY.out.cell 2 (v:=.bool false) rfl;have c3:=HY.out.cell 3 (v:=.string ⟨#[]⟩) rfl;refine ⟨.tuple #[.agg #[.int .i64 0,.int .i64 0,.bool false,.string ⟨#[]⟩],.bool false],?_,⟨by rw [HNO.out];rfl,below_set4 HB1.out (by omega) _ _ _ _⟩⟩;simp [results,Tryz.f35,go_sem,c0,c1,c2,c3]
end
section -- GPrev
open Go Go.RowKit Go.Shelf
attribute [local go_sem] Oper.semAt_some
def DefsOk (B:Nat) (ds:List Deferred) (w:World):Prop:=(∀ d ∈ ds,∃ D,d = { target:=.collected D,args:=#[] }∧B ≤ D∧w.heap[D]? = some (.deferred (some [])))∧ds.Nodup
theorem DefsOk.fr {B:Nat} {ds:List Deferred} {w w':World} {T:Nat→Prop} (h:DefsOk B ds w) (hf:Fr T w w') (hT:∀ k,T k→∀ x,w.heap[k]? ≠ some (.deferred x)):DefsOk B ds w' :=
 ⟨fun d hd=>by obtain ⟨D,e,hB,hD⟩:=h.1 d hd;exact ⟨D,e,hB,hf.at_ hD (fun e=>hT D e _ hD)⟩,h.2⟩
theorem DefsOk.push {B D:Nat} {ds:List Deferred} {w w':World} {T:Nat→Prop} (h:DefsOk B ds w) (hf:Fr T w w') (hT:∀ k,T k→∀ x,w.heap[k]? ≠ some (.deferred x)) (hD:w.heap.size ≤ D) (hB:B ≤ D) (hK:w'.heap[D]? = some (.deferred (some []))):DefsOk B ({ target:=.collected D,args:=#[] } :: ds) w':=by
 have h1:=h.fr hf hT;refine ⟨fun d hd=>?_,List.nodup_cons.2 ⟨fun hd=>?_,h.2⟩⟩
 ·rcases List.mem_cons.1 hd with rfl | hd
  ·exact ⟨D,rfl,hB,hK⟩
  ·exact h1.1 d hd
 ·obtain ⟨D2,e,-,h2⟩:=h.1 _ hd;have h3:=(Array.getElem?_eq_some_iff.1 h2).1;have:D = D2:=by injection e with e1 _;injection e1
  omega
theorem leave_defs {F:Fence} {n:Nat} {P:Program} {fn:Func} {tmps:Array Value} {R:Ending→World→Prop} {B:Nat}:∀ (ds:List Deferred) (w:World),DefsOk B ds w→(∀ w',Fr (fun k=>B ≤ k∧∃ x,w.heap[k]? = some (.deferred x)) w w'→LeavesIn F n P fn tmps R [] .returning w')→LeavesInM F n P fn tmps R ds .returning w
 | [],w,_,h=>h w (Fr.refl _ _)
 | d :: ds,w,hd,h=>by
   obtain ⟨D,rfl,hB,hD⟩:=hd.1 d List.mem_cons_self
   have h2:DefsOk B ds (w.putObj D (.deferred none)):=⟨fun e he=>by
    obtain ⟨D2,rfl,hB2,hD2⟩:=hd.1 e (List.mem_cons_of_mem _ he)
    have hne:D2 ≠ D:=fun e=>by subst e;exact (List.nodup_cons.1 hd.2).1 he
    exact ⟨D2,rfl,hB2,(World.putObj_heap_other hne).trans hD2⟩,(List.nodup_cons.1 hd.2).2⟩
   have h3:∀ w',Fr (fun k=>B ≤ k∧∃ x,(w.putObj D (.deferred none)).heap[k]? = some (.deferred x)) (w.putObj D (.deferred none)) w'→LeavesIn F n P fn tmps R [] .returning w':=fun w' hf=>h w' ((Fr.putObj (T:=fun k=>B ≤ k∧∃ x,w.heap[k]? = some (.deferred x)) w _ ⟨hB,_,hD⟩).then (hf.mono fun k hk=>.inl ⟨hk.1,by
    obtain ⟨x,hx⟩:=hk.2
    by_cases e:k = D
    ·subst e;exact ⟨_,hD⟩
    ·exact ⟨x,(World.putObj_heap_other e).symm.trans hx⟩⟩))
   exact ⟨by simp,.inl ⟨D,_,rfl,run_takeDeferred hD,leave_defs ds _ h2 h3⟩⟩
def PvI (fb ob nb:Nat) (F:Foot) (u:Value) (pre:List (Int × Fir)) (O:Nat→Prop) (W:World):Prop :=
 (O fb∧O ob∧O nb)∧Blk W fb 54 (footC F u)∧∃ o:Option Int,(∃ c:Chg,ChgB W ob c∧∀ a,o = some a→c = ⟨a,tlocF F a⟩)∧Blk W nb 4 #[.bool o.isSome]∧∀ rest,lastS F none (pre ++ rest) = lastS F o rest
theorem pvI_feet (fb ob nb:Nat) (F:Foot) (u:Value):Feet (PvI fb ob nb F u):=by
 rintro pre O W W' ⟨⟨o0,o1,o2⟩,h0,o,⟨c,h1,h2⟩,h3,hr⟩ hf;exact ⟨⟨o0,o1,o2⟩,h0.fr hf (fun h=>h o0),o,⟨c,Blk.fr h1 hf (fun h=>h o1),h2⟩,h3.fr hf (fun h=>h o2),hr⟩
def PvX (_:Code) (_:List (Int × Fir)) (_:Nat→Prop) (_:World):Prop:=False
theorem pvX_feet (c:Code):Feet (PvX c):=fun _ _ _ _ h _=>h
theorem fprev_any (w:World) (B:Nat) (u:Value) (F:Foot) (i:Int) (hm:Tryz.MaxL w) (hrw:RW w B u F.rules) (hg:FootGood F) (hs:F.since ≤ 9000000000000000000) (hi:-9000000000000000000 ≤ i∧i ≤ 9000000000000000000) :
  Calls Tryz.prog 36 #[footA F u,.int .i64 i] w fun o w'=>o = .returned (chgO F (prevF F i))∧Below w.heap.size w w':=by
 obtain ⟨A,cp,rfl,hlc,hcm⟩:=hrw.ruls.form;have hb0:=((Below.refl w.heap.size w).alloc (Nat.le_refl _) (.cells (footC F (.slice A F.rules.length cp)) 54)).alloc (by simp) (.cells #[.int .i64 0,.int .i64 0,.bool false,.string ⟨#[]⟩] 76);have hx0:=(Blk.new w 54 (footC F (.slice A F.rules.length cp))).alloc (.cells #[.int .i64 0,.int .i64 0,.bool false,.string ⟨#[]⟩] 76);have hr0:=Blk.new (w.alloc (.cells (footC F (.slice A F.rules.length cp)) 54)) 76 #[.int .i64 0,.int .i64 0,.bool false,.string ⟨#[]⟩];rw [World.size_alloc] at hr0;have HX:=Lib.hid hx0;have HR:=Lib.hid hr0;have HB:=Lib.hid hb0;have HM:=Lib.hid hm;have HRW:=Lib.hid hrw;have HG:=Lib.hid hg;have HE:=Lib.hid (fun W=>callsIn_wide (n:=7).2 (fendless_any W F A cp));have hoff:=hg.off;have hsc:=hg.since;unfold footC at hx0 HX HB HR;unfold footA at HE ⊢;have xq0:=Blk.cell hx0 0 (v:=.int .i64 F.since) rfl;have xq1:=Blk.cell hx0 1 (v:=.int .i64 F.off) rfl;have xq2:=Blk.cell hx0 2 (v:=.int .i64 F.save) rfl;have xq3:=Blk.cell hx0 3 (v:=.string F.letter) rfl;have xq4:=Blk.cell hx0 4 (v:=.string F.fm) rfl;have xq5:=Blk.cell hx0 5 (v:=.slice A F.rules.length cp) rfl;have xql:=Blk.lt hx0;clear hm hrw hg hb0 hx0 hr0;refine (callsIn_wide (n:=8)).1 ?_;refine callsIn_of_wp_marks Tryz.func36 rfl trivial ?_ rfl;simp only [Tryz.ntmps36,List.size_toArray,List.length_cons,List.length_nil,Nat.reduceAdd,Nat.reduceSub,Array.replicate_succ,Array.replicate_zero,List.push_toArray,List.append_toArray,List.nil_append,List.cons_append]
 by_cases hlen:0 < F.rules.length
 ·rw [decide_eq_true hlen] at HE;gi_wp2;refine ⟨trivial,(HE.out _).mono ?_⟩;rintro o w1 ⟨rfl,hb⟩;have HB1:=Lib.hid (HB.out.trans (hb.mono HB.out.size));have HX1:=Lib.hid (HX.out.below hb HX.out.lt);have HR1:=Lib.hid (HR.out.below hb HR.out.lt);clear xq0 xq1 xq2 xq3 xq4 xq5 xql;clear hb HE HX HR HB;obtain ⟨first,hfi⟩:∃ x,min i 2199023255552 = x:=⟨_,rfl⟩;have hf1:first ≤ 2199023255552∧first ≤ i∧-9000000000000000000 ≤ first:=by omega
  have HPF:=Lib.hid (show prevF F i = prevN F first 200 first by unfold prevF;rw [if_pos hlen,hfi]);gi_wp2;clear hfi;have hs1:=HR1.out.lt;refine wpIn_loop (fun a W=>∃ (k:Nat) (to:Int) (ds:List Deferred) (u8 u9 u20 u21 u22 u23 u24 u25 u26 u27 u28 u29 u30 u31 u32 u33 u34 u35 u36 u37 u38 u39 u40 u41 u42 u43 u54:Value),(k ≤ 101∧to = first - 126489600 * (k:Int)∧prevF F i = prevN F first (200 - k) to∧Below w.heap.size w W∧Blk W w.heap.size 54 #[.int .i64 F.since,.int .i64 F.off,.int .i64 F.save,.string F.letter,.string F.fm,.slice A F.rules.length cp]∧Blk W (w.heap.size + 1) 76 #[.int .i64 0,.int .i64 0,.bool false,.string ⟨#[]⟩]∧DefsOk (w.heap.size + 2) ds W)∧a = { tmps:=#[.agg #[.int .i64 F.since,.int .i64 F.off,.int .i64 F.save,.string F.letter,.string F.fm,.slice A F.rules.length cp],.int .i64 i,.pointer (some ⟨w.heap.size,0,none⟩),undef,.pointer (some ⟨w.heap.size + 1,0,none⟩),.bool false,.int .i64 first,.int .i64 to,u8,u9,undef,undef,undef,.agg #[.int .i64 F.since,.int .i64 F.off,.int .i64 F.save,.string F.letter,.string F.fm,.slice A F.rules.length cp],.bool true,.bool false,undef,.int .i64 i,.int .i64 first,.int .i64 first,u20,u21,u22,u23,u24,u25,u26,u27,u28,u29,u30,u31,u32,u33,u34,u35,u36,u37,u38,u39,u40,u41,u42,u43,undef,undef,undef,undef,undef,undef,undef,undef,undef,undef,u54,undef,undef],defers:=ds }) (fun a W=>(intOf (a.tmps.getD 7 undef) + 20000000000000).toNat) ?start ?round
  case start=>exact ⟨0,first,[],undef,undef,undef,undef,undef,undef,undef,undef,undef,undef,undef,undef,undef,undef,undef,undef,undef,undef,undef,undef,undef,undef,undef,undef,undef,undef,undef,⟨by omega,by simp,HPF.out,HB1.out,HX1.out,HR1.out,⟨fun d hd=>(by cases hd),List.nodup_nil⟩⟩,rfl⟩
  case round =>
   clear HPF HB1 HX1 HR1 hs1;rintro a W ⟨k,to,ds,u8,u9,u20,u21,u22,u23,u24,u25,u26,u27,u28,u29,u30,u31,u32,u33,u34,u35,u36,u37,u38,u39,u40,u41,u42,u43,u54,⟨hk,hto,hpv,hb,hx,hr,hds⟩,rfl⟩;have HB1:=Lib.hid hb;have HX1:=Lib.hid hx;have HR1:=Lib.hid hr;have HDS:=Lib.hid hds;have HTO:=Lib.hid hto;have HPV:=Lib.hid hpv;have xq0:=Blk.cell hx 0 (v:=.int .i64 F.since) rfl;have xq1:=Blk.cell hx 1 (v:=.int .i64 F.off) rfl;have xq2:=Blk.cell hx 2 (v:=.int .i64 F.save) rfl;have xq3:=Blk.cell hx 3 (v:=.string F.letter) rfl;have xq4:=Blk.cell hx 4 (v:=.string F.fm) rfl;have xq5:=Blk.cell hx 5 (v:=.slice A F.rules.length cp) rfl;have xql:=Blk.lt hx;have hs1:=hr.lt;have hto2:to ≤ first:=by omega
   obtain ⟨n,hn⟩:∃ n,200 - k = n + 1:=⟨199 - k,by omega⟩;rw [hn] at hpv;unfold prevN at hpv;have HPN:=Lib.hid hpv;have HN:=Lib.hid hn;clear hb hx hr hds hto hpv hn
   by_cases h1:F.since < to
   ·have d1:decide (F.since < to) = true:=decide_eq_true h1
    by_cases h2:first - 12749270400 < to
    ·have d2:decide (first - 12622780800 - 126489600 < to) = true:=decide_eq_true (by omega);have HPA:=Lib.hid (show ∀ a,lastS F none (firedF F.rules F.off (max F.since (to - 126489600)) to) = some a→prevF F i = some a from fun a e=>by rw [HPN.out,if_pos ⟨h1,h2⟩,e]);have HPB:=Lib.hid (show lastS F none (firedF F.rules F.off (max F.since (to - 126489600)) to) = none→prevF F i = prevN F first n (to - 126489600) from fun e=>by rw [HPN.out,if_pos ⟨h1,h2⟩,e]);gi_wp2;obtain ⟨W2,hW2⟩:∃ V,(W.alloc (.cells #[.int .i64 0,.int .i64 0,.bool false,.string ⟨#[]⟩] 76)).alloc (.cells #[.bool false] 4) = V:=⟨_,rfl⟩;obtain ⟨c0,c1,hb2,hs2⟩:=blks2 W _ _ _ _ W2 hW2;try simp only [hW2]
     clear hW2;clear xq0 xq1 xq2 xq3 xq4 xq5 xql;have HX2:=Lib.hid (HX1.out.below hb2 HX1.out.lt);have HR2:=Lib.hid (HR1.out.below hb2 HR1.out.lt);have HO2:=Lib.hid (show ChgB W2 W.heap.size ⟨0,⟨0,false,⟨#[]⟩⟩⟩ from c0);have HN2:=Lib.hid c1;have HB2:=Lib.hid (HB1.out.trans (hb2.mono HB1.out.size));have HD2:=Lib.hid (HDS.out.fr (Fr.of_below (T:=fun _=>False) hb2 (Nat.le_refl _)) (fun _ h=>h.elim));obtain ⟨ob,hob⟩:∃ b,W.heap.size = b:=⟨_,rfl⟩;rw [hob] at HO2 HN2 hs1 hs2 ⊢;have hs2a:ob + 1 < W2.heap.size:=by omega
     clear hb2 c0 c1 HX1 HR1 HB1 hob hs2 HPN HPV HDS;obtain ⟨m,hmm⟩:∃ m,max F.since (to - 126489600) = m:=⟨_,rfl⟩;rw [hmm] at HPA HPB ⊢;have hm1:-2199023255552 ≤ m∧m ≤ 9000000000000000000:=by omega
     clear hmm;refine ⟨trivial,(callsIn_wide (n:=7).2 (fired_any W2 (.slice A F.rules.length cp) A F.rules.length cp rfl F.off m to)).mono ?_⟩;rintro o W3 ⟨rfl,hb3,g0,g1,g2,g3⟩;have HX3:=Lib.hid (HX2.out.below hb3 HX2.out.lt);have HR3:=Lib.hid (HR2.out.below hb3 HR2.out.lt);have HO3:=Lib.hid (HO2.out.below hb3 HO2.out.lt);have HN3:=Lib.hid (HN2.out.below hb3 HN2.out.lt);have HB3:=Lib.hid (HB2.out.trans (hb3.mono HB2.out.size));have HD3:=Lib.hid (HD2.out.fr (Fr.of_below (T:=fun _=>False) hb3 (Nat.le_refl _)) (fun _ h=>h.elim));have HC3:=Lib.hid (And.intro g0 (And.intro g1 (And.intro g2 g3)));have hs3:=hb3.size;have l3:=g3.lt;have hBw:=HRW.out.le;clear hb3 g0 g1 g2 g3 HX2 HR2 HO2 HN2 HB2 HD2;gi_wp2
     refine range_own (α:=Int × Fir) rfl (by omega) (gf:=116) (lb:=#[.pointer (some ⟨W2.heap.size,0,none⟩),.pointer (some ⟨W2.heap.size + 2,0,none⟩),.pointer (some ⟨W2.heap.size + 3,0,none⟩),.pointer (some ⟨W2.heap.size + 1,0,none⟩)]) rfl trivial (enters_of Tryz.func116 (by kernel_rfl) rfl)
      (encs:=encF) (R:=RF F.rules F.off m to w.heap.size W3) (K:=fun k=>KF W2.heap.size (W2.heap.size + 2) (W2.heap.size + 3) (W2.heap.size + 1) B k∨k < w.heap.size)
      (fun V hV=>fired_iter2 7 (by omega) _ _ _ _ B w.heap.size W3 _ F.rules F.off m to V (HC3.out.1.below hV HC3.out.1.lt) (HC3.out.2.2.1.below hV HC3.out.2.2.1.lt) (HC3.out.2.2.2.below hV HC3.out.2.2.2.lt) (HC3.out.2.1.below hV HC3.out.2.1.lt) ((HRW.out.below HB3.out).below hV) HG.out.ok.yr HG.out.ok.sv (by omega) (by omega) (by omega) (by have:=hV.size;have:=HB3.out.size;omega) (fun k hk=>hV.block k (by have:=HB3.out.size;omega)))
      (fun _=>rfl) (PvI w.heap.size ob (ob + 1) F (.slice A F.rules.length cp)) PvX (pvI_feet _ _ _ _ _) pvX_feet
      (fun k=>k = w.heap.size∨k = ob∨k = ob + 1) ⟨⟨.inl rfl,.inr (.inl rfl),.inr (.inr rfl)⟩,HX3.out,none,⟨⟨0,⟨0,false,⟨#[]⟩⟩⟩,HO3.out,fun a e=>(by cases e)⟩,HN3.out,fun rest=>rfl⟩ (fun k hk=>by omega) (fun k hk=>by unfold KF at hk;omega) (fun k hk h=>by unfold KF at hk;omega) ?round ?done ?stop
     case round =>
      intro l2 pre y O D V hI hBO hBD hDO hR nOl nDl hlow hltl;obtain ⟨at_,f⟩:=y;obtain ⟨hnD,⟨rest,hrest⟩,hsame⟩:=hR;have hsb:SameB w.heap.size W3 V:=⟨by have:=HB3.out.size;omega,hsame⟩;have hat:m < at_∧at_ ≤ to:=firedF_in (x:=(at_,f)) (by rw [hrest];simp);have HBO:=Lib.hid hBO;unfold encF firA;clear hI hBO hBD hDO hrest hsame;gi_wp2;refine ⟨Below.refl _ _,?_⟩;intro Vb hfb hIb _;obtain ⟨⟨o0,o1,o2⟩,hx,oo,⟨cz,hc,hcz⟩,hn,hall⟩:=hIb;have hsb2:=hsb.then_fr hfb (fun k hk e=>by omega);have HT:=Lib.hid ((wide1 l2).calls (n:=5) (fturns_any Vb B (.slice A F.rules.length cp) F at_ (hsb2.maxl (HM.out.below HB3.out (Nat.le_refl _)) HM.out (Nat.le_refl _)) (hsb2.rw_ (HRW.out.below HB3.out) hBw) HG.out (by omega)));have HALL:=Lib.hid hall;have HBB:=Lib.hid (HBO.out.fr hfb);have HXb:=Lib.hid hx;have HOb:=Lib.hid hc;have HNb:=Lib.hid hn;have HCZ:=Lib.hid hcz;have xq0:=Blk.cell hx 0 (v:=.int .i64 F.since) rfl;have xq1:=Blk.cell hx 1 (v:=.int .i64 F.off) rfl;have xq2:=Blk.cell hx 2 (v:=.int .i64 F.save) rfl;have xq3:=Blk.cell hx 3 (v:=.string F.letter) rfl;have xq4:=Blk.cell hx 4 (v:=.string F.fm) rfl;have xq5:=Blk.cell hx 5 (v:=.slice A F.rules.length cp) rfl;have xql:=Blk.lt hx;unfold footA chgA at HT;obtain ⟨⟨yo,yd,ys⟩,hy⟩:∃ y,tlocF F at_ = y:=⟨_,rfl⟩;rw [hy] at HT;have HY:=Lib.hid hy;clear hy hx hc hn hall hfb hsb hsb2 HBO hcz;gi_wp2;refine ⟨trivial,HT.out.mono ?_⟩;rintro o v4 ⟨rfl,hb4⟩;clear xq0 xq1 xq2 xq3 xq4 xq5 xql;have HB4:=Lib.hid (hb4.alloc hb4.size (.cells #[.int .i64 at_,.int .i64 yo,.bool yd,.string ys] 76));have hx4:=(HXb.out.below hb4 HXb.out.lt).alloc (.cells #[.int .i64 at_,.int .i64 yo,.bool yd,.string ys] 76);have ho4:=Blk.below HOb.out hb4 (Blk.lt HOb.out);have hn4:=HNb.out.below hb4 HNb.out.lt;have HX4:=Lib.hid hx4;have HO4:=Lib.hid (Blk.alloc ho4 (.cells #[.int .i64 at_,.int .i64 yo,.bool yd,.string ys] 76));have HN4:=Lib.hid (hn4.alloc (.cells #[.int .i64 at_,.int .i64 yo,.bool yd,.string ys] 76))
      have HS:=Lib.hid (show ∀ rest,lastS F none ((pre ++ [(at_,f)]) ++ rest) = lastS F (if turnF F at_ then some at_ else oo) rest from fun rest=>by
       rw [List.append_assoc,HALL.out]
       rfl)
      cases ht:turnF F at_ with
      | true =>
        have HST:=Lib.hid (show ∀ rest,lastS F none ((pre ++ [(at_,f)]) ++ rest) = lastS F (some at_) rest from fun rest=>by rw [HS.out,if_pos ht]);have k0:=Blk.cell ho4 0 (v:=.int .i64 cz.at_) rfl;have k1:=Blk.cell ho4 1 (v:=.int .i64 cz.loc.off) rfl;have k2:=Blk.cell ho4 2 (v:=.bool cz.loc.dst) rfl;have k3:=Blk.cell ho4 3 (v:=.string cz.loc.abbr) rfl;have z0:=Blk.frozen ho4 0;have z1:=Blk.frozen ho4 1;have z2:=Blk.frozen ho4 2;have z3:=Blk.frozen ho4 3;have zn:=hn4.frozen 0;have kn:=hn4.cell 0 (v:=.bool oo.isSome) rfl;have ko:=Blk.lt ho4;have kl:=hn4.lt;have HF5:=Lib.hid ((((Fr.of_below (T:=fun k=>O k∨D k) hb4 (Nat.le_refl _)).then (fr_set4 (T:=fun k=>O k∨D k) v4 (.inl o1) (.int .i64 at_) (.int .i64 yo) (.bool yd) (.string ys))).then (Fr.setCell (T:=fun k=>O k∨D k) _ 0 (.bool true) (.inl o2))).then (Fr.alloc (T:=fun k=>O k∨D k) _ (.cells #[.int .i64 at_,.int .i64 yo,.bool yd,.string ys] 76)));have HO5:=Lib.hid ((((((Blk.set ho4 0 (.int .i64 at_)).set 1 (.int .i64 yo)).set 2 (.bool yd)).set 3 (.string ys)).other (show ob ≠ ob + 1 by omega) 0 (.bool true)).alloc (.cells #[.int .i64 at_,.int .i64 yo,.bool yd,.string ys] 76));have HN5:=Lib.hid (((((((hn4.other (show ob + 1 ≠ ob by omega) 0 (.int .i64 at_)).other (show ob + 1 ≠ ob by omega) 1 (.int .i64 yo)).other (show ob + 1 ≠ ob by omega) 2 (.bool yd)).other (show ob + 1 ≠ ob by omega) 3 (.string ys))).set 0 (.bool true)).alloc (.cells #[.int .i64 at_,.int .i64 yo,.bool yd,.string ys] 76));have n5:w.heap.size ≠ ob:=by omega
        have n7:w.heap.size ≠ ob + 1:=by omega
        have HX5:=Lib.hid (((((((HXb.out.below hb4 HXb.out.lt).other n5 0 (.int .i64 at_)).other n5 1 (.int .i64 yo)).other n5 2 (.bool yd)).other n5 3 (.string ys)).other n7 0 (.bool true)).alloc (.cells #[.int .i64 at_,.int .i64 yo,.bool yd,.string ys] 76));clear hb4 ho4 hn4 hx4 HT ht;gi_wp2;exact ⟨O,fun k h=>.inl h,HBB.out.fr HF5.out,HF5.out,⟨o0,o1,o2⟩,HX5.out,some at_,⟨⟨at_,⟨yo,yd,ys⟩⟩,HO5.out,fun a e=>by cases e;rw [HY.out]⟩,HN5.out,HST.out⟩
      | false =>
        have HST:=Lib.hid (show ∀ rest,lastS F none ((pre ++ [(at_,f)]) ++ rest) = lastS F oo rest from fun rest=>by rw [HS.out,if_neg (by rw [ht];decide)]);clear hb4 ho4 hn4 hx4 HT ht;gi_wp2;exact ⟨O,fun k h=>.inl h,HBB.out.fr (Fr.of_below (T:=fun _=>True) HB4.out (Nat.le_refl _)),Fr.of_below HB4.out (Nat.le_refl _),⟨o0,o1,o2⟩,HX4.out,oo,⟨cz,HO4.out,HCZ.out⟩,HN4.out,HST.out⟩
     case done =>
      intro D xs O V hD hS hI hO hBO hOD hfr hK;obtain ⟨-,hx,oo,⟨cz,hc,hcz⟩,hn,hall⟩:=hI
      have hla:lastS F none (firedF F.rules F.off m to) = oo:=by
       have h:=hall [];rw [List.append_nil,hS] at h;exact h
      have hT:∀ k,((k = w.heap.size∨k = ob∨k = ob + 1)∨False)→∀ x,W3.heap[k]? ≠ some (.deferred x):=fun k hk x e=>by
       rcases hk with (rfl | rfl | rfl) | hk
       ·cases (show W3.heap[w.heap.size]? = some _ from HX3.out).symm.trans e
       ·cases (show W3.heap[k]? = some _ from HO3.out).symm.trans e
       ·cases (show W3.heap[ob + 1]? = some _ from HN3.out).symm.trans e
       ·exact hk
      have HD4:=Lib.hid (HD3.out.push hfr hT hD (by omega) hK);have HB4:=Lib.hid (HB3.out.trans (hfr.below HB3.out.size (fun k hk h=>by rcases h with (h | h | h) | h <;> omega)));have HR4:=Lib.hid (HR3.out.fr hfr (fun h=>by rcases h with (h | h | h) | h <;> omega));have HX4:=Lib.hid hx;have kn:=hn.cell 0 (v:=.bool oo.isSome) rfl;have kl:=hn.lt;have k0:=Blk.cell hc 0 (v:=.int .i64 cz.at_) rfl;have k1:=Blk.cell hc 1 (v:=.int .i64 cz.loc.off) rfl;have k2:=Blk.cell hc 2 (v:=.bool cz.loc.dst) rfl;have k3:=Blk.cell hc 3 (v:=.string cz.loc.abbr) rfl;have ko:=Blk.lt hc;have HCZ:=Lib.hid hcz;have HLA:=Lib.hid hla;clear hx hc hcz hn hall hla hT hfr hK hS
      cases oo with
      | some a =>
        have HNO:=Lib.hid (show prevF F i = some a from HPA.out a HLA.out);obtain rfl:=HCZ.out a rfl;obtain ⟨⟨yo,yd,ys⟩,hy⟩:∃ y,tlocF F a = y:=⟨_,rfl⟩;rw [hy] at k1 k2 k3;have HY:=Lib.hid hy;simp only at k0 k1 k2 k3;clear hy;have r0:=Blk.cell HR4.out 0 (v:=.int .i64 0) rfl;have r1:=Blk.cell HR4.out 1 (v:=.int .i64 0) rfl;have r2:=Blk.cell HR4.out 2 (v:=.bool false) rfl;have r3:=Blk.cell HR4.out 3 (v:=.string ⟨#[]⟩) rfl;have f0:=Blk.frozen HR4.out 0;have f1:=Blk.frozen HR4.out 1;have f2:=Blk.frozen HR4.out 2;have f3:=Blk.frozen HR4.out 3;have rl:=Blk.lt HR4.out;simp only [Option.isSome_some] at kn;gi_wp2
        have hds:=HD4.out.fr (fr_set4 (T:=fun k=>k = w.heap.size + 1) V rfl (.int .i64 a) (.int .i64 yo) (.bool yd) (.string ys)) (fun k hk x e=>by
         subst hk
         cases (show V.heap[w.heap.size + 1]? = some _ from HR4.out).symm.trans e)
        have HY4:=Lib.hid ((((HR4.out.set 0 (.int .i64 a)).set 1 (.int .i64 yo)).set 2 (.bool yd)).set 3 (.string ys));have HB5:=Lib.hid (below_set4 HB4.out (show w.heap.size ≤ w.heap.size + 1 by omega) (.int .i64 a) (.int .i64 yo) (.bool yd) (.string ys));refine leave_defs _ _ hds fun w' hf=>?_
        have hy:=HY4.out.fr hf (fun h=>by have:=h.1;omega);have c0:=hy.cell 0 (v:=.int .i64 a) rfl;have c1:=hy.cell 1 (v:=.int .i64 yo) rfl;have c2:=hy.cell 2 (v:=.bool yd) rfl;have c3:=hy.cell 3 (v:=.string ys) rfl;refine ⟨.tuple #[.agg #[.int .i64 a,.int .i64 yo,.bool yd,.string ys],.bool true],?_,⟨by rw [HNO.out];unfold chgO;simp only;rw [HY.out];rfl,HB5.out.trans (hf.below HB5.out.size (fun k hk h=>by have:=h.1;omega))⟩⟩;simp [results,Tryz.f36,go_sem,c0,c1,c2,c3]
      | none =>
        have HNO:=Lib.hid (show prevF F i = prevN F first n (to - 126489600) from HPB.out HLA.out);simp only [Option.isSome_none] at kn;gi_wp2;have hn9:=HN.out;exact ⟨⟨k + 1,to - 126489600,_,_,_,_,_,_,_,_,_,_,_,_,_,_,_,_,_,_,_,_,_,_,_,_,_,_,_,_,⟨by have:=HTO.out;omega,by have:=HTO.out;push_cast;omega,by rw [HNO.out,show 200 - (k + 1) = n by omega],HB4.out,HX4.out,HR4.out,HD4.out⟩,rfl⟩,by show ((to - 126489600) + 20000000000000).toNat < (to + 20000000000000).toNat;omega⟩
     case stop =>
      intro D c pre O V hD hS hI;exact hI.elim
    ·have d2:decide (first - 12622780800 - 126489600 < to) = false:=decide_eq_false (by omega);have HNO:=Lib.hid (show prevF F i = none by rw [HPN.out,if_neg (fun e=>h2 e.2)]);have r0:=Blk.cell HR1.out 0 (v:=.int .i64 0) rfl;have r1:=Blk.cell HR1.out 1 (v:=.int .i64 0) rfl;have r2:=Blk.cell HR1.out 2 (v:=.bool false) rfl;have r3:=Blk.cell HR1.out 3 (v:=.string ⟨#[]⟩) rfl;have f0:=Blk.frozen HR1.out 0;have f1:=Blk.frozen HR1.out 1;have f2:=Blk.frozen HR1.out 2;have f3:=Blk.frozen HR1.out 3;have rl:=Blk.lt HR1.out;gi_wp2
     have hds:=HDS.out.fr (fr_set4 (T:=fun k=>k = w.heap.size + 1) W rfl (.int .i64 0) (.int .i64 0) (.bool false) (.string ⟨#[]⟩)) (fun k hk x e=>by
      subst hk
      cases (show W.heap[w.heap.size + 1]? = some _ from HR1.out).symm.trans e)
     have HY:=Lib.hid ((((HR1.out.set 0 (.int .i64 0)).set 1 (.int .i64 0)).set 2 (.bool false)).set 3 (.string ⟨#[]⟩));have HB2:=Lib.hid (below_set4 HB1.out (show w.heap.size ≤ w.heap.size + 1 by omega) (.int .i64 0) (.int .i64 0) (.bool false) (.string ⟨#[]⟩));refine leave_defs ds _ hds fun w' hf=>?_
     have hy:=HY.out.fr hf (fun h=>by have:=h.1;omega);have c0:=hy.cell 0 (v:=.int .i64 0) rfl;have c1:=hy.cell 1 (v:=.int .i64 0) rfl;have c2:=hy.cell 2 (v:=.bool false) rfl;have c3:=hy.cell 3 (v:=.string ⟨#[]⟩) rfl;refine ⟨.tuple #[.agg #[.int .i64 0,.int .i64 0,.bool false,.string ⟨#[]⟩],.bool false],?_,⟨by rw [HNO.out];rfl,HB2.out.trans (hf.below HB2.out.size (fun k hk h=>by have:=h.1;omega))⟩⟩;simp [results,Tryz.f36,go_sem,c0,c1,c2,c3]
   ·have d1:decide (F.since < to) = false:=decide_eq_false h1;have HNO:=Lib.hid (show prevF F i = none by rw [HPN.out,if_neg (fun e=>h1 e.1)]);have r0:=Blk.cell HR1.out 0 (v:=.int .i64 0) rfl;have r1:=Blk.cell HR1.out 1 (v:=.int .i64 0) rfl;have r2:=Blk.cell HR1.out 2 (v:=.bool false) rfl;have r3:=Blk.cell HR1.out 3 (v:=.string ⟨#[]⟩) rfl;have f0:=Blk.frozen HR1.out 0;have f1:=Blk.frozen HR1.out 1;have f2:=Blk.frozen HR1.out 2;have f3:=Blk.frozen HR1.out 3;have rl:=Blk.lt HR1.out;gi_wp2
    have hds:=HDS.out.fr (fr_set4 (T:=fun k=>k = w.heap.size + 1) W rfl (.int .i64 0) (.int .i64 0) (.bool false) (.string ⟨#[]⟩)) (fun k hk x e=>by
     subst hk
     cases (show W.heap[w.heap.size + 1]? = some _ from HR1.out).symm.trans e)
    have HY:=Lib.hid ((((HR1.out.set 0 (.int .i64 0)).set 1 (.int .i64 0)).set 2 (.bool false)).set 3 (.string ⟨#[]⟩));have HB2:=Lib.hid (below_set4 HB1.out (show w.heap.size ≤ w.heap.size + 1 by omega) (.int .i64 0) (.int .i64 0) (.bool false) (.string ⟨#[]⟩));refine leave_defs ds _ hds fun w' hf=>?_
    have hy:=HY.out.fr hf (fun h=>by have:=h.1;omega);have c0:=hy.cell 0 (v:=.int .i64 0) rfl;have c1:=hy.cell 1 (v:=.int .i64 0) rfl;have c2:=hy.cell 2 (v:=.bool false) rfl;have c3:=hy.cell 3 (v:=.string ⟨#[]⟩) rfl;refine ⟨.tuple #[.agg #[.int .i64 0,.int .i64 0,.bool false,.string ⟨#[]⟩],.bool false],?_,⟨by rw [HNO.out];rfl,HB2.out.trans (hf.below HB2.out.size (fun k hk h=>by have:=h.1;omega))⟩⟩;simp [results,Tryz.f36,go_sem,c0,c1,c2,c3]
 ·rw [decide_eq_false hlen] at HE;have HNO:=Lib.hid (prev_nil hlen i);gi_wp2;refine ⟨trivial,(HE.out _).mono ?_⟩;rintro o w1 ⟨rfl,hb⟩;have HB1:=Lib.hid (HB.out.trans (hb.mono HB.out.size));have HR1:=Lib.hid (HR.out.below hb HR.out.lt);clear xq0 xq1 xq2 xq3 xq4 xq5 xql;clear hb HE HX HR HB;have r0:=Blk.cell HR1.out 0 (v:=.int .i64 0) rfl;have r1:=Blk.cell HR1.out 1 (v:=.int .i64 0) rfl;have r2:=Blk.cell HR1.out 2 (v:=.bool false) rfl;have r3:=Blk.cell HR1.out 3 (v:=.string ⟨#[]⟩) rfl;have f0:=Blk.frozen HR1.out 0;have f1:=Blk.frozen HR1.out 1;have f2:=Blk.frozen HR1.out 2;have f3:=Blk.frozen HR1.out 3;have rl:=Blk.lt HR1.out;gi_wp2;have HY:=Lib.hid ((((HR1.out.set 0 (.int .i64 0)).set 1 (.int .i64 0)).set 2 (.bool false)).set 3 (.string ⟨#[]⟩));have c0:=HY.out.cell 0 (v:=.int .i64 0) rfl;have c1:=HY.out.cell 1 (v:=.int .i64 0) rfl;have c2:=HY.out.cell 2 (v:=.bool false) rfl;have c3:=HY.out.cell 3 (v:=.string ⟨#[]⟩) rfl;refine ⟨.tuple #[.agg #[.int .i64 0,.int .i64 0,.bool false,.string ⟨#[]⟩],.bool false],?_,⟨by rw [HNO.out];rfl,below_set4 HB1.out (by omega) _ _ _ _⟩⟩;simp [results,Tryz.f36,go_sem,c0,c1,c2,c3]
end
section -- GNear
open Go Go.RowKit Go.Shelf
theorem foot_rightG {S:List SetF} {l:List EraF} (h:FewZ S l) (hr:0 < (footZ S l).rules.length):∃ A,RightG (footZ S l).rules A:=by
 obtain ⟨A,hA⟩:=h.right (lastE l);unfold footZ at hr ⊢;rw [if_pos h.err] at hr ⊢;unfold footOf at hr ⊢;unfold ruleE at hA
 split at hr
 ·simp at hr
 ·rename_i hru;rw [if_neg hru] at hA
  split at hr
  ·rename_i hl;rw [if_neg hru,if_pos hl];refine rightG_of hA fun r hr=>?_
   obtain ⟨k1,k2⟩:=List.mem_filter.1 hr;unfold endlB at k2;exact ⟨(List.mem_filter.1 k1).1,of_decide_eq_true k2⟩
  ·split at hr <;> simp at hr
end
section -- TBehind
open Go Go.RowKit Go.Shelf
def pB (l:List Chg) (i:Int) (k:Nat):Bool:=match l[k]? with
 | some c=>decide (i < c.at_)
 | none=>true
def bh (l:List Chg) (i:Int):Nat:=(List.range l.length).countP fun k=>!pB l i k
theorem countP_prefix (q:Nat→Bool) (hq:∀ k,q (k + 1) = true→q k = true):∀ (n:Nat),(List.range n).countP q ≤ n∧∀ k,k < n→(k < (List.range n).countP q ↔ q k = true)
 | 0=>⟨Nat.le_refl _,fun k h=>by omega⟩
 | n + 1=>by
   obtain ⟨h1,h2⟩:=countP_prefix q hq n;rw [List.range_succ,List.countP_append]
   have hdown:∀ m k,k ≤ m→q m = true→q k = true:=by
    intro m
    induction m with
    | zero=>intro k hk h;have:k = 0:=by omega
            subst this;exact h
    | succ m ih =>
      intro k hk h
      rcases Nat.lt_or_ge m k with h3 | h3
      ·have:k = m + 1:=by omega
       subst this;exact h
      ·exact ih k h3 (hq m h)
   cases hn:q n with
   | true =>
     have hc:(List.range n).countP q = n:=by
      rcases Nat.lt_or_ge ((List.range n).countP q) n with h3 | h3
      ·have h4:=(h2 _ h3).2 (hdown n _ (by omega) hn);omega
      ·omega
     have e:List.countP q [n] = 1:=by simp [hn]
     rw [e,hc];refine ⟨Nat.le_refl _,fun k hk=>⟨fun _=>hdown n k (by omega) hn,fun _=>by omega⟩⟩
   | false =>
     have e:List.countP q [n] = 0:=by simp [hn]
     rw [e,Nat.add_zero];refine ⟨by omega,fun k hk=>?_⟩
     rcases Nat.lt_or_ge k n with h3 | h3
     ·exact h2 k h3
     ·have:k = n:=by omega
      subst this;rw [hn];exact ⟨fun h=>by omega,fun h=>by cases h⟩
theorem bh_le (l:List Chg) (i:Int):bh l i ≤ l.length:=by
 unfold bh;exact Nat.le_trans List.countP_le_length (by simp)
theorem bh_iff {l:List Chg} (hr:Rising l) (i:Int) {k:Nat} (hk:k < l.length):k < bh l i ↔ (l[k]).at_ ≤ i:=by
 have h:=(countP_prefix (fun k=>!pB l i k) (fun k h=>by
  unfold pB at *
  rcases Nat.lt_or_ge (k + 1) l.length with h1 | h1
  ·rw [List.getElem?_eq_getElem h1] at h
   rw [List.getElem?_eq_getElem (show k < l.length by omega)]
   have:=hr k h1
   simp only [Bool.not_eq_true',decide_eq_false_iff_not] at *
   omega
  ·rw [List.getElem?_eq_none h1] at h
   cases h) l.length).2 k hk
 unfold bh;rw [h];unfold pB;rw [List.getElem?_eq_getElem hk];simp
end
section -- GHoldN
open Go Go.RowKit Go.Shelf
section
variable {S:List SetF} {l:List EraF} {all:List Chg}
structure HoldW (S:List SetF) (l:List EraF) (all:List Chg):Prop where
 few:FewZ S l
 letk:∀ s ∈ S,letOk s.l
 ends:∀ name,∀ r ∈ ofRul S name,r.to_ ≤ 2105∨1048576 ≤ r.to_
 rep:Rep (locZ S l) (footZ S l).since 4070908800 all
theorem HoldW.good (h:HoldW S l all):FootGood (footZ S l):=footZ_good h.few (few_okR h.few.few) h.letk
theorem HoldW.loc (h:HoldW S l all) {i:Int} (h1:(footZ S l).since ≤ i) (h2:i ≤ 4200000000):locZ S l i = locF (footZ S l) i:=hold_loc h.few h.letk h.ends h1 h2
theorem HoldW.turn (h:HoldW S l all) {j:Int} (h1:(footZ S l).since < j) (h2:j ≤ 4070908800):turnF (footZ S l) j = true ↔ locZ S l j ≠ locZ S l (j - 1):=by
 rw [turnF_iff,h.loc (i:=j) (by omega) (by omega),h.loc (i:=j - 1) (by omega) (by omega)];exact ⟨fun e=>e.2,fun e=>⟨⟨h1,by omega⟩,e⟩⟩
theorem HoldW.lt (h:HoldW S l all) {i j:Nat} (hij:i < j) (hj:j < all.length):all[i].at_ < all[j].at_:=List.pairwise_iff_getElem.1 h.rep.wk.rise i j (by omega) hj hij
theorem HoldW.rising (h:HoldW S l all):Rising all:=fun i hi=>h.lt (by omega) hi
theorem HoldW.el (h:HoldW S l all) {k:Nat} (hk:k < all.length):((footZ S l).since < all[k].at_∧all[k].at_ ≤ 4070908800)∧turnF (footZ S l) all[k].at_ = true∧all[k] = ⟨all[k].at_,tlocF (footZ S l) all[k].at_⟩:=by
 obtain ⟨h1,h2⟩:=h.rep.wk.mem _ (List.getElem_mem hk);refine ⟨h1,(h.turn h1.1 h1.2).2 (h.rep.turn _ (List.getElem_mem hk)),?_⟩;rw [h.loc (by omega) (by omega)] at h2
 have e:tlocF (footZ S l) all[k].at_ = all[k].loc:=by
  unfold tlocF;rw [if_neg (by omega),h2]
 rw [e]
theorem HoldW.has (h:HoldW S l all) {a:Int} (h1:(footZ S l).since < a) (h2:a ≤ 4070908800) (ht:turnF (footZ S l) a = true):∃ j,∃ hj:j < all.length,all[j].at_ = a:=by
 obtain ⟨c,hc,e⟩:=h.rep.wk.all a h1 h2 ((h.turn h1 h2).1 ht);obtain ⟨j,hj,rfl⟩:=List.getElem_of_mem hc;exact ⟨j,hj,e⟩
theorem HoldW.still (_:HoldW S l all) (hr:¬ 0 < (footZ S l).rules.length) (j:Int):turnF (footZ S l) j = false:=by
 cases ht:turnF (footZ S l) j with
 | false=>rfl
 | true=>exact absurd (fatV_same hr j (j - 1)) (turnF_iff.1 ht).2
theorem HoldW.next (h:HoldW S l all) {x:Int} (hx1:(footZ S l).since ≤ x) (hx2:-2366841600 < x) :
  (∀ a,nextF (footZ S l) x = some a→x < a∧a ≤ 2199023255552∧(a ≤ 4070908800→∃ hm:bh all x < all.length,all[bh all x] = ⟨a,tlocF (footZ S l) a⟩))∧(nextF (footZ S l) x = none→bh all x = all.length):=by
 have hg:=h.good;have hble:=bh_le all x;refine ⟨fun a ha=>?_,fun hn=>?_⟩
 ·have hr:0 < (footZ S l).rules.length:=by
   by_cases hr:0 < (footZ S l).rules.length
   ·exact hr
   ·rw [next_nil hr] at ha;cases ha
  obtain ⟨A,hA⟩:=foot_rightG h.few hr;obtain ⟨⟨n1,n2⟩,ht,hno⟩:=next_some hA hg.off hg.since ha;refine ⟨by omega,n2,fun ha2=>?_⟩;obtain ⟨j,hj,e⟩:=h.has (by omega) ha2 ht;have h1:=bh_iff h.rising x hj
  rcases Nat.lt_trichotomy (bh all x) j with g | g | g
  ·exfalso;have h2:=bh_iff h.rising x (show bh all x < all.length by omega);have h3:=h.lt g hj;have h4:=h.el (show bh all x < all.length by omega);rw [hno _ (by omega) (by omega)] at h4;exact absurd h4.2.1 (by decide)
  ·subst g;exact ⟨hj,by rw [(h.el hj).2.2,e]⟩
  ·exfalso;have:=h1.1 g;omega
 ·rcases Nat.lt_or_ge (bh all x) all.length with g | g
  ·exfalso;have h2:=bh_iff h.rising x g;have h4:=h.el g
   by_cases hr:0 < (footZ S l).rules.length
   ·obtain ⟨A,hA⟩:=foot_rightG h.few hr;have:=next_none hA hg.off hg.since hr hn all[bh all x].at_ (by omega) (by omega);rw [this] at h4;exact absurd h4.2.1 (by decide)
   ·rw [h.still hr] at h4;exact absurd h4.2.1 (by decide)
  ·omega
theorem turn_low {F:Foot} {A:List Fir} (h:RightG F.rules A) (ho:-90000 < F.off∧F.off < 90000) (hs:-2199023255552 ≤ F.since) {b:Int} (ht:turnF F b = true):-2600180000 ≤ b:=by
 have hcap:(2304634636800:Int) = capG:=rfl;obtain ⟨h1,h2⟩:=turnF_iff.1 ht
 by_cases hx:∃ j,j < A.length∧instA A F.off j = b
 ·obtain ⟨j,hj,e⟩:=hx;have h3:=h.inst_in ho hj;have h4:=h.low2 (List.getElem_mem hj);omega
 ·exact absurd (locF_still h ho (by omega) (by omega) (fun j hj e=>hx ⟨j,hj,e⟩)) h2
theorem HoldW.prev (h:HoldW S l all) {x:Int} (hx2:x ≤ 3786912000) :
  (∀ a,prevF (footZ S l) x = some a→∃ m,∃ hm:m < all.length,bh all x = m + 1∧all[m] = ⟨a,tlocF (footZ S l) a⟩)∧(prevF (footZ S l) x = none→bh all x = 0):=by
 have hg:=h.good;have hble:=bh_le all x;refine ⟨fun a ha=>?_,fun hn=>?_⟩
 ·have hr:0 < (footZ S l).rules.length:=by
   by_cases hr:0 < (footZ S l).rules.length
   ·exact hr
   ·rw [prev_nil hr] at ha;cases ha
  obtain ⟨A,hA⟩:=foot_rightG h.few hr;obtain ⟨⟨n1,n2⟩,ht,hno⟩:=prev_some hA hg.off hg.since (by omega) ha;obtain ⟨j,hj,e⟩:=h.has n1 (by omega) ht;have h1:=(bh_iff h.rising x hj).2 (by omega);obtain ⟨m,hm⟩:∃ m,bh all x = m + 1:=⟨bh all x - 1,by omega⟩;have hml:m < all.length:=by omega
  refine ⟨m,hml,hm,?_⟩;have h3:=(bh_iff h.rising x hml).1 (by omega)
  rcases Nat.lt_or_ge j m with g | g
  ·exfalso;have h4:=h.lt g hml;have h5:=h.el hml;rw [hno _ (by omega) h3] at h5;exact absurd h5.2.1 (by decide)
  ·obtain rfl:j = m:=by omega
   rw [(h.el hj).2.2,e]
 ·rcases Nat.eq_zero_or_pos (bh all x) with g | g
  ·exact g
  ·exfalso;obtain ⟨m,hm⟩:∃ m,bh all x = m + 1:=⟨bh all x - 1,by omega⟩;have hml:m < all.length:=by omega
   have h3:=(bh_iff h.rising x hml).1 (by omega);have h5:=h.el hml
   by_cases hr:0 < (footZ S l).rules.length
   ·obtain ⟨A,hA⟩:=foot_rightG h.few hr;have h6:=turn_low hA hg.off hg.since h5.2.1;rw [prev_none hA hg.off hg.since hr (by omega) hn _ (by omega) h3] at h5;exact absurd h5.2.1 (by decide)
   ·rw [h.still hr] at h5;exact absurd h5.2.1 (by decide)
end
end
section -- GLast
open Go Go.RowKit
theorem last_any (w:World) (B:Nat) (v:Value) (l:List Chg) (i:Int) (hv:Chgs w B v l) (hr:Rising l) :
  Calls Tryz.prog 34 #[v,.int .i64 i] w fun e w'=>e = .returned (.int .i64 ((bh l i:Nat) - 1))∧w' = w:=by
 obtain ⟨A,c,rfl,hlc,hcm⟩:=hv.form;unfold maxLen at hcm;have HV:=Lib.hid hv;have HI:=Lib.hid (fun (k:Nat) (hk:k < l.length)=>bh_iff hr i hk);have hle:=bh_le l i;obtain ⟨n,hn⟩:∃ n,bh l i = n:=⟨_,rfl⟩;rw [hn] at HI hle ⊢;clear hv hn;go_enter Tryz.func34,Tryz.ntmps34;go_wp2_with fail
 go_loopw [5,6] (fun u j wr=>∃ k:Nat,k ≤ l.length∧j = .int .i64 k∧u = .int .i64 ((min k n:Nat) - 1)∧wr = w) (fun _ j _=>l.length - (intOf j).toNat)
 case atStart=>exact ⟨0,by omega,rfl,by rw [Nat.zero_min];rfl,rfl⟩
 case round =>
  obtain ⟨k,hk,rfl,rfl,rfl⟩:=hrel
  by_cases hlt:k < l.length
  ·obtain ⟨b,o,c',e,-,hc⟩:=HV.out.cells (by omega)
   cases e
   have c0:=(hc k hlt).1;have HK:=Lib.hid (HI.out k hlt);clear hc;generalize (l[k]).at_ = z at *
   by_cases hz:z ≤ i
   ·have HN:=Lib.hid (show ((min (k + 1) n:Nat):Int) - 1 = k by have:=HK.out.2 hz;omega);go_wp2_with fail;go_roundw
    case rel=>exact ⟨k + 1,by omega,by go_num,by rw [HN.out],by first | rfl | trivial⟩
    case measure=>first | (simp [intOf];done) | (simp [intOf];omega)
   ·have HN:=Lib.hid (show min (k + 1) n = min k n by have:=HK.out;omega);go_wp2_with fail;go_roundw
    case rel=>exact ⟨k + 1,by omega,by go_num,by rw [HN.out],by first | rfl | trivial⟩
    case measure=>first | (simp [intOf];done) | (simp [intOf];omega)
  ·have HN:=Lib.hid (show min k n = n by omega);go_wp2_with fail;rw [HN.out];go_ret;exact ⟨rfl,rfl⟩
end
end Go.Proofs.YteekjfgjmccdnaaGreatDoor
