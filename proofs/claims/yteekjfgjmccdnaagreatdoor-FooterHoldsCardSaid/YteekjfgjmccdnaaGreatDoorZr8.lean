/-
  Layer 13's reference walked: when an era ends.
-/
import Derived.RangeFuncNested
import Derived.RangeFuncBound
import Derived.RangeFuncCalls
import Derived.RangeFuncLeaves
import Derived.RangeFuncFrom
import Derived.OwnWalkIn
import Derived.TacticsInMore
import Derived.LoopNIn
import Derived.LoopIn
import Derived.ProofKit
import Derived.OpenShut
import Derived.ShutString
import Derived.ChangeOld
import Derived.Below
import Derived.Deep.Slices
import Derived.Deep.Strs
import Derived.ChangeSame
import Derived.Lib.SmallJoins
import Derived.Test.YteekjfgjmccdnaaGreatDoorZr7
set_option maxHeartbeats 16000000
set_option maxRecDepth 100000
namespace Go.Proofs.YteekjfgjmccdnaaGreatDoor
section -- PFired
open Go Go.RowKit Go.Shelf
attribute [local go_sem] Oper.semAt_some
theorem fr_set4 {T:Nat→Prop} (W:World) {b:Nat} (h:T b) (u v x y:Value):Fr T W ((((W.setCell ⟨b,0,none⟩ u).setCell ⟨b,1,none⟩ v).setCell ⟨b,2,none⟩ x).setCell ⟨b,3,none⟩ y):=(fr_set3 W h u v x).then (Fr.setCell _ 3 _ h)
structure RW (W:World) (B:Nat) (v:Value) (l:List Rul):Prop where
 ruls:Ruls W B v l
 ahead:Ahead W
 tab:0 < B
 le:B ≤ W.heap.size
theorem RW.fr {W W':World} {B:Nat} {v:Value} {l:List Rul} {T:Nat→Prop} (h:RW W B v l) (hf:Fr T W W') (hT:∀ k,k < B→¬ T k):RW W' B v l :=
 ⟨h.ruls.keep fun _ hp=>hf.cell (Nat.lt_of_lt_of_le hp h.le) (hT _ hp),fun k hk=>(hf.cell (p:=⟨0,k,none⟩) (Nat.lt_of_lt_of_le h.tab h.le) (hT _ h.tab)).trans (h.ahead k hk),h.tab,Nat.le_trans h.le hf.size⟩
theorem RW.below {W W':World} {B:Nat} {v:Value} {l:List Rul} (h:RW W B v l) (hb:Below W.heap.size W W'):RW W' B v l:=h.fr (Fr.of_below (T:=fun _=>False) hb (Nat.le_refl _)) (fun _ _ e=>e)
theorem RW.behind {W:World} {B:Nat} {v:Value} {l:List Rul} (h:RW W B v l) (ho:yrOk l) (s:Int) (h1:-9223372036854775808 ≤ s) (h2:s ≤ 9223372036854775807) :
  Calls Tryz.prog 117 #[v,.int .i64 s] W fun e w'=>e = .returned (resO (behindF l s))∧Below W.heap.size W w':=fbehind_any W v l (h.ruls.more h.le) h.ahead ho s h1 h2
theorem RW.saved {W:World} {B:Nat} {v:Value} {l:List Rul} (h:RW W B v l) (ho:yrOk l) (f:Fir) (hf:Fires l f) :
  Calls Tryz.prog 93 #[v,firA f] W fun e w'=>e = .returned (.int .i64 (savedF l f))∧Below W.heap.size W w':=saved_any W v l (h.ruls.more h.le) h.ahead ho f (fires_nom hf)
structure FirAt (l:List Rul) (off fr to:Int) (xb:Nat) (J:List (Int × Fir)→(Nat→Prop)→World→Prop) (O0:Nat→Prop) (W:World) (pre:List (Int × Fir)) (O:Nat→Prop) (o:Option Fir) (N:Nat) (wr:World):Prop where
 j:J pre O wr
 bd:Bd O wr
 ext:∀ k,O k→O0 k∨W.heap.size ≤ k
 nx:¬ O xb
 xs:W.heap.size ≤ xb
 x:FirB wr xb (firO o)
 frm:Fr O0 W wr
 now:pre ++ firedN l off fr to N o = firedF l off fr to
 fuel:∀ f,o = some f→Fires l f∧to + 180001 - f.nominal < (N:Int)
structure FirMid (l:List Rul) (off fr to:Int) (xb:Nat) (J:List (Int × Fir)→(Nat→Prop)→World→Prop) (O0:Nat→Prop) (W:World) (pre:List (Int × Fir)) (O:Nat→Prop) (f:Fir) (M:Nat) (wr:World):Prop where
 j:J pre O wr
 bd:Bd O wr
 ext:∀ k,O k→O0 k∨W.heap.size ≤ k
 nx:¬ O xb
 xs:W.heap.size ≤ xb
 x:FirB wr xb f
 frm:Fr O0 W wr
 now:pre ++ firedN l off fr to M (behindF l (f.nominal + 1)) = firedF l off fr to
 fire:Fires l f
 fuel:to + 180000 - f.nominal < (M:Int)
section
variable {l:List Rul} {off fr to:Int} {xb:Nat} {J:List (Int × Fir)→(Nat→Prop)→World→Prop} {O0 O O' D:Nat→Prop} {W wr w4 W5:World} {pre:List (Int × Fir)} {o:Option Fir} {f:Fir} {N M:Nat}
theorem firedN_none:∀ N,firedN l off fr to N none = []:=fun N=>by cases N <;> rfl
theorem firedN_far (h:to + 180000 < f.nominal):∀ N,firedN l off fr to N (some f) = []:=fun N=>by
 cases N with
 | zero=>rfl
 | succ N=>unfold firedN;rw [if_neg (by omega)]
theorem FirAt.skip (h:FirAt l off fr to xb J O0 W pre O (some f) (M + 1) wr) (fJ:Feet J) (hle:f.nominal ≤ to + 180000) (hout:instF f off (savedF l f) ≤ fr∨to < instF f off (savedF l f)) (hb:Below wr.heap.size wr w4):FirMid l off fr to xb J O0 W pre O f M w4:=by
 have hn:=h.now;unfold firedN at hn;rw [if_pos hle,if_pos hout] at hn;have hfu:=h.fuel f rfl;exact ⟨fJ _ _ _ _ h.j (Fr.of_below hb (Nat.le_refl _)),h.bd.fr (Fr.of_below (T:=fun _=>True) hb (Nat.le_refl _)),h.ext,h.nx,h.xs,Blk.below h.x hb (Blk.lt h.x),h.frm.then (Fr.of_below hb (Nat.le_refl _)),hn,hfu.1,by have:=hfu.2;push_cast at this;omega⟩
theorem FirAt.rest (h:FirAt l off fr to xb J O0 W pre O (some f) (M + 1) wr) (hle:f.nominal ≤ to + 180000) (hin:¬ (instF f off (savedF l f) ≤ fr∨to < instF f off (savedF l f))):firedF l off fr to = pre ++ (instF f off (savedF l f),f) :: firedN l off fr to M (behindF l (f.nominal + 1)):=by
 have hn:=h.now;unfold firedN at hn;rw [if_pos hle,if_neg hin] at hn;exact hn.symm
theorem FirAt.out_ (h:FirAt l off fr to xb J O0 W pre O o N wr) (hb4:Below wr.heap.size wr w4) (hD:∀ k,¬ D k) (hx:∀ k,O' k→O k∨D k∨w4.heap.size ≤ k) (hf5:Fr (fun k=>O k∨D k) w4 W5):(∀ k,O' k→O0 k∨W.heap.size ≤ k)∧Fr O0 W W5:=by
 have h1:=h.frm.size;have h2:=hb4.size;refine ⟨fun k hk=>?_,(h.frm.then (Fr.of_below hb4 (Nat.le_refl _))).trans hf5 fun k hk=>?_⟩
 ·rcases hx k hk with h3 | h3 | h3
  ·exact h.ext k h3
  ·exact absurd h3 (hD k)
  ·exact .inr (by omega)
 ·rcases hk with h3 | h3
  ·exact h.ext k h3
  ·exact absurd h3 (hD k)
theorem FirAt.hit (h:FirAt l off fr to xb J O0 W pre O (some f) (M + 1) wr) (hle:f.nominal ≤ to + 180000) (hin:¬ (instF f off (savedF l f) ≤ fr∨to < instF f off (savedF l f)))
  (hb4:Below wr.heap.size wr w4) (hD:∀ k,¬ D k) (hx:∀ k,O' k→O k∨D k∨w4.heap.size ≤ k) (hbd:Bd O' W5) (hf5:Fr (fun k=>O k∨D k) w4 W5) (hJ:J (pre ++ [(instF f off (savedF l f),f)]) O' W5):FirMid l off fr to xb J O0 W (pre ++ [(instF f off (savedF l f),f)]) O' f M W5:=by
 obtain ⟨e1,e2⟩:=h.out_ hb4 hD hx hf5;have hfu:=h.fuel f rfl;have hxl:=Blk.lt h.x;have h2:=hb4.size;refine ⟨hJ,hbd,e1,fun e=>?_,h.xs,(Blk.below h.x hb4 hxl).fr hf5 (fun e=>by rcases e with e | e;exact h.nx e;exact hD _ e),e2,?_,hfu.1,by have:=hfu.2;push_cast at this;omega⟩
 ·rcases hx _ e with e | e | e
  ·exact h.nx e
  ·exact hD _ e
  ·omega
 ·rw [List.append_assoc];exact (h.rest hle hin).symm
theorem FirMid.next (h:FirMid l off fr to xb J O0 W pre O f M wr) (fJ:Feet J) {W6:World} (h6:Fr (fun k=>k = xb) wr W6) (hX6:FirB W6 xb (firO (behindF l (f.nominal + 1)))):FirAt l off fr to xb J O0 W pre O (behindF l (f.nominal + 1)) M W6 :=
 ⟨fJ _ _ _ _ h.j (h6.mono fun k hk=>.inl fun hO=>by subst hk;exact h.nx hO),h.bd.fr h6,h.ext,h.nx,h.xs,hX6,h.frm.trans h6 (fun k hk=>.inr (by subst hk;exact h.xs)),h.now,fun g hg=>⟨(behind_mem hg).1,by have:=(behind_mem hg).2;have:=h.fuel;omega⟩⟩
end
def encF (x:Int × Fir):Array Value:=#[.int .i64 x.1,firA x.2]
def RF (l:List Rul) (off fr to:Int) (B2:Nat) (Wb:World) (pre:List (Int × Fir)) (x:Int × Fir) (D:Nat→Prop) (W:World):Prop:=(∀ j,¬ D j)∧(∃ rest,firedF l off fr to = pre ++ x :: rest)∧∀ k,k < B2→W.heap[k]? = Wb.heap[k]?
def KF (lb fb tb ob B:Nat):Nat→Prop:=fun k=>k = lb∨k = fb∨k = tb∨k = ob∨k < B
theorem fired_in (n:Nat) (hn:2 ≤ n) (lp lb fb tb ob B B2:Nat) (Wb:World) (v:Value) (l:List Rul) (off fr to:Int) (W:World)
  (hl:Blk W lb 52 #[v]) (hf:Blk W fb 3 #[.int .i64 fr]) (ht:Blk W tb 3 #[.int .i64 to]) (hob:Blk W ob 3 #[.int .i64 off]) (hrw:RW W B v l) (ho:yrOk l) (hsv:svOk l)
  (ho1:-1000000000000000 ≤ off∧off ≤ 1000000000000000) (hf1:-9000000000000000000 ≤ fr∧fr ≤ 9000000000000000000) (ht1:-4500000000000 ≤ to∧to ≤ 9000000000000000000)
  (J Jx:List (Int × Fir)→(Nat→Prop)→World→Prop) (fJ:Feet J) (hB2:B2 ≤ W.heap.size) (hWb:∀ k,k < B2→W.heap[k]? = Wb.heap[k]?) (hY:RoundsIn Fence.wide (n - 1) Tryz.prog lp encF (RF l off fr to B2 Wb) J Jx)
  (O0:Nat→Prop) (h0:J [] O0 W) (hO0:Bd O0 W) (hK0:∀ k,KF lb fb tb ob B k∨k < B2→¬ O0 k) :
  CallsIn Fence.wide n Tryz.prog 116 #[.func (.yield lp) #[] #[],.pointer (some ⟨lb,0,none⟩),.pointer (some ⟨fb,0,none⟩),.pointer (some ⟨tb,0,none⟩),.pointer (some ⟨ob,0,none⟩)] W (IterEnd (fun xs=>xs = firedF l off fr to) (fun pre=>∃ rest,firedF l off fr to = pre ++ rest) J Jx O0 (fun _=>False) W):=by
 have hK:∀ k,KF lb fb tb ob B k→¬ O0 k:=fun k h=>hK0 k (.inl h)
 have HBH:=Lib.hid (callsIn_wide (n:=n - 1).2 (hrw.behind ho (fr - 180000) (by omega) (by omega)));have ql:W.cell? ⟨lb,0,none⟩ = some v:=hl.cell 0 rfl;have qf:W.cell? ⟨fb,0,none⟩ = some (.int .i64 fr):=hf.cell 0 rfl;have HRW:=Lib.hid hrw;have HT:=Lib.hid (fun f (h:behindF l (fr - 180000) = some f)=>behind_mem h);have HF:=Lib.hid (show firedF l off fr to = firedN l off fr to (to + 180001 + farN).toNat (behindF l (fr - 180000)) from rfl);obtain ⟨o,hoo⟩:∃ o,behindF l (fr - 180000) = o:=⟨_,rfl⟩;rw [hoo] at HBH HT HF;unfold resO at HBH;obtain ⟨g,hg⟩:∃ g,firO o = g:=⟨_,rfl⟩;have HG:=Lib.hid hg;rw [hg] at HBH;unfold firA at HBH;clear hoo hg;refine callsIn_of_wp Tryz.func116 rfl trivial ?_ rfl;simp only [Tryz.ntmps116,List.size_toArray,List.length_cons,List.length_nil,Nat.reduceAdd,Nat.reduceSub,Array.replicate_succ,Array.replicate_zero,List.push_toArray,List.append_toArray,List.nil_append,List.cons_append];refine wpIn_scope ?_;gi_wp2;refine ⟨trivial,fun _=>by omega,HBH.out.mono ?_⟩;rintro e w1 ⟨rfl,hb1⟩;clear HBH ql qf;gi_wp2;refine wpIn_label ?_;have hX:=Blk.new w1 112 #[.int .i64 g.nominal,.int .i64 g.kind,.int .i64 g.save,.string g.letter];obtain ⟨W2,hW2⟩:∃ W2,w1.alloc (.cells #[.int .i64 g.nominal,.int .i64 g.kind,.int .i64 g.save,.string g.letter] 112) = W2:=⟨_,rfl⟩;have hb2:Below W.heap.size W W2:=by rw [← hW2];exact hb1.alloc hb1.size _
 have hs2:=hb1.size;rw [hW2] at hX ⊢;clear hW2;have hF2:∀ T,Fr T W W2:=fun T=>Fr.of_below hb2 (Nat.le_refl _)
 have HS0:=Lib.hid (show FirAt l off fr to w1.heap.size J O0 W [] O0 o (to + 180001 + farN).toNat W2 from
  ⟨fJ _ _ _ _ h0 (hF2 _),hO0.fr (hF2 (fun _=>True)),fun k h=>.inl h,fun h=>by have:=hO0 _ h;omega,hs2,by rw [HG.out];exact hX,hF2 _,HF.out.symm,fun f hf=>⟨(HT.out f hf).1,by have:=fires_nom (HT.out f hf).1;unfold farN;omega⟩⟩)
 clear hX hF2 hb2 h0 hO0 hb1 HG HT HF;generalize w1.heap.size = xb at *;gi_wp2
 gi_loopw [7] (fun fv wr=>∃ pre O o N,fv = .bool (Option.isSome o)∧FirAt l off fr to xb J O0 W pre O o N wr) (fun fv W=>match fv with | .bool true=>(4000000000001 - intOf ((W.cell? ⟨xb,0,none⟩).getD undef)).toNat | _=>0)
 case atStart=>exact ⟨[],O0,o,_,rfl,HS0.out⟩
 case round =>
  clear HS0;obtain ⟨pre,O,o,N,rfl,hS⟩:=hrel;have HS:=Lib.hid hS;have hrw1:=HRW.out.fr hS.frm (fun k hk=>hK _ (.inr (.inr (.inr (.inr hk)))));have hlw:=hl.fr hS.frm (hK _ (.inl rfl));have hfw:=hf.fr hS.frm (hK _ (.inr (.inl rfl)));have htw:=ht.fr hS.frm (hK _ (.inr (.inr (.inl rfl))));have how:=hob.fr hS.frm (hK _ (.inr (.inr (.inr (.inl rfl)))));have HX:=Lib.hid hS.x;have hxl:=Blk.lt hS.x;clear hS
  rcases o with _ | f
  ·have HE:=Lib.hid (show pre = firedF l off fr to by have:=HS.out.now;rwa [firedN_none,List.append_nil] at this);clear hrw1 hlw hfw htw how;gi_wp2;refine bodyPost_end (results_none rfl _ _ _) rfl ?_;exact ⟨⟨_,rfl⟩,O,HS.out.ext,HS.out.bd,HS.out.frm.mono (fun _ h=>.inl (.inl h)),.inl ⟨pre,HE.out,HS.out.j⟩⟩
  ·obtain ⟨hff,hfu⟩:=HS.out.fuel f rfl;have hnom:=fires_nom hff;have x0:wr.cell? ⟨xb,0,none⟩ = some (.int .i64 f.nominal):=Blk.cell HX.out 0 rfl;have qt:wr.cell? ⟨tb,0,none⟩ = some (.int .i64 to):=htw.cell 0 rfl
   by_cases hle:f.nominal ≤ to + 180000
   ·have hd:decide (f.nominal ≤ to + 180000) = true:=decide_eq_true hle;obtain ⟨M,rfl⟩:∃ M,N = M + 1:=⟨N - 1,by omega⟩;have hsi:=savedF_in hsv f;have HSV:=Lib.hid (fun (w':World) (hb:Below wr.heap.size wr w')=>(hrw1.below hb).saved ho f hff);have HI:=Lib.hid (fun (w':World)=>inst_any w' f off (savedF l f) (by omega) ho1 hsi);have HSK:=Lib.hid (fun w' h hb=>HS.out.skip (w4:=w') fJ hle h hb);have HRS:=Lib.hid (fun h=>HS.out.rest hle h);have HHT:=Lib.hid (fun (D O':Nat→Prop) (w4 W5:World) h hb hD hx hbd hf5 hJ=>HS.out.hit (D:=D) (O':=O') (w4:=w4) (W5:=W5) hle h hb hD hx hbd hf5 hJ)
    have hir:-9000000000000000000 ≤ instF f off (savedF l f)∧instF f off (savedF l f) ≤ 9000000000000000000:=by
     unfold instF
     split
     ·omega
     ·split <;> omega
    obtain ⟨sv,hsv2⟩:∃ sv,savedF l f = sv:=⟨_,rfl⟩;rw [hsv2] at HSV HI HSK HRS HHT hir;obtain ⟨ins,hins⟩:∃ ins,instF f off sv = ins:=⟨_,rfl⟩;rw [hins] at HI HSK HRS HHT hir;unfold firA at HSV HI
    have HCELL:=Lib.hid (fun (W':World) (h:Below wr.heap.size wr W')=>show W'.cell? ⟨xb,0,none⟩ = some (.int .i64 f.nominal)∧W'.cell? ⟨xb,1,none⟩ = some (.int .i64 f.kind)∧W'.cell? ⟨xb,2,none⟩ = some (.int .i64 f.save)∧W'.cell? ⟨xb,3,none⟩ = some (.string f.letter)∧W'.cell? ⟨ob,0,none⟩ = some (.int .i64 off)∧W'.cell? ⟨lb,0,none⟩ = some v from
     ⟨(Blk.below HX.out h hxl).cell 0 rfl,(Blk.below HX.out h hxl).cell 1 rfl,(Blk.below HX.out h hxl).cell 2 rfl,(Blk.below HX.out h hxl).cell 3 rfl,(how.below h how.lt).cell 0 rfl,(hlw.below h hlw.lt).cell 0 rfl⟩)
    clear hsv2 hins hrw1;gi_wp2
    refine wpIn_env (fin:=?fne) (wide0) (by kernel_rfl) [32,33,34,35,36,37,8]
     [.agg #[.int .i64 f.nominal,.int .i64 f.kind,.int .i64 f.save,.string f.letter],.int .i64 off,v,.agg #[.int .i64 f.nominal,.int .i64 f.kind,.int .i64 f.save,.string f.letter],.int .i64 sv,.int .i64 ins,.int .i64 ins] (by kernel_rfl) ?fine ?stepse ?nexte
    case fine =>
     simp only [putAll,Act.put,List.setIfInBounds_toArray,List.set_cons_succ,List.set_cons_zero]
     rfl
    case stepse =>
     refine ⟨?_,?_,?_,?_,?_,?_,?_,trivial⟩
     all_goals refine .inr ⟨by kernel_rfl,fun w1_ hB_=>?_⟩
     all_goals
      obtain ⟨d0,d1,d2,d3,d4,d5⟩:=HCELL.out w1_ hB_;go_simp
      first
       | exact ⟨rfl,Below.refl _ _⟩
       | exact ⟨rfl,HSV.out w1_ hB_⟩
       | exact ⟨rfl,HI.out w1_⟩
       | ((first | rw [decide_eq_true (by omega)] | rw [decide_eq_false (by omega)] | rw [if_pos (by omega)] | rw [IntWalk.i64_in _ (by omega)]);exact ⟨rfl,Below.refl _ _⟩)
       | done
    case nexte =>
    intro w3 hb3;have qf3:w3.cell? ⟨fb,0,none⟩ = some (.int .i64 fr):=(hfw.below hb3 hfw.lt).cell 0 rfl;have qt3:w3.cell? ⟨tb,0,none⟩ = some (.int .i64 to):=(htw.below hb3 htw.lt).cell 0 rfl;obtain ⟨x0,x1,x2,x3,-,-⟩:=HCELL.out w3 hb3;have HB3:=Lib.hid hb3;have hxl3:xb < w3.heap.size:=Nat.lt_of_lt_of_le hxl hb3.size;clear hb3 HSV HI HCELL hlw hfw htw how qt
    by_cases h1:ins ≤ fr
    ·have d1:decide (ins ≤ fr) = true:=decide_eq_true h1;have HM:=Lib.hid (HSK.out w3 (.inl h1) HB3.out);clear HSK HRS HHT;have hrw2:=HRW.out.fr HM.out.frm (fun k hk=>hK _ (.inr (.inr (.inr (.inr hk)))));have hlw:=hl.fr HM.out.frm (hK _ (.inl rfl));have HB2:=Lib.hid (callsIn_wide (n:=n - 1).2 (hrw2.behind ho (f.nominal + 1) (by omega) (by omega)));have ql:w3.cell? ⟨lb,0,none⟩ = some v:=hlw.cell 0 rfl;have hxl2:=Blk.lt HM.out.x;have x0:=Blk.cell HM.out.x 0 (v:=.int .i64 f.nominal) rfl;have HBM:=Lib.hid (fun g (h:behindF l (f.nominal + 1) = some g)=>behind_mem h);have HNX:=Lib.hid (fun (W6:World) (h6:Fr (fun k=>k = xb) w3 W6) (hX6:FirB W6 xb (firO (behindF l (f.nominal + 1))))=>HM.out.next fJ h6 hX6);obtain ⟨o2,ho2⟩:∃ o2,behindF l (f.nominal + 1) = o2:=⟨_,rfl⟩;rw [ho2] at HB2 HBM HNX;unfold resO at HB2;obtain ⟨q,hq⟩:∃ q,firO o2 = q:=⟨_,rfl⟩;have HQ:=Lib.hid hq;rw [hq] at HB2;unfold firA at HB2;clear hrw2 hlw ho2 hq;gi_wp2;refine ⟨trivial,fun _=>by omega,HB2.out.mono ?_⟩;rintro e w8 ⟨rfl,hb8⟩;have hx8:=Blk.below HM.out.x hb8 hxl2;have HX8:=Lib.hid hx8;have hx8l:=Blk.lt hx8;have HB8:=Lib.hid hb8;have y0:=Blk.cell hx8 0 (v:=.int .i64 f.nominal) rfl;have y1:=Blk.cell hx8 1 (v:=.int .i64 f.kind) rfl;have y2:=Blk.cell hx8 2 (v:=.int .i64 f.save) rfl;have y3:=Blk.cell hx8 3 (v:=.string f.letter) rfl;have z0:=Blk.frozen hx8 0;have z1:=Blk.frozen hx8 1;have z2:=Blk.frozen hx8 2;have z3:=Blk.frozen hx8 3;clear hb8 hx8 HB2 ql x0;gi_wp2;have hy:=(((HX8.out.set 0 (.int .i64 q.nominal)).set 1 (.int .i64 q.kind)).set 2 (.int .i64 q.save)).set 3 (.string q.letter);have hm2:wr.cell? ⟨xb,0,none⟩ = some (.int .i64 f.nominal):=Blk.cell HX.out 0 rfl;refine ⟨⟨_,_,o2,_,rfl,HNX.out _ ((Fr.of_below HB8.out (Nat.le_refl _)).then (fr_set4 w8 (T:=fun k=>k = xb) rfl _ _ _ _)) (by rw [HQ.out];exact hy)⟩,?_⟩;rw [hm2]
     rcases o2 with _ | g
     ·show 0 < (4000000000001 - f.nominal).toNat
      omega
     ·obtain rfl:g = q:=HQ.out;have:=(HBM.out g rfl).2
      show (4000000000001 - intOf ((World.cell? _ _).getD undef)).toNat < (4000000000001 - f.nominal).toNat
      rw [hy.cell 0 (v:=.int .i64 g.nominal) rfl]
      show (4000000000001 - g.nominal).toNat < _
      omega
    ·have d1:decide (ins ≤ fr) = false:=decide_eq_false h1
     by_cases h2:to < ins
     ·have d2:decide (to < ins) = true:=decide_eq_true h2;have HM:=Lib.hid (HSK.out w3 (.inr h2) HB3.out);clear HSK HRS HHT;have hrw2:=HRW.out.fr HM.out.frm (fun k hk=>hK _ (.inr (.inr (.inr (.inr hk)))));have hlw:=hl.fr HM.out.frm (hK _ (.inl rfl));have HB2:=Lib.hid (callsIn_wide (n:=n - 1).2 (hrw2.behind ho (f.nominal + 1) (by omega) (by omega)));have ql:w3.cell? ⟨lb,0,none⟩ = some v:=hlw.cell 0 rfl;have hxl2:=Blk.lt HM.out.x;have x0:=Blk.cell HM.out.x 0 (v:=.int .i64 f.nominal) rfl;have HBM:=Lib.hid (fun g (h:behindF l (f.nominal + 1) = some g)=>behind_mem h);have HNX:=Lib.hid (fun (W6:World) (h6:Fr (fun k=>k = xb) w3 W6) (hX6:FirB W6 xb (firO (behindF l (f.nominal + 1))))=>HM.out.next fJ h6 hX6);obtain ⟨o2,ho2⟩:∃ o2,behindF l (f.nominal + 1) = o2:=⟨_,rfl⟩;rw [ho2] at HB2 HBM HNX;unfold resO at HB2;obtain ⟨q,hq⟩:∃ q,firO o2 = q:=⟨_,rfl⟩;have HQ:=Lib.hid hq;rw [hq] at HB2;unfold firA at HB2;clear hrw2 hlw ho2 hq;gi_wp2;refine ⟨trivial,fun _=>by omega,HB2.out.mono ?_⟩;rintro e w8 ⟨rfl,hb8⟩;have hx8:=Blk.below HM.out.x hb8 hxl2;have HX8:=Lib.hid hx8;have hx8l:=Blk.lt hx8;have HB8:=Lib.hid hb8;have y0:=Blk.cell hx8 0 (v:=.int .i64 f.nominal) rfl;have y1:=Blk.cell hx8 1 (v:=.int .i64 f.kind) rfl;have y2:=Blk.cell hx8 2 (v:=.int .i64 f.save) rfl;have y3:=Blk.cell hx8 3 (v:=.string f.letter) rfl;have z0:=Blk.frozen hx8 0;have z1:=Blk.frozen hx8 1;have z2:=Blk.frozen hx8 2;have z3:=Blk.frozen hx8 3;clear hb8 hx8 HB2 ql x0;gi_wp2;have hy:=(((HX8.out.set 0 (.int .i64 q.nominal)).set 1 (.int .i64 q.kind)).set 2 (.int .i64 q.save)).set 3 (.string q.letter);have hm2:wr.cell? ⟨xb,0,none⟩ = some (.int .i64 f.nominal):=Blk.cell HX.out 0 rfl;refine ⟨⟨_,_,o2,_,rfl,HNX.out _ ((Fr.of_below HB8.out (Nat.le_refl _)).then (fr_set4 w8 (T:=fun k=>k = xb) rfl _ _ _ _)) (by rw [HQ.out];exact hy)⟩,?_⟩;rw [hm2]
      rcases o2 with _ | g
      ·show 0 < (4000000000001 - f.nominal).toNat
       omega
      ·obtain rfl:g = q:=HQ.out;have:=(HBM.out g rfl).2
       show (4000000000001 - intOf ((World.cell? _ _).getD undef)).toNat < (4000000000001 - f.nominal).toNat
       rw [hy.cell 0 (v:=.int .i64 g.nominal) rfl]
       show (4000000000001 - g.nominal).toNat < _
       omega
     ·have d2:decide (to < ins) = false:=decide_eq_false h2;have hin:¬ (ins ≤ fr∨to < ins):=by omega
      have hsame:∀ k,k < B2→w3.heap[k]? = Wb.heap[k]?:=fun k hk=>by
       have h1:=HS.out.frm.block k (by omega) (hK0 k (.inr hk));have h2:=HB3.out.block k (by have:=HS.out.frm.size;omega);rw [h2,h1];exact hWb k hk
      obtain ⟨fn,tmps,assign,body,hyd,hR⟩:=hY pre (ins,f) (fun _=>False) O w3 (fJ _ _ _ _ HS.out.j (Fr.of_below HB3.out (Nat.le_refl _))) (HS.out.bd.fr (Fr.of_below (T:=fun _=>True) HB3.out (Nat.le_refl _))) (fun _ h=>h.elim) (fun _ h=>h.elim) ⟨fun _ h=>h,⟨_,HRS.out hin⟩,hsame⟩;unfold encF firA at hyd;gi_wp2;refine ⟨fun _=>by omega,hR.mono ?_⟩;rintro e W5 ⟨O5,hx5,hbd5,hf5,(⟨rfl,hJ5⟩ | ⟨rfl,hJx5⟩)⟩
      ·have HM:=Lib.hid (HHT.out _ _ w3 W5 hin HB3.out (fun _ h=>h) hx5 hbd5 hf5 hJ5);clear HSK HRS HHT hyd hR qf3 qt3 x0 x1 x2 x3;have hrw2:=HRW.out.fr HM.out.frm (fun k hk=>hK _ (.inr (.inr (.inr (.inr hk)))));have hlw:=hl.fr HM.out.frm (hK _ (.inl rfl));have HB2:=Lib.hid (callsIn_wide (n:=n - 1).2 (hrw2.behind ho (f.nominal + 1) (by omega) (by omega)));have ql:W5.cell? ⟨lb,0,none⟩ = some v:=hlw.cell 0 rfl;have hxl2:=Blk.lt HM.out.x;have x0:=Blk.cell HM.out.x 0 (v:=.int .i64 f.nominal) rfl;have HBM:=Lib.hid (fun g (h:behindF l (f.nominal + 1) = some g)=>behind_mem h);have HNX:=Lib.hid (fun (W6:World) (h6:Fr (fun k=>k = xb) W5 W6) (hX6:FirB W6 xb (firO (behindF l (f.nominal + 1))))=>HM.out.next fJ h6 hX6);obtain ⟨o2,ho2⟩:∃ o2,behindF l (f.nominal + 1) = o2:=⟨_,rfl⟩;rw [ho2] at HB2 HBM HNX;unfold resO at HB2;obtain ⟨q,hq⟩:∃ q,firO o2 = q:=⟨_,rfl⟩;have HQ:=Lib.hid hq;rw [hq] at HB2;unfold firA at HB2;clear hrw2 hlw ho2 hq;gi_wp2;refine ⟨trivial,fun _=>by omega,HB2.out.mono ?_⟩;rintro e w8 ⟨rfl,hb8⟩;have hx8:=Blk.below HM.out.x hb8 hxl2;have HX8:=Lib.hid hx8;have hx8l:=Blk.lt hx8;have HB8:=Lib.hid hb8;have y0:=Blk.cell hx8 0 (v:=.int .i64 f.nominal) rfl;have y1:=Blk.cell hx8 1 (v:=.int .i64 f.kind) rfl;have y2:=Blk.cell hx8 2 (v:=.int .i64 f.save) rfl;have y3:=Blk.cell hx8 3 (v:=.string f.letter) rfl;have z0:=Blk.frozen hx8 0;have z1:=Blk.frozen hx8 1;have z2:=Blk.frozen hx8 2;have z3:=Blk.frozen hx8 3;clear hb8 hx8 HB2 ql x0;gi_wp2;have hy:=(((HX8.out.set 0 (.int .i64 q.nominal)).set 1 (.int .i64 q.kind)).set 2 (.int .i64 q.save)).set 3 (.string q.letter);have hm2:wr.cell? ⟨xb,0,none⟩ = some (.int .i64 f.nominal):=Blk.cell HX.out 0 rfl;refine ⟨⟨_,_,o2,_,rfl,HNX.out _ ((Fr.of_below HB8.out (Nat.le_refl _)).then (fr_set4 w8 (T:=fun k=>k = xb) rfl _ _ _ _)) (by rw [HQ.out];exact hy)⟩,?_⟩;rw [hm2]
       rcases o2 with _ | g
       ·show 0 < (4000000000001 - f.nominal).toNat
        omega
       ·obtain rfl:g = q:=HQ.out;have:=(HBM.out g rfl).2
        show (4000000000001 - intOf ((World.cell? _ _).getD undef)).toNat < (4000000000001 - f.nominal).toNat
        rw [hy.cell 0 (v:=.int .i64 g.nominal) rfl]
        show (4000000000001 - g.nominal).toNat < _
        omega
      ·obtain ⟨e1,e2⟩:=HS.out.out_ HB3.out (fun _ h=>h) hx5 hf5;have HR2:=Lib.hid (HRS.out hin);gi_wp2;refine bodyPost_end (results_none rfl _ _ _) rfl ?_;exact ⟨⟨_,rfl⟩,O5,e1,hbd5,e2.mono (fun _ h=>.inl (.inl h)),.inr ⟨_,⟨_,by rw [List.append_assoc];exact HR2.out⟩,hJx5⟩⟩
   ·have hd:decide (f.nominal ≤ to + 180000) = false:=decide_eq_false hle;have HE:=Lib.hid (show pre = firedF l off fr to by have:=HS.out.now;rwa [firedN_far (by omega),List.append_nil] at this);clear hrw1 hlw hfw htw how;gi_wp2;refine bodyPost_end (results_none rfl _ _ _) rfl ?_;exact ⟨⟨_,rfl⟩,O,HS.out.ext,HS.out.bd,HS.out.frm.mono (fun _ h=>.inl (.inl h)),.inl ⟨pre,HE.out,HS.out.j⟩⟩
theorem fired_iter (n:Nat) (hn:2 ≤ n) (lb fb tb ob B:Nat) (v:Value) (l:List Rul) (off fr to:Int) (W:World)
  (hl:Blk W lb 52 #[v]) (hf:Blk W fb 3 #[.int .i64 fr]) (ht:Blk W tb 3 #[.int .i64 to]) (hob:Blk W ob 3 #[.int .i64 off]) (hrw:RW W B v l) (ho:yrOk l) (hsv:svOk l)
  (ho1:-1000000000000000 ≤ off∧off ≤ 1000000000000000) (hf1:-9000000000000000000 ≤ fr∧fr ≤ 9000000000000000000) (ht1:-4500000000000 ≤ to∧to ≤ 9000000000000000000) :
  Iter Fence.wide n Tryz.prog 116 #[.pointer (some ⟨lb,0,none⟩),.pointer (some ⟨fb,0,none⟩),.pointer (some ⟨tb,0,none⟩),.pointer (some ⟨ob,0,none⟩)] encF (fun pre x D _=>(∀ j,¬ D j)∧∃ rest,firedF l off fr to = pre ++ x :: rest) (fun xs=>xs = firedF l off fr to) (fun pre=>∃ rest,firedF l off fr to = pre ++ rest) (KF lb fb tb ob B) (fun _=>False) W :=
 fun lp J Jx fJ _ hY O h0 hO hK=>fired_in n hn lp lb fb tb ob B 0 W v l off fr to W hl hf ht hob hrw ho hsv ho1 hf1 ht1 J Jx fJ (Nat.zero_le _) (fun k hk=>absurd hk (Nat.not_lt_zero k)) (fun pre x D O W' hJ hO hD hDO hR=>hY pre x D O W' hJ hO hD hDO ⟨hR.1,hR.2.1⟩) O h0 hO (fun k h=>h.elim (hK k) (fun h=>absurd h (Nat.not_lt_zero k)))
theorem fired_iter2 (n:Nat) (hn:2 ≤ n) (lb fb tb ob B B2:Nat) (Wb:World) (v:Value) (l:List Rul) (off fr to:Int) (W:World)
  (hl:Blk W lb 52 #[v]) (hf:Blk W fb 3 #[.int .i64 fr]) (ht:Blk W tb 3 #[.int .i64 to]) (hob:Blk W ob 3 #[.int .i64 off]) (hrw:RW W B v l) (ho:yrOk l) (hsv:svOk l)
  (ho1:-1000000000000000 ≤ off∧off ≤ 1000000000000000) (hf1:-9000000000000000000 ≤ fr∧fr ≤ 9000000000000000000) (ht1:-4500000000000 ≤ to∧to ≤ 9000000000000000000) (hB2:B2 ≤ W.heap.size) (hWb:∀ k,k < B2→W.heap[k]? = Wb.heap[k]?) :
  Iter Fence.wide n Tryz.prog 116 #[.pointer (some ⟨lb,0,none⟩),.pointer (some ⟨fb,0,none⟩),.pointer (some ⟨tb,0,none⟩),.pointer (some ⟨ob,0,none⟩)] encF (RF l off fr to B2 Wb) (fun xs=>xs = firedF l off fr to) (fun pre=>∃ rest,firedF l off fr to = pre ++ rest) (fun k=>KF lb fb tb ob B k∨k < B2) (fun _=>False) W :=
 fun lp J Jx fJ _ hY O h0 hO hK=>fired_in n hn lp lb fb tb ob B B2 Wb v l off fr to W hl hf ht hob hrw ho hsv ho1 hf1 ht1 J Jx fJ hB2 hWb hY O h0 hO hK
theorem fired_any (w:World) (v:Value) (A:Option Addr) (m c:Nat) (hv:v = .slice A m c) (off fr to:Int) :
  Calls Tryz.prog 76 #[v,.int .i64 off,.int .i64 fr,.int .i64 to] w fun e w'=>e = .returned (.func (.func 116) #[] #[.pointer (some ⟨w.heap.size,0,none⟩),.pointer (some ⟨w.heap.size + 2,0,none⟩),.pointer (some ⟨w.heap.size + 3,0,none⟩),.pointer (some ⟨w.heap.size + 1,0,none⟩)])∧Below w.heap.size w w' ∧
   Blk w' w.heap.size 52 #[v]∧Blk w' (w.heap.size + 1) 3 #[.int .i64 off]∧Blk w' (w.heap.size + 2) 3 #[.int .i64 fr]∧Blk w' (w.heap.size + 3) 3 #[.int .i64 to]:=by
 subst hv;have h1:=(((Blk.new w 52 #[.slice A m c]).alloc (.cells #[.int .i64 off] 3)).alloc (.cells #[.int .i64 fr] 3)).alloc (.cells #[.int .i64 to] 3);have h2:=((Blk.new (w.alloc (.cells #[.slice A m c] 52)) 3 #[.int .i64 off]).alloc (.cells #[.int .i64 fr] 3)).alloc (.cells #[.int .i64 to] 3);have h3:=(Blk.new ((w.alloc (.cells #[.slice A m c] 52)).alloc (.cells #[.int .i64 off] 3)) 3 #[.int .i64 fr]).alloc (.cells #[.int .i64 to] 3);have h4:=Blk.new (((w.alloc (.cells #[.slice A m c] 52)).alloc (.cells #[.int .i64 off] 3)).alloc (.cells #[.int .i64 fr] 3)) 3 #[.int .i64 to];simp only [World.size_alloc] at h2 h3 h4;have HB:=Lib.hid (((((Below.refl w.heap.size w).alloc (Nat.le_refl _) (.cells #[.slice A m c] 52)).alloc (by simp) (.cells #[.int .i64 off] 3)).alloc (by simp;omega) (.cells #[.int .i64 fr] 3)).alloc (by simp;omega) (.cells #[.int .i64 to] 3));have HH:=Lib.hid (And.intro h1 (And.intro h2 (And.intro h3 h4)));clear h1 h2 h3 h4;go_enter Tryz.func76,Tryz.ntmps76;go_wp2_with fail;go_ret;exact ⟨rfl,HB.out,HH.out⟩
end
section -- ASaves
open Go Go.RowKit Go.Shelf
def eraC (e:EraN) (ru f:ByteArray) (en:Bool):Array Value:=#[.int .i64 e.off,.string ru,.int .i64 e.save,.string f,.bool en,.int .i64 e.year,.int .i64 e.month,.int .i64 e.dk,.int .i64 e.dw,.int .i64 e.dn,.int .i64 e.sec,.int .i64 e.ak]
abbrev EraB (W:World) (b:Nat) (e:EraN) (ru f:ByteArray) (en:Bool):Prop:=Blk W b 42 (eraC e ru f en)
structure RuOk (l:List Rul):Prop where
 yr:yrOk l
 sv:svOk l
 len:l.length ≤ 19
 mon:∀ z ∈ l,mOk z
def savesV (e:EraN) (ru:ByteArray) (l:List Rul) (i:Int):Int × ByteArray :=
 if ru.size = 0 then (e.save,⟨#[]⟩) else match latestF l e.off i with
  | some f=>(f.save,f.letter)
  | none=>(0,letV l)
theorem emp_size (ru:ByteArray):(ru.toList == []) = decide (ru.size = 0):=by
 have h:ru.toList.length = ru.size:=by rw [ByteArray.toList_eq];exact Array.length_toList
 cases hl:ru.toList with
 | nil=>rw [hl] at h;rw [← h];rfl
 | cons a t=>rw [hl] at h;rw [← h];simp
theorem zsaves_any (w:World) (e:EraN) (ru f:ByteArray) (en:Bool) (B:Nat) (v:Value) (l:List Rul) (hrw:RW w B v l) (hok:RuOk l) (i:Int) (ho:-1000000000000000 ≤ e.off∧e.off ≤ 1000000000000000) (hi:-4500000000000 ≤ i) (hi2:i ≤ 9000000000000000000) :
  Calls Tryz.prog 89 #[eraA e ru f en,v,.int .i64 i] w fun o w'=>o = .returned (.tuple #[.int .i64 (savesV e ru l i).1,.string (savesV e ru l i).2])∧Below w.heap.size w w':=by
 unfold eraA;have hb0:Below w.heap.size w (w.alloc (.cells (eraC e ru f en) 42)):=(Below.refl w.heap.size w).alloc (Nat.le_refl _) _
 by_cases hru:ru.size = 0
 ·have HV:=Lib.hid (show savesV e ru l i = (e.save,⟨#[]⟩) by unfold savesV;rw [if_pos hru]);have hem:(ru.toList == []) = true:=by rw [emp_size,decide_eq_true hru]
  have HB:=Lib.hid hb0;unfold eraC at HB;clear hru hrw hok ho hb0;go_enter Tryz.func89,Tryz.ntmps89;go_wp2_with fail;go_ret2;exact ⟨by rw [HV.out];rfl,HB.out⟩
 ·have hem:(ru.toList == []) = false:=by rw [emp_size,decide_eq_false hru]
  have hrw0:=hrw.below hb0;have HL:=Lib.hid (latest_any _ v l (hrw0.ruls.more hrw0.le) hrw0.ahead hok.yr hok.sv e.off i ho hi hi2);have HT:=Lib.hid (fun (W:World) (h:RW W B v l)=>fletter_any W W.heap.size v l (h.ruls.more h.le) (Nat.le_refl _) hok.len hok.mon);have HRW:=Lib.hid hrw0;have HV:=Lib.hid (show savesV e ru l i = match latestF l e.off i with | some f=>(f.save,f.letter) | none=>(0,letV l) by unfold savesV;rw [if_neg hru]);obtain ⟨o,hoo⟩:∃ o,latestF l e.off i = o:=⟨_,rfl⟩;rw [hoo] at HL HV;unfold resO at HL;have HB0:=Lib.hid hb0;unfold eraC at HB0 HL HRW;clear hru hrw hok ho hb0 hrw0 hoo
  rcases o with _ | g
  ·rw [show firO none = Fir.zero from rfl] at HL;unfold firA Fir.zero at HL;go_enter Tryz.func89,Tryz.ntmps89;go_wp2_with fail;refine HL.out.mono ?_;rintro o w1 ⟨rfl,hb⟩;have hb1:=HB0.out.trans (hb.mono HB0.out.size);have HB1:=Lib.hid (hb1.alloc hb1.size (.cells #[.int .i64 0,.int .i64 0,.int .i64 0,.string ⟨#[]⟩] 112));have HR1:=Lib.hid ((HRW.out.below hb).below ((Below.refl w1.heap.size w1).alloc (Nat.le_refl _) (.cells #[.int .i64 0,.int .i64 0,.int .i64 0,.string ⟨#[]⟩] 112)));clear hb hb1 HL;go_wp2_with fail;refine (HT.out _ HR1.out).mono ?_;rintro o w2 ⟨rfl,hb⟩;have HB2:=Lib.hid (HB1.out.trans (hb.mono HB1.out.size));clear hb;go_wp2_with fail;go_ret2;exact ⟨by rw [HV.out];rfl,HB2.out⟩
  ·rw [show firO (some g) = g from rfl] at HL;unfold firA at HL;go_enter Tryz.func89,Tryz.ntmps89;go_wp2_with fail;refine HL.out.mono ?_;rintro o w1 ⟨rfl,hb⟩;have hb1:=HB0.out.trans (hb.mono HB0.out.size);have HB1:=Lib.hid (hb1.alloc hb1.size (.cells #[.int .i64 g.nominal,.int .i64 g.kind,.int .i64 g.save,.string g.letter] 112));have HX1:=Lib.hid (Blk.new w1 112 #[.int .i64 g.nominal,.int .i64 g.kind,.int .i64 g.save,.string g.letter]);obtain ⟨W1,hW1⟩:∃ W,w1.alloc (.cells #[.int .i64 g.nominal,.int .i64 g.kind,.int .i64 g.save,.string g.letter] 112) = W:=⟨_,rfl⟩;clear hb hb1 HL;go_wp2_with fail;rw [hW1] at HB1 HX1;try simp only [hW1]
   obtain ⟨X,hX⟩:∃ n,w1.heap.size = n:=⟨_,rfl⟩;rw [hX] at HX1;try simp only [hX]
   clear hW1 hX;have HC:=Lib.hid (fun (W:World) (h:Below W1.heap.size W1 W)=>show W.cell? ⟨X,2,none⟩ = some (.int .i64 g.save)∧W.cell? ⟨X,3,none⟩ = some (.string g.letter) from ⟨(HX1.out.below h HX1.out.lt).cell 2 rfl,(HX1.out.below h HX1.out.lt).cell 3 rfl⟩)
   refine wp_env (fin:=?fns) (by kernel_rfl) [27,28,29,30,6,7]
    [.pointer (some ⟨X,2,none⟩),.int .i64 g.save,.pointer (some ⟨X,3,none⟩),.string g.letter,.int .i64 g.save,.string g.letter] (by kernel_rfl) ?fins ?stepss ?nexts
   case fins =>
    simp only [putAll,Act.put,List.setIfInBounds_toArray,List.set_cons_succ,List.set_cons_zero]
    rfl
   case stepss =>
    refine ⟨?_,?_,?_,?_,?_,?_,trivial⟩
    all_goals refine .inr ⟨by kernel_rfl,fun w1_ hB_=>?_⟩
    all_goals
     obtain ⟨d2,d3⟩:=HC.out w1_ hB_;go_simp
     first
      | exact ⟨rfl,Below.refl _ _⟩
      | ((first | rw [decide_eq_true (by omega)] | rw [decide_eq_false (by omega)] | rw [if_pos (by omega)] | rw [IntWalk.i64_in _ (by omega)]);exact ⟨rfl,Below.refl _ _⟩)
      | done
   case nexts =>
   intro w2 hb2;have HB2:=Lib.hid (HB1.out.trans (hb2.mono HB1.out.size));clear hb2;go_wp2_with fail;go_ret2;exact ⟨by rw [HV.out];rfl,HB2.out⟩
def zwithinV (e:EraN) (ru f:ByteArray) (l:List Rul) (i:Int):Value :=
 withinR (e.off + (savesV e ru l i).1) (dstB (savesV e ru l i).1) (showV f (e.off + (savesV e ru l i).1) (dstB (savesV e ru l i).1) (savesV e ru l i).2).1 (showV f (e.off + (savesV e ru l i).1) (dstB (savesV e ru l i).1) (savesV e ru l i).2).2
def sumOk (e:EraN) (ru:ByteArray) (l:List Rul) (i:Int):Prop:=(-1000000000000000 ≤ (savesV e ru l i).1∧(savesV e ru l i).1 ≤ 1000000000000000)∧(savesV e ru l i).2.size ≤ 140737488351232
theorem zwithin_any (w:World) (e:EraN) (ru f:ByteArray) (en:Bool) (B:Nat) (v:Value) (l:List Rul) (hm:Tryz.MaxL w) (hs:f.size < 4294967281) (hrw:RW w B v l) (hok:RuOk l) (i:Int) (ho:-1000000000000000 ≤ e.off∧e.off ≤ 1000000000000000) (hi:-4500000000000 ≤ i) (hi2:i ≤ 9000000000000000000) (hsum:sumOk e ru l i) :
  Calls Tryz.prog 51 #[eraA e ru f en,v,.int .i64 i] w fun o w'=>o = .returned (zwithinV e ru f l i)∧Below w.heap.size w w':=by
 have hb0:Below w.heap.size w ((w.alloc (.cells (eraC e ru f en) 42)).alloc (.cells #[.int .i64 0,.bool false,.string ⟨#[]⟩] 48)):=((Below.refl w.heap.size w).alloc (Nat.le_refl _) _).alloc (by simp) _;have hx0:=(Blk.new w 42 (eraC e ru f en)).alloc (.cells #[.int .i64 0,.bool false,.string ⟨#[]⟩] 48);have hr0:=Blk.new (w.alloc (.cells (eraC e ru f en) 42)) 48 #[.int .i64 0,.bool false,.string ⟨#[]⟩];rw [World.size_alloc] at hr0;have HS:=Lib.hid (zsaves_any _ e ru f en B v l (hrw.below hb0) hok i ho hi hi2);unfold sumOk at hsum;unfold zwithinV withinR;obtain ⟨⟨sv,lt⟩,hsl⟩:∃ x,savesV e ru l i = x:=⟨_,rfl⟩;rw [hsl] at HS hsum ⊢;simp only at HS hsum ⊢;obtain ⟨⟨hsv1,hsv2⟩,hlt⟩:=hsum;have HM:=Lib.hid (fun (W:World) (hb:Below w.heap.size w W)=>show_any f (e.off + sv) (dstB sv) lt W hs hlt (hm.below hb (Nat.le_refl _)));obtain ⟨⟨s,err⟩,hse⟩:∃ x,showV f (e.off + sv) (dstB sv) lt = x:=⟨_,rfl⟩;rw [hse] at HM ⊢;simp only at HM ⊢;have HX:=Lib.hid hx0;have HR:=Lib.hid hr0;have HB:=Lib.hid hb0;unfold eraA at HS ⊢;unfold eraC at HX HB HR HS;unfold dstB at *;clear hm hrw hok hb0 hx0 hr0 hsl hse;go_enter Tryz.func51,Tryz.ntmps51;go_wp2_with fail;refine HS.out.mono ?_;rintro o w1 ⟨rfl,hb⟩;have hx1:=HX.out.below hb HX.out.lt;have HX1:=Lib.hid hx1;have HR1:=Lib.hid (HR.out.below hb HR.out.lt);have HB1:=Lib.hid (HB.out.trans (hb.mono HB.out.size));have hx1l:=hx1.lt;have e0:=hx1.cell 0 (v:=.int .i64 e.off) rfl;have e3:=hx1.cell 3 (v:=.string f) rfl;clear hb hx1 HX HR HB HS;go_wp2_with fail;refine (HM.out _ HB1.out).mono ?_;rintro o w2 ⟨rfl,hb⟩;have hx2:=HX1.out.below hb HX1.out.lt;have HR2:=Lib.hid (HR1.out.below hb HR1.out.lt);have HB2:=Lib.hid (HB1.out.trans (hb.mono HB1.out.size));have hx2l:=hx2.lt;have hr2l:=HR2.out.lt;have e0:=hx2.cell 0 (v:=.int .i64 e.off) rfl;have r0:=HR2.out.cell 0 (v:=.int .i64 0) rfl;have r1:=HR2.out.cell 1 (v:=.bool false) rfl;have r2:=HR2.out.cell 2 (v:=.string ⟨#[]⟩) rfl;have f0:=HR2.out.frozen 0;have f1:=HR2.out.frozen 1;have f2:=HR2.out.frozen 2;clear hb hx2 HX1 HR1 HB1 HM e3
 by_cases h0:err = 0
 ·subst h0;go_wp2_with fail;have HY:=Lib.hid (((HR2.out.set 0 (.int .i64 (e.off + sv))).set 1 (.bool (sv != 0))).set 2 (.string s));have c0:=HY.out.cell 0 (v:=.int .i64 (e.off + sv)) rfl;have c1:=HY.out.cell 1 (v:=.bool (sv != 0)) rfl;have c2:=HY.out.cell 2 (v:=.string s) rfl;refine bodyPost_ret (v:=.tuple #[.agg #[.int .i64 (e.off + sv),.bool (sv != 0),.string s],.int .i64 0]) ?_ rfl ⟨rfl,below_set3 HB2.out (by omega) _ _ _⟩;simp [results,Tryz.f51,go_sem,c0,c1,c2]
 ·have h1:(err != 0) = true:=by simpa using h0
  go_wp2_with fail;have HY:=Lib.hid (((HR2.out.set 0 (.int .i64 0)).set 1 (.bool false)).set 2 (.string ⟨#[]⟩));have c0:=HY.out.cell 0 (v:=.int .i64 0) rfl;have c1:=HY.out.cell 1 (v:=.bool false) rfl;have c2:=HY.out.cell 2 (v:=.string ⟨#[]⟩) rfl;refine bodyPost_ret (v:=.tuple #[.agg #[.int .i64 0,.bool false,.string ⟨#[]⟩],.int .i64 err]) ?_ rfl ⟨rfl,below_set3 HB2.out (by omega) _ _ _⟩;simp [results,Tryz.f51,go_sem,c0,c1,c2]
end
section -- AEnd
open Go Go.RowKit Go.Shelf
def untilA (e:EraN):Value:=.agg #[.int .i64 e.year,.int .i64 e.month,.int .i64 e.dk,.int .i64 e.dw,.int .i64 e.dn,.int .i64 e.sec,.int .i64 e.ak]
def nomB (e:EraN):Bool:=inOkB e.dk e.dw e.dn e.year e.month && decide (0 ≤ e.ak∧e.ak ≤ 2) && mayB e.sec
def nomV (e:EraN):Int:=inDay e.dk e.dw e.dn e.year e.month * 86400 + e.sec
def nomR (e:EraN):Int × Int:=if nomB e then (nomV e,0) else (0,10)
theorem nominal_any (w:World) (e:EraN) (ha:Ahead w) :
  Calls Tryz.prog 81 #[untilA e] w fun o w'=>o = .returned (.tuple #[.int .i64 (nomR e).1,.int .i64 (nomR e).2])∧Below w.heap.size w w':=by
 have hb0:Below w.heap.size w (w.alloc (.cells #[.int .i64 e.year,.int .i64 e.month,.int .i64 e.dk,.int .i64 e.dw,.int .i64 e.dn,.int .i64 e.sec,.int .i64 e.ak] 40)):=(Below.refl w.heap.size w).alloc (Nat.le_refl _) _;have hx0:=Blk.new w 40 #[.int .i64 e.year,.int .i64 e.month,.int .i64 e.dk,.int .i64 e.dw,.int .i64 e.dn,.int .i64 e.sec,.int .i64 e.ak];have HI:=Lib.hid (in_any e.dk e.dw e.dn e.year e.month _ (ha.below hb0 (Nat.le_refl _)));have HJ:=Lib.hid (fun Y M D (W:World) (hb:Below w.heap.size w W)=>join_any Y M D e.sec W (ha.below hb (Nat.le_refl _)));have HB0:=Lib.hid hb0;have HX0:=Lib.hid hx0;unfold untilA;clear hb0 hx0 ha
 cases hin:inOkB e.dk e.dw e.dn e.year e.month with
 | false =>
   have HV:=Lib.hid (show nomR e = (0,10) by unfold nomR nomB;rw [hin];rfl);obtain ⟨⟨Y,M,D,hA⟩,hE⟩:=in_no hin;rw [hA,hE] at HI;unfold dateA at HI;clear hA hE hin HJ;go_enter Tryz.func81,Tryz.ntmps81;go_wp2_with fail;refine HI.out.mono ?_;rintro o w1 ⟨rfl,hb⟩;have hb1:=HB0.out.trans (hb.mono HB0.out.size);have HB1:=Lib.hid (hb1.alloc hb1.size (.cells #[.int .i64 Y,.int .i64 M,.int .i64 D] 44));clear hb hb1;go_wp2_with fail;go_ret2;exact ⟨by rw [HV.out];rfl,HB1.out⟩
 | true =>
   obtain ⟨Y,M,D,hA,hE,hd,hday⟩:=in_ok hin;rw [hA,hE] at HI;have HJ2:=Lib.hid (HJ.out Y M D);have hsum:dayV Y M D * 86400 + e.sec = nomV e:=by unfold nomV;rw [hday]
   simp only [hd,hsum,Bool.true_and] at HJ2;unfold dateA at HI HJ2;clear hA hE hd hday HJ hsum
   by_cases h1:e.ak < 0
   ·have HV:=Lib.hid (show nomR e = (0,10) by unfold nomR nomB;rw [hin,decide_eq_false (by omega)];rfl);have d1:decide (e.ak < 0) = true:=decide_eq_true h1;clear hin HJ2;go_enter Tryz.func81,Tryz.ntmps81;go_wp2_with fail;refine HI.out.mono ?_;rintro o w1 ⟨rfl,hb⟩;have hb1:=HB0.out.trans (hb.mono HB0.out.size);have HB1:=Lib.hid (hb1.alloc hb1.size (.cells #[.int .i64 Y,.int .i64 M,.int .i64 D] 44));have hx1:=HX0.out.below hb HX0.out.lt;have hx1l:=hx1.lt;have q5:=hx1.cell 5 (v:=.int .i64 e.sec) rfl;have q6:=hx1.cell 6 (v:=.int .i64 e.ak) rfl;clear hb hb1 hx1;go_wp2_with fail;go_ret2;exact ⟨by rw [HV.out];rfl,HB1.out⟩
   ·have d1:decide (e.ak < 0) = false:=decide_eq_false h1
    by_cases h2:2 < e.ak
    ·have HV:=Lib.hid (show nomR e = (0,10) by unfold nomR nomB;rw [hin,decide_eq_false (by omega)];rfl);have d2:decide (2 < e.ak) = true:=decide_eq_true h2;clear hin HJ2;go_enter Tryz.func81,Tryz.ntmps81;go_wp2_with fail;refine HI.out.mono ?_;rintro o w1 ⟨rfl,hb⟩;have hb1:=HB0.out.trans (hb.mono HB0.out.size);have HB1:=Lib.hid (hb1.alloc hb1.size (.cells #[.int .i64 Y,.int .i64 M,.int .i64 D] 44));have hx1:=HX0.out.below hb HX0.out.lt;have hx1l:=hx1.lt;have q5:=hx1.cell 5 (v:=.int .i64 e.sec) rfl;have q6:=hx1.cell 6 (v:=.int .i64 e.ak) rfl;clear hb hb1 hx1;go_wp2_with fail;go_ret2;exact ⟨by rw [HV.out];rfl,HB1.out⟩
    ·have d2:decide (2 < e.ak) = false:=decide_eq_false h2
     cases hmay:mayB e.sec with
     | false =>
       have HV:=Lib.hid (show nomR e = (0,10) by unfold nomR nomB;rw [hin,hmay,Bool.and_false];rfl);simp only [hmay,Bool.false_eq_true,if_false] at HJ2;clear hin hmay;go_enter Tryz.func81,Tryz.ntmps81;go_wp2_with fail;refine HI.out.mono ?_;rintro o w1 ⟨rfl,hb⟩;have hb1:=HB0.out.trans (hb.mono HB0.out.size);have HB1:=Lib.hid (hb1.alloc hb1.size (.cells #[.int .i64 Y,.int .i64 M,.int .i64 D] 44));have hx1:=HX0.out.below hb HX0.out.lt;have hx1l:=hx1.lt;have q5:=hx1.cell 5 (v:=.int .i64 e.sec) rfl;have q6:=hx1.cell 6 (v:=.int .i64 e.ak) rfl;clear hb hb1 hx1;go_wp2_with fail;refine (HJ2.out _ HB1.out).mono ?_;rintro o w2 ⟨rfl,hb⟩;have HB2:=Lib.hid (HB1.out.trans (hb.mono HB1.out.size));clear hb;go_wp2_with fail;go_ret2;exact ⟨by rw [HV.out];rfl,HB2.out⟩
     | true =>
       have HV:=Lib.hid (show nomR e = (nomV e,0) by unfold nomR nomB;rw [hin,hmay,decide_eq_true (by omega)];rfl);simp only [hmay,if_true] at HJ2;clear hin hmay;generalize nomV e = nv at *;go_enter Tryz.func81,Tryz.ntmps81;go_wp2_with fail;refine HI.out.mono ?_;rintro o w1 ⟨rfl,hb⟩;have hb1:=HB0.out.trans (hb.mono HB0.out.size);have HB1:=Lib.hid (hb1.alloc hb1.size (.cells #[.int .i64 Y,.int .i64 M,.int .i64 D] 44));have hx1:=HX0.out.below hb HX0.out.lt;have hx1l:=hx1.lt;have q5:=hx1.cell 5 (v:=.int .i64 e.sec) rfl;have q6:=hx1.cell 6 (v:=.int .i64 e.ak) rfl;clear hb hb1 hx1;go_wp2_with fail;refine (HJ2.out _ HB1.out).mono ?_;rintro o w2 ⟨rfl,hb⟩;have HB2:=Lib.hid (HB1.out.trans (hb.mono HB1.out.size));clear hb;go_wp2_with fail;go_ret2;exact ⟨by rw [HV.out];rfl,HB2.out⟩
end
section -- AAhead
open Go Go.RowKit Go.Shelf
attribute [local go_sem] Oper.semAt_some
theorem firedN_mem {l:List Rul} {off fr to:Int}:∀ {n:Nat} {o:Option Fir},(∀ f,o = some f→Fires l f)→∀ x ∈ firedN l off fr to n o,Fires l x.2
 | 0,o,_,x,hx=>by cases hx
 | n + 1,none,_,x,hx=>by cases hx
 | n + 1,some f,h,x,hx=>by
   unfold firedN at hx;have ih:=firedN_mem (n:=n) (off:=off) (fr:=fr) (to:=to) (o:=behindF l (f.nominal + 1)) (fun g hg=>(behind_mem hg).1) x
   split at hx
   ·split at hx
    ·exact ih hx
    ·rcases List.mem_cons.1 hx with rfl | hx
     ·exact h f rfl
     ·exact ih hx
   ·cases hx
theorem firedF_mem {l:List Rul} {off fr to:Int} {x:Int × Fir} (h:x ∈ firedF l off fr to):Fires l x.2:=firedN_mem (fun _ hf=>(behind_mem hf).1) x h
theorem backF_mem {l:List Rul} {off i:Int} {f:Fir}:∀ {n:Nat} {o:Option Fir},(∀ f,o = some f→Fires l f)→backF l off i n o = some f→Fires l f
 | 0,o,h,hf=>h f hf
 | n + 1,none,_,hf=>by cases hf
 | n + 1,some g,h,hf=>by
   unfold backF at hf
   split at hf
   ·exact backF_mem (fun x hx=>(ahead_mem hx).1) hf
   ·exact h f hf
theorem latestF_mem {l:List Rul} {off i:Int} {f:Fir} (h:latestF l off i = some f):Fires l f:=backF_mem (fun _ hx=>(ahead_mem hx).1) h
def EndI (eb nb sb:Nat) (e:EraN) (ru f:ByteArray) (en:Bool) (n sv0:Int) (pre:List (Int × Fir)) (O:Nat→Prop) (W:World):Prop :=
 (O eb∧O nb∧O sb)∧EraB W eb e ru f en∧Blk W nb 3 #[.int .i64 n]∧∃ sv,Blk W sb 3 #[.int .i64 sv]∧(-1000000000000000 ≤ sv∧sv ≤ 1000000000000000)∧∀ rest,endLoop (n - e.off) sv0 (pre ++ rest) = endLoop (n - e.off) sv rest
def EndX (sb:Nat) (e:EraN) (n sv0:Int) (c:Code) (pre:List (Int × Fir)) (O:Nat→Prop) (W:World):Prop :=
 c = .exit 0∧O sb∧∃ sv,Blk W sb 3 #[.int .i64 sv]∧∀ rest,endLoop (n - e.off) sv0 (pre ++ rest) = sv
theorem endI_feet (eb nb sb:Nat) (e:EraN) (ru f:ByteArray) (en:Bool) (n sv0:Int):Feet (EndI eb nb sb e ru f en n sv0):=by
 rintro pre O W W' ⟨⟨o0,o1,o2⟩,h0,h1,sv,h2,hr⟩ hf;exact ⟨⟨o0,o1,o2⟩,Blk.fr h0 hf (fun h=>h o0),h1.fr hf (fun h=>h o1),sv,h2.fr hf (fun h=>h o2),hr⟩
theorem endX_feet (sb:Nat) (e:EraN) (n sv0:Int) (c:Code):Feet (EndX sb e n sv0 c):=by
 rintro pre O W W' ⟨hc,o0,sv,h2,hr⟩ hf;exact ⟨hc,o0,sv,h2.fr hf (fun h=>h o0),hr⟩
theorem zahead_any (w:World) (e:EraN) (ru f:ByteArray) (en:Bool) (B:Nat) (v:Value) (l:List Rul) (hrw:RW w B v l) (hok:RuOk l) (n:Int) (ho:-1000000000000000 ≤ e.off∧e.off ≤ 1000000000000000) (hn:-4000000000000 ≤ n∧n ≤ 4000000000000) :
  Calls Tryz.prog 82 #[eraA e ru f en,v,.int .i64 n] w fun o w'=>o = .returned (.int .i64 (endSave l e.off n))∧Below w.heap.size w w':=by
 obtain ⟨A,cp,rfl,-,-⟩:=hrw.ruls.form;obtain ⟨W0,hW0⟩:∃ W,(w.alloc (.cells (eraC e ru f en) 42)).alloc (.cells #[.int .i64 n] 3) = W:=⟨_,rfl⟩;obtain ⟨b0,b1,hb0,hs0⟩:=blks2 w _ _ _ _ W0 hW0;have hrw0:=hrw.below hb0;have HL:=Lib.hid (callsIn_wide (n:=7).2 (latest_any W0 _ l (hrw0.ruls.more hrw0.le) hrw0.ahead hok.yr hok.sv e.off (n - 360000) ho (by omega) (by omega)));obtain ⟨o,hoo⟩:∃ o,latestF l e.off (n - 360000) = o:=⟨_,rfl⟩
 have hsvo:-1000000000000000 ≤ saveO o∧saveO o ≤ 1000000000000000:=by
  cases o with
  | none=>exact ⟨by decide,by decide⟩
  | some x=>exact hok.sv x (latestF_mem hoo)
 have HV:=Lib.hid (show endSave l e.off n = endLoop (n - e.off) (saveO o) (firedF l e.off (n - 360000) (n + 360000)) by unfold endSave;rw [hoo]);rw [hoo] at HL;unfold resO at HL;rw [saveO_firO] at HV hsvo;obtain ⟨g,hg⟩:∃ g,firO o = g:=⟨_,rfl⟩;rw [hg] at HL HV hsvo;unfold firA at HL;have HRW0:=Lib.hid hrw0;have HB0:=Lib.hid hb0;have HE0:=Lib.hid b0;have HN0:=Lib.hid b1;have q0:=b0.cell 0 (v:=.int .i64 e.off) rfl;have r0:=b1.cell 0 (v:=.int .i64 n) rfl;have hl0:=b0.lt;have hl1:=b1.lt;clear b0 b1 hb0 hrw0 hoo hg;unfold eraA;unfold eraC at hW0;refine (callsIn_wide (n:=8)).1 ?_;refine callsIn_of_wp_marks Tryz.func82 rfl trivial ?_ rfl;simp only [Tryz.ntmps82,List.size_toArray,List.length_cons,List.length_nil,Nat.reduceAdd,Nat.reduceSub,Array.replicate_succ,Array.replicate_zero,List.push_toArray,List.append_toArray,List.nil_append,List.cons_append];gi_wp2;refine wpIn_scope ?_;gi_wp2;try simp only [hW0]
 clear hW0;refine ⟨trivial,HL.out.mono ?_⟩;rintro o' w1 ⟨rfl,hb⟩;have HE1:=Lib.hid (HE0.out.below hb HE0.out.lt);have HN1:=Lib.hid (HN0.out.below hb HN0.out.lt);have HR1:=Lib.hid (HRW0.out.below hb);have HB1:=Lib.hid (HB0.out.trans (hb.mono HB0.out.size));have hs1:=hb.size;have e0:=HE1.out.cell 0 (v:=.int .i64 e.off) rfl;have n0:=HN1.out.cell 0 (v:=.int .i64 n) rfl;have k0:=HE1.out.lt;have k1:=HN1.out.lt;clear hb HL HE0 HN0 HRW0 HB0 q0 r0;gi_wp2;refine wpIn_label ?_;obtain ⟨W2,hW2⟩:∃ W,(w1.alloc (.cells #[.int .i64 g.nominal,.int .i64 g.kind,.int .i64 g.save,.string g.letter] 112)).alloc (.cells #[.int .i64 g.save] 3) = W:=⟨_,rfl⟩;obtain ⟨-,c1,hb2,hs2⟩:=blks2 w1 _ _ _ _ W2 hW2;try simp only [hW2]
 try rw [hW2]
 have HE2:=Lib.hid (HE1.out.below hb2 HE1.out.lt);have HN2:=Lib.hid (HN1.out.below hb2 HN1.out.lt);have HR2:=Lib.hid (HR1.out.below hb2);have HB2:=Lib.hid (HB1.out.trans (hb2.mono HB1.out.size));have HS2:=Lib.hid c1;have e0:=HE2.out.cell 0 (v:=.int .i64 e.off) rfl;have n0:=HN2.out.cell 0 (v:=.int .i64 n) rfl;have k2:w1.heap.size + 1 < W2.heap.size:=by omega
 obtain ⟨sb,hsb⟩:∃ x,w1.heap.size + 1 = x:=⟨_,rfl⟩;rw [hsb] at HS2 k2;have hsb0:w.heap.size + 1 < sb:=by omega
 have HF:=Lib.hid (callsIn_wide (n:=7).2 (fired_any W2 (.slice A l.length cp) A l.length cp rfl e.off (n - 360000) (n + 360000)));have hBw:=hrw.le;clear hW2 c1 hb2 HE1 HN1 HR1 HB1 hs2;gi_wp2;try simp only [hsb]
 refine ⟨trivial,HF.out.mono ?_⟩;rintro o' W3 ⟨rfl,hb3,f0,f1,f2,f3⟩;have HE3:=Lib.hid (HE2.out.below hb3 HE2.out.lt);have HN3:=Lib.hid (HN2.out.below hb3 HN2.out.lt);have HR3:=Lib.hid (HR2.out.below hb3);have HB3:=Lib.hid (HB2.out.trans (hb3.mono HB2.out.size));have HS3:=Lib.hid (HS2.out.below hb3 HS2.out.lt);have HC3:=Lib.hid (And.intro f0 (And.intro f1 (And.intro f2 f3)));have hs3:=hb3.size;have l3:=f3.lt;clear hb3 f0 f1 f2 f3 HE2 HN2 HR2 HB2 HS2 HF hsb e0 n0 hrw;gi_wp2
 refine range_own (α:=Int × Fir) rfl (by omega) (gf:=116) (lb:=#[.pointer (some ⟨W2.heap.size,0,none⟩),.pointer (some ⟨W2.heap.size + 2,0,none⟩),.pointer (some ⟨W2.heap.size + 3,0,none⟩),.pointer (some ⟨W2.heap.size + 1,0,none⟩)]) rfl trivial (enters_of Tryz.func116 (by kernel_rfl) rfl)
  (encs:=encF) (K:=KF W2.heap.size (W2.heap.size + 2) (W2.heap.size + 3) (W2.heap.size + 1) B)
  (fun W hW=>fired_iter 7 (by omega) _ _ _ _ B _ l e.off (n - 360000) (n + 360000) W (HC3.out.1.below hW HC3.out.1.lt) (HC3.out.2.2.1.below hW HC3.out.2.2.1.lt) (HC3.out.2.2.2.below hW HC3.out.2.2.2.lt) (HC3.out.2.1.below hW HC3.out.2.1.lt) (HR3.out.below hW) hok.yr hok.sv ho (by omega) (by omega))
  (fun _=>rfl) (EndI w.heap.size (w.heap.size + 1) sb e ru f en n g.save) (EndX sb e n g.save) (endI_feet _ _ _ _ _ _ _ _ _) (endX_feet _ _ _ _)
  (fun k=>k = w.heap.size∨k = w.heap.size + 1∨k = sb) ⟨⟨.inl rfl,.inr (.inl rfl),.inr (.inr rfl)⟩,HE3.out,HN3.out,g.save,HS3.out,hsvo,fun rest=>rfl⟩ (fun k hk=>by omega) (fun k hk=>by unfold KF at hk;have:=HR3.out.le;omega) (fun k hk h=>by unfold KF at hk;omega) ?round ?done ?stop
 case round =>
  intro lp pre x O D W hI hBO hBD hDO hR nOl nDl hlow hltl;obtain ⟨at_,fx⟩:=x;obtain ⟨hnD,rest,hrest⟩:=hR;have hsx:=hok.sv fx (firedF_mem (x:=(at_,fx)) (by rw [hrest];simp));have hbW:Below W.heap.size W (W.alloc (.cells #[.int .i64 fx.nominal,.int .i64 fx.kind,.int .i64 fx.save,.string fx.letter] 112)):=(Below.refl W.heap.size W).alloc (Nat.le_refl _) _;have hfx:=Blk.new W 112 #[.int .i64 fx.nominal,.int .i64 fx.kind,.int .i64 fx.save,.string fx.letter];have HBO:=Lib.hid (hBO.fr (Fr.of_below (T:=fun _=>True) hbW (Nat.le_refl _)));unfold encF firA;clear hI hBO hBD hDO hrest;gi_wp2;refine ⟨hbW,?_⟩;intro Wb hfb hIb _;have hfx2:=hfx.fr hfb (by omega);have HBB:=Lib.hid (HBO.out.fr hfb);have HFF:=Lib.hid ((Fr.of_below (T:=fun k=>O k∨D k) hbW (Nat.le_refl _)).mono (T':=fun k=>O k∨D k) (fun _ h=>.inl h));obtain ⟨⟨o0,o1,o2⟩,he,hnb,sv,hsv,hsvr,hall⟩:=hIb;have HALL:=Lib.hid hall;have HSB:=Lib.hid hsv;have HEB:=Lib.hid he;have HNB:=Lib.hid hnb;have e0:=Blk.cell he 0 (v:=.int .i64 e.off) rfl;have n0:=hnb.cell 0 (v:=.int .i64 n) rfl;have s0:=hsv.cell 0 (v:=.int .i64 sv) rfl;have sf:=hsv.frozen 0;have x2:=hfx2.cell 2 (v:=.int .i64 fx.save) rfl;have hsl:=hsv.lt;have hel:=Blk.lt he;have hnl:=hnb.lt;have hxl:=hfx2.lt;clear he hnb hsv hall hfb hbW hfx hfx2 HBO HFF
  by_cases hc:n - e.off - sv ≤ at_
  ·have d1:decide (n - e.off - sv ≤ at_) = true:=decide_eq_true hc
   have HX:=Lib.hid (show ∀ rest,endLoop (n - e.off) g.save ((pre ++ [(at_,fx)]) ++ rest) = sv from fun rest=>by
    rw [List.append_assoc,HALL.out]
    show endLoop (n - e.off) sv ((at_,fx) :: rest) = sv
    unfold endLoop
    rw [if_pos hc])
   gi_wp2;exact ⟨O,fun k h=>.inl h,HBB.out,Fr.refl _ _,rfl,o2,sv,HSB.out,HX.out⟩
  ·have d1:decide (n - e.off - sv ≤ at_) = false:=decide_eq_false hc
   have HX:=Lib.hid (show ∀ rest,endLoop (n - e.off) g.save ((pre ++ [(at_,fx)]) ++ rest) = endLoop (n - e.off) fx.save rest from fun rest=>by
    rw [List.append_assoc,HALL.out]
    show endLoop (n - e.off) sv ((at_,fx) :: rest) = _
    rw [endLoop,if_neg hc])
   gi_wp2;exact ⟨O,fun k h=>.inl h,HBB.out.fr (Fr.setCell (T:=fun _=>True) Wb 0 _ trivial),Fr.setCell Wb 0 _ (.inl o2),⟨o0,o1,o2⟩,HEB.out.other (by omega) 0 _,HNB.out.other (by omega) 0 _,fx.save,HSB.out.set 0 _,hsx,HX.out⟩
 case done =>
  rintro D xs O W hD rfl ⟨-,-,-,sv,h2,-,hall⟩ hO hBO hOD hfr hK
  have hv:endSave l e.off n = sv:=by
   rw [HV.out];have:=hall []
   rwa [List.append_nil] at this
  have HVV:=Lib.hid hv;have hW:=HB3.out.trans (hfr.below HB3.out.size (fun k hk h=>by rcases h with (h | h | h) | h <;> omega));have HBW:=Lib.hid hW;have HK:=Lib.hid hK;have s0:=h2.cell 0 (v:=.int .i64 sv) rfl;clear hv hall h2 hW hfr hK hO hBO HV;gi_wp2;refine ⟨by simp,.inl ⟨_,_,rfl,run_takeDeferred HK.out,?_⟩⟩;refine ⟨.int .i64 sv,?_,⟨by rw [HVV.out],fin_below HBW.out (by omega)⟩⟩;simp [results,Tryz.f82,go_sem]
 case stop =>
  rintro D c pre O W hD ⟨rest,hrest⟩ ⟨rfl,-,sv,h2,hall⟩ hO hBO hOD hfr hK
  have hv:endSave l e.off n = sv:=by
   rw [HV.out,hrest];exact hall rest
  have HVV:=Lib.hid hv;have hW:=HB3.out.trans (hfr.below HB3.out.size (fun k hk h=>by rcases h with (h | h | h) | h <;> omega));have HBW:=Lib.hid hW;have HK:=Lib.hid hK;have s0:=h2.cell 0 (v:=.int .i64 sv) rfl;clear hv hall h2 hW hfr hK hO hBO HV hrest;gi_wp2;refine ⟨by simp,.inl ⟨_,_,rfl,run_takeDeferred HK.out,?_⟩⟩;refine ⟨.int .i64 sv,?_,⟨by rw [HVV.out],fin_below HBW.out (by omega)⟩⟩;simp [results,Tryz.f82,go_sem]
end
section -- AEndW
open Go Go.RowKit Go.Shelf
theorem nomV_in {e:EraN} (h:nomB e = true):-3300000000000 ≤ nomV e∧nomV e ≤ 3300000000000∧0 ≤ e.ak∧e.ak ≤ 2:=by
 unfold nomB inOkB inB ymB mayB at h;simp only [Bool.and_eq_true,decide_eq_true_eq] at h;obtain ⟨⟨⟨⟨⟨h1,h2⟩,h3⟩,-⟩,h5⟩,h6⟩:=h;obtain ⟨d1,-,d3⟩:=inDay_in (y:=e.year) h1 h2.2.2.1 h2.2.2.2 h3;have e1:=yearV_mono h2.1;have e2:=yearV_mono (show e.year + 1 ≤ 100001 by omega);have e3:yearV (-100000) = -37243778:=by decide
 have e4:yearV 100001 = 35805088:=by decide
 unfold nomV;omega
def endN (e:EraN) (ru:ByteArray) (l:List Rul):Int :=
 if e.ak = 2 then nomV e else if e.ak = 1 then nomV e - e.off else if ru.size = 0 then nomV e - e.off - e.save else nomV e - e.off - endSave l e.off (nomV e)
def endV (e:EraN) (ru:ByteArray) (en:Bool) (l:List Rul):Int × Int:=if en then (if nomB e then (endN e ru l,0) else (0,10)) else (0,16)
theorem endLoop_in {m:Int}:∀ {xs:List (Int × Fir)} {sv:Int},(-1000000000000000 ≤ sv∧sv ≤ 1000000000000000)→(∀ x ∈ xs,-1000000000000000 ≤ x.2.save∧x.2.save ≤ 1000000000000000)→-1000000000000000 ≤ endLoop m sv xs∧endLoop m sv xs ≤ 1000000000000000
 | [],sv,h,_=>h
 | x :: t,sv,h,hx=>by
   unfold endLoop
   split
   ·exact h
   ·exact endLoop_in (hx x (by simp)) (fun y hy=>hx y (by simp [hy]))
theorem endSave_in {l:List Rul} (hs:svOk l) (off n:Int):-1000000000000000 ≤ endSave l off n∧endSave l off n ≤ 1000000000000000:=by
 unfold endSave;refine endLoop_in ?_ (fun x hx=>hs _ (firedF_mem hx))
 cases ho:latestF l off (n - 360000) with
 | none=>exact ⟨by decide,by decide⟩
 | some x=>exact hs x (latestF_mem ho)
theorem zend_any (w:World) (e:EraN) (ru f:ByteArray) (en:Bool) (B:Nat) (v:Value) (l:List Rul) (hrw:RW w B v l) (hok:RuOk l) (ho:-1000000000000000 ≤ e.off∧e.off ≤ 1000000000000000) (hsv:-1000000000000000 ≤ e.save∧e.save ≤ 1000000000000000) :
  Calls Tryz.prog 44 #[eraA e ru f en,v] w fun o w'=>o = .returned (.tuple #[.int .i64 (endV e ru en l).1,.int .i64 (endV e ru en l).2])∧Below w.heap.size w w':=by
 have hb0:Below w.heap.size w (w.alloc (.cells (eraC e ru f en) 42)):=(Below.refl w.heap.size w).alloc (Nat.le_refl _) _;have hx0:=Blk.new w 42 (eraC e ru f en);have HRW:=Lib.hid (hrw.below hb0);have HN:=Lib.hid (nominal_any _ e (hrw.below hb0).ahead);have HX:=Lib.hid hx0;have HB:=Lib.hid hb0;clear hrw hx0 hb0
 cases en with
 | false =>
   unfold eraA;unfold eraC at HB;have HV:=Lib.hid (show endV e ru false l = (0,16) from rfl);go_enter Tryz.func44,Tryz.ntmps44;go_wp2_with fail;go_ret2;exact ⟨by rw [HV.out];rfl,HB.out⟩
 | true =>
   cases hnb:nomB e with
   | false =>
     have HV:=Lib.hid (show endV e ru true l = (0,10) by unfold endV;rw [hnb];rfl);have hnr:nomR e = (0,10):=by unfold nomR;rw [hnb];rfl
     rw [hnr] at HN;unfold eraA;unfold untilA at HN;unfold eraC at HB HN HX HRW;clear hnb hnr;go_enter Tryz.func44,Tryz.ntmps44;go_wp2_with fail;refine HN.out.mono ?_;rintro o w1 ⟨rfl,hb⟩;have hx1:=HX.out.below hb HX.out.lt;have HX1:=Lib.hid hx1;have HB1:=Lib.hid (HB.out.trans (hb.mono HB.out.size));have HR1:=Lib.hid (HRW.out.below hb);have hl1:=hx1.lt;have e0:=hx1.cell 0 (v:=.int .i64 e.off) rfl;have e1:=hx1.cell 1 (v:=.string ru) rfl;have e2:=hx1.cell 2 (v:=.int .i64 e.save) rfl;have e11:=hx1.cell 11 (v:=.int .i64 e.ak) rfl;clear hb hx1 HX HB HRW HN;go_wp2_with fail;go_ret2;exact ⟨by rw [HV.out];rfl,HB1.out⟩
   | true =>
     have HV:=Lib.hid (show endV e ru true l = (endN e ru l,0) by unfold endV;rw [hnb];rfl);have hnr:nomR e = (nomV e,0):=by unfold nomR;rw [hnb];rfl
     rw [hnr] at HN;obtain ⟨n1,n2,k1,k2⟩:=nomV_in hnb;have HNB:=Lib.hid hnb;clear hnb hnr
     by_cases hk2:e.ak = 2
     ·have HE:=Lib.hid (show endN e ru l = nomV e by unfold endN;rw [if_pos hk2]);have d1:(e.ak == 2) = true:=by simpa using hk2
      clear hk2;generalize nomV e = n at *;unfold eraA;unfold untilA at HN;unfold eraC at HB HN HX HRW;go_enter Tryz.func44,Tryz.ntmps44;go_wp2_with fail;refine HN.out.mono ?_;rintro o w1 ⟨rfl,hb⟩;have hx1:=HX.out.below hb HX.out.lt;have HX1:=Lib.hid hx1;have HB1:=Lib.hid (HB.out.trans (hb.mono HB.out.size));have HR1:=Lib.hid (HRW.out.below hb);have hl1:=hx1.lt;have e0:=hx1.cell 0 (v:=.int .i64 e.off) rfl;have e1:=hx1.cell 1 (v:=.string ru) rfl;have e2:=hx1.cell 2 (v:=.int .i64 e.save) rfl;have e11:=hx1.cell 11 (v:=.int .i64 e.ak) rfl;clear hb hx1 HX HB HRW HN;go_wp2_with fail;go_ret2;exact ⟨by rw [HV.out,HE.out];rfl,HB1.out⟩
     ·have d1:(e.ak == 2) = false:=by simpa using hk2
      by_cases hk1:e.ak = 1
      ·have HE:=Lib.hid (show endN e ru l = nomV e - e.off by unfold endN;rw [if_neg hk2,if_pos hk1]);have d2:(e.ak == 1) = true:=by simpa using hk1
       clear hk2 hk1;generalize nomV e = n at *;unfold eraA;unfold untilA at HN;unfold eraC at HB HN HX HRW;go_enter Tryz.func44,Tryz.ntmps44;go_wp2_with fail;refine HN.out.mono ?_;rintro o w1 ⟨rfl,hb⟩;have hx1:=HX.out.below hb HX.out.lt;have HX1:=Lib.hid hx1;have HB1:=Lib.hid (HB.out.trans (hb.mono HB.out.size));have HR1:=Lib.hid (HRW.out.below hb);have hl1:=hx1.lt;have e0:=hx1.cell 0 (v:=.int .i64 e.off) rfl;have e1:=hx1.cell 1 (v:=.string ru) rfl;have e2:=hx1.cell 2 (v:=.int .i64 e.save) rfl;have e11:=hx1.cell 11 (v:=.int .i64 e.ak) rfl;clear hb hx1 HX HB HRW HN;go_wp2_with fail;go_ret2;exact ⟨by rw [HV.out,HE.out];rfl,HB1.out⟩
      ·have d2:(e.ak == 1) = false:=by simpa using hk1
       by_cases hru:ru.size = 0
       ·have HE:=Lib.hid (show endN e ru l = nomV e - e.off - e.save by unfold endN;rw [if_neg hk2,if_neg hk1,if_pos hru]);have hem:(ru.toList == []) = true:=by rw [emp_size,decide_eq_true hru]
        clear hk2 hk1 hru;generalize nomV e = n at *;unfold eraA;unfold untilA at HN;unfold eraC at HB HN HX HRW;go_enter Tryz.func44,Tryz.ntmps44;go_wp2_with fail;refine HN.out.mono ?_;rintro o w1 ⟨rfl,hb⟩;have hx1:=HX.out.below hb HX.out.lt;have HX1:=Lib.hid hx1;have HB1:=Lib.hid (HB.out.trans (hb.mono HB.out.size));have HR1:=Lib.hid (HRW.out.below hb);have hl1:=hx1.lt;have e0:=hx1.cell 0 (v:=.int .i64 e.off) rfl;have e1:=hx1.cell 1 (v:=.string ru) rfl;have e2:=hx1.cell 2 (v:=.int .i64 e.save) rfl;have e11:=hx1.cell 11 (v:=.int .i64 e.ak) rfl;clear hb hx1 HX HB HRW HN;go_wp2_with fail;go_ret2;exact ⟨by rw [HV.out,HE.out];rfl,HB1.out⟩
       ·have HE:=Lib.hid (show endN e ru l = nomV e - e.off - endSave l e.off (nomV e) by unfold endN;rw [if_neg hk2,if_neg hk1,if_neg hru]);have hem:(ru.toList == []) = false:=by rw [emp_size,decide_eq_false hru]
        have hes:=endSave_in hok.sv e.off (nomV e);have HA:=Lib.hid (fun (W:World) (h:RW W B v l)=>zahead_any W e ru f true B v l h hok (nomV e) ho (by omega));obtain ⟨es,hes2⟩:∃ x,endSave l e.off (nomV e) = x:=⟨_,rfl⟩;rw [hes2] at HE hes HA;clear hk2 hk1 hru hes2;generalize nomV e = n at *;unfold eraA at HA ⊢;unfold untilA at HN;unfold eraC at HB HN HX HRW;go_enter Tryz.func44,Tryz.ntmps44;go_wp2_with fail;refine HN.out.mono ?_;rintro o w1 ⟨rfl,hb⟩;have hx1:=HX.out.below hb HX.out.lt;have HX1:=Lib.hid hx1;have HB1:=Lib.hid (HB.out.trans (hb.mono HB.out.size));have HR1:=Lib.hid (HRW.out.below hb);have hl1:=hx1.lt;have e0:=hx1.cell 0 (v:=.int .i64 e.off) rfl;have e1:=hx1.cell 1 (v:=.string ru) rfl;have e2:=hx1.cell 2 (v:=.int .i64 e.save) rfl;have e11:=hx1.cell 11 (v:=.int .i64 e.ak) rfl;clear hb hx1 HX HB HRW HN;go_wp2_with fail;have HC:=Lib.hid (fun (W:World) (h:Below w1.heap.size w1 W)=>And.intro (HX1.out.below h HX1.out.lt) (HR1.out.below h))
        refine wp_env (fin:=?fna) (by kernel_rfl) [43,44,45,46,47,48,49,50,51,4,5]
         [.int .i64 n,.pointer (some ⟨w.heap.size,0,none⟩),.int .i64 e.off,.int .i64 (n - e.off),.agg #[.int .i64 e.off,.string ru,.int .i64 e.save,.string f,.bool true,.int .i64 e.year,.int .i64 e.month,.int .i64 e.dk,.int .i64 e.dw,.int .i64 e.dn,.int .i64 e.sec,.int .i64 e.ak],v,.int .i64 n,.int .i64 es,.int .i64 (n - e.off - es),.int .i64 (n - e.off - es),.int .i64 0] (by kernel_rfl) ?fina ?stepsa ?nexta
        case fina =>
         simp only [putAll,Act.put,List.setIfInBounds_toArray,List.set_cons_succ,List.set_cons_zero]
         rfl
        case stepsa =>
         refine ⟨?_,?_,?_,?_,?_,?_,?_,?_,?_,?_,?_,trivial⟩
         all_goals refine .inr ⟨by kernel_rfl,fun w1_ hB_=>?_⟩
         all_goals
          obtain ⟨hc,hr⟩:=HC.out w1_ hB_;have c0:=hc.cell 0 (v:=.int .i64 e.off) rfl;have c1:=hc.cell 1 (v:=.string ru) rfl;have c2:=hc.cell 2 (v:=.int .i64 e.save) rfl;have c3:=hc.cell 3 (v:=.string f) rfl;have c4:=hc.cell 4 (v:=.bool true) rfl;have c5:=hc.cell 5 (v:=.int .i64 e.year) rfl;have c6:=hc.cell 6 (v:=.int .i64 e.month) rfl;have c7:=hc.cell 7 (v:=.int .i64 e.dk) rfl;have c8:=hc.cell 8 (v:=.int .i64 e.dw) rfl;have c9:=hc.cell 9 (v:=.int .i64 e.dn) rfl;have c10:=hc.cell 10 (v:=.int .i64 e.sec) rfl;have c11:=hc.cell 11 (v:=.int .i64 e.ak) rfl;go_simp
          first
           | exact ⟨rfl,Below.refl _ _⟩
           | exact ⟨rfl,HA.out w1_ hr⟩
           | ((first | rw [decide_eq_true (by omega)] | rw [decide_eq_false (by omega)] | rw [if_pos (by omega)] | rw [IntWalk.i64_in _ (by omega)]);exact ⟨rfl,Below.refl _ _⟩)
           | done
        case nexta =>
        intro w2 hb2;have HB2:=Lib.hid (HB1.out.trans (hb2.mono HB1.out.size));clear hb2;go_wp2_with fail;go_ret2;exact ⟨by rw [HV.out,HE.out];rfl,HB2.out⟩
end
section -- Open
open Go Go.ChangeShapes Go.WideShapes Go.ChangeAt Go.RowKit
theorem wf_i64 {a:Int} (h:(Lit.int .i64 a).wf = true):-9223372036854775808 ≤ a∧a ≤ 9223372036854775807:=by
 simpa [Lit.wf,IntKind.min,IntKind.max,IntKind.signed,IntKind.bits] using h
end
section -- OpenS
open Go Go.ChangeShapes Go.WideShapes Go.ChangeAt Go.RowKit Go.Deep
section
variable {H:Type} {enc:TypeId × Value→H} {P:Program} {W:World}
theorem flat_len {α:Type} (f:α→List Value) (C:Nat) (l:List α) (h:∀ a ∈ l,(f a).length = C):(l.flatMap f).length = l.length * C:=by
 induction l with
 | nil=>simp
 | cons a l ih =>
   rw [List.flatMap_cons,List.length_append,h a (by simp),ih (fun b hb=>h b (by simp [hb])),List.length_cons,Nat.add_mul];omega
theorem flat_at {α:Type} (f:α→List Value) (C:Nat) (l:List α) (h:∀ a ∈ l,(f a).length = C) (i k:Nat) (hi:i < l.length) (hk:k < C):(l.flatMap f)[i * C + k]? = (f l[i])[k]?:=by
 induction l generalizing i with
 | nil=>exact absurd hi (by simp)
 | cons a l ih =>
   have ha:=h a (by simp);rw [List.flatMap_cons]
   rcases i with _ | i
   ·rw [Nat.zero_mul,Nat.zero_add,List.getElem?_append_left (by omega)]
    rfl
   ·rw [List.getElem?_append_right (by rw [ha,Nat.add_mul];omega),ha,show (i + 1) * C + k - C = i * C + k by rw [Nat.add_mul];omega,ih (fun b hb=>h b (by simp [hb])) i (by simpa using hi)]
    rfl
theorem open_list {α:Type} [Inhabited α] (f:α→List Value) (Pr:α→Prop) {T E:TypeId} {C:Nat} (hT:P.underlying T = some (.slice E)) (hC:P.cellsOf E = C) (h0:0 < C)
  (hel:∀ (n:Nat) (cs:List Value) (y:DataW H × List MemPlace),cs.length = C→DataW.trod enc P W 0 (fun _=>true) true n E cs = some y→∃ a,cs = f a∧Pr a)
  {n:Nat} {cs:List Value} {x:DataW H × List MemPlace} (h:DataW.trod enc P W 0 (fun _=>true) true n T cs = some x):∃ (v:Value) (l:List α),cs = [v]∧Sl W W.heap.size C v l.length (l.flatMap f)∧∀ a ∈ l,Pr a∧(f a).length = C:=by
 rcases open_slice hT h with ⟨rfl,_⟩ | ⟨a,len,cap,m,k,D,Pl,rfl,_,hl,hm,hmm,_,hx⟩
 ·exact ⟨_,[],rfl,Sl.nil _ _ _,fun a h=>by cases h⟩
 ·simp only [if_true] at hmm;subst hmm
  have each:∀ i,∃ q:α,i < len→W.cells? 0 (a.add (i * C)) C = some (f q)∧Pr q∧(f q).length = C:=fun i=>by
   by_cases hi:i < len
   ·obtain ⟨cs',h1,h2⟩:=hx i (by omega);rw [hC] at h1;obtain ⟨_,hlen,_⟩:=World.cells?_some h1;obtain ⟨q,rfl,hq⟩:=hel _ _ _ hlen h2;exact ⟨q,fun _=>⟨h1,hq,hlen⟩⟩
   ·exact ⟨default,fun h=>absurd h hi⟩
  obtain ⟨Q,hQ⟩:=Classical.axiomOfChoice each;have hlen:((List.range len).map Q).length = len:=by simp
  have hfl:∀ b ∈ (List.range len).map Q,Pr b∧(f b).length = C:=fun b hb=>by
   obtain ⟨i,hi,rfl⟩:=List.mem_map.1 hb;exact ⟨(hQ i (List.mem_range.1 hi)).2.1,(hQ i (List.mem_range.1 hi)).2.2⟩
  refine ⟨_,(List.range len).map Q,rfl,?_,hfl⟩;have hfl2:=flat_len f C _ (fun b hb=>(hfl b hb).2);rw [hlen] at hfl2 ⊢;refine ⟨_,_,rfl,hl,hm,hfl2,fun hp=>?_⟩;obtain ⟨b,o,spot⟩:=a;obtain ⟨_,_,hc0⟩:=World.cells?_some (hQ 0 hp).1;have h00:=hc0 0 h0;rw [List.getElem?_eq_getElem (by rw [(hQ 0 hp).2.2];exact h0)] at h00;have hspot:spot = none:=by simpa [Addr.add] using World.cell?_spot h00
  subst hspot;refine ⟨b,o,rfl,?_,fun j u hu=>?_⟩
  ·have:=World.block_lt_of_cell? W _ h00;simpa [Addr.add_lit] using this
  ·have hj:j < len * C:=by
    have:=(List.getElem?_eq_some_iff.1 hu).1
    rwa [hfl2] at this
   have hd:j / C < len:=Nat.div_lt_of_lt_mul (by rw [Nat.mul_comm];exact hj);have hr:j % C < C:=Nat.mod_lt _ h0;have he:j = j / C * C + j % C:=by rw [Nat.mul_comm];exact (Nat.div_add_mod j C).symm
   obtain ⟨_,hll,hcc⟩:=World.cells?_some (hQ (j / C) hd).1;have hc:=hcc (j % C) hr;rw [he,flat_at f C _ (fun b hb=>(hfl b hb).2) _ _ (by rw [hlen];exact hd) hr] at hu;simp only [List.getElem_map,List.getElem_range] at hu;rw [he];have e2:(some u:Option Value) = some ((f (Q (j / C)))[j % C]'(by omega)):=by rw [← hu];exact List.getElem?_eq_getElem _
   rw [Option.some.inj e2,← List.getElem?_eq_getElem];simpa [Addr.add_lit,Nat.add_assoc] using hc
end
end
section -- AWorld
open Go Go.RowKit Go.Shelf
structure EraF where
 n:EraN
 ru:ByteArray
 fm:ByteArray
 en:Bool
instance:Inhabited EraF:=⟨⟨⟨0,0,0,0,0,0,0,0,0⟩,⟨#[]⟩,⟨#[]⟩,false⟩⟩
def EraF.cells (x:EraF):List Value:=(eraC x.n x.ru x.fm x.en).toList
structure SetF where
 name:ByteArray
 v:Value
 l:List Rul
instance:Inhabited SetF:=⟨⟨⟨#[]⟩,.slice none 0 0,[]⟩⟩
def SetF.cells (x:SetF):List Value:=[.string x.name,x.v]
def ErasR (w:World) (B:Nat) (v:Value) (l:List EraF):Prop:=Sl w B 12 v l.length (l.flatMap EraF.cells)
def SetsR (w:World) (B:Nat) (v:Value) (S:List SetF):Prop:=Sl w B 2 v S.length (S.flatMap SetF.cells)∧∀ s ∈ S,Ruls w B s.v s.l
section
variable {w w':World} {B:Nat} {v:Value} {l:List EraF} {S:List SetF}
theorem ErasR.below (h:ErasR w B v l) (hb:Below B w w'):ErasR w' B v l:=Sl.below h hb
theorem SetsR.below (h:SetsR w B v S) (hb:Below B w w'):SetsR w' B v S:=⟨Sl.below h.1 hb,fun s hs=>(h.2 s hs).below hb⟩
theorem ErasR.form (h:ErasR w B v l):∃ A c,v = .slice A l.length c∧l.length ≤ c∧c ≤ maxLen:=by obtain ⟨A,c,e,h1,h2,_⟩:=h;exact ⟨A,c,e,h1,h2⟩
theorem SetsR.form (h:SetsR w B v S):∃ A c,v = .slice A S.length c∧S.length ≤ c∧c ≤ maxLen:=by obtain ⟨A,c,e,h1,h2,_⟩:=h.1;exact ⟨A,c,e,h1,h2⟩
def EraCc (W:World) (b o:Nat) (x:EraF):Prop:=W.cell? ⟨b,o,none⟩ = some (.int .i64 x.n.off)∧W.cell? ⟨b,o + 1,none⟩ = some (.string x.ru)∧W.cell? ⟨b,o + 2,none⟩ = some (.int .i64 x.n.save)∧W.cell? ⟨b,o + 3,none⟩ = some (.string x.fm)∧W.cell? ⟨b,o + 4,none⟩ = some (.bool x.en) ∧
 W.cell? ⟨b,o + 5,none⟩ = some (.int .i64 x.n.year)∧W.cell? ⟨b,o + 6,none⟩ = some (.int .i64 x.n.month)∧W.cell? ⟨b,o + 7,none⟩ = some (.int .i64 x.n.dk)∧W.cell? ⟨b,o + 8,none⟩ = some (.int .i64 x.n.dw)∧W.cell? ⟨b,o + 9,none⟩ = some (.int .i64 x.n.dn)∧W.cell? ⟨b,o + 10,none⟩ = some (.int .i64 x.n.sec)∧W.cell? ⟨b,o + 11,none⟩ = some (.int .i64 x.n.ak)
theorem ErasR.cells (h:ErasR w B v l) (hl:0 < l.length):∃ b o c,v = .slice (some ⟨b,o,none⟩) l.length c∧b < B∧∀ i (hi:i < l.length),EraCc w b (o + i * 12) l[i]:=by
 obtain ⟨b,o,c,e,hb,hc⟩:=Sl.at_ h hl;refine ⟨b,o,c,e,hb,fun i hi=>?_⟩
 have hk:∀ k u,k < 12→(EraF.cells l[i])[k]? = some u→w.cell? ⟨b,o + i * 12 + k,none⟩ = some u:=fun k u hk hu=>by
  rw [Nat.add_assoc];exact hc _ u (by rw [flat_at EraF.cells 12 l (fun a _=>rfl) i k hi hk];exact hu)
 exact ⟨hk 0 _ (by omega) rfl,hk 1 _ (by omega) rfl,hk 2 _ (by omega) rfl,hk 3 _ (by omega) rfl,hk 4 _ (by omega) rfl,hk 5 _ (by omega) rfl,hk 6 _ (by omega) rfl,hk 7 _ (by omega) rfl,hk 8 _ (by omega) rfl,hk 9 _ (by omega) rfl,hk 10 _ (by omega) rfl,hk 11 _ (by omega) rfl⟩
theorem SetsR.cells (h:SetsR w B v S) (hl:0 < S.length):∃ b o c,v = .slice (some ⟨b,o,none⟩) S.length c∧b < B∧∀ i (hi:i < S.length),w.cell? ⟨b,o + i * 2,none⟩ = some (.string S[i].name)∧w.cell? ⟨b,o + i * 2 + 1,none⟩ = some S[i].v:=by
 obtain ⟨b,o,c,e,hb,hc⟩:=Sl.at_ h.1 hl;refine ⟨b,o,c,e,hb,fun i hi=>?_⟩
 have hk:∀ k u,k < 2→(SetF.cells S[i])[k]? = some u→w.cell? ⟨b,o + i * 2 + k,none⟩ = some u:=fun k u hk hu=>by
  rw [Nat.add_assoc];exact hc _ u (by rw [flat_at SetF.cells 2 S (fun a _=>rfl) i k hi hk];exact hu)
 exact ⟨hk 0 _ (by omega) rfl,hk 1 _ (by omega) rfl⟩
end
def ofS (S:List SetF) (name:ByteArray):Option SetF:=S.find? fun s=>s.name.toList == name.toList
def ofVal (S:List SetF) (name:ByteArray):Value:=match ofS S name with | some s=>s.v | none=>.slice none 0 0
def ofRul (S:List SetF) (name:ByteArray):List Rul:=match ofS S name with | some s=>s.l | none=>[]
theorem SetsR.of_ruls {w:World} {B:Nat} {v:Value} {S:List SetF} (h:SetsR w B v S) (name:ByteArray):Ruls w B (ofVal S name) (ofRul S name):=by
 unfold ofVal ofRul
 cases hs:ofS S name with
 | none=>exact Sl.nil _ _ _
 | some s=>exact h.2 s (List.mem_of_find?_eq_some hs)
theorem ofVal_form {w:World} {B:Nat} {v:Value} {S:List SetF} (h:SetsR w B v S) (name:ByteArray):∃ A c,ofVal S name = .slice A (ofRul S name).length c:=by
 obtain ⟨A,c,e,_⟩:=(h.of_ruls name).form;exact ⟨A,c,e⟩
theorem ofS_drop {S:List SetF} {name:ByteArray} {k:Nat} (hk:k < S.length) (hno:∀ i (h:i < S.length),i < k→(S[i].name.toList == name.toList) = false) (hy:(S[k].name.toList == name.toList) = true):ofS S name = some S[k]:=by
 unfold ofS;rw [List.find?_eq_some_iff_getElem];exact ⟨hy,k,hk,rfl,fun j hj=>by rw [hno j (by omega) hj];rfl⟩
theorem ofS_none {S:List SetF} {name:ByteArray} (hno:∀ i (h:i < S.length),(S[i].name.toList == name.toList) = false):ofS S name = none:=by
 unfold ofS;rw [List.find?_eq_none];intro x hx;obtain ⟨i,hi,rfl⟩:=List.getElem_of_mem hx;rw [hno i hi];decide
def worldA (zn:ByteArray) (ev sv:Value):Value:=.agg #[.string zn,ev,sv]
theorem wof_any (w:World) (zn:ByteArray) (ev sv:Value) (B:Nat) (S:List SetF) (hs:SetsR w B sv S) (hB:B ≤ w.heap.size) (name:ByteArray) :
  Calls Tryz.prog 15 #[worldA zn ev sv,.string name] w fun o w'=>o = .returned (ofVal S name)∧Below w.heap.size w w':=by
 have hb0:Below w.heap.size w (w.alloc (.cells #[.string zn,ev,sv] 27)):=(Below.refl w.heap.size w).alloc (Nat.le_refl _) _;have HX:=Lib.hid (Blk.new w 27 #[.string zn,ev,sv]);have HS:=Lib.hid (hs.below (hb0.mono hB));have HB:=Lib.hid hb0;obtain ⟨A,c,rfl,hlc,hcm⟩:=hs.form;unfold maxLen at hcm;unfold worldA;clear hs hb0;obtain ⟨W0,hW0⟩:∃ W,w.alloc (.cells #[.string zn,ev,.slice A S.length c] 27) = W:=⟨_,rfl⟩;go_enter Tryz.func15,Tryz.ntmps15;go_wp2_with fail;rw [hW0] at HX HS HB;try simp only [hW0]
 have hxl:=HX.out.lt;clear hW0;have x2:=HX.out.cell 2 (v:=.slice A S.length c) rfl
 go_loopw [5] (fun iv wr=>∃ k:Nat,k ≤ S.length∧iv = .int .i64 k∧wr = W0∧∀ i (h:i < S.length),i < k→(S[i].name.toList == name.toList) = false) (fun iv _=>S.length - (intOf iv).toNat)
 case atStart=>exact ⟨0,Nat.zero_le _,rfl,rfl,fun i _ h=>absurd h (by omega)⟩
 case round =>
  obtain ⟨k,hk,rfl,rfl,hno⟩:=hrel;have HNO:=Lib.hid hno;clear hno
  by_cases hlt:k < S.length
  ·have hd:decide ((k:Int) < (S.length:Int)) = true:=decide_eq_true (by omega);obtain ⟨bb,o1,c',e,hbb,hc⟩:=HS.out.cells (by omega)
   cases e
   obtain ⟨c0,c1⟩:=hc k hlt;have HD:=Lib.hid (fun h=>ofS_drop (name:=name) hlt HNO.out h);obtain ⟨s,hsk⟩:∃ s,S[k] = s:=⟨_,rfl⟩;have HSK:=Lib.hid hsk;rw [hsk] at c0 c1 HD;clear hc hsk
   cases hq:(s.name.toList == name.toList) with
   | true =>
     have HV:=Lib.hid (show ofVal S name = s.v by unfold ofVal;rw [HD.out hq]);clear HD;go_wp2_with fail;go_ret;exact ⟨by rw [HV.out];rfl,HB.out⟩
   | false =>
     have HQ:=Lib.hid hq;go_wp2_with fail;go_roundw
     case rel =>
      refine ⟨k + 1,by omega,by go_num,by trivial,fun i h hik=>?_⟩
      rcases Nat.lt_or_ge i k with g | g
      ·exact HNO.out i h g
      ·obtain rfl:i = k:=by omega
       rw [HSK.out];exact HQ.out
     case measure=>simp [intOf];omega
  ·have hd:decide ((k:Int) < (S.length:Int)) = false:=decide_eq_false (by omega);have HV:=Lib.hid (show ofVal S name = .slice none 0 0 by unfold ofVal;rw [ofS_none (fun i h=>HNO.out i h (by omega))]);go_wp2_with fail;go_ret;exact ⟨by rw [HV.out];rfl,HB.out⟩
end
section -- ARefW
open Go Go.RowKit Go.Shelf
theorem fris_other {W W':World} {B X:Nat} {v:Value} {D:List FrI} {t:TypeId} {cs:Array Value} {A:Option Addr} {n c:Nat} {s:ByteArray} (h:Fris W B v D) (hx:Blk W X t cs) (h0:cs = #[.slice A n c,.string s]) (hB:B = W.heap.size) (hf:Fr (fun k=>k = X) W W') (hs:W'.heap.size = W.heap.size):Fris W' W'.heap.size v D:=by
 subst h0;obtain ⟨A2,c2,e,h1,h2,h3,h4⟩:=h;refine ⟨A2,c2,e,h1,h2,h3,fun hp=>?_⟩;obtain ⟨b,o,rfl,hb,hc⟩:=h4 hp
 have hbX:b ≠ X:=fun e2=>by
  subst e2
  cases D with
  | nil=>exact absurd hp (by simp)
  | cons x D =>
    have hc0:=hc 0 (.int .i64 x.f.nominal) rfl;rw [Nat.add_zero] at hc0
    have hcell:W.cell? ⟨b,o,none⟩ = (#[Value.slice A n c,.string s])[o]?:=by
     simp [World.cell?,show W.heap[b]? = _ from hx]
    rw [hcell] at hc0
    rcases o with _ | _ | o
    ·simp at hc0
    ·simp at hc0
    ·simp at hc0
 exact ⟨b,o,rfl,by omega,fun j u hu=>(hf.cell (by show b < _;omega) hbX).trans (hc j u hu)⟩
theorem rof_any (w:World) (B:Nat) (v:Value) (l:List Rul) (hv:Ruls w B v l) (hB:B ≤ w.heap.size) (hs:smallB l = true) :
  Calls Tryz.prog 104 #[v] w fun e w'=>∃ u D,e = .returned (.agg #[u,.string (letV l)])∧Stab Fir.nominal (genL l 1890 2110) (D.map FrI.f)∧FrisN w' u D∧Below w.heap.size w w':=by
 obtain ⟨A,c,rfl,-,-⟩:=hv.form;have hb0:Below w.heap.size w (w.alloc (.cells #[.slice none 0 0,.string ⟨#[]⟩] 121)):=(Below.refl w.heap.size w).alloc (Nat.le_refl _) _;have HX:=Lib.hid (Blk.new w 121 #[.slice none 0 0,.string ⟨#[]⟩]);have HA:=Lib.hid (rall_any _ B _ l 1890 2110 (hv.below (hb0.mono hB)) (Nat.le_trans hB hb0.size) hs (by omega) (by omega));have HL:=Lib.hid (fun (W:World) (hb:Below w.heap.size w W)=>rletter_any W B _ l (hv.below (hb.mono hB)) (Nat.le_trans hB hb.size) (by have:=(small_all hs).2;omega) (fun z hz=>small_mo ((small_all hs).1 z hz)));have HB:=Lib.hid hb0;clear hv hb0;go_enter Tryz.func104,Tryz.ntmps104;go_wp2_with fail;refine HA.out.mono ?_;rintro e w1 ⟨u,D,rfl,hst,-,⟨hfr,hfn⟩,hb⟩;have HFN:=Lib.hid hfn;have HX1:=Lib.hid (HX.out.below hb HX.out.lt);have HB1:=Lib.hid (HB.out.trans (hb.mono HB.out.size));have HST:=Lib.hid hst;have HFR:=Lib.hid hfr;clear hb hst hfr hfn HX HB HA;go_wp2_with fail;refine (HL.out _ HB1.out).mono ?_;rintro e w2 ⟨rfl,hb⟩;have hx2:=HX1.out.below hb HX1.out.lt;have HX2:=Lib.hid hx2;have HB2:=Lib.hid (HB1.out.trans (hb.mono HB1.out.size));have HF2:=Lib.hid (Sl.more (Sl.below HFR.out hb) hb.size);have HFN2:=Lib.hid (HFN.out.below hb);have hl2:=hx2.lt;have r0:=hx2.cell 0 (v:=.slice none 0 0) rfl;have r1:=hx2.cell 1 (v:=.string ⟨#[]⟩) rfl;have f0:=hx2.frozen 0;have f1:=hx2.frozen 1;clear hb hx2 HFR HX1 HB1;obtain ⟨A2,c2,rfl,-,-⟩:=(show Fris w2 w2.heap.size u D from HF2.out).form;go_wp2_with fail;have HY:=Lib.hid ((HX2.out.set 0 (.slice A2 D.length c2)).set 1 (.string (letV l)));have v0:=HY.out.cell 0 (v:=.slice A2 D.length c2) rfl;have v1:=HY.out.cell 1 (v:=.string (letV l)) rfl;refine bodyPost_ret (v:=.agg #[.slice A2 D.length c2,.string (letV l)]) ?_ rfl ⟨_,D,rfl,HST.out,?_,(HB2.out.setCell (by simp) _).setCell (by simp) _⟩
 ·simp [results,Tryz.f104,go_sem,v0,v1]
 ·exact ⟨fris_other HF2.out HX2.out (by rfl) (by rfl) ((Fr.setCell (T:=fun k=>k = w.heap.size) w2 0 _ rfl).then (Fr.setCell _ 1 _ rfl)) (by simp),HFN2.out.kept fun b cs fr h1=>((Fr.setCell (T:=fun k=>k = w.heap.size) w2 0 _ rfl).then (Fr.setCell _ 1 _ rfl)).block b (Array.getElem?_eq_some_iff.1 h1).1 (fun e=>by have h2:=HX2.out;subst e;unfold Blk at h2;rw [h1] at h2;injection h2 with h2;injection h2 with _ h2;revert h2;decide)⟩
def rsavesV (e:EraN) (ru:ByteArray) (A:List Fir) (letter:ByteArray) (k:Nat):Int × ByteArray :=
 if ru.size = 0 then (e.save,⟨#[]⟩) else match prevO A k with
  | some f=>(f.save,f.letter)
  | none=>(0,letter)
theorem prevO_next {A:List Fir} {k i:Nat} (hi:i < A.length) (hik:i < k):prevO A (min (i + 1) k) = some A[i]:=by
 rw [show min (i + 1) k = i + 1 by omega];exact prevO_succ hi
def pairO (o:Option Fir) (letter:ByteArray):Int × ByteArray:=match o with | some f=>(f.save,f.letter) | none=>(0,letter)
theorem rwithin_any (w:World) (e:EraN) (ru f:ByteArray) (en:Bool) (B:Nat) (u:Value) (D:List FrI) (letter:ByteArray) (hu:Fris w B u D) (hB:B ≤ w.heap.size) (hl:D.length ≤ 100000) (hr:∀ x ∈ D,(-1000000000000000 ≤ x.f.nominal∧x.f.nominal ≤ 1000000000000000)∧-1000000000000000 ≤ x.f.save∧x.f.save ≤ 1000000000000000)
  (i:Int) (k:Nat) (hk:ru.size ≠ 0→Cut (D.map FrI.f) (instA (D.map FrI.f) e.off) (i + 1) k) (hs:f.size < 4294967281) (ho:-1000000000000000 ≤ e.off∧e.off ≤ 1000000000000000)
  (hsum:(-1000000000000000 ≤ (rsavesV e ru (D.map FrI.f) letter k).1∧(rsavesV e ru (D.map FrI.f) letter k).1 ≤ 1000000000000000)∧(rsavesV e ru (D.map FrI.f) letter k).2.size ≤ 140737488351232) :
  Calls Tryz.prog 75 #[eraA e ru f en,.agg #[u,.string letter],.int .i64 i] w fun o w'=>o = .returned (.tuple #[.agg #[.int .i64 (e.off + (rsavesV e ru (D.map FrI.f) letter k).1),.bool (dstB (rsavesV e ru (D.map FrI.f) letter k).1),.string (showV f (e.off + (rsavesV e ru (D.map FrI.f) letter k).1) (dstB (rsavesV e ru (D.map FrI.f) letter k).1) (rsavesV e ru (D.map FrI.f) letter k).2).1],.bool (decide ((showV f (e.off + (rsavesV e ru (D.map FrI.f) letter k).1) (dstB (rsavesV e ru (D.map FrI.f) letter k).1) (rsavesV e ru (D.map FrI.f) letter k).2).2 = 0))])∧Below w.heap.size w w':=by
 obtain ⟨A,c,rfl,hlc,hcm⟩:=hu.form;unfold maxLen at hcm;have hb0:Below w.heap.size w (((w.alloc (.cells (eraC e ru f en) 42)).alloc (.cells #[.slice A D.length c,.string letter] 121)).alloc (.cells #[.int .i64 0,.bool false,.string ⟨#[]⟩] 48)):=(((Below.refl w.heap.size w).alloc (Nat.le_refl _) _).alloc (by simp) _).alloc (by simp;omega) _;have hx0:=((Blk.new w 42 (eraC e ru f en)).alloc (.cells #[.slice A D.length c,.string letter] 121)).alloc (.cells #[.int .i64 0,.bool false,.string ⟨#[]⟩] 48);have hy0:=(Blk.new (w.alloc (.cells (eraC e ru f en) 42)) 121 #[.slice A D.length c,.string letter]).alloc (.cells #[.int .i64 0,.bool false,.string ⟨#[]⟩] 48);have hr0:=Blk.new ((w.alloc (.cells (eraC e ru f en) 42)).alloc (.cells #[.slice A D.length c,.string letter] 121)) 48 #[.int .i64 0,.bool false,.string ⟨#[]⟩];simp only [World.size_alloc] at hy0 hr0;have HU:=Lib.hid (hu.below (hb0.mono hB));have HX:=Lib.hid hx0;have HY:=Lib.hid hy0;have HR:=Lib.hid hr0;have HB:=Lib.hid hb0;have HRG:=Lib.hid hr;clear hb0 hx0 hy0 hr0 hu hr;unfold eraA;unfold eraC at HX HY HR HB HU;obtain ⟨⟨sv,lt⟩,hsl⟩:∃ x,rsavesV e ru (D.map FrI.f) letter k = x:=⟨_,rfl⟩;rw [hsl] at hsum ⊢;simp only at hsum ⊢;obtain ⟨⟨hsv1,hsv2⟩,hlt⟩:=hsum;have HSH:=Lib.hid (fun W=>rshow_any f (e.off + sv) (dstB sv) lt W hs hlt);obtain ⟨⟨s,err⟩,hse⟩:∃ x,showV f (e.off + sv) (dstB sv) lt = x:=⟨_,rfl⟩;rw [hse] at HSH ⊢;simp only at HSH ⊢;obtain ⟨ok,hok⟩:∃ x,decide (err = 0) = x:=⟨_,rfl⟩;rw [hok] at HSH ⊢;unfold dstB at *;clear hse hok
 by_cases hru:ru.size = 0
 ·have hem:(ru.toList == []) = true:=by rw [emp_size,decide_eq_true hru]
  have hq:sv = e.save∧lt = ⟨#[]⟩:=by
   unfold rsavesV at hsl;rw [if_pos hru] at hsl;injection hsl with h1 h2
   exact ⟨h1.symm,h2.symm⟩
  obtain ⟨rfl,rfl⟩:=hq;clear hsl hru hk;go_enter Tryz.func75,Tryz.ntmps75;go_wp2_with fail;refine (HSH.out _).mono ?_;rintro o2 w5 ⟨rfl,hb⟩;have hx5:=HX.out.below hb HX.out.lt;have HR5:=Lib.hid (HR.out.below hb HR.out.lt);have HB5:=Lib.hid (HB.out.trans (hb.mono HB.out.size));have hx5l:=hx5.lt;have hr5l:=HR5.out.lt;have e0:=hx5.cell 0 (v:=.int .i64 e.off) rfl;have r0:=HR5.out.cell 0 (v:=.int .i64 0) rfl;have r1:=HR5.out.cell 1 (v:=.bool false) rfl;have r2:=HR5.out.cell 2 (v:=.string ⟨#[]⟩) rfl;have f0:=HR5.out.frozen 0;have f1:=HR5.out.frozen 1;have f2:=HR5.out.frozen 2;clear hb hx5;go_wp2_with fail;have HZ:=Lib.hid (((HR5.out.set 0 (.int .i64 (e.off + e.save))).set 1 (.bool (e.save != 0))).set 2 (.string s));have c0:=HZ.out.cell 0 (v:=.int .i64 (e.off + e.save)) rfl;have c1:=HZ.out.cell 1 (v:=.bool (e.save != 0)) rfl;have c2:=HZ.out.cell 2 (v:=.string s) rfl;refine bodyPost_ret (v:=.tuple #[.agg #[.int .i64 (e.off + e.save),.bool (e.save != 0),.string s],.bool ok]) ?_ rfl ⟨rfl,below_set3 HB5.out (by omega) _ _ _⟩;simp [results,Tryz.f75,go_sem,c0,c1,c2]
 ·have hem:(ru.toList == []) = false:=by rw [emp_size,decide_eq_false hru]
  have HCUT:=Lib.hid (hk hru);have HSL:=Lib.hid (show (sv,lt) = pairO (prevO (D.map FrI.f) k) letter by rw [← hsl];unfold rsavesV pairO;rw [if_neg hru]);have hkl:k ≤ D.length:=by have:=(hk hru).1;rwa [List.length_map] at this
  clear hsl hru hk;go_enter Tryz.func75,Tryz.ntmps75;go_wp2_with fail;obtain ⟨W0,hW0⟩:∃ W,(((w.alloc (.cells #[.int .i64 e.off,.string ru,.int .i64 e.save,.string f,.bool en,.int .i64 e.year,.int .i64 e.month,.int .i64 e.dk,.int .i64 e.dw,.int .i64 e.dn,.int .i64 e.sec,.int .i64 e.ak] 42)).alloc (.cells #[.slice A D.length c,.string letter] 121)).alloc (.cells #[.int .i64 0,.bool false,.string ⟨#[]⟩] 48)) = W:=⟨_,rfl⟩;rw [hW0] at HX HY HR HB HU;try simp only [hW0]
  clear hW0
  go_loopw [8,9,10] (fun sv9 lt9 iv wr=>∃ j:Nat,j ≤ D.length∧iv = .int .i64 j∧sv9 = .int .i64 (pairO (prevO (D.map FrI.f) (min j k)) letter).1∧lt9 = .string (pairO (prevO (D.map FrI.f) (min j k)) letter).2∧Below W0.heap.size W0 wr) (fun _ _ iv _=>D.length - (intOf iv).toNat)
  case atStart=>exact ⟨0,Nat.zero_le _,rfl,by rw [Nat.zero_min];rfl,by rw [Nat.zero_min];rfl,Below.refl _ _⟩
  case round =>
   obtain ⟨j,hj,rfl,rfl,rfl,hbw⟩:=hrel;have HBI:=Lib.hid hbw;have HXW:=Lib.hid (HX.out.below hbw HX.out.lt);have HYW:=Lib.hid (HY.out.below hbw HY.out.lt);have HRW:=Lib.hid (HR.out.below hbw HR.out.lt);have HBW:=Lib.hid (HB.out.trans (hbw.mono HB.out.size));have HUW:=Lib.hid (HU.out.below (hbw.mono (Nat.le_trans hB HB.out.size)));have hws:=HBW.out.size;have e0:=HXW.out.cell 0 (v:=.int .i64 e.off) rfl;have e3:=HXW.out.cell 3 (v:=.string f) rfl;have y0:=HYW.out.cell 0 (v:=.slice A D.length c) rfl;have hxl:=HXW.out.lt;have hyl:=HYW.out.lt;clear hbw;obtain ⟨p,hp⟩:∃ p,pairO (prevO (D.map FrI.f) (min j k)) letter = p:=⟨_,rfl⟩;rw [hp];have HP:=Lib.hid hp
   by_cases hlt2:j < D.length
   ·have hd:decide ((j:Int) < (D.length:Int)) = true:=decide_eq_true (by omega);have HIN:=Lib.hid (rinst_any wr B _ D HUW.out (Nat.le_trans hB hws) hl HRG.out j hlt2 e.off ho);have hcm2:=HCUT.out.2 j (by rw [List.length_map];exact hlt2);obtain ⟨ins,hins⟩:∃ x,instA (D.map FrI.f) e.off j = x:=⟨_,rfl⟩;rw [hins] at HIN hcm2;obtain ⟨bb,o,c',e9,hbb,hc⟩:=HUW.out.cells (by omega)
    cases e9
    obtain ⟨-,-,c2,-,c4⟩:=hc j hlt2;obtain ⟨x,hx⟩:∃ x,D[j] = x:=⟨_,rfl⟩;rw [hx] at c2 c4;have HDX:=Lib.hid (show (D.map FrI.f)[j]'(by rw [List.length_map];exact hlt2) = x.f by rw [List.getElem_map,hx]);clear hins hc hx hp
    by_cases hle:ins ≤ i
    ·have hd2:decide (ins ≤ i) = true:=decide_eq_true hle
     have HNX:=Lib.hid (show pairO (prevO (D.map FrI.f) (min (j + 1) k)) letter = (x.f.save,x.f.letter) by
      rw [prevO_next (by rw [List.length_map];exact hlt2) (by omega),HDX.out];rfl)
     go_wp2_with fail;refine HIN.out.mono ?_;rintro o2 w2 ⟨rfl,hb⟩;have hx2:=HXW.out.below hb hxl;have hy2:=HYW.out.below hb hyl;have y0:=hy2.cell 0 (v:=.slice (some ⟨bb,o,none⟩) D.length c) rfl;have d2:=(hb.cell (p:=⟨bb,o + j * 5 + 2,none⟩) (by show bb < _;omega)).trans c2;have d4:=(hb.cell (p:=⟨bb,o + j * 5 + 4,none⟩) (by show bb < _;omega)).trans c4;have HB2:=Lib.hid (HBI.out.trans (hb.mono HBI.out.size));have hyl2:=hy2.lt;have hbl2:bb < w2.heap.size:=by have:=hb.size;omega
     clear hb hx2 hy2 HIN c2 c4;go_wp2_with fail;go_roundw
     case rel=>exact ⟨j + 1,by omega,by go_num,by rw [HNX.out],by rw [HNX.out],HB2.out⟩
     case measure=>simp [intOf];omega
    ·have hd2:decide (ins ≤ i) = false:=decide_eq_false hle
     have HNX:=Lib.hid (show pairO (prevO (D.map FrI.f) (min (j + 1) k)) letter = p by
      rw [← HP.out,show min (j + 1) k = min j k by omega])
     go_wp2_with fail;refine HIN.out.mono ?_;rintro o2 w2 ⟨rfl,hb⟩;have HB2:=Lib.hid (HBI.out.trans (hb.mono HBI.out.size));clear hb HIN;go_wp2_with fail;go_roundw
     case rel=>exact ⟨j + 1,by omega,by go_num,by rw [HNX.out],by rw [HNX.out],HB2.out⟩
     case measure=>simp [intOf];omega
   ·obtain rfl:j = D.length:=by omega
    have hd:decide ((D.length:Int) < (D.length:Int)) = false:=decide_eq_false (by omega)
    obtain ⟨rfl,rfl⟩:sv = p.1∧lt = p.2:=by
     have h:=HSL.out;rw [show min D.length k = k by omega] at hp;rw [hp] at h;rw [← h];exact ⟨rfl,rfl⟩
    obtain ⟨sv,lt⟩:=p;clear hp HP HSL;go_wp2_with fail;refine (HSH.out _).mono ?_;rintro o2 w5 ⟨rfl,hb⟩;have hx5:=HXW.out.below hb HXW.out.lt;have HR5:=Lib.hid (HRW.out.below hb HRW.out.lt);have HB5:=Lib.hid (HBW.out.trans (hb.mono HBW.out.size));have hx5l:=hx5.lt;have hr5l:=HR5.out.lt;have e0:=hx5.cell 0 (v:=.int .i64 e.off) rfl;have r0:=HR5.out.cell 0 (v:=.int .i64 0) rfl;have r1:=HR5.out.cell 1 (v:=.bool false) rfl;have r2:=HR5.out.cell 2 (v:=.string ⟨#[]⟩) rfl;have f0:=HR5.out.frozen 0;have f1:=HR5.out.frozen 1;have f2:=HR5.out.frozen 2;clear hb hx5;go_wp2_with fail;have HZ:=Lib.hid (((HR5.out.set 0 (.int .i64 (e.off + sv))).set 1 (.bool (sv != 0))).set 2 (.string s));have c0:=HZ.out.cell 0 (v:=.int .i64 (e.off + sv)) rfl;have c1:=HZ.out.cell 1 (v:=.bool (sv != 0)) rfl;have c2:=HZ.out.cell 2 (v:=.string s) rfl;refine bodyPost_ret (v:=.tuple #[.agg #[.int .i64 (e.off + sv),.bool (sv != 0),.string s],.bool ok]) ?_ rfl ⟨rfl,below_set3 HB5.out (by omega) _ _ _⟩;simp [results,Tryz.f75,go_sem,c0,c1,c2]
end
section -- ARefN
open Go Go.RowKit Go.Shelf
def EndOk (e:EraN):Prop:=(1900 ≤ e.year∧e.year ≤ 2090)∧(1 ≤ e.month∧e.month ≤ 12)∧(-172800 ≤ e.sec∧e.sec ≤ 259200)∧dayOkB e.dk e.dw e.dn = true
def rnomB (e:EraN):Bool:=decide (e.dn ≤ lenV e.year e.month)
def rnomV (e:EraN):Int:=if rnomB e then nomV e else e.sec
theorem EndOk.day_in {e:EraN} (h:EndOk e) (hb:rnomB e = true):-26000 ≤ inDay e.dk e.dw e.dn e.year e.month∧inDay e.dk e.dw e.dn e.year e.month ≤ 45000:=by
 obtain ⟨⟨y1,y2⟩,⟨m1,m2⟩,-,hd⟩:=h;obtain ⟨d1,-,d3⟩:=inDay_in (y:=e.year) hd m1 m2 (of_decide_eq_true hb);have e1:=yearV_mono y1;have e2:=yearV_mono (show e.year + 1 ≤ 2091 by omega);have e3:yearV 1900 = -25567:=by decide
 have e4:yearV 2091 = 44195:=by decide
 omega
theorem EndOk.nom_in {e:EraN} (h:EndOk e):(-2500000000 ≤ nomV e∧nomV e ≤ 4000000000)∨rnomB e = false:=by
 cases hb:rnomB e with
 | false=>exact .inr rfl
 | true =>
   have:=h.day_in hb;have:=h.2.2.1
   left
   unfold nomV;omega
theorem EndOk.rnom_in {e:EraN} (h:EndOk e):-2500000000 ≤ rnomV e∧rnomV e ≤ 4000000000:=by
 unfold rnomV;have:=h.2.2.1
 split
 ·rename_i hb
  rcases h.nom_in with h2 | h2
  ·exact h2
  ·rw [h2] at hb;exact absurd hb (by decide)
 ·omega
theorem EndOk.nomB_eq {e:EraN} (h:EndOk e) (hk:0 ≤ e.ak∧e.ak ≤ 2):nomB e = rnomB e:=by
 have ⟨⟨y1,y2⟩,⟨m1,m2⟩,⟨s1,s2⟩,hd⟩:=h;unfold nomB inOkB inB ymB mayB;rw [hd,decide_eq_true (p:=0 ≤ e.ak∧e.ak ≤ 2) hk,decide_eq_true (p:=-604800 < e.sec∧e.sec < 604800) ⟨by omega,by omega⟩,decide_eq_true (p:=-100000 ≤ e.year∧e.year ≤ 100000∧1 ≤ e.month∧e.month ≤ 12) ⟨by omega,by omega,m1,m2⟩]
 show (decide _ && _ && true && true) = rnomB e
 cases hb:rnomB e with
 | false =>
   unfold rnomB at hb;rw [hb]
   rfl
 | true =>
   have hday:=h.day_in hb;have hof:ofInB (inDay e.dk e.dw e.dn e.year e.month) = true:=by unfold ofInB;rw [decide_eq_true_eq];omega
   unfold rnomB at hb;rw [hb,hof,Bool.or_true]
   rfl
theorem rnominal_any (w:World) (e:EraN) (h:EndOk e) :
  Calls Tryz.prog 105 #[untilA e] w fun o w'=>o = .returned (.tuple #[.int .i64 (rnomV e),.bool (rnomB e)])∧Below w.heap.size w w':=by
 have hb0:Below w.heap.size w (w.alloc (.cells #[.int .i64 e.year,.int .i64 e.month,.int .i64 e.dk,.int .i64 e.dw,.int .i64 e.dn,.int .i64 e.sec,.int .i64 e.ak] 40)):=(Below.refl w.heap.size w).alloc (Nat.le_refl _) _;have hx0:=Blk.new w 40 #[.int .i64 e.year,.int .i64 e.month,.int .i64 e.dk,.int .i64 e.dw,.int .i64 e.dn,.int .i64 e.sec,.int .i64 e.ak];have ⟨⟨y1,y2⟩,⟨m1,m2⟩,⟨s1,s2⟩,hd⟩:=h;have HD:=Lib.hid (fun W=>rday_any e.dk e.dw e.dn e.year e.month hd (by omega) (by omega) m1 m2 W);have HDAY:=Lib.hid (fun hb=>h.day_in hb);unfold RDay dayA at HD;have HB0:=Lib.hid hb0;have HX0:=Lib.hid hx0;unfold untilA;clear hb0 hx0 hd h
 cases hb:rnomB e with
 | false =>
   have HV:=Lib.hid (show rnomV e = e.sec by unfold rnomV;rw [hb];rfl);have hb2:¬ e.dn ≤ lenV e.year e.month:=of_decide_eq_false hb;simp only [hb2,if_false] at HD;clear hb hb2 HDAY;go_enter Tryz.func105,Tryz.ntmps105;go_wp2_with fail;refine (HD.out _).mono ?_;rintro o w1 ⟨rfl,hb⟩;have HB1:=Lib.hid (HB0.out.trans (hb.mono HB0.out.size));have hx1:=HX0.out.below hb HX0.out.lt;have hx1l:=hx1.lt;have q5:=hx1.cell 5 (v:=.int .i64 e.sec) rfl;clear hb hx1;go_wp2_with fail;go_ret2;exact ⟨by rw [HV.out];first | rfl | simp,HB1.out⟩
 | true =>
   have HV:=Lib.hid (show rnomV e = 86400 * inDay e.dk e.dw e.dn e.year e.month + e.sec by unfold rnomV;rw [hb,if_pos rfl];unfold nomV;omega);have hdi:=HDAY.out hb;have hb2:e.dn ≤ lenV e.year e.month:=of_decide_eq_true hb;simp only [hb2,if_true] at HD;obtain ⟨d,hdd⟩:∃ d,inDay e.dk e.dw e.dn e.year e.month = d:=⟨_,rfl⟩;rw [hdd] at HD HV hdi;clear hb hb2 HDAY hdd;go_enter Tryz.func105,Tryz.ntmps105;go_wp2_with fail;refine (HD.out _).mono ?_;rintro o w1 ⟨rfl,hb⟩;have HB1:=Lib.hid (HB0.out.trans (hb.mono HB0.out.size));have hx1:=HX0.out.below hb HX0.out.lt;have hx1l:=hx1.lt;have q5:=hx1.cell 5 (v:=.int .i64 e.sec) rfl;clear hb hx1;go_wp2_with fail;go_ret2;exact ⟨by rw [HV.out];first | rfl | simp,HB1.out⟩
end
section -- ARefE
open Go Go.RowKit Go.Shelf
def rendV (e:EraN) (ru:ByteArray) (A:List Fir):Int :=
 if e.ak = 2 then rnomV e else if e.ak = 1 then rnomV e - e.off else if ru.size = 0 then rnomV e - e.off - e.save else rnomV e - e.off - refSave A e.off (rnomV e - e.off) 0 0 A.length
theorem rend_any (w:World) (e:EraN) (ru f:ByteArray) (en:Bool) (B:Nat) (u:Value) (D:List FrI) (letter:ByteArray) (hu:Fris w B u D) (hB:B ≤ w.heap.size) (hl:D.length ≤ 100000) (hr:∀ x ∈ D,(-1000000000000000 ≤ x.f.nominal∧x.f.nominal ≤ 1000000000000000)∧-1000000000000000 ≤ x.f.save∧x.f.save ≤ 1000000000000000)
  (h:EndOk e) (ho:-1000000000000000 ≤ e.off∧e.off ≤ 1000000000000000) (hsv:-1000000000000000 ≤ e.save∧e.save ≤ 1000000000000000) :
  Calls Tryz.prog 63 #[eraA e ru f en,.agg #[u,.string letter]] w fun o w'=>o = .returned (.int .i64 (rendV e ru (D.map FrI.f)))∧Below w.heap.size w w':=by
 obtain ⟨A,c,rfl,hlc,hcm⟩:=hu.form;unfold maxLen at hcm;have hb0:Below w.heap.size w ((w.alloc (.cells (eraC e ru f en) 42)).alloc (.cells #[.slice A D.length c,.string letter] 121)):=((Below.refl w.heap.size w).alloc (Nat.le_refl _) _).alloc (by simp) _;have hx0:=(Blk.new w 42 (eraC e ru f en)).alloc (.cells #[.slice A D.length c,.string letter] 121);have hy0:=Blk.new (w.alloc (.cells (eraC e ru f en) 42)) 121 #[.slice A D.length c,.string letter];simp only [World.size_alloc] at hy0;have HN:=Lib.hid (rnominal_any ((w.alloc (.cells (eraC e ru f en) 42)).alloc (.cells #[.slice A D.length c,.string letter] 121)) e h);have HU:=Lib.hid (hu.below (hb0.mono hB));have HX:=Lib.hid hx0;have HY:=Lib.hid hy0;have HB:=Lib.hid hb0;have HRG:=Lib.hid hr;have hn:=h.rnom_in;clear hb0 hx0 hy0 hu hr h;obtain ⟨en_,hen_⟩:∃ x,rendV e ru (D.map FrI.f) = x:=⟨_,rfl⟩;rw [hen_];have HE:=Lib.hid (show en_ = if e.ak = 2 then rnomV e else if e.ak = 1 then rnomV e - e.off else if ru.size = 0 then rnomV e - e.off - e.save else rnomV e - e.off - refSave (D.map FrI.f) e.off (rnomV e - e.off) 0 0 (D.map FrI.f).length from hen_.symm);clear hen_;generalize rnomV e = n at *;generalize rnomB e = nb at *;unfold eraA;unfold untilA at HN;unfold eraC at HB HN HX HY HU
 by_cases hk2:e.ak = 2
 ·have d1:(e.ak == 2) = true:=by simpa using hk2
  have HV:=Lib.hid (show en_ = n by rw [HE.out,if_pos hk2]);clear hk2;go_enter Tryz.func63,Tryz.ntmps63;go_wp2_with fail;refine HN.out.mono ?_;rintro o w1 ⟨rfl,hb⟩;have HX1:=Lib.hid (HX.out.below hb HX.out.lt);have HY1:=Lib.hid (HY.out.below hb HY.out.lt);have HB1:=Lib.hid (HB.out.trans (hb.mono HB.out.size));have HU1:=Lib.hid (HU.out.below (hb.mono (Nat.le_trans hB HB.out.size)));have hl1:=HX1.out.lt;have hyl1:=HY1.out.lt;have hs1:=HB1.out.size;have e0:=HX1.out.cell 0 (v:=.int .i64 e.off) rfl;have e1:=HX1.out.cell 1 (v:=.string ru) rfl;have e2:=HX1.out.cell 2 (v:=.int .i64 e.save) rfl;have e11:=HX1.out.cell 11 (v:=.int .i64 e.ak) rfl;clear hb HX HY HB HU HN;go_wp2_with fail;go_ret;exact ⟨by rw [HV.out];rfl,HB1.out⟩
 ·have d1:(e.ak == 2) = false:=by simpa using hk2
  by_cases hk1:e.ak = 1
  ·have d2:(e.ak == 1) = true:=by simpa using hk1
   have HV:=Lib.hid (show en_ = n - e.off by rw [HE.out,if_neg hk2,if_pos hk1]);clear hk2 hk1;go_enter Tryz.func63,Tryz.ntmps63;go_wp2_with fail;refine HN.out.mono ?_;rintro o w1 ⟨rfl,hb⟩;have HX1:=Lib.hid (HX.out.below hb HX.out.lt);have HY1:=Lib.hid (HY.out.below hb HY.out.lt);have HB1:=Lib.hid (HB.out.trans (hb.mono HB.out.size));have HU1:=Lib.hid (HU.out.below (hb.mono (Nat.le_trans hB HB.out.size)));have hl1:=HX1.out.lt;have hyl1:=HY1.out.lt;have hs1:=HB1.out.size;have e0:=HX1.out.cell 0 (v:=.int .i64 e.off) rfl;have e1:=HX1.out.cell 1 (v:=.string ru) rfl;have e2:=HX1.out.cell 2 (v:=.int .i64 e.save) rfl;have e11:=HX1.out.cell 11 (v:=.int .i64 e.ak) rfl;clear hb HX HY HB HU HN;go_wp2_with fail;go_ret;exact ⟨by rw [HV.out];rfl,HB1.out⟩
  ·have d2:(e.ak == 1) = false:=by simpa using hk1
   by_cases hru:ru.size = 0
   ·have hem:(ru.toList == []) = true:=by rw [emp_size,decide_eq_true hru]
    have HV:=Lib.hid (show en_ = n - e.off - e.save by rw [HE.out,if_neg hk2,if_neg hk1,if_pos hru]);clear hk2 hk1 hru;go_enter Tryz.func63,Tryz.ntmps63;go_wp2_with fail;refine HN.out.mono ?_;rintro o w1 ⟨rfl,hb⟩;have HX1:=Lib.hid (HX.out.below hb HX.out.lt);have HY1:=Lib.hid (HY.out.below hb HY.out.lt);have HB1:=Lib.hid (HB.out.trans (hb.mono HB.out.size));have HU1:=Lib.hid (HU.out.below (hb.mono (Nat.le_trans hB HB.out.size)));have hl1:=HX1.out.lt;have hyl1:=HY1.out.lt;have hs1:=HB1.out.size;have e0:=HX1.out.cell 0 (v:=.int .i64 e.off) rfl;have e1:=HX1.out.cell 1 (v:=.string ru) rfl;have e2:=HX1.out.cell 2 (v:=.int .i64 e.save) rfl;have e11:=HX1.out.cell 11 (v:=.int .i64 e.ak) rfl;clear hb HX HY HB HU HN;go_wp2_with fail;go_ret;exact ⟨by rw [HV.out];rfl,HB1.out⟩
   ·have hem:(ru.toList == []) = false:=by rw [emp_size,decide_eq_false hru]
    have HV:=Lib.hid (show en_ = n - e.off - refSave (D.map FrI.f) e.off (n - e.off) 0 0 (D.map FrI.f).length by rw [HE.out,if_neg hk2,if_neg hk1,if_neg hru]);rw [List.length_map] at HV;clear hk2 hk1 hru;go_enter Tryz.func63,Tryz.ntmps63;go_wp2_with fail;refine HN.out.mono ?_;rintro o w1 ⟨rfl,hb⟩;have HX1:=Lib.hid (HX.out.below hb HX.out.lt);have HY1:=Lib.hid (HY.out.below hb HY.out.lt);have HB1:=Lib.hid (HB.out.trans (hb.mono HB.out.size));have HU1:=Lib.hid (HU.out.below (hb.mono (Nat.le_trans hB HB.out.size)));have hl1:=HX1.out.lt;have hyl1:=HY1.out.lt;have hs1:=HB1.out.size;have e0:=HX1.out.cell 0 (v:=.int .i64 e.off) rfl;have e1:=HX1.out.cell 1 (v:=.string ru) rfl;have e2:=HX1.out.cell 2 (v:=.int .i64 e.save) rfl;have e11:=HX1.out.cell 11 (v:=.int .i64 e.ak) rfl;clear hb HX HY HB HU HN;go_wp2_with fail
    go_loopw [7,8] (fun sv9 iv wr=>∃ (j:Nat) (sv:Int),j ≤ D.length∧iv = .int .i64 j∧sv9 = .int .i64 sv∧(-1000000000000000 ≤ sv∧sv ≤ 1000000000000000)∧refSave (D.map FrI.f) e.off (n - e.off) 0 0 D.length = refSave (D.map FrI.f) e.off (n - e.off) sv j (D.length - j)∧Below w1.heap.size w1 wr) (fun _ iv _=>D.length - (intOf iv).toNat)
    case atStart=>exact ⟨0,0,Nat.zero_le _,rfl,rfl,⟨by decide,by decide⟩,rfl,Below.refl _ _⟩
    case round =>
     obtain ⟨j,sv,hj,rfl,rfl,⟨hsv1,hsv2⟩,hq,hbw⟩:=hrel;have HQ:=Lib.hid hq;have HBI:=Lib.hid hbw;have HXW:=Lib.hid (HX1.out.below hbw HX1.out.lt);have HYW:=Lib.hid (HY1.out.below hbw HY1.out.lt);have HUW:=Lib.hid (HU1.out.below (hbw.mono (Nat.le_trans hB hs1)));have hws:=hbw.size;have e0:=HXW.out.cell 0 (v:=.int .i64 e.off) rfl;have y0:=HYW.out.cell 0 (v:=.slice A D.length c) rfl;have hxl:=HXW.out.lt;have hyl:=HYW.out.lt;clear hbw hq
     by_cases hlt2:j < D.length
     ·have hd:decide ((j:Int) < (D.length:Int)) = true:=decide_eq_true (by omega);have HIN:=Lib.hid (fun (W:World) (h:Below wr.heap.size wr W)=>rinst_any W B _ D (HUW.out.below (h.mono (by omega))) (by have:=h.size;omega) hl HRG.out j hlt2 e.off ho);have HC:=Lib.hid (fun (W:World) (h:Below wr.heap.size wr W)=>And.intro (HXW.out.below h hxl) (HYW.out.below h hyl));obtain ⟨ins,hins⟩:∃ x,instA (D.map FrI.f) e.off j = x:=⟨_,rfl⟩;rw [hins] at HIN;obtain ⟨bb,o,c',e9,hbb,hc⟩:=HUW.out.cells (by omega)
      cases e9
      obtain ⟨-,-,c2,-,-⟩:=hc j hlt2;obtain ⟨x,hx⟩:∃ x,D[j] = x:=⟨_,rfl⟩;have hrx:=(HRG.out _ (List.getElem_mem hlt2)).2;rw [hx] at c2 hrx
      have HS:=Lib.hid (show refSave (D.map FrI.f) e.off (n - e.off) sv j (D.length - j) = if n - e.off - sv ≤ ins then sv else refSave (D.map FrI.f) e.off (n - e.off) x.f.save (j + 1) (D.length - (j + 1)) by
       rw [show D.length - j = (D.length - (j + 1)) + 1 by omega,refSave,List.getElem?_map,List.getElem?_eq_getElem hlt2,hx]
       simp only [Option.map_some,hins])
      clear hc hx hins
      by_cases hle:n - e.off - sv ≤ ins
      ·have hd2:decide (n - e.off - sv ≤ ins) = true:=decide_eq_true hle;have HS2:=Lib.hid (show en_ = n - e.off - sv by rw [HV.out,HQ.out,HS.out,if_pos hle]);go_wp2_with fail
       refine wp_env (fin:=?fna) (by kernel_rfl) [47,48,49,50,51,52,53,54,55,56,57,58,59]
        [.pointer (some ⟨w.heap.size + 1,0,none⟩),.slice (some ⟨bb,o,none⟩) D.length c,.int .i64 j,.pointer (some ⟨w.heap.size,0,none⟩),.int .i64 e.off,.int .i64 ins,.int .i64 n,.pointer (some ⟨w.heap.size,0,none⟩),.int .i64 e.off,.int .i64 (n - e.off),.int .i64 sv,.int .i64 (n - e.off - sv),.bool true] (by kernel_rfl) ?fina ?stepsa ?nexta
       case fina =>
        simp only [putAll,Act.put,List.setIfInBounds_toArray,List.set_cons_succ,List.set_cons_zero]
        rfl
       case stepsa =>
        refine ⟨?_,?_,?_,?_,?_,?_,?_,?_,?_,?_,?_,?_,?_,trivial⟩
        all_goals refine .inr ⟨by kernel_rfl,fun w1_ hB_=>?_⟩
        all_goals
         obtain ⟨hc,hr⟩:=HC.out w1_ hB_;have c0:=hc.cell 0 (v:=.int .i64 e.off) rfl;have r0:=hr.cell 0 (v:=.slice (some ⟨bb,o,none⟩) D.length c) rfl;go_simp
         first
          | exact ⟨rfl,Below.refl _ _⟩
          | exact ⟨rfl,HIN.out w1_ hB_⟩
          | ((first | rw [decide_eq_true (by omega)] | rw [decide_eq_false (by omega)] | rw [if_pos (by omega)] | rw [IntWalk.i64_in _ (by omega)]);exact ⟨rfl,Below.refl _ _⟩)
          | done
       case nexta =>
       intro w2 hb2;have hx2:=HXW.out.below hb2 hxl;have e0:=hx2.cell 0 (v:=.int .i64 e.off) rfl;have hx2l:=hx2.lt;have HB2:=Lib.hid (HB1.out.trans ((HBI.out.trans (hb2.mono hws)).mono hs1));clear hb2 hx2;go_wp2_with fail;go_ret;exact ⟨by rw [HS2.out];rfl,HB2.out⟩
      ·have hd2:decide (n - e.off - sv ≤ ins) = false:=decide_eq_false hle;have HS2:=Lib.hid (show refSave (D.map FrI.f) e.off (n - e.off) 0 0 D.length = refSave (D.map FrI.f) e.off (n - e.off) x.f.save (j + 1) (D.length - (j + 1)) by rw [HQ.out,HS.out,if_neg hle]);go_wp2_with fail
       refine wp_env (fin:=?fnb) (by kernel_rfl) [47,48,49,50,51,52,53,54,55,56,57,58,59]
        [.pointer (some ⟨w.heap.size + 1,0,none⟩),.slice (some ⟨bb,o,none⟩) D.length c,.int .i64 j,.pointer (some ⟨w.heap.size,0,none⟩),.int .i64 e.off,.int .i64 ins,.int .i64 n,.pointer (some ⟨w.heap.size,0,none⟩),.int .i64 e.off,.int .i64 (n - e.off),.int .i64 sv,.int .i64 (n - e.off - sv),.bool false] (by kernel_rfl) ?finb ?stepsb ?nextb
       case finb =>
        simp only [putAll,Act.put,List.setIfInBounds_toArray,List.set_cons_succ,List.set_cons_zero]
        rfl
       case stepsb =>
        refine ⟨?_,?_,?_,?_,?_,?_,?_,?_,?_,?_,?_,?_,?_,trivial⟩
        all_goals refine .inr ⟨by kernel_rfl,fun w1_ hB_=>?_⟩
        all_goals
         obtain ⟨hc,hr⟩:=HC.out w1_ hB_;have c0:=hc.cell 0 (v:=.int .i64 e.off) rfl;have r0:=hr.cell 0 (v:=.slice (some ⟨bb,o,none⟩) D.length c) rfl;go_simp
         first
          | exact ⟨rfl,Below.refl _ _⟩
          | exact ⟨rfl,HIN.out w1_ hB_⟩
          | ((first | rw [decide_eq_true (by omega)] | rw [decide_eq_false (by omega)] | rw [if_pos (by omega)] | rw [IntWalk.i64_in _ (by omega)]);exact ⟨rfl,Below.refl _ _⟩)
          | done
       case nextb =>
       intro w2 hb2;have hy2:=HYW.out.below hb2 hyl;have y0:=hy2.cell 0 (v:=.slice (some ⟨bb,o,none⟩) D.length c) rfl;have hy2l:=hy2.lt;have d2:=(hb2.cell (p:=⟨bb,o + j * 5 + 2,none⟩) (by show bb < _;omega)).trans c2;have hbl2:bb < w2.heap.size:=by have:=hb2.size;omega
       have HB2:=Lib.hid (HBI.out.trans (hb2.mono hws));clear hb2 hy2 c2;go_wp2_with fail;go_roundw
       case rel=>exact ⟨j + 1,x.f.save,by omega,by go_num,rfl,hrx,HS2.out,HB2.out⟩
       case measure=>simp [intOf];omega
     ·obtain rfl:j = D.length:=by omega
      have hd:decide ((D.length:Int) < (D.length:Int)) = false:=decide_eq_false (by omega);have HS2:=Lib.hid (show en_ = n - e.off - sv by rw [HV.out,HQ.out,Nat.sub_self];rfl);have HB2:=Lib.hid (HB1.out.trans (HBI.out.mono hs1));go_wp2_with fail;go_ret;exact ⟨by rw [HS2.out];rfl,HB2.out⟩
end
end Go.Proofs.YteekjfgjmccdnaaGreatDoor
