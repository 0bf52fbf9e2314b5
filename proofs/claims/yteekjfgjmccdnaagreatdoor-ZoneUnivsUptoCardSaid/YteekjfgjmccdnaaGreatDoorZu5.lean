/-
  Layer 11's answers at any 64-bit rules: instants that may wrap.
-/
import Derived.RangeFuncNested
import Derived.RangeFuncBound
import Derived.RangeFuncCalls
import Derived.RangeFuncLeaves
import Derived.RangeFuncFrom
import Derived.OwnWalkIn
import Derived.TacticsInMore
import Derived.LoopNIn
import Derived.LoopIn
import Derived.Lib.SliceRun
import Derived.Test.YteekjfgjmccdnaaGreatDoorZu4
set_option maxHeartbeats 16000000
set_option maxRecDepth 100000
namespace Go.Proofs.YteekjfgjmccdnaaGreatDoor
section -- PFired
open Go Go.RowKit Go.Shelf
attribute [local go_sem] Oper.semAt_some
theorem fr_set4 {T:Nat→Prop} (W:World) {b:Nat} (h:T b) (u v x y:Value):Fr T W ((((W.setCell ⟨b,0,none⟩ u).setCell ⟨b,1,none⟩ v).setCell ⟨b,2,none⟩ x).setCell ⟨b,3,none⟩ y):=(fr_set3 W h u v x).then (Fr.setCell _ 3 _ h)
structure RW (W:World) (B:Nat) (v:Value) (l:List Rul):Prop where
 ruls:Ruls W B v l
 ahead:Ahead W
 tab:0 < B
 le:B ≤ W.heap.size
theorem RW.fr {W W':World} {B:Nat} {v:Value} {l:List Rul} {T:Nat→Prop} (h:RW W B v l) (hf:Fr T W W') (hT:∀ k,k < B→¬ T k):RW W' B v l :=
 ⟨h.ruls.keep fun _ hp=>hf.cell (Nat.lt_of_lt_of_le hp h.le) (hT _ hp),fun k hk=>(hf.cell (p:=⟨0,k,none⟩) (Nat.lt_of_lt_of_le h.tab h.le) (hT _ h.tab)).trans (h.ahead k hk),h.tab,Nat.le_trans h.le hf.size⟩
theorem RW.below {W W':World} {B:Nat} {v:Value} {l:List Rul} (h:RW W B v l) (hb:Below W.heap.size W W'):RW W' B v l:=h.fr (Fr.of_below (T:=fun _=>False) hb (Nat.le_refl _)) (fun _ _ e=>e)
theorem RW.behind {W:World} {B:Nat} {v:Value} {l:List Rul} (h:RW W B v l) (ho:yrOk l) (s:Int) (h1:-9223372036854775808 ≤ s) (h2:s ≤ 9223372036854775807) :
  Calls Tryz.prog 117 #[v,.int .i64 s] W fun e w'=>e = .returned (resO (behindF l s))∧Below W.heap.size W w':=fbehind_any W v l (h.ruls.more h.le) h.ahead ho s h1 h2
theorem RW.saved {W:World} {B:Nat} {v:Value} {l:List Rul} (h:RW W B v l) (ho:yrOk l) (f:Fir) (hf:Fires l f) :
  Calls Tryz.prog 93 #[v,firA f] W fun e w'=>e = .returned (.int .i64 (savedF l f))∧Below W.heap.size W w':=saved_any W v l (h.ruls.more h.le) h.ahead ho f (fires_nom hf)
structure FirAt (l:List Rul) (off fr to:Int) (xb:Nat) (J:List (Int × Fir)→(Nat→Prop)→World→Prop) (O0:Nat→Prop) (W:World) (pre:List (Int × Fir)) (O:Nat→Prop) (o:Option Fir) (N:Nat) (wr:World):Prop where
 j:J pre O wr
 bd:Bd O wr
 ext:∀ k,O k→O0 k∨W.heap.size ≤ k
 nx:¬ O xb
 xs:W.heap.size ≤ xb
 x:FirB wr xb (firO o)
 frm:Fr O0 W wr
 now:pre ++ firedN l off fr to N o = firedF l off fr to
 fuel:∀ f,o = some f→Fires l f∧to + 180001 - f.nominal < (N:Int)
structure FirMid (l:List Rul) (off fr to:Int) (xb:Nat) (J:List (Int × Fir)→(Nat→Prop)→World→Prop) (O0:Nat→Prop) (W:World) (pre:List (Int × Fir)) (O:Nat→Prop) (f:Fir) (M:Nat) (wr:World):Prop where
 j:J pre O wr
 bd:Bd O wr
 ext:∀ k,O k→O0 k∨W.heap.size ≤ k
 nx:¬ O xb
 xs:W.heap.size ≤ xb
 x:FirB wr xb f
 frm:Fr O0 W wr
 now:pre ++ firedN l off fr to M (behindF l (f.nominal + 1)) = firedF l off fr to
 fire:Fires l f
 fuel:to + 180000 - f.nominal < (M:Int)
section
variable {l:List Rul} {off fr to:Int} {xb:Nat} {J:List (Int × Fir)→(Nat→Prop)→World→Prop} {O0 O O' D:Nat→Prop} {W wr w4 W5:World} {pre:List (Int × Fir)} {o:Option Fir} {f:Fir} {N M:Nat}
theorem firedN_none:∀ N,firedN l off fr to N none = []:=fun N=>by cases N <;> rfl
theorem firedN_far (h:to + 180000 < f.nominal):∀ N,firedN l off fr to N (some f) = []:=fun N=>by
 cases N with
 | zero=>rfl
 | succ N=>unfold firedN;rw [if_neg (by omega)]
theorem FirAt.skip (h:FirAt l off fr to xb J O0 W pre O (some f) (M + 1) wr) (fJ:Feet J) (hle:f.nominal ≤ to + 180000) (hout:instF f off (savedF l f) ≤ fr∨to < instF f off (savedF l f)) (hb:Below wr.heap.size wr w4):FirMid l off fr to xb J O0 W pre O f M w4:=by
 have hn:=h.now
 unfold firedN at hn
 rw [if_pos hle,if_pos hout] at hn
 have hfu:=h.fuel f rfl
 exact ⟨fJ _ _ _ _ h.j (Fr.of_below hb (Nat.le_refl _)),h.bd.fr (Fr.of_below (T:=fun _=>True) hb (Nat.le_refl _)),h.ext,h.nx,h.xs,Blk.below h.x hb (Blk.lt h.x),h.frm.then (Fr.of_below hb (Nat.le_refl _)),hn,hfu.1,by have:=hfu.2;push_cast at this;omega⟩
theorem FirAt.rest (h:FirAt l off fr to xb J O0 W pre O (some f) (M + 1) wr) (hle:f.nominal ≤ to + 180000) (hin:¬ (instF f off (savedF l f) ≤ fr∨to < instF f off (savedF l f))):firedF l off fr to = pre ++ (instF f off (savedF l f),f) :: firedN l off fr to M (behindF l (f.nominal + 1)):=by
 have hn:=h.now
 unfold firedN at hn
 rw [if_pos hle,if_neg hin] at hn
 exact hn.symm
theorem FirAt.out_ (h:FirAt l off fr to xb J O0 W pre O o N wr) (hb4:Below wr.heap.size wr w4) (hD:∀ k,¬ D k) (hx:∀ k,O' k→O k∨D k∨w4.heap.size ≤ k) (hf5:Fr (fun k=>O k∨D k) w4 W5):(∀ k,O' k→O0 k∨W.heap.size ≤ k)∧Fr O0 W W5:=by
 have h1:=h.frm.size
 have h2:=hb4.size
 refine ⟨fun k hk=>?_,(h.frm.then (Fr.of_below hb4 (Nat.le_refl _))).trans hf5 fun k hk=>?_⟩
 ·rcases hx k hk with h3 | h3 | h3
  ·exact h.ext k h3
  ·exact absurd h3 (hD k)
  ·exact .inr (by omega)
 ·rcases hk with h3 | h3
  ·exact h.ext k h3
  ·exact absurd h3 (hD k)
theorem FirAt.hit (h:FirAt l off fr to xb J O0 W pre O (some f) (M + 1) wr) (hle:f.nominal ≤ to + 180000) (hin:¬ (instF f off (savedF l f) ≤ fr∨to < instF f off (savedF l f)))
  (hb4:Below wr.heap.size wr w4) (hD:∀ k,¬ D k) (hx:∀ k,O' k→O k∨D k∨w4.heap.size ≤ k) (hbd:Bd O' W5) (hf5:Fr (fun k=>O k∨D k) w4 W5) (hJ:J (pre ++ [(instF f off (savedF l f),f)]) O' W5):FirMid l off fr to xb J O0 W (pre ++ [(instF f off (savedF l f),f)]) O' f M W5:=by
 obtain ⟨e1,e2⟩:=h.out_ hb4 hD hx hf5
 have hfu:=h.fuel f rfl
 have hxl:=Blk.lt h.x
 have h2:=hb4.size
 refine ⟨hJ,hbd,e1,fun e=>?_,h.xs,(Blk.below h.x hb4 hxl).fr hf5 (fun e=>by rcases e with e | e;exact h.nx e;exact hD _ e),e2,?_,hfu.1,by have:=hfu.2;push_cast at this;omega⟩
 ·rcases hx _ e with e | e | e
  ·exact h.nx e
  ·exact hD _ e
  ·omega
 ·rw [List.append_assoc]
  exact (h.rest hle hin).symm
theorem FirMid.next (h:FirMid l off fr to xb J O0 W pre O f M wr) (fJ:Feet J) {W6:World} (h6:Fr (fun k=>k = xb) wr W6) (hX6:FirB W6 xb (firO (behindF l (f.nominal + 1)))):FirAt l off fr to xb J O0 W pre O (behindF l (f.nominal + 1)) M W6 :=
 ⟨fJ _ _ _ _ h.j (h6.mono fun k hk=>.inl fun hO=>by subst hk;exact h.nx hO),h.bd.fr h6,h.ext,h.nx,h.xs,hX6,h.frm.trans h6 (fun k hk=>.inr (by subst hk;exact h.xs)),h.now,fun g hg=>⟨(behind_mem hg).1,by have:=(behind_mem hg).2;have:=h.fuel;omega⟩⟩
end
def encF (x:Int × Fir):Array Value:=#[.int .i64 x.1,firA x.2]
def RF (l:List Rul) (off fr to:Int) (B2:Nat) (Wb:World) (pre:List (Int × Fir)) (x:Int × Fir) (D:Nat→Prop) (W:World):Prop:=(∀ j,¬ D j)∧(∃ rest,firedF l off fr to = pre ++ x :: rest)∧∀ k,k < B2→W.heap[k]? = Wb.heap[k]?
def KF (lb fb tb ob B:Nat):Nat→Prop:=fun k=>k = lb∨k = fb∨k = tb∨k = ob∨k < B
theorem fired_in (n:Nat) (hn:2 ≤ n) (lp lb fb tb ob B B2:Nat) (Wb:World) (v:Value) (l:List Rul) (off fr to:Int) (W:World)
  (hl:Blk W lb 52 #[v]) (hf:Blk W fb 3 #[.int .i64 fr]) (ht:Blk W tb 3 #[.int .i64 to]) (hob:Blk W ob 3 #[.int .i64 off]) (hrw:RW W B v l) (ho:yrOk l) (hsv:svOk l)
  (ho1:-1000000000000000 ≤ off∧off ≤ 1000000000000000) (hf1:-9000000000000000000 ≤ fr∧fr ≤ 9000000000000000000) (ht1:-4500000000000 ≤ to∧to ≤ 9000000000000000000)
  (J Jx:List (Int × Fir)→(Nat→Prop)→World→Prop) (fJ:Feet J) (hB2:B2 ≤ W.heap.size) (hWb:∀ k,k < B2→W.heap[k]? = Wb.heap[k]?) (hY:RoundsIn Fence.wide (n - 1) Tryz.prog lp encF (RF l off fr to B2 Wb) J Jx)
  (O0:Nat→Prop) (h0:J [] O0 W) (hO0:Bd O0 W) (hK0:∀ k,KF lb fb tb ob B k∨k < B2→¬ O0 k) :
  CallsIn Fence.wide n Tryz.prog 116 #[.func (.yield lp) #[] #[],.pointer (some ⟨lb,0,none⟩),.pointer (some ⟨fb,0,none⟩),.pointer (some ⟨tb,0,none⟩),.pointer (some ⟨ob,0,none⟩)] W (IterEnd (fun xs=>xs = firedF l off fr to) (fun pre=>∃ rest,firedF l off fr to = pre ++ rest) J Jx O0 (fun _=>False) W):=by
 have hK:∀ k,KF lb fb tb ob B k→¬ O0 k:=fun k h=>hK0 k (.inl h)
 have HBH:=Lib.hid (callsIn_wide (n:=n - 1).2 (hrw.behind ho (fr - 180000) (by omega) (by omega)))
 have ql:W.cell? ⟨lb,0,none⟩ = some v:=hl.cell 0 rfl
 have qf:W.cell? ⟨fb,0,none⟩ = some (.int .i64 fr):=hf.cell 0 rfl
 have HRW:=Lib.hid hrw
 have HT:=Lib.hid (fun f (h:behindF l (fr - 180000) = some f)=>behind_mem h)
 have HF:=Lib.hid (show firedF l off fr to = firedN l off fr to (to + 180001 + farN).toNat (behindF l (fr - 180000)) from rfl)
 obtain ⟨o,hoo⟩:∃ o,behindF l (fr - 180000) = o:=⟨_,rfl⟩
 rw [hoo] at HBH HT HF
 unfold resO at HBH
 obtain ⟨g,hg⟩:∃ g,firO o = g:=⟨_,rfl⟩
 have HG:=Lib.hid hg
 rw [hg] at HBH
 unfold firA at HBH
 clear hoo hg
 refine callsIn_of_wp Tryz.func116 rfl trivial ?_ rfl
 simp only [Tryz.ntmps116,List.size_toArray,List.length_cons,List.length_nil,Nat.reduceAdd,Nat.reduceSub,Array.replicate_succ,Array.replicate_zero,List.push_toArray,List.append_toArray,List.nil_append,List.cons_append]
 refine wpIn_scope ?_
 gi_wp2
 refine ⟨trivial,fun _=>by omega,HBH.out.mono ?_⟩
 rintro e w1 ⟨rfl,hb1⟩
 clear HBH ql qf
 gi_wp2
 refine wpIn_label ?_
 have hX:=Blk.new w1 112 #[.int .i64 g.nominal,.int .i64 g.kind,.int .i64 g.save,.string g.letter]
 obtain ⟨W2,hW2⟩:∃ W2,w1.alloc (.cells #[.int .i64 g.nominal,.int .i64 g.kind,.int .i64 g.save,.string g.letter] 112) = W2:=⟨_,rfl⟩
 have hb2:Below W.heap.size W W2:=by rw [← hW2];exact hb1.alloc hb1.size _
 have hs2:=hb1.size
 rw [hW2] at hX ⊢
 clear hW2
 have hF2:∀ T,Fr T W W2:=fun T=>Fr.of_below hb2 (Nat.le_refl _)
 have HS0:=Lib.hid (show FirAt l off fr to w1.heap.size J O0 W [] O0 o (to + 180001 + farN).toNat W2 from
  ⟨fJ _ _ _ _ h0 (hF2 _),hO0.fr (hF2 (fun _=>True)),fun k h=>.inl h,fun h=>by have:=hO0 _ h;omega,hs2,by rw [HG.out];exact hX,hF2 _,HF.out.symm,fun f hf=>⟨(HT.out f hf).1,by have:=fires_nom (HT.out f hf).1;unfold farN;omega⟩⟩)
 clear hX hF2 hb2 h0 hO0 hb1 HG HT HF
 generalize w1.heap.size = xb at *
 gi_wp2
 gi_loopw [7] (fun fv wr=>∃ pre O o N,fv = .bool (Option.isSome o)∧FirAt l off fr to xb J O0 W pre O o N wr) (fun fv W=>match fv with | .bool true=>(4000000000001 - intOf ((W.cell? ⟨xb,0,none⟩).getD undef)).toNat | _=>0)
 case atStart=>exact ⟨[],O0,o,_,rfl,HS0.out⟩
 case round =>
  clear HS0
  obtain ⟨pre,O,o,N,rfl,hS⟩:=hrel
  have HS:=Lib.hid hS
  have hrw1:=HRW.out.fr hS.frm (fun k hk=>hK _ (.inr (.inr (.inr (.inr hk)))))
  have hlw:=hl.fr hS.frm (hK _ (.inl rfl))
  have hfw:=hf.fr hS.frm (hK _ (.inr (.inl rfl)))
  have htw:=ht.fr hS.frm (hK _ (.inr (.inr (.inl rfl))))
  have how:=hob.fr hS.frm (hK _ (.inr (.inr (.inr (.inl rfl)))))
  have HX:=Lib.hid hS.x
  have hxl:=Blk.lt hS.x
  clear hS
  rcases o with _ | f
  ·have HE:=Lib.hid (show pre = firedF l off fr to by have:=HS.out.now;rwa [firedN_none,List.append_nil] at this)
   clear hrw1 hlw hfw htw how
   gi_wp2
   refine bodyPost_end (results_none rfl _ _ _) rfl ?_
   exact ⟨⟨_,rfl⟩,O,HS.out.ext,HS.out.bd,HS.out.frm.mono (fun _ h=>.inl (.inl h)),.inl ⟨pre,HE.out,HS.out.j⟩⟩
  ·obtain ⟨hff,hfu⟩:=HS.out.fuel f rfl
   have hnom:=fires_nom hff
   have x0:wr.cell? ⟨xb,0,none⟩ = some (.int .i64 f.nominal):=Blk.cell HX.out 0 rfl
   have qt:wr.cell? ⟨tb,0,none⟩ = some (.int .i64 to):=htw.cell 0 rfl
   by_cases hle:f.nominal ≤ to + 180000
   ·have hd:decide (f.nominal ≤ to + 180000) = true:=decide_eq_true hle
    obtain ⟨M,rfl⟩:∃ M,N = M + 1:=⟨N - 1,by omega⟩
    have hsi:=savedF_in hsv f
    have HSV:=Lib.hid (fun (w':World) (hb:Below wr.heap.size wr w')=>(hrw1.below hb).saved ho f hff)
    have HI:=Lib.hid (fun (w':World)=>inst_any w' f off (savedF l f) (by omega) ho1 hsi)
    have HSK:=Lib.hid (fun w' h hb=>HS.out.skip (w4:=w') fJ hle h hb)
    have HRS:=Lib.hid (fun h=>HS.out.rest hle h)
    have HHT:=Lib.hid (fun (D O':Nat→Prop) (w4 W5:World) h hb hD hx hbd hf5 hJ=>HS.out.hit (D:=D) (O':=O') (w4:=w4) (W5:=W5) hle h hb hD hx hbd hf5 hJ)
    have hir:-9000000000000000000 ≤ instF f off (savedF l f)∧instF f off (savedF l f) ≤ 9000000000000000000:=by
     unfold instF
     split
     ·omega
     ·split <;> omega
    obtain ⟨sv,hsv2⟩:∃ sv,savedF l f = sv:=⟨_,rfl⟩
    rw [hsv2] at HSV HI HSK HRS HHT hir
    obtain ⟨ins,hins⟩:∃ ins,instF f off sv = ins:=⟨_,rfl⟩
    rw [hins] at HI HSK HRS HHT hir
    unfold firA at HSV HI
    have HCELL:=Lib.hid (fun (W':World) (h:Below wr.heap.size wr W')=>show W'.cell? ⟨xb,0,none⟩ = some (.int .i64 f.nominal)∧W'.cell? ⟨xb,1,none⟩ = some (.int .i64 f.kind)∧W'.cell? ⟨xb,2,none⟩ = some (.int .i64 f.save)∧W'.cell? ⟨xb,3,none⟩ = some (.string f.letter)∧W'.cell? ⟨ob,0,none⟩ = some (.int .i64 off)∧W'.cell? ⟨lb,0,none⟩ = some v from
     ⟨(Blk.below HX.out h hxl).cell 0 rfl,(Blk.below HX.out h hxl).cell 1 rfl,(Blk.below HX.out h hxl).cell 2 rfl,(Blk.below HX.out h hxl).cell 3 rfl,(how.below h how.lt).cell 0 rfl,(hlw.below h hlw.lt).cell 0 rfl⟩)
    clear hsv2 hins hrw1
    gi_wp2
    refine wpIn_env (fin:=?fne) (wide0) (by kernel_rfl) [32,33,34,35,36,37,8]
     [.agg #[.int .i64 f.nominal,.int .i64 f.kind,.int .i64 f.save,.string f.letter],.int .i64 off,v,.agg #[.int .i64 f.nominal,.int .i64 f.kind,.int .i64 f.save,.string f.letter],.int .i64 sv,.int .i64 ins,.int .i64 ins] (by kernel_rfl) ?fine ?stepse ?nexte
    case fine =>
     simp only [putAll,Act.put,List.setIfInBounds_toArray,List.set_cons_succ,List.set_cons_zero]
     rfl
    case stepse =>
     refine ⟨?_,?_,?_,?_,?_,?_,?_,trivial⟩
     all_goals refine .inr ⟨by kernel_rfl,fun w1_ hB_=>?_⟩
     all_goals
      obtain ⟨d0,d1,d2,d3,d4,d5⟩:=HCELL.out w1_ hB_
      go_simp
      first
       | exact ⟨rfl,Below.refl _ _⟩
       | exact ⟨rfl,HSV.out w1_ hB_⟩
       | exact ⟨rfl,HI.out w1_⟩
       | ((first | rw [decide_eq_true (by omega)] | rw [decide_eq_false (by omega)] | rw [if_pos (by omega)] | rw [IntWalk.i64_in _ (by omega)]);exact ⟨rfl,Below.refl _ _⟩)
       | done
    case nexte =>
    intro w3 hb3
    have qf3:w3.cell? ⟨fb,0,none⟩ = some (.int .i64 fr):=(hfw.below hb3 hfw.lt).cell 0 rfl
    have qt3:w3.cell? ⟨tb,0,none⟩ = some (.int .i64 to):=(htw.below hb3 htw.lt).cell 0 rfl
    obtain ⟨x0,x1,x2,x3,-,-⟩:=HCELL.out w3 hb3
    have HB3:=Lib.hid hb3
    have hxl3:xb < w3.heap.size:=Nat.lt_of_lt_of_le hxl hb3.size
    clear hb3 HSV HI HCELL hlw hfw htw how qt
    by_cases h1:ins ≤ fr
    ·have d1:decide (ins ≤ fr) = true:=decide_eq_true h1
     have HM:=Lib.hid (HSK.out w3 (.inl h1) HB3.out)
     clear HSK HRS HHT
     have hrw2:=HRW.out.fr HM.out.frm (fun k hk=>hK _ (.inr (.inr (.inr (.inr hk)))))
     have hlw:=hl.fr HM.out.frm (hK _ (.inl rfl))
     have HB2:=Lib.hid (callsIn_wide (n:=n - 1).2 (hrw2.behind ho (f.nominal + 1) (by omega) (by omega)))
     have ql:w3.cell? ⟨lb,0,none⟩ = some v:=hlw.cell 0 rfl
     have hxl2:=Blk.lt HM.out.x
     have x0:=Blk.cell HM.out.x 0 (v:=.int .i64 f.nominal) rfl
     have HBM:=Lib.hid (fun g (h:behindF l (f.nominal + 1) = some g)=>behind_mem h)
     have HNX:=Lib.hid (fun (W6:World) (h6:Fr (fun k=>k = xb) w3 W6) (hX6:FirB W6 xb (firO (behindF l (f.nominal + 1))))=>HM.out.next fJ h6 hX6)
     obtain ⟨o2,ho2⟩:∃ o2,behindF l (f.nominal + 1) = o2:=⟨_,rfl⟩
     rw [ho2] at HB2 HBM HNX
     unfold resO at HB2
     obtain ⟨q,hq⟩:∃ q,firO o2 = q:=⟨_,rfl⟩
     have HQ:=Lib.hid hq
     rw [hq] at HB2
     unfold firA at HB2
     clear hrw2 hlw ho2 hq
     gi_wp2
     refine ⟨trivial,fun _=>by omega,HB2.out.mono ?_⟩
     rintro e w8 ⟨rfl,hb8⟩
     have hx8:=Blk.below HM.out.x hb8 hxl2
     have HX8:=Lib.hid hx8
     have hx8l:=Blk.lt hx8
     have HB8:=Lib.hid hb8
     have y0:=Blk.cell hx8 0 (v:=.int .i64 f.nominal) rfl
     have y1:=Blk.cell hx8 1 (v:=.int .i64 f.kind) rfl
     have y2:=Blk.cell hx8 2 (v:=.int .i64 f.save) rfl
     have y3:=Blk.cell hx8 3 (v:=.string f.letter) rfl
     have z0:=Blk.frozen hx8 0
     have z1:=Blk.frozen hx8 1
     have z2:=Blk.frozen hx8 2
     have z3:=Blk.frozen hx8 3
     clear hb8 hx8 HB2 ql x0
     gi_wp2
     have hy:=(((HX8.out.set 0 (.int .i64 q.nominal)).set 1 (.int .i64 q.kind)).set 2 (.int .i64 q.save)).set 3 (.string q.letter)
     have hm2:wr.cell? ⟨xb,0,none⟩ = some (.int .i64 f.nominal):=Blk.cell HX.out 0 rfl
     refine ⟨⟨_,_,o2,_,rfl,HNX.out _ ((Fr.of_below HB8.out (Nat.le_refl _)).then (fr_set4 w8 (T:=fun k=>k = xb) rfl _ _ _ _)) (by rw [HQ.out];exact hy)⟩,?_⟩
     rw [hm2]
     rcases o2 with _ | g
     ·show 0 < (4000000000001 - f.nominal).toNat
      omega
     ·obtain rfl:g = q:=HQ.out
      have:=(HBM.out g rfl).2
      show (4000000000001 - intOf ((World.cell? _ _).getD undef)).toNat < (4000000000001 - f.nominal).toNat
      rw [hy.cell 0 (v:=.int .i64 g.nominal) rfl]
      show (4000000000001 - g.nominal).toNat < _
      omega
    ·have d1:decide (ins ≤ fr) = false:=decide_eq_false h1
     by_cases h2:to < ins
     ·have d2:decide (to < ins) = true:=decide_eq_true h2
      have HM:=Lib.hid (HSK.out w3 (.inr h2) HB3.out)
      clear HSK HRS HHT
      have hrw2:=HRW.out.fr HM.out.frm (fun k hk=>hK _ (.inr (.inr (.inr (.inr hk)))))
      have hlw:=hl.fr HM.out.frm (hK _ (.inl rfl))
      have HB2:=Lib.hid (callsIn_wide (n:=n - 1).2 (hrw2.behind ho (f.nominal + 1) (by omega) (by omega)))
      have ql:w3.cell? ⟨lb,0,none⟩ = some v:=hlw.cell 0 rfl
      have hxl2:=Blk.lt HM.out.x
      have x0:=Blk.cell HM.out.x 0 (v:=.int .i64 f.nominal) rfl
      have HBM:=Lib.hid (fun g (h:behindF l (f.nominal + 1) = some g)=>behind_mem h)
      have HNX:=Lib.hid (fun (W6:World) (h6:Fr (fun k=>k = xb) w3 W6) (hX6:FirB W6 xb (firO (behindF l (f.nominal + 1))))=>HM.out.next fJ h6 hX6)
      obtain ⟨o2,ho2⟩:∃ o2,behindF l (f.nominal + 1) = o2:=⟨_,rfl⟩
      rw [ho2] at HB2 HBM HNX
      unfold resO at HB2
      obtain ⟨q,hq⟩:∃ q,firO o2 = q:=⟨_,rfl⟩
      have HQ:=Lib.hid hq
      rw [hq] at HB2
      unfold firA at HB2
      clear hrw2 hlw ho2 hq
      gi_wp2
      refine ⟨trivial,fun _=>by omega,HB2.out.mono ?_⟩
      rintro e w8 ⟨rfl,hb8⟩
      have hx8:=Blk.below HM.out.x hb8 hxl2
      have HX8:=Lib.hid hx8
      have hx8l:=Blk.lt hx8
      have HB8:=Lib.hid hb8
      have y0:=Blk.cell hx8 0 (v:=.int .i64 f.nominal) rfl
      have y1:=Blk.cell hx8 1 (v:=.int .i64 f.kind) rfl
      have y2:=Blk.cell hx8 2 (v:=.int .i64 f.save) rfl
      have y3:=Blk.cell hx8 3 (v:=.string f.letter) rfl
      have z0:=Blk.frozen hx8 0
      have z1:=Blk.frozen hx8 1
      have z2:=Blk.frozen hx8 2
      have z3:=Blk.frozen hx8 3
      clear hb8 hx8 HB2 ql x0
      gi_wp2
      have hy:=(((HX8.out.set 0 (.int .i64 q.nominal)).set 1 (.int .i64 q.kind)).set 2 (.int .i64 q.save)).set 3 (.string q.letter)
      have hm2:wr.cell? ⟨xb,0,none⟩ = some (.int .i64 f.nominal):=Blk.cell HX.out 0 rfl
      refine ⟨⟨_,_,o2,_,rfl,HNX.out _ ((Fr.of_below HB8.out (Nat.le_refl _)).then (fr_set4 w8 (T:=fun k=>k = xb) rfl _ _ _ _)) (by rw [HQ.out];exact hy)⟩,?_⟩
      rw [hm2]
      rcases o2 with _ | g
      ·show 0 < (4000000000001 - f.nominal).toNat
       omega
      ·obtain rfl:g = q:=HQ.out
       have:=(HBM.out g rfl).2
       show (4000000000001 - intOf ((World.cell? _ _).getD undef)).toNat < (4000000000001 - f.nominal).toNat
       rw [hy.cell 0 (v:=.int .i64 g.nominal) rfl]
       show (4000000000001 - g.nominal).toNat < _
       omega
     ·have d2:decide (to < ins) = false:=decide_eq_false h2
      have hin:¬ (ins ≤ fr∨to < ins):=by omega
      have hsame:∀ k,k < B2→w3.heap[k]? = Wb.heap[k]?:=fun k hk=>by
       have h1:=HS.out.frm.block k (by omega) (hK0 k (.inr hk))
       have h2:=HB3.out.block k (by have:=HS.out.frm.size;omega)
       rw [h2,h1]
       exact hWb k hk
      obtain ⟨fn,tmps,assign,body,hyd,hR⟩:=hY pre (ins,f) (fun _=>False) O w3 (fJ _ _ _ _ HS.out.j (Fr.of_below HB3.out (Nat.le_refl _))) (HS.out.bd.fr (Fr.of_below (T:=fun _=>True) HB3.out (Nat.le_refl _))) (fun _ h=>h.elim) (fun _ h=>h.elim) ⟨fun _ h=>h,⟨_,HRS.out hin⟩,hsame⟩
      unfold encF firA at hyd
      gi_wp2
      refine ⟨fun _=>by omega,hR.mono ?_⟩
      rintro e W5 ⟨O5,hx5,hbd5,hf5,(⟨rfl,hJ5⟩ | ⟨rfl,hJx5⟩)⟩
      ·have HM:=Lib.hid (HHT.out _ _ w3 W5 hin HB3.out (fun _ h=>h) hx5 hbd5 hf5 hJ5)
       clear HSK HRS HHT hyd hR qf3 qt3 x0 x1 x2 x3
       have hrw2:=HRW.out.fr HM.out.frm (fun k hk=>hK _ (.inr (.inr (.inr (.inr hk)))))
       have hlw:=hl.fr HM.out.frm (hK _ (.inl rfl))
       have HB2:=Lib.hid (callsIn_wide (n:=n - 1).2 (hrw2.behind ho (f.nominal + 1) (by omega) (by omega)))
       have ql:W5.cell? ⟨lb,0,none⟩ = some v:=hlw.cell 0 rfl
       have hxl2:=Blk.lt HM.out.x
       have x0:=Blk.cell HM.out.x 0 (v:=.int .i64 f.nominal) rfl
       have HBM:=Lib.hid (fun g (h:behindF l (f.nominal + 1) = some g)=>behind_mem h)
       have HNX:=Lib.hid (fun (W6:World) (h6:Fr (fun k=>k = xb) W5 W6) (hX6:FirB W6 xb (firO (behindF l (f.nominal + 1))))=>HM.out.next fJ h6 hX6)
       obtain ⟨o2,ho2⟩:∃ o2,behindF l (f.nominal + 1) = o2:=⟨_,rfl⟩
       rw [ho2] at HB2 HBM HNX
       unfold resO at HB2
       obtain ⟨q,hq⟩:∃ q,firO o2 = q:=⟨_,rfl⟩
       have HQ:=Lib.hid hq
       rw [hq] at HB2
       unfold firA at HB2
       clear hrw2 hlw ho2 hq
       gi_wp2
       refine ⟨trivial,fun _=>by omega,HB2.out.mono ?_⟩
       rintro e w8 ⟨rfl,hb8⟩
       have hx8:=Blk.below HM.out.x hb8 hxl2
       have HX8:=Lib.hid hx8
       have hx8l:=Blk.lt hx8
       have HB8:=Lib.hid hb8
       have y0:=Blk.cell hx8 0 (v:=.int .i64 f.nominal) rfl
       have y1:=Blk.cell hx8 1 (v:=.int .i64 f.kind) rfl
       have y2:=Blk.cell hx8 2 (v:=.int .i64 f.save) rfl
       have y3:=Blk.cell hx8 3 (v:=.string f.letter) rfl
       have z0:=Blk.frozen hx8 0
       have z1:=Blk.frozen hx8 1
       have z2:=Blk.frozen hx8 2
       have z3:=Blk.frozen hx8 3
       clear hb8 hx8 HB2 ql x0
       gi_wp2
       have hy:=(((HX8.out.set 0 (.int .i64 q.nominal)).set 1 (.int .i64 q.kind)).set 2 (.int .i64 q.save)).set 3 (.string q.letter)
       have hm2:wr.cell? ⟨xb,0,none⟩ = some (.int .i64 f.nominal):=Blk.cell HX.out 0 rfl
       refine ⟨⟨_,_,o2,_,rfl,HNX.out _ ((Fr.of_below HB8.out (Nat.le_refl _)).then (fr_set4 w8 (T:=fun k=>k = xb) rfl _ _ _ _)) (by rw [HQ.out];exact hy)⟩,?_⟩
       rw [hm2]
       rcases o2 with _ | g
       ·show 0 < (4000000000001 - f.nominal).toNat
        omega
       ·obtain rfl:g = q:=HQ.out
        have:=(HBM.out g rfl).2
        show (4000000000001 - intOf ((World.cell? _ _).getD undef)).toNat < (4000000000001 - f.nominal).toNat
        rw [hy.cell 0 (v:=.int .i64 g.nominal) rfl]
        show (4000000000001 - g.nominal).toNat < _
        omega
      ·obtain ⟨e1,e2⟩:=HS.out.out_ HB3.out (fun _ h=>h) hx5 hf5
       have HR2:=Lib.hid (HRS.out hin)
       gi_wp2
       refine bodyPost_end (results_none rfl _ _ _) rfl ?_
       exact ⟨⟨_,rfl⟩,O5,e1,hbd5,e2.mono (fun _ h=>.inl (.inl h)),.inr ⟨_,⟨_,by rw [List.append_assoc];exact HR2.out⟩,hJx5⟩⟩
   ·have hd:decide (f.nominal ≤ to + 180000) = false:=decide_eq_false hle
    have HE:=Lib.hid (show pre = firedF l off fr to by have:=HS.out.now;rwa [firedN_far (by omega),List.append_nil] at this)
    clear hrw1 hlw hfw htw how
    gi_wp2
    refine bodyPost_end (results_none rfl _ _ _) rfl ?_
    exact ⟨⟨_,rfl⟩,O,HS.out.ext,HS.out.bd,HS.out.frm.mono (fun _ h=>.inl (.inl h)),.inl ⟨pre,HE.out,HS.out.j⟩⟩
theorem fired_iter (n:Nat) (hn:2 ≤ n) (lb fb tb ob B:Nat) (v:Value) (l:List Rul) (off fr to:Int) (W:World)
  (hl:Blk W lb 52 #[v]) (hf:Blk W fb 3 #[.int .i64 fr]) (ht:Blk W tb 3 #[.int .i64 to]) (hob:Blk W ob 3 #[.int .i64 off]) (hrw:RW W B v l) (ho:yrOk l) (hsv:svOk l)
  (ho1:-1000000000000000 ≤ off∧off ≤ 1000000000000000) (hf1:-9000000000000000000 ≤ fr∧fr ≤ 9000000000000000000) (ht1:-4500000000000 ≤ to∧to ≤ 9000000000000000000) :
  Iter Fence.wide n Tryz.prog 116 #[.pointer (some ⟨lb,0,none⟩),.pointer (some ⟨fb,0,none⟩),.pointer (some ⟨tb,0,none⟩),.pointer (some ⟨ob,0,none⟩)] encF (fun pre x D _=>(∀ j,¬ D j)∧∃ rest,firedF l off fr to = pre ++ x :: rest) (fun xs=>xs = firedF l off fr to) (fun pre=>∃ rest,firedF l off fr to = pre ++ rest) (KF lb fb tb ob B) (fun _=>False) W :=
 fun lp J Jx fJ _ hY O h0 hO hK=>fired_in n hn lp lb fb tb ob B 0 W v l off fr to W hl hf ht hob hrw ho hsv ho1 hf1 ht1 J Jx fJ (Nat.zero_le _) (fun k hk=>absurd hk (Nat.not_lt_zero k)) (fun pre x D O W' hJ hO hD hDO hR=>hY pre x D O W' hJ hO hD hDO ⟨hR.1,hR.2.1⟩) O h0 hO (fun k h=>h.elim (hK k) (fun h=>absurd h (Nat.not_lt_zero k)))
theorem fired_any (w:World) (v:Value) (A:Option Addr) (m c:Nat) (hv:v = .slice A m c) (off fr to:Int) :
  Calls Tryz.prog 76 #[v,.int .i64 off,.int .i64 fr,.int .i64 to] w fun e w'=>e = .returned (.func (.func 116) #[] #[.pointer (some ⟨w.heap.size,0,none⟩),.pointer (some ⟨w.heap.size + 2,0,none⟩),.pointer (some ⟨w.heap.size + 3,0,none⟩),.pointer (some ⟨w.heap.size + 1,0,none⟩)])∧Below w.heap.size w w' ∧
   Blk w' w.heap.size 52 #[v]∧Blk w' (w.heap.size + 1) 3 #[.int .i64 off]∧Blk w' (w.heap.size + 2) 3 #[.int .i64 fr]∧Blk w' (w.heap.size + 3) 3 #[.int .i64 to]:=by
 subst hv
 have h1:=(((Blk.new w 52 #[.slice A m c]).alloc (.cells #[.int .i64 off] 3)).alloc (.cells #[.int .i64 fr] 3)).alloc (.cells #[.int .i64 to] 3)
 have h2:=((Blk.new (w.alloc (.cells #[.slice A m c] 52)) 3 #[.int .i64 off]).alloc (.cells #[.int .i64 fr] 3)).alloc (.cells #[.int .i64 to] 3)
 have h3:=(Blk.new ((w.alloc (.cells #[.slice A m c] 52)).alloc (.cells #[.int .i64 off] 3)) 3 #[.int .i64 fr]).alloc (.cells #[.int .i64 to] 3)
 have h4:=Blk.new (((w.alloc (.cells #[.slice A m c] 52)).alloc (.cells #[.int .i64 off] 3)).alloc (.cells #[.int .i64 fr] 3)) 3 #[.int .i64 to]
 simp only [World.size_alloc] at h2 h3 h4
 have HB:=Lib.hid (((((Below.refl w.heap.size w).alloc (Nat.le_refl _) (.cells #[.slice A m c] 52)).alloc (by simp) (.cells #[.int .i64 off] 3)).alloc (by simp;omega) (.cells #[.int .i64 fr] 3)).alloc (by simp;omega) (.cells #[.int .i64 to] 3))
 have HH:=Lib.hid (And.intro h1 (And.intro h2 (And.intro h3 h4)))
 clear h1 h2 h3 h4
 go_enter Tryz.func76,Tryz.ntmps76
 go_wp2_with fail
 go_ret
 exact ⟨rfl,HB.out,HH.out⟩
end
section -- RulA
open Go Go.RowKit Go.Shelf
theorem rulsV_append (l m:List Rul):rulsV (l ++ m) = rulsV l ++ rulsV m:=by simp [rulsV]
theorem rulsV_cons (x:Rul) (m:List Rul):rulsV (x :: m) = rulV x ++ rulsV m:=by simp [rulsV]
theorem rulsV_one (l:List Rul):∀ u ∈ rulsV l,u.oneCell' = true:=by
 intro u hu
 unfold rulsV at hu
 obtain ⟨c,-,hc⟩:=List.mem_flatMap.1 hu
 simp [rulV] at hc
 rcases hc with rfl | rfl | rfl | rfl | rfl | rfl | rfl | rfl | rfl | rfl | rfl <;> rfl
def RwR (W:World) (base g cap n:Nat) (d:List Rul):Prop:=d.length = n∧W.ownsRow base 106 11 (.slice (some ⟨g,0,none⟩) n cap) n (rulsV d)
section
variable {W W':World} {base g cap n:Nat} {A C d:List Rul} {x y:Rul}
theorem RwR.len (h:RwR W base g cap n d):d.length = n:=h.1
theorem RwR.room (h:RwR W base g cap n d):n ≤ cap∧cap ≤ maxLen:=by
 rcases h.2.2 with ⟨h',_⟩ | ⟨g',cap',cur,h',_,hg,h1,h2,_⟩
 ·simp at h'
 ·simp only [Value.slice.injEq,Option.some.injEq,Addr.mk.injEq,and_true,true_and] at h'
  obtain ⟨rfl,rfl⟩:=h'
  exact ⟨h1,h2⟩
theorem RwR.lt (h:RwR W base g cap n d):base ≤ g∧g < W.heap.size:=h.2.lt g rfl
theorem RwR.at_ (h:RwR W base g cap n (A ++ x :: C)):RulC W g (A.length * 11) x:=by
 have hl:=h.1
 rw [List.length_append,List.length_cons] at hl
 have hc:∀ i,i < 11→W.cell? ⟨g,A.length * 11 + i,none⟩ = (rulV x)[i]?:=fun i hi=>by
  rw [h.2.cellAt _ (by omega),rulsV_append,rulsV_cons,List.getElem?_append_right (by rw [length_rulsV];omega),length_rulsV,Nat.add_sub_cancel_left,List.getElem?_append_left (by simp [rulV];omega)]
 exact ⟨hc 0 (by omega),hc 1 (by omega),hc 2 (by omega),hc 3 (by omega),hc 4 (by omega),hc 5 (by omega),hc 6 (by omega),hc 7 (by omega),hc 8 (by omega),hc 9 (by omega),hc 10 (by omega)⟩
theorem RwR.at2 {Q:List Rul} (h:RwR W base g cap n (A ++ y :: (Q ++ x :: C))):RulC W g ((A.length + 1 + Q.length) * 11) x:=by
 have h1:RwR W base g cap n ((A ++ y :: Q) ++ x :: C):=by simpa using h
 have h2:=h1.at_
 rwa [show (A ++ y :: Q).length = A.length + 1 + Q.length by simp;omega] at h2
theorem RwR.frozen (h:RwR W base g cap n d) (j:Nat):W.frozen? ⟨g,j,none⟩ = false:=h.2.frozenAt j
theorem RwR.fr {T:Nat→Prop} (h:RwR W base g cap n d) (hf:Fr T W W') (hn:¬ T g):RwR W' base g cap n d:=⟨h.1,hf.own h.2 fun k hk=>by cases hk;exact hn⟩
theorem RwR.below (h:RwR W base g cap n d) (hb:Below W.heap.size W W'):RwR W' base g cap n d:=h.fr (T:=fun _=>False) (Fr.of_below hb (Nat.le_refl _)) (fun e=>e)
def putR (W:World) (g p:Nat) (x:Rul):World:=((((((((((W.setCell ⟨g,p,none⟩ (.string x.name)).setCell ⟨g,p + 1,none⟩ (.int .i64 x.from_)).setCell ⟨g,p + 2,none⟩ (.int .i64 x.to_)).setCell ⟨g,p + 3,none⟩ (.int .i64 x.month)).setCell ⟨g,p + 4,none⟩ (.int .i64 x.dk)).setCell ⟨g,p + 5,none⟩ (.int .i64 x.dw)).setCell ⟨g,p + 6,none⟩ (.int .i64 x.dn)).setCell ⟨g,p + 7,none⟩ (.int .i64 x.sec)).setCell ⟨g,p + 8,none⟩ (.int .i64 x.kind)).setCell ⟨g,p + 9,none⟩ (.int .i64 x.save)).setCell ⟨g,p + 10,none⟩ (.string x.letter)
theorem set_midR {L M R:List Value} {i:Nat} (v:Value) (hi:i < M.length):(L ++ (M ++ R)).set (L.length + i) v = L ++ (M.set i v ++ R):=by
 rw [List.set_append_right _ _ (by omega),Nat.add_sub_cancel_left,List.set_append_left _ _ hi]
theorem RwR.put (h:RwR W base g cap n (A ++ y :: C)) (x:Rul):RwR (putR W g (A.length * 11) x) base g cap n (A ++ x :: C):=by
 refine ⟨by have:=h.1;simpa using this,?_⟩
 have h1:=(h.2.stored (A.length * 11) (.string x.name)).1
 have h2:=(h1.stored (A.length * 11 + 1) (.int .i64 x.from_)).1
 have h3:=(h2.stored (A.length * 11 + 2) (.int .i64 x.to_)).1
 have h4:=(h3.stored (A.length * 11 + 3) (.int .i64 x.month)).1
 have h5:=(h4.stored (A.length * 11 + 4) (.int .i64 x.dk)).1
 have h6:=(h5.stored (A.length * 11 + 5) (.int .i64 x.dw)).1
 have h7:=(h6.stored (A.length * 11 + 6) (.int .i64 x.dn)).1
 have h8:=(h7.stored (A.length * 11 + 7) (.int .i64 x.sec)).1
 have h9:=(h8.stored (A.length * 11 + 8) (.int .i64 x.kind)).1
 have h10:=(h9.stored (A.length * 11 + 9) (.int .i64 x.save)).1
 have h11:=(h10.stored (A.length * 11 + 10) (.string x.letter)).1
 unfold putR
 rw [rulsV_append,rulsV_cons] at h11 ⊢
 rw [← length_rulsV A] at h11 ⊢
 have e:=set_midR (L:=rulsV A) (M:=rulV y) (R:=rulsV C) (i:=0) (.string x.name) (by simp [rulV])
 rw [Nat.add_zero] at e
 rw [e,set_midR _ (by simp [rulV]),set_midR _ (by simp [rulV]),set_midR _ (by simp [rulV]),set_midR _ (by simp [rulV]),set_midR _ (by simp [rulV]),set_midR _ (by simp [rulV]),set_midR _ (by simp [rulV]),set_midR _ (by simp [rulV]),set_midR _ (by simp [rulV]),set_midR _ (by simp [rulV])] at h11
 exact h11
theorem putR_fr (W:World) (g p:Nat) (x:Rul):Fr (fun k=>k = g) W (putR W g p x) :=
 ((((((((((Fr.setCell (T:=fun k=>k = g) W p _ rfl).then (Fr.setCell (T:=fun k=>k = g) _ (p + 1) _ rfl)).then (Fr.setCell (T:=fun k=>k = g) _ (p + 2) _ rfl)).then (Fr.setCell (T:=fun k=>k = g) _ (p + 3) _ rfl)).then (Fr.setCell (T:=fun k=>k = g) _ (p + 4) _ rfl)).then (Fr.setCell (T:=fun k=>k = g) _ (p + 5) _ rfl)).then (Fr.setCell (T:=fun k=>k = g) _ (p + 6) _ rfl)).then (Fr.setCell (T:=fun k=>k = g) _ (p + 7) _ rfl)).then (Fr.setCell (T:=fun k=>k = g) _ (p + 8) _ rfl)).then (Fr.setCell (T:=fun k=>k = g) _ (p + 9) _ rfl)).then (Fr.setCell (T:=fun k=>k = g) _ (p + 10) _ rfl)
theorem RwR.swap {Q:List Rul} (h:RwR W base g cap n (A ++ y :: (Q ++ x :: C))) :
  RwR (putR W.drew g ((A.length + 1 + Q.length) * 11) y) base g cap n (A ++ y :: (Q ++ y :: C))∧RwR (putR W.drew g (A.length * 11) x) base g cap n (A ++ x :: (Q ++ x :: C)) ∧
  RwR (putR (putR W.drew g ((A.length + 1 + Q.length) * 11) y) g (A.length * 11) x) base g cap n (A ++ x :: (Q ++ y :: C))∧RwR (putR (putR W.drew g (A.length * 11) x) g ((A.length + 1 + Q.length) * 11) y) base g cap n (A ++ x :: (Q ++ y :: C)) ∧
  Fr (fun k=>k = g) W (putR (putR W.drew g ((A.length + 1 + Q.length) * 11) y) g (A.length * 11) x)∧Fr (fun k=>k = g) W (putR (putR W.drew g (A.length * 11) x) g ((A.length + 1 + Q.length) * 11) y):=by
 have hl:∀ z:Rul,(A ++ z :: Q).length = A.length + 1 + Q.length:=fun z=>by simp;omega
 have hd:RwR W.drew base g cap n (A ++ y :: (Q ++ x :: C)):=h
 have h2:∀ (z u:Rul),A ++ z :: (Q ++ u :: C) = (A ++ z :: Q) ++ u :: C:=fun z u=>by simp
 have a1:RwR (putR W.drew g ((A.length + 1 + Q.length) * 11) y) base g cap n (A ++ y :: (Q ++ y :: C)):=by
  rw [h2] at hd ⊢
  have:=hd.put y
  rwa [hl] at this
 have b1:=hd.put x
 refine ⟨a1,b1,a1.put x,?_,((Fr.drew W).then (putR_fr _ _ _ _)).then (putR_fr _ _ _ _),((Fr.drew W).then (putR_fr _ _ _ _)).then (putR_fr _ _ _ _)⟩
 rw [h2] at b1 ⊢
 have:=b1.put y
 rwa [hl] at this
end
def keyR (x:Rul):Int:=x.from_ * 100 + x.month
def mOk (x:Rul):Prop:=1 ≤ x.month∧x.month ≤ 12
def cmp2 (x y:Rul):Int:=if cmpZ x.from_ y.from_ = 0 then cmpZ x.month y.month else cmpZ x.from_ y.from_
theorem cmp2_lt {x y:Rul} (hx:mOk x) (hy:mOk y):(cmp2 x y < 0) = (keyR x < keyR y):=by
 unfold mOk at hx hy
 unfold cmp2 keyR cmpZ
 refine propext ?_
 repeat' split
 all_goals omega
def orV (a b:Int):Int:=if a = 0 then b else a
theorem ints_at {w:World} {B:Nat} {v:Value} {a b:Int} (h:Sl w B 1 v 2 [.int .i64 a,.int .i64 b]):∃ g o c,v = .slice (some ⟨g,o,none⟩) 2 c∧w.cell? ⟨g,o,none⟩ = some (.int .i64 a)∧w.cell? ⟨g,o + 1,none⟩ = some (.int .i64 b):=by
 obtain ⟨g,o,c,e,hb,hc⟩:=Sl.at_ h (by omega)
 exact ⟨g,o,c,e,hc 0 _ rfl,hc 1 _ rfl⟩
theorem or_any (w:World) (B:Nat) (v:Value) (a b:Int) (h:Sl w B 1 v 2 [.int .i64 a,.int .i64 b]) :
  Calls Tryz.prog 97 #[v] w fun e w'=>e = .returned (.int .i64 (orV a b))∧w' = w:=by
 obtain ⟨g,o,c,rfl,c0,c1⟩:=ints_at h
 clear h
 by_cases ha:a = 0
 ·subst ha
  have HV:=Lib.hid (show orV 0 b = b from rfl)
  by_cases hb:b = 0
  ·subst hb
   go_enter Tryz.func97,Tryz.ntmps97
   go_wp2_with fail
   refine wp_loop_rounds 3 ?_
   rw [rounds_succ]
   go_wp2_with fail
   rw [rounds_succ]
   go_wp2_with fail
   rw [rounds_succ]
   go_wp2_with fail
   go_ret
   exact ⟨by rw [HV.out];rfl,rfl⟩
  ·have he:(b != 0) = true:=by simpa using hb
   go_enter Tryz.func97,Tryz.ntmps97
   go_wp2_with fail
   refine wp_loop_rounds 3 ?_
   rw [rounds_succ]
   go_wp2_with fail
   rw [rounds_succ]
   go_wp2_with fail
   go_ret
   exact ⟨by rw [HV.out];rfl,rfl⟩
 ·have HV:=Lib.hid (show orV a b = a by unfold orV;rw [if_neg ha])
  have he:(a != 0) = true:=by simpa using ha
  go_enter Tryz.func97,Tryz.ntmps97
  go_wp2_with fail
  refine wp_loop_rounds 3 ?_
  rw [rounds_succ]
  go_wp2_with fail
  go_ret
  exact ⟨by rw [HV.out];rfl,rfl⟩
end
section -- RulB
open Go Go.RowKit Go.Shelf
def Fact.ints (a b:Int):Fact:=⟨fun v w=>Sl w w.heap.size 1 v 2 [.int .i64 a,.int .i64 b],fun _ _ _ h hb=>(h.below hb).more hb.size⟩
theorem order2_any (x y:Rul) (w:World) :
  Calls Tryz.prog 96 #[rulA x,rulA y] w fun e w'=>e = .returned (.int .i64 (cmp2 x y))∧Below w.heap.size w w':=by
 have h1:RulB ((w.alloc (.cells #[.string x.name,.int .i64 x.from_,.int .i64 x.to_,.int .i64 x.month,.int .i64 x.dk,.int .i64 x.dw,.int .i64 x.dn,.int .i64 x.sec,.int .i64 x.kind,.int .i64 x.save,.string x.letter] 106)).alloc (.cells #[.string y.name,.int .i64 y.from_,.int .i64 y.to_,.int .i64 y.month,.int .i64 y.dk,.int .i64 y.dw,.int .i64 y.dn,.int .i64 y.sec,.int .i64 y.kind,.int .i64 y.save,.string y.letter] 106)) w.heap.size x:=(Blk.new w 106 _).alloc _
 have h2:RulB ((w.alloc (.cells #[.string x.name,.int .i64 x.from_,.int .i64 x.to_,.int .i64 x.month,.int .i64 x.dk,.int .i64 x.dw,.int .i64 x.dn,.int .i64 x.sec,.int .i64 x.kind,.int .i64 x.save,.string x.letter] 106)).alloc (.cells #[.string y.name,.int .i64 y.from_,.int .i64 y.to_,.int .i64 y.month,.int .i64 y.dk,.int .i64 y.dw,.int .i64 y.dn,.int .i64 y.sec,.int .i64 y.kind,.int .i64 y.save,.string y.letter] 106)) (w.heap.size + 1) y:=by
  have:=Blk.new (w.alloc (.cells #[.string x.name,.int .i64 x.from_,.int .i64 x.to_,.int .i64 x.month,.int .i64 x.dk,.int .i64 x.dw,.int .i64 x.dn,.int .i64 x.sec,.int .i64 x.kind,.int .i64 x.save,.string x.letter] 106)) 106 #[.string y.name,.int .i64 y.from_,.int .i64 y.to_,.int .i64 y.month,.int .i64 y.dk,.int .i64 y.dw,.int .i64 y.dn,.int .i64 y.sec,.int .i64 y.kind,.int .i64 y.save,.string y.letter]
  rwa [World.size_alloc] at this
 have hb0:Below w.heap.size w ((w.alloc (.cells #[.string x.name,.int .i64 x.from_,.int .i64 x.to_,.int .i64 x.month,.int .i64 x.dk,.int .i64 x.dw,.int .i64 x.dn,.int .i64 x.sec,.int .i64 x.kind,.int .i64 x.save,.string x.letter] 106)).alloc (.cells #[.string y.name,.int .i64 y.from_,.int .i64 y.to_,.int .i64 y.month,.int .i64 y.dk,.int .i64 y.dw,.int .i64 y.dn,.int .i64 y.sec,.int .i64 y.kind,.int .i64 y.save,.string y.letter] 106)):=((Below.refl _ _).alloc (Nat.le_refl _) _).alloc (by simp) _
 have HC:=Lib.hid (fun a b W=>cmpInt_any a b W)
 have HV:=Lib.hid (show orV (cmpZ x.from_ y.from_) (cmpZ x.month y.month) = cmp2 x y from rfl)
 unfold rulA
 obtain ⟨z1,hz1⟩:∃ z,cmpZ x.from_ y.from_ = z:=⟨_,rfl⟩
 obtain ⟨z2,hz2⟩:∃ z,cmpZ x.month y.month = z:=⟨_,rfl⟩
 obtain ⟨z,hz⟩:∃ z,cmp2 x y = z:=⟨_,rfl⟩
 rw [hz1,hz2,hz] at HV
 rw [hz]
 have HZ:=Lib.hid (And.intro hz1 hz2)
 clear hz1 hz2 hz
 go_enter Tryz.func96,Tryz.ntmps96
 go_wp2_with fail
 obtain ⟨W0,hW0⟩:∃ W,(w.alloc (.cells #[.string x.name,.int .i64 x.from_,.int .i64 x.to_,.int .i64 x.month,.int .i64 x.dk,.int .i64 x.dw,.int .i64 x.dn,.int .i64 x.sec,.int .i64 x.kind,.int .i64 x.save,.string x.letter] 106)).alloc (.cells #[.string y.name,.int .i64 y.from_,.int .i64 y.to_,.int .i64 y.month,.int .i64 y.dk,.int .i64 y.dw,.int .i64 y.dn,.int .i64 y.sec,.int .i64 y.kind,.int .i64 y.save,.string y.letter] 106) = W:=⟨_,rfl⟩
 rw [hW0] at h1 h2 hb0 ⊢
 clear hW0
 have H1:=Lib.hid h1
 have H2:=Lib.hid h2
 have HB0:=Lib.hid hb0
 clear h1 h2 hb0
 refine wp_inv (by kernel_rfl) [5,6,7,8,9,10,11,12,13,14,15,16,4]
  [.is (.pointer (some ⟨w.heap.size,1,none⟩)),.is (.int .i64 x.from_),.is (.pointer (some ⟨w.heap.size + 1,1,none⟩)),.is (.int .i64 y.from_),.is (.int .i64 z1),.is (.pointer (some ⟨w.heap.size,3,none⟩)),.is (.int .i64 x.month),.is (.pointer (some ⟨w.heap.size + 1,3,none⟩)),.is (.int .i64 y.month),.is (.int .i64 z2),Fact.ints z1 z2,.is (.int .i64 z),.is (.int .i64 z)] (by kernel_rfl) ⟨?_,?_,?_,?_,?_,?_,?_,?_,?_,?_,?_,?_,?_,trivial⟩ ?_
 ·intro x_ w1_ R hB_ hf hR
  clear hB_ hf
  simp only [frameOf,upd,List.foldl_cons,List.foldl_nil,Act.put,List.setIfInBounds_toArray,List.set_cons_succ,List.set_cons_zero] at hR ⊢
  go_wp2_with fail
  exact hR _ _ rfl (Below.refl _ _)
 ·intro x_ w1_ R hB_ hf hR
  have h0:x_ 5 = .pointer (some ⟨w.heap.size,1,none⟩):=hf 0 (by kernel_rfl)
  have q0:=Blk.cell (Blk.below H1.out hB_ (Blk.lt H1.out)) 1 (v:=.int .i64 x.from_) rfl
  clear hB_ hf
  simp only [frameOf,upd,List.foldl_cons,List.foldl_nil,Act.put,List.setIfInBounds_toArray,List.set_cons_succ,List.set_cons_zero] at hR ⊢
  simp only [h0] at hR ⊢
  go_wp2_with fail
  exact hR _ _ rfl (Below.refl _ _)
 ·intro x_ w1_ R hB_ hf hR
  clear hB_ hf
  simp only [frameOf,upd,List.foldl_cons,List.foldl_nil,Act.put,List.setIfInBounds_toArray,List.set_cons_succ,List.set_cons_zero] at hR ⊢
  go_wp2_with fail
  exact hR _ _ rfl (Below.refl _ _)
 ·intro x_ w1_ R hB_ hf hR
  have h0:x_ 7 = .pointer (some ⟨w.heap.size + 1,1,none⟩):=hf 2 (by kernel_rfl)
  have q0:=Blk.cell (Blk.below H2.out hB_ (Blk.lt H2.out)) 1 (v:=.int .i64 y.from_) rfl
  clear hB_ hf
  simp only [frameOf,upd,List.foldl_cons,List.foldl_nil,Act.put,List.setIfInBounds_toArray,List.set_cons_succ,List.set_cons_zero] at hR ⊢
  simp only [h0] at hR ⊢
  go_wp2_with fail
  exact hR _ _ rfl (Below.refl _ _)
 ·intro x_ w1_ R hB_ hf hR
  have h0:x_ 6 = .int .i64 x.from_:=hf 1 (by kernel_rfl)
  have h1:x_ 8 = .int .i64 y.from_:=hf 3 (by kernel_rfl)
  have HCC:=Lib.hid (HC.out x.from_ y.from_ w1_)
  rw [HZ.out.1] at HCC
  clear hB_ hf
  simp only [frameOf,upd,List.foldl_cons,List.foldl_nil,Act.put,List.setIfInBounds_toArray,List.set_cons_succ,List.set_cons_zero] at hR ⊢
  simp only [h0,h1] at hR ⊢
  go_wp2_with fail
  refine HCC.out.mono ?_
  rintro e w2_ ⟨rfl,rfl⟩
  clear HCC
  go_wp2_with fail
  exact hR _ _ rfl (Below.refl _ _)
 ·intro x_ w1_ R hB_ hf hR
  clear hB_ hf
  simp only [frameOf,upd,List.foldl_cons,List.foldl_nil,Act.put,List.setIfInBounds_toArray,List.set_cons_succ,List.set_cons_zero] at hR ⊢
  go_wp2_with fail
  exact hR _ _ rfl (Below.refl _ _)
 ·intro x_ w1_ R hB_ hf hR
  have h0:x_ 10 = .pointer (some ⟨w.heap.size,3,none⟩):=hf 5 (by kernel_rfl)
  have q0:=Blk.cell (Blk.below H1.out hB_ (Blk.lt H1.out)) 3 (v:=.int .i64 x.month) rfl
  clear hB_ hf
  simp only [frameOf,upd,List.foldl_cons,List.foldl_nil,Act.put,List.setIfInBounds_toArray,List.set_cons_succ,List.set_cons_zero] at hR ⊢
  simp only [h0] at hR ⊢
  go_wp2_with fail
  exact hR _ _ rfl (Below.refl _ _)
 ·intro x_ w1_ R hB_ hf hR
  clear hB_ hf
  simp only [frameOf,upd,List.foldl_cons,List.foldl_nil,Act.put,List.setIfInBounds_toArray,List.set_cons_succ,List.set_cons_zero] at hR ⊢
  go_wp2_with fail
  exact hR _ _ rfl (Below.refl _ _)
 ·intro x_ w1_ R hB_ hf hR
  have h0:x_ 12 = .pointer (some ⟨w.heap.size + 1,3,none⟩):=hf 7 (by kernel_rfl)
  have q0:=Blk.cell (Blk.below H2.out hB_ (Blk.lt H2.out)) 3 (v:=.int .i64 y.month) rfl
  clear hB_ hf
  simp only [frameOf,upd,List.foldl_cons,List.foldl_nil,Act.put,List.setIfInBounds_toArray,List.set_cons_succ,List.set_cons_zero] at hR ⊢
  simp only [h0] at hR ⊢
  go_wp2_with fail
  exact hR _ _ rfl (Below.refl _ _)
 ·intro x_ w1_ R hB_ hf hR
  have h0:x_ 11 = .int .i64 x.month:=hf 6 (by kernel_rfl)
  have h1:x_ 13 = .int .i64 y.month:=hf 8 (by kernel_rfl)
  have HCC:=Lib.hid (HC.out x.month y.month w1_)
  rw [HZ.out.2] at HCC
  clear hB_ hf
  simp only [frameOf,upd,List.foldl_cons,List.foldl_nil,Act.put,List.setIfInBounds_toArray,List.set_cons_succ,List.set_cons_zero] at hR ⊢
  simp only [h0,h1] at hR ⊢
  go_wp2_with fail
  refine HCC.out.mono ?_
  rintro e w2_ ⟨rfl,rfl⟩
  clear HCC
  go_wp2_with fail
  exact hR _ _ rfl (Below.refl _ _)
 ·intro x_ w1_ R hB_ hf hR
  have h0:x_ 9 = .int .i64 z1:=hf 4 (by kernel_rfl)
  have h1:x_ 14 = .int .i64 z2:=hf 9 (by kernel_rfl)
  have hl_:=w1_.heap.size
  clear hB_ hf
  simp only [frameOf,upd,List.foldl_cons,List.foldl_nil,Act.put,List.setIfInBounds_toArray,List.set_cons_succ,List.set_cons_zero] at hR ⊢
  simp only [h0,h1] at hR ⊢
  go_wp2_with fail
  exact hR _ _ (Sl.mk_ (by decide) (by decide) rfl (by simp) (fun j u hu=>(cell_new w1_ _ _ _ _).trans (by simpa using hu))) ((Below.refl _ _).alloc (Nat.le_refl _) _)
 ·intro x_ w1_ R hB_ hf hR
  have HO:=Lib.hid (or_any w1_ w1_.heap.size (x_ 15) z1 z2 (hf 10 (by kernel_rfl)))
  rw [HV.out] at HO
  clear hB_ hf
  simp only [frameOf,upd,List.foldl_cons,List.foldl_nil,Act.put,List.setIfInBounds_toArray,List.set_cons_succ,List.set_cons_zero] at hR ⊢
  go_wp2_with fail
  refine HO.out.mono ?_
  rintro e w2_ ⟨rfl,rfl⟩
  clear HO
  go_wp2_with fail
  exact hR _ _ rfl (Below.refl _ _)
 ·intro x_ w1_ R hB_ hf hR
  have h0:x_ 16 = .int .i64 z:=hf 11 (by kernel_rfl)
  clear hB_ hf
  simp only [frameOf,upd,List.foldl_cons,List.foldl_nil,Act.put,List.setIfInBounds_toArray,List.set_cons_succ,List.set_cons_zero] at hR ⊢
  simp only [h0] at hR ⊢
  go_wp2_with fail
  exact hR _ _ rfl (Below.refl _ _)
 intro x_ w8 hB8 hf8
 have h4:x_ 4 = .int .i64 z:=hf8 12 (by decide)
 simp only [frameOf,List.foldl_cons,List.foldl_nil,Act.put,List.setIfInBounds_toArray,List.set_cons_succ,List.set_cons_zero]
 rw [h4]
 have HB8:=Lib.hid (HB0.out.trans (hB8.mono HB0.out.size))
 clear hB8 hf8
 go_wp2_with fail
 go_ret
 exact ⟨rfl,HB8.out⟩
theorem insertion_R (W0:World) (base g cap n a b:Nat) (P B S:List Rul) (ha:P.length = a) (hb:a + B.length = b) (hn:n ≤ 1000000000) (hmo:∀ z ∈ B,mOk z) (hR:RwR W0 base g cap n (P ++ (B ++ S))) :
  Calls Tryz.prog 156 #[.slice (some ⟨g,0,none⟩) n cap,.int .i64 a,.int .i64 b,.func (.func 96) #[] #[]] W0 fun e w'=>e = .returned (.tuple #[])∧∃ M,Stab keyR B M∧RwR w' base g cap n (P ++ (M ++ S))∧Fr (fun k=>k = g) W0 w':=by
 have hroom:=hR.room
 have hlen:=hR.len
 unfold maxLen at hroom
 simp only [List.length_append] at hlen
 have HR:=Lib.hid hR
 have HMB:=Lib.hid hmo
 clear hR hmo
 obtain ⟨m,hm⟩:∃ m,B.length = m:=⟨_,rfl⟩
 rw [ha,hm] at hlen
 rw [hm] at hb
 have HA:=Lib.hid ha
 have HM:=Lib.hid hm
 clear ha hm
 go_enter Tryz.func156,Tryz.ntmps156
 go_wp2_with fail
 go_loopw [8] (fun iv wr=>∃ (k i:Nat) (M:List Rul),1 ≤ k∧(k ≤ m∨k = 1)∧i = a + k∧iv = .int .i64 i∧Stab keyR (B.take k) M∧RwR wr base g cap n (P ++ (M ++ (B.drop k ++ S)))∧Fr (fun k=>k = g) W0 wr) (fun iv _=>b - (intOf iv).toNat)
 case atStart=>exact ⟨1,a + 1,B.take 1,by omega,by omega,rfl,by go_num,by
  rcases B with _ | ⟨x,B⟩
  ·exact Stab.nil
  ·exact Stab.one x,by rw [← List.append_assoc (B.take 1),List.take_append_drop];exact HR.out,Fr.refl _ _⟩
 case round =>
  obtain ⟨k,i,M,hk1,hk,hik,rfl,hst,hrw,hfr⟩:=hrel
  have HST:=Lib.hid hst
  have HRW:=Lib.hid hrw
  have HFR:=Lib.hid hfr
  have hml:=hst.len
  rw [List.length_take,HM.out] at hml
  clear hst hrw hfr
  have HIK:=Lib.hid hik
  have hin:i ≤ n + 1:=by omega
  by_cases hlt:i < b
  ·have hlt':(i:Int) < (b:Int):=by omega
   have hd:decide ((i:Int) < (b:Int)) = true:=decide_eq_true hlt'
   have hkm:k < m:=by omega
   have hMk:M.length = k:=by omega
   have hib:i = a + M.length:=by omega
   have HIB:=Lib.hid hib
   clear hik hib hml
   have hkB:k < B.length:=by rw [HM.out];exact hkm
   obtain ⟨x,hx⟩:∃ x,B[k] = x:=⟨_,rfl⟩
   obtain ⟨T,hT⟩:∃ T,B.drop (k + 1) ++ S = T:=⟨_,rfl⟩
   have HD:=Lib.hid (show B.drop k ++ S = x :: T by rw [List.drop_eq_getElem_cons hkB,hx,List.cons_append,hT])
   have HTK:=Lib.hid (show B.take (k + 1) = B.take k ++ [x] by rw [List.take_succ_eq_append_getElem hkB,hx])
   have HT:=Lib.hid hT
   rw [HD.out] at HRW
   have HMX:=Lib.hid (show mOk x from by rw [← hx];exact HMB.out _ (List.getElem_mem hkB))
   clear hx hT
   go_wp2_with fail
   go_loopw [9] (fun jv wi=>∃ (j:Nat) (U V:List Rul),j = a + U.length∧jv = .int .i64 j∧U ++ V = M∧(∀ v ∈ V,keyR x < keyR v)∧RwR wi base g cap n (P ++ (U ++ x :: (V ++ T)))∧Fr (fun k=>k = g) W0 wi) (fun jv _=>(intOf jv).toNat)
   case atStart=>exact ⟨i,M,[],HIB.out,rfl,List.append_nil _,fun v hv=>by simp at hv,HRW.out,HFR.out⟩
   case round =>
    obtain ⟨j,Us,V,hj,rfl,hUV,hV,hrw,hfr⟩:=hrel
    have HUV:=Lib.hid hUV
    have HV:=Lib.hid hV
    have HRI:=Lib.hid hrw
    have HFI:=Lib.hid hfr
    have hlM:Us.length + V.length = M.length:=by rw [← hUV,List.length_append]
    clear hUV hV hrw hfr
    rcases List.eq_nil_or_concat Us with rfl | ⟨U',y,rfl⟩
    ·obtain rfl:j = a:=by simpa using hj
     clear hj
     go_wp2_with fail
     refine wp_env (fin:=?fnn) (by kernel_rfl) [18,19,20,21,22,23,24,25,26,27,28,29,30,31,32,33,34]
      [.int .i64 j,.int .i64 j,.bool false,.bool false,undef,undef,undef,undef,undef,undef,undef,undef,undef,undef,undef,undef,.bool false] (by kernel_rfl) ?finn ?stepsn ?nextn
     case finn =>
      simp only [putAll,Act.put,List.setIfInBounds_toArray,List.set_cons_succ,List.set_cons_zero]
      rfl
     case stepsn =>
      refine ⟨?_,?_,?_,?_,?_,?_,?_,?_,?_,?_,?_,?_,?_,?_,?_,?_,?_,trivial⟩
      all_goals first | exact .inl ⟨by kernel_rfl,rfl⟩ | refine .inr ⟨by kernel_rfl,fun w1_ hB_=>?_⟩
      all_goals
       clear hB_
       go_simp
       first
        | exact ⟨rfl,Below.refl _ _⟩
        | exact ⟨rfl,HCMP.out w1_⟩
        | (rw [IntWalk.i64_in _ (by omega)];exact ⟨rfl,Below.refl _ _⟩)
        | (rw [decide_eq_true (by omega)];exact ⟨rfl,Below.refl _ _⟩)
        | (rw [decide_eq_false (by omega)];exact ⟨rfl,Below.refl _ _⟩)
        | (rw [if_pos (by omega)];exact ⟨rfl,Below.refl _ _⟩)
        | done
     case nextn =>
     intro w7 hb7
     have HB7:=Lib.hid hb7
     clear hb7
     go_wp2_with fail
     go_roundw
     case rel=>exact ⟨k + 1,i + 1,x :: M,by omega,by omega,by have:=HIK.out;omega,by go_num,by
      rw [HTK.out]
      have e:=HUV.out
      rw [List.nil_append] at e
      exact Stab.put (A:=[]) (B:=M) HST.out (by simp) (by rw [← e];exact HV.out),by
      have e:=HUV.out
      have h:=HRI.out
      rw [List.nil_append] at e h
      rw [← HT.out,e] at h
      exact h.below HB7.out,HFI.out.then (Fr.of_below HB7.out (Nat.le_refl _))⟩
     case measure=>first | (simp [intOf];done) | (simp [intOf];omega)
    ·rw [List.concat_eq_append] at *
     have e1:=HRI.out
     rw [List.append_assoc U',← List.append_assoc P,List.singleton_append] at e1
     have HE:=Lib.hid e1
     have HE2:=Lib.hid (show RwR wr base g cap n ((P ++ (U' ++ [y])) ++ x :: (V ++ T)) by have h:=HRI.out;rw [← List.append_assoc] at h;exact h)
     clear e1
     obtain ⟨p,hp⟩:∃ p,(P ++ U').length = p:=⟨_,rfl⟩
     have hp2:(P ++ (U' ++ [y])).length = p + 1:=by rw [← hp];simp only [List.length_append,List.length_cons,List.length_nil];omega
     have hpa:a ≤ p:=by rw [← hp,List.length_append,HA.out];omega
     have hpn:p + 1 < n:=by
      have h:=HE2.out.len
      rw [List.length_append,hp2,List.length_cons] at h
      omega
     obtain rfl:j = p + 1:=by
      rw [hj,← hp];simp only [List.length_append,List.length_cons,List.length_nil,HA.out];omega
     rw [show ((p + 1:Nat):Int) = (p:Int) + 1 from rfl]
     have HCY:=Lib.hid HE.out.at_
     have HCX:=Lib.hid HE2.out.at_
     have HFZ:=Lib.hid (fun j=>HE.out.frozen j)
     rw [hp] at HCY
     rw [hp2] at HCX
     have HP:=Lib.hid hp
     have HP2:=Lib.hid hp2
     clear hp hp2 hj
     have HCMP:=Lib.hid (fun W=>order2_any x y W)
     unfold rulA at HCMP
     have hmx:mOk x:=HMX.out
     have hmy:mOk y:=HMB.out y (List.mem_of_mem_take (HST.out.1.mem_iff.1 (by rw [← HUV.out];simp)))
     have HCZ:=Lib.hid (cmp2_lt hmx hmy)
     obtain ⟨z,hz⟩:∃ z,cmp2 x y = z:=⟨_,rfl⟩
     rw [hz] at HCMP HCZ
     clear hz hmx hmy
     have HK:=Lib.hid (fun (W:World) (h:Below wr.heap.size wr W)=>show RulC W g ((p + 1) * 11) x∧RulC W g (p * 11) y from ⟨HP2.out ▸ (HE2.out.below h).at_,HP.out ▸ (HE.out.below h).at_⟩)
     by_cases hxy:keyR x < keyR y
     ·have hz:z < 0:=by rw [HCZ.out];exact hxy
      go_wp2_with fail
      refine wp_env (fin:=?fnt) (by kernel_rfl) [18,19,20,21,22,23,24,25,26,27,28,29,30,31,32,33,34]
       [.int .i64 ((p:Int) + 1),.int .i64 a,.bool true,.bool true,.func (.func 96) #[] #[],.slice (some ⟨g,0,none⟩) n cap,.int .i64 ((p:Int) + 1),.pointer (some ⟨g,(p + 1) * 11,none⟩),rulA x,.slice (some ⟨g,0,none⟩) n cap,.int .i64 ((p:Int) + 1),.int .i64 p,.pointer (some ⟨g,p * 11,none⟩),rulA y,.int .i64 z,.bool true,.bool true] (by kernel_rfl) ?fint ?stepst ?nextt
      case fint =>
       simp only [putAll,Act.put,List.setIfInBounds_toArray,List.set_cons_succ,List.set_cons_zero]
       rfl
      case stepst =>
       unfold rulA
       refine ⟨?_,?_,?_,?_,?_,?_,?_,?_,?_,?_,?_,?_,?_,?_,?_,?_,?_,trivial⟩
       all_goals refine .inr ⟨by kernel_rfl,fun w1_ hB_=>?_⟩
       all_goals
        obtain ⟨⟨c0,c1,c2,c3,c4,c5,c6,c7,c8,c9,c10⟩,⟨d0,d1,d2,d3,d4,d5,d6,d7,d8,d9,d10⟩⟩:=HK.out w1_ hB_
        clear hB_
        go_simp
        first
         | exact ⟨rfl,Below.refl _ _⟩
         | exact ⟨rfl,HCMP.out w1_⟩
         | (rw [IntWalk.i64_in _ (by omega)];exact ⟨rfl,Below.refl _ _⟩)
         | (rw [decide_eq_true (by omega)];exact ⟨rfl,Below.refl _ _⟩)
         | (rw [decide_eq_false (by omega)];exact ⟨rfl,Below.refl _ _⟩)
         | (rw [if_pos (by omega)];exact ⟨rfl,Below.refl _ _⟩)
         | done
      case nextt =>
      intro w7 hb7
      have HB7:=Lib.hid hb7
      have HE7:=Lib.hid (HE.out.below hb7)
      have HE7':=Lib.hid (HE2.out.below hb7)
      clear hb7
      have ⟨c0,c1,c2,c3,c4,c5,c6,c7,c8,c9,c10⟩:=HP2.out ▸ HE7'.out.at_
      have ⟨d0,d1,d2,d3,d4,d5,d6,d7,d8,d9,d10⟩:=HP.out ▸ HE7.out.at_
      have fz:=HE7.out.frozen
      go_wp2_with fail
      have HSW:=Lib.hid (RwR.swap (Q:=[]) HE7.out)
      obtain ⟨wa,hwa⟩:∃ W,putR w7.drew g ((p + 1) * 11) y = W:=⟨_,rfl⟩
      obtain ⟨wb,hwb⟩:∃ W,putR w7.drew g (p * 11) x = W:=⟨_,rfl⟩
      obtain ⟨wc,hwc⟩:∃ W,putR wa g (p * 11) x = W:=⟨_,rfl⟩
      obtain ⟨wd,hwd⟩:∃ W,putR wb g ((p + 1) * 11) y = W:=⟨_,rfl⟩
      have HSX:=HSW.out
      rw [HP.out,List.length_nil,Nat.add_zero] at HSX
      rw [hwa,hwb,hwc,hwd] at HSX
      obtain ⟨sA,sB,sC,sD,fC,fD⟩:=HSX
      have HSA:=Lib.hid (show (RulC wa g (p * 11) y∧∀ j,_) from ⟨HP.out ▸ sA.at_,fun j=>sA.frozen j⟩)
      have HSB:=Lib.hid (show (RulC wb g ((p + 1) * 11) x∧∀ j,_) from ⟨by have h:=sB;rw [List.nil_append,show P ++ U' ++ x :: x :: (V ++ T) = (P ++ (U' ++ [x])) ++ x :: (V ++ T) by simp] at h;have h:=h.at_;rw [show (P ++ (U' ++ [x])).length = p + 1 by rw [← HP.out];simp only [List.length_append,List.length_cons,List.length_nil];omega] at h;exact h,fun j=>sB.frozen j⟩)
      have HSE:=Lib.hid (fun w8 (h8:w8 = wc∨w8 = wd)=>show RwR w8 base g cap n (P ++ U' ++ x :: (y :: (V ++ T)))∧Fr (fun k=>k = g) w7 w8 by rcases h8 with rfl | rfl;exact ⟨sC,fC⟩;exact ⟨sD,fD⟩)
      clear sA sB sC sD fC fD
      refine wp_envW (fin:=?fns) (by kernel_rfl) [37,38,39,40,41,42,43,44,45,46,47,48,49,50,51,900,52,901]
       [.slice (some ⟨g,0,none⟩) n cap,.int .i64 ((p:Int) + 1),.slice (some ⟨g,0,none⟩) n cap,.int .i64 ((p:Int) + 1),.int .i64 p,.slice (some ⟨g,0,none⟩) n cap,.int .i64 ((p:Int) + 1),.int .i64 p,.pointer (some ⟨g,p * 11,none⟩),rulA y,.slice (some ⟨g,0,none⟩) n cap,.int .i64 ((p:Int) + 1),.pointer (some ⟨g,(p + 1) * 11,none⟩),rulA x,.pointer (some ⟨g,(p + 1) * 11,none⟩),undef,.pointer (some ⟨g,p * 11,none⟩),undef] 15 17 _ _ wa wb wc wd (by kernel_rfl) rfl rfl (by simp) (by simp) (by decide) ?fins ?stepss ?sas ?sbs ?scs ?sds ?nexts
      case fins =>
       simp only [putAll,Act.put,List.setIfInBounds_toArray,List.set_cons_succ,List.set_cons_zero]
       rfl
      case stepss =>
       unfold rulA
       refine ⟨.inr (.inr ⟨by kernel_rfl,fun w1_ hB_=>?_⟩),.inr (.inr ⟨by kernel_rfl,fun w1_ hB_=>?_⟩),.inr (.inr ⟨by kernel_rfl,fun w1_ hB_=>?_⟩),.inr (.inr ⟨by kernel_rfl,fun w1_ hB_=>?_⟩),.inr (.inr ⟨by kernel_rfl,fun w1_ hB_=>?_⟩),.inr (.inr ⟨by kernel_rfl,fun w1_ hB_=>?_⟩),.inr (.inr ⟨by kernel_rfl,fun w1_ hB_=>?_⟩),.inr (.inr ⟨by kernel_rfl,fun w1_ hB_=>?_⟩),.inr (.inr ⟨by kernel_rfl,fun w1_ hB_=>?_⟩),.inr (.inr ⟨by kernel_rfl,fun w1_ hB_=>?_⟩),.inr (.inr ⟨by kernel_rfl,fun w1_ hB_=>?_⟩),.inr (.inr ⟨by kernel_rfl,fun w1_ hB_=>?_⟩),.inr (.inr ⟨by kernel_rfl,fun w1_ hB_=>?_⟩),.inr (.inr ⟨by kernel_rfl,fun w1_ hB_=>?_⟩),.inr (.inr ⟨by kernel_rfl,fun w1_ hB_=>?_⟩),.inl rfl,.inr (.inr ⟨by kernel_rfl,fun w1_ hB_=>?_⟩),.inl rfl,trivial⟩
       all_goals
        first
         | (go_simp;done)
         | (go_simp;rfl)
         | (obtain rfl:=hB_ (by kernel_rfl);go_simp;done)
         | (obtain rfl:=hB_ (by kernel_rfl);go_simp;rfl)
         | (go_simp;intro hh_;exfalso;omega)
         | (go_simp;intro hh_;exfalso;have:=hh_ (by omega);omega)
         | (go_simp;rw [IntWalk.i64_in _ (by omega)] <;> rfl)
         | (go_simp;rw [if_pos (by omega)] <;> rfl)
         | (go_simp;done)
      case sas =>
       rw [← hwa]
       unfold putR rulA
       go_simp
       first | done | rfl | done
      case sbs =>
       rw [← hwb]
       unfold putR rulA
       go_simp
       first | done | rfl | done
      case scs =>
       obtain ⟨⟨e0,e1,e2,e3,e4,e5,e6,e7,e8,e9,e10⟩,ef⟩:=HSA.out
       rw [← hwc]
       unfold putR rulA
       go_simp
       first | done | rfl | done
      case sds =>
       obtain ⟨⟨e0,e1,e2,e3,e4,e5,e6,e7,e8,e9,e10⟩,ef⟩:=HSB.out
       rw [← hwd]
       unfold putR rulA
       go_simp
       first | done | rfl | done
      case nexts =>
      rintro w8 h8
      have H8:=Lib.hid (HSE.out w8 h8)
      clear h8
      go_wp2_with fail
      go_roundw
      case rel=>exact ⟨p,U',y :: V,by
       have:=HP.out
       rw [List.length_append,HA.out] at this
       omega,by go_num,by have:=HUV.out;simpa using this,fun v hv=>by
       rcases List.mem_cons.1 hv with rfl | hv
       ·exact hxy
       ·exact HV.out v hv,by have h:=H8.out.1;rw [List.append_assoc] at h;exact h,(HFI.out.then (Fr.of_below HB7.out (Nat.le_refl _))).then H8.out.2⟩
      case measure=>first | (simp [intOf];done) | (simp [intOf];omega)
     ·have hz:¬ z < 0:=by rw [HCZ.out];exact hxy
      go_wp2_with fail
      refine wp_env (fin:=?fnf) (by kernel_rfl) [18,19,20,21,22,23,24,25,26,27,28,29,30,31,32,33,34]
       [.int .i64 ((p:Int) + 1),.int .i64 a,.bool true,.bool true,.func (.func 96) #[] #[],.slice (some ⟨g,0,none⟩) n cap,.int .i64 ((p:Int) + 1),.pointer (some ⟨g,(p + 1) * 11,none⟩),rulA x,.slice (some ⟨g,0,none⟩) n cap,.int .i64 ((p:Int) + 1),.int .i64 p,.pointer (some ⟨g,p * 11,none⟩),rulA y,.int .i64 z,.bool false,.bool false] (by kernel_rfl) ?finf ?stepsf ?nextf
      case finf =>
       simp only [putAll,Act.put,List.setIfInBounds_toArray,List.set_cons_succ,List.set_cons_zero]
       rfl
      case stepsf =>
       unfold rulA
       refine ⟨?_,?_,?_,?_,?_,?_,?_,?_,?_,?_,?_,?_,?_,?_,?_,?_,?_,trivial⟩
       all_goals refine .inr ⟨by kernel_rfl,fun w1_ hB_=>?_⟩
       all_goals
        obtain ⟨⟨c0,c1,c2,c3,c4,c5,c6,c7,c8,c9,c10⟩,⟨d0,d1,d2,d3,d4,d5,d6,d7,d8,d9,d10⟩⟩:=HK.out w1_ hB_
        clear hB_
        go_simp
        first
         | exact ⟨rfl,Below.refl _ _⟩
         | exact ⟨rfl,HCMP.out w1_⟩
         | (rw [IntWalk.i64_in _ (by omega)];exact ⟨rfl,Below.refl _ _⟩)
         | (rw [decide_eq_true (by omega)];exact ⟨rfl,Below.refl _ _⟩)
         | (rw [decide_eq_false (by omega)];exact ⟨rfl,Below.refl _ _⟩)
         | (rw [if_pos (by omega)];exact ⟨rfl,Below.refl _ _⟩)
         | done
      case nextf =>
      intro w7 hb7
      have HB7:=Lib.hid hb7
      clear hb7
      go_wp2_with fail
      go_roundw
      case rel=>exact ⟨k + 1,i + 1,(U' ++ [y]) ++ x :: V,by omega,by omega,by have:=HIK.out;omega,by go_num,by
       rw [HTK.out]
       refine Stab.put (by rw [HUV.out];exact HST.out) (fun u hu=>?_) HV.out
       have hs:=HST.out.2.1
       rw [← HUV.out,List.append_assoc,List.pairwise_append] at hs
       rcases List.mem_append.1 hu with hu | hu
       ·have:=hs.2.2 u hu y (by simp)
        omega
       ·rw [List.mem_singleton.1 hu]
        omega,by
       have h:=HRI.out
       rw [← HT.out] at h
       have h:=h.below HB7.out
       simpa [List.append_assoc] using h,HFI.out.then (Fr.of_below HB7.out (Nat.le_refl _))⟩
      case measure=>first | (simp [intOf];done) | (simp [intOf];omega)
  ·go_wp2_with fail
   have hkd:B.drop k = []:=List.drop_eq_nil_of_le (by rw [HM.out];omega)
   have hkt:B.take k = B:=List.take_of_length_le (by rw [HM.out];omega)
   have h1:=HRW.out
   have h2:=HST.out
   rw [hkd,List.nil_append] at h1
   rw [hkt] at h2
   go_end0
   exact ⟨rfl,M,h2,h1,HFR.out⟩
end
section -- RulC
open Go Go.RowKit Go.Shelf
theorem infoRul:(Tryz.prog.info? 106).map (fun i=>(i.zero,i.size,i.bytes)) = some (some (.agg #[.string ⟨#[]⟩,.int .i64 0,.int .i64 0,.int .i64 0,.int .i64 0,.int .i64 0,.int .i64 0,.int .i64 0,.int .i64 0,.int .i64 0,.string ⟨#[]⟩]),11,104):=by kernel_rfl
def OwnR (w:World) (base:Nat) (v:Value) (l:List Rul):Prop:=w.ownsRow base 106 11 v l.length (rulsV l)
theorem OwnR.cases {w:World} {base:Nat} {v:Value} {l:List Rul} (h:OwnR w base v l):(v = .slice none 0 0∧l = [])∨∃ g cap,v = .slice (some ⟨g,0,none⟩) l.length cap∧RwR w base g cap l.length l:=by
 rcases h.2 with ⟨h0,hn⟩ | ⟨g,cap,cur,h0,hbg,hg,hnc,hcm2,hcs,htk⟩
 ·exact .inl ⟨h0,List.eq_nil_of_length_eq_zero hn⟩
 ·subst h0
  exact .inr ⟨g,cap,rfl,rfl,h⟩
theorem rclone_any (w:World) (B:Nat) (v:Value) (l:List Rul) (hv:Ruls w B v l) (hB:B ≤ w.heap.size) (hl:l.length ≤ 100000) :
  Calls Tryz.prog 53 #[v] w fun e w'=>∃ u,e = .returned u∧OwnR w' w.heap.size u l∧Below w.heap.size w w':=by
 obtain ⟨i0,hi,hz0,hz1,hz2⟩:=info_parts infoRul
 have q22:∀ (w:World) (a:Option Addr) (n c n' c':Nat),(binOp .eql 52 (.slice a n c) (.slice none n' c')).run Tryz.prog w = .ok (.bool a.isNone) w:=fun w a n c n' c'=>Lib.run_eql_slice_nil w _ _ a n c n' c' Tryz.underlying52
 obtain ⟨A,c,rfl,hlc,hcm⟩:=hv.form
 have HV:=Lib.hid hv
 rcases A with _ | ad
 ·have h0:l = []:=by
   rcases Nat.eq_zero_or_pos l.length with h | h
   ·exact List.eq_nil_of_length_eq_zero h
   ·obtain ⟨b,o,c',e,-,-⟩:=hv.cells h
    cases e
  subst h0
  clear hv
  go_enter Tryz.func53,Tryz.ntmps53
  go_wp2_with fail
  go_ret
  exact ⟨_,rfl,World.ownsRow_nil _ _ _ _,Below.refl _ _⟩
 ·clear hv
  unfold maxLen at hcm
  go_enter Tryz.func53,Tryz.ntmps53
  go_wp2_with (at_builtin;refine wpList_append_sl rfl _ _ 52 rfl w.heap.size 106 i0 (.agg #[.string ⟨#[]⟩,.int .i64 0,.int .i64 0,.int .i64 0,.int .i64 0,.int .i64 0,.int .i64 0,.int .i64 0,.int .i64 0,.int .i64 0,.string ⟨#[]⟩]) 11 104 Tryz.underlying52 hi hz0 hz1 hz2 rfl (by decide) _ 0 [] rfl (World.ownsRow_made w #[] 0 (Nat.le_refl _) (Nat.zero_le _) (by simp)) (.slice (some ad) l.length c) B l.length (rulsV l) rfl (Sl.alloc HV.out hB _) (rulsV_one l) (by unfold maxLen;omega) (by omega) (by simp) ?_;intro v' w1 hown hgrow)
  go_ret
  refine ⟨v',rfl,?_,((Below.refl _ w).alloc (Nat.le_refl _) _).grown hgrow (by simp) (fun g hg=>((World.ownsRow_made (base:=w.heap.size) (e:=106) (size:=11) w #[] 0 (Nat.le_refl _) (Nat.zero_le _) (by simp)).lt g hg).1)⟩
  rw [Nat.zero_add,List.nil_append] at hown
  exact hown
theorem pred_any (r:Rul) (w:World) :
  Calls Tryz.prog 94 #[rulA r] w fun e w'=>e = .returned (.bool (r.save != 0))∧Below w.heap.size w w':=by
 have HB0:=Lib.hid ((Below.refl w.heap.size w).alloc (Nat.le_refl _) (.cells #[.string r.name,.int .i64 r.from_,.int .i64 r.to_,.int .i64 r.month,.int .i64 r.dk,.int .i64 r.dw,.int .i64 r.dn,.int .i64 r.sec,.int .i64 r.kind,.int .i64 r.save,.string r.letter] 106))
 have hx:=Blk.new w 106 #[.string r.name,.int .i64 r.from_,.int .i64 r.to_,.int .i64 r.month,.int .i64 r.dk,.int .i64 r.dw,.int .i64 r.dn,.int .i64 r.sec,.int .i64 r.kind,.int .i64 r.save,.string r.letter]
 have q9:=Blk.cell hx 9 (v:=.int .i64 r.save) rfl
 clear hx
 unfold rulA
 go_enter Tryz.func94,Tryz.ntmps94
 go_wp2_with fail
 go_ret
 exact ⟨rfl,HB0.out⟩
def keepB (r:Rul):Bool:=decide (r.save = 0)
def badAt (l:List Rul):Nat:=(l.takeWhile keepB).length
def idxV (l:List Rul):Int:=if badAt l < l.length then badAt l else -1
theorem badAt_spec:∀ {l:List Rul} {k:Nat},(∀ i (h:i < l.length),i < k→keepB l[i] = true)→(hk:k < l.length)→keepB l[k] = false→badAt l = k
 | [],k,_,hk,_=>by simp at hk
 | x :: l,0,_,_,h=>by
   have h:keepB x = false:=h
   unfold badAt
   rw [List.takeWhile_cons,h]
   rfl
 | x :: l,k + 1,h1,hk,h=>by
   have h0:keepB x = true:=h1 0 (by simp) (by omega)
   unfold badAt
   rw [List.takeWhile_cons,if_pos h0,List.length_cons]
   have:=badAt_spec (l:=l) (k:=k) (fun i hi hik=>by have:=h1 (i + 1) (by simpa using hi) (by omega);simpa using this) (by simpa using hk) (by simpa using h)
   unfold badAt at this
   rw [this]
theorem badAt_all {l:List Rul} (h:∀ i (h:i < l.length),keepB l[i] = true):badAt l = l.length:=by
 unfold badAt
 have:∀ m:List Rul,(∀ x ∈ m,keepB x = true)→m.takeWhile keepB = m:=fun m=>by
  induction m with
  | nil=>intro _;rfl
  | cons x m ih =>
    intro hm
    rw [List.takeWhile_cons,if_pos (hm x (by simp)),ih (fun y hy=>hm y (by simp [hy]))]
 rw [this l (fun x hx=>by obtain ⟨i,hi,rfl⟩:=List.getElem_of_mem hx;exact h i hi)]
theorem badAt_take:∀ (l:List Rul),(l.take (badAt l)).filter keepB = l.take (badAt l)∧∀ h:badAt l < l.length,keepB l[badAt l] = false
 | []=>⟨rfl,fun h=>by simp at h⟩
 | x :: l=>by
   have ih:=badAt_take l
   cases hx:keepB x with
   | false =>
     have e:badAt (x :: l) = 0:=by unfold badAt;rw [List.takeWhile_cons,hx];rfl
     simp only [e]
     exact ⟨rfl,fun _=>hx⟩
   | true =>
     have e:badAt (x :: l) = badAt l + 1:=by unfold badAt;rw [List.takeWhile_cons,if_pos hx];rfl
     simp only [e]
     refine ⟨by rw [List.take_succ_cons,List.filter_cons,if_pos hx,ih.1],fun h=>?_⟩
     exact ih.2 (by simpa using h)
theorem drop_badAt {l:List Rul} (h:badAt l < l.length):l.take (badAt l) ++ l[badAt l] :: l.drop (badAt l + 1) = l∧keepB l[badAt l] = false :=
 ⟨by rw [← List.drop_eq_getElem_cons h,List.take_append_drop],(badAt_take l).2 h⟩
theorem keep_ne {r:Rul} {b:Bool} (h:keepB r = b):(r.save != 0) = !b:=by
 unfold keepB at h
 subst h
 by_cases h:r.save = 0 <;> simp [h]
theorem ridx_any (w:World) (B:Nat) (v:Value) (l:List Rul) (hv:Ruls w B v l) (hB:B ≤ w.heap.size) (hl:l.length ≤ 100000) :
  Calls Tryz.prog 90 #[v,.func (.func 94) #[] #[]] w fun e w'=>e = .returned (.int .i64 (idxV l))∧Below w.heap.size w w':=by
 obtain ⟨A,c,rfl,hlc,hcm⟩:=hv.form
 unfold maxLen at hcm
 have HV:=Lib.hid hv
 clear hv
 go_enter Tryz.func90,Tryz.ntmps90
 go_wp2_with fail
 go_loopw [8] (fun iv wr=>∃ k:Nat,k ≤ l.length∧iv = .int .i64 k∧(∀ i (h:i < l.length),i < k→keepB l[i] = true)∧Below w.heap.size w wr) (fun iv _=>l.length - (intOf iv).toNat)
 case atStart=>exact ⟨0,Nat.zero_le _,rfl,fun i h hk=>by omega,Below.refl _ _⟩
 case round =>
  obtain ⟨k,hk,rfl,hall,hbw⟩:=hrel
  have HALL:=Lib.hid hall
  have HBW:=Lib.hid hbw
  have hws:=hbw.size
  clear hall hbw
  by_cases hlt:k < l.length
  ·have hd:decide ((k:Int) < (l.length:Int)) = true:=decide_eq_true (by omega)
   obtain ⟨bb,o,c',e,hbb,hc⟩:=(HV.out.below (HBW.out.mono hB)).cells (by omega)
   cases e
   obtain ⟨c0,c1,c2,c3,c4,c5,c6,c7,c8,c9,c10⟩:=hc k hlt
   obtain ⟨r,hr⟩:∃ r,l[k] = r:=⟨_,rfl⟩
   rw [hr] at c0 c1 c2 c3 c4 c5 c6 c7 c8 c9 c10
   have HR:=Lib.hid hr
   have HP:=Lib.hid (pred_any r wr)
   unfold rulA at HP
   clear hc hr
   cases hkb:keepB r with
   | true =>
     rw [keep_ne hkb] at HP
     have HKB:=Lib.hid hkb
     clear hkb
     go_wp2_with fail
     refine HP.out.mono ?_
     rintro e w1 ⟨rfl,hb⟩
     have HB1:=Lib.hid (HBW.out.trans (hb.mono hws))
     clear hb c0 c1 c2 c3 c4 c5 c6 c7 c8 c9 c10
     go_wp2_with fail
     go_roundw
     case rel=>exact ⟨k + 1,by omega,by go_num,fun i h hik=>by
      rcases Nat.lt_or_ge i k with h1 | h1
      ·exact HALL.out i h h1
      ·have:i = k:=by omega
       subst this
       rw [HR.out]
       exact HKB.out,HB1.out⟩
     case measure=>simp [intOf];omega
   | false =>
     rw [keep_ne hkb] at HP
     have HI:=Lib.hid (show idxV l = k by
      have h:=badAt_spec HALL.out hlt (by rw [HR.out];exact hkb)
      unfold idxV
      rw [h,if_pos hlt])
     clear hkb
     go_wp2_with fail
     refine HP.out.mono ?_
     rintro e w1 ⟨rfl,hb⟩
     have HB1:=Lib.hid (HBW.out.trans (hb.mono hws))
     clear hb c0 c1 c2 c3 c4 c5 c6 c7 c8 c9 c10
     go_wp2_with fail
     go_ret
     exact ⟨by rw [HI.out];rfl,HB1.out⟩
  ·have hd:decide ((k:Int) < (l.length:Int)) = false:=decide_eq_false (by omega)
   have HI:=Lib.hid (show idxV l = -1 by
    have h:=badAt_all (l:=l) (fun i h=>HALL.out i h (by omega))
    unfold idxV
    rw [h,if_neg (by omega)])
   go_wp2_with fail
   go_ret
   exact ⟨by rw [HI.out];rfl,HBW.out⟩
theorem RwR.front {W:World} {base g cap n k:Nat} {K Y:List Rul} (h:RwR W base g cap n (K ++ Y)) (hk:K.length = k):RwR W base g cap k K:=by
 obtain ⟨h1,h2,h3⟩:=h
 rcases h3 with ⟨h',_⟩ | ⟨g',cap',cur,h',hb,hg,hnc,hcm,hcs,htk⟩
 ·simp at h'
 ·simp only [Value.slice.injEq,Option.some.injEq,Addr.mk.injEq,and_true,true_and] at h'
  obtain ⟨rfl,rfl⟩:=h'
  rw [List.length_append,hk] at h1
  refine ⟨hk,by rw [length_rulsV,hk],.inr ⟨g,cap,cur,rfl,hb,hg,by omega,hcm,hcs,?_⟩⟩
  have e:=congrArg (List.take (k * 11)) htk
  rw [List.take_take,Nat.min_eq_left (by omega),rulsV_append,List.take_append_of_le_length (by rw [length_rulsV,hk];exact Nat.le_refl _),List.take_of_length_le (l:=rulsV K) (by rw [length_rulsV,hk];exact Nat.le_refl _)] at e
  exact e
theorem RwR.behind {base g cap n:Nat} {K:List Rul}:∀ (vs:List Value) (o:Nat) {W:World},n * 11 ≤ o→RwR W base g cap n K→RwR (W.setCells g o vs) base g cap n K∧Fr (fun k=>k = g) W (W.setCells g o vs)
 | [],_,_,_,h=>⟨h,Fr.refl _ _⟩
 | u :: vs,o,W,ho,h=>by
   have h1:=(h.2.stored o u).1
   have e:(rulsV K).set o u = rulsV K:=List.set_eq_of_length_le (by rw [length_rulsV,h.1];exact ho)
   rw [e] at h1
   obtain ⟨h2,h3⟩:=RwR.behind vs (o + 1) (by omega) (show RwR (W.setCell ⟨g,o,none⟩ u) base g cap n K from ⟨h.1,h1⟩)
   exact ⟨h2,(Fr.setCell (T:=fun k=>k = g) W o u rfl).then h3⟩
def zeroR:Array Value:=#[.string ⟨#[]⟩,.int .i64 0,.int .i64 0,.int .i64 0,.int .i64 0,.int .i64 0,.int .i64 0,.int .i64 0,.int .i64 0,.int .i64 0,.string ⟨#[]⟩]
theorem zero_rul (w:World):(zeroValue 106).run Tryz.prog w = .ok (.agg zeroR) w:=by
 have e:Tryz.t106.zero = some (.agg zeroR):=by kernel_rfl
 simp [zeroValue,go_sem,e]
theorem clear_run {W:World} {base g cap n:Nat} {d:List Rul} (h:RwR W base g cap n d) (ty:TypeId) (o m c:Nat) (hm:0 < m) (ho:o + m * 11 ≤ n * 11) :
  ∃ vs,(Builtin.clear_ #[52] ty #[.slice (some ⟨g,o,none⟩) m c]).run Tryz.prog W = .ok (.tuple #[]) (W.setCells g o vs):=by
 have hlen:(Builtin.zeroCells zeroR m).toList.length = m * 11:=by simp [Builtin.zeroCells,zeroR]
 have hone:∀ u ∈ (Builtin.zeroCells zeroR m).toList,u.oneCell' = true:=by
  intro u hu
  simp only [Builtin.zeroCells,Array.toList_map,List.mem_map] at hu
  obtain ⟨i,-,rfl⟩:=hu
  have hi:i % zeroR.size < 11:=Nat.mod_lt _ (by decide)
  generalize i % zeroR.size = j at hi
  have:j = 0∨j = 1∨j = 2∨j = 3∨j = 4∨j = 5∨j = 6∨j = 7∨j = 8∨j = 9∨j = 10:=by omega
  rcases this with rfl | rfl | rfl | rfl | rfl | rfl | rfl | rfl | rfl | rfl | rfl <;> rfl
 have hlr:(rulsV d).length = n * 11:=by rw [length_rulsV,h.1]
 have hst:=run_storeCells_cells (P:=Tryz.prog) g o (Builtin.zeroCells zeroR m).toList 0 W (fun j hj=>by
  rw [hlen] at hj
  rw [h.2.cellAt _ (by omega),List.getElem?_eq_getElem (by omega)]
  rfl) (fun j hj=>h.frozen _) hone
 refine ⟨(Builtin.zeroCells zeroR m).toList,?_⟩
 obtain ⟨k,rfl⟩:∃ k,m = k + 1:=⟨m - 1,by omega⟩
 have hu:Tryz.prog.underlying 52 = some (.slice 106):=rfl
 simp only [Nat.add_zero] at hst
 have hz:=zero_rul
 unfold zeroR at hst hz ⊢
 simp [Builtin.clear_,run_underlying hu,hz,Value.cells,hst]
theorem rdelete_any (w:World) (base g cap n:Nat) (d:List Rul) (hR:RwR w base g cap n d) (hn:n ≤ 100000) :
  Calls Tryz.prog 52 #[.slice (some ⟨g,0,none⟩) n cap,.func (.func 94) #[] #[]] w fun e w'=>e = .returned (.slice (some ⟨g,0,none⟩) (d.filter keepB).length cap)∧RwR w' base g cap (d.filter keepB).length (d.filter keepB)∧Fr (fun k=>k = g) w w':=by
 have hroom:=hR.room
 have hlen:=hR.len
 unfold maxLen at hroom
 have hlt0:=hR.lt
 have HR:=Lib.hid hR
 have HI:=Lib.hid (ridx_any w w.heap.size (.slice (some ⟨g,0,none⟩) n cap) d (by have:=Sl.of_own hR.2;unfold Ruls;rw [hlen];exact this) (Nat.le_refl _) (by omega))
 clear hR
 rcases Nat.lt_or_ge (badAt d) d.length with hbad | hbad
 ·have HIV:=Lib.hid (show idxV d = (badAt d:Nat) by unfold idxV;rw [if_pos hbad])
  rw [HIV.out] at HI
  have HK0:=Lib.hid (badAt_take d)
  obtain ⟨t,ht⟩:∃ t,badAt d = t:=⟨_,rfl⟩
  have htl:t < d.length:=ht ▸ hbad
  have HD:=Lib.hid (show d.take t ++ d[t] :: d.drop (t + 1) = d∧keepB d[t] = false by subst ht;exact drop_badAt hbad)
  rw [ht] at HI
  have HK0:=Lib.hid (show (d.take t).filter keepB = d.take t from ht ▸ HK0.out.1)
  clear ht HIV hbad
  have hbad:=htl
  have htm:((t:Int) == -1) = false:=by simp
  go_enter Tryz.func52,Tryz.ntmps52
  go_wp2_with fail
  refine HI.out.mono ?_
  rintro e w1 ⟨rfl,hb⟩
  have HB1:=Lib.hid hb
  clear hb HI
  go_wp2_with fail
  go_loopw [5,6] (fun kv jv wr=>∃ (j:Nat) (K:List Rul) (y:Rul) (Y:List Rul),jv = .int .i64 j∧kv = .int .i64 K.length∧j ≤ n∧K = (d.take j).filter keepB∧K.length + 1 + Y.length = j∧RwR wr base g cap n (K ++ y :: (Y ++ d.drop j))∧Fr (fun k=>k = g) w wr) (fun _ jv _=>n - (intOf jv).toNat)
  case atStart=>exact ⟨t + 1,d.take t,d[t],[],by go_num,by rw [List.length_take,Nat.min_eq_left (by omega)],by omega,by rw [List.take_succ_eq_append_getElem hbad,List.filter_append,HK0.out,List.filter_cons,if_neg (by rw [HD.out.2];decide)];simp,by rw [List.length_take,Nat.min_eq_left (by omega)];rfl,by
   exact (congrArg (RwR w1 base g cap n) HD.out.1).mpr (HR.out.below HB1.out),Fr.of_below HB1.out (Nat.le_refl _)⟩
  case round =>
   obtain ⟨j,K,y,Y,rfl,rfl,hj,hK,hKY,hrw,hfr⟩:=hrel
   have HKJ:=Lib.hid hK
   have HRW:=Lib.hid hrw
   have HFR:=Lib.hid hfr
   have hws:=hfr.size
   clear hK hrw hfr
   obtain ⟨k,hkl⟩:∃ k,K.length = k:=⟨_,rfl⟩
   rw [hkl] at hKY ⊢
   have HKL:=Lib.hid hkl
   clear hkl
   by_cases hlt:j < n
   ·have hd:decide ((j:Int) < (n:Int)) = true:=decide_eq_true (by omega)
    have hjd:j < d.length:=by omega
    obtain ⟨r,hr⟩:∃ r,d[j] = r:=⟨_,rfl⟩
    have hdj:d.drop j = r :: d.drop (j + 1):=by rw [List.drop_eq_getElem_cons hjd,hr]
    have htj:d.take (j + 1) = d.take j ++ [r]:=by rw [List.take_succ_eq_append_getElem hjd,hr]
    obtain ⟨T,hT⟩:∃ T,d.drop (j + 1) = T:=⟨_,rfl⟩
    rw [hT] at hdj
    have HRX:=Lib.hid (show RwR wr base g cap n ((K ++ y :: Y) ++ r :: T) by have h:=HRW.out;rw [hdj] at h;simpa using h)
    have HLX:=Lib.hid (show (K ++ y :: Y).length = j by simp [HKL.out];omega)
    have HC:=Lib.hid (HLX.out ▸ HRX.out.at_)
    have HTT:=Lib.hid (And.intro htj hT)
    obtain ⟨c0,c1,c2,c3,c4,c5,c6,c7,c8,c9,c10⟩:=HC.out
    have HP:=Lib.hid (fun W=>pred_any r W)
    unfold rulA at HP
    obtain ⟨y',Y',hY⟩:∃ y' Y',Y ++ [r] = y' :: Y':=by
     cases Y with
     | nil=>exact ⟨r,[],rfl⟩
     | cons a Y=>exact ⟨a,Y ++ [r],rfl⟩
    have hYl:Y'.length = Y.length:=by have:=congrArg List.length hY;simpa using this.symm
    have HYY:=Lib.hid hY
    clear hr hdj htj hT hY
    cases hkb:keepB r with
    | true =>
      rw [keep_ne hkb] at HP
      have HN:=Lib.hid (show (d.take (j + 1)).filter keepB = K ++ [r] by rw [HTT.out.1,List.filter_append,← HKJ.out,List.filter_cons,if_pos hkb];rfl)
      clear hkb
      go_wp2_with fail
      refine (HP.out _).mono ?_
      rintro e w2 ⟨rfl,hb⟩
      have hbx:RulB w2 wr.heap.size r:=Blk.below (Blk.new wr 106 #[.string r.name,.int .i64 r.from_,.int .i64 r.to_,.int .i64 r.month,.int .i64 r.dk,.int .i64 r.dw,.int .i64 r.dn,.int .i64 r.sec,.int .i64 r.kind,.int .i64 r.save,.string r.letter]) hb (by simp)
      have hb2:Below wr.heap.size wr w2:=((Below.refl _ _).alloc (Nat.le_refl _) _).trans (hb.mono (by simp))
      have HB2:=Lib.hid hb2
      have hr2:=HRX.out.below hb2
      have HR2:=Lib.hid (show RwR w2 base g cap n (K ++ y :: (Y ++ r :: T)) by simpa using hr2)
      have HLT2:=hr2.lt
      clear hb hb2 hr2 c0 c1 c2 c3 c4 c5 c6 c7 c8 c9 c10 HC
      have q0:=Blk.cell hbx 0 (v:=.string r.name) rfl
      have q1:=Blk.cell hbx 1 (v:=.int .i64 r.from_) rfl
      have q2:=Blk.cell hbx 2 (v:=.int .i64 r.to_) rfl
      have q3:=Blk.cell hbx 3 (v:=.int .i64 r.month) rfl
      have q4:=Blk.cell hbx 4 (v:=.int .i64 r.dk) rfl
      have q5:=Blk.cell hbx 5 (v:=.int .i64 r.dw) rfl
      have q6:=Blk.cell hbx 6 (v:=.int .i64 r.dn) rfl
      have q7:=Blk.cell hbx 7 (v:=.int .i64 r.sec) rfl
      have q8:=Blk.cell hbx 8 (v:=.int .i64 r.kind) rfl
      have q9:=Blk.cell hbx 9 (v:=.int .i64 r.save) rfl
      have q10:=Blk.cell hbx 10 (v:=.string r.letter) rfl
      have hd_:=HR2.out.at_
      rw [HKL.out] at hd_
      obtain ⟨d0,d1,d2,d3,d4,d5,d6,d7,d8,d9,d10⟩:=hd_
      have fz:=HR2.out.frozen
      have hkn:k < n:=by omega
      have HP2:=Lib.hid (HR2.out.put r)
      rw [HKL.out] at HP2
      go_wp2_with fail
      go_roundw
      case rel=>exact ⟨j + 1,K ++ [r],y',Y',by go_num,by rw [List.length_append,HKL.out];rfl,by omega,HN.out.symm,by simp [HKL.out];omega,by
       rw [HTT.out.2]
       have h:=HP2.out
       have e:K ++ [r] ++ y' :: (Y' ++ T) = K ++ r :: (Y ++ r :: T):=by
        rw [← List.cons_append,← HYY.out]
        simp
       rw [e]
       exact h,(HFR.out.then (Fr.of_below HB2.out (Nat.le_refl _))).then (putR_fr w2 g (k * 11) r)⟩
      case measure=>simp [intOf];omega
    | false =>
      rw [keep_ne hkb] at HP
      have HN:=Lib.hid (show (d.take (j + 1)).filter keepB = K by rw [HTT.out.1,List.filter_append,← HKJ.out,List.filter_cons,if_neg (by rw [hkb];decide)];simp)
      clear hkb
      go_wp2_with fail
      refine (HP.out _).mono ?_
      rintro e w2 ⟨rfl,hb⟩
      have hb2:Below wr.heap.size wr w2:=((Below.refl _ _).alloc (Nat.le_refl _) _).trans (hb.mono (by simp))
      have HB2:=Lib.hid hb2
      clear hb hb2 c0 c1 c2 c3 c4 c5 c6 c7 c8 c9 c10 HC
      go_wp2_with fail
      go_roundw
      case rel=>exact ⟨j + 1,K,y,Y ++ [r],by go_num,by rw [HKL.out],by omega,HN.out.symm,by simp [HKL.out];omega,by
       rw [HTT.out.2]
       have h:=HRX.out.below HB2.out
       simpa using h,HFR.out.then (Fr.of_below HB2.out (Nat.le_refl _))⟩
      case measure=>simp [intOf];omega
   ·obtain rfl:j = n:=by omega
    have hd:decide ((j:Int) < (j:Int)) = false:=decide_eq_false (by omega)
    obtain ⟨vs,hcl⟩:=clear_run HRW.out 0 (k * 11) (j - k) (cap - k) (by omega) (by omega)
    have HBH:=Lib.hid (RwR.behind vs (k * 11) (Nat.le_refl _) (HRW.out.front HKL.out))
    have HKF:=Lib.hid (show K = d.filter keepB by rw [HKJ.out,List.take_of_length_le (by omega)])
    have hck:¬ cap = k:=by omega
    go_wp2_with fail
    go_ret
    rw [HKF.out] at HKL HBH
    rw [HKL.out]
    exact ⟨rfl,HBH.out.1,HFR.out.then HBH.out.2⟩
 ·have HIV:=Lib.hid (show idxV d = -1 by unfold idxV;rw [if_neg (by omega)])
  rw [HIV.out] at HI
  have HE:=Lib.hid (show d.filter keepB = d by
   have h:=(badAt_take d).1
   rwa [List.take_of_length_le hbad] at h)
  rw [HE.out,hlen]
  clear HIV
  go_enter Tryz.func52,Tryz.ntmps52
  go_wp2_with fail
  refine HI.out.mono ?_
  rintro e w1 ⟨rfl,hb⟩
  have HB1:=Lib.hid hb
  clear hb HI
  go_wp2_with fail
  go_ret
  exact ⟨rfl,HR.out.below HB1.out,Fr.of_below HB1.out (Nat.le_refl _)⟩
theorem rstable_any (w:World) (base g cap n:Nat) (d:List Rul) (hn:n ≤ 19) (hmo:∀ z ∈ d,mOk z) (hR:RwR w base g cap n d) :
  Calls Tryz.prog 95 #[.slice (some ⟨g,0,none⟩) n cap,.func (.func 96) #[] #[]] w fun e w'=>e = .returned (.tuple #[])∧∃ M,Stab keyR d M∧RwR w' base g cap n M∧Fr (fun k=>k = g) w w':=by
 have hd:decide ((20:Int) ≤ (n:Int)) = false:=decide_eq_false (by omega)
 have hd2:decide ((20:Int) < (n:Int)) = false:=decide_eq_false (by omega)
 have HI:=Lib.hid (insertion_R w base g cap n 0 n [] d [] rfl (by rw [Nat.zero_add];exact hR.len) (by omega) hmo (by simpa using hR))
 have HS:=Lib.hid (show Calls Tryz.prog 126 #[.slice (some ⟨g,0,none⟩) n cap,.int .i64 n,.func (.func 96) #[] #[]] w fun e w'=>e = .returned (.tuple #[])∧∃ M,Stab keyR d M∧RwR w' base g cap n M∧Fr (fun k=>k = g) w w' by
  go_enter Tryz.func126,Tryz.ntmps126
  go_wp2_with fail
  refine wp_loop_rounds 1 ?_
  rw [rounds_succ]
  go_wp2_with fail
  refine HI.out.mono ?_
  rintro e w1 ⟨rfl,M,hst,hrw,hfr⟩
  have H1:=Lib.hid (And.intro hst (And.intro hrw hfr))
  clear hst hrw hfr
  go_wp2_with fail
  refine wp_loop_rounds 1 ?_
  rw [rounds_succ]
  go_wp2_with fail
  go_end0
  exact ⟨rfl,M,H1.out.1,by have h:=H1.out.2.1;simpa using h,H1.out.2.2⟩)
 clear hR hmo HI
 go_enter Tryz.func95,Tryz.ntmps95
 go_wp2_with fail
 refine HS.out.mono ?_
 rintro e w1 ⟨rfl,M,hst,hrw,hfr⟩
 have H1:=Lib.hid (And.intro hst (And.intro hrw hfr))
 clear hst hrw hfr
 go_wp2_with fail
 go_end0
 exact ⟨rfl,M,H1.out⟩
theorem rinsertion_nil (w:World):Calls Tryz.prog 156 #[.slice none 0 0,.int .i64 0,.int .i64 0,.func (.func 96) #[] #[]] w fun e w'=>e = .returned (.tuple #[])∧Below w.heap.size w w':=by
 go_enter Tryz.func156,Tryz.ntmps156
 go_wp2_with fail
 refine wp_loop_rounds 1 ?_
 rw [rounds_succ]
 go_wp2_with fail
 go_end0
 exact ⟨rfl,Below.refl _ _⟩
theorem rstable_nil (w:World):Calls Tryz.prog 95 #[.slice none 0 0,.func (.func 96) #[] #[]] w fun e w'=>e = .returned (.tuple #[])∧Below w.heap.size w w':=by
 have HI:=Lib.hid (fun w=>rinsertion_nil w)
 have HS:=Lib.hid (show Calls Tryz.prog 126 #[.slice none 0 0,.int .i64 0,.func (.func 96) #[] #[]] w fun e w'=>e = .returned (.tuple #[])∧Below w.heap.size w w' by
  go_enter Tryz.func126,Tryz.ntmps126
  go_wp2_with fail
  refine wp_loop_rounds 1 ?_
  rw [rounds_succ]
  go_wp2_with fail
  refine (HI.out _).mono ?_
  rintro e w1 ⟨rfl,hb⟩
  have HB:=Lib.hid hb
  clear hb
  go_wp2_with fail
  refine wp_loop_rounds 1 ?_
  rw [rounds_succ]
  go_wp2_with fail
  go_end0
  exact ⟨rfl,HB.out⟩)
 go_enter Tryz.func95,Tryz.ntmps95
 go_wp2_with fail
 refine HS.out.mono ?_
 rintro e w1 ⟨rfl,hb⟩
 have HB:=Lib.hid hb
 clear hb
 go_wp2_with fail
 go_end0
 exact ⟨rfl,HB.out⟩
end
section -- RulD
open Go Go.RowKit Go.Shelf
def bestS (b:Option Rul) (r:Rul):Option Rul:=if keepB r then (match b with | none=>some r | some x=>if keyR r < keyR x then some r else some x) else b
def bestR (l:List Rul):Option Rul:=l.foldl bestS none
def letV (l:List Rul):ByteArray:=match bestR l with | some r=>r.letter | none=>⟨#[]⟩
theorem bestR_next {l:List Rul} {k:Nat} (hk:k < l.length):bestR (l.take (k + 1)) = bestS (bestR (l.take k)) l[k]:=by
 unfold bestR
 rw [List.take_succ_eq_append_getElem hk,List.foldl_append]
 rfl
theorem head_best (l:List Rul):∀ k,k ≤ l.length→∃ M,Stab keyR ((l.take k).filter keepB) M∧M.head? = bestR (l.take k)
 | 0,_=>⟨[],Stab.nil,rfl⟩
 | k + 1,hk=>by
   obtain ⟨M,hM,hh⟩:=head_best l k (by omega)
   have hkl:k < l.length:=by omega
   rw [bestR_next hkl,List.take_succ_eq_append_getElem hkl,List.filter_append]
   cases hb:keepB l[k] with
   | false =>
     refine ⟨M,?_,?_⟩
     ·rw [List.filter_cons,if_neg (by rw [hb];decide)]
      simpa using hM
     ·unfold bestS
      rw [if_neg (by rw [hb];decide),hh]
   | true =>
     rw [List.filter_cons,if_pos hb,List.filter_nil]
     generalize l[k] = r at hb
     have hs:=hM.2.1
     have e:M = M.takeWhile (fun a=>decide (keyR a ≤ keyR r)) ++ M.dropWhile (fun a=>decide (keyR a ≤ keyR r)):=List.takeWhile_append_dropWhile.symm
     obtain ⟨A,hA⟩:∃ A,M.takeWhile (fun a=>decide (keyR a ≤ keyR r)) = A:=⟨_,rfl⟩
     obtain ⟨C,hC⟩:∃ C,M.dropWhile (fun a=>decide (keyR a ≤ keyR r)) = C:=⟨_,rfl⟩
     have h1:∀ a ∈ A,keyR a ≤ keyR r:=fun a ha=>by
      rw [← hA] at ha
      have:=List.all_eq_true.1 (List.all_takeWhile (l:=M) (p:=fun a=>decide (keyR a ≤ keyR r))) a ha
      simpa using this
     rw [hA,hC] at e
     have h2:∀ c ∈ C,keyR r < keyR c:=by
      have hsC:C.Pairwise (fun a b=>keyR a ≤ keyR b):=by rw [e] at hs;exact (List.pairwise_append.1 hs).2.1
      cases hCC:C with
      | nil=>simp
      | cons c0 C' =>
        have h0:keyR r < keyR c0:=by
         have h3:=List.head?_dropWhile_not (fun a=>decide (keyR a ≤ keyR r)) M
         rw [hC,hCC] at h3
         simp at h3
         exact h3
        rw [hCC] at hsC
        intro c hc
        rcases List.mem_cons.1 hc with rfl | hc
        ·exact h0
        ·have:=(List.pairwise_cons.1 hsC).1 c hc
         omega
     refine ⟨A ++ r :: C,(e ▸ hM).put h1 h2,?_⟩
     rw [← hh,e]
     unfold bestS
     rw [if_pos hb]
     cases A with
     | nil =>
       cases C with
       | nil=>rfl
       | cons c C =>
         show some r = if keyR r < keyR c then some r else some c
         rw [if_pos (h2 c (by simp))]
     | cons a A =>
       show some a = if keyR r < keyR a then some r else some a
       rw [if_neg (by have:=h1 a (by simp);omega)]
theorem head_letter {l M:List Rul} (h:Stab keyR (l.filter keepB) M):M.head? = bestR l:=by
 obtain ⟨M',hM,hh⟩:=head_best l l.length (Nat.le_refl _)
 rw [List.take_length] at hM hh
 rw [h.unique hM,hh]
theorem fletter_any (w:World) (B:Nat) (v:Value) (l:List Rul) (hv:Ruls w B v l) (hB:B ≤ w.heap.size) (hl:l.length ≤ 19) (hmo:∀ z ∈ l,mOk z) :
  Calls Tryz.prog 59 #[v] w fun e w'=>e = .returned (.string (letV l))∧Below w.heap.size w w':=by
 have HC:=Lib.hid (rclone_any w B v l hv hB (by omega))
 have HMO:=Lib.hid (show ∀ z ∈ l.filter keepB,mOk z from fun z hz=>hmo z (List.mem_filter.1 hz).1)
 have hfl:(l.filter keepB).length ≤ 19:=Nat.le_trans (List.length_filter_le _ _) hl
 clear hv hmo
 go_enter Tryz.func59,Tryz.ntmps59
 go_wp2_with fail
 refine HC.out.mono ?_
 rintro e w1 ⟨u,rfl,hown,hb⟩
 have HB1:=Lib.hid hb
 have hs1:=hb.size
 clear hb HC
 rcases hown.cases with ⟨rfl,rfl⟩ | ⟨g,cap,rfl,hrw⟩
 ·have HI:=Lib.hid (ridx_any w1 w1.heap.size (.slice none 0 0) [] (Sl.nil _ _ _) (Nat.le_refl _) (by simp))
  have HD:=Lib.hid (show Calls Tryz.prog 52 #[.slice none 0 0,.func (.func 94) #[] #[]] w1 fun e w'=>e = .returned (.slice none 0 0)∧Below w1.heap.size w1 w' by
   go_enter Tryz.func52,Tryz.ntmps52
   go_wp2_with fail
   refine HI.out.mono ?_
   rintro e w2 ⟨rfl,hb⟩
   have HB:=Lib.hid hb
   clear hb
   rw [show idxV [] = -1 from rfl]
   go_wp2_with fail
   go_ret
   exact ⟨rfl,HB.out⟩)
  have HS:=Lib.hid (fun W=>rstable_nil W)
  clear hown
  go_wp2_with fail
  refine HD.out.mono ?_
  rintro e w2 ⟨rfl,hb⟩
  have HB2:=Lib.hid (HB1.out.trans (hb.mono hs1))
  clear hb
  go_wp2_with fail
  refine (HS.out _).mono ?_
  rintro e w3 ⟨rfl,hb⟩
  have HB3:=Lib.hid (HB2.out.trans (hb.mono HB2.out.size))
  clear hb
  go_wp2_with fail
  go_ret
  exact ⟨rfl,HB3.out⟩
 ·have HLT:=Lib.hid hrw.lt
  have HD:=Lib.hid (rdelete_any w1 w.heap.size g cap l.length l hrw (by omega))
  obtain ⟨F,hF⟩:∃ F,l.filter keepB = F:=⟨_,rfl⟩
  have HF:=Lib.hid hF
  rw [hF] at HD HMO hfl
  clear hown hrw hF
  go_wp2_with fail
  refine HD.out.mono ?_
  rintro e w2 ⟨rfl,hrw,hfr⟩
  have HS:=Lib.hid (rstable_any w2 w.heap.size g cap F.length F hfl HMO.out hrw)
  have HB2:=Lib.hid (HB1.out.trans (hfr.below (B:=w.heap.size) hs1 (fun k hk e=>by have:=HLT.out.1;omega)))
  clear hrw hfr HD
  go_wp2_with fail
  refine HS.out.mono ?_
  rintro e w3 ⟨rfl,M,hst,hrw,hfr⟩
  have HB3:=Lib.hid (HB2.out.trans (hfr.below (B:=w.heap.size) HB2.out.size (fun k hk e=>by have:=HLT.out.1;omega)))
  have hml:=hst.len
  have HH:=Lib.hid (head_letter (HF.out ▸ hst))
  have HRW:=Lib.hid hrw
  clear hst hfr HS hrw HF
  cases M with
  | nil =>
    have hF0:F = []:=List.eq_nil_of_length_eq_zero (by simpa using hml.symm)
    subst hF0
    have HLV:=Lib.hid (show letV l = ⟨#[]⟩ by unfold letV;rw [← HH.out];rfl)
    go_wp2_with fail
    go_ret
    exact ⟨by rw [HLV.out];rfl,HB3.out⟩
  | cons r M =>
    have hn0:F.length ≠ 0:=by rw [← hml];simp
    obtain ⟨n,hn⟩:∃ n,F.length = n + 1:=⟨F.length - 1,by omega⟩
    have HLV:=Lib.hid (show letV l = r.letter by unfold letV;rw [← HH.out];rfl)
    rw [hn] at HRW ⊢
    have hc:=RwR.at_ (A:=[]) HRW.out
    rw [List.length_nil,Nat.zero_mul] at hc
    obtain ⟨-,-,-,-,-,-,-,-,-,-,q10⟩:=hc
    rw [Nat.zero_add] at q10
    clear hn hml hn0
    go_wp2_with fail
    go_ret
    exact ⟨by rw [HLV.out];rfl,HB3.out⟩
end
section -- ASaves
open Go Go.RowKit Go.Shelf
def eraC (e:EraN) (ru f:ByteArray) (en:Bool):Array Value:=#[.int .i64 e.off,.string ru,.int .i64 e.save,.string f,.bool en,.int .i64 e.year,.int .i64 e.month,.int .i64 e.dk,.int .i64 e.dw,.int .i64 e.dn,.int .i64 e.sec,.int .i64 e.ak]
abbrev EraB (W:World) (b:Nat) (e:EraN) (ru f:ByteArray) (en:Bool):Prop:=Blk W b 42 (eraC e ru f en)
structure RuOk (l:List Rul):Prop where
 yr:yrOk l
 sv:svOk l
 len:l.length ≤ 19
 mon:∀ z ∈ l,mOk z
def savesV (e:EraN) (ru:ByteArray) (l:List Rul) (i:Int):Int × ByteArray :=
 if ru.size = 0 then (e.save,⟨#[]⟩) else match latestF l e.off i with
  | some f=>(f.save,f.letter)
  | none=>(0,letV l)
theorem emp_size (ru:ByteArray):(ru.toList == []) = decide (ru.size = 0):=by
 have h:ru.toList.length = ru.size:=by rw [ByteArray.toList_eq];exact Array.length_toList
 cases hl:ru.toList with
 | nil=>rw [hl] at h;rw [← h];rfl
 | cons a t=>rw [hl] at h;rw [← h];simp
theorem zsaves_any (w:World) (e:EraN) (ru f:ByteArray) (en:Bool) (B:Nat) (v:Value) (l:List Rul) (hrw:RW w B v l) (hok:RuOk l) (i:Int) (ho:-1000000000000000 ≤ e.off∧e.off ≤ 1000000000000000) (hi:-4500000000000 ≤ i) (hi2:i ≤ 9000000000000000000) :
  Calls Tryz.prog 89 #[eraA e ru f en,v,.int .i64 i] w fun o w'=>o = .returned (.tuple #[.int .i64 (savesV e ru l i).1,.string (savesV e ru l i).2])∧Below w.heap.size w w':=by
 unfold eraA
 have hb0:Below w.heap.size w (w.alloc (.cells (eraC e ru f en) 42)):=(Below.refl w.heap.size w).alloc (Nat.le_refl _) _
 by_cases hru:ru.size = 0
 ·have HV:=Lib.hid (show savesV e ru l i = (e.save,⟨#[]⟩) by unfold savesV;rw [if_pos hru])
  have hem:(ru.toList == []) = true:=by rw [emp_size,decide_eq_true hru]
  have HB:=Lib.hid hb0
  unfold eraC at HB
  clear hru hrw hok ho hb0
  go_enter Tryz.func89,Tryz.ntmps89
  go_wp2_with fail
  go_ret2
  exact ⟨by rw [HV.out];rfl,HB.out⟩
 ·have hem:(ru.toList == []) = false:=by rw [emp_size,decide_eq_false hru]
  have hrw0:=hrw.below hb0
  have HL:=Lib.hid (latest_any _ v l (hrw0.ruls.more hrw0.le) hrw0.ahead hok.yr hok.sv e.off i ho hi hi2)
  have HT:=Lib.hid (fun (W:World) (h:RW W B v l)=>fletter_any W W.heap.size v l (h.ruls.more h.le) (Nat.le_refl _) hok.len hok.mon)
  have HRW:=Lib.hid hrw0
  have HV:=Lib.hid (show savesV e ru l i = match latestF l e.off i with | some f=>(f.save,f.letter) | none=>(0,letV l) by unfold savesV;rw [if_neg hru])
  obtain ⟨o,hoo⟩:∃ o,latestF l e.off i = o:=⟨_,rfl⟩
  rw [hoo] at HL HV
  unfold resO at HL
  have HB0:=Lib.hid hb0
  unfold eraC at HB0 HL HRW
  clear hru hrw hok ho hb0 hrw0 hoo
  rcases o with _ | g
  ·rw [show firO none = Fir.zero from rfl] at HL
   unfold firA Fir.zero at HL
   go_enter Tryz.func89,Tryz.ntmps89
   go_wp2_with fail
   refine HL.out.mono ?_
   rintro o w1 ⟨rfl,hb⟩
   have hb1:=HB0.out.trans (hb.mono HB0.out.size)
   have HB1:=Lib.hid (hb1.alloc hb1.size (.cells #[.int .i64 0,.int .i64 0,.int .i64 0,.string ⟨#[]⟩] 112))
   have HR1:=Lib.hid ((HRW.out.below hb).below ((Below.refl w1.heap.size w1).alloc (Nat.le_refl _) (.cells #[.int .i64 0,.int .i64 0,.int .i64 0,.string ⟨#[]⟩] 112)))
   clear hb hb1 HL
   go_wp2_with fail
   refine (HT.out _ HR1.out).mono ?_
   rintro o w2 ⟨rfl,hb⟩
   have HB2:=Lib.hid (HB1.out.trans (hb.mono HB1.out.size))
   clear hb
   go_wp2_with fail
   go_ret2
   exact ⟨by rw [HV.out];rfl,HB2.out⟩
  ·rw [show firO (some g) = g from rfl] at HL
   unfold firA at HL
   go_enter Tryz.func89,Tryz.ntmps89
   go_wp2_with fail
   refine HL.out.mono ?_
   rintro o w1 ⟨rfl,hb⟩
   have hb1:=HB0.out.trans (hb.mono HB0.out.size)
   have HB1:=Lib.hid (hb1.alloc hb1.size (.cells #[.int .i64 g.nominal,.int .i64 g.kind,.int .i64 g.save,.string g.letter] 112))
   have HX1:=Lib.hid (Blk.new w1 112 #[.int .i64 g.nominal,.int .i64 g.kind,.int .i64 g.save,.string g.letter])
   obtain ⟨W1,hW1⟩:∃ W,w1.alloc (.cells #[.int .i64 g.nominal,.int .i64 g.kind,.int .i64 g.save,.string g.letter] 112) = W:=⟨_,rfl⟩
   clear hb hb1 HL
   go_wp2_with fail
   rw [hW1] at HB1 HX1
   try simp only [hW1]
   obtain ⟨X,hX⟩:∃ n,w1.heap.size = n:=⟨_,rfl⟩
   rw [hX] at HX1
   try simp only [hX]
   clear hW1 hX
   have HC:=Lib.hid (fun (W:World) (h:Below W1.heap.size W1 W)=>show W.cell? ⟨X,2,none⟩ = some (.int .i64 g.save)∧W.cell? ⟨X,3,none⟩ = some (.string g.letter) from ⟨(HX1.out.below h HX1.out.lt).cell 2 rfl,(HX1.out.below h HX1.out.lt).cell 3 rfl⟩)
   refine wp_env (fin:=?fns) (by kernel_rfl) [27,28,29,30,6,7]
    [.pointer (some ⟨X,2,none⟩),.int .i64 g.save,.pointer (some ⟨X,3,none⟩),.string g.letter,.int .i64 g.save,.string g.letter] (by kernel_rfl) ?fins ?stepss ?nexts
   case fins =>
    simp only [putAll,Act.put,List.setIfInBounds_toArray,List.set_cons_succ,List.set_cons_zero]
    rfl
   case stepss =>
    refine ⟨?_,?_,?_,?_,?_,?_,trivial⟩
    all_goals refine .inr ⟨by kernel_rfl,fun w1_ hB_=>?_⟩
    all_goals
     obtain ⟨d2,d3⟩:=HC.out w1_ hB_
     go_simp
     first
      | exact ⟨rfl,Below.refl _ _⟩
      | ((first | rw [decide_eq_true (by omega)] | rw [decide_eq_false (by omega)] | rw [if_pos (by omega)] | rw [IntWalk.i64_in _ (by omega)]);exact ⟨rfl,Below.refl _ _⟩)
      | done
   case nexts =>
   intro w2 hb2
   have HB2:=Lib.hid (HB1.out.trans (hb2.mono HB1.out.size))
   clear hb2
   go_wp2_with fail
   go_ret2
   exact ⟨by rw [HV.out];rfl,HB2.out⟩
def zwithinV (e:EraN) (ru f:ByteArray) (l:List Rul) (i:Int):Value :=
 withinR (e.off + (savesV e ru l i).1) (dstB (savesV e ru l i).1) (showV f (e.off + (savesV e ru l i).1) (dstB (savesV e ru l i).1) (savesV e ru l i).2).1 (showV f (e.off + (savesV e ru l i).1) (dstB (savesV e ru l i).1) (savesV e ru l i).2).2
def sumOk (e:EraN) (ru:ByteArray) (l:List Rul) (i:Int):Prop:=(-1000000000000000 ≤ (savesV e ru l i).1∧(savesV e ru l i).1 ≤ 1000000000000000)∧(savesV e ru l i).2.size ≤ 140737488351232
theorem zwithin_any (w:World) (e:EraN) (ru f:ByteArray) (en:Bool) (B:Nat) (v:Value) (l:List Rul) (hm:Tryz.MaxL w) (hs:f.size < 4294967281) (hrw:RW w B v l) (hok:RuOk l) (i:Int) (ho:-1000000000000000 ≤ e.off∧e.off ≤ 1000000000000000) (hi:-4500000000000 ≤ i) (hi2:i ≤ 9000000000000000000) (hsum:sumOk e ru l i) :
  Calls Tryz.prog 51 #[eraA e ru f en,v,.int .i64 i] w fun o w'=>o = .returned (zwithinV e ru f l i)∧Below w.heap.size w w':=by
 have hb0:Below w.heap.size w ((w.alloc (.cells (eraC e ru f en) 42)).alloc (.cells #[.int .i64 0,.bool false,.string ⟨#[]⟩] 48)):=((Below.refl w.heap.size w).alloc (Nat.le_refl _) _).alloc (by simp) _
 have hx0:=(Blk.new w 42 (eraC e ru f en)).alloc (.cells #[.int .i64 0,.bool false,.string ⟨#[]⟩] 48)
 have hr0:=Blk.new (w.alloc (.cells (eraC e ru f en) 42)) 48 #[.int .i64 0,.bool false,.string ⟨#[]⟩]
 rw [World.size_alloc] at hr0
 have HS:=Lib.hid (zsaves_any _ e ru f en B v l (hrw.below hb0) hok i ho hi hi2)
 unfold sumOk at hsum
 unfold zwithinV withinR
 obtain ⟨⟨sv,lt⟩,hsl⟩:∃ x,savesV e ru l i = x:=⟨_,rfl⟩
 rw [hsl] at HS hsum ⊢
 simp only at HS hsum ⊢
 obtain ⟨⟨hsv1,hsv2⟩,hlt⟩:=hsum
 have HM:=Lib.hid (fun (W:World) (hb:Below w.heap.size w W)=>show_any f (e.off + sv) (dstB sv) lt W hs hlt (hm.below hb (Nat.le_refl _)))
 obtain ⟨⟨s,err⟩,hse⟩:∃ x,showV f (e.off + sv) (dstB sv) lt = x:=⟨_,rfl⟩
 rw [hse] at HM ⊢
 simp only at HM ⊢
 have HX:=Lib.hid hx0
 have HR:=Lib.hid hr0
 have HB:=Lib.hid hb0
 unfold eraA at HS ⊢
 unfold eraC at HX HB HR HS
 unfold dstB at *
 clear hm hrw hok hb0 hx0 hr0 hsl hse
 go_enter Tryz.func51,Tryz.ntmps51
 go_wp2_with fail
 refine HS.out.mono ?_
 rintro o w1 ⟨rfl,hb⟩
 have hx1:=HX.out.below hb HX.out.lt
 have HX1:=Lib.hid hx1
 have HR1:=Lib.hid (HR.out.below hb HR.out.lt)
 have HB1:=Lib.hid (HB.out.trans (hb.mono HB.out.size))
 have hx1l:=hx1.lt
 have e0:=hx1.cell 0 (v:=.int .i64 e.off) rfl
 have e3:=hx1.cell 3 (v:=.string f) rfl
 clear hb hx1 HX HR HB HS
 go_wp2_with fail
 refine (HM.out _ HB1.out).mono ?_
 rintro o w2 ⟨rfl,hb⟩
 have hx2:=HX1.out.below hb HX1.out.lt
 have HR2:=Lib.hid (HR1.out.below hb HR1.out.lt)
 have HB2:=Lib.hid (HB1.out.trans (hb.mono HB1.out.size))
 have hx2l:=hx2.lt
 have hr2l:=HR2.out.lt
 have e0:=hx2.cell 0 (v:=.int .i64 e.off) rfl
 have r0:=HR2.out.cell 0 (v:=.int .i64 0) rfl
 have r1:=HR2.out.cell 1 (v:=.bool false) rfl
 have r2:=HR2.out.cell 2 (v:=.string ⟨#[]⟩) rfl
 have f0:=HR2.out.frozen 0
 have f1:=HR2.out.frozen 1
 have f2:=HR2.out.frozen 2
 clear hb hx2 HX1 HR1 HB1 HM e3
 by_cases h0:err = 0
 ·subst h0
  go_wp2_with fail
  have HY:=Lib.hid (((HR2.out.set 0 (.int .i64 (e.off + sv))).set 1 (.bool (sv != 0))).set 2 (.string s))
  have c0:=HY.out.cell 0 (v:=.int .i64 (e.off + sv)) rfl
  have c1:=HY.out.cell 1 (v:=.bool (sv != 0)) rfl
  have c2:=HY.out.cell 2 (v:=.string s) rfl
  refine bodyPost_ret (v:=.tuple #[.agg #[.int .i64 (e.off + sv),.bool (sv != 0),.string s],.int .i64 0]) ?_ rfl ⟨rfl,below_set3 HB2.out (by omega) _ _ _⟩
  simp [results,Tryz.f51,go_sem,c0,c1,c2]
 ·have h1:(err != 0) = true:=by simpa using h0
  go_wp2_with fail
  have HY:=Lib.hid (((HR2.out.set 0 (.int .i64 0)).set 1 (.bool false)).set 2 (.string ⟨#[]⟩))
  have c0:=HY.out.cell 0 (v:=.int .i64 0) rfl
  have c1:=HY.out.cell 1 (v:=.bool false) rfl
  have c2:=HY.out.cell 2 (v:=.string ⟨#[]⟩) rfl
  refine bodyPost_ret (v:=.tuple #[.agg #[.int .i64 0,.bool false,.string ⟨#[]⟩],.int .i64 err]) ?_ rfl ⟨rfl,below_set3 HB2.out (by omega) _ _ _⟩
  simp [results,Tryz.f51,go_sem,c0,c1,c2]
end
section -- PRow
open Go Go.RowKit Go.Shelf
structure RightR (l:List Rul) (A:List Fir):Prop where
 small:∀ r ∈ l,1900 ≤ r.from_∧r.from_ ≤ 2070
 mem:∀ f,f ∈ A ↔ ∃ r ∈ l,∃ y,1890 ≤ y∧y ≤ 2110∧ofB r y = true∧f = firOf r y
 save:∀ f ∈ A,-90000 < f.save∧f.save < 90000
 kind:∀ f ∈ A,0 ≤ f.kind∧f.kind ≤ 2
 gap:∀ i (h:i + 1 < A.length),A[i].nominal + 180000 < A[i + 1].nominal
section
variable {l:List Rul} {A:List Fir}
theorem RightR.lt (h:RightR l A):∀ (d i:Nat) (hj:i + d + 1 < A.length),A[i].nominal + 180000 < A[i + d + 1].nominal
 | 0,i,hj=>h.gap i hj
 | d + 1,i,hj=>by
   have h1:=h.lt d i (by omega)
   have h2:=h.gap (i + d + 1) (by omega)
   have e:A[i + (d + 1) + 1] = A[i + d + 1 + 1]:=rfl
   rw [e]
   omega
end
end
section -- PEnd
open Go Go.RowKit Go.Shelf
def apartB:List Fir→Bool
 | []=>true
 | [f]=>decide (-90000 < f.save) && decide (f.save < 90000)
 | f :: g :: t=>decide (-90000 < f.save) && decide (f.save < 90000) && decide (f.nominal + 180000 < g.nominal) && apartB (g :: t)
theorem apartB_spec:∀ {A:List Fir},apartB A = true→(∀ f ∈ A,-90000 < f.save∧f.save < 90000)∧∀ i (h:i + 1 < A.length),A[i].nominal + 180000 < A[i + 1].nominal
 | [],_=>⟨fun f hf=>(by cases hf),fun i h=>absurd h (by simp)⟩
 | [f],h=>by
   unfold apartB at h
   simp only [Bool.and_eq_true,decide_eq_true_eq] at h
   refine ⟨fun g hg=>?_,fun i hi=>absurd hi (by simp)⟩
   rw [List.mem_singleton] at hg
   subst hg
   exact h
 | f :: g :: t,h=>by
   unfold apartB at h
   simp only [Bool.and_eq_true,decide_eq_true_eq] at h
   obtain ⟨h1,h2⟩:=apartB_spec (A:=g :: t) h.2
   refine ⟨fun x hx=>?_,fun i hi=>?_⟩
   ·rcases List.mem_cons.1 hx with rfl | hx
    ·exact h.1.1
    ·exact h1 x hx
   ·rcases i with _ | i
    ·exact h.1.2
    ·exact h2 i (by simpa using hi)
theorem apartB_of:∀ {A:List Fir},(∀ f ∈ A,-90000 < f.save∧f.save < 90000)→(∀ i (h:i + 1 < A.length),A[i].nominal + 180000 < A[i + 1].nominal)→apartB A = true
 | [],_,_=>rfl
 | [f],h1,_=>by
   unfold apartB
   simp only [Bool.and_eq_true,decide_eq_true_eq]
   exact h1 f (by simp)
 | f :: g :: t,h1,h2=>by
   unfold apartB
   simp only [Bool.and_eq_true,decide_eq_true_eq]
   exact ⟨⟨h1 f (by simp),h2 0 (by simp)⟩,apartB_of (fun x hx=>h1 x (by simp [hx])) (fun i hi=>h2 (i + 1) (by simpa using hi))⟩
theorem right_of {l:List Rul} {A:List Fir} (hs:smallB l = true) (hf:∀ r ∈ l,r.from_ ≤ 2070) (hst:Stab Fir.nominal (genL l 1890 2110) A) (hap:apartB A = true):RightR l A:=by
 have hsm:∀ r ∈ l,smallR r = true:=by
  unfold smallB at hs
  rw [Bool.and_eq_true,List.all_eq_true] at hs
  exact hs.1
 have hmem:∀ f,f ∈ A ↔ ∃ r ∈ l,∃ y,1890 ≤ y∧y ≤ 2110∧ofB r y = true∧f = firOf r y:=fun f=>by
  rw [hst.1.mem_iff]
  unfold genL genR
  rw [List.mem_flatMap]
  constructor
  ·rintro ⟨r,hr,hx⟩
   rw [List.mem_map] at hx
   obtain ⟨y,hy,rfl⟩:=hx
   rw [List.mem_filter,yrs_mem] at hy
   exact ⟨r,hr,y,hy.1.1,hy.1.2,hy.2,rfl⟩
  ·rintro ⟨r,hr,y,h1,h2,h3,rfl⟩
   refine ⟨r,hr,List.mem_map.2 ⟨y,?_,rfl⟩⟩
   rw [List.mem_filter,yrs_mem]
   exact ⟨⟨h1,h2⟩,h3⟩
 obtain ⟨h1,h2⟩:=apartB_spec hap
 refine ⟨fun r hr=>?_,hmem,h1,fun f hfA=>?_,h2⟩
 ·have:=hsm r hr
  unfold smallR at this
  rw [Bool.and_eq_true,decide_eq_true_eq] at this
  exact ⟨this.1.1,hf r hr⟩
 ·obtain ⟨r,hr,y,-,-,-,rfl⟩:=(hmem f).1 hfA
  have:=hsm r hr
  unfold smallR at this
  rw [Bool.and_eq_true,decide_eq_true_eq] at this
  unfold firOf
  exact this.1.2.2.2.2.2.2.2
def endLoop (m:Int):Int→List (Int × Fir)→Int
 | sv,[]=>sv
 | sv,x :: t=>if m - sv ≤ x.1 then sv else endLoop m x.2.save t
def endSave (l:List Rul) (off n:Int):Int:=endLoop (n - off) (saveO (latestF l off (n - 360000))) (firedF l off (n - 360000) (n + 360000))
end
section -- AEnd
open Go Go.RowKit Go.Shelf
def untilA (e:EraN):Value:=.agg #[.int .i64 e.year,.int .i64 e.month,.int .i64 e.dk,.int .i64 e.dw,.int .i64 e.dn,.int .i64 e.sec,.int .i64 e.ak]
def nomB (e:EraN):Bool:=inOkB e.dk e.dw e.dn e.year e.month && decide (0 ≤ e.ak∧e.ak ≤ 2) && mayB e.sec
def nomV (e:EraN):Int:=inDay e.dk e.dw e.dn e.year e.month * 86400 + e.sec
def nomR (e:EraN):Int × Int:=if nomB e then (nomV e,0) else (0,10)
theorem nominal_any (w:World) (e:EraN) (ha:Ahead w) :
  Calls Tryz.prog 81 #[untilA e] w fun o w'=>o = .returned (.tuple #[.int .i64 (nomR e).1,.int .i64 (nomR e).2])∧Below w.heap.size w w':=by
 have hb0:Below w.heap.size w (w.alloc (.cells #[.int .i64 e.year,.int .i64 e.month,.int .i64 e.dk,.int .i64 e.dw,.int .i64 e.dn,.int .i64 e.sec,.int .i64 e.ak] 40)):=(Below.refl w.heap.size w).alloc (Nat.le_refl _) _
 have hx0:=Blk.new w 40 #[.int .i64 e.year,.int .i64 e.month,.int .i64 e.dk,.int .i64 e.dw,.int .i64 e.dn,.int .i64 e.sec,.int .i64 e.ak]
 have HI:=Lib.hid (in_any e.dk e.dw e.dn e.year e.month _ (ha.below hb0 (Nat.le_refl _)))
 have HJ:=Lib.hid (fun Y M D (W:World) (hb:Below w.heap.size w W)=>join_any Y M D e.sec W (ha.below hb (Nat.le_refl _)))
 have HB0:=Lib.hid hb0
 have HX0:=Lib.hid hx0
 unfold untilA
 clear hb0 hx0 ha
 cases hin:inOkB e.dk e.dw e.dn e.year e.month with
 | false =>
   have HV:=Lib.hid (show nomR e = (0,10) by unfold nomR nomB;rw [hin];rfl)
   obtain ⟨⟨Y,M,D,hA⟩,hE⟩:=in_no hin
   rw [hA,hE] at HI
   unfold dateA at HI
   clear hA hE hin HJ
   go_enter Tryz.func81,Tryz.ntmps81
   go_wp2_with fail
   refine HI.out.mono ?_
   rintro o w1 ⟨rfl,hb⟩
   have hb1:=HB0.out.trans (hb.mono HB0.out.size)
   have HB1:=Lib.hid (hb1.alloc hb1.size (.cells #[.int .i64 Y,.int .i64 M,.int .i64 D] 44))
   clear hb hb1
   go_wp2_with fail
   go_ret2
   exact ⟨by rw [HV.out];rfl,HB1.out⟩
 | true =>
   obtain ⟨Y,M,D,hA,hE,hd,hday⟩:=in_ok hin
   rw [hA,hE] at HI
   have HJ2:=Lib.hid (HJ.out Y M D)
   have hsum:dayV Y M D * 86400 + e.sec = nomV e:=by unfold nomV;rw [hday]
   simp only [hd,hsum,Bool.true_and] at HJ2
   unfold dateA at HI HJ2
   clear hA hE hd hday HJ hsum
   by_cases h1:e.ak < 0
   ·have HV:=Lib.hid (show nomR e = (0,10) by unfold nomR nomB;rw [hin,decide_eq_false (by omega)];rfl)
    have d1:decide (e.ak < 0) = true:=decide_eq_true h1
    clear hin HJ2
    go_enter Tryz.func81,Tryz.ntmps81
    go_wp2_with fail
    refine HI.out.mono ?_
    rintro o w1 ⟨rfl,hb⟩
    have hb1:=HB0.out.trans (hb.mono HB0.out.size)
    have HB1:=Lib.hid (hb1.alloc hb1.size (.cells #[.int .i64 Y,.int .i64 M,.int .i64 D] 44))
    have hx1:=HX0.out.below hb HX0.out.lt
    have hx1l:=hx1.lt
    have q5:=hx1.cell 5 (v:=.int .i64 e.sec) rfl
    have q6:=hx1.cell 6 (v:=.int .i64 e.ak) rfl
    clear hb hb1 hx1
    go_wp2_with fail
    go_ret2
    exact ⟨by rw [HV.out];rfl,HB1.out⟩
   ·have d1:decide (e.ak < 0) = false:=decide_eq_false h1
    by_cases h2:2 < e.ak
    ·have HV:=Lib.hid (show nomR e = (0,10) by unfold nomR nomB;rw [hin,decide_eq_false (by omega)];rfl)
     have d2:decide (2 < e.ak) = true:=decide_eq_true h2
     clear hin HJ2
     go_enter Tryz.func81,Tryz.ntmps81
     go_wp2_with fail
     refine HI.out.mono ?_
     rintro o w1 ⟨rfl,hb⟩
     have hb1:=HB0.out.trans (hb.mono HB0.out.size)
     have HB1:=Lib.hid (hb1.alloc hb1.size (.cells #[.int .i64 Y,.int .i64 M,.int .i64 D] 44))
     have hx1:=HX0.out.below hb HX0.out.lt
     have hx1l:=hx1.lt
     have q5:=hx1.cell 5 (v:=.int .i64 e.sec) rfl
     have q6:=hx1.cell 6 (v:=.int .i64 e.ak) rfl
     clear hb hb1 hx1
     go_wp2_with fail
     go_ret2
     exact ⟨by rw [HV.out];rfl,HB1.out⟩
    ·have d2:decide (2 < e.ak) = false:=decide_eq_false h2
     cases hmay:mayB e.sec with
     | false =>
       have HV:=Lib.hid (show nomR e = (0,10) by unfold nomR nomB;rw [hin,hmay,Bool.and_false];rfl)
       simp only [hmay,Bool.false_eq_true,if_false] at HJ2
       clear hin hmay
       go_enter Tryz.func81,Tryz.ntmps81
       go_wp2_with fail
       refine HI.out.mono ?_
       rintro o w1 ⟨rfl,hb⟩
       have hb1:=HB0.out.trans (hb.mono HB0.out.size)
       have HB1:=Lib.hid (hb1.alloc hb1.size (.cells #[.int .i64 Y,.int .i64 M,.int .i64 D] 44))
       have hx1:=HX0.out.below hb HX0.out.lt
       have hx1l:=hx1.lt
       have q5:=hx1.cell 5 (v:=.int .i64 e.sec) rfl
       have q6:=hx1.cell 6 (v:=.int .i64 e.ak) rfl
       clear hb hb1 hx1
       go_wp2_with fail
       refine (HJ2.out _ HB1.out).mono ?_
       rintro o w2 ⟨rfl,hb⟩
       have HB2:=Lib.hid (HB1.out.trans (hb.mono HB1.out.size))
       clear hb
       go_wp2_with fail
       go_ret2
       exact ⟨by rw [HV.out];rfl,HB2.out⟩
     | true =>
       have HV:=Lib.hid (show nomR e = (nomV e,0) by unfold nomR nomB;rw [hin,hmay,decide_eq_true (by omega)];rfl)
       simp only [hmay,if_true] at HJ2
       clear hin hmay
       generalize nomV e = nv at *
       go_enter Tryz.func81,Tryz.ntmps81
       go_wp2_with fail
       refine HI.out.mono ?_
       rintro o w1 ⟨rfl,hb⟩
       have hb1:=HB0.out.trans (hb.mono HB0.out.size)
       have HB1:=Lib.hid (hb1.alloc hb1.size (.cells #[.int .i64 Y,.int .i64 M,.int .i64 D] 44))
       have hx1:=HX0.out.below hb HX0.out.lt
       have hx1l:=hx1.lt
       have q5:=hx1.cell 5 (v:=.int .i64 e.sec) rfl
       have q6:=hx1.cell 6 (v:=.int .i64 e.ak) rfl
       clear hb hb1 hx1
       go_wp2_with fail
       refine (HJ2.out _ HB1.out).mono ?_
       rintro o w2 ⟨rfl,hb⟩
       have HB2:=Lib.hid (HB1.out.trans (hb.mono HB1.out.size))
       clear hb
       go_wp2_with fail
       go_ret2
       exact ⟨by rw [HV.out];rfl,HB2.out⟩
end
section -- UMath
open Go Go.RowKit Go.Shelf
def instW (f:Fir) (off save:Int):Int:=if f.kind = 2 then f.nominal else if f.kind = 1 then f.nominal - off else wrap64 (f.nominal - off - save)
def backW (l:List Rul) (off i:Int):Nat→Option Fir→Option Fir
 | 0,o=>o
 | _ + 1,none=>none
 | n + 1,some f=>if i < instW f off (savedF l f) then backW l off i n (aheadF l f.nominal) else some f
def latestW (l:List Rul) (off i:Int):Option Fir:=backW l off i ((i + 180001) + farN).toNat (aheadF l (i + 180001))
def firedNW (l:List Rul) (off fr to:Int):Nat→Option Fir→List (Int × Fir)
 | 0,_=>[]
 | _ + 1,none=>[]
 | n + 1,some f=>if f.nominal ≤ to + 180000 then
    (if instW f off (savedF l f) ≤ fr∨to < instW f off (savedF l f) then firedNW l off fr to n (behindF l (f.nominal + 1))
      else (instW f off (savedF l f),f) :: firedNW l off fr to n (behindF l (f.nominal + 1)))
   else []
def firedW (l:List Rul) (off fr to:Int):List (Int × Fir):=firedNW l off fr to (to + 180001 + farN).toNat (behindF l (fr - 180000))
theorem wrap64_range (z:Int):-9223372036854775808 ≤ wrap64 z∧wrap64 z ≤ 9223372036854775807:=by unfold wrap64;omega
theorem instW_range {f:Fir} {off save:Int} (h:-4000000000000 ≤ f.nominal∧f.nominal ≤ 4000000000000) (ho:-1000000000000000 ≤ off∧off ≤ 1000000000000000):-9223372036854775808 ≤ instW f off save∧instW f off save ≤ 9223372036854775807:=by
 unfold instW
 split
 ·omega
 ·split
  ·omega
  ·exact wrap64_range _
theorem nums_save {l:List Rul} (h:numsR l) {f:Fir} (hf:Fires l f):-9223372036854775808 ≤ f.save∧f.save ≤ 9223372036854775807:=by
 obtain ⟨r,hr,y,-,rfl⟩:=hf
 exact (h r hr).2.2
theorem savedT_in {l:List Rul} (h:numsR l) (f:Fir):-9223372036854775808 ≤ savedF l f∧savedF l f ≤ 9223372036854775807:=by
 unfold savedF
 cases hs:aheadF l f.nominal with
 | none=>exact ⟨by decide,by decide⟩
 | some x=>exact nums_save h (ahead_mem hs).1
def endLoopW (m:Int):Int→List (Int × Fir)→Int
 | sv,[]=>sv
 | sv,x :: t=>if wrap64 (m - sv) ≤ x.1 then sv else endLoopW m x.2.save t
def endSaveW (l:List Rul) (off n:Int):Int:=endLoopW (n - off) (saveO (latestW l off (n - 360000))) (firedW l off (n - 360000) (n + 360000))
theorem firedNW_mem {l:List Rul} {off fr to:Int}:∀ {n:Nat} {o:Option Fir},(∀ f,o = some f→Fires l f)→∀ x ∈ firedNW l off fr to n o,Fires l x.2
 | 0,o,_,x,hx=>by cases hx
 | n + 1,none,_,x,hx=>by cases hx
 | n + 1,some f,h,x,hx=>by
   unfold firedNW at hx
   have ih:=firedNW_mem (n:=n) (off:=off) (fr:=fr) (to:=to) (o:=behindF l (f.nominal + 1)) (fun g hg=>(behind_mem hg).1) x
   split at hx
   ·split at hx
    ·exact ih hx
    ·rcases List.mem_cons.1 hx with rfl | hx
     ·exact h f rfl
     ·exact ih hx
   ·cases hx
theorem firedW_mem {l:List Rul} {off fr to:Int} {x:Int × Fir} (h:x ∈ firedW l off fr to):Fires l x.2:=firedNW_mem (fun _ hf=>(behind_mem hf).1) x h
theorem backW_mem {l:List Rul} {off i:Int} {f:Fir}:∀ {n:Nat} {o:Option Fir},(∀ f,o = some f→Fires l f)→backW l off i n o = some f→Fires l f
 | 0,o,h,hf=>h f hf
 | n + 1,none,_,hf=>by cases hf
 | n + 1,some g,h,hf=>by
   unfold backW at hf
   split at hf
   ·exact backW_mem (fun x hx=>(ahead_mem hx).1) hf
   ·exact h f hf
theorem latestW_mem {l:List Rul} {off i:Int} {f:Fir} (h:latestW l off i = some f):Fires l f:=backW_mem (fun _ hx=>(ahead_mem hx).1) h
end
end Go.Proofs.YteekjfgjmccdnaaGreatDoor
