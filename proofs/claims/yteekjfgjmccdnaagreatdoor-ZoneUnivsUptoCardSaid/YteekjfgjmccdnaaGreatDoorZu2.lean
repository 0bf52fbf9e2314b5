/-
  Layer 11's law: are rules small? The chapter's example.
-/
import Derived.WalkMore
import Derived.Laws.OwnMore
import Derived.Laws.AppendOwn
import Derived.Laws.AppendOwnNone
import Derived.Maps.AppendAt
import Derived.Lib.MinMax
import Derived.Test.YteekjfgjmccdnaaGreatDoorZu1
set_option maxHeartbeats 16000000
set_option maxRecDepth 100000
namespace Go.Proofs.YteekjfgjmccdnaaGreatDoor
section -- CivilF
open Go Go.RowKit Go.Shelf
attribute [local go_sem] Oper.semAt_some
def seekV (a st wk:Int):Int:=if st = 1 then a + (wk - weekV a) % 7 else a - (weekV a - wk) % 7
def inDay (k wk n y m:Int):Int:=if k = 0 then dayV y m n else if k = 2 then seekV (dayV y m n) 1 wk else seekV (dayV y m (if k = 1 then lenV y m else n)) (-1) wk
def inB (k wk n y m:Int):Bool:=dayOkB k wk n && ymB y m && decide (n ≤ lenV y m)
def ofInB (n:Int):Bool:=decide (-37243778 ≤ n∧n < 35805088)
def ofA (n:Int):Value:=if ofInB n then dateA (ofYear n) (ofMon n) (ofDay n) else dateA 0 0 0
def ofE_ (n:Int):Int:=if ofInB n then 0 else 10
theorem weekV_add (a k:Int):weekV (a + k) = (weekV a + k) % 7:=by unfold weekV;omega
theorem seek_spec {a st wk:Int} (hst:st = 1∨st = -1) (h1:0 ≤ wk) (h2:wk < 7):∃ k:Nat,k < 7∧seekV a st wk = a + st * k∧weekV (a + st * k) = wk∧∀ j:Nat,j < k→weekV (a + st * j) ≠ wk:=by
 have hw:=weekV_in a
 rcases hst with rfl | rfl
 ·refine ⟨((wk - weekV a) % 7).toNat,by omega,?_,?_,fun j hj=>?_⟩
  ·unfold seekV
   rw [if_pos rfl,Int.one_mul]
   omega
  ·rw [Int.one_mul,weekV_add]
   omega
  ·rw [Int.one_mul,weekV_add]
   omega
 ·refine ⟨((weekV a - wk) % 7).toNat,by omega,?_,?_,fun j hj=>?_⟩
  ·unfold seekV
   rw [if_neg (by omega)]
   omega
  ·rw [show a + -1 * (((weekV a - wk) % 7).toNat:Int) = a + (-(((weekV a - wk) % 7).toNat:Int)) by omega,weekV_add]
   omega
  ·rw [show a + -1 * (j:Int) = a + (-(j:Int)) by omega,weekV_add]
   omega
def SeekI (n fb:Nat) (k wk N:Int) (f:Nat→Int) (pre:List Nat) (O:Nat→Prop) (W:World):Prop :=
 (O n∧O (n + 1)∧O fb)∧Blk W n 36 #[.int .i64 k,.int .i64 wk,.int .i64 N]∧Blk W (n + 1) 44 #[.int .i64 0,.int .i64 0,.int .i64 0]∧(∃ v,Blk W fb 3 #[.int .i64 v])∧∀ j,j < pre.length→weekV (f j) ≠ wk
def SeekP (n fb:Nat) (k wk N:Int) (f:Nat→Int) (pre:List Nat) (x:Nat) (O:Nat→Prop) (W:World):Prop :=
 (O n∧O (n + 1)∧O fb)∧Blk W n 36 #[.int .i64 k,.int .i64 wk,.int .i64 N]∧Blk W (n + 1) 44 #[.int .i64 0,.int .i64 0,.int .i64 0]∧Blk W fb 3 #[.int .i64 (f x)]∧∀ j,j < pre.length→weekV (f j) ≠ wk
def SeekX (n fb:Nat) (k wk N:Int) (f:Nat→Int) (c:Code) (_:List Nat) (O:Nat→Prop) (W:World):Prop :=
 c = .exit 1∧(O n∧O (n + 1)∧O fb)∧Blk W n 36 #[.int .i64 k,.int .i64 wk,.int .i64 N]∧Blk W (n + 1) 44 #[.int .i64 0,.int .i64 0,.int .i64 0]∧∃ j,Blk W fb 3 #[.int .i64 (f j)]∧weekV (f j) = wk∧∀ i,i < j→weekV (f i) ≠ wk
theorem seekI_feet (n fb:Nat) (k wk N:Int) (f:Nat→Int):Feet (SeekI n fb k wk N f):=by
 rintro pre O W W' ⟨⟨o0,o1,o2⟩,h0,h1,⟨v,h2⟩,hs⟩ hf
 exact ⟨⟨o0,o1,o2⟩,h0.fr hf (fun h=>h o0),h1.fr hf (fun h=>h o1),⟨v,h2.fr hf (fun h=>h o2)⟩,hs⟩
theorem seekP_feet (n fb:Nat) (k wk N:Int) (f:Nat→Int) (x:Nat):Feet (fun pre=>SeekP n fb k wk N f pre x):=by
 rintro pre O W W' ⟨⟨o0,o1,o2⟩,h0,h1,h2,hs⟩ hf
 exact ⟨⟨o0,o1,o2⟩,h0.fr hf (fun h=>h o0),h1.fr hf (fun h=>h o1),h2.fr hf (fun h=>h o2),hs⟩
theorem seekX_feet (n fb:Nat) (k wk N:Int) (f:Nat→Int) (c:Code):Feet (SeekX n fb k wk N f c):=by
 rintro pre O W W' ⟨hc,⟨o0,o1,o2⟩,h0,h1,j,h2,hs⟩ hf
 exact ⟨hc,⟨o0,o1,o2⟩,h0.fr hf (fun h=>h o0),h1.fr hf (fun h=>h o1),j,h2.fr hf (fun h=>h o2),hs⟩
theorem in_last (wk n y m:Int) (w:World) (ha:Ahead w) (h:inB 1 wk n y m = true) :
  Calls Tryz.prog 122 #[dayA 1 wk n,.int .i64 y,.int .i64 m] w fun e w'=>e = .returned (.tuple #[ofA (inDay 1 wk n y m),.int .i64 (ofE_ (inDay 1 wk n y m))])∧Below w.heap.size w w':=by
 unfold inB at h
 simp only [Bool.and_eq_true,decide_eq_true_eq] at h
 obtain ⟨⟨hok,hym⟩,hnl⟩:=h
 have hwk:0 ≤ wk∧wk < 7:=by
  have h:=hok
  unfold dayOkB at h
  rw [decide_eq_true_eq] at h
  omega
 have HL0:=show longV y m = (lenV y m,0) by unfold longV;rw [if_pos hym]
 unfold dayA
 refine (callsIn_wide (n:=8)).1 ?_
 refine callsIn_of_wp_marks Tryz.func122 rfl trivial ?_ rfl
 simp only [Tryz.ntmps122,List.size_toArray,List.length_cons,List.length_nil,Nat.reduceAdd,Nat.reduceSub,Array.replicate_succ,Array.replicate_zero,List.push_toArray,List.append_toArray,List.nil_append,List.cons_append]
 gi_wp2
 obtain ⟨W0,hW0⟩:∃ W,(w.alloc (.cells #[.int .i64 1,.int .i64 wk,.int .i64 n] 36)).alloc (.cells #[.int .i64 0,.int .i64 0,.int .i64 0] 44) = W:=⟨_,rfl⟩
 obtain ⟨b0,b1,hb0,hs0⟩:=blks2 w _ _ _ _ W0 hW0
 rw [hW0]
 clear hW0
 have HC:=Lib.hid (dfcheck_any 1 wk n W0)
 rw [if_pos hok] at HC
 have HB0:=Lib.hid (And.intro hb0 (And.intro b0 b1))
 have q0:=b0.cell 0 (v:=.int .i64 1) rfl
 have q1:=b0.cell 1 (v:=.int .i64 wk) rfl
 have q2:=b0.cell 2 (v:=.int .i64 n) rfl
 clear hb0 b0 b1
 unfold dayA at HC
 refine wpIn_scope ?_
 gi_wp2
 refine ⟨trivial,(callsIn_wide.2 HC.out).mono ?_⟩
 rintro e w1 ⟨rfl,hb⟩
 have HB1:=Lib.hid (show Below w.heap.size w w1∧Blk w1 w.heap.size 36 #[.int .i64 1,.int .i64 wk,.int .i64 n]∧Blk w1 (w.heap.size + 1) 44 #[.int .i64 0,.int .i64 0,.int .i64 0] from ⟨HB0.out.1.trans (hb.mono HB0.out.1.size),HB0.out.2.1.below hb HB0.out.2.1.lt,HB0.out.2.2.below hb HB0.out.2.2.lt⟩)
 clear hb HB0 HC q0 q1 q2
 have HL:=Lib.hid (long_any y m w1 (ha.below HB1.out.1 (Nat.le_refl _)))
 rw [HL0] at HL
 gi_wp2
 refine ⟨trivial,(callsIn_wide.2 HL.out).mono ?_⟩
 rintro e w2 ⟨rfl,q,rfl⟩
 have HB2:=Lib.hid (show Below w.heap.size w (w1.drewN q)∧Blk (w1.drewN q) w.heap.size 36 #[.int .i64 1,.int .i64 wk,.int .i64 n]∧Blk (w1.drewN q) (w.heap.size + 1) 44 #[.int .i64 0,.int .i64 0,.int .i64 0] from ⟨below_drewN HB1.out.1 q,HB1.out.2.1.drewN q,HB1.out.2.2.drewN q⟩)
 obtain ⟨W2,hW2⟩:∃ W,w1.drewN q = W:=⟨_,rfl⟩
 rw [hW2] at HB2 ⊢
 clear hW2 HL HB1
 have q0:=HB2.out.2.1.cell 0 (v:=.int .i64 1) rfl
 have q1:=HB2.out.2.1.cell 1 (v:=.int .i64 wk) rfl
 have q2:=HB2.out.2.1.cell 2 (v:=.int .i64 n) rfl
 have HD:=Lib.hid (days_any y m (lenV y m) W2 (ha.below HB2.out.1 (Nat.le_refl _)))
 have hdb:dateB y m (lenV y m) = true:=by
  unfold dateB
  rw [hym]
  unfold dayOkB at hok
  simp only [decide_eq_true_eq] at hok
  have hlen:=lenV_in (y:=y) (m:=m) (by unfold ymB at hym;rw [decide_eq_true_eq] at hym;exact hym.2.2.1) (by unfold ymB at hym;rw [decide_eq_true_eq] at hym;exact hym.2.2.2)
  simp
  omega
 rw [if_pos hdb] at HD
 have hdr:=dayV_in hdb
 obtain ⟨a0,ha0⟩:∃ a0,dayV y m (lenV y m) = a0:=⟨_,rfl⟩
 rw [ha0] at HD hdr
 have HA:=Lib.hid ha0
 clear ha0
 unfold dateA at HD
 gi_wp2
 refine ⟨trivial,(callsIn_wide.2 HD.out).mono ?_⟩
 rintro e w3 ⟨rfl,hb⟩
 have HB3:=Lib.hid (show Below w.heap.size w w3∧Blk w3 w.heap.size 36 #[.int .i64 1,.int .i64 wk,.int .i64 n]∧Blk w3 (w.heap.size + 1) 44 #[.int .i64 0,.int .i64 0,.int .i64 0] from ⟨HB2.out.1.trans (hb.mono HB2.out.1.size),HB2.out.2.1.below hb HB2.out.2.1.lt,HB2.out.2.2.below hb HB2.out.2.2.lt⟩)
 clear hb HB2 HD q0 q1 q2
 gi_wp2
 refine wpIn_label ?_
 have hsz:=HB3.out.2.2.lt
 have hb4:Below w.heap.size w (w3.alloc (.cells #[.int .i64 a0] 3)):=HB3.out.1.alloc HB3.out.1.size _
 have hf4:=Blk.new w3 3 #[.int .i64 a0]
 have HB4:=Lib.hid (show Below w.heap.size w (w3.alloc (.cells #[.int .i64 a0] 3))∧Blk (w3.alloc (.cells #[.int .i64 a0] 3)) w.heap.size 36 #[.int .i64 1,.int .i64 wk,.int .i64 n]∧Blk (w3.alloc (.cells #[.int .i64 a0] 3)) (w.heap.size + 1) 44 #[.int .i64 0,.int .i64 0,.int .i64 0]∧Blk (w3.alloc (.cells #[.int .i64 a0] 3)) w3.heap.size 3 #[.int .i64 a0] from ⟨hb4,HB3.out.2.1.alloc _,HB3.out.2.2.alloc _,hf4⟩)
 obtain ⟨W4,hW4⟩:∃ W,w3.alloc (.cells #[.int .i64 a0] 3) = W:=⟨_,rfl⟩
 rw [hW4] at HB4 ⊢
 have hs4:w3.heap.size < W4.heap.size:=by rw [← hW4];simp
 generalize w3.heap.size = fb at *
 clear hW4 hb4 hf4 HB3
 have HFM:=Lib.hid (from_any a0 (-1) W4)
 obtain ⟨f,hf⟩:∃ f:Nat→Int,∀ k,f k = a0 + (-1) * (k:Int):=⟨fun k=>a0 + (-1) * (k:Int),fun _=>rfl⟩
 have HF:=Lib.hid hf
 have hf0:f 0 = a0:=by rw [hf];simp
 have HF0:=Lib.hid hf0
 clear hf hf0
 gi_wp2
 refine ⟨trivial,(callsIn_wide.2 HFM.out).mono ?_⟩
 rintro e W5 ⟨rfl,hb5,hs5,hd5,hst5⟩
 have HB5:=Lib.hid (show Below w.heap.size w W5∧SeekI w.heap.size fb 1 wk n f [] (fun k=>k = w.heap.size∨k = w.heap.size + 1∨k = fb) W5 from ⟨HB4.out.1.trans (hb5.mono HB4.out.1.size),⟨.inl rfl,.inr (.inl rfl),.inr (.inr rfl)⟩,HB4.out.2.1.below hb5 HB4.out.2.1.lt,HB4.out.2.2.1.below hb5 HB4.out.2.2.1.lt,⟨a0,HB4.out.2.2.2.below hb5 HB4.out.2.2.2.lt⟩,fun j hj=>by simp at hj⟩)
 have HD5:=Lib.hid (And.intro hd5 hst5)
 have hw5:=HB5.out.1.size
 clear hb5 HB4 HFM hd5 hst5
 gi_wp2
 refine range_own_set (α:=Nat) rfl (by omega) (gf:=176) (lb:=#[.pointer (some ⟨W4.heap.size,0,none⟩),.pointer (some ⟨W4.heap.size + 1,0,none⟩)]) rfl trivial (enters_of Tryz.func176 (by kernel_rfl) rfl)
  (encs:=encD f) (K:=fun k=>k = W4.heap.size∨k = W4.heap.size + 1)
  (fun W hW=>from1_iter 7 (by omega) _ _ f (-1) W (fun k=>by rw [HF.out,HF.out];omega) (fun k hk=>by rw [HF.out];omega) (by omega) (by rw [HF0.out];exact HD5.out.1.below hW HD5.out.1.lt) (HD5.out.2.below hW HD5.out.2.lt) (by omega))
  (fun _=>rfl) (SeekI w.heap.size fb 1 wk n f) (SeekX w.heap.size fb 1 wk n f) (seekI_feet _ _ _ _ _ _) (seekX_feet _ _ _ _ _ _) (SeekP w.heap.size fb 1 wk n f) (seekP_feet _ _ _ _ _ _)
  (fun k=>k = w.heap.size∨k = w.heap.size + 1∨k = fb) HB5.out.2 (fun k hk=>by omega) (fun k hk=>by omega) (fun k hk h=>by omega) ?round ?done ?stop
 case round =>
  intro lp pre x O D W hI hBO hBD hDO hR nOl nDl hlow hltl
  obtain ⟨hnD,rfl,hx7⟩:=hR
  unfold encD
  obtain ⟨⟨o0,o1,o2⟩,h0,h1,⟨v,h2⟩,hs⟩:=hI
  have q0:=h2.cell 0 (v:=.int .i64 v) rfl
  have qf:=h2.frozen 0
  have HW:=Lib.hid (show (Fr O W (W.setCell ⟨fb,0,none⟩ (.int .i64 (f pre.length)))∧SeekP w.heap.size fb 1 wk n f pre pre.length O (W.setCell ⟨fb,0,none⟩ (.int .i64 (f pre.length))))∧Bd O W from ⟨⟨Fr.setCell W 0 _ o2,⟨o0,o1,o2⟩,h0.other (by omega) 0 _,h1.other (by omega) 0 _,h2.set 0 _,hs⟩,hBO⟩)
  clear h0 h1 h2 hs hBO hBD hDO
  gi_wp2
  refine ⟨HW.out.1,?_⟩
  intro Wb hfb hIb _
  have HBW:=Lib.hid ((HW.out.2.fr HW.out.1.1).fr hfb)
  have HIB:=Lib.hid hIb
  have HWK:=Lib.hid (fun W=>weekday_any (f pre.length) W)
  have HZ:=Lib.hid (show leftO (SeekI w.heap.size fb 1 wk n f) (SeekX w.heap.size fb 1 wk n f) (pre ++ [pre.length]) O D Wb = leftO (SeekI w.heap.size fb 1 wk n f) (SeekX w.heap.size fb 1 wk n f) (pre ++ [pre.length]) O D Wb from rfl)
  have HLF:=Lib.hid (show ∀ W,Below Wb.heap.size Wb W→(weekV (f pre.length) ≠ wk→leftO (SeekI w.heap.size fb 1 wk n f) (SeekX w.heap.size fb 1 wk n f) (pre ++ [pre.length]) O D Wb .normal ⟨#[],[]⟩ W)∧(weekV (f pre.length) = wk→leftO (SeekI w.heap.size fb 1 wk n f) (SeekX w.heap.size fb 1 wk n f) (pre ++ [pre.length]) O D Wb (.exit 1) ⟨#[],[]⟩ W) from fun W hbW=>by
   obtain ⟨oo,h0,h1,h2,hs⟩:=HIB.out
   have g0:=h0.below hbW h0.lt
   have g1:=h1.below hbW h1.lt
   have g2:=h2.below hbW h2.lt
   have hF:∀ T,Fr T Wb W:=fun T=>Fr.of_below hbW (Nat.le_refl _)
   refine ⟨fun hne=>⟨O,fun k h=>.inl h,HBW.out.fr (hF (fun _=>True)),hF _,oo,g0,g1,⟨_,g2⟩,fun j hj=>?_⟩,fun he=>⟨O,fun k h=>.inl h,HBW.out.fr (hF (fun _=>True)),hF _,rfl,oo,g0,g1,pre.length,g2,he,hs⟩⟩
   rw [List.length_append,List.length_singleton] at hj
   rcases Nat.lt_or_ge j pre.length with h | h
   ·exact hs j h
   ·rw [show j = pre.length by omega]
    exact hne)
  obtain ⟨-,h0,h1,h2,hs⟩:=hIb
  have q0:=h2.cell 0 (v:=.int .i64 (f pre.length)) rfl
  have q1:=h0.cell 1 (v:=.int .i64 wk) rfl
  have HQ:=Lib.hid (fun W (hb:Below Wb.heap.size Wb W)=>show W.cell? ⟨fb,0,none⟩ = some (.int .i64 (f pre.length))∧W.cell? ⟨w.heap.size,1,none⟩ = some (.int .i64 wk) from ⟨(h2.below hb h2.lt).cell 0 rfl,(h0.below hb h0.lt).cell 1 rfl⟩)
  clear h0 h1 h2 hs HW qf HB5 HD5
  generalize f pre.length = z at *
  generalize weekV z = wz at *
  by_cases hw:wz = wk
  ·have HRES:=Lib.hid (fun W hb=>(HLF.out W hb).2 hw)
   clear HLF
   have hw':=hw.symm
   subst hw'
   gi_wp2
   refine wpIn_env (fin:=?fnT) (wide1 lp) (by kernel_rfl) [65,66,67,68,69]
    [.int .i64 z,.int .i64 wk,.pointer (some ⟨w.heap.size,1,none⟩),.int .i64 wk,.bool true] (by kernel_rfl) ?finT ?stepsT ?nextT
   case finT =>
    simp only [putAll,Act.put,List.setIfInBounds_toArray,List.set_cons_succ,List.set_cons_zero]
    rfl
   case stepsT =>
    refine ⟨?_,?_,?_,?_,?_,trivial⟩
    all_goals refine .inr ⟨by kernel_rfl,fun w1_ hB_=>?_⟩
    all_goals
     obtain ⟨c0,c1⟩:=HQ.out w1_ hB_
     clear hB_
     go_simp
     first
      | exact ⟨rfl,Below.refl _ _⟩
      | exact ⟨rfl,(HWK.out w1_).mono fun e w' h=>⟨h.1,by rw [h.2];exact Below.refl _ _⟩⟩
      | done
   case nextT =>
   intro w7 hb7
   have HR:=HRES.out w7 hb7
   clear hb7 HRES
   gi_wp2
   exact HR
  ·have HRES:=Lib.hid (fun W hb=>(HLF.out W hb).1 hw)
   have hw2:(wz == wk) = false:=by simpa using hw
   clear HLF
   gi_wp2
   refine wpIn_env (fin:=?fnF) (wide1 lp) (by kernel_rfl) [65,66,67,68,69]
    [.int .i64 z,.int .i64 wz,.pointer (some ⟨w.heap.size,1,none⟩),.int .i64 wk,.bool false] (by kernel_rfl) ?finF ?stepsF ?nextF
   case finF =>
    simp only [putAll,Act.put,List.setIfInBounds_toArray,List.set_cons_succ,List.set_cons_zero]
    rfl
   case stepsF =>
    refine ⟨?_,?_,?_,?_,?_,trivial⟩
    all_goals refine .inr ⟨by kernel_rfl,fun w1_ hB_=>?_⟩
    all_goals
     obtain ⟨c0,c1⟩:=HQ.out w1_ hB_
     clear hB_
     go_simp
     first
      | exact ⟨rfl,Below.refl _ _⟩
      | exact ⟨rfl,(HWK.out w1_).mono fun e w' h=>⟨h.1,by rw [h.2];exact Below.refl _ _⟩⟩
      | done
   case nextF =>
   intro w7 hb7
   have HR:=HRES.out w7 hb7
   clear hb7 HRES
   gi_wp2
   exact HR
 case stop =>
  rintro D c pre O W hD - ⟨rfl,⟨o0,o1,o2⟩,h0,h1,j,h2,hj,hjn⟩ hO hBO hOD hfr hK
  have hv:f j = inDay 1 wk n y m:=by
   obtain ⟨k,h1,h3,h4,h5⟩:=seek_spec (a:=a0) (st:=-1) (wk:=wk) (by omega) hwk.1 hwk.2
   rcases Nat.lt_trichotomy j k with h | h | h
   ·exact absurd (by rw [HF.out] at hj;exact hj) (h5 j h)
   ·subst h
    rw [HF.out,← h3]
    have e:=HA.out
    unfold inDay
    simp
    rw [e]
   ·exact absurd (by rw [HF.out];exact h4) (hjn k h)
  have HV:=Lib.hid hv
  clear hv hj hjn
  have hsw:=hfr.size
  have hW:=HB5.out.1.trans (hfr.below hw5 (fun k hk h=>by rcases h with h | h <;> omega))
  have HBW:=Lib.hid hW
  have haW:Ahead W:=fun k hk=>by
   have h:=(ha.below HB5.out.1 (Nat.le_refl _)) k hk
   have hlt:=World.block_lt_of_cell? w _ (ha k hk)
   exact (hfr.cell (p:=⟨0,k,none⟩) (Nat.lt_of_lt_of_le hlt hw5) (fun h=>by rcases h with h | h <;> simp at h hlt <;> omega)).trans h
  have HOF:=Lib.hid (show Calls Tryz.prog 49 #[.int .i64 (f j)] W fun e w'=>e = .returned (.tuple #[ofA (f j),.int .i64 (ofE_ (f j))])∧Below W.heap.size W w' by
   unfold ofA ofE_ ofInB
   by_cases hin:-37243778 ≤ f j∧f j < 35805088
   ·simp only [hin,decide_true,if_true,and_self]
    exact of_any (f j) hin.1 hin.2 W haW
   ·simp only [hin,decide_false]
    exact of_out (f j) hin W)
  have q0:=h2.cell 0 (v:=.int .i64 (f j)) rfl
  obtain ⟨Y,M,D2,hofa⟩:∃ Y M D2,ofA (f j) = .agg #[.int .i64 Y,.int .i64 M,.int .i64 D2]:=by
   unfold ofA dateA
   split <;> exact ⟨_,_,_,rfl⟩
  rw [hofa] at HOF
  have HOA:=Lib.hid hofa
  obtain ⟨E,hE⟩:∃ E,ofE_ (f j) = E:=⟨_,rfl⟩
  rw [hE] at HOF
  have HE:=Lib.hid hE
  have H1:=Lib.hid h1
  have HK:=Lib.hid hK
  have hDW:D < W.heap.size:=(Array.getElem?_eq_some_iff.1 hK).1
  clear hofa hE h0 h1 h2 haW hW hfr hK HB5 HD5 hO hBO
  generalize f j = z at *
  gi_wp2
  refine ⟨trivial,(callsIn_wide.2 HOF.out).mono ?_⟩
  rintro e W6 ⟨rfl,hb6⟩
  have h6:=H1.out.below hb6 H1.out.lt
  have hK6:=(hb6.block D hDW).trans HK.out
  have HB6:=Lib.hid (HBW.out.trans (hb6.mono HBW.out.size))
  have r0:=h6.cell 0 (v:=.int .i64 0) rfl
  have r1:=h6.cell 1 (v:=.int .i64 0) rfl
  have r2:=h6.cell 2 (v:=.int .i64 0) rfl
  have g0:=h6.frozen 0
  have g1:=h6.frozen 1
  have g2:=h6.frozen 2
  have HR:=Lib.hid (((h6.set 0 (.int .i64 Y)).set 1 (.int .i64 M)).set 2 (.int .i64 D2))
  have HKD:=Lib.hid (show (((W6.setCell ⟨w.heap.size + 1,0,none⟩ (.int .i64 Y)).setCell ⟨w.heap.size + 1,1,none⟩ (.int .i64 M)).setCell ⟨w.heap.size + 1,2,none⟩ (.int .i64 D2)).heap[D]? = some (.deferred (some [])) from (fr_set3 (T:=fun k=>k = w.heap.size + 1) W6 rfl _ _ _).at_ hK6 (by omega))
  have HBL:=Lib.hid (below_set3 HB6.out (show w.heap.size ≤ w.heap.size + 1 by omega) (.int .i64 Y) (.int .i64 M) (.int .i64 D2))
  clear hb6 h6 hK6 HOF HK q0
  gi_wp2
  refine ⟨by simp,.inl ⟨_,_,rfl,run_takeDeferred HKD.out,?_⟩⟩
  have hres:Blk ((((W6.setCell ⟨w.heap.size + 1,0,none⟩ (.int .i64 Y)).setCell ⟨w.heap.size + 1,1,none⟩ (.int .i64 M)).setCell ⟨w.heap.size + 1,2,none⟩ (.int .i64 D2)).putObj D (.deferred none)) (w.heap.size + 1) 44 #[.int .i64 Y,.int .i64 M,.int .i64 D2]:=(World.putObj_heap_other (by omega)).trans HR.out
  have c0:=hres.cell 0 (v:=.int .i64 Y) rfl
  have c1:=hres.cell 1 (v:=.int .i64 M) rfl
  have c2:=hres.cell 2 (v:=.int .i64 D2) rfl
  refine ⟨.tuple #[.agg #[.int .i64 Y,.int .i64 M,.int .i64 D2],.int .i64 E],?_,⟨by rw [← HV.out,HOA.out,HE.out],fin_below HBL.out (by omega)⟩⟩
  simp [results,Tryz.f122,go_sem,c0,c1,c2]
 case done =>
  rintro D xs O W hD hS ⟨-,-,-,-,hs⟩
  exfalso
  obtain ⟨k,h1,-,h2,-⟩:=seek_spec (a:=a0) (st:=-1) (wk:=wk) (by omega) (by omega) (by omega)
  exact hs k (by rw [hS];exact h1) (by rw [HF.out];exact h2)
theorem in_less (wk n y m:Int) (w:World) (ha:Ahead w) (h:inB 2 wk n y m = true) :
  Calls Tryz.prog 122 #[dayA 2 wk n,.int .i64 y,.int .i64 m] w fun e w'=>e = .returned (.tuple #[ofA (inDay 2 wk n y m),.int .i64 (ofE_ (inDay 2 wk n y m))])∧Below w.heap.size w w':=by
 unfold inB at h
 simp only [Bool.and_eq_true,decide_eq_true_eq] at h
 obtain ⟨⟨hok,hym⟩,hnl⟩:=h
 have hwk:0 ≤ wk∧wk < 7:=by
  have h:=hok
  unfold dayOkB at h
  rw [decide_eq_true_eq] at h
  omega
 have HL0:=show longV y m = (lenV y m,0) by unfold longV;rw [if_pos hym]
 unfold dayA
 refine (callsIn_wide (n:=8)).1 ?_
 refine callsIn_of_wp_marks Tryz.func122 rfl trivial ?_ rfl
 simp only [Tryz.ntmps122,List.size_toArray,List.length_cons,List.length_nil,Nat.reduceAdd,Nat.reduceSub,Array.replicate_succ,Array.replicate_zero,List.push_toArray,List.append_toArray,List.nil_append,List.cons_append]
 gi_wp2
 obtain ⟨W0,hW0⟩:∃ W,(w.alloc (.cells #[.int .i64 2,.int .i64 wk,.int .i64 n] 36)).alloc (.cells #[.int .i64 0,.int .i64 0,.int .i64 0] 44) = W:=⟨_,rfl⟩
 obtain ⟨b0,b1,hb0,hs0⟩:=blks2 w _ _ _ _ W0 hW0
 rw [hW0]
 clear hW0
 have HC:=Lib.hid (dfcheck_any 2 wk n W0)
 rw [if_pos hok] at HC
 have HB0:=Lib.hid (And.intro hb0 (And.intro b0 b1))
 have q0:=b0.cell 0 (v:=.int .i64 2) rfl
 have q1:=b0.cell 1 (v:=.int .i64 wk) rfl
 have q2:=b0.cell 2 (v:=.int .i64 n) rfl
 clear hb0 b0 b1
 unfold dayA at HC
 refine wpIn_scope ?_
 gi_wp2
 refine ⟨trivial,(callsIn_wide.2 HC.out).mono ?_⟩
 rintro e w1 ⟨rfl,hb⟩
 have HB1:=Lib.hid (show Below w.heap.size w w1∧Blk w1 w.heap.size 36 #[.int .i64 2,.int .i64 wk,.int .i64 n]∧Blk w1 (w.heap.size + 1) 44 #[.int .i64 0,.int .i64 0,.int .i64 0] from ⟨HB0.out.1.trans (hb.mono HB0.out.1.size),HB0.out.2.1.below hb HB0.out.2.1.lt,HB0.out.2.2.below hb HB0.out.2.2.lt⟩)
 clear hb HB0 HC q0 q1 q2
 have HL:=Lib.hid (long_any y m w1 (ha.below HB1.out.1 (Nat.le_refl _)))
 rw [HL0] at HL
 gi_wp2
 refine ⟨trivial,(callsIn_wide.2 HL.out).mono ?_⟩
 rintro e w2 ⟨rfl,q,rfl⟩
 have HB2:=Lib.hid (show Below w.heap.size w (w1.drewN q)∧Blk (w1.drewN q) w.heap.size 36 #[.int .i64 2,.int .i64 wk,.int .i64 n]∧Blk (w1.drewN q) (w.heap.size + 1) 44 #[.int .i64 0,.int .i64 0,.int .i64 0] from ⟨below_drewN HB1.out.1 q,HB1.out.2.1.drewN q,HB1.out.2.2.drewN q⟩)
 obtain ⟨W2,hW2⟩:∃ W,w1.drewN q = W:=⟨_,rfl⟩
 rw [hW2] at HB2 ⊢
 clear hW2 HL HB1
 have q0:=HB2.out.2.1.cell 0 (v:=.int .i64 2) rfl
 have q1:=HB2.out.2.1.cell 1 (v:=.int .i64 wk) rfl
 have q2:=HB2.out.2.1.cell 2 (v:=.int .i64 n) rfl
 have HD:=Lib.hid (days_any y m (n) W2 (ha.below HB2.out.1 (Nat.le_refl _)))
 have hdb:dateB y m (n) = true:=by
  unfold dateB
  rw [hym]
  unfold dayOkB at hok
  simp only [decide_eq_true_eq] at hok
  have hlen:=lenV_in (y:=y) (m:=m) (by unfold ymB at hym;rw [decide_eq_true_eq] at hym;exact hym.2.2.1) (by unfold ymB at hym;rw [decide_eq_true_eq] at hym;exact hym.2.2.2)
  simp
  omega
 rw [if_pos hdb] at HD
 have hdr:=dayV_in hdb
 obtain ⟨a0,ha0⟩:∃ a0,dayV y m (n) = a0:=⟨_,rfl⟩
 rw [ha0] at HD hdr
 have HA:=Lib.hid ha0
 clear ha0
 unfold dateA at HD
 gi_wp2
 refine ⟨trivial,(callsIn_wide.2 HD.out).mono ?_⟩
 rintro e w3 ⟨rfl,hb⟩
 have HB3:=Lib.hid (show Below w.heap.size w w3∧Blk w3 w.heap.size 36 #[.int .i64 2,.int .i64 wk,.int .i64 n]∧Blk w3 (w.heap.size + 1) 44 #[.int .i64 0,.int .i64 0,.int .i64 0] from ⟨HB2.out.1.trans (hb.mono HB2.out.1.size),HB2.out.2.1.below hb HB2.out.2.1.lt,HB2.out.2.2.below hb HB2.out.2.2.lt⟩)
 clear hb HB2 HD q0 q1 q2
 gi_wp2
 refine wpIn_label ?_
 have hsz:=HB3.out.2.2.lt
 have hb4:Below w.heap.size w (w3.alloc (.cells #[.int .i64 a0] 3)):=HB3.out.1.alloc HB3.out.1.size _
 have hf4:=Blk.new w3 3 #[.int .i64 a0]
 have HB4:=Lib.hid (show Below w.heap.size w (w3.alloc (.cells #[.int .i64 a0] 3))∧Blk (w3.alloc (.cells #[.int .i64 a0] 3)) w.heap.size 36 #[.int .i64 2,.int .i64 wk,.int .i64 n]∧Blk (w3.alloc (.cells #[.int .i64 a0] 3)) (w.heap.size + 1) 44 #[.int .i64 0,.int .i64 0,.int .i64 0]∧Blk (w3.alloc (.cells #[.int .i64 a0] 3)) w3.heap.size 3 #[.int .i64 a0] from ⟨hb4,HB3.out.2.1.alloc _,HB3.out.2.2.alloc _,hf4⟩)
 obtain ⟨W4,hW4⟩:∃ W,w3.alloc (.cells #[.int .i64 a0] 3) = W:=⟨_,rfl⟩
 rw [hW4] at HB4 ⊢
 have hs4:w3.heap.size < W4.heap.size:=by rw [← hW4];simp
 generalize w3.heap.size = fb at *
 clear hW4 hb4 hf4 HB3
 have HFM:=Lib.hid (from_any a0 (1) W4)
 obtain ⟨f,hf⟩:∃ f:Nat→Int,∀ k,f k = a0 + (1) * (k:Int):=⟨fun k=>a0 + (1) * (k:Int),fun _=>rfl⟩
 have HF:=Lib.hid hf
 have hf0:f 0 = a0:=by rw [hf];simp
 have HF0:=Lib.hid hf0
 clear hf hf0
 gi_wp2
 refine ⟨trivial,(callsIn_wide.2 HFM.out).mono ?_⟩
 rintro e W5 ⟨rfl,hb5,hs5,hd5,hst5⟩
 have HB5:=Lib.hid (show Below w.heap.size w W5∧SeekI w.heap.size fb 2 wk n f [] (fun k=>k = w.heap.size∨k = w.heap.size + 1∨k = fb) W5 from ⟨HB4.out.1.trans (hb5.mono HB4.out.1.size),⟨.inl rfl,.inr (.inl rfl),.inr (.inr rfl)⟩,HB4.out.2.1.below hb5 HB4.out.2.1.lt,HB4.out.2.2.1.below hb5 HB4.out.2.2.1.lt,⟨a0,HB4.out.2.2.2.below hb5 HB4.out.2.2.2.lt⟩,fun j hj=>by simp at hj⟩)
 have HD5:=Lib.hid (And.intro hd5 hst5)
 have hw5:=HB5.out.1.size
 clear hb5 HB4 HFM hd5 hst5
 gi_wp2
 refine range_own_set (α:=Nat) rfl (by omega) (gf:=176) (lb:=#[.pointer (some ⟨W4.heap.size,0,none⟩),.pointer (some ⟨W4.heap.size + 1,0,none⟩)]) rfl trivial (enters_of Tryz.func176 (by kernel_rfl) rfl)
  (encs:=encD f) (K:=fun k=>k = W4.heap.size∨k = W4.heap.size + 1)
  (fun W hW=>from1_iter 7 (by omega) _ _ f (1) W (fun k=>by rw [HF.out,HF.out];omega) (fun k hk=>by rw [HF.out];omega) (by omega) (by rw [HF0.out];exact HD5.out.1.below hW HD5.out.1.lt) (HD5.out.2.below hW HD5.out.2.lt) (by omega))
  (fun _=>rfl) (SeekI w.heap.size fb 2 wk n f) (SeekX w.heap.size fb 2 wk n f) (seekI_feet _ _ _ _ _ _) (seekX_feet _ _ _ _ _ _) (SeekP w.heap.size fb 2 wk n f) (seekP_feet _ _ _ _ _ _)
  (fun k=>k = w.heap.size∨k = w.heap.size + 1∨k = fb) HB5.out.2 (fun k hk=>by omega) (fun k hk=>by omega) (fun k hk h=>by omega) ?round ?done ?stop
 case round =>
  intro lp pre x O D W hI hBO hBD hDO hR nOl nDl hlow hltl
  obtain ⟨hnD,rfl,hx7⟩:=hR
  unfold encD
  obtain ⟨⟨o0,o1,o2⟩,h0,h1,⟨v,h2⟩,hs⟩:=hI
  have q0:=h2.cell 0 (v:=.int .i64 v) rfl
  have qf:=h2.frozen 0
  have HW:=Lib.hid (show (Fr O W (W.setCell ⟨fb,0,none⟩ (.int .i64 (f pre.length)))∧SeekP w.heap.size fb 2 wk n f pre pre.length O (W.setCell ⟨fb,0,none⟩ (.int .i64 (f pre.length))))∧Bd O W from ⟨⟨Fr.setCell W 0 _ o2,⟨o0,o1,o2⟩,h0.other (by omega) 0 _,h1.other (by omega) 0 _,h2.set 0 _,hs⟩,hBO⟩)
  clear h0 h1 h2 hs hBO hBD hDO
  gi_wp2
  refine ⟨HW.out.1,?_⟩
  intro Wb hfb hIb _
  have HBW:=Lib.hid ((HW.out.2.fr HW.out.1.1).fr hfb)
  have HIB:=Lib.hid hIb
  have HWK:=Lib.hid (fun W=>weekday_any (f pre.length) W)
  have HZ:=Lib.hid (show leftO (SeekI w.heap.size fb 2 wk n f) (SeekX w.heap.size fb 2 wk n f) (pre ++ [pre.length]) O D Wb = leftO (SeekI w.heap.size fb 2 wk n f) (SeekX w.heap.size fb 2 wk n f) (pre ++ [pre.length]) O D Wb from rfl)
  have HLF:=Lib.hid (show ∀ W,Below Wb.heap.size Wb W→(weekV (f pre.length) ≠ wk→leftO (SeekI w.heap.size fb 2 wk n f) (SeekX w.heap.size fb 2 wk n f) (pre ++ [pre.length]) O D Wb .normal ⟨#[],[]⟩ W)∧(weekV (f pre.length) = wk→leftO (SeekI w.heap.size fb 2 wk n f) (SeekX w.heap.size fb 2 wk n f) (pre ++ [pre.length]) O D Wb (.exit 1) ⟨#[],[]⟩ W) from fun W hbW=>by
   obtain ⟨oo,h0,h1,h2,hs⟩:=HIB.out
   have g0:=h0.below hbW h0.lt
   have g1:=h1.below hbW h1.lt
   have g2:=h2.below hbW h2.lt
   have hF:∀ T,Fr T Wb W:=fun T=>Fr.of_below hbW (Nat.le_refl _)
   refine ⟨fun hne=>⟨O,fun k h=>.inl h,HBW.out.fr (hF (fun _=>True)),hF _,oo,g0,g1,⟨_,g2⟩,fun j hj=>?_⟩,fun he=>⟨O,fun k h=>.inl h,HBW.out.fr (hF (fun _=>True)),hF _,rfl,oo,g0,g1,pre.length,g2,he,hs⟩⟩
   rw [List.length_append,List.length_singleton] at hj
   rcases Nat.lt_or_ge j pre.length with h | h
   ·exact hs j h
   ·rw [show j = pre.length by omega]
    exact hne)
  obtain ⟨-,h0,h1,h2,hs⟩:=hIb
  have q0:=h2.cell 0 (v:=.int .i64 (f pre.length)) rfl
  have q1:=h0.cell 1 (v:=.int .i64 wk) rfl
  have HQ:=Lib.hid (fun W (hb:Below Wb.heap.size Wb W)=>show W.cell? ⟨fb,0,none⟩ = some (.int .i64 (f pre.length))∧W.cell? ⟨w.heap.size,1,none⟩ = some (.int .i64 wk) from ⟨(h2.below hb h2.lt).cell 0 rfl,(h0.below hb h0.lt).cell 1 rfl⟩)
  clear h0 h1 h2 hs HW qf HB5 HD5
  generalize f pre.length = z at *
  generalize weekV z = wz at *
  by_cases hw:wz = wk
  ·have HRES:=Lib.hid (fun W hb=>(HLF.out W hb).2 hw)
   clear HLF
   have hw':=hw.symm
   subst hw'
   gi_wp2
   refine wpIn_env (fin:=?fnT) (wide1 lp) (by kernel_rfl) [65,66,67,68,69]
    [.int .i64 z,.int .i64 wk,.pointer (some ⟨w.heap.size,1,none⟩),.int .i64 wk,.bool true] (by kernel_rfl) ?finT ?stepsT ?nextT
   case finT =>
    simp only [putAll,Act.put,List.setIfInBounds_toArray,List.set_cons_succ,List.set_cons_zero]
    rfl
   case stepsT =>
    refine ⟨?_,?_,?_,?_,?_,trivial⟩
    all_goals refine .inr ⟨by kernel_rfl,fun w1_ hB_=>?_⟩
    all_goals
     obtain ⟨c0,c1⟩:=HQ.out w1_ hB_
     clear hB_
     go_simp
     first
      | exact ⟨rfl,Below.refl _ _⟩
      | exact ⟨rfl,(HWK.out w1_).mono fun e w' h=>⟨h.1,by rw [h.2];exact Below.refl _ _⟩⟩
      | done
   case nextT =>
   intro w7 hb7
   have HR:=HRES.out w7 hb7
   clear hb7 HRES
   gi_wp2
   exact HR
  ·have HRES:=Lib.hid (fun W hb=>(HLF.out W hb).1 hw)
   have hw2:(wz == wk) = false:=by simpa using hw
   clear HLF
   gi_wp2
   refine wpIn_env (fin:=?fnF) (wide1 lp) (by kernel_rfl) [65,66,67,68,69]
    [.int .i64 z,.int .i64 wz,.pointer (some ⟨w.heap.size,1,none⟩),.int .i64 wk,.bool false] (by kernel_rfl) ?finF ?stepsF ?nextF
   case finF =>
    simp only [putAll,Act.put,List.setIfInBounds_toArray,List.set_cons_succ,List.set_cons_zero]
    rfl
   case stepsF =>
    refine ⟨?_,?_,?_,?_,?_,trivial⟩
    all_goals refine .inr ⟨by kernel_rfl,fun w1_ hB_=>?_⟩
    all_goals
     obtain ⟨c0,c1⟩:=HQ.out w1_ hB_
     clear hB_
     go_simp
     first
      | exact ⟨rfl,Below.refl _ _⟩
      | exact ⟨rfl,(HWK.out w1_).mono fun e w' h=>⟨h.1,by rw [h.2];exact Below.refl _ _⟩⟩
      | done
   case nextF =>
   intro w7 hb7
   have HR:=HRES.out w7 hb7
   clear hb7 HRES
   gi_wp2
   exact HR
 case stop =>
  rintro D c pre O W hD - ⟨rfl,⟨o0,o1,o2⟩,h0,h1,j,h2,hj,hjn⟩ hO hBO hOD hfr hK
  have hv:f j = inDay 2 wk n y m:=by
   obtain ⟨k,h1,h3,h4,h5⟩:=seek_spec (a:=a0) (st:=1) (wk:=wk) (by omega) hwk.1 hwk.2
   rcases Nat.lt_trichotomy j k with h | h | h
   ·exact absurd (by rw [HF.out] at hj;exact hj) (h5 j h)
   ·subst h
    rw [HF.out,← h3]
    have e:=HA.out
    unfold inDay
    simp
    rw [e]
   ·exact absurd (by rw [HF.out];exact h4) (hjn k h)
  have HV:=Lib.hid hv
  clear hv hj hjn
  have hsw:=hfr.size
  have hW:=HB5.out.1.trans (hfr.below hw5 (fun k hk h=>by rcases h with h | h <;> omega))
  have HBW:=Lib.hid hW
  have haW:Ahead W:=fun k hk=>by
   have h:=(ha.below HB5.out.1 (Nat.le_refl _)) k hk
   have hlt:=World.block_lt_of_cell? w _ (ha k hk)
   exact (hfr.cell (p:=⟨0,k,none⟩) (Nat.lt_of_lt_of_le hlt hw5) (fun h=>by rcases h with h | h <;> simp at h hlt <;> omega)).trans h
  have HOF:=Lib.hid (show Calls Tryz.prog 49 #[.int .i64 (f j)] W fun e w'=>e = .returned (.tuple #[ofA (f j),.int .i64 (ofE_ (f j))])∧Below W.heap.size W w' by
   unfold ofA ofE_ ofInB
   by_cases hin:-37243778 ≤ f j∧f j < 35805088
   ·simp only [hin,decide_true,if_true,and_self]
    exact of_any (f j) hin.1 hin.2 W haW
   ·simp only [hin,decide_false]
    exact of_out (f j) hin W)
  have q0:=h2.cell 0 (v:=.int .i64 (f j)) rfl
  obtain ⟨Y,M,D2,hofa⟩:∃ Y M D2,ofA (f j) = .agg #[.int .i64 Y,.int .i64 M,.int .i64 D2]:=by
   unfold ofA dateA
   split <;> exact ⟨_,_,_,rfl⟩
  rw [hofa] at HOF
  have HOA:=Lib.hid hofa
  obtain ⟨E,hE⟩:∃ E,ofE_ (f j) = E:=⟨_,rfl⟩
  rw [hE] at HOF
  have HE:=Lib.hid hE
  have H1:=Lib.hid h1
  have HK:=Lib.hid hK
  have hDW:D < W.heap.size:=(Array.getElem?_eq_some_iff.1 hK).1
  clear hofa hE h0 h1 h2 haW hW hfr hK HB5 HD5 hO hBO
  generalize f j = z at *
  gi_wp2
  refine ⟨trivial,(callsIn_wide.2 HOF.out).mono ?_⟩
  rintro e W6 ⟨rfl,hb6⟩
  have h6:=H1.out.below hb6 H1.out.lt
  have hK6:=(hb6.block D hDW).trans HK.out
  have HB6:=Lib.hid (HBW.out.trans (hb6.mono HBW.out.size))
  have r0:=h6.cell 0 (v:=.int .i64 0) rfl
  have r1:=h6.cell 1 (v:=.int .i64 0) rfl
  have r2:=h6.cell 2 (v:=.int .i64 0) rfl
  have g0:=h6.frozen 0
  have g1:=h6.frozen 1
  have g2:=h6.frozen 2
  have HR:=Lib.hid (((h6.set 0 (.int .i64 Y)).set 1 (.int .i64 M)).set 2 (.int .i64 D2))
  have HKD:=Lib.hid (show (((W6.setCell ⟨w.heap.size + 1,0,none⟩ (.int .i64 Y)).setCell ⟨w.heap.size + 1,1,none⟩ (.int .i64 M)).setCell ⟨w.heap.size + 1,2,none⟩ (.int .i64 D2)).heap[D]? = some (.deferred (some [])) from (fr_set3 (T:=fun k=>k = w.heap.size + 1) W6 rfl _ _ _).at_ hK6 (by omega))
  have HBL:=Lib.hid (below_set3 HB6.out (show w.heap.size ≤ w.heap.size + 1 by omega) (.int .i64 Y) (.int .i64 M) (.int .i64 D2))
  clear hb6 h6 hK6 HOF HK q0
  gi_wp2
  refine ⟨by simp,.inl ⟨_,_,rfl,run_takeDeferred HKD.out,?_⟩⟩
  have hres:Blk ((((W6.setCell ⟨w.heap.size + 1,0,none⟩ (.int .i64 Y)).setCell ⟨w.heap.size + 1,1,none⟩ (.int .i64 M)).setCell ⟨w.heap.size + 1,2,none⟩ (.int .i64 D2)).putObj D (.deferred none)) (w.heap.size + 1) 44 #[.int .i64 Y,.int .i64 M,.int .i64 D2]:=(World.putObj_heap_other (by omega)).trans HR.out
  have c0:=hres.cell 0 (v:=.int .i64 Y) rfl
  have c1:=hres.cell 1 (v:=.int .i64 M) rfl
  have c2:=hres.cell 2 (v:=.int .i64 D2) rfl
  refine ⟨.tuple #[.agg #[.int .i64 Y,.int .i64 M,.int .i64 D2],.int .i64 E],?_,⟨by rw [← HV.out,HOA.out,HE.out],fin_below HBL.out (by omega)⟩⟩
  simp [results,Tryz.f122,go_sem,c0,c1,c2]
 case done =>
  rintro D xs O W hD hS ⟨-,-,-,-,hs⟩
  exfalso
  obtain ⟨k,h1,-,h2,-⟩:=seek_spec (a:=a0) (st:=1) (wk:=wk) (by omega) (by omega) (by omega)
  exact hs k (by rw [hS];exact h1) (by rw [HF.out];exact h2)
theorem in_great (wk n y m:Int) (w:World) (ha:Ahead w) (h:inB 3 wk n y m = true) :
  Calls Tryz.prog 122 #[dayA 3 wk n,.int .i64 y,.int .i64 m] w fun e w'=>e = .returned (.tuple #[ofA (inDay 3 wk n y m),.int .i64 (ofE_ (inDay 3 wk n y m))])∧Below w.heap.size w w':=by
 unfold inB at h
 simp only [Bool.and_eq_true,decide_eq_true_eq] at h
 obtain ⟨⟨hok,hym⟩,hnl⟩:=h
 have hwk:0 ≤ wk∧wk < 7:=by
  have h:=hok
  unfold dayOkB at h
  rw [decide_eq_true_eq] at h
  omega
 have HL0:=show longV y m = (lenV y m,0) by unfold longV;rw [if_pos hym]
 unfold dayA
 refine (callsIn_wide (n:=8)).1 ?_
 refine callsIn_of_wp_marks Tryz.func122 rfl trivial ?_ rfl
 simp only [Tryz.ntmps122,List.size_toArray,List.length_cons,List.length_nil,Nat.reduceAdd,Nat.reduceSub,Array.replicate_succ,Array.replicate_zero,List.push_toArray,List.append_toArray,List.nil_append,List.cons_append]
 gi_wp2
 obtain ⟨W0,hW0⟩:∃ W,(w.alloc (.cells #[.int .i64 3,.int .i64 wk,.int .i64 n] 36)).alloc (.cells #[.int .i64 0,.int .i64 0,.int .i64 0] 44) = W:=⟨_,rfl⟩
 obtain ⟨b0,b1,hb0,hs0⟩:=blks2 w _ _ _ _ W0 hW0
 rw [hW0]
 clear hW0
 have HC:=Lib.hid (dfcheck_any 3 wk n W0)
 rw [if_pos hok] at HC
 have HB0:=Lib.hid (And.intro hb0 (And.intro b0 b1))
 have q0:=b0.cell 0 (v:=.int .i64 3) rfl
 have q1:=b0.cell 1 (v:=.int .i64 wk) rfl
 have q2:=b0.cell 2 (v:=.int .i64 n) rfl
 clear hb0 b0 b1
 unfold dayA at HC
 refine wpIn_scope ?_
 gi_wp2
 refine ⟨trivial,(callsIn_wide.2 HC.out).mono ?_⟩
 rintro e w1 ⟨rfl,hb⟩
 have HB1:=Lib.hid (show Below w.heap.size w w1∧Blk w1 w.heap.size 36 #[.int .i64 3,.int .i64 wk,.int .i64 n]∧Blk w1 (w.heap.size + 1) 44 #[.int .i64 0,.int .i64 0,.int .i64 0] from ⟨HB0.out.1.trans (hb.mono HB0.out.1.size),HB0.out.2.1.below hb HB0.out.2.1.lt,HB0.out.2.2.below hb HB0.out.2.2.lt⟩)
 clear hb HB0 HC q0 q1 q2
 have HL:=Lib.hid (long_any y m w1 (ha.below HB1.out.1 (Nat.le_refl _)))
 rw [HL0] at HL
 gi_wp2
 refine ⟨trivial,(callsIn_wide.2 HL.out).mono ?_⟩
 rintro e w2 ⟨rfl,q,rfl⟩
 have HB2:=Lib.hid (show Below w.heap.size w (w1.drewN q)∧Blk (w1.drewN q) w.heap.size 36 #[.int .i64 3,.int .i64 wk,.int .i64 n]∧Blk (w1.drewN q) (w.heap.size + 1) 44 #[.int .i64 0,.int .i64 0,.int .i64 0] from ⟨below_drewN HB1.out.1 q,HB1.out.2.1.drewN q,HB1.out.2.2.drewN q⟩)
 obtain ⟨W2,hW2⟩:∃ W,w1.drewN q = W:=⟨_,rfl⟩
 rw [hW2] at HB2 ⊢
 clear hW2 HL HB1
 have q0:=HB2.out.2.1.cell 0 (v:=.int .i64 3) rfl
 have q1:=HB2.out.2.1.cell 1 (v:=.int .i64 wk) rfl
 have q2:=HB2.out.2.1.cell 2 (v:=.int .i64 n) rfl
 have HD:=Lib.hid (days_any y m (n) W2 (ha.below HB2.out.1 (Nat.le_refl _)))
 have hdb:dateB y m (n) = true:=by
  unfold dateB
  rw [hym]
  unfold dayOkB at hok
  simp only [decide_eq_true_eq] at hok
  have hlen:=lenV_in (y:=y) (m:=m) (by unfold ymB at hym;rw [decide_eq_true_eq] at hym;exact hym.2.2.1) (by unfold ymB at hym;rw [decide_eq_true_eq] at hym;exact hym.2.2.2)
  simp
  omega
 rw [if_pos hdb] at HD
 have hdr:=dayV_in hdb
 obtain ⟨a0,ha0⟩:∃ a0,dayV y m (n) = a0:=⟨_,rfl⟩
 rw [ha0] at HD hdr
 have HA:=Lib.hid ha0
 clear ha0
 unfold dateA at HD
 gi_wp2
 refine ⟨trivial,(callsIn_wide.2 HD.out).mono ?_⟩
 rintro e w3 ⟨rfl,hb⟩
 have HB3:=Lib.hid (show Below w.heap.size w w3∧Blk w3 w.heap.size 36 #[.int .i64 3,.int .i64 wk,.int .i64 n]∧Blk w3 (w.heap.size + 1) 44 #[.int .i64 0,.int .i64 0,.int .i64 0] from ⟨HB2.out.1.trans (hb.mono HB2.out.1.size),HB2.out.2.1.below hb HB2.out.2.1.lt,HB2.out.2.2.below hb HB2.out.2.2.lt⟩)
 clear hb HB2 HD q0 q1 q2
 gi_wp2
 refine wpIn_label ?_
 have hsz:=HB3.out.2.2.lt
 have hb4:Below w.heap.size w (w3.alloc (.cells #[.int .i64 a0] 3)):=HB3.out.1.alloc HB3.out.1.size _
 have hf4:=Blk.new w3 3 #[.int .i64 a0]
 have HB4:=Lib.hid (show Below w.heap.size w (w3.alloc (.cells #[.int .i64 a0] 3))∧Blk (w3.alloc (.cells #[.int .i64 a0] 3)) w.heap.size 36 #[.int .i64 3,.int .i64 wk,.int .i64 n]∧Blk (w3.alloc (.cells #[.int .i64 a0] 3)) (w.heap.size + 1) 44 #[.int .i64 0,.int .i64 0,.int .i64 0]∧Blk (w3.alloc (.cells #[.int .i64 a0] 3)) w3.heap.size 3 #[.int .i64 a0] from ⟨hb4,HB3.out.2.1.alloc _,HB3.out.2.2.alloc _,hf4⟩)
 obtain ⟨W4,hW4⟩:∃ W,w3.alloc (.cells #[.int .i64 a0] 3) = W:=⟨_,rfl⟩
 rw [hW4] at HB4 ⊢
 have hs4:w3.heap.size < W4.heap.size:=by rw [← hW4];simp
 generalize w3.heap.size = fb at *
 clear hW4 hb4 hf4 HB3
 have HFM:=Lib.hid (from_any a0 (-1) W4)
 obtain ⟨f,hf⟩:∃ f:Nat→Int,∀ k,f k = a0 + (-1) * (k:Int):=⟨fun k=>a0 + (-1) * (k:Int),fun _=>rfl⟩
 have HF:=Lib.hid hf
 have hf0:f 0 = a0:=by rw [hf];simp
 have HF0:=Lib.hid hf0
 clear hf hf0
 gi_wp2
 refine ⟨trivial,(callsIn_wide.2 HFM.out).mono ?_⟩
 rintro e W5 ⟨rfl,hb5,hs5,hd5,hst5⟩
 have HB5:=Lib.hid (show Below w.heap.size w W5∧SeekI w.heap.size fb 3 wk n f [] (fun k=>k = w.heap.size∨k = w.heap.size + 1∨k = fb) W5 from ⟨HB4.out.1.trans (hb5.mono HB4.out.1.size),⟨.inl rfl,.inr (.inl rfl),.inr (.inr rfl)⟩,HB4.out.2.1.below hb5 HB4.out.2.1.lt,HB4.out.2.2.1.below hb5 HB4.out.2.2.1.lt,⟨a0,HB4.out.2.2.2.below hb5 HB4.out.2.2.2.lt⟩,fun j hj=>by simp at hj⟩)
 have HD5:=Lib.hid (And.intro hd5 hst5)
 have hw5:=HB5.out.1.size
 clear hb5 HB4 HFM hd5 hst5
 gi_wp2
 refine range_own_set (α:=Nat) rfl (by omega) (gf:=176) (lb:=#[.pointer (some ⟨W4.heap.size,0,none⟩),.pointer (some ⟨W4.heap.size + 1,0,none⟩)]) rfl trivial (enters_of Tryz.func176 (by kernel_rfl) rfl)
  (encs:=encD f) (K:=fun k=>k = W4.heap.size∨k = W4.heap.size + 1)
  (fun W hW=>from1_iter 7 (by omega) _ _ f (-1) W (fun k=>by rw [HF.out,HF.out];omega) (fun k hk=>by rw [HF.out];omega) (by omega) (by rw [HF0.out];exact HD5.out.1.below hW HD5.out.1.lt) (HD5.out.2.below hW HD5.out.2.lt) (by omega))
  (fun _=>rfl) (SeekI w.heap.size fb 3 wk n f) (SeekX w.heap.size fb 3 wk n f) (seekI_feet _ _ _ _ _ _) (seekX_feet _ _ _ _ _ _) (SeekP w.heap.size fb 3 wk n f) (seekP_feet _ _ _ _ _ _)
  (fun k=>k = w.heap.size∨k = w.heap.size + 1∨k = fb) HB5.out.2 (fun k hk=>by omega) (fun k hk=>by omega) (fun k hk h=>by omega) ?round ?done ?stop
 case round =>
  intro lp pre x O D W hI hBO hBD hDO hR nOl nDl hlow hltl
  obtain ⟨hnD,rfl,hx7⟩:=hR
  unfold encD
  obtain ⟨⟨o0,o1,o2⟩,h0,h1,⟨v,h2⟩,hs⟩:=hI
  have q0:=h2.cell 0 (v:=.int .i64 v) rfl
  have qf:=h2.frozen 0
  have HW:=Lib.hid (show (Fr O W (W.setCell ⟨fb,0,none⟩ (.int .i64 (f pre.length)))∧SeekP w.heap.size fb 3 wk n f pre pre.length O (W.setCell ⟨fb,0,none⟩ (.int .i64 (f pre.length))))∧Bd O W from ⟨⟨Fr.setCell W 0 _ o2,⟨o0,o1,o2⟩,h0.other (by omega) 0 _,h1.other (by omega) 0 _,h2.set 0 _,hs⟩,hBO⟩)
  clear h0 h1 h2 hs hBO hBD hDO
  gi_wp2
  refine ⟨HW.out.1,?_⟩
  intro Wb hfb hIb _
  have HBW:=Lib.hid ((HW.out.2.fr HW.out.1.1).fr hfb)
  have HIB:=Lib.hid hIb
  have HWK:=Lib.hid (fun W=>weekday_any (f pre.length) W)
  have HZ:=Lib.hid (show leftO (SeekI w.heap.size fb 3 wk n f) (SeekX w.heap.size fb 3 wk n f) (pre ++ [pre.length]) O D Wb = leftO (SeekI w.heap.size fb 3 wk n f) (SeekX w.heap.size fb 3 wk n f) (pre ++ [pre.length]) O D Wb from rfl)
  have HLF:=Lib.hid (show ∀ W,Below Wb.heap.size Wb W→(weekV (f pre.length) ≠ wk→leftO (SeekI w.heap.size fb 3 wk n f) (SeekX w.heap.size fb 3 wk n f) (pre ++ [pre.length]) O D Wb .normal ⟨#[],[]⟩ W)∧(weekV (f pre.length) = wk→leftO (SeekI w.heap.size fb 3 wk n f) (SeekX w.heap.size fb 3 wk n f) (pre ++ [pre.length]) O D Wb (.exit 1) ⟨#[],[]⟩ W) from fun W hbW=>by
   obtain ⟨oo,h0,h1,h2,hs⟩:=HIB.out
   have g0:=h0.below hbW h0.lt
   have g1:=h1.below hbW h1.lt
   have g2:=h2.below hbW h2.lt
   have hF:∀ T,Fr T Wb W:=fun T=>Fr.of_below hbW (Nat.le_refl _)
   refine ⟨fun hne=>⟨O,fun k h=>.inl h,HBW.out.fr (hF (fun _=>True)),hF _,oo,g0,g1,⟨_,g2⟩,fun j hj=>?_⟩,fun he=>⟨O,fun k h=>.inl h,HBW.out.fr (hF (fun _=>True)),hF _,rfl,oo,g0,g1,pre.length,g2,he,hs⟩⟩
   rw [List.length_append,List.length_singleton] at hj
   rcases Nat.lt_or_ge j pre.length with h | h
   ·exact hs j h
   ·rw [show j = pre.length by omega]
    exact hne)
  obtain ⟨-,h0,h1,h2,hs⟩:=hIb
  have q0:=h2.cell 0 (v:=.int .i64 (f pre.length)) rfl
  have q1:=h0.cell 1 (v:=.int .i64 wk) rfl
  have HQ:=Lib.hid (fun W (hb:Below Wb.heap.size Wb W)=>show W.cell? ⟨fb,0,none⟩ = some (.int .i64 (f pre.length))∧W.cell? ⟨w.heap.size,1,none⟩ = some (.int .i64 wk) from ⟨(h2.below hb h2.lt).cell 0 rfl,(h0.below hb h0.lt).cell 1 rfl⟩)
  clear h0 h1 h2 hs HW qf HB5 HD5
  generalize f pre.length = z at *
  generalize weekV z = wz at *
  by_cases hw:wz = wk
  ·have HRES:=Lib.hid (fun W hb=>(HLF.out W hb).2 hw)
   clear HLF
   have hw':=hw.symm
   subst hw'
   gi_wp2
   refine wpIn_env (fin:=?fnT) (wide1 lp) (by kernel_rfl) [65,66,67,68,69]
    [.int .i64 z,.int .i64 wk,.pointer (some ⟨w.heap.size,1,none⟩),.int .i64 wk,.bool true] (by kernel_rfl) ?finT ?stepsT ?nextT
   case finT =>
    simp only [putAll,Act.put,List.setIfInBounds_toArray,List.set_cons_succ,List.set_cons_zero]
    rfl
   case stepsT =>
    refine ⟨?_,?_,?_,?_,?_,trivial⟩
    all_goals refine .inr ⟨by kernel_rfl,fun w1_ hB_=>?_⟩
    all_goals
     obtain ⟨c0,c1⟩:=HQ.out w1_ hB_
     clear hB_
     go_simp
     first
      | exact ⟨rfl,Below.refl _ _⟩
      | exact ⟨rfl,(HWK.out w1_).mono fun e w' h=>⟨h.1,by rw [h.2];exact Below.refl _ _⟩⟩
      | done
   case nextT =>
   intro w7 hb7
   have HR:=HRES.out w7 hb7
   clear hb7 HRES
   gi_wp2
   exact HR
  ·have HRES:=Lib.hid (fun W hb=>(HLF.out W hb).1 hw)
   have hw2:(wz == wk) = false:=by simpa using hw
   clear HLF
   gi_wp2
   refine wpIn_env (fin:=?fnF) (wide1 lp) (by kernel_rfl) [65,66,67,68,69]
    [.int .i64 z,.int .i64 wz,.pointer (some ⟨w.heap.size,1,none⟩),.int .i64 wk,.bool false] (by kernel_rfl) ?finF ?stepsF ?nextF
   case finF =>
    simp only [putAll,Act.put,List.setIfInBounds_toArray,List.set_cons_succ,List.set_cons_zero]
    rfl
   case stepsF =>
    refine ⟨?_,?_,?_,?_,?_,trivial⟩
    all_goals refine .inr ⟨by kernel_rfl,fun w1_ hB_=>?_⟩
    all_goals
     obtain ⟨c0,c1⟩:=HQ.out w1_ hB_
     clear hB_
     go_simp
     first
      | exact ⟨rfl,Below.refl _ _⟩
      | exact ⟨rfl,(HWK.out w1_).mono fun e w' h=>⟨h.1,by rw [h.2];exact Below.refl _ _⟩⟩
      | done
   case nextF =>
   intro w7 hb7
   have HR:=HRES.out w7 hb7
   clear hb7 HRES
   gi_wp2
   exact HR
 case stop =>
  rintro D c pre O W hD - ⟨rfl,⟨o0,o1,o2⟩,h0,h1,j,h2,hj,hjn⟩ hO hBO hOD hfr hK
  have hv:f j = inDay 3 wk n y m:=by
   obtain ⟨k,h1,h3,h4,h5⟩:=seek_spec (a:=a0) (st:=-1) (wk:=wk) (by omega) hwk.1 hwk.2
   rcases Nat.lt_trichotomy j k with h | h | h
   ·exact absurd (by rw [HF.out] at hj;exact hj) (h5 j h)
   ·subst h
    rw [HF.out,← h3]
    have e:=HA.out
    unfold inDay
    simp
    rw [e]
   ·exact absurd (by rw [HF.out];exact h4) (hjn k h)
  have HV:=Lib.hid hv
  clear hv hj hjn
  have hsw:=hfr.size
  have hW:=HB5.out.1.trans (hfr.below hw5 (fun k hk h=>by rcases h with h | h <;> omega))
  have HBW:=Lib.hid hW
  have haW:Ahead W:=fun k hk=>by
   have h:=(ha.below HB5.out.1 (Nat.le_refl _)) k hk
   have hlt:=World.block_lt_of_cell? w _ (ha k hk)
   exact (hfr.cell (p:=⟨0,k,none⟩) (Nat.lt_of_lt_of_le hlt hw5) (fun h=>by rcases h with h | h <;> simp at h hlt <;> omega)).trans h
  have HOF:=Lib.hid (show Calls Tryz.prog 49 #[.int .i64 (f j)] W fun e w'=>e = .returned (.tuple #[ofA (f j),.int .i64 (ofE_ (f j))])∧Below W.heap.size W w' by
   unfold ofA ofE_ ofInB
   by_cases hin:-37243778 ≤ f j∧f j < 35805088
   ·simp only [hin,decide_true,if_true,and_self]
    exact of_any (f j) hin.1 hin.2 W haW
   ·simp only [hin,decide_false]
    exact of_out (f j) hin W)
  have q0:=h2.cell 0 (v:=.int .i64 (f j)) rfl
  obtain ⟨Y,M,D2,hofa⟩:∃ Y M D2,ofA (f j) = .agg #[.int .i64 Y,.int .i64 M,.int .i64 D2]:=by
   unfold ofA dateA
   split <;> exact ⟨_,_,_,rfl⟩
  rw [hofa] at HOF
  have HOA:=Lib.hid hofa
  obtain ⟨E,hE⟩:∃ E,ofE_ (f j) = E:=⟨_,rfl⟩
  rw [hE] at HOF
  have HE:=Lib.hid hE
  have H1:=Lib.hid h1
  have HK:=Lib.hid hK
  have hDW:D < W.heap.size:=(Array.getElem?_eq_some_iff.1 hK).1
  clear hofa hE h0 h1 h2 haW hW hfr hK HB5 HD5 hO hBO
  generalize f j = z at *
  gi_wp2
  refine ⟨trivial,(callsIn_wide.2 HOF.out).mono ?_⟩
  rintro e W6 ⟨rfl,hb6⟩
  have h6:=H1.out.below hb6 H1.out.lt
  have hK6:=(hb6.block D hDW).trans HK.out
  have HB6:=Lib.hid (HBW.out.trans (hb6.mono HBW.out.size))
  have r0:=h6.cell 0 (v:=.int .i64 0) rfl
  have r1:=h6.cell 1 (v:=.int .i64 0) rfl
  have r2:=h6.cell 2 (v:=.int .i64 0) rfl
  have g0:=h6.frozen 0
  have g1:=h6.frozen 1
  have g2:=h6.frozen 2
  have HR:=Lib.hid (((h6.set 0 (.int .i64 Y)).set 1 (.int .i64 M)).set 2 (.int .i64 D2))
  have HKD:=Lib.hid (show (((W6.setCell ⟨w.heap.size + 1,0,none⟩ (.int .i64 Y)).setCell ⟨w.heap.size + 1,1,none⟩ (.int .i64 M)).setCell ⟨w.heap.size + 1,2,none⟩ (.int .i64 D2)).heap[D]? = some (.deferred (some [])) from (fr_set3 (T:=fun k=>k = w.heap.size + 1) W6 rfl _ _ _).at_ hK6 (by omega))
  have HBL:=Lib.hid (below_set3 HB6.out (show w.heap.size ≤ w.heap.size + 1 by omega) (.int .i64 Y) (.int .i64 M) (.int .i64 D2))
  clear hb6 h6 hK6 HOF HK q0
  gi_wp2
  refine ⟨by simp,.inl ⟨_,_,rfl,run_takeDeferred HKD.out,?_⟩⟩
  have hres:Blk ((((W6.setCell ⟨w.heap.size + 1,0,none⟩ (.int .i64 Y)).setCell ⟨w.heap.size + 1,1,none⟩ (.int .i64 M)).setCell ⟨w.heap.size + 1,2,none⟩ (.int .i64 D2)).putObj D (.deferred none)) (w.heap.size + 1) 44 #[.int .i64 Y,.int .i64 M,.int .i64 D2]:=(World.putObj_heap_other (by omega)).trans HR.out
  have c0:=hres.cell 0 (v:=.int .i64 Y) rfl
  have c1:=hres.cell 1 (v:=.int .i64 M) rfl
  have c2:=hres.cell 2 (v:=.int .i64 D2) rfl
  refine ⟨.tuple #[.agg #[.int .i64 Y,.int .i64 M,.int .i64 D2],.int .i64 E],?_,⟨by rw [← HV.out,HOA.out,HE.out],fin_below HBL.out (by omega)⟩⟩
  simp [results,Tryz.f122,go_sem,c0,c1,c2]
 case done =>
  rintro D xs O W hD hS ⟨-,-,-,-,hs⟩
  exfalso
  obtain ⟨k,h1,-,h2,-⟩:=seek_spec (a:=a0) (st:=-1) (wk:=wk) (by omega) (by omega) (by omega)
  exact hs k (by rw [hS];exact h1) (by rw [HF.out];exact h2)
def inA (k wk n y m:Int):Value:=if inB k wk n y m then (if k = 0 then dateA y m n else ofA (inDay k wk n y m)) else dateA 0 0 0
def inE (k wk n y m:Int):Int:=if inB k wk n y m then (if k = 0 then 0 else ofE_ (inDay k wk n y m)) else 10
end
section -- CivilG
open Go Go.RowKit Go.Shelf
theorem in_any (k wk n y m:Int) (w:World) (ha:Ahead w) :
  Calls Tryz.prog 122 #[dayA k wk n,.int .i64 y,.int .i64 m] w fun e w'=>e = .returned (.tuple #[inA k wk n y m,.int .i64 (inE k wk n y m)])∧Below w.heap.size w w':=by
 have HB0:=Lib.hid (show Below w.heap.size w ((w.alloc (.cells #[.int .i64 k,.int .i64 wk,.int .i64 n] 36)).alloc (.cells #[.int .i64 0,.int .i64 0,.int .i64 0] 44)) from ((Below.refl _ _).alloc (Nat.le_refl _) _).alloc (by simp) _)
 have b0:=(Blk.new w 36 #[.int .i64 k,.int .i64 wk,.int .i64 n]).alloc (.cells #[.int .i64 0,.int .i64 0,.int .i64 0] 44)
 have b1:=Blk.new (w.alloc (.cells #[.int .i64 k,.int .i64 wk,.int .i64 n] 36)) 44 #[.int .i64 0,.int .i64 0,.int .i64 0]
 rw [World.size_alloc] at b1
 have q0:=b0.cell 0 (v:=.int .i64 k) rfl
 have q1:=b0.cell 1 (v:=.int .i64 wk) rfl
 have q2:=b0.cell 2 (v:=.int .i64 n) rfl
 have HI:=Lib.hid (And.intro b0 b1)
 clear b0 b1
 have HC:=Lib.hid (dfcheck_any k wk n ((w.alloc (.cells #[.int .i64 k,.int .i64 wk,.int .i64 n] 36)).alloc (.cells #[.int .i64 0,.int .i64 0,.int .i64 0] 44)))
 cases hok:dayOkB k wk n with
 | false =>
   have e1:inA k wk n y m = dateA 0 0 0:=by unfold inA inB;rw [hok];rfl
   have e2:inE k wk n y m = 10:=by unfold inE inB;rw [hok];rfl
   rw [e1,e2]
   rw [hok] at HC
   simp only [Bool.false_eq_true,if_false] at HC
   unfold dayA at *
   clear hok e1 e2
   go_enter Tryz.func122,Tryz.ntmps122
   go_wp2_with fail
   go_step3
   go_wp2_with fail
   refine (HC.out).mono ?_
   rintro e w1 ⟨rfl,hb⟩
   have h1:=HI.out.2.below hb HI.out.2.lt
   have h0:=HI.out.1.below hb HI.out.1.lt
   have HB1:=Lib.hid (HB0.out.trans (hb.mono HB0.out.size))
   have r0:=h1.cell 0 (v:=.int .i64 0) rfl
   have r1:=h1.cell 1 (v:=.int .i64 0) rfl
   have r2:=h1.cell 2 (v:=.int .i64 0) rfl
   have g0:=h1.frozen 0
   have g1:=h1.frozen 1
   have g2:=h1.frozen 2
   have q0:=h0.cell 0 (v:=.int .i64 k) rfl
   have q2:=h0.cell 2 (v:=.int .i64 n) rfl
   have H1:=Lib.hid h1
   clear hb h0 h1 HC
   go_wp2_with fail
   have HW:=((H1.out.set 0 (.int .i64 0)).set 1 (.int .i64 0)).set 2 (.int .i64 0)
   try rw [Exit.noGoto_ret]
   have w0:=HW.cell 0 (v:=.int .i64 (0)) rfl
   have w1_:=HW.cell 1 (v:=.int .i64 (0)) rfl
   have w2_:=HW.cell 2 (v:=.int .i64 (0)) rfl
   refine bodyPost_ret (v:=.tuple #[dateA (0) (0) (0),.int .i64 (10)]) ?_ rfl ⟨rfl,below_set3 HB1.out (by omega) _ _ _⟩
   simp [results,Tryz.f122,go_sem,dateA,w0,w1_,w2_]
 | true =>
   have HOK:=Lib.hid hok
   rw [hok] at HC
   simp only [if_true] at HC
   cases hym:ymB y m with
   | false =>
     have e1:inA k wk n y m = dateA 0 0 0:=by unfold inA inB;rw [hok,hym];rfl
     have e2:inE k wk n y m = 10:=by unfold inE inB;rw [hok,hym];rfl
     have HLV:=Lib.hid (show longV y m = (0,10) by unfold longV;rw [hym];rfl)
     rw [e1,e2]
     unfold dayA at *
     clear hok hym e1 e2
     go_enter Tryz.func122,Tryz.ntmps122
     go_wp2_with fail
     go_step3
     go_wp2_with fail
     refine (HC.out).mono ?_
     rintro e w1 ⟨rfl,hb⟩
     have h1:=HI.out.2.below hb HI.out.2.lt
     have h0:=HI.out.1.below hb HI.out.1.lt
     have HB1:=Lib.hid (HB0.out.trans (hb.mono HB0.out.size))
     have r0:=h1.cell 0 (v:=.int .i64 0) rfl
     have r1:=h1.cell 1 (v:=.int .i64 0) rfl
     have r2:=h1.cell 2 (v:=.int .i64 0) rfl
     have g0:=h1.frozen 0
     have g1:=h1.frozen 1
     have g2:=h1.frozen 2
     have q0:=h0.cell 0 (v:=.int .i64 k) rfl
     have q2:=h0.cell 2 (v:=.int .i64 n) rfl
     have H1:=Lib.hid h1
     clear hb h0 h1 HC
     have HL:=Lib.hid (long_any y m w1 (ha.below HB1.out (Nat.le_refl _)))
     go_wp2_with fail
     refine (HL.out).mono ?_
     rintro e w2 ⟨rfl,q,rfl⟩
     rw [HLV.out]
     have q0:(w1.drewN q).cell? ⟨w.heap.size,0,none⟩ = some (.int .i64 k):=q0
     have q2:(w1.drewN q).cell? ⟨w.heap.size,2,none⟩ = some (.int .i64 n):=q2
     have r0:(w1.drewN q).cell? ⟨w.heap.size + 1,0,none⟩ = some (.int .i64 0):=r0
     have r1:(w1.drewN q).cell? ⟨w.heap.size + 1,1,none⟩ = some (.int .i64 0):=r1
     have r2:(w1.drewN q).cell? ⟨w.heap.size + 1,2,none⟩ = some (.int .i64 0):=r2
     have g0:(w1.drewN q).frozen? ⟨w.heap.size + 1,0,none⟩ = false:=g0
     have g1:(w1.drewN q).frozen? ⟨w.heap.size + 1,1,none⟩ = false:=g1
     have g2:(w1.drewN q).frozen? ⟨w.heap.size + 1,2,none⟩ = false:=g2
     have H2:=Lib.hid (H1.out.drewN q)
     have HB2:=Lib.hid (below_drewN HB1.out q)
     clear HL
     go_wp2_with fail
     have HW:=((H2.out.set 0 (.int .i64 0)).set 1 (.int .i64 0)).set 2 (.int .i64 0)
     try rw [Exit.noGoto_ret]
     have w0:=HW.cell 0 (v:=.int .i64 (0)) rfl
     have w1_:=HW.cell 1 (v:=.int .i64 (0)) rfl
     have w2_:=HW.cell 2 (v:=.int .i64 (0)) rfl
     refine bodyPost_ret (v:=.tuple #[dateA (0) (0) (0),.int .i64 (10)]) ?_ rfl ⟨rfl,below_set3 HB2.out (by omega) _ _ _⟩
     simp [results,Tryz.f122,go_sem,dateA,w0,w1_,w2_]
   | true =>
     have HLV:=Lib.hid (show longV y m = (lenV y m,0) by unfold longV;rw [hym];rfl)
     by_cases hn:n ≤ lenV y m
     ·by_cases h0:k = 0
      ·have e1:inA k wk n y m = dateA y m n:=by unfold inA inB;rw [hok,hym,decide_eq_true hn];simp [h0]
       have e2:inE k wk n y m = 0:=by unfold inE inB;rw [hok,hym,decide_eq_true hn];simp [h0]
       rw [e1,e2]
       subst h0
       unfold dayA at *
       clear hok hym e1 e2
       generalize lenV y m = l at *
       go_enter Tryz.func122,Tryz.ntmps122
       go_wp2_with fail
       go_step3
       go_wp2_with fail
       refine (HC.out).mono ?_
       rintro e w1 ⟨rfl,hb⟩
       have h1:=HI.out.2.below hb HI.out.2.lt
       have h0:=HI.out.1.below hb HI.out.1.lt
       have HB1:=Lib.hid (HB0.out.trans (hb.mono HB0.out.size))
       have r0:=h1.cell 0 (v:=.int .i64 0) rfl
       have r1:=h1.cell 1 (v:=.int .i64 0) rfl
       have r2:=h1.cell 2 (v:=.int .i64 0) rfl
       have g0:=h1.frozen 0
       have g1:=h1.frozen 1
       have g2:=h1.frozen 2
       have q0:=h0.cell 0 (v:=.int .i64 0) rfl
       have q2:=h0.cell 2 (v:=.int .i64 n) rfl
       have H1:=Lib.hid h1
       clear hb h0 h1 HC
       have HL:=Lib.hid (long_any y m w1 (ha.below HB1.out (Nat.le_refl _)))
       go_wp2_with fail
       refine (HL.out).mono ?_
       rintro e w2 ⟨rfl,q,rfl⟩
       rw [HLV.out]
       have q0:(w1.drewN q).cell? ⟨w.heap.size,0,none⟩ = some (.int .i64 0):=q0
       have q2:(w1.drewN q).cell? ⟨w.heap.size,2,none⟩ = some (.int .i64 n):=q2
       have r0:(w1.drewN q).cell? ⟨w.heap.size + 1,0,none⟩ = some (.int .i64 0):=r0
       have r1:(w1.drewN q).cell? ⟨w.heap.size + 1,1,none⟩ = some (.int .i64 0):=r1
       have r2:(w1.drewN q).cell? ⟨w.heap.size + 1,2,none⟩ = some (.int .i64 0):=r2
       have g0:(w1.drewN q).frozen? ⟨w.heap.size + 1,0,none⟩ = false:=g0
       have g1:(w1.drewN q).frozen? ⟨w.heap.size + 1,1,none⟩ = false:=g1
       have g2:(w1.drewN q).frozen? ⟨w.heap.size + 1,2,none⟩ = false:=g2
       have H2:=Lib.hid (H1.out.drewN q)
       have HB2:=Lib.hid (below_drewN HB1.out q)
       clear HL
       go_wp2_with fail
       have HW:=((H2.out.set 0 (.int .i64 y)).set 1 (.int .i64 m)).set 2 (.int .i64 n)
       try rw [Exit.noGoto_ret]
       have w0:=HW.cell 0 (v:=.int .i64 (y)) rfl
       have w1_:=HW.cell 1 (v:=.int .i64 (m)) rfl
       have w2_:=HW.cell 2 (v:=.int .i64 (n)) rfl
       refine bodyPost_ret (v:=.tuple #[dateA (y) (m) (n),.int .i64 (0)]) ?_ rfl ⟨rfl,below_set3 HB2.out (by omega) _ _ _⟩
       simp [results,Tryz.f122,go_sem,dateA,w0,w1_,w2_]
      ·have hB:inB k wk n y m = true:=by unfold inB;rw [hok,hym,decide_eq_true hn];rfl
       have e1:inA k wk n y m = ofA (inDay k wk n y m):=by unfold inA;rw [if_pos hB,if_neg h0]
       have e2:inE k wk n y m = ofE_ (inDay k wk n y m):=by unfold inE;rw [if_pos hB,if_neg h0]
       rw [e1,e2]
       have hk:k = 1∨k = 2∨k = 3:=by
        unfold dayOkB at hok
        rw [decide_eq_true_eq] at hok
        omega
       clear HI HB0 HC HOK HLV q0 q1 q2 e1 e2
       rcases hk with rfl | rfl | rfl
       ·exact in_last wk n y m w ha hB
       ·exact in_less wk n y m w ha hB
       ·exact in_great wk n y m w ha hB
     ·have e1:inA k wk n y m = dateA 0 0 0:=by unfold inA inB;rw [hok,hym,decide_eq_false hn];rfl
      have e2:inE k wk n y m = 10:=by unfold inE inB;rw [hok,hym,decide_eq_false hn];rfl
      rw [e1,e2]
      unfold dayA at *
      clear hok hym e1 e2
      generalize lenV y m = l at *
      go_enter Tryz.func122,Tryz.ntmps122
      go_wp2_with fail
      go_step3
      go_wp2_with fail
      refine (HC.out).mono ?_
      rintro e w1 ⟨rfl,hb⟩
      have h1:=HI.out.2.below hb HI.out.2.lt
      have h0:=HI.out.1.below hb HI.out.1.lt
      have HB1:=Lib.hid (HB0.out.trans (hb.mono HB0.out.size))
      have r0:=h1.cell 0 (v:=.int .i64 0) rfl
      have r1:=h1.cell 1 (v:=.int .i64 0) rfl
      have r2:=h1.cell 2 (v:=.int .i64 0) rfl
      have g0:=h1.frozen 0
      have g1:=h1.frozen 1
      have g2:=h1.frozen 2
      have q0:=h0.cell 0 (v:=.int .i64 k) rfl
      have q2:=h0.cell 2 (v:=.int .i64 n) rfl
      have H1:=Lib.hid h1
      clear hb h0 h1 HC
      have HL:=Lib.hid (long_any y m w1 (ha.below HB1.out (Nat.le_refl _)))
      go_wp2_with fail
      refine (HL.out).mono ?_
      rintro e w2 ⟨rfl,q,rfl⟩
      rw [HLV.out]
      have q0:(w1.drewN q).cell? ⟨w.heap.size,0,none⟩ = some (.int .i64 k):=q0
      have q2:(w1.drewN q).cell? ⟨w.heap.size,2,none⟩ = some (.int .i64 n):=q2
      have r0:(w1.drewN q).cell? ⟨w.heap.size + 1,0,none⟩ = some (.int .i64 0):=r0
      have r1:(w1.drewN q).cell? ⟨w.heap.size + 1,1,none⟩ = some (.int .i64 0):=r1
      have r2:(w1.drewN q).cell? ⟨w.heap.size + 1,2,none⟩ = some (.int .i64 0):=r2
      have g0:(w1.drewN q).frozen? ⟨w.heap.size + 1,0,none⟩ = false:=g0
      have g1:(w1.drewN q).frozen? ⟨w.heap.size + 1,1,none⟩ = false:=g1
      have g2:(w1.drewN q).frozen? ⟨w.heap.size + 1,2,none⟩ = false:=g2
      have H2:=Lib.hid (H1.out.drewN q)
      have HB2:=Lib.hid (below_drewN HB1.out q)
      clear HL
      go_wp2_with fail
      have HW:=((H2.out.set 0 (.int .i64 0)).set 1 (.int .i64 0)).set 2 (.int .i64 0)
      try rw [Exit.noGoto_ret]
      have w0:=HW.cell 0 (v:=.int .i64 (0)) rfl
      have w1_:=HW.cell 1 (v:=.int .i64 (0)) rfl
      have w2_:=HW.cell 2 (v:=.int .i64 (0)) rfl
      refine bodyPost_ret (v:=.tuple #[dateA (0) (0) (0),.int .i64 (10)]) ?_ rfl ⟨rfl,below_set3 HB2.out (by omega) _ _ _⟩
      simp [results,Tryz.f122,go_sem,dateA,w0,w1_,w2_]
def mayB (s:Int):Bool:=decide (-604800 < s∧s < 604800)
theorem may_any (s:Int) (w:World):Calls Tryz.prog 125 #[.int .i64 s] w fun e w'=>e = .returned (.bool (mayB s))∧w' = w:=by
 by_cases h1:-604800 < s
 ·by_cases h2:s < 604800
  ·have HV:=Lib.hid (show mayB s = true by unfold mayB;rw [decide_eq_true_eq];omega)
   go_enter Tryz.func125,Tryz.ntmps125
   go_wp2_with fail
   go_ret
   exact ⟨by rw [HV.out];rfl,rfl⟩
  ·have HV:=Lib.hid (show mayB s = false by unfold mayB;rw [decide_eq_false_iff_not];omega)
   have hd:decide (s < 604800) = false:=decide_eq_false h2
   go_enter Tryz.func125,Tryz.ntmps125
   go_wp2_with fail
   go_ret
   exact ⟨by rw [HV.out];rfl,rfl⟩
 ·have HV:=Lib.hid (show mayB s = false by unfold mayB;rw [decide_eq_false_iff_not];omega)
  have hd:decide (-604800 < s) = false:=decide_eq_false h1
  go_enter Tryz.func125,Tryz.ntmps125
  go_wp2_with fail
  go_ret
  exact ⟨by rw [HV.out];rfl,rfl⟩
theorem join_any (y m d s:Int) (w:World) (ha:Ahead w) :
  Calls Tryz.prog 92 #[dateA y m d,.int .i64 s] w fun e w'=>e = .returned (if dateB y m d && mayB s then .tuple #[.int .i64 (dayV y m d * 86400 + s),.int .i64 0] else .tuple #[.int .i64 0,.int .i64 10])∧Below w.heap.size w w':=by
 have HB0:=Lib.hid ((Below.refl w.heap.size w).alloc (Nat.le_refl _) (.cells #[.int .i64 y,.int .i64 m,.int .i64 d] 44))
 have HD:=Lib.hid (days_any y m d (w.alloc (.cells #[.int .i64 y,.int .i64 m,.int .i64 d] 44)) (ha.below HB0.out (Nat.le_refl _)))
 have HM:=Lib.hid (fun W=>may_any s W)
 unfold dateA at *
 cases h:dateB y m d with
 | false =>
   rw [h] at HD
   simp only [Bool.false_and,Bool.false_eq_true,if_false] at HD ⊢
   clear h
   go_enter Tryz.func92,Tryz.ntmps92
   go_wp2_with fail
   refine HD.out.mono ?_
   rintro e w1 ⟨rfl,hb⟩
   have HB1:=Lib.hid (HB0.out.trans (hb.mono HB0.out.size))
   clear hb
   go_wp2_with fail
   refine bodyPost_ret (v:=.tuple #[.int .i64 0,.int .i64 10]) ?_ rfl ⟨rfl,HB1.out⟩
   simp [results,Tryz.f92,go_sem]
 | true =>
   rw [h] at HD
   have hr:=dayV_in h
   simp only [Bool.true_and,if_true] at HD ⊢
   clear h
   generalize dayV y m d = v at *
   cases hs:mayB s with
   | false =>
     rw [hs] at HM
     simp only [Bool.false_eq_true,if_false]
     clear hs
     go_enter Tryz.func92,Tryz.ntmps92
     go_wp2_with fail
     refine HD.out.mono ?_
     rintro e w1 ⟨rfl,hb⟩
     have HB1:=Lib.hid (HB0.out.trans (hb.mono HB0.out.size))
     clear hb
     go_wp2_with fail
     refine (HM.out _).mono ?_
     rintro e w2 ⟨rfl,rfl⟩
     go_wp2_with fail
     refine bodyPost_ret (v:=.tuple #[.int .i64 0,.int .i64 10]) ?_ rfl ⟨rfl,HB1.out⟩
     simp [results,Tryz.f92,go_sem]
   | true =>
     rw [hs] at HM
     have hs2:=hs
     unfold mayB at hs2
     rw [decide_eq_true_eq] at hs2
     simp only [if_true]
     clear hs
     go_enter Tryz.func92,Tryz.ntmps92
     go_wp2_with fail
     refine HD.out.mono ?_
     rintro e w1 ⟨rfl,hb⟩
     have HB1:=Lib.hid (HB0.out.trans (hb.mono HB0.out.size))
     clear hb
     go_wp2_with fail
     refine (HM.out _).mono ?_
     rintro e w2 ⟨rfl,rfl⟩
     go_wp2_with fail
     refine bodyPost_ret (v:=.tuple #[.int .i64 (v * 86400 + s),.int .i64 0]) ?_ rfl ⟨rfl,HB1.out⟩
     simp [results,Tryz.f92,go_sem]
end
section -- Srt
section
variable {α:Type} (key:α→Int)
def Stab (xs ys:List α):Prop:=ys.Perm xs∧ys.Pairwise (fun a b=>key a ≤ key b)∧∀ k:Int,ys.filter (fun a=>decide (key a = k)) = xs.filter (fun a=>decide (key a = k))
variable {key}
theorem Stab.nil:Stab key ([]:List α) []:=⟨.nil,.nil,fun _=>rfl⟩
theorem Stab.one (x:α):Stab key [x] [x]:=⟨.refl _,by simp,fun _=>rfl⟩
theorem Stab.len {xs ys:List α} (h:Stab key xs ys):ys.length = xs.length:=h.1.length_eq
theorem Stab.put {xs A B:List α} {x:α} (h:Stab key xs (A ++ B)) (hA:∀ a ∈ A,key a ≤ key x) (hB:∀ b ∈ B,key x < key b):Stab key (xs ++ [x]) (A ++ x :: B):=by
 obtain ⟨h1,h2,h3⟩:=h
 refine ⟨?_,?_,fun k=>?_⟩
 ·refine List.perm_middle.trans ?_
  refine (List.Perm.cons x h1).trans ?_
  exact (List.perm_append_singleton x xs).symm
 ·rw [List.pairwise_append] at h2 ⊢
  refine ⟨h2.1,List.pairwise_cons.2 ⟨fun b hb=>Int.le_of_lt (hB b hb),h2.2.1⟩,fun a ha b hb=>?_⟩
  rcases List.mem_cons.1 hb with rfl | hb
  ·exact hA a ha
  ·exact h2.2.2 a ha b hb
 ·have h4:=h3 k
  rw [List.filter_append] at h4 ⊢
  rw [List.filter_append,← h4,List.filter_cons]
  by_cases hk:key x = k
  ·have hB0:B.filter (fun a=>decide (key a = k)) = []:=by
    rw [List.filter_eq_nil_iff]
    intro b hb
    have:=hB b hb
    simp only [decide_eq_true_eq]
    omega
   rw [hB0]
   simp [hk]
  ·simp [hk]
theorem stab_unique:∀ {ys zs:List α},ys.Pairwise (fun a b=>key a ≤ key b)→zs.Pairwise (fun a b=>key a ≤ key b)→(∀ k:Int,ys.filter (fun a=>decide (key a = k)) = zs.filter (fun a=>decide (key a = k)))→ys = zs
 | [],[],_,_,_=>rfl
 | [],z :: zs,_,_,h=>by
   have:=h (key z)
   simp at this
 | y :: ys,[],_,_,h=>by
   have:=h (key y)
   simp at this
 | y :: ys,z :: zs,h1,h2,h=>by
   have hyz:key y = key z:=by
    have a:key y ≤ key z:=by
     have:z ∈ (y :: ys).filter (fun a=>decide (key a = key z)):=by rw [h (key z)];simp
     have:=(List.mem_filter.1 this).1
     rcases List.mem_cons.1 this with e | e
     ·rw [e];exact Int.le_refl _
     ·exact (List.pairwise_cons.1 h1).1 z e
    have b:key z ≤ key y:=by
     have:y ∈ (z :: zs).filter (fun a=>decide (key a = key y)):=by rw [← h (key y)];simp
     have:=(List.mem_filter.1 this).1
     rcases List.mem_cons.1 this with e | e
     ·rw [e];exact Int.le_refl _
     ·exact (List.pairwise_cons.1 h2).1 y e
    omega
   have e:=h (key y)
   rw [List.filter_cons,List.filter_cons,if_pos (by simp),if_pos (by simp [hyz])] at e
   injection e with e1 e2
   subst e1
   congr 1
   refine stab_unique (List.pairwise_cons.1 h1).2 (List.pairwise_cons.1 h2).2 fun k=>?_
   have e:=h k
   rw [List.filter_cons,List.filter_cons] at e
   by_cases hk:key y = k
   ·rw [if_pos (by simp [hk]),if_pos (by simp [hk])] at e
    injection e
   ·rw [if_neg (by simp [hk]),if_neg (by simp [hk])] at e
    exact e
theorem Stab.unique {xs ys zs:List α} (h1:Stab key xs ys) (h2:Stab key xs zs):ys = zs:=stab_unique h1.2.1 h2.2.1 fun k=>(h1.2.2 k).trans (h2.2.2 k).symm
theorem take_le {L:List α} (hs:L.Pairwise (fun a b=>key a ≤ key b)) {s:Nat} (h:s < L.length):∀ l ∈ L.take (s + 1),key l ≤ key L[s]:=by
 intro l hl
 obtain ⟨i,hi,rfl⟩:=List.mem_take_iff_getElem.1 hl
 rcases Nat.lt_or_ge i s with h1 | h1
 ·exact List.pairwise_iff_getElem.1 hs i s (by omega) h h1
 ·have:i = s:=by omega
  subst this
  exact Int.le_refl _
end
end
section -- EnvW
open Go Go.RowKit
section
variable {P:Program} {n:Nat} {ops:Array Oper}
def envWB (ops:Array Oper) (D:List Nat) (s1 s2:Nat):Bool :=
 invB ops D && (List.range ops.size).all fun i=>match ops[i]? with
  | some o=>(match o.op with | .defer ..=>false | .select ..=>false | _=>true) && (if i = s1∨i = s2 then o.dst.isNone && o.guard.isNone else o.dst == some (D.getD i 0)) &&
    (o.looksAt ops).all fun s=>!D.contains s || (List.range i).any fun j=>D.getD j 0 == s && o.after.any fun e=>Region.binds .any e && e.on == j
  | none=>true
def aheadB (ops:Array Oper) (s1 s2 k:Nat):Bool:=depB ops s1 k && depB ops s2 k
def EnvWStep (P:Program) (ops:Array Oper) (fin:Act) (w0:World) (s1 s2 k:Nat) (o:Oper) (v:Value):Prop :=
 (k == s1 || k == s2) = true∨(Region.wanted o (yielded ops fin.tmps) = false∧v = undef)∨(Region.wanted o (yielded ops fin.tmps) = true∧∀ w,(aheadB ops s1 s2 k = true→w = w0)→(execOp fin.eval o).run P w = .ok (.value v) w)
def EnvWSteps (P:Program) (ops:Array Oper) (fin:Act) (w0:World) (s1 s2:Nat):Nat→List Oper→List Value→Prop
 | k,o :: l,v :: V=>EnvWStep P ops fin w0 s1 s2 k o v∧EnvWSteps P ops fin w0 s1 s2 (k + 1) l V
 | _,[],[]=>True
 | _,_,_=>False
theorem envWSteps_at {fin:Act} {w0:World} {s1 s2:Nat}:∀ {l:List Oper} {V:List Value} {k:Nat},EnvWSteps P ops fin w0 s1 s2 k l V→∀ {j:Nat} {o:Oper},l[j]? = some o→EnvWStep P ops fin w0 s1 s2 (k + j) o (V.getD j undef)
 | [],_,_,_,_,_,h=>by simp at h
 | _ :: _,[],_,hs,_,_,_=>hs.elim
 | x :: l,v :: V,k,hs,0,o,h=>by
   simp only [List.getElem?_cons_zero,Option.some.injEq] at h
   subst h
   exact hs.1
 | x :: l,v :: V,k,hs,j + 1,o,h=>by
   rw [List.getElem?_cons_succ] at h
   have:=envWSteps_at hs.2 h
   rw [show k + 1 + j = k + (j + 1) by omega] at this
   simpa using this
theorem envWSteps_len {fin:Act} {w0:World} {s1 s2:Nat}:∀ {l:List Oper} {V:List Value} {k:Nat},EnvWSteps P ops fin w0 s1 s2 k l V→V.length = l.length
 | [],[],_,_=>rfl
 | [],_ :: _,_,h=>h.elim
 | _ :: _,[],_,h=>h.elim
 | _ :: l,_ :: V,_,h=>by simp [envWSteps_len h.2]
theorem more_same (L:Nat→Bool) (k:Nat):more L k k = true:=by unfold more;rw [decide_eq_true rfl];rfl
def twoW (w0 wa wb wc wd:World):Bool→Bool→World→Prop
 | false,false,w=>w = w0
 | true,false,w=>w = wa
 | false,true,w=>w = wb
 | true,true,w=>w = wc∨w = wd
theorem wpIn_envW {F:Fence} (hF:Wide F) {id:Nat} {l:List Oper} {Q:Exit→Act→World→Prop} {a:Act} {w:World} (hm:P.follows .mixedOrders = true) (D:List Nat) (V:List Value) (s1 s2:Nat) (o1 o2:Oper) (wa wb wc wd:World)
  (hb:envWB l.toArray D s1 s2 = true) (hs1:l[s1]? = some o1) (hs2:l[s2]? = some o2) (hsz1:a.tmps.size ≤ D.getD s1 0) (hsz2:a.tmps.size ≤ D.getD s2 0) (hne:s1 ≠ s2) {fin:Act} (hfin:putAll a D V = fin)
  (hstep:EnvWSteps P l.toArray fin w.drew s1 s2 0 l V)
  (h1:(execOp fin.eval o1).run P w.drew = .ok .skip wa) (h2:(execOp fin.eval o2).run P w.drew = .ok .skip wb) (h12:(execOp fin.eval o2).run P wa = .ok .skip wc) (h21:(execOp fin.eval o1).run P wb = .ok .skip wd)
  (hend:∀ w',w' = wc∨w' = wd→Q .normal fin w'):(Code.region id l.toArray true).wpIn F n P Q a w:=by
 unfold envWB at hb
 rw [Bool.and_eq_true] at hb
 obtain ⟨hi,hb⟩:=hb
 have hi':=hi
 simp only [invB,Bool.and_eq_true,decide_eq_true_eq] at hi'
 obtain ⟨⟨-,hlen⟩,hnd⟩:=hi'
 have hV:V.length = D.length:=by rw [envWSteps_len hstep,hlen];simp
 have hfin:frameOf a D (valOf D V) = fin:=by
  rw [← hfin]
  exact putAll_eq D V a _ hV fun i hi=>by unfold valOf;rw [idxOf_getD hnd hi]
 refine wpIn_inv hm D (fun L x w'=>(∀ i,i < D.length→L i = true→x (D.getD i 0) = V.getD i undef)∧twoW w.drew wa wb wc wd (L s1) (L s2) w') hi (fun x=>⟨(fun i _ h=>by cases h),rfl⟩) ?_ ?_
 ·have main:∀ (i:Nat) (o:Oper),l[i]? = some o→StepI F n P l.toArray a D (fun L x w'=>(∀ i,i < D.length→L i = true→x (D.getD i 0) = V.getD i undef)∧twoW w.drew wa wb wc wd (L s1) (L s2) w') i o:=by
   intro k o hlk L x w1 R hI hsh hLk hr hR
   obtain ⟨hx,htw⟩:=hI
   have hkl:k < l.length:=(List.getElem?_eq_some_iff.1 hlk).1
   have ho:l.toArray[k]? = some o:=by simpa using hlk
   have hkD:k < D.length:=by rw [hlen];simpa using hkl
   have hst1:=envWSteps_at hstep hlk
   rw [Nat.zero_add] at hst1
   have hb1:=List.all_eq_true.1 hb k (List.mem_range.2 (by simpa using hkl))
   rw [ho] at hb1
   simp only [Bool.and_eq_true] at hb1
   obtain ⟨⟨hop,hdst⟩,hlook⟩:=hb1
   have hndf:∀ c,o.op ≠ .defer c:=fun c hc=>by rw [hc] at hop;cases hop
   have hnsl:∀ cs b,o.op ≠ .select cs b:=fun c b hc=>by rw [hc] at hop;cases hop
   have hsame:∀ s,s ∈ o.looksAt l.toArray→(frameOf a D x).tmps[s]? = fin.tmps[s]?:=by
    intro s hs
    rw [← hfin,frameOf_tmps,frameOf_tmps]
    by_cases hD:s ∈ D
    ·have:=List.all_eq_true.1 hlook s hs
     rw [Bool.or_eq_true] at this
     rcases this with h | h
     ·simp [hD] at h
     ·obtain ⟨j,hj,hj2⟩:=List.any_eq_true.1 h
      rw [Bool.and_eq_true] at hj2
      obtain ⟨hjs,hje⟩:=hj2
      have hjs:D.getD j 0 = s:=by simpa using hjs
      have hjk:=List.mem_range.1 hj
      have h1:=hx j (by omega) (hr j hje)
      rw [hjs] at h1
      have h2:x s = valOf D V s:=by
       have e:D.idxOf s = j:=by rw [← hjs];exact idxOf_getD hnd (by omega)
       unfold valOf
       rw [e]
       exact h1
      rw [h2]
    ·simp [hD]
   have hev:∀ y ∈ o.op.operands,(frameOf a D x).eval y = fin.eval y:=by
    intro y hy
    cases y with
    | tmp s =>
      have h1:=hsame s (List.mem_append_left _ (List.mem_filterMap.2 ⟨.tmp s,by simpa using hy,rfl⟩))
      show (frameOf a D x).tmps.getD s undef = fin.tmps.getD s undef
      simp only [Array.getD_eq_getD_getElem?,h1]
    | _=>rfl
   have hex:=execOp_congr (ρ:=(frameOf a D x).eval) (ρ':=fin.eval) o hnsl hev
   have hwa:Region.wanted o (yielded l.toArray (frameOf a D x).tmps) = Region.wanted o (yielded l.toArray fin.tmps):=by
    unfold Region.wanted
    cases hg:o.guard with
    | none=>rfl
    | some g =>
      obtain ⟨g,b⟩:=g
      dsimp only
      unfold yielded
      cases hd:(l.toArray[g]?).bind (·.dst) with
      | none=>rfl
      | some d =>
        have h1:=hsame d (List.mem_append_right _ (by rw [hg];show d ∈ ((l.toArray[g]?).bind (·.dst)).toList;rw [hd];simp))
        simp only [Option.bind_some,h1]
   have hmem:D.getD k 0 ∈ D:=by rw [List.getD_eq_getElem?_getD,List.getElem?_eq_getElem hkD];exact List.getElem_mem hkD
   have hnew:∀ w',twoW w.drew wa wb wc wd (more L k s1) (more L k s2) w' →
     ((∀ i,i < D.length→more L k i = true→upd x (D.getD k 0) (V.getD k undef) (D.getD i 0) = V.getD i undef)∧twoW w.drew wa wb wc wd (more L k s1) (more L k s2) w'):=by
    intro w' h1
    refine ⟨fun i hiD hm=>?_,h1⟩
    by_cases hik:i = k
    ·subst hik;rw [upd_same]
    ·have hne:D.getD i 0 ≠ D.getD k 0:=by
      rw [List.getD_eq_getElem?_getD,List.getD_eq_getElem?_getD,List.getElem?_eq_getElem hiD,List.getElem?_eq_getElem hkD]
      intro e
      simp only [Option.getD_some] at e
      have hpw:=List.pairwise_iff_getElem.1 hnd
      rcases Nat.lt_or_ge i k with h | h
      ·exact hpw i k hiD hkD h e
      ·exact hpw k i hkD hiD (by omega) e.symm
     rw [upd_other x _ hne]
     have:L i = true:=by
      unfold more at hm
      rw [decide_eq_false hik] at hm
      simpa using hm
     exact hx i hiD this
   have hkeep:∀ s,s ≠ k→more L k s = L s:=fun s hs=>by
    unfold more
    rw [decide_eq_false hs,Bool.false_or]
   unfold wpListIn
   rw [hwa]
   by_cases hks:k = s1∨k = s2
   ·rw [if_pos hks] at hdst
    simp only [Bool.and_eq_true] at hdst
    have hdn:o.dst = none:=by simpa using hdst.1
    have hgn:o.guard = none:=by simpa using hdst.2
    have hwt:Region.wanted o (yielded l.toArray fin.tmps) = true:=by unfold Region.wanted;rw [hgn]
    have hsz:a.tmps.size ≤ D.getD k 0:=by rcases hks with rfl | rfl <;> assumption
    have e:(frameOf a D x).put none undef = frameOf a D (upd x (D.getD k 0) (V.getD k undef)):=by
     show frameOf a D x = _
     have h1:(frameOf a D x).tmps = (frameOf a D (upd x (D.getD k 0) (V.getD k undef))).tmps:=by
      apply Array.ext_getElem?
      intro s
      rw [frameOf_tmps,frameOf_tmps]
      by_cases hs:s < a.tmps.size
      ·rw [upd_other x _ (show s ≠ D.getD k 0 by omega)]
      ·simp [hs]
     have h2:(frameOf a D x).defers = (frameOf a D (upd x (D.getD k 0) (V.getD k undef))).defers:=by rw [frameOf_defers,frameOf_defers]
     generalize frameOf a D x = p1 at h1 h2
     generalize frameOf a D (upd x (D.getD k 0) (V.getD k undef)) = q1 at h1 h2
     cases p1
     cases q1
     simp only at h1 h2
     subst h1 h2
     rfl
    rw [if_pos hwt]
    refine ⟨fun f _=>hF.fn f,?_⟩
    rw [Oper.semAt_plain F _ o hndf,hex]
    have hrun:∃ w',(execOp fin.eval o).run P w1 = .ok .skip w'∧twoW w.drew wa wb wc wd (more L k s1) (more L k s2) w':=by
     rcases hks with rfl | rfl
     ·obtain rfl:o = o1:=by rw [hlk] at hs1;exact Option.some.inj hs1
      rw [hkeep s2 (fun h=>hne h.symm),more_same]
      rw [hLk] at htw
      cases hL2:L s2 with
      | true=>rw [hL2] at htw;cases htw;exact ⟨_,h21,.inr rfl⟩
      | false=>rw [hL2] at htw;cases htw;exact ⟨_,h1,rfl⟩
     ·obtain rfl:o = o2:=by rw [hlk] at hs2;exact Option.some.inj hs2
      rw [hkeep s1 hne,more_same]
      rw [hLk] at htw
      cases hL2:L s1 with
      | true=>rw [hL2] at htw;cases htw;exact ⟨_,h12,.inl rfl⟩
      | false=>rw [hL2] at htw;cases htw;exact ⟨_,h2,rfl⟩
    obtain ⟨w',hr',htw'⟩:=hrun
    rw [hr',Oper.uponIn_skip,hdn,e]
    exact hR _ _ (hnew w' htw')
   ·rw [if_neg hks] at hdst
    have hput:∀ v,(frameOf a D x).put o.dst v = frameOf a D (upd x (D.getD k 0) v):=fun v=>by
     have hdst:o.dst = some (D.getD k 0):=by simpa using hdst
     rw [hdst]
     exact frameOf_put D x a _ hmem v
    have htw':twoW w.drew wa wb wc wd (more L k s1) (more L k s2) w1:=by
     rw [hkeep s1 (fun h=>hks (.inl h.symm)),hkeep s2 (fun h=>hks (.inr h.symm))]
     exact htw
    rcases hst1 with h0 | ⟨h1,h2⟩ | ⟨h1,h2⟩
    ·exact absurd (by simpa using h0) hks
    ·rw [if_neg (by rw [h1];simp)]
     refine ⟨fun f _=>hF.fn f,?_⟩
     rw [hput,← h2]
     exact hR _ _ (hnew w1 htw')
    ·rw [if_pos h1]
     refine ⟨fun f _=>hF.fn f,?_⟩
     rw [Oper.semAt_plain F _ o hndf,hex,h2 w1 (fun h=>by
      unfold aheadB at h
      rw [Bool.and_eq_true] at h
      have g1:L s1 = false:=by
       cases h3:L s1 with
       | false=>rfl
       | true=>rw [hsh s1 k h.1 h3] at hLk;cases hLk
      have g2:L s2 = false:=by
       cases h3:L s2 with
       | false=>rfl
       | true=>rw [hsh s2 k h.2 h3] at hLk;cases hLk
      rw [g1,g2] at htw
      exact htw),Oper.uponIn_value,hput]
     exact hR _ _ (hnew w1 htw')
  have all:∀ (m:List Oper) (k:Nat),(∀ j,m[j]? = l[k + j]?)→StepsI F n P l.toArray a D (fun L x w'=>(∀ i,i < D.length→L i = true→x (D.getD i 0) = V.getD i undef)∧twoW w.drew wa wb wc wd (L s1) (L s2) w') k m:=by
   intro m
   induction m with
   | nil=>intro k _;trivial
   | cons o m ih =>
     intro k hk
     exact ⟨main k o (by simpa using (hk 0).symm),ih (k + 1) fun j=>by have:=hk (j + 1);simpa [Nat.add_assoc,Nat.add_comm 1 j] using this⟩
  exact all l 0 fun j=>by simp
 ·rintro x w' L hL ⟨h2,h3⟩
  have e:frameOf a D x = fin:=by
   rw [← hfin]
   refine frameOf_congr D _ _ a fun s hs=>?_
   obtain ⟨j,hj,rfl⟩:=List.getElem_of_mem hs
   have h4:=h2 j hj (hL j (by omega))
   rw [List.getD_eq_getElem?_getD,List.getElem?_eq_getElem hj] at h4
   have h4:x D[j] = V.getD j undef:=h4
   unfold valOf
   rw [List.Nodup.idxOf_getElem hnd j hj]
   exact h4
  rw [e]
  have g1:=(List.getElem?_eq_some_iff.1 hs1).1
  have g2:=(List.getElem?_eq_some_iff.1 hs2).1
  rw [hL s1 (by simpa using g1),hL s2 (by simpa using g2)] at h3
  exact hend _ h3
theorem wp_envW {id:Nat} {l:List Oper} {Q:Exit→Act→World→Prop} {a:Act} {w:World} (hm:P.follows .mixedOrders = true) (D:List Nat) (V:List Value) (s1 s2:Nat) (o1 o2:Oper) (wa wb wc wd:World)
  (hb:envWB l.toArray D s1 s2 = true) (hs1:l[s1]? = some o1) (hs2:l[s2]? = some o2) (hsz1:a.tmps.size ≤ D.getD s1 0) (hsz2:a.tmps.size ≤ D.getD s2 0) (hne:s1 ≠ s2) {fin:Act} (hfin:putAll a D V = fin)
  (hstep:EnvWSteps P l.toArray fin w.drew s1 s2 0 l V)
  (h1:(execOp fin.eval o1).run P w.drew = .ok .skip wa) (h2:(execOp fin.eval o2).run P w.drew = .ok .skip wb) (h12:(execOp fin.eval o2).run P wa = .ok .skip wc) (h21:(execOp fin.eval o1).run P wb = .ok .skip wd)
  (hend:∀ w',w' = wc∨w' = wd→Q .normal fin w'):(Code.region id l.toArray true).wp P Q a w :=
 (wpIn_wide (n:=8)).1 (wpIn_envW wide0 hm D V s1 s2 o1 o2 wa wb wc wd hb hs1 hs2 hsz1 hsz2 hne hfin hstep h1 h2 h12 h21 hend)
end
end
section -- FBase
open Go Go.RowKit Go.Shelf
structure Fir where
 nominal:Int
 kind:Int
 save:Int
 letter:ByteArray
def firV (x:Fir):List Value:=[.int .i64 x.nominal,.int .i64 x.kind,.int .i64 x.save,.string x.letter]
def firA (x:Fir):Value:=.agg #[.int .i64 x.nominal,.int .i64 x.kind,.int .i64 x.save,.string x.letter]
def firsV (l:List Fir):List Value:=l.flatMap firV
theorem length_firsV (l:List Fir):(firsV l).length = l.length * 4:=by
 induction l with
 | nil=>rfl
 | cons c l ih=>simp only [firsV,List.flatMap_cons,List.length_append,List.length_cons,firV,List.length_nil] at ih ⊢;omega
theorem firsV_append (l m:List Fir):firsV (l ++ m) = firsV l ++ firsV m:=by simp [firsV]
theorem firsV_cons (x:Fir) (m:List Fir):firsV (x :: m) = firV x ++ firsV m:=by simp [firsV]
def RwF (W:World) (base g cap n:Nat) (d:List Fir):Prop:=d.length = n∧W.ownsRow base 112 4 (.slice (some ⟨g,0,none⟩) n cap) n (firsV d)
section
variable {W W':World} {base g cap n:Nat} {A C d:List Fir} {x y:Fir}
theorem RwF.lt (h:RwF W base g cap n d):base ≤ g∧g < W.heap.size:=h.2.lt g rfl
theorem RwF.at_ (h:RwF W base g cap n (A ++ x :: C)):W.cell? ⟨g,A.length * 4,none⟩ = some (.int .i64 x.nominal)∧W.cell? ⟨g,A.length * 4 + 1,none⟩ = some (.int .i64 x.kind)∧W.cell? ⟨g,A.length * 4 + 2,none⟩ = some (.int .i64 x.save)∧W.cell? ⟨g,A.length * 4 + 3,none⟩ = some (.string x.letter):=by
 have hl:=h.1
 rw [List.length_append,List.length_cons] at hl
 have hc:∀ i,i < 4→W.cell? ⟨g,A.length * 4 + i,none⟩ = (firV x)[i]?:=fun i hi=>by
  rw [h.2.cellAt _ (by omega),firsV_append,firsV_cons,List.getElem?_append_right (by rw [length_firsV];omega),length_firsV,Nat.add_sub_cancel_left,List.getElem?_append_left (by simp [firV];omega)]
 exact ⟨hc 0 (by omega),hc 1 (by omega),hc 2 (by omega),hc 3 (by omega)⟩
theorem RwF.at2 {Q:List Fir} (h:RwF W base g cap n (A ++ y :: (Q ++ x :: C))):W.cell? ⟨g,(A.length + 1 + Q.length) * 4,none⟩ = some (.int .i64 x.nominal)∧W.cell? ⟨g,(A.length + 1 + Q.length) * 4 + 1,none⟩ = some (.int .i64 x.kind)∧W.cell? ⟨g,(A.length + 1 + Q.length) * 4 + 2,none⟩ = some (.int .i64 x.save)∧W.cell? ⟨g,(A.length + 1 + Q.length) * 4 + 3,none⟩ = some (.string x.letter):=by
 have h1:RwF W base g cap n ((A ++ y :: Q) ++ x :: C):=by simpa using h
 have h2:=h1.at_
 rwa [show (A ++ y :: Q).length = A.length + 1 + Q.length by simp;omega] at h2
end
end
section -- Fire
open Go Go.RowKit Go.Shelf
structure Rul where
 name:ByteArray
 from_:Int
 to_:Int
 month:Int
 dk:Int
 dw:Int
 dn:Int
 sec:Int
 kind:Int
 save:Int
 letter:ByteArray
def rulV (r:Rul):List Value:=[.string r.name,.int .i64 r.from_,.int .i64 r.to_,.int .i64 r.month,.int .i64 r.dk,.int .i64 r.dw,.int .i64 r.dn,.int .i64 r.sec,.int .i64 r.kind,.int .i64 r.save,.string r.letter]
def rulA (r:Rul):Value:=.agg #[.string r.name,.int .i64 r.from_,.int .i64 r.to_,.int .i64 r.month,.int .i64 r.dk,.int .i64 r.dw,.int .i64 r.dn,.int .i64 r.sec,.int .i64 r.kind,.int .i64 r.save,.string r.letter]
abbrev RulB (W:World) (b:Nat) (r:Rul):Prop:=Blk W b 106 #[.string r.name,.int .i64 r.from_,.int .i64 r.to_,.int .i64 r.month,.int .i64 r.dk,.int .i64 r.dw,.int .i64 r.dn,.int .i64 r.sec,.int .i64 r.kind,.int .i64 r.save,.string r.letter]
def Fir.zero:Fir:=⟨0,0,0,⟨#[]⟩⟩
def inOkB (k wk n y m:Int):Bool:=inB k wk n y m && (decide (k = 0) || ofInB (inDay k wk n y m))
def ofB (r:Rul) (y:Int):Bool:=decide (r.from_ ≤ y∧y ≤ r.to_) && (inOkB r.dk r.dw r.dn y r.month && mayB r.sec)
def firOf (r:Rul) (y:Int):Fir:=⟨inDay r.dk r.dw r.dn y r.month * 86400 + r.sec,r.kind,r.save,r.letter⟩
def ofV (r:Rul) (y:Int):Fir:=if ofB r y then firOf r y else .zero
theorem in_ok {k wk n y m:Int} (h:inOkB k wk n y m = true):∃ Y M D,inA k wk n y m = dateA Y M D∧inE k wk n y m = 0∧dateB Y M D = true∧dayV Y M D = inDay k wk n y m:=by
 unfold inOkB at h
 rw [Bool.and_eq_true,Bool.or_eq_true,decide_eq_true_eq] at h
 obtain ⟨h1,h2⟩:=h
 by_cases h0:k = 0
 ·refine ⟨y,m,n,by unfold inA;rw [if_pos h1,if_pos h0],by unfold inE;rw [if_pos h1,if_pos h0],?_,by unfold inDay;rw [if_pos h0]⟩
  unfold inB dayOkB at h1
  unfold dateB
  simp only [Bool.and_eq_true,decide_eq_true_eq] at h1 ⊢
  exact ⟨h1.1.2,by omega,h1.2⟩
 ·have h2:=h2.resolve_left h0
  have h3:=h2
  unfold ofInB at h3
  rw [decide_eq_true_eq] at h3
  have h4:=of_date h3.1 h3.2
  exact ⟨_,_,_,by unfold inA ofA;rw [if_pos h1,if_neg h0,if_pos h2],by unfold inE ofE_;rw [if_pos h1,if_neg h0,if_pos h2],h4.1,h4.2⟩
theorem in_no {k wk n y m:Int} (h:inOkB k wk n y m = false):(∃ Y M D,inA k wk n y m = dateA Y M D)∧inE k wk n y m = 10:=by
 unfold inOkB at h
 unfold inA inE ofA ofE_
 cases h1:inB k wk n y m with
 | false=>exact ⟨⟨_,_,_,rfl⟩,rfl⟩
 | true =>
   rw [h1,Bool.true_and,Bool.or_eq_false_iff,decide_eq_false_iff_not] at h
   rw [if_pos rfl,if_neg h.1,h.2,if_pos rfl,if_neg h.1]
   exact ⟨⟨_,_,_,rfl⟩,rfl⟩
theorem fof_any (r:Rul) (y:Int) (w:World) (ha:Ahead w) :
  Calls Tryz.prog 129 #[rulA r,.int .i64 y] w fun e w'=>e = .returned (.tuple #[firA (ofV r y),.bool (ofB r y)])∧Below w.heap.size w w':=by
 have HB0:=Lib.hid (show Below w.heap.size w ((w.alloc (.cells (rulV r).toArray 106)).alloc (.cells #[.int .i64 0,.int .i64 0,.int .i64 0,.string ⟨#[]⟩] 112)) from ((Below.refl _ _).alloc (Nat.le_refl _) _).alloc (by simp) _)
 have b0:RulB ((w.alloc (.cells (rulV r).toArray 106)).alloc (.cells #[.int .i64 0,.int .i64 0,.int .i64 0,.string ⟨#[]⟩] 112)) w.heap.size r:=(Blk.new w 106 (rulV r).toArray).alloc (.cells #[.int .i64 0,.int .i64 0,.int .i64 0,.string ⟨#[]⟩] 112)
 have b1:=Blk.new (w.alloc (.cells (rulV r).toArray 106)) 112 #[.int .i64 0,.int .i64 0,.int .i64 0,.string ⟨#[]⟩]
 rw [World.size_alloc] at b1
 unfold rulV at HB0 b0 b1
 have HI:=Lib.hid (And.intro b0 b1)
 have q1:=Blk.cell b0 1 (v:=.int .i64 r.from_) rfl
 have q2:=Blk.cell b0 2 (v:=.int .i64 r.to_) rfl
 have q3:=Blk.cell b0 3 (v:=.int .i64 r.month) rfl
 have q4:=Blk.cell b0 4 (v:=.int .i64 r.dk) rfl
 have q5:=Blk.cell b0 5 (v:=.int .i64 r.dw) rfl
 have q6:=Blk.cell b0 6 (v:=.int .i64 r.dn) rfl
 have r0:=b1.cell 0 (v:=.int .i64 0) rfl
 have r1:=b1.cell 1 (v:=.int .i64 0) rfl
 have r2:=b1.cell 2 (v:=.int .i64 0) rfl
 have r3:=b1.cell 3 (v:=.string ⟨#[]⟩) rfl
 have g0:=b1.frozen 0
 have g1:=b1.frozen 1
 have g2:=b1.frozen 2
 have g3:=b1.frozen 3
 have HN:=Lib.hid (in_any r.dk r.dw r.dn y r.month ((w.alloc (.cells (rulV r).toArray 106)).alloc (.cells #[.int .i64 0,.int .i64 0,.int .i64 0,.string ⟨#[]⟩] 112)) (ha.below HB0.out (Nat.le_refl _)))
 clear b0 b1
 unfold rulV dayA at HN
 by_cases h1:y < r.from_
 ·have e1:ofB r y = false:=by unfold ofB;rw [decide_eq_false (by omega)];rfl
  have e2:ofV r y = .zero:=by unfold ofV;rw [e1];rfl
  rw [e1,e2]
  have hd:decide (y < r.from_) = true:=decide_eq_true h1
  unfold rulA firA Fir.zero
  clear e1 e2
  go_enter Tryz.func129,Tryz.ntmps129
  go_wp2_with fail
  refine bodyPost_ret (v:=.tuple #[.agg #[.int .i64 0,.int .i64 0,.int .i64 0,.string ⟨#[]⟩],.bool false]) ?_ rfl ⟨rfl,HB0.out⟩
  simp [results,Tryz.f129,go_sem,r0,r1,r2,r3]
 ·have hd:decide (y < r.from_) = false:=decide_eq_false h1
  by_cases h2:r.to_ < y
  ·have e1:ofB r y = false:=by unfold ofB;rw [decide_eq_false (by omega)];rfl
   have e2:ofV r y = .zero:=by unfold ofV;rw [e1];rfl
   rw [e1,e2]
   have hd2:decide (r.to_ < y) = true:=decide_eq_true h2
   unfold rulA firA Fir.zero
   clear e1 e2
   go_enter Tryz.func129,Tryz.ntmps129
   go_wp2_with fail
   refine bodyPost_ret (v:=.tuple #[.agg #[.int .i64 0,.int .i64 0,.int .i64 0,.string ⟨#[]⟩],.bool false]) ?_ rfl ⟨rfl,HB0.out⟩
   simp [results,Tryz.f129,go_sem,r0,r1,r2,r3]
  ·have hd2:decide (r.to_ < y) = false:=decide_eq_false h2
   have HM:=Lib.hid (show ofB r y = (inOkB r.dk r.dw r.dn y r.month && mayB r.sec) by unfold ofB;rw [decide_eq_true (by omega)];rfl)
   cases hin:inOkB r.dk r.dw r.dn y r.month with
   | false =>
     obtain ⟨⟨Y,M,D,eA⟩,eE⟩:=in_no hin
     have e1:ofB r y = false:=by rw [HM.out,hin];rfl
     have e2:ofV r y = .zero:=by unfold ofV;rw [e1];rfl
     rw [eA,eE] at HN
     unfold dateA at HN
     rw [e1,e2]
     unfold rulA firA Fir.zero
     clear e1 e2 eA eE hin h1 h2
     go_enter Tryz.func129,Tryz.ntmps129
     go_wp2_with fail
     refine HN.out.mono ?_
     rintro e w1 ⟨rfl,hb⟩
     have h0:=Blk.below HI.out.1 hb HI.out.1.lt
     have h1:=HI.out.2.below hb HI.out.2.lt
     have hb1:=HB0.out.trans (hb.mono HB0.out.size)
     have HBW:=Lib.hid (hb1.alloc hb1.size (.cells #[.int .i64 Y,.int .i64 M,.int .i64 D] 44))
     have HRB:=Lib.hid (show RulB (w1.alloc (.cells #[.int .i64 Y,.int .i64 M,.int .i64 D] 44)) w.heap.size r from Blk.alloc h0 _)
     have HFB1:=Lib.hid (h1.alloc (.cells #[.int .i64 Y,.int .i64 M,.int .i64 D] 44))
     have HDB:=Lib.hid (Blk.new w1 44 #[.int .i64 Y,.int .i64 M,.int .i64 D])
     have HAW:=Lib.hid (ha.below HBW.out (Nat.le_refl _))
     have q7:=Blk.cell h0 7 (v:=.int .i64 r.sec) rfl
     have q8:=Blk.cell h0 8 (v:=.int .i64 r.kind) rfl
     have q9:=Blk.cell h0 9 (v:=.int .i64 r.save) rfl
     have q10:=Blk.cell h0 10 (v:=.string r.letter) rfl
     have r0:=h1.cell 0 (v:=.int .i64 0) rfl
     have r1:=h1.cell 1 (v:=.int .i64 0) rfl
     have r2:=h1.cell 2 (v:=.int .i64 0) rfl
     have r3:=h1.cell 3 (v:=.string ⟨#[]⟩) rfl
     have g0:=h1.frozen 0
     have g1:=h1.frozen 1
     have g2:=h1.frozen 2
     have g3:=h1.frozen 3
     have hl0:=Blk.lt h0
     have hl1:=h1.lt
     have HF1:=Lib.hid h1
     have HB1W:=Lib.hid hb1
     clear hb h0 h1 hb1 q1 q2 q3 q4 q5 q6
     go_wp2_with fail
     have HW:=((((HF1.out.set 0 (.int .i64 0)).set 1 (.int .i64 0)).set 2 (.int .i64 0)).set 3 (.string ⟨#[]⟩)).alloc (.cells #[.int .i64 Y,.int .i64 M,.int .i64 D] 44)
     refine bodyPost_ret (v:=.tuple #[.agg #[.int .i64 0,.int .i64 0,.int .i64 0,.string ⟨#[]⟩],.bool false]) ?_ rfl ⟨rfl,(below_set4 HB1W.out (by omega) _ _ _ _).alloc (by have:=HB1W.out.size;simpa using this) _⟩
     have v0:=HW.cell 0 (v:=.int .i64 0) rfl
     have v1:=HW.cell 1 (v:=.int .i64 0) rfl
     have v2:=HW.cell 2 (v:=.int .i64 0) rfl
     have v3:=HW.cell 3 (v:=.string ⟨#[]⟩) rfl
     simp [results,Tryz.f129,go_sem,v0,v1,v2,v3]
   | true =>
     obtain ⟨Y,M,D,eA,eE,hdt,hdv⟩:=in_ok hin
     have hdr:=dayV_in hdt
     rw [eA,eE] at HN
     have HJ:=Lib.hid (fun W h=>join_any Y M D r.sec W h)
     rw [hdt,hdv] at HJ
     rw [hdv] at hdr
     simp only [Bool.true_and] at HJ
     unfold dateA at HN HJ
     cases hs:mayB r.sec with
     | false =>
       have e1:ofB r y = false:=by rw [HM.out,hin,hs];rfl
       have e2:ofV r y = .zero:=by unfold ofV;rw [e1];rfl
       rw [hs] at HJ
       simp only [Bool.false_eq_true,if_false] at HJ
       rw [e1,e2]
       unfold rulA firA Fir.zero
       clear e1 e2 eA eE hin h1 h2 hdt hdv hs
       go_enter Tryz.func129,Tryz.ntmps129
       go_wp2_with fail
       refine HN.out.mono ?_
       rintro e w1 ⟨rfl,hb⟩
       have h0:=Blk.below HI.out.1 hb HI.out.1.lt
       have h1:=HI.out.2.below hb HI.out.2.lt
       have hb1:=HB0.out.trans (hb.mono HB0.out.size)
       have HBW:=Lib.hid (hb1.alloc hb1.size (.cells #[.int .i64 Y,.int .i64 M,.int .i64 D] 44))
       have HRB:=Lib.hid (show RulB (w1.alloc (.cells #[.int .i64 Y,.int .i64 M,.int .i64 D] 44)) w.heap.size r from Blk.alloc h0 _)
       have HFB1:=Lib.hid (h1.alloc (.cells #[.int .i64 Y,.int .i64 M,.int .i64 D] 44))
       have HDB:=Lib.hid (Blk.new w1 44 #[.int .i64 Y,.int .i64 M,.int .i64 D])
       have HAW:=Lib.hid (ha.below HBW.out (Nat.le_refl _))
       have q7:=Blk.cell h0 7 (v:=.int .i64 r.sec) rfl
       have q8:=Blk.cell h0 8 (v:=.int .i64 r.kind) rfl
       have q9:=Blk.cell h0 9 (v:=.int .i64 r.save) rfl
       have q10:=Blk.cell h0 10 (v:=.string r.letter) rfl
       have r0:=h1.cell 0 (v:=.int .i64 0) rfl
       have r1:=h1.cell 1 (v:=.int .i64 0) rfl
       have r2:=h1.cell 2 (v:=.int .i64 0) rfl
       have r3:=h1.cell 3 (v:=.string ⟨#[]⟩) rfl
       have g0:=h1.frozen 0
       have g1:=h1.frozen 1
       have g2:=h1.frozen 2
       have g3:=h1.frozen 3
       have hl0:=Blk.lt h0
       have hl1:=h1.lt
       have HF1:=Lib.hid h1
       have HB1W:=Lib.hid hb1
       clear hb h0 h1 hb1 q1 q2 q3 q4 q5 q6
       go_wp2_with fail
       refine (HJ.out _ HAW.out).mono ?_
       rintro e w2 ⟨rfl,hb⟩
       have h0:=Blk.below HRB.out hb (Blk.lt HRB.out)
       have h1:=HFB1.out.below hb HFB1.out.lt
       have HBX:=Lib.hid (HBW.out.trans (hb.mono HBW.out.size))
       have HFB:=Lib.hid h1
       have q7:=Blk.cell h0 7 (v:=.int .i64 r.sec) rfl
       have q8:=Blk.cell h0 8 (v:=.int .i64 r.kind) rfl
       have q9:=Blk.cell h0 9 (v:=.int .i64 r.save) rfl
       have q10:=Blk.cell h0 10 (v:=.string r.letter) rfl
       have r0:=h1.cell 0 (v:=.int .i64 0) rfl
       have r1:=h1.cell 1 (v:=.int .i64 0) rfl
       have r2:=h1.cell 2 (v:=.int .i64 0) rfl
       have r3:=h1.cell 3 (v:=.string ⟨#[]⟩) rfl
       have g0:=h1.frozen 0
       have g1:=h1.frozen 1
       have g2:=h1.frozen 2
       have g3:=h1.frozen 3
       clear hb h0 h1
       go_wp2_with fail
       have HW:=(((HFB.out.set 0 (.int .i64 0)).set 1 (.int .i64 0)).set 2 (.int .i64 0)).set 3 (.string ⟨#[]⟩)
       refine bodyPost_ret (v:=.tuple #[.agg #[.int .i64 0,.int .i64 0,.int .i64 0,.string ⟨#[]⟩],.bool false]) ?_ rfl ⟨rfl,below_set4 HBX.out (by omega) _ _ _ _⟩
       have v0:=HW.cell 0 (v:=.int .i64 0) rfl
       have v1:=HW.cell 1 (v:=.int .i64 0) rfl
       have v2:=HW.cell 2 (v:=.int .i64 0) rfl
       have v3:=HW.cell 3 (v:=.string ⟨#[]⟩) rfl
       simp [results,Tryz.f129,go_sem,v0,v1,v2,v3]
     | true =>
       have e1:ofB r y = true:=by rw [HM.out,hin,hs];rfl
       have e2:ofV r y = firOf r y:=by unfold ofV;rw [e1];rfl
       rw [hs] at HJ
       simp only [if_true] at HJ
       rw [e1,e2]
       unfold rulA firA firOf
       unfold mayB at hs
       rw [decide_eq_true_eq] at hs
       generalize inDay r.dk r.dw r.dn y r.month = v at *
       clear e1 e2 eA eE hin h1 h2 hdt hdv HM
       go_enter Tryz.func129,Tryz.ntmps129
       go_wp2_with fail
       refine HN.out.mono ?_
       rintro e w1 ⟨rfl,hb⟩
       have h0:=Blk.below HI.out.1 hb HI.out.1.lt
       have h1:=HI.out.2.below hb HI.out.2.lt
       have hb1:=HB0.out.trans (hb.mono HB0.out.size)
       have HBW:=Lib.hid (hb1.alloc hb1.size (.cells #[.int .i64 Y,.int .i64 M,.int .i64 D] 44))
       have HRB:=Lib.hid (show RulB (w1.alloc (.cells #[.int .i64 Y,.int .i64 M,.int .i64 D] 44)) w.heap.size r from Blk.alloc h0 _)
       have HFB1:=Lib.hid (h1.alloc (.cells #[.int .i64 Y,.int .i64 M,.int .i64 D] 44))
       have HDB:=Lib.hid (Blk.new w1 44 #[.int .i64 Y,.int .i64 M,.int .i64 D])
       have HAW:=Lib.hid (ha.below HBW.out (Nat.le_refl _))
       have q7:=Blk.cell h0 7 (v:=.int .i64 r.sec) rfl
       have q8:=Blk.cell h0 8 (v:=.int .i64 r.kind) rfl
       have q9:=Blk.cell h0 9 (v:=.int .i64 r.save) rfl
       have q10:=Blk.cell h0 10 (v:=.string r.letter) rfl
       have r0:=h1.cell 0 (v:=.int .i64 0) rfl
       have r1:=h1.cell 1 (v:=.int .i64 0) rfl
       have r2:=h1.cell 2 (v:=.int .i64 0) rfl
       have r3:=h1.cell 3 (v:=.string ⟨#[]⟩) rfl
       have g0:=h1.frozen 0
       have g1:=h1.frozen 1
       have g2:=h1.frozen 2
       have g3:=h1.frozen 3
       have hl0:=Blk.lt h0
       have hl1:=h1.lt
       have HF1:=Lib.hid h1
       have HB1W:=Lib.hid hb1
       clear hb h0 h1 hb1 q1 q2 q3 q4 q5 q6
       go_wp2_with fail
       refine (HJ.out _ HAW.out).mono ?_
       rintro e w2 ⟨rfl,hb⟩
       have h0:=Blk.below HRB.out hb (Blk.lt HRB.out)
       have h1:=HFB1.out.below hb HFB1.out.lt
       have HBX:=Lib.hid (HBW.out.trans (hb.mono HBW.out.size))
       have HFB:=Lib.hid h1
       have q7:=Blk.cell h0 7 (v:=.int .i64 r.sec) rfl
       have q8:=Blk.cell h0 8 (v:=.int .i64 r.kind) rfl
       have q9:=Blk.cell h0 9 (v:=.int .i64 r.save) rfl
       have q10:=Blk.cell h0 10 (v:=.string r.letter) rfl
       have r0:=h1.cell 0 (v:=.int .i64 0) rfl
       have r1:=h1.cell 1 (v:=.int .i64 0) rfl
       have r2:=h1.cell 2 (v:=.int .i64 0) rfl
       have r3:=h1.cell 3 (v:=.string ⟨#[]⟩) rfl
       have g0:=h1.frozen 0
       have g1:=h1.frozen 1
       have g2:=h1.frozen 2
       have g3:=h1.frozen 3
       clear hb h0 h1
       go_wp2_with fail
       have HW:=(((HFB.out.set 0 (.int .i64 (v * 86400 + r.sec))).set 1 (.int .i64 r.kind)).set 2 (.int .i64 r.save)).set 3 (.string r.letter)
       refine bodyPost_ret (v:=.tuple #[.agg #[.int .i64 (v * 86400 + r.sec),.int .i64 r.kind,.int .i64 r.save,.string r.letter],.bool true]) ?_ rfl ⟨rfl,below_set4 HBX.out (by omega) _ _ _ _⟩
       have w0:=HW.cell 0 (v:=.int .i64 (v * 86400 + r.sec)) rfl
       have w1:=HW.cell 1 (v:=.int .i64 r.kind) rfl
       have w2:=HW.cell 2 (v:=.int .i64 r.save) rfl
       have w3:=HW.cell 3 (v:=.string r.letter) rfl
       simp [results,Tryz.f129,go_sem,w0,w1,w2,w3]
end
section -- FRules
open Go Go.RowKit Go.Shelf
def rulsV (l:List Rul):List Value:=l.flatMap rulV
theorem length_rulsV (l:List Rul):(rulsV l).length = l.length * 11:=by
 induction l with
 | nil=>rfl
 | cons c l ih=>simp only [rulsV,List.flatMap_cons,List.length_append,List.length_cons,rulV,List.length_nil] at ih ⊢;omega
theorem rulsV_at (l:List Rul) (i:Nat) (h:i < l.length) (k:Nat) (hk:k < 11):(rulsV l)[i * 11 + k]? = (rulV l[i])[k]?:=by
 induction l generalizing i with
 | nil=>exact absurd h (by simp)
 | cons c l ih =>
   rcases i with _ | i
   ·rw [Nat.zero_mul,Nat.zero_add]
    show (rulV c ++ rulsV l)[k]? = _
    rw [List.getElem?_append_left (by simp [rulV];omega)]
    rfl
   ·have:=ih i (by simpa using h)
    show (rulV c ++ rulsV l)[(i + 1) * 11 + k]? = _
    rw [List.getElem?_append_right (by simp [rulV];omega),show (i + 1) * 11 + k - (rulV c).length = i * 11 + k by simp [rulV];omega,this]
    rfl
def Ruls (w:World) (B:Nat) (v:Value) (l:List Rul):Prop:=Sl w B 11 v l.length (rulsV l)
section
variable {w w':World} {B B':Nat} {v:Value} {l:List Rul}
theorem Ruls.form (h:Ruls w B v l):∃ A c,v = .slice A l.length c∧l.length ≤ c∧c ≤ maxLen:=by
 obtain ⟨A,c,rfl,h1,h2,-⟩:=h
 exact ⟨A,c,rfl,h1,h2⟩
theorem Ruls.below (h:Ruls w B v l) (hb:Below B w w'):Ruls w' B v l:=Sl.below h hb
def RulC (W:World) (b o:Nat) (r:Rul):Prop:=W.cell? ⟨b,o,none⟩ = some (.string r.name)∧W.cell? ⟨b,o + 1,none⟩ = some (.int .i64 r.from_)∧W.cell? ⟨b,o + 2,none⟩ = some (.int .i64 r.to_)∧W.cell? ⟨b,o + 3,none⟩ = some (.int .i64 r.month)∧W.cell? ⟨b,o + 4,none⟩ = some (.int .i64 r.dk)∧W.cell? ⟨b,o + 5,none⟩ = some (.int .i64 r.dw)∧W.cell? ⟨b,o + 6,none⟩ = some (.int .i64 r.dn)∧W.cell? ⟨b,o + 7,none⟩ = some (.int .i64 r.sec)∧W.cell? ⟨b,o + 8,none⟩ = some (.int .i64 r.kind)∧W.cell? ⟨b,o + 9,none⟩ = some (.int .i64 r.save)∧W.cell? ⟨b,o + 10,none⟩ = some (.string r.letter)
theorem Ruls.cells (h:Ruls w B v l) (hl:0 < l.length):∃ b o c,v = .slice (some ⟨b,o,none⟩) l.length c∧b < B∧∀ i (hi:i < l.length),RulC w b (o + i * 11) l[i]:=by
 obtain ⟨b,o,c,e,hb,hc⟩:=Sl.at_ h hl
 refine ⟨b,o,c,e,hb,fun i hi=>?_⟩
 have hk:∀ k u,k < 11→(rulV l[i])[k]? = some u→w.cell? ⟨b,o + i * 11 + k,none⟩ = some u:=fun k u hk hu=>by
  rw [Nat.add_assoc]
  exact hc _ u (by rw [rulsV_at l i hi k hk];exact hu)
 exact ⟨hk 0 _ (by omega) rfl,hk 1 _ (by omega) rfl,hk 2 _ (by omega) rfl,hk 3 _ (by omega) rfl,hk 4 _ (by omega) rfl,hk 5 _ (by omega) rfl,hk 6 _ (by omega) rfl,hk 7 _ (by omega) rfl,hk 8 _ (by omega) rfl,hk 9 _ (by omega) rfl,hk 10 _ (by omega) rfl⟩
end
def yrs (a b:Int):List Int:=(List.range (b + 1 - a).toNat).map fun i=>a + (i:Nat)
def genR (r:Rul) (a b:Int):List Fir:=((yrs a b).filter fun y=>ofB r y).map fun y=>firOf r y
def genL (l:List Rul) (a b:Int):List Fir:=l.flatMap fun r=>genR r a b
theorem yrs_nil {a b:Int} (h:b < a):yrs a b = []:=by
 unfold yrs
 rw [show (b + 1 - a).toNat = 0 by omega]
 rfl
theorem yrs_snoc {a b:Int} (h:a ≤ b + 1):yrs a (b + 1) = yrs a b ++ [b + 1]:=by
 unfold yrs
 rw [show (b + 1 + 1 - a).toNat = (b + 1 - a).toNat + 1 by omega,List.range_succ,List.map_append]
 congr 1
 simp
 omega
theorem yrs_split {a b c:Int} (h1:a ≤ b + 1) (h2:b ≤ c):yrs a c = yrs a b ++ yrs (b + 1) c:=by
 obtain ⟨n,hn⟩:∃ n:Nat,c = b + n:=⟨(c - b).toNat,by omega⟩
 subst hn
 clear h2
 induction n with
 | zero=>rw [show b + ((0:Nat):Int) = b by omega,yrs_nil (show b < b + 1 by omega),List.append_nil]
 | succ n ih =>
   rw [show b + ((n + 1:Nat):Int) = b + (n:Int) + 1 by omega,yrs_snoc (by omega),yrs_snoc (by omega),ih,List.append_assoc]
theorem yrs_mem {a b y:Int}:y ∈ yrs a b ↔ a ≤ y∧y ≤ b:=by
 unfold yrs
 rw [List.mem_map]
 constructor
 ·rintro ⟨i,hi,rfl⟩
  rw [List.mem_range] at hi
  omega
 ·intro h
  exact ⟨(y - a).toNat,List.mem_range.2 (by omega),by omega⟩
theorem yrs_len (a b:Int):(yrs a b).length = (b + 1 - a).toNat:=by unfold yrs;simp
theorem genR_cut (r:Rul) (a b:Int):genR r a b = genR r (max a r.from_) (min b r.to_):=by
 have hno:∀ x y,(∀ z,z ∈ yrs x y→ofB r z = false)→genR r x y = []:=fun x y h=>by
  unfold genR
  rw [List.filter_eq_nil_iff.2 (fun z hz=>by rw [h z hz];decide),List.map_nil]
 have hof:∀ z,(z < r.from_∨r.to_ < z)→ofB r z = false:=fun z hz=>by
  unfold ofB
  rw [decide_eq_false (by omega)]
  rfl
 have happ:∀ x y z,x ≤ y + 1→y ≤ z→genR r x z = genR r x y ++ genR r (y + 1) z:=fun x y z h1 h2=>by
  unfold genR
  rw [yrs_split h1 h2,List.filter_append,List.map_append]
 by_cases h:max a r.from_ ≤ min b r.to_
 ·rw [happ a (max a r.from_ - 1) b (by omega) (by omega),hno a (max a r.from_ - 1) (fun z hz=>hof z (by have:=yrs_mem.1 hz;omega)),List.nil_append,show max a r.from_ - 1 + 1 = max a r.from_ by omega,
   happ (max a r.from_) (min b r.to_) b (by omega) (by omega),hno (min b r.to_ + 1) b (fun z hz=>hof z (by have:=yrs_mem.1 hz;omega)),List.append_nil]
 ·rw [hno (max a r.from_) (min b r.to_) (fun z hz=>by have:=yrs_mem.1 hz;omega)]
  exact hno a b fun z hz=>hof z (by have:=yrs_mem.1 hz;omega)
theorem genR_split (r:Rul) {a b c:Int} (h1:a ≤ b + 1) (h2:b ≤ c):genR r a c = genR r a b ++ genR r (b + 1) c:=by
 unfold genR
 rw [yrs_split h1 h2,List.filter_append,List.map_append]
theorem genR_len (r:Rul) (a b:Int):(genR r a b).length ≤ (b + 1 - a).toNat:=by
 unfold genR
 rw [List.length_map]
 exact Nat.le_trans (List.length_filter_le _ _) (by rw [yrs_len];exact Nat.le_refl _)
theorem genL_len (l:List Rul) (a b:Int):(genL l a b).length ≤ l.length * (b + 1 - a).toNat:=by
 unfold genL
 induction l with
 | nil=>simp
 | cons r l ih =>
   simp only [List.flatMap_cons,List.length_append,List.length_cons]
   have:=genR_len r a b
   rw [Nat.add_mul,Nat.one_mul]
   omega
end
section -- Append
open Go Go.RowKit
section
variable {P:Program} {w:World}
theorem run_append_none_any (base:Nat) (t ty e:TypeId) (i:TypeInfo) (size:Nat) (ht:P.underlying t = some (.slice e)) (hi:P.info? e = some i)
  (v:Value) (n c:Nat) (xs:List Value) (hown:w.ownsRow base e size v n xs) :
  (Builtin.append_ #[t,t] ty #[v,.slice none 0 c]).run P w = .ok v w:=by
 rcases hown.2 with ⟨rfl,rfl⟩ | ⟨g,cap,cur,rfl,_,_,hnc,_⟩
 ·simp [Builtin.append_,run_underlying ht,sizeOf,typeInfo,hi,Builtin.lenOf,Builtin.firstCells]
 ·simp [Builtin.append_,run_underlying ht,sizeOf,typeInfo,hi,Builtin.lenOf,Builtin.firstCells,hnc,storeCells]
theorem run_append_sl (base:Nat) (t ty e:TypeId) (i:TypeInfo) (z:Value) (size bytes:Nat) (ht:P.underlying t = some (.slice e)) (hi:P.info? e = some i) (hz:i.zero = some z)
  (hsize:i.size = size) (hby:i.bytes = bytes) (hzs:z.cells.size = size) (hsz:0 < size)
  (v:Value) (n:Nat) (xs:List Value) (hown:w.ownsRow base e size v n xs)
  (x:Value) (B m:Nat) (ys:List Value) (hx:Sl w B size x m ys) (h1:∀ u ∈ ys,u.oneCell' = true)
  (h63:n + m ≤ maxLen) (hbytes:(n + m) * bytes ≤ 140737488355328) (hbase:base ≤ w.heap.size) :
  ∃ v' w',(Builtin.append_ #[t,t] ty #[v,x]).run P w = .ok v' w'∧w'.ownsRow base e size v' (n + m) (xs ++ ys)∧w.grownBy w' v.ownBlock:=by
 obtain ⟨A,c,rfl,hmc,hcm,hl,hc⟩:=hx
 rcases A with _ | ad
 ·have hm:m = 0:=by
   rcases Nat.eq_zero_or_pos m with h | h
   ·exact h
   ·obtain ⟨_,_,e,_⟩:=hc h
    cases e
  subst hm
  have hy:ys = []:=List.eq_nil_of_length_eq_zero (by simpa using hl)
  subst hy
  refine ⟨v,w,run_append_none_any base t ty e i size ht hi v n c xs hown,by simpa using hown,⟨rfl,rfl,rfl,Nat.le_refl _,fun _ _ _=>rfl⟩⟩
 ·obtain ⟨v',w',h2,h3,h4,-⟩:=run_append_own w base t ty e i z size bytes ht hi hz hsize hby hzs hsz v n xs hown ad m c ys hl (fun j u hu=>by
   rcases Nat.eq_zero_or_pos m with h | h
   ·subst h
    have hy:ys = []:=List.eq_nil_of_length_eq_zero (by simpa using hl)
    subst hy
    cases hu
   ·obtain ⟨b,o,e,_,hcc⟩:=hc h
    cases e
    rw [Addr.add_lit]
    exact hcc j u hu) h1 h63 hbytes hbase
  exact ⟨v',w',h2,h3,h4⟩
theorem wpList_append_sl {ops:Array Oper} {rest:List Oper} {o:Oper} {a:Act} {Q:Exit→Act→World→Prop} (hgd:o.guard = none) (s x:Operand) (t:TypeId)
  (ho:o.op = .call { callee:=.builtin .append,args:=#[s,x],argTypes:=#[t,t] })
  (base:Nat) (e:TypeId) (i:TypeInfo) (z:Value) (size bytes:Nat) (ht:P.underlying t = some (.slice e)) (hi:P.info? e = some i) (hz:i.zero = some z)
  (hsize:i.size = size) (hby:i.bytes = bytes) (hzs:z.cells.size = size) (hsz:0 < size)
  (v:Value) (n:Nat) (xs:List Value) (hs:a.eval s = v) (hown:w.ownsRow base e size v n xs)
  (y:Value) (B m:Nat) (ys:List Value) (hx:a.eval x = y) (hsl:Sl w B size y m ys) (h1:∀ u ∈ ys,u.oneCell' = true)
  (h63:n + m ≤ maxLen) (hbytes:(n + m) * bytes ≤ 140737488355328) (hbase:base ≤ w.heap.size)
  (h:∀ v' w',w'.ownsRow base e size v' (n + m) (xs ++ ys)→w.grownBy w' v.ownBlock→wpList P ops Q rest (a.put o.dst v') w'):wpList P ops Q (o :: rest) a w:=by
 refine wpList_plain hgd fun K hK=>?_
 obtain ⟨v',w',hr,h2,h3⟩:=run_append_sl (P:=P) (w:=w) base t o.type e i z size bytes ht hi hz hsize hby hzs hsz v n xs hown y B m ys hsl h1 h63 hbytes hbase
 unfold Oper.wp execOp
 simp only [ho,resolve,invoke,builtin,Sem.run_bind,Sem.run_pure,Result.andThen_ok,List.map_toArray,List.map_cons,List.map_nil,hs,hx,hr]
 exact hK _ _ (h v' w' h2 h3)
end
end
section -- FAid
open Go Go.RowKit Go.Shelf
theorem info_parts {P:Program} {t:TypeId} {z:Value} {a b:Nat} (h:(P.info? t).map (fun i=>(i.zero,i.size,i.bytes)) = some (some z,a,b)):∃ i,P.info? t = some i∧i.zero = some z∧i.size = a∧i.bytes = b:=by
 cases hi:P.info? t with
 | none=>rw [hi] at h;simp at h
 | some i =>
   rw [hi] at h
   simp only [Option.map_some,Option.some.injEq,Prod.mk.injEq] at h
   exact ⟨i,rfl,h.1,h.2.1,h.2.2⟩
theorem cell_new2 (w:World) (o:Obj) (C:Array Value) (t:TypeId) (fr:Nat × Nat) (i:Nat):((w.alloc o).alloc (.cells C t fr)).cell? ⟨w.heap.size + 1,i,none⟩ = C[i]?:=by
 have:=cell_new (w.alloc o) C t fr i
 rwa [World.size_alloc] at this
theorem ownsRow_below {w W:World} {base:Nat} {e:TypeId} {sz n:Nat} {v:Value} {xs:List Value} (h:w.ownsRow base e sz v n xs) (hb:Below w.heap.size w W):W.ownsRow base e sz v n xs:=(Fr.of_below (T:=fun _=>False) hb (Nat.le_refl _)).own h (fun _ _ h=>h)
def genK (l:List Rul) (a b:Int) (k:Nat):List Fir:=genL (l.take k) a b
theorem genK_next (l:List Rul) (a b:Int) {k:Nat} (hk:k < l.length):genK l a b (k + 1) = genK l a b k ++ genR l[k] a b:=by
 unfold genK genL
 rw [List.take_succ_eq_append_getElem hk,List.flatMap_append]
 simp
theorem genR_next (r:Rul) {a y:Int} (h:a ≤ y):genR r a y = genR r a (y - 1) ++ if ofB r y then [firOf r y] else []:=by
 rw [genR_split r (show a ≤ y - 1 + 1 by omega) (show y - 1 ≤ y by omega),show y - 1 + 1 = y by omega]
 congr 1
 unfold genR yrs
 rw [show (y + 1 - y).toNat = 1 by omega]
 simp
 split <;> simp_all
def cmpZ (a b:Int):Int:=if a < b then -1 else if a > b then 1 else 0
theorem isNaN_any (a:Int) (w:World):Calls Tryz.prog 127 #[.int .i64 a] w fun e w'=>e = .returned (.bool false)∧w' = w:=by
 go_enter Tryz.func127,Tryz.ntmps127
 go_wp2_with fail
 go_ret
 exact ⟨rfl,rfl⟩
theorem cmpInt_any (a b:Int) (w:World) :
  Calls Tryz.prog 98 #[.int .i64 a,.int .i64 b] w fun e w'=>e = .returned (.int .i64 (cmpZ a b))∧w' = w:=by
 have HN:=Lib.hid (fun (a:Int) W=>isNaN_any a W)
 by_cases h1:a < b
 ·have HV:=Lib.hid (show cmpZ a b = -1 by unfold cmpZ;rw [if_pos h1])
  have hd:decide (a < b) = true:=decide_eq_true h1
  go_enter Tryz.func98,Tryz.ntmps98
  go_wp2_with fail
  refine (HN.out _ _).mono ?_
  rintro e w1 ⟨rfl,rfl⟩
  go_wp2_with fail
  refine (HN.out _ _).mono ?_
  rintro e w1 ⟨rfl,rfl⟩
  go_wp2_with fail
  go_ret
  exact ⟨by rw [HV.out];rfl,rfl⟩
 ·have hd:decide (a < b) = false:=decide_eq_false h1
  by_cases h2:b < a
  ·have HV:=Lib.hid (show cmpZ a b = 1 by unfold cmpZ;rw [if_neg h1,if_pos h2])
   have he:decide (b < a) = true:=decide_eq_true h2
   go_enter Tryz.func98,Tryz.ntmps98
   go_wp2_with fail
   refine (HN.out _ _).mono ?_
   rintro e w1 ⟨rfl,rfl⟩
   go_wp2_with fail
   refine (HN.out _ _).mono ?_
   rintro e w1 ⟨rfl,rfl⟩
   go_wp2_with fail
   go_ret
   exact ⟨by rw [HV.out];rfl,rfl⟩
  ·have HV:=Lib.hid (show cmpZ a b = 0 by unfold cmpZ;rw [if_neg h1,if_neg h2])
   have he:decide (b < a) = false:=decide_eq_false h2
   go_enter Tryz.func98,Tryz.ntmps98
   go_wp2_with fail
   refine (HN.out _ _).mono ?_
   rintro e w1 ⟨rfl,rfl⟩
   go_wp2_with fail
   refine (HN.out _ _).mono ?_
   rintro e w1 ⟨rfl,rfl⟩
   go_wp2_with fail
   go_ret
   exact ⟨by rw [HV.out];rfl,rfl⟩
end
section -- FSmall
open Go Go.RowKit Go.Shelf
def smallR (r:Rul):Bool:=decide (1900 ≤ r.from_∧r.from_ ≤ 2100∧r.from_ ≤ r.to_∧1 ≤ r.month∧r.month ≤ 12∧-172800 ≤ r.sec∧r.sec ≤ 259200∧0 ≤ r.kind∧r.kind ≤ 2) && dayOkB r.dk r.dw r.dn
def smallB (l:List Rul):Bool:=l.all smallR && decide (l.length ≤ 6)
theorem small_no {l:List Rul} {k:Nat} (hk:k < l.length) (h:smallR l[k] = false):smallB l = false:=by
 unfold smallB
 rw [Bool.and_eq_false_iff]
 left
 rw [List.all_eq_false]
 exact ⟨l[k],List.getElem_mem hk,by rw [h];decide⟩
theorem small_yes {l:List Rul} (h:∀ k (hk:k < l.length),smallR l[k] = true):smallB l = decide (l.length ≤ 6):=by
 unfold smallB
 rw [List.all_eq_true.2 (fun r hr=>by obtain ⟨k,hk,rfl⟩:=List.getElem_of_mem hr;exact h k hk),Bool.true_and]
theorem small_any (w:World) (B:Nat) (v:Value) (l:List Rul) (hv:Ruls w B v l) (hB:B ≤ w.heap.size) :
  Calls Tryz.prog 83 #[v] w fun e w'=>e = .returned (.bool (smallB l))∧Below w.heap.size w w':=by
 obtain ⟨A,c,rfl,hlc,hcm⟩:=hv.form
 unfold maxLen at hcm
 have HV:=Lib.hid hv
 clear hv
 go_enter Tryz.func83,Tryz.ntmps83
 go_wp2_with fail
 go_loopw [3] (fun iv wr=>∃ k:Nat,k ≤ l.length∧iv = .int .i64 k∧(∀ j (hj:j < l.length),j < k→smallR l[j] = true)∧Below w.heap.size w wr) (fun iv _=>l.length - (intOf iv).toNat)
 case atStart=>exact ⟨0,Nat.zero_le _,rfl,fun j _ h=>by omega,Below.refl _ _⟩
 case round =>
  obtain ⟨k,hk,rfl,hsm,hbw⟩:=hrel
  have HSM:=Lib.hid hsm
  have HBW:=Lib.hid hbw
  have hws:=hbw.size
  clear hsm hbw
  by_cases hlt:k < l.length
  ·have hd:decide ((k:Int) < (l.length:Int)) = true:=decide_eq_true (by omega)
   obtain ⟨bb,o,c',e,hbb,hc⟩:=(HV.out.below (HBW.out.mono hB)).cells (by omega)
   cases e
   obtain ⟨c0,c1,c2,c3,c4,c5,c6,c7,c8,c9,c10⟩:=hc k hlt
   have HNO:=Lib.hid (small_no hlt)
   have HYES:=Lib.hid (fun (h:smallR l[k] = true)=>show ∀ j (hj:j < l.length),j < k + 1→smallR l[j] = true from fun j hj hjk=>by
    rcases Nat.lt_or_ge j k with h1 | h1
    ·exact HSM.out j hj h1
    ·have:j = k:=by omega
     subst this
     exact h)
   obtain ⟨r,hr⟩:∃ r,l[k] = r:=⟨_,rfl⟩
   rw [hr] at c0 c1 c2 c3 c4 c5 c6 c7 c8 c9 c10 HNO HYES
   have HDF:=Lib.hid (dfcheck_any r.dk r.dw r.dn (wr.alloc (.cells #[.string r.name,.int .i64 r.from_,.int .i64 r.to_,.int .i64 r.month,.int .i64 r.dk,.int .i64 r.dw,.int .i64 r.dn,.int .i64 r.sec,.int .i64 r.kind,.int .i64 r.save,.string r.letter] 106)))
   unfold dayA at HDF
   clear hr hc
   have hc:True:=trivial
   by_cases h1:r.from_ < 1900
   ·
    have HS:=Lib.hid (HNO.out (by unfold smallR;simp only [Bool.and_eq_false_iff,decide_eq_false_iff_not];left;omega))
    clear hc
    go_wp2_with fail
    go_ret
    exact ⟨by rw [HS.out];rfl,HBW.out.alloc hws _⟩
   ·by_cases h2:2100 < r.from_
    ·
     have HS:=Lib.hid (HNO.out (by unfold smallR;simp only [Bool.and_eq_false_iff,decide_eq_false_iff_not];left;omega))
     clear hc
     go_wp2_with fail
     go_ret
     exact ⟨by rw [HS.out];rfl,HBW.out.alloc hws _⟩
    ·by_cases h3:r.to_ < r.from_
     ·
      have HS:=Lib.hid (HNO.out (by unfold smallR;simp only [Bool.and_eq_false_iff,decide_eq_false_iff_not];left;omega))
      clear hc
      go_wp2_with fail
      go_ret
      exact ⟨by rw [HS.out];rfl,HBW.out.alloc hws _⟩
     ·by_cases h4:r.month < 1
      ·
       have HS:=Lib.hid (HNO.out (by unfold smallR;simp only [Bool.and_eq_false_iff,decide_eq_false_iff_not];left;omega))
       clear hc
       go_wp2_with fail
       go_ret
       exact ⟨by rw [HS.out];rfl,HBW.out.alloc hws _⟩
      ·by_cases h5:12 < r.month
       ·
        have HS:=Lib.hid (HNO.out (by unfold smallR;simp only [Bool.and_eq_false_iff,decide_eq_false_iff_not];left;omega))
        clear hc
        go_wp2_with fail
        go_ret
        exact ⟨by rw [HS.out];rfl,HBW.out.alloc hws _⟩
       ·by_cases h6:r.sec < -172800
        ·
         have HS:=Lib.hid (HNO.out (by unfold smallR;simp only [Bool.and_eq_false_iff,decide_eq_false_iff_not];left;omega))
         clear hc
         go_wp2_with fail
         go_ret
         exact ⟨by rw [HS.out];rfl,HBW.out.alloc hws _⟩
        ·by_cases h7:259200 < r.sec
         ·
          have HS:=Lib.hid (HNO.out (by unfold smallR;simp only [Bool.and_eq_false_iff,decide_eq_false_iff_not];left;omega))
          clear hc
          go_wp2_with fail
          go_ret
          exact ⟨by rw [HS.out];rfl,HBW.out.alloc hws _⟩
         ·by_cases h8:r.kind < 0
          ·
           have HS:=Lib.hid (HNO.out (by unfold smallR;simp only [Bool.and_eq_false_iff,decide_eq_false_iff_not];left;omega))
           clear hc
           go_wp2_with fail
           go_ret
           exact ⟨by rw [HS.out];rfl,HBW.out.alloc hws _⟩
          ·by_cases h9:2 < r.kind
           ·
            have HS:=Lib.hid (HNO.out (by unfold smallR;simp only [Bool.and_eq_false_iff,decide_eq_false_iff_not];left;omega))
            clear hc
            go_wp2_with fail
            go_ret
            exact ⟨by rw [HS.out];rfl,HBW.out.alloc hws _⟩
           ·have HR0:=Lib.hid (show decide (1900 ≤ r.from_∧r.from_ ≤ 2100∧r.from_ ≤ r.to_∧1 ≤ r.month∧r.month ≤ 12∧-172800 ≤ r.sec∧r.sec ≤ 259200∧0 ≤ r.kind∧r.kind ≤ 2) = true by rw [decide_eq_true_eq];omega)
            cases hok:dayOkB r.dk r.dw r.dn with
            | false =>
              have HS:=Lib.hid (HNO.out (by unfold smallR;rw [hok,Bool.and_false]))
              rw [hok] at HDF
              simp only [Bool.false_eq_true,if_false] at HDF
              clear hok
              go_wp2_with fail
              refine HDF.out.mono ?_
              rintro e w2 ⟨rfl,hb⟩
              have HB2:=Lib.hid ((HBW.out.alloc hws _).trans (hb.mono (by simp;omega)))
              clear hb
              go_wp2_with fail
              go_ret
              exact ⟨by rw [HS.out];rfl,HB2.out⟩
            | true =>
              have HS:=Lib.hid (HYES.out (by unfold smallR;rw [hok,HR0.out];rfl))
              rw [hok] at HDF
              simp only [if_true] at HDF
              clear hok
              go_wp2_with fail
              refine HDF.out.mono ?_
              rintro e w2 ⟨rfl,hb⟩
              have HB2:=Lib.hid ((HBW.out.alloc hws _).trans (hb.mono (by simp;omega)))
              clear hb
              go_wp2_with fail
              go_roundw
              case rel=>exact ⟨k + 1,by omega,by go_num,HS.out,HB2.out⟩
              case measure=>first | (simp [intOf];done) | (simp [intOf];omega)
  ·obtain rfl:k = l.length:=by omega
   have HS:=Lib.hid (small_yes (fun k hk=>HSM.out k hk hk))
   by_cases h6:l.length ≤ 6
   ·rw [decide_eq_true h6] at HS
    go_wp2_with fail
    go_ret
    exact ⟨by rw [HS.out];simp;omega,HBW.out⟩
   ·rw [decide_eq_false h6] at HS
    go_wp2_with fail
    go_ret
    exact ⟨by rw [HS.out];simp;omega,HBW.out⟩
end
end Go.Proofs.YteekjfgjmccdnaaGreatDoor
