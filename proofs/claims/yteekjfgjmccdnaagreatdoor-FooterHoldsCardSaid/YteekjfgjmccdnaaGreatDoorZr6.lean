/-
  Layer 11's reference walked: days, weekdays.
-/
import Derived.Test.YteekjfgjmccdnaaGreatDoorZr5
set_option maxHeartbeats 16000000
set_option maxRecDepth 100000
namespace Go.Proofs.YteekjfgjmccdnaaGreatDoor
section -- PBest
open Go Go.RowKit Go.Shelf
def firO (o:Option Fir):Fir:=match o with | some f=>f | none=>.zero
def resO (o:Option Fir):Value:=.tuple #[firA (firO o),.bool o.isSome]
abbrev FirB (W:World) (b:Nat) (f:Fir):Prop:=Blk W b 112 (firV f).toArray
def leftY (r:Rul) (st:Int) (may:Fir→Bool) (y0:Int) (j:Nat):Prop:=j ≤ 12∧tryY r st may 12 y0 = tryY r st may (12 - j) (y0 + st * j)
theorem leftY.next {r:Rul} {st:Int} {may:Fir→Bool} {y0:Int} {j:Nat} (h:leftY r st may y0 j) (hj:j < 12) (hn:(ofB r (y0 + st * j) && may (firOf r (y0 + st * j))) = false):leftY r st may y0 (j + 1):=by
 refine ⟨by omega,?_⟩;rw [h.2,show 12 - j = (12 - (j + 1)) + 1 by omega,tryY,hn,if_neg (by decide)]
 congr 1
 push_cast;rw [Int.mul_add];omega
theorem leftY.hit {r:Rul} {st:Int} {may:Fir→Bool} {y0:Int} {j:Nat} (h:leftY r st may y0 j) (hj:j < 12) (hn:(ofB r (y0 + st * j) && may (firOf r (y0 + st * j))) = true):tryY r st may 12 y0 = some (firOf r (y0 + st * j)):=by
 rw [h.2,show 12 - j = (12 - (j + 1)) + 1 by omega,tryY,hn,if_pos rfl]
theorem leftY.out {r:Rul} {st:Int} {may:Fir→Bool} {y0:Int} (h:leftY r st may y0 12):tryY r st may 12 y0 = none:=by
 rw [h.2];rfl
theorem best_Ahead (w:World) (B:Nat) (v:Value) (l:List Rul) (hv:Ruls w B v l) (hB:B ≤ w.heap.size) (ha:Ahead w) (b1 b3:Nat) (yr:Rul→Int) (st:Int) (better:Fir→Fir→Bool) (may:Fir→Bool)
  (hst:-1 ≤ st∧st ≤ 1) (hyr:∀ r ∈ l,-4000000000000000000 ≤ yr r∧yr r ≤ 4000000000000000000)
  (hy:∀ r ∈ l,∀ W,Below w.heap.size w W→Calls Tryz.prog 100 #[rulA r,.pointer (some ⟨b1,0,none⟩)] W fun e W'=>e = .returned (.tuple #[.int .i64 (yr r),.int .i64 st])∧Below W.heap.size W W')
  (hb:∀ a b W,Calls Tryz.prog 102 #[firA a,firA b] W fun e W'=>e = .returned (.bool (better a b))∧Below W.heap.size W W')
  (hm:∀ f W,Below w.heap.size w W→Calls Tryz.prog 103 #[firA f,.pointer (some ⟨b3,0,none⟩)] W fun e W'=>e = .returned (.bool (may f))∧Below W.heap.size W W') :
  Calls Tryz.prog 101 #[v,.func (.func 100) #[] #[.pointer (some ⟨b1,0,none⟩)],.func (.func 102) #[] #[],.func (.func 103) #[] #[.pointer (some ⟨b3,0,none⟩)]] w fun e w'=>e = .returned (resO (pickV l yr st better may))∧Below w.heap.size w w':=by
 have HV:=Lib.hid hv;have HA:=Lib.hid ha;have HY:=Lib.hid hy;have HBT:=Lib.hid hb;have HM:=Lib.hid hm;have HYR:=Lib.hid hyr;obtain ⟨A,c,rfl,hlc,hcm⟩:=hv.form;unfold maxLen at hcm;have HB0:=Lib.hid (((Below.refl w.heap.size w).alloc (Nat.le_refl _) (.cells (firV .zero).toArray 112)).alloc (by simp) (.cells (firV .zero).toArray 112));have ho0:=Blk.new (w.alloc (.cells (firV .zero).toArray 112)) 112 (firV .zero).toArray;have hr0:=(Blk.new w 112 (firV .zero).toArray).alloc (.cells (firV .zero).toArray 112);rw [World.size_alloc] at ho0;have HO0:=Lib.hid (show FirB _ _ (firO (pickV (l.take 0) yr st better may)) from ho0);have HR0:=Lib.hid hr0;clear hv ha hy hb hm hyr ho0 hr0;unfold firV Fir.zero at HB0 HR0;unfold firV Fir.zero at HO0;go_enter Tryz.func101,Tryz.ntmps101;go_wp2_with fail;go_step3;go_wp2_with fail;go_step3;go_wp2_with fail
 go_loopw [11,20] (fun fv iv wr=>∃ k:Nat,k ≤ l.length∧iv = .int .i64 k∧fv = .bool (pickV (l.take k) yr st better may).isSome∧FirB wr (w.heap.size + 1) (firO (pickV (l.take k) yr st better may))∧FirB wr w.heap.size .zero∧Below w.heap.size w wr) (fun _ iv _=>l.length - (intOf iv).toNat)
 case atStart=>exact ⟨0,Nat.zero_le _,rfl,rfl,HO0.out,HR0.out,HB0.out⟩
 case round =>
  clear HO0 HR0 HB0;obtain ⟨k,hk,rfl,rfl,hfb,hf0,hbw⟩:=hrel;obtain ⟨o,ho⟩:∃ o,pickV (l.take k) yr st better may = o:=⟨_,rfl⟩;rw [ho] at hfb ⊢;have HFB:=Lib.hid hfb;have HF0:=Lib.hid hf0;have HBW:=Lib.hid hbw;have hws:=hbw.size;have hfl:=Blk.lt hfb;clear hfb hf0 hbw
  by_cases hlt:k < l.length
  ·have hd:decide ((k:Int) < (l.length:Int)) = true:=decide_eq_true (by omega);obtain ⟨bb,o1,c',e,hbb,hc⟩:=(HV.out.below (HBW.out.mono hB)).cells (by omega)
   cases e
   obtain ⟨c0,c1,c2,c3,c4,c5,c6,c7,c8,c9,c10⟩:=hc k hlt;have HNX:=Lib.hid (pickV_next hlt yr st better may);rw [ho] at HNX;have hyk:=HY.out l[k] (List.getElem_mem hlt);have hyrk:=HYR.out l[k] (List.getElem_mem hlt);obtain ⟨r,hr⟩:∃ r,l[k] = r:=⟨_,rfl⟩;rw [hr] at c0 c1 c2 c3 c4 c5 c6 c7 c8 c9 c10 HNX hyk hyrk;have HYK:=Lib.hid hyk;have HO:=Lib.hid ho;obtain ⟨y0,hy0⟩:∃ y0,yr r = y0:=⟨_,rfl⟩;rw [hy0] at hyrk HYK HNX;clear hc hr hyk ho hy0;unfold rulA at HYK;go_wp2_with fail;refine (HYK.out _ ?b1).mono ?_
   case b1=>exact HBW.out.alloc hws _
   rintro e w2 ⟨rfl,hb⟩;have HR2:=Lib.hid (show RulB w2 wr.heap.size r from Blk.below (Blk.new wr _ _) hb (Blk.lt (Blk.new wr _ _)));have hb2:Below w.heap.size w w2:=(HBW.out.alloc hws _).trans (hb.mono (by rw [World.size_alloc];omega));have HB2:=Lib.hid hb2;have HFB2:=Lib.hid (show FirB w2 (w.heap.size + 1) (firO o) from Blk.below (Blk.alloc HFB.out _) hb (by rw [World.size_alloc];omega));have HF02:=Lib.hid (show FirB w2 w.heap.size .zero from Blk.below (Blk.alloc HF0.out _) hb (by rw [World.size_alloc];omega));obtain ⟨BX,hBX⟩:∃ n,wr.heap.size = n:=⟨_,rfl⟩;rw [hBX] at HR2 hws hfl ⊢;clear hb hb2 c0 c1 c2 c3 c4 c5 c6 c7 c8 c9 c10 HFB HF0 HBW hBX HYK;go_wp2_with fail
   go_loopw [11,14,30] (fun fv yv jv wi=>∃ j:Nat,fv = .bool o.isSome∧jv = .int .i64 j∧yv = .int .i64 (y0 + st * j)∧leftY r st may y0 j∧RulB wi BX r∧FirB wi (w.heap.size + 1) (firO o)∧FirB wi w.heap.size .zero∧Below w.heap.size w wi) (fun _ _ jv _=>12 - (intOf jv).toNat)
   case atStart=>exact ⟨0,rfl,rfl,by simp,⟨by omega,by simp⟩,HR2.out,HFB2.out,HF02.out,HB2.out⟩
   case round =>
    clear HR2 HB2 HFB2 HF02;obtain ⟨j,rfl,rfl,rfl,hle,hrb,hfb,hf0,hbw⟩:=hrel;have HLE:=Lib.hid hle;have HFB:=Lib.hid hfb;have HF0:=Lib.hid hf0;have HRB:=Lib.hid hrb;have HBI:=Lib.hid hbw;have hj12:=hle.1;have hwi:=hbw.size;have hBl:=Blk.lt hrb;have hfl2:=Blk.lt hfb;clear hle hfb hf0 hrb hbw
    by_cases hjl:j < 12
    ·have hd2:decide ((j:Int) < 12) = true:=decide_eq_true (by omega);obtain ⟨y,hyv⟩:∃ y,y0 + st * (j:Int) = y:=⟨_,rfl⟩
     have hyr2:-4500000000000000000 ≤ y∧y ≤ 4500000000000000000:=by
      have e1:-1 * (j:Int) ≤ st * j:=Int.mul_le_mul_of_nonneg_right hst.1 (by omega);have e2:st * (j:Int) ≤ 1 * j:=Int.mul_le_mul_of_nonneg_right hst.2 (by omega);omega
     have HOF:=Lib.hid (fof_any r y wr (HA.out.below HBI.out (Nat.le_refl _)));have HYV:=Lib.hid (show y0 + st * ((j + 1:Nat):Int) = y + st by rw [← hyv];push_cast;rw [Int.mul_add];omega);have HMY:=Lib.hid (fun (W:World) (hb:Below w.heap.size w W)=>HM.out (firOf r y) W hb);rw [hyv];have q0:=Blk.cell HRB.out 0 (v:=.string r.name) rfl;have q1:=Blk.cell HRB.out 1 (v:=.int .i64 r.from_) rfl;have q2:=Blk.cell HRB.out 2 (v:=.int .i64 r.to_) rfl;have q3:=Blk.cell HRB.out 3 (v:=.int .i64 r.month) rfl;have q4:=Blk.cell HRB.out 4 (v:=.int .i64 r.dk) rfl;have q5:=Blk.cell HRB.out 5 (v:=.int .i64 r.dw) rfl;have q6:=Blk.cell HRB.out 6 (v:=.int .i64 r.dn) rfl;have q7:=Blk.cell HRB.out 7 (v:=.int .i64 r.sec) rfl;have q8:=Blk.cell HRB.out 8 (v:=.int .i64 r.kind) rfl;have q9:=Blk.cell HRB.out 9 (v:=.int .i64 r.save) rfl;have q10:=Blk.cell HRB.out 10 (v:=.string r.letter) rfl;unfold rulA at HOF
     cases hof:ofB r y with
     | false =>
       have hn:(ofB r (y0 + st * (j:Int)) && may (firOf r (y0 + st * (j:Int)))) = false:=by rw [hyv,hof];rfl
       have HL2:=Lib.hid (HLE.out.next hjl hn);have hov:ofV r y = .zero:=by unfold ofV;rw [hof];rfl
       rw [hof,hov] at HOF;unfold firA Fir.zero at HOF;clear hn hov hof HMY;go_wp2_with fail;refine HOF.out.mono ?_;rintro e w3 ⟨rfl,hb⟩;have hb3:Below wr.heap.size wr (w3.alloc (.cells #[.int .i64 0,.int .i64 0,.int .i64 0,.string ⟨#[]⟩] 112)):=hb.alloc hb.size _;have HB3:=Lib.hid hb3;clear hb hb3 q0 q1 q2 q3 q4 q5 q6 q7 q8 q9 q10;go_wp2_with fail;go_roundw
       case rel=>exact ⟨j + 1,rfl,by go_num,by rw [HYV.out],HL2.out,Blk.below HRB.out HB3.out hBl,Blk.below HFB.out HB3.out hfl2,Blk.below HF0.out HB3.out (by omega),HBI.out.trans (HB3.out.mono hwi)⟩
       case measure=>simp [intOf];omega
     | true =>
       have hov:ofV r y = firOf r y:=by unfold ofV;rw [hof];rfl
       rw [hof,hov] at HOF;obtain ⟨f,hf⟩:∃ f,firOf r y = f:=⟨_,rfl⟩;rw [hf] at HOF HMY;unfold firA at HOF HMY;clear hov
       cases hmy:may f with
       | false =>
         have hn:(ofB r (y0 + st * (j:Int)) && may (firOf r (y0 + st * (j:Int)))) = false:=by rw [hyv,hf,hmy,Bool.and_false]
         have HL2:=Lib.hid (HLE.out.next hjl hn);rw [hmy] at HMY;clear hn hof hf hmy;go_wp2_with fail;refine HOF.out.mono ?_;rintro e w3 ⟨rfl,hb⟩;have hb3:Below wr.heap.size wr (w3.alloc (.cells #[.int .i64 f.nominal,.int .i64 f.kind,.int .i64 f.save,.string f.letter] 112)):=hb.alloc hb.size _;have HB3:=Lib.hid hb3;clear hb hb3 q0 q1 q2 q3 q4 q5 q6 q7 q8 q9 q10;go_wp2_with fail;refine (HMY.out _ (HBI.out.trans (HB3.out.mono hwi))).mono ?_;rintro e w4 ⟨rfl,hb⟩;have HB4:=Lib.hid (HB3.out.trans (hb.mono HB3.out.size));clear hb;go_wp2_with fail;go_roundw
         case rel=>exact ⟨j + 1,rfl,by go_num,by rw [HYV.out],HL2.out,Blk.below HRB.out HB4.out hBl,Blk.below HFB.out HB4.out hfl2,Blk.below HF0.out HB4.out (by omega),HBI.out.trans (HB4.out.mono hwi)⟩
         case measure=>simp [intOf];omega
       | true =>
         have hn:(ofB r (y0 + st * (j:Int)) && may (firOf r (y0 + st * (j:Int)))) = true:=by rw [hyv,hf,hmy,hof];rfl
         have HHT:=Lib.hid (HLE.out.hit hjl hn);rw [hyv,hf] at HHT;rw [HHT.out] at HNX;rw [hmy] at HMY;clear hn hof hf hmy;go_wp2_with fail;refine HOF.out.mono ?_;rintro e w3 ⟨rfl,hb⟩;have hb3:Below wr.heap.size wr (w3.alloc (.cells #[.int .i64 f.nominal,.int .i64 f.kind,.int .i64 f.save,.string f.letter] 112)):=hb.alloc hb.size _;have HB3:=Lib.hid hb3;have HX3:=Lib.hid (Blk.new w3 112 #[.int .i64 f.nominal,.int .i64 f.kind,.int .i64 f.save,.string f.letter]);clear hb hb3 q0 q1 q2 q3 q4 q5 q6 q7 q8 q9 q10;go_wp2_with fail;refine (HMY.out _ (HBI.out.trans (HB3.out.mono hwi))).mono ?_;rintro e w4 ⟨rfl,hb⟩;have HB4:=Lib.hid (HB3.out.trans (hb.mono HB3.out.size));have HX4:=Lib.hid (HX3.out.below hb HX3.out.lt);have HFB4:=Lib.hid (show FirB w4 (w.heap.size + 1) (firO o) from Blk.below HFB.out HB4.out hfl2);have HF04:=Lib.hid (show FirB w4 w.heap.size .zero from Blk.below HF0.out HB4.out (by omega));have HBW4:=Lib.hid (HBI.out.trans (HB4.out.mono hwi));clear hb
         cases o with
         | none =>
           have HN2:=Lib.hid (show pickV (l.take (k + 1)) yr st better may = some f from HNX.out);have hf4:=HFB4.out.lt;have s0:=HFB4.out.cell 0 (v:=.int .i64 0) rfl;have s1:=HFB4.out.cell 1 (v:=.int .i64 0) rfl;have s2:=HFB4.out.cell 2 (v:=.int .i64 0) rfl;have s3:=HFB4.out.cell 3 (v:=.string ⟨#[]⟩) rfl;have g0:=HFB4.out.frozen 0;have g1:=HFB4.out.frozen 1;have g2:=HFB4.out.frozen 2;have g3:=HFB4.out.frozen 3;have x0:=HX4.out.cell 0 (v:=.int .i64 f.nominal) rfl;have x1:=HX4.out.cell 1 (v:=.int .i64 f.kind) rfl;have x2:=HX4.out.cell 2 (v:=.int .i64 f.save) rfl;have x3:=HX4.out.cell 3 (v:=.string f.letter) rfl;have hx:=HX4.out.lt;go_wp2_with fail;exact ⟨⟨k + 1,by omega,by go_num,by rw [HN2.out] <;> rfl,by rw [HN2.out];exact (((HFB4.out.set 0 _).set 1 _).set 2 _).set 3 _,(((HF04.out.other (by omega) 0 _).other (by omega) 1 _).other (by omega) 2 _).other (by omega) 3 _,below_set4 HBW4.out (by omega) _ _ _ _⟩,by simp [intOf];omega⟩
         | some x =>
           have HBX:=Lib.hid (fun W=>HBT.out f x W);unfold firA at HBX;have hf4:=HFB4.out.lt;have s0:=HFB4.out.cell 0 (v:=.int .i64 x.nominal) rfl;have s1:=HFB4.out.cell 1 (v:=.int .i64 x.kind) rfl;have s2:=HFB4.out.cell 2 (v:=.int .i64 x.save) rfl;have s3:=HFB4.out.cell 3 (v:=.string x.letter) rfl;have x0:=HX4.out.cell 0 (v:=.int .i64 f.nominal) rfl;have x1:=HX4.out.cell 1 (v:=.int .i64 f.kind) rfl;have x2:=HX4.out.cell 2 (v:=.int .i64 f.save) rfl;have x3:=HX4.out.cell 3 (v:=.string f.letter) rfl;have hx:=HX4.out.lt
           cases hbt:better f x with
           | false =>
             have HN2:=Lib.hid (show pickV (l.take (k + 1)) yr st better may = some x from HNX.out.trans (by unfold pickS;simp only;rw [hbt];rfl));rw [hbt] at HBX;clear hbt;go_wp2_with fail;refine (HBX.out _).mono ?_;rintro e w5 ⟨rfl,hb⟩;have HFB5:=Lib.hid (show FirB w5 (w.heap.size + 1) x from Blk.below HFB4.out hb hf4);have HF05:=Lib.hid (show FirB w5 w.heap.size .zero from Blk.below HF04.out hb (by omega));have HBW5:=Lib.hid (HBW4.out.trans (hb.mono HBW4.out.size));have HX5:=Lib.hid (HX4.out.below hb HX4.out.lt);have hf5:=HFB5.out.lt;clear hb s0 s1 s2 s3 x0 x1 x2 x3;go_wp2_with fail;exact ⟨⟨k + 1,by omega,by go_num,by rw [HN2.out] <;> rfl,by rw [HN2.out];exact HFB5.out,HF05.out,HBW5.out⟩,by simp [intOf];omega⟩
           | true =>
             have HN2:=Lib.hid (show pickV (l.take (k + 1)) yr st better may = some f from HNX.out.trans (by unfold pickS;simp only;rw [hbt];rfl));rw [hbt] at HBX;clear hbt;go_wp2_with fail;refine (HBX.out _).mono ?_;rintro e w5 ⟨rfl,hb⟩;have HFB5:=Lib.hid (show FirB w5 (w.heap.size + 1) x from Blk.below HFB4.out hb hf4);have HF05:=Lib.hid (show FirB w5 w.heap.size .zero from Blk.below HF04.out hb (by omega));have HBW5:=Lib.hid (HBW4.out.trans (hb.mono HBW4.out.size));have HX5:=Lib.hid (HX4.out.below hb HX4.out.lt);have hf5:=HFB5.out.lt;clear hb s0 s1 s2 s3 x0 x1 x2 x3;have s0:=HFB5.out.cell 0 (v:=.int .i64 x.nominal) rfl;have s1:=HFB5.out.cell 1 (v:=.int .i64 x.kind) rfl;have s2:=HFB5.out.cell 2 (v:=.int .i64 x.save) rfl;have s3:=HFB5.out.cell 3 (v:=.string x.letter) rfl;have g0:=HFB5.out.frozen 0;have g1:=HFB5.out.frozen 1;have g2:=HFB5.out.frozen 2;have g3:=HFB5.out.frozen 3;have x0:=HX5.out.cell 0 (v:=.int .i64 f.nominal) rfl;have x1:=HX5.out.cell 1 (v:=.int .i64 f.kind) rfl;have x2:=HX5.out.cell 2 (v:=.int .i64 f.save) rfl;have x3:=HX5.out.cell 3 (v:=.string f.letter) rfl;have hx5:=HX5.out.lt;go_wp2_with fail;exact ⟨⟨k + 1,by omega,by go_num,by rw [HN2.out] <;> rfl,by rw [HN2.out];exact (((HFB5.out.set 0 _).set 1 _).set 2 _).set 3 _,(((HF05.out.other (by omega) 0 _).other (by omega) 1 _).other (by omega) 2 _).other (by omega) 3 _,below_set4 HBW5.out (by omega) _ _ _ _⟩,by simp [intOf];omega⟩
    ·obtain rfl:j = 12:=by omega
     have hd2:decide (((12:Nat):Int) < 12) = false:=by decide
     have HN2:=Lib.hid (show pickV (l.take (k + 1)) yr st better may = o by rw [HNX.out,HLE.out.out];rfl);go_wp2_with fail;exact ⟨⟨k + 1,by omega,by go_num,by rw [HN2.out],by rw [HN2.out];exact HFB.out,HF0.out,HBI.out⟩,by simp [intOf];omega⟩
  ·obtain rfl:k = l.length:=by omega
   have hd:decide ((l.length:Int) < (l.length:Int)) = false:=decide_eq_false (by omega);rw [List.take_length] at ho;have HO:=Lib.hid ho;obtain ⟨f,hf⟩:∃ f,firO o = f:=⟨_,rfl⟩;have HFO:=Lib.hid hf;rw [hf] at HFB;have q0:=HFB.out.cell 0 (v:=.int .i64 f.nominal) rfl;have q1:=HFB.out.cell 1 (v:=.int .i64 f.kind) rfl;have q2:=HFB.out.cell 2 (v:=.int .i64 f.save) rfl;have q3:=HFB.out.cell 3 (v:=.string f.letter) rfl;have hf0l:=Blk.lt HF0.out;have p0:=HF0.out.cell 0 (v:=.int .i64 0) rfl;have p1:=HF0.out.cell 1 (v:=.int .i64 0) rfl;have p2:=HF0.out.cell 2 (v:=.int .i64 0) rfl;have p3:=HF0.out.cell 3 (v:=.string ⟨#[]⟩) rfl;have z0:=HF0.out.frozen 0;have z1:=HF0.out.frozen 1;have z2:=HF0.out.frozen 2;have z3:=HF0.out.frozen 3;clear hf ho;go_wp2_with fail;have HX:=Lib.hid (((HF0.out.set 0 (.int .i64 f.nominal)).set 1 (.int .i64 f.kind)).set 2 (.int .i64 f.save) |>.set 3 (.string f.letter));have v0:=HX.out.cell 0 (v:=.int .i64 f.nominal) rfl;have v1:=HX.out.cell 1 (v:=.int .i64 f.kind) rfl;have v2:=HX.out.cell 2 (v:=.int .i64 f.save) rfl;have v3:=HX.out.cell 3 (v:=.string f.letter) rfl;rw [Exit.noGoto_ret];refine bodyPost_ret (v:=resO o) ?_ rfl ⟨by rw [HO.out],below_set4 HBW.out (by omega) _ _ _ _⟩;unfold resO;rw [HFO.out];simp [results,Tryz.f101,go_sem,v0,v1,v2,v3,firA]
theorem best_Behind (w:World) (B:Nat) (v:Value) (l:List Rul) (hv:Ruls w B v l) (hB:B ≤ w.heap.size) (ha:Ahead w) (b1 b3:Nat) (yr:Rul→Int) (st:Int) (better:Fir→Fir→Bool) (may:Fir→Bool)
  (hst:-1 ≤ st∧st ≤ 1) (hyr:∀ r ∈ l,-4000000000000000000 ≤ yr r∧yr r ≤ 4000000000000000000)
  (hy:∀ r ∈ l,∀ W,Below w.heap.size w W→Calls Tryz.prog 144 #[rulA r,.pointer (some ⟨b1,0,none⟩)] W fun e W'=>e = .returned (.tuple #[.int .i64 (yr r),.int .i64 st])∧Below W.heap.size W W')
  (hb:∀ a b W,Calls Tryz.prog 145 #[firA a,firA b] W fun e W'=>e = .returned (.bool (better a b))∧Below W.heap.size W W')
  (hm:∀ f W,Below w.heap.size w W→Calls Tryz.prog 146 #[firA f,.pointer (some ⟨b3,0,none⟩)] W fun e W'=>e = .returned (.bool (may f))∧Below W.heap.size W W') :
  Calls Tryz.prog 101 #[v,.func (.func 144) #[] #[.pointer (some ⟨b1,0,none⟩)],.func (.func 145) #[] #[],.func (.func 146) #[] #[.pointer (some ⟨b3,0,none⟩)]] w fun e w'=>e = .returned (resO (pickV l yr st better may))∧Below w.heap.size w w':=by
 have HV:=Lib.hid hv;have HA:=Lib.hid ha;have HY:=Lib.hid hy;have HBT:=Lib.hid hb;have HM:=Lib.hid hm;have HYR:=Lib.hid hyr;obtain ⟨A,c,rfl,hlc,hcm⟩:=hv.form;unfold maxLen at hcm;have HB0:=Lib.hid (((Below.refl w.heap.size w).alloc (Nat.le_refl _) (.cells (firV .zero).toArray 112)).alloc (by simp) (.cells (firV .zero).toArray 112));have ho0:=Blk.new (w.alloc (.cells (firV .zero).toArray 112)) 112 (firV .zero).toArray;have hr0:=(Blk.new w 112 (firV .zero).toArray).alloc (.cells (firV .zero).toArray 112);rw [World.size_alloc] at ho0;have HO0:=Lib.hid (show FirB _ _ (firO (pickV (l.take 0) yr st better may)) from ho0);have HR0:=Lib.hid hr0;clear hv ha hy hb hm hyr ho0 hr0;unfold firV Fir.zero at HB0 HR0;unfold firV Fir.zero at HO0;go_enter Tryz.func101,Tryz.ntmps101;go_wp2_with fail;go_step3;go_wp2_with fail;go_step3;go_wp2_with fail
 go_loopw [11,20] (fun fv iv wr=>∃ k:Nat,k ≤ l.length∧iv = .int .i64 k∧fv = .bool (pickV (l.take k) yr st better may).isSome∧FirB wr (w.heap.size + 1) (firO (pickV (l.take k) yr st better may))∧FirB wr w.heap.size .zero∧Below w.heap.size w wr) (fun _ iv _=>l.length - (intOf iv).toNat)
 case atStart=>exact ⟨0,Nat.zero_le _,rfl,rfl,HO0.out,HR0.out,HB0.out⟩
 case round =>
  clear HO0 HR0 HB0;obtain ⟨k,hk,rfl,rfl,hfb,hf0,hbw⟩:=hrel;obtain ⟨o,ho⟩:∃ o,pickV (l.take k) yr st better may = o:=⟨_,rfl⟩;rw [ho] at hfb ⊢;have HFB:=Lib.hid hfb;have HF0:=Lib.hid hf0;have HBW:=Lib.hid hbw;have hws:=hbw.size;have hfl:=Blk.lt hfb;clear hfb hf0 hbw
  by_cases hlt:k < l.length
  ·have hd:decide ((k:Int) < (l.length:Int)) = true:=decide_eq_true (by omega);obtain ⟨bb,o1,c',e,hbb,hc⟩:=(HV.out.below (HBW.out.mono hB)).cells (by omega)
   cases e
   obtain ⟨c0,c1,c2,c3,c4,c5,c6,c7,c8,c9,c10⟩:=hc k hlt;have HNX:=Lib.hid (pickV_next hlt yr st better may);rw [ho] at HNX;have hyk:=HY.out l[k] (List.getElem_mem hlt);have hyrk:=HYR.out l[k] (List.getElem_mem hlt);obtain ⟨r,hr⟩:∃ r,l[k] = r:=⟨_,rfl⟩;rw [hr] at c0 c1 c2 c3 c4 c5 c6 c7 c8 c9 c10 HNX hyk hyrk;have HYK:=Lib.hid hyk;have HO:=Lib.hid ho;obtain ⟨y0,hy0⟩:∃ y0,yr r = y0:=⟨_,rfl⟩;rw [hy0] at hyrk HYK HNX;clear hc hr hyk ho hy0;unfold rulA at HYK;go_wp2_with fail;refine (HYK.out _ ?b1).mono ?_
   case b1=>exact HBW.out.alloc hws _
   rintro e w2 ⟨rfl,hb⟩;have HR2:=Lib.hid (show RulB w2 wr.heap.size r from Blk.below (Blk.new wr _ _) hb (Blk.lt (Blk.new wr _ _)));have hb2:Below w.heap.size w w2:=(HBW.out.alloc hws _).trans (hb.mono (by rw [World.size_alloc];omega));have HB2:=Lib.hid hb2;have HFB2:=Lib.hid (show FirB w2 (w.heap.size + 1) (firO o) from Blk.below (Blk.alloc HFB.out _) hb (by rw [World.size_alloc];omega));have HF02:=Lib.hid (show FirB w2 w.heap.size .zero from Blk.below (Blk.alloc HF0.out _) hb (by rw [World.size_alloc];omega));obtain ⟨BX,hBX⟩:∃ n,wr.heap.size = n:=⟨_,rfl⟩;rw [hBX] at HR2 hws hfl ⊢;clear hb hb2 c0 c1 c2 c3 c4 c5 c6 c7 c8 c9 c10 HFB HF0 HBW hBX HYK;go_wp2_with fail
   go_loopw [11,14,30] (fun fv yv jv wi=>∃ j:Nat,fv = .bool o.isSome∧jv = .int .i64 j∧yv = .int .i64 (y0 + st * j)∧leftY r st may y0 j∧RulB wi BX r∧FirB wi (w.heap.size + 1) (firO o)∧FirB wi w.heap.size .zero∧Below w.heap.size w wi) (fun _ _ jv _=>12 - (intOf jv).toNat)
   case atStart=>exact ⟨0,rfl,rfl,by simp,⟨by omega,by simp⟩,HR2.out,HFB2.out,HF02.out,HB2.out⟩
   case round =>
    clear HR2 HB2 HFB2 HF02;obtain ⟨j,rfl,rfl,rfl,hle,hrb,hfb,hf0,hbw⟩:=hrel;have HLE:=Lib.hid hle;have HFB:=Lib.hid hfb;have HF0:=Lib.hid hf0;have HRB:=Lib.hid hrb;have HBI:=Lib.hid hbw;have hj12:=hle.1;have hwi:=hbw.size;have hBl:=Blk.lt hrb;have hfl2:=Blk.lt hfb;clear hle hfb hf0 hrb hbw
    by_cases hjl:j < 12
    ·have hd2:decide ((j:Int) < 12) = true:=decide_eq_true (by omega);obtain ⟨y,hyv⟩:∃ y,y0 + st * (j:Int) = y:=⟨_,rfl⟩
     have hyr2:-4500000000000000000 ≤ y∧y ≤ 4500000000000000000:=by
      have e1:-1 * (j:Int) ≤ st * j:=Int.mul_le_mul_of_nonneg_right hst.1 (by omega);have e2:st * (j:Int) ≤ 1 * j:=Int.mul_le_mul_of_nonneg_right hst.2 (by omega);omega
     have HOF:=Lib.hid (fof_any r y wr (HA.out.below HBI.out (Nat.le_refl _)));have HYV:=Lib.hid (show y0 + st * ((j + 1:Nat):Int) = y + st by rw [← hyv];push_cast;rw [Int.mul_add];omega);have HMY:=Lib.hid (fun (W:World) (hb:Below w.heap.size w W)=>HM.out (firOf r y) W hb);rw [hyv];have q0:=Blk.cell HRB.out 0 (v:=.string r.name) rfl;have q1:=Blk.cell HRB.out 1 (v:=.int .i64 r.from_) rfl;have q2:=Blk.cell HRB.out 2 (v:=.int .i64 r.to_) rfl;have q3:=Blk.cell HRB.out 3 (v:=.int .i64 r.month) rfl;have q4:=Blk.cell HRB.out 4 (v:=.int .i64 r.dk) rfl;have q5:=Blk.cell HRB.out 5 (v:=.int .i64 r.dw) rfl;have q6:=Blk.cell HRB.out 6 (v:=.int .i64 r.dn) rfl;have q7:=Blk.cell HRB.out 7 (v:=.int .i64 r.sec) rfl;have q8:=Blk.cell HRB.out 8 (v:=.int .i64 r.kind) rfl;have q9:=Blk.cell HRB.out 9 (v:=.int .i64 r.save) rfl;have q10:=Blk.cell HRB.out 10 (v:=.string r.letter) rfl;unfold rulA at HOF
     cases hof:ofB r y with
     | false =>
       have hn:(ofB r (y0 + st * (j:Int)) && may (firOf r (y0 + st * (j:Int)))) = false:=by rw [hyv,hof];rfl
       have HL2:=Lib.hid (HLE.out.next hjl hn);have hov:ofV r y = .zero:=by unfold ofV;rw [hof];rfl
       rw [hof,hov] at HOF;unfold firA Fir.zero at HOF;clear hn hov hof HMY;go_wp2_with fail;refine HOF.out.mono ?_;rintro e w3 ⟨rfl,hb⟩;have hb3:Below wr.heap.size wr (w3.alloc (.cells #[.int .i64 0,.int .i64 0,.int .i64 0,.string ⟨#[]⟩] 112)):=hb.alloc hb.size _;have HB3:=Lib.hid hb3;clear hb hb3 q0 q1 q2 q3 q4 q5 q6 q7 q8 q9 q10;go_wp2_with fail;go_roundw
       case rel=>exact ⟨j + 1,rfl,by go_num,by rw [HYV.out],HL2.out,Blk.below HRB.out HB3.out hBl,Blk.below HFB.out HB3.out hfl2,Blk.below HF0.out HB3.out (by omega),HBI.out.trans (HB3.out.mono hwi)⟩
       case measure=>simp [intOf];omega
     | true =>
       have hov:ofV r y = firOf r y:=by unfold ofV;rw [hof];rfl
       rw [hof,hov] at HOF;obtain ⟨f,hf⟩:∃ f,firOf r y = f:=⟨_,rfl⟩;rw [hf] at HOF HMY;unfold firA at HOF HMY;clear hov
       cases hmy:may f with
       | false =>
         have hn:(ofB r (y0 + st * (j:Int)) && may (firOf r (y0 + st * (j:Int)))) = false:=by rw [hyv,hf,hmy,Bool.and_false]
         have HL2:=Lib.hid (HLE.out.next hjl hn);rw [hmy] at HMY;clear hn hof hf hmy;go_wp2_with fail;refine HOF.out.mono ?_;rintro e w3 ⟨rfl,hb⟩;have hb3:Below wr.heap.size wr (w3.alloc (.cells #[.int .i64 f.nominal,.int .i64 f.kind,.int .i64 f.save,.string f.letter] 112)):=hb.alloc hb.size _;have HB3:=Lib.hid hb3;clear hb hb3 q0 q1 q2 q3 q4 q5 q6 q7 q8 q9 q10;go_wp2_with fail;refine (HMY.out _ (HBI.out.trans (HB3.out.mono hwi))).mono ?_;rintro e w4 ⟨rfl,hb⟩;have HB4:=Lib.hid (HB3.out.trans (hb.mono HB3.out.size));clear hb;go_wp2_with fail;go_roundw
         case rel=>exact ⟨j + 1,rfl,by go_num,by rw [HYV.out],HL2.out,Blk.below HRB.out HB4.out hBl,Blk.below HFB.out HB4.out hfl2,Blk.below HF0.out HB4.out (by omega),HBI.out.trans (HB4.out.mono hwi)⟩
         case measure=>simp [intOf];omega
       | true =>
         have hn:(ofB r (y0 + st * (j:Int)) && may (firOf r (y0 + st * (j:Int)))) = true:=by rw [hyv,hf,hmy,hof];rfl
         have HHT:=Lib.hid (HLE.out.hit hjl hn);rw [hyv,hf] at HHT;rw [HHT.out] at HNX;rw [hmy] at HMY;clear hn hof hf hmy;go_wp2_with fail;refine HOF.out.mono ?_;rintro e w3 ⟨rfl,hb⟩;have hb3:Below wr.heap.size wr (w3.alloc (.cells #[.int .i64 f.nominal,.int .i64 f.kind,.int .i64 f.save,.string f.letter] 112)):=hb.alloc hb.size _;have HB3:=Lib.hid hb3;have HX3:=Lib.hid (Blk.new w3 112 #[.int .i64 f.nominal,.int .i64 f.kind,.int .i64 f.save,.string f.letter]);clear hb hb3 q0 q1 q2 q3 q4 q5 q6 q7 q8 q9 q10;go_wp2_with fail;refine (HMY.out _ (HBI.out.trans (HB3.out.mono hwi))).mono ?_;rintro e w4 ⟨rfl,hb⟩;have HB4:=Lib.hid (HB3.out.trans (hb.mono HB3.out.size));have HX4:=Lib.hid (HX3.out.below hb HX3.out.lt);have HFB4:=Lib.hid (show FirB w4 (w.heap.size + 1) (firO o) from Blk.below HFB.out HB4.out hfl2);have HF04:=Lib.hid (show FirB w4 w.heap.size .zero from Blk.below HF0.out HB4.out (by omega));have HBW4:=Lib.hid (HBI.out.trans (HB4.out.mono hwi));clear hb
         cases o with
         | none =>
           have HN2:=Lib.hid (show pickV (l.take (k + 1)) yr st better may = some f from HNX.out);have hf4:=HFB4.out.lt;have s0:=HFB4.out.cell 0 (v:=.int .i64 0) rfl;have s1:=HFB4.out.cell 1 (v:=.int .i64 0) rfl;have s2:=HFB4.out.cell 2 (v:=.int .i64 0) rfl;have s3:=HFB4.out.cell 3 (v:=.string ⟨#[]⟩) rfl;have g0:=HFB4.out.frozen 0;have g1:=HFB4.out.frozen 1;have g2:=HFB4.out.frozen 2;have g3:=HFB4.out.frozen 3;have x0:=HX4.out.cell 0 (v:=.int .i64 f.nominal) rfl;have x1:=HX4.out.cell 1 (v:=.int .i64 f.kind) rfl;have x2:=HX4.out.cell 2 (v:=.int .i64 f.save) rfl;have x3:=HX4.out.cell 3 (v:=.string f.letter) rfl;have hx:=HX4.out.lt;go_wp2_with fail;exact ⟨⟨k + 1,by omega,by go_num,by rw [HN2.out] <;> rfl,by rw [HN2.out];exact (((HFB4.out.set 0 _).set 1 _).set 2 _).set 3 _,(((HF04.out.other (by omega) 0 _).other (by omega) 1 _).other (by omega) 2 _).other (by omega) 3 _,below_set4 HBW4.out (by omega) _ _ _ _⟩,by simp [intOf];omega⟩
         | some x =>
           have HBX:=Lib.hid (fun W=>HBT.out f x W);unfold firA at HBX;have hf4:=HFB4.out.lt;have s0:=HFB4.out.cell 0 (v:=.int .i64 x.nominal) rfl;have s1:=HFB4.out.cell 1 (v:=.int .i64 x.kind) rfl;have s2:=HFB4.out.cell 2 (v:=.int .i64 x.save) rfl;have s3:=HFB4.out.cell 3 (v:=.string x.letter) rfl;have x0:=HX4.out.cell 0 (v:=.int .i64 f.nominal) rfl;have x1:=HX4.out.cell 1 (v:=.int .i64 f.kind) rfl;have x2:=HX4.out.cell 2 (v:=.int .i64 f.save) rfl;have x3:=HX4.out.cell 3 (v:=.string f.letter) rfl;have hx:=HX4.out.lt
           cases hbt:better f x with
           | false =>
             have HN2:=Lib.hid (show pickV (l.take (k + 1)) yr st better may = some x from HNX.out.trans (by unfold pickS;simp only;rw [hbt];rfl));rw [hbt] at HBX;clear hbt;go_wp2_with fail;refine (HBX.out _).mono ?_;rintro e w5 ⟨rfl,hb⟩;have HFB5:=Lib.hid (show FirB w5 (w.heap.size + 1) x from Blk.below HFB4.out hb hf4);have HF05:=Lib.hid (show FirB w5 w.heap.size .zero from Blk.below HF04.out hb (by omega));have HBW5:=Lib.hid (HBW4.out.trans (hb.mono HBW4.out.size));have HX5:=Lib.hid (HX4.out.below hb HX4.out.lt);have hf5:=HFB5.out.lt;clear hb s0 s1 s2 s3 x0 x1 x2 x3;go_wp2_with fail;exact ⟨⟨k + 1,by omega,by go_num,by rw [HN2.out] <;> rfl,by rw [HN2.out];exact HFB5.out,HF05.out,HBW5.out⟩,by simp [intOf];omega⟩
           | true =>
             have HN2:=Lib.hid (show pickV (l.take (k + 1)) yr st better may = some f from HNX.out.trans (by unfold pickS;simp only;rw [hbt];rfl));rw [hbt] at HBX;clear hbt;go_wp2_with fail;refine (HBX.out _).mono ?_;rintro e w5 ⟨rfl,hb⟩;have HFB5:=Lib.hid (show FirB w5 (w.heap.size + 1) x from Blk.below HFB4.out hb hf4);have HF05:=Lib.hid (show FirB w5 w.heap.size .zero from Blk.below HF04.out hb (by omega));have HBW5:=Lib.hid (HBW4.out.trans (hb.mono HBW4.out.size));have HX5:=Lib.hid (HX4.out.below hb HX4.out.lt);have hf5:=HFB5.out.lt;clear hb s0 s1 s2 s3 x0 x1 x2 x3;have s0:=HFB5.out.cell 0 (v:=.int .i64 x.nominal) rfl;have s1:=HFB5.out.cell 1 (v:=.int .i64 x.kind) rfl;have s2:=HFB5.out.cell 2 (v:=.int .i64 x.save) rfl;have s3:=HFB5.out.cell 3 (v:=.string x.letter) rfl;have g0:=HFB5.out.frozen 0;have g1:=HFB5.out.frozen 1;have g2:=HFB5.out.frozen 2;have g3:=HFB5.out.frozen 3;have x0:=HX5.out.cell 0 (v:=.int .i64 f.nominal) rfl;have x1:=HX5.out.cell 1 (v:=.int .i64 f.kind) rfl;have x2:=HX5.out.cell 2 (v:=.int .i64 f.save) rfl;have x3:=HX5.out.cell 3 (v:=.string f.letter) rfl;have hx5:=HX5.out.lt;go_wp2_with fail;exact ⟨⟨k + 1,by omega,by go_num,by rw [HN2.out] <;> rfl,by rw [HN2.out];exact (((HFB5.out.set 0 _).set 1 _).set 2 _).set 3 _,(((HF05.out.other (by omega) 0 _).other (by omega) 1 _).other (by omega) 2 _).other (by omega) 3 _,below_set4 HBW5.out (by omega) _ _ _ _⟩,by simp [intOf];omega⟩
    ·obtain rfl:j = 12:=by omega
     have hd2:decide (((12:Nat):Int) < 12) = false:=by decide
     have HN2:=Lib.hid (show pickV (l.take (k + 1)) yr st better may = o by rw [HNX.out,HLE.out.out];rfl);go_wp2_with fail;exact ⟨⟨k + 1,by omega,by go_num,by rw [HN2.out],by rw [HN2.out];exact HFB.out,HF0.out,HBI.out⟩,by simp [intOf];omega⟩
  ·obtain rfl:k = l.length:=by omega
   have hd:decide ((l.length:Int) < (l.length:Int)) = false:=decide_eq_false (by omega);rw [List.take_length] at ho;have HO:=Lib.hid ho;obtain ⟨f,hf⟩:∃ f,firO o = f:=⟨_,rfl⟩;have HFO:=Lib.hid hf;rw [hf] at HFB;have q0:=HFB.out.cell 0 (v:=.int .i64 f.nominal) rfl;have q1:=HFB.out.cell 1 (v:=.int .i64 f.kind) rfl;have q2:=HFB.out.cell 2 (v:=.int .i64 f.save) rfl;have q3:=HFB.out.cell 3 (v:=.string f.letter) rfl;have hf0l:=Blk.lt HF0.out;have p0:=HF0.out.cell 0 (v:=.int .i64 0) rfl;have p1:=HF0.out.cell 1 (v:=.int .i64 0) rfl;have p2:=HF0.out.cell 2 (v:=.int .i64 0) rfl;have p3:=HF0.out.cell 3 (v:=.string ⟨#[]⟩) rfl;have z0:=HF0.out.frozen 0;have z1:=HF0.out.frozen 1;have z2:=HF0.out.frozen 2;have z3:=HF0.out.frozen 3;clear hf ho;go_wp2_with fail;have HX:=Lib.hid (((HF0.out.set 0 (.int .i64 f.nominal)).set 1 (.int .i64 f.kind)).set 2 (.int .i64 f.save) |>.set 3 (.string f.letter));have v0:=HX.out.cell 0 (v:=.int .i64 f.nominal) rfl;have v1:=HX.out.cell 1 (v:=.int .i64 f.kind) rfl;have v2:=HX.out.cell 2 (v:=.int .i64 f.save) rfl;have v3:=HX.out.cell 3 (v:=.string f.letter) rfl;rw [Exit.noGoto_ret];refine bodyPost_ret (v:=resO o) ?_ rfl ⟨by rw [HO.out],below_set4 HBW.out (by omega) _ _ _ _⟩;unfold resO;rw [HFO.out];simp [results,Tryz.f101,go_sem,v0,v1,v2,v3,firA]
end
section -- PLate
open Go Go.RowKit Go.Shelf
def yrOk (l:List Rul):Prop:=∀ r ∈ l,(-4000000000000000000 ≤ r.from_∧r.from_ ≤ 4000000000000000000)∧-4000000000000000000 ≤ r.to_
theorem secYear_in (s:Int):-100001 ≤ secYear s∧secYear s ≤ 100001:=by
 unfold secYear
 split
 ·rename_i h;unfold ofInB at h;rw [decide_eq_true_eq] at h;have:=dateB_in (of_date h.1 h.2).1;omega
 ·omega
theorem fahead_any (w:World) (v:Value) (l:List Rul) (hv:Ruls w w.heap.size v l) (ha:Ahead w) (ho:yrOk l) (s:Int) (h1:-9223372036854775808 ≤ s) (h2:s ≤ 9223372036854775807) :
  Calls Tryz.prog 60 #[v,.int .i64 s] w fun e w'=>e = .returned (resO (aheadF l s))∧Below w.heap.size w w':=by
 have HY:=Lib.hid (fyear_any s h1 h2 (w.alloc (.cells #[.int .i64 s] 3) |>.alloc (.cells (firV .zero).toArray 112)) ((ha.below ((Below.refl w.heap.size w).alloc (Nat.le_refl _) _) (Nat.le_refl _)).below ((Below.refl (w.alloc (.cells #[.int .i64 s] 3)).heap.size (w.alloc (.cells #[.int .i64 s] 3))).alloc (Nat.le_refl _) _) (Nat.le_refl _)));have hb0:Below w.heap.size w ((w.alloc (.cells #[.int .i64 s] 3)).alloc (.cells (firV .zero).toArray 112)):=((Below.refl w.heap.size w).alloc (Nat.le_refl _) _).alloc (by simp) _;have hs0:=(Blk.new w 3 #[.int .i64 s]).alloc (.cells (firV .zero).toArray 112);have hr0:=Blk.new (w.alloc (.cells #[.int .i64 s] 3)) 112 (firV .zero).toArray;rw [World.size_alloc] at hr0;have HV:=Lib.hid hv;have HA:=Lib.hid ha;have HO:=Lib.hid ho;have hyi:=secYear_in s;obtain ⟨Y,hY⟩:∃ Y,secYear s = Y:=⟨_,rfl⟩;have HF:=Lib.hid (show aheadF l s = pickV l (fun r=>min r.to_ (Y + 1)) (-1) geB (underB s) by unfold aheadF;rw [hY]);rw [hY] at HY hyi;clear hY hv ha ho;unfold firV Fir.zero at HY hb0 hs0 hr0;go_enter Tryz.func60,Tryz.ntmps60;go_wp2_with fail;refine HY.out.mono ?_;rintro e w1 ⟨rfl,hb⟩;have hs1:=hs0.below hb hs0.lt;have hr1:=hr0.below hb hr0.lt;have hb1:=hb0.trans (hb.mono hb0.size);have hz1:=hb1.size;have HS2:=Lib.hid (hs1.alloc (.cells #[.int .i64 (Y + 1)] 3));have HR2:=Lib.hid (hr1.alloc (.cells #[.int .i64 (Y + 1)] 3));have HL2:=Lib.hid (Blk.new w1 3 #[.int .i64 (Y + 1)]);have HB2:=Lib.hid (hb1.alloc hz1 (.cells #[.int .i64 (Y + 1)] 3));have hrl:=hr1.lt;have hll:=HL2.out.lt;have hsl:=HS2.out.lt;clear hb hb0 hs0 hr0 hs1 hr1 hb1 HY;go_wp2_with fail
 have HBE:=Lib.hid (best_Ahead _ w.heap.size v l (HV.out.below HB2.out |>.more (Nat.le_refl _)) HB2.out.size (HA.out.below HB2.out (Nat.le_refl _)) w1.heap.size w.heap.size (fun r=>min r.to_ (Y + 1)) (-1) geB (underB s) (by omega) (fun r hr=>by have:=HO.out r hr;omega)
  (fun r hr W hb=>ahead1_any W r w1.heap.size (Y + 1) ((HL2.out.below hb hll).cell 0 rfl)) (fun a b W=>ahead2_any W a b) (fun f W hb=>ahead3_any W f w.heap.size s ((HS2.out.below hb hsl).cell 0 rfl)))
 rw [← HF.out] at HBE;refine HBE.out.mono ?_;rintro e w2 ⟨rfl,hb⟩;have HR3:=Lib.hid (HR2.out.below hb HR2.out.lt);have HB3:=Lib.hid (HB2.out.trans (hb.mono HB2.out.size));clear hb HR2 HB2 HBE;obtain ⟨o,hoo⟩:∃ o,aheadF l s = o:=⟨_,rfl⟩;rw [hoo];have HOO:=Lib.hid hoo;clear hoo;obtain ⟨f,hf⟩:∃ f,firO o = f:=⟨_,rfl⟩;have HFO:=Lib.hid (show resO o = .tuple #[firA f,.bool o.isSome] by unfold resO;rw [hf]);unfold resO;rw [hf];unfold firA;have hr3:=HR3.out.lt;have p0:=HR3.out.cell 0 (v:=.int .i64 0) rfl;have p1:=HR3.out.cell 1 (v:=.int .i64 0) rfl;have p2:=HR3.out.cell 2 (v:=.int .i64 0) rfl;have p3:=HR3.out.cell 3 (v:=.string ⟨#[]⟩) rfl;have z0:=HR3.out.frozen 0;have z1:=HR3.out.frozen 1;have z2:=HR3.out.frozen 2;have z3:=HR3.out.frozen 3;clear hf;go_wp2_with fail;have HX:=Lib.hid (((HR3.out.set 0 (.int .i64 f.nominal)).set 1 (.int .i64 f.kind)).set 2 (.int .i64 f.save) |>.set 3 (.string f.letter));have v0:=HX.out.cell 0 (v:=.int .i64 f.nominal) rfl;have v1:=HX.out.cell 1 (v:=.int .i64 f.kind) rfl;have v2:=HX.out.cell 2 (v:=.int .i64 f.save) rfl;have v3:=HX.out.cell 3 (v:=.string f.letter) rfl;refine bodyPost_ret (v:=resO o) ?_ rfl ⟨by rw [HOO.out],below_set4 HB3.out (by omega) _ _ _ _⟩;rw [HFO.out];simp [results,Tryz.f60,go_sem,v0,v1,v2,v3,firA]
theorem fbehind_any (w:World) (v:Value) (l:List Rul) (hv:Ruls w w.heap.size v l) (ha:Ahead w) (ho:yrOk l) (s:Int) (h1:-9223372036854775808 ≤ s) (h2:s ≤ 9223372036854775807) :
  Calls Tryz.prog 117 #[v,.int .i64 s] w fun e w'=>e = .returned (resO (behindF l s))∧Below w.heap.size w w':=by
 have HY:=Lib.hid (fyear_any s h1 h2 (w.alloc (.cells #[.int .i64 s] 3) |>.alloc (.cells (firV .zero).toArray 112)) ((ha.below ((Below.refl w.heap.size w).alloc (Nat.le_refl _) _) (Nat.le_refl _)).below ((Below.refl (w.alloc (.cells #[.int .i64 s] 3)).heap.size (w.alloc (.cells #[.int .i64 s] 3))).alloc (Nat.le_refl _) _) (Nat.le_refl _)));have hb0:Below w.heap.size w ((w.alloc (.cells #[.int .i64 s] 3)).alloc (.cells (firV .zero).toArray 112)):=((Below.refl w.heap.size w).alloc (Nat.le_refl _) _).alloc (by simp) _;have hs0:=(Blk.new w 3 #[.int .i64 s]).alloc (.cells (firV .zero).toArray 112);have hr0:=Blk.new (w.alloc (.cells #[.int .i64 s] 3)) 112 (firV .zero).toArray;rw [World.size_alloc] at hr0;have HV:=Lib.hid hv;have HA:=Lib.hid ha;have HO:=Lib.hid ho;have hyi:=secYear_in s;obtain ⟨Y,hY⟩:∃ Y,secYear s = Y:=⟨_,rfl⟩;have HF:=Lib.hid (show behindF l s = pickV l (fun r=>max r.from_ (Y - 1)) (1) ltB (atB s) by unfold behindF;rw [hY]);rw [hY] at HY hyi;clear hY hv ha ho;unfold firV Fir.zero at HY hb0 hs0 hr0;go_enter Tryz.func117,Tryz.ntmps117;go_wp2_with fail;refine HY.out.mono ?_;rintro e w1 ⟨rfl,hb⟩;have hs1:=hs0.below hb hs0.lt;have hr1:=hr0.below hb hr0.lt;have hb1:=hb0.trans (hb.mono hb0.size);have hz1:=hb1.size;have HS2:=Lib.hid (hs1.alloc (.cells #[.int .i64 (Y - 1)] 3));have HR2:=Lib.hid (hr1.alloc (.cells #[.int .i64 (Y - 1)] 3));have HL2:=Lib.hid (Blk.new w1 3 #[.int .i64 (Y - 1)]);have HB2:=Lib.hid (hb1.alloc hz1 (.cells #[.int .i64 (Y - 1)] 3));have hrl:=hr1.lt;have hll:=HL2.out.lt;have hsl:=HS2.out.lt;clear hb hb0 hs0 hr0 hs1 hr1 hb1 HY;go_wp2_with fail
 have HBE:=Lib.hid (best_Behind _ w.heap.size v l (HV.out.below HB2.out |>.more (Nat.le_refl _)) HB2.out.size (HA.out.below HB2.out (Nat.le_refl _)) w1.heap.size w.heap.size (fun r=>max r.from_ (Y - 1)) (1) ltB (atB s) (by omega) (fun r hr=>by have:=HO.out r hr;omega)
  (fun r hr W hb=>behind1_any W r w1.heap.size (Y - 1) ((HL2.out.below hb hll).cell 0 rfl)) (fun a b W=>behind2_any W a b) (fun f W hb=>behind3_any W f w.heap.size s ((HS2.out.below hb hsl).cell 0 rfl)))
 rw [← HF.out] at HBE;refine HBE.out.mono ?_;rintro e w2 ⟨rfl,hb⟩;have HR3:=Lib.hid (HR2.out.below hb HR2.out.lt);have HB3:=Lib.hid (HB2.out.trans (hb.mono HB2.out.size));clear hb HR2 HB2 HBE;obtain ⟨o,hoo⟩:∃ o,behindF l s = o:=⟨_,rfl⟩;rw [hoo];have HOO:=Lib.hid hoo;clear hoo;obtain ⟨f,hf⟩:∃ f,firO o = f:=⟨_,rfl⟩;have HFO:=Lib.hid (show resO o = .tuple #[firA f,.bool o.isSome] by unfold resO;rw [hf]);unfold resO;rw [hf];unfold firA;have hr3:=HR3.out.lt;have p0:=HR3.out.cell 0 (v:=.int .i64 0) rfl;have p1:=HR3.out.cell 1 (v:=.int .i64 0) rfl;have p2:=HR3.out.cell 2 (v:=.int .i64 0) rfl;have p3:=HR3.out.cell 3 (v:=.string ⟨#[]⟩) rfl;have z0:=HR3.out.frozen 0;have z1:=HR3.out.frozen 1;have z2:=HR3.out.frozen 2;have z3:=HR3.out.frozen 3;clear hf;go_wp2_with fail;have HX:=Lib.hid (((HR3.out.set 0 (.int .i64 f.nominal)).set 1 (.int .i64 f.kind)).set 2 (.int .i64 f.save) |>.set 3 (.string f.letter));have v0:=HX.out.cell 0 (v:=.int .i64 f.nominal) rfl;have v1:=HX.out.cell 1 (v:=.int .i64 f.kind) rfl;have v2:=HX.out.cell 2 (v:=.int .i64 f.save) rfl;have v3:=HX.out.cell 3 (v:=.string f.letter) rfl;refine bodyPost_ret (v:=resO o) ?_ rfl ⟨by rw [HOO.out],below_set4 HB3.out (by omega) _ _ _ _⟩;rw [HFO.out];simp [results,Tryz.f117,go_sem,v0,v1,v2,v3,firA]
end
section -- PLatest
open Go Go.RowKit Go.Shelf
theorem saveO_firO (o:Option Fir):saveO o = (firO o).save:=by cases o <;> rfl
theorem savedF_in {l:List Rul} (hs:svOk l) (f:Fir):-1000000000000000 ≤ savedF l f∧savedF l f ≤ 1000000000000000:=by
 unfold savedF
 cases h:aheadF l f.nominal with
 | none=>exact ⟨by decide,by decide⟩
 | some x=>exact hs x (ahead_mem h).1
theorem saved_any (w:World) (v:Value) (l:List Rul) (hv:Ruls w w.heap.size v l) (ha:Ahead w) (ho:yrOk l) (f:Fir) (hf:-4000000000000 ≤ f.nominal∧f.nominal ≤ 4000000000000) :
  Calls Tryz.prog 93 #[v,firA f] w fun e w'=>e = .returned (.int .i64 (savedF l f))∧Below w.heap.size w w':=by
 have hb0:Below w.heap.size w (w.alloc (.cells (firV f).toArray 112)):=(Below.refl w.heap.size w).alloc (Nat.le_refl _) _;have hx0:=Blk.new w 112 (firV f).toArray;have HA:=Lib.hid (fahead_any (w.alloc (.cells (firV f).toArray 112)) v l ((hv.below hb0).more hb0.size) (ha.below hb0 (Nat.le_refl _)) ho f.nominal (by omega) (by omega));have HV:=Lib.hid (show savedF l f = (firO (aheadF l f.nominal)).save by unfold savedF;exact saveO_firO _);obtain ⟨o,hoo⟩:∃ o,aheadF l f.nominal = o:=⟨_,rfl⟩;rw [hoo] at HA HV;clear hv ha ho hoo;unfold resO at HA;obtain ⟨g,hg⟩:∃ g,firO o = g:=⟨_,rfl⟩;rw [hg] at HA HV;unfold firA at HA ⊢;unfold firV at hb0 hx0 HA;clear hg;go_enter Tryz.func93,Tryz.ntmps93;go_wp2_with fail;refine HA.out.mono ?_;rintro e w1 ⟨rfl,hb⟩;have hb1:=hb0.trans (hb.mono hb0.size);have HB:=Lib.hid (hb1.alloc hb1.size (.cells #[.int .i64 g.nominal,.int .i64 g.kind,.int .i64 g.save,.string g.letter] 112));clear hb hb0 hb1 hx0 HA;go_wp2_with fail;go_ret;exact ⟨by rw [HV.out];rfl,HB.out⟩
theorem latest_any (w:World) (v:Value) (l:List Rul) (hv:Ruls w w.heap.size v l) (ha:Ahead w) (ho:yrOk l) (hsv:svOk l) (off i:Int) (ho1:-1000000000000000 ≤ off∧off ≤ 1000000000000000) (hi1:-4500000000000 ≤ i) (hi2:i ≤ 9000000000000000000) :
  Calls Tryz.prog 58 #[v,.int .i64 off,.int .i64 i] w fun e w'=>e = .returned (resO (latestF l off i))∧Below w.heap.size w w':=by
 have hb0:Below w.heap.size w (w.alloc (.cells (firV .zero).toArray 112)):=(Below.refl w.heap.size w).alloc (Nat.le_refl _) _;have hr0:=Blk.new w 112 (firV .zero).toArray;have HV:=Lib.hid hv;have HA:=Lib.hid (fun (s:Int) (h1:-9223372036854775808 ≤ s) (h2:s ≤ 9223372036854775807) (W:World) (hb:Below w.heap.size w W)=>fahead_any W v l ((hv.below hb).more hb.size) (ha.below hb (Nat.le_refl _)) ho s h1 h2);have HS:=Lib.hid (fun (f:Fir) (hf:Fires l f) (W:World) (hb:Below w.heap.size w W)=>saved_any W v l ((hv.below hb).more hb.size) (ha.below hb (Nat.le_refl _)) ho f (fires_nom hf));have HSV:=Lib.hid hsv;have HF:=Lib.hid (show latestF l off i = backF l off i ((i + 180001) + farN).toNat (aheadF l (i + 180001)) from rfl);have HT:=Lib.hid (fun f (h:aheadF l (i + 180001) = some f)=>ahead_mem h);obtain ⟨o,hoo⟩:∃ o,aheadF l (i + 180001) = o:=⟨_,rfl⟩;have h0:=HA.out (i + 180001) (by omega) (by omega) _ hb0;have e1:i + 180000 + 1 = i + 180001:=by omega
 rw [hoo] at h0 HF HT;have H0:=Lib.hid h0;clear hv ha ho hsv h0 hoo;unfold resO at H0;obtain ⟨g,hg⟩:∃ g,firO o = g:=⟨_,rfl⟩;rw [hg] at H0;unfold firA at H0;have HG:=Lib.hid hg;clear hg;unfold firV Fir.zero at hb0 hr0 H0;go_enter Tryz.func58,Tryz.ntmps58;go_wp2_with fail;refine H0.out.mono ?_;rintro e w1 ⟨rfl,hb⟩;have hb1:=hb0.trans (hb.mono hb0.size);have HR1:=Lib.hid ((hr0.below hb hr0.lt).alloc (.cells #[.int .i64 g.nominal,.int .i64 g.kind,.int .i64 g.save,.string g.letter] 112));have HX1:=Lib.hid (show FirB (w1.alloc (.cells #[.int .i64 g.nominal,.int .i64 g.kind,.int .i64 g.save,.string g.letter] 112)) w1.heap.size (firO o) by rw [HG.out];exact Blk.new w1 _ _);have hs1:=hb1.size;have HB1:=Lib.hid (hb1.alloc hs1 (.cells #[.int .i64 g.nominal,.int .i64 g.kind,.int .i64 g.save,.string g.letter] 112));have hr1:=(hr0.below hb hr0.lt).lt;obtain ⟨BX,hBX⟩:∃ n,w1.heap.size = n:=⟨_,rfl⟩;clear hb hb0 hb1 hr0 H0;go_wp2_with fail;rw [hBX] at HX1 hr1 hs1;try simp only [hBX]
 clear hBX
 go_loopw [9] (fun fv wr=>∃ o N,fv = .bool (Option.isSome o)∧FirB wr BX (firO o)∧FirB wr w.heap.size .zero∧backF l off i N o = latestF l off i∧(∀ f,o = some f→Fires l f∧f.nominal + farN < (N:Int))∧Below w.heap.size w wr) (fun fv W=>match fv with | .bool true=>(intOf ((W.cell? ⟨BX,0,none⟩).getD undef) + farN + 1).toNat | _=>0)
 case atStart=>exact ⟨o,((i + 180001) + farN).toNat,rfl,HX1.out,HR1.out,HF.out.symm,fun f hf=>⟨(HT.out f hf).1,by have:=(HT.out f hf).2;unfold farN;omega⟩,HB1.out⟩
 case round =>
  clear HX1 HR1 HB1 HF HT HG;obtain ⟨o,N,rfl,hx,hr,hbk,hfr,hbw⟩:=hrel;have HR:=Lib.hid hr;have HBK:=Lib.hid hbk;have HFR:=Lib.hid hfr;have HBW:=Lib.hid hbw;have HX:=Lib.hid hx;have hxl:=Blk.lt hx;have hrl:=Blk.lt hr;have hws:=hbw.size;clear hr hbk hfr hbw
  rcases o with _ | f
  ·have HZ:=Lib.hid (show latestF l off i = none by
    rw [← HBK.out]
    cases N <;> rfl)
   clear hx;go_wp2_with fail
   refine wp_env (fin:=?fnn) (by kernel_rfl) [18,19,20,21,22,23,24,25,26,27,28]
    [.bool false,.bool false,undef,undef,undef,undef,undef,undef,undef,undef,.bool false] (by kernel_rfl) ?finn ?stepsn ?nextn
   case finn =>
    simp only [putAll,Act.put,List.setIfInBounds_toArray,List.set_cons_succ,List.set_cons_zero]
    rfl
   case stepsn =>
    refine ⟨?_,?_,?_,?_,?_,?_,?_,?_,?_,?_,?_,trivial⟩
    all_goals first | exact .inl ⟨by kernel_rfl,rfl⟩ | refine .inr ⟨by kernel_rfl,fun w1_ hB_=>?_⟩
    all_goals
     skip
     go_simp
     first
      | exact ⟨rfl,Below.refl _ _⟩
      | ((first | rw [decide_eq_true (by omega)] | rw [decide_eq_false (by omega)] | rw [if_pos (by omega)] | rw [IntWalk.i64_in _ (by omega)]);exact ⟨rfl,Below.refl _ _⟩)
      | done
   case nextn =>
   intro w2 hb2;have hx2:FirB w2 BX (firO none):=HX.out.below hb2 hxl;have hr2:=HR.out.below hb2 hrl;have HB2:=Lib.hid (HBW.out.trans (hb2.mono hws));have hx2l:=Blk.lt hx2;have hr2l:=Blk.lt hr2;obtain ⟨q,hq⟩:∃ q,firO none = q:=⟨_,rfl⟩;have HFO:=Lib.hid (show resO none = .tuple #[firA q,.bool (Option.isSome none)] by unfold resO;rw [hq]);rw [hq] at hx2;have q0:=Blk.cell hx2 0 (v:=.int .i64 q.nominal) rfl;have q1:=Blk.cell hx2 1 (v:=.int .i64 q.kind) rfl;have q2:=Blk.cell hx2 2 (v:=.int .i64 q.save) rfl;have q3:=Blk.cell hx2 3 (v:=.string q.letter) rfl;have p0:=Blk.cell hr2 0 (v:=.int .i64 0) rfl;have p1:=Blk.cell hr2 1 (v:=.int .i64 0) rfl;have p2:=Blk.cell hr2 2 (v:=.int .i64 0) rfl;have p3:=Blk.cell hr2 3 (v:=.string ⟨#[]⟩) rfl;have z0:=Blk.frozen hr2 0;have z1:=Blk.frozen hr2 1;have z2:=Blk.frozen hr2 2;have z3:=Blk.frozen hr2 3;have HY:=Lib.hid ((((Blk.set hr2 0 (.int .i64 q.nominal)).set 1 (.int .i64 q.kind)).set 2 (.int .i64 q.save)).set 3 (.string q.letter));clear hx2 hr2 hb2 hq;go_wp2_with fail;have v0:=HY.out.cell 0 (v:=.int .i64 q.nominal) rfl;have v1:=HY.out.cell 1 (v:=.int .i64 q.kind) rfl;have v2:=HY.out.cell 2 (v:=.int .i64 q.save) rfl;have v3:=HY.out.cell 3 (v:=.string q.letter) rfl;refine bodyPost_ret (v:=resO none) ?_ rfl ⟨by rw [HZ.out],below_set4 HB2.out (by omega) _ _ _ _⟩;rw [HFO.out];simp [results,Tryz.f58,go_sem,v0,v1,v2,v3,firA]
  ·obtain ⟨hff,hfn⟩:=HFR.out f rfl;have hnom:=fires_nom hff;obtain ⟨M,rfl⟩:∃ M,N = M + 1:=⟨N - 1,by unfold farN at hfn;omega⟩;have HSF:=Lib.hid (HS.out f hff);have hsi:=savedF_in HSV.out f;have HI:=Lib.hid (fun (W:World)=>inst_any W f off (savedF l f) (by omega) ho1 hsi);have HBK2:=Lib.hid (show (if i < instF f off (savedF l f) then backF l off i M (aheadF l f.nominal) else some f) = latestF l off i from HBK.out);generalize savedF l f = sv at *;generalize instF f off sv = ins at *;rw [show firO (some f) = f from rfl] at hx HX;have HCELL:=Lib.hid (fun (W:World) (h:Below wr.heap.size wr W)=>show W.cell? ⟨BX,0,none⟩ = some (.int .i64 f.nominal)∧W.cell? ⟨BX,1,none⟩ = some (.int .i64 f.kind)∧W.cell? ⟨BX,2,none⟩ = some (.int .i64 f.save)∧W.cell? ⟨BX,3,none⟩ = some (.string f.letter) from ⟨(Blk.below HX.out h hxl).cell 0 rfl,(Blk.below HX.out h hxl).cell 1 rfl,(Blk.below HX.out h hxl).cell 2 rfl,(Blk.below HX.out h hxl).cell 3 rfl⟩);have HSC:=Lib.hid (fun (W:World) (h:Below wr.heap.size wr W)=>HSF.out W (HBW.out.trans (h.mono hws)));unfold firA at HSC HI;clear hx HSF
   by_cases hlt:i < ins
   ·have hd:decide (i < ins) = true:=decide_eq_true hlt;rw [if_pos hlt] at HBK2;go_wp2_with fail
    refine wp_env (fin:=?fnt) (by kernel_rfl) [18,19,20,21,22,23,24,25,26,27,28]
     [.bool true,.bool true,.agg #[.int .i64 f.nominal,.int .i64 f.kind,.int .i64 f.save,.string f.letter],.int .i64 off,v,.agg #[.int .i64 f.nominal,.int .i64 f.kind,.int .i64 f.save,.string f.letter],.int .i64 sv,.int .i64 ins,.int .i64 i,.bool true,.bool true] (by kernel_rfl) ?fint ?stepst ?nextt
    case fint =>
     simp only [putAll,Act.put,List.setIfInBounds_toArray,List.set_cons_succ,List.set_cons_zero]
     rfl
    case stepst =>
     refine ⟨?_,?_,?_,?_,?_,?_,?_,?_,?_,?_,?_,trivial⟩
     all_goals refine .inr ⟨by kernel_rfl,fun w1_ hB_=>?_⟩
     all_goals
      obtain ⟨d0,d1,d2,d3⟩:=HCELL.out w1_ hB_;go_simp
      first
       | exact ⟨rfl,Below.refl _ _⟩
       | exact ⟨rfl,HSC.out w1_ hB_⟩
       | exact ⟨rfl,HI.out w1_⟩
       | ((first | rw [decide_eq_true (by omega)] | rw [decide_eq_false (by omega)] | rw [if_pos (by omega)] | rw [IntWalk.i64_in _ (by omega)]);exact ⟨rfl,Below.refl _ _⟩)
       | done
    case nextt =>
    intro w2 hb2;have hb3:=HBW.out.trans (hb2.mono hws);have HX2:=Lib.hid (HX.out.below hb2 hxl);have HR2:=Lib.hid (HR.out.below hb2 hrl);have hx2l:=HX2.out.lt;have x0:=HX2.out.cell 0 (v:=.int .i64 f.nominal) rfl;have HA2:=Lib.hid (HA.out f.nominal (by omega) (by omega) w2 hb3);have HAM:=Lib.hid (fun g (h:aheadF l f.nominal = some g)=>ahead_mem h);have HB2:=Lib.hid hb3;have hs2:=hb3.size;obtain ⟨o2,ho2⟩:∃ o2,aheadF l f.nominal = o2:=⟨_,rfl⟩;rw [ho2] at HA2 HBK2 HAM;unfold resO at HA2;obtain ⟨q,hq⟩:∃ q,firO o2 = q:=⟨_,rfl⟩;have HQ:=Lib.hid hq;rw [hq] at HA2;unfold firA at HA2;clear hb2 hb3 ho2 hq;go_wp2_with fail;refine HA2.out.mono ?_;rintro e w3 ⟨rfl,hb⟩;have HX3:=Lib.hid (HX2.out.below hb hx2l);have HR3:=Lib.hid (HR2.out.below hb HR2.out.lt);have HB3:=Lib.hid (HB2.out.trans (hb.mono hs2));have hx3l:=HX3.out.lt;have q0:=HX3.out.cell 0 (v:=.int .i64 f.nominal) rfl;have q1:=HX3.out.cell 1 (v:=.int .i64 f.kind) rfl;have q2:=HX3.out.cell 2 (v:=.int .i64 f.save) rfl;have q3:=HX3.out.cell 3 (v:=.string f.letter) rfl;have z0:=HX3.out.frozen 0;have z1:=HX3.out.frozen 1;have z2:=HX3.out.frozen 2;have z3:=HX3.out.frozen 3;clear hb x0;go_wp2_with fail;have hy:=(((HX3.out.set 0 (.int .i64 q.nominal)).set 1 (.int .i64 q.kind)).set 2 (.int .i64 q.save)).set 3 (.string q.letter);go_roundw
    case rel =>
     refine ⟨o2,M,rfl,by rw [HQ.out];exact hy,(((HR3.out.other (by omega) 0 _).other (by omega) 1 _).other (by omega) 2 _).other (by omega) 3 _,HBK2.out,fun g hg=>⟨(HAM.out g hg).1,by have:=(HAM.out g hg).2;unfold farN at hfn ⊢;omega⟩,below_set4 HB3.out (by omega) _ _ _ _⟩
    case measure =>
     rw [HX.out.cell 0 (v:=.int .i64 f.nominal) rfl]
     rcases o2 with _ | g
     ·show 0 < (f.nominal + farN + 1).toNat
      unfold farN;omega
     ·obtain rfl:g = q:=HQ.out;have:=(HAM.out g rfl).2
      show (intOf ((World.cell? _ _).getD undef) + farN + 1).toNat < (f.nominal + farN + 1).toNat
      rw [hy.cell 0 (v:=.int .i64 g.nominal) rfl]
      show (g.nominal + farN + 1).toNat < _
      unfold farN;omega
   ·have hd:decide (i < ins) = false:=decide_eq_false hlt;rw [if_neg hlt] at HBK2;go_wp2_with fail
    refine wp_env (fin:=?fnf) (by kernel_rfl) [18,19,20,21,22,23,24,25,26,27,28]
     [.bool true,.bool true,.agg #[.int .i64 f.nominal,.int .i64 f.kind,.int .i64 f.save,.string f.letter],.int .i64 off,v,.agg #[.int .i64 f.nominal,.int .i64 f.kind,.int .i64 f.save,.string f.letter],.int .i64 sv,.int .i64 ins,.int .i64 i,.bool false,.bool false] (by kernel_rfl) ?finf ?stepsf ?nextf
    case finf =>
     simp only [putAll,Act.put,List.setIfInBounds_toArray,List.set_cons_succ,List.set_cons_zero]
     rfl
    case stepsf =>
     refine ⟨?_,?_,?_,?_,?_,?_,?_,?_,?_,?_,?_,trivial⟩
     all_goals refine .inr ⟨by kernel_rfl,fun w1_ hB_=>?_⟩
     all_goals
      obtain ⟨d0,d1,d2,d3⟩:=HCELL.out w1_ hB_;go_simp
      first
       | exact ⟨rfl,Below.refl _ _⟩
       | exact ⟨rfl,HSC.out w1_ hB_⟩
       | exact ⟨rfl,HI.out w1_⟩
       | ((first | rw [decide_eq_true (by omega)] | rw [decide_eq_false (by omega)] | rw [if_pos (by omega)] | rw [IntWalk.i64_in _ (by omega)]);exact ⟨rfl,Below.refl _ _⟩)
       | done
    case nextf =>
    intro w2 hb2;have hx2:FirB w2 BX (firO (some f)):=HX.out.below hb2 hxl;have hr2:=HR.out.below hb2 hrl;have HB2:=Lib.hid (HBW.out.trans (hb2.mono hws));have hx2l:=Blk.lt hx2;have hr2l:=Blk.lt hr2;obtain ⟨q,hq⟩:∃ q,firO (some f) = q:=⟨_,rfl⟩;have HFO:=Lib.hid (show resO (some f) = .tuple #[firA q,.bool (Option.isSome (some f))] by unfold resO;rw [hq]);rw [hq] at hx2;have q0:=Blk.cell hx2 0 (v:=.int .i64 q.nominal) rfl;have q1:=Blk.cell hx2 1 (v:=.int .i64 q.kind) rfl;have q2:=Blk.cell hx2 2 (v:=.int .i64 q.save) rfl;have q3:=Blk.cell hx2 3 (v:=.string q.letter) rfl;have p0:=Blk.cell hr2 0 (v:=.int .i64 0) rfl;have p1:=Blk.cell hr2 1 (v:=.int .i64 0) rfl;have p2:=Blk.cell hr2 2 (v:=.int .i64 0) rfl;have p3:=Blk.cell hr2 3 (v:=.string ⟨#[]⟩) rfl;have z0:=Blk.frozen hr2 0;have z1:=Blk.frozen hr2 1;have z2:=Blk.frozen hr2 2;have z3:=Blk.frozen hr2 3;have HY:=Lib.hid ((((Blk.set hr2 0 (.int .i64 q.nominal)).set 1 (.int .i64 q.kind)).set 2 (.int .i64 q.save)).set 3 (.string q.letter));clear hx2 hr2 hb2 hq;go_wp2_with fail;have v0:=HY.out.cell 0 (v:=.int .i64 q.nominal) rfl;have v1:=HY.out.cell 1 (v:=.int .i64 q.kind) rfl;have v2:=HY.out.cell 2 (v:=.int .i64 q.save) rfl;have v3:=HY.out.cell 3 (v:=.string q.letter) rfl;refine bodyPost_ret (v:=resO (some f)) ?_ rfl ⟨by rw [HBK2.out],below_set4 HB2.out (by omega) _ _ _ _⟩;rw [HFO.out];simp [results,Tryz.f58,go_sem,v0,v1,v2,v3,firA]
end
section -- RefB
open Go Go.RowKit Go.Shelf
structure FrI where
 f:Fir
 i:Int
def friV (x:FrI):List Value:=[.int .i64 x.f.nominal,.int .i64 x.f.kind,.int .i64 x.f.save,.int .i64 x.i,.string x.f.letter]
def friA (x:FrI):Value:=.agg #[.int .i64 x.f.nominal,.int .i64 x.f.kind,.int .i64 x.f.save,.int .i64 x.i,.string x.f.letter]
def frisV (l:List FrI):List Value:=l.flatMap friV
theorem length_frisV (l:List FrI):(frisV l).length = l.length * 5:=by
 induction l with
 | nil=>rfl
 | cons c l ih=>simp only [frisV,List.flatMap_cons,List.length_append,List.length_cons,friV,List.length_nil] at ih ⊢;omega
theorem frisV_append (l m:List FrI):frisV (l ++ m) = frisV l ++ frisV m:=by simp [frisV]
theorem frisV_at (l:List FrI) (i:Nat) (h:i < l.length) (k:Nat) (hk:k < 5):(frisV l)[i * 5 + k]? = (friV l[i])[k]?:=by
 induction l generalizing i with
 | nil=>exact absurd h (by simp)
 | cons c l ih =>
   rcases i with _ | i
   ·rw [Nat.zero_mul,Nat.zero_add]
    show (friV c ++ frisV l)[k]? = _
    rw [List.getElem?_append_left (by simp [friV];omega)]
    rfl
   ·have:=ih i (by simpa using h)
    show (friV c ++ frisV l)[(i + 1) * 5 + k]? = _
    rw [List.getElem?_append_right (by simp [friV];omega),show (i + 1) * 5 + k - (friV c).length = i * 5 + k by simp [friV];omega,this]
    rfl
theorem frisV_one (l:List FrI):∀ u ∈ frisV l,u.oneCell' = true:=by
 intro u hu;unfold frisV at hu;obtain ⟨c,-,hc⟩:=List.mem_flatMap.1 hu;simp [friV] at hc
 rcases hc with rfl | rfl | rfl | rfl | rfl <;> rfl
def Fris (w:World) (B:Nat) (v:Value) (l:List FrI):Prop:=Sl w B 5 v l.length (frisV l)
section
variable {w w':World} {B B':Nat} {v:Value} {l:List FrI}
theorem Fris.form (h:Fris w B v l):∃ A c,v = .slice A l.length c∧l.length ≤ c∧c ≤ maxLen:=by
 obtain ⟨A,c,rfl,h1,h2,-⟩:=h;exact ⟨A,c,rfl,h1,h2⟩
theorem Fris.below (h:Fris w B v l) (hb:Below B w w'):Fris w' B v l:=Sl.below h hb
theorem Fris.cells (h:Fris w B v l) (hl:0 < l.length):∃ b o c,v = .slice (some ⟨b,o,none⟩) l.length c∧b < B∧∀ i (hi:i < l.length),w.cell? ⟨b,o + i * 5,none⟩ = some (.int .i64 (l[i]).f.nominal)∧w.cell? ⟨b,o + i * 5 + 1,none⟩ = some (.int .i64 (l[i]).f.kind)∧w.cell? ⟨b,o + i * 5 + 2,none⟩ = some (.int .i64 (l[i]).f.save)∧w.cell? ⟨b,o + i * 5 + 3,none⟩ = some (.int .i64 (l[i]).i)∧w.cell? ⟨b,o + i * 5 + 4,none⟩ = some (.string (l[i]).f.letter):=by
 obtain ⟨b,o,c,e,hb,hc⟩:=Sl.at_ h hl;refine ⟨b,o,c,e,hb,fun i hi=>?_⟩
 have hk:∀ k u,k < 5→(friV l[i])[k]? = some u→w.cell? ⟨b,o + i * 5 + k,none⟩ = some u:=fun k u hk hu=>by
  rw [Nat.add_assoc];exact hc _ u (by rw [frisV_at l i hi k hk];exact hu)
 exact ⟨hk 0 _ (by omega) rfl,hk 1 _ (by omega) rfl,hk 2 _ (by omega) rfl,hk 3 _ (by omega) rfl,hk 4 _ (by omega) rfl⟩
theorem Fris.front {A:Option Addr} {c n:Nat} (h:Fris w B (.slice A l.length c) l) (hn:n ≤ l.length):Fris w B (.slice A n c) (l.take n):=by
 obtain ⟨A',c',e,h1,h2,h3,h4⟩:=h;injection e with e1 e2 e3
 subst e1 e3;have hl:(l.take n).length = n:=by rw [List.length_take];omega
 unfold Fris;rw [hl];refine ⟨_,_,rfl,by omega,h2,by rw [length_frisV,hl],fun hp=>?_⟩;obtain ⟨b,o,rfl,hb,hc⟩:=h4 (by omega);refine ⟨b,o,rfl,hb,fun j u hu=>hc j u ?_⟩;rw [← List.take_append_drop n l,frisV_append,List.getElem?_append_left (List.getElem?_eq_some_iff.1 hu).1];exact hu
theorem Fris.back {A:Option Addr} {c n:Nat} (h:Fris w B (.slice A l.length c) l) (hn:n ≤ l.length):Fris w B (.slice (if c = n then A else A.map (·.add (n * 5))) (l.length - n) (c - n)) (l.drop n):=by
 obtain ⟨A',c',e,h1,h2,h3,h4⟩:=h;injection e with e1 e2 e3
 subst e1 e3;have hl:(l.drop n).length = l.length - n:=List.length_drop;unfold Fris;rw [hl];refine ⟨_,_,rfl,by omega,by omega,by rw [length_frisV,hl],fun hp=>?_⟩;obtain ⟨b,o,rfl,hb,hc⟩:=h4 (by omega);rw [if_neg (by omega)];refine ⟨b,o + n * 5,by simp [Addr.add_lit],hb,fun j u hu=>?_⟩;rw [Nat.add_assoc];refine hc _ u ?_;rw [← List.take_append_drop n l,frisV_append,List.getElem?_append_right (by rw [length_frisV,List.length_take];omega),length_frisV,List.length_take,Nat.min_eq_left hn,Nat.add_sub_cancel_left];exact hu
end
theorem Fris.backM {w:World} {B:Nat} {l:List FrI} {A:Option Addr} {c n:Nat} (h:Fris w B (.slice A l.length c) l) (hn:n ≤ l.length):Sl w B 5 (.slice (if c = n then A else A.map (·.add (n * 5))) (l.length - n) (c - n)) (l.length - n) (frisV (l.drop n)):=by
 have h0:=h.back hn;unfold Fris at h0
 rwa [List.length_drop] at h0
theorem infoFri:(Tryz.prog.info? 129).map (fun i=>(i.zero,i.size,i.bytes)) = some (some (.agg #[.int .i64 0,.int .i64 0,.int .i64 0,.int .i64 0,.string ⟨#[]⟩]),5,48):=by kernel_rfl
def TyF (w:World) (v:Value):Prop:=∀ b o n c,v = .slice (some ⟨b,o,none⟩) n c→∃ cs fr,w.heap[b]? = some (.cells cs 129 fr)
theorem TyF.nil (w:World) (n c:Nat):TyF w (.slice none n c):=fun b o n c e=>by cases e
theorem TyF.kept {w w':World} {v:Value} (h:TyF w v) (hk:∀ (b:Nat) (cs:Array Value) (fr:Nat × Nat),w.heap[b]? = some (Obj.cells cs 129 fr)→w'.heap[b]? = w.heap[b]?):TyF w' v:=fun b o n c e=>by
 obtain ⟨cs,fr,h1⟩:=h b o n c e;exact ⟨cs,fr,(hk b cs fr h1).trans h1⟩
theorem TyF.below {w w':World} {v:Value} (h:TyF w v) (hb:Below w.heap.size w w'):TyF w' v:=h.kept fun b _ _ h1=>hb.block b (Array.getElem?_eq_some_iff.1 h1).1
theorem TyF.own {w:World} {base:Nat} {sz n:Nat} {v:Value} {xs:List Value} (h:w.ownsRow base 129 sz v n xs):TyF w v:=fun b o n' c he=>by
 rcases h.2 with ⟨rfl,_⟩ | ⟨g,cap,cur,rfl,hb,hg,-⟩
 ·cases he
 ·injection he with h1 h2 h3
  injection h1 with h1
  injection h1 with h1 h2
  subst h1;exact ⟨_,_,hg⟩
def FrisN (w:World) (v:Value) (l:List FrI):Prop:=Fris w w.heap.size v l∧TyF w v
theorem FrisN.below {w w':World} {v:Value} {l:List FrI} (h:FrisN w v l) (hb:Below w.heap.size w w'):FrisN w' v l:=⟨Sl.more (Sl.below h.1 hb) hb.size,h.2.below hb⟩
def PutPost (w:World) (l:List FrI) (x:FrI) (e:Ending) (w':World):Prop:=∃ u A C,e = .returned u∧l = A ++ C∧(∀ a ∈ A,a.f.nominal ≤ x.f.nominal)∧(∀ c ∈ C,x.f.nominal < c.f.nominal)∧FrisN w' u (A ++ x :: C)∧Below w.heap.size w w'
theorem put_any (w:World) (B:Nat) (v:Value) (l:List FrI) (x:FrI) (hv:Fris w B v l) (hB:B ≤ w.heap.size) (hl:l.length ≤ 100000) (hi:∀ y ∈ l,y.i ≤ x.i) (hs:l.Pairwise (fun a b=>a.f.nominal ≤ b.f.nominal)) :
  Calls Tryz.prog 111 #[v,friA x] w (PutPost w l x):=by
 obtain ⟨i0,hi0,hz0,hz1,hz2⟩:=info_parts infoFri;have HB0:=Lib.hid ((Below.refl w.heap.size w).alloc (Nat.le_refl _) (.cells #[.int .i64 x.f.nominal,.int .i64 x.f.kind,.int .i64 x.f.save,.int .i64 x.i,.string x.f.letter] 129));have hx:=Blk.new w 129 #[.int .i64 x.f.nominal,.int .i64 x.f.kind,.int .i64 x.f.save,.int .i64 x.i,.string x.f.letter];have HXB:=Lib.hid hx;have HV:=Lib.hid (hv.below (HB0.out.mono hB));obtain ⟨A,c,rfl,hlc,hcm⟩:=hv.form;unfold maxLen at hcm;have HI:=Lib.hid (fun k (hk:k < l.length)=>hi l[k] (List.getElem_mem hk));have HS:=Lib.hid hs;clear hv hi hs;unfold friA;go_enter Tryz.func111,Tryz.ntmps111;go_wp2_with fail;obtain ⟨W0,hW0⟩:∃ W,w.alloc (.cells #[.int .i64 x.f.nominal,.int .i64 x.f.kind,.int .i64 x.f.save,.int .i64 x.i,.string x.f.letter] 129) = W:=⟨_,rfl⟩;rw [hW0] at HB0 HXB HV ⊢;clear hW0 hx
 go_loopw [5] (fun nv wr=>∃ n:Nat,n ≤ l.length∧nv = .int .i64 n∧(∀ k (hk:k < l.length),n ≤ k→x.f.nominal < (l[k]).f.nominal)∧Below W0.heap.size W0 wr) (fun nv _=>(intOf nv).toNat)
 case atStart=>exact ⟨l.length,Nat.le_refl _,rfl,fun k hk h=>by omega,Below.refl _ _⟩
 case round =>
  obtain ⟨n,hn,rfl,hbig,hbw⟩:=hrel;have HBG:=Lib.hid hbig;have HBW:=Lib.hid hbw;have hxr:=HXB.out.below hbw HXB.out.lt;have hvr:=HV.out.below (B:=B) (hbw.mono (Nat.le_trans hB HB0.out.size));have hws:=hbw.size;clear hbig hbw;have HVR:=Lib.hid hvr;have HXR:=Lib.hid hxr;have x0:wr.cell? ⟨w.heap.size,0,none⟩ = some (.int .i64 x.f.nominal):=hxr.cell 0 rfl;have x1:wr.cell? ⟨w.heap.size,1,none⟩ = some (.int .i64 x.f.kind):=hxr.cell 1 rfl;have x2:wr.cell? ⟨w.heap.size,2,none⟩ = some (.int .i64 x.f.save):=hxr.cell 2 rfl;have x3:wr.cell? ⟨w.heap.size,3,none⟩ = some (.int .i64 x.i):=hxr.cell 3 rfl;have x4:wr.cell? ⟨w.heap.size,4,none⟩ = some (.string x.f.letter):=hxr.cell 4 rfl
  by_cases h0:n = 0
  ·have hd:decide ((0:Int) < (n:Int)) = false:=decide_eq_false (by omega);have hd3:decide (0 < n) = false:=decide_eq_false (by omega)
   have HAC:=Lib.hid (show (∀ a ∈ l.take n,a.f.nominal ≤ x.f.nominal)∧(∀ c ∈ l.drop n,x.f.nominal < c.f.nominal) from ⟨fun a ha=>by rw [h0] at ha;simp at ha,fun c hc=>by
    rw [h0] at hc
    obtain ⟨k,hk,rfl⟩:=List.getElem_of_mem (by simpa using hc)
    exact HBG.out k hk (by omega)⟩)
   clear h0;go_wp2_with fail
   refine wp_env (fin:=?fnZ) (by kernel_rfl) [9,10,11,12,13,14,15,16,17,18,19,20,21,22,23,24,25,26,27,28,29,30,31,32,33,34,35,36,37,38,39,40,41,42,43,44,45,46,47,48,49]
    [.int .i64 n,.bool false,.bool false,undef,undef,undef,undef,undef,undef,undef,undef,undef,undef,undef,undef,undef,undef,undef,undef,undef,undef,undef,undef,undef,undef,undef,undef,undef,undef,undef,undef,undef,undef,undef,undef,undef,undef,undef,undef,undef,.bool false] (by kernel_rfl) ?finZ ?stepsZ ?nextZ
   case finZ =>
    simp only [putAll,Act.put,List.setIfInBounds_toArray,List.set_cons_succ,List.set_cons_zero]
    rfl
   case stepsZ =>
    refine ⟨?_,?_,?_,?_,?_,?_,?_,?_,?_,?_,?_,?_,?_,?_,?_,?_,?_,?_,?_,?_,?_,?_,?_,?_,?_,?_,?_,?_,?_,?_,?_,?_,?_,?_,?_,?_,?_,?_,?_,?_,?_,trivial⟩
    all_goals first | exact .inl ⟨by kernel_rfl,rfl⟩ | refine .inr ⟨by kernel_rfl,fun w1_ hB_=>?_⟩
    all_goals
     go_simp
     first
      | exact ⟨rfl,Below.refl _ _⟩
      | ((first | rw [decide_eq_true (by omega)] | rw [decide_eq_false (by omega)] | rw [if_pos (by omega)] | rw [IntWalk.i64_in _ (by omega)]);exact ⟨rfl,Below.refl _ _⟩)
      | done
   case nextZ =>
   clear hd hd3;intro w5 hb5;have HB5:=Lib.hid (HBW.out.trans (hb5.mono HBW.out.size));have HVR:=Lib.hid (HVR.out.below (B:=B) (hb5.mono (Nat.le_trans hB (Nat.le_trans HB0.out.size HBW.out.size))));have HXR:=Lib.hid (HXR.out.below hb5 (Nat.lt_of_lt_of_le HXB.out.lt HBW.out.size));have hws5:=hb5.size;have HWW5:=Lib.hid (HB0.out.trans (HB5.out.mono HB0.out.size));have hs5:=HWW5.out.size;have HFRN:=Lib.hid (show Sl w5 B 5 (.slice A n c) n (frisV (l.take n)) by have:=HVR.out.front hn;unfold Fris at this;rwa [List.length_take,Nat.min_eq_left hn] at this);clear hb5 x0 x1 x2 x3 x4
   go_wp2_with first
    | (at_builtin;refine wpList_append_sl rfl _ _ 97 rfl w.heap.size 129 i0 (.agg #[.int .i64 0,.int .i64 0,.int .i64 0,.int .i64 0,.string ⟨#[]⟩]) 5 48 Tryz.underlying97 hi0 hz0 hz1 hz2 rfl (by decide) (.slice none 0 0) 0 [] rfl (World.ownsRow_nil _ _ _ _) _ B n _ rfl HFRN.out (frisV_one _) (by unfold maxLen;omega) (by omega) hs5 ?_;intro v7 w7 hown7 hgrow7;have hb7:Below w5.heap.size w5 w7:=(Below.refl _ _).grown hgrow7 (Nat.le_refl _) (fun k e=>by cases e);have HB7:=Lib.hid (HWW5.out.trans (hb7.mono hs5));have HX7:=Lib.hid (HXR.out.below hb7 HXR.out.lt);have HV7:=Lib.hid (HVR.out.below (B:=B) (hb7.mono (Nat.le_trans hB hs5)));have HOW7:=Lib.hid hown7;clear hb7 hown7 hgrow7;have x0:=HX7.out.cell 0 (v:=.int .i64 x.f.nominal) rfl;have x1:=HX7.out.cell 1 (v:=.int .i64 x.f.kind) rfl;have x2:=HX7.out.cell 2 (v:=.int .i64 x.f.save) rfl;have x3:=HX7.out.cell 3 (v:=.int .i64 x.i) rfl;have x4:=HX7.out.cell 4 (v:=.string x.f.letter) rfl;have hs7:=HB7.out.size)
    | (at_builtin;have _t:=HOW7;refine wpList_append_own _ rfl _ _ 97 rfl w.heap.size 129 i0 (.agg #[.int .i64 0,.int .i64 0,.int .i64 0,.int .i64 0,.string ⟨#[]⟩]) 5 48 Tryz.underlying97 hi0 hz0 hz1 hz2 rfl (by decide) v7 (0 + n) _ rfl (HOW7.out.alloc _) ⟨w7.heap.size,0,none⟩ 1 1 (friV x) rfl rfl (fun j y hy=>by rw [Addr.add_lit,Nat.zero_add];exact (cell_new w7 _ _ _ j).trans (by simpa [friV] using hy)) (by simp [friV,Value.oneCell']) (by unfold maxLen;omega) (by omega) (by simp;omega) ?_;intro v8 w8 hown8 hgrow8 hnil8;go_loud (have HB8:=Lib.hid ((HB7.out.alloc hs7 _).grown hgrow8 (by simp;omega) (fun g e=>(HOW7.out.lt g e).1));have HV8:=Lib.hid (HV7.out.below (B:=B) ((((Below.refl B w7).alloc (Nat.le_trans hB hs7) _)).grown hgrow8 (by simp;omega) (fun g e=>Nat.le_trans hB (HOW7.out.lt g e).1)));have HOW8:=Lib.hid hown8;have hs8:=HB8.out.size;have HBKN:=Lib.hid (HV8.out.backM hn);clear hown8 hgrow8 hnil8 x0 x1 x2 x3 x4))
    | (at_builtin;have _t:=HOW8;go_loud (refine wpList_append_sl rfl _ _ 97 rfl w.heap.size 129 i0 (.agg #[.int .i64 0,.int .i64 0,.int .i64 0,.int .i64 0,.string ⟨#[]⟩]) 5 48 Tryz.underlying97 hi0 hz0 hz1 hz2 rfl (by decide) v8 (0 + n + 1) _ rfl HOW8.out _ B (l.length - n) _ rfl HBKN.out (frisV_one _) (by unfold maxLen;omega) (by omega) hs8 ?_);intro v9 w9 hown9 hgrow9)
   all_goals
    go_ret;have hb9:=HB8.out.grown hgrow9 hs8 (fun g e=>(HOW8.out.lt g e).1);refine ⟨v9,l.take n,l.drop n,rfl,(List.take_append_drop n l).symm,HAC.out.1,HAC.out.2,?_,hb9⟩;refine ⟨?_,TyF.own hown9⟩;have h:=Sl.of_own hown9;unfold Fris;rw [List.nil_append,show 0 + n + 1 + (l.length - n) = (l.take n ++ x :: l.drop n).length by simp;omega] at h;rw [show frisV (l.take n ++ x :: l.drop n) = frisV (l.take n) ++ friV x ++ frisV (l.drop n) by simp [frisV]];exact h
  ·obtain ⟨p,hp⟩:∃ p,n = p + 1:=⟨n - 1,by omega⟩;have hd:decide ((0:Int) < (n:Int)) = true:=decide_eq_true (by omega);have e1:(n:Int) - 1 = (p:Int):=by omega
   have hpl:p < l.length:=by omega
   obtain ⟨b,o,c',e,hb,hc⟩:=hvr.cells (by omega)
   cases e
   obtain ⟨d0,-,-,d3,-⟩:=hc p hpl;have d0':wr.cell? ⟨b,o + p * 5,none⟩ = some (.int .i64 (l[p]).f.nominal):=d0;have d3':wr.cell? ⟨b,o + p * 5 + 3,none⟩ = some (.int .i64 (l[p]).i):=d3;have hii:=HI.out p hpl;obtain ⟨y,hy⟩:∃ y,l[p] = y:=⟨_,rfl⟩;rw [hy] at d0' d3' hii;have HY:=Lib.hid hy;have hbw_:b < wr.heap.size:=Nat.lt_of_lt_of_le hb (Nat.le_trans hB (Nat.le_trans HB0.out.size hws));have hww_:w.heap.size < wr.heap.size:=Nat.lt_of_lt_of_le HXB.out.lt hws;have HCELL:=Lib.hid (fun (W:World) (h:Below wr.heap.size wr W)=>show W.cell? ⟨b,o + p * 5,none⟩ = some (.int .i64 y.f.nominal)∧W.cell? ⟨b,o + p * 5 + 3,none⟩ = some (.int .i64 y.i)∧W.cell? ⟨w.heap.size,0,none⟩ = some (.int .i64 x.f.nominal)∧W.cell? ⟨w.heap.size,3,none⟩ = some (.int .i64 x.i) from ⟨(h.cell hbw_).trans d0',(h.cell hbw_).trans d3',(h.cell hww_).trans x0,(h.cell hww_).trans x3⟩);clear hc d0 d3 hy hbw_ hww_ d0' d3'
   by_cases hgt:x.f.nominal < y.f.nominal
   ·have hg:decide (x.f.nominal < y.f.nominal) = true:=decide_eq_true hgt;have HP:=Lib.hid hp;clear hp;go_wp2_with fail
    refine wp_env (fin:=?fnG) (by kernel_rfl) [9,10,11,12,13,14,15,16,17,18,19,20,21,22,23,24,25,26,27,28,29,30,31,32,33,34,35,36,37,38,39,40,41,42,43,44,45,46,47,48,49]
     [.int .i64 n,.bool true,.bool true,.slice (some ⟨b,o,none⟩) l.length c,.int .i64 n,.int .i64 p,.pointer (some ⟨b,o + p * 5,none⟩),.pointer (some ⟨b,o + p * 5,none⟩),.pointer (some ⟨b,o + p * 5,none⟩),.int .i64 y.f.nominal,.pointer (some ⟨w.heap.size,0,none⟩),.pointer (some ⟨w.heap.size,0,none⟩),.int .i64 x.f.nominal,.bool true,.bool true,undef,undef,undef,undef,undef,undef,undef,undef,undef,undef,undef,undef,undef,undef,undef,undef,undef,undef,undef,undef,undef,undef,undef,undef,.bool true,.bool true] (by kernel_rfl) ?finG ?stepsG ?nextG
    case finG =>
     simp only [putAll,Act.put,List.setIfInBounds_toArray,List.set_cons_succ,List.set_cons_zero]
     rfl
    case stepsG =>
     refine ⟨?_,?_,?_,?_,?_,?_,?_,?_,?_,?_,?_,?_,?_,?_,?_,?_,?_,?_,?_,?_,?_,?_,?_,?_,?_,?_,?_,?_,?_,?_,?_,?_,?_,?_,?_,?_,?_,?_,?_,?_,?_,trivial⟩
     all_goals first | exact .inl ⟨by kernel_rfl,rfl⟩ | refine .inr ⟨by kernel_rfl,fun w1_ hB_=>?_⟩
     all_goals
      obtain ⟨d0_,d3_,q0_,q3_⟩:=HCELL.out w1_ hB_;go_simp
      first
       | exact ⟨rfl,Below.refl _ _⟩
       | ((first | rw [decide_eq_true (by omega)] | rw [decide_eq_false (by omega)] | rw [if_pos (by omega)] | rw [IntWalk.i64_in _ (by omega)]);exact ⟨rfl,Below.refl _ _⟩)
       | done
    case nextG =>
    intro w5 hb5;have HB5:=Lib.hid (HBW.out.trans (hb5.mono HBW.out.size));clear hb5;go_wp2_with fail;go_roundw
    case rel=>exact ⟨p,by omega,by first | rfl | go_num,fun k hk h=>by
     rcases Nat.lt_or_ge p k with h1 | h1
     ·exact HBG.out k hk (by have:=HP.out;omega)
     ·have:k = p:=by omega
      subst this
      rw [HY.out]
      exact hgt,HB5.out⟩
    case measure=>have:=HP.out;simp [intOf];omega
   ·have hg:decide (x.f.nominal < y.f.nominal) = false:=decide_eq_false hgt;have hg3:decide (x.i < y.i) = false:=decide_eq_false (by omega)
    have HAC:=Lib.hid (show (∀ a ∈ l.take n,a.f.nominal ≤ x.f.nominal)∧(∀ c ∈ l.drop n,x.f.nominal < c.f.nominal) from ⟨fun a ha=>by
     rw [hp] at ha
     have h1:=take_le (key:=fun y:FrI=>y.f.nominal) HS.out hpl a ha
     rw [HY.out] at h1
     omega,fun c hc=>by
     obtain ⟨k,hk,rfl⟩:=List.getElem_of_mem hc
     rw [List.getElem_drop]
     exact HBG.out _ _ (by omega)⟩)
    clear hp
    by_cases heq:y.f.nominal = x.f.nominal
    ·have hg2:(y.f.nominal == x.f.nominal) = true:=by simpa using heq
     go_wp2_with fail
     refine wp_env (fin:=?fnE) (by kernel_rfl) [9,10,11,12,13,14,15,16,17,18,19,20,21,22,23,24,25,26,27,28,29,30,31,32,33,34,35,36,37,38,39,40,41,42,43,44,45,46,47,48,49]
      [.int .i64 n,.bool true,.bool true,.slice (some ⟨b,o,none⟩) l.length c,.int .i64 n,.int .i64 p,.pointer (some ⟨b,o + p * 5,none⟩),.pointer (some ⟨b,o + p * 5,none⟩),.pointer (some ⟨b,o + p * 5,none⟩),.int .i64 y.f.nominal,.pointer (some ⟨w.heap.size,0,none⟩),.pointer (some ⟨w.heap.size,0,none⟩),.int .i64 x.f.nominal,.bool false,.bool false,.slice (some ⟨b,o,none⟩) l.length c,.int .i64 n,.int .i64 p,.pointer (some ⟨b,o + p * 5,none⟩),.pointer (some ⟨b,o + p * 5,none⟩),.pointer (some ⟨b,o + p * 5,none⟩),.int .i64 y.f.nominal,.pointer (some ⟨w.heap.size,0,none⟩),.pointer (some ⟨w.heap.size,0,none⟩),.int .i64 x.f.nominal,.bool true,.bool true,.slice (some ⟨b,o,none⟩) l.length c,.int .i64 n,.int .i64 p,.pointer (some ⟨b,o + p * 5,none⟩),.pointer (some ⟨b,o + p * 5,none⟩),.pointer (some ⟨b,o + p * 5 + 3,none⟩),.int .i64 y.i,.pointer (some ⟨w.heap.size,0,none⟩),.pointer (some ⟨w.heap.size,3,none⟩),.int .i64 x.i,.bool false,.bool false,.bool false,.bool false] (by kernel_rfl) ?finE ?stepsE ?nextE
     case finE =>
      simp only [putAll,Act.put,List.setIfInBounds_toArray,List.set_cons_succ,List.set_cons_zero]
      rfl
     case stepsE =>
      refine ⟨?_,?_,?_,?_,?_,?_,?_,?_,?_,?_,?_,?_,?_,?_,?_,?_,?_,?_,?_,?_,?_,?_,?_,?_,?_,?_,?_,?_,?_,?_,?_,?_,?_,?_,?_,?_,?_,?_,?_,?_,?_,trivial⟩
      all_goals refine .inr ⟨by kernel_rfl,fun w1_ hB_=>?_⟩
      all_goals
       obtain ⟨d0_,d3_,q0_,q3_⟩:=HCELL.out w1_ hB_;go_simp
       first
        | exact ⟨rfl,Below.refl _ _⟩
        | ((first | rw [decide_eq_true (by omega)] | rw [decide_eq_false (by omega)] | rw [if_pos (by omega)] | rw [IntWalk.i64_in _ (by omega)]);exact ⟨rfl,Below.refl _ _⟩)
        | done
     case nextE =>
     clear hd hg hg2 hg3 heq hgt e1;obtain ⟨A,hA⟩:∃ A,(some ⟨b,o,none⟩:Option Addr) = A:=⟨_,rfl⟩;rw [hA] at HVR ⊢;clear hA;intro w5 hb5;have HB5:=Lib.hid (HBW.out.trans (hb5.mono HBW.out.size));have HVR:=Lib.hid (HVR.out.below (B:=B) (hb5.mono (Nat.le_trans hB (Nat.le_trans HB0.out.size HBW.out.size))));have HXR:=Lib.hid (HXR.out.below hb5 (Nat.lt_of_lt_of_le HXB.out.lt HBW.out.size));have hws5:=hb5.size;have HWW5:=Lib.hid (HB0.out.trans (HB5.out.mono HB0.out.size));have hs5:=HWW5.out.size;have HFRN:=Lib.hid (show Sl w5 B 5 (.slice A n c) n (frisV (l.take n)) by have:=HVR.out.front hn;unfold Fris at this;rwa [List.length_take,Nat.min_eq_left hn] at this);clear hb5 x0 x1 x2 x3 x4
     go_wp2_with first
      | (at_builtin;refine wpList_append_sl rfl _ _ 97 rfl w.heap.size 129 i0 (.agg #[.int .i64 0,.int .i64 0,.int .i64 0,.int .i64 0,.string ⟨#[]⟩]) 5 48 Tryz.underlying97 hi0 hz0 hz1 hz2 rfl (by decide) (.slice none 0 0) 0 [] rfl (World.ownsRow_nil _ _ _ _) _ B n _ rfl HFRN.out (frisV_one _) (by unfold maxLen;omega) (by omega) hs5 ?_;intro v7 w7 hown7 hgrow7;have hb7:Below w5.heap.size w5 w7:=(Below.refl _ _).grown hgrow7 (Nat.le_refl _) (fun k e=>by cases e);have HB7:=Lib.hid (HWW5.out.trans (hb7.mono hs5));have HX7:=Lib.hid (HXR.out.below hb7 HXR.out.lt);have HV7:=Lib.hid (HVR.out.below (B:=B) (hb7.mono (Nat.le_trans hB hs5)));have HOW7:=Lib.hid hown7;clear hb7 hown7 hgrow7;have x0:=HX7.out.cell 0 (v:=.int .i64 x.f.nominal) rfl;have x1:=HX7.out.cell 1 (v:=.int .i64 x.f.kind) rfl;have x2:=HX7.out.cell 2 (v:=.int .i64 x.f.save) rfl;have x3:=HX7.out.cell 3 (v:=.int .i64 x.i) rfl;have x4:=HX7.out.cell 4 (v:=.string x.f.letter) rfl;have hs7:=HB7.out.size)
      | (at_builtin;have _t:=HOW7;refine wpList_append_own _ rfl _ _ 97 rfl w.heap.size 129 i0 (.agg #[.int .i64 0,.int .i64 0,.int .i64 0,.int .i64 0,.string ⟨#[]⟩]) 5 48 Tryz.underlying97 hi0 hz0 hz1 hz2 rfl (by decide) v7 (0 + n) _ rfl (HOW7.out.alloc _) ⟨w7.heap.size,0,none⟩ 1 1 (friV x) rfl rfl (fun j y hy=>by rw [Addr.add_lit,Nat.zero_add];exact (cell_new w7 _ _ _ j).trans (by simpa [friV] using hy)) (by simp [friV,Value.oneCell']) (by unfold maxLen;omega) (by omega) (by simp;omega) ?_;intro v8 w8 hown8 hgrow8 hnil8;go_loud (have HB8:=Lib.hid ((HB7.out.alloc hs7 _).grown hgrow8 (by simp;omega) (fun g e=>(HOW7.out.lt g e).1));have HV8:=Lib.hid (HV7.out.below (B:=B) ((((Below.refl B w7).alloc (Nat.le_trans hB hs7) _)).grown hgrow8 (by simp;omega) (fun g e=>Nat.le_trans hB (HOW7.out.lt g e).1)));have HOW8:=Lib.hid hown8;have hs8:=HB8.out.size;have HBKN:=Lib.hid (HV8.out.backM hn);clear hown8 hgrow8 hnil8 x0 x1 x2 x3 x4))
      | (at_builtin;have _t:=HOW8;go_loud (refine wpList_append_sl rfl _ _ 97 rfl w.heap.size 129 i0 (.agg #[.int .i64 0,.int .i64 0,.int .i64 0,.int .i64 0,.string ⟨#[]⟩]) 5 48 Tryz.underlying97 hi0 hz0 hz1 hz2 rfl (by decide) v8 (0 + n + 1) _ rfl HOW8.out _ B (l.length - n) _ rfl HBKN.out (frisV_one _) (by unfold maxLen;omega) (by omega) hs8 ?_);intro v9 w9 hown9 hgrow9)
     all_goals
      go_ret;have hb9:=HB8.out.grown hgrow9 hs8 (fun g e=>(HOW8.out.lt g e).1);refine ⟨v9,l.take n,l.drop n,rfl,(List.take_append_drop n l).symm,HAC.out.1,HAC.out.2,?_,hb9⟩;refine ⟨?_,TyF.own hown9⟩;have h:=Sl.of_own hown9;unfold Fris;rw [List.nil_append,show 0 + n + 1 + (l.length - n) = (l.take n ++ x :: l.drop n).length by simp;omega] at h;rw [show frisV (l.take n ++ x :: l.drop n) = frisV (l.take n) ++ friV x ++ frisV (l.drop n) by simp [frisV]];exact h
    ·have hg2:(y.f.nominal == x.f.nominal) = false:=by simpa using heq
     go_wp2_with fail
     refine wp_env (fin:=?fnL) (by kernel_rfl) [9,10,11,12,13,14,15,16,17,18,19,20,21,22,23,24,25,26,27,28,29,30,31,32,33,34,35,36,37,38,39,40,41,42,43,44,45,46,47,48,49]
      [.int .i64 n,.bool true,.bool true,.slice (some ⟨b,o,none⟩) l.length c,.int .i64 n,.int .i64 p,.pointer (some ⟨b,o + p * 5,none⟩),.pointer (some ⟨b,o + p * 5,none⟩),.pointer (some ⟨b,o + p * 5,none⟩),.int .i64 y.f.nominal,.pointer (some ⟨w.heap.size,0,none⟩),.pointer (some ⟨w.heap.size,0,none⟩),.int .i64 x.f.nominal,.bool false,.bool false,.slice (some ⟨b,o,none⟩) l.length c,.int .i64 n,.int .i64 p,.pointer (some ⟨b,o + p * 5,none⟩),.pointer (some ⟨b,o + p * 5,none⟩),.pointer (some ⟨b,o + p * 5,none⟩),.int .i64 y.f.nominal,.pointer (some ⟨w.heap.size,0,none⟩),.pointer (some ⟨w.heap.size,0,none⟩),.int .i64 x.f.nominal,.bool false,.bool false,undef,undef,undef,undef,undef,undef,undef,undef,undef,undef,undef,.bool false,.bool false,.bool false] (by kernel_rfl) ?finL ?stepsL ?nextL
     case finL =>
      simp only [putAll,Act.put,List.setIfInBounds_toArray,List.set_cons_succ,List.set_cons_zero]
      rfl
     case stepsL =>
      refine ⟨?_,?_,?_,?_,?_,?_,?_,?_,?_,?_,?_,?_,?_,?_,?_,?_,?_,?_,?_,?_,?_,?_,?_,?_,?_,?_,?_,?_,?_,?_,?_,?_,?_,?_,?_,?_,?_,?_,?_,?_,?_,trivial⟩
      all_goals first | exact .inl ⟨by kernel_rfl,rfl⟩ | refine .inr ⟨by kernel_rfl,fun w1_ hB_=>?_⟩
      all_goals
       obtain ⟨d0_,d3_,q0_,q3_⟩:=HCELL.out w1_ hB_;go_simp
       first
        | exact ⟨rfl,Below.refl _ _⟩
        | ((first | rw [decide_eq_true (by omega)] | rw [decide_eq_false (by omega)] | rw [if_pos (by omega)] | rw [IntWalk.i64_in _ (by omega)]);exact ⟨rfl,Below.refl _ _⟩)
        | done
     case nextL =>
     clear hd hg hg2 hg3 heq hgt e1;obtain ⟨A,hA⟩:∃ A,(some ⟨b,o,none⟩:Option Addr) = A:=⟨_,rfl⟩;rw [hA] at HVR ⊢;clear hA;intro w5 hb5;have HB5:=Lib.hid (HBW.out.trans (hb5.mono HBW.out.size));have HVR:=Lib.hid (HVR.out.below (B:=B) (hb5.mono (Nat.le_trans hB (Nat.le_trans HB0.out.size HBW.out.size))));have HXR:=Lib.hid (HXR.out.below hb5 (Nat.lt_of_lt_of_le HXB.out.lt HBW.out.size));have hws5:=hb5.size;have HWW5:=Lib.hid (HB0.out.trans (HB5.out.mono HB0.out.size));have hs5:=HWW5.out.size;have HFRN:=Lib.hid (show Sl w5 B 5 (.slice A n c) n (frisV (l.take n)) by have:=HVR.out.front hn;unfold Fris at this;rwa [List.length_take,Nat.min_eq_left hn] at this);clear hb5 x0 x1 x2 x3 x4
     go_wp2_with first
      | (at_builtin;refine wpList_append_sl rfl _ _ 97 rfl w.heap.size 129 i0 (.agg #[.int .i64 0,.int .i64 0,.int .i64 0,.int .i64 0,.string ⟨#[]⟩]) 5 48 Tryz.underlying97 hi0 hz0 hz1 hz2 rfl (by decide) (.slice none 0 0) 0 [] rfl (World.ownsRow_nil _ _ _ _) _ B n _ rfl HFRN.out (frisV_one _) (by unfold maxLen;omega) (by omega) hs5 ?_;intro v7 w7 hown7 hgrow7;have hb7:Below w5.heap.size w5 w7:=(Below.refl _ _).grown hgrow7 (Nat.le_refl _) (fun k e=>by cases e);have HB7:=Lib.hid (HWW5.out.trans (hb7.mono hs5));have HX7:=Lib.hid (HXR.out.below hb7 HXR.out.lt);have HV7:=Lib.hid (HVR.out.below (B:=B) (hb7.mono (Nat.le_trans hB hs5)));have HOW7:=Lib.hid hown7;clear hb7 hown7 hgrow7;have x0:=HX7.out.cell 0 (v:=.int .i64 x.f.nominal) rfl;have x1:=HX7.out.cell 1 (v:=.int .i64 x.f.kind) rfl;have x2:=HX7.out.cell 2 (v:=.int .i64 x.f.save) rfl;have x3:=HX7.out.cell 3 (v:=.int .i64 x.i) rfl;have x4:=HX7.out.cell 4 (v:=.string x.f.letter) rfl;have hs7:=HB7.out.size)
      | (at_builtin;have _t:=HOW7;refine wpList_append_own _ rfl _ _ 97 rfl w.heap.size 129 i0 (.agg #[.int .i64 0,.int .i64 0,.int .i64 0,.int .i64 0,.string ⟨#[]⟩]) 5 48 Tryz.underlying97 hi0 hz0 hz1 hz2 rfl (by decide) v7 (0 + n) _ rfl (HOW7.out.alloc _) ⟨w7.heap.size,0,none⟩ 1 1 (friV x) rfl rfl (fun j y hy=>by rw [Addr.add_lit,Nat.zero_add];exact (cell_new w7 _ _ _ j).trans (by simpa [friV] using hy)) (by simp [friV,Value.oneCell']) (by unfold maxLen;omega) (by omega) (by simp;omega) ?_;intro v8 w8 hown8 hgrow8 hnil8;go_loud (have HB8:=Lib.hid ((HB7.out.alloc hs7 _).grown hgrow8 (by simp;omega) (fun g e=>(HOW7.out.lt g e).1));have HV8:=Lib.hid (HV7.out.below (B:=B) ((((Below.refl B w7).alloc (Nat.le_trans hB hs7) _)).grown hgrow8 (by simp;omega) (fun g e=>Nat.le_trans hB (HOW7.out.lt g e).1)));have HOW8:=Lib.hid hown8;have hs8:=HB8.out.size;have HBKN:=Lib.hid (HV8.out.backM hn);clear hown8 hgrow8 hnil8 x0 x1 x2 x3 x4))
      | (at_builtin;have _t:=HOW8;go_loud (refine wpList_append_sl rfl _ _ 97 rfl w.heap.size 129 i0 (.agg #[.int .i64 0,.int .i64 0,.int .i64 0,.int .i64 0,.string ⟨#[]⟩]) 5 48 Tryz.underlying97 hi0 hz0 hz1 hz2 rfl (by decide) v8 (0 + n + 1) _ rfl HOW8.out _ B (l.length - n) _ rfl HBKN.out (frisV_one _) (by unfold maxLen;omega) (by omega) hs8 ?_);intro v9 w9 hown9 hgrow9)
     all_goals
      go_ret;have hb9:=HB8.out.grown hgrow9 hs8 (fun g e=>(HOW8.out.lt g e).1);refine ⟨v9,l.take n,l.drop n,rfl,(List.take_append_drop n l).symm,HAC.out.1,HAC.out.2,?_,hb9⟩;refine ⟨?_,TyF.own hown9⟩;have h:=Sl.of_own hown9;unfold Fris;rw [List.nil_append,show 0 + n + 1 + (l.length - n) = (l.take n ++ x :: l.drop n).length by simp;omega] at h;rw [show frisV (l.take n ++ x :: l.drop n) = frisV (l.take n) ++ friV x ++ frisV (l.drop n) by simp [frisV]];exact h
end
section -- Ref
open Go Go.RowKit Go.Shelf
theorem rleap_any (y:Int) (w:World) :
  Calls Tryz.prog 132 #[.int .i64 y] w fun e w'=>e = .returned (.bool (leapB y))∧w' = w:=by
 have z4:=tmod_zero y 4;have z1:=tmod_zero y 100;have z0:=tmod_zero y 400
 by_cases h4:y.tmod 4 = 0
 ·by_cases h1:y.tmod 100 = 0
  ·by_cases h0:y.tmod 400 = 0
   ·have HL:=Lib.hid (show leapB y = true by unfold leapB;rw [decide_eq_true_eq];omega);clear z4 z1 z0;go_enter Tryz.func132,Tryz.ntmps132;go_wp2_with fail;go_ret;exact ⟨by rw [HL.out];rfl,rfl⟩
   ·have HL:=Lib.hid (show leapB y = false by unfold leapB;rw [decide_eq_false_iff_not];omega);have e0:(y.tmod 400 == 0) = false:=by simpa using h0
    clear z4 z1 z0;go_enter Tryz.func132,Tryz.ntmps132;go_wp2_with fail;go_ret;exact ⟨by rw [HL.out];rfl,rfl⟩
  ·have HL:=Lib.hid (show leapB y = true by unfold leapB;rw [decide_eq_true_eq];omega);have e1:(y.tmod 100 != 0) = true:=by simpa using h1
   clear z4 z1 z0;go_enter Tryz.func132,Tryz.ntmps132;go_wp2_with fail;go_ret;exact ⟨by rw [HL.out];rfl,rfl⟩
 ·have h0:¬ y.tmod 400 = 0:=fun h=>h4 (by rw [tmod_zero] at h ⊢;omega)
  have HL:=Lib.hid (show leapB y = false by unfold leapB;rw [decide_eq_false_iff_not];omega);have e4:(y.tmod 4 == 0) = false:=by simpa using h4
  have e0:(y.tmod 400 == 0) = false:=by simpa using h0
  clear z4 z1 z0;go_enter Tryz.func132,Tryz.ntmps132;go_wp2_with fail;go_ret;exact ⟨by rw [HL.out];rfl,rfl⟩
theorem lens_at (w:World) (k:Nat) (hk:k < 12):(w.alloc (.cells #[.int .i64 31,.int .i64 28,.int .i64 31,.int .i64 30,.int .i64 31,.int .i64 30,.int .i64 31,.int .i64 31,.int .i64 30,.int .i64 31,.int .i64 30,.int .i64 31] 3)).cell? ⟨w.heap.size,k,none⟩ = some (.int .i64 (aheadV (k + 1) - aheadV k)):=by
 refine (Blk.new w 3 _).cell k ?_;have:k = 0∨k = 1∨k = 2∨k = 3∨k = 4∨k = 5∨k = 6∨k = 7∨k = 8∨k = 9∨k = 10∨k = 11:=by omega
 rcases this with h | h | h | h | h | h | h | h | h | h | h | h <;> subst h <;> rfl
theorem rlong_any (y m:Int) (h1:1 ≤ m) (h2:m ≤ 12) (w:World) :
  Calls Tryz.prog 108 #[.int .i64 y,.int .i64 m] w fun e w'=>e = .returned (.int .i64 (lenV y m))∧Below w.heap.size w w':=by
 obtain ⟨k,rfl,hk⟩:=aheadV_at m h1 h2;have c:=lens_at w k hk;have HB:=Lib.hid ((Below.refl w.heap.size w).alloc (Nat.le_refl _) (.cells #[.int .i64 31,.int .i64 28,.int .i64 31,.int .i64 30,.int .i64 31,.int .i64 30,.int .i64 31,.int .i64 31,.int .i64 30,.int .i64 31,.int .i64 30,.int .i64 31] 3));have HL:=Lib.hid (fun W=>rleap_any y W);have HV:=Lib.hid (show lenV y (k + 1) = aheadV (k + 1) - aheadV k + if (k:Int) + 1 = 2 then leapsV y else 0 by unfold lenV;rw [show ((k:Int) + 1 - 1).toNat = k by omega,show ((k:Int) + 1).toNat = k + 1 by omega]);have e1:(k:Int) + 1 - 1 = k:=by omega
 clear h1 h2
 by_cases hk2:k = 1
 ·subst hk2
  cases hl:leapB y with
  | true =>
    have HV2:=Lib.hid (show lenV y ((1:Nat) + 1) = 29 by rw [HV.out,if_pos (by omega)];unfold leapsV;rw [hl];rfl);rw [hl] at HL;clear hl;go_enter Tryz.func108,Tryz.ntmps108;go_wp2_with fail;refine (HL.out _).mono ?_;rintro e w1 ⟨rfl,rfl⟩;go_wp2_with fail;go_ret;exact ⟨by rw [HV2.out];rfl,HB.out⟩
  | false =>
    have HV2:=Lib.hid (show lenV y ((1:Nat) + 1) = aheadV (1 + 1) - aheadV 1 by rw [HV.out,if_pos (by omega)];unfold leapsV;rw [hl];rfl);rw [hl] at HL;clear hl;generalize aheadV (1 + 1) - aheadV 1 = q at *;go_enter Tryz.func108,Tryz.ntmps108;go_wp2_with fail;refine (HL.out _).mono ?_;rintro e w1 ⟨rfl,rfl⟩;go_wp2_with fail;go_ret;exact ⟨by rw [HV2.out];rfl,HB.out⟩
 ·have hd:((k:Int) + 1 == 2) = false:=by simp;omega
  rw [if_neg (by omega),Int.add_zero] at HV;generalize aheadV (k + 1) - aheadV k = q at *;go_enter Tryz.func108,Tryz.ntmps108;go_wp2_with fail;go_ret;exact ⟨by rw [HV.out];rfl,HB.out⟩
theorem rweek_any (n:Int) (h1:-1000000000 ≤ n) (h2:n ≤ 1000000000) (w:World) :
  Calls Tryz.prog 133 #[.int .i64 n] w fun e w'=>e = .returned (.int .i64 (weekV n))∧w' = w:=by
 have hm:=mod_eq (a:=n + 4) (b:=7) (by omega);have h6:=Int.lt_tmod_of_pos (n + 4) (b:=7) (by omega);have h7:=Int.tmod_lt_of_pos (n + 4) (b:=7) (by omega);obtain ⟨t,ht⟩:∃ t,(n + 4).tmod 7 = t:=⟨_,rfl⟩;rw [ht] at hm h6 h7
 have HV:=Lib.hid (show weekV n = (t + 7) % 7 by
  unfold weekV
  split at hm <;> omega)
 clear hm;go_enter Tryz.func133,Tryz.ntmps133;go_wp2_with fail;go_ret;exact ⟨by rw [HV.out];rfl,rfl⟩
theorem rdays_any (y m:Int) (hy1:1 ≤ y) (hy2:y ≤ 4000) (h1:1 ≤ m) (h2:m ≤ 12) (w:World) :
  Calls Tryz.prog 109 #[.int .i64 y,.int .i64 m] w fun e w'=>e = .returned (.int .i64 (yearV y + startV y m))∧Below w.heap.size w w':=by
 have HLP:=Lib.hid (fun z W=>rleap_any z W);have HY0:=Lib.hid (show yearV 1970 = 0 by decide);have hyb:=yearV_in (y:=y) (by omega) (by omega);have HYM:=Lib.hid (show ∀ z,1 ≤ z→z ≤ 4000→-2000000 ≤ yearV z∧yearV z ≤ 2000000 from fun z h3 h4=>by unfold yearV;omega);go_enter Tryz.func109,Tryz.ntmps109;go_wp2_with fail
 go_loopw [5,6] (fun nv zv wr=>∃ z:Int,zv = .int .i64 z∧1970 ≤ z∧(z ≤ y∨z = 1970)∧nv = .int .i64 (yearV z)∧Below w.heap.size w wr) (fun _ zv _=>(y - intOf zv).toNat)
 case atStart=>exact ⟨1970,rfl,by omega,.inr rfl,by rw [HY0.out],Below.refl _ _⟩
 case round =>
  obtain ⟨z,rfl,hz1,hz2,rfl,hbw⟩:=hrel;have HBW:=Lib.hid hbw;clear hbw;have hb1:=HYM.out z (by omega) (by omega)
  by_cases hlt:z < y
  ·have hd:decide (z < y) = true:=decide_eq_true hlt;have HN:=Lib.hid (yearV_next z)
   cases hl:leapB z with
   | true =>
     have HN2:=Lib.hid (show yearV (z + 1) = yearV z + 365 + 1 by rw [HN.out];unfold leapsV;rw [hl];rfl);have HC:=Lib.hid (HLP.out z wr);rw [hl] at HC;clear hl;generalize yearV z = q at *;go_wp2_with fail;refine HC.out.mono ?_;rintro e w1 ⟨rfl,rfl⟩;go_wp2_with fail;go_roundw
     case rel=>exact ⟨z + 1,by first | rfl | go_num,by omega,.inl (by omega),by rw [HN2.out],HBW.out⟩
     case measure=>simp [intOf];omega
   | false =>
     have HN2:=Lib.hid (show yearV (z + 1) = yearV z + 365 by rw [HN.out];unfold leapsV;rw [hl];simp);have HC:=Lib.hid (HLP.out z wr);rw [hl] at HC;clear hl;generalize yearV z = q at *;go_wp2_with fail;refine HC.out.mono ?_;rintro e w1 ⟨rfl,rfl⟩;go_wp2_with fail;go_roundw
     case rel=>exact ⟨z + 1,by first | rfl | go_num,by omega,.inl (by omega),by rw [HN2.out],HBW.out⟩
     case measure=>simp [intOf];omega
  ·have hd:decide (z < y) = false:=decide_eq_false hlt;go_wp2_with fail
   go_loopw [5,7] (fun nv zv wi=>∃ z2:Int,zv = .int .i64 z2∧y ≤ z2∧(z2 ≤ 1970∨z2 = y)∧nv = .int .i64 (yearV z + yearV y - yearV z2)∧Below w.heap.size w wi) (fun _ zv _=>(1970 - intOf zv).toNat)
   case atStart=>exact ⟨y,rfl,Int.le_refl _,.inr rfl,by rw [show yearV z + yearV y - yearV y = yearV z by omega],HBW.out⟩
   case round =>
    obtain ⟨z2,rfl,hz3,hz4,rfl,hbi⟩:=hrel;have HBI:=Lib.hid hbi;clear hbi;have hb2:=HYM.out z2 (by omega) (by omega)
    by_cases hlt2:z2 < 1970
    ·have hd2:decide (z2 < 1970) = true:=decide_eq_true hlt2;have HN:=Lib.hid (yearV_next z2)
     cases hl:leapB z2 with
     | true =>
       have HN2:=Lib.hid (show yearV z + yearV y - yearV (z2 + 1) = yearV z + yearV y - yearV z2 - 365 - 1 by rw [HN.out];unfold leapsV;rw [hl];simp;omega);have HC:=Lib.hid (HLP.out z2 wr);rw [hl] at HC;clear hl;obtain ⟨q,hq⟩:∃ q,yearV z + yearV y - yearV z2 = q:=⟨_,rfl⟩;rw [hq] at HN2 ⊢;have hqb:-90000000 ≤ q∧q ≤ 90000000:=by omega
       clear hq;go_wp2_with fail;refine HC.out.mono ?_;rintro e w1 ⟨rfl,rfl⟩;go_wp2_with fail;go_roundw
       case rel=>exact ⟨z2 + 1,by first | rfl | go_num,by omega,.inl (by omega),by rw [HN2.out],HBI.out⟩
       case measure=>simp [intOf];omega
     | false =>
       have HN2:=Lib.hid (show yearV z + yearV y - yearV (z2 + 1) = yearV z + yearV y - yearV z2 - 365 by rw [HN.out];unfold leapsV;rw [hl];simp;omega);have HC:=Lib.hid (HLP.out z2 wr);rw [hl] at HC;clear hl;obtain ⟨q,hq⟩:∃ q,yearV z + yearV y - yearV z2 = q:=⟨_,rfl⟩;rw [hq] at HN2 ⊢;have hqb:-90000000 ≤ q∧q ≤ 90000000:=by omega
       clear hq;go_wp2_with fail;refine HC.out.mono ?_;rintro e w1 ⟨rfl,rfl⟩;go_wp2_with fail;go_roundw
       case rel=>exact ⟨z2 + 1,by first | rfl | go_num,by omega,.inl (by omega),by rw [HN2.out],HBI.out⟩
       case measure=>simp [intOf];omega
    ·have hd2:decide (z2 < 1970) = false:=decide_eq_false hlt2
     have hval:yearV z + yearV y - yearV z2 = yearV y:=by
      by_cases h3:y ≤ 1970
      ·rw [show z = 1970 by omega,show z2 = 1970 by omega];omega
      ·rw [show z = y by omega,show z2 = y by omega];omega
     rw [hval];have HS1:=Lib.hid (startV_one y);clear hval;go_wp2_with fail
     go_loopw [5,8] (fun nv mv wj=>∃ k:Int,mv = .int .i64 k∧1 ≤ k∧k ≤ m∧nv = .int .i64 (yearV y + startV y k)∧Below w.heap.size w wj) (fun _ mv _=>(m - intOf mv).toNat)
     case atStart=>exact ⟨1,rfl,by omega,h1,by rw [HS1.out,Int.add_zero],HBI.out⟩
     case round =>
      obtain ⟨k,rfl,hk1,hk2,rfl,hbj⟩:=hrel;have HBJ:=Lib.hid hbj;have hsz:=hbj.size;clear hbj;have hsb:=startV_in y k
      by_cases hlt3:k < m
      ·have hd3:decide (k < m) = true:=decide_eq_true hlt3;have HL:=Lib.hid (rlong_any y k hk1 (by omega) wr);have hlb:=lenV_in (y:=y) hk1 (show k ≤ 12 by omega);have HN:=Lib.hid (show yearV y + startV y (k + 1) = yearV y + startV y k + lenV y k by rw [startV_next hk1 (by omega)];omega);obtain ⟨q,hq⟩:∃ q,yearV y + startV y k = q:=⟨_,rfl⟩;rw [hq] at HN ⊢;have hqb:-10000000 ≤ q∧q ≤ 10000000:=by have:=HYM.out y hy1 hy2;omega
       generalize lenV y k = ln at *;clear hq;go_wp2_with fail;refine HL.out.mono ?_;rintro e w1 ⟨rfl,hb⟩;have HB1:=Lib.hid (HBJ.out.trans (hb.mono hsz));clear hb;go_wp2_with fail;go_roundw
       case rel=>exact ⟨k + 1,by first | rfl | go_num,by omega,by omega,by rw [HN.out],HB1.out⟩
       case measure=>simp [intOf];omega
      ·obtain rfl:k = m:=by omega
       have hd3:decide (k < k) = false:=decide_eq_false hlt3;go_wp2_with fail;go_ret;exact ⟨rfl,HBJ.out⟩
end
end Go.Proofs.YteekjfgjmccdnaaGreatDoor
