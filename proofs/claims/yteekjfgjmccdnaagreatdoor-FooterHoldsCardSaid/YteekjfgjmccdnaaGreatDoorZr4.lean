/-
  Layer 12's formats: the reference's way, byte by byte, is the program's.
-/
import Derived.Lib.SliceRun
import Derived.Lib.MinMax
import Derived.Lib.Strings
import Derived.Shelf.Strings.SlTrimAscii
import Derived.Shelf.Strings.Cut
import Derived.Shelf.Strings.Replace
import Derived.Shelf.Strings.Search3
import Derived.Shelf.SlSorted.Search
import Derived.Shelf.SlicesE.Clone
import Derived.Shelf.Vars
import Derived.Ground.NamesProg
import Derived.Ground.SlgnProg
import Derived.Ground.SlsoProg
import Derived.Test.YteekjfgjmccdnaaGreatDoorProg
import Derived.Lib.Slices
import Derived.Lib.IndexMore
import Derived.Lib.SlTrimSet
import Derived.Lib.Replace
import Derived.Deep.QuietTactic
import Derived.BigQuiet
import Derived.Shelf.RegionOpen
import Derived.WalkKit
import Derived.WalkSpells
import Derived.WalkLawsBesides
import Derived.Lib.Hide
import Derived.Lib.Walk
import Derived.Deep.RegionHeld3
import Derived.Lib.CountLaws
import Derived.Test.YteekjfgjmccdnaaGreatDoorZr3
set_option maxHeartbeats 16000000
set_option maxRecDepth 100000
namespace Go.Proofs.YteekjfgjmccdnaaGreatDoor
section -- RulB
open Go Go.RowKit Go.Shelf
def Fact.ints (a b:Int):Fact:=⟨fun v w=>Sl w w.heap.size 1 v 2 [.int .i64 a,.int .i64 b],fun _ _ _ h hb=>(h.below hb).more hb.size⟩
theorem order2_any (x y:Rul) (w:World) :
  Calls Tryz.prog 96 #[rulA x,rulA y] w fun e w'=>e = .returned (.int .i64 (cmp2 x y))∧Below w.heap.size w w':=by
 have h1:RulB ((w.alloc (.cells #[.string x.name,.int .i64 x.from_,.int .i64 x.to_,.int .i64 x.month,.int .i64 x.dk,.int .i64 x.dw,.int .i64 x.dn,.int .i64 x.sec,.int .i64 x.kind,.int .i64 x.save,.string x.letter] 106)).alloc (.cells #[.string y.name,.int .i64 y.from_,.int .i64 y.to_,.int .i64 y.month,.int .i64 y.dk,.int .i64 y.dw,.int .i64 y.dn,.int .i64 y.sec,.int .i64 y.kind,.int .i64 y.save,.string y.letter] 106)) w.heap.size x:=(Blk.new w 106 _).alloc _
 have h2:RulB ((w.alloc (.cells #[.string x.name,.int .i64 x.from_,.int .i64 x.to_,.int .i64 x.month,.int .i64 x.dk,.int .i64 x.dw,.int .i64 x.dn,.int .i64 x.sec,.int .i64 x.kind,.int .i64 x.save,.string x.letter] 106)).alloc (.cells #[.string y.name,.int .i64 y.from_,.int .i64 y.to_,.int .i64 y.month,.int .i64 y.dk,.int .i64 y.dw,.int .i64 y.dn,.int .i64 y.sec,.int .i64 y.kind,.int .i64 y.save,.string y.letter] 106)) (w.heap.size + 1) y:=by
  have:=Blk.new (w.alloc (.cells #[.string x.name,.int .i64 x.from_,.int .i64 x.to_,.int .i64 x.month,.int .i64 x.dk,.int .i64 x.dw,.int .i64 x.dn,.int .i64 x.sec,.int .i64 x.kind,.int .i64 x.save,.string x.letter] 106)) 106 #[.string y.name,.int .i64 y.from_,.int .i64 y.to_,.int .i64 y.month,.int .i64 y.dk,.int .i64 y.dw,.int .i64 y.dn,.int .i64 y.sec,.int .i64 y.kind,.int .i64 y.save,.string y.letter]
  rwa [World.size_alloc] at this
 have hb0:Below w.heap.size w ((w.alloc (.cells #[.string x.name,.int .i64 x.from_,.int .i64 x.to_,.int .i64 x.month,.int .i64 x.dk,.int .i64 x.dw,.int .i64 x.dn,.int .i64 x.sec,.int .i64 x.kind,.int .i64 x.save,.string x.letter] 106)).alloc (.cells #[.string y.name,.int .i64 y.from_,.int .i64 y.to_,.int .i64 y.month,.int .i64 y.dk,.int .i64 y.dw,.int .i64 y.dn,.int .i64 y.sec,.int .i64 y.kind,.int .i64 y.save,.string y.letter] 106)):=((Below.refl _ _).alloc (Nat.le_refl _) _).alloc (by simp) _;have HC:=Lib.hid (fun a b W=>cmpInt_any a b W);have HV:=Lib.hid (show orV (cmpZ x.from_ y.from_) (cmpZ x.month y.month) = cmp2 x y from rfl);unfold rulA;obtain ⟨z1,hz1⟩:∃ z,cmpZ x.from_ y.from_ = z:=⟨_,rfl⟩;obtain ⟨z2,hz2⟩:∃ z,cmpZ x.month y.month = z:=⟨_,rfl⟩;obtain ⟨z,hz⟩:∃ z,cmp2 x y = z:=⟨_,rfl⟩;rw [hz1,hz2,hz] at HV;rw [hz];have HZ:=Lib.hid (And.intro hz1 hz2);clear hz1 hz2 hz;go_enter Tryz.func96,Tryz.ntmps96;go_wp2_with fail;obtain ⟨W0,hW0⟩:∃ W,(w.alloc (.cells #[.string x.name,.int .i64 x.from_,.int .i64 x.to_,.int .i64 x.month,.int .i64 x.dk,.int .i64 x.dw,.int .i64 x.dn,.int .i64 x.sec,.int .i64 x.kind,.int .i64 x.save,.string x.letter] 106)).alloc (.cells #[.string y.name,.int .i64 y.from_,.int .i64 y.to_,.int .i64 y.month,.int .i64 y.dk,.int .i64 y.dw,.int .i64 y.dn,.int .i64 y.sec,.int .i64 y.kind,.int .i64 y.save,.string y.letter] 106) = W:=⟨_,rfl⟩;rw [hW0] at h1 h2 hb0 ⊢;clear hW0;have H1:=Lib.hid h1;have H2:=Lib.hid h2;have HB0:=Lib.hid hb0;clear h1 h2 hb0
 refine wp_inv (by kernel_rfl) [5,6,7,8,9,10,11,12,13,14,15,16,4]
  [.is (.pointer (some ⟨w.heap.size,1,none⟩)),.is (.int .i64 x.from_),.is (.pointer (some ⟨w.heap.size + 1,1,none⟩)),.is (.int .i64 y.from_),.is (.int .i64 z1),.is (.pointer (some ⟨w.heap.size,3,none⟩)),.is (.int .i64 x.month),.is (.pointer (some ⟨w.heap.size + 1,3,none⟩)),.is (.int .i64 y.month),.is (.int .i64 z2),Fact.ints z1 z2,.is (.int .i64 z),.is (.int .i64 z)] (by kernel_rfl) ⟨?_,?_,?_,?_,?_,?_,?_,?_,?_,?_,?_,?_,?_,trivial⟩ ?_
 ·intro x_ w1_ R hB_ hf hR;clear hB_ hf;simp only [frameOf,upd,List.foldl_cons,List.foldl_nil,Act.put,List.setIfInBounds_toArray,List.set_cons_succ,List.set_cons_zero] at hR ⊢;go_wp2_with fail;exact hR _ _ rfl (Below.refl _ _)
 ·intro x_ w1_ R hB_ hf hR;have h0:x_ 5 = .pointer (some ⟨w.heap.size,1,none⟩):=hf 0 (by kernel_rfl);have q0:=Blk.cell (Blk.below H1.out hB_ (Blk.lt H1.out)) 1 (v:=.int .i64 x.from_) rfl;clear hB_ hf;simp only [frameOf,upd,List.foldl_cons,List.foldl_nil,Act.put,List.setIfInBounds_toArray,List.set_cons_succ,List.set_cons_zero] at hR ⊢;simp only [h0] at hR ⊢;go_wp2_with fail;exact hR _ _ rfl (Below.refl _ _)
 ·intro x_ w1_ R hB_ hf hR;clear hB_ hf;simp only [frameOf,upd,List.foldl_cons,List.foldl_nil,Act.put,List.setIfInBounds_toArray,List.set_cons_succ,List.set_cons_zero] at hR ⊢;go_wp2_with fail;exact hR _ _ rfl (Below.refl _ _)
 ·intro x_ w1_ R hB_ hf hR;have h0:x_ 7 = .pointer (some ⟨w.heap.size + 1,1,none⟩):=hf 2 (by kernel_rfl);have q0:=Blk.cell (Blk.below H2.out hB_ (Blk.lt H2.out)) 1 (v:=.int .i64 y.from_) rfl;clear hB_ hf;simp only [frameOf,upd,List.foldl_cons,List.foldl_nil,Act.put,List.setIfInBounds_toArray,List.set_cons_succ,List.set_cons_zero] at hR ⊢;simp only [h0] at hR ⊢;go_wp2_with fail;exact hR _ _ rfl (Below.refl _ _)
 ·intro x_ w1_ R hB_ hf hR;have h0:x_ 6 = .int .i64 x.from_:=hf 1 (by kernel_rfl);have h1:x_ 8 = .int .i64 y.from_:=hf 3 (by kernel_rfl);have HCC:=Lib.hid (HC.out x.from_ y.from_ w1_);rw [HZ.out.1] at HCC;clear hB_ hf;simp only [frameOf,upd,List.foldl_cons,List.foldl_nil,Act.put,List.setIfInBounds_toArray,List.set_cons_succ,List.set_cons_zero] at hR ⊢;simp only [h0,h1] at hR ⊢;go_wp2_with fail;refine HCC.out.mono ?_;rintro e w2_ ⟨rfl,rfl⟩;clear HCC;go_wp2_with fail;exact hR _ _ rfl (Below.refl _ _)
 ·intro x_ w1_ R hB_ hf hR;clear hB_ hf;simp only [frameOf,upd,List.foldl_cons,List.foldl_nil,Act.put,List.setIfInBounds_toArray,List.set_cons_succ,List.set_cons_zero] at hR ⊢;go_wp2_with fail;exact hR _ _ rfl (Below.refl _ _)
 ·intro x_ w1_ R hB_ hf hR;have h0:x_ 10 = .pointer (some ⟨w.heap.size,3,none⟩):=hf 5 (by kernel_rfl);have q0:=Blk.cell (Blk.below H1.out hB_ (Blk.lt H1.out)) 3 (v:=.int .i64 x.month) rfl;clear hB_ hf;simp only [frameOf,upd,List.foldl_cons,List.foldl_nil,Act.put,List.setIfInBounds_toArray,List.set_cons_succ,List.set_cons_zero] at hR ⊢;simp only [h0] at hR ⊢;go_wp2_with fail;exact hR _ _ rfl (Below.refl _ _)
 ·intro x_ w1_ R hB_ hf hR;clear hB_ hf;simp only [frameOf,upd,List.foldl_cons,List.foldl_nil,Act.put,List.setIfInBounds_toArray,List.set_cons_succ,List.set_cons_zero] at hR ⊢;go_wp2_with fail;exact hR _ _ rfl (Below.refl _ _)
 ·intro x_ w1_ R hB_ hf hR;have h0:x_ 12 = .pointer (some ⟨w.heap.size + 1,3,none⟩):=hf 7 (by kernel_rfl);have q0:=Blk.cell (Blk.below H2.out hB_ (Blk.lt H2.out)) 3 (v:=.int .i64 y.month) rfl;clear hB_ hf;simp only [frameOf,upd,List.foldl_cons,List.foldl_nil,Act.put,List.setIfInBounds_toArray,List.set_cons_succ,List.set_cons_zero] at hR ⊢;simp only [h0] at hR ⊢;go_wp2_with fail;exact hR _ _ rfl (Below.refl _ _)
 ·intro x_ w1_ R hB_ hf hR;have h0:x_ 11 = .int .i64 x.month:=hf 6 (by kernel_rfl);have h1:x_ 13 = .int .i64 y.month:=hf 8 (by kernel_rfl);have HCC:=Lib.hid (HC.out x.month y.month w1_);rw [HZ.out.2] at HCC;clear hB_ hf;simp only [frameOf,upd,List.foldl_cons,List.foldl_nil,Act.put,List.setIfInBounds_toArray,List.set_cons_succ,List.set_cons_zero] at hR ⊢;simp only [h0,h1] at hR ⊢;go_wp2_with fail;refine HCC.out.mono ?_;rintro e w2_ ⟨rfl,rfl⟩;clear HCC;go_wp2_with fail;exact hR _ _ rfl (Below.refl _ _)
 ·intro x_ w1_ R hB_ hf hR;have h0:x_ 9 = .int .i64 z1:=hf 4 (by kernel_rfl);have h1:x_ 14 = .int .i64 z2:=hf 9 (by kernel_rfl);have hl_:=w1_.heap.size;clear hB_ hf;simp only [frameOf,upd,List.foldl_cons,List.foldl_nil,Act.put,List.setIfInBounds_toArray,List.set_cons_succ,List.set_cons_zero] at hR ⊢;simp only [h0,h1] at hR ⊢;go_wp2_with fail;exact hR _ _ (Sl.mk_ (by decide) (by decide) rfl (by simp) (fun j u hu=>(cell_new w1_ _ _ _ _).trans (by simpa using hu))) ((Below.refl _ _).alloc (Nat.le_refl _) _)
 ·intro x_ w1_ R hB_ hf hR;have HO:=Lib.hid (or_any w1_ w1_.heap.size (x_ 15) z1 z2 (hf 10 (by kernel_rfl)));rw [HV.out] at HO;clear hB_ hf;simp only [frameOf,upd,List.foldl_cons,List.foldl_nil,Act.put,List.setIfInBounds_toArray,List.set_cons_succ,List.set_cons_zero] at hR ⊢;go_wp2_with fail;refine HO.out.mono ?_;rintro e w2_ ⟨rfl,rfl⟩;clear HO;go_wp2_with fail;exact hR _ _ rfl (Below.refl _ _)
 ·intro x_ w1_ R hB_ hf hR;have h0:x_ 16 = .int .i64 z:=hf 11 (by kernel_rfl);clear hB_ hf;simp only [frameOf,upd,List.foldl_cons,List.foldl_nil,Act.put,List.setIfInBounds_toArray,List.set_cons_succ,List.set_cons_zero] at hR ⊢;simp only [h0] at hR ⊢;go_wp2_with fail;exact hR _ _ rfl (Below.refl _ _)
 intro x_ w8 hB8 hf8;have h4:x_ 4 = .int .i64 z:=hf8 12 (by decide);simp only [frameOf,List.foldl_cons,List.foldl_nil,Act.put,List.setIfInBounds_toArray,List.set_cons_succ,List.set_cons_zero];rw [h4];have HB8:=Lib.hid (HB0.out.trans (hB8.mono HB0.out.size));clear hB8 hf8;go_wp2_with fail;go_ret;exact ⟨rfl,HB8.out⟩
theorem insertion_R (W0:World) (base g cap n a b:Nat) (P B S:List Rul) (ha:P.length = a) (hb:a + B.length = b) (hn:n ≤ 1000000000) (hmo:∀ z ∈ B,mOk z) (hR:RwR W0 base g cap n (P ++ (B ++ S))) :
  Calls Tryz.prog 156 #[.slice (some ⟨g,0,none⟩) n cap,.int .i64 a,.int .i64 b,.func (.func 96) #[] #[]] W0 fun e w'=>e = .returned (.tuple #[])∧∃ M,Stab keyR B M∧RwR w' base g cap n (P ++ (M ++ S))∧Fr (fun k=>k = g) W0 w':=by
 have hroom:=hR.room;have hlen:=hR.len;unfold maxLen at hroom;simp only [List.length_append] at hlen;have HR:=Lib.hid hR;have HMB:=Lib.hid hmo;clear hR hmo;obtain ⟨m,hm⟩:∃ m,B.length = m:=⟨_,rfl⟩;rw [ha,hm] at hlen;rw [hm] at hb;have HA:=Lib.hid ha;have HM:=Lib.hid hm;clear ha hm;go_enter Tryz.func156,Tryz.ntmps156;go_wp2_with fail
 go_loopw [8] (fun iv wr=>∃ (k i:Nat) (M:List Rul),1 ≤ k∧(k ≤ m∨k = 1)∧i = a + k∧iv = .int .i64 i∧Stab keyR (B.take k) M∧RwR wr base g cap n (P ++ (M ++ (B.drop k ++ S)))∧Fr (fun k=>k = g) W0 wr) (fun iv _=>b - (intOf iv).toNat)
 case atStart=>exact ⟨1,a + 1,B.take 1,by omega,by omega,rfl,by go_num,by
  rcases B with _ | ⟨x,B⟩
  ·exact Stab.nil
  ·exact Stab.one x,by rw [← List.append_assoc (B.take 1),List.take_append_drop];exact HR.out,Fr.refl _ _⟩
 case round =>
  obtain ⟨k,i,M,hk1,hk,hik,rfl,hst,hrw,hfr⟩:=hrel;have HST:=Lib.hid hst;have HRW:=Lib.hid hrw;have HFR:=Lib.hid hfr;have hml:=hst.len;rw [List.length_take,HM.out] at hml;clear hst hrw hfr;have HIK:=Lib.hid hik;have hin:i ≤ n + 1:=by omega
  by_cases hlt:i < b
  ·have hlt':(i:Int) < (b:Int):=by omega
   have hd:decide ((i:Int) < (b:Int)) = true:=decide_eq_true hlt';have hkm:k < m:=by omega
   have hMk:M.length = k:=by omega
   have hib:i = a + M.length:=by omega
   have HIB:=Lib.hid hib;clear hik hib hml;have hkB:k < B.length:=by rw [HM.out];exact hkm
   obtain ⟨x,hx⟩:∃ x,B[k] = x:=⟨_,rfl⟩;obtain ⟨T,hT⟩:∃ T,B.drop (k + 1) ++ S = T:=⟨_,rfl⟩;have HD:=Lib.hid (show B.drop k ++ S = x :: T by rw [List.drop_eq_getElem_cons hkB,hx,List.cons_append,hT]);have HTK:=Lib.hid (show B.take (k + 1) = B.take k ++ [x] by rw [List.take_succ_eq_append_getElem hkB,hx]);have HT:=Lib.hid hT;rw [HD.out] at HRW;have HMX:=Lib.hid (show mOk x from by rw [← hx];exact HMB.out _ (List.getElem_mem hkB));clear hx hT;go_wp2_with fail
   go_loopw [9] (fun jv wi=>∃ (j:Nat) (U V:List Rul),j = a + U.length∧jv = .int .i64 j∧U ++ V = M∧(∀ v ∈ V,keyR x < keyR v)∧RwR wi base g cap n (P ++ (U ++ x :: (V ++ T)))∧Fr (fun k=>k = g) W0 wi) (fun jv _=>(intOf jv).toNat)
   case atStart=>exact ⟨i,M,[],HIB.out,rfl,List.append_nil _,fun v hv=>by simp at hv,HRW.out,HFR.out⟩
   case round =>
    obtain ⟨j,Us,V,hj,rfl,hUV,hV,hrw,hfr⟩:=hrel;have HUV:=Lib.hid hUV;have HV:=Lib.hid hV;have HRI:=Lib.hid hrw;have HFI:=Lib.hid hfr;have hlM:Us.length + V.length = M.length:=by rw [← hUV,List.length_append]
    clear hUV hV hrw hfr
    rcases List.eq_nil_or_concat Us with rfl | ⟨U',y,rfl⟩
    ·obtain rfl:j = a:=by simpa using hj
     clear hj;go_wp2_with fail
     refine wp_env (fin:=?fnn) (by kernel_rfl) [18,19,20,21,22,23,24,25,26,27,28,29,30,31,32,33,34]
      [.int .i64 j,.int .i64 j,.bool false,.bool false,undef,undef,undef,undef,undef,undef,undef,undef,undef,undef,undef,undef,.bool false] (by kernel_rfl) ?finn ?stepsn ?nextn
     case finn =>
      simp only [putAll,Act.put,List.setIfInBounds_toArray,List.set_cons_succ,List.set_cons_zero]
      rfl
     case stepsn =>
      refine ⟨?_,?_,?_,?_,?_,?_,?_,?_,?_,?_,?_,?_,?_,?_,?_,?_,?_,trivial⟩
      all_goals first | exact .inl ⟨by kernel_rfl,rfl⟩ | refine .inr ⟨by kernel_rfl,fun w1_ hB_=>?_⟩
      all_goals
       clear hB_;go_simp
       first
        | exact ⟨rfl,Below.refl _ _⟩
        | exact ⟨rfl,HCMP.out w1_⟩
        | (rw [IntWalk.i64_in _ (by omega)];exact ⟨rfl,Below.refl _ _⟩)
        | (rw [decide_eq_true (by omega)];exact ⟨rfl,Below.refl _ _⟩)
        | (rw [decide_eq_false (by omega)];exact ⟨rfl,Below.refl _ _⟩)
        | (rw [if_pos (by omega)];exact ⟨rfl,Below.refl _ _⟩)
        | done
     case nextn =>
     intro w7 hb7;have HB7:=Lib.hid hb7;clear hb7;go_wp2_with fail;go_roundw
     case rel=>exact ⟨k + 1,i + 1,x :: M,by omega,by omega,by have:=HIK.out;omega,by go_num,by
      rw [HTK.out]
      have e:=HUV.out
      rw [List.nil_append] at e
      exact Stab.put (A:=[]) (B:=M) HST.out (by simp) (by rw [← e];exact HV.out),by
      have e:=HUV.out
      have h:=HRI.out
      rw [List.nil_append] at e h
      rw [← HT.out,e] at h
      exact h.below HB7.out,HFI.out.then (Fr.of_below HB7.out (Nat.le_refl _))⟩
     case measure=>first | (simp [intOf];done) | (simp [intOf];omega)
    ·rw [List.concat_eq_append] at *;have e1:=HRI.out;rw [List.append_assoc U',← List.append_assoc P,List.singleton_append] at e1;have HE:=Lib.hid e1;have HE2:=Lib.hid (show RwR wr base g cap n ((P ++ (U' ++ [y])) ++ x :: (V ++ T)) by have h:=HRI.out;rw [← List.append_assoc] at h;exact h);clear e1;obtain ⟨p,hp⟩:∃ p,(P ++ U').length = p:=⟨_,rfl⟩;have hp2:(P ++ (U' ++ [y])).length = p + 1:=by rw [← hp];simp only [List.length_append,List.length_cons,List.length_nil];omega
     have hpa:a ≤ p:=by rw [← hp,List.length_append,HA.out];omega
     have hpn:p + 1 < n:=by
      have h:=HE2.out.len;rw [List.length_append,hp2,List.length_cons] at h;omega
     obtain rfl:j = p + 1:=by
      rw [hj,← hp];simp only [List.length_append,List.length_cons,List.length_nil,HA.out];omega
     rw [show ((p + 1:Nat):Int) = (p:Int) + 1 from rfl];have HCY:=Lib.hid HE.out.at_;have HCX:=Lib.hid HE2.out.at_;have HFZ:=Lib.hid (fun j=>HE.out.frozen j);rw [hp] at HCY;rw [hp2] at HCX;have HP:=Lib.hid hp;have HP2:=Lib.hid hp2;clear hp hp2 hj;have HCMP:=Lib.hid (fun W=>order2_any x y W);unfold rulA at HCMP;have hmx:mOk x:=HMX.out;have hmy:mOk y:=HMB.out y (List.mem_of_mem_take (HST.out.1.mem_iff.1 (by rw [← HUV.out];simp)));have HCZ:=Lib.hid (cmp2_lt hmx hmy);obtain ⟨z,hz⟩:∃ z,cmp2 x y = z:=⟨_,rfl⟩;rw [hz] at HCMP HCZ;clear hz hmx hmy;have HK:=Lib.hid (fun (W:World) (h:Below wr.heap.size wr W)=>show RulC W g ((p + 1) * 11) x∧RulC W g (p * 11) y from ⟨HP2.out ▸ (HE2.out.below h).at_,HP.out ▸ (HE.out.below h).at_⟩)
     by_cases hxy:keyR x < keyR y
     ·have hz:z < 0:=by rw [HCZ.out];exact hxy
      go_wp2_with fail
      refine wp_env (fin:=?fnt) (by kernel_rfl) [18,19,20,21,22,23,24,25,26,27,28,29,30,31,32,33,34]
       [.int .i64 ((p:Int) + 1),.int .i64 a,.bool true,.bool true,.func (.func 96) #[] #[],.slice (some ⟨g,0,none⟩) n cap,.int .i64 ((p:Int) + 1),.pointer (some ⟨g,(p + 1) * 11,none⟩),rulA x,.slice (some ⟨g,0,none⟩) n cap,.int .i64 ((p:Int) + 1),.int .i64 p,.pointer (some ⟨g,p * 11,none⟩),rulA y,.int .i64 z,.bool true,.bool true] (by kernel_rfl) ?fint ?stepst ?nextt
      case fint =>
       simp only [putAll,Act.put,List.setIfInBounds_toArray,List.set_cons_succ,List.set_cons_zero]
       rfl
      case stepst =>
       unfold rulA;refine ⟨?_,?_,?_,?_,?_,?_,?_,?_,?_,?_,?_,?_,?_,?_,?_,?_,?_,trivial⟩
       all_goals refine .inr ⟨by kernel_rfl,fun w1_ hB_=>?_⟩
       all_goals
        obtain ⟨⟨c0,c1,c2,c3,c4,c5,c6,c7,c8,c9,c10⟩,⟨d0,d1,d2,d3,d4,d5,d6,d7,d8,d9,d10⟩⟩:=HK.out w1_ hB_;clear hB_;go_simp
        first
         | exact ⟨rfl,Below.refl _ _⟩
         | exact ⟨rfl,HCMP.out w1_⟩
         | (rw [IntWalk.i64_in _ (by omega)];exact ⟨rfl,Below.refl _ _⟩)
         | (rw [decide_eq_true (by omega)];exact ⟨rfl,Below.refl _ _⟩)
         | (rw [decide_eq_false (by omega)];exact ⟨rfl,Below.refl _ _⟩)
         | (rw [if_pos (by omega)];exact ⟨rfl,Below.refl _ _⟩)
         | done
      case nextt =>
      intro w7 hb7;have HB7:=Lib.hid hb7;have HE7:=Lib.hid (HE.out.below hb7);have HE7':=Lib.hid (HE2.out.below hb7);clear hb7;have ⟨c0,c1,c2,c3,c4,c5,c6,c7,c8,c9,c10⟩:=HP2.out ▸ HE7'.out.at_;have ⟨d0,d1,d2,d3,d4,d5,d6,d7,d8,d9,d10⟩:=HP.out ▸ HE7.out.at_;have fz:=HE7.out.frozen;go_wp2_with fail;have HSW:=Lib.hid (RwR.swap (Q:=[]) HE7.out);obtain ⟨wa,hwa⟩:∃ W,putR w7.drew g ((p + 1) * 11) y = W:=⟨_,rfl⟩;obtain ⟨wb,hwb⟩:∃ W,putR w7.drew g (p * 11) x = W:=⟨_,rfl⟩;obtain ⟨wc,hwc⟩:∃ W,putR wa g (p * 11) x = W:=⟨_,rfl⟩;obtain ⟨wd,hwd⟩:∃ W,putR wb g ((p + 1) * 11) y = W:=⟨_,rfl⟩;have HSX:=HSW.out;rw [HP.out,List.length_nil,Nat.add_zero] at HSX;rw [hwa,hwb,hwc,hwd] at HSX;obtain ⟨sA,sB,sC,sD,fC,fD⟩:=HSX;have HSA:=Lib.hid (show (RulC wa g (p * 11) y∧∀ j,_) from ⟨HP.out ▸ sA.at_,fun j=>sA.frozen j⟩);have HSB:=Lib.hid (show (RulC wb g ((p + 1) * 11) x∧∀ j,_) from ⟨by have h:=sB;rw [List.nil_append,show P ++ U' ++ x :: x :: (V ++ T) = (P ++ (U' ++ [x])) ++ x :: (V ++ T) by simp] at h;have h:=h.at_;rw [show (P ++ (U' ++ [x])).length = p + 1 by rw [← HP.out];simp only [List.length_append,List.length_cons,List.length_nil];omega] at h;exact h,fun j=>sB.frozen j⟩);have HSE:=Lib.hid (fun w8 (h8:w8 = wc∨w8 = wd)=>show RwR w8 base g cap n (P ++ U' ++ x :: (y :: (V ++ T)))∧Fr (fun k=>k = g) w7 w8 by rcases h8 with rfl | rfl;exact ⟨sC,fC⟩;exact ⟨sD,fD⟩);clear sA sB sC sD fC fD
      refine wp_envW (fin:=?fns) (by kernel_rfl) [37,38,39,40,41,42,43,44,45,46,47,48,49,50,51,900,52,901]
       [.slice (some ⟨g,0,none⟩) n cap,.int .i64 ((p:Int) + 1),.slice (some ⟨g,0,none⟩) n cap,.int .i64 ((p:Int) + 1),.int .i64 p,.slice (some ⟨g,0,none⟩) n cap,.int .i64 ((p:Int) + 1),.int .i64 p,.pointer (some ⟨g,p * 11,none⟩),rulA y,.slice (some ⟨g,0,none⟩) n cap,.int .i64 ((p:Int) + 1),.pointer (some ⟨g,(p + 1) * 11,none⟩),rulA x,.pointer (some ⟨g,(p + 1) * 11,none⟩),undef,.pointer (some ⟨g,p * 11,none⟩),undef] 15 17 _ _ wa wb wc wd (by kernel_rfl) rfl rfl (by simp) (by simp) (by decide) ?fins ?stepss ?sas ?sbs ?scs ?sds ?nexts
      case fins =>
       simp only [putAll,Act.put,List.setIfInBounds_toArray,List.set_cons_succ,List.set_cons_zero]
       rfl
      case stepss =>
       unfold rulA;refine ⟨.inr (.inr ⟨by kernel_rfl,fun w1_ hB_=>?_⟩),.inr (.inr ⟨by kernel_rfl,fun w1_ hB_=>?_⟩),.inr (.inr ⟨by kernel_rfl,fun w1_ hB_=>?_⟩),.inr (.inr ⟨by kernel_rfl,fun w1_ hB_=>?_⟩),.inr (.inr ⟨by kernel_rfl,fun w1_ hB_=>?_⟩),.inr (.inr ⟨by kernel_rfl,fun w1_ hB_=>?_⟩),.inr (.inr ⟨by kernel_rfl,fun w1_ hB_=>?_⟩),.inr (.inr ⟨by kernel_rfl,fun w1_ hB_=>?_⟩),.inr (.inr ⟨by kernel_rfl,fun w1_ hB_=>?_⟩),.inr (.inr ⟨by kernel_rfl,fun w1_ hB_=>?_⟩),.inr (.inr ⟨by kernel_rfl,fun w1_ hB_=>?_⟩),.inr (.inr ⟨by kernel_rfl,fun w1_ hB_=>?_⟩),.inr (.inr ⟨by kernel_rfl,fun w1_ hB_=>?_⟩),.inr (.inr ⟨by kernel_rfl,fun w1_ hB_=>?_⟩),.inr (.inr ⟨by kernel_rfl,fun w1_ hB_=>?_⟩),.inl rfl,.inr (.inr ⟨by kernel_rfl,fun w1_ hB_=>?_⟩),.inl rfl,trivial⟩
       all_goals
        first
         | (go_simp;done)
         | (go_simp;rfl)
         | (obtain rfl:=hB_ (by kernel_rfl);go_simp;done)
         | (obtain rfl:=hB_ (by kernel_rfl);go_simp;rfl)
         | (go_simp;intro hh_;exfalso;omega)
         | (go_simp;intro hh_;exfalso;have:=hh_ (by omega);omega)
         | (go_simp;rw [IntWalk.i64_in _ (by omega)] <;> rfl)
         | (go_simp;rw [if_pos (by omega)] <;> rfl)
         | (go_simp;done)
      case sas =>
       rw [← hwa];unfold putR rulA;go_simp
       first | done | rfl | done
      case sbs =>
       rw [← hwb];unfold putR rulA;go_simp
       first | done | rfl | done
      case scs =>
       obtain ⟨⟨e0,e1,e2,e3,e4,e5,e6,e7,e8,e9,e10⟩,ef⟩:=HSA.out;rw [← hwc];unfold putR rulA;go_simp
       first | done | rfl | done
      case sds =>
       obtain ⟨⟨e0,e1,e2,e3,e4,e5,e6,e7,e8,e9,e10⟩,ef⟩:=HSB.out;rw [← hwd];unfold putR rulA;go_simp
       first | done | rfl | done
      case nexts =>
      rintro w8 h8;have H8:=Lib.hid (HSE.out w8 h8);clear h8;go_wp2_with fail;go_roundw
      case rel=>exact ⟨p,U',y :: V,by
       have:=HP.out
       rw [List.length_append,HA.out] at this
       omega,by go_num,by have:=HUV.out;simpa using this,fun v hv=>by
       rcases List.mem_cons.1 hv with rfl | hv
       ·exact hxy
       ·exact HV.out v hv,by have h:=H8.out.1;rw [List.append_assoc] at h;exact h,(HFI.out.then (Fr.of_below HB7.out (Nat.le_refl _))).then H8.out.2⟩
      case measure=>first | (simp [intOf];done) | (simp [intOf];omega)
     ·have hz:¬ z < 0:=by rw [HCZ.out];exact hxy
      go_wp2_with fail
      refine wp_env (fin:=?fnf) (by kernel_rfl) [18,19,20,21,22,23,24,25,26,27,28,29,30,31,32,33,34]
       [.int .i64 ((p:Int) + 1),.int .i64 a,.bool true,.bool true,.func (.func 96) #[] #[],.slice (some ⟨g,0,none⟩) n cap,.int .i64 ((p:Int) + 1),.pointer (some ⟨g,(p + 1) * 11,none⟩),rulA x,.slice (some ⟨g,0,none⟩) n cap,.int .i64 ((p:Int) + 1),.int .i64 p,.pointer (some ⟨g,p * 11,none⟩),rulA y,.int .i64 z,.bool false,.bool false] (by kernel_rfl) ?finf ?stepsf ?nextf
      case finf =>
       simp only [putAll,Act.put,List.setIfInBounds_toArray,List.set_cons_succ,List.set_cons_zero]
       rfl
      case stepsf =>
       unfold rulA;refine ⟨?_,?_,?_,?_,?_,?_,?_,?_,?_,?_,?_,?_,?_,?_,?_,?_,?_,trivial⟩
       all_goals refine .inr ⟨by kernel_rfl,fun w1_ hB_=>?_⟩
       all_goals
        obtain ⟨⟨c0,c1,c2,c3,c4,c5,c6,c7,c8,c9,c10⟩,⟨d0,d1,d2,d3,d4,d5,d6,d7,d8,d9,d10⟩⟩:=HK.out w1_ hB_;clear hB_;go_simp
        first
         | exact ⟨rfl,Below.refl _ _⟩
         | exact ⟨rfl,HCMP.out w1_⟩
         | (rw [IntWalk.i64_in _ (by omega)];exact ⟨rfl,Below.refl _ _⟩)
         | (rw [decide_eq_true (by omega)];exact ⟨rfl,Below.refl _ _⟩)
         | (rw [decide_eq_false (by omega)];exact ⟨rfl,Below.refl _ _⟩)
         | (rw [if_pos (by omega)];exact ⟨rfl,Below.refl _ _⟩)
         | done
      case nextf =>
      intro w7 hb7;have HB7:=Lib.hid hb7;clear hb7;go_wp2_with fail;go_roundw
      case rel=>exact ⟨k + 1,i + 1,(U' ++ [y]) ++ x :: V,by omega,by omega,by have:=HIK.out;omega,by go_num,by
       rw [HTK.out]
       refine Stab.put (by rw [HUV.out];exact HST.out) (fun u hu=>?_) HV.out
       have hs:=HST.out.2.1
       rw [← HUV.out,List.append_assoc,List.pairwise_append] at hs
       rcases List.mem_append.1 hu with hu | hu
       ·have:=hs.2.2 u hu y (by simp)
        omega
       ·rw [List.mem_singleton.1 hu]
        omega,by
       have h:=HRI.out
       rw [← HT.out] at h
       have h:=h.below HB7.out
       simpa [List.append_assoc] using h,HFI.out.then (Fr.of_below HB7.out (Nat.le_refl _))⟩
      case measure=>first | (simp [intOf];done) | (simp [intOf];omega)
  ·go_wp2_with fail;have hkd:B.drop k = []:=List.drop_eq_nil_of_le (by rw [HM.out];omega);have hkt:B.take k = B:=List.take_of_length_le (by rw [HM.out];omega);have h1:=HRW.out;have h2:=HST.out;rw [hkd,List.nil_append] at h1;rw [hkt] at h2;go_end0;exact ⟨rfl,M,h2,h1,HFR.out⟩
end
section -- RulC
open Go Go.RowKit Go.Shelf
theorem infoRul:(Tryz.prog.info? 106).map (fun i=>(i.zero,i.size,i.bytes)) = some (some (.agg #[.string ⟨#[]⟩,.int .i64 0,.int .i64 0,.int .i64 0,.int .i64 0,.int .i64 0,.int .i64 0,.int .i64 0,.int .i64 0,.int .i64 0,.string ⟨#[]⟩]),11,104):=by kernel_rfl
def OwnR (w:World) (base:Nat) (v:Value) (l:List Rul):Prop:=w.ownsRow base 106 11 v l.length (rulsV l)
theorem OwnR.cases {w:World} {base:Nat} {v:Value} {l:List Rul} (h:OwnR w base v l):(v = .slice none 0 0∧l = [])∨∃ g cap,v = .slice (some ⟨g,0,none⟩) l.length cap∧RwR w base g cap l.length l:=by
 rcases h.2 with ⟨h0,hn⟩ | ⟨g,cap,cur,h0,hbg,hg,hnc,hcm2,hcs,htk⟩
 ·exact .inl ⟨h0,List.eq_nil_of_length_eq_zero hn⟩
 ·subst h0;exact .inr ⟨g,cap,rfl,rfl,h⟩
theorem rclone_any (w:World) (B:Nat) (v:Value) (l:List Rul) (hv:Ruls w B v l) (hB:B ≤ w.heap.size) (hl:l.length ≤ 100000) :
  Calls Tryz.prog 53 #[v] w fun e w'=>∃ u,e = .returned u∧OwnR w' w.heap.size u l∧Below w.heap.size w w':=by
 obtain ⟨i0,hi,hz0,hz1,hz2⟩:=info_parts infoRul;have q22:∀ (w:World) (a:Option Addr) (n c n' c':Nat),(binOp .eql 52 (.slice a n c) (.slice none n' c')).run Tryz.prog w = .ok (.bool a.isNone) w:=fun w a n c n' c'=>Lib.run_eql_slice_nil w _ _ a n c n' c' Tryz.underlying52
 obtain ⟨A,c,rfl,hlc,hcm⟩:=hv.form;have HV:=Lib.hid hv
 rcases A with _ | ad
 ·have h0:l = []:=by
   rcases Nat.eq_zero_or_pos l.length with h | h
   ·exact List.eq_nil_of_length_eq_zero h
   ·obtain ⟨b,o,c',e,-,-⟩:=hv.cells h
    cases e
  subst h0;clear hv;go_enter Tryz.func53,Tryz.ntmps53;go_wp2_with fail;go_ret;exact ⟨_,rfl,World.ownsRow_nil _ _ _ _,Below.refl _ _⟩
 ·clear hv;unfold maxLen at hcm;go_enter Tryz.func53,Tryz.ntmps53;go_wp2_with (at_builtin;refine wpList_append_sl rfl _ _ 52 rfl w.heap.size 106 i0 (.agg #[.string ⟨#[]⟩,.int .i64 0,.int .i64 0,.int .i64 0,.int .i64 0,.int .i64 0,.int .i64 0,.int .i64 0,.int .i64 0,.int .i64 0,.string ⟨#[]⟩]) 11 104 Tryz.underlying52 hi hz0 hz1 hz2 rfl (by decide) _ 0 [] rfl (World.ownsRow_made w #[] 0 (Nat.le_refl _) (Nat.zero_le _) (by simp)) (.slice (some ad) l.length c) B l.length (rulsV l) rfl (Sl.alloc HV.out hB _) (rulsV_one l) (by unfold maxLen;omega) (by omega) (by simp) ?_;intro v' w1 hown hgrow);go_ret;refine ⟨v',rfl,?_,((Below.refl _ w).alloc (Nat.le_refl _) _).grown hgrow (by simp) (fun g hg=>((World.ownsRow_made (base:=w.heap.size) (e:=106) (size:=11) w #[] 0 (Nat.le_refl _) (Nat.zero_le _) (by simp)).lt g hg).1)⟩;rw [Nat.zero_add,List.nil_append] at hown;exact hown
theorem pred_any (r:Rul) (w:World) :
  Calls Tryz.prog 94 #[rulA r] w fun e w'=>e = .returned (.bool (r.save != 0))∧Below w.heap.size w w':=by
 have HB0:=Lib.hid ((Below.refl w.heap.size w).alloc (Nat.le_refl _) (.cells #[.string r.name,.int .i64 r.from_,.int .i64 r.to_,.int .i64 r.month,.int .i64 r.dk,.int .i64 r.dw,.int .i64 r.dn,.int .i64 r.sec,.int .i64 r.kind,.int .i64 r.save,.string r.letter] 106));have hx:=Blk.new w 106 #[.string r.name,.int .i64 r.from_,.int .i64 r.to_,.int .i64 r.month,.int .i64 r.dk,.int .i64 r.dw,.int .i64 r.dn,.int .i64 r.sec,.int .i64 r.kind,.int .i64 r.save,.string r.letter];have q9:=Blk.cell hx 9 (v:=.int .i64 r.save) rfl;clear hx;unfold rulA;go_enter Tryz.func94,Tryz.ntmps94;go_wp2_with fail;go_ret;exact ⟨rfl,HB0.out⟩
def keepB (r:Rul):Bool:=decide (r.save = 0)
def badAt (l:List Rul):Nat:=(l.takeWhile keepB).length
def idxV (l:List Rul):Int:=if badAt l < l.length then badAt l else -1
theorem badAt_spec:∀ {l:List Rul} {k:Nat},(∀ i (h:i < l.length),i < k→keepB l[i] = true)→(hk:k < l.length)→keepB l[k] = false→badAt l = k
 | [],k,_,hk,_=>by simp at hk
 | x :: l,0,_,_,h=>by
   have h:keepB x = false:=h;unfold badAt;rw [List.takeWhile_cons,h]
   rfl
 | x :: l,k + 1,h1,hk,h=>by
   have h0:keepB x = true:=h1 0 (by simp) (by omega);unfold badAt;rw [List.takeWhile_cons,if_pos h0,List.length_cons];have:=badAt_spec (l:=l) (k:=k) (fun i hi hik=>by have:=h1 (i + 1) (by simpa using hi) (by omega);simpa using this) (by simpa using hk) (by simpa using h);unfold badAt at this;rw [this]
theorem badAt_all {l:List Rul} (h:∀ i (h:i < l.length),keepB l[i] = true):badAt l = l.length:=by
 unfold badAt
 have:∀ m:List Rul,(∀ x ∈ m,keepB x = true)→m.takeWhile keepB = m:=fun m=>by
  induction m with
  | nil=>intro _;rfl
  | cons x m ih =>
    intro hm;rw [List.takeWhile_cons,if_pos (hm x (by simp)),ih (fun y hy=>hm y (by simp [hy]))]
 rw [this l (fun x hx=>by obtain ⟨i,hi,rfl⟩:=List.getElem_of_mem hx;exact h i hi)]
theorem badAt_take:∀ (l:List Rul),(l.take (badAt l)).filter keepB = l.take (badAt l)∧∀ h:badAt l < l.length,keepB l[badAt l] = false
 | []=>⟨rfl,fun h=>by simp at h⟩
 | x :: l=>by
   have ih:=badAt_take l
   cases hx:keepB x with
   | false =>
     have e:badAt (x :: l) = 0:=by unfold badAt;rw [List.takeWhile_cons,hx];rfl
     simp only [e];exact ⟨rfl,fun _=>hx⟩
   | true =>
     have e:badAt (x :: l) = badAt l + 1:=by unfold badAt;rw [List.takeWhile_cons,if_pos hx];rfl
     simp only [e];refine ⟨by rw [List.take_succ_cons,List.filter_cons,if_pos hx,ih.1],fun h=>?_⟩;exact ih.2 (by simpa using h)
theorem drop_badAt {l:List Rul} (h:badAt l < l.length):l.take (badAt l) ++ l[badAt l] :: l.drop (badAt l + 1) = l∧keepB l[badAt l] = false :=
 ⟨by rw [← List.drop_eq_getElem_cons h,List.take_append_drop],(badAt_take l).2 h⟩
theorem keep_ne {r:Rul} {b:Bool} (h:keepB r = b):(r.save != 0) = !b:=by
 unfold keepB at h;subst h
 by_cases h:r.save = 0 <;> simp [h]
theorem ridx_any (w:World) (B:Nat) (v:Value) (l:List Rul) (hv:Ruls w B v l) (hB:B ≤ w.heap.size) (hl:l.length ≤ 100000) :
  Calls Tryz.prog 90 #[v,.func (.func 94) #[] #[]] w fun e w'=>e = .returned (.int .i64 (idxV l))∧Below w.heap.size w w':=by
 obtain ⟨A,c,rfl,hlc,hcm⟩:=hv.form;unfold maxLen at hcm;have HV:=Lib.hid hv;clear hv;go_enter Tryz.func90,Tryz.ntmps90;go_wp2_with fail
 go_loopw [8] (fun iv wr=>∃ k:Nat,k ≤ l.length∧iv = .int .i64 k∧(∀ i (h:i < l.length),i < k→keepB l[i] = true)∧Below w.heap.size w wr) (fun iv _=>l.length - (intOf iv).toNat)
 case atStart=>exact ⟨0,Nat.zero_le _,rfl,fun i h hk=>by omega,Below.refl _ _⟩
 case round =>
  obtain ⟨k,hk,rfl,hall,hbw⟩:=hrel;have HALL:=Lib.hid hall;have HBW:=Lib.hid hbw;have hws:=hbw.size;clear hall hbw
  by_cases hlt:k < l.length
  ·have hd:decide ((k:Int) < (l.length:Int)) = true:=decide_eq_true (by omega);obtain ⟨bb,o,c',e,hbb,hc⟩:=(HV.out.below (HBW.out.mono hB)).cells (by omega)
   cases e
   obtain ⟨c0,c1,c2,c3,c4,c5,c6,c7,c8,c9,c10⟩:=hc k hlt;obtain ⟨r,hr⟩:∃ r,l[k] = r:=⟨_,rfl⟩;rw [hr] at c0 c1 c2 c3 c4 c5 c6 c7 c8 c9 c10;have HR:=Lib.hid hr;have HP:=Lib.hid (pred_any r wr);unfold rulA at HP;clear hc hr
   cases hkb:keepB r with
   | true =>
     rw [keep_ne hkb] at HP;have HKB:=Lib.hid hkb;clear hkb;go_wp2_with fail;refine HP.out.mono ?_;rintro e w1 ⟨rfl,hb⟩;have HB1:=Lib.hid (HBW.out.trans (hb.mono hws));clear hb c0 c1 c2 c3 c4 c5 c6 c7 c8 c9 c10;go_wp2_with fail;go_roundw
     case rel=>exact ⟨k + 1,by omega,by go_num,fun i h hik=>by
      rcases Nat.lt_or_ge i k with h1 | h1
      ·exact HALL.out i h h1
      ·have:i = k:=by omega
       subst this
       rw [HR.out]
       exact HKB.out,HB1.out⟩
     case measure=>simp [intOf];omega
   | false =>
     rw [keep_ne hkb] at HP
     have HI:=Lib.hid (show idxV l = k by
      have h:=badAt_spec HALL.out hlt (by rw [HR.out];exact hkb)
      unfold idxV
      rw [h,if_pos hlt])
     clear hkb;go_wp2_with fail;refine HP.out.mono ?_;rintro e w1 ⟨rfl,hb⟩;have HB1:=Lib.hid (HBW.out.trans (hb.mono hws));clear hb c0 c1 c2 c3 c4 c5 c6 c7 c8 c9 c10;go_wp2_with fail;go_ret;exact ⟨by rw [HI.out];rfl,HB1.out⟩
  ·have hd:decide ((k:Int) < (l.length:Int)) = false:=decide_eq_false (by omega)
   have HI:=Lib.hid (show idxV l = -1 by
    have h:=badAt_all (l:=l) (fun i h=>HALL.out i h (by omega))
    unfold idxV
    rw [h,if_neg (by omega)])
   go_wp2_with fail;go_ret;exact ⟨by rw [HI.out];rfl,HBW.out⟩
theorem RwR.front {W:World} {base g cap n k:Nat} {K Y:List Rul} (h:RwR W base g cap n (K ++ Y)) (hk:K.length = k):RwR W base g cap k K:=by
 obtain ⟨h1,h2,h3⟩:=h
 rcases h3 with ⟨h',_⟩ | ⟨g',cap',cur,h',hb,hg,hnc,hcm,hcs,htk⟩
 ·simp at h'
 ·simp only [Value.slice.injEq,Option.some.injEq,Addr.mk.injEq,and_true,true_and] at h';obtain ⟨rfl,rfl⟩:=h';rw [List.length_append,hk] at h1;refine ⟨hk,by rw [length_rulsV,hk],.inr ⟨g,cap,cur,rfl,hb,hg,by omega,hcm,hcs,?_⟩⟩;have e:=congrArg (List.take (k * 11)) htk;rw [List.take_take,Nat.min_eq_left (by omega),rulsV_append,List.take_append_of_le_length (by rw [length_rulsV,hk];exact Nat.le_refl _),List.take_of_length_le (l:=rulsV K) (by rw [length_rulsV,hk];exact Nat.le_refl _)] at e;exact e
theorem RwR.behind {base g cap n:Nat} {K:List Rul}:∀ (vs:List Value) (o:Nat) {W:World},n * 11 ≤ o→RwR W base g cap n K→RwR (W.setCells g o vs) base g cap n K∧Fr (fun k=>k = g) W (W.setCells g o vs)
 | [],_,_,_,h=>⟨h,Fr.refl _ _⟩
 | u :: vs,o,W,ho,h=>by
   have h1:=(h.2.stored o u).1;have e:(rulsV K).set o u = rulsV K:=List.set_eq_of_length_le (by rw [length_rulsV,h.1];exact ho);rw [e] at h1;obtain ⟨h2,h3⟩:=RwR.behind vs (o + 1) (by omega) (show RwR (W.setCell ⟨g,o,none⟩ u) base g cap n K from ⟨h.1,h1⟩);exact ⟨h2,(Fr.setCell (T:=fun k=>k = g) W o u rfl).then h3⟩
def zeroR:Array Value:=#[.string ⟨#[]⟩,.int .i64 0,.int .i64 0,.int .i64 0,.int .i64 0,.int .i64 0,.int .i64 0,.int .i64 0,.int .i64 0,.int .i64 0,.string ⟨#[]⟩]
theorem zero_rul (w:World):(zeroValue 106).run Tryz.prog w = .ok (.agg zeroR) w:=by
 have e:Tryz.t106.zero = some (.agg zeroR):=by kernel_rfl
 simp [zeroValue,go_sem,e]
theorem clear_run {W:World} {base g cap n:Nat} {d:List Rul} (h:RwR W base g cap n d) (ty:TypeId) (o m c:Nat) (hm:0 < m) (ho:o + m * 11 ≤ n * 11) :
  ∃ vs,(Builtin.clear_ #[52] ty #[.slice (some ⟨g,o,none⟩) m c]).run Tryz.prog W = .ok (.tuple #[]) (W.setCells g o vs):=by
 have hlen:(Builtin.zeroCells zeroR m).toList.length = m * 11:=by simp [Builtin.zeroCells,zeroR]
 have hone:∀ u ∈ (Builtin.zeroCells zeroR m).toList,u.oneCell' = true:=by
  intro u hu;simp only [Builtin.zeroCells,Array.toList_map,List.mem_map] at hu;obtain ⟨i,-,rfl⟩:=hu;have hi:i % zeroR.size < 11:=Nat.mod_lt _ (by decide);generalize i % zeroR.size = j at hi;have:j = 0∨j = 1∨j = 2∨j = 3∨j = 4∨j = 5∨j = 6∨j = 7∨j = 8∨j = 9∨j = 10:=by omega
  rcases this with rfl | rfl | rfl | rfl | rfl | rfl | rfl | rfl | rfl | rfl | rfl <;> rfl
 have hlr:(rulsV d).length = n * 11:=by rw [length_rulsV,h.1]
 have hst:=run_storeCells_cells (P:=Tryz.prog) g o (Builtin.zeroCells zeroR m).toList 0 W (fun j hj=>by
  rw [hlen] at hj
  rw [h.2.cellAt _ (by omega),List.getElem?_eq_getElem (by omega)]
  rfl) (fun j hj=>h.frozen _) hone
 refine ⟨(Builtin.zeroCells zeroR m).toList,?_⟩;obtain ⟨k,rfl⟩:∃ k,m = k + 1:=⟨m - 1,by omega⟩;have hu:Tryz.prog.underlying 52 = some (.slice 106):=rfl;simp only [Nat.add_zero] at hst;have hz:=zero_rul;unfold zeroR at hst hz ⊢;simp [Builtin.clear_,run_underlying hu,hz,Value.cells,hst]
theorem rdelete_any (w:World) (base g cap n:Nat) (d:List Rul) (hR:RwR w base g cap n d) (hn:n ≤ 100000) :
  Calls Tryz.prog 52 #[.slice (some ⟨g,0,none⟩) n cap,.func (.func 94) #[] #[]] w fun e w'=>e = .returned (.slice (some ⟨g,0,none⟩) (d.filter keepB).length cap)∧RwR w' base g cap (d.filter keepB).length (d.filter keepB)∧Fr (fun k=>k = g) w w':=by
 have hroom:=hR.room;have hlen:=hR.len;unfold maxLen at hroom;have hlt0:=hR.lt;have HR:=Lib.hid hR;have HI:=Lib.hid (ridx_any w w.heap.size (.slice (some ⟨g,0,none⟩) n cap) d (by have:=Sl.of_own hR.2;unfold Ruls;rw [hlen];exact this) (Nat.le_refl _) (by omega));clear hR
 rcases Nat.lt_or_ge (badAt d) d.length with hbad | hbad
 ·have HIV:=Lib.hid (show idxV d = (badAt d:Nat) by unfold idxV;rw [if_pos hbad]);rw [HIV.out] at HI;have HK0:=Lib.hid (badAt_take d);obtain ⟨t,ht⟩:∃ t,badAt d = t:=⟨_,rfl⟩;have htl:t < d.length:=ht ▸ hbad;have HD:=Lib.hid (show d.take t ++ d[t] :: d.drop (t + 1) = d∧keepB d[t] = false by subst ht;exact drop_badAt hbad);rw [ht] at HI;have HK0:=Lib.hid (show (d.take t).filter keepB = d.take t from ht ▸ HK0.out.1);clear ht HIV hbad;have hbad:=htl;have htm:((t:Int) == -1) = false:=by simp
  go_enter Tryz.func52,Tryz.ntmps52;go_wp2_with fail;refine HI.out.mono ?_;rintro e w1 ⟨rfl,hb⟩;have HB1:=Lib.hid hb;clear hb HI;go_wp2_with fail
  go_loopw [5,6] (fun kv jv wr=>∃ (j:Nat) (K:List Rul) (y:Rul) (Y:List Rul),jv = .int .i64 j∧kv = .int .i64 K.length∧j ≤ n∧K = (d.take j).filter keepB∧K.length + 1 + Y.length = j∧RwR wr base g cap n (K ++ y :: (Y ++ d.drop j))∧Fr (fun k=>k = g) w wr) (fun _ jv _=>n - (intOf jv).toNat)
  case atStart=>exact ⟨t + 1,d.take t,d[t],[],by go_num,by rw [List.length_take,Nat.min_eq_left (by omega)],by omega,by rw [List.take_succ_eq_append_getElem hbad,List.filter_append,HK0.out,List.filter_cons,if_neg (by rw [HD.out.2];decide)];simp,by rw [List.length_take,Nat.min_eq_left (by omega)];rfl,by
   exact (congrArg (RwR w1 base g cap n) HD.out.1).mpr (HR.out.below HB1.out),Fr.of_below HB1.out (Nat.le_refl _)⟩
  case round =>
   obtain ⟨j,K,y,Y,rfl,rfl,hj,hK,hKY,hrw,hfr⟩:=hrel;have HKJ:=Lib.hid hK;have HRW:=Lib.hid hrw;have HFR:=Lib.hid hfr;have hws:=hfr.size;clear hK hrw hfr;obtain ⟨k,hkl⟩:∃ k,K.length = k:=⟨_,rfl⟩;rw [hkl] at hKY ⊢;have HKL:=Lib.hid hkl;clear hkl
   by_cases hlt:j < n
   ·have hd:decide ((j:Int) < (n:Int)) = true:=decide_eq_true (by omega);have hjd:j < d.length:=by omega
    obtain ⟨r,hr⟩:∃ r,d[j] = r:=⟨_,rfl⟩;have hdj:d.drop j = r :: d.drop (j + 1):=by rw [List.drop_eq_getElem_cons hjd,hr]
    have htj:d.take (j + 1) = d.take j ++ [r]:=by rw [List.take_succ_eq_append_getElem hjd,hr]
    obtain ⟨T,hT⟩:∃ T,d.drop (j + 1) = T:=⟨_,rfl⟩;rw [hT] at hdj;have HRX:=Lib.hid (show RwR wr base g cap n ((K ++ y :: Y) ++ r :: T) by have h:=HRW.out;rw [hdj] at h;simpa using h);have HLX:=Lib.hid (show (K ++ y :: Y).length = j by simp [HKL.out];omega);have HC:=Lib.hid (HLX.out ▸ HRX.out.at_);have HTT:=Lib.hid (And.intro htj hT);obtain ⟨c0,c1,c2,c3,c4,c5,c6,c7,c8,c9,c10⟩:=HC.out;have HP:=Lib.hid (fun W=>pred_any r W);unfold rulA at HP
    obtain ⟨y',Y',hY⟩:∃ y' Y',Y ++ [r] = y' :: Y':=by
     cases Y with
     | nil=>exact ⟨r,[],rfl⟩
     | cons a Y=>exact ⟨a,Y ++ [r],rfl⟩
    have hYl:Y'.length = Y.length:=by have:=congrArg List.length hY;simpa using this.symm
    have HYY:=Lib.hid hY;clear hr hdj htj hT hY
    cases hkb:keepB r with
    | true =>
      rw [keep_ne hkb] at HP;have HN:=Lib.hid (show (d.take (j + 1)).filter keepB = K ++ [r] by rw [HTT.out.1,List.filter_append,← HKJ.out,List.filter_cons,if_pos hkb];rfl);clear hkb;go_wp2_with fail;refine (HP.out _).mono ?_;rintro e w2 ⟨rfl,hb⟩;have hbx:RulB w2 wr.heap.size r:=Blk.below (Blk.new wr 106 #[.string r.name,.int .i64 r.from_,.int .i64 r.to_,.int .i64 r.month,.int .i64 r.dk,.int .i64 r.dw,.int .i64 r.dn,.int .i64 r.sec,.int .i64 r.kind,.int .i64 r.save,.string r.letter]) hb (by simp);have hb2:Below wr.heap.size wr w2:=((Below.refl _ _).alloc (Nat.le_refl _) _).trans (hb.mono (by simp));have HB2:=Lib.hid hb2;have hr2:=HRX.out.below hb2;have HR2:=Lib.hid (show RwR w2 base g cap n (K ++ y :: (Y ++ r :: T)) by simpa using hr2);have HLT2:=hr2.lt;clear hb hb2 hr2 c0 c1 c2 c3 c4 c5 c6 c7 c8 c9 c10 HC;have q0:=Blk.cell hbx 0 (v:=.string r.name) rfl;have q1:=Blk.cell hbx 1 (v:=.int .i64 r.from_) rfl;have q2:=Blk.cell hbx 2 (v:=.int .i64 r.to_) rfl;have q3:=Blk.cell hbx 3 (v:=.int .i64 r.month) rfl;have q4:=Blk.cell hbx 4 (v:=.int .i64 r.dk) rfl;have q5:=Blk.cell hbx 5 (v:=.int .i64 r.dw) rfl;have q6:=Blk.cell hbx 6 (v:=.int .i64 r.dn) rfl;have q7:=Blk.cell hbx 7 (v:=.int .i64 r.sec) rfl;have q8:=Blk.cell hbx 8 (v:=.int .i64 r.kind) rfl;have q9:=Blk.cell hbx 9 (v:=.int .i64 r.save) rfl;have q10:=Blk.cell hbx 10 (v:=.string r.letter) rfl;have hd_:=HR2.out.at_;rw [HKL.out] at hd_;obtain ⟨d0,d1,d2,d3,d4,d5,d6,d7,d8,d9,d10⟩:=hd_;have fz:=HR2.out.frozen;have hkn:k < n:=by omega
      have HP2:=Lib.hid (HR2.out.put r);rw [HKL.out] at HP2;go_wp2_with fail;go_roundw
      case rel=>exact ⟨j + 1,K ++ [r],y',Y',by go_num,by rw [List.length_append,HKL.out];rfl,by omega,HN.out.symm,by simp [HKL.out];omega,by
       rw [HTT.out.2]
       have h:=HP2.out
       have e:K ++ [r] ++ y' :: (Y' ++ T) = K ++ r :: (Y ++ r :: T):=by
        rw [← List.cons_append,← HYY.out]
        simp
       rw [e]
       exact h,(HFR.out.then (Fr.of_below HB2.out (Nat.le_refl _))).then (putR_fr w2 g (k * 11) r)⟩
      case measure=>simp [intOf];omega
    | false =>
      rw [keep_ne hkb] at HP;have HN:=Lib.hid (show (d.take (j + 1)).filter keepB = K by rw [HTT.out.1,List.filter_append,← HKJ.out,List.filter_cons,if_neg (by rw [hkb];decide)];simp);clear hkb;go_wp2_with fail;refine (HP.out _).mono ?_;rintro e w2 ⟨rfl,hb⟩;have hb2:Below wr.heap.size wr w2:=((Below.refl _ _).alloc (Nat.le_refl _) _).trans (hb.mono (by simp));have HB2:=Lib.hid hb2;clear hb hb2 c0 c1 c2 c3 c4 c5 c6 c7 c8 c9 c10 HC;go_wp2_with fail;go_roundw
      case rel=>exact ⟨j + 1,K,y,Y ++ [r],by go_num,by rw [HKL.out],by omega,HN.out.symm,by simp [HKL.out];omega,by
       rw [HTT.out.2]
       have h:=HRX.out.below HB2.out
       simpa using h,HFR.out.then (Fr.of_below HB2.out (Nat.le_refl _))⟩
      case measure=>simp [intOf];omega
   ·obtain rfl:j = n:=by omega
    have hd:decide ((j:Int) < (j:Int)) = false:=decide_eq_false (by omega);obtain ⟨vs,hcl⟩:=clear_run HRW.out 0 (k * 11) (j - k) (cap - k) (by omega) (by omega);have HBH:=Lib.hid (RwR.behind vs (k * 11) (Nat.le_refl _) (HRW.out.front HKL.out));have HKF:=Lib.hid (show K = d.filter keepB by rw [HKJ.out,List.take_of_length_le (by omega)]);have hck:¬ cap = k:=by omega
    go_wp2_with fail;go_ret;rw [HKF.out] at HKL HBH;rw [HKL.out];exact ⟨rfl,HBH.out.1,HFR.out.then HBH.out.2⟩
 ·have HIV:=Lib.hid (show idxV d = -1 by unfold idxV;rw [if_neg (by omega)]);rw [HIV.out] at HI
  have HE:=Lib.hid (show d.filter keepB = d by
   have h:=(badAt_take d).1
   rwa [List.take_of_length_le hbad] at h)
  rw [HE.out,hlen];clear HIV;go_enter Tryz.func52,Tryz.ntmps52;go_wp2_with fail;refine HI.out.mono ?_;rintro e w1 ⟨rfl,hb⟩;have HB1:=Lib.hid hb;clear hb HI;go_wp2_with fail;go_ret;exact ⟨rfl,HR.out.below HB1.out,Fr.of_below HB1.out (Nat.le_refl _)⟩
theorem rstable_any (w:World) (base g cap n:Nat) (d:List Rul) (hn:n ≤ 19) (hmo:∀ z ∈ d,mOk z) (hR:RwR w base g cap n d) :
  Calls Tryz.prog 95 #[.slice (some ⟨g,0,none⟩) n cap,.func (.func 96) #[] #[]] w fun e w'=>e = .returned (.tuple #[])∧∃ M,Stab keyR d M∧RwR w' base g cap n M∧Fr (fun k=>k = g) w w':=by
 have hd:decide ((20:Int) ≤ (n:Int)) = false:=decide_eq_false (by omega);have hd2:decide ((20:Int) < (n:Int)) = false:=decide_eq_false (by omega);have HI:=Lib.hid (insertion_R w base g cap n 0 n [] d [] rfl (by rw [Nat.zero_add];exact hR.len) (by omega) hmo (by simpa using hR))
 have HS:=Lib.hid (show Calls Tryz.prog 126 #[.slice (some ⟨g,0,none⟩) n cap,.int .i64 n,.func (.func 96) #[] #[]] w fun e w'=>e = .returned (.tuple #[])∧∃ M,Stab keyR d M∧RwR w' base g cap n M∧Fr (fun k=>k = g) w w' by
  go_enter Tryz.func126,Tryz.ntmps126
  go_wp2_with fail
  refine wp_loop_rounds 1 ?_
  rw [rounds_succ]
  go_wp2_with fail
  refine HI.out.mono ?_
  rintro e w1 ⟨rfl,M,hst,hrw,hfr⟩
  have H1:=Lib.hid (And.intro hst (And.intro hrw hfr))
  clear hst hrw hfr
  go_wp2_with fail
  refine wp_loop_rounds 1 ?_
  rw [rounds_succ]
  go_wp2_with fail
  go_end0
  exact ⟨rfl,M,H1.out.1,by have h:=H1.out.2.1;simpa using h,H1.out.2.2⟩)
 clear hR hmo HI;go_enter Tryz.func95,Tryz.ntmps95;go_wp2_with fail;refine HS.out.mono ?_;rintro e w1 ⟨rfl,M,hst,hrw,hfr⟩;have H1:=Lib.hid (And.intro hst (And.intro hrw hfr));clear hst hrw hfr;go_wp2_with fail;go_end0;exact ⟨rfl,M,H1.out⟩
theorem rinsertion_nil (w:World):Calls Tryz.prog 156 #[.slice none 0 0,.int .i64 0,.int .i64 0,.func (.func 96) #[] #[]] w fun e w'=>e = .returned (.tuple #[])∧Below w.heap.size w w':=by
 go_enter Tryz.func156,Tryz.ntmps156;go_wp2_with fail;refine wp_loop_rounds 1 ?_;rw [rounds_succ];go_wp2_with fail;go_end0;exact ⟨rfl,Below.refl _ _⟩
theorem rstable_nil (w:World):Calls Tryz.prog 95 #[.slice none 0 0,.func (.func 96) #[] #[]] w fun e w'=>e = .returned (.tuple #[])∧Below w.heap.size w w':=by
 have HI:=Lib.hid (fun w=>rinsertion_nil w)
 have HS:=Lib.hid (show Calls Tryz.prog 126 #[.slice none 0 0,.int .i64 0,.func (.func 96) #[] #[]] w fun e w'=>e = .returned (.tuple #[])∧Below w.heap.size w w' by
  go_enter Tryz.func126,Tryz.ntmps126
  go_wp2_with fail
  refine wp_loop_rounds 1 ?_
  rw [rounds_succ]
  go_wp2_with fail
  refine (HI.out _).mono ?_
  rintro e w1 ⟨rfl,hb⟩
  have HB:=Lib.hid hb
  clear hb
  go_wp2_with fail
  refine wp_loop_rounds 1 ?_
  rw [rounds_succ]
  go_wp2_with fail
  go_end0
  exact ⟨rfl,HB.out⟩)
 go_enter Tryz.func95,Tryz.ntmps95;go_wp2_with fail;refine HS.out.mono ?_;rintro e w1 ⟨rfl,hb⟩;have HB:=Lib.hid hb;clear hb;go_wp2_with fail;go_end0;exact ⟨rfl,HB.out⟩
end
section -- FFires
open Go Go.RowKit Go.Shelf
theorem Ahead.fr {T:Nat→Prop} {w w':World} (h:Ahead w) (hf:Fr T w w') (hn:¬ T 0):Ahead w':=fun k hk =>
 (hf.cell (p:=⟨0,k,none⟩) (World.block_lt_of_cell? w _ (h k hk)) hn).trans (h k hk)
def firesB (r:Rul):Bool:=decide (r.dk = 1) || (decide ((longV 2000 r.month).2 ≠ 0) || decide (r.dn ≤ (longV 2000 r.month).1))
def endlB (r:Rul):Bool:=decide (1048576 ≤ r.to_)
theorem fires_any (r:Rul) (w:World) (ha:Ahead w) :
  Calls Tryz.prog 55 #[rulA r] w fun e w'=>e = .returned (.bool (firesB r))∧Below w.heap.size w w':=by
 have HB0:=Lib.hid ((Below.refl w.heap.size w).alloc (Nat.le_refl _) (.cells #[.string r.name,.int .i64 r.from_,.int .i64 r.to_,.int .i64 r.month,.int .i64 r.dk,.int .i64 r.dw,.int .i64 r.dn,.int .i64 r.sec,.int .i64 r.kind,.int .i64 r.save,.string r.letter] 106));have hx:=Blk.new w 106 #[.string r.name,.int .i64 r.from_,.int .i64 r.to_,.int .i64 r.month,.int .i64 r.dk,.int .i64 r.dw,.int .i64 r.dn,.int .i64 r.sec,.int .i64 r.kind,.int .i64 r.save,.string r.letter];have HX:=Lib.hid hx;have HL:=Lib.hid (fun W h=>long_any 2000 r.month W h);have HA:=Lib.hid (ha.below HB0.out (Nat.le_refl _));obtain ⟨n,e,hne⟩:∃ n e,longV 2000 r.month = (n,e):=⟨_,_,rfl⟩;have HV:=Lib.hid (show firesB r = (decide (r.dk = 1) || (decide (e ≠ 0) || decide (r.dn ≤ n))) by unfold firesB;rw [hne]);rw [hne] at HL;have q3:=Blk.cell hx 3 (v:=.int .i64 r.month) rfl;clear hx hne ha;unfold rulA;go_enter Tryz.func55,Tryz.ntmps55;go_wp2_with fail;refine (HL.out _ HA.out).mono ?_;rintro o w1 ⟨rfl,k,rfl⟩;have hb1:=below_drewN HB0.out k;have hx1:RulB (((w.alloc (.cells #[.string r.name,.int .i64 r.from_,.int .i64 r.to_,.int .i64 r.month,.int .i64 r.dk,.int .i64 r.dw,.int .i64 r.dn,.int .i64 r.sec,.int .i64 r.kind,.int .i64 r.save,.string r.letter] 106))).drewN k) w.heap.size r:=HX.out.drewN k;have q4:=Blk.cell hx1 4 (v:=.int .i64 r.dk) rfl;have q6:=Blk.cell hx1 6 (v:=.int .i64 r.dn) rfl;have hl:=Blk.lt hx1;have HB1:=Lib.hid hb1;obtain ⟨w2,hw2⟩:∃ W,((w.alloc (.cells #[.string r.name,.int .i64 r.from_,.int .i64 r.to_,.int .i64 r.month,.int .i64 r.dk,.int .i64 r.dw,.int .i64 r.dn,.int .i64 r.sec,.int .i64 r.kind,.int .i64 r.save,.string r.letter] 106))).drewN k = W:=⟨_,rfl⟩;rw [hw2] at HB1 q4 q6 hl ⊢;clear hw2 hx1 hb1 q3 HX HA HL HB0
 by_cases h1:r.dk = 1
 ·have d1:decide (r.dk = 1) = true:=decide_eq_true h1;have HF:=Lib.hid (show firesB r = true by rw [HV.out,d1];rfl);have d0:(r.dk == 1) = true:=by rw [h1];rfl
  clear HV h1;go_wp2_with fail;go_ret;exact ⟨by rw [HF.out];rfl,HB1.out⟩
 ·have d1:decide (r.dk = 1) = false:=decide_eq_false h1;have d0:(r.dk == 1) = false:=by simpa using h1
  by_cases h2:e = 0
  ·have d2:decide (e ≠ 0) = false:=decide_eq_false (fun h=>h h2);have HF:=Lib.hid (show firesB r = decide (r.dn ≤ n) by rw [HV.out,d1,d2];rfl);clear HV;subst h2;go_wp2_with fail;go_ret;exact ⟨by rw [HF.out];rfl,HB1.out⟩
  ·have d2:decide (e ≠ 0) = true:=decide_eq_true h2;have d3:(e != 0) = true:=by simpa using h2
   have HF:=Lib.hid (show firesB r = true by rw [HV.out,d1,d2];rfl);clear HV;go_wp2_with fail;go_ret;exact ⟨by rw [HF.out];rfl,HB1.out⟩
theorem fpred_any (r:Rul) (w:World) (ha:Ahead w) :
  Calls Tryz.prog 54 #[rulA r] w fun e w'=>e = .returned (.bool (!firesB r))∧Below w.heap.size w w':=by
 have HB0:=Lib.hid ((Below.refl w.heap.size w).alloc (Nat.le_refl _) (.cells #[.string r.name,.int .i64 r.from_,.int .i64 r.to_,.int .i64 r.month,.int .i64 r.dk,.int .i64 r.dw,.int .i64 r.dn,.int .i64 r.sec,.int .i64 r.kind,.int .i64 r.save,.string r.letter] 106));have hx:=Blk.new w 106 #[.string r.name,.int .i64 r.from_,.int .i64 r.to_,.int .i64 r.month,.int .i64 r.dk,.int .i64 r.dw,.int .i64 r.dn,.int .i64 r.sec,.int .i64 r.kind,.int .i64 r.save,.string r.letter];have HF:=Lib.hid (fires_any r _ (ha.below HB0.out (Nat.le_refl _)));have q0:=Blk.cell hx 0 (v:=.string r.name) rfl;have q1:=Blk.cell hx 1 (v:=.int .i64 r.from_) rfl;have q2:=Blk.cell hx 2 (v:=.int .i64 r.to_) rfl;have q3:=Blk.cell hx 3 (v:=.int .i64 r.month) rfl;have q4:=Blk.cell hx 4 (v:=.int .i64 r.dk) rfl;have q5:=Blk.cell hx 5 (v:=.int .i64 r.dw) rfl;have q6:=Blk.cell hx 6 (v:=.int .i64 r.dn) rfl;have q7:=Blk.cell hx 7 (v:=.int .i64 r.sec) rfl;have q8:=Blk.cell hx 8 (v:=.int .i64 r.kind) rfl;have q9:=Blk.cell hx 9 (v:=.int .i64 r.save) rfl;have q10:=Blk.cell hx 10 (v:=.string r.letter) rfl;clear hx ha;unfold rulA at *;go_enter Tryz.func54,Tryz.ntmps54;go_wp2_with fail;refine HF.out.mono ?_;rintro o w1 ⟨rfl,hb⟩;have HB1:=Lib.hid (HB0.out.trans (hb.mono HB0.out.size));clear hb HF HB0;go_wp2_with fail;go_ret;exact ⟨rfl,HB1.out⟩
theorem endless_any (r:Rul) (w:World) :
  Calls Tryz.prog 56 #[rulA r] w fun e w'=>e = .returned (.bool (endlB r))∧Below w.heap.size w w':=by
 have HB0:=Lib.hid ((Below.refl w.heap.size w).alloc (Nat.le_refl _) (.cells #[.string r.name,.int .i64 r.from_,.int .i64 r.to_,.int .i64 r.month,.int .i64 r.dk,.int .i64 r.dw,.int .i64 r.dn,.int .i64 r.sec,.int .i64 r.kind,.int .i64 r.save,.string r.letter] 106));have hx:=Blk.new w 106 #[.string r.name,.int .i64 r.from_,.int .i64 r.to_,.int .i64 r.month,.int .i64 r.dk,.int .i64 r.dw,.int .i64 r.dn,.int .i64 r.sec,.int .i64 r.kind,.int .i64 r.save,.string r.letter];have q2:=Blk.cell hx 2 (v:=.int .i64 r.to_) rfl;clear hx;unfold rulA endlB;go_enter Tryz.func56,Tryz.ntmps56;go_wp2_with fail;go_ret;exact ⟨rfl,HB0.out⟩
def lastY (m:Int) (r:Rul):Int:=if endlB r then max m r.from_ else max m (max r.from_ r.to_)
def lastL (m:Int) (l:List Rul):Int:=l.foldl lastY m
def settledV (l:List Rul):Int:=match l with
 | []=>0
 | r :: _=>if dateB (lastL r.from_ l + 20) 1 1 && mayB 0 then dayV (lastL r.from_ l + 20) 1 1 * 86400 + 0 else 0
theorem lastY_in {m:Int} {r:Rul} (hm:1900 ≤ m∧m ≤ 1048576) (hr:1900 ≤ r.from_∧r.from_ ≤ 2100):1900 ≤ lastY m r∧lastY m r ≤ 1048576:=by
 unfold lastY
 split
 ·omega
 ·rename_i h;unfold endlB at h;rw [decide_eq_true_eq] at h;omega
theorem lastL_succ {m:Int} {l:List Rul} {k:Nat} (h:k < l.length):lastL m (l.take (k + 1)) = lastY (lastL m (l.take k)) l[k]:=by
 unfold lastL;rw [List.take_succ_eq_append_getElem h,List.foldl_append]
 rfl
theorem settled_any (w:World) (B:Nat) (v:Value) (l:List Rul) (hv:Ruls w B v l) (hB:B ≤ w.heap.size) (hl:0 < l.length) (hr:∀ r ∈ l,1900 ≤ r.from_∧r.from_ ≤ 2100) (ha:Ahead w) :
  Calls Tryz.prog 57 #[v] w fun e w'=>e = .returned (.int .i64 (settledV l))∧Below w.heap.size w w':=by
 obtain ⟨A,c,rfl,hlc,hcm⟩:=hv.form;unfold maxLen at hcm;have HV:=Lib.hid hv;have HA:=Lib.hid (fun (W:World) (h:Below w.heap.size w W)=>ha.below h (Nat.le_refl _));obtain ⟨bb,o,c',e,hbb,hc⟩:=hv.cells hl
 cases e
 obtain ⟨a0,a1,a2,a3,a4,a5,a6,a7,a8,a9,a10⟩:=hc 0 hl;clear hc a0 a2 a3 a4 a5 a6 a7 a8 a9 a10 hv ha;obtain ⟨x,hx⟩:∃ x,l[0] = x:=⟨_,rfl⟩;rw [hx] at a1;have hx0:=hr x (hx ▸ List.getElem_mem hl);have HR:=Lib.hid (fun k (hk:k < l.length)=>hr l[k] (List.getElem_mem hk))
 have HS:=Lib.hid (show settledV l = if dateB (lastL x.from_ l + 20) 1 1 && mayB 0 then dayV (lastL x.from_ l + 20) 1 1 * 86400 + 0 else 0 by
  cases l with
  | nil=>simp at hl
  | cons r l=>cases hx;rfl)
 obtain ⟨f0,hf0⟩:∃ f,x.from_ = f:=⟨_,rfl⟩;rw [hf0] at a1 hx0 HS;clear hx hr hf0;go_enter Tryz.func57,Tryz.ntmps57;go_wp2_with fail
 go_loopw [14,3] (fun iv mv wr=>∃ k m,k ≤ l.length∧iv = .int .i64 (k:Nat)∧mv = .int .i64 m∧m = lastL f0 (l.take k)∧(1900 ≤ m∧m ≤ 1048576)∧Below w.heap.size w wr) (fun iv _ _=>l.length - (intOf iv).toNat)
 case atStart=>exact ⟨0,f0,Nat.zero_le _,rfl,rfl,rfl,by omega,Below.refl _ _⟩
 case round =>
  obtain ⟨k,m,hk,rfl,rfl,hm,hmi,hbw⟩:=hrel;have HBW:=Lib.hid hbw;have hws:=hbw.size;have HM:=Lib.hid hm;clear hbw hm a1
  by_cases hlt:k < l.length
  ·have hd:decide ((k:Int) < (l.length:Int)) = true:=decide_eq_true (by omega);obtain ⟨bb,o,c',e,hbb,hc⟩:=(HV.out.below (HBW.out.mono hB)).cells (by omega)
   cases e
   obtain ⟨c0,c1,c2,c3,c4,c5,c6,c7,c8,c9,c10⟩:=hc k hlt;have hri:=HR.out k hlt;have HN:=Lib.hid (lastL_succ (m:=f0) hlt);rw [← HM.out] at HN;obtain ⟨r,hr⟩:∃ r,l[k] = r:=⟨_,rfl⟩;rw [hr] at c0 c1 c2 c3 c4 c5 c6 c7 c8 c9 c10 hri HN;have HE:=Lib.hid (fun W=>endless_any r W);have HLI:=Lib.hid (lastY_in hmi hri);unfold rulA at HE;unfold lastY at HN HLI;have HX:=Lib.hid (Blk.new wr 106 #[.string r.name,.int .i64 r.from_,.int .i64 r.to_,.int .i64 r.month,.int .i64 r.dk,.int .i64 r.dw,.int .i64 r.dn,.int .i64 r.sec,.int .i64 r.kind,.int .i64 r.save,.string r.letter]);have HB1:=Lib.hid (HBW.out.alloc hws (.cells #[.string r.name,.int .i64 r.from_,.int .i64 r.to_,.int .i64 r.month,.int .i64 r.dk,.int .i64 r.dw,.int .i64 r.dn,.int .i64 r.sec,.int .i64 r.kind,.int .i64 r.save,.string r.letter] 106));clear hc hr
   cases hen:endlB r with
   | true =>
     rw [hen] at HE HN HLI;simp only [if_true] at HN HLI;clear hen;go_wp2_with fail;refine (HE.out _).mono ?_;rintro e w1 ⟨rfl,hb⟩;have HB2:=Lib.hid (HB1.out.trans (hb.mono (by simp;omega)));clear hb c0 c1 c2 c3 c4 c5 c6 c7 c8 c9 c10 HX;go_wp2_with fail;go_roundw
     case rel=>exact ⟨k + 1,max m r.from_,by omega,by go_num,rfl,HN.out.symm,HLI.out,HB2.out⟩
     case measure=>simp [intOf];omega
   | false =>
     rw [hen] at HE HN HLI;simp only [Bool.false_eq_true,if_false] at HN HLI;clear hen;go_wp2_with fail;refine (HE.out _).mono ?_;rintro e w1 ⟨rfl,hb⟩;have HB2:=Lib.hid (HB1.out.trans (hb.mono (by simp;omega)));have hx1:=HX.out.below hb (by simp);have q2:=Blk.cell hx1 2 (v:=.int .i64 r.to_) rfl;have ql:=hx1.lt;clear hb c0 c1 c2 c3 c4 c5 c6 c7 c8 c9 c10 HX hx1;go_wp2_with fail;go_roundw
     case rel=>exact ⟨k + 1,max m (max r.from_ r.to_),by omega,by go_num,rfl,HN.out.symm,HLI.out,HB2.out⟩
     case measure=>simp [intOf];omega
  ·have hd:decide ((k:Int) < (l.length:Int)) = false:=decide_eq_false (by omega);have HM2:=Lib.hid (show lastL f0 l = m by rw [HM.out,List.take_of_length_le (by omega)]);have HJ:=Lib.hid (join_any (m + 20) 1 1 0 wr (HA.out wr HBW.out));unfold dateA at HJ
   cases hdm:(dateB (m + 20) 1 1 && mayB 0) with
   | true =>
     rw [hdm] at HJ;simp only [if_true] at HJ;have HSV:=Lib.hid (show settledV l = dayV (m + 20) 1 1 * 86400 by rw [HS.out,HM2.out,hdm,if_pos rfl];simp);clear hdm;go_wp2_with fail;refine HJ.out.mono ?_;rintro e w1 ⟨rfl,hb⟩;have HB2:=Lib.hid (HBW.out.trans (hb.mono hws));clear hb HJ;go_wp2_with fail;go_ret;exact ⟨by rw [HSV.out];rfl,HB2.out⟩
   | false =>
     rw [hdm] at HJ;simp only [Bool.false_eq_true,if_false] at HJ;have HSV:=Lib.hid (show settledV l = 0 by rw [HS.out,HM2.out,hdm];rfl);clear hdm;go_wp2_with fail;refine HJ.out.mono ?_;rintro e w1 ⟨rfl,hb⟩;have HB2:=Lib.hid (HBW.out.trans (hb.mono hws));clear hb HJ;go_wp2_with fail;go_ret;exact ⟨by rw [HSV.out];rfl,HB2.out⟩
end
section -- FSame
open Go Go.RowKit Go.Shelf
end
end Go.Proofs.YteekjfgjmccdnaaGreatDoor
section -- NShelf
namespace Go.Proofs
open Go.Shelf
def Tryz.lays144_ren:Go.Shelf.Ren:=⟨fun | 144=>130 | 143=>136 | 219=>169 | 217=>184 | 225=>185 | 224=>186 | 267=>187 | 266=>191 | 314=>192 | n=>n,fun | 9=>9 | 4=>4 | 3=>3 | 5=>5 | 46=>205 | 146=>235 | 51=>234 | n=>n,fun | 1=>1 | n=>n⟩
theorem Tryz.lays144:Go.Proofs.Lays.n144 Tryz.prog Tryz.lays144_ren:={
 mixed:=by kernel_rfl
 f143:=Tryz.func136.trans (congrArg some (by kernel_rfl))
 f144:=Tryz.func130.trans (congrArg some (by kernel_rfl))
 f217:=Tryz.func184.trans (congrArg some (by kernel_rfl))
 f219:=Tryz.func169.trans (congrArg some (by kernel_rfl))
 f224:=Tryz.func186.trans (congrArg some (by kernel_rfl))
 f225:=Tryz.func185.trans (congrArg some (by kernel_rfl))
 f266:=Tryz.func191.trans (congrArg some (by kernel_rfl))
 f267:=Tryz.func187.trans (congrArg some (by kernel_rfl))
 f314:=Tryz.func192.trans (congrArg some (by kernel_rfl))
 t3:=Tryz.underlying3
 a3:=Tryz.isAgg3
 z3:=Tryz.sizeOf3
 v3:=Tryz.zeroValue3
 t4:=Tryz.underlying4
 a4:=Tryz.isAgg4
 z4:=Tryz.sizeOf4
 v4:=Tryz.zeroValue4
 t5:=Tryz.underlying5
 a5:=Tryz.isAgg5
 z5:=Tryz.sizeOf5
 v5:=Tryz.zeroValue5
 t9:=Tryz.underlying9
 a9:=Tryz.isAgg9
 z9:=Tryz.sizeOf9
 v9:=Tryz.zeroValue9
 t46:=Tryz.underlying205
 a46:=Tryz.isAgg205
 z46:=Tryz.sizeOf205
 v46:=Tryz.zeroValue205
 t51:=Tryz.underlying234
 a51:=Tryz.isAgg234
 z51:=Tryz.sizeOf234
 v51:=Tryz.zeroValue234
 t146:=Tryz.underlying235
 a146:=Tryz.isAgg235
 z146:=Tryz.sizeOf235
 v146:=Tryz.zeroValue235
 g1:=by kernel_rfl }
def Tryz.lays154_ren:Go.Shelf.Ren:=⟨fun | 154=>112 | 138=>134 | 165=>135 | 143=>136 | 166=>137 | 197=>138 | 169=>139 | 195=>165 | 218=>166 | 240=>167 | 241=>168 | 219=>169 | 260=>170 | 276=>182 | 277=>183 | 217=>184 | 225=>185 | 224=>186 | 267=>187 | 266=>191 | 314=>192 | n=>n,fun | 9=>9 | 3=>3 | 4=>4 | 72=>188 | 0=>0 | 76=>192 | 105=>194 | 21=>21 | 5=>5 | 70=>185 | 20=>20 | 37=>186 | 75=>191 | 127=>221 | 164=>226 | 46=>205 | 119=>229 | 139=>232 | 138=>231 | 146=>235 | 51=>234 | 80=>196 | n=>n,fun | 1=>1 | 3=>2 | 4=>3 | n=>n⟩
theorem Tryz.lays154:Go.Proofs.Lays.n154 Tryz.prog Tryz.lays154_ren:={
 mixed:=by kernel_rfl
 f138:=Tryz.func134.trans (congrArg some (by kernel_rfl))
 f143:=Tryz.func136.trans (congrArg some (by kernel_rfl))
 f154:=Tryz.func112.trans (congrArg some (by kernel_rfl))
 f165:=Tryz.func135.trans (congrArg some (by kernel_rfl))
 f166:=Tryz.func137.trans (congrArg some (by kernel_rfl))
 f169:=Tryz.func139.trans (congrArg some (by kernel_rfl))
 f195:=Tryz.func165.trans (congrArg some (by kernel_rfl))
 f197:=Tryz.func138.trans (congrArg some (by kernel_rfl))
 f217:=Tryz.func184.trans (congrArg some (by kernel_rfl))
 f218:=Tryz.func166.trans (congrArg some (by kernel_rfl))
 f219:=Tryz.func169.trans (congrArg some (by kernel_rfl))
 f224:=Tryz.func186.trans (congrArg some (by kernel_rfl))
 f225:=Tryz.func185.trans (congrArg some (by kernel_rfl))
 f240:=Tryz.func167.trans (congrArg some (by kernel_rfl))
 f241:=Tryz.func168.trans (congrArg some (by kernel_rfl))
 f260:=Tryz.func170.trans (congrArg some (by kernel_rfl))
 f266:=Tryz.func191.trans (congrArg some (by kernel_rfl))
 f267:=Tryz.func187.trans (congrArg some (by kernel_rfl))
 f276:=Tryz.func182.trans (congrArg some (by kernel_rfl))
 f277:=Tryz.func183.trans (congrArg some (by kernel_rfl))
 f314:=Tryz.func192.trans (congrArg some (by kernel_rfl))
 t0:=Tryz.underlying0
 a0:=Tryz.isAgg0
 z0:=Tryz.sizeOf0
 v0:=Tryz.zeroValue0
 t3:=Tryz.underlying3
 a3:=Tryz.isAgg3
 z3:=Tryz.sizeOf3
 v3:=Tryz.zeroValue3
 t4:=Tryz.underlying4
 a4:=Tryz.isAgg4
 z4:=Tryz.sizeOf4
 v4:=Tryz.zeroValue4
 t5:=Tryz.underlying5
 a5:=Tryz.isAgg5
 z5:=Tryz.sizeOf5
 v5:=Tryz.zeroValue5
 t9:=Tryz.underlying9
 a9:=Tryz.isAgg9
 z9:=Tryz.sizeOf9
 v9:=Tryz.zeroValue9
 t20:=Tryz.underlying20
 a20:=Tryz.isAgg20
 z20:=Tryz.sizeOf20
 v20:=Tryz.zeroValue20
 t21:=Tryz.underlying21
 a21:=Tryz.isAgg21
 z21:=Tryz.sizeOf21
 v21:=Tryz.zeroValue21
 t37:=Tryz.underlying186
 a37:=Tryz.isAgg186
 z37:=Tryz.sizeOf186
 v37:=Tryz.zeroValue186
 t46:=Tryz.underlying205
 a46:=Tryz.isAgg205
 z46:=Tryz.sizeOf205
 v46:=Tryz.zeroValue205
 t51:=Tryz.underlying234
 a51:=Tryz.isAgg234
 z51:=Tryz.sizeOf234
 v51:=Tryz.zeroValue234
 t70:=Tryz.underlying185
 a70:=Tryz.isAgg185
 z70:=Tryz.sizeOf185
 v70:=Tryz.zeroValue185
 t72:=Tryz.underlying188
 a72:=Tryz.isAgg188
 z72:=Tryz.sizeOf188
 v72:=Tryz.zeroValue188
 t75:=Tryz.underlying191
 a75:=Tryz.isAgg191
 z75:=Tryz.sizeOf191
 v75:=Tryz.zeroValue191
 t76:=Tryz.underlying192
 a76:=Tryz.isAgg192
 z76:=Tryz.sizeOf192
 v76:=Tryz.zeroValue192
 t105:=Tryz.underlying194
 a105:=Tryz.isAgg194
 z105:=Tryz.sizeOf194
 v105:=Tryz.zeroValue194
 t119:=Tryz.underlying229
 a119:=Tryz.isAgg229
 z119:=Tryz.sizeOf229
 t127:=Tryz.underlying221
 a127:=Tryz.isAgg221
 z127:=Tryz.sizeOf221
 v127:=Tryz.zeroValue221
 t138:=Tryz.underlying231
 a138:=Tryz.isAgg231
 z138:=Tryz.sizeOf231
 v138:=Tryz.zeroValue231
 t139:=Tryz.underlying232
 a139:=Tryz.isAgg232
 z139:=Tryz.sizeOf232
 v139:=Tryz.zeroValue232
 t146:=Tryz.underlying235
 a146:=Tryz.isAgg235
 z146:=Tryz.sizeOf235
 v146:=Tryz.zeroValue235
 t164:=Tryz.underlying226
 a164:=Tryz.isAgg226
 z164:=Tryz.sizeOf226
 v164:=Tryz.zeroValue226
 g1:=by kernel_rfl
 g3:=by kernel_rfl
 g4:=by kernel_rfl }
def Tryz.lays160_ren:Go.Shelf.Ren:=⟨fun | 160=>131 | 232=>159 | 231=>158 | 227=>160 | 234=>162 | 233=>161 | 236=>164 | 235=>163 | 228=>179 | 271=>181 | 151=>180 | 197=>138 | 120=>190 | 152=>189 | 260=>170 | 137=>193 | 119=>194 | 224=>186 | 225=>185 | 217=>184 | 266=>191 | n=>n,fun | 9=>9 | 4=>4 | 3=>3 | 5=>5 | 117=>215 | 116=>214 | 0=>0 | 124=>218 | 21=>21 | 105=>194 | 46=>205 | 119=>229 | 139=>232 | 138=>231 | n=>n,fun | 3=>2 | 4=>3 | n=>n⟩
theorem Tryz.lays160:Go.Proofs.Lays.n160 Tryz.prog Tryz.lays160_ren:={
 mixed:=by kernel_rfl
 f119:=Tryz.func194.trans (congrArg some (by kernel_rfl))
 f120:=Tryz.func190.trans (congrArg some (by kernel_rfl))
 f137:=Tryz.func193.trans (congrArg some (by kernel_rfl))
 f151:=Tryz.func180.trans (congrArg some (by kernel_rfl))
 f152:=Tryz.func189.trans (congrArg some (by kernel_rfl))
 f160:=Tryz.func131.trans (congrArg some (by kernel_rfl))
 f197:=Tryz.func138.trans (congrArg some (by kernel_rfl))
 f217:=Tryz.func184.trans (congrArg some (by kernel_rfl))
 f224:=Tryz.func186.trans (congrArg some (by kernel_rfl))
 f225:=Tryz.func185.trans (congrArg some (by kernel_rfl))
 f227:=Tryz.func160.trans (congrArg some (by kernel_rfl))
 f228:=Tryz.func179.trans (congrArg some (by kernel_rfl))
 f231:=Tryz.func158.trans (congrArg some (by kernel_rfl))
 f232:=Tryz.func159.trans (congrArg some (by kernel_rfl))
 f233:=Tryz.func161.trans (congrArg some (by kernel_rfl))
 f234:=Tryz.func162.trans (congrArg some (by kernel_rfl))
 f235:=Tryz.func163.trans (congrArg some (by kernel_rfl))
 f236:=Tryz.func164.trans (congrArg some (by kernel_rfl))
 f260:=Tryz.func170.trans (congrArg some (by kernel_rfl))
 f266:=Tryz.func191.trans (congrArg some (by kernel_rfl))
 f271:=Tryz.func181.trans (congrArg some (by kernel_rfl))
 t0:=Tryz.underlying0
 a0:=Tryz.isAgg0
 z0:=Tryz.sizeOf0
 v0:=Tryz.zeroValue0
 t3:=Tryz.underlying3
 a3:=Tryz.isAgg3
 z3:=Tryz.sizeOf3
 v3:=Tryz.zeroValue3
 t4:=Tryz.underlying4
 a4:=Tryz.isAgg4
 z4:=Tryz.sizeOf4
 v4:=Tryz.zeroValue4
 t5:=Tryz.underlying5
 a5:=Tryz.isAgg5
 z5:=Tryz.sizeOf5
 v5:=Tryz.zeroValue5
 t9:=Tryz.underlying9
 a9:=Tryz.isAgg9
 z9:=Tryz.sizeOf9
 v9:=Tryz.zeroValue9
 t21:=Tryz.underlying21
 a21:=Tryz.isAgg21
 z21:=Tryz.sizeOf21
 v21:=Tryz.zeroValue21
 t46:=Tryz.underlying205
 a46:=Tryz.isAgg205
 z46:=Tryz.sizeOf205
 v46:=Tryz.zeroValue205
 t105:=Tryz.underlying194
 a105:=Tryz.isAgg194
 z105:=Tryz.sizeOf194
 v105:=Tryz.zeroValue194
 t116:=Tryz.underlying214
 a116:=Tryz.isAgg214
 z116:=Tryz.sizeOf214
 t117:=Tryz.underlying215
 a117:=Tryz.isAgg215
 z117:=Tryz.sizeOf215
 v117:=Tryz.zeroValue215
 t119:=Tryz.underlying229
 a119:=Tryz.isAgg229
 z119:=Tryz.sizeOf229
 t124:=Tryz.underlying218
 a124:=Tryz.isAgg218
 z124:=Tryz.sizeOf218
 v124:=Tryz.zeroValue218
 t138:=Tryz.underlying231
 a138:=Tryz.isAgg231
 z138:=Tryz.sizeOf231
 v138:=Tryz.zeroValue231
 t139:=Tryz.underlying232
 a139:=Tryz.isAgg232
 z139:=Tryz.sizeOf232
 v139:=Tryz.zeroValue232
 g3:=by kernel_rfl
 g4:=by kernel_rfl }
def Tryz.lays145_ren:Go.Shelf.Ren:=⟨fun | 145=>114 | 220=>141 | 219=>169 | 217=>184 | 225=>185 | 224=>186 | 267=>187 | 266=>191 | 314=>192 | n=>n,fun | 9=>9 | 4=>4 | 59=>167 | 3=>3 | 5=>5 | 46=>205 | 146=>235 | 51=>234 | n=>n,fun | 1=>1 | n=>n⟩
theorem Tryz.lays145:Go.Proofs.Lays.n145 Tryz.prog Tryz.lays145_ren:={
 mixed:=by kernel_rfl
 f145:=Tryz.func114.trans (congrArg some (by kernel_rfl))
 f217:=Tryz.func184.trans (congrArg some (by kernel_rfl))
 f219:=Tryz.func169.trans (congrArg some (by kernel_rfl))
 f220:=Tryz.func141.trans (congrArg some (by kernel_rfl))
 f224:=Tryz.func186.trans (congrArg some (by kernel_rfl))
 f225:=Tryz.func185.trans (congrArg some (by kernel_rfl))
 f266:=Tryz.func191.trans (congrArg some (by kernel_rfl))
 f267:=Tryz.func187.trans (congrArg some (by kernel_rfl))
 f314:=Tryz.func192.trans (congrArg some (by kernel_rfl))
 t3:=Tryz.underlying3
 a3:=Tryz.isAgg3
 z3:=Tryz.sizeOf3
 v3:=Tryz.zeroValue3
 t4:=Tryz.underlying4
 a4:=Tryz.isAgg4
 z4:=Tryz.sizeOf4
 v4:=Tryz.zeroValue4
 t5:=Tryz.underlying5
 a5:=Tryz.isAgg5
 z5:=Tryz.sizeOf5
 v5:=Tryz.zeroValue5
 t9:=Tryz.underlying9
 a9:=Tryz.isAgg9
 z9:=Tryz.sizeOf9
 v9:=Tryz.zeroValue9
 t46:=Tryz.underlying205
 a46:=Tryz.isAgg205
 z46:=Tryz.sizeOf205
 v46:=Tryz.zeroValue205
 t51:=Tryz.underlying234
 a51:=Tryz.isAgg234
 z51:=Tryz.sizeOf234
 v51:=Tryz.zeroValue234
 t59:=Tryz.underlying167
 a59:=Tryz.isAgg167
 z59:=Tryz.sizeOf167
 v59:=Tryz.zeroValue167
 t146:=Tryz.underlying235
 a146:=Tryz.isAgg235
 z146:=Tryz.sizeOf235
 v146:=Tryz.zeroValue235
 g1:=by kernel_rfl }
theorem Tryz.extra154:Builder.Extra Tryz.prog Tryz.lays154_ren where
 sizeBuilder:=by kernel_rfl
 liesBuilder:=by kernel_rfl
 t5:=Tryz.underlying5
 a5:=Tryz.isAgg5
 z5:=Tryz.sizeOf5
 v5:=Tryz.zeroValue5
 infoByte:=by kernel_rfl
 cellsByte:=by kernel_rfl
 sizeByte:=by kernel_rfl
 neB5:=by decide
def Tryz.MaxL (w:World):Prop:=∃ m,w.cell? ⟨1,0,none⟩ = some (.int .i64 m)
theorem Tryz.maxL_of {w:World} (h:w.ShapedOpen Tryz.prog):Tryz.MaxL w:=cell_of_shapedOpen_int (zero:=#[.int .i64 0]) h (by decide) (by kernel_rfl) (by kernel_rfl) (by kernel_rfl) (by kernel_rfl) Tryz.underlying3
open Go.RowKit in
theorem Tryz.MaxL.below {B:Nat} {w w':World} (h:Tryz.MaxL w) (hb:Below B w w') (hB:w.heap.size ≤ B):Tryz.MaxL w':=by
 obtain ⟨m,hm⟩:=h;exact ⟨m,(hb.cell (Nat.lt_of_lt_of_le (World.block_lt_of_cell? w _ hm) hB)).trans hm⟩
open Go.RowKit Go.Lib in
theorem Tryz.strings_Contains (s sub:ByteArray) (w:World) (hs:s.size < 4294967281) (hm:Tryz.MaxL w) :
  Calls Tryz.prog 130 #[.string s,.string sub] w fun e w'=>e = .returned (.bool (Lib.contains s.data.toList sub.data.toList))∧w' = w :=
 hm.elim fun m hm=>Any.strings_Contains Tryz.lays144 s sub m w hs hm
open Go.RowKit Go.Lib in
theorem Tryz.strings_Cut (s sep:ByteArray) (w:World) (hs:s.size < 4294967281) (hm:Tryz.MaxL w) :
  Calls Tryz.prog 114 #[.string s,.string sep] w fun e w'=>e = .returned (.tuple #[.string ⟨(Lib.cut s.data.toList sep.data.toList).1.toArray⟩,.string ⟨(Lib.cut s.data.toList sep.data.toList).2.1.toArray⟩,.bool (Lib.cut s.data.toList sep.data.toList).2.2])∧∃ n,w' = w.drewN n :=
 hm.elim fun m hm=>Any.strings_Cut Tryz.lays145 s sep m w hs hm
open Go.RowKit Go.Lib in
theorem Tryz.strings_Replace (s old new:ByteArray) (n:Int) (w:World) (hs:s.size < 4294967281) (hm:Tryz.MaxL w) (h1:1 ≤ old.size) (hlen:s.size + Lib.countB s old * new.size ≤ 140737488355328) :
  Calls Tryz.prog 112 #[.string s,.string old,.string new,.int .i64 n] w fun e w'=>e = .returned (.string ⟨(Lib.replace s.data.toList old.data.toList new.data.toList n).toArray⟩)∧Below w.heap.size w w' :=
 hm.elim fun m hm=>Any.strings_Replace Tryz.lays154 Tryz.extra154 s old new n m w hs hm h1 hlen
open Go.RowKit Go.Lib in
theorem Tryz.strings_Trim (s cutset:ByteArray) (w:World) (hs:s.size ≤ 9223372036854775807) (hcs:cutset.size < 4294967281) (hascii:∀ (j:Nat) b,cutset.data.toList[j]? = some b→b.toNat < 128) :
  Calls Tryz.prog 131 #[.string s,.string cutset] w fun e w'=>e = .returned (.string ⟨(Lib.trimS s.data.toList cutset.data.toList).toArray⟩)∧Below w.heap.size w w' :=
 Any.strings_Trim_laid Tryz.lays160 (by kernel_rfl) s cutset w hs hcs hascii
end Go.Proofs
end
namespace Go.Proofs.YteekjfgjmccdnaaGreatDoor
section -- NMath
open Go
def abcB:List UInt8:=[97,98,99,100,101,102,103,104,105,106,107,108,109,110,111,112,113,114,115,116,117,118,119,120,121,122,65,66,67,68,69,70,71,72,73,74,75,76,77,78,79,80,81,82,83,84,85,86,87,88,89,90,48,49,50,51,52,53,54,55,56,57,43,45]
def kindP (f:List UInt8):Int × List UInt8 :=
 if Lib.contains f [37,115] then (1,Lib.replace f [37,115] [] 1) else if Lib.contains f [37,122] then (2,Lib.replace f [37,122] [] 1) else if Lib.contains f [47] then (3,Lib.replace f [47] [] 1) else (0,f)
def edgeB (f:List UInt8):Bool:=decide ((kindP f).1 = 3) && (f.headD 0 == 47 || f.getLastD 0 == 47)
def badB (f:List UInt8):Bool:=f.isEmpty || decide (64 < f.length) || edgeB f || !(Lib.trimS (kindP f).2 abcB).isEmpty
def kindR (f:List UInt8):Int × Int:=if badB f then (0,12) else ((kindP f).1,0)
theorem kindR_bad {f:List UInt8} (h:badB f = true):kindR f = (0,12):=by unfold kindR;rw [if_pos h]
theorem kindR_ok {f:List UInt8} {k:Int} {p:List UInt8} (h:badB f = false) (hk:kindP f = (k,p)):kindR f = (k,0):=by unfold kindR;rw [if_neg (by rw [h];simp),hk]
theorem bad_empty {f:List UInt8} (h:f = []):badB f = true:=by subst h;rfl
theorem bad_long {f:List UInt8} (h:64 < f.length):badB f = true:=by unfold badB;rw [decide_eq_true h];simp
theorem bad_edge {f:List UInt8} (h:edgeB f = true):badB f = true:=by unfold badB;rw [h];simp
theorem bad_trim {f:List UInt8} {k:Int} {p:List UInt8} (hk:kindP f = (k,p)) (h:Lib.trimS p abcB ≠ []):badB f = true:=by
 unfold badB;rw [hk];have:(Lib.trimS p abcB).isEmpty = false:=by cases e:Lib.trimS p abcB with | nil=>exact absurd e h | cons a l=>rfl
 rw [this];simp
theorem bad_not {f:List UInt8} {k:Int} {p:List UInt8} (hk:kindP f = (k,p)) (h0:f ≠ []) (h1:¬ 64 < f.length) (h2:edgeB f = false) (h3:Lib.trimS p abcB = []):badB f = false:=by
 unfold badB;rw [hk,h2,h3,decide_eq_false h1]
 cases f with
 | nil=>exact absurd rfl h0
 | cons a l=>rfl
theorem edge_not {f:List UInt8} {k:Int} {p:List UInt8} (hk:kindP f = (k,p)) (h:k ≠ 3):edgeB f = false:=by
 unfold edgeB;rw [hk,decide_eq_false h]
 rfl
theorem contains_ne {f m:List UInt8} (hm:m ≠ []) (h:Lib.contains f m = true):f ≠ []:=by
 rintro rfl
 cases m with
 | nil=>exact hm rfl
 | cons a l=>simp [Lib.contains,Lib.index] at h
theorem edge_at {f:ByteArray} {p:List UInt8} (hk:kindP f.data.toList = (3,p)) (h0:0 < f.size):edgeB f.data.toList = (decide ((f[0].toNat:Int) = 47) || decide ((f[f.size - 1].toNat:Int) = 47)):=by
 have e0:f.data.toList.headD 0 = f[0]:=by
  have h1:0 < f.data.toList.length:=by simpa using h0
  rw [List.headD_eq_head?_getD,List.head?_eq_getElem?,List.getElem?_eq_getElem h1]
  rfl
 have e1:f.data.toList.getLastD 0 = f[f.size - 1]:=by
  have h1:f.size - 1 < f.data.toList.length:=by simp;omega
  rw [List.getLastD_eq_getLast?,List.getLast?_eq_getElem?];have h2:f.data.toList.length - 1 = f.size - 1:=by simp
  rw [h2,List.getElem?_eq_getElem h1]
  rfl
 have eq:∀ c:UInt8,(c == 47) = decide ((c.toNat:Int) = 47):=by
  intro c;rw [Bool.eq_iff_iff];simp only [beq_iff_eq,decide_eq_true_eq]
  constructor
  ·rintro rfl;rfl
  ·intro h;apply UInt8.toNat_inj.1;have:c.toNat = 47:=by omega
   rw [this]
   rfl
 unfold edgeB;rw [hk,e0,e1,eq,eq];simp
end
section -- NKind
open Go Go.RowKit Go.Shelf
theorem contains_at (f:ByteArray) (hs:f.size < 4294967281) (m:ByteArray) (b:Bool) (h:Lib.contains f.data.toList m.data.toList = b) (w:World) (hm:Tryz.MaxL w) :
  Calls Tryz.prog 130 #[.string f,.string m] w fun e w'=>e = .returned (.bool b)∧w = w':=(Tryz.strings_Contains f m w hs hm).mono fun e w' ⟨h1,h2⟩=>⟨by rw [h1,h],h2.symm⟩
theorem replaceK_len (old:List UInt8):∀ (k:Nat) (s:List UInt8),(Lib.replaceK old [] k s).length ≤ s.length
 | 0,s=>Nat.le_refl _
 | k + 1,s=>by
   unfold Lib.replaceK
   split
   ·exact Nat.le_refl _
   ·have:=replaceK_len old k (s.drop ((Lib.index s old).toNat + old.length));simp only [List.length_append,List.length_take,List.length_nil,List.length_drop] at *;omega
theorem replace_len (s old:List UInt8):(Lib.replace s old [] 1).length ≤ s.length:=by
 unfold Lib.replace
 split
 ·exact Nat.le_refl _
 ·exact replaceK_len _ _ _
theorem replace_at (f:ByteArray) (hs:f.size < 4294967281) (m:ByteArray) (h1:1 ≤ m.size) (w:World) (hm:Tryz.MaxL w) :
  Calls Tryz.prog 112 #[.string f,.string m,.string ⟨#[]⟩,.int .i64 1] w fun e w'=>e = .returned (.string ⟨(Lib.replace f.data.toList m.data.toList [] 1).toArray⟩)∧Below w.heap.size w w' :=
 Tryz.strings_Replace f m ⟨#[]⟩ 1 w hs hm h1 (by show f.size + _ * 0 ≤ _;omega)
def abcS:ByteArray:=⟨#[97,98,99,100,101,102,103,104,105,106,107,108,109,110,111,112,113,114,115,116,117,118,119,120,121,122,65,66,67,68,69,70,71,72,73,74,75,76,77,78,79,80,81,82,83,84,85,86,87,88,89,90,48,49,50,51,52,53,54,55,56,57,43,45]⟩
theorem trim_at (p:ByteArray) (hs:p.size ≤ 9223372036854775807) (l:List UInt8) (hl:Lib.trimS p.data.toList abcB = l) (w:World) :
  Calls Tryz.prog 131 #[.string p,.string abcS] w fun e w'=>e = .returned (.string ⟨l.toArray⟩)∧Below w.heap.size w w':=by
 subst hl;exact Tryz.strings_Trim p abcS w hs (by decide) (Go.Proofs.ascii_of_all (by decide))
theorem kind_any (f:ByteArray) (w:World) (hs:f.size < 4294967281) (hm:Tryz.MaxL w) :
  Calls Tryz.prog 106 #[.string f] w fun e w'=>e = .returned (.tuple #[.int .i64 (kindR f.data.toList).1,.int .i64 (kindR f.data.toList).2])∧Below w.heap.size w w':=by
 have HM:∀ W,Below w.heap.size w W→Tryz.MaxL W:=fun W hb=>hm.below hb (Nat.le_refl _)
 by_cases h1:Lib.contains f.data.toList [37,115] = true
 ·have HT:=contains_at f hs ⟨#[37,115]⟩ true h1;go_enter Tryz.func106,Tryz.ntmps106;go_wp2_with fail;refine wp_loop_rounds 4 ?_;rw [rounds_succ];go_wp2_with fail;refine (HT _ (HM _ (((Below.refl _ _).alloc (Nat.le_refl _) _).alloc (by simp) _))).mono ?_;rintro e w1 ⟨rfl,rfl⟩;go_wp2_with fail
  refine wp_env (fin:=?fn0) (by kernel_rfl) [23,24,25,26,27,28,4,5]
   [.string f,.pointer (some ⟨w.heap.size + 1,0,none⟩),.string ⟨#[37,115]⟩,.string ⟨(Lib.replace f.data.toList [37,115] [] 1).toArray⟩,.pointer (some ⟨w.heap.size + 1,1,none⟩),.int .i64 1,.string ⟨(Lib.replace f.data.toList [37,115] [] 1).toArray⟩,.int .i64 1] (by kernel_rfl) ?fin0 ?steps0 ?next0
  case fin0=>simp only [putAll,Act.put,List.setIfInBounds_toArray,List.set_cons_succ,List.set_cons_zero];rfl
  case steps0 =>
   refine ⟨?_,?_,?_,?_,?_,?_,?_,?_,trivial⟩
   all_goals
    refine .inr ⟨by kernel_rfl,fun w1_ hB=>?_⟩;have hb:=blk_behind hB;simp only [World.size_alloc] at hb;have q0:=hb.cell 0 (v:=.string ⟨#[37,115]⟩) rfl;have q1:=hb.cell 1 (v:=.int .i64 1) rfl;have hbw:=(((Below.refl _ _).alloc (Nat.le_refl _) _).alloc (by simp) _).trans (hB.mono (by simp;omega));clear hb hB;go_simp
    first | exact ⟨rfl,Below.refl _ _⟩ | exact ⟨rfl,replace_at f hs ⟨#[37,115]⟩ (by decide) _ (HM _ hbw)⟩
  case next0 =>
   intro W4 hB4;have hB:=(((Below.refl _ _).alloc (Nat.le_refl _) _).alloc (by simp) _).trans (hB4.mono (by simp;omega));clear hB4;have hp:f.data.toList ≠ []:=contains_ne (by decide) h1;have hne:¬ f.toList = []:=by rw [Lib.toList_data];exact hp
   have hne2:f.toList.isEmpty = false:=by cases e:f.toList with | nil=>exact absurd e hne | cons a l=>rfl
   have hk:kindP f.data.toList = (1,Lib.replace f.data.toList [37,115] [] 1):=by unfold kindP;rw [if_pos h1]
   have hz:(Lib.replace f.data.toList [37,115] [] 1).length ≤ f.size:=by have:=replace_len f.data.toList [37,115];simpa using this
   by_cases hl:64 < (f.size:Int)
   ·have HB:=Lib.hid (kindR_bad (bad_long (f:=f.data.toList) (by rw [Array.length_toList];show 64 < f.size;omega)));clear hk hz hp;go_wp2_with fail
    all_goals (go_ret2;exact ⟨by rw [HB.out];rfl,hB⟩)
   ·have HK:=Lib.hid (fun h=>kindR_ok (bad_not hk hp (by rw [Array.length_toList];show ¬ 64 < f.size;omega) (edge_not hk (by decide)) h) hk);have HN:=Lib.hid (fun h=>kindR_bad (bad_trim hk h));clear hk hp;generalize Lib.replace f.data.toList [37,115] [] 1 = p at *;go_wp2_with fail;refine (trim_at _ (by show p.toArray.size ≤ _;simp;omega) (Lib.trimS p abcB) rfl _).mono ?_;rintro e w5 ⟨rfl,hb5⟩;generalize Lib.trimS p abcB = z at *;have hb6:=hB.trans (hb5.mono hB.size);clear hb5 hB
    by_cases he:z = []
    ·have he2:(!z.isEmpty) = false:=by rw [he];rfl
     have HB:=Lib.hid (HK.out he);clear he HK HN;go_wp2_with fail;go_ret2;exact ⟨by rw [HB.out];rfl,hb6⟩
    ·have he2:(!z.isEmpty) = true:=by cases z with | nil=>exact absurd rfl he | cons a l=>rfl
     have HB:=Lib.hid (HN.out he);clear he HK HN;go_wp2_with fail;go_ret2;exact ⟨by rw [HB.out];rfl,hb6⟩
 ·skip
  by_cases h2:Lib.contains f.data.toList [37,122] = true
  ·have HT:=contains_at f hs ⟨#[37,122]⟩ true h2;have HF1:=contains_at f hs ⟨#[37,115]⟩ false (by simpa using h1);go_enter Tryz.func106,Tryz.ntmps106;go_wp2_with fail;refine wp_loop_rounds 4 ?_;rw [rounds_succ];go_wp2_with fail;refine (HF1 _ (HM _ (((Below.refl _ _).alloc (Nat.le_refl _) _).alloc (by simp) _))).mono ?_;rintro e w1 ⟨rfl,rfl⟩;go_wp2_with fail;rw [rounds_succ];go_wp2_with fail;refine (HT _ (HM _ ((((Below.refl _ _).alloc (Nat.le_refl _) _).alloc (by simp) _).alloc (by simp;omega) _))).mono ?_;rintro e w1 ⟨rfl,rfl⟩;go_wp2_with fail
   refine wp_env (fin:=?fn1) (by kernel_rfl) [23,24,25,26,27,28,4,5]
    [.string f,.pointer (some ⟨w.heap.size + 1 + 1,0,none⟩),.string ⟨#[37,122]⟩,.string ⟨(Lib.replace f.data.toList [37,122] [] 1).toArray⟩,.pointer (some ⟨w.heap.size + 1 + 1,1,none⟩),.int .i64 2,.string ⟨(Lib.replace f.data.toList [37,122] [] 1).toArray⟩,.int .i64 2] (by kernel_rfl) ?fin1 ?steps1 ?next1
   case fin1=>simp only [putAll,Act.put,List.setIfInBounds_toArray,List.set_cons_succ,List.set_cons_zero];rfl
   case steps1 =>
    refine ⟨?_,?_,?_,?_,?_,?_,?_,?_,trivial⟩
    all_goals
     refine .inr ⟨by kernel_rfl,fun w1_ hB=>?_⟩;have hb:=blk_behind hB;simp only [World.size_alloc] at hb;have q0:=hb.cell 0 (v:=.string ⟨#[37,122]⟩) rfl;have q1:=hb.cell 1 (v:=.int .i64 2) rfl;have hbw:=((((Below.refl _ _).alloc (Nat.le_refl _) _).alloc (by simp) _).alloc (by simp;omega) _).trans (hB.mono (by simp;omega));clear hb hB;go_simp
     first | exact ⟨rfl,Below.refl _ _⟩ | exact ⟨rfl,replace_at f hs ⟨#[37,122]⟩ (by decide) _ (HM _ hbw)⟩
   case next1 =>
    intro W4 hB4;have hB:=((((Below.refl _ _).alloc (Nat.le_refl _) _).alloc (by simp) _).alloc (by simp;omega) _).trans (hB4.mono (by simp;omega));clear hB4;have hp:f.data.toList ≠ []:=contains_ne (by decide) h2;have hne:¬ f.toList = []:=by rw [Lib.toList_data];exact hp
    have hne2:f.toList.isEmpty = false:=by cases e:f.toList with | nil=>exact absurd e hne | cons a l=>rfl
    have hk:kindP f.data.toList = (2,Lib.replace f.data.toList [37,122] [] 1):=by unfold kindP;rw [if_neg h1,if_pos h2]
    have hz:(Lib.replace f.data.toList [37,122] [] 1).length ≤ f.size:=by have:=replace_len f.data.toList [37,122];simpa using this
    by_cases hl:64 < (f.size:Int)
    ·have HB:=Lib.hid (kindR_bad (bad_long (f:=f.data.toList) (by rw [Array.length_toList];show 64 < f.size;omega)));clear hk hz hp;go_wp2_with fail
     all_goals (go_ret2;exact ⟨by rw [HB.out];rfl,hB⟩)
    ·have HK:=Lib.hid (fun h=>kindR_ok (bad_not hk hp (by rw [Array.length_toList];show ¬ 64 < f.size;omega) (edge_not hk (by decide)) h) hk);have HN:=Lib.hid (fun h=>kindR_bad (bad_trim hk h));clear hk hp;generalize Lib.replace f.data.toList [37,122] [] 1 = p at *;go_wp2_with fail;refine (trim_at _ (by show p.toArray.size ≤ _;simp;omega) (Lib.trimS p abcB) rfl _).mono ?_;rintro e w5 ⟨rfl,hb5⟩;generalize Lib.trimS p abcB = z at *;have hb6:=hB.trans (hb5.mono hB.size);clear hb5 hB
     by_cases he:z = []
     ·have he2:(!z.isEmpty) = false:=by rw [he];rfl
      have HB:=Lib.hid (HK.out he);clear he HK HN;go_wp2_with fail;go_ret2;exact ⟨by rw [HB.out];rfl,hb6⟩
     ·have he2:(!z.isEmpty) = true:=by cases z with | nil=>exact absurd rfl he | cons a l=>rfl
      have HB:=Lib.hid (HN.out he);clear he HK HN;go_wp2_with fail;go_ret2;exact ⟨by rw [HB.out];rfl,hb6⟩
  ·skip
   by_cases h3:Lib.contains f.data.toList [47] = true
   ·have HT:=contains_at f hs ⟨#[47]⟩ true h3;have HF1:=contains_at f hs ⟨#[37,115]⟩ false (by simpa using h1);have HF2:=contains_at f hs ⟨#[37,122]⟩ false (by simpa using h2);go_enter Tryz.func106,Tryz.ntmps106;go_wp2_with fail;refine wp_loop_rounds 4 ?_;rw [rounds_succ];go_wp2_with fail;refine (HF1 _ (HM _ (((Below.refl _ _).alloc (Nat.le_refl _) _).alloc (by simp) _))).mono ?_;rintro e w1 ⟨rfl,rfl⟩;go_wp2_with fail;rw [rounds_succ];go_wp2_with fail;refine (HF2 _ (HM _ ((((Below.refl _ _).alloc (Nat.le_refl _) _).alloc (by simp) _).alloc (by simp;omega) _))).mono ?_;rintro e w1 ⟨rfl,rfl⟩;go_wp2_with fail;rw [rounds_succ];go_wp2_with fail;refine (HT _ (HM _ (((((Below.refl _ _).alloc (Nat.le_refl _) _).alloc (by simp) _).alloc (by simp;omega) _).alloc (by simp;omega) _))).mono ?_;rintro e w1 ⟨rfl,rfl⟩;go_wp2_with fail
    refine wp_env (fin:=?fn2) (by kernel_rfl) [23,24,25,26,27,28,4,5]
     [.string f,.pointer (some ⟨w.heap.size + 1 + 1 + 1,0,none⟩),.string ⟨#[47]⟩,.string ⟨(Lib.replace f.data.toList [47] [] 1).toArray⟩,.pointer (some ⟨w.heap.size + 1 + 1 + 1,1,none⟩),.int .i64 3,.string ⟨(Lib.replace f.data.toList [47] [] 1).toArray⟩,.int .i64 3] (by kernel_rfl) ?fin2 ?steps2 ?next2
    case fin2=>simp only [putAll,Act.put,List.setIfInBounds_toArray,List.set_cons_succ,List.set_cons_zero];rfl
    case steps2 =>
     refine ⟨?_,?_,?_,?_,?_,?_,?_,?_,trivial⟩
     all_goals
      refine .inr ⟨by kernel_rfl,fun w1_ hB=>?_⟩;have hb:=blk_behind hB;simp only [World.size_alloc] at hb;have q0:=hb.cell 0 (v:=.string ⟨#[47]⟩) rfl;have q1:=hb.cell 1 (v:=.int .i64 3) rfl;have hbw:=(((((Below.refl _ _).alloc (Nat.le_refl _) _).alloc (by simp) _).alloc (by simp;omega) _).alloc (by simp;omega) _).trans (hB.mono (by simp;omega));clear hb hB;go_simp
      first | exact ⟨rfl,Below.refl _ _⟩ | exact ⟨rfl,replace_at f hs ⟨#[47]⟩ (by decide) _ (HM _ hbw)⟩
    case next2 =>
     intro W4 hB4;have hB:=(((((Below.refl _ _).alloc (Nat.le_refl _) _).alloc (by simp) _).alloc (by simp;omega) _).alloc (by simp;omega) _).trans (hB4.mono (by simp;omega));clear hB4;have hp:f.data.toList ≠ []:=contains_ne (by decide) h3;have hne:¬ f.toList = []:=by rw [Lib.toList_data];exact hp
     have hne2:f.toList.isEmpty = false:=by cases e:f.toList with | nil=>exact absurd e hne | cons a l=>rfl
     have hk:kindP f.data.toList = (3,Lib.replace f.data.toList [47] [] 1):=by unfold kindP;rw [if_neg h1,if_neg h2,if_pos h3]
     have hz:(Lib.replace f.data.toList [47] [] 1).length ≤ f.size:=by have:=replace_len f.data.toList [47];simpa using this
     have h0:0 < f.size:=by have:=List.length_pos_iff.2 hp;simpa using this
     have hE:=edge_at hk h0
     by_cases e0:(f[0].toNat:Int) = 47
     ·have HB:=Lib.hid (kindR_bad (bad_edge (hE.trans (by rw [decide_eq_true e0];rfl))));clear hk hz hp hE;go_wp2_with fail
      all_goals (go_ret2;exact ⟨by rw [HB.out];rfl,hB⟩)
     ·by_cases e1:(f[f.size - 1].toNat:Int) = 47
      ·have HB:=Lib.hid (kindR_bad (bad_edge (hE.trans (by rw [decide_eq_true e1,Bool.or_true]))));clear hk hz hp hE;go_wp2_with fail
       all_goals (go_ret2;exact ⟨by rw [HB.out];rfl,hB⟩)
      ·have HE:=Lib.hid (hE.trans (by rw [decide_eq_false e0,decide_eq_false e1,Bool.or_false]));have e2:((f[0].toNat:Int) == 47) = false:=by simpa using e0
       have e3:((f[f.size - 1].toNat:Int) == 47) = false:=by simpa using e1
       clear hE
       by_cases hl:64 < (f.size:Int)
       ·have HB:=Lib.hid (kindR_bad (bad_long (f:=f.data.toList) (by rw [Array.length_toList];show 64 < f.size;omega)));clear hk hz hp;go_wp2_with fail
        all_goals (go_ret2;exact ⟨by rw [HB.out];rfl,hB⟩)
       ·have HK:=Lib.hid (fun h=>kindR_ok (bad_not hk hp (by rw [Array.length_toList];show ¬ 64 < f.size;omega) HE.out h) hk);have HN:=Lib.hid (fun h=>kindR_bad (bad_trim hk h));clear hk hp;generalize Lib.replace f.data.toList [47] [] 1 = p at *;go_wp2_with fail;refine (trim_at _ (by show p.toArray.size ≤ _;simp;omega) (Lib.trimS p abcB) rfl _).mono ?_;rintro e w5 ⟨rfl,hb5⟩;generalize Lib.trimS p abcB = z at *;have hb6:=hB.trans (hb5.mono hB.size);clear hb5 hB
        by_cases he:z = []
        ·have he2:(!z.isEmpty) = false:=by rw [he];rfl
         have HB:=Lib.hid (HK.out he);clear he HK HN;go_wp2_with fail;go_ret2;exact ⟨by rw [HB.out];rfl,hb6⟩
        ·have he2:(!z.isEmpty) = true:=by cases z with | nil=>exact absurd rfl he | cons a l=>rfl
         have HB:=Lib.hid (HN.out he);clear he HK HN;go_wp2_with fail;go_ret2;exact ⟨by rw [HB.out];rfl,hb6⟩
   ·skip
    have HF1:=contains_at f hs ⟨#[37,115]⟩ false (by simpa using h1);have HF2:=contains_at f hs ⟨#[37,122]⟩ false (by simpa using h2);have HF3:=contains_at f hs ⟨#[47]⟩ false (by simpa using h3);go_enter Tryz.func106,Tryz.ntmps106;go_wp2_with fail;refine wp_loop_rounds 4 ?_;rw [rounds_succ];go_wp2_with fail;refine (HF1 _ (HM _ (((Below.refl _ _).alloc (Nat.le_refl _) _).alloc (by simp) _))).mono ?_;rintro e w1 ⟨rfl,rfl⟩;go_wp2_with fail;rw [rounds_succ];go_wp2_with fail;refine (HF2 _ (HM _ ((((Below.refl _ _).alloc (Nat.le_refl _) _).alloc (by simp) _).alloc (by simp;omega) _))).mono ?_;rintro e w1 ⟨rfl,rfl⟩;go_wp2_with fail;rw [rounds_succ];go_wp2_with fail;refine (HF3 _ (HM _ (((((Below.refl _ _).alloc (Nat.le_refl _) _).alloc (by simp) _).alloc (by simp;omega) _).alloc (by simp;omega) _))).mono ?_;rintro e w1 ⟨rfl,rfl⟩;go_wp2_with fail;rw [rounds_succ];have hB:Below w.heap.size w ((((w.alloc (.cells #[.string ⟨#[37,115]⟩,.int .i64 1,.string ⟨#[37,122]⟩,.int .i64 2,.string ⟨#[47]⟩,.int .i64 3] 180)).alloc (.cells #[.string ⟨#[37,115]⟩,.int .i64 1] 180)).alloc (.cells #[.string ⟨#[37,122]⟩,.int .i64 2] 180)).alloc (.cells #[.string ⟨#[47]⟩,.int .i64 3] 180)):=(((((Below.refl _ _).alloc (Nat.le_refl _) _).alloc (by simp) _).alloc (by simp;omega) _).alloc (by simp;omega) _);have hk:kindP f.data.toList = (0,f.data.toList):=by unfold kindP;rw [if_neg h1,if_neg h2,if_neg h3]
    have hz:f.data.toList.length ≤ f.data.toList.length:=Nat.le_refl _
    by_cases hp:f.data.toList = []
    ·have hne:f.toList = []:=by rw [Lib.toList_data];exact hp
     have hne2:f.toList.isEmpty = true:=by rw [hne];rfl
     have HB:=Lib.hid (kindR_bad (bad_empty hp));clear hk hz hp;go_wp2_with fail
     all_goals (go_ret2;exact ⟨by rw [HB.out];rfl,hB⟩)
    ·have hne:¬ f.toList = []:=by rw [Lib.toList_data];exact hp
     have hne2:f.toList.isEmpty = false:=by cases e:f.toList with | nil=>exact absurd e hne | cons a l=>rfl
     by_cases hl:64 < (f.size:Int)
     ·have HB:=Lib.hid (kindR_bad (bad_long (f:=f.data.toList) (by rw [Array.length_toList];show 64 < f.size;omega)));clear hk hz hp;go_wp2_with fail
      all_goals (go_ret2;exact ⟨by rw [HB.out];rfl,hB⟩)
     ·have HK:=Lib.hid (fun h=>kindR_ok (bad_not hk hp (by rw [Array.length_toList];show ¬ 64 < f.size;omega) (edge_not hk (by decide)) h) hk);have HN:=Lib.hid (fun h=>kindR_bad (bad_trim hk h));clear hk hp;have hfp:f = ⟨f.data.toList.toArray⟩:=by cases f;simp
      have HFP:=Lib.hid hfp;clear hfp;go_wp2_with fail;refine (trim_at _ (by omega) (Lib.trimS f.data.toList abcB) rfl _).mono ?_;rintro e w5 ⟨rfl,hb5⟩;generalize Lib.trimS f.data.toList abcB = z at *;have hb6:=hB.trans (hb5.mono hB.size);clear hb5 hB
      by_cases he:z = []
      ·have he2:(!z.isEmpty) = false:=by rw [he];rfl
       have HB:=Lib.hid (HK.out he);clear he HK HN;go_wp2_with fail;go_ret2;exact ⟨by rw [HB.out];rfl,hb6⟩
      ·have he2:(!z.isEmpty) = true:=by cases z with | nil=>exact absurd rfl he | cons a l=>rfl
       have HB:=Lib.hid (HN.out he);clear he HK HN;go_wp2_with fail;go_ret2;exact ⟨by rw [HB.out];rfl,hb6⟩
end
section -- NShow
open Go Go.RowKit Go.Shelf
theorem kind_at (f:ByteArray) (hs:f.size < 4294967281) (k e:Int) (h:kindR f.data.toList = (k,e)) (w:World) (hm:Tryz.MaxL w) :
  Calls Tryz.prog 106 #[.string f] w fun o w'=>o = .returned (.tuple #[.int .i64 k,.int .i64 e])∧Below w.heap.size w w' :=
 (kind_any f w hs hm).mono fun o w' ⟨h1,h2⟩=>⟨by rw [h1,h],h2⟩
theorem show_plain (f:ByteArray) (off:Int) (dst:Bool) (letter:ByteArray) (w:World) (hs:f.size < 4294967281) (hm:Tryz.MaxL w) (h:kindR f.data.toList = (0,0)) :
  Calls Tryz.prog 73 #[.string f,.int .i64 off,.bool dst,.string letter] w fun e w'=>e = .returned (.tuple #[.string f,.int .i64 0])∧Below w.heap.size w w':=by
 have HK:=fun W=>kind_at f hs 0 0 h W
 clear h;go_enter Tryz.func73,Tryz.ntmps73;go_wp2_with fail;refine (HK _ hm).mono ?_;rintro e w1 ⟨rfl,hb⟩;go_wp2_with fail;go_ret2;exact ⟨rfl,hb⟩
theorem show_err (f:ByteArray) (off:Int) (dst:Bool) (letter:ByteArray) (w:World) (hs:f.size < 4294967281) (hm:Tryz.MaxL w) (k e:Int) (h:kindR f.data.toList = (k,e)) (he:e ≠ 0) :
  Calls Tryz.prog 73 #[.string f,.int .i64 off,.bool dst,.string letter] w fun o w'=>o = .returned (.tuple #[.string ⟨#[]⟩,.int .i64 e])∧Below w.heap.size w w':=by
 have HK:=fun W=>kind_at f hs k e h W
 have he2:(e != 0) = true:=by simpa using he
 clear h;go_enter Tryz.func73,Tryz.ntmps73;go_wp2_with fail;refine (HK _ hm).mono ?_;rintro e w1 ⟨rfl,hb⟩;go_wp2_with fail;go_ret2;exact ⟨rfl,hb⟩
end
section -- FuncEq
open Go Go.RowKit
theorem run_equalIn_func {P:Program} (w:World) (d:Nat) (t:TypeId) {ps rs:Array TypeId} {b:Bool} (f:Fn) (ts cs:Array Value) (h:P.underlying t = some (.func ps rs b)):(Op.equalIn (d + 1) t (.func f ts cs) .nilFunc).run P w = .ok false w:=by
 simp [Op.equalIn,run_underlying h]
theorem run_eql_func_nil {P:Program} (w:World) (t:TypeId) {ps rs:Array TypeId} {b:Bool} (f:Fn) (ts cs:Array Value) (h:P.underlying t = some (.func ps rs b)):(binOp .eql t (.func f ts cs) .nilFunc).run P w = .ok (.bool false) w:=by
 simp only [binOp];simp [show Op.equal t (.func f ts cs) .nilFunc = Op.equalIn (9999 + 1) t (.func f ts cs) .nilFunc from rfl,run_equalIn_func w 9999 t f ts cs h]
end
section -- NEra
open Go Go.RowKit Go.Shelf
structure EraN where
 off:Int
 save:Int
 year:Int
 month:Int
 dk:Int
 dw:Int
 dn:Int
 sec:Int
 ak:Int
def eraP (e:EraN) (f:ByteArray):List Value:=[.int .i64 e.off,.string ⟨#[]⟩,.int .i64 e.save,.string f,.bool false,.int .i64 e.year,.int .i64 e.month,.int .i64 e.dk,.int .i64 e.dw,.int .i64 e.dn,.int .i64 e.sec,.int .i64 e.ak]
def withinB (n:Int):Bool:=decide (-90000 < n) && decide (n < 90000)
theorem kindR_cases (f:List UInt8):(kindR f).2 = 0∨kindR f = (0,12):=by
 unfold kindR
 split
 ·exact .inr rfl
 ·exact .inl rfl
theorem within_any (n:Int) (w:World):Calls Tryz.prog 107 #[.int .i64 n] w fun o w'=>o = .returned (.bool (withinB n))∧w = w':=by
 unfold withinB
 by_cases h:-90000 < n
 ·have h2:decide (-90000 < n) = true:=by simpa using h
  rw [h2];clear h2;go_enter Tryz.func107,Tryz.ntmps107;go_wp2_with fail;go_ret;exact ⟨by simp,rfl⟩
 ·have h2:decide (-90000 < n) = false:=by simpa using h
  rw [h2];go_enter Tryz.func107,Tryz.ntmps107;go_wp2_with fail;go_ret;exact ⟨rfl,rfl⟩
theorem within_at (n:Int) (b:Bool) (h:withinB n = b) (w:World):Calls Tryz.prog 107 #[.int .i64 n] w fun o w'=>o = .returned (.bool b)∧w = w':=by
 subst h;exact within_any n w
end
section -- EnvS
open Go Go.RowKit
section
variable {P:Program} {n:Nat} {ops:Array Oper}
def envSB (ops:Array Oper) (D:List Nat) (st:Nat):Bool :=
 invB ops D && (List.range ops.size).all fun i=>match ops[i]? with
  | some o=>(match o.op with | .defer ..=>false | .select ..=>false | _=>true) && (if i = st then o.dst.isNone else o.dst == some (D.getD i 0)) &&
    (o.looksAt ops).all fun s=>!D.contains s || (List.range i).any fun j=>D.getD j 0 == s && o.after.any fun e=>Region.binds .any e && e.on == j
  | none=>true
end
end
section -- NAt
open Go Go.RowKit Go.Shelf
def dstB (n:Int):Bool:=n != 0
def withinR (off:Int) (dst:Bool) (s:ByteArray) (err:Int):Value:=if err = 0 then .tuple #[.agg #[.int .i64 off,.bool dst,.string s],.int .i64 0] else .tuple #[.agg #[.int .i64 0,.bool false,.string ⟨#[]⟩],.int .i64 err]
theorem withinB_iff {n:Int}:withinB n = true ↔ -90000 < n∧n < 90000:=by simp [withinB]
end
section -- ARefK
open Go Go.RowKit Go.Shelf
def letB (x:UInt8):Bool:=abcB.contains x
def scanR (n:Nat):Nat→List UInt8→Int × Nat→Option (Int × Nat)
 | _,[],st=>some st
 | i,x :: t,st=>if letB x then scanR n (i + 1) t st
   else if st.1 ≠ 0 then none
   else if x = 47∧0 < i∧i + 1 < n then scanR n (i + 1) t (3,i)
   else if x = 37∧t.head? = some 115 then scanR n (i + 1) t (1,i)
   else if x = 37∧t.head? = some 122 then scanR n (i + 1) t (2,i)
   else none
def refK (f:List UInt8):Int × Nat:=if f = []∨64 < f.length then (-1,0) else match scanR f.length 0 f (0,0) with | none=>(-1,0) | some st=>st
def odd (f:List UInt8):Nat:=f.countP fun x=>!letB x
theorem odd_append (a b:List UInt8):odd (a ++ b) = odd a + odd b:=List.countP_append
theorem odd_zero {f:List UInt8}:odd f = 0 ↔ ∀ x ∈ f,letB x = true:=by
 unfold odd;rw [List.countP_eq_zero]
 constructor
 ·intro h x hx;have:=h x hx;simpa using this
 ·intro h x hx;rw [h x hx];decide
theorem odd_cons (x:UInt8) (f:List UInt8):odd (x :: f) = (if letB x then 0 else 1) + odd f:=by
 unfold odd;rw [List.countP_cons]
 cases letB x <;> simp <;> omega
theorem scan_letters {n:Nat}:∀ (a:List UInt8) (i:Nat) (r:List UInt8) (st:Int × Nat),odd a = 0→scanR n i (a ++ r) st = scanR n (i + a.length) r st
 | [],i,r,st,_=>rfl
 | x :: a,i,r,st,h=>by
   rw [odd_cons] at h;have hx:letB x = true:=by cases hb:letB x <;> rw [hb] at h <;> simp at h ⊢
   rw [hx] at h
   show scanR n i (x :: (a ++ r)) st = _
   rw [scanR,if_pos hx,scan_letters a (i + 1) r st (by simpa using h)]
   congr 1
   simp;omega
theorem scan_none {n:Nat}:∀ (t:List UInt8) (i:Nat) (st:Int × Nat),st.1 ≠ 0→odd t ≠ 0→scanR n i t st = none
 | [],_,_,_,h=>absurd rfl h
 | x :: t,i,st,hs,h=>by
   rw [scanR]
   cases hx:letB x with
   | true =>
     rw [if_pos rfl];rw [odd_cons,hx] at h;exact scan_none t (i + 1) st hs (by simpa using h)
   | false=>rw [if_neg (by decide),if_pos hs]
theorem odd_split:∀ {f:List UInt8},odd f ≠ 0→∃ a x t,f = a ++ x :: t∧odd a = 0∧letB x = false
 | [],h=>absurd rfl h
 | x :: f,h=>by
   cases hx:letB x with
   | false=>exact ⟨[],x,f,rfl,rfl,hx⟩
   | true =>
     rw [odd_cons,hx] at h;obtain ⟨a,y,t,e,h1,h2⟩:=odd_split (f:=f) (by simpa using h);exact ⟨x :: a,y,t,by rw [e];rfl,by rw [odd_cons,hx,h1];rfl,h2⟩
theorem dropWhile_nil {p:UInt8→Bool}:∀ {l:List UInt8},l.dropWhile p = [] ↔ ∀ x ∈ l,p x = true
 | []=>⟨fun _ x hx=>(by cases hx),fun _=>rfl⟩
 | y :: l=>by
   rw [List.dropWhile_cons]
   cases hy:p y with
   | true =>
     rw [if_pos rfl,dropWhile_nil];exact ⟨fun h x hx=>by rcases List.mem_cons.1 hx with rfl | hx;exact hy;exact h x hx,fun h x hx=>h x (by simp [hx])⟩
   | false =>
     rw [if_neg (by decide)];exact ⟨fun h=>(by cases h),fun h=>by have:=h y (by simp);rw [hy] at this;exact absurd this (by decide)⟩
theorem trim_nil {l:List UInt8}:Lib.trimS l abcB = [] ↔ odd l = 0:=by
 rw [odd_zero];unfold Lib.trimS Lib.trimLeftS Lib.trimRightS
 constructor
 ·intro h x hx
  have h2:∀ y ∈ (l.reverse.dropWhile (abcB.contains ·)).reverse,abcB.contains y = true:=fun y hy=>by
   rw [dropWhile_nil] at h;exact h y hy
  have h3:l.reverse.dropWhile (abcB.contains ·) = []:=by
   cases hd:l.reverse.dropWhile (abcB.contains ·) with
   | nil=>rfl
   | cons z zs =>
     have hz:=h2 z (by rw [hd];simp);have:=List.head_dropWhile_not (abcB.contains ·) (l:=l.reverse) (by rw [hd];simp);simp only [hd,List.head_cons] at this;rw [this] at hz;exact absurd hz (by decide)
  rw [dropWhile_nil] at h3;exact h3 x (by simpa using hx)
 ·intro h
  have h3:l.reverse.dropWhile (abcB.contains ·) = []:=by
   rw [dropWhile_nil];intro x hx;exact h x (by simpa using hx)
  rw [h3]
  rfl
theorem mark_at {f m:List UInt8} (h:Lib.contains f m = true):∃ i:Nat,Lib.index f m = i∧f = f.take i ++ m ++ f.drop (i + m.length)∧i + m.length ≤ f.length:=by
 unfold Lib.contains at h;rw [decide_eq_true_eq] at h
 rcases Lib.index_spec f m with ⟨h1,-⟩ | ⟨i,h1,h2,h3,-⟩
 ·omega
 ·have hr:=Lib.index_room f m h;have hl:i + m.length ≤ f.length:=by omega
  refine ⟨i,h1,?_,hl⟩;rw [Lib.occAt_iff_take f m i hl] at h3;have h4:(f.drop i).take m.length = m:=by simpa using h3
  conv=>lhs;rw [← List.take_append_drop i f]
  rw [List.append_assoc]
  congr 1
  conv=>lhs;rw [← List.take_append_drop m.length (f.drop i),h4,List.drop_drop]
theorem rep_at {f m new:List UInt8} {i:Nat} (hm:m ≠ new) (hi:Lib.index f m = i):Lib.replace f m new 1 = f.take i ++ new ++ f.drop (i + m.length):=by
 unfold Lib.replace;rw [if_neg (by simpa using hm)]
 have hc:1 ≤ Lib.count f m:=by
  unfold Lib.count;rw [Lib.countFrom,if_neg (by rw [hi];simp)];omega
 have hn:Lib.replaceNum f m 1 = 1:=by
  unfold Lib.replaceNum;rw [if_neg (by omega)]
  rfl
 rw [hn,Lib.replaceK_hit m new 0 f i hi]
 rfl
def markK (k:Int):List UInt8:=if k = 1 then [37,115] else if k = 2 then [37,122] else [47]
theorem contains_of {a m b:List UInt8}:Lib.contains (a ++ m ++ b) m = true:=by
 unfold Lib.contains;rw [decide_eq_true_eq]
 rcases Lib.index_spec (a ++ m ++ b) m with ⟨-,h2⟩ | ⟨i,h1,-⟩
 ·exfalso;have:=h2 a.length (by simp);unfold Lib.occAt at this;rw [List.append_assoc,List.drop_left] at this;have h3:m.isPrefixOf (m ++ b) = true:=by rw [List.isPrefixOf_iff_prefix];exact List.prefix_append m b
  rw [h3] at this;exact absurd this (by decide)
 ·omega
theorem odd_mark {f m:List UInt8} (hm:odd m = 1) (h:Lib.contains f m = true):∃ i:Nat,Lib.index f m = i∧f = f.take i ++ m ++ f.drop (i + m.length)∧i + m.length ≤ f.length∧odd f = odd (f.take i ++ f.drop (i + m.length)) + 1:=by
 obtain ⟨i,h1,h2,h3⟩:=mark_at h;refine ⟨i,h1,h2,h3,?_⟩
 conv=>lhs;rw [h2]
 rw [odd_append,odd_append,odd_append,hm];omega
theorem m1:odd [37,115] = 1:=by decide
theorem m2:odd [37,122] = 1:=by decide
theorem m3:odd [47] = 1:=by decide
theorem scan_bad {n:Nat} {f:List UInt8} (h:2 ≤ odd f):scanR n 0 f (0,0) = none:=by
 obtain ⟨a,x,t,e,ha,hx⟩:=odd_split (f:=f) (by omega)
 have ht:odd t ≠ 0:=by
  rw [e,odd_append,odd_cons,ha,hx] at h;simp at h;omega
 rw [e,scan_letters a 0 _ _ ha,scanR,hx,if_neg (by decide),if_neg (by simp)]
 split
 ·exact scan_none t _ _ (by simp) ht
 ·split
  ·exact scan_none t _ _ (by simp) ht
  ·split
   ·exact scan_none t _ _ (by simp) ht
   ·rfl
theorem scan_all {n i:Nat} {t:List UInt8} {st:Int × Nat} (h:odd t = 0):scanR n i t st = some st:=by
 have:=scan_letters (n:=n) t i [] st h;rw [List.append_nil] at this;rw [this]
 rfl
theorem refK_in {f:List UInt8} (h0:f ≠ []) (h1:¬ 64 < f.length):refK f = match scanR f.length 0 f (0,0) with | none=>(-1,0) | some st=>st:=by
 unfold refK;rw [if_neg (by intro h;rcases h with h | h;exact h0 h;exact h1 h)]
theorem last_ne {f:List UInt8} (h:odd f = 0):(f.headD 0 == 47) = false∧(f.getLastD 0 == 47) = false:=by
 rw [odd_zero] at h;have h47:letB 47 = false:=by decide
 constructor
 ·cases f with
  | nil=>rfl
  | cons x t =>
    have:=h x (by simp)
    cases hq:((x :: t).headD 0 == 47) with
    | false=>rfl
    | true =>
      have e:x = 47:=by simpa using hq
      rw [e,h47] at this;exact absurd this (by decide)
 ·cases hq:(f.getLastD 0 == 47) with
  | false=>rfl
  | true =>
    exfalso
    cases f with
    | nil=>exact absurd hq (by decide)
    | cons x t =>
      have hm:(x :: t).getLastD 0 ∈ (x :: t):=List.getLast_mem (List.cons_ne_nil x t);have:=h _ hm;rw [show (x :: t).getLastD 0 = 47 by simpa using hq,h47] at this;exact absurd this (by decide)
theorem refK_of (f:List UInt8):(kindR f = (0,12)∧refK f = (-1,0))∨∃ (k:Int) (at_:Nat),kindR f = (k,0)∧refK f = (k,at_)∧((k = 0∧at_ = 0)∨(1 ≤ k∧k ≤ 3∧f = f.take at_ ++ markK k ++ f.drop (at_ + (markK k).length)∧Lib.index f (markK k) = at_∧at_ + (markK k).length ≤ f.length)):=by
 by_cases h0:f = []
 ·exact .inl ⟨kindR_bad (bad_empty h0),by unfold refK;rw [if_pos (.inl h0)]⟩
 by_cases h1:64 < f.length
 ·exact .inl ⟨kindR_bad (bad_long h1),by unfold refK;rw [if_pos (.inr h1)]⟩
 rw [refK_in h0 h1]
 have no:∀ m,odd m = 1→odd f = 0→Lib.contains f m = false:=fun m hm hf=>by
  cases hc:Lib.contains f m with
  | false=>rfl
  | true=>obtain ⟨i,-,-,-,h⟩:=odd_mark hm hc;omega
 have bad2:2 ≤ odd f→kindR f = (0,12):=fun h2=>by
  have key:∃ k p,kindP f = (k,p)∧odd p ≠ 0:=by
   unfold kindP
   by_cases c1:Lib.contains f [37,115] = true
   ·obtain ⟨i,e1,-,-,e4⟩:=odd_mark m1 c1;rw [if_pos c1];exact ⟨_,_,rfl,by rw [rep_at (by simp) e1,List.append_nil];have:=e4;simp only [List.length_cons,List.length_nil] at this ⊢;omega⟩
   ·rw [if_neg c1]
    by_cases c2:Lib.contains f [37,122] = true
    ·obtain ⟨i,e1,-,-,e4⟩:=odd_mark m2 c2;rw [if_pos c2];exact ⟨_,_,rfl,by rw [rep_at (by simp) e1,List.append_nil];have:=e4;simp only [List.length_cons,List.length_nil] at this ⊢;omega⟩
    ·rw [if_neg c2]
     by_cases c3:Lib.contains f [47] = true
     ·obtain ⟨i,e1,-,-,e4⟩:=odd_mark m3 c3;rw [if_pos c3];exact ⟨_,_,rfl,by rw [rep_at (by simp) e1,List.append_nil];have:=e4;simp only [List.length_cons,List.length_nil] at this ⊢;omega⟩
     ·rw [if_neg c3];exact ⟨_,_,rfl,by omega⟩
  obtain ⟨k,p,hk,hp⟩:=key;exact kindR_bad (bad_trim hk (fun h=>hp (trim_nil.1 h)))
 rcases (show odd f = 0∨odd f = 1∨2 ≤ odd f by omega) with hN | hN | hN
 ·have hk:kindP f = (0,f):=by unfold kindP;rw [no _ m1 hN,no _ m2 hN,no _ m3 hN];rfl
  refine .inr ⟨0,0,kindR_ok (bad_not hk h0 h1 (edge_not hk (by decide)) (trim_nil.2 hN)) hk,?_,.inl ⟨rfl,rfl⟩⟩;rw [scan_all hN]
 ·have parts:∀ (m:List UInt8) (i:Nat),odd m = 1→f = f.take i ++ m ++ f.drop (i + m.length)→odd (f.take i) = 0∧odd (f.drop (i + m.length)) = 0:=fun m i hm e=>by
   have h:odd f = odd (f.take i) + odd m + odd (f.drop (i + m.length)):=by
    conv=>lhs;rw [e]
    rw [odd_append,odd_append]
   omega
  have scan2:∀ (k:Int) (c:UInt8) (i:Nat),letB c = true→(k = 1∧c = 115∨k = 2∧c = 122)→i + 2 ≤ f.length→f = f.take i ++ [37,c] ++ f.drop (i + [37,c].length)→odd [37,c] = 1→scanR f.length 0 f (0,0) = some (k,i):=fun k c i hc hk hl e ho=>by
   obtain ⟨o1,o2⟩:=parts _ i ho e;have htl:(f.take i).length = i:=by rw [List.length_take];omega
   have hst:scanR f.length 0 f (0,0) = scanR f.length 0 (f.take i ++ (37 :: c :: f.drop (i + [37,c].length))) (0,0):=by
    congr 1
    conv=>lhs;rw [e]
    simp
   have h37:letB 37 = false:=by decide
   have htt:odd (c :: f.drop (i + [37,c].length)) = 0:=by rw [odd_cons,hc,o2];rfl
   rw [hst,scan_letters _ _ _ _ o1,htl,Nat.zero_add,scanR,h37,if_neg (by decide),if_neg (by simp),if_neg (by simp)]
   rcases hk with ⟨rfl,rfl⟩ | ⟨rfl,rfl⟩
   ·rw [if_pos ⟨rfl,rfl⟩];exact scan_all htt
   ·rw [if_neg (by simp),if_pos ⟨rfl,rfl⟩];exact scan_all htt
  by_cases c1:Lib.contains f [37,115] = true
  ·obtain ⟨i,e1,e2,e3,e4⟩:=odd_mark m1 c1;have hk:kindP f = (1,Lib.replace f [37,115] [] 1):=by unfold kindP;rw [if_pos c1]
   refine .inr ⟨1,i,kindR_ok (bad_not hk h0 h1 (edge_not hk (by decide)) (trim_nil.2 (by rw [rep_at (by simp) e1,List.append_nil];omega))) hk,?_,.inr ⟨by decide,by decide,e2,e1,e3⟩⟩;rw [scan2 1 115 i (by decide) (.inl ⟨rfl,rfl⟩) e3 e2 m1]
  ·by_cases c2:Lib.contains f [37,122] = true
   ·obtain ⟨i,e1,e2,e3,e4⟩:=odd_mark m2 c2;have hk:kindP f = (2,Lib.replace f [37,122] [] 1):=by unfold kindP;rw [if_neg c1,if_pos c2]
    refine .inr ⟨2,i,kindR_ok (bad_not hk h0 h1 (edge_not hk (by decide)) (trim_nil.2 (by rw [rep_at (by simp) e1,List.append_nil];omega))) hk,?_,.inr ⟨by decide,by decide,e2,e1,e3⟩⟩;rw [scan2 2 122 i (by decide) (.inr ⟨rfl,rfl⟩) e3 e2 m2]
   ·by_cases c3:Lib.contains f [47] = true
    ·obtain ⟨i,e1,e2,e3,e4⟩:=odd_mark m3 c3;have hk:kindP f = (3,Lib.replace f [47] [] 1):=by unfold kindP;rw [if_neg c1,if_neg c2,if_pos c3]
     obtain ⟨o1,o2⟩:=parts _ i m3 e2;have e3':i + 1 ≤ f.length:=e3;have htl:(f.take i).length = i:=by rw [List.length_take];omega
     have hst:scanR f.length 0 f (0,0) = scanR f.length i (47 :: f.drop (i + [(47:UInt8)].length)) (0,0):=by
      have hst:scanR f.length 0 f (0,0) = scanR f.length 0 (f.take i ++ (47 :: f.drop (i + [(47:UInt8)].length))) (0,0):=by
       congr 1
       conv=>lhs;rw [e2]
       simp
      rw [hst,scan_letters _ _ _ _ o1,htl,Nat.zero_add]
     have h47:letB 47 = false:=by decide
     have htrim:Lib.trimS (Lib.replace f [47] [] 1) abcB = []:=trim_nil.2 (by rw [rep_at (by simp) e1,List.append_nil];omega)
     by_cases hin:0 < i∧i + 1 < f.length
     ·have hedge:edgeB f = false:=by
       unfold edgeB;rw [hk]
       have a1:(f.headD 0 == 47) = false:=by
        have:=(last_ne o1).1;rw [e2]
        cases hti:f.take i with
        | nil=>rw [hti] at htl;simp at htl;omega
        | cons y ys=>rw [hti] at this;simpa using this
       have a2:(f.getLastD 0 == 47) = false:=by
        have:=(last_ne o2).2
        have hne:f.drop (i + [(47:UInt8)].length) ≠ []:=by
         intro h;have h2:=congrArg List.length h;rw [List.length_drop] at h2;simp at h2;omega
        rw [e2]
        cases hti:f.drop (i + [(47:UInt8)].length) with
        | nil=>exact absurd hti hne
        | cons y ys =>
          rw [hti] at this;rw [List.getLastD_eq_getLast?,List.getLast?_append,List.getLast?_eq_some_getLast (by simp),Option.some_or,Option.getD_some];rw [List.getLastD_eq_getLast?,List.getLast?_eq_some_getLast (by simp),Option.getD_some] at this;exact this
       rw [a1,a2]
       rfl
      refine .inr ⟨3,i,kindR_ok (bad_not hk h0 h1 hedge htrim) hk,?_,.inr ⟨by decide,by decide,e2,e1,e3⟩⟩;rw [hst,scanR,h47,if_neg (by decide),if_neg (by simp),if_pos ⟨rfl,hin.1,hin.2⟩,scan_all o2]
     ·refine .inl ⟨kindR_bad (bad_edge ?_),?_⟩
      ·unfold edgeB;rw [hk]
       have:f.headD 0 = 47∨f.getLastD 0 = 47:=by
        by_cases hi0:i = 0
        ·left
         rw [e2,hi0]
         rfl
        ·right
         have hd:f.drop (i + [(47:UInt8)].length) = []:=by
          rw [List.drop_eq_nil_iff]
          show f.length ≤ i + 1
          omega
         rw [e2,hd,List.append_nil,List.getLastD_eq_getLast?,List.getLast?_append]
         rfl
       rcases this with h | h <;> rw [h] <;> simp
      ·rw [hst,scanR,h47,if_neg (by decide),if_neg (by simp),if_neg (fun h=>hin ⟨h.2.1,h.2.2⟩),if_neg (by simp),if_neg (by simp)]
    ·obtain ⟨a,x,t,e,ha,hx⟩:=odd_split (f:=f) (by omega);have hk:kindP f = (0,f):=by unfold kindP;rw [if_neg c1,if_neg c2,if_neg c3]
     refine .inl ⟨kindR_bad (bad_trim hk (fun h=>by rw [trim_nil] at h;omega)),?_⟩;have hst:scanR f.length 0 f (0,0) = scanR f.length 0 (a ++ x :: t) (0,0):=by congr 1
     have n47:x ≠ 47:=fun h=>c3 (by rw [e,h,show a ++ 47 :: t = a ++ [47] ++ t by simp];exact contains_of)
     have n115:¬ (x = 37∧t.head? = some 115):=fun ⟨h,h2⟩=>c1 (by
      cases t with
      | nil=>cases h2
      | cons y ys =>
        have:y = 115:=by simpa using h2
        rw [e,h,this,show a ++ 37 :: 115 :: ys = a ++ [37,115] ++ ys by simp];exact contains_of)
     have n122:¬ (x = 37∧t.head? = some 122):=fun ⟨h,h2⟩=>c2 (by
      cases t with
      | nil=>cases h2
      | cons y ys =>
        have:y = 122:=by simpa using h2
        rw [e,h,this,show a ++ 37 :: 122 :: ys = a ++ [37,122] ++ ys by simp];exact contains_of)
     rw [hst,scan_letters _ _ _ _ ha,scanR,hx,if_neg (by decide),if_neg (by simp),if_neg (fun h=>n47 h.1),if_neg n115,if_neg n122]
 ·exact .inl ⟨bad2 hN,by rw [scan_bad hN]⟩
theorem index_out {f m:List UInt8} (h:Lib.contains f m = false):Lib.index f m = -1:=by
 have hge:=Lib.index_ge f m;unfold Lib.contains at h;rw [decide_eq_false_iff_not] at h;omega
theorem count_out {f m:List UInt8} (hm:odd m = 1) (h:odd f = 0):Lib.count f m = 0:=by
 refine Lib.count_miss (index_out ?_)
 cases hc:Lib.contains f m with
 | false=>rfl
 | true=>obtain ⟨i,-,-,-,h2⟩:=odd_mark hm hc;omega
theorem count_one {f:List UInt8} (h:kindR f = (1,0)):Lib.count f [37,115] ≤ 1:=by
 cases c1:Lib.contains f [37,115] with
 | false=>rw [Lib.count_miss (index_out c1)];omega
 | true =>
   obtain ⟨i,e1,e2,e3,e4⟩:=odd_mark m1 c1;rw [Lib.count_hit (by simp) e1];have hk:kindP f = (1,Lib.replace f [37,115] [] 1):=by unfold kindP;rw [if_pos c1]
   have hb:Lib.trimS (Lib.replace f [37,115] [] 1) abcB = []:=by
    apply Classical.byContradiction;intro hne;rw [kindR_bad (bad_trim hk hne)] at h
    cases h
   rw [trim_nil,rep_at (by simp) e1,List.append_nil,odd_append] at hb;rw [count_out m1 (by omega)];omega
end
end Go.Proofs.YteekjfgjmccdnaaGreatDoor
