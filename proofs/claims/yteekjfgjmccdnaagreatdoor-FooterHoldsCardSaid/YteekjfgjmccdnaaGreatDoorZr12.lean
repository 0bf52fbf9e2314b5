/-
  Layer 14's Make at any zone, walked.
-/
import Derived.Lib.MinMax
import Derived.Test.YteekjfgjmccdnaaGreatDoorZr11
set_option maxHeartbeats 16000000
set_option maxRecDepth 100000
namespace Go.Proofs.YteekjfgjmccdnaaGreatDoor
section -- HSpecM
open Go Go.RowKit Go.Shelf
def RiseC:List Chg→Prop:=List.Pairwise fun c d=>c.at_ < d.at_
structure Wk (g:Int→Loc) (a b:Int) (L:List Chg):Prop where
 rise:RiseC L
 mem:∀ c ∈ L,(a < c.at_∧c.at_ ≤ b)∧c.loc = g c.at_
 all:∀ i,a < i→i ≤ b→g i ≠ g (i - 1)→∃ c ∈ L,c.at_ = i
structure Rep (g:Int→Loc) (a b:Int) (L:List Chg):Prop where
 wk:Wk g a b L
 turn:∀ c ∈ L,g c.at_ ≠ g (c.at_ - 1)
theorem wk_nil {g:Int→Loc} {a b:Int} (h:b ≤ a):Wk g a b [] where
 rise:=List.Pairwise.nil
 mem:=fun c hc=>by cases hc
 all:=fun i h1 h2 _=>by omega
theorem Wk.append {g:Int→Loc} {a b c:Int} {L M:List Chg} (h:Wk g a b L) (h2:Wk g (max a b) c M) (hbc:b ≤ c):Wk g a c (L ++ M) where
 rise:=List.pairwise_append.2 ⟨h.rise,h2.rise,fun x hx y hy=>by
  have:=(h.mem x hx).1
  have:=(h2.mem y hy).1
  omega⟩
 mem:=fun x hx=>by
  rcases List.mem_append.1 hx with hx | hx
  ·have:=h.mem x hx;exact ⟨⟨by omega,by omega⟩,this.2⟩
  ·have:=h2.mem x hx;exact ⟨⟨by omega,by omega⟩,this.2⟩
 all:=fun i h3 h4 ht=>by
  by_cases hi:i ≤ b
  ·obtain ⟨x,hx,e⟩:=h.all i h3 hi ht;exact ⟨x,List.mem_append_left _ hx,e⟩
  ·obtain ⟨x,hx,e⟩:=h2.all i (by omega) h4 ht;exact ⟨x,List.mem_append_right _ hx,e⟩
theorem Wk.congr {g g':Int→Loc} {a b:Int} {L:List Chg} (h:Wk g a b L) (hg:∀ i,a ≤ i→i ≤ b→g i = g' i):Wk g' a b L where
 rise:=h.rise
 mem:=fun c hc=>by
  have:=h.mem c hc;exact ⟨this.1,by rw [this.2,hg _ (by omega) (by omega)]⟩
 all:=fun i h1 h2 ht=>h.all i h1 h2 (by rw [hg i (by omega) h2,hg (i - 1) (by omega) (by omega)];exact ht)
theorem still_of {g:Int→Loc} {a b:Int} (h:∀ i,a < i→i ≤ b→g i = g (i - 1)):∀ (n:Nat),a + n ≤ b→g (a + n) = g a
 | 0,_=>by rw [show a + ((0:Nat):Int) = a by omega]
 | n + 1,hn=>by
   rw [h _ (by omega) hn,show a + ((n + 1:Nat):Int) - 1 = a + n by omega];exact still_of h n (by omega)
theorem Wk.head_still {g:Int→Loc} {a b:Int} {c:Chg} {t:List Chg} (h:Wk g a b (c :: t)):g (c.at_ - 1) = g a:=by
 have hc:=(h.mem c List.mem_cons_self).1
 have h2:=still_of (g:=g) (a:=a) (b:=c.at_ - 1) (fun i h1 h2=>Classical.byContradiction fun ht=>by
  obtain ⟨d,hd,e⟩:=h.all i h1 (by omega) ht
  rcases List.mem_cons.1 hd with rfl | hd
  ·omega
  ·have:=(List.pairwise_cons.1 h.rise).1 d hd
   omega) (c.at_ - 1 - a).toNat (by omega)
 rw [← h2]
 congr 1
 omega
theorem Wk.tail {g:Int→Loc} {a b:Int} {c:Chg} {t:List Chg} (h:Wk g a b (c :: t)):Wk g c.at_ b t where
 rise:=(List.pairwise_cons.1 h.rise).2
 mem:=fun d hd=>by
  have h1:=(List.pairwise_cons.1 h.rise).1 d hd;have h2:=h.mem d (List.mem_cons_of_mem _ hd);exact ⟨⟨h1,h2.1.2⟩,h2.2⟩
 all:=fun i h1 h2 ht=>by
  have hc:=(h.mem c List.mem_cons_self).1;obtain ⟨d,hd,e⟩:=h.all i (by omega) h2 ht
  rcases List.mem_cons.1 hd with rfl | hd
  ·omega
  ·exact ⟨d,hd,e⟩
theorem dropF_rep {g:Int→Loc} {b:Int}:∀ {L:List Chg} {a:Int},Wk g a b L→Rep g a b (dropF (g a) L)
 | [],a,h=>⟨h,fun c hc=>by cases hc⟩
 | c :: t,a,h=>by
   have hst:=h.head_still;have hc:=h.mem c List.mem_cons_self;have ih:=dropF_rep h.tail;rw [← hc.2] at ih
   have hgap:∀ i,a < i→i ≤ b→g i ≠ g (i - 1)→i = c.at_∨c.at_ < i:=fun i h1 h2 ht=>by
    obtain ⟨d,hd,e⟩:=h.all i h1 h2 ht
    rcases List.mem_cons.1 hd with rfl | hd
    ·exact .inl e.symm
    ·have:=(List.pairwise_cons.1 h.rise).1 d hd;omega
   cases he:locE c.loc (g a) with
   | true =>
     have e:=locE_iff.1 he;rw [dropF_same he];rw [e] at ih;refine ⟨⟨ih.wk.rise,fun d hd=>?_,fun i h1 h2 ht=>?_⟩,ih.turn⟩
     ·have:=ih.wk.mem d hd;exact ⟨⟨by omega,this.1.2⟩,this.2⟩
     ·rcases hgap i h1 h2 ht with rfl | h3
      ·exact absurd (by rw [← hc.2,hst,e]) ht
      ·exact ih.wk.all i h3 h2 ht
   | false =>
     have e:c.loc ≠ g a:=fun e=>by rw [locE_iff.2 e] at he;cases he
     rw [dropF_turn he];refine ⟨⟨List.pairwise_cons.2 ⟨fun d hd=>(ih.wk.mem d hd).1.1,ih.wk.rise⟩,fun d hd=>?_,fun i h1 h2 ht=>?_⟩,fun d hd=>?_⟩
     ·rcases List.mem_cons.1 hd with rfl | hd
      ·exact hc
      ·have:=ih.wk.mem d hd;exact ⟨⟨by omega,this.1.2⟩,this.2⟩
     ·rcases hgap i h1 h2 ht with rfl | h3
      ·exact ⟨c,List.mem_cons_self,rfl⟩
      ·obtain ⟨d,hd,e2⟩:=ih.wk.all i h3 h2 ht;exact ⟨d,List.mem_cons_of_mem _ hd,e2⟩
     ·rcases List.mem_cons.1 hd with rfl | hd
      ·rw [hst,← hc.2];exact e
      ·exact ih.turn d hd
theorem Rep.uniq {g:Int→Loc} {b:Int}:∀ {L M:List Chg} {a:Int},Rep g a b L→Rep g a b M→L = M
 | [],[],_,_,_=>rfl
 | [],d :: u,_,h,h2=>by
   have hd:=h2.wk.mem d List.mem_cons_self;obtain ⟨x,hx,-⟩:=h.wk.all d.at_ hd.1.1 hd.1.2 (h2.turn d List.mem_cons_self)
   cases hx
 | c :: t,[],_,h,h2=>by
   have hd:=h.wk.mem c List.mem_cons_self;obtain ⟨x,hx,-⟩:=h2.wk.all c.at_ hd.1.1 hd.1.2 (h.turn c List.mem_cons_self)
   cases hx
 | c :: t,d :: u,a,h,h2=>by
   have hc:=h.wk.mem c List.mem_cons_self;have hd:=h2.wk.mem d List.mem_cons_self
   have e:c.at_ = d.at_:=by
    obtain ⟨x,hx,ex⟩:=h.wk.all d.at_ hd.1.1 hd.1.2 (h2.turn d List.mem_cons_self);obtain ⟨y,hy,ey⟩:=h2.wk.all c.at_ hc.1.1 hc.1.2 (h.turn c List.mem_cons_self)
    have h3:c.at_ ≤ x.at_:=by
     rcases List.mem_cons.1 hx with rfl | hx
     ·exact Int.le_refl _
     ·exact Int.le_of_lt ((List.pairwise_cons.1 h.wk.rise).1 x hx)
    have h4:d.at_ ≤ y.at_:=by
     rcases List.mem_cons.1 hy with rfl | hy
     ·exact Int.le_refl _
     ·exact Int.le_of_lt ((List.pairwise_cons.1 h2.wk.rise).1 y hy)
    omega
   have e2:c = d:=by
    obtain ⟨ca,cl⟩:=c;obtain ⟨da,dl⟩:=d;simp only at e hc hd;subst e;rw [hc.2,hd.2]
   subst e2;have h5:Rep g c.at_ b t:=⟨h.wk.tail,fun x hx=>h.turn x (List.mem_cons_of_mem _ hx)⟩;have h6:Rep g c.at_ b u:=⟨h2.wk.tail,fun x hx=>h2.turn x (List.mem_cons_of_mem _ hx)⟩;rw [h5.uniq h6]
theorem dropF_append:∀ (L:List Chg) (now:Loc) (M:List Chg),∃ now',dropF now (L ++ M) = dropF now L ++ dropF now' M
 | [],now,M=>⟨now,rfl⟩
 | c :: t,now,M=>by
   rw [List.cons_append]
   cases h:locE c.loc now with
   | true =>
     rw [dropF_same h,dropF_same h];exact dropF_append t now M
   | false =>
     rw [dropF_turn h,dropF_turn h];obtain ⟨n',e⟩:=dropF_append t c.loc M;exact ⟨n',by rw [e];rfl⟩
theorem dropF_sub:∀ {L:List Chg} {now:Loc} {c:Chg},c ∈ dropF now L→c ∈ L
 | [],_,_,h=>h
 | d :: t,now,c,h=>by
   cases he:locE d.loc now with
   | true =>
     rw [dropF_same he] at h;exact List.mem_cons_of_mem _ (dropF_sub h)
   | false =>
     rw [dropF_turn he] at h
     rcases List.mem_cons.1 h with rfl | h
     ·exact List.mem_cons_self
     ·exact List.mem_cons_of_mem _ (dropF_sub h)
end
section -- HSpecZ
open Go Go.RowKit Go.Shelf
theorem getD_atZ {E:List Int} {j:Nat} (hj:j < E.length):E.getD j 0 = E[j]:=by rw [List.getD_eq_getElem?_getD,List.getElem?_eq_getElem hj];rfl
theorem eraI_ltZ {E:List Int} {i:Int} (h:eraI E i < E.length):i < E[eraI E i]:=of_decide_eq_true (List.findIdx_getElem (w:=h))
theorem eraI_noZ {E:List Int} {i:Int} {j:Nat} (h:j < eraI E i) (hj:j < E.length):¬ i < E[j]:=by
 have:=List.not_of_lt_findIdx (p:=fun n=>decide (i < n)) (xs:=E) h;simpa using this
section
variable {l:List Rul} {A:List Fir}
theorem RightR.saved (h:RightR l A) (f:Fir):-90000 < savedF l f∧savedF l f < 90000:=by
 unfold savedF
 cases hg:aheadF l f.nominal with
 | none=>exact (by decide:(-90000:Int) < 0∧(0:Int) < 90000)
 | some g=>exact h.save_all (ahead_mem hg).1
theorem firedN_low (h:RightR l A) {off fr to:Int} (ho:-90000 < off∧off < 90000):∀ (n:Nat) (o:Option Fir) (s:Int),(∀ f,o = some f→s ≤ f.nominal)→∀ y ∈ firedN l off fr to n o,s - 179998 ≤ y.1
 | 0,_,_,_,y,hy=>by cases hy
 | _ + 1,none,_,_,y,hy=>by cases hy
 | n + 1,some f,s,hs,y,hy=>by
   have h1:=hs f rfl;have h2:=instF_in (f:=f) ho (h.saved f);have ih:=firedN_low h (fr:=fr) (to:=to) ho n (behindF l (f.nominal + 1)) s (fun g hg=>by have:=(behind_mem hg).2;omega) y;unfold firedN at hy
   split at hy
   ·split at hy
    ·exact ih hy
    ·rcases List.mem_cons.1 hy with rfl | hy
     ·show s - 179998 ≤ instF f off (savedF l f)
      omega
     ·exact ih hy
   ·cases hy
theorem segA_in {off fr to:Int} {j n:Nat} {y:Int × Fir} (h:y ∈ segA A off fr to j n):∃ i,j ≤ i∧i < j + n∧∃ hi:i < A.length,y = (instA A off i,A[i])∧fr < instA A off i∧instA A off i ≤ to:=by
 unfold segA at h;obtain ⟨i,hi,e⟩:=List.mem_filterMap.1 h;rw [List.mem_range'_1] at hi
 split at e
 ·rename_i hc;obtain ⟨f,hf,rfl⟩:=Option.map_eq_some_iff.1 e;obtain ⟨hl,rfl⟩:=List.getElem?_eq_some_iff.1 hf;exact ⟨i,hi.1,by omega,hl,rfl,hc⟩
 ·cases e
theorem segA_has {off fr to:Int} {j n i:Nat} (hi:i < A.length) (h1:j ≤ i) (h2:i < j + n) (h3:fr < instA A off i) (h4:instA A off i ≤ to):(instA A off i,A[i]) ∈ segA A off fr to j n:=by
 unfold segA;refine List.mem_filterMap.2 ⟨i,List.mem_range'_1.2 ⟨h1,by omega⟩,?_⟩;rw [if_pos ⟨h3,h4⟩,List.getElem?_eq_getElem hi]
 rfl
theorem segA_rise (h:RightR l A) {off fr to:Int} (ho:-90000 < off∧off < 90000):∀ (n j:Nat),(segA A off fr to j n).Pairwise fun x y=>x.1 < y.1
 | 0,_=>List.Pairwise.nil
 | n + 1,j=>by
   rw [segA_succ];refine List.pairwise_append.2 ⟨?_,segA_rise h ho n (j + 1),fun x hx y hy=>?_⟩
   ·split
    ·exact List.pairwise_singleton _ _
    ·exact List.Pairwise.nil
   ·split at hx
    ·rename_i z e;have hxz:=List.mem_singleton.1 hx
     split at e
     ·obtain ⟨f,hf,rfl⟩:=Option.map_eq_some_iff.1 e;obtain ⟨i,i1,-,hi,rfl,-⟩:=segA_in hy;rw [hxz];exact h.inst_lt ho (show j < i by omega) hi
     ·cases e
    ·cases hx
theorem firedN_cut (h:RightR l A) {off fr b T:Int} (ho:-90000 < off∧off < 90000) (hb:b + 180000 < capN) (hbT:b ≤ T):∀ (n j:Nat) (o:Option Fir),CurA A j o→A.length - j < n→∃ F,firedN l off fr T n o = segA A off fr b j (A.length - j) ++ F∧∀ y ∈ F,b < y.1
 | 0,j,o,_,hn=>absurd hn (by omega)
 | n + 1,j,o,hcur,hn=>by
   rcases hcur with ⟨hj,hcap,rfl⟩ | ⟨hfar,hout⟩
   ·have hin:=h.inst_in ho hj;have hs:=saved_row h hj (by omega) (h.low (List.getElem_mem _));have hnext:CurA A (j + 1) (behindF l (A[j].nominal + 1)):=behind_cur h (cut_behind h hj) (by have:=h.low (List.getElem_mem hj);omega) (by omega);obtain ⟨F,hF,hF2⟩:=firedN_cut (fr:=fr) h ho hb hbT n (j + 1) _ hnext (by omega);rw [show A.length - j = (A.length - (j + 1)) + 1 by omega,segA_succ,List.getElem?_eq_getElem hj];unfold firedN;rw [hs,← instA_at hj,hF]
    have hno:¬ instA A off j ≤ b→segA A off fr b (j + 1) (A.length - (j + 1)) = []:=fun hlt=>segA_nil (fun i hi hl=>by
     have h1:=h.inst_lt ho (show j < i by omega) hl
     omega)
    by_cases hle:A[j].nominal ≤ T + 180000
    ·rw [if_pos hle]
     by_cases hout:instA A off j ≤ fr∨T < instA A off j
     ·rw [if_pos hout,if_neg (by omega)];exact ⟨F,rfl,hF2⟩
     ·rw [if_neg hout]
      by_cases hbb:instA A off j ≤ b
      ·rw [if_pos (by omega)];exact ⟨F,rfl,hF2⟩
      ·rw [if_neg (by omega),hno hbb]
       exact ⟨(instA A off j,A[j]) :: F,rfl,fun y hy=>by
        rcases List.mem_cons.1 hy with rfl | hy
        ·show b < instA A off j
         omega
        ·exact hF2 y hy⟩
    ·rw [if_neg hle,if_neg (by omega),hno (by omega)];exact ⟨[],rfl,fun y hy=>by cases hy⟩
   ·rw [segA_nil (fun i hi hl=>by
     have h1:=h.inst_in ho hl
     by_cases e:i = j
     ·subst e;have:=hfar hl;omega
     ·have h2:=h.rise (show j < i by omega) hl
      have h3:=hfar (by omega)
      omega)]
    exact ⟨_,rfl,fun y hy=>by
     have:=firedN_low h ho (n + 1) o capN hout y hy
     omega⟩
theorem fired_cut (h:RightR l A) {off fr b T:Int} (ho:-90000 < off∧off < 90000) (h1:-3217862419200 ≤ fr - 180000) (h2:fr ≤ b) (hb:b + 180000 < capN) (hbT:b ≤ T):∃ F,firedF l off fr T = segA A off fr b 0 A.length ++ F∧∀ y ∈ F,b < y.1:=by
 obtain ⟨k,hk⟩:=h.cut (fr - 180000)
 have hlen:A.length - k < (T + 180001 + farN).toNat:=by
  have hcap:=row_few h;unfold farN;omega
 obtain ⟨F,hF,hF2⟩:=firedN_cut (fr:=fr) h ho hb hbT _ k _ (behind_cur h hk h1 (by omega)) hlen;refine ⟨F,?_,hF2⟩;unfold firedF;rw [hF]
 have hsplit:∀ (m j:Nat),(∀ i,i < m→i + j < A.length→¬ (fr < instA A off (i + j)∧instA A off (i + j) ≤ b))→∀ n,segA A off fr b j (m + n) = segA A off fr b (j + m) n:=by
  intro m
  induction m with
  | zero=>intro j _ n;rw [Nat.zero_add];rfl
  | succ m ih =>
    intro j hj n;rw [show m + 1 + n = (m + n) + 1 by omega,segA_succ,ih (j + 1) (fun i hi hl=>by have:=hj (i + 1) (by omega) (by omega);rwa [show i + 1 + j = i + (j + 1) by omega] at this) n,show j + 1 + m = j + (m + 1) by omega]
    by_cases hl:j < A.length
    ·have:=hj 0 (by omega) (by omega);rw [Nat.zero_add] at this;rw [if_neg this]
     rfl
    ·rw [List.getElem?_eq_none (by omega),Option.map_none,ite_self]
     rfl
 have:=hsplit k 0 (fun i hi hl=>by
  have hl2:i < A.length:=by omega
  have g:=(hk.2 i hl2).1 hi
  have e:=h.inst_in ho hl2
  rw [nomA_at hl2] at g
  rw [Nat.add_zero]
  omega) (A.length - k)
 rw [show k + (A.length - k) = A.length by have:=hk.1;omega,Nat.zero_add] at this;rw [this]
end
theorem locW_still {x:EraF} {R:List Rul} {A:List Fir} (h:RightR R A) (ho:-90000 < x.n.off∧x.n.off < 90000) {i:Int} (h1:-3217862419200 < i) (h2:i + 180001 ≤ capN) (hno:∀ j,j < A.length→instA A x.n.off j ≠ i):locW x R i = locW x R (i - 1):=by
 obtain ⟨k,hc⟩:=h.icut ho (i + 1)
 have hc2:Cut A (instA A x.n.off) (i - 1 + 1) k:=⟨hc.1,fun j hj=>by
  have:=hc.2 j hj
  have:=hno j hj
  omega⟩
 have e:savesV x.n x.ru R i = savesV x.n x.ru R (i - 1):=by
  unfold savesV
  split
  ·rfl
  ·rw [latest_row h ho (by omega) h2 hc,latest_row h ho (by omega) (by omega) hc2]
 unfold locW;rw [e]
theorem turnsF_cut {x:EraF} {R:List Rul}:∀ (F:List (Int × Fir)) (now:Chg) (G:List (Int × Fir)),(∀ y ∈ F,y.1 ≤ 60000000000)→∃ now',turnsF x R now (F ++ G) = dropF now.loc (F.map fun y=>⟨y.1,locW x R y.1⟩) ++ turnsF x R now' G
 | [],now,G,_=>⟨now,rfl⟩
 | y :: t,now,G,h=>by
   have hy:=h y List.mem_cons_self;rw [List.cons_append,List.map_cons]
   cases he:locE (locW x R y.1) now.loc with
   | true =>
     rw [turnsF_same he (by omega),dropF_same he];exact turnsF_cut t now G fun z hz=>h z (List.mem_cons_of_mem _ hz)
   | false =>
     rw [turnsF_turn he,dropF_turn he];obtain ⟨n',e⟩:=turnsF_cut t ⟨y.1,locW x R y.1⟩ G fun z hz=>h z (List.mem_cons_of_mem _ hz)
     exact ⟨n',by rw [e];rfl⟩
theorem turnsF_sub {x:EraF} {R:List Rul}:∀ {F:List (Int × Fir)} {now c:Chg},c ∈ turnsF x R now F→∃ y ∈ F,c.at_ = y.1
 | [],_,_,h=>by cases h
 | y :: t,now,c,h=>by
   cases he:locE (locW x R y.1) now.loc with
   | true =>
     by_cases h2:max now.at_ 64060588800 + 12680582400 < y.1
     ·rw [turnsF_end he h2] at h
      cases h
     ·rw [turnsF_same he h2] at h;obtain ⟨z,hz,e⟩:=turnsF_sub h;exact ⟨z,List.mem_cons_of_mem _ hz,e⟩
   | false =>
     rw [turnsF_turn he] at h
     rcases List.mem_cons.1 h with rfl | h
     ·exact ⟨y,List.mem_cons_self,rfl⟩
     ·obtain ⟨z,hz,e⟩:=turnsF_sub h;exact ⟨z,List.mem_cons_of_mem _ hz,e⟩
theorem turnsL_cut {x:EraF} {R:List Rul} {A:List Fir} (h:RightR R A) (ho:-90000 < x.n.off∧x.n.off < 90000) {fr b T:Int} (h1:-2199023255553 ≤ fr) (hb:b ≤ 4200000000) (hbT:b ≤ T) :
  ∃ P Q,turnsL x R fr T = P ++ Q∧Wk (locW x R) fr b P∧∀ c ∈ Q,b < c.at_:=by
 by_cases hfb:fr ≤ b
 ·obtain ⟨F,hF,hF2⟩:=fired_cut h ho (by omega) hfb (by unfold capN;omega) hbT;unfold turnsL;rw [hF]
  obtain ⟨n',e⟩:=turnsF_cut (x:=x) (R:=R) (segA A x.n.off fr b 0 A.length) ⟨fr,locW x R fr⟩ F (fun y hy=>by
   obtain ⟨i,-,-,hi,rfl,-,h4⟩:=segA_in hy
   show instA A x.n.off i ≤ 60000000000
   omega)
  refine ⟨_,_,e,(dropF_rep ⟨?_,fun c hc=>?_,fun i h3 h4 ht=>?_⟩).wk,fun c hc=>?_⟩
  ·unfold RiseC;rw [List.pairwise_map];exact segA_rise h ho _ _
  ·obtain ⟨y,hy,rfl⟩:=List.mem_map.1 hc;obtain ⟨i,-,-,hi,rfl,h3,h4⟩:=segA_in hy;exact ⟨⟨h3,h4⟩,rfl⟩
  ·have hex:∃ j,j < A.length∧instA A x.n.off j = i:=Classical.byContradiction fun hn=>ht (locW_still h ho (by omega) (by unfold capN;omega) fun j hj e=>hn ⟨j,hj,e⟩)
   obtain ⟨j,hj,rfl⟩:=hex;exact ⟨⟨instA A x.n.off j,locW x R (instA A x.n.off j)⟩,List.mem_map.2 ⟨(instA A x.n.off j,A[j]),segA_has hj (by omega) (by omega) h3 h4,rfl⟩,rfl⟩
  ·obtain ⟨y,hy,e⟩:=turnsF_sub hc;rw [e];exact hF2 y hy
 ·refine ⟨[],turnsL x R fr T,rfl,wk_nil (by omega),fun c hc=>?_⟩;obtain ⟨y,hy,e⟩:=turnsF_sub hc;have:=firedF_in hy;omega
theorem turnsL_in {x:EraF} {R:List Rul} {fr T:Int} {c:Chg} (h:c ∈ turnsL x R fr T):fr < c.at_∧c.at_ ≤ T:=by
 obtain ⟨y,hy,e⟩:=turnsF_sub h;rw [e];exact firedF_in hy
theorem endLoop_save {m:Int}:∀ {xs:List (Int × Fir)} {sv:Int},(-90000 < sv∧sv < 90000)→(∀ x ∈ xs,-90000 < x.2.save∧x.2.save < 90000)→-90000 < endLoop m sv xs∧endLoop m sv xs < 90000
 | [],_,h,_=>h
 | x :: t,sv,h,h2=>by
   unfold endLoop
   split
   ·exact h
   ·exact endLoop_save (h2 x List.mem_cons_self) fun y hy=>h2 y (List.mem_cons_of_mem _ hy)
theorem endSave_few {R:List Rul} {A:List Fir} (h:RightR R A) (off n:Int):-90000 < endSave R off n∧endSave R off n < 90000:=by
 unfold endSave;refine endLoop_save ?_ fun x hx=>h.save_all (firedF_mem hx)
 cases hl:latestF R off (n - 360000) with
 | none=>exact (by decide:(-90000:Int) < 0∧(0:Int) < 90000)
 | some f=>exact h.save_all (latestF_mem hl)
structure FewZ (S:List SetF) (l:List EraF):Prop where
 err:errZ S l = 0
 few:fewB l S = true
section
variable {S:List SetF} {l:List EraF}
theorem FewZ.right (h:FewZ S l) (x:EraF):∃ A,RightR (ruleE S x) A:=by
 obtain ⟨A,hA,-,-⟩:=right_yes (rule_right (fewB_iff.1 h.few).2.1 x);exact ⟨A,hA⟩
theorem FewZ.pos (h:FewZ S l):0 < l.length:=by
 have:=(errZ_zero h.err).1;omega
theorem FewZ.off (h:FewZ S l) {k:Nat} (hk:k < l.length):-90000 < l[k].n.off∧l[k].n.off < 90000:=(errZ_off h.err hk).1
theorem FewZ.ends (h:FewZ S l):∀ e ∈ endL S l,-2501000000 ≤ e∧e ≤ 4001000000:=by
 intro e he;obtain ⟨i,hi,rfl⟩:=List.getElem_of_mem he;have hil:=hi;rw [length_endL] at hil;obtain ⟨h0,-,hat,-⟩:=errZ_zero h.err;have hE:=endL_at (S:=S) (l:=l) (i:=i) (by omega);rw [List.getElem?_eq_getElem hi] at hE;have hE:=Option.some.inj hE;have her:=hat i (by omega);rw [errAt_eq (by omega),decide_eq_false (by omega)] at her;obtain ⟨-,hof,hsv,hen,-,hno⟩:=errE_zero her;have hn:=nomV_in (hno hen);have hok:=eraFew_end ((fewB_iff.1 h.few).1 l[i] (List.getElem_mem _)) hen
 have hnm:-2500000000 ≤ nomV l[i].n∧nomV l[i].n ≤ 4000000000:=by
  rcases hok.nom_in with g | g
  ·exact g
  ·rw [← hok.nomB_eq hn.2.2,hno hen] at g
   cases g
 obtain ⟨A,hA⟩:=h.right l[i];have hsv2:=endSave_few hA l[i].n.off (nomV l[i].n);rw [hE];unfold endN
 split
 ·omega
 ·split
  ·omega
  ·split <;> omega
theorem FewZ.lt (h:FewZ S l):∀ (d i:Nat),i + d + 1 < (endL S l).length→(endL S l).getD i 0 < (endL S l).getD (i + d + 1) 0
 | 0,i,hj=>riseI_iff.1 (errZ_zero h.err).2.2.2 i hj
 | d + 1,i,hj=>by
   have h1:=h.lt d i (by omega);have h2:=riseI_iff.1 (errZ_zero h.err).2.2.2 (i + d + 1) hj;rw [show i + (d + 1) + 1 = i + d + 1 + 1 by omega];omega
theorem FewZ.mono (h:FewZ S l) {i j:Nat} (hij:i < j) (hj:j < (endL S l).length):(endL S l)[i] < (endL S l)[j]:=by
 have:=h.lt (j - i - 1) i (by omega);rw [show i + (j - i - 1) + 1 = j by omega,getD_atZ (by omega),getD_atZ hj] at this;exact this
theorem FewZ.to_lt (h:FewZ S l) (k:Nat) (hk:k < l.length):fromV (endL S l) k < toV (endL S l) k:=by
 have hle:=length_endL S l
 have hto:∀ (j:Nat),-2501000000 ≤ toV (endL S l) j:=fun j=>by
  by_cases hj:j < (endL S l).length
  ·rw [toV_at hj];exact (h.ends _ (List.getElem_mem _)).1
  ·rw [toV_out (by omega)];omega
 unfold fromV
 split
 ·have:=hto k;omega
 ·rw [toV_at (show k - 1 < (endL S l).length by omega)]
  by_cases hj:k < (endL S l).length
  ·rw [toV_at hj];exact h.mono (by omega) hj
  ·rw [toV_out (by omega)];have:=(h.ends _ (List.getElem_mem (show k - 1 < (endL S l).length by omega))).2;omega
theorem FewZ.era (h:FewZ S l) {k:Nat} (hk:k < l.length) {i:Int} (h1:fromV (endL S l) k ≤ i) (h2:i < toV (endL S l) k):eraI (endL S l) i = k:=by
 have hle:=length_endL S l
 have hno:∀ j (hj:j < (endL S l).length),j < k→¬ i < (endL S l)[j]:=fun j hj hjk=>by
  unfold fromV at h1;rw [if_neg (by omega),toV_at (show k - 1 < (endL S l).length by omega)] at h1
  by_cases e:j = k - 1
  ·subst e;omega
  ·have:=h.mono (show j < k - 1 by omega) (show k - 1 < (endL S l).length by omega);omega
 by_cases hj:k < (endL S l).length
 ·rw [toV_at hj] at h2;exact eraI_at hj hno h2
 ·rw [eraI_none (fun j hj2=>hno j hj2 (by omega))];omega
theorem FewZ.loc (h:FewZ S l) {k:Nat} (hk:k < l.length) {i:Int} (h1:fromV (endL S l) k ≤ i) (h2:i < toV (endL S l) k) (h3:-2199023255552 ≤ i) (h4:i ≤ 2199023255552):locZ S l i = locW l[k] (ruleE S l[k]) i:=by
 have hax:atX S l i = l[k]:=by unfold atX;rw [h.era hk h1 h2,List.getD_eq_getElem?_getD,List.getElem?_eq_getElem hk];rfl
 unfold locZ;rw [if_neg (fun e=>e h.err),if_neg (by omega),hax]
theorem eraT_mem {fr T:Int} {k:Nat} {c:Chg} (hlt:fromV (endL S l) k < toV (endL S l) k) (hc:c ∈ eraT S l fr T k):(fr < c.at_∧fromV (endL S l) k ≤ c.at_)∧c.at_ ≤ T∧c.at_ < toV (endL S l) k:=by
 unfold eraT at hc
 split at hc
 ·cases hc
 ·rcases List.mem_append.1 hc with hc | hc
  ·split at hc
   ·rw [List.mem_singleton] at hc;subst hc
    show (fr < fromV (endL S l) k∧fromV (endL S l) k ≤ fromV (endL S l) k)∧fromV (endL S l) k ≤ T∧fromV (endL S l) k < toV (endL S l) k
    omega
   ·cases hc
  ·have:=turnsL_in hc;omega
theorem eraT_cut (h:FewZ S l) {fr to T:Int} (hfr:-2199023255552 ≤ fr) (hto:to ≤ 4200000000) (hT:to ≤ T) {k:Nat} (hk:k < l.length) :
  ∃ P Q,eraT S l fr T k = P ++ Q∧Wk (locZ S l) (max fr (min to (fromV (endL S l) k - 1))) (min to (toV (endL S l) k - 1)) P∧(∀ c ∈ Q,to < c.at_):=by
 have hlt:=h.to_lt k hk;have hmem:=fun c (hc:c ∈ eraT S l fr T k)=>eraT_mem hlt hc
 by_cases h1:to < fromV (endL S l) k
 ·exact ⟨[],eraT S l fr T k,rfl,wk_nil (by omega),fun c hc=>by have:=hmem c hc;omega⟩
 ·by_cases h2:to ≤ fr
  ·exact ⟨[],eraT S l fr T k,rfl,wk_nil (by omega),fun c hc=>by have:=hmem c hc;omega⟩
  ·by_cases h3:toV (endL S l) k - 1 ≤ fr
   ·exact ⟨[],[],eraT_skip (.inl h3),wk_nil (by omega),fun c hc=>by cases hc⟩
   ·obtain ⟨A,hA⟩:=h.right l[k];have hgx:l.getD k default = l[k]:=by rw [List.getD_eq_getElem?_getD,List.getElem?_eq_getElem hk];rfl
    obtain ⟨P,Q,e,hP,hQ⟩:=turnsL_cut hA (h.off hk) (fr:=max fr (fromV (endL S l) k)) (b:=min to (toV (endL S l) k - 1)) (T:=min T (toV (endL S l) k - 1)) (by omega) (by omega) (by omega)
    have hQ2:∀ c ∈ Q,to < c.at_:=fun c hc=>by
     have g:=hQ c hc;have g2:=turnsL_in (show c ∈ turnsL l[k] (ruleE S l[k]) (max fr (fromV (endL S l) k)) (min T (toV (endL S l) k - 1)) by rw [e];exact List.mem_append_right _ hc);omega
    by_cases h4:fr < fromV (endL S l) k
    ·rw [eraT_at (by omega) h4,hgx,e];refine ⟨⟨fromV (endL S l) k,locW l[k] (ruleE S l[k]) (fromV (endL S l) k)⟩ :: P,Q,rfl,?_,hQ2⟩
     have hP2:Wk (locZ S l) (fromV (endL S l) k) (min to (toV (endL S l) k - 1)) P:=by
      rw [show max fr (fromV (endL S l) k) = fromV (endL S l) k by omega] at hP;exact hP.congr fun i i1 i2=>(h.loc hk i1 (by omega) (by omega) (by omega)).symm
     have h5:Wk (locZ S l) (max fr (min to (fromV (endL S l) k - 1))) (fromV (endL S l) k) [⟨fromV (endL S l) k,locW l[k] (ruleE S l[k]) (fromV (endL S l) k)⟩]:=by
      refine ⟨List.pairwise_singleton _ _,fun c hc=>?_,fun i i1 i2 _=>?_⟩
      ·rw [List.mem_singleton] at hc;subst hc;refine ⟨?_,(h.loc hk (Int.le_refl _) hlt (by omega) (by omega)).symm⟩
       show max fr (min to (fromV (endL S l) k - 1)) < fromV (endL S l) k∧fromV (endL S l) k ≤ fromV (endL S l) k
       omega
      ·exact ⟨_,List.mem_singleton.2 rfl,show fromV (endL S l) k = i by omega⟩
     have h6:=h5.append (M:=P) (c:=min to (toV (endL S l) k - 1)) (by rw [show max (max fr (min to (fromV (endL S l) k - 1))) (fromV (endL S l) k) = fromV (endL S l) k by omega];exact hP2) (by omega);exact h6
    ·rw [eraT_in (by omega) h4,hgx,e];refine ⟨P,Q,rfl,?_,hQ2⟩;rw [show max fr (fromV (endL S l) k) = fr by omega] at hP;rw [show max fr (min to (fromV (endL S l) k - 1)) = fr by omega];exact hP.congr fun i i1 i2=>(h.loc hk (by omega) (by omega) (by omega) (by omega)).symm
theorem stepsL_cut (h:FewZ S l) {fr to T:Int} (hfr:-2199023255552 ≤ fr) (hto:to ≤ 4200000000) (hT:to ≤ T):∀ (k:Nat),k ≤ l.length →
  ∃ P Q,(List.range k).flatMap (eraT S l fr T) = P ++ Q∧Wk (locZ S l) fr (min to (fromV (endL S l) k - 1)) P∧(∀ c ∈ Q,to < c.at_)∧(Q ≠ []→to < fromV (endL S l) k)
 | 0,_=>⟨[],[],rfl,wk_nil (by unfold fromV;rw [if_pos rfl];omega),fun c hc=>(by cases hc),fun e=>absurd rfl e⟩
 | k + 1,hk=>by
   obtain ⟨P,Q,e,hP,hQ,hQ2⟩:=stepsL_cut h hfr hto hT k (by omega);have hlt:=h.to_lt k (by omega);rw [stepsF_succ,e,fromV_succ]
   by_cases hq:Q = []
   ·obtain ⟨P2,Q2,e2,hP3,hQ3⟩:=eraT_cut h hfr hto hT (show k < l.length by omega);rw [e2,hq,List.append_nil,← List.append_assoc];refine ⟨P ++ P2,Q2,rfl,hP.append hP3 (by omega),hQ3,fun hne=>?_⟩;obtain ⟨c,hc⟩:=List.exists_mem_of_ne_nil _ hne;have g:=eraT_mem (fr:=fr) (T:=T) hlt (show c ∈ eraT S l fr T k by rw [e2];exact List.mem_append_right _ hc);have:=hQ3 c hc;omega
   ·have hlt2:=hQ2 hq;refine ⟨P,Q ++ eraT S l fr T k,by rw [List.append_assoc],?_,fun c hc=>?_,fun _=>by omega⟩
    ·rw [show min to (toV (endL S l) k - 1) = min to (fromV (endL S l) k - 1) by omega];exact hP
    ·rcases List.mem_append.1 hc with hc | hc
     ·exact hQ c hc
     ·have:=eraT_mem hlt hc;omega
theorem changes_spec (h:FewZ S l) {fr to T:Int} (hfr:fr ≤ 4200000000) (hto:to ≤ 4200000000) (hT:to ≤ T) :
  ∃ P Q,changesL S l fr T = P ++ Q∧Rep (locZ S l) (max fr (-2199023255552)) to P∧∀ c ∈ Q,to < c.at_:=by
 have he:errI S l (max fr (-2199023255552)) = 0:=errI_few h.err (fewB_iff.1 h.few).2.1 (by omega) (by omega);obtain ⟨P,Q,e,hP,hQ,-⟩:=stepsL_cut h (fr:=max fr (-2199023255552)) (by omega) hto hT l.length (Nat.le_refl _)
 have hfv:fromV (endL S l) l.length = 2199023255553:=by
  have:=h.pos;unfold fromV;rw [if_neg (by omega),toV_out (by rw [length_endL];omega)]
 rw [hfv,show min to (2199023255553 - 1) = to by omega] at hP;unfold changesL;rw [if_pos he];unfold stepsL;rw [e];obtain ⟨n',e2⟩:=dropF_append P (locZ S l (max fr (-2199023255552))) Q;exact ⟨_,_,e2,dropF_rep hP,fun c hc=>hQ c (dropF_sub hc)⟩
theorem changes_rep (h:FewZ S l) {fr to:Int} (hfr:fr ≤ 4200000000) (hto:to ≤ 4200000000):Rep (locZ S l) (max fr (-2199023255552)) to (changesL S l fr to):=by
 obtain ⟨P,Q,e,hP,hQ⟩:=changes_spec h hfr hto (Int.le_refl to)
 have hq:Q = []:=List.eq_nil_iff_forall_not_mem.2 fun c hc=>by
  have g:=hQ c hc;have hm:c ∈ changesL S l fr to:=by rw [e];exact List.mem_append_right _ hc
  unfold changesL at hm
  split at hm
  ·have hm:=dropF_sub hm;unfold stepsL at hm;obtain ⟨k,hk,hm⟩:=List.mem_flatMap.1 hm;have:=eraT_mem (h.to_lt k (List.mem_range.1 hk)) hm;omega
  ·cases hm
 rw [e,hq,List.append_nil];exact hP
theorem turn_at (h:FewZ S l) {i:Int} (h1:-2199023255552 < i) (h2:i ≤ 4200000000) (ht:locZ S l i ≠ locZ S l (i - 1)) :
  i ∈ endL S l∨∃ k,∃ hk:k < l.length,∀ A,RightR (ruleE S l[k]) A→∃ j,j < A.length∧instA A l[k].n.off j = i:=by
 have hle:=length_endL S l;have hp:=h.pos
 obtain ⟨k,hk,hk1,hk2⟩:∃ k,k < l.length∧fromV (endL S l) k ≤ i∧i < toV (endL S l) k:=by
  refine ⟨eraI (endL S l) i,by have:=eraI_le (endL S l) i;omega,?_,?_⟩
  ·unfold fromV
   split
   ·omega
   ·have hl:=eraI_le (endL S l) i;rw [toV_at (show eraI (endL S l) i - 1 < (endL S l).length by omega)];have:=eraI_noZ (E:=endL S l) (i:=i) (j:=eraI (endL S l) i - 1) (by omega) (by omega);omega
  ·by_cases hj:eraI (endL S l) i < (endL S l).length
   ·rw [toV_at hj];exact eraI_ltZ hj
   ·rw [toV_out (by omega)];omega
 by_cases e:fromV (endL S l) k = i
 ·left
  unfold fromV at e
  split at e
  ·omega
  ·rw [toV_at (show k - 1 < (endL S l).length by omega)] at e;rw [← e];exact List.getElem_mem _
 ·right
  refine ⟨k,hk,fun A hA=>Classical.byContradiction fun hn=>ht ?_⟩;rw [h.loc hk hk1 hk2 (by omega) (by omega),h.loc hk (by omega) (by omega) (by omega) (by omega)];exact locW_still hA (h.off hk) (by omega) (by unfold capN;omega) fun j hj e=>hn ⟨j,hj,e⟩
end
end
section -- HPut
open Go Go.RowKit Go.Shelf
def RiseN:List Int→Prop:=List.Pairwise (· < ·)
theorem intsV_one (l:List Int):∀ u ∈ intsV l,u.oneCell' = true:=by
 intro u hu;unfold intsV at hu;obtain ⟨c,-,rfl⟩:=List.mem_map.1 hu
 rfl
theorem length_intsV (l:List Int):(intsV l).length = l.length:=by unfold intsV;rw [List.length_map]
theorem nums_front {W:World} {B:Nat} {A:Option Addr} {c:Nat} {l:List Int} (h:Nums W B (.slice A l.length c) l) {k:Nat} (h2:k ≤ l.length):Nums W B (.slice A k c) (l.take k):=by
 obtain ⟨A',c',hv,g1,g2,-,hc⟩:=h;injection hv with ha _ hcc
 subst ha;subst hcc;have hlen:(l.take k).length = k:=by rw [List.length_take];omega
 unfold Nums;rw [hlen];refine ⟨_,_,rfl,by omega,g2,by rw [length_intsV,hlen,Nat.mul_one],fun hp=>?_⟩;obtain ⟨b,o,rfl,hb,hc⟩:=hc (by omega);refine ⟨b,o,rfl,hb,fun j u hu=>?_⟩;refine hc j u ?_
 have hj:j < k:=by
  have:=(List.getElem?_eq_some_iff.1 hu).1;rw [length_intsV,hlen] at this;exact this
 rw [← hu,show intsV l = intsV (l.take k ++ l.drop k) by rw [List.take_append_drop],intsV_append,List.getElem?_append_left (by rw [length_intsV,hlen];exact hj)]
theorem nums_back {W:World} {B:Nat} {A:Option Addr} {c:Nat} {l:List Int} (h:Nums W B (.slice A l.length c) l) {n:Nat} (h2:n ≤ l.length):Nums W B (.slice (if c = n then A else A.map (·.add n)) (l.length - n) (c - n)) (l.drop n):=by
 obtain ⟨A',c',hv,g1,g2,-,hc⟩:=h;injection hv with ha _ hcc
 subst ha;subst hcc;have hlen:(l.drop n).length = l.length - n:=List.length_drop;unfold Nums;rw [hlen];refine ⟨_,_,rfl,by omega,by omega,by rw [length_intsV,hlen,Nat.mul_one],fun hp=>?_⟩;obtain ⟨b,o,rfl,hb,hc⟩:=hc (by omega);rw [if_neg (by omega)];refine ⟨b,o + n,by simp [Addr.add_lit],hb,fun j u hu=>?_⟩;rw [Nat.add_assoc];refine hc _ u ?_;rw [← hu,show intsV l = intsV (l.take n ++ l.drop n) by rw [List.take_append_drop],intsV_append,List.getElem?_append_right (by rw [length_intsV,List.length_take];omega),length_intsV,List.length_take,Nat.min_eq_left h2,Nat.add_sub_cancel_left]
structure InsN (l:List Int) (n:Int) (M:List Int):Prop where
 rise:RiseN M
 mem:∀ i,i ∈ M ↔ i ∈ l∨i = n
 len:M.length ≤ l.length + 1
theorem insN_there {l:List Int} {n:Int} (hr:RiseN l) (h:n ∈ l):InsN l n l:=⟨hr,fun i=>⟨.inl,fun h2=>h2.elim id fun e=>e ▸ h⟩,by omega⟩
theorem insN_new {l:List Int} {n:Int} (hr:RiseN l) {k:Nat} (hk:k ≤ l.length) (h1:∀ j (h:j < l.length),k ≤ j→n < l[j]) (h2:∀ j (h:j < l.length),j < k→l[j] < n):InsN l n (l.take k ++ [n] ++ l.drop k):=by
 refine ⟨?_,fun i=>?_,by simp;omega⟩
 ·refine List.pairwise_append.2 ⟨List.pairwise_append.2 ⟨hr.take,List.pairwise_singleton _ _,fun x hx y hy=>?_⟩,hr.drop,fun x hx y hy=>?_⟩
  ·rw [List.mem_singleton] at hy;subst hy;obtain ⟨j,hj,rfl⟩:=List.mem_take_iff_getElem.1 hx;exact h2 j (by omega) (by omega)
  ·obtain ⟨j,hj,rfl⟩:=List.mem_drop_iff_getElem.1 hy;have h3:=h1 (k + j) (by omega) (by omega)
   rcases List.mem_append.1 hx with hx | hx
   ·obtain ⟨q,hq,rfl⟩:=List.mem_take_iff_getElem.1 hx;have:=h2 q (by omega) (by omega);omega
   ·rw [List.mem_singleton] at hx;subst hx;exact h3
 ·constructor
  ·intro h
   rcases List.mem_append.1 h with h | h
   ·rcases List.mem_append.1 h with h | h
    ·exact .inl (List.mem_of_mem_take h)
    ·exact .inr (List.mem_singleton.1 h)
   ·exact .inl (List.mem_of_mem_drop h)
  ·rintro (h | rfl)
   ·rw [← List.take_append_drop k l] at h
    rcases List.mem_append.1 h with h | h
    ·exact List.mem_append_left _ (List.mem_append_left _ h)
    ·exact List.mem_append_right _ h
   ·exact List.mem_append_left _ (List.mem_append_right _ (List.mem_singleton.2 rfl))
def InsPost (w:World) (l:List Int) (n:Int) (o:Ending) (w':World):Prop:=(∃ u M,o = .returned u∧Nums w' w'.heap.size u M∧InsN l n M)∧Below w.heap.size w w'
theorem rput_any (w:World) (B:Nat) (v:Value) (l:List Int) (n:Int) (hv:Nums w B v l) (hB:B ≤ w.heap.size) (hr:RiseN l) (hl:l.length ≤ 1000000) :
  Calls Tryz.prog 74 #[v,.int .i64 n] w (InsPost w l n):=by
 obtain ⟨i0,hi,hz0,hz1,hz2⟩:=info_parts infoInt;obtain ⟨A,c,rfl,hlc,hcm⟩:=hv.form;have HV:=Lib.hid hv;have HR:=Lib.hid hr;unfold maxLen at hcm;clear hv hr;go_enter Tryz.func74,Tryz.ntmps74;go_wp2_with fail
 go_loopw [5] (fun iv wr=>∃ k:Nat,k ≤ l.length∧iv = .int .i64 k∧(∀ j (h:j < l.length),k ≤ j→n < l[j])∧∃ q,wr = w.drewN q) (fun iv _=>(intOf iv).toNat)
 case atStart=>exact ⟨l.length,Nat.le_refl _,rfl,fun j h hj=>by omega,0,rfl⟩
 case round =>
  obtain ⟨k,hk,rfl,hno,q,rfl⟩:=hrel;have HNO:=Lib.hid hno;clear hno;have HB5:=Lib.hid (below_drewN (Below.refl w.heap.size w) q);obtain ⟨w5,hw5⟩:∃ W,w.drewN q = W:=⟨_,rfl⟩;rw [hw5] at HB5 ⊢;have HW5:=Lib.hid hw5;clear hw5
  by_cases h0:k = 0
  ·have hd:decide ((0:Int) < (k:Int)) = false:=decide_eq_false (by omega);have hd3:decide (0 < k) = false:=decide_eq_false (by omega);have HM:=Lib.hid (insN_new HR.out hk HNO.out (fun j _ hj=>by omega));clear h0;have HFRN:=Lib.hid (show Sl w5 B 1 (.slice (A) k c) k (intsV (l.take k)) by have:=nums_front (HV.out.below (HB5.out.mono hB)) hk;unfold Nums at this;rwa [List.length_take,Nat.min_eq_left hk] at this);have hs5:=HB5.out.size
   go_wp2_with first
    | (at_builtin;refine wpList_append_sl rfl _ _ 28 rfl w.heap.size 3 i0 (.int .i64 0) 1 8 Tryz.underlying28 hi hz0 hz1 hz2 rfl (by decide) (.slice none 0 0) 0 [] rfl (World.ownsRow_nil _ _ _ _) _ B k _ rfl HFRN.out (intsV_one _) (by unfold maxLen;omega) (by omega) hs5 ?_;intro v7 w7 hown7 hgrow7;have HB7:=Lib.hid (HB5.out.grown hgrow7 hs5 (fun g e=>by cases e));have HOW7:=Lib.hid hown7;have hs7:=HB7.out.size;clear hown7 hgrow7)
    | (at_builtin;have _t:=HOW7;go_loud (refine wpList_append_own _ rfl _ _ 28 rfl w.heap.size 3 i0 (.int .i64 0) 1 8 Tryz.underlying28 hi hz0 hz1 hz2 rfl (by decide) v7 (0 + k) _ rfl (HOW7.out.alloc _) ⟨w7.heap.size,0,none⟩ 1 1 [.int .i64 n] rfl rfl (cell_one_new _ _ _) (by simp [Value.oneCell']) (by unfold maxLen;omega) (by omega) (by simp;omega) ?_);intro v8 w8 hown8 hgrow8 hnil8;go_loud (have HB8:=Lib.hid ((HB7.out.alloc hs7 _).grown hgrow8 (by simp;omega) (fun g e=>(HOW7.out.lt g e).1));have HOW8:=Lib.hid hown8;have hs8:=HB8.out.size;have HBKN:=Lib.hid (show Sl w8 B 1 (.slice (if c = k then A else A.map (·.add k)) (l.length - k) (c - k)) (l.length - k) (intsV (l.drop k)) by have:=nums_back (HV.out.below (HB8.out.mono hB)) hk;unfold Nums at this;rw [List.length_drop] at this;first | exact this | simpa [Addr.add_lit] using this);clear hown8 hgrow8 hnil8))
    | (at_builtin;have _t:=HOW8;go_loud (refine wpList_append_sl rfl _ _ 28 rfl w.heap.size 3 i0 (.int .i64 0) 1 8 Tryz.underlying28 hi hz0 hz1 hz2 rfl (by decide) v8 (0 + k + 1) _ rfl HOW8.out _ B (l.length - k) _ rfl HBKN.out (intsV_one _) (by unfold maxLen;omega) (by omega) hs8 ?_);intro v9 w9 hown9 hgrow9)
   all_goals
    go_ret;have hb9:=HB8.out.grown hgrow9 hs8 (fun g e=>(HOW8.out.lt g e).1);refine ⟨⟨v9,l.take k ++ [n] ++ l.drop k,rfl,?_,HM.out⟩,hb9⟩;have h:=Sl.of_own hown9;unfold Nums;rw [List.nil_append,show 0 + k + 1 + (l.length - k) = (l.take k ++ [n] ++ l.drop k).length by simp;omega] at h;rw [intsV_append,intsV_append];exact h
  ·obtain ⟨p,hp⟩:∃ p,k = p + 1:=⟨k - 1,by omega⟩;have hd:decide ((0:Int) < (k:Int)) = true:=decide_eq_true (by omega);have hd3:decide (0 < k) = true:=decide_eq_true (by omega);have e1:(k:Int) - 1 = (p:Int):=by omega
   have hpl:p < l.length:=by omega
   obtain ⟨b,o,c',e,hb,hc⟩:=(HV.out.below (HB5.out.mono hB)).cells (by omega)
   cases e
   have d0:=hc p hpl;have hbl:b < w5.heap.size:=Nat.lt_of_lt_of_le hb (Nat.le_trans hB HB5.out.size);obtain ⟨y,hy⟩:∃ y,l[p] = y:=⟨_,rfl⟩;rw [hy] at d0;have HY:=Lib.hid hy;have HP:=Lib.hid hp;clear hc hp hy
   by_cases hgt:n < y
   ·have hg:decide (n < y) = true:=decide_eq_true hgt;go_wp2_with fail;go_roundw
    case rel=>exact ⟨p,by omega,by first | rfl | go_num,fun j h hj=>by
     rcases Nat.lt_or_ge p j with h1 | h1
     ·exact HNO.out j h (by have:=HP.out;omega)
     ·have:j = p:=by omega
      subst this
      rw [HY.out]
      exact hgt,q,HW5.out.symm⟩
    case measure=>have:=HP.out;simp [intOf];omega
   ·have hg:decide (n < y) = false:=decide_eq_false hgt
    by_cases heq:y = n
    ·have hg2:(y == n) = true:=by simpa using heq
     have HM:=Lib.hid (insN_there HR.out (show n ∈ l by rw [← heq,← HY.out];exact List.getElem_mem _));have HVE:=Lib.hid ((HV.out.below (HB5.out.mono hB)).more (Nat.le_trans hB HB5.out.size));go_wp2_with fail;go_ret;exact ⟨⟨_,l,rfl,HVE.out,HM.out⟩,HB5.out⟩
    ·have hg2:(y == n) = false:=by simpa using heq
     have HM:=Lib.hid (insN_new HR.out hk HNO.out (fun j hjl hj=>by
      have hyn:y < n:=by omega
      by_cases e:j = p
      ·subst e
       rw [HY.out]
       exact hyn
      ·have h1:=List.pairwise_iff_getElem.1 HR.out j p hjl hpl (by have:=HP.out;omega)
       rw [HY.out] at h1
       omega))
     have HFRN:=Lib.hid (show Sl w5 B 1 (.slice (some ⟨b,o,none⟩) k c) k (intsV (l.take k)) by have:=nums_front (HV.out.below (HB5.out.mono hB)) hk;unfold Nums at this;rwa [List.length_take,Nat.min_eq_left hk] at this);have hs5:=HB5.out.size
     go_wp2_with first
      | (at_builtin;refine wpList_append_sl rfl _ _ 28 rfl w.heap.size 3 i0 (.int .i64 0) 1 8 Tryz.underlying28 hi hz0 hz1 hz2 rfl (by decide) (.slice none 0 0) 0 [] rfl (World.ownsRow_nil _ _ _ _) _ B k _ rfl HFRN.out (intsV_one _) (by unfold maxLen;omega) (by omega) hs5 ?_;intro v7 w7 hown7 hgrow7;have HB7:=Lib.hid (HB5.out.grown hgrow7 hs5 (fun g e=>by cases e));have HOW7:=Lib.hid hown7;have hs7:=HB7.out.size;clear hown7 hgrow7)
      | (at_builtin;have _t:=HOW7;go_loud (refine wpList_append_own _ rfl _ _ 28 rfl w.heap.size 3 i0 (.int .i64 0) 1 8 Tryz.underlying28 hi hz0 hz1 hz2 rfl (by decide) v7 (0 + k) _ rfl (HOW7.out.alloc _) ⟨w7.heap.size,0,none⟩ 1 1 [.int .i64 n] rfl rfl (cell_one_new _ _ _) (by simp [Value.oneCell']) (by unfold maxLen;omega) (by omega) (by simp;omega) ?_);intro v8 w8 hown8 hgrow8 hnil8;go_loud (have HB8:=Lib.hid ((HB7.out.alloc hs7 _).grown hgrow8 (by simp;omega) (fun g e=>(HOW7.out.lt g e).1));have HOW8:=Lib.hid hown8;have hs8:=HB8.out.size;have HBKN:=Lib.hid (show Sl w8 B 1 (.slice (if c = k then some ⟨b,o,none⟩ else some ⟨b,o + k,none⟩) (l.length - k) (c - k)) (l.length - k) (intsV (l.drop k)) by have:=nums_back (HV.out.below (HB8.out.mono hB)) hk;unfold Nums at this;rw [List.length_drop] at this;first | exact this | simpa [Addr.add_lit] using this);clear hown8 hgrow8 hnil8))
      | (at_builtin;have _t:=HOW8;go_loud (refine wpList_append_sl rfl _ _ 28 rfl w.heap.size 3 i0 (.int .i64 0) 1 8 Tryz.underlying28 hi hz0 hz1 hz2 rfl (by decide) v8 (0 + k + 1) _ rfl HOW8.out _ B (l.length - k) _ rfl HBKN.out (intsV_one _) (by unfold maxLen;omega) (by omega) hs8 ?_);intro v9 w9 hown9 hgrow9)
     all_goals
      go_ret;have hb9:=HB8.out.grown hgrow9 hs8 (fun g e=>(HOW8.out.lt g e).1);refine ⟨⟨v9,l.take k ++ [n] ++ l.drop k,rfl,?_,HM.out⟩,hb9⟩;have h:=Sl.of_own hown9;unfold Nums;rw [List.nil_append,show 0 + k + 1 + (l.length - k) = (l.take k ++ [n] ++ l.drop k).length by simp;omega] at h;rw [intsV_append,intsV_append];exact h
end
section -- HRefM
open Go Go.RowKit Go.Shelf
noncomputable def cutI (A:List Fir) (off s:Int):Nat:=@dite Nat (∃ k,Cut A (instA A off) s k) (Classical.propDecidable _) (fun h=>Classical.choose h) fun _=>0
theorem cutI_spec {l:List Rul} {A:List Fir} (h:RightR l A) {off:Int} (ho:-90000 < off∧off < 90000) (s:Int):Cut A (instA A off) s (cutI A off s):=by
 have hx:=h.icut ho s;unfold cutI;rw [dif_pos hx];exact Classical.choose_spec hx
theorem saves_wide {e:EraN} {ru:ByteArray} {l:List Rul} {A:List Fir} {i:Int} {k:Nat} (h:RightR l A) (ho:-90000 < e.off∧e.off < 90000) (h1:-3217862419200 ≤ i) (h2:i + 180001 ≤ capN) (hc:Cut A (instA A e.off) (i + 1) k):savesV e ru l i = rsavesV e ru A (letV l) k:=by
 unfold savesV rsavesV
 split
 ·rfl
 ·rw [latest_row h ho h1 h2 hc]
  all_goals (cases prevO A k <;> rfl)
theorem rsaves_small {l:List Rul} {A:List Fir} (h:RightR l A) {e:EraN} (hs:-90000 < e.save∧e.save < 90000) (ru letter:ByteArray) {k:Nat} (hk:k ≤ A.length):-90000 < (rsavesV e ru A letter k).1∧(rsavesV e ru A letter k).1 < 90000:=by
 unfold rsavesV
 split
 ·exact hs
 ·have hp:=h.prev hk
  cases ho:prevO A k with
  | none=>exact (by decide:(-90000:Int) < 0∧(0:Int) < 90000)
  | some f =>
    rw [ho] at hp;exact hp
theorem prevO_mem {A:List Fir} {k:Nat} {f:Fir} (h:prevO A k = some f):f ∈ A:=by
 unfold prevO at h
 split at h
 ·cases h
 ·exact List.mem_of_getElem? h
theorem rsaves_let {l:List Rul} {A:List Fir} (h:RightR l A) (hl:letOk l) (e:EraN) (ru:ByteArray) (k:Nat):(rsavesV e ru A (letV l) k).2.size ≤ 140737488351232:=by
 unfold rsavesV
 split
 ·exact (by decide:(⟨#[]⟩:ByteArray).size ≤ 140737488351232)
 ·cases ho:prevO A k with
  | none=>exact letV_in hl
  | some f=>exact fires_let hl (h.fires (prevO_mem ho))
theorem showV_fine {f:ByteArray} {off:Int} {dst:Bool} {letter:ByteArray} (h:(kindR f.data.toList).2 = 0) (ho:-180000 < off∧off < 180000):(showV f off dst letter).2 = 0:=by
 rcases showV_err (off:=off) (dst:=dst) (letter:=letter) h with h3 | h3
 ·exact h3
 ·exfalso;unfold showV at h3;rw [if_pos h] at h3
  split at h3
  ·have h4:(0:Int) = 10:=congrArg Prod.snd h3;omega
  ·split at h3
   ·rw [if_pos (by omega)] at h3;have h4:(0:Int) = 10:=congrArg Prod.snd h3;omega
   ·split at h3
    ·split at h3
     ·have h4:(0:Int) = 10:=congrArg Prod.snd h3;omega
     ·have h4:(0:Int) = 10:=congrArg Prod.snd h3;omega
    ·have h4:(0:Int) = 10:=congrArg Prod.snd h3;omega
noncomputable def locR (x:EraF) (A:List Fir) (letter:ByteArray) (i:Int):Loc :=
 let p:=rsavesV x.n x.ru A letter (cutI A x.n.off (i + 1))
 ⟨x.n.off + p.1,dstB p.1,(showV x.fm (x.n.off + p.1) (dstB p.1) p.2).1⟩
theorem locR_eq {x:EraF} {R:List Rul} {A:List Fir} (h:RightR R A) (hk:(kindR x.fm.data.toList).2 = 0) (ho:-90000 < x.n.off∧x.n.off < 90000) (hs:-90000 < x.n.save∧x.n.save < 90000) {i:Int} (h1:-3217862419200 ≤ i) (h2:i + 180001 ≤ capN):locR x A (letV R) i = locW x R i:=by
 have hc:=cutI_spec h ho (i + 1);have e:=saves_wide (ru:=x.ru) (e:=x.n) h ho h1 h2 hc;have hsm:=rsaves_small h hs x.ru (letV R) hc.1;unfold locW;rw [e];rw [if_pos (showV_fine hk (by omega))]
 rfl
noncomputable def refZ (S:List SetF) (l:List EraF) (R:List RowF) (i:Int):Loc:=locR (l.getD (eraI (endL S l) i) default) ((R.getD (eraI (endL S l) i) default).D.map FrI.f) (R.getD (eraI (endL S l) i) default).letter i
structure RowsZ (S:List SetF) (l:List EraF) (R:List RowF):Prop where
 len:R.length = l.length
 ok:∀ i (h:i < R.length) (h2:i < l.length),RowOk S l[i] R[i]
section
variable {S:List SetF} {l:List EraF} {R:List RowF}
theorem FewZ.kind (h:FewZ S l) {k:Nat} (hk:k < l.length):(kindR l[k].fm.data.toList).2 = 0:=by
 have her:=(errZ_zero h.err).2.2.1 k hk;rw [errAt_eq hk] at her;exact (errE_zero her).1
theorem FewZ.save (h:FewZ S l) {k:Nat} (hk:k < l.length):-90000 < l[k].n.save∧l[k].n.save < 90000:=(errZ_off h.err hk).2
theorem FewZ.in_ (h:FewZ S l) (i:Int):eraI (endL S l) i < l.length:=by
 have h1:=eraI_le (endL S l) i;have h2:=length_endL S l;have h3:=h.pos;omega
theorem refZ_eq (h:FewZ S l) (hr:RowsZ S l R) {i:Int} (h1:-2199023255552 ≤ i) (h2:i ≤ 4200000000):refZ S l R i = locZ S l i:=by
 have hk:=h.in_ i;have hx:=hr.ok (eraI (endL S l) i) (by rw [hr.len];exact hk) hk;have e1:l.getD (eraI (endL S l) i) default = l[eraI (endL S l) i]:=by rw [List.getD_eq_getElem?_getD,List.getElem?_eq_getElem hk];rfl
 have e2:R.getD (eraI (endL S l) i) default = R[eraI (endL S l) i]'(by rw [hr.len];exact hk):=by rw [List.getD_eq_getElem?_getD,List.getElem?_eq_getElem (by rw [hr.len];exact hk)];rfl
 have hax:atX S l i = l[eraI (endL S l) i]:=by unfold atX;rw [e1]
 unfold refZ locZ;rw [if_neg (fun e=>e h.err),if_neg (by omega),hax,e1,e2,hx.letter];exact locR_eq hx.right (h.kind hk) (h.off hk) (h.save hk) (by omega) (by unfold capN;omega)
noncomputable def outR (S:List SetF) (l:List EraF) (R:List RowF) (fr to:Int) (N:List Int):List Chg:=(N.filter fun i=>decide (fr < i) && (decide (i ≤ to) && !locE (refZ S l R i) (refZ S l R (i - 1)))).map fun i=>⟨i,refZ S l R i⟩
def AllN (S:List SetF) (l:List EraF) (R:List RowF) (N:List Int):Prop:=∀ i,i ∈ N ↔ i ∈ endL S l∨∃ k,∃ hk:k < R.length,∃ hk2:k < l.length,∃ j,j < R[k].D.length∧instA (R[k].D.map FrI.f) l[k].n.off j = i
theorem outR_rep (h:FewZ S l) (hr:RowsZ S l R) {N:List Int} (hN:RiseN N) (hA:AllN S l R N) {fr to:Int} (hfr:-2199023255552 ≤ fr) (hto:to ≤ 4200000000):Rep (locZ S l) fr to (outR S l R fr to N):=by
 have hmem:∀ i,i ∈ N.filter (fun i=>decide (fr < i) && (decide (i ≤ to) && !locE (refZ S l R i) (refZ S l R (i - 1)))) ↔ i ∈ N∧fr < i∧i ≤ to∧locZ S l i ≠ locZ S l (i - 1):=fun i=>by
  rw [List.mem_filter,Bool.and_eq_true,Bool.and_eq_true,decide_eq_true_eq,decide_eq_true_eq,Bool.not_eq_true']
  constructor
  ·rintro ⟨h1,h2,h3,h4⟩;rw [refZ_eq h hr (by omega) (by omega),refZ_eq h hr (by omega) (by omega)] at h4;exact ⟨h1,h2,h3,fun e=>by rw [locE_iff.2 e] at h4;cases h4⟩
  ·rintro ⟨h1,h2,h3,h4⟩;refine ⟨h1,h2,h3,?_⟩;rw [refZ_eq h hr (by omega) (by omega),refZ_eq h hr (by omega) (by omega)]
   cases he:locE (locZ S l i) (locZ S l (i - 1)) with
   | false=>rfl
   | true=>exact absurd (locE_iff.1 he) h4
 refine ⟨⟨?_,fun c hc=>?_,fun i h1 h2 ht=>?_⟩,fun c hc=>?_⟩
 ·unfold RiseC outR;rw [List.pairwise_map];exact hN.filter _
 ·obtain ⟨i,hi,rfl⟩:=List.mem_map.1 hc;have:=(hmem i).1 hi;exact ⟨⟨this.2.1,this.2.2.1⟩,refZ_eq h hr (by omega) (by omega)⟩
 ·refine ⟨⟨i,refZ S l R i⟩,List.mem_map.2 ⟨i,(hmem i).2 ⟨(hA i).2 ?_,h1,h2,ht⟩,rfl⟩,rfl⟩
  rcases turn_at h (by omega) (by omega) ht with g | ⟨k,hk,g⟩
  ·exact .inl g
  ·have hkR:k < R.length:=by rw [hr.len];exact hk
   obtain ⟨j,hj,e⟩:=g _ (hr.ok k hkR hk).right;rw [List.length_map] at hj;exact .inr ⟨k,hkR,hk,j,hj,e⟩
 ·obtain ⟨i,hi,rfl⟩:=List.mem_map.1 hc;exact ((hmem i).1 hi).2.2.2
theorem outR_eq (h:FewZ S l) (hr:RowsZ S l R) {N:List Int} (hN:RiseN N) (hA:AllN S l R N) {fr to:Int} (hfr:-2199023255552 ≤ fr) (hfr2:fr ≤ 4200000000) (hto:to ≤ 4200000000):outR S l R fr to N = changesL S l fr to:=by
 have h2:=changes_rep h hfr2 hto;rw [show max fr (-2199023255552) = fr by omega] at h2;exact (outR_rep h hr hN hA hfr hto).uniq h2
end
end
section -- FootM
open Go Go.RowKit Go.Shelf
theorem ftof_any (zn zn2:ByteArray) (ev ev2 sv:Value) (B:Nat) (l:List EraF) (S:List SetF) (w:World) (hz:ZW w B ev sv l S) (ho:ZOk l S) (hfo:frOk S) :
  Calls Tryz.prog 22 #[zoneA zn ev,setsV zn2 ev2 sv] w (FootPost w S l):=by
 by_cases he:errZ S l = 0
 ·exact fof_ok zn zn2 ev ev2 sv B l S w hz ho hfo he
 ·exact fof_err zn zn2 ev ev2 sv B l S w hz ho he
theorem fires_filter {l:List Rul} {p:Rul→Bool} {f:Fir} (hf:Fires (l.filter p) f):Fires l f:=by
 obtain ⟨r,hr,h⟩:=hf;exact ⟨r,(List.mem_filter.1 hr).1,h⟩
theorem letOk_filter {l:List Rul} {p:Rul→Bool} (h:letOk l):letOk (l.filter p):=fun r hr=>h r (List.mem_filter.1 hr).1
structure FootGood (F:Foot):Prop where
 off:-90000 < F.off∧F.off < 90000
 save:-90000 < F.save∧F.save < 90000
 kind:(kindR F.fm.data.toList).2 = 0
 fires:∀ f,Fires F.rules f→-90000 < f.save∧f.save < 90000
 since:-2199023255552 ≤ F.since
 letl:letOk F.rules
 letter:F.letter.size ≤ 140737488351232
 fm:F.fm.size < 4294967281
 ok:RuOk F.rules
def locF (F:Foot) (i:Int):Loc :=
 if 0 < F.rules.length then ⟨F.off + (savesV (eraO F) ⟨#[45]⟩ F.rules i).1,dstB (savesV (eraO F) ⟨#[45]⟩ F.rules i).1,(showV F.fm (F.off + (savesV (eraO F) ⟨#[45]⟩ F.rules i).1) (dstB (savesV (eraO F) ⟨#[45]⟩ F.rules i).1) (savesV (eraO F) ⟨#[45]⟩ F.rules i).2).1⟩
 else ⟨F.off + F.save,dstB F.save,(showV F.fm (F.off + F.save) (dstB F.save) F.letter).1⟩
theorem saves_good {F:Foot} (h:FootGood F) (i:Int):(-90000 < (savesV (eraO F) ⟨#[45]⟩ F.rules i).1∧(savesV (eraO F) ⟨#[45]⟩ F.rules i).1 < 90000)∧(savesV (eraO F) ⟨#[45]⟩ F.rules i).2.size ≤ 140737488351232:=by
 unfold savesV;rw [if_neg (by decide)]
 cases hl:latestF F.rules (eraO F).off i with
 | none=>exact ⟨⟨by show (-90000:Int) < 0;omega,by show (0:Int) < 90000;omega⟩,letV_in h.letl⟩
 | some f=>exact ⟨h.fires f (latestF_mem hl),fires_let h.letl (latestF_mem hl)⟩
theorem FootGood.footOk {F:Foot} (h:FootGood F):FootOk F where
 off:=⟨by have:=h.off;omega,by have:=h.off;omega⟩
 save:=⟨by have:=h.save;omega,by have:=h.save;omega⟩
 letter:=h.letter
 fm:=h.fm
 since:=by have:=h.since;omega
 ok:=h.ok
 sum:=fun i _ _=>by
  have:=saves_good h i;exact ⟨⟨by omega,by omega⟩,this.2⟩
theorem fatV_good {F:Foot} (h:FootGood F) {i:Int} (h1:F.since ≤ i) (h2:i ≤ 2199023255552):fatV F i = .tuple #[locA (locF F i),.int .i64 0]:=by
 have ho:=h.off;have hs:=h.save;unfold fatV locF;rw [if_neg (by omega),if_neg (by omega)]
 split
 ·have hv:=saves_good h i;unfold zwithinV withinR;rw [if_pos (showV_fine h.kind (by show -180000 < F.off + _∧F.off + _ < 180000;omega))]
  rfl
 ·unfold withinR;rw [if_pos (showV_fine h.kind (by omega))]
  rfl
theorem fatV_same {F:Foot} (h:¬ 0 < F.rules.length) (i j:Int):locF F i = locF F j:=by
 unfold locF;rw [if_neg h,if_neg h]
theorem fr_few {l:List EraF} {S:List SetF} (h:fewB l S = true):frOk S:=fun s hs r hr=>by
 have h1:=(rightB_iff.1 ((fewB_iff.1 h).2.1 s hs)).1;unfold smallB at h1;rw [Bool.and_eq_true,List.all_eq_true] at h1;have h2:=h1.1 r hr;unfold smallR at h2;simp only [Bool.and_eq_true,decide_eq_true_eq] at h2;omega
theorem begV_in (E:List Int):-2199023255552 ≤ begV E∧begV E ≤ 2199023255553:=by
 unfold begV
 split <;> omega
theorem footZ_good {S:List SetF} {l:List EraF} (h:FewZ S l) (hok:ZOk l S) (hlet:∀ s ∈ S,letOk s.l):FootGood (footZ S l):=by
 have hp:=h.pos
 have hx:lastE l = l[l.length - 1]:=by
  unfold lastE;rw [List.getD_eq_getElem?_getD,List.getElem?_eq_getElem (by omega)]
  rfl
 have hoff:=h.off (k:=l.length - 1) (by omega);have hsv:=h.save (k:=l.length - 1) (by omega);have hkd:=h.kind (k:=l.length - 1) (by omega);have hfm:=hok.fm _ (List.getElem_mem (show l.length - 1 < l.length by omega));rw [← hx] at hoff hsv hkd hfm;unfold footZ;rw [if_pos h.err];obtain ⟨x,hxx⟩:∃ x,lastE l = x:=⟨_,rfl⟩;rw [hxx] at hoff hsv hkd hfm ⊢;have hb:=begV_in (endL S l);have hro:=ofRul_ok hok x.ru
 have hla:letOk (ofRul S x.ru):=by
  unfold ofRul
  cases hs:ofS S x.ru with
  | none=>exact fun r hr=>(by cases hr)
  | some s=>exact hlet s (List.mem_of_find?_eq_some hs)
 have hz:-90000 < (0:Int)∧(0:Int) < 90000:=by omega
 unfold footOf
 split
 ·exact ⟨hoff,hsv,hkd,fun f hf=>(by obtain ⟨r,hr,-⟩:=hf;cases hr),hb.1,fun r hr=>(by cases hr),by show (⟨#[]⟩:ByteArray).size ≤ 140737488351232;decide,hfm,ruok_nil⟩
 ·rename_i hru;obtain ⟨A,hA⟩:=h.right x;unfold ruleE at hA;rw [if_neg hru] at hA
  split
  ·exact ⟨hoff,hz,hkd,fun f hf=>hA.save_all (fires_filter (fires_filter hf)),by show _ ≤ max _ _;omega,letOk_filter (letOk_filter hla),by show (⟨#[]⟩:ByteArray).size ≤ 140737488351232;decide,hfm,ruok_filter (ruok_filter hro _) _⟩
  ·split
   ·exact ⟨hoff,hz,hkd,fun f hf=>(by obtain ⟨r,hr,-⟩:=hf;cases hr),hb.1,fun r hr=>(by cases hr),letV_in hla,hfm,ruok_nil⟩
   ·rename_i f hf;have hff:=fires_filter (latestF_mem hf);exact ⟨hoff,hA.save_all hff,hkd,fun f hf=>(by obtain ⟨r,hr,-⟩:=hf;cases hr),by show _ ≤ max _ _;omega,fun r hr=>(by cases hr),fires_let hla hff,hfm,ruok_nil⟩
end
section -- FAwake
open Go Go.RowKit Go.Shelf
def cetF:EraF:=⟨cetE,⟨#[]⟩,cetS,false⟩
def cetFoot:Foot:=⟨-2199023255552,3600,0,⟨#[]⟩,cetS,[]⟩
theorem cet_errZ:errZ [] [cetF] = 0:=by kernel_rfl
theorem cet_foot:footZ [] [cetF] = cetFoot:=by kernel_rfl
theorem cet_at:fatV cetFoot 2199023255552 = .tuple #[.agg #[.int .i64 3600,.bool false,.string ⟨#[67,69,84]⟩],.int .i64 0]:=by kernel_rfl
theorem cet_good:FootGood cetFoot where
 off:=by decide
 save:=by decide
 kind:=by kernel_rfl
 fires:=fun f hf=>(by obtain ⟨r,hr,-⟩:=hf;cases hr)
 since:=by decide
 letl:=fun r hr=>(by cases hr)
 letter:=by decide
 fm:=by decide
 ok:=ruok_nil
theorem cet_ok:FootOk cetFoot:=cet_good.footOk
theorem cet_zok:ZOk [cetF] [] where
 fm:=fun x hx=>(by rw [List.mem_singleton] at hx;subst hx;decide)
 rul:=fun s hs=>(by cases hs)
 len:=by decide
theorem cet_fr:frOk []:=fun s hs=>(by cases hs)
theorem own_eraO (w:World) (cs:Array Value) (h:cs.size = 12):(w.alloc (.cells cs 42)).ownsRow w.heap.size 42 12 (.slice (some ⟨w.heap.size,0,none⟩) 1 1) 1 cs.toList :=
 ⟨by simp [h],.inr ⟨w.heap.size,1,cs,rfl,Nat.le_refl _,World.alloc_heap_new _ _,Nat.le_refl _,by decide,by simp [h],List.take_of_length_le (by simp [h])⟩⟩
theorem fawake_any (w:World) (ha:Ahead w) (htab:0 < w.heap.size) (hm:Tryz.MaxL w) :
  Calls Tryz.prog 21 #[] w fun e w'=>e = .returned (.bool true)∧Below w.heap.size w w':=by
 have hb0:Below w.heap.size w ((w.alloc (.cells (eraP cetE cetS).toArray 42)).alloc (.cells #[.string ⟨#[88]⟩,.slice (some ⟨w.heap.size,0,none⟩) 1 1,.slice none 0 0] 27)):=((Below.refl w.heap.size w).alloc (Nat.le_refl _) _).alloc (by simp) _;have hw0:=Blk.new (w.alloc (.cells (eraP cetE cetS).toArray 42)) 27 #[.string ⟨#[88]⟩,.slice (some ⟨w.heap.size,0,none⟩) 1 1,.slice none 0 0];have he0:ErasR ((w.alloc (.cells (eraP cetE cetS).toArray 42)).alloc (.cells #[.string ⟨#[88]⟩,.slice (some ⟨w.heap.size,0,none⟩) 1 1,.slice none 0 0] 27)) ((w.alloc (.cells (eraP cetE cetS).toArray 42)).alloc (.cells #[.string ⟨#[88]⟩,.slice (some ⟨w.heap.size,0,none⟩) 1 1,.slice none 0 0] 27)).heap.size (.slice (some ⟨w.heap.size,0,none⟩) 1 1) [cetF]:=Sl.of_own ((own_eraO w (eraP cetE cetS).toArray rfl).alloc _);rw [World.size_alloc] at hw0;have HZ:=Lib.hid (ZW.mk he0 (show SetsR _ _ (.slice none 0 0) [] from ⟨Sl.nil _ _ _,fun s hs=>by cases hs⟩) (ha.below hb0 (Nat.le_refl _)) (Nat.lt_of_lt_of_le htab hb0.size) (hm.below hb0 (Nat.le_refl _)) (Nat.le_refl _));have HB0:=Lib.hid hb0;have hof:=ftof_any ⟨#[88]⟩ ⟨#[88]⟩ (.slice (some ⟨w.heap.size,0,none⟩) 1 1) (.slice (some ⟨w.heap.size,0,none⟩) 1 1) (.slice none 0 0) _ [cetF] [] _ HZ.out cet_zok cet_fr;unfold FootPost at hof;rw [cet_errZ,cet_foot] at hof;have HOF:=Lib.hid hof;have HAH:=Lib.hid (fun (W:World) (h:Below w.heap.size w W)=>And.intro (ha.below h (Nat.le_refl _)) (hm.below h (Nat.le_refl _)));have HTB:=Lib.hid htab;simp only [zoneA,setsV,worldA,footA,cetFoot,cetS] at HOF;have HW0:=Lib.hid hw0;unfold eraP cetE cetS at HB0 HW0;simp only [eraP,cetE] at HOF;clear hb0 hw0 he0 hof ha hm HZ;go_enter Tryz.func21,Tryz.ntmps21;have q0:=HW0.out.cell 0 (v:=.string ⟨#[88]⟩) rfl;have q1:=HW0.out.cell 1 (v:=.slice (some ⟨w.heap.size,0,none⟩) 1 1) rfl;have q2:=HW0.out.cell 2 (v:=.slice none 0 0) rfl;have ql:=HW0.out.lt;go_wp2_with fail;refine HOF.out.mono ?_;rintro o w1 ⟨⟨u,rfl,how⟩,hb⟩;have HOW:=Lib.hid how;have hb1:=HB0.out.trans (hb.mono HB0.out.size);have hs1:=hb1.size;obtain ⟨Au,cu,rfl⟩:=(Sl.of_own how).form;have hfx:=Blk.new w1 54 #[.int .i64 (-2199023255552),.int .i64 3600,.int .i64 0,.string ⟨#[]⟩,.string ⟨#[67,69,84]⟩,.slice Au 0 cu];have hb2:=hb1.alloc hs1 (.cells #[.int .i64 (-2199023255552),.int .i64 3600,.int .i64 0,.string ⟨#[]⟩,.string ⟨#[67,69,84]⟩,.slice Au 0 cu] 54);have HAT:=Lib.hid (fun (W:World) (h:Below w.heap.size w W) (hr:Ruls W W.heap.size (.slice Au 0 cu) [])=>fat_any W W.heap.size (.slice Au 0 cu) cetFoot 2199023255552 (HAH.out W h).2 (RW.mk hr (HAH.out W h).1 (Nat.lt_of_lt_of_le HTB.out h.size) (Nat.le_refl _)) cet_ok);rw [cet_at] at HAT;have HEN:=Lib.hid (fun W=>fendless_any W cetFoot Au cu);rw [show decide (0 < cetFoot.rules.length) = false from rfl] at HEN;simp only [footA,cetFoot,cetS] at HAT HEN;simp only [List.length_nil] at HOW how HEN HAT ⊢;have HFX:=Lib.hid hfx;have HB2:=Lib.hid hb2;have HRU:=Lib.hid (show Ruls (w1.alloc (.cells #[.int .i64 (-2199023255552),.int .i64 3600,.int .i64 0,.string ⟨#[]⟩,.string ⟨#[67,69,84]⟩,.slice Au 0 cu] 54)) (w1.alloc (.cells #[.int .i64 (-2199023255552),.int .i64 3600,.int .i64 0,.string ⟨#[]⟩,.string ⟨#[67,69,84]⟩,.slice Au 0 cu] 54)).heap.size (.slice Au 0 cu) [] from Sl.of_own (World.ownsRow.alloc HOW.out _));clear hb hb1 hb2 hfx how q0 q1 q2 ql HOF HW0 HB0;go_wp2_with fail;refine (HAT.out _ HB2.out HRU.out).mono ?_;rintro o w2 ⟨rfl,hb⟩;have hfy:=HFX.out.below hb HFX.out.lt;have hb3:=HB2.out.trans (hb.mono HB2.out.size);have hs3:=hb3.size;have HFY:=Lib.hid (hfy.alloc (.cells #[.int .i64 3600,.bool false,.string ⟨#[67,69,84]⟩] 48));have HLY:=Lib.hid (Blk.new w2 48 #[.int .i64 3600,.bool false,.string ⟨#[67,69,84]⟩]);have HB3:=Lib.hid (hb3.alloc hs3 (.cells #[.int .i64 3600,.bool false,.string ⟨#[67,69,84]⟩] 48));have fc0:=hfy.cell 0 (v:=.int .i64 (-2199023255552)) rfl;have fc1:=hfy.cell 1 (v:=.int .i64 3600) rfl;have fc2:=hfy.cell 2 (v:=.int .i64 0) rfl;have fc3:=hfy.cell 3 (v:=.string ⟨#[]⟩) rfl;have fc4:=hfy.cell 4 (v:=.string ⟨#[67,69,84]⟩) rfl;have fc5:=hfy.cell 5 (v:=.slice Au 0 cu) rfl;have fl:=hfy.lt;clear hb hfy hb3 HFX HB2 HAT HRU;go_wp2_with fail;refine (HEN.out _).mono ?_;rintro o w3 ⟨rfl,hb⟩;have HB4:=Lib.hid (HB3.out.trans (hb.mono HB3.out.size));have hly:=HLY.out.below hb HLY.out.lt;have l0:=hly.cell 0 (v:=.int .i64 3600) rfl;have l1:=hly.cell 1 (v:=.bool false) rfl;have l2:=hly.cell 2 (v:=.string ⟨#[67,69,84]⟩) rfl;have ll:=hly.lt;clear hb hly fc0 fc1 fc2 fc3 fc4 fc5 fl;go_wp2_with fail;go_ret;exact ⟨rfl,HB4.out⟩
end
section -- EnvA
open Go Go.RowKit
section
variable {P:Program} {n:Nat} {ops:Array Oper}
def envAB (ops:Array Oper) (D:List Nat) (al st:Nat):Bool :=
 envSB ops D st && decide (al < ops.size) && decide (al ≠ st) && (match ops[st]? with | some o=>o.after.any fun e=>Region.binds .any e && e.on == al | none=>false)
def EnvAStep (P:Program) (ops:Array Oper) (fin:Value→Act) (w0:World) (t:TypeId) (zs cs:Array Value) (o:Oper) (v:Value):Bool→Bool→Prop
 | true,_=>(∀ p,Region.wanted o (yielded ops (fin p).tmps) = true)∧∀ p w,Below w0.heap.size w0 w→(execOp (fin p).eval o).run P w = .ok (.value (.pointer (some ⟨w.heap.size,0,none⟩))) (w.alloc (.cells zs t))
 | false,true=>(∀ p,Region.wanted o (yielded ops (fin p).tmps) = true)∧∀ b w,Blk w b t zs→∃ w',(execOp (fin (.pointer (some ⟨b,0,none⟩))).eval o).run P w = .ok .skip w'∧Fr (fun k=>k = b) w w'∧Blk w' b t cs
 | false,false=>∀ p,EnvStep P ops (fin p) w0 o v
def EnvASteps (P:Program) (ops:Array Oper) (fin:Value→Act) (w0:World) (t:TypeId) (zs cs:Array Value) (al st:Nat):Nat→List Oper→List Value→Prop
 | k,o :: l,v :: V=>EnvAStep P ops fin w0 t zs cs o v (k == al) (k == st)∧EnvASteps P ops fin w0 t zs cs al st (k + 1) l V
 | _,[],[]=>True
 | _,_,_=>False
theorem envASteps_at {fin:Value→Act} {w0:World} {t:TypeId} {zs cs:Array Value} {al st:Nat}:∀ {l:List Oper} {V:List Value} {k:Nat},EnvASteps P ops fin w0 t zs cs al st k l V→∀ {j:Nat} {o:Oper},l[j]? = some o→EnvAStep P ops fin w0 t zs cs o (V.getD j undef) (k + j == al) (k + j == st)
 | [],_,_,_,_,_,h=>by simp at h
 | _ :: _,[],_,hs,_,_,_=>hs.elim
 | x :: l,v :: V,k,hs,0,o,h=>by
   simp only [List.getElem?_cons_zero,Option.some.injEq] at h;subst h;exact hs.1
 | x :: l,v :: V,k,hs,j + 1,o,h=>by
   rw [List.getElem?_cons_succ] at h;have:=envASteps_at hs.2 h;rw [show k + 1 + j = k + (j + 1) by omega] at this;simpa using this
theorem envASteps_len {fin:Value→Act} {w0:World} {t:TypeId} {zs cs:Array Value} {al st:Nat}:∀ {l:List Oper} {V:List Value} {k:Nat},EnvASteps P ops fin w0 t zs cs al st k l V→V.length = l.length
 | [],[],_,_=>rfl
 | [],_ :: _,_,h=>h.elim
 | _ :: _,[],_,h=>h.elim
 | _ :: l,_ :: V,_,h=>by simp [envASteps_len h.2]
theorem getD_setU {V:List Value} {al i:Nat} (p:Value) (h:al < V.length):(V.set al p).getD i undef = if al = i then p else V.getD i undef:=by
 rw [List.getD_eq_getElem?_getD,List.getElem?_set,List.getD_eq_getElem?_getD]
 split
 ·rename_i e;subst e
  rfl
 ·rfl
def EnvAI (w:World) (D:List Nat) (V:List Value) (t:TypeId) (zs cs:Array Value) (al st:Nat) (L:Nat→Bool) (x:Nat→Value) (w':World):Prop :=
 Below w.heap.size w w'∧∃ p,(∀ i,i < D.length→L i = true→x (D.getD i 0) = (V.set al p).getD i undef)∧(L al = true→∃ b,p = .pointer (some ⟨b,0,none⟩)∧w.heap.size ≤ b∧Blk w' b t (if L st = true then cs else zs))∧(L al = false→L st = false)
theorem wpIn_envA {F:Fence} (hF:Wide F) {id:Nat} {l:List Oper} {Q:Exit→Act→World→Prop} {a:Act} {w:World} (hm:P.follows .mixedOrders = true) (D:List Nat) (V:List Value) (al st:Nat) (t:TypeId) (zs cs:Array Value)
  (hb:envAB l.toArray D al st = true) (hsz:a.tmps.size ≤ D.getD st 0) (hstD:st < D.length) {fin:Value→Act} (hfin:∀ p,putAll a D (V.set al p) = fin p)
  (hstep:EnvASteps P l.toArray fin w t zs cs al st 0 l V) (hend:∀ b w',Below w.heap.size w w'→w.heap.size ≤ b→Blk w' b t cs→Q .normal (fin (.pointer (some ⟨b,0,none⟩))) w'):(Code.region id l.toArray true).wpIn F n P Q a w:=by
 unfold envAB at hb;simp only [Bool.and_eq_true,decide_eq_true_eq] at hb;obtain ⟨⟨⟨hb,hal⟩,hne⟩,hedge⟩:=hb;unfold envSB at hb;rw [Bool.and_eq_true] at hb;obtain ⟨hi,hb⟩:=hb;have hi':=hi;simp only [invB,Bool.and_eq_true,decide_eq_true_eq] at hi';obtain ⟨⟨-,hlen⟩,hnd⟩:=hi';have hV:V.length = D.length:=by rw [envASteps_len hstep,hlen];simp
 have halV:al < V.length:=by rw [hV,hlen];exact hal
 have hfinp:∀ p,frameOf a D (valOf D (V.set al p)) = fin p:=fun p=>by
  rw [← hfin];exact putAll_eq D _ a _ (by rw [List.length_set];exact hV) fun i hi=>by unfold valOf;rw [idxOf_getD hnd hi]
 refine wpIn_inv hm D (EnvAI w D V t zs cs al st) hi (fun x=>⟨(Below.refl _ _).drew,undef,(fun i _ h=>by cases h),(fun h=>by cases h),fun _=>rfl⟩) ?_ ?_
 ·have main:∀ (i:Nat) (o:Oper),l[i]? = some o→StepI F n P l.toArray a D (EnvAI w D V t zs cs al st) i o:=by
   intro k o hlk L x w1 R hI hsh hLk hr hR;obtain ⟨hbw,p,hx,hblk,hord⟩:=hI;have hkl:k < l.length:=(List.getElem?_eq_some_iff.1 hlk).1;have ho:l.toArray[k]? = some o:=by simpa using hlk
   have hkD:k < D.length:=by rw [hlen];simpa using hkl
   have hst1:=envASteps_at hstep hlk;rw [Nat.zero_add] at hst1;have hb1:=List.all_eq_true.1 hb k (List.mem_range.2 (by simpa using hkl));rw [ho] at hb1;simp only [Bool.and_eq_true] at hb1;obtain ⟨⟨hop,hdst⟩,hlook⟩:=hb1;have hndf:∀ c,o.op ≠ .defer c:=fun c hc=>by rw [hc] at hop;cases hop
   have hnsl:∀ cs b,o.op ≠ .select cs b:=fun c b hc=>by rw [hc] at hop;cases hop
   have hsame:∀ s,s ∈ o.looksAt l.toArray→(frameOf a D x).tmps[s]? = (fin p).tmps[s]?:=by
    intro s hs;rw [← hfinp,frameOf_tmps,frameOf_tmps]
    by_cases hD:s ∈ D
    ·have:=List.all_eq_true.1 hlook s hs;rw [Bool.or_eq_true] at this
     rcases this with h | h
     ·simp [hD] at h
     ·obtain ⟨j,hj,hj2⟩:=List.any_eq_true.1 h;rw [Bool.and_eq_true] at hj2;obtain ⟨hjs,hje⟩:=hj2;have hjs:D.getD j 0 = s:=by simpa using hjs
      have hjk:=List.mem_range.1 hj;have h1:=hx j (by omega) (hr j hje);rw [hjs] at h1
      have h2:x s = valOf D (V.set al p) s:=by
       have e:D.idxOf s = j:=by rw [← hjs];exact idxOf_getD hnd (by omega)
       unfold valOf;rw [e];exact h1
      rw [h2]
    ·simp [hD]
   have hev:∀ y ∈ o.op.operands,(frameOf a D x).eval y = (fin p).eval y:=by
    intro y hy
    cases y with
    | tmp s =>
      have h1:=hsame s (List.mem_append_left _ (List.mem_filterMap.2 ⟨.tmp s,by simpa using hy,rfl⟩))
      show (frameOf a D x).tmps.getD s undef = (fin p).tmps.getD s undef
      simp only [Array.getD_eq_getD_getElem?,h1]
    | _=>rfl
   have hex:=execOp_congr (ρ:=(frameOf a D x).eval) (ρ':=(fin p).eval) o hnsl hev
   have hwa:Region.wanted o (yielded l.toArray (frameOf a D x).tmps) = Region.wanted o (yielded l.toArray (fin p).tmps):=by
    unfold Region.wanted
    cases hg:o.guard with
    | none=>rfl
    | some g =>
      obtain ⟨g,b⟩:=g;dsimp only;unfold yielded
      cases hd:(l.toArray[g]?).bind (·.dst) with
      | none=>rfl
      | some d =>
        have h1:=hsame d (List.mem_append_right _ (by rw [hg];show d ∈ ((l.toArray[g]?).bind (·.dst)).toList;rw [hd];simp));simp only [Option.bind_some,h1]
   have hmem:D.getD k 0 ∈ D:=by rw [List.getD_eq_getElem?_getD,List.getElem?_eq_getElem hkD];exact List.getElem_mem hkD
   have hslot:∀ i,i < D.length→i ≠ k→D.getD i 0 ≠ D.getD k 0:=fun i hiD hik e=>by
    rw [List.getD_eq_getElem?_getD,List.getD_eq_getElem?_getD,List.getElem?_eq_getElem hiD,List.getElem?_eq_getElem hkD] at e;simp only [Option.getD_some] at e;have hpw:=List.pairwise_iff_getElem.1 hnd
    rcases Nat.lt_or_ge i k with h | h
    ·exact hpw i k hiD hkD h e
    ·exact hpw k i hkD hiD (by omega) e.symm
   have hmore:∀ i,i ≠ k→more L k i = L i:=fun i hik=>by unfold more;rw [decide_eq_false hik];rfl
   have hmk:more L k k = true:=by unfold more;simp
   unfold wpListIn;rw [hwa]
   by_cases hka:k = al
   ·subst hka;rw [beq_self_eq_true] at hst1;obtain ⟨h1,h2⟩:=hst1;rw [if_pos (h1 p)];refine ⟨fun f _=>hF.fn f,?_⟩;rw [Oper.semAt_plain F _ o hndf,hex,h2 p w1 hbw,Oper.uponIn_value];rw [if_neg hne] at hdst;have hdst:o.dst = some (D.getD k 0):=by simpa using hdst
    rw [hdst,frameOf_put D x a _ hmem];have hLs:L st = false:=hord hLk;refine hR _ _ ⟨hbw.alloc hbw.size _,.pointer (some ⟨w1.heap.size,0,none⟩),fun i hiD hm=>?_,fun _=>⟨_,rfl,hbw.size,?_⟩,fun h=>?_⟩
    ·rw [getD_setU _ halV]
     by_cases hik:i = k
     ·subst hik;rw [upd_same,if_pos rfl]
     ·rw [hmore i hik] at hm;have h3:=hx i hiD hm;rw [getD_setU _ halV,if_neg (fun e=>hik e.symm)] at h3;rw [upd_other x _ (hslot i hiD hik),if_neg (fun e=>hik e.symm),h3]
    ·rw [hmore st (fun e=>hne e.symm),hLs,if_neg (by decide)];exact Blk.new w1 t zs
    ·rw [hmk] at h;cases h
   ·rw [show (k == al) = false by simpa using hka] at hst1;have hma:more L k al = L al:=hmore al (fun e=>hka e.symm)
    by_cases hks:k = st
    ·subst hks;rw [beq_self_eq_true] at hst1;obtain ⟨h1,h2⟩:=hst1
     have hLa:L al = true:=by
      rw [ho] at hedge;exact hr al hedge
     obtain ⟨b,rfl,hbb,hB⟩:=hblk hLa;rw [hLk,if_neg (by decide)] at hB;rw [if_pos (h1 _)];refine ⟨fun f _=>hF.fn f,?_⟩;obtain ⟨w',hrun,hfr,hB'⟩:=h2 b w1 hB;rw [Oper.semAt_plain F _ o hndf,hex,hrun];rw [if_pos rfl] at hdst;have hdn:o.dst = none:=by simpa using hdst
     rw [Oper.uponIn_skip,hdn]
     have e:(frameOf a D x).put none undef = frameOf a D (upd x (D.getD k 0) (V.getD k undef)):=by
      show frameOf a D x = _
      have h1:(frameOf a D x).tmps = (frameOf a D (upd x (D.getD k 0) (V.getD k undef))).tmps:=by
       apply Array.ext_getElem?;intro s;rw [frameOf_tmps,frameOf_tmps]
       by_cases hs:s < a.tmps.size
       ·rw [upd_other x _ (show s ≠ D.getD k 0 by omega)]
       ·simp [hs]
      have h2:(frameOf a D x).defers = (frameOf a D (upd x (D.getD k 0) (V.getD k undef))).defers:=by rw [frameOf_defers,frameOf_defers]
      generalize frameOf a D x = p1 at h1 h2;generalize frameOf a D (upd x (D.getD k 0) (V.getD k undef)) = q1 at h1 h2
      cases p1
      cases q1
      simp only at h1 h2;subst h1 h2
      rfl
     rw [e];refine hR _ _ ⟨hbw.trans (hfr.below hbw.size (fun j hj e=>by omega)),.pointer (some ⟨b,0,none⟩),fun i hiD hm=>?_,fun _=>⟨b,rfl,hbb,?_⟩,fun h=>?_⟩
     ·by_cases hik:i = k
      ·subst hik;rw [upd_same,getD_setU _ halV,if_neg (fun e=>hka e.symm)]
      ·rw [hmore i hik] at hm;rw [upd_other x _ (hslot i hiD hik)];exact hx i hiD hm
     ·rw [hmk,if_pos rfl];exact hB'
     ·rw [hma,hLa] at h;cases h
    ·rw [show (k == st) = false by simpa using hks] at hst1;have hms:more L k st = L st:=hmore st (fun e=>hks e.symm);rw [if_neg hks] at hdst;have hdst:o.dst = some (D.getD k 0):=by simpa using hdst
     have hput:∀ v,(frameOf a D x).put o.dst v = frameOf a D (upd x (D.getD k 0) v):=fun v=>by
      rw [hdst];exact frameOf_put D x a _ hmem v
     have hvk:(V.set al p).getD k undef = V.getD k undef:=by rw [getD_setU _ halV,if_neg (fun e=>hka e.symm)]
     have hnew:∀ w',Below w1.heap.size w1 w'→EnvAI w D V t zs cs al st (more L k) (upd x (D.getD k 0) (V.getD k undef)) w':=fun w' hb'=>by
      refine ⟨hbw.trans (hb'.mono hbw.size),p,fun i hiD hm=>?_,fun h=>?_,fun h=>?_⟩
      ·by_cases hik:i = k
       ·subst hik;rw [upd_same,hvk]
       ·rw [hmore i hik] at hm;rw [upd_other x _ (hslot i hiD hik)];exact hx i hiD hm
      ·rw [hma] at h;obtain ⟨b,hp,hbb,hB⟩:=hblk h;refine ⟨b,hp,hbb,?_⟩;rw [hms];exact hB.below hb' hB.lt
      ·rw [hma] at h;rw [hms];exact hord h
     rcases hst1 p with ⟨h1,h2⟩ | ⟨h1,h2⟩
     ·rw [if_neg (by rw [h1];simp)];refine ⟨fun f _=>hF.fn f,?_⟩;rw [hput,← h2];exact hR _ _ (hnew w1 (Below.refl _ _))
     ·rw [if_pos h1];refine ⟨fun f _=>hF.fn f,?_⟩;rw [Oper.semAt_plain F _ o hndf,hex];have h3:=h2 w1 hbw;generalize (execOp (fin p).eval o).run P w1 = r at h3
      cases r with
      | halt hh w'=>exact h3.elim
      | ok nx w' =>
        cases nx with
        | value u =>
          obtain ⟨rfl,hb'⟩:=h3;rw [Oper.uponIn_value,hput];exact hR _ _ (hnew w' hb')
        | enter f args =>
          obtain ⟨rfl,hc⟩:=h3;rw [Oper.uponIn_enter];refine ⟨(fun h=>by rw [hF.depth] at h;cases h),(hF.calls hc).mono ?_⟩;rintro e w'' ⟨rfl,hb'⟩
          show wpListIn F n P l.toArray _ [] ((frameOf a D x).put o.dst (V.getD k undef)) w''
          rw [hput];exact hR _ _ (hnew w'' hb')
        | _=>exact h3.elim
  have all:∀ (m:List Oper) (k:Nat),(∀ j,m[j]? = l[k + j]?)→StepsI F n P l.toArray a D (EnvAI w D V t zs cs al st) k m:=by
   intro m
   induction m with
   | nil=>intro k _;trivial
   | cons o m ih =>
     intro k hk;exact ⟨main k o (by simpa using (hk 0).symm),ih (k + 1) fun j=>by have:=hk (j + 1);simpa [Nat.add_assoc,Nat.add_comm 1 j] using this⟩
  exact all l 0 fun j=>by simp
 ·rintro x w' L hL ⟨h1,p,h2,h3,-⟩;obtain ⟨b,rfl,hbb,hB⟩:=h3 (hL al (by simpa using hal));rw [hL st (by omega),if_pos rfl] at hB
  have e:frameOf a D x = fin (.pointer (some ⟨b,0,none⟩)):=by
   rw [← hfinp];refine frameOf_congr D _ _ a fun s hs=>?_
   obtain ⟨j,hj,rfl⟩:=List.getElem_of_mem hs;have h4:=h2 j hj (hL j (by omega));rw [List.getD_eq_getElem?_getD,List.getElem?_eq_getElem hj] at h4;have h4:x D[j] = (V.set al (.pointer (some ⟨b,0,none⟩))).getD j undef:=h4;unfold valOf;rw [List.Nodup.idxOf_getElem hnd j hj];exact h4
  rw [e];exact hend b w' h1 hbb hB
theorem wp_envA {id:Nat} {l:List Oper} {Q:Exit→Act→World→Prop} {a:Act} {w:World} (hm:P.follows .mixedOrders = true) (D:List Nat) (V:List Value) (al st:Nat) (t:TypeId) (zs cs:Array Value)
  (hb:envAB l.toArray D al st = true) (hsz:a.tmps.size ≤ D.getD st 0) (hstD:st < D.length) {fin:Value→Act} (hfin:∀ p,putAll a D (V.set al p) = fin p)
  (hstep:EnvASteps P l.toArray fin w t zs cs al st 0 l V) (hend:∀ b w',Below w.heap.size w w'→w.heap.size ≤ b→Blk w' b t cs→Q .normal (fin (.pointer (some ⟨b,0,none⟩))) w'):(Code.region id l.toArray true).wp P Q a w :=
 (wpIn_wide (n:=8)).1 (wpIn_envA wide0 hm D V al st t zs cs hb hsz hstD hfin hstep hend)
end
end
section -- HRat
open Go Go.RowKit Go.Shelf
def RowsB (W:World) (B:Nat) (u:Value) (R:List RowF):Prop:=Sl W B 2 u R.length (R.flatMap RowF.cells)∧∀ r ∈ R,Fris W B r.v r.D
theorem RowsM.toB {W:World} {u:Value} {R:List RowF} (h:RowsM W u R):RowsB W W.heap.size u R:=⟨h.1,fun r hr=>(h.2 r hr).1⟩
theorem RowsB.below {W W':World} {B:Nat} {u:Value} {R:List RowF} (h:RowsB W B u R) (hb:Below B W W'):RowsB W' B u R:=⟨h.1.below hb,fun r hr=>(h.2 r hr).below hb⟩
theorem RowsB.form {W:World} {B:Nat} {u:Value} {R:List RowF} (h:RowsB W B u R):∃ A c,u = .slice A R.length c∧R.length ≤ c∧c ≤ maxLen:=by
 obtain ⟨A,c,e,h1,h2,-⟩:=h.1;exact ⟨A,c,e,h1,h2⟩
theorem RowsB.cells {W:World} {B:Nat} {u:Value} {R:List RowF} (h:RowsB W B u R) (hl:0 < R.length):∃ b o c,u = .slice (some ⟨b,o,none⟩) R.length c∧b < B∧∀ i (hi:i < R.length),W.cell? ⟨b,o + i * 2,none⟩ = some R[i].v∧W.cell? ⟨b,o + i * 2 + 1,none⟩ = some (.string R[i].letter):=by
 obtain ⟨b,o,c,e,hb,hc⟩:=h.1.at_ hl;refine ⟨b,o,c,e,hb,fun i hi=>?_⟩
 have hlen:∀ L:List RowF,(L.flatMap RowF.cells).length = L.length * 2:=fun L=>by
  induction L with
  | nil=>rfl
  | cons x L ih=>rw [List.flatMap_cons,List.length_append,ih,List.length_cons];simp [RowF.cells];omega
 have hk:∀ k,k < 2→(R.flatMap RowF.cells)[i * 2 + k]? = (R[i].cells)[k]?:=fun k hk=>by
  conv=>lhs;rw [← List.take_append_drop i R,List.drop_eq_getElem_cons hi,List.flatMap_append,List.flatMap_cons]
  rw [List.getElem?_append_right (by rw [hlen,List.length_take];omega),hlen,List.length_take,Nat.min_eq_left (by omega),Nat.add_sub_cancel_left,List.getElem?_append_left (by simp [RowF.cells];omega)]
 exact ⟨hc _ _ (by have:=hk 0 (by omega);rw [Nat.add_zero] at this;rw [this];rfl),by have:=hc (i * 2 + 1) _ (by rw [hk 1 (by omega)];rfl);rwa [← Nat.add_assoc] at this⟩
theorem rat_any (w:World) (zn:ByteArray) (ev u v:Value) (B:Nat) (l:List EraF) (S:List SetF) (R:List RowF) (i:Int) (he:ErasR w B ev l) (hR:RowsB w B u R) (hE:Nums w B v (endL S l)) (hB:B ≤ w.heap.size) (hf:FewZ S l) (hr:RowsZ S l R) (hlet:∀ s ∈ S,letOk s.l) :
  Calls Tryz.prog 33 #[zoneA zn ev,u,v,.int .i64 i] w fun o w'=>o = .returned (locA (refZ S l R i))∧Below w.heap.size w w':=by
 obtain ⟨A,cA,rfl,hlc,hcm⟩:=he.form;obtain ⟨A2,cR,rfl,hlc2,hcm2⟩:=hR.form;obtain ⟨EL,hEL⟩:∃ E,endL S l = E:=⟨_,rfl⟩;have HELEN:=Lib.hid (show EL.length + 1 = l.length by rw [← hEL,length_endL];have:=hf.pos;omega);rw [hEL] at hE;obtain ⟨A3,cE,rfl,hlc3,hcm3⟩:=hE.form;unfold maxLen at hcm hcm2 hcm3;have HEL:=Lib.hid hEL;have hxx:=Blk.new w 24 #[.string zn,.slice A l.length cA];obtain ⟨W0,hW0⟩:∃ W,((w.alloc (.cells #[.string zn,.slice A l.length cA] 24)).alloc (.cells #[.int .i64 0,.bool false,.string ⟨#[]⟩] 48)) = W:=⟨_,rfl⟩;have HB0:=Lib.hid (show Below w.heap.size w W0 by rw [← hW0];exact ((Below.refl w.heap.size w).alloc (Nat.le_refl _) _).alloc (by simp) _);have HXX:=Lib.hid (show Blk W0 w.heap.size 24 #[.string zn,.slice A l.length cA] by rw [← hW0];exact hxx.alloc _)
 have HRR:=Lib.hid (show Blk W0 (w.heap.size + 1) 48 #[.int .i64 0,.bool false,.string ⟨#[]⟩] by
  rw [← hW0]
  have h:=Blk.new (w.alloc (.cells #[.string zn,.slice A l.length cA] 24)) 48 #[.int .i64 0,.bool false,.string ⟨#[]⟩]
  simpa only [World.size_alloc] using h)
 have HE0:=Lib.hid he;have HRB:=Lib.hid hR;have HNE:=Lib.hid hE;have HF:=Lib.hid hf;have HRZ:=Lib.hid hr;have HLET:=Lib.hid hlet;have HW0:=Lib.hid hW0;clear he hR hE hf hr hlet hxx hEL hW0;unfold zoneA;go_enter Tryz.func33,Tryz.ntmps33;go_wp2_with fail;rw [HW0.out];try simp only [HW0.out]
 clear HW0
 go_loopw [9] (fun iv wr=>∃ m:Nat,m ≤ EL.length∧iv = .int .i64 m∧(∀ j (h:j < EL.length),j < m→EL[j] ≤ i)∧Below W0.heap.size W0 wr) (fun iv _=>EL.length - (intOf iv).toNat)
 case atStart=>exact ⟨0,Nat.zero_le _,rfl,fun j _ h=>absurd h (by omega),Below.refl _ _⟩
 case round =>
  obtain ⟨m,hm,rfl,hno,hbq⟩:=hrel;have HNO:=Lib.hid hno;have HBL:=Lib.hid hbq;have HBQ:=Lib.hid (HB0.out.trans (hbq.mono HB0.out.size));have hwsq:=hbq.size;clear hno hbq
  by_cases hlt2:m < EL.length
  ·have hd3:decide ((m:Int) < (EL.length:Int)) = true:=decide_eq_true (by omega);obtain ⟨b4,o4,c4',e,hb4,hc4⟩:=(Nums.below HNE.out (HBQ.out.mono hB)).cells (by omega)
   cases e
   have e4:=hc4 m hlt2;have hb4q:b4 < wr.heap.size:=by have:=HBQ.out.size;omega
   obtain ⟨n,hn⟩:∃ n:Int,EL[m]'hlt2 = n:=⟨_,rfl⟩;rw [hn] at e4;have HNN:=Lib.hid (fun (_:m < EL.length)=>hn);clear hc4 hn
   by_cases hle:n ≤ i
   ·have hdl2:decide (n ≤ i) = true:=decide_eq_true hle;have HLE:=Lib.hid hle;clear hle;go_wp2_with fail;go_roundw
    case rel =>
     refine ⟨m + 1,by omega,by go_num,fun j h hjm=>?_,HBL.out⟩
     rcases Nat.lt_or_ge j m with g | g
     ·exact HNO.out j h g
     ·obtain rfl:j = m:=by omega
      rw [HNN.out h];exact HLE.out
    case measure=>first | (simp [intOf];done) | (simp [intOf];omega)
   ·have hdl2:decide (n ≤ i) = false:=decide_eq_false hle;have HKI:=Lib.hid (show eraI (endL S l) i = m by rw [HEL.out];exact eraI_loop (by omega) HNO.out (fun h=>by rw [HNN.out h];exact hle));clear hle;have hml:m < l.length:=by have:=HELEN.out;omega
    have hmR:m < R.length:=by rw [HRZ.out.len];exact hml
    have hok:=HRZ.out.ok m hmR hml;have hrm:Fris w B R[m].v R[m].D:=HRB.out.2 _ (List.getElem_mem hmR);have hfx:=(fewB_iff.1 HF.out.few).1 _ (List.getElem_mem hml);have hof:=HF.out.off hml;have hsv:=HF.out.save hml;have hcut:=cutI_spec hok.right hof (i + 1)
    have hrf:refZ S l R i = locR l[m] (R[m].D.map FrI.f) R[m].letter i:=by
     unfold refZ;rw [HKI.out,List.getD_eq_getElem?_getD,List.getElem?_eq_getElem hml,List.getD_eq_getElem?_getD,List.getElem?_eq_getElem hmR]
     rfl
    have hsm:=rsaves_small hok.right hsv l[m].ru R[m].letter hcut.1;have hlt:=rsaves_let hok.right (ZOk.ruleL HLET.out l[m]) l[m].n l[m].ru (cutI (R[m].D.map FrI.f) l[m].n.off (i + 1));rw [← hok.letter] at hlt;obtain ⟨bb,o,c',e,hbb,hc⟩:=((HE0.out.below (HBQ.out.mono hB))).cells (by omega)
    cases e
    have hx:=hc m hml;obtain ⟨br,orr,cr',e,hbr,hcr⟩:=(HRB.out.below (HBQ.out.mono hB)).cells (by omega)
    cases e
    obtain ⟨rc0,rc1⟩:=hcr m hmR;obtain ⟨x,hxk⟩:∃ x,l[m] = x:=⟨_,rfl⟩;obtain ⟨r,hrk⟩:∃ r,R[m] = r:=⟨_,rfl⟩;rw [hxk] at hx hok hfx hof hsv hcut hrf hsm hlt;rw [hrk] at rc0 rc1 hok hrm hcut hrf hsm hlt;have hsz:=HBQ.out.size;have HRW:=Lib.hid (fun (W:World) (h:Below w.heap.size w W)=>rwithin_any W x.n x.ru x.fm x.en B r.v r.D r.letter (hrm.below (h.mono hB)) (Nat.le_trans hB h.size) hok.len hok.bd i _ (fun _=>hcut) (by have:=eraFew_fm hfx;omega) (by omega) ⟨by omega,hlt⟩);unfold locR at hrf;obtain ⟨⟨sv,lt⟩,hsl⟩:∃ q,rsavesV x.n x.ru (r.D.map FrI.f) r.letter (cutI (r.D.map FrI.f) x.n.off (i + 1)) = q:=⟨_,rfl⟩;rw [hsl] at hrf HRW;obtain ⟨⟨s,e'⟩,hsh⟩:∃ q,showV x.fm (x.n.off + sv) (dstB sv) lt = q:=⟨_,rfl⟩;simp only at hrf HRW;rw [hsh] at hrf HRW;obtain ⟨yb,hyb⟩:∃ yb,decide (e' = 0) = yb:=⟨_,rfl⟩;simp only at hrf HRW;rw [hyb] at HRW;have HRF:=Lib.hid hrf;obtain ⟨A9,c9,hv9,-,-⟩:=hrm.form;rw [hv9] at HRW rc0;unfold eraA at HRW;obtain ⟨po,hpo⟩:∃ y,x.n.off + sv = y:=⟨_,rfl⟩;obtain ⟨pd,hpd⟩:∃ y,dstB sv = y:=⟨_,rfl⟩;rw [hpo,hpd] at HRW HRF;have hbbq:bb < wr.heap.size:=by omega
    have hbrq:br < wr.heap.size:=by omega
    obtain ⟨c0,c1,c2,c3,c4_,c5_,c6_,c7,c8,c9_,c10,c11⟩:=hx;have HCC:=Lib.hid (fun (W:World) (h:Below wr.heap.size wr W)=>show EraCc W bb (o + m * 12) x from ⟨(h.cell (p:=⟨bb,o + m * 12,none⟩) hbbq).trans c0,(h.cell (p:=⟨bb,o + m * 12 + 1,none⟩) hbbq).trans c1,(h.cell (p:=⟨bb,o + m * 12 + 2,none⟩) hbbq).trans c2,(h.cell (p:=⟨bb,o + m * 12 + 3,none⟩) hbbq).trans c3,(h.cell (p:=⟨bb,o + m * 12 + 4,none⟩) hbbq).trans c4_,(h.cell (p:=⟨bb,o + m * 12 + 5,none⟩) hbbq).trans c5_,(h.cell (p:=⟨bb,o + m * 12 + 6,none⟩) hbbq).trans c6_,(h.cell (p:=⟨bb,o + m * 12 + 7,none⟩) hbbq).trans c7,(h.cell (p:=⟨bb,o + m * 12 + 8,none⟩) hbbq).trans c8,(h.cell (p:=⟨bb,o + m * 12 + 9,none⟩) hbbq).trans c9_,(h.cell (p:=⟨bb,o + m * 12 + 10,none⟩) hbbq).trans c10,(h.cell (p:=⟨bb,o + m * 12 + 11,none⟩) hbbq).trans c11⟩);have HRC:=Lib.hid (fun (W:World) (h:Below wr.heap.size wr W)=>And.intro ((h.cell (p:=⟨br,orr + m * 2,none⟩) hbrq).trans rc0) ((h.cell (p:=⟨br,orr + m * 2 + 1,none⟩) hbrq).trans rc1));have hmcl:(m:Int) < (l.length:Int):=by omega
    have hmcR:(m:Int) < (R.length:Int):=by omega
    have hdl:decide (m < l.length) = true:=decide_eq_true hml;have hdR:decide (m < R.length) = true:=decide_eq_true hmR;clear hok hrm hfx hof hsv hcut hrf hsm hlt hc hcr hxk hrk hsl hsh hyb hv9 hpo hpd c0 c1 c2 c3 c4_ c5_ c6_ c7 c8 c9_ c10 c11 rc0 rc1;go_wp2_with fail
    refine wp_envA (fin:=?fnza) (by kernel_rfl) [27,28,29,30,31,32,33,34,35,36,37,26,38,39,10,999,11]
     [.pointer (some ⟨w.heap.size,1,none⟩),.slice (some ⟨bb,o,none⟩) l.length cA,.int .i64 m,.pointer (some ⟨bb,o + m * 12,none⟩),.agg #[.int .i64 x.n.off,.string x.ru,.int .i64 x.n.save,.string x.fm,.bool x.en,.int .i64 x.n.year,.int .i64 x.n.month,.int .i64 x.n.dk,.int .i64 x.n.dw,.int .i64 x.n.dn,.int .i64 x.n.sec,.int .i64 x.n.ak],.slice (some ⟨br,orr,none⟩) R.length cR,.int .i64 m,.pointer (some ⟨br,orr + m * 2,none⟩),.agg #[.slice A9 r.D.length c9,.string r.letter],.int .i64 i,.tuple #[.agg #[.int .i64 po,.bool pd,.string s],.bool yb],.tuple #[.agg #[.int .i64 po,.bool pd,.string s],.bool yb],.agg #[.int .i64 po,.bool pd,.string s],.bool yb,undef,undef,.bool yb] 14 15 48 #[.int .i64 0,.bool false,.string ⟨#[]⟩] #[.int .i64 po,.bool pd,.string s] (by kernel_rfl) (by simp) (by decide) ?finza ?stepsza ?nextza
    case finza =>
     intro p_;simp only [List.set_cons_succ,List.set_cons_zero,putAll,Act.put,List.setIfInBounds_toArray,List.set_nil]
     rfl
    case stepsza =>
     refine ⟨?_,?_,?_,?_,?_,?_,?_,?_,?_,?_,?_,?_,?_,?_,?alza,?stza,?_,trivial⟩
     case alza =>
      refine ⟨fun p_=>by kernel_rfl,fun p_ w1_ hB_=>?_⟩
      first | rfl | (go_simp;done) | (go_simp;rfl)
     case stza =>
      refine ⟨fun p_=>by kernel_rfl,fun b_ w1_ hb_=>⟨(((w1_.setCell ⟨b_,0,none⟩ (.int .i64 po)).setCell ⟨b_,1,none⟩ (.bool pd)).setCell ⟨b_,2,none⟩ (.string s)),?_,((Fr.setCell (T:=fun k=>k = b_) w1_ 0 (.int .i64 po) rfl).then (Fr.setCell _ 1 _ rfl)).then (Fr.setCell _ 2 _ rfl),(((hb_.set 0 (.int .i64 po)).set 1 (.bool pd)).set 2 (.string s))⟩⟩;have f0_:=Blk.frozen hb_ 0;have f1_:=Blk.frozen hb_ 1;have f2_:=Blk.frozen hb_ 2;have z0_:=Blk.cell hb_ 0 (v:=.int .i64 0) rfl;have z1_:=Blk.cell hb_ 1 (v:=.bool false) rfl;have z2_:=Blk.cell hb_ 2 (v:=.string ⟨#[]⟩) rfl;go_simp;try rfl
     all_goals
      intro p_;refine .inr ⟨by kernel_rfl,fun w1_ hB_=>?_⟩;have hBq_:=hB_;have hB6_:=HBQ.out.trans (hBq_.mono HBQ.out.size);have hxb_:=HXX.out.below (HBL.out.trans (hBq_.mono HBL.out.size)) HXX.out.lt;have x0_:=hxb_.cell 0 (v:=.string zn) rfl;have x1_:=hxb_.cell 1 (v:=.slice (some ⟨bb,o,none⟩) l.length cA) rfl;obtain ⟨c0_,c1_,c2_,c3_,c4_,c5_,c6_,c7_,c8_,c9_,c10_,c11_⟩:=HCC.out _ hBq_;obtain ⟨rc0_,rc1_⟩:=HRC.out _ hBq_;go_simp
      first
       | exact ⟨rfl,Below.refl _ _⟩
       | exact ⟨rfl,HRW.out _ hB6_⟩
       | ((first | rw [decide_eq_true (by omega)] | rw [decide_eq_false (by omega)] | rw [if_pos (by omega)] | rw [IntWalk.i64_in _ (by omega)]);exact ⟨rfl,Below.refl _ _⟩)
       | done
    case nextza =>
    intro xc w10 hb10 hxc hX10;have HB10:=Lib.hid hb10;have HB11:=Lib.hid (HBQ.out.trans (HB10.out.mono HBQ.out.size));have hr10:=HRR.out.below (HBL.out.trans (HB10.out.mono HBL.out.size)) HRR.out.lt;have HR10:=Lib.hid hr10;have hx0:=hX10.cell 0 (v:=.int .i64 po) rfl;have hx1:=hX10.cell 1 (v:=.bool pd) rfl;have hx2:=hX10.cell 2 (v:=.string s) rfl;have f0:=hr10.frozen 0;have f1:=hr10.frozen 1;have f2:=hr10.frozen 2;have z0:=hr10.cell 0 (v:=.int .i64 0) rfl;have z1:=hr10.cell 1 (v:=.bool false) rfl;have z2:=hr10.cell 2 (v:=.string ⟨#[]⟩) rfl;have hxl:=hX10.lt;have hrl:=hr10.lt;clear hb10 hxc hr10 hX10;go_wp2_with fail;have HZ:=Lib.hid (((HR10.out.set 0 (.int .i64 po)).set 1 (.bool pd)).set 2 (.string s));have q0:=HZ.out.cell 0 (v:=.int .i64 po) rfl;have q1:=HZ.out.cell 1 (v:=.bool pd) rfl;have q2:=HZ.out.cell 2 (v:=.string s) rfl;refine bodyPost_ret (v:=.agg #[.int .i64 po,.bool pd,.string s]) ?_ rfl ⟨by rw [HRF.out];rfl,below_set3 HB11.out (by omega) _ _ _⟩;simp [results,Tryz.f33,go_sem,q0,q1,q2]
  ·have hd3:decide ((m:Int) < (EL.length:Int)) = false:=decide_eq_false (by omega);have HKI:=Lib.hid (show eraI (endL S l) i = m by rw [HEL.out];exact eraI_loop (by omega) HNO.out (fun h=>absurd h (by omega)));have hml:m < l.length:=by have:=HELEN.out;omega
   have hmR:m < R.length:=by rw [HRZ.out.len];exact hml
   have hok:=HRZ.out.ok m hmR hml;have hrm:Fris w B R[m].v R[m].D:=HRB.out.2 _ (List.getElem_mem hmR);have hfx:=(fewB_iff.1 HF.out.few).1 _ (List.getElem_mem hml);have hof:=HF.out.off hml;have hsv:=HF.out.save hml;have hcut:=cutI_spec hok.right hof (i + 1)
   have hrf:refZ S l R i = locR l[m] (R[m].D.map FrI.f) R[m].letter i:=by
    unfold refZ;rw [HKI.out,List.getD_eq_getElem?_getD,List.getElem?_eq_getElem hml,List.getD_eq_getElem?_getD,List.getElem?_eq_getElem hmR]
    rfl
   have hsm:=rsaves_small hok.right hsv l[m].ru R[m].letter hcut.1;have hlt:=rsaves_let hok.right (ZOk.ruleL HLET.out l[m]) l[m].n l[m].ru (cutI (R[m].D.map FrI.f) l[m].n.off (i + 1));rw [← hok.letter] at hlt;obtain ⟨bb,o,c',e,hbb,hc⟩:=((HE0.out.below (HBQ.out.mono hB))).cells (by omega)
   cases e
   have hx:=hc m hml;obtain ⟨br,orr,cr',e,hbr,hcr⟩:=(HRB.out.below (HBQ.out.mono hB)).cells (by omega)
   cases e
   obtain ⟨rc0,rc1⟩:=hcr m hmR;obtain ⟨x,hxk⟩:∃ x,l[m] = x:=⟨_,rfl⟩;obtain ⟨r,hrk⟩:∃ r,R[m] = r:=⟨_,rfl⟩;rw [hxk] at hx hok hfx hof hsv hcut hrf hsm hlt;rw [hrk] at rc0 rc1 hok hrm hcut hrf hsm hlt;have hsz:=HBQ.out.size;have HRW:=Lib.hid (fun (W:World) (h:Below w.heap.size w W)=>rwithin_any W x.n x.ru x.fm x.en B r.v r.D r.letter (hrm.below (h.mono hB)) (Nat.le_trans hB h.size) hok.len hok.bd i _ (fun _=>hcut) (by have:=eraFew_fm hfx;omega) (by omega) ⟨by omega,hlt⟩);unfold locR at hrf;obtain ⟨⟨sv,lt⟩,hsl⟩:∃ q,rsavesV x.n x.ru (r.D.map FrI.f) r.letter (cutI (r.D.map FrI.f) x.n.off (i + 1)) = q:=⟨_,rfl⟩;rw [hsl] at hrf HRW;obtain ⟨⟨s,e'⟩,hsh⟩:∃ q,showV x.fm (x.n.off + sv) (dstB sv) lt = q:=⟨_,rfl⟩;simp only at hrf HRW;rw [hsh] at hrf HRW;obtain ⟨yb,hyb⟩:∃ yb,decide (e' = 0) = yb:=⟨_,rfl⟩;simp only at hrf HRW;rw [hyb] at HRW;have HRF:=Lib.hid hrf;obtain ⟨A9,c9,hv9,-,-⟩:=hrm.form;rw [hv9] at HRW rc0;unfold eraA at HRW;obtain ⟨po,hpo⟩:∃ y,x.n.off + sv = y:=⟨_,rfl⟩;obtain ⟨pd,hpd⟩:∃ y,dstB sv = y:=⟨_,rfl⟩;rw [hpo,hpd] at HRW HRF;have hbbq:bb < wr.heap.size:=by omega
   have hbrq:br < wr.heap.size:=by omega
   obtain ⟨c0,c1,c2,c3,c4_,c5_,c6_,c7,c8,c9_,c10,c11⟩:=hx;have HCC:=Lib.hid (fun (W:World) (h:Below wr.heap.size wr W)=>show EraCc W bb (o + m * 12) x from ⟨(h.cell (p:=⟨bb,o + m * 12,none⟩) hbbq).trans c0,(h.cell (p:=⟨bb,o + m * 12 + 1,none⟩) hbbq).trans c1,(h.cell (p:=⟨bb,o + m * 12 + 2,none⟩) hbbq).trans c2,(h.cell (p:=⟨bb,o + m * 12 + 3,none⟩) hbbq).trans c3,(h.cell (p:=⟨bb,o + m * 12 + 4,none⟩) hbbq).trans c4_,(h.cell (p:=⟨bb,o + m * 12 + 5,none⟩) hbbq).trans c5_,(h.cell (p:=⟨bb,o + m * 12 + 6,none⟩) hbbq).trans c6_,(h.cell (p:=⟨bb,o + m * 12 + 7,none⟩) hbbq).trans c7,(h.cell (p:=⟨bb,o + m * 12 + 8,none⟩) hbbq).trans c8,(h.cell (p:=⟨bb,o + m * 12 + 9,none⟩) hbbq).trans c9_,(h.cell (p:=⟨bb,o + m * 12 + 10,none⟩) hbbq).trans c10,(h.cell (p:=⟨bb,o + m * 12 + 11,none⟩) hbbq).trans c11⟩);have HRC:=Lib.hid (fun (W:World) (h:Below wr.heap.size wr W)=>And.intro ((h.cell (p:=⟨br,orr + m * 2,none⟩) hbrq).trans rc0) ((h.cell (p:=⟨br,orr + m * 2 + 1,none⟩) hbrq).trans rc1));have hmcl:(m:Int) < (l.length:Int):=by omega
   have hmcR:(m:Int) < (R.length:Int):=by omega
   have hdl:decide (m < l.length) = true:=decide_eq_true hml;have hdR:decide (m < R.length) = true:=decide_eq_true hmR;clear hok hrm hfx hof hsv hcut hrf hsm hlt hc hcr hxk hrk hsl hsh hyb hv9 hpo hpd c0 c1 c2 c3 c4_ c5_ c6_ c7 c8 c9_ c10 c11 rc0 rc1;go_wp2_with fail
   refine wp_envA (fin:=?fnzb) (by kernel_rfl) [27,28,29,30,31,32,33,34,35,36,37,26,38,39,10,999,11]
    [.pointer (some ⟨w.heap.size,1,none⟩),.slice (some ⟨bb,o,none⟩) l.length cA,.int .i64 m,.pointer (some ⟨bb,o + m * 12,none⟩),.agg #[.int .i64 x.n.off,.string x.ru,.int .i64 x.n.save,.string x.fm,.bool x.en,.int .i64 x.n.year,.int .i64 x.n.month,.int .i64 x.n.dk,.int .i64 x.n.dw,.int .i64 x.n.dn,.int .i64 x.n.sec,.int .i64 x.n.ak],.slice (some ⟨br,orr,none⟩) R.length cR,.int .i64 m,.pointer (some ⟨br,orr + m * 2,none⟩),.agg #[.slice A9 r.D.length c9,.string r.letter],.int .i64 i,.tuple #[.agg #[.int .i64 po,.bool pd,.string s],.bool yb],.tuple #[.agg #[.int .i64 po,.bool pd,.string s],.bool yb],.agg #[.int .i64 po,.bool pd,.string s],.bool yb,undef,undef,.bool yb] 14 15 48 #[.int .i64 0,.bool false,.string ⟨#[]⟩] #[.int .i64 po,.bool pd,.string s] (by kernel_rfl) (by simp) (by decide) ?finzb ?stepszb ?nextzb
   case finzb =>
    intro p_;simp only [List.set_cons_succ,List.set_cons_zero,putAll,Act.put,List.setIfInBounds_toArray,List.set_nil]
    rfl
   case stepszb =>
    refine ⟨?_,?_,?_,?_,?_,?_,?_,?_,?_,?_,?_,?_,?_,?_,?alzb,?stzb,?_,trivial⟩
    case alzb =>
     refine ⟨fun p_=>by kernel_rfl,fun p_ w1_ hB_=>?_⟩
     first | rfl | (go_simp;done) | (go_simp;rfl)
    case stzb =>
     refine ⟨fun p_=>by kernel_rfl,fun b_ w1_ hb_=>⟨(((w1_.setCell ⟨b_,0,none⟩ (.int .i64 po)).setCell ⟨b_,1,none⟩ (.bool pd)).setCell ⟨b_,2,none⟩ (.string s)),?_,((Fr.setCell (T:=fun k=>k = b_) w1_ 0 (.int .i64 po) rfl).then (Fr.setCell _ 1 _ rfl)).then (Fr.setCell _ 2 _ rfl),(((hb_.set 0 (.int .i64 po)).set 1 (.bool pd)).set 2 (.string s))⟩⟩;have f0_:=Blk.frozen hb_ 0;have f1_:=Blk.frozen hb_ 1;have f2_:=Blk.frozen hb_ 2;have z0_:=Blk.cell hb_ 0 (v:=.int .i64 0) rfl;have z1_:=Blk.cell hb_ 1 (v:=.bool false) rfl;have z2_:=Blk.cell hb_ 2 (v:=.string ⟨#[]⟩) rfl;go_simp;try rfl
    all_goals
     intro p_;refine .inr ⟨by kernel_rfl,fun w1_ hB_=>?_⟩;have hBq_:=hB_;have hB6_:=HBQ.out.trans (hBq_.mono HBQ.out.size);have hxb_:=HXX.out.below (HBL.out.trans (hBq_.mono HBL.out.size)) HXX.out.lt;have x0_:=hxb_.cell 0 (v:=.string zn) rfl;have x1_:=hxb_.cell 1 (v:=.slice (some ⟨bb,o,none⟩) l.length cA) rfl;obtain ⟨c0_,c1_,c2_,c3_,c4_,c5_,c6_,c7_,c8_,c9_,c10_,c11_⟩:=HCC.out _ hBq_;obtain ⟨rc0_,rc1_⟩:=HRC.out _ hBq_;go_simp
     first
      | exact ⟨rfl,Below.refl _ _⟩
      | exact ⟨rfl,HRW.out _ hB6_⟩
      | ((first | rw [decide_eq_true (by omega)] | rw [decide_eq_false (by omega)] | rw [if_pos (by omega)] | rw [IntWalk.i64_in _ (by omega)]);exact ⟨rfl,Below.refl _ _⟩)
      | done
   case nextzb =>
   intro xc w10 hb10 hxc hX10;have HB10:=Lib.hid hb10;have HB11:=Lib.hid (HBQ.out.trans (HB10.out.mono HBQ.out.size));have hr10:=HRR.out.below (HBL.out.trans (HB10.out.mono HBL.out.size)) HRR.out.lt;have HR10:=Lib.hid hr10;have hx0:=hX10.cell 0 (v:=.int .i64 po) rfl;have hx1:=hX10.cell 1 (v:=.bool pd) rfl;have hx2:=hX10.cell 2 (v:=.string s) rfl;have f0:=hr10.frozen 0;have f1:=hr10.frozen 1;have f2:=hr10.frozen 2;have z0:=hr10.cell 0 (v:=.int .i64 0) rfl;have z1:=hr10.cell 1 (v:=.bool false) rfl;have z2:=hr10.cell 2 (v:=.string ⟨#[]⟩) rfl;have hxl:=hX10.lt;have hrl:=hr10.lt;clear hb10 hxc hr10 hX10;go_wp2_with fail;have HZ:=Lib.hid (((HR10.out.set 0 (.int .i64 po)).set 1 (.bool pd)).set 2 (.string s));have q0:=HZ.out.cell 0 (v:=.int .i64 po) rfl;have q1:=HZ.out.cell 1 (v:=.bool pd) rfl;have q2:=HZ.out.cell 2 (v:=.string s) rfl;refine bodyPost_ret (v:=.agg #[.int .i64 po,.bool pd,.string s]) ?_ rfl ⟨by rw [HRF.out];rfl,below_set3 HB11.out (by omega) _ _ _⟩;simp [results,Tryz.f33,go_sem,q0,q1,q2]
end
section -- HSame
open Go Go.RowKit Go.Shelf
def SameB (B2:Nat) (Wb W:World):Prop:=B2 ≤ Wb.heap.size∧∀ k,k < B2→W.heap[k]? = Wb.heap[k]?
section
variable {B2:Nat} {Wb W W':World}
theorem SameB.size (h:SameB B2 Wb W):B2 ≤ W.heap.size:=by
 rcases Nat.eq_zero_or_pos B2 with h0 | h0
 ·omega
 ·have h1:=h.2 (B2 - 1) (by omega);rw [Array.getElem?_eq_getElem (show B2 - 1 < Wb.heap.size by have:=h.1;omega)] at h1;have:=(Array.getElem?_eq_some_iff.1 h1).1;omega
theorem SameB.cell (h:SameB B2 Wb W) {p:Addr} (hp:p.block < B2):W.cell? p = Wb.cell? p:=World.cell?_of_block (h.2 p.block hp)
theorem SameB.sl (h:SameB B2 Wb W) {B sz n:Nat} {v:Value} {xs:List Value} (hs:Sl Wb B sz v n xs) (hB:B ≤ B2):Sl W B sz v n xs:=hs.keep fun p hp=>h.cell (by omega)
theorem SameB.ahead (h:SameB B2 Wb W) (ha:Ahead Wb) (hB:0 < B2):Ahead W:=fun k hk=>(h.cell (p:=⟨0,k,none⟩) hB).trans (ha k hk)
theorem SameB.maxl (h:SameB B2 Wb W) (hm:Tryz.MaxL Wb) {w0:World} (h0:Tryz.MaxL w0) (hB:w0.heap.size ≤ B2):Tryz.MaxL W:=by
 obtain ⟨m,hc⟩:=hm;obtain ⟨m0,hc0⟩:=h0;have:=World.block_lt_of_cell? w0 _ hc0;exact ⟨m,(h.cell (Nat.lt_of_lt_of_le this hB)).trans hc⟩
theorem SameB.rw_ (h:SameB B2 Wb W) {B:Nat} {v:Value} {l:List Rul} (hr:RW Wb B v l) (hB:B ≤ B2):RW W B v l :=
 ⟨h.sl hr.ruls hB,h.ahead hr.ahead (Nat.lt_of_lt_of_le hr.tab hB),hr.tab,Nat.le_trans hB h.size⟩
theorem SameB.then_fr (h:SameB B2 Wb W) {T:Nat→Prop} (hf:Fr T W W') (hT:∀ k,k < B2→¬ T k):SameB B2 Wb W':=⟨h.1,fun k hk=>(hf.block k (by have:=h.size;omega) (hT k hk)).trans (h.2 k hk)⟩
end
end
section -- HTurns
open Go Go.RowKit Go.Shelf
attribute [local go_sem] Oper.semAt_some
section
variable {eb lb:Nat} {v:Value} {yb nb lp s0:Nat} {x:EraF} {R:List Rul} {now0:Chg} {O0:Nat→Prop} {J Jx:List Chg→(Nat→Prop)→World→Prop}
end
end
section -- EnvY
open Go Go.RowKit
section
variable {P:Program} {n:Nat} {ops:Array Oper}
end
end
section -- HSteps
open Go Go.RowKit Go.Shelf
attribute [local go_sem] Oper.semAt_some
section
variable {sb fb tb yb lp s0:Nat} {sv:Value} {fr to:Int} {O0:Nat→Prop} {J Jx:List Chg→(Nat→Prop)→World→Prop} {L:List Chg} {α:Type}
end
end
section -- HChanges
open Go Go.RowKit Go.Shelf
attribute [local go_sem] Oper.semAt_some
section
variable {yb nb lp s0:Nat} {now0:Loc} {O0:Nat→Prop} {J Jx:List Chg→(Nat→Prop)→World→Prop}
end
end
section -- HMake
open Go Go.RowKit Go.Shelf
attribute [local go_sem] Oper.semAt_some
theorem infoChgH:(Tryz.prog.info? 76).map (fun i=>(i.zero,i.size,i.bytes)) = some (some (.agg #[.int .i64 0,.int .i64 0,.bool false,.string ⟨#[]⟩]),4,40):=by kernel_rfl
end
end Go.Proofs.YteekjfgjmccdnaaGreatDoor
