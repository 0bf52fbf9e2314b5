/-
  A region that draws its order, operation by operation, whose last operations come behind all others in one order: the others leave what is known of their slots; the last ones are walked as they stand.
-/
import Derived.Test.YteekjfgjmccdnaaGreatDoorZr9
set_option maxHeartbeats 16000000
set_option maxRecDepth 100000
namespace Go.Proofs.YteekjfgjmccdnaaGreatDoor
section -- InvT
open Go Go.RowKit
section
variable {P:Program} {ops:Array Oper}
def needs (ops:Array Oper):Nat→Nat→List Nat
 | 0,_=>[]
 | f + 1,k=>match ops[k]? with
   | some o=>(o.after.toList.filter fun e=>Region.binds .any e).flatMap fun e=>e.on :: needs ops f e.on
   | none=>[]
def tailB (ops:Array Oper) (m:Nat):Bool:=(List.range ops.size).all fun k=>decide (k < m) || (List.range k).all fun j=>(needs ops 8 k).contains j
def closedL (ops:Array Oper) (listed:Array Bool):Prop:=∀ i o,ops[i]? = some o→listed.getD i false = true→∀ e ∈ o.after,Region.binds .any e = true→listed.getD e.on false = true
theorem needs_listed {listed:Array Bool} (hc:closedL ops listed):∀ (f k:Nat),(∀ o,ops[k]? = some o→∀ e ∈ o.after,Region.binds .any e = true→listed.getD e.on false = true)→∀ j ∈ needs ops f k,listed.getD j false = true
 | 0,_,_,j,hj=>by cases hj
 | f + 1,k,h,j,hj=>by
   unfold needs at hj
   split at hj
   ·rename_i o ho;obtain ⟨e,he,hj⟩:=List.mem_flatMap.1 hj;rw [List.mem_filter] at he;have h1:=h o ho e (Array.mem_toList_iff.1 he.1) he.2
    rcases List.mem_cons.1 hj with rfl | hj
    ·exact h1
    ·exact needs_listed hc f e.on (fun o' ho'=>hc e.on o' ho' h1) j hj
   ·cases hj
theorem ready_all {m:Nat} (ht:tailB ops m = true) {listed:Array Bool} (hc:closedL ops listed) {i:Nat} (hi:i ∈ Region.ready .any ops listed) (hm:m ≤ i):∀ j,j < i→listed.getD j false = true:=fun j hj=>by
 obtain ⟨-,o,ho,hall⟩:=mem_ready.1 hi;have hin:=(Array.getElem?_eq_some_iff.1 ho).1;unfold tailB at ht;have h1:=List.all_eq_true.1 ht i (List.mem_range.2 hin);rw [decide_eq_false (by omega),Bool.false_or] at h1;have h2:=List.all_eq_true.1 h1 j (List.mem_range.2 hj);rw [List.contains_iff_mem] at h2;exact needs_listed hc 8 i (fun o' ho'=>by rw [ho] at ho';cases ho';exact hall) j h2
theorem not_listed {listed:Array Bool} {i:Nat} (h:listed.getD i true = false):listed.getD i false = false∧i < listed.size:=by
 by_cases hi:i < listed.size
 ·simp only [Array.getD,hi,dif_pos] at h ⊢;exact ⟨h,trivial⟩
 ·simp [Array.getD,hi] at h
theorem closed_set {listed:Array Bool} (hc:closedL ops listed) {i:Nat} (hi:i ∈ Region.ready .any ops listed):closedL ops (listed.setIfInBounds i true):=fun k o ho hk e he hb=>by
 have hset:∀ x,listed.getD x false = true→(listed.setIfInBounds i true).getD x false = true:=fun x hx=>by
  rw [getD_set']
  split
  ·rfl
  ·exact hx
 rw [getD_set'] at hk
 by_cases hki:i = k∧i < listed.size
 ·obtain ⟨rfl,-⟩:=hki;obtain ⟨-,o',ho',hall⟩:=mem_ready.1 hi;rw [ho'] at ho
  cases ho
  exact hset _ (hall e he hb)
 ·rw [if_neg hki] at hk;exact hset _ (hc k o ho hk e he hb)
theorem any_tail {l:List Oper} (ho:ops = l.toArray) {m:Nat} (ht:tailB ops m = true) {D:List Nat} (hb:invB ops D = true) {R0:Act→World→Prop} :
  ∀ (fuel:Nat) (listed:Array Bool) (t:Nat) (a:Act) (w:World),listed.size = ops.size→m ≤ t→t ≤ ops.size→ops.size - t ≤ fuel→closedL ops listed→(∀ j,j < ops.size→(listed.getD j false = true ↔ j < t)) →
   wpList P ops (Exit.then R0 (fun _ _ _=>False)) (l.drop t) a w→wpAny P .any ops (Exit.then R0 (fun _ _ _=>False)) fuel listed a w:=by
 have hinv:=hb;simp only [invB,Bool.and_eq_true,decide_eq_true_eq,List.all_eq_true,List.mem_range] at hinv;obtain ⟨⟨hinv,-⟩,-⟩:=hinv;have hlen:ops.size = l.length:=by rw [ho];simp
 have hend:∀ {a:Act} {w:World},wpList P ops (Exit.then R0 (fun _ _ _=>False)) (l.drop ops.size) a w→R0 a w:=fun {a w} h=>by
  rw [hlen,List.drop_length] at h;exact h
 have hnr:∀ (listed:Array Bool) (t:Nat),listed.size = ops.size→t < ops.size→(∀ j,j < ops.size→(listed.getD j false = true ↔ j < t))→t ∈ Region.ready .any ops listed:=fun listed t hsz htl hl=>by
  refine mem_ready.2 ⟨?_,_,Array.getElem?_eq_getElem htl,fun e he hbd=>?_⟩
  ·cases hx:listed.getD t true with
   | false=>rfl
   | true =>
     have:t < listed.size:=by omega
     have h1:listed.getD t false = true:=by simpa [Array.getD,this] using hx
     have:=(hl t htl).1 h1;omega
  ·have h1:=hinv t htl;rw [Array.getElem?_eq_getElem htl] at h1;have h2:=Array.all_eq_true_iff_forall_mem.1 h1 e he;simp only [hbd,Bool.not_true,Bool.false_or,decide_eq_true_eq] at h2;exact (hl e.on (by omega)).2 h2
 intro fuel
 induction fuel with
 | zero =>
   intro listed t a w hsz hmt hts hf hc hl h;obtain rfl:t = ops.size:=by omega
   refine ⟨?_,hend h⟩
   rcases hr:Region.ready .any ops listed with _ | ⟨i,l'⟩
   ·rfl
   ·have hi:i ∈ Region.ready .any ops listed:=by rw [hr];exact List.mem_cons_self ..
    obtain ⟨h0,o,ho,_⟩:=mem_ready.1 hi;have hin:=(Array.getElem?_eq_some_iff.1 ho).1;have h1:=(not_listed h0).1;rw [(hl i hin).2 hin] at h1
    cases h1
 | succ fuel ih =>
   intro listed t a w hsz hmt hts hf hc hl h;refine ⟨fun hr=>?_,fun i hi=>?_⟩
   ·by_cases htl:t < ops.size
    ·have:=hnr listed t hsz htl hl;rw [hr] at this
     cases this
    ·obtain rfl:t = ops.size:=by omega
     exact hend h
   ·obtain ⟨h0,o,hio,-⟩:=mem_ready.1 hi;have hin:=(Array.getElem?_eq_some_iff.1 hio).1;have h1:=(not_listed h0).1
    have hit:t ≤ i:=by
     rcases Nat.lt_or_ge i t with g | g
     ·rw [(hl i hin).2 g] at h1
      cases h1
     ·exact g
    have hti:i = t:=by
     rcases Nat.lt_or_ge t i with g | g
     ·have:=(hl t (by omega)).1 (ready_all ht hc hi (by omega) t g);omega
     ·omega
    subst hti;have hil:l[i]? = some o:=by rw [ho] at hio;simpa using hio
    have hdr:l.drop i = o :: l.drop (i + 1):=by
     obtain ⟨hlt,e⟩:=List.getElem?_eq_some_iff.1 hil;rw [List.drop_eq_getElem_cons hlt,e]
    rw [hdr] at h
    have hnext:∀ (a:Act) (w:World),wpList P ops (Exit.then R0 (fun _ _ _=>False)) (l.drop (i + 1)) a w→wpAny P .any ops (Exit.then R0 (fun _ _ _=>False)) fuel (listed.setIfInBounds i true) a w:=fun a w h =>
     ih (listed.setIfInBounds i true) (i + 1) a w (by simpa using hsz) (by omega) (by omega) (by omega) (closed_set hc hi) (fun j hj=>by
      rw [getD_set']
      by_cases hji:i = j∧i < listed.size
      ·rw [if_pos hji]
       exact ⟨fun _=>by omega,fun _=>rfl⟩
      ·rw [if_neg hji,hl j hj]
       exact ⟨fun h=>by omega,fun h=>by omega⟩) h
    unfold wpOp;rw [hio];unfold wpList at h;dsimp only
    split at h
    ·rename_i hcn;rw [if_pos hcn]
     rcases h with h | h
     ·exact .inl (Oper.wp_mono hnext h)
     ·exact .inr h
    ·rename_i hcn;rw [if_neg hcn];exact hnext _ _ h
theorem any_invT {a:Act} {D:List Nat} {F:List Fact} {w0:World} {l:List Oper} (ho:ops = l.toArray) {m:Nat} (hms:m ≤ ops.size) (ht:tailB ops m = true) (hb:invB ops D = true) (hstep:Steps P ops a D F w0 0 (l.take m)) {R0:Act→World→Prop}
  (hend:∀ x w',Below w0.heap.size w0 w'→(∀ i,i < m→(F.getD i .any).p (x (D.getD i 0)) w')→wpList P ops (Exit.then R0 (fun _ _ _=>False)) (l.drop m) (frameOf a D x) w') :
  ∀ (fuel:Nat) (listed:Array Bool),listed.size = ops.size→(unlisted listed).length ≤ fuel→closedL ops listed→(∀ i,listed.getD i false = true→i < m)→∀ (x:Nat→Value) (w:World),Below w0.heap.size w0 w →
   (∀ i,listed.getD i false = true→(F.getD i .any).p (x (D.getD i 0)) w)→wpAny P .any ops (Exit.then R0 (fun _ _ _=>False)) fuel listed (frameOf a D x) w:=by
 have hinv:=hb;simp only [invB,Bool.and_eq_true,decide_eq_true_eq,List.all_eq_true,List.mem_range] at hinv;obtain ⟨⟨hinv,hlen⟩,hnd⟩:=hinv
 have hul:∀ (listed:Array Bool),listed.size = ops.size→(∀ j,j < ops.size→(listed.getD j false = true ↔ j < m))→ops.size - m ≤ (unlisted listed).length:=fun listed hsz hl=>by
  have e:unlisted listed = List.range' m (ops.size - m):=by
   unfold unlisted
   rw [hsz,show List.range ops.size = List.range m ++ List.range' m (ops.size - m) by
    rw [List.range_eq_range',List.range_eq_range',show ops.size = m + (ops.size - m) by omega]
    have:=List.range'_append (s:=0) (m:=m) (n:=ops.size - m) (step:=1)
    simp at this
    rw [show m + (ops.size - m) - m = ops.size - m by omega]
    exact this.symm,List.filter_append,List.filter_eq_nil_iff.2 (fun j hj=>by rw [(hl j (by have:=List.mem_range.1 hj;omega)).2 (List.mem_range.1 hj)];decide),List.nil_append,List.filter_eq_self.2 (fun j hj=>by
     have:=List.mem_range'_1.1 hj
     cases hx:listed.getD j false with
     | false=>rfl
     | true=>have:=(hl j (by omega)).1 hx;omega)]
  rw [e,List.length_range'];exact Nat.le_refl _
 have hall:∀ (fuel:Nat) (listed:Array Bool) (x:Nat→Value) (w:World),listed.size = ops.size→(unlisted listed).length ≤ fuel→closedL ops listed→(∀ i,listed.getD i false = true→i < m)→(∀ j,j < m→listed.getD j false = true)→Below w0.heap.size w0 w →
   (∀ i,listed.getD i false = true→(F.getD i .any).p (x (D.getD i 0)) w)→wpAny P .any ops (Exit.then R0 (fun _ _ _=>False)) fuel listed (frameOf a D x) w:=fun fuel listed x w hsz hf hc hlm hml hB hF=>by
  have hl:∀ j,j < ops.size→(listed.getD j false = true ↔ j < m):=fun j _=>⟨hlm j,hml j⟩
  exact any_tail ho ht hb fuel listed m _ w hsz (Nat.le_refl _) hms (Nat.le_trans (hul listed hsz hl) hf) hc hl (hend x w hB fun i hi=>hF i (hml i hi))
 intro fuel
 induction fuel with
 | zero =>
   intro listed hsz hf hc hlm x w hB hF;refine hall 0 listed x w hsz hf hc hlm (fun j hj=>?_) hB hF
   cases hl:listed.getD j false with
   | true=>rfl
   | false =>
     have:j ∈ unlisted listed:=by
      simp only [unlisted,List.mem_filter,List.mem_range];exact ⟨by omega,by rw [hl];rfl⟩
     rw [List.eq_nil_of_length_eq_zero (Nat.le_zero.1 hf)] at this
     cases this
 | succ fuel ih =>
   intro listed hsz hf hc hlm x w hB hF
   by_cases hdone:∀ j,j < m→listed.getD j false = true
   ·exact hall (fuel + 1) listed x w hsz hf hc hlm hdone hB hF
   ·have hnone:Region.ready .any ops listed = []→∀ i,i < ops.size→listed.getD i false = true:=fun hr i=>by
     induction i using Nat.strongRecOn with
     | _ i ih2 =>
       intro hi
       cases hl:listed.getD i true with
       | true =>
         have:i < listed.size:=by omega
         simpa [Array.getD,this] using hl
       | false =>
         exfalso
         have:i ∈ Region.ready .any ops listed:=mem_ready.2 ⟨hl,_,Array.getElem?_eq_getElem hi,fun e he hbd=>by
          have h1:=hinv i hi
          rw [Array.getElem?_eq_getElem hi] at h1
          have h2:=Array.all_eq_true_iff_forall_mem.1 h1 e he
          simp only [hbd,Bool.not_true,Bool.false_or,decide_eq_true_eq] at h2
          exact ih2 e.on h2 (by omega)⟩
         rw [hr] at this
         cases this
    refine ⟨fun hr=>absurd (fun j hj=>hnone hr j (by omega)) hdone,fun i hi=>?_⟩;obtain ⟨h0,o,hio,halle⟩:=mem_ready.1 hi;have hin:=(Array.getElem?_eq_some_iff.1 hio).1
    have him:i < m:=by
     rcases Nat.lt_or_ge i m with g | g
     ·exact g
     ·exact absurd (fun j hj=>ready_all ht hc hi g j (by omega)) hdone
    have hl:(l.take m)[i]? = some o:=by
     rw [List.getElem?_take,if_pos him];rw [ho] at hio;simpa using hio
    have hst:=steps_at hstep hl;rw [Nat.zero_add] at hst;refine wpOp_of_list hio _ (hst x w _ hB (fun j hj=>?_) fun v w' hv hw=>ih (listed.setIfInBounds i true) (by simpa using hsz) ?_ (closed_set hc hi) (fun k hk=>?_) _ w' (hB.trans (hw.mono hB.size)) fun k hk=>?_)
    ·obtain ⟨e,he,hej⟩:=Array.any_eq_true'.1 hj;simp only [Bool.and_eq_true,beq_iff_eq] at hej;have:=halle e he hej.1;rw [hej.2] at this;exact hF j this
    ·have:=unlisted_set (listed:=listed) (i:=i) (by omega) (not_listed h0).1;omega
    ·rw [getD_set'] at hk
     by_cases hik:i = k∧i < listed.size
     ·omega
     ·rw [if_neg hik] at hk;exact hlm k hk
    ·rw [getD_set'] at hk
     by_cases hik:i = k
     ·subst hik;rw [upd_same];exact hv
     ·rw [if_neg (fun h=>hik h.1)] at hk
      have hks:k < listed.size:=by
       refine Nat.lt_of_not_le fun h=>?_
       simp [Array.getD,show ¬ k < listed.size by omega] at hk
      have hne:D.getD k 0 ≠ D.getD i 0:=by
       rw [List.getD_eq_getElem?_getD,List.getD_eq_getElem?_getD,List.getElem?_eq_getElem (show k < D.length by omega),List.getElem?_eq_getElem (show i < D.length by omega)];intro e;simp only [Option.getD_some] at e;have hp:=List.pairwise_iff_getElem.1 hnd
       rcases Nat.lt_or_ge k i with h | h
       ·exact hp k i (by omega) (by omega) h e
       ·exact hp i k (by omega) (by omega) (by omega) e.symm
      rw [upd_other x v hne];exact (F.getD k .any).keep _ _ _ (hF k hk) hw
theorem wp_invT {id:Nat} {l:List Oper} {Q:Exit→Act→World→Prop} {a:Act} {w:World} (hm:P.follows .mixedOrders = true) (D:List Nat) (F:List Fact) (m:Nat) (hms:m ≤ l.toArray.size) (ht:tailB l.toArray m = true) (hb:invB l.toArray D = true)
  (hstep:Steps P l.toArray a D F w 0 (l.take m))
  (hend:∀ x w',Below w.heap.size w w'→(∀ i,i < m→(F.getD i .any).p (x (D.getD i 0)) w')→wpList P l.toArray (Exit.then (fun b w'=>Q .normal b w') (fun _ _ _=>False)) (l.drop m) (frameOf a D x) w'):(Code.region id l.toArray true).wp P Q a w:=by
 have h:=any_invT (ops:=l.toArray) (R0:=fun b w'=>Q .normal b w') rfl hms ht hb hstep hend l.toArray.size (Array.replicate l.toArray.size false) (by simp) (by
  refine Nat.le_trans (List.length_filter_le _ _) ?_
  simp) (fun i o _ hl=>by simp [Array.getD] at hl) (fun i hi=>by simp [Array.getD] at hi) (fun j=>a.tmps.getD j undef) w.drew ((Below.refl _ _).drew) (fun i hi=>by simp [Array.getD] at hi)
 rw [frameOf_self] at h;refine wp_mono (wp_region_any (id:=id) hm h) fun e a w q=>?_
 cases e with
 | normal=>exact q
 | _=>exact q.elim
def StepsL (P:Program) (ops:Array Oper) (fin:(Nat→Value)→Act) (D:List Nat) (F:List Fact) (w0:World):Nat→List Oper→Prop
 | _,[]=>True
 | i,o :: l=>(∀ (x:Nat→Value) (w:World) (R:Act→World→Prop),Below w0.heap.size w0 w→(∀ j,(o.after.any fun e=>Region.binds .any e && e.on == j) = true→(F.getD j .any).p (x (D.getD j 0)) w) →
   (∀ v w',(F.getD i .any).p v w'→Below w.heap.size w w'→R (fin (upd x (D.getD i 0) v)) w')→wpList P ops (Exit.then R (fun _ _ _=>False)) [o] (fin x) w)∧StepsL P ops fin D F w0 (i + 1) l
theorem steps_lit {a:Act} {fin:(Nat→Value)→Act} {D:List Nat} {F:List Fact} {w0:World} (hfin:∀ x,frameOf a D x = fin x):∀ {l:List Oper} {k:Nat},StepsL P ops fin D F w0 k l→Steps P ops a D F w0 k l
 | [],_,_=>trivial
 | _ :: _,_,hs=>⟨fun x w R hB hf hR=>by
    rw [hfin]
    exact hs.1 x w R hB hf (fun v w' h1 h2=>by rw [← hfin];exact hR v w' h1 h2),steps_lit hfin hs.2⟩
theorem wp_invL {id:Nat} {l:List Oper} {Q:Exit→Act→World→Prop} {a:Act} {w:World} {fin:(Nat→Value)→Act} (hm:P.follows .mixedOrders = true) (D:List Nat) (F:List Fact) (m:Nat) (hms:m ≤ l.toArray.size) (ht:tailB l.toArray m = true) (hb:invB l.toArray D = true)
  (hfin:∀ x,frameOf a D x = fin x) (hstep:StepsL P l.toArray fin D F w 0 (l.take m))
  (hend:∀ x w',Below w.heap.size w w'→(∀ i,i < m→(F.getD i .any).p (x (D.getD i 0)) w')→wpList P l.toArray (Exit.then (fun b w'=>Q .normal b w') (fun _ _ _=>False)) (l.drop m) (fin x) w'):(Code.region id l.toArray true).wp P Q a w :=
 wp_invT hm D F m hms ht hb (steps_lit hfin hstep) (fun x w' h1 h2=>by rw [hfin];exact hend x w' h1 h2)
end
end
end Go.Proofs.YteekjfgjmccdnaaGreatDoor
