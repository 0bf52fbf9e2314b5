/-
  The calendar, as numbers: what layer 2 answers.
-/
import Derived.Deep.QuietTactic
import Derived.BigQuiet
import Derived.Shelf.RegionOpen
import Derived.WalkKit
import Derived.WalkSpells
import Derived.WalkLawsBesides
import Derived.Lib.Hide
import Derived.Lib.Walk
import Derived.Deep.RegionHeld3
import Derived.Lib.CountLaws
import Derived.Test.YteekjfgjmccdnaaGreatDoorZk1
set_option maxHeartbeats 16000000
set_option maxRecDepth 100000
namespace Go.Proofs.YteekjfgjmccdnaaGreatDoor
section -- SerialC
open Go
section
variable {P:Program} {ops:Array Oper}
theorem wpOp_back {R:Act→World→Prop} {i j:Nat} {oi oj:Oper} {u:Value} (hi:ops[i]? = some oi) (hj:ops[j]? = some oj) (hap:oi.apart ops oj = true)
  (hsi:∀ cs b,oi.op ≠ .select cs b) (hsj:∀ cs b,oj.op ≠ .select cs b) {K:Act→World→Prop} {a:Act} {w:World} (hy:Yields P ops oi u a)
  (h:wpOp P ops (Exit.then R (fun _ _ _=>False)) j (wpOp P ops (Exit.then R (fun _ _ _=>False)) i K) a w) :
  wpOp P ops (Exit.then R (fun _ _ _=>False)) j K (a.put oi.dst u) w:=by
 obtain ⟨h1,h2,h3⟩:=Oper.apart_spec hap
 have keep:∀ v,Yields P ops oi u (a.put oj.dst v):=fun v=>hy.of_same (execOp_put oi hsi a oj.dst v h3) (wanted_put oi a oj.dst v h3)
 have keepD:∀ d,Yields P ops oi u { a with defers:=d :: a.defers }:=fun d=>hy.of_same rfl rfl
 unfold wpOp at h ⊢
 simp only [hj] at h ⊢
 rw [wanted_put oj a oi.dst u h1]
 split at h
 ·rename_i hw
  rw [if_pos hw]
  rcases h with h | ⟨_,h⟩
  case inr=>exact (straight_out h).elim
  refine .inl ?_
  unfold Oper.wp at h ⊢
  rw [execOp_put oj hsj a oi.dst u h1]
  generalize (execOp a.eval oj).run P w = r at h ⊢
  cases r with
  | ok n w' =>
    cases n <;> simp only [Oper.upon] at h ⊢
    case value v=>rw [Act.put_comm a u v h2];exact yields_inv hi straight_out (keep v) h
    case skip=>rw [Act.put_comm a u undef h2];exact yields_inv hi straight_out (keep undef) h
    case defer d =>
     rw [Act.put_defers,Act.put_comm _ u undef h2]
     exact yields_inv hi straight_out ((keepD d).of_same (execOp_put oi hsi _ oj.dst undef h3) (wanted_put oi _ oj.dst undef h3)) h
    case enter f args =>
     refine Calls.mono h fun e w'' he=>?_
     cases e with
     | returned v =>
       have he':wpOp P ops (Exit.then R (fun _ _ _=>False)) i K (a.put oj.dst v) w'':=he
       have hk:=yields_inv hi straight_out (keep v) he'
       rw [← Act.put_comm a u v h2] at hk
       exact hk
     | panicked c=>exact he
     | outgrown=>exact he
    case row row args=>exact Rows.mono h fun v w'' he=>by rw [Act.put_comm a u v h2];exact yields_inv hi straight_out (keep v) he
  | halt x w'=>cases x <;> simp only [Oper.upon] at h ⊢ <;> exact h
 ·rename_i hw
  rw [if_neg hw,Act.put_comm a u undef h2]
  exact yields_inv hi straight_out (keep undef) h
def Fin (P:Program) (ops:Array Oper) (R:Act→World→Prop):Prop:=∀ a w,R a w→goodB P ops a = true
theorem good_at {a:Act} (h:goodB P ops a = true) {i:Nat} {o:Oper} (hi:ops[i]? = some o) (hq:quiet P o.op = true) (hw:Region.wanted o (yielded ops a.tmps) = true):fits a.eval o.op = true:=by
 unfold goodB at h
 rw [List.all_eq_true] at h
 have:=h o (Array.mem_toList_iff.2 (Array.mem_of_getElem? hi))
 simpa [hq,hw] using this
def Spares (ops:Array Oper) (o:Oper) (l:List Nat):Prop:=∀ k ∈ l,∀ ok,ops[k]? = some ok→∀ t ∈ o.looksAt ops,ok.dst ≠ some t
theorem fits_of_final {R:Act→World→Prop} (hF:Fin P ops R) {i:Nat} {o:Oper} (hi:ops[i]? = some o) (hq:quiet P o.op = true) (hself:∀ t ∈ o.looksAt ops,o.dst ≠ some t) {l:List Nat} (hl:Spares ops o l)
  {a:Act} (u:Value) {w':World} (h:wpOps P ops (Exit.then R (fun _ _ _=>False)) l (a.put o.dst u) w') (hw:Region.wanted o (yielded ops a.tmps) = true):fits a.eval o.op = true:=by
 obtain ⟨af,wf,h1,h2⟩:=final l _ _ h
 have hag:Agree ops o af a:=fun t ht=>by
  rw [h2 t fun k hk ok hok=>hl k hk ok hok t ht]
  exact put_other a _ u t (hself t ht)
 rw [← fits_congr o.op hag.eval]
 exact good_at (hF _ _ h1) hi hq (by rw [hag.wanted];exact hw)
def easy (op:Op):Bool:=match op with | .move _=>true | _=>false
theorem easy_fits {op:Op} (h:easy op = true) (ρ:Operand→Value):fits ρ op = true:=by
 unfold easy at h
 split at h
 ·rfl
 ·cases h
def Moves (P:Program) (ops:Array Oper) (o:Oper) (l:List Nat):Prop:=quiet P o.op = true∧(easy o.op = true∨((∀ t ∈ o.looksAt ops,o.dst ≠ some t)∧Spares ops o l))
theorem Moves.fits {o:Oper} {l l':List Nat} (h:Moves P ops o l) {R:Act→World→Prop} (hF:Fin P ops R) {i:Nat} (hi:ops[i]? = some o) (hl:Spares ops o l→Spares ops o l') {a:Act} (u:Value) {w':World}
  (hh:wpOps P ops (Exit.then R (fun _ _ _=>False)) l' (a.put o.dst u) w') (hw:Region.wanted o (yielded ops a.tmps) = true):fits a.eval o.op = true:=by
 obtain ⟨hq,he | ⟨hself,hsp⟩⟩:=h
 ·exact easy_fits he _
 ·exact fits_of_final hF hi hq hself (hl hsp) u hh hw
theorem swap {R:Act→World→Prop} (hF:Fin P ops R) {i j:Nat} {oi oj:Oper} (hi:ops[i]? = some oi) (hj:ops[j]? = some oj) (hap:oi.apart ops oj = true) (hap':oj.apart ops oi = true)
  (hsi:∀ cs b,oi.op ≠ .select cs b) (hsj:∀ cs b,oj.op ≠ .select cs b) {rest:List Nat}
  (hq:Moves P ops oi rest∨Moves P ops oj rest)
  {a:Act} {w:World} (h:wpOps P ops (Exit.then R (fun _ _ _=>False)) (j :: i :: rest) a w):wpOps P ops (Exit.then R (fun _ _ _=>False)) (i :: j :: rest) a w:=by
 obtain ⟨h1,h2,h3⟩:=Oper.apart_spec hap
 rw [wpOps_cons] at h ⊢
 rcases hq with hm | hm
 · -- the quiet one goes ahead
  have h':wpOp P ops (Exit.then R (fun _ _ _=>False)) j (wpOp P ops (Exit.then R (fun _ _ _=>False)) i (wpOps P ops (Exit.then R (fun _ _ _=>False)) rest)) a w :=
   wpOp_mono (fun a w h=>by rwa [wpOps_cons] at h) h
  obtain ⟨v,a',w',he,hK⟩:=wpOp_some hj h'
  have hq:=hm.1
  obtain ⟨u,hy,_⟩:=yields_of hi hq hK fun u w' hu hw=>hm.fits hF hi id u hu hw
  have hag:Agree ops oi a' a:=fun t ht=>by
   rw [he]
   exact put_other a _ v t fun e=>h3 t e ht
  have hy':=Yields.agree hy hag (quiet_select hq)
  refine hy'.wpOp hi ?_
  rw [wpOps_cons]
  exact wpOp_back hi hj hap hsi hsj hy' h'
 · -- the quiet one goes behind
  have hq:=hm.1
  obtain ⟨u,hy,hK⟩:=yields_of hj hq h fun u w' hu hw=>hm.fits hF hj (l':=i :: rest) (fun hsp k hk ok hok t ht=>by
   rcases List.mem_cons.1 hk with rfl | hk
   ·rw [hi] at hok
    obtain rfl:=Option.some.inj hok
    exact fun e=>h1 t e ht
   ·exact hsp k hk ok hok t ht) u hu hw
  rw [wpOps_cons] at hK
  have:=wpOp_put (oi:=oj) (oj:=oi) hi hap' hsj hsi (fun c a w h=>h) hy hK
  exact wpOp_mono (fun a' w' h=>by rw [wpOps_cons];exact h.1.wpOp hj h.2) this
/-! ### Two loads, in either order -/
def Stay (P:Program) {α:Type} (s:Sem α):Prop:=∀ w v w1,s.run P w = .ok v w1→w1 = w
theorem Calm.stay {α:Type} {s:Sem α} (h:Calm P s):Stay P s:=fun w v w1 e=>(h w v w1 e).1
theorem stay_bind {α β:Type} {s:Sem α} {f:α→Sem β} (hs:Stay P s) (hf:∀ a,Stay P (f a)):Stay P (s >>= f):=fun w v w1 e=>by
 rw [Sem.run_bind] at e
 obtain ⟨a,w2,h1,h2⟩:=andThen_ok_inv e
 obtain rfl:=hs _ _ _ h1
 exact hf a _ _ _ h2
theorem stay_load (a:Addr):Stay P (load a):=fun w v w1 e=>by
 unfold load at e
 simp only [Sem.run] at e
 split at e
 ·cases e
  rfl
 ·split at e
  ·cases e
   rfl
  ·cases e
theorem stay_loadCellsFrom (a:Addr):∀ (n i:Nat) (acc:Array Value),Stay P (loadCellsFrom a i n acc):=by
 intro n
 induction n with
 | zero=>exact fun i acc=>(calm_pure _).stay
 | succ n ih=>exact fun i acc=>stay_bind (stay_load _) fun v=>ih _ _
theorem stay_loadVar (t:TypeId) (a:Addr):Stay P (loadVar t a):=by
 unfold loadVar
 refine stay_bind (calm_isAgg t).stay fun b=>?_
 cases b
 ·exact stay_load a
 ·exact stay_bind (calm_sizeOf t).stay fun n=>stay_bind (stay_loadCellsFrom a n 0 #[]) fun v=>(calm_pure _).stay
theorem stay_loadAt (t:TypeId) (v:Value):Stay P (Instr.loadAt t v):=stay_bind (calm_sureAddr v).stay fun a=>stay_loadVar t a
def isLoad (op:Op):Bool:=match op with | .load ..=>true | _=>false
theorem isLoad_exec {o:Oper} (h:isLoad o.op = true) {ρ:Operand→Value} {w w1:World} {n:Next} (e:(execOp ρ o).run P w = .ok n w1):w1 = w∧∃ v,n = .value v:=by
 unfold isLoad at h
 split at h
 ·rename_i t x ho
  have e':(do pure (Next.value (← Instr.loadAt t (ρ x))):Sem Next).run P w = .ok n w1:=by
   unfold execOp at e
   simpa only [ho] using e
  refine ⟨stay_bind (stay_loadAt t (ρ x)) (fun v=>(calm_pure _).stay) _ _ _ e',value_of e'⟩
 ·cases h
def YAt (P:Program) (ops:Array Oper) (o:Oper) (v:Value) (a:Act) (w:World):Prop :=
 (Region.wanted o (yielded ops a.tmps) = true∧(execOp a.eval o).run P w = .ok (.value v) w)∨(Region.wanted o (yielded ops a.tmps) = false∧v = undef)
theorem yat_of {R:Act→World→Prop} {i:Nat} {o:Oper} (hi:ops[i]? = some o) (hl:isLoad o.op = true) {K:Act→World→Prop} {a:Act} {w:World}
  (h:wpOp P ops (Exit.then R (fun _ _ _=>False)) i K a w):∃ v,YAt P ops o v a w∧K (a.put o.dst v) w:=by
 unfold wpOp at h
 simp only [hi] at h
 split at h
 ·rename_i hw
  rcases h with h | ⟨_,h⟩
  ·unfold Oper.wp at h
   generalize hr:(execOp a.eval o).run P w = r at h
   cases r with
   | ok n w' =>
     obtain ⟨rfl,v,rfl⟩:=isLoad_exec hl hr
     simp only [Oper.upon] at h
     exact ⟨v,.inl ⟨hw,hr⟩,h⟩
   | halt x w'=>cases x <;> simp only [Oper.upon] at h <;> exact h.elim
  ·exact (straight_out h).elim
 ·rename_i hw
  exact ⟨undef,.inr ⟨by simpa using hw,rfl⟩,h⟩
theorem YAt.wpOp {i:Nat} {o:Oper} {v:Value} {a:Act} {w:World} {Q:Exit→Act→World→Prop} (hi:ops[i]? = some o) (hy:YAt P ops o v a w) {K:Act→World→Prop} (h:K (a.put o.dst v) w):wpOp P ops Q i K a w:=by
 unfold Go.wpOp
 simp only [hi]
 rcases hy with ⟨hw,hv⟩ | ⟨hw,rfl⟩
 ·rw [if_pos hw]
  refine .inl ?_
  unfold Oper.wp
  rw [hv]
  exact h
 ·rw [if_neg (by rw [hw];simp)]
  exact h
theorem YAt.of_same {o:Oper} {v:Value} {a a':Act} {w:World} (hy:YAt P ops o v a w) (he:execOp a'.eval o = execOp a.eval o)
  (hw:Region.wanted o (yielded ops a'.tmps) = Region.wanted o (yielded ops a.tmps)):YAt P ops o v a' w:=by
 unfold YAt at *
 rw [he,hw]
 exact hy
theorem swap_loads {R:Act→World→Prop} {i j:Nat} {oi oj:Oper} (hi:ops[i]? = some oi) (hj:ops[j]? = some oj) (hap:oi.apart ops oj = true)
  (hsi:∀ cs b,oi.op ≠ .select cs b) (hsj:∀ cs b,oj.op ≠ .select cs b) {rest:List Nat} (hli:isLoad oi.op = true) (hlj:isLoad oj.op = true)
  {a:Act} {w:World} (h:wpOps P ops (Exit.then R (fun _ _ _=>False)) (j :: i :: rest) a w):wpOps P ops (Exit.then R (fun _ _ _=>False)) (i :: j :: rest) a w:=by
 obtain ⟨h1,h2,h3⟩:=Oper.apart_spec hap
 rw [wpOps_cons] at h ⊢
 obtain ⟨vj,hyj,hK⟩:=yat_of hj hlj h
 rw [wpOps_cons] at hK
 obtain ⟨vi,hyi,hK2⟩:=yat_of hi hli hK
 refine YAt.wpOp hi (hyi.of_same (execOp_put oi hsi a oj.dst vj h3).symm (wanted_put oi a oj.dst vj h3).symm) ?_
 rw [wpOps_cons]
 refine YAt.wpOp hj (hyj.of_same (execOp_put oj hsj a oi.dst vi h1) (wanted_put oj a oi.dst vi h1)) ?_
 rw [Act.put_comm a vi vj h2]
 exact hK2
/-! ### The look at a region's rows -/
def orMask (b:Array Nat) (l:List Edge) (s:Nat):Nat:=l.foldl (fun s e=>if Region.binds .any e then s ||| 2 ^ e.on ||| b.getD e.on 0 else s) s
theorem orMask_bit (b:Array Nat) (l:List Edge):∀ (s p:Nat),(orMask b l s).testBit p = true→s.testBit p = true∨∃ e ∈ l,Region.binds .any e = true∧(e.on = p∨(b.getD e.on 0).testBit p = true):=by
 induction l with
 | nil=>exact fun s p h=>.inl h
 | cons e l ih =>
   intro s p h
   rcases ih _ p h with h | ⟨e',he',hb,hp⟩
   ·dsimp only at h
    split at h
    ·rename_i hb
     rw [Nat.testBit_or,Nat.testBit_or,Nat.testBit_two_pow] at h
     simp only [Bool.or_eq_true,decide_eq_true_eq] at h
     rcases h with (h | h) | h
     ·exact .inl h
     ·exact .inr ⟨e,List.mem_cons_self ..,hb,.inl h⟩
     ·exact .inr ⟨e,List.mem_cons_self ..,hb,.inr h⟩
    ·exact .inl h
   ·exact .inr ⟨e',List.mem_cons_of_mem _ he',hb,hp⟩
def noSelect (op:Op):Bool:=match op with | .select ..=>false | _=>true
def sparesB (ops:Array Oper) (x o:Oper):Bool:=match o.dst with | some d=>!(x.looksAt ops).contains d | none=>true
def serialB (P:Program) (ops:Array Oper) (b:Array Nat):Bool :=
 (List.range ops.size).all fun i=>match ops[i]? with
   | none=>true
   | some oi =>
     (oi.after.toList.all fun e=>!Region.binds .any e || decide (e.on < i)) && (b.getD i 0 == orMask b oi.after.toList 0) && noSelect oi.op &&
     (!quiet P oi.op || easy oi.op || (List.range ops.size).all fun k=>decide (k < i) || match ops[k]? with | some ok=>sparesB ops oi ok | none=>true) &&
     ((List.range i).all fun p=>(b.getD i 0).testBit p || match ops[p]? with | some op=>op.apart ops oi && oi.apart ops op && (quiet P op.op || quiet P oi.op || (isLoad op.op && isLoad oi.op)) | none=>true)
structure Serial (P:Program) (ops:Array Oper) (b:Array Nat):Prop where
 edges:∀ (i:Nat) (oi:Oper),ops[i]? = some oi→∀ e ∈ oi.after,Region.binds .any e = true→e.on < i
 mask:∀ (i:Nat) (oi:Oper),ops[i]? = some oi→b.getD i 0 = orMask b oi.after.toList 0
 sel:∀ (i:Nat) (oi:Oper),ops[i]? = some oi→∀ cs c,oi.op ≠ .select cs c
 spares:∀ (i:Nat) (oi:Oper),ops[i]? = some oi→quiet P oi.op = true→easy oi.op = false→∀ (k:Nat) (ok:Oper),i ≤ k→ops[k]? = some ok→∀ t ∈ oi.looksAt ops,ok.dst ≠ some t
 pair:∀ (i:Nat) (oi:Oper),ops[i]? = some oi→∀ (p:Nat) (op:Oper),p < i→ops[p]? = some op→(b.getD i 0).testBit p = true∨(op.apart ops oi = true∧oi.apart ops op = true∧((quiet P op.op = true∨quiet P oi.op = true)∨(isLoad op.op = true∧isLoad oi.op = true)))
theorem sparesB_spec {x o:Oper} (h:sparesB ops x o = true):∀ t ∈ x.looksAt ops,o.dst ≠ some t:=by
 intro t ht e
 unfold sparesB at h
 rw [e] at h
 simp at h
 exact h ht
theorem serial_of {b:Array Nat} (h:serialB P ops b = true):Serial P ops b:=by
 have hall:∀ (i:Nat) (oi:Oper),ops[i]? = some oi→((((oi.after.toList.all fun e=>!Region.binds .any e || decide (e.on < i)) = true∧(b.getD i 0 == orMask b oi.after.toList 0) = true)∧noSelect oi.op = true) ∧
   (!quiet P oi.op || easy oi.op || (List.range ops.size).all fun k=>decide (k < i) || match ops[k]? with | some ok=>sparesB ops oi ok | none=>true) = true) ∧
   ((List.range i).all fun p=>(b.getD i 0).testBit p || match ops[p]? with | some op=>op.apart ops oi && oi.apart ops op && (quiet P op.op || quiet P oi.op || (isLoad op.op && isLoad oi.op)) | none=>true) = true:=fun i oi hi=>by
  have hlt:i < ops.size:=(Array.getElem?_eq_some_iff.1 hi).1
  have:=List.all_eq_true.1 h i (List.mem_range.2 hlt)
  simp only [hi,Bool.and_eq_true] at this
  exact this
 refine ⟨fun i oi hi e he hb=>?_,fun i oi hi=>?_,fun i oi hi cs c e=>?_,fun i oi hi hq hne k ok hk hok=>?_,fun i oi hi p op hp hop=>?_⟩
 ·have:=List.all_eq_true.1 (hall i oi hi).1.1.1.1 e (Array.mem_toList_iff.2 he)
  simpa [hb] using this
 ·simpa using (hall i oi hi).1.1.1.2
 ·have:=(hall i oi hi).1.1.2
  rw [e] at this
  cases this
 ·have h1:=(hall i oi hi).1.2
  rw [hq,hne] at h1
  have hlt:k < ops.size:=(Array.getElem?_eq_some_iff.1 hok).1
  have h2:=List.all_eq_true.1 (show (List.range ops.size).all (fun k=>decide (k < i) || match ops[k]? with | some ok=>sparesB ops oi ok | none=>true) = true from h1) k (List.mem_range.2 hlt)
  rw [hok] at h2
  simp only [Bool.or_eq_true,decide_eq_true_eq] at h2
  exact sparesB_spec (h2.resolve_left (by omega))
 ·have:=List.all_eq_true.1 (hall i oi hi).2 p (List.mem_range.2 hp)
  simp only [hop,Bool.or_eq_true,Bool.and_eq_true] at this
  rcases this with h | ⟨⟨h1,h2⟩,h3⟩
  ·exact .inl h
  ·exact .inr ⟨h1,h2,h3⟩
/-! ### From the text's order to every order -/
def unl (n:Nat) (listed:Array Bool):List Nat:=(List.range n).filter fun k=>!listed.getD k true
theorem sorted_split {l:List Nat} (hs:l.Pairwise (· < ·)) {i:Nat} (hi:i ∈ l):l = l.filter (fun k=>decide (k < i)) ++ i :: l.filter (fun k=>decide (i < k)):=by
 induction l with
 | nil=>cases hi
 | cons x l ih =>
   obtain ⟨h1,h2⟩:=List.pairwise_cons.1 hs
   rcases List.mem_cons.1 hi with rfl | hi
   ·have e1:l.filter (fun k=>decide (k < i)) = []:=List.filter_eq_nil_iff.2 fun k hk=>by have:=h1 k hk;simp;omega
    have e2:l.filter (fun k=>decide (i < k)) = l:=List.filter_eq_self.2 fun k hk=>by simpa using h1 k hk
    simp [e1,e2]
   ·have hx:=h1 i hi
    rw [List.filter_cons,List.filter_cons,if_pos (by simpa using hx),if_neg (by simp;omega),List.cons_append,← ih h2 hi]
theorem sorted_rest {l:List Nat} (hs:l.Pairwise (· < ·)) (i:Nat):l.filter (fun k=>decide (k < i)) ++ l.filter (fun k=>decide (i < k)) = l.filter (fun k=>decide (k ≠ i)):=by
 induction l with
 | nil=>rfl
 | cons x l ih =>
   obtain ⟨h1,h2⟩:=List.pairwise_cons.1 hs
   have ih:=ih h2
   rcases Nat.lt_trichotomy x i with h | h | h
   ·rw [List.filter_cons,List.filter_cons,List.filter_cons,if_pos (by simpa using h),if_neg (by simp;omega),if_pos (by simp;omega),List.cons_append,ih]
   ·subst h
    rw [List.filter_cons,List.filter_cons,List.filter_cons,if_neg (by simp),if_neg (by simp),if_neg (by simp),ih]
   ·have e1:l.filter (fun k=>decide (k < i)) = []:=List.filter_eq_nil_iff.2 fun k hk=>by have:=h1 k hk;simp;omega
    rw [e1,List.nil_append] at ih
    rw [List.filter_cons,List.filter_cons,List.filter_cons,if_neg (by simp;omega),if_pos (by simpa using h),if_pos (by simp;omega),e1,List.nil_append,ih]
theorem unl_sorted (n:Nat) (listed:Array Bool):(unl n listed).Pairwise (· < ·):=(List.pairwise_lt_range).filter _
theorem getD_set (listed:Array Bool) (i k:Nat) (d:Bool):(listed.setIfInBounds i true).getD k d = if i = k∧i < listed.size then true else listed.getD k d:=by
 simp only [Array.getD_eq_getD_getElem?,Array.getElem?_setIfInBounds]
 by_cases h:i = k
 ·subst h
  by_cases h2:i < listed.size
  ·simp [h2]
  ·simp [h2]
 ·simp [h]
theorem unl_set (n:Nat) (listed:Array Bool) (i:Nat) (hi:i < listed.size):unl n (listed.setIfInBounds i true) = (unl n listed).filter fun k=>decide (k ≠ i):=by
 unfold unl
 rw [List.filter_filter]
 apply List.filter_congr
 intro k _
 rw [getD_set]
 by_cases h:i = k
 ·subst h;simp [hi]
 ·simp [h,Ne.symm h]
def Shut (ops:Array Oper) (listed:Array Bool):Prop:=∀ i oi,ops[i]? = some oi→listed.getD i false = true→∀ e ∈ oi.after,Region.binds .any e = true→listed.getD e.on false = true
theorem listed_of_mask {b:Array Nat} (hS:Serial P ops b) {listed:Array Bool} (hc:Shut ops listed):∀ (i:Nat) (oi:Oper),ops[i]? = some oi→(∀ e ∈ oi.after,Region.binds .any e = true→listed.getD e.on false = true) →
  ∀ p,(b.getD i 0).testBit p = true→listed.getD p false = true:=by
 intro i
 induction i using Nat.strongRecOn with
 | _ i ih =>
   intro oi hi hall p hp
   rw [hS.mask i oi hi] at hp
   rcases orMask_bit b _ 0 p hp with h | ⟨e,he,hb,h⟩
   ·simp at h
   ·have he':=Array.mem_toList_iff.1 he
    have hl:=hall e he' hb
    rcases h with rfl | h
    ·exact hl
    ·have hlt:=hS.edges i oi hi e he' hb
     have hsz:i < ops.size:=(Array.getElem?_eq_some_iff.1 hi).1
     have hoe:ops[e.on]? = some ops[e.on]:=Array.getElem?_eq_getElem (by omega)
     exact ih e.on hlt _ hoe (hc e.on _ hoe hl) p h
theorem front {b:Array Nat} (hS:Serial P ops b) {R:Act→World→Prop} (hF:Fin P ops R) {i:Nat} {oi:Oper} (hi:ops[i]? = some oi) (post:List Nat) (hpost:∀ k ∈ post,i < k) :
  ∀ (pre:List Nat),(pre.Pairwise (· < ·))→(∀ p ∈ pre,p < i∧p < ops.size∧(b.getD i 0).testBit p = false)→∀ (a:Act) (w:World),
   wpOps P ops (Exit.then R (fun _ _ _=>False)) (pre ++ i :: post) a w→wpOps P ops (Exit.then R (fun _ _ _=>False)) (i :: (pre ++ post)) a w:=by
 intro pre
 induction pre with
 | nil=>exact fun _ _ a w h=>h
 | cons p pre ih =>
   intro hsorted hpre a w h
   obtain ⟨hs1,hs2⟩:=List.pairwise_cons.1 hsorted
   obtain ⟨hpi,hpn,hpb⟩:=hpre p (List.mem_cons_self ..)
   have hop:ops[p]? = some ops[p]:=Array.getElem?_eq_getElem hpn
   have h1:wpOps P ops (Exit.then R (fun _ _ _=>False)) (p :: i :: (pre ++ post)) a w:=by
    rw [List.cons_append,wpOps_cons] at h
    rw [wpOps_cons]
    exact wpOp_mono (fun a w h=>ih hs2 (fun q hq=>hpre q (List.mem_cons_of_mem _ hq)) a w h) h
   rcases hS.pair i oi hi p _ hpi hop with h2 | ⟨hap,hap',hq⟩
   ·rw [hpb] at h2;cases h2
   ·rcases hq with hq | ⟨hq1,hq2⟩
    case inr=>exact swap_loads hi hop hap' (hS.sel i oi hi) (hS.sel p _ hop) hq2 hq1 h1
    refine swap hF hi hop hap' hap (hS.sel i oi hi) (hS.sel p _ hop) ?_ h1
    rcases hq with hq | hq
    ·refine .inr ⟨hq,?_⟩
     rcases Bool.eq_false_or_eq_true (easy ops[p].op) with he | he
     ·exact .inl he
     refine .inr ⟨hS.spares p _ hop hq he p _ (Nat.le_refl _) hop,fun k hk ok hok=>hS.spares p _ hop hq he k ok ?_ hok⟩
     rcases List.mem_append.1 hk with hk | hk
     ·exact Nat.le_of_lt (hs1 k hk)
     ·have:=hpost k hk;omega
    ·refine .inl ⟨hq,?_⟩
     rcases Bool.eq_false_or_eq_true (easy oi.op) with he | he
     ·exact .inl he
     refine .inr ⟨hS.spares i oi hi hq he i oi (Nat.le_refl _) hi,fun k hk ok hok t ht e=>?_⟩
     rcases List.mem_append.1 hk with hk | hk
     ·obtain ⟨hki,hkn,hkb⟩:=hpre k (List.mem_cons_of_mem _ hk)
      rcases hS.pair i oi hi k ok hki hok with h3 | ⟨h3,_,_⟩
      ·rw [hkb] at h3;cases h3
      ·exact (Oper.apart_spec h3).1 t e ht
     ·exact hS.spares i oi hi hq he k ok (Nat.le_of_lt (hpost k hk)) hok t ht e
theorem any_of_text {b:Array Nat} (hS:Serial P ops b) {R:Act→World→Prop} (hF:Fin P ops R):∀ (fuel:Nat) (listed:Array Bool),listed.size = ops.size→Shut ops listed→(unl ops.size listed).length ≤ fuel →
  ∀ (a:Act) (w:World),wpOps P ops (Exit.then R (fun _ _ _=>False)) (unl ops.size listed) a w→wpAny P .any ops (Exit.then R (fun _ _ _=>False)) fuel listed a w:=by
 have hmem:∀ (listed:Array Bool) (i:Nat),i ∈ unl ops.size listed ↔ i < ops.size∧listed.getD i true = false:=fun listed i=>by
  unfold unl
  rw [List.mem_filter,List.mem_range]
  simp
 -- where something is still to come, something may come up
 have hnone:∀ (listed:Array Bool),listed.size = ops.size→Region.ready .any ops listed = []→unl ops.size listed = []:=fun listed hsz hr=>by
  rcases hu:unl ops.size listed with _ | ⟨m,l⟩
  ·rfl
  ·exfalso
   have hm:m ∈ unl ops.size listed:=by rw [hu];exact List.mem_cons_self ..
   have hmin:∀ k,k < m→k < ops.size→listed.getD k false = true:=fun k hk hkn=>by
    have hso:=unl_sorted ops.size listed
    rw [hu] at hso
    have hnot:k ∉ unl ops.size listed:=fun hin=>by
     rw [hu] at hin
     rcases List.mem_cons.1 hin with rfl | hin
     ·omega
     ·have:=(List.pairwise_cons.1 hso).1 k hin;omega
    have:¬ (k < ops.size∧listed.getD k true = false):=fun h=>hnot ((hmem listed k).2 h)
    have hkl:k < listed.size:=by omega
    have h2:listed.getD k true = true:=by
     cases h:listed.getD k true
     ·exact absurd ⟨hkn,h⟩ this
     ·rfl
    simpa [Array.getD,hkl] using h2
   obtain ⟨hmn,hml⟩:=(hmem listed m).1 hm
   have hom:ops[m]? = some ops[m]:=Array.getElem?_eq_getElem hmn
   have:m ∈ Region.ready .any ops listed:=mem_ready.2 ⟨hml,_,hom,fun e he hb=>by
    have hlt:=hS.edges m _ hom e he hb
    exact hmin e.on hlt (by omega)⟩
   rw [hr] at this
   cases this
 intro fuel
 induction fuel with
 | zero =>
   intro listed hsz hc hf a w h
   have hu:unl ops.size listed = []:=List.eq_nil_of_length_eq_zero (by omega)
   rw [hu] at h
   refine ⟨?_,h⟩
   rcases hr:Region.ready .any ops listed with _ | ⟨i,l⟩
   ·rfl
   ·have hi:i ∈ Region.ready .any ops listed:=by rw [hr];exact List.mem_cons_self ..
    obtain ⟨h0,o,ho,_⟩:=mem_ready.1 hi
    have:=(hmem listed i).2 ⟨(Array.getElem?_eq_some_iff.1 ho).1,h0⟩
    rw [hu] at this
    cases this
 | succ fuel ih =>
   intro listed hsz hc hf a w h
   refine ⟨fun hr=>by rw [hnone listed hsz hr] at h;exact h,fun i hi=>?_⟩
   obtain ⟨h0,oi,ho,hall⟩:=mem_ready.1 hi
   have hin:i < ops.size:=(Array.getElem?_eq_some_iff.1 ho).1
   have hiu:=(hmem listed i).2 ⟨hin,h0⟩
   have hso:=unl_sorted ops.size listed
   rw [sorted_split hso hiu] at h
   have h1:=front hS hF ho ((unl ops.size listed).filter fun k=>decide (i < k)) (fun k hk=>by simpa using (List.mem_filter.1 hk).2) ((unl ops.size listed).filter fun k=>decide (k < i)) (hso.filter _) (fun p hp=>by
    obtain ⟨hp1,hp2⟩:=List.mem_filter.1 hp
    obtain ⟨hpn,hpl⟩:=(hmem listed p).1 hp1
    refine ⟨by simpa using hp2,hpn,?_⟩
    cases hb:(b.getD i 0).testBit p
    ·rfl
    ·have:=listed_of_mask hS hc i oi ho hall p hb
     have hpl':p < listed.size:=by omega
     simp only [Array.getD,hpl',dif_pos] at this hpl
     rw [this] at hpl
     cases hpl) a w h
   rw [wpOps_cons,sorted_rest hso,← unl_set ops.size listed i (by omega)] at h1
   refine wpOp_mono (fun a' w' h'=>ih (listed.setIfInBounds i true) (by simpa using hsz) ?_ ?_ a' w' h') h1
   ·intro k ok hk hl e he hb
    rw [getD_set] at hl ⊢
    split
    ·rfl
    ·split at hl
     ·rename_i hik
      obtain ⟨rfl,_⟩:=hik
      rw [ho] at hk
      obtain rfl:=Option.some.inj hk
      exact hall e he hb
     ·exact hc k ok hk hl e he hb
   ·rw [unl_set ops.size listed i (by omega),← sorted_rest hso i]
    have hlen:=congrArg List.length (sorted_split hso hiu)
    simp only [List.length_append,List.length_cons] at hlen ⊢
    omega
theorem wp_serial {id:Nat} {l:List Oper} {Q:Exit→Act→World→Prop} {a:Act} {w:World} (hm:P.follows .mixedOrders = true) (b:Array Nat) (hs:serialB P l.toArray b = true)
  (h:wpList P l.toArray (Exit.then (fun a w=>goodB P l.toArray a = true∧Q .normal a w) (fun _ _ _=>False)) l a w.drew):(Code.region id l.toArray true).wp P Q a w:=by
 have hS:=serial_of hs
 have hl:wpOps P l.toArray (Exit.then (fun a w=>goodB P l.toArray a = true∧Q .normal a w) (fun _ _ _=>False)) (unl l.toArray.size (Array.replicate l.toArray.size false)) a w.drew:=by
  have e:unl l.toArray.size (Array.replicate l.toArray.size false) = List.range' 0 l.length:=by
   unfold unl
   rw [List.filter_eq_self.2 fun k hk=>by have:=List.mem_range.1 hk;simp [Array.getD];simpa using this,List.range_eq_range']
   simp
  rw [e,wpOps_eq_wpList l 0 (by simp)]
  exact h
 have:=wp_region_any (id:=id) (Q:=Exit.then (fun a w=>goodB P l.toArray a = true∧Q .normal a w) (fun _ _ _=>False)) hm
  (any_of_text hS (fun a w h=>h.1) l.toArray.size (Array.replicate l.toArray.size false) (by simp) (fun i oi hi hl=>by
    have:i < l.toArray.size:=(Array.getElem?_eq_some_iff.1 hi).1
    simp [Array.getD] at hl) (by
     refine Nat.le_trans (List.length_filter_le _ _) ?_
     simp) a w.drew hl)
 refine wp_mono this fun e a w q=>?_
 cases e with
 | normal=>exact q.2
 | _=>exact q.elim
def maskOf (ops:Array Oper):Array Nat:=ops.foldl (fun acc o=>acc.push (orMask acc o.after.toList 0)) #[]
theorem wp_text {id:Nat} {l:List Oper} {Q:Exit→Act→World→Prop} {a:Act} {w:World} (hm:P.follows .mixedOrders = true) (hs:serialB P l.toArray (maskOf l.toArray) = true)
  (h:∀ R:Act→World→Prop,(∀ a w,goodB P l.toArray a = true∧Q .normal a w→R a w)→wpList P l.toArray (Exit.then R (fun _ _ _=>False)) l a w.drew):(Code.region id l.toArray true).wp P Q a w :=
 wp_serial hm _ hs (h _ fun _ _ h=>h)
end
end
section -- TextIn
open Go Go.RowKit
section
variable {P:Program} {n:Nat} {ops:Array Oper}
def Wide (F:Fence):Prop:=F = Fence.wide∨∃ l,F = Fence.wide.inRound l
theorem wide0:Wide Fence.wide:=.inl rfl
theorem wide1 (l:Nat):Wide (Fence.wide.inRound l):=.inr ⟨l,rfl⟩
theorem Wide.fn {F:Fence} (h:Wide F) (f:FuncId):F.fn f:=by rcases h with rfl | ⟨l,rfl⟩ <;> trivial
theorem Wide.depth {F:Fence} (h:Wide F):F.depth = none:=by rcases h with rfl | ⟨l,rfl⟩ <;> rfl
theorem Wide.calls {F:Fence} (h:Wide F) {f:FuncId} {args:Array Value} {w:World} {R:Ending→World→Prop} (hc:Calls P f args w R):CallsIn F n P f args w R:=by
 rcases h with rfl | ⟨l,rfl⟩
 ·exact callsIn_wide.2 hc
 ·exact (callsIn_wide.2 hc).inRound l
end
end
section -- Env
open Go Go.RowKit
def valOf (D:List Nat) (V:List Value) (s:Nat):Value:=V.getD (D.idxOf s) undef
theorem frameOf_tmps (D:List Nat) (x:Nat→Value):∀ (a:Act) (s:Nat),(frameOf a D x).tmps[s]? = if s ∈ D∧s < a.tmps.size then some (x s) else a.tmps[s]?:=by
 unfold frameOf
 induction D with
 | nil=>intro a s;simp
 | cons d D ih =>
   intro a s
   rw [List.foldl_cons,ih]
   simp only [Act.put,Array.size_setIfInBounds,Array.getElem?_setIfInBounds,List.mem_cons]
   by_cases h1:s ∈ D
   ·by_cases h2:s < a.tmps.size
    ·simp [h1,h2]
    ·have h4:a.tmps[s]? = none:=Array.getElem?_eq_none (by omega)
     by_cases h3:d = s <;> simp [h1,h2,h3]
   ·by_cases h2:s = d
    ·subst h2
     by_cases h3:s < a.tmps.size <;> simp [h1,h3]
    ·have h3:¬ d = s:=fun e=>h2 e.symm
     simp [h1,h2,h3]
theorem frameOf_defers (D:List Nat) (x:Nat→Value):∀ a:Act,(frameOf a D x).defers = a.defers:=by
 unfold frameOf
 induction D with
 | nil=>intro a;rfl
 | cons d D ih=>intro a;rw [List.foldl_cons,ih];rfl
theorem frameOf_put (D:List Nat) (x:Nat→Value) (a:Act) (d:Nat) (hd:d ∈ D) (v:Value):(frameOf a D x).put (some d) v = frameOf a D (upd x d v):=by
 have h1:((frameOf a D x).put (some d) v).tmps = (frameOf a D (upd x d v)).tmps:=by
  apply Array.ext_getElem?
  intro s
  have hsz:(frameOf a D x).tmps.size = a.tmps.size:=by
   unfold frameOf
   clear hd
   induction D generalizing a with
   | nil=>rfl
   | cons d D ih=>rw [List.foldl_cons,ih];simp [Act.put]
  simp only [Act.put,Array.getElem?_setIfInBounds,frameOf_tmps,hsz]
  by_cases h:d = s
  ·subst h
   rw [upd_same]
   by_cases h2:d < a.tmps.size <;> simp [h2,hd]
  ·rw [if_neg h,upd_other x v (fun e=>h e.symm)]
 have h2:((frameOf a D x).put (some d) v).defers = (frameOf a D (upd x d v)).defers:=by
  rw [frameOf_defers]
  exact frameOf_defers D x a
 generalize (frameOf a D x).put (some d) v = p at h1 h2
 generalize frameOf a D (upd x d v) = q at h1 h2
 cases p
 cases q
 simp only at h1 h2
 subst h1 h2
 rfl
theorem frameOf_congr (D:List Nat) (x y:Nat→Value) (a:Act) (h:∀ s ∈ D,x s = y s):frameOf a D x = frameOf a D y:=by
 unfold frameOf
 induction D generalizing a with
 | nil=>rfl
 | cons d D ih =>
   rw [List.foldl_cons,List.foldl_cons,h d (by simp)]
   exact ih _ fun s hs=>h s (by simp [hs])
def putAll:Act→List Nat→List Value→Act
 | a,d :: D,v :: V=>putAll (a.put (some d) v) D V
 | a,_,_=>a
theorem putAll_eq:∀ (D:List Nat) (V:List Value) (a:Act) (x:Nat→Value),V.length = D.length→(∀ i,i < D.length→x (D.getD i 0) = V.getD i undef)→frameOf a D x = putAll a D V
 | [],[],a,x,_,_=>rfl
 | [],_ :: _,_,_,h,_=>by cases h
 | _ :: _,[],_,_,h,_=>by cases h
 | d :: D,v :: V,a,x,hl,h=>by
   have h0:x d = v:=h 0 (by simp)
   show frameOf (a.put (some d) (x d)) D x = putAll (a.put (some d) v) D V
   rw [h0]
   exact putAll_eq D V _ x (by simpa using hl) fun i hi=>by have:=h (i + 1) (by simpa using hi);simpa using this
section
variable {P:Program} {n:Nat} {ops:Array Oper}
def envB (ops:Array Oper) (D:List Nat):Bool :=
 invB ops D && (List.range ops.size).all fun i=>match ops[i]? with
  | some o=>(match o.op with | .defer ..=>false | .select ..=>false | _=>true) && (o.dst == some (D.getD i 0)) &&
    (o.looksAt ops).all fun s=>!D.contains s || (List.range i).any fun j=>D.getD j 0 == s && o.after.any fun e=>Region.binds .any e && e.on == j
  | none=>true
def envRes (P:Program) (v:Value) (w:World):Result Next→Prop
 | .ok (.value u) w'=>u = v∧Below w.heap.size w w'
 | .ok (.enter f args) w'=>w' = w∧Calls P f args w fun e w''=>e = .returned v∧Below w.heap.size w w''
 | _=>False
def EnvStep (P:Program) (ops:Array Oper) (fin:Act) (w0:World) (o:Oper) (v:Value):Prop :=
 (Region.wanted o (yielded ops fin.tmps) = false∧v = undef)∨(Region.wanted o (yielded ops fin.tmps) = true∧∀ w,Below w0.heap.size w0 w→envRes P v w ((execOp fin.eval o).run P w))
def EnvSteps (P:Program) (ops:Array Oper) (fin:Act) (w0:World):List Oper→List Value→Prop
 | o :: l,v :: V=>EnvStep P ops fin w0 o v∧EnvSteps P ops fin w0 l V
 | [],[]=>True
 | _,_=>False
theorem envSteps_at {fin:Act} {w0:World}:∀ {l:List Oper} {V:List Value},EnvSteps P ops fin w0 l V→∀ {j:Nat} {o:Oper},l[j]? = some o→EnvStep P ops fin w0 o (V.getD j undef)
 | [],_,_,_,_,h=>by simp at h
 | _ :: _,[],hs,_,_,_=>hs.elim
 | x :: l,v :: V,hs,0,o,h=>by
   simp only [List.getElem?_cons_zero,Option.some.injEq] at h
   subst h
   exact hs.1
 | x :: l,v :: V,hs,j + 1,o,h=>by
   rw [List.getElem?_cons_succ] at h
   simpa using envSteps_at hs.2 h
theorem envSteps_len {fin:Act} {w0:World}:∀ {l:List Oper} {V:List Value},EnvSteps P ops fin w0 l V→V.length = l.length
 | [],[],_=>rfl
 | [],_ :: _,h=>h.elim
 | _ :: _,[],h=>h.elim
 | _ :: l,_ :: V,h=>by simp [envSteps_len h.2]
theorem idxOf_getD {D:List Nat} (hnd:D.Nodup) {i:Nat} (hi:i < D.length):D.idxOf (D.getD i 0) = i:=by
 rw [List.getD_eq_getElem?_getD,List.getElem?_eq_getElem hi,Option.getD_some]
 exact List.Nodup.idxOf_getElem hnd i hi
theorem stepsF_of {F:Fence} (hF:Wide F) {a fin:Act} {D:List Nat} {V:List Value} {w0:World} (hb:envB ops D = true) (hV:V.length = D.length) (hfin:frameOf a D (valOf D V) = fin) :
  ∀ (l:List Oper) (k:Nat),(∀ j,l[j]? = ops[k + j]?)→(∀ j o,l[j]? = some o→EnvStep P ops fin w0 o (V.getD (k + j) undef))→StepsF F n P ops a D (V.map Fact.is) w0 k l
 | [],_,_,_=>trivial
 | o :: l,k,hk,hs=>by
   refine ⟨?_,stepsF_of hF hb hV hfin l (k + 1) (fun j=>by have:=hk (j + 1);simpa [Nat.add_assoc,Nat.add_comm 1 j] using this) fun j o' h=>by have:=hs (j + 1) o' (by simpa using h);simpa [Nat.add_assoc,Nat.add_comm 1 j] using this⟩
   have ho:ops[k]? = some o:=by simpa using (hk 0).symm
   have hkl:=(Array.getElem?_eq_some_iff.1 ho).1
   have hst:EnvStep P ops fin w0 o (V.getD k undef):=hs 0 o rfl
   unfold envB at hb
   rw [Bool.and_eq_true] at hb
   obtain ⟨hi,hb⟩:=hb
   simp only [invB,Bool.and_eq_true,decide_eq_true_eq] at hi
   obtain ⟨⟨-,hlen⟩,hnd⟩:=hi
   have hb:=List.all_eq_true.1 hb k (List.mem_range.2 hkl)
   rw [ho] at hb
   simp only [Bool.and_eq_true] at hb
   obtain ⟨⟨hop,hdst⟩,hlook⟩:=hb
   have hndf:∀ c,o.op ≠ .defer c:=fun c hc=>by rw [hc] at hop;cases hop
   have hnsl:∀ cs b,o.op ≠ .select cs b:=fun c b hc=>by rw [hc] at hop;cases hop
   intro x w R hB hf hR
   -- the slots that it looks at
   have hsame:∀ s,s ∈ o.looksAt ops→(frameOf a D x).tmps[s]? = fin.tmps[s]?:=by
    intro s hs
    rw [← hfin,frameOf_tmps,frameOf_tmps]
    by_cases hD:s ∈ D
    ·have:=List.all_eq_true.1 hlook s hs
     rw [Bool.or_eq_true] at this
     rcases this with h | h
     ·simp [hD] at h
     ·obtain ⟨j,hj,hj2⟩:=List.any_eq_true.1 h
      rw [Bool.and_eq_true] at hj2
      obtain ⟨hjs,hje⟩:=hj2
      have hjs:D.getD j 0 = s:=by simpa using hjs
      have hjk:=List.mem_range.1 hj
      have h1:=hf j hje
      have hjl:j < D.length:=by omega
      rw [hjs] at h1
      have h2:x s = valOf D V s:=by
       have e:D.idxOf s = j:=by rw [← hjs];exact idxOf_getD hnd hjl
       unfold valOf
       rw [e]
       rw [List.getD_eq_getElem?_getD,List.getElem?_map,List.getElem?_eq_getElem (show j < V.length by omega)] at h1
       rw [List.getD_eq_getElem?_getD,List.getElem?_eq_getElem (show j < V.length by omega)]
       exact h1
      rw [h2]
    ·simp [hD]
   have hev:∀ y ∈ o.op.operands,(frameOf a D x).eval y = fin.eval y:=by
    intro y hy
    cases y with
    | tmp s =>
      have h1:=hsame s (List.mem_append_left _ (List.mem_filterMap.2 ⟨.tmp s,by simpa using hy,rfl⟩))
      show (frameOf a D x).tmps.getD s undef = fin.tmps.getD s undef
      simp only [Array.getD_eq_getD_getElem?,h1]
    | _=>rfl
   have hex:=execOp_congr (ρ:=(frameOf a D x).eval) (ρ':=fin.eval) o hnsl hev
   have hwa:Region.wanted o (yielded ops (frameOf a D x).tmps) = Region.wanted o (yielded ops fin.tmps):=by
    unfold Region.wanted
    cases hg:o.guard with
    | none=>rfl
    | some g =>
      obtain ⟨g,b⟩:=g
      dsimp only
      unfold yielded
      cases hd:(ops[g]?).bind (·.dst) with
      | none=>rfl
      | some d =>
        have h1:=hsame d (List.mem_append_right _ (by rw [hg];simp [hd]))
        simp only [Option.bind_some,h1]
   have hdst:o.dst = some (D.getD k 0):=by simpa using hdst
   have hkD:k < D.length:=by omega
   have hmem:D.getD k 0 ∈ D:=by rw [List.getD_eq_getElem?_getD,List.getElem?_eq_getElem hkD];exact List.getElem_mem hkD
   have hput:∀ v,(frameOf a D x).put o.dst v = frameOf a D (upd x (D.getD k 0) v):=fun v=>by rw [hdst];exact frameOf_put D x a _ hmem v
   have hfk:∀ w',((V.map Fact.is).getD k .any).p (V.getD k undef) w':=by
    intro w'
    rw [List.getD_eq_getElem?_getD,List.getD_eq_getElem?_getD,List.getElem?_map,List.getElem?_eq_getElem (show k < V.length by omega)]
    rfl
   unfold wpListIn
   rw [hwa]
   rcases hst with ⟨h1,h2⟩ | ⟨h1,h2⟩
   ·rw [if_neg (by rw [h1];simp)]
    refine ⟨fun f _=>hF.fn f,?_⟩
    rw [hput]
    exact hR _ _ (h2 ▸ hfk w) (Below.refl _ _)
   ·rw [if_pos h1]
    refine ⟨fun f _=>hF.fn f,?_⟩
    rw [Oper.semAt_plain F _ o hndf,hex]
    have h3:=h2 w hB
    generalize (execOp fin.eval o).run P w = r at h3
    cases r with
    | halt hh w'=>exact h3.elim
    | ok nx w' =>
      cases nx with
      | value u =>
        obtain ⟨rfl,hbw⟩:=h3
        rw [Oper.uponIn_value,hput]
        exact hR _ _ (hfk w') hbw
      | enter f args =>
        obtain ⟨rfl,hc⟩:=h3
        rw [Oper.uponIn_enter]
        refine ⟨(fun h=>by rw [hF.depth] at h;cases h),(hF.calls hc).mono ?_⟩
        rintro e w'' ⟨rfl,hbw⟩
        show wpListIn F n P ops _ [] ((frameOf a D x).put o.dst (V.getD k undef)) w''
        rw [hput]
        exact hR _ _ (hfk w'') hbw
      | _=>exact h3.elim
theorem wpIn_env {F:Fence} (hF:Wide F) {id:Nat} {l:List Oper} {Q:Exit→Act→World→Prop} {a:Act} {w:World} (hm:P.follows .mixedOrders = true) (D:List Nat) (V:List Value) (hb:envB l.toArray D = true) {fin:Act} (hfin:putAll a D V = fin)
  (hstep:EnvSteps P l.toArray fin w l V) (hend:∀ w',Below w.heap.size w w'→Q .normal fin w'):(Code.region id l.toArray true).wpIn F n P Q a w:=by
 have hb':=hb
 unfold envB at hb'
 rw [Bool.and_eq_true] at hb'
 obtain ⟨hi,-⟩:=hb'
 have hi':=hi
 simp only [invB,Bool.and_eq_true,decide_eq_true_eq] at hi'
 obtain ⟨⟨-,hlen⟩,hnd⟩:=hi'
 have hV:V.length = D.length:=by rw [envSteps_len hstep,hlen];simp
 have hfin:frameOf a D (valOf D V) = fin:=by
  rw [← hfin]
  exact putAll_eq D V a _ hV fun i hi=>by unfold valOf;rw [idxOf_getD hnd hi]
 refine wpIn_facts hm D (V.map Fact.is) hi (stepsF_of hF hb hV hfin l 0 (fun j=>by simp) fun j o h=>by rw [Nat.zero_add];exact envSteps_at hstep h) fun x w' hbw hx=>?_
 have e:frameOf a D x = fin:=by
  rw [← hfin]
  refine frameOf_congr D _ _ a fun s hs=>?_
  obtain ⟨j,hj,rfl⟩:=List.getElem_of_mem hs
  have h1:=hx j (by omega)
  rw [List.getD_eq_getElem?_getD,List.getElem?_map,List.getElem?_eq_getElem (show j < V.length by omega),List.getD_eq_getElem?_getD,List.getElem?_eq_getElem hj] at h1
  have h1:x D[j] = V[j]'(by omega):=h1
  unfold valOf
  rw [List.Nodup.idxOf_getElem hnd j hj,List.getD_eq_getElem?_getD,List.getElem?_eq_getElem (show j < V.length by omega),Option.getD_some]
  exact h1
 rw [e]
 exact hend w' hbw
theorem wp_env {id:Nat} {l:List Oper} {Q:Exit→Act→World→Prop} {a:Act} {w:World} (hm:P.follows .mixedOrders = true) (D:List Nat) (V:List Value) (hb:envB l.toArray D = true) {fin:Act} (hfin:putAll a D V = fin)
  (hstep:EnvSteps P l.toArray fin w l V) (hend:∀ w',Below w.heap.size w w'→Q .normal fin w'):(Code.region id l.toArray true).wp P Q a w :=
 (wpIn_wide (n:=8)).1 (wpIn_env wide0 hm D V hb hfin hstep hend)
end
end
section -- NKind
open Go Go.RowKit Go.Shelf
theorem contains_at (f:ByteArray) (hs:f.size < 4294967281) (m:ByteArray) (b:Bool) (h:Lib.contains f.data.toList m.data.toList = b) (w:World) (hm:Tryz.MaxL w) :
  Calls Tryz.prog 130 #[.string f,.string m] w fun e w'=>e = .returned (.bool b)∧w = w':=(Tryz.strings_Contains f m w hs hm).mono fun e w' ⟨h1,h2⟩=>⟨by rw [h1,h],h2.symm⟩
theorem replaceK_len (old:List UInt8):∀ (k:Nat) (s:List UInt8),(Lib.replaceK old [] k s).length ≤ s.length
 | 0,s=>Nat.le_refl _
 | k + 1,s=>by
   unfold Lib.replaceK
   split
   ·exact Nat.le_refl _
   ·have:=replaceK_len old k (s.drop ((Lib.index s old).toNat + old.length))
    simp only [List.length_append,List.length_take,List.length_nil,List.length_drop] at *
    omega
theorem replace_len (s old:List UInt8):(Lib.replace s old [] 1).length ≤ s.length:=by
 unfold Lib.replace
 split
 ·exact Nat.le_refl _
 ·exact replaceK_len _ _ _
theorem replace_at (f:ByteArray) (hs:f.size < 4294967281) (m:ByteArray) (h1:1 ≤ m.size) (w:World) (hm:Tryz.MaxL w) :
  Calls Tryz.prog 112 #[.string f,.string m,.string ⟨#[]⟩,.int .i64 1] w fun e w'=>e = .returned (.string ⟨(Lib.replace f.data.toList m.data.toList [] 1).toArray⟩)∧Below w.heap.size w w' :=
 Tryz.strings_Replace f m ⟨#[]⟩ 1 w hs hm h1 (by show f.size + _ * 0 ≤ _;omega)
def abcS:ByteArray:=⟨#[97,98,99,100,101,102,103,104,105,106,107,108,109,110,111,112,113,114,115,116,117,118,119,120,121,122,65,66,67,68,69,70,71,72,73,74,75,76,77,78,79,80,81,82,83,84,85,86,87,88,89,90,48,49,50,51,52,53,54,55,56,57,43,45]⟩
theorem trim_at (p:ByteArray) (hs:p.size ≤ 9223372036854775807) (l:List UInt8) (hl:Lib.trimS p.data.toList abcB = l) (w:World) :
  Calls Tryz.prog 131 #[.string p,.string abcS] w fun e w'=>e = .returned (.string ⟨l.toArray⟩)∧Below w.heap.size w w':=by
 subst hl
 exact Tryz.strings_Trim p abcS w hs (by decide) (Go.Proofs.ascii_of_all (by decide))
theorem kind_any (f:ByteArray) (w:World) (hs:f.size < 4294967281) (hm:Tryz.MaxL w) :
  Calls Tryz.prog 106 #[.string f] w fun e w'=>e = .returned (.tuple #[.int .i64 (kindR f.data.toList).1,.int .i64 (kindR f.data.toList).2])∧Below w.heap.size w w':=by
 have HM:∀ W,Below w.heap.size w W→Tryz.MaxL W:=fun W hb=>hm.below hb (Nat.le_refl _)
 by_cases h1:Lib.contains f.data.toList [37,115] = true
 ·have HT:=contains_at f hs ⟨#[37,115]⟩ true h1
  go_enter Tryz.func106,Tryz.ntmps106
  go_wp2_with fail
  refine wp_loop_rounds 4 ?_
  rw [rounds_succ]
  go_wp2_with fail
  refine (HT _ (HM _ (((Below.refl _ _).alloc (Nat.le_refl _) _).alloc (by simp) _))).mono ?_
  rintro e w1 ⟨rfl,rfl⟩
  go_wp2_with fail
  refine wp_env (fin:=?fn0) (by kernel_rfl) [23,24,25,26,27,28,4,5]
   [.string f,.pointer (some ⟨w.heap.size + 1,0,none⟩),.string ⟨#[37,115]⟩,.string ⟨(Lib.replace f.data.toList [37,115] [] 1).toArray⟩,.pointer (some ⟨w.heap.size + 1,1,none⟩),.int .i64 1,.string ⟨(Lib.replace f.data.toList [37,115] [] 1).toArray⟩,.int .i64 1] (by kernel_rfl) ?fin0 ?steps0 ?next0
  case fin0=>simp only [putAll,Act.put,List.setIfInBounds_toArray,List.set_cons_succ,List.set_cons_zero];rfl
  case steps0 =>
   refine ⟨?_,?_,?_,?_,?_,?_,?_,?_,trivial⟩
   all_goals
    refine .inr ⟨by kernel_rfl,fun w1_ hB=>?_⟩
    have hb:=blk_behind hB
    simp only [World.size_alloc] at hb
    have q0:=hb.cell 0 (v:=.string ⟨#[37,115]⟩) rfl
    have q1:=hb.cell 1 (v:=.int .i64 1) rfl
    have hbw:=(((Below.refl _ _).alloc (Nat.le_refl _) _).alloc (by simp) _).trans (hB.mono (by simp;omega))
    clear hb hB
    go_simp
    first | exact ⟨rfl,Below.refl _ _⟩ | exact ⟨rfl,replace_at f hs ⟨#[37,115]⟩ (by decide) _ (HM _ hbw)⟩
  case next0 =>
   intro W4 hB4
   have hB:=(((Below.refl _ _).alloc (Nat.le_refl _) _).alloc (by simp) _).trans (hB4.mono (by simp;omega))
   clear hB4
   have hp:f.data.toList ≠ []:=contains_ne (by decide) h1
   have hne:¬ f.toList = []:=by rw [Lib.toList_data];exact hp
   have hne2:f.toList.isEmpty = false:=by cases e:f.toList with | nil=>exact absurd e hne | cons a l=>rfl
   have hk:kindP f.data.toList = (1,Lib.replace f.data.toList [37,115] [] 1):=by unfold kindP;rw [if_pos h1]
   have hz:(Lib.replace f.data.toList [37,115] [] 1).length ≤ f.size:=by have:=replace_len f.data.toList [37,115];simpa using this
   by_cases hl:64 < (f.size:Int)
   ·have HB:=Lib.hid (kindR_bad (bad_long (f:=f.data.toList) (by rw [Array.length_toList];show 64 < f.size;omega)))
    clear hk hz hp
    go_wp2_with fail
    all_goals (go_ret2;exact ⟨by rw [HB.out];rfl,hB⟩)
   ·have HK:=Lib.hid (fun h=>kindR_ok (bad_not hk hp (by rw [Array.length_toList];show ¬ 64 < f.size;omega) (edge_not hk (by decide)) h) hk)
    have HN:=Lib.hid (fun h=>kindR_bad (bad_trim hk h))
    clear hk hp
    generalize Lib.replace f.data.toList [37,115] [] 1 = p at *
    go_wp2_with fail
    refine (trim_at _ (by show p.toArray.size ≤ _;simp;omega) (Lib.trimS p abcB) rfl _).mono ?_
    rintro e w5 ⟨rfl,hb5⟩
    generalize Lib.trimS p abcB = z at *
    have hb6:=hB.trans (hb5.mono hB.size)
    clear hb5 hB
    by_cases he:z = []
    ·have he2:(!z.isEmpty) = false:=by rw [he];rfl
     have HB:=Lib.hid (HK.out he)
     clear he HK HN
     go_wp2_with fail
     go_ret2
     exact ⟨by rw [HB.out];rfl,hb6⟩
    ·have he2:(!z.isEmpty) = true:=by cases z with | nil=>exact absurd rfl he | cons a l=>rfl
     have HB:=Lib.hid (HN.out he)
     clear he HK HN
     go_wp2_with fail
     go_ret2
     exact ⟨by rw [HB.out];rfl,hb6⟩
 ·skip
  by_cases h2:Lib.contains f.data.toList [37,122] = true
  ·have HT:=contains_at f hs ⟨#[37,122]⟩ true h2
   have HF1:=contains_at f hs ⟨#[37,115]⟩ false (by simpa using h1)
   go_enter Tryz.func106,Tryz.ntmps106
   go_wp2_with fail
   refine wp_loop_rounds 4 ?_
   rw [rounds_succ]
   go_wp2_with fail
   refine (HF1 _ (HM _ (((Below.refl _ _).alloc (Nat.le_refl _) _).alloc (by simp) _))).mono ?_
   rintro e w1 ⟨rfl,rfl⟩
   go_wp2_with fail
   rw [rounds_succ]
   go_wp2_with fail
   refine (HT _ (HM _ ((((Below.refl _ _).alloc (Nat.le_refl _) _).alloc (by simp) _).alloc (by simp;omega) _))).mono ?_
   rintro e w1 ⟨rfl,rfl⟩
   go_wp2_with fail
   refine wp_env (fin:=?fn1) (by kernel_rfl) [23,24,25,26,27,28,4,5]
    [.string f,.pointer (some ⟨w.heap.size + 1 + 1,0,none⟩),.string ⟨#[37,122]⟩,.string ⟨(Lib.replace f.data.toList [37,122] [] 1).toArray⟩,.pointer (some ⟨w.heap.size + 1 + 1,1,none⟩),.int .i64 2,.string ⟨(Lib.replace f.data.toList [37,122] [] 1).toArray⟩,.int .i64 2] (by kernel_rfl) ?fin1 ?steps1 ?next1
   case fin1=>simp only [putAll,Act.put,List.setIfInBounds_toArray,List.set_cons_succ,List.set_cons_zero];rfl
   case steps1 =>
    refine ⟨?_,?_,?_,?_,?_,?_,?_,?_,trivial⟩
    all_goals
     refine .inr ⟨by kernel_rfl,fun w1_ hB=>?_⟩
     have hb:=blk_behind hB
     simp only [World.size_alloc] at hb
     have q0:=hb.cell 0 (v:=.string ⟨#[37,122]⟩) rfl
     have q1:=hb.cell 1 (v:=.int .i64 2) rfl
     have hbw:=((((Below.refl _ _).alloc (Nat.le_refl _) _).alloc (by simp) _).alloc (by simp;omega) _).trans (hB.mono (by simp;omega))
     clear hb hB
     go_simp
     first | exact ⟨rfl,Below.refl _ _⟩ | exact ⟨rfl,replace_at f hs ⟨#[37,122]⟩ (by decide) _ (HM _ hbw)⟩
   case next1 =>
    intro W4 hB4
    have hB:=((((Below.refl _ _).alloc (Nat.le_refl _) _).alloc (by simp) _).alloc (by simp;omega) _).trans (hB4.mono (by simp;omega))
    clear hB4
    have hp:f.data.toList ≠ []:=contains_ne (by decide) h2
    have hne:¬ f.toList = []:=by rw [Lib.toList_data];exact hp
    have hne2:f.toList.isEmpty = false:=by cases e:f.toList with | nil=>exact absurd e hne | cons a l=>rfl
    have hk:kindP f.data.toList = (2,Lib.replace f.data.toList [37,122] [] 1):=by unfold kindP;rw [if_neg h1,if_pos h2]
    have hz:(Lib.replace f.data.toList [37,122] [] 1).length ≤ f.size:=by have:=replace_len f.data.toList [37,122];simpa using this
    by_cases hl:64 < (f.size:Int)
    ·have HB:=Lib.hid (kindR_bad (bad_long (f:=f.data.toList) (by rw [Array.length_toList];show 64 < f.size;omega)))
     clear hk hz hp
     go_wp2_with fail
     all_goals (go_ret2;exact ⟨by rw [HB.out];rfl,hB⟩)
    ·have HK:=Lib.hid (fun h=>kindR_ok (bad_not hk hp (by rw [Array.length_toList];show ¬ 64 < f.size;omega) (edge_not hk (by decide)) h) hk)
     have HN:=Lib.hid (fun h=>kindR_bad (bad_trim hk h))
     clear hk hp
     generalize Lib.replace f.data.toList [37,122] [] 1 = p at *
     go_wp2_with fail
     refine (trim_at _ (by show p.toArray.size ≤ _;simp;omega) (Lib.trimS p abcB) rfl _).mono ?_
     rintro e w5 ⟨rfl,hb5⟩
     generalize Lib.trimS p abcB = z at *
     have hb6:=hB.trans (hb5.mono hB.size)
     clear hb5 hB
     by_cases he:z = []
     ·have he2:(!z.isEmpty) = false:=by rw [he];rfl
      have HB:=Lib.hid (HK.out he)
      clear he HK HN
      go_wp2_with fail
      go_ret2
      exact ⟨by rw [HB.out];rfl,hb6⟩
     ·have he2:(!z.isEmpty) = true:=by cases z with | nil=>exact absurd rfl he | cons a l=>rfl
      have HB:=Lib.hid (HN.out he)
      clear he HK HN
      go_wp2_with fail
      go_ret2
      exact ⟨by rw [HB.out];rfl,hb6⟩
  ·skip
   by_cases h3:Lib.contains f.data.toList [47] = true
   ·have HT:=contains_at f hs ⟨#[47]⟩ true h3
    have HF1:=contains_at f hs ⟨#[37,115]⟩ false (by simpa using h1)
    have HF2:=contains_at f hs ⟨#[37,122]⟩ false (by simpa using h2)
    go_enter Tryz.func106,Tryz.ntmps106
    go_wp2_with fail
    refine wp_loop_rounds 4 ?_
    rw [rounds_succ]
    go_wp2_with fail
    refine (HF1 _ (HM _ (((Below.refl _ _).alloc (Nat.le_refl _) _).alloc (by simp) _))).mono ?_
    rintro e w1 ⟨rfl,rfl⟩
    go_wp2_with fail
    rw [rounds_succ]
    go_wp2_with fail
    refine (HF2 _ (HM _ ((((Below.refl _ _).alloc (Nat.le_refl _) _).alloc (by simp) _).alloc (by simp;omega) _))).mono ?_
    rintro e w1 ⟨rfl,rfl⟩
    go_wp2_with fail
    rw [rounds_succ]
    go_wp2_with fail
    refine (HT _ (HM _ (((((Below.refl _ _).alloc (Nat.le_refl _) _).alloc (by simp) _).alloc (by simp;omega) _).alloc (by simp;omega) _))).mono ?_
    rintro e w1 ⟨rfl,rfl⟩
    go_wp2_with fail
    refine wp_env (fin:=?fn2) (by kernel_rfl) [23,24,25,26,27,28,4,5]
     [.string f,.pointer (some ⟨w.heap.size + 1 + 1 + 1,0,none⟩),.string ⟨#[47]⟩,.string ⟨(Lib.replace f.data.toList [47] [] 1).toArray⟩,.pointer (some ⟨w.heap.size + 1 + 1 + 1,1,none⟩),.int .i64 3,.string ⟨(Lib.replace f.data.toList [47] [] 1).toArray⟩,.int .i64 3] (by kernel_rfl) ?fin2 ?steps2 ?next2
    case fin2=>simp only [putAll,Act.put,List.setIfInBounds_toArray,List.set_cons_succ,List.set_cons_zero];rfl
    case steps2 =>
     refine ⟨?_,?_,?_,?_,?_,?_,?_,?_,trivial⟩
     all_goals
      refine .inr ⟨by kernel_rfl,fun w1_ hB=>?_⟩
      have hb:=blk_behind hB
      simp only [World.size_alloc] at hb
      have q0:=hb.cell 0 (v:=.string ⟨#[47]⟩) rfl
      have q1:=hb.cell 1 (v:=.int .i64 3) rfl
      have hbw:=(((((Below.refl _ _).alloc (Nat.le_refl _) _).alloc (by simp) _).alloc (by simp;omega) _).alloc (by simp;omega) _).trans (hB.mono (by simp;omega))
      clear hb hB
      go_simp
      first | exact ⟨rfl,Below.refl _ _⟩ | exact ⟨rfl,replace_at f hs ⟨#[47]⟩ (by decide) _ (HM _ hbw)⟩
    case next2 =>
     intro W4 hB4
     have hB:=(((((Below.refl _ _).alloc (Nat.le_refl _) _).alloc (by simp) _).alloc (by simp;omega) _).alloc (by simp;omega) _).trans (hB4.mono (by simp;omega))
     clear hB4
     have hp:f.data.toList ≠ []:=contains_ne (by decide) h3
     have hne:¬ f.toList = []:=by rw [Lib.toList_data];exact hp
     have hne2:f.toList.isEmpty = false:=by cases e:f.toList with | nil=>exact absurd e hne | cons a l=>rfl
     have hk:kindP f.data.toList = (3,Lib.replace f.data.toList [47] [] 1):=by unfold kindP;rw [if_neg h1,if_neg h2,if_pos h3]
     have hz:(Lib.replace f.data.toList [47] [] 1).length ≤ f.size:=by have:=replace_len f.data.toList [47];simpa using this
     have h0:0 < f.size:=by have:=List.length_pos_iff.2 hp;simpa using this
     have hE:=edge_at hk h0
     by_cases e0:(f[0].toNat:Int) = 47
     ·have HB:=Lib.hid (kindR_bad (bad_edge (hE.trans (by rw [decide_eq_true e0];rfl))))
      clear hk hz hp hE
      go_wp2_with fail
      all_goals (go_ret2;exact ⟨by rw [HB.out];rfl,hB⟩)
     ·by_cases e1:(f[f.size - 1].toNat:Int) = 47
      ·have HB:=Lib.hid (kindR_bad (bad_edge (hE.trans (by rw [decide_eq_true e1,Bool.or_true]))))
       clear hk hz hp hE
       go_wp2_with fail
       all_goals (go_ret2;exact ⟨by rw [HB.out];rfl,hB⟩)
      ·have HE:=Lib.hid (hE.trans (by rw [decide_eq_false e0,decide_eq_false e1,Bool.or_false]))
       have e2:((f[0].toNat:Int) == 47) = false:=by simpa using e0
       have e3:((f[f.size - 1].toNat:Int) == 47) = false:=by simpa using e1
       clear hE
       by_cases hl:64 < (f.size:Int)
       ·have HB:=Lib.hid (kindR_bad (bad_long (f:=f.data.toList) (by rw [Array.length_toList];show 64 < f.size;omega)))
        clear hk hz hp
        go_wp2_with fail
        all_goals (go_ret2;exact ⟨by rw [HB.out];rfl,hB⟩)
       ·have HK:=Lib.hid (fun h=>kindR_ok (bad_not hk hp (by rw [Array.length_toList];show ¬ 64 < f.size;omega) HE.out h) hk)
        have HN:=Lib.hid (fun h=>kindR_bad (bad_trim hk h))
        clear hk hp
        generalize Lib.replace f.data.toList [47] [] 1 = p at *
        go_wp2_with fail
        refine (trim_at _ (by show p.toArray.size ≤ _;simp;omega) (Lib.trimS p abcB) rfl _).mono ?_
        rintro e w5 ⟨rfl,hb5⟩
        generalize Lib.trimS p abcB = z at *
        have hb6:=hB.trans (hb5.mono hB.size)
        clear hb5 hB
        by_cases he:z = []
        ·have he2:(!z.isEmpty) = false:=by rw [he];rfl
         have HB:=Lib.hid (HK.out he)
         clear he HK HN
         go_wp2_with fail
         go_ret2
         exact ⟨by rw [HB.out];rfl,hb6⟩
        ·have he2:(!z.isEmpty) = true:=by cases z with | nil=>exact absurd rfl he | cons a l=>rfl
         have HB:=Lib.hid (HN.out he)
         clear he HK HN
         go_wp2_with fail
         go_ret2
         exact ⟨by rw [HB.out];rfl,hb6⟩
   ·skip
    have HF1:=contains_at f hs ⟨#[37,115]⟩ false (by simpa using h1)
    have HF2:=contains_at f hs ⟨#[37,122]⟩ false (by simpa using h2)
    have HF3:=contains_at f hs ⟨#[47]⟩ false (by simpa using h3)
    go_enter Tryz.func106,Tryz.ntmps106
    go_wp2_with fail
    refine wp_loop_rounds 4 ?_
    rw [rounds_succ]
    go_wp2_with fail
    refine (HF1 _ (HM _ (((Below.refl _ _).alloc (Nat.le_refl _) _).alloc (by simp) _))).mono ?_
    rintro e w1 ⟨rfl,rfl⟩
    go_wp2_with fail
    rw [rounds_succ]
    go_wp2_with fail
    refine (HF2 _ (HM _ ((((Below.refl _ _).alloc (Nat.le_refl _) _).alloc (by simp) _).alloc (by simp;omega) _))).mono ?_
    rintro e w1 ⟨rfl,rfl⟩
    go_wp2_with fail
    rw [rounds_succ]
    go_wp2_with fail
    refine (HF3 _ (HM _ (((((Below.refl _ _).alloc (Nat.le_refl _) _).alloc (by simp) _).alloc (by simp;omega) _).alloc (by simp;omega) _))).mono ?_
    rintro e w1 ⟨rfl,rfl⟩
    go_wp2_with fail
    rw [rounds_succ]
    have hB:Below w.heap.size w ((((w.alloc (.cells #[.string ⟨#[37,115]⟩,.int .i64 1,.string ⟨#[37,122]⟩,.int .i64 2,.string ⟨#[47]⟩,.int .i64 3] 180)).alloc (.cells #[.string ⟨#[37,115]⟩,.int .i64 1] 180)).alloc (.cells #[.string ⟨#[37,122]⟩,.int .i64 2] 180)).alloc (.cells #[.string ⟨#[47]⟩,.int .i64 3] 180)):=(((((Below.refl _ _).alloc (Nat.le_refl _) _).alloc (by simp) _).alloc (by simp;omega) _).alloc (by simp;omega) _)
    have hk:kindP f.data.toList = (0,f.data.toList):=by unfold kindP;rw [if_neg h1,if_neg h2,if_neg h3]
    have hz:f.data.toList.length ≤ f.data.toList.length:=Nat.le_refl _
    by_cases hp:f.data.toList = []
    ·have hne:f.toList = []:=by rw [Lib.toList_data];exact hp
     have hne2:f.toList.isEmpty = true:=by rw [hne];rfl
     have HB:=Lib.hid (kindR_bad (bad_empty hp))
     clear hk hz hp
     go_wp2_with fail
     all_goals (go_ret2;exact ⟨by rw [HB.out];rfl,hB⟩)
    ·have hne:¬ f.toList = []:=by rw [Lib.toList_data];exact hp
     have hne2:f.toList.isEmpty = false:=by cases e:f.toList with | nil=>exact absurd e hne | cons a l=>rfl
     by_cases hl:64 < (f.size:Int)
     ·have HB:=Lib.hid (kindR_bad (bad_long (f:=f.data.toList) (by rw [Array.length_toList];show 64 < f.size;omega)))
      clear hk hz hp
      go_wp2_with fail
      all_goals (go_ret2;exact ⟨by rw [HB.out];rfl,hB⟩)
     ·have HK:=Lib.hid (fun h=>kindR_ok (bad_not hk hp (by rw [Array.length_toList];show ¬ 64 < f.size;omega) (edge_not hk (by decide)) h) hk)
      have HN:=Lib.hid (fun h=>kindR_bad (bad_trim hk h))
      clear hk hp
      have hfp:f = ⟨f.data.toList.toArray⟩:=by cases f;simp
      have HFP:=Lib.hid hfp
      clear hfp
      go_wp2_with fail
      refine (trim_at _ (by omega) (Lib.trimS f.data.toList abcB) rfl _).mono ?_
      rintro e w5 ⟨rfl,hb5⟩
      generalize Lib.trimS f.data.toList abcB = z at *
      have hb6:=hB.trans (hb5.mono hB.size)
      clear hb5 hB
      by_cases he:z = []
      ·have he2:(!z.isEmpty) = false:=by rw [he];rfl
       have HB:=Lib.hid (HK.out he)
       clear he HK HN
       go_wp2_with fail
       go_ret2
       exact ⟨by rw [HB.out];rfl,hb6⟩
      ·have he2:(!z.isEmpty) = true:=by cases z with | nil=>exact absurd rfl he | cons a l=>rfl
       have HB:=Lib.hid (HN.out he)
       clear he HK HN
       go_wp2_with fail
       go_ret2
       exact ⟨by rw [HB.out];rfl,hb6⟩
end
section -- NShow
open Go Go.RowKit Go.Shelf
theorem kind_at (f:ByteArray) (hs:f.size < 4294967281) (k e:Int) (h:kindR f.data.toList = (k,e)) (w:World) (hm:Tryz.MaxL w) :
  Calls Tryz.prog 106 #[.string f] w fun o w'=>o = .returned (.tuple #[.int .i64 k,.int .i64 e])∧Below w.heap.size w w' :=
 (kind_any f w hs hm).mono fun o w' ⟨h1,h2⟩=>⟨by rw [h1,h],h2⟩
theorem show_plain (f:ByteArray) (off:Int) (dst:Bool) (letter:ByteArray) (w:World) (hs:f.size < 4294967281) (hm:Tryz.MaxL w) (h:kindR f.data.toList = (0,0)) :
  Calls Tryz.prog 73 #[.string f,.int .i64 off,.bool dst,.string letter] w fun e w'=>e = .returned (.tuple #[.string f,.int .i64 0])∧Below w.heap.size w w':=by
 have HK:=fun W=>kind_at f hs 0 0 h W
 clear h
 go_enter Tryz.func73,Tryz.ntmps73
 go_wp2_with fail
 refine (HK _ hm).mono ?_
 rintro e w1 ⟨rfl,hb⟩
 go_wp2_with fail
 go_ret2
 exact ⟨rfl,hb⟩
theorem show_err (f:ByteArray) (off:Int) (dst:Bool) (letter:ByteArray) (w:World) (hs:f.size < 4294967281) (hm:Tryz.MaxL w) (k e:Int) (h:kindR f.data.toList = (k,e)) (he:e ≠ 0) :
  Calls Tryz.prog 73 #[.string f,.int .i64 off,.bool dst,.string letter] w fun o w'=>o = .returned (.tuple #[.string ⟨#[]⟩,.int .i64 e])∧Below w.heap.size w w':=by
 have HK:=fun W=>kind_at f hs k e h W
 have he2:(e != 0) = true:=by simpa using he
 clear h
 go_enter Tryz.func73,Tryz.ntmps73
 go_wp2_with fail
 refine (HK _ hm).mono ?_
 rintro e w1 ⟨rfl,hb⟩
 go_wp2_with fail
 go_ret2
 exact ⟨rfl,hb⟩
end
section -- FuncEq
open Go Go.RowKit
theorem run_equalIn_func {P:Program} (w:World) (d:Nat) (t:TypeId) {ps rs:Array TypeId} {b:Bool} (f:Fn) (ts cs:Array Value) (h:P.underlying t = some (.func ps rs b)):(Op.equalIn (d + 1) t (.func f ts cs) .nilFunc).run P w = .ok false w:=by
 simp [Op.equalIn,run_underlying h]
theorem run_eql_func_nil {P:Program} (w:World) (t:TypeId) {ps rs:Array TypeId} {b:Bool} (f:Fn) (ts cs:Array Value) (h:P.underlying t = some (.func ps rs b)):(binOp .eql t (.func f ts cs) .nilFunc).run P w = .ok (.bool false) w:=by
 simp only [binOp]
 simp [show Op.equal t (.func f ts cs) .nilFunc = Op.equalIn (9999 + 1) t (.func f ts cs) .nilFunc from rfl,run_equalIn_func w 9999 t f ts cs h]
end
section -- NEra
open Go Go.RowKit Go.Shelf
structure EraN where
 off:Int
 save:Int
 year:Int
 month:Int
 dk:Int
 dw:Int
 dn:Int
 sec:Int
 ak:Int
def eraP (e:EraN) (f:ByteArray):List Value:=[.int .i64 e.off,.string ⟨#[]⟩,.int .i64 e.save,.string f,.bool false,.int .i64 e.year,.int .i64 e.month,.int .i64 e.dk,.int .i64 e.dw,.int .i64 e.dn,.int .i64 e.sec,.int .i64 e.ak]
def eraPA (e:EraN) (f:ByteArray):Value:=.agg (eraP e f).toArray
def withinB (n:Int):Bool:=decide (-90000 < n) && decide (n < 90000)
def errP (e:EraN) (f:List UInt8):Int:=if (kindR f).2 = 0 then (if withinB e.off && withinB e.save then 0 else 10) else (kindR f).2
theorem kindR_cases (f:List UInt8):(kindR f).2 = 0∨kindR f = (0,12):=by
 unfold kindR
 split
 ·exact .inr rfl
 ·exact .inl rfl
theorem errP_off {e:EraN} {f:List UInt8} (h:(kindR f).2 = 0) (g:withinB e.off = false):errP e f = 10:=by unfold errP;rw [if_pos h,g];rfl
theorem errP_save {e:EraN} {f:List UInt8} (h:(kindR f).2 = 0) (g:withinB e.save = false):errP e f = 10:=by unfold errP;rw [if_pos h,g,Bool.and_false];rfl
theorem errP_ok {e:EraN} {f:List UInt8} (h:(kindR f).2 = 0) (g1:withinB e.off = true) (g2:withinB e.save = true):errP e f = 0:=by unfold errP;rw [if_pos h,g1,g2];rfl
theorem errP_form {e:EraN} {f:List UInt8} (h:kindR f = (0,12)):errP e f = 12:=by unfold errP;rw [h];rfl
theorem errP_cases (e:EraN) (f:List UInt8):errP e f = 0∨errP e f = 10∨errP e f = 12:=by
 rcases kindR_cases f with h | h
 ·cases g1:withinB e.off
  ·exact .inr (.inl (errP_off h g1))
  ·cases g2:withinB e.save
   ·exact .inr (.inl (errP_save h g2))
   ·exact .inl (errP_ok h g1 g2)
 ·exact .inr (.inr (errP_form h))
theorem errP_zero {e:EraN} {f:List UInt8} (h:errP e f = 0):(kindR f).2 = 0∧withinB e.off = true∧withinB e.save = true:=by
 rcases kindR_cases f with h0 | h0
 ·cases g1:withinB e.off
  ·rw [errP_off h0 g1] at h;cases h
  ·cases g2:withinB e.save
   ·rw [errP_save h0 g2] at h;cases h
   ·exact ⟨h0,rfl,rfl⟩
 ·rw [errP_form h0] at h;cases h
theorem within_any (n:Int) (w:World):Calls Tryz.prog 107 #[.int .i64 n] w fun o w'=>o = .returned (.bool (withinB n))∧w = w':=by
 unfold withinB
 by_cases h:-90000 < n
 ·have h2:decide (-90000 < n) = true:=by simpa using h
  rw [h2]
  clear h2
  go_enter Tryz.func107,Tryz.ntmps107
  go_wp2_with fail
  go_ret
  exact ⟨by simp,rfl⟩
 ·have h2:decide (-90000 < n) = false:=by simpa using h
  rw [h2]
  go_enter Tryz.func107,Tryz.ntmps107
  go_wp2_with fail
  go_ret
  exact ⟨rfl,rfl⟩
theorem within_at (n:Int) (b:Bool) (h:withinB n = b) (w:World):Calls Tryz.prog 107 #[.int .i64 n] w fun o w'=>o = .returned (.bool b)∧w = w':=by
 subst h;exact within_any n w
theorem saves_plain (e:EraN) (f:ByteArray) (l:Value) (i:Int) (w:World) :
  Calls Tryz.prog 89 #[eraPA e f,l,.int .i64 i] w fun o w'=>o = .returned (.tuple #[.int .i64 e.save,.string ⟨#[]⟩])∧Below w.heap.size w w':=by
 unfold eraPA eraP
 go_enter Tryz.func89,Tryz.ntmps89
 go_wp2_with fail
 go_ret2
 exact ⟨rfl,(Below.refl _ _).alloc (Nat.le_refl _) _⟩
theorem of_plain (sv:Value) (e:EraN) (f:ByteArray) (w:World) :
  Calls Tryz.prog 45 #[sv,eraPA e f] w fun o w'=>o = .returned (.slice none 0 0)∧Below w.heap.size w w':=by
 unfold eraPA eraP
 go_enter Tryz.func45,Tryz.ntmps45
 go_wp2_with fail
 go_ret
 exact ⟨rfl,(Below.refl _ _).alloc (Nat.le_refl _) _⟩
theorem check_plain (e:EraN) (f:ByteArray) (w:World) (hs:f.size < 4294967281) (hm:Tryz.MaxL w) :
  Calls Tryz.prog 66 #[eraPA e f,.bool true] w fun o w'=>o = .returned (.int .i64 (errP e f.data.toList))∧Below w.heap.size w w':=by
 unfold eraPA eraP
 have hb0:=(Below.refl w.heap.size w).alloc (Nat.le_refl _) (.cells #[.int .i64 e.off,.string ⟨#[]⟩,.int .i64 e.save,.string f,.bool false,.int .i64 e.year,.int .i64 e.month,.int .i64 e.dk,.int .i64 e.dw,.int .i64 e.dn,.int .i64 e.sec,.int .i64 e.ak] 42)
 have hblk:=Blk.new w 42 #[.int .i64 e.off,.string ⟨#[]⟩,.int .i64 e.save,.string f,.bool false,.int .i64 e.year,.int .i64 e.month,.int .i64 e.dk,.int .i64 e.dw,.int .i64 e.dn,.int .i64 e.sec,.int .i64 e.ak]
 rcases kindR_cases f.data.toList with h | h
 ·have HK:=fun W=>kind_at f hs _ _ (show kindR f.data.toList = ((kindR f.data.toList).1,0) by rw [← h]) W
  have H0:=Lib.hid h
  clear h
  generalize (kindR f.data.toList).1 = k at HK
  go_enter Tryz.func66,Tryz.ntmps66
  go_wp2_with fail
  refine (HK _ (hm.below hb0 (Nat.le_refl _))).mono ?_
  rintro o w1 ⟨rfl,hb⟩
  have hbl:=hblk.below hb hblk.lt
  have q0:=hbl.cell 0 (v:=.int .i64 e.off) rfl
  have q1:=hbl.cell 1 (v:=.string ⟨#[]⟩) rfl
  have q2:=hbl.cell 2 (v:=.int .i64 e.save) rfl
  have q4:=hbl.cell 4 (v:=.bool false) rfl
  have HB:=Lib.hid (hb0.trans (hb.mono hb0.size))
  clear hb hb0 hblk hbl hm
  cases g1:withinB e.off
  ·have H1:=within_at e.off _ g1
   go_wp2_with fail
   refine (H1 _).mono ?_
   rintro o w2 ⟨rfl,rfl⟩
   go_wp2_with fail
   go_ret
   exact ⟨by rw [errP_off H0.out g1];rfl,HB.out⟩
  ·have H1:=within_at e.off _ g1
   go_wp2_with fail
   refine (H1 _).mono ?_
   rintro o w2 ⟨rfl,rfl⟩
   cases g2:withinB e.save
   ·have H2:=within_at e.save _ g2
    go_wp2_with fail
    refine (H2 _).mono ?_
    rintro o w2 ⟨rfl,rfl⟩
    go_wp2_with fail
    go_ret
    exact ⟨by rw [errP_save H0.out g2];rfl,HB.out⟩
   ·have H2:=within_at e.save _ g2
    go_wp2_with fail
    refine (H2 _).mono ?_
    rintro o w2 ⟨rfl,rfl⟩
    go_wp2_with fail
    go_ret
    exact ⟨by rw [errP_ok H0.out g1 g2];rfl,HB.out⟩
 ·have HK:=fun W=>kind_at f hs _ _ h W
  have H0:=Lib.hid h
  clear h
  go_enter Tryz.func66,Tryz.ntmps66
  go_wp2_with fail
  refine (HK _ (hm.below hb0 (Nat.le_refl _))).mono ?_
  rintro o w1 ⟨rfl,hb⟩
  have HB:=Lib.hid (hb0.trans (hb.mono hb0.size))
  clear hb hb0 hblk hm
  go_wp2_with fail
  go_ret
  exact ⟨by rw [errP_form H0.out];rfl,HB.out⟩
def oneZ (nm:ByteArray) (b:Nat):Value:=.agg #[.string nm,.slice (some ⟨b,0,none⟩) 1 1]
abbrev OneE (W:World) (b:Nat) (e:EraN) (f:ByteArray):Prop:=Blk W b 42 (eraP e f).toArray
theorem OneE.cells {W:World} {b:Nat} {e:EraN} {f:ByteArray} (h:OneE W b e f):W.cell? ⟨b,0,none⟩ = some (.int .i64 e.off)∧W.cell? ⟨b,1,none⟩ = some (.string ⟨#[]⟩)∧W.cell? ⟨b,2,none⟩ = some (.int .i64 e.save)∧W.cell? ⟨b,3,none⟩ = some (.string f) ∧
  W.cell? ⟨b,4,none⟩ = some (.bool false)∧W.cell? ⟨b,5,none⟩ = some (.int .i64 e.year)∧W.cell? ⟨b,6,none⟩ = some (.int .i64 e.month)∧W.cell? ⟨b,7,none⟩ = some (.int .i64 e.dk)∧W.cell? ⟨b,8,none⟩ = some (.int .i64 e.dw)∧W.cell? ⟨b,9,none⟩ = some (.int .i64 e.dn)∧W.cell? ⟨b,10,none⟩ = some (.int .i64 e.sec)∧W.cell? ⟨b,11,none⟩ = some (.int .i64 e.ak) :=
 ⟨Blk.cell h 0 rfl,Blk.cell h 1 rfl,Blk.cell h 2 rfl,Blk.cell h 3 rfl,Blk.cell h 4 rfl,Blk.cell h 5 rfl,Blk.cell h 6 rfl,Blk.cell h 7 rfl,Blk.cell h 8 rfl,Blk.cell h 9 rfl,Blk.cell h 10 rfl,Blk.cell h 11 rfl⟩
theorem checkZ_one (nm:ByteArray) (b:Nat) (g:Fn) (ts cs:Array Value) (e:EraN) (f:ByteArray) (w:World) (hs:f.size < 4294967281) (hm:Tryz.MaxL w) (he:OneE w b e f) :
  Calls Tryz.prog 25 #[oneZ nm b,.func g ts cs] w fun o w'=>o = .returned (.int .i64 (errP e f.data.toList))∧Below w.heap.size w w':=by
 unfold oneZ
 have heq:=fun (w:World)=>run_eql_func_nil w 90 g ts cs Tryz.underlying90
 have hb0:=Blk.new w 24 #[.string nm,.slice (some ⟨b,0,none⟩) 1 1]
 go_enter Tryz.func25,Tryz.ntmps25
 go_wp2_with fail
 have hbl:b < w.heap.size:=Blk.lt he
 obtain ⟨c0,c1,c2,c3,c4,c5,c6,c7,c8,c9,c10,c11⟩:=he.cells
 have hbz:b ≠ w.heap.size:=Nat.ne_of_lt hbl
 refine wp_loop_rounds 2 ?_
 rw [rounds_succ]
 go_wp2_with fail
 rw [rounds_succ]
 go_wp2_with fail
 refine wp_loop_rounds 2 ?_
 rw [rounds_succ]
 go_wp2_with fail
 have hbw:Below w.heap.size w (((w.alloc (.cells #[.string nm,.slice (some ⟨b,0,none⟩) 1 1] 24)).alloc (.cells (eraP e f).toArray 42)).alloc (.cells (eraP e f).toArray 42)):=(((Below.refl _ _).alloc (Nat.le_refl _) _).alloc (by simp) _).alloc (by simp;omega) _
 have HC:=Lib.hid (check_plain e f _ hs (hm.below hbw (Nat.le_refl _)))
 unfold eraPA eraP at HC
 unfold eraP at hbw
 refine HC.out.mono ?_
 rintro o w1 ⟨rfl,hb⟩
 clear HC
 have hz:=((hb0.alloc (.cells (eraP e f).toArray 42)).alloc (.cells (eraP e f).toArray 42))
 unfold eraP at hz
 have hz1:=hz.below hb hz.lt
 have z1:=hz1.cell 1 (v:=.slice (some ⟨b,0,none⟩) 1 1) rfl
 have HB:=Lib.hid (hbw.trans (hb.mono hbw.size))
 clear hbw hb hz hz1 c0 c1 c2 c3 c4 c5 c6 c7 c8 c9 c10 c11
 rcases errP_cases e f.data.toList with h | h
 ·have H0:=Lib.hid h
  rw [h]
  clear h
  go_wp2_with fail
  rw [rounds_succ]
  go_wp2_with fail
  refine wp_loop_rounds 1 ?_
  rw [rounds_succ]
  go_wp2_with fail
  go_ret
  exact ⟨by rw [H0.out];rfl,HB.out⟩
 ·have he2:(errP e f.data.toList != 0) = true:=by rcases h with h | h <;> rw [h] <;> rfl
  clear h
  go_wp2_with fail
  go_ret
  exact ⟨rfl,HB.out⟩
end
section -- EnvS
open Go Go.RowKit
section
variable {P:Program} {n:Nat} {ops:Array Oper}
def envSB (ops:Array Oper) (D:List Nat) (st:Nat):Bool :=
 invB ops D && (List.range ops.size).all fun i=>match ops[i]? with
  | some o=>(match o.op with | .defer ..=>false | .select ..=>false | _=>true) && (if i = st then o.dst.isNone else o.dst == some (D.getD i 0)) &&
    (o.looksAt ops).all fun s=>!D.contains s || (List.range i).any fun j=>D.getD j 0 == s && o.after.any fun e=>Region.binds .any e && e.on == j
  | none=>true
def envSRes (P:Program) (T:Nat→Prop) (p:World→Prop) (st:Bool) (v:Value) (w:World):Result Next→Prop
 | .ok (.value u) w'=>st = false∧u = v∧Below w.heap.size w w'
 | .ok .skip w'=>st = true∧v = undef∧Fr T w w'∧p w'
 | .ok (.enter f args) w'=>st = false∧w' = w∧Calls P f args w fun e w''=>e = .returned v∧Below w.heap.size w w''
 | _=>False
def EnvSStep (P:Program) (ops:Array Oper) (fin:Act) (w0:World) (T:Nat→Prop) (p:World→Prop) (st:Bool) (o:Oper) (v:Value):Prop :=
 (Region.wanted o (yielded ops fin.tmps) = false∧v = undef∧st = false)∨(Region.wanted o (yielded ops fin.tmps) = true∧∀ w,(st = true→Below w0.heap.size w0 w)→Fr T w0 w→envSRes P T p st v w ((execOp fin.eval o).run P w))
def EnvSSteps (P:Program) (ops:Array Oper) (fin:Act) (w0:World) (T:Nat→Prop) (p:World→Prop):Nat→Nat→List Oper→List Value→Prop
 | st,k,o :: l,v :: V=>EnvSStep P ops fin w0 T p (k == st) o v∧EnvSSteps P ops fin w0 T p st (k + 1) l V
 | _,_,[],[]=>True
 | _,_,_,_=>False
theorem envSSteps_at {fin:Act} {w0:World} {T:Nat→Prop} {p:World→Prop} {st:Nat}:∀ {l:List Oper} {V:List Value} {k:Nat},EnvSSteps P ops fin w0 T p st k l V→∀ {j:Nat} {o:Oper},l[j]? = some o→EnvSStep P ops fin w0 T p (k + j == st) o (V.getD j undef)
 | [],_,_,_,_,_,h=>by simp at h
 | _ :: _,[],_,hs,_,_,_=>hs.elim
 | x :: l,v :: V,k,hs,0,o,h=>by
   simp only [List.getElem?_cons_zero,Option.some.injEq] at h
   subst h
   exact hs.1
 | x :: l,v :: V,k,hs,j + 1,o,h=>by
   rw [List.getElem?_cons_succ] at h
   have:=envSSteps_at hs.2 h
   rw [show k + 1 + j = k + (j + 1) by omega] at this
   simpa using this
theorem envSSteps_len {fin:Act} {w0:World} {T:Nat→Prop} {p:World→Prop} {st:Nat}:∀ {l:List Oper} {V:List Value} {k:Nat},EnvSSteps P ops fin w0 T p st k l V→V.length = l.length
 | [],[],_,_=>rfl
 | [],_ :: _,_,h=>h.elim
 | _ :: _,[],_,h=>h.elim
 | _ :: l,_ :: V,_,h=>by simp [envSSteps_len h.2]
theorem wpIn_envS {F:Fence} (hF:Wide F) {id:Nat} {l:List Oper} {Q:Exit→Act→World→Prop} {a:Act} {w:World} (hm:P.follows .mixedOrders = true) (D:List Nat) (V:List Value) (st:Nat) (T:Nat→Prop) (p:World→Prop) (hp:∀ W W',p W→Below W.heap.size W W'→p W')
  (hb:envSB l.toArray D st = true) (hst:st < D.length) (hsz:a.tmps.size ≤ D.getD st 0) {fin:Act} (hfin:putAll a D V = fin)
  (hstep:EnvSSteps P l.toArray fin w T p st 0 l V) (hend:∀ w',Fr T w w'→p w'→Q .normal fin w'):(Code.region id l.toArray true).wpIn F n P Q a w:=by
 unfold envSB at hb
 rw [Bool.and_eq_true] at hb
 obtain ⟨hi,hb⟩:=hb
 have hi':=hi
 simp only [invB,Bool.and_eq_true,decide_eq_true_eq] at hi'
 obtain ⟨⟨-,hlen⟩,hnd⟩:=hi'
 have hV:V.length = D.length:=by rw [envSSteps_len hstep,hlen];simp
 have hfin:frameOf a D (valOf D V) = fin:=by
  rw [← hfin]
  exact putAll_eq D V a _ hV fun i hi=>by unfold valOf;rw [idxOf_getD hnd hi]
 refine wpIn_inv hm D (fun L x w'=>Fr T w w'∧(∀ i,i < D.length→L i = true→x (D.getD i 0) = V.getD i undef)∧(L st = true→p w')∧(L st = false→Below w.heap.size w w')) hi (fun x=>⟨Fr.of_below ((Below.refl w.heap.size w).drew) (Nat.le_refl _),(fun i _ h=>by cases h),(fun h=>by cases h),(fun _=>(Below.refl _ _).drew)⟩) ?_ ?_
 ·have main:∀ (i:Nat) (o:Oper),l[i]? = some o→StepI F n P l.toArray a D (fun L x w'=>Fr T w w'∧(∀ i,i < D.length→L i = true→x (D.getD i 0) = V.getD i undef)∧(L st = true→p w')∧(L st = false→Below w.heap.size w w')) i o:=by
   intro k o hlk L x w1 R hI hsh hLk hr hR
   obtain ⟨hfr,hx,hpL,hbL⟩:=hI
   have hkl:k < l.length:=(List.getElem?_eq_some_iff.1 hlk).1
   have ho:l.toArray[k]? = some o:=by simpa using hlk
   have hkD:k < D.length:=by rw [hlen];simpa using hkl
   have hst1:=envSSteps_at hstep hlk
   rw [Nat.zero_add] at hst1
   have hb1:=List.all_eq_true.1 hb k (List.mem_range.2 (by simpa using hkl))
   rw [ho] at hb1
   simp only [Bool.and_eq_true] at hb1
   obtain ⟨⟨hop,hdst⟩,hlook⟩:=hb1
   have hndf:∀ c,o.op ≠ .defer c:=fun c hc=>by rw [hc] at hop;cases hop
   have hnsl:∀ cs b,o.op ≠ .select cs b:=fun c b hc=>by rw [hc] at hop;cases hop
   have hsame:∀ s,s ∈ o.looksAt l.toArray→(frameOf a D x).tmps[s]? = fin.tmps[s]?:=by
    intro s hs
    rw [← hfin,frameOf_tmps,frameOf_tmps]
    by_cases hD:s ∈ D
    ·have:=List.all_eq_true.1 hlook s hs
     rw [Bool.or_eq_true] at this
     rcases this with h | h
     ·simp [hD] at h
     ·obtain ⟨j,hj,hj2⟩:=List.any_eq_true.1 h
      rw [Bool.and_eq_true] at hj2
      obtain ⟨hjs,hje⟩:=hj2
      have hjs:D.getD j 0 = s:=by simpa using hjs
      have hjk:=List.mem_range.1 hj
      have h1:=hx j (by omega) (hr j hje)
      rw [hjs] at h1
      have h2:x s = valOf D V s:=by
       have e:D.idxOf s = j:=by rw [← hjs];exact idxOf_getD hnd (by omega)
       unfold valOf
       rw [e]
       exact h1
      rw [h2]
    ·simp [hD]
   have hev:∀ y ∈ o.op.operands,(frameOf a D x).eval y = fin.eval y:=by
    intro y hy
    cases y with
    | tmp s =>
      have h1:=hsame s (List.mem_append_left _ (List.mem_filterMap.2 ⟨.tmp s,by simpa using hy,rfl⟩))
      show (frameOf a D x).tmps.getD s undef = fin.tmps.getD s undef
      simp only [Array.getD_eq_getD_getElem?,h1]
    | _=>rfl
   have hex:=execOp_congr (ρ:=(frameOf a D x).eval) (ρ':=fin.eval) o hnsl hev
   have hwa:Region.wanted o (yielded l.toArray (frameOf a D x).tmps) = Region.wanted o (yielded l.toArray fin.tmps):=by
    unfold Region.wanted
    cases hg:o.guard with
    | none=>rfl
    | some g =>
      obtain ⟨g,b⟩:=g
      dsimp only
      unfold yielded
      cases hd:(l.toArray[g]?).bind (·.dst) with
      | none=>rfl
      | some d =>
        have h1:=hsame d (List.mem_append_right _ (by rw [hg];show d ∈ ((l.toArray[g]?).bind (·.dst)).toList;rw [hd];simp))
        simp only [Option.bind_some,h1]
   have hmem:D.getD k 0 ∈ D:=by rw [List.getD_eq_getElem?_getD,List.getElem?_eq_getElem hkD];exact List.getElem_mem hkD
   have hnew:∀ w',Fr T w w'→((k == st) = true→p w')→(∀ W,p w1→(k == st) = false→Below w1.heap.size w1 W→p W)→((k == st) = false→Below w1.heap.size w1 w') →
     (Fr T w w'∧(∀ i,i < D.length→more L k i = true→upd x (D.getD k 0) (V.getD k undef) (D.getD i 0) = V.getD i undef)∧(more L k st = true→p w')∧(more L k st = false→Below w.heap.size w w')):=by
    intro w' h1 h2 h3 h4
    refine ⟨h1,fun i hiD hm=>?_,fun hm=>?_,fun hm=>?_⟩
    ·by_cases hik:i = k
     ·subst hik;rw [upd_same]
     ·have hne:D.getD i 0 ≠ D.getD k 0:=by
       rw [List.getD_eq_getElem?_getD,List.getD_eq_getElem?_getD,List.getElem?_eq_getElem hiD,List.getElem?_eq_getElem hkD]
       intro e
       simp only [Option.getD_some] at e
       have hpw:=List.pairwise_iff_getElem.1 hnd
       rcases Nat.lt_or_ge i k with h | h
       ·exact hpw i k hiD hkD h e
       ·exact hpw k i hkD hiD (by omega) e.symm
      rw [upd_other x _ hne]
      have:L i = true:=by
       unfold more at hm
       rw [decide_eq_false hik] at hm
       simpa using hm
      exact hx i hiD this
    ·cases hks:(k == st) with
     | true=>exact h2 hks
     | false =>
       have hne:¬ st = k:=(fun e=>by subst e;simp at hks)
       have:L st = true:=by
        unfold more at hm
        rw [decide_eq_false hne] at hm
        simpa using hm
       exact h3 w' (hpL this) hks (h4 hks)
    ·unfold more at hm
     rw [Bool.or_eq_false_iff] at hm
     have hne:¬ st = k:=of_decide_eq_false hm.1
     have hB:=hbL hm.2
     exact hB.trans ((h4 (by simpa using (fun e=>hne e.symm))).mono hB.size)
   unfold wpListIn
   rw [hwa]
   have hput:(k == st) = false→∀ v,(frameOf a D x).put o.dst v = frameOf a D (upd x (D.getD k 0) v):=fun hks v=>by
    rw [if_neg (fun e=>by subst e;simp at hks)] at hdst
    have hdst:o.dst = some (D.getD k 0):=by simpa using hdst
    rw [hdst]
    exact frameOf_put D x a _ hmem v
   rcases hst1 with ⟨h1,h2,h3⟩ | ⟨h1,h2⟩
   ·rw [if_neg (by rw [h1];simp)]
    refine ⟨fun f _=>hF.fn f,?_⟩
    rw [hput h3,← h2]
    exact hR _ _ (hnew w1 hfr (fun h=>by rw [h3] at h;cases h) (fun W hpw _ hbW=>hp _ _ hpw hbW) (fun _=>Below.refl _ _))
   ·rw [if_pos h1]
    refine ⟨fun f _=>hF.fn f,?_⟩
    rw [Oper.semAt_plain F _ o hndf,hex]
    have hks0:(k == st) = true→L st = false:=fun h=>by
     have e:k = st:=by simpa using h
     rw [← e]
     exact hLk
    have h3:=h2 w1 (fun h=>hbL (hks0 h)) hfr
    generalize (execOp fin.eval o).run P w1 = r at h3
    cases r with
    | halt hh w'=>exact h3.elim
    | ok nx w' =>
      cases nx with
      | value u =>
        obtain ⟨hks,rfl,hbw⟩:=h3
        rw [Oper.uponIn_value,hput hks]
        exact hR _ _ (hnew w' (hfr.then (Fr.of_below hbw (Nat.le_refl _))) (fun h=>by rw [hks] at h;cases h) (fun W hpw _ hbW=>hp _ _ hpw hbW) (fun _=>hbw))
      | skip =>
        obtain ⟨hks,hvu,hfw,hpw'⟩:=h3
        have hkst:k = st:=by simpa using hks
        subst hkst
        rw [if_pos rfl] at hdst
        have hdn:o.dst = none:=by simpa using hdst
        rw [Oper.uponIn_skip,hdn]
        have e:(frameOf a D x).put none undef = frameOf a D (upd x (D.getD k 0) (V.getD k undef)):=by
         show frameOf a D x = _
         have h1:(frameOf a D x).tmps = (frameOf a D (upd x (D.getD k 0) (V.getD k undef))).tmps:=by
          apply Array.ext_getElem?
          intro s
          rw [frameOf_tmps,frameOf_tmps]
          by_cases hs:s < a.tmps.size
          ·rw [upd_other x _ (show s ≠ D.getD k 0 by omega)]
          ·simp [hs]
         have h2:(frameOf a D x).defers = (frameOf a D (upd x (D.getD k 0) (V.getD k undef))).defers:=by rw [frameOf_defers,frameOf_defers]
         generalize frameOf a D x = p1 at h1 h2
         generalize frameOf a D (upd x (D.getD k 0) (V.getD k undef)) = q1 at h1 h2
         cases p1
         cases q1
         simp only at h1 h2
         subst h1 h2
         rfl
        rw [e]
        exact hR _ _ (hnew w' (hfr.then hfw) (fun _=>hpw') (fun W _ h=>by simp at h) (fun h=>by simp at h))
      | enter f args =>
        obtain ⟨hks,rfl,hc⟩:=h3
        rw [Oper.uponIn_enter]
        refine ⟨(fun h=>by rw [hF.depth] at h;cases h),(hF.calls hc).mono ?_⟩
        rintro e w'' ⟨rfl,hbw⟩
        show wpListIn F n P l.toArray _ [] ((frameOf a D x).put o.dst (V.getD k undef)) w''
        rw [hput hks]
        exact hR _ _ (hnew w'' (hfr.then (Fr.of_below hbw (Nat.le_refl _))) (fun h=>by rw [hks] at h;cases h) (fun W hpw _ hbW=>hp _ _ hpw hbW) (fun _=>hbw))
      | _=>exact h3.elim
  have all:∀ (m:List Oper) (k:Nat),(∀ j,m[j]? = l[k + j]?)→StepsI F n P l.toArray a D (fun L x w'=>Fr T w w'∧(∀ i,i < D.length→L i = true→x (D.getD i 0) = V.getD i undef)∧(L st = true→p w')∧(L st = false→Below w.heap.size w w')) k m:=by
   intro m
   induction m with
   | nil=>intro k _;trivial
   | cons o m ih =>
     intro k hk
     exact ⟨main k o (by simpa using (hk 0).symm),ih (k + 1) fun j=>by have:=hk (j + 1);simpa [Nat.add_assoc,Nat.add_comm 1 j] using this⟩
  exact all l 0 fun j=>by simp
 ·rintro x w' L hL ⟨h1,h2,h3,-⟩
  have e:frameOf a D x = fin:=by
   rw [← hfin]
   refine frameOf_congr D _ _ a fun s hs=>?_
   obtain ⟨j,hj,rfl⟩:=List.getElem_of_mem hs
   have h4:=h2 j hj (hL j (by omega))
   rw [List.getD_eq_getElem?_getD,List.getElem?_eq_getElem hj] at h4
   have h4:x D[j] = V.getD j undef:=h4
   unfold valOf
   rw [List.Nodup.idxOf_getElem hnd j hj]
   exact h4
  rw [e]
  exact hend w' h1 (h3 (hL st (by omega)))
theorem wp_envS {id:Nat} {l:List Oper} {Q:Exit→Act→World→Prop} {a:Act} {w:World} (hm:P.follows .mixedOrders = true) (D:List Nat) (V:List Value) (st:Nat) (T:Nat→Prop) (p:World→Prop) (hp:∀ W W',p W→Below W.heap.size W W'→p W')
  (hb:envSB l.toArray D st = true) (hst:st < D.length) (hsz:a.tmps.size ≤ D.getD st 0) {fin:Act} (hfin:putAll a D V = fin)
  (hstep:EnvSSteps P l.toArray fin w T p st 0 l V) (hend:∀ w',Fr T w w'→p w'→Q .normal fin w'):(Code.region id l.toArray true).wp P Q a w :=
 (wpIn_wide (n:=8)).1 (wpIn_envS wide0 hm D V st T p hp hb hst hsz hfin hstep hend)
end
end
section -- NAt
open Go Go.RowKit Go.Shelf
theorem ends_one (nm:ByteArray) (b:Nat) (g:Fn) (ts cs:Array Value) (e:EraN) (f:ByteArray) (w:World) (hs:f.size < 4294967281) (hm:Tryz.MaxL w) (he:OneE w b e f) :
  Calls Tryz.prog 14 #[oneZ nm b,.func g ts cs] w fun o w'=>o = .returned (.tuple #[.slice none 0 0,.int .i64 (errP e f.data.toList)])∧Below w.heap.size w w':=by
 have hb0:=(Below.refl w.heap.size w).alloc (Nat.le_refl _) (.cells #[.string nm,.slice (some ⟨b,0,none⟩) 1 1] 24)
 have hz0:=Blk.new w 24 #[.string nm,.slice (some ⟨b,0,none⟩) 1 1]
 have HC:=Lib.hid (checkZ_one nm b g ts cs e f _ hs (hm.below hb0 (Nat.le_refl _)) (Blk.below he hb0 (Blk.lt he)))
 unfold oneZ at HC ⊢
 go_enter Tryz.func14,Tryz.ntmps14
 go_wp2_with fail
 refine HC.out.mono ?_
 rintro o w1 ⟨rfl,hb⟩
 have hz1:=hz0.below hb hz0.lt
 have z1:=hz1.cell 1 (v:=.slice (some ⟨b,0,none⟩) 1 1) rfl
 have HB:=Lib.hid (hb0.trans (hb.mono hb0.size))
 clear HC hb hb0 hz0 hz1
 rcases errP_cases e f.data.toList with h | h
 ·have H0:=Lib.hid h
  rw [h]
  clear h
  go_wp2_with fail
  refine wp_loop_rounds 1 ?_
  rw [rounds_succ]
  go_wp2_with fail
  go_ret2
  exact ⟨by rw [H0.out];rfl,HB.out⟩
 ·have he2:(errP e f.data.toList != 0) = true:=by rcases h with h | h <;> rw [h] <;> rfl
  clear h
  go_wp2_with fail
  go_ret2
  exact ⟨rfl,HB.out⟩
theorem era_none (i:Int) (w:World):Calls Tryz.prog 50 #[.slice none 0 0,.int .i64 i] w fun o w'=>o = .returned (.int .i64 0)∧w = w':=by
 go_enter Tryz.func50,Tryz.ntmps50
 go_wp2_with fail
 refine wp_loop_rounds 1 ?_
 rw [rounds_succ]
 go_wp2_with fail
 go_ret
 exact ⟨rfl,rfl⟩
def Shows (f:ByteArray) (off:Int) (dst:Bool) (letter s:ByteArray) (err:Int):Prop:=∀ W,Tryz.MaxL W→Calls Tryz.prog 73 #[.string f,.int .i64 off,.bool dst,.string letter] W fun o w'=>o = .returned (.tuple #[.string s,.int .i64 err])∧Below W.heap.size W w'
def dstB (n:Int):Bool:=n != 0
def withinR (off:Int) (dst:Bool) (s:ByteArray) (err:Int):Value:=if err = 0 then .tuple #[.agg #[.int .i64 off,.bool dst,.string s],.int .i64 0] else .tuple #[.agg #[.int .i64 0,.bool false,.string ⟨#[]⟩],.int .i64 err]
theorem withinB_iff {n:Int}:withinB n = true ↔ -90000 < n∧n < 90000:=by simp [withinB]
theorem within_plain (e:EraN) (f:ByteArray) (l:Value) (i:Int) (w:World) (hm:Tryz.MaxL w) (h1:withinB e.off = true) (h2:withinB e.save = true) (s:ByteArray) (err:Int) (hsh:Shows f (e.off + e.save) (dstB e.save) ⟨#[]⟩ s err) :
  Calls Tryz.prog 51 #[eraPA e f,l,.int .i64 i] w fun o w'=>o = .returned (withinR (e.off + e.save) (dstB e.save) s err)∧Below w.heap.size w w':=by
 obtain ⟨b1,b2⟩:=withinB_iff.1 h1
 obtain ⟨b3,b4⟩:=withinB_iff.1 h2
 clear h1 h2
 have HS:=fun W=>saves_plain e f l i W
 have HSH:=Lib.hid hsh
 clear hsh
 have hb0:Below w.heap.size w ((w.alloc (.cells (eraP e f).toArray 42)).alloc (.cells #[.int .i64 0,.bool false,.string ⟨#[]⟩] 48)):=((Below.refl _ _).alloc (Nat.le_refl _) _).alloc (by simp) _
 have he0:=(Blk.new w 42 (eraP e f).toArray).alloc (.cells #[.int .i64 0,.bool false,.string ⟨#[]⟩] 48)
 have hr0:=Blk.new (w.alloc (.cells (eraP e f).toArray 42)) 48 #[.int .i64 0,.bool false,.string ⟨#[]⟩]
 rw [World.size_alloc] at hr0
 unfold eraPA at HS ⊢
 unfold eraP at HS hb0 he0 hr0 ⊢
 have hm0:=hm.below hb0 (Nat.le_refl _)
 go_enter Tryz.func51,Tryz.ntmps51
 go_wp2_with fail
 refine (HS _).mono ?_
 rintro o w1 ⟨rfl,hb⟩
 have hm1:=hm0.below hb (Nat.le_refl _)
 have he1:=he0.below hb he0.lt
 have hr1:=hr0.below hb hr0.lt
 have hb1:=hb0.trans (hb.mono hb0.size)
 have q0:=he1.cell 0 (v:=.int .i64 e.off) rfl
 have q3:=he1.cell 3 (v:=.string f) rfl
 clear hb hb0 he0 hr0 hm0 HS hm
 unfold dstB at HSH
 have HM:=Lib.hid hm1
 have HE:=Lib.hid he1
 have HR:=Lib.hid hr1
 have HB:=Lib.hid hb1
 clear hm1 he1 hr1 hb1
 go_wp2_with fail
 refine (HSH.out _ HM.out).mono ?_
 rintro o w2 ⟨rfl,hb⟩
 have he2:=HE.out.below hb HE.out.lt
 have hr2:=HR.out.below hb HR.out.lt
 have HB2:=Lib.hid (HB.out.trans (hb.mono HB.out.size))
 have q0':=he2.cell 0 (v:=.int .i64 e.off) rfl
 have r0:=hr2.cell 0 (v:=.int .i64 0) rfl
 have r1:=hr2.cell 1 (v:=.bool false) rfl
 have r2:=hr2.cell 2 (v:=.string ⟨#[]⟩) rfl
 have rf0:=hr2.frozen 0
 have rf1:=hr2.frozen 1
 have rf2:=hr2.frozen 2
 have HR2:=Lib.hid hr2
 clear hb he2 hr2 q0 q3 HM HE HR HB HSH
 by_cases h0:err = 0
 ·subst h0
  go_wp2_with fail
  refine bodyPost_ret (v:=.tuple #[.agg #[.int .i64 (e.off + e.save),.bool (e.save != 0),.string s],.int .i64 0]) ?_ rfl ⟨rfl,((HB2.out.setCell (Nat.le_add_right _ _) _).setCell (Nat.le_add_right _ _) _).setCell (Nat.le_add_right _ _) _⟩
  have HW:=((HR2.out.set 0 (.int .i64 (e.off + e.save))).set 1 (.bool (e.save != 0))).set 2 (.string s)
  have c0:=HW.cell 0 (v:=.int .i64 (e.off + e.save)) rfl
  have c1:=HW.cell 1 (v:=.bool (e.save != 0)) rfl
  have c2:=HW.cell 2 (v:=.string s) rfl
  simp [results,Tryz.f51,go_sem,c0,c1,c2]
 ·have h1:(err != 0) = true:=by simpa using h0
  have h2:=Lib.hid h0
  clear h0
  go_wp2_with fail
  refine bodyPost_ret (v:=.tuple #[.agg #[.int .i64 (0),.bool (false),.string ⟨#[]⟩],.int .i64 err]) ?_ rfl ⟨by unfold withinR;rw [if_neg h2.out],((HB2.out.setCell (Nat.le_add_right _ _) _).setCell (Nat.le_add_right _ _) _).setCell (Nat.le_add_right _ _) _⟩
  have HW:=((HR2.out.set 0 (.int .i64 (0))).set 1 (.bool (false))).set 2 (.string ⟨#[]⟩)
  have c0:=HW.cell 0 (v:=.int .i64 (0)) rfl
  have c1:=HW.cell 1 (v:=.bool (false)) rfl
  have c2:=HW.cell 2 (v:=.string ⟨#[]⟩) rfl
  simp [results,Tryz.f51,go_sem,c0,c1,c2]
theorem at_one (nm:ByteArray) (b:Nat) (g:Fn) (ts cs:Array Value) (e:EraN) (f:ByteArray) (i:Int) (w:World) (hs:f.size < 4294967281) (hm:Tryz.MaxL w) (he:OneE w b e f) (h1:-2199023255552 ≤ i) (h2:i ≤ 2199023255552) (h0:errP e f.data.toList = 0) (s:ByteArray) (err:Int) (hsh:Shows f (e.off + e.save) (dstB e.save) ⟨#[]⟩ s err) :
  Calls Tryz.prog 19 #[oneZ nm b,.func g ts cs,.int .i64 i] w fun o w'=>o = .returned (withinR (e.off + e.save) (dstB e.save) s err)∧Below w.heap.size w w':=by
 obtain ⟨-,g1,g2⟩:=errP_zero h0
 have hb0:Below w.heap.size w ((w.alloc (.cells #[.string nm,.slice (some ⟨b,0,none⟩) 1 1] 24)).alloc (.cells #[.int .i64 0,.bool false,.string ⟨#[]⟩] 48)):=((Below.refl _ _).alloc (Nat.le_refl _) _).alloc (by simp) _
 have hz0:=(Blk.new w 24 #[.string nm,.slice (some ⟨b,0,none⟩) 1 1]).alloc (.cells #[.int .i64 0,.bool false,.string ⟨#[]⟩] 48)
 have hr0:=Blk.new (w.alloc (.cells #[.string nm,.slice (some ⟨b,0,none⟩) 1 1] 24)) 48 #[.int .i64 0,.bool false,.string ⟨#[]⟩]
 rw [World.size_alloc] at hr0
 have hm0s:=hm
 have hm0:=hm.below hb0 (Nat.le_refl _)
 have he0:OneE _ b e f:=Blk.below he hb0 (Blk.lt he)
 have HC:=Lib.hid (ends_one nm b g ts cs e f _ hs hm0 he0)
 rw [h0] at HC
 have hbl:=Blk.lt he
 unfold oneZ at HC ⊢
 clear h0
 go_enter Tryz.func19,Tryz.ntmps19
 go_wp2_with fail
 refine HC.out.mono ?_
 rintro o w1 ⟨rfl,hb⟩
 have hm1:=hm0.below hb (Nat.le_refl _)
 have hz1:=hz0.below hb hz0.lt
 have hr1:=hr0.below hb hr0.lt
 have hb1:=hb0.trans (hb.mono hb0.size)
 have he1:OneE _ b e f:=Blk.below he0 hb (Blk.lt he0)
 have z1:=hz1.cell 1 (v:=.slice (some ⟨b,0,none⟩) 1 1) rfl
 obtain ⟨c0,c1,c2,c3,c4,c5,c6,c7,c8,c9,c10,c11⟩:=he1.cells
 clear hb hb0 he0 hr0 hm0 hm hz0 hz1 he HC
 have HM:=Lib.hid hm1
 have HR:=Lib.hid hr1
 have HB:=Lib.hid hb1
 clear hm1 he1 hr1 hb1
 go_wp2_with fail
 have HM0:=Lib.hid hm0s
 have hbl1:b < w1.heap.size:=Nat.lt_of_lt_of_le hbl HB.out.size
 have hzl1:w.heap.size < w1.heap.size:=by have:=HR.out.lt;omega
 have hzl2:w.heap.size + 1 < w1.heap.size:=HR.out.lt
 go_region_held3 (fun w'=>w'.cell? ⟨w.heap.size,1,none⟩ = some (.slice (some ⟨b,0,none⟩) 1 1)∧w'.cell? ⟨b,0,none⟩ = some (.int .i64 e.off)∧w'.cell? ⟨b,1,none⟩ = some (.string ⟨#[]⟩)∧w'.cell? ⟨b,2,none⟩ = some (.int .i64 e.save)∧w'.cell? ⟨b,3,none⟩ = some (.string f)∧w'.cell? ⟨b,4,none⟩ = some (.bool false)∧w'.cell? ⟨b,5,none⟩ = some (.int .i64 e.year)∧w'.cell? ⟨b,6,none⟩ = some (.int .i64 e.month)∧w'.cell? ⟨b,7,none⟩ = some (.int .i64 e.dk)∧w'.cell? ⟨b,8,none⟩ = some (.int .i64 e.dw)∧w'.cell? ⟨b,9,none⟩ = some (.int .i64 e.dn)∧w'.cell? ⟨b,10,none⟩ = some (.int .i64 e.sec)∧w'.cell? ⟨b,11,none⟩ = some (.int .i64 e.ak)) (first | exact ⟨z1,c0,c1,c2,c3,c4,c5,c6,c7,c8,c9,c10,c11⟩ | go_keep)
  (first | (go_at_call 50;refine (era_none _ _).mono ?_;rintro o w' ⟨rfl,rfl⟩))
 all_goals
  rename_i K0 hK0 hh
  clear hh
  refine hK0 _ _ ?_
  clear hK0
  go_wp2_with fail
  have hb6:Below w.heap.size w (w1.alloc (.cells #[.int .i64 e.off,.string ⟨#[]⟩,.int .i64 e.save,.string f,.bool false,.int .i64 e.year,.int .i64 e.month,.int .i64 e.dk,.int .i64 e.dw,.int .i64 e.dn,.int .i64 e.sec,.int .i64 e.ak] 42)).drew:=(HB.out.alloc HB.out.size _).drew
  have he6:OneE (w1.alloc (.cells #[.int .i64 e.off,.string ⟨#[]⟩,.int .i64 e.save,.string f,.bool false,.int .i64 e.year,.int .i64 e.month,.int .i64 e.dk,.int .i64 e.dw,.int .i64 e.dn,.int .i64 e.sec,.int .i64 e.ak] 42)).drew w1.heap.size e f:=Blk.new w1 42 (eraP e f).toArray
  have hr6:Blk (w1.alloc (.cells #[.int .i64 e.off,.string ⟨#[]⟩,.int .i64 e.save,.string f,.bool false,.int .i64 e.year,.int .i64 e.month,.int .i64 e.dk,.int .i64 e.dw,.int .i64 e.dn,.int .i64 e.sec,.int .i64 e.ak] 42)).drew (w.heap.size + 1) 48 #[.int .i64 0,.bool false,.string ⟨#[]⟩]:=HR.out.alloc _
  obtain ⟨W6,hW6⟩:∃ W,(w1.alloc (.cells #[.int .i64 e.off,.string ⟨#[]⟩,.int .i64 e.save,.string f,.bool false,.int .i64 e.year,.int .i64 e.month,.int .i64 e.dk,.int .i64 e.dw,.int .i64 e.dn,.int .i64 e.sec,.int .i64 e.ak] 42)).drew = W:=⟨_,rfl⟩
  rw [hW6] at hb6 he6 hr6 ⊢
  clear hW6 c0 c1 c2 c3 c4 c5 c6 c7 c8 c9 c10 c11 z1 HM HR HB
  have HB6:=Lib.hid hb6
  have HE6:=Lib.hid he6
  have HR6:=Lib.hid hr6
  clear hb6 he6 hr6
  by_cases h0:err = 0
  ·have OF:=fun W=>of_plain (.func g ts cs) e f W
   have WI:=fun W hm=>within_plain e f (.slice none 0 0) i W hm g1 g2 s err hsh
   unfold withinR at WI
   simp only [if_pos h0] at WI
   unfold eraPA eraP dstB at WI
   unfold eraPA eraP at OF
   refine wp_envS (fin:=?fnA) (by kernel_rfl) [35,36,37,38,39,40,41,42,99,7]
    [.agg #[.int .i64 e.off,.string ⟨#[]⟩,.int .i64 e.save,.string f,.bool false,.int .i64 e.year,.int .i64 e.month,.int .i64 e.dk,.int .i64 e.dw,.int .i64 e.dn,.int .i64 e.sec,.int .i64 e.ak],.func g ts cs,.agg #[.int .i64 e.off,.string ⟨#[]⟩,.int .i64 e.save,.string f,.bool false,.int .i64 e.year,.int .i64 e.month,.int .i64 e.dk,.int .i64 e.dw,.int .i64 e.dn,.int .i64 e.sec,.int .i64 e.ak],.slice none 0 0,.int .i64 i,.tuple #[.agg #[.int .i64 (e.off + e.save),.bool (e.save != 0),.string s],.int .i64 0],.agg #[.int .i64 (e.off + e.save),.bool (e.save != 0),.string s],.int .i64 0,undef,.int .i64 0] 8 (fun k=>k = w.heap.size + 1) (fun W=>Blk W (w.heap.size + 1) 48 #[.int .i64 (e.off + e.save),.bool (e.save != 0),.string s]) (fun W W' h hb=>Blk.below h hb (Blk.lt h)) (by kernel_rfl) (by decide) (by simp) ?finA ?stepsA ?nextA
   case finA =>
    simp only [putAll,Act.put,List.setIfInBounds_toArray,List.set_cons_succ,List.set_cons_zero,List.set_nil]
    try rfl
   case stepsA =>
    refine ⟨?_,?_,?_,?_,?_,?_,?_,?_,?_,?_,trivial⟩
    all_goals
     refine .inr ⟨by kernel_rfl,fun w1_ hB_ hF_=>?_⟩
     have he7:OneE w1_ w1.heap.size e f:=Blk.fr HE6.out hF_ (by omega)
     have hb7:=HB6.out.trans (hF_.below HB6.out.size (fun k hk=>by omega))
     have hm7:=HM0.out.below hb7 (Nat.le_refl _)
     obtain ⟨c0,c1,c2,c3,c4,c5,c6,c7,c8,c9,c10,c11⟩:=he7.cells
     first
      | (go_simp;first | exact ⟨rfl,rfl,Below.refl _ _⟩ | exact ⟨rfl,rfl,OF _⟩ | exact ⟨rfl,rfl,WI _ hm7⟩)
      | (have hr7:=HR6.out.below (hB_ rfl) HR6.out.lt;have f0:=hr7.frozen 0;have f1:=hr7.frozen 1;have f2:=hr7.frozen 2;have r0:=hr7.cell 0 (v:=.int .i64 0) rfl;have r1:=hr7.cell 1 (v:=.bool false) rfl;have r2:=hr7.cell 2 (v:=.string ⟨#[]⟩) rfl;go_simp;exact ⟨rfl,rfl,fr_set3 (T:=fun k=>k = w.heap.size + 1) _ rfl _ _ _,((hr7.set 0 _).set 1 _).set 2 _⟩)
   case nextA =>
    intro W8 hF8 hR8
    have hb8:=HB6.out.trans (hF8.below HB6.out.size (fun k hk=>by omega))
    go_wp2_with fail
    refine bodyPost_ret (v:=.tuple #[.agg #[.int .i64 (e.off + e.save),.bool (e.save != 0),.string s],.int .i64 0]) ?_ rfl ⟨by rw [h0];rfl,hb8⟩
    have c0:=hR8.cell 0 (v:=.int .i64 (e.off + e.save)) rfl
    have c1:=hR8.cell 1 (v:=.bool (e.save != 0)) rfl
    have c2:=hR8.cell 2 (v:=.string s) rfl
    simp [results,Tryz.f19,go_sem,c0,c1,c2]
  ·have OF:=fun W=>of_plain (.func g ts cs) e f W
   have WI:=fun W hm=>within_plain e f (.slice none 0 0) i W hm g1 g2 s err hsh
   unfold withinR at WI
   simp only [if_neg h0] at WI
   unfold eraPA eraP at WI
   unfold eraPA eraP at OF
   refine wp_envS (fin:=?fnB) (by kernel_rfl) [35,36,37,38,39,40,41,42,99,7]
    [.agg #[.int .i64 e.off,.string ⟨#[]⟩,.int .i64 e.save,.string f,.bool false,.int .i64 e.year,.int .i64 e.month,.int .i64 e.dk,.int .i64 e.dw,.int .i64 e.dn,.int .i64 e.sec,.int .i64 e.ak],.func g ts cs,.agg #[.int .i64 e.off,.string ⟨#[]⟩,.int .i64 e.save,.string f,.bool false,.int .i64 e.year,.int .i64 e.month,.int .i64 e.dk,.int .i64 e.dw,.int .i64 e.dn,.int .i64 e.sec,.int .i64 e.ak],.slice none 0 0,.int .i64 i,.tuple #[.agg #[.int .i64 0,.bool false,.string ⟨#[]⟩],.int .i64 err],.agg #[.int .i64 0,.bool false,.string ⟨#[]⟩],.int .i64 err,undef,.int .i64 err] 8 (fun k=>k = w.heap.size + 1) (fun W=>Blk W (w.heap.size + 1) 48 #[.int .i64 0,.bool false,.string ⟨#[]⟩]) (fun W W' h hb=>Blk.below h hb (Blk.lt h)) (by kernel_rfl) (by decide) (by simp) ?finB ?stepsB ?nextB
   case finB =>
    simp only [putAll,Act.put,List.setIfInBounds_toArray,List.set_cons_succ,List.set_cons_zero,List.set_nil]
    try rfl
   case stepsB =>
    refine ⟨?_,?_,?_,?_,?_,?_,?_,?_,?_,?_,trivial⟩
    all_goals
     refine .inr ⟨by kernel_rfl,fun w1_ hB_ hF_=>?_⟩
     have he7:OneE w1_ w1.heap.size e f:=Blk.fr HE6.out hF_ (by omega)
     have hb7:=HB6.out.trans (hF_.below HB6.out.size (fun k hk=>by omega))
     have hm7:=HM0.out.below hb7 (Nat.le_refl _)
     obtain ⟨c0,c1,c2,c3,c4,c5,c6,c7,c8,c9,c10,c11⟩:=he7.cells
     first
      | (go_simp;first | exact ⟨rfl,rfl,Below.refl _ _⟩ | exact ⟨rfl,rfl,OF _⟩ | exact ⟨rfl,rfl,WI _ hm7⟩)
      | (have hr7:=HR6.out.below (hB_ rfl) HR6.out.lt;have f0:=hr7.frozen 0;have f1:=hr7.frozen 1;have f2:=hr7.frozen 2;have r0:=hr7.cell 0 (v:=.int .i64 0) rfl;have r1:=hr7.cell 1 (v:=.bool false) rfl;have r2:=hr7.cell 2 (v:=.string ⟨#[]⟩) rfl;go_simp;exact ⟨rfl,rfl,fr_set3 (T:=fun k=>k = w.heap.size + 1) _ rfl _ _ _,((hr7.set 0 _).set 1 _).set 2 _⟩)
   case nextB =>
    intro W8 hF8 hR8
    have hb8:=HB6.out.trans (hF8.below HB6.out.size (fun k hk=>by omega))
    go_wp2_with fail
    refine bodyPost_ret (v:=.tuple #[.agg #[.int .i64 (0),.bool (false),.string ⟨#[]⟩],.int .i64 err]) ?_ rfl ⟨by unfold withinR;rw [if_neg h0],hb8⟩
    have c0:=hR8.cell 0 (v:=.int .i64 (0)) rfl
    have c1:=hR8.cell 1 (v:=.bool (false)) rfl
    have c2:=hR8.cell 2 (v:=.string ⟨#[]⟩) rfl
    simp [results,Tryz.f19,go_sem,c0,c1,c2]
end
section -- ARefK
open Go Go.RowKit Go.Shelf
def letB (x:UInt8):Bool:=abcB.contains x
def scanR (n:Nat):Nat→List UInt8→Int × Nat→Option (Int × Nat)
 | _,[],st=>some st
 | i,x :: t,st=>if letB x then scanR n (i + 1) t st
   else if st.1 ≠ 0 then none
   else if x = 47∧0 < i∧i + 1 < n then scanR n (i + 1) t (3,i)
   else if x = 37∧t.head? = some 115 then scanR n (i + 1) t (1,i)
   else if x = 37∧t.head? = some 122 then scanR n (i + 1) t (2,i)
   else none
def refK (f:List UInt8):Int × Nat:=if f = []∨64 < f.length then (-1,0) else match scanR f.length 0 f (0,0) with | none=>(-1,0) | some st=>st
def odd (f:List UInt8):Nat:=f.countP fun x=>!letB x
theorem odd_append (a b:List UInt8):odd (a ++ b) = odd a + odd b:=List.countP_append
theorem odd_zero {f:List UInt8}:odd f = 0 ↔ ∀ x ∈ f,letB x = true:=by
 unfold odd
 rw [List.countP_eq_zero]
 constructor
 ·intro h x hx
  have:=h x hx
  simpa using this
 ·intro h x hx
  rw [h x hx];decide
theorem odd_cons (x:UInt8) (f:List UInt8):odd (x :: f) = (if letB x then 0 else 1) + odd f:=by
 unfold odd
 rw [List.countP_cons]
 cases letB x <;> simp <;> omega
theorem scan_letters {n:Nat}:∀ (a:List UInt8) (i:Nat) (r:List UInt8) (st:Int × Nat),odd a = 0→scanR n i (a ++ r) st = scanR n (i + a.length) r st
 | [],i,r,st,_=>rfl
 | x :: a,i,r,st,h=>by
   rw [odd_cons] at h
   have hx:letB x = true:=by cases hb:letB x <;> rw [hb] at h <;> simp at h ⊢
   rw [hx] at h
   show scanR n i (x :: (a ++ r)) st = _
   rw [scanR,if_pos hx,scan_letters a (i + 1) r st (by simpa using h)]
   congr 1
   simp;omega
theorem scan_none {n:Nat}:∀ (t:List UInt8) (i:Nat) (st:Int × Nat),st.1 ≠ 0→odd t ≠ 0→scanR n i t st = none
 | [],_,_,_,h=>absurd rfl h
 | x :: t,i,st,hs,h=>by
   rw [scanR]
   cases hx:letB x with
   | true =>
     rw [if_pos rfl]
     rw [odd_cons,hx] at h
     exact scan_none t (i + 1) st hs (by simpa using h)
   | false=>rw [if_neg (by decide),if_pos hs]
theorem odd_split:∀ {f:List UInt8},odd f ≠ 0→∃ a x t,f = a ++ x :: t∧odd a = 0∧letB x = false
 | [],h=>absurd rfl h
 | x :: f,h=>by
   cases hx:letB x with
   | false=>exact ⟨[],x,f,rfl,rfl,hx⟩
   | true =>
     rw [odd_cons,hx] at h
     obtain ⟨a,y,t,e,h1,h2⟩:=odd_split (f:=f) (by simpa using h)
     exact ⟨x :: a,y,t,by rw [e];rfl,by rw [odd_cons,hx,h1];rfl,h2⟩
theorem dropWhile_nil {p:UInt8→Bool}:∀ {l:List UInt8},l.dropWhile p = [] ↔ ∀ x ∈ l,p x = true
 | []=>⟨fun _ x hx=>(by cases hx),fun _=>rfl⟩
 | y :: l=>by
   rw [List.dropWhile_cons]
   cases hy:p y with
   | true =>
     rw [if_pos rfl,dropWhile_nil]
     exact ⟨fun h x hx=>by rcases List.mem_cons.1 hx with rfl | hx;exact hy;exact h x hx,fun h x hx=>h x (by simp [hx])⟩
   | false =>
     rw [if_neg (by decide)]
     exact ⟨fun h=>(by cases h),fun h=>by have:=h y (by simp);rw [hy] at this;exact absurd this (by decide)⟩
theorem trim_nil {l:List UInt8}:Lib.trimS l abcB = [] ↔ odd l = 0:=by
 rw [odd_zero]
 unfold Lib.trimS Lib.trimLeftS Lib.trimRightS
 constructor
 ·intro h x hx
  have h2:∀ y ∈ (l.reverse.dropWhile (abcB.contains ·)).reverse,abcB.contains y = true:=fun y hy=>by
   rw [dropWhile_nil] at h
   exact h y hy
  have h3:l.reverse.dropWhile (abcB.contains ·) = []:=by
   cases hd:l.reverse.dropWhile (abcB.contains ·) with
   | nil=>rfl
   | cons z zs =>
     have hz:=h2 z (by rw [hd];simp)
     have:=List.head_dropWhile_not (abcB.contains ·) (l:=l.reverse) (by rw [hd];simp)
     simp only [hd,List.head_cons] at this
     rw [this] at hz
     exact absurd hz (by decide)
  rw [dropWhile_nil] at h3
  exact h3 x (by simpa using hx)
 ·intro h
  have h3:l.reverse.dropWhile (abcB.contains ·) = []:=by
   rw [dropWhile_nil]
   intro x hx
   exact h x (by simpa using hx)
  rw [h3]
  rfl
theorem mark_at {f m:List UInt8} (h:Lib.contains f m = true):∃ i:Nat,Lib.index f m = i∧f = f.take i ++ m ++ f.drop (i + m.length)∧i + m.length ≤ f.length:=by
 unfold Lib.contains at h
 rw [decide_eq_true_eq] at h
 rcases Lib.index_spec f m with ⟨h1,-⟩ | ⟨i,h1,h2,h3,-⟩
 ·omega
 ·have hr:=Lib.index_room f m h
  have hl:i + m.length ≤ f.length:=by omega
  refine ⟨i,h1,?_,hl⟩
  rw [Lib.occAt_iff_take f m i hl] at h3
  have h4:(f.drop i).take m.length = m:=by simpa using h3
  conv=>lhs;rw [← List.take_append_drop i f]
  rw [List.append_assoc]
  congr 1
  conv=>lhs;rw [← List.take_append_drop m.length (f.drop i),h4,List.drop_drop]
theorem rep_at {f m new:List UInt8} {i:Nat} (hm:m ≠ new) (hi:Lib.index f m = i):Lib.replace f m new 1 = f.take i ++ new ++ f.drop (i + m.length):=by
 unfold Lib.replace
 rw [if_neg (by simpa using hm)]
 have hc:1 ≤ Lib.count f m:=by
  unfold Lib.count
  rw [Lib.countFrom,if_neg (by rw [hi];simp)]
  omega
 have hn:Lib.replaceNum f m 1 = 1:=by
  unfold Lib.replaceNum
  rw [if_neg (by omega)]
  rfl
 rw [hn,Lib.replaceK_hit m new 0 f i hi]
 rfl
def markK (k:Int):List UInt8:=if k = 1 then [37,115] else if k = 2 then [37,122] else [47]
theorem contains_of {a m b:List UInt8}:Lib.contains (a ++ m ++ b) m = true:=by
 unfold Lib.contains
 rw [decide_eq_true_eq]
 rcases Lib.index_spec (a ++ m ++ b) m with ⟨-,h2⟩ | ⟨i,h1,-⟩
 ·exfalso
  have:=h2 a.length (by simp)
  unfold Lib.occAt at this
  rw [List.append_assoc,List.drop_left] at this
  have h3:m.isPrefixOf (m ++ b) = true:=by rw [List.isPrefixOf_iff_prefix];exact List.prefix_append m b
  rw [h3] at this
  exact absurd this (by decide)
 ·omega
theorem odd_mark {f m:List UInt8} (hm:odd m = 1) (h:Lib.contains f m = true):∃ i:Nat,Lib.index f m = i∧f = f.take i ++ m ++ f.drop (i + m.length)∧i + m.length ≤ f.length∧odd f = odd (f.take i ++ f.drop (i + m.length)) + 1:=by
 obtain ⟨i,h1,h2,h3⟩:=mark_at h
 refine ⟨i,h1,h2,h3,?_⟩
 conv=>lhs;rw [h2]
 rw [odd_append,odd_append,odd_append,hm]
 omega
theorem m1:odd [37,115] = 1:=by decide
theorem m2:odd [37,122] = 1:=by decide
theorem m3:odd [47] = 1:=by decide
theorem scan_bad {n:Nat} {f:List UInt8} (h:2 ≤ odd f):scanR n 0 f (0,0) = none:=by
 obtain ⟨a,x,t,e,ha,hx⟩:=odd_split (f:=f) (by omega)
 have ht:odd t ≠ 0:=by
  rw [e,odd_append,odd_cons,ha,hx] at h
  simp at h
  omega
 rw [e,scan_letters a 0 _ _ ha,scanR,hx,if_neg (by decide),if_neg (by simp)]
 split
 ·exact scan_none t _ _ (by simp) ht
 ·split
  ·exact scan_none t _ _ (by simp) ht
  ·split
   ·exact scan_none t _ _ (by simp) ht
   ·rfl
theorem scan_all {n i:Nat} {t:List UInt8} {st:Int × Nat} (h:odd t = 0):scanR n i t st = some st:=by
 have:=scan_letters (n:=n) t i [] st h
 rw [List.append_nil] at this
 rw [this]
 rfl
theorem refK_in {f:List UInt8} (h0:f ≠ []) (h1:¬ 64 < f.length):refK f = match scanR f.length 0 f (0,0) with | none=>(-1,0) | some st=>st:=by
 unfold refK
 rw [if_neg (by intro h;rcases h with h | h;exact h0 h;exact h1 h)]
theorem last_ne {f:List UInt8} (h:odd f = 0):(f.headD 0 == 47) = false∧(f.getLastD 0 == 47) = false:=by
 rw [odd_zero] at h
 have h47:letB 47 = false:=by decide
 constructor
 ·cases f with
  | nil=>rfl
  | cons x t =>
    have:=h x (by simp)
    cases hq:((x :: t).headD 0 == 47) with
    | false=>rfl
    | true =>
      have e:x = 47:=by simpa using hq
      rw [e,h47] at this;exact absurd this (by decide)
 ·cases hq:(f.getLastD 0 == 47) with
  | false=>rfl
  | true =>
    exfalso
    cases f with
    | nil=>exact absurd hq (by decide)
    | cons x t =>
      have hm:(x :: t).getLastD 0 ∈ (x :: t):=List.getLast_mem (List.cons_ne_nil x t)
      have:=h _ hm
      rw [show (x :: t).getLastD 0 = 47 by simpa using hq,h47] at this
      exact absurd this (by decide)
theorem refK_of (f:List UInt8):(kindR f = (0,12)∧refK f = (-1,0))∨∃ (k:Int) (at_:Nat),kindR f = (k,0)∧refK f = (k,at_)∧((k = 0∧at_ = 0)∨(1 ≤ k∧k ≤ 3∧f = f.take at_ ++ markK k ++ f.drop (at_ + (markK k).length)∧Lib.index f (markK k) = at_∧at_ + (markK k).length ≤ f.length)):=by
 by_cases h0:f = []
 ·exact .inl ⟨kindR_bad (bad_empty h0),by unfold refK;rw [if_pos (.inl h0)]⟩
 by_cases h1:64 < f.length
 ·exact .inl ⟨kindR_bad (bad_long h1),by unfold refK;rw [if_pos (.inr h1)]⟩
 rw [refK_in h0 h1]
 have no:∀ m,odd m = 1→odd f = 0→Lib.contains f m = false:=fun m hm hf=>by
  cases hc:Lib.contains f m with
  | false=>rfl
  | true=>obtain ⟨i,-,-,-,h⟩:=odd_mark hm hc;omega
 have bad2:2 ≤ odd f→kindR f = (0,12):=fun h2=>by
  have key:∃ k p,kindP f = (k,p)∧odd p ≠ 0:=by
   unfold kindP
   by_cases c1:Lib.contains f [37,115] = true
   ·obtain ⟨i,e1,-,-,e4⟩:=odd_mark m1 c1
    rw [if_pos c1]
    exact ⟨_,_,rfl,by rw [rep_at (by simp) e1,List.append_nil];have:=e4;simp only [List.length_cons,List.length_nil] at this ⊢;omega⟩
   ·rw [if_neg c1]
    by_cases c2:Lib.contains f [37,122] = true
    ·obtain ⟨i,e1,-,-,e4⟩:=odd_mark m2 c2
     rw [if_pos c2]
     exact ⟨_,_,rfl,by rw [rep_at (by simp) e1,List.append_nil];have:=e4;simp only [List.length_cons,List.length_nil] at this ⊢;omega⟩
    ·rw [if_neg c2]
     by_cases c3:Lib.contains f [47] = true
     ·obtain ⟨i,e1,-,-,e4⟩:=odd_mark m3 c3
      rw [if_pos c3]
      exact ⟨_,_,rfl,by rw [rep_at (by simp) e1,List.append_nil];have:=e4;simp only [List.length_cons,List.length_nil] at this ⊢;omega⟩
     ·rw [if_neg c3]
      exact ⟨_,_,rfl,by omega⟩
  obtain ⟨k,p,hk,hp⟩:=key
  exact kindR_bad (bad_trim hk (fun h=>hp (trim_nil.1 h)))
 rcases (show odd f = 0∨odd f = 1∨2 ≤ odd f by omega) with hN | hN | hN
 ·have hk:kindP f = (0,f):=by unfold kindP;rw [no _ m1 hN,no _ m2 hN,no _ m3 hN];rfl
  refine .inr ⟨0,0,kindR_ok (bad_not hk h0 h1 (edge_not hk (by decide)) (trim_nil.2 hN)) hk,?_,.inl ⟨rfl,rfl⟩⟩
  rw [scan_all hN]
 ·have parts:∀ (m:List UInt8) (i:Nat),odd m = 1→f = f.take i ++ m ++ f.drop (i + m.length)→odd (f.take i) = 0∧odd (f.drop (i + m.length)) = 0:=fun m i hm e=>by
   have h:odd f = odd (f.take i) + odd m + odd (f.drop (i + m.length)):=by
    conv=>lhs;rw [e]
    rw [odd_append,odd_append]
   omega
  have scan2:∀ (k:Int) (c:UInt8) (i:Nat),letB c = true→(k = 1∧c = 115∨k = 2∧c = 122)→i + 2 ≤ f.length→f = f.take i ++ [37,c] ++ f.drop (i + [37,c].length)→odd [37,c] = 1→scanR f.length 0 f (0,0) = some (k,i):=fun k c i hc hk hl e ho=>by
   obtain ⟨o1,o2⟩:=parts _ i ho e
   have htl:(f.take i).length = i:=by rw [List.length_take];omega
   have hst:scanR f.length 0 f (0,0) = scanR f.length 0 (f.take i ++ (37 :: c :: f.drop (i + [37,c].length))) (0,0):=by
    congr 1
    conv=>lhs;rw [e]
    simp
   have h37:letB 37 = false:=by decide
   have htt:odd (c :: f.drop (i + [37,c].length)) = 0:=by rw [odd_cons,hc,o2];rfl
   rw [hst,scan_letters _ _ _ _ o1,htl,Nat.zero_add,scanR,h37,if_neg (by decide),if_neg (by simp),if_neg (by simp)]
   rcases hk with ⟨rfl,rfl⟩ | ⟨rfl,rfl⟩
   ·rw [if_pos ⟨rfl,rfl⟩]
    exact scan_all htt
   ·rw [if_neg (by simp),if_pos ⟨rfl,rfl⟩]
    exact scan_all htt
  by_cases c1:Lib.contains f [37,115] = true
  ·obtain ⟨i,e1,e2,e3,e4⟩:=odd_mark m1 c1
   have hk:kindP f = (1,Lib.replace f [37,115] [] 1):=by unfold kindP;rw [if_pos c1]
   refine .inr ⟨1,i,kindR_ok (bad_not hk h0 h1 (edge_not hk (by decide)) (trim_nil.2 (by rw [rep_at (by simp) e1,List.append_nil];omega))) hk,?_,.inr ⟨by decide,by decide,e2,e1,e3⟩⟩
   rw [scan2 1 115 i (by decide) (.inl ⟨rfl,rfl⟩) e3 e2 m1]
  ·by_cases c2:Lib.contains f [37,122] = true
   ·obtain ⟨i,e1,e2,e3,e4⟩:=odd_mark m2 c2
    have hk:kindP f = (2,Lib.replace f [37,122] [] 1):=by unfold kindP;rw [if_neg c1,if_pos c2]
    refine .inr ⟨2,i,kindR_ok (bad_not hk h0 h1 (edge_not hk (by decide)) (trim_nil.2 (by rw [rep_at (by simp) e1,List.append_nil];omega))) hk,?_,.inr ⟨by decide,by decide,e2,e1,e3⟩⟩
    rw [scan2 2 122 i (by decide) (.inr ⟨rfl,rfl⟩) e3 e2 m2]
   ·by_cases c3:Lib.contains f [47] = true
    ·obtain ⟨i,e1,e2,e3,e4⟩:=odd_mark m3 c3
     have hk:kindP f = (3,Lib.replace f [47] [] 1):=by unfold kindP;rw [if_neg c1,if_neg c2,if_pos c3]
     obtain ⟨o1,o2⟩:=parts _ i m3 e2
     have e3':i + 1 ≤ f.length:=e3
     have htl:(f.take i).length = i:=by rw [List.length_take];omega
     have hst:scanR f.length 0 f (0,0) = scanR f.length i (47 :: f.drop (i + [(47:UInt8)].length)) (0,0):=by
      have hst:scanR f.length 0 f (0,0) = scanR f.length 0 (f.take i ++ (47 :: f.drop (i + [(47:UInt8)].length))) (0,0):=by
       congr 1
       conv=>lhs;rw [e2]
       simp
      rw [hst,scan_letters _ _ _ _ o1,htl,Nat.zero_add]
     have h47:letB 47 = false:=by decide
     have htrim:Lib.trimS (Lib.replace f [47] [] 1) abcB = []:=trim_nil.2 (by rw [rep_at (by simp) e1,List.append_nil];omega)
     by_cases hin:0 < i∧i + 1 < f.length
     ·have hedge:edgeB f = false:=by
       unfold edgeB
       rw [hk]
       have a1:(f.headD 0 == 47) = false:=by
        have:=(last_ne o1).1
        rw [e2]
        cases hti:f.take i with
        | nil=>rw [hti] at htl;simp at htl;omega
        | cons y ys=>rw [hti] at this;simpa using this
       have a2:(f.getLastD 0 == 47) = false:=by
        have:=(last_ne o2).2
        have hne:f.drop (i + [(47:UInt8)].length) ≠ []:=by
         intro h
         have h2:=congrArg List.length h
         rw [List.length_drop] at h2
         simp at h2
         omega
        rw [e2]
        cases hti:f.drop (i + [(47:UInt8)].length) with
        | nil=>exact absurd hti hne
        | cons y ys =>
          rw [hti] at this
          rw [List.getLastD_eq_getLast?,List.getLast?_append,List.getLast?_eq_some_getLast (by simp),Option.some_or,Option.getD_some]
          rw [List.getLastD_eq_getLast?,List.getLast?_eq_some_getLast (by simp),Option.getD_some] at this
          exact this
       rw [a1,a2]
       rfl
      refine .inr ⟨3,i,kindR_ok (bad_not hk h0 h1 hedge htrim) hk,?_,.inr ⟨by decide,by decide,e2,e1,e3⟩⟩
      rw [hst,scanR,h47,if_neg (by decide),if_neg (by simp),if_pos ⟨rfl,hin.1,hin.2⟩,scan_all o2]
     ·refine .inl ⟨kindR_bad (bad_edge ?_),?_⟩
      ·unfold edgeB
       rw [hk]
       have:f.headD 0 = 47∨f.getLastD 0 = 47:=by
        by_cases hi0:i = 0
        ·left
         rw [e2,hi0]
         rfl
        ·right
         have hd:f.drop (i + [(47:UInt8)].length) = []:=by
          rw [List.drop_eq_nil_iff]
          show f.length ≤ i + 1
          omega
         rw [e2,hd,List.append_nil,List.getLastD_eq_getLast?,List.getLast?_append]
         rfl
       rcases this with h | h <;> rw [h] <;> simp
      ·rw [hst,scanR,h47,if_neg (by decide),if_neg (by simp),if_neg (fun h=>hin ⟨h.2.1,h.2.2⟩),if_neg (by simp),if_neg (by simp)]
    ·obtain ⟨a,x,t,e,ha,hx⟩:=odd_split (f:=f) (by omega)
     have hk:kindP f = (0,f):=by unfold kindP;rw [if_neg c1,if_neg c2,if_neg c3]
     refine .inl ⟨kindR_bad (bad_trim hk (fun h=>by rw [trim_nil] at h;omega)),?_⟩
     have hst:scanR f.length 0 f (0,0) = scanR f.length 0 (a ++ x :: t) (0,0):=by congr 1
     have n47:x ≠ 47:=fun h=>c3 (by rw [e,h,show a ++ 47 :: t = a ++ [47] ++ t by simp];exact contains_of)
     have n115:¬ (x = 37∧t.head? = some 115):=fun ⟨h,h2⟩=>c1 (by
      cases t with
      | nil=>cases h2
      | cons y ys =>
        have:y = 115:=by simpa using h2
        rw [e,h,this,show a ++ 37 :: 115 :: ys = a ++ [37,115] ++ ys by simp];exact contains_of)
     have n122:¬ (x = 37∧t.head? = some 122):=fun ⟨h,h2⟩=>c2 (by
      cases t with
      | nil=>cases h2
      | cons y ys =>
        have:y = 122:=by simpa using h2
        rw [e,h,this,show a ++ 37 :: 122 :: ys = a ++ [37,122] ++ ys by simp];exact contains_of)
     rw [hst,scan_letters _ _ _ _ ha,scanR,hx,if_neg (by decide),if_neg (by simp),if_neg (fun h=>n47 h.1),if_neg n115,if_neg n122]
 ·exact .inl ⟨bad2 hN,by rw [scan_bad hN]⟩
theorem index_out {f m:List UInt8} (h:Lib.contains f m = false):Lib.index f m = -1:=by
 have hge:=Lib.index_ge f m
 unfold Lib.contains at h
 rw [decide_eq_false_iff_not] at h
 omega
theorem count_out {f m:List UInt8} (hm:odd m = 1) (h:odd f = 0):Lib.count f m = 0:=by
 refine Lib.count_miss (index_out ?_)
 cases hc:Lib.contains f m with
 | false=>rfl
 | true=>obtain ⟨i,-,-,-,h2⟩:=odd_mark hm hc;omega
theorem count_one {f:List UInt8} (h:kindR f = (1,0)):Lib.count f [37,115] ≤ 1:=by
 cases c1:Lib.contains f [37,115] with
 | false=>rw [Lib.count_miss (index_out c1)];omega
 | true =>
   obtain ⟨i,e1,e2,e3,e4⟩:=odd_mark m1 c1
   rw [Lib.count_hit (by simp) e1]
   have hk:kindP f = (1,Lib.replace f [37,115] [] 1):=by unfold kindP;rw [if_pos c1]
   have hb:Lib.trimS (Lib.replace f [37,115] [] 1) abcB = []:=by
    apply Classical.byContradiction
    intro hne
    rw [kindR_bad (bad_trim hk hne)] at h
    cases h
   rw [trim_nil,rep_at (by simp) e1,List.append_nil,odd_append] at hb
   rw [count_out m1 (by omega)]
   omega
end
section -- CMath
open Go
def aheadV:Nat→Int
 | 0=>0 | 1=>31 | 2=>59 | 3=>90 | 4=>120 | 5=>151 | 6=>181 | 7=>212 | 8=>243 | 9=>273 | 10=>304 | 11=>334 | _=>365
def leapB (y:Int):Bool:=decide (y % 4 = 0∧(y % 100 ≠ 0∨y % 400 = 0))
def leapsV (y:Int):Int:=if leapB y then 1 else 0
theorem leapsV_in (y:Int):0 ≤ leapsV y∧leapsV y ≤ 1:=by unfold leapsV;split <;> omega
def yearV (y:Int):Int:=(y - 1) * 365 + (y - 1) / 4 - (y - 1) / 100 + (y - 1) / 400 - 719162
def startV (y m:Int):Int:=aheadV (m - 1).toNat + if 2 < m then leapsV y else 0
def lenV (y m:Int):Int:=aheadV m.toNat - aheadV (m - 1).toNat + if m = 2 then leapsV y else 0
def ymB (y m:Int):Bool:=decide (-100000 ≤ y∧y ≤ 100000∧1 ≤ m∧m ≤ 12)
def longV (y m:Int):Int × Int:=if ymB y m then (lenV y m,0) else (0,10)
def dateB (y m d:Int):Bool:=ymB y m && decide (1 ≤ d∧d ≤ lenV y m)
def dayV (y m d:Int):Int:=yearV y + startV y m + d - 1
def weekV (n:Int):Int:=(n % 7 + 4) % 7
theorem tmod_zero (a b:Int):a.tmod b = 0 ↔ a % b = 0:=⟨fun h=>Int.emod_eq_zero_of_dvd (Int.dvd_of_tmod_eq_zero h),fun h=>Int.tmod_eq_zero_of_dvd (Int.dvd_of_emod_eq_zero h)⟩
theorem aheadV_in (k:Nat):0 ≤ aheadV k∧aheadV k ≤ 365:=by
 unfold aheadV
 split <;> omega
theorem lenV_in {y m:Int} (h1:1 ≤ m) (h2:m ≤ 12):28 ≤ lenV y m∧lenV y m ≤ 31:=by
 have hl:=leapsV_in y
 unfold lenV
 rcases (by omega:m = 1∨m = 2∨m = 3∨m = 4∨m = 5∨m = 6∨m = 7∨m = 8∨m = 9∨m = 10∨m = 11∨m = 12) with h | h | h | h | h | h | h | h | h | h | h | h <;> subst h <;> simp [aheadV] <;> omega
theorem startV_in (y m:Int):0 ≤ startV y m∧startV y m ≤ 366:=by
 have hl:=leapsV_in y
 have ha:=aheadV_in (m - 1).toNat
 unfold startV
 split <;> omega
theorem startV_next {y m:Int} (h1:1 ≤ m) (h2:m < 12):startV y (m + 1) = startV y m + lenV y m:=by
 have hl:=leapsV_in y
 unfold lenV startV
 rcases (by omega:m = 1∨m = 2∨m = 3∨m = 4∨m = 5∨m = 6∨m = 7∨m = 8∨m = 9∨m = 10∨m = 11) with h | h | h | h | h | h | h | h | h | h | h <;> subst h <;> simp [aheadV] <;> omega
theorem startV_dec {y:Int}:startV y 12 + lenV y 12 = 365 + leapsV y:=by
 unfold lenV startV
 simp [aheadV]
 omega
theorem yearV_in {y:Int} (h1:-100001 ≤ y) (h2:y ≤ 100001):-40000000 ≤ yearV y∧yearV y ≤ 40000000:=by
 unfold yearV
 omega
theorem dateB_in {y m d:Int} (h:dateB y m d = true):-100000 ≤ y∧y ≤ 100000∧1 ≤ m∧m ≤ 12∧1 ≤ d∧d ≤ lenV y m:=by
 unfold dateB ymB at h
 simp only [Bool.and_eq_true,decide_eq_true_eq] at h
 exact ⟨h.1.1,h.1.2.1,h.1.2.2.1,h.1.2.2.2,h.2.1,h.2.2⟩
theorem dayV_in {y m d:Int} (h:dateB y m d = true):-50000000 ≤ dayV y m d∧dayV y m d ≤ 50000000:=by
 obtain ⟨a,b,c,e,f,g⟩:=dateB_in h
 have h1:=yearV_in (y:=y) (by omega) (by omega)
 have h2:=startV_in y m
 have h3:=lenV_in (y:=y) c e
 unfold dayV
 omega
theorem weekV_in (n:Int):0 ≤ weekV n∧weekV n ≤ 6:=by unfold weekV;omega
theorem floor_eq {a b:Int} (hb:0 < b):a / b = if a.tmod b ≠ 0∧a < 0 then a.tdiv b - 1 else a.tdiv b:=by
 have hs:b.sign = 1:=Int.sign_eq_one_of_pos hb
 rw [Int.tdiv_eq_ediv,hs]
 by_cases h0:a.tmod b = 0
 ·rw [if_neg (by omega),if_pos (Or.inr (Int.dvd_of_tmod_eq_zero h0))]
  omega
 ·have hd:¬ b ∣ a:=fun h=>h0 (Int.tmod_eq_zero_of_dvd h)
  by_cases ha:a < 0
  ·rw [if_pos ⟨h0,ha⟩,if_neg (by rintro (h | h);omega;exact hd h)]
   omega
  ·rw [if_neg (by omega),if_pos (Or.inl (by omega))]
   omega
theorem mod_eq {a b:Int} (hb:0 < b):a % b = if a.tmod b ≠ 0∧a.tmod b < 0 then a.tmod b + b else a.tmod b:=by
 have h2:=Int.tmod_eq_emod (a:=a) (b:=b)
 have h5:=Int.emod_nonneg a (show b ≠ 0 by omega)
 have h6:=Int.emod_lt_of_pos a hb
 have h7:=Int.lt_tmod_of_pos a hb
 by_cases h0:a.tmod b = 0
 ·rw [if_neg (by omega),h0]
  exact (tmod_zero a b).1 h0
 ·have hd:¬ b ∣ a:=fun h=>h0 (Int.tmod_eq_zero_of_dvd h)
  by_cases ha:0 ≤ a
  ·rw [if_pos (Or.inl ha)] at h2
   rw [if_neg (by omega)]
   omega
  ·rw [if_neg (by rintro (h | h);exact ha h;exact hd h)] at h2
   rw [if_pos (by omega)]
   omega
end
end Go.Proofs.YteekjfgjmccdnaaGreatDoor
