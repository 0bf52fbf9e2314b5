/-
  A region that draws its order, within a fence, whose round of the loop (the call of its yield) comes behind all that looks, and ahead of all that only reckons: each operation's value is known ahead.
-/
import Derived.Lib.MinMax
import Derived.Test.YteekjfgjmccdnaaGreatDoorZk9
set_option maxHeartbeats 16000000
set_option maxRecDepth 100000
namespace Go.Proofs.YteekjfgjmccdnaaGreatDoor
section -- HRefM
open Go Go.RowKit Go.Shelf
noncomputable def cutI (A:List Fir) (off s:Int):Nat:=@dite Nat (∃ k,Cut A (instA A off) s k) (Classical.propDecidable _) (fun h=>Classical.choose h) fun _=>0
theorem cutI_spec {l:List Rul} {A:List Fir} (h:RightR l A) {off:Int} (ho:-90000 < off∧off < 90000) (s:Int):Cut A (instA A off) s (cutI A off s):=by
 have hx:=h.icut ho s
 unfold cutI
 rw [dif_pos hx]
 exact Classical.choose_spec hx
theorem saves_wide {e:EraN} {ru:ByteArray} {l:List Rul} {A:List Fir} {i:Int} {k:Nat} (h:RightR l A) (ho:-90000 < e.off∧e.off < 90000) (h1:-3217862419200 ≤ i) (h2:i + 180001 ≤ capN) (hc:Cut A (instA A e.off) (i + 1) k):savesV e ru l i = rsavesV e ru A (letV l) k:=by
 unfold savesV rsavesV
 split
 ·rfl
 ·rw [latest_row h ho h1 h2 hc]
  cases prevO A k <;> rfl
theorem rsaves_small {l:List Rul} {A:List Fir} (h:RightR l A) {e:EraN} (hs:-90000 < e.save∧e.save < 90000) (ru letter:ByteArray) {k:Nat} (hk:k ≤ A.length):-90000 < (rsavesV e ru A letter k).1∧(rsavesV e ru A letter k).1 < 90000:=by
 unfold rsavesV
 split
 ·exact hs
 ·have hp:=h.prev hk
  cases ho:prevO A k with
  | none=>exact (by decide:(-90000:Int) < 0∧(0:Int) < 90000)
  | some f =>
    rw [ho] at hp
    exact hp
theorem prevO_mem {A:List Fir} {k:Nat} {f:Fir} (h:prevO A k = some f):f ∈ A:=by
 unfold prevO at h
 split at h
 ·cases h
 ·exact List.mem_of_getElem? h
theorem rsaves_let {l:List Rul} {A:List Fir} (h:RightR l A) (hl:letOk l) (e:EraN) (ru:ByteArray) (k:Nat):(rsavesV e ru A (letV l) k).2.size ≤ 140737488351232:=by
 unfold rsavesV
 split
 ·exact (by decide:(⟨#[]⟩:ByteArray).size ≤ 140737488351232)
 ·cases ho:prevO A k with
  | none=>exact letV_in hl
  | some f=>exact fires_let hl (h.fires (prevO_mem ho))
theorem showV_fine {f:ByteArray} {off:Int} {dst:Bool} {letter:ByteArray} (h:(kindR f.data.toList).2 = 0) (ho:-180000 < off∧off < 180000):(showV f off dst letter).2 = 0:=by
 rcases showV_err (off:=off) (dst:=dst) (letter:=letter) h with h3 | h3
 ·exact h3
 ·exfalso
  unfold showV at h3
  rw [if_pos h] at h3
  split at h3
  ·have h4:(0:Int) = 10:=congrArg Prod.snd h3
   omega
  ·split at h3
   ·rw [if_pos (by omega)] at h3
    have h4:(0:Int) = 10:=congrArg Prod.snd h3
    omega
   ·split at h3
    ·split at h3
     ·have h4:(0:Int) = 10:=congrArg Prod.snd h3
      omega
     ·have h4:(0:Int) = 10:=congrArg Prod.snd h3
      omega
    ·have h4:(0:Int) = 10:=congrArg Prod.snd h3
     omega
noncomputable def locR (x:EraF) (A:List Fir) (letter:ByteArray) (i:Int):Loc :=
 let p:=rsavesV x.n x.ru A letter (cutI A x.n.off (i + 1))
 ⟨x.n.off + p.1,dstB p.1,(showV x.fm (x.n.off + p.1) (dstB p.1) p.2).1⟩
theorem locR_eq {x:EraF} {R:List Rul} {A:List Fir} (h:RightR R A) (hk:(kindR x.fm.data.toList).2 = 0) (ho:-90000 < x.n.off∧x.n.off < 90000) (hs:-90000 < x.n.save∧x.n.save < 90000) {i:Int} (h1:-3217862419200 ≤ i) (h2:i + 180001 ≤ capN):locR x A (letV R) i = locW x R i:=by
 have hc:=cutI_spec h ho (i + 1)
 have e:=saves_wide (ru:=x.ru) (e:=x.n) h ho h1 h2 hc
 have hsm:=rsaves_small h hs x.ru (letV R) hc.1
 unfold locW
 rw [e]
 rw [if_pos (showV_fine hk (by omega))]
 rfl
noncomputable def refZ (S:List SetF) (l:List EraF) (R:List RowF) (i:Int):Loc:=locR (l.getD (eraI (endL S l) i) default) ((R.getD (eraI (endL S l) i) default).D.map FrI.f) (R.getD (eraI (endL S l) i) default).letter i
structure RowsZ (S:List SetF) (l:List EraF) (R:List RowF):Prop where
 len:R.length = l.length
 ok:∀ i (h:i < R.length) (h2:i < l.length),RowOk S l[i] R[i]
section
variable {S:List SetF} {l:List EraF} {R:List RowF}
theorem FewZ.kind (h:FewZ S l) {k:Nat} (hk:k < l.length):(kindR l[k].fm.data.toList).2 = 0:=by
 have her:=(errZ_zero h.err).2.2.1 k hk
 rw [errAt_eq hk] at her
 exact (errE_zero her).1
theorem FewZ.save (h:FewZ S l) {k:Nat} (hk:k < l.length):-90000 < l[k].n.save∧l[k].n.save < 90000:=(errZ_off h.err hk).2
theorem FewZ.in_ (h:FewZ S l) (i:Int):eraI (endL S l) i < l.length:=by
 have h1:=eraI_le (endL S l) i
 have h2:=length_endL S l
 have h3:=h.pos
 omega
theorem refZ_eq (h:FewZ S l) (hr:RowsZ S l R) {i:Int} (h1:-2199023255552 ≤ i) (h2:i ≤ 4200000000):refZ S l R i = locZ S l i:=by
 have hk:=h.in_ i
 have hx:=hr.ok (eraI (endL S l) i) (by rw [hr.len];exact hk) hk
 have e1:l.getD (eraI (endL S l) i) default = l[eraI (endL S l) i]:=by rw [List.getD_eq_getElem?_getD,List.getElem?_eq_getElem hk];rfl
 have e2:R.getD (eraI (endL S l) i) default = R[eraI (endL S l) i]'(by rw [hr.len];exact hk):=by rw [List.getD_eq_getElem?_getD,List.getElem?_eq_getElem (by rw [hr.len];exact hk)];rfl
 have hax:atX S l i = l[eraI (endL S l) i]:=by unfold atX;rw [e1]
 unfold refZ locZ
 rw [if_neg (fun e=>e h.err),if_neg (by omega),hax,e1,e2,hx.letter]
 exact locR_eq hx.right (h.kind hk) (h.off hk) (h.save hk) (by omega) (by unfold capN;omega)
noncomputable def outR (S:List SetF) (l:List EraF) (R:List RowF) (fr to:Int) (N:List Int):List Chg:=(N.filter fun i=>decide (fr < i) && (decide (i ≤ to) && !locE (refZ S l R i) (refZ S l R (i - 1)))).map fun i=>⟨i,refZ S l R i⟩
def AllN (S:List SetF) (l:List EraF) (R:List RowF) (N:List Int):Prop:=∀ i,i ∈ N ↔ i ∈ endL S l∨∃ k,∃ hk:k < R.length,∃ hk2:k < l.length,∃ j,j < R[k].D.length∧instA (R[k].D.map FrI.f) l[k].n.off j = i
theorem outR_rep (h:FewZ S l) (hr:RowsZ S l R) {N:List Int} (hN:RiseN N) (hA:AllN S l R N) {fr to:Int} (hfr:-2199023255552 ≤ fr) (hto:to ≤ 4200000000):Rep (locZ S l) fr to (outR S l R fr to N):=by
 have hmem:∀ i,i ∈ N.filter (fun i=>decide (fr < i) && (decide (i ≤ to) && !locE (refZ S l R i) (refZ S l R (i - 1)))) ↔ i ∈ N∧fr < i∧i ≤ to∧locZ S l i ≠ locZ S l (i - 1):=fun i=>by
  rw [List.mem_filter,Bool.and_eq_true,Bool.and_eq_true,decide_eq_true_eq,decide_eq_true_eq,Bool.not_eq_true']
  constructor
  ·rintro ⟨h1,h2,h3,h4⟩
   rw [refZ_eq h hr (by omega) (by omega),refZ_eq h hr (by omega) (by omega)] at h4
   exact ⟨h1,h2,h3,fun e=>by rw [locE_iff.2 e] at h4;cases h4⟩
  ·rintro ⟨h1,h2,h3,h4⟩
   refine ⟨h1,h2,h3,?_⟩
   rw [refZ_eq h hr (by omega) (by omega),refZ_eq h hr (by omega) (by omega)]
   cases he:locE (locZ S l i) (locZ S l (i - 1)) with
   | false=>rfl
   | true=>exact absurd (locE_iff.1 he) h4
 refine ⟨⟨?_,fun c hc=>?_,fun i h1 h2 ht=>?_⟩,fun c hc=>?_⟩
 ·unfold RiseC outR
  rw [List.pairwise_map]
  exact hN.filter _
 ·obtain ⟨i,hi,rfl⟩:=List.mem_map.1 hc
  have:=(hmem i).1 hi
  exact ⟨⟨this.2.1,this.2.2.1⟩,refZ_eq h hr (by omega) (by omega)⟩
 ·refine ⟨⟨i,refZ S l R i⟩,List.mem_map.2 ⟨i,(hmem i).2 ⟨(hA i).2 ?_,h1,h2,ht⟩,rfl⟩,rfl⟩
  rcases turn_at h (by omega) (by omega) ht with g | ⟨k,hk,g⟩
  ·exact .inl g
  ·have hkR:k < R.length:=by rw [hr.len];exact hk
   obtain ⟨j,hj,e⟩:=g _ (hr.ok k hkR hk).right
   rw [List.length_map] at hj
   exact .inr ⟨k,hkR,hk,j,hj,e⟩
 ·obtain ⟨i,hi,rfl⟩:=List.mem_map.1 hc
  exact ((hmem i).1 hi).2.2.2
theorem outR_eq (h:FewZ S l) (hr:RowsZ S l R) {N:List Int} (hN:RiseN N) (hA:AllN S l R N) {fr to:Int} (hfr:-2199023255552 ≤ fr) (hfr2:fr ≤ 4200000000) (hto:to ≤ 4200000000):outR S l R fr to N = changesL S l fr to:=by
 have h2:=changes_rep h hfr2 hto
 rw [show max fr (-2199023255552) = fr by omega] at h2
 exact (outR_rep h hr hN hA hfr hto).uniq h2
end
end
section -- EnvA
open Go Go.RowKit
section
variable {P:Program} {n:Nat} {ops:Array Oper}
def envAB (ops:Array Oper) (D:List Nat) (al st:Nat):Bool :=
 envSB ops D st && decide (al < ops.size) && decide (al ≠ st) && (match ops[st]? with | some o=>o.after.any fun e=>Region.binds .any e && e.on == al | none=>false)
def EnvAStep (P:Program) (ops:Array Oper) (fin:Value→Act) (w0:World) (t:TypeId) (zs cs:Array Value) (o:Oper) (v:Value):Bool→Bool→Prop
 | true,_=>(∀ p,Region.wanted o (yielded ops (fin p).tmps) = true)∧∀ p w,Below w0.heap.size w0 w→(execOp (fin p).eval o).run P w = .ok (.value (.pointer (some ⟨w.heap.size,0,none⟩))) (w.alloc (.cells zs t))
 | false,true=>(∀ p,Region.wanted o (yielded ops (fin p).tmps) = true)∧∀ b w,Blk w b t zs→∃ w',(execOp (fin (.pointer (some ⟨b,0,none⟩))).eval o).run P w = .ok .skip w'∧Fr (fun k=>k = b) w w'∧Blk w' b t cs
 | false,false=>∀ p,EnvStep P ops (fin p) w0 o v
def EnvASteps (P:Program) (ops:Array Oper) (fin:Value→Act) (w0:World) (t:TypeId) (zs cs:Array Value) (al st:Nat):Nat→List Oper→List Value→Prop
 | k,o :: l,v :: V=>EnvAStep P ops fin w0 t zs cs o v (k == al) (k == st)∧EnvASteps P ops fin w0 t zs cs al st (k + 1) l V
 | _,[],[]=>True
 | _,_,_=>False
theorem envASteps_at {fin:Value→Act} {w0:World} {t:TypeId} {zs cs:Array Value} {al st:Nat}:∀ {l:List Oper} {V:List Value} {k:Nat},EnvASteps P ops fin w0 t zs cs al st k l V→∀ {j:Nat} {o:Oper},l[j]? = some o→EnvAStep P ops fin w0 t zs cs o (V.getD j undef) (k + j == al) (k + j == st)
 | [],_,_,_,_,_,h=>by simp at h
 | _ :: _,[],_,hs,_,_,_=>hs.elim
 | x :: l,v :: V,k,hs,0,o,h=>by
   simp only [List.getElem?_cons_zero,Option.some.injEq] at h
   subst h
   exact hs.1
 | x :: l,v :: V,k,hs,j + 1,o,h=>by
   rw [List.getElem?_cons_succ] at h
   have:=envASteps_at hs.2 h
   rw [show k + 1 + j = k + (j + 1) by omega] at this
   simpa using this
theorem envASteps_len {fin:Value→Act} {w0:World} {t:TypeId} {zs cs:Array Value} {al st:Nat}:∀ {l:List Oper} {V:List Value} {k:Nat},EnvASteps P ops fin w0 t zs cs al st k l V→V.length = l.length
 | [],[],_,_=>rfl
 | [],_ :: _,_,h=>h.elim
 | _ :: _,[],_,h=>h.elim
 | _ :: l,_ :: V,_,h=>by simp [envASteps_len h.2]
theorem getD_setU {V:List Value} {al i:Nat} (p:Value) (h:al < V.length):(V.set al p).getD i undef = if al = i then p else V.getD i undef:=by
 rw [List.getD_eq_getElem?_getD,List.getElem?_set,List.getD_eq_getElem?_getD]
 split
 ·rename_i e
  subst e
  rfl
 ·rfl
def EnvAI (w:World) (D:List Nat) (V:List Value) (t:TypeId) (zs cs:Array Value) (al st:Nat) (L:Nat→Bool) (x:Nat→Value) (w':World):Prop :=
 Below w.heap.size w w'∧∃ p,(∀ i,i < D.length→L i = true→x (D.getD i 0) = (V.set al p).getD i undef)∧(L al = true→∃ b,p = .pointer (some ⟨b,0,none⟩)∧w.heap.size ≤ b∧Blk w' b t (if L st = true then cs else zs))∧(L al = false→L st = false)
theorem wpIn_envA {F:Fence} (hF:Wide F) {id:Nat} {l:List Oper} {Q:Exit→Act→World→Prop} {a:Act} {w:World} (hm:P.follows .mixedOrders = true) (D:List Nat) (V:List Value) (al st:Nat) (t:TypeId) (zs cs:Array Value)
  (hb:envAB l.toArray D al st = true) (hsz:a.tmps.size ≤ D.getD st 0) (hstD:st < D.length) {fin:Value→Act} (hfin:∀ p,putAll a D (V.set al p) = fin p)
  (hstep:EnvASteps P l.toArray fin w t zs cs al st 0 l V) (hend:∀ b w',Below w.heap.size w w'→w.heap.size ≤ b→Blk w' b t cs→Q .normal (fin (.pointer (some ⟨b,0,none⟩))) w'):(Code.region id l.toArray true).wpIn F n P Q a w:=by
 unfold envAB at hb
 simp only [Bool.and_eq_true,decide_eq_true_eq] at hb
 obtain ⟨⟨⟨hb,hal⟩,hne⟩,hedge⟩:=hb
 unfold envSB at hb
 rw [Bool.and_eq_true] at hb
 obtain ⟨hi,hb⟩:=hb
 have hi':=hi
 simp only [invB,Bool.and_eq_true,decide_eq_true_eq] at hi'
 obtain ⟨⟨-,hlen⟩,hnd⟩:=hi'
 have hV:V.length = D.length:=by rw [envASteps_len hstep,hlen];simp
 have halV:al < V.length:=by rw [hV,hlen];exact hal
 have hfinp:∀ p,frameOf a D (valOf D (V.set al p)) = fin p:=fun p=>by
  rw [← hfin]
  exact putAll_eq D _ a _ (by rw [List.length_set];exact hV) fun i hi=>by unfold valOf;rw [idxOf_getD hnd hi]
 refine wpIn_inv hm D (EnvAI w D V t zs cs al st) hi (fun x=>⟨(Below.refl _ _).drew,undef,(fun i _ h=>by cases h),(fun h=>by cases h),fun _=>rfl⟩) ?_ ?_
 ·have main:∀ (i:Nat) (o:Oper),l[i]? = some o→StepI F n P l.toArray a D (EnvAI w D V t zs cs al st) i o:=by
   intro k o hlk L x w1 R hI hsh hLk hr hR
   obtain ⟨hbw,p,hx,hblk,hord⟩:=hI
   have hkl:k < l.length:=(List.getElem?_eq_some_iff.1 hlk).1
   have ho:l.toArray[k]? = some o:=by simpa using hlk
   have hkD:k < D.length:=by rw [hlen];simpa using hkl
   have hst1:=envASteps_at hstep hlk
   rw [Nat.zero_add] at hst1
   have hb1:=List.all_eq_true.1 hb k (List.mem_range.2 (by simpa using hkl))
   rw [ho] at hb1
   simp only [Bool.and_eq_true] at hb1
   obtain ⟨⟨hop,hdst⟩,hlook⟩:=hb1
   have hndf:∀ c,o.op ≠ .defer c:=fun c hc=>by rw [hc] at hop;cases hop
   have hnsl:∀ cs b,o.op ≠ .select cs b:=fun c b hc=>by rw [hc] at hop;cases hop
   have hsame:∀ s,s ∈ o.looksAt l.toArray→(frameOf a D x).tmps[s]? = (fin p).tmps[s]?:=by
    intro s hs
    rw [← hfinp,frameOf_tmps,frameOf_tmps]
    by_cases hD:s ∈ D
    ·have:=List.all_eq_true.1 hlook s hs
     rw [Bool.or_eq_true] at this
     rcases this with h | h
     ·simp [hD] at h
     ·obtain ⟨j,hj,hj2⟩:=List.any_eq_true.1 h
      rw [Bool.and_eq_true] at hj2
      obtain ⟨hjs,hje⟩:=hj2
      have hjs:D.getD j 0 = s:=by simpa using hjs
      have hjk:=List.mem_range.1 hj
      have h1:=hx j (by omega) (hr j hje)
      rw [hjs] at h1
      have h2:x s = valOf D (V.set al p) s:=by
       have e:D.idxOf s = j:=by rw [← hjs];exact idxOf_getD hnd (by omega)
       unfold valOf
       rw [e]
       exact h1
      rw [h2]
    ·simp [hD]
   have hev:∀ y ∈ o.op.operands,(frameOf a D x).eval y = (fin p).eval y:=by
    intro y hy
    cases y with
    | tmp s =>
      have h1:=hsame s (List.mem_append_left _ (List.mem_filterMap.2 ⟨.tmp s,by simpa using hy,rfl⟩))
      show (frameOf a D x).tmps.getD s undef = (fin p).tmps.getD s undef
      simp only [Array.getD_eq_getD_getElem?,h1]
    | _=>rfl
   have hex:=execOp_congr (ρ:=(frameOf a D x).eval) (ρ':=(fin p).eval) o hnsl hev
   have hwa:Region.wanted o (yielded l.toArray (frameOf a D x).tmps) = Region.wanted o (yielded l.toArray (fin p).tmps):=by
    unfold Region.wanted
    cases hg:o.guard with
    | none=>rfl
    | some g =>
      obtain ⟨g,b⟩:=g
      dsimp only
      unfold yielded
      cases hd:(l.toArray[g]?).bind (·.dst) with
      | none=>rfl
      | some d =>
        have h1:=hsame d (List.mem_append_right _ (by rw [hg];show d ∈ ((l.toArray[g]?).bind (·.dst)).toList;rw [hd];simp))
        simp only [Option.bind_some,h1]
   have hmem:D.getD k 0 ∈ D:=by rw [List.getD_eq_getElem?_getD,List.getElem?_eq_getElem hkD];exact List.getElem_mem hkD
   have hslot:∀ i,i < D.length→i ≠ k→D.getD i 0 ≠ D.getD k 0:=fun i hiD hik e=>by
    rw [List.getD_eq_getElem?_getD,List.getD_eq_getElem?_getD,List.getElem?_eq_getElem hiD,List.getElem?_eq_getElem hkD] at e
    simp only [Option.getD_some] at e
    have hpw:=List.pairwise_iff_getElem.1 hnd
    rcases Nat.lt_or_ge i k with h | h
    ·exact hpw i k hiD hkD h e
    ·exact hpw k i hkD hiD (by omega) e.symm
   have hmore:∀ i,i ≠ k→more L k i = L i:=fun i hik=>by unfold more;rw [decide_eq_false hik];rfl
   have hmk:more L k k = true:=by unfold more;simp
   unfold wpListIn
   rw [hwa]
   by_cases hka:k = al
   ·subst hka
    rw [beq_self_eq_true] at hst1
    obtain ⟨h1,h2⟩:=hst1
    rw [if_pos (h1 p)]
    refine ⟨fun f _=>hF.fn f,?_⟩
    rw [Oper.semAt_plain F _ o hndf,hex,h2 p w1 hbw,Oper.uponIn_value]
    rw [if_neg hne] at hdst
    have hdst:o.dst = some (D.getD k 0):=by simpa using hdst
    rw [hdst,frameOf_put D x a _ hmem]
    have hLs:L st = false:=hord hLk
    refine hR _ _ ⟨hbw.alloc hbw.size _,.pointer (some ⟨w1.heap.size,0,none⟩),fun i hiD hm=>?_,fun _=>⟨_,rfl,hbw.size,?_⟩,fun h=>?_⟩
    ·rw [getD_setU _ halV]
     by_cases hik:i = k
     ·subst hik;rw [upd_same,if_pos rfl]
     ·rw [hmore i hik] at hm
      have h3:=hx i hiD hm
      rw [getD_setU _ halV,if_neg (fun e=>hik e.symm)] at h3
      rw [upd_other x _ (hslot i hiD hik),if_neg (fun e=>hik e.symm),h3]
    ·rw [hmore st (fun e=>hne e.symm),hLs,if_neg (by decide)]
     exact Blk.new w1 t zs
    ·rw [hmk] at h;cases h
   ·rw [show (k == al) = false by simpa using hka] at hst1
    have hma:more L k al = L al:=hmore al (fun e=>hka e.symm)
    by_cases hks:k = st
    ·subst hks
     rw [beq_self_eq_true] at hst1
     obtain ⟨h1,h2⟩:=hst1
     have hLa:L al = true:=by
      rw [ho] at hedge
      exact hr al hedge
     obtain ⟨b,rfl,hbb,hB⟩:=hblk hLa
     rw [hLk,if_neg (by decide)] at hB
     rw [if_pos (h1 _)]
     refine ⟨fun f _=>hF.fn f,?_⟩
     obtain ⟨w',hrun,hfr,hB'⟩:=h2 b w1 hB
     rw [Oper.semAt_plain F _ o hndf,hex,hrun]
     rw [if_pos rfl] at hdst
     have hdn:o.dst = none:=by simpa using hdst
     rw [Oper.uponIn_skip,hdn]
     have e:(frameOf a D x).put none undef = frameOf a D (upd x (D.getD k 0) (V.getD k undef)):=by
      show frameOf a D x = _
      have h1:(frameOf a D x).tmps = (frameOf a D (upd x (D.getD k 0) (V.getD k undef))).tmps:=by
       apply Array.ext_getElem?
       intro s
       rw [frameOf_tmps,frameOf_tmps]
       by_cases hs:s < a.tmps.size
       ·rw [upd_other x _ (show s ≠ D.getD k 0 by omega)]
       ·simp [hs]
      have h2:(frameOf a D x).defers = (frameOf a D (upd x (D.getD k 0) (V.getD k undef))).defers:=by rw [frameOf_defers,frameOf_defers]
      generalize frameOf a D x = p1 at h1 h2
      generalize frameOf a D (upd x (D.getD k 0) (V.getD k undef)) = q1 at h1 h2
      cases p1
      cases q1
      simp only at h1 h2
      subst h1 h2
      rfl
     rw [e]
     refine hR _ _ ⟨hbw.trans (hfr.below hbw.size (fun j hj e=>by omega)),.pointer (some ⟨b,0,none⟩),fun i hiD hm=>?_,fun _=>⟨b,rfl,hbb,?_⟩,fun h=>?_⟩
     ·by_cases hik:i = k
      ·subst hik;rw [upd_same,getD_setU _ halV,if_neg (fun e=>hka e.symm)]
      ·rw [hmore i hik] at hm
       rw [upd_other x _ (hslot i hiD hik)]
       exact hx i hiD hm
     ·rw [hmk,if_pos rfl];exact hB'
     ·rw [hma,hLa] at h;cases h
    ·rw [show (k == st) = false by simpa using hks] at hst1
     have hms:more L k st = L st:=hmore st (fun e=>hks e.symm)
     rw [if_neg hks] at hdst
     have hdst:o.dst = some (D.getD k 0):=by simpa using hdst
     have hput:∀ v,(frameOf a D x).put o.dst v = frameOf a D (upd x (D.getD k 0) v):=fun v=>by
      rw [hdst]
      exact frameOf_put D x a _ hmem v
     have hvk:(V.set al p).getD k undef = V.getD k undef:=by rw [getD_setU _ halV,if_neg (fun e=>hka e.symm)]
     have hnew:∀ w',Below w1.heap.size w1 w'→EnvAI w D V t zs cs al st (more L k) (upd x (D.getD k 0) (V.getD k undef)) w':=fun w' hb'=>by
      refine ⟨hbw.trans (hb'.mono hbw.size),p,fun i hiD hm=>?_,fun h=>?_,fun h=>?_⟩
      ·by_cases hik:i = k
       ·subst hik;rw [upd_same,hvk]
       ·rw [hmore i hik] at hm
        rw [upd_other x _ (hslot i hiD hik)]
        exact hx i hiD hm
      ·rw [hma] at h
       obtain ⟨b,hp,hbb,hB⟩:=hblk h
       refine ⟨b,hp,hbb,?_⟩
       rw [hms]
       exact hB.below hb' hB.lt
      ·rw [hma] at h;rw [hms];exact hord h
     rcases hst1 p with ⟨h1,h2⟩ | ⟨h1,h2⟩
     ·rw [if_neg (by rw [h1];simp)]
      refine ⟨fun f _=>hF.fn f,?_⟩
      rw [hput,← h2]
      exact hR _ _ (hnew w1 (Below.refl _ _))
     ·rw [if_pos h1]
      refine ⟨fun f _=>hF.fn f,?_⟩
      rw [Oper.semAt_plain F _ o hndf,hex]
      have h3:=h2 w1 hbw
      generalize (execOp (fin p).eval o).run P w1 = r at h3
      cases r with
      | halt hh w'=>exact h3.elim
      | ok nx w' =>
        cases nx with
        | value u =>
          obtain ⟨rfl,hb'⟩:=h3
          rw [Oper.uponIn_value,hput]
          exact hR _ _ (hnew w' hb')
        | enter f args =>
          obtain ⟨rfl,hc⟩:=h3
          rw [Oper.uponIn_enter]
          refine ⟨(fun h=>by rw [hF.depth] at h;cases h),(hF.calls hc).mono ?_⟩
          rintro e w'' ⟨rfl,hb'⟩
          show wpListIn F n P l.toArray _ [] ((frameOf a D x).put o.dst (V.getD k undef)) w''
          rw [hput]
          exact hR _ _ (hnew w'' hb')
        | _=>exact h3.elim
  have all:∀ (m:List Oper) (k:Nat),(∀ j,m[j]? = l[k + j]?)→StepsI F n P l.toArray a D (EnvAI w D V t zs cs al st) k m:=by
   intro m
   induction m with
   | nil=>intro k _;trivial
   | cons o m ih =>
     intro k hk
     exact ⟨main k o (by simpa using (hk 0).symm),ih (k + 1) fun j=>by have:=hk (j + 1);simpa [Nat.add_assoc,Nat.add_comm 1 j] using this⟩
  exact all l 0 fun j=>by simp
 ·rintro x w' L hL ⟨h1,p,h2,h3,-⟩
  obtain ⟨b,rfl,hbb,hB⟩:=h3 (hL al (by simpa using hal))
  rw [hL st (by omega),if_pos rfl] at hB
  have e:frameOf a D x = fin (.pointer (some ⟨b,0,none⟩)):=by
   rw [← hfinp]
   refine frameOf_congr D _ _ a fun s hs=>?_
   obtain ⟨j,hj,rfl⟩:=List.getElem_of_mem hs
   have h4:=h2 j hj (hL j (by omega))
   rw [List.getD_eq_getElem?_getD,List.getElem?_eq_getElem hj] at h4
   have h4:x D[j] = (V.set al (.pointer (some ⟨b,0,none⟩))).getD j undef:=h4
   unfold valOf
   rw [List.Nodup.idxOf_getElem hnd j hj]
   exact h4
  rw [e]
  exact hend b w' h1 hbb hB
theorem wp_envA {id:Nat} {l:List Oper} {Q:Exit→Act→World→Prop} {a:Act} {w:World} (hm:P.follows .mixedOrders = true) (D:List Nat) (V:List Value) (al st:Nat) (t:TypeId) (zs cs:Array Value)
  (hb:envAB l.toArray D al st = true) (hsz:a.tmps.size ≤ D.getD st 0) (hstD:st < D.length) {fin:Value→Act} (hfin:∀ p,putAll a D (V.set al p) = fin p)
  (hstep:EnvASteps P l.toArray fin w t zs cs al st 0 l V) (hend:∀ b w',Below w.heap.size w w'→w.heap.size ≤ b→Blk w' b t cs→Q .normal (fin (.pointer (some ⟨b,0,none⟩))) w'):(Code.region id l.toArray true).wp P Q a w :=
 (wpIn_wide (n:=8)).1 (wpIn_envA wide0 hm D V al st t zs cs hb hsz hstD hfin hstep hend)
end
end
section -- HRat
open Go Go.RowKit Go.Shelf
def RowsB (W:World) (B:Nat) (u:Value) (R:List RowF):Prop:=Sl W B 2 u R.length (R.flatMap RowF.cells)∧∀ r ∈ R,Fris W B r.v r.D
theorem RowsM.toB {W:World} {u:Value} {R:List RowF} (h:RowsM W u R):RowsB W W.heap.size u R:=⟨h.1,fun r hr=>(h.2 r hr).1⟩
theorem RowsB.below {W W':World} {B:Nat} {u:Value} {R:List RowF} (h:RowsB W B u R) (hb:Below B W W'):RowsB W' B u R:=⟨h.1.below hb,fun r hr=>(h.2 r hr).below hb⟩
theorem RowsB.form {W:World} {B:Nat} {u:Value} {R:List RowF} (h:RowsB W B u R):∃ A c,u = .slice A R.length c∧R.length ≤ c∧c ≤ maxLen:=by
 obtain ⟨A,c,e,h1,h2,-⟩:=h.1
 exact ⟨A,c,e,h1,h2⟩
theorem RowsB.cells {W:World} {B:Nat} {u:Value} {R:List RowF} (h:RowsB W B u R) (hl:0 < R.length):∃ b o c,u = .slice (some ⟨b,o,none⟩) R.length c∧b < B∧∀ i (hi:i < R.length),W.cell? ⟨b,o + i * 2,none⟩ = some R[i].v∧W.cell? ⟨b,o + i * 2 + 1,none⟩ = some (.string R[i].letter):=by
 obtain ⟨b,o,c,e,hb,hc⟩:=h.1.at_ hl
 refine ⟨b,o,c,e,hb,fun i hi=>?_⟩
 have hlen:∀ L:List RowF,(L.flatMap RowF.cells).length = L.length * 2:=fun L=>by
  induction L with
  | nil=>rfl
  | cons x L ih=>rw [List.flatMap_cons,List.length_append,ih,List.length_cons];simp [RowF.cells];omega
 have hk:∀ k,k < 2→(R.flatMap RowF.cells)[i * 2 + k]? = (R[i].cells)[k]?:=fun k hk=>by
  conv=>lhs;rw [← List.take_append_drop i R,List.drop_eq_getElem_cons hi,List.flatMap_append,List.flatMap_cons]
  rw [List.getElem?_append_right (by rw [hlen,List.length_take];omega),hlen,List.length_take,Nat.min_eq_left (by omega),Nat.add_sub_cancel_left,List.getElem?_append_left (by simp [RowF.cells];omega)]
 exact ⟨hc _ _ (by have:=hk 0 (by omega);rw [Nat.add_zero] at this;rw [this];rfl),by have:=hc (i * 2 + 1) _ (by rw [hk 1 (by omega)];rfl);rwa [← Nat.add_assoc] at this⟩
theorem rat_any (w:World) (zn:ByteArray) (ev u v:Value) (B:Nat) (l:List EraF) (S:List SetF) (R:List RowF) (i:Int) (he:ErasR w B ev l) (hR:RowsB w B u R) (hE:Nums w B v (endL S l)) (hB:B ≤ w.heap.size) (hf:FewZ S l) (hr:RowsZ S l R) (hlet:∀ s ∈ S,letOk s.l) :
  Calls Tryz.prog 33 #[zoneA zn ev,u,v,.int .i64 i] w fun o w'=>o = .returned (locA (refZ S l R i))∧Below w.heap.size w w':=by
 obtain ⟨A,cA,rfl,hlc,hcm⟩:=he.form
 obtain ⟨A2,cR,rfl,hlc2,hcm2⟩:=hR.form
 obtain ⟨EL,hEL⟩:∃ E,endL S l = E:=⟨_,rfl⟩
 have HELEN:=Lib.hid (show EL.length + 1 = l.length by rw [← hEL,length_endL];have:=hf.pos;omega)
 rw [hEL] at hE
 obtain ⟨A3,cE,rfl,hlc3,hcm3⟩:=hE.form
 unfold maxLen at hcm hcm2 hcm3
 have HEL:=Lib.hid hEL
 have hxx:=Blk.new w 24 #[.string zn,.slice A l.length cA]
 obtain ⟨W0,hW0⟩:∃ W,((w.alloc (.cells #[.string zn,.slice A l.length cA] 24)).alloc (.cells #[.int .i64 0,.bool false,.string ⟨#[]⟩] 48)) = W:=⟨_,rfl⟩
 have HB0:=Lib.hid (show Below w.heap.size w W0 by rw [← hW0];exact ((Below.refl w.heap.size w).alloc (Nat.le_refl _) _).alloc (by simp) _)
 have HXX:=Lib.hid (show Blk W0 w.heap.size 24 #[.string zn,.slice A l.length cA] by rw [← hW0];exact hxx.alloc _)
 have HRR:=Lib.hid (show Blk W0 (w.heap.size + 1) 48 #[.int .i64 0,.bool false,.string ⟨#[]⟩] by
  rw [← hW0]
  have h:=Blk.new (w.alloc (.cells #[.string zn,.slice A l.length cA] 24)) 48 #[.int .i64 0,.bool false,.string ⟨#[]⟩]
  simpa only [World.size_alloc] using h)
 have HE0:=Lib.hid he
 have HRB:=Lib.hid hR
 have HNE:=Lib.hid hE
 have HF:=Lib.hid hf
 have HRZ:=Lib.hid hr
 have HLET:=Lib.hid hlet
 have HW0:=Lib.hid hW0
 clear he hR hE hf hr hlet hxx hEL hW0
 unfold zoneA
 go_enter Tryz.func33,Tryz.ntmps33
 go_wp2_with fail
 rw [HW0.out]
 try simp only [HW0.out]
 clear HW0
 go_loopw [9] (fun iv wr=>∃ m:Nat,m ≤ EL.length∧iv = .int .i64 m∧(∀ j (h:j < EL.length),j < m→EL[j] ≤ i)∧Below W0.heap.size W0 wr) (fun iv _=>EL.length - (intOf iv).toNat)
 case atStart=>exact ⟨0,Nat.zero_le _,rfl,fun j _ h=>absurd h (by omega),Below.refl _ _⟩
 case round =>
  obtain ⟨m,hm,rfl,hno,hbq⟩:=hrel
  have HNO:=Lib.hid hno
  have HBL:=Lib.hid hbq
  have HBQ:=Lib.hid (HB0.out.trans (hbq.mono HB0.out.size))
  have hwsq:=hbq.size
  clear hno hbq
  by_cases hlt2:m < EL.length
  ·have hd3:decide ((m:Int) < (EL.length:Int)) = true:=decide_eq_true (by omega)
   obtain ⟨b4,o4,c4',e,hb4,hc4⟩:=(Nums.below HNE.out (HBQ.out.mono hB)).cells (by omega)
   cases e
   have e4:=hc4 m hlt2
   have hb4q:b4 < wr.heap.size:=by have:=HBQ.out.size;omega
   obtain ⟨n,hn⟩:∃ n:Int,EL[m]'hlt2 = n:=⟨_,rfl⟩
   rw [hn] at e4
   have HNN:=Lib.hid (fun (_:m < EL.length)=>hn)
   clear hc4 hn
   by_cases hle:n ≤ i
   ·have hdl2:decide (n ≤ i) = true:=decide_eq_true hle
    have HLE:=Lib.hid hle
    clear hle
    go_wp2_with fail
    go_roundw
    case rel =>
     refine ⟨m + 1,by omega,by go_num,fun j h hjm=>?_,HBL.out⟩
     rcases Nat.lt_or_ge j m with g | g
     ·exact HNO.out j h g
     ·obtain rfl:j = m:=by omega
      rw [HNN.out h];exact HLE.out
    case measure=>first | (simp [intOf];done) | (simp [intOf];omega)
   ·have hdl2:decide (n ≤ i) = false:=decide_eq_false hle
    have HKI:=Lib.hid (show eraI (endL S l) i = m by rw [HEL.out];exact eraI_loop (by omega) HNO.out (fun h=>by rw [HNN.out h];exact hle))
    clear hle
    have hml:m < l.length:=by have:=HELEN.out;omega
    have hmR:m < R.length:=by rw [HRZ.out.len];exact hml
    have hok:=HRZ.out.ok m hmR hml
    have hrm:Fris w B R[m].v R[m].D:=HRB.out.2 _ (List.getElem_mem hmR)
    have hfx:=(fewB_iff.1 HF.out.few).1 _ (List.getElem_mem hml)
    have hof:=HF.out.off hml
    have hsv:=HF.out.save hml
    have hcut:=cutI_spec hok.right hof (i + 1)
    have hrf:refZ S l R i = locR l[m] (R[m].D.map FrI.f) R[m].letter i:=by
     unfold refZ
     rw [HKI.out,List.getD_eq_getElem?_getD,List.getElem?_eq_getElem hml,List.getD_eq_getElem?_getD,List.getElem?_eq_getElem hmR]
     rfl
    have hsm:=rsaves_small hok.right hsv l[m].ru R[m].letter hcut.1
    have hlt:=rsaves_let hok.right (ZOk.ruleL HLET.out l[m]) l[m].n l[m].ru (cutI (R[m].D.map FrI.f) l[m].n.off (i + 1))
    rw [← hok.letter] at hlt
    obtain ⟨bb,o,c',e,hbb,hc⟩:=((HE0.out.below (HBQ.out.mono hB))).cells (by omega)
    cases e
    have hx:=hc m hml
    obtain ⟨br,orr,cr',e,hbr,hcr⟩:=(HRB.out.below (HBQ.out.mono hB)).cells (by omega)
    cases e
    obtain ⟨rc0,rc1⟩:=hcr m hmR
    obtain ⟨x,hxk⟩:∃ x,l[m] = x:=⟨_,rfl⟩
    obtain ⟨r,hrk⟩:∃ r,R[m] = r:=⟨_,rfl⟩
    rw [hxk] at hx hok hfx hof hsv hcut hrf hsm hlt
    rw [hrk] at rc0 rc1 hok hrm hcut hrf hsm hlt
    have hsz:=HBQ.out.size
    have HRW:=Lib.hid (fun (W:World) (h:Below w.heap.size w W)=>rwithin_any W x.n x.ru x.fm x.en B r.v r.D r.letter (hrm.below (h.mono hB)) (Nat.le_trans hB h.size) hok.len hok.bd i _ (fun _=>hcut) (by have:=eraFew_fm hfx;omega) (by omega) ⟨by omega,hlt⟩)
    unfold locR at hrf
    obtain ⟨⟨sv,lt⟩,hsl⟩:∃ q,rsavesV x.n x.ru (r.D.map FrI.f) r.letter (cutI (r.D.map FrI.f) x.n.off (i + 1)) = q:=⟨_,rfl⟩
    rw [hsl] at hrf HRW
    obtain ⟨⟨s,e'⟩,hsh⟩:∃ q,showV x.fm (x.n.off + sv) (dstB sv) lt = q:=⟨_,rfl⟩
    simp only at hrf HRW
    rw [hsh] at hrf HRW
    obtain ⟨yb,hyb⟩:∃ yb,decide (e' = 0) = yb:=⟨_,rfl⟩
    simp only at hrf HRW
    rw [hyb] at HRW
    have HRF:=Lib.hid hrf
    obtain ⟨A9,c9,hv9,-,-⟩:=hrm.form
    rw [hv9] at HRW rc0
    unfold eraA at HRW
    obtain ⟨po,hpo⟩:∃ y,x.n.off + sv = y:=⟨_,rfl⟩
    obtain ⟨pd,hpd⟩:∃ y,dstB sv = y:=⟨_,rfl⟩
    rw [hpo,hpd] at HRW HRF
    have hbbq:bb < wr.heap.size:=by omega
    have hbrq:br < wr.heap.size:=by omega
    obtain ⟨c0,c1,c2,c3,c4_,c5_,c6_,c7,c8,c9_,c10,c11⟩:=hx
    have HCC:=Lib.hid (fun (W:World) (h:Below wr.heap.size wr W)=>show EraCc W bb (o + m * 12) x from ⟨(h.cell (p:=⟨bb,o + m * 12,none⟩) hbbq).trans c0,(h.cell (p:=⟨bb,o + m * 12 + 1,none⟩) hbbq).trans c1,(h.cell (p:=⟨bb,o + m * 12 + 2,none⟩) hbbq).trans c2,(h.cell (p:=⟨bb,o + m * 12 + 3,none⟩) hbbq).trans c3,(h.cell (p:=⟨bb,o + m * 12 + 4,none⟩) hbbq).trans c4_,(h.cell (p:=⟨bb,o + m * 12 + 5,none⟩) hbbq).trans c5_,(h.cell (p:=⟨bb,o + m * 12 + 6,none⟩) hbbq).trans c6_,(h.cell (p:=⟨bb,o + m * 12 + 7,none⟩) hbbq).trans c7,(h.cell (p:=⟨bb,o + m * 12 + 8,none⟩) hbbq).trans c8,(h.cell (p:=⟨bb,o + m * 12 + 9,none⟩) hbbq).trans c9_,(h.cell (p:=⟨bb,o + m * 12 + 10,none⟩) hbbq).trans c10,(h.cell (p:=⟨bb,o + m * 12 + 11,none⟩) hbbq).trans c11⟩)
    have HRC:=Lib.hid (fun (W:World) (h:Below wr.heap.size wr W)=>And.intro ((h.cell (p:=⟨br,orr + m * 2,none⟩) hbrq).trans rc0) ((h.cell (p:=⟨br,orr + m * 2 + 1,none⟩) hbrq).trans rc1))
    have hmcl:(m:Int) < (l.length:Int):=by omega
    have hmcR:(m:Int) < (R.length:Int):=by omega
    have hdl:decide (m < l.length) = true:=decide_eq_true hml
    have hdR:decide (m < R.length) = true:=decide_eq_true hmR
    clear hok hrm hfx hof hsv hcut hrf hsm hlt hc hcr hxk hrk hsl hsh hyb hv9 hpo hpd c0 c1 c2 c3 c4_ c5_ c6_ c7 c8 c9_ c10 c11 rc0 rc1
    go_wp2_with fail
    refine wp_envA (fin:=?fnza) (by kernel_rfl) [27,28,29,30,31,32,33,34,35,36,37,26,38,39,10,999,11]
     [.pointer (some ⟨w.heap.size,1,none⟩),.slice (some ⟨bb,o,none⟩) l.length cA,.int .i64 m,.pointer (some ⟨bb,o + m * 12,none⟩),.agg #[.int .i64 x.n.off,.string x.ru,.int .i64 x.n.save,.string x.fm,.bool x.en,.int .i64 x.n.year,.int .i64 x.n.month,.int .i64 x.n.dk,.int .i64 x.n.dw,.int .i64 x.n.dn,.int .i64 x.n.sec,.int .i64 x.n.ak],.slice (some ⟨br,orr,none⟩) R.length cR,.int .i64 m,.pointer (some ⟨br,orr + m * 2,none⟩),.agg #[.slice A9 r.D.length c9,.string r.letter],.int .i64 i,.tuple #[.agg #[.int .i64 po,.bool pd,.string s],.bool yb],.tuple #[.agg #[.int .i64 po,.bool pd,.string s],.bool yb],.agg #[.int .i64 po,.bool pd,.string s],.bool yb,undef,undef,.bool yb] 14 15 48 #[.int .i64 0,.bool false,.string ⟨#[]⟩] #[.int .i64 po,.bool pd,.string s] (by kernel_rfl) (by simp) (by decide) ?finza ?stepsza ?nextza
    case finza =>
     intro p_
     simp only [List.set_cons_succ,List.set_cons_zero,putAll,Act.put,List.setIfInBounds_toArray,List.set_nil]
     rfl
    case stepsza =>
     refine ⟨?_,?_,?_,?_,?_,?_,?_,?_,?_,?_,?_,?_,?_,?_,?alza,?stza,?_,trivial⟩
     case alza =>
      refine ⟨fun p_=>by kernel_rfl,fun p_ w1_ hB_=>?_⟩
      first | rfl | (go_simp;done) | (go_simp;rfl)
     case stza =>
      refine ⟨fun p_=>by kernel_rfl,fun b_ w1_ hb_=>⟨(((w1_.setCell ⟨b_,0,none⟩ (.int .i64 po)).setCell ⟨b_,1,none⟩ (.bool pd)).setCell ⟨b_,2,none⟩ (.string s)),?_,((Fr.setCell (T:=fun k=>k = b_) w1_ 0 (.int .i64 po) rfl).then (Fr.setCell _ 1 _ rfl)).then (Fr.setCell _ 2 _ rfl),(((hb_.set 0 (.int .i64 po)).set 1 (.bool pd)).set 2 (.string s))⟩⟩
      have f0_:=Blk.frozen hb_ 0
      have f1_:=Blk.frozen hb_ 1
      have f2_:=Blk.frozen hb_ 2
      have z0_:=Blk.cell hb_ 0 (v:=.int .i64 0) rfl
      have z1_:=Blk.cell hb_ 1 (v:=.bool false) rfl
      have z2_:=Blk.cell hb_ 2 (v:=.string ⟨#[]⟩) rfl
      go_simp
      try rfl
     all_goals
      intro p_
      refine .inr ⟨by kernel_rfl,fun w1_ hB_=>?_⟩
      have hBq_:=hB_
      have hB6_:=HBQ.out.trans (hBq_.mono HBQ.out.size)
      have hxb_:=HXX.out.below (HBL.out.trans (hBq_.mono HBL.out.size)) HXX.out.lt
      have x0_:=hxb_.cell 0 (v:=.string zn) rfl
      have x1_:=hxb_.cell 1 (v:=.slice (some ⟨bb,o,none⟩) l.length cA) rfl
      obtain ⟨c0_,c1_,c2_,c3_,c4_,c5_,c6_,c7_,c8_,c9_,c10_,c11_⟩:=HCC.out _ hBq_
      obtain ⟨rc0_,rc1_⟩:=HRC.out _ hBq_
      go_simp
      first
       | exact ⟨rfl,Below.refl _ _⟩
       | exact ⟨rfl,HRW.out _ hB6_⟩
       | ((first | rw [decide_eq_true (by omega)] | rw [decide_eq_false (by omega)] | rw [if_pos (by omega)] | rw [IntWalk.i64_in _ (by omega)]);exact ⟨rfl,Below.refl _ _⟩)
       | done
    case nextza =>
    intro xc w10 hb10 hxc hX10
    have HB10:=Lib.hid hb10
    have HB11:=Lib.hid (HBQ.out.trans (HB10.out.mono HBQ.out.size))
    have hr10:=HRR.out.below (HBL.out.trans (HB10.out.mono HBL.out.size)) HRR.out.lt
    have HR10:=Lib.hid hr10
    have hx0:=hX10.cell 0 (v:=.int .i64 po) rfl
    have hx1:=hX10.cell 1 (v:=.bool pd) rfl
    have hx2:=hX10.cell 2 (v:=.string s) rfl
    have f0:=hr10.frozen 0
    have f1:=hr10.frozen 1
    have f2:=hr10.frozen 2
    have z0:=hr10.cell 0 (v:=.int .i64 0) rfl
    have z1:=hr10.cell 1 (v:=.bool false) rfl
    have z2:=hr10.cell 2 (v:=.string ⟨#[]⟩) rfl
    have hxl:=hX10.lt
    have hrl:=hr10.lt
    clear hb10 hxc hr10 hX10
    go_wp2_with fail
    have HZ:=Lib.hid (((HR10.out.set 0 (.int .i64 po)).set 1 (.bool pd)).set 2 (.string s))
    have q0:=HZ.out.cell 0 (v:=.int .i64 po) rfl
    have q1:=HZ.out.cell 1 (v:=.bool pd) rfl
    have q2:=HZ.out.cell 2 (v:=.string s) rfl
    refine bodyPost_ret (v:=.agg #[.int .i64 po,.bool pd,.string s]) ?_ rfl ⟨by rw [HRF.out];rfl,below_set3 HB11.out (by omega) _ _ _⟩
    simp [results,Tryz.f33,go_sem,q0,q1,q2]
  ·have hd3:decide ((m:Int) < (EL.length:Int)) = false:=decide_eq_false (by omega)
   have HKI:=Lib.hid (show eraI (endL S l) i = m by rw [HEL.out];exact eraI_loop (by omega) HNO.out (fun h=>absurd h (by omega)))
   have hml:m < l.length:=by have:=HELEN.out;omega
   have hmR:m < R.length:=by rw [HRZ.out.len];exact hml
   have hok:=HRZ.out.ok m hmR hml
   have hrm:Fris w B R[m].v R[m].D:=HRB.out.2 _ (List.getElem_mem hmR)
   have hfx:=(fewB_iff.1 HF.out.few).1 _ (List.getElem_mem hml)
   have hof:=HF.out.off hml
   have hsv:=HF.out.save hml
   have hcut:=cutI_spec hok.right hof (i + 1)
   have hrf:refZ S l R i = locR l[m] (R[m].D.map FrI.f) R[m].letter i:=by
    unfold refZ
    rw [HKI.out,List.getD_eq_getElem?_getD,List.getElem?_eq_getElem hml,List.getD_eq_getElem?_getD,List.getElem?_eq_getElem hmR]
    rfl
   have hsm:=rsaves_small hok.right hsv l[m].ru R[m].letter hcut.1
   have hlt:=rsaves_let hok.right (ZOk.ruleL HLET.out l[m]) l[m].n l[m].ru (cutI (R[m].D.map FrI.f) l[m].n.off (i + 1))
   rw [← hok.letter] at hlt
   obtain ⟨bb,o,c',e,hbb,hc⟩:=((HE0.out.below (HBQ.out.mono hB))).cells (by omega)
   cases e
   have hx:=hc m hml
   obtain ⟨br,orr,cr',e,hbr,hcr⟩:=(HRB.out.below (HBQ.out.mono hB)).cells (by omega)
   cases e
   obtain ⟨rc0,rc1⟩:=hcr m hmR
   obtain ⟨x,hxk⟩:∃ x,l[m] = x:=⟨_,rfl⟩
   obtain ⟨r,hrk⟩:∃ r,R[m] = r:=⟨_,rfl⟩
   rw [hxk] at hx hok hfx hof hsv hcut hrf hsm hlt
   rw [hrk] at rc0 rc1 hok hrm hcut hrf hsm hlt
   have hsz:=HBQ.out.size
   have HRW:=Lib.hid (fun (W:World) (h:Below w.heap.size w W)=>rwithin_any W x.n x.ru x.fm x.en B r.v r.D r.letter (hrm.below (h.mono hB)) (Nat.le_trans hB h.size) hok.len hok.bd i _ (fun _=>hcut) (by have:=eraFew_fm hfx;omega) (by omega) ⟨by omega,hlt⟩)
   unfold locR at hrf
   obtain ⟨⟨sv,lt⟩,hsl⟩:∃ q,rsavesV x.n x.ru (r.D.map FrI.f) r.letter (cutI (r.D.map FrI.f) x.n.off (i + 1)) = q:=⟨_,rfl⟩
   rw [hsl] at hrf HRW
   obtain ⟨⟨s,e'⟩,hsh⟩:∃ q,showV x.fm (x.n.off + sv) (dstB sv) lt = q:=⟨_,rfl⟩
   simp only at hrf HRW
   rw [hsh] at hrf HRW
   obtain ⟨yb,hyb⟩:∃ yb,decide (e' = 0) = yb:=⟨_,rfl⟩
   simp only at hrf HRW
   rw [hyb] at HRW
   have HRF:=Lib.hid hrf
   obtain ⟨A9,c9,hv9,-,-⟩:=hrm.form
   rw [hv9] at HRW rc0
   unfold eraA at HRW
   obtain ⟨po,hpo⟩:∃ y,x.n.off + sv = y:=⟨_,rfl⟩
   obtain ⟨pd,hpd⟩:∃ y,dstB sv = y:=⟨_,rfl⟩
   rw [hpo,hpd] at HRW HRF
   have hbbq:bb < wr.heap.size:=by omega
   have hbrq:br < wr.heap.size:=by omega
   obtain ⟨c0,c1,c2,c3,c4_,c5_,c6_,c7,c8,c9_,c10,c11⟩:=hx
   have HCC:=Lib.hid (fun (W:World) (h:Below wr.heap.size wr W)=>show EraCc W bb (o + m * 12) x from ⟨(h.cell (p:=⟨bb,o + m * 12,none⟩) hbbq).trans c0,(h.cell (p:=⟨bb,o + m * 12 + 1,none⟩) hbbq).trans c1,(h.cell (p:=⟨bb,o + m * 12 + 2,none⟩) hbbq).trans c2,(h.cell (p:=⟨bb,o + m * 12 + 3,none⟩) hbbq).trans c3,(h.cell (p:=⟨bb,o + m * 12 + 4,none⟩) hbbq).trans c4_,(h.cell (p:=⟨bb,o + m * 12 + 5,none⟩) hbbq).trans c5_,(h.cell (p:=⟨bb,o + m * 12 + 6,none⟩) hbbq).trans c6_,(h.cell (p:=⟨bb,o + m * 12 + 7,none⟩) hbbq).trans c7,(h.cell (p:=⟨bb,o + m * 12 + 8,none⟩) hbbq).trans c8,(h.cell (p:=⟨bb,o + m * 12 + 9,none⟩) hbbq).trans c9_,(h.cell (p:=⟨bb,o + m * 12 + 10,none⟩) hbbq).trans c10,(h.cell (p:=⟨bb,o + m * 12 + 11,none⟩) hbbq).trans c11⟩)
   have HRC:=Lib.hid (fun (W:World) (h:Below wr.heap.size wr W)=>And.intro ((h.cell (p:=⟨br,orr + m * 2,none⟩) hbrq).trans rc0) ((h.cell (p:=⟨br,orr + m * 2 + 1,none⟩) hbrq).trans rc1))
   have hmcl:(m:Int) < (l.length:Int):=by omega
   have hmcR:(m:Int) < (R.length:Int):=by omega
   have hdl:decide (m < l.length) = true:=decide_eq_true hml
   have hdR:decide (m < R.length) = true:=decide_eq_true hmR
   clear hok hrm hfx hof hsv hcut hrf hsm hlt hc hcr hxk hrk hsl hsh hyb hv9 hpo hpd c0 c1 c2 c3 c4_ c5_ c6_ c7 c8 c9_ c10 c11 rc0 rc1
   go_wp2_with fail
   refine wp_envA (fin:=?fnzb) (by kernel_rfl) [27,28,29,30,31,32,33,34,35,36,37,26,38,39,10,999,11]
    [.pointer (some ⟨w.heap.size,1,none⟩),.slice (some ⟨bb,o,none⟩) l.length cA,.int .i64 m,.pointer (some ⟨bb,o + m * 12,none⟩),.agg #[.int .i64 x.n.off,.string x.ru,.int .i64 x.n.save,.string x.fm,.bool x.en,.int .i64 x.n.year,.int .i64 x.n.month,.int .i64 x.n.dk,.int .i64 x.n.dw,.int .i64 x.n.dn,.int .i64 x.n.sec,.int .i64 x.n.ak],.slice (some ⟨br,orr,none⟩) R.length cR,.int .i64 m,.pointer (some ⟨br,orr + m * 2,none⟩),.agg #[.slice A9 r.D.length c9,.string r.letter],.int .i64 i,.tuple #[.agg #[.int .i64 po,.bool pd,.string s],.bool yb],.tuple #[.agg #[.int .i64 po,.bool pd,.string s],.bool yb],.agg #[.int .i64 po,.bool pd,.string s],.bool yb,undef,undef,.bool yb] 14 15 48 #[.int .i64 0,.bool false,.string ⟨#[]⟩] #[.int .i64 po,.bool pd,.string s] (by kernel_rfl) (by simp) (by decide) ?finzb ?stepszb ?nextzb
   case finzb =>
    intro p_
    simp only [List.set_cons_succ,List.set_cons_zero,putAll,Act.put,List.setIfInBounds_toArray,List.set_nil]
    rfl
   case stepszb =>
    refine ⟨?_,?_,?_,?_,?_,?_,?_,?_,?_,?_,?_,?_,?_,?_,?alzb,?stzb,?_,trivial⟩
    case alzb =>
     refine ⟨fun p_=>by kernel_rfl,fun p_ w1_ hB_=>?_⟩
     first | rfl | (go_simp;done) | (go_simp;rfl)
    case stzb =>
     refine ⟨fun p_=>by kernel_rfl,fun b_ w1_ hb_=>⟨(((w1_.setCell ⟨b_,0,none⟩ (.int .i64 po)).setCell ⟨b_,1,none⟩ (.bool pd)).setCell ⟨b_,2,none⟩ (.string s)),?_,((Fr.setCell (T:=fun k=>k = b_) w1_ 0 (.int .i64 po) rfl).then (Fr.setCell _ 1 _ rfl)).then (Fr.setCell _ 2 _ rfl),(((hb_.set 0 (.int .i64 po)).set 1 (.bool pd)).set 2 (.string s))⟩⟩
     have f0_:=Blk.frozen hb_ 0
     have f1_:=Blk.frozen hb_ 1
     have f2_:=Blk.frozen hb_ 2
     have z0_:=Blk.cell hb_ 0 (v:=.int .i64 0) rfl
     have z1_:=Blk.cell hb_ 1 (v:=.bool false) rfl
     have z2_:=Blk.cell hb_ 2 (v:=.string ⟨#[]⟩) rfl
     go_simp
     try rfl
    all_goals
     intro p_
     refine .inr ⟨by kernel_rfl,fun w1_ hB_=>?_⟩
     have hBq_:=hB_
     have hB6_:=HBQ.out.trans (hBq_.mono HBQ.out.size)
     have hxb_:=HXX.out.below (HBL.out.trans (hBq_.mono HBL.out.size)) HXX.out.lt
     have x0_:=hxb_.cell 0 (v:=.string zn) rfl
     have x1_:=hxb_.cell 1 (v:=.slice (some ⟨bb,o,none⟩) l.length cA) rfl
     obtain ⟨c0_,c1_,c2_,c3_,c4_,c5_,c6_,c7_,c8_,c9_,c10_,c11_⟩:=HCC.out _ hBq_
     obtain ⟨rc0_,rc1_⟩:=HRC.out _ hBq_
     go_simp
     first
      | exact ⟨rfl,Below.refl _ _⟩
      | exact ⟨rfl,HRW.out _ hB6_⟩
      | ((first | rw [decide_eq_true (by omega)] | rw [decide_eq_false (by omega)] | rw [if_pos (by omega)] | rw [IntWalk.i64_in _ (by omega)]);exact ⟨rfl,Below.refl _ _⟩)
      | done
   case nextzb =>
   intro xc w10 hb10 hxc hX10
   have HB10:=Lib.hid hb10
   have HB11:=Lib.hid (HBQ.out.trans (HB10.out.mono HBQ.out.size))
   have hr10:=HRR.out.below (HBL.out.trans (HB10.out.mono HBL.out.size)) HRR.out.lt
   have HR10:=Lib.hid hr10
   have hx0:=hX10.cell 0 (v:=.int .i64 po) rfl
   have hx1:=hX10.cell 1 (v:=.bool pd) rfl
   have hx2:=hX10.cell 2 (v:=.string s) rfl
   have f0:=hr10.frozen 0
   have f1:=hr10.frozen 1
   have f2:=hr10.frozen 2
   have z0:=hr10.cell 0 (v:=.int .i64 0) rfl
   have z1:=hr10.cell 1 (v:=.bool false) rfl
   have z2:=hr10.cell 2 (v:=.string ⟨#[]⟩) rfl
   have hxl:=hX10.lt
   have hrl:=hr10.lt
   clear hb10 hxc hr10 hX10
   go_wp2_with fail
   have HZ:=Lib.hid (((HR10.out.set 0 (.int .i64 po)).set 1 (.bool pd)).set 2 (.string s))
   have q0:=HZ.out.cell 0 (v:=.int .i64 po) rfl
   have q1:=HZ.out.cell 1 (v:=.bool pd) rfl
   have q2:=HZ.out.cell 2 (v:=.string s) rfl
   refine bodyPost_ret (v:=.agg #[.int .i64 po,.bool pd,.string s]) ?_ rfl ⟨by rw [HRF.out];rfl,below_set3 HB11.out (by omega) _ _ _⟩
   simp [results,Tryz.f33,go_sem,q0,q1,q2]
end
section -- HSame
open Go Go.RowKit Go.Shelf
def SameB (B2:Nat) (Wb W:World):Prop:=B2 ≤ Wb.heap.size∧∀ k,k < B2→W.heap[k]? = Wb.heap[k]?
section
variable {B2:Nat} {Wb W W':World}
theorem SameB.size (h:SameB B2 Wb W):B2 ≤ W.heap.size:=by
 rcases Nat.eq_zero_or_pos B2 with h0 | h0
 ·omega
 ·have h1:=h.2 (B2 - 1) (by omega)
  rw [Array.getElem?_eq_getElem (show B2 - 1 < Wb.heap.size by have:=h.1;omega)] at h1
  have:=(Array.getElem?_eq_some_iff.1 h1).1
  omega
theorem SameB.refl (h:B2 ≤ Wb.heap.size):SameB B2 Wb Wb:=⟨h,fun _ _=>rfl⟩
theorem SameB.trans {V:World} (h:SameB B2 Wb W) (h':SameB B2 W V):SameB B2 Wb V:=⟨h.1,fun k hk=>(h'.2 k hk).trans (h.2 k hk)⟩
theorem SameB.cell (h:SameB B2 Wb W) {p:Addr} (hp:p.block < B2):W.cell? p = Wb.cell? p:=World.cell?_of_block (h.2 p.block hp)
theorem SameB.sl (h:SameB B2 Wb W) {B sz n:Nat} {v:Value} {xs:List Value} (hs:Sl Wb B sz v n xs) (hB:B ≤ B2):Sl W B sz v n xs:=hs.keep fun p hp=>h.cell (by omega)
theorem SameB.ahead (h:SameB B2 Wb W) (ha:Ahead Wb) (hB:0 < B2):Ahead W:=fun k hk=>(h.cell (p:=⟨0,k,none⟩) hB).trans (ha k hk)
theorem SameB.maxl (h:SameB B2 Wb W) (hm:Tryz.MaxL Wb) {w0:World} (h0:Tryz.MaxL w0) (hB:w0.heap.size ≤ B2):Tryz.MaxL W:=by
 obtain ⟨m,hc⟩:=hm
 obtain ⟨m0,hc0⟩:=h0
 have:=World.block_lt_of_cell? w0 _ hc0
 exact ⟨m,(h.cell (Nat.lt_of_lt_of_le this hB)).trans hc⟩
theorem SameB.rw_ (h:SameB B2 Wb W) {B:Nat} {v:Value} {l:List Rul} (hr:RW Wb B v l) (hB:B ≤ B2):RW W B v l :=
 ⟨h.sl hr.ruls hB,h.ahead hr.ahead (Nat.lt_of_lt_of_le hr.tab hB),hr.tab,Nat.le_trans hB h.size⟩
theorem SameB.zw (h:SameB B2 Wb W) {B:Nat} {ev sv:Value} {l:List EraF} {S:List SetF} (hz:ZW Wb B ev sv l S) (hB:B ≤ B2) {w0:World} (h0:Tryz.MaxL w0) (hB0:w0.heap.size ≤ B2):ZW W B ev sv l S :=
 ⟨h.sl hz.eras hB,⟨h.sl hz.sets.1 hB,fun s hs=>h.sl (hz.sets.2 s hs) hB⟩,h.ahead hz.ahead (Nat.lt_of_lt_of_le hz.tab hB),hz.tab,h.maxl hz.maxl h0 hB0,Nat.le_trans hB h.size⟩
theorem SameB.then_below (h:SameB B2 Wb W) {B:Nat} (hb:Below B W W') (hB:B2 ≤ B):SameB B2 Wb W':=⟨h.1,fun k hk=>(hb.block k (by omega)).trans (h.2 k hk)⟩
theorem SameB.then_fr (h:SameB B2 Wb W) {T:Nat→Prop} (hf:Fr T W W') (hT:∀ k,k < B2→¬ T k):SameB B2 Wb W':=⟨h.1,fun k hk=>(hf.block k (by have:=h.size;omega) (hT k hk)).trans (h.2 k hk)⟩
end
theorem roundIn_in {P:Program} {a b l l':Nat} {f:FuncId} {tmps:Array Value} {assign body:Code} {w:World} {R:Ending→World→Prop} (h:RoundIn Fence.wide a P l' f tmps assign body w R):RoundIn (Fence.wide.inRound l) b P l' f tmps assign body w R :=
 ⟨trivial,fun c cs _=>h.2 c cs (room_wide _)⟩
end
section -- HTurns
open Go Go.RowKit Go.Shelf
attribute [local go_sem] Oper.semAt_some
theorem turns_any (w:World) (x:EraF) (v:Value) (A:Option Addr) (m c:Nat) (hv:v = .slice A m c) (fr to:Int) :
  Calls Tryz.prog 151 #[x.val,v,.int .i64 fr,.int .i64 to] w fun o w'=>o = .returned (.func (.func 175) #[] #[.pointer (some ⟨w.heap.size,0,none⟩),.pointer (some ⟨w.heap.size + 1,0,none⟩),.pointer (some ⟨w.heap.size + 2,0,none⟩),.pointer (some ⟨w.heap.size + 3,0,none⟩)])∧Below w.heap.size w w' ∧
   Blk w' w.heap.size 42 (eraC x.n x.ru x.fm x.en)∧Blk w' (w.heap.size + 1) 52 #[v]∧Blk w' (w.heap.size + 2) 3 #[.int .i64 fr]∧Blk w' (w.heap.size + 3) 3 #[.int .i64 to]∧w'.heap.size = w.heap.size + 4:=by
 subst hv
 have h1:=(((Blk.new w 42 (eraC x.n x.ru x.fm x.en)).alloc (.cells #[.slice A m c] 52)).alloc (.cells #[.int .i64 fr] 3)).alloc (.cells #[.int .i64 to] 3)
 have h2:=((Blk.new (w.alloc (.cells (eraC x.n x.ru x.fm x.en) 42)) 52 #[.slice A m c]).alloc (.cells #[.int .i64 fr] 3)).alloc (.cells #[.int .i64 to] 3)
 have h3:=(Blk.new ((w.alloc (.cells (eraC x.n x.ru x.fm x.en) 42)).alloc (.cells #[.slice A m c] 52)) 3 #[.int .i64 fr]).alloc (.cells #[.int .i64 to] 3)
 have h4:=Blk.new (((w.alloc (.cells (eraC x.n x.ru x.fm x.en) 42)).alloc (.cells #[.slice A m c] 52)).alloc (.cells #[.int .i64 fr] 3)) 3 #[.int .i64 to]
 simp only [World.size_alloc] at h2 h3 h4
 have HB:=Lib.hid (((((Below.refl w.heap.size w).alloc (Nat.le_refl _) (.cells (eraC x.n x.ru x.fm x.en) 42)).alloc (by simp) (.cells #[.slice A m c] 52)).alloc (by simp;omega) (.cells #[.int .i64 fr] 3)).alloc (by simp;omega) (.cells #[.int .i64 to] 3))
 have HH:=Lib.hid (And.intro h1 (And.intro h2 (And.intro h3 h4)))
 clear h1 h2 h3 h4
 unfold EraF.val eraA
 unfold eraC at HB HH ⊢
 go_enter Tryz.func151,Tryz.ntmps151
 go_wp2_with fail
 go_ret
 exact ⟨rfl,HB.out,HH.out.1,HH.out.2.1,HH.out.2.2.1,HH.out.2.2.2,by simp⟩
def RC (L:List Chg) (B2:Nat) (Wb:World) (pre:List Chg) (c:Chg) (D:Nat→Prop) (W:World):Prop:=(∀ j,¬ D j)∧(∃ rest,L = pre ++ c :: rest)∧SameB B2 Wb W
def encC (c:Chg):Array Value:=#[chgA c]
def TuI (eb lb:Nat) (v:Value) (yb nb lp:Nat) (x:EraF) (R:List Rul) (now0:Chg) (s0:Nat) (O0:Nat→Prop) (J:List Chg→(Nat→Prop)→World→Prop) (pre:List (Int × Fir)) (O:Nat→Prop) (W:World):Prop :=
 ∃ Oj out now,(∀ k,Oj k→O k)∧J out Oj W∧(O yb∧O nb)∧(¬ Oj yb∧¬ Oj nb)∧(∀ k,Oj k→O0 k∨s0 ≤ k)∧Blk W yb 172 #[.func (.yield lp) #[] #[]]∧ChgB W nb now∧(∀ rest,turnsF x R now0 (pre ++ rest) = out ++ turnsF x R now rest)∧(-9000000000000000000 ≤ now.at_∧now.at_ ≤ 9000000000000000000)∧((O eb∧O lb)∧(¬ Oj eb∧¬ Oj lb)∧Blk W eb 42 (eraC x.n x.ru x.fm x.en)∧Blk W lb 52 #[v])
def TuX (x:EraF) (R:List Rul) (now0:Chg) (s0:Nat) (O0:Nat→Prop) (J Jx:List Chg→(Nat→Prop)→World→Prop) (c:Code) (pre:List (Int × Fir)) (O:Nat→Prop) (W:World):Prop :=
 ∃ Oj out,(∀ k,Oj k→O k)∧(∀ k,Oj k→O0 k∨s0 ≤ k)∧((c = .exit 0∧J out Oj W∧∀ rest,turnsF x R now0 (pre ++ rest) = out)∨(c = .ret∧Jx out Oj W∧∀ rest,∃ r2,turnsF x R now0 (pre ++ rest) = out ++ r2))
section
variable {eb lb:Nat} {v:Value} {yb nb lp s0:Nat} {x:EraF} {R:List Rul} {now0:Chg} {O0:Nat→Prop} {J Jx:List Chg→(Nat→Prop)→World→Prop}
theorem tuI_feet (fJ:Feet J):Feet (TuI eb lb v yb nb lp x R now0 s0 O0 J):=by
 rintro pre O W W' ⟨Oj,out,now,h1,h2,⟨o1,o2⟩,h3,h4,h5,h6,h7,h8,⟨o3,o4⟩,h9,ha,hb⟩ hf
 exact ⟨Oj,out,now,h1,fJ _ _ _ _ h2 (hf.mono fun k hk=>.inl fun h=>hk (h1 k h)),⟨o1,o2⟩,h3,h4,h5.fr hf (fun h=>h o1),Blk.fr h6 hf (fun h=>h o2),h7,h8,⟨o3,o4⟩,h9,ha.fr hf (fun h=>h o3),hb.fr hf (fun h=>h o4)⟩
theorem tuX_feet (fJ:Feet J) (fx:Feet Jx) (c:Code):Feet (TuX x R now0 s0 O0 J Jx c):=by
 rintro pre O W W' ⟨Oj,out,h1,h2,h3⟩ hf
 refine ⟨Oj,out,h1,h2,?_⟩
 rcases h3 with ⟨hc,hJ,hr⟩ | ⟨hc,hJ,hr⟩
 ·exact .inl ⟨hc,fJ _ _ _ _ hJ (hf.mono fun k hk=>.inl fun h=>hk (h1 k h)),hr⟩
 ·exact .inr ⟨hc,fx _ _ _ _ hJ (hf.mono fun k hk=>.inl fun h=>hk (h1 k h)),hr⟩
end
theorem turns_iter (n:Nat) (hn:4 ≤ n) (eb lb fb tb B B2:Nat) (Wb w0:World) (x:EraF) (v:Value) (R:List Rul) (fr to:Int) (W:World)
  (heb:Blk W eb 42 (eraC x.n x.ru x.fm x.en)) (hlb:Blk W lb 52 #[v]) (hfb:Blk W fb 3 #[.int .i64 fr]) (htb:Blk W tb 3 #[.int .i64 to]) (hrw:RW W B v R) (hok:RuOk R) (hlet:letOk R) (hm:Tryz.MaxL W)
  (hs:x.fm.size < 4294967281) (ho:-1000000000000000 ≤ x.n.off∧x.n.off ≤ 1000000000000000) (hsv:-90000 < x.n.save∧x.n.save < 90000) (hfr:-4500000000000 ≤ fr∧fr ≤ 4500000000000) (hto:-4500000000000 ≤ to∧to ≤ 4500000000000)
  (hbs:B2 ≤ eb∧B2 ≤ lb∧B ≤ B2) (hB2:B2 ≤ W.heap.size) (hWb:SameB B2 Wb W) (hm0:Tryz.MaxL w0) (hw0:w0.heap.size ≤ B2) :
  Iter Fence.wide n Tryz.prog 175 #[.pointer (some ⟨eb,0,none⟩),.pointer (some ⟨lb,0,none⟩),.pointer (some ⟨fb,0,none⟩),.pointer (some ⟨tb,0,none⟩)] encC (RC (turnsL x R fr to) B2 Wb) (fun xs=>xs = turnsL x R fr to) (fun pre=>∃ rest,turnsL x R fr to = pre ++ rest) (fun k=>(k = eb∨k = lb)∨k < B2) (fun k=>k = eb∨k = lb) W:=by
 intro lp J Jx fJ fx hY O0 hJ0 hO0 hK
 obtain ⟨A,cp,rfl,hlc,hcm⟩:=hrw.ruls.form
 obtain ⟨heB,hlB,hBB⟩:=hbs
 show CallsIn Fence.wide n Tryz.prog 175 #[.func (.yield lp) #[] #[],.pointer (some ⟨eb,0,none⟩),.pointer (some ⟨lb,0,none⟩),.pointer (some ⟨fb,0,none⟩),.pointer (some ⟨tb,0,none⟩)] W _
 refine callsIn_of_wp_marks Tryz.func175 rfl trivial ?_ rfl
 simp only [Tryz.ntmps175,List.size_toArray,List.length_cons,List.length_nil,Nat.reduceAdd,Nat.reduceSub,Array.replicate_succ,Array.replicate_zero,List.push_toArray,List.append_toArray,List.nil_append,List.cons_append]
 have hby:Below W.heap.size W (W.alloc (.cells #[.func (.yield lp) #[] #[]] 172)):=(Below.refl _ _).alloc (Nat.le_refl _) _
 have HS:=Lib.hid (callsIn_wide (n:=n - 1).2 (shown_any (W.alloc (.cells #[.func (.yield lp) #[] #[]] 172)) x B (.slice A R.length cp) R (hm.below hby (Nat.le_refl _)) hs (hrw.below hby) hok fr ho (by omega) (by omega) (sum_ok hok hlet hsv)))
 obtain ⟨⟨yo,yd,ys⟩,hy⟩:∃ y,locW x R fr = y:=⟨_,rfl⟩
 rw [hy] at HS
 unfold EraF.val eraA chgA at HS
 have HY0:=Lib.hid hy
 have HEB:=Lib.hid heb
 have HLB:=Lib.hid hlb
 have HFB:=Lib.hid hfb
 have HTB:=Lib.hid htb
 have HRW:=Lib.hid hrw
 have HWB:=Lib.hid hWb
 have HMX:=Lib.hid hm
 have e0:=heb.cell 0 (v:=.int .i64 x.n.off) rfl
 have e1:=heb.cell 1 (v:=.string x.ru) rfl
 have e2:=heb.cell 2 (v:=.int .i64 x.n.save) rfl
 have e3:=heb.cell 3 (v:=.string x.fm) rfl
 have e4:=heb.cell 4 (v:=.bool x.en) rfl
 have e5:=heb.cell 5 (v:=.int .i64 x.n.year) rfl
 have e6:=heb.cell 6 (v:=.int .i64 x.n.month) rfl
 have e7:=heb.cell 7 (v:=.int .i64 x.n.dk) rfl
 have e8:=heb.cell 8 (v:=.int .i64 x.n.dw) rfl
 have e9:=heb.cell 9 (v:=.int .i64 x.n.dn) rfl
 have e10:=heb.cell 10 (v:=.int .i64 x.n.sec) rfl
 have e11:=heb.cell 11 (v:=.int .i64 x.n.ak) rfl
 have l0:=hlb.cell 0 (v:=.slice A R.length cp) rfl
 have f0:=hfb.cell 0 (v:=.int .i64 fr) rfl
 have hel:=heb.lt
 have hll:=hlb.lt
 have hfl:=hfb.lt
 have htl:=htb.lt
 clear heb hlb hfb htb hrw hWb hm hy
 gi_wp2
 refine wpIn_scope ?_
 gi_wp2
 refine ⟨trivial,fun _=>by omega,HS.out.mono ?_⟩
 rintro o w1 ⟨rfl,hb1⟩
 have hb01:=hby.trans (hb1.mono hby.size)
 have hy1:Blk w1 W.heap.size 172 #[.func (.yield lp) #[] #[]]:=(Blk.new W 172 #[.func (.yield lp) #[] #[]]).below hb1 (by simp)
 have hs1:W.heap.size < w1.heap.size:=hy1.lt
 have he1:=HEB.out.below hb01 hel
 have hl1:=HLB.out.below hb01 hll
 have hf1:=HFB.out.below hb01 hfl
 have ht1:=HTB.out.below hb01 htl
 have HB01:=Lib.hid hb01
 have HY1:=Lib.hid hy1
 have q0:=he1.cell 0 (v:=.int .i64 x.n.off) rfl
 have ql:=hl1.cell 0 (v:=.slice A R.length cp) rfl
 have qf:=hf1.cell 0 (v:=.int .i64 fr) rfl
 have qt:=ht1.cell 0 (v:=.int .i64 to) rfl
 clear hb1 hby hb01 hy1 he1 hl1 hf1 ht1 HS e0 e1 e2 e3 e4 e5 e6 e7 e8 e9 e10 e11 l0 f0
 have hnow:=Blk.new w1 76 #[.int .i64 fr,.int .i64 yo,.bool yd,.string ys]
 have HB02:=Lib.hid (HB01.out.alloc HB01.out.size (.cells #[.int .i64 fr,.int .i64 yo,.bool yd,.string ys] 76))
 have HY2:=Lib.hid (HY1.out.alloc (.cells #[.int .i64 fr,.int .i64 yo,.bool yd,.string ys] 76))
 have HF:=Lib.hid (callsIn_wide (n:=n - 1).2 (fired_any (w1.alloc (.cells #[.int .i64 fr,.int .i64 yo,.bool yd,.string ys] 76)) (.slice A R.length cp) A R.length cp rfl x.n.off fr to))
 have HN2:=Lib.hid hnow
 have hs2:w1.heap.size < (w1.alloc (.cells #[.int .i64 fr,.int .i64 yo,.bool yd,.string ys] 76)).heap.size:=by simp
 obtain ⟨W2,hW2⟩:∃ W2,w1.alloc (.cells #[.int .i64 fr,.int .i64 yo,.bool yd,.string ys] 76) = W2:=⟨_,rfl⟩
 rw [hW2] at HB02 HY2 HF HN2 hs2
 have HE2:=Lib.hid (HEB.out.below HB02.out hel)
 have HL2:=Lib.hid (HLB.out.below HB02.out hll)
 have HF2:=Lib.hid (HFB.out.below HB02.out hfl)
 have HT2:=Lib.hid (HTB.out.below HB02.out htl)
 have q0:=HE2.out.cell 0 (v:=.int .i64 x.n.off) rfl
 have ql:=HL2.out.cell 0 (v:=.slice A R.length cp) rfl
 have qf:=HF2.out.cell 0 (v:=.int .i64 fr) rfl
 have qt:=HT2.out.cell 0 (v:=.int .i64 to) rfl
 clear hnow
 gi_wp2
 refine wpIn_label ?_
 gi_wp2
 refine ⟨trivial,fun _=>by omega,HF.out.mono ?_⟩
 rintro o w3 ⟨rfl,hb3,g0,g1,g2,g3⟩
 clear hW2 q0 ql qf qt HF
 have HB03:=Lib.hid (HB02.out.trans (hb3.mono HB02.out.size))
 have HY3:=Lib.hid (HY2.out.below hb3 HY2.out.lt)
 have HN3:=Lib.hid (HN2.out.below hb3 HN2.out.lt)
 have HC3:=Lib.hid (And.intro g0 (And.intro g1 (And.intro g2 g3)))
 have hs3:=g3.lt
 have hs23:=hb3.size
 clear hb3 g0 g1 g2 g3
 gi_wp2
 refine range_own (α:=Int × Fir) rfl (by omega) (gf:=116) (lb:=#[.pointer (some ⟨W2.heap.size,0,none⟩),.pointer (some ⟨W2.heap.size + 2,0,none⟩),.pointer (some ⟨W2.heap.size + 3,0,none⟩),.pointer (some ⟨W2.heap.size + 1,0,none⟩)]) rfl trivial (enters_of Tryz.func116 (by kernel_rfl) rfl)
  (encs:=encF) (R:=RF R x.n.off fr to B2 w3) (K:=fun k=>KF W2.heap.size (W2.heap.size + 2) (W2.heap.size + 3) (W2.heap.size + 1) B k∨k < B2)
  (fun V hV=>fired_iter2 (n - 1) (by omega) _ _ _ _ B B2 w3 _ R x.n.off fr to V (HC3.out.1.below hV HC3.out.1.lt) (HC3.out.2.2.1.below hV HC3.out.2.2.1.lt) (HC3.out.2.2.2.below hV HC3.out.2.2.2.lt) (HC3.out.2.1.below hV HC3.out.2.1.lt) ((HRW.out.below HB03.out).below hV) hok.yr hok.sv ho (by omega) (by omega) (by have:=hV.size;have:=HB03.out.size;omega) (fun k hk=>hV.block k (by have:=HB03.out.size;omega)))
  (fun _=>rfl) (TuI eb lb (.slice A R.length cp) W.heap.size w1.heap.size lp x R ⟨fr,locW x R fr⟩ W.heap.size O0 J) (TuX x R ⟨fr,locW x R fr⟩ W.heap.size O0 J Jx) (tuI_feet fJ) (tuX_feet fJ fx)
  (fun k=>O0 k∨k = W.heap.size∨k = w1.heap.size∨k = eb∨k = lb) ⟨O0,[],⟨fr,locW x R fr⟩,fun k h=>.inl h,fJ _ _ _ _ hJ0 (Fr.of_below HB03.out (Nat.le_refl _)),⟨.inr (.inl rfl),.inr (.inr (.inl rfl))⟩,⟨fun e=>by have:=hO0 _ e;omega,fun e=>by have:=hO0 _ e;omega⟩,fun k h=>.inl h,HY3.out,by rw [HY0.out];exact HN3.out,fun rest=>rfl,by constructor <;> simp only <;> omega,⟨.inr (.inr (.inr (.inl rfl))),.inr (.inr (.inr (.inr rfl)))⟩,⟨hK _ (.inl (.inl rfl)),hK _ (.inl (.inr rfl))⟩,HEB.out.below HB03.out hel,HLB.out.below HB03.out hll⟩
  (fun k hk=>by have:=HB03.out.size;rcases hk with h | h | h | h | h;have:=hO0 _ h;all_goals omega) (fun k hk=>by unfold KF at hk;have:=HRW.out.le;have:=HB03.out.size;omega) (fun k hk h=>?_) ?round ?done ?stop
 ·rcases hk with hk | hk
  ·unfold KF at hk
   have:=HRW.out.le
   have h1:=HB03.out.size
   rcases h with h | h | h | h | h
   ·have:=hO0 _ h
    rcases hk with hk | hk | hk | hk | hk
    ·omega
    ·omega
    ·omega
    ·omega
    ·exact hK k (.inr (by omega)) h
   ·omega
   ·omega
   ·omega
   ·omega
  ·rcases h with h | h | h | h | h
   ·exact hK k (.inr hk) h
   ·omega
   ·omega
   ·omega
   ·omega
 case round =>
  intro l2 pre y O D V hI hBO hBD hDO hR nOl nDl hlow hltl
  obtain ⟨at_,f⟩:=y
  obtain ⟨hnD,⟨rest,hrest⟩,hsame⟩:=hR
  have hsb:SameB B2 w3 V:=⟨by have:=HB03.out.size;omega,hsame⟩
  have hat:fr < at_∧at_ ≤ to:=firedF_in (x:=(at_,f)) (by rw [hrest];simp)
  have HREST:=Lib.hid hrest
  have HBO:=Lib.hid hBO
  have hVs:=hsb.size
  unfold encF firA
  clear hI hBO hBD hDO hrest hsame
  gi_wp2
  refine ⟨Below.refl _ _,?_⟩
  intro Vb hfb hIb _
  obtain ⟨Oj,out,now,hsub,hJ,⟨oy,on⟩,⟨ny,nn⟩,hext,hyb,hnb,hall,⟨hna1,hna2⟩,⟨oe,ol⟩,⟨ne,nl⟩,he3,hl3⟩:=hIb
  have hsb2:=hsb.then_fr hfb (fun k hk e=>by have:=HB03.out.size;omega)
  have HE3:=Lib.hid he3
  have HL3:=Lib.hid hl3
  have HSH:=Lib.hid ((wide1 l2).calls (n:=n - 1 - 1 - 1) (shown_any Vb x B (.slice A R.length cp) R (hsb2.maxl (HMX.out.below HB03.out (Nat.le_refl _)) hm0 hw0) hs (hsb2.rw_ (HRW.out.below HB03.out) hBB) hok at_ ho (by omega) (by omega) (sum_ok hok hlet hsv)))
  obtain ⟨y,hy⟩:∃ y,locW x R at_ = y:=⟨_,rfl⟩
  rw [hy] at HSH
  have HYL:=Lib.hid hy
  have HSB:=Lib.hid hsb2
  have HJ:=Lib.hid hJ
  have HYB:=Lib.hid hyb
  have HNB:=Lib.hid hnb
  have HALL:=Lib.hid hall
  have HSUB:=Lib.hid hsub
  have HEXT:=Lib.hid hext
  have HBB:=Lib.hid (HBO.out.fr hfb)
  have e0:=he3.cell 0 (v:=.int .i64 x.n.off) rfl
  have e1:=he3.cell 1 (v:=.string x.ru) rfl
  have e2:=he3.cell 2 (v:=.int .i64 x.n.save) rfl
  have e3:=he3.cell 3 (v:=.string x.fm) rfl
  have e4:=he3.cell 4 (v:=.bool x.en) rfl
  have e5:=he3.cell 5 (v:=.int .i64 x.n.year) rfl
  have e6:=he3.cell 6 (v:=.int .i64 x.n.month) rfl
  have e7:=he3.cell 7 (v:=.int .i64 x.n.dk) rfl
  have e8:=he3.cell 8 (v:=.int .i64 x.n.dw) rfl
  have e9:=he3.cell 9 (v:=.int .i64 x.n.dn) rfl
  have e10:=he3.cell 10 (v:=.int .i64 x.n.sec) rfl
  have e11:=he3.cell 11 (v:=.int .i64 x.n.ak) rfl
  have l0:=hl3.cell 0 (v:=.slice A R.length cp) rfl
  have hebl:=he3.lt
  have hlbl:=hl3.lt
  have hnbl:=Blk.lt hnb
  have hybl:=hyb.lt
  unfold EraF.val eraA chgA at HSH
  clear hy hsb hsb2 hJ hyb hnb hall hsub hext he3 hl3 hfb
  gi_wp2
  refine ⟨trivial,fun _=>by omega,HSH.out.mono ?_⟩
  rintro o v4 ⟨rfl,hb4⟩
  have HB4:=Lib.hid hb4
  have hn4:=Blk.below HNB.out hb4 (Blk.lt HNB.out)
  have n0:=Blk.cell hn4 0 (v:=.int .i64 now.at_) rfl
  have n1:=Blk.cell hn4 1 (v:=.int .i64 now.loc.off) rfl
  have n2:=Blk.cell hn4 2 (v:=.bool now.loc.dst) rfl
  have n3:=Blk.cell hn4 3 (v:=.string now.loc.abbr) rfl
  have hn4l:=Blk.lt hn4
  clear hb4 hn4 HSH e0 e1 e2 e3 e4 e5 e6 e7 e8 e9 e10 e11 l0
  cases hq:locE y now.loc with
  | true =>
    have hyn:=locE_iff.1 hq
    have HQ:=Lib.hid hq
    subst hyn
    clear hq
    have HW:=Lib.hid (HB4.out.alloc HB4.out.size (.cells #[.int .i64 at_,.int .i64 now.loc.off,.bool now.loc.dst,.string now.loc.abbr] 76))
    by_cases h2:max now.at_ 64060588800 + 12680582400 < at_
    ·have hd:decide (max now.at_ 64060588800 + 12680582400 < at_) = true:=decide_eq_true h2
     have HE:=Lib.hid (show ∀ rest,turnsF x R ⟨fr,locW x R fr⟩ ((pre ++ [(at_,f)]) ++ rest) = out from fun rest=>by
      rw [List.append_assoc,HALL.out]
      show out ++ turnsF x R now ((at_,f) :: rest) = out
      rw [turnsF_end (by rw [HYL.out];exact HQ.out) h2,List.append_nil])
     clear h2
     gi_wp2
     exact ⟨O,fun k h=>.inl h,HBB.out.fr (Fr.of_below (T:=fun _=>True) HW.out (Nat.le_refl _)),Fr.of_below HW.out (Nat.le_refl _),Oj,out,HSUB.out,HEXT.out,.inl ⟨rfl,fJ _ _ _ _ HJ.out (Fr.of_below HW.out (Nat.le_refl _)),HE.out⟩⟩
    ·have hd:decide (max now.at_ 64060588800 + 12680582400 < at_) = false:=decide_eq_false h2
     have HE:=Lib.hid (show ∀ rest,turnsF x R ⟨fr,locW x R fr⟩ ((pre ++ [(at_,f)]) ++ rest) = out ++ turnsF x R now rest from fun rest=>by
      rw [List.append_assoc,HALL.out]
      show out ++ turnsF x R now ((at_,f) :: rest) = _
      rw [turnsF_same (by rw [HYL.out];exact HQ.out) h2])
     clear h2
     gi_wp2
     exact ⟨O,fun k h=>.inl h,HBB.out.fr (Fr.of_below (T:=fun _=>True) HW.out (Nat.le_refl _)),Fr.of_below HW.out (Nat.le_refl _),Oj,out,now,HSUB.out,fJ _ _ _ _ HJ.out (Fr.of_below HW.out (Nat.le_refl _)),⟨oy,on⟩,⟨ny,nn⟩,HEXT.out,HYB.out.below HW.out HYB.out.lt,Blk.below HNB.out HW.out (Blk.lt HNB.out),HE.out,⟨hna1,hna2⟩,⟨oe,ol⟩,⟨ne,nl⟩,HE3.out.below HW.out HE3.out.lt,HL3.out.below HW.out HL3.out.lt⟩
  | false =>
    have HQ:=Lib.hid hq
    have hq3:=hq
    unfold locE at hq3
    rw [decide_eq_false_iff_not] at hq3
    clear hq
    have hy4:=HYB.out.below HB4.out HYB.out.lt
    have y0:=hy4.cell 0 (v:=.func (.yield lp) #[] #[]) rfl
    have hy4l:=hy4.lt
    have hn4:=Blk.below HNB.out HB4.out (Blk.lt HNB.out)
    have g0:=Blk.frozen hn4 0
    have g1:=Blk.frozen hn4 1
    have g2:=Blk.frozen hn4 2
    have g3:=Blk.frozen hn4 3
    have hcase:(y.off == now.loc.off) = false∨((y.off == now.loc.off) = true∧(y.dst == now.loc.dst) = false)∨((y.off == now.loc.off) = true∧(y.dst == now.loc.dst) = true∧(y.abbr.toList == now.loc.abbr.toList) = false):=by
     by_cases h1:y.off = now.loc.off
     ·by_cases h2:y.dst = now.loc.dst
      ·exact .inr (.inr ⟨by simpa using h1,by simpa using h2,beq_eq_false_iff_ne.2 fun h3=>hq3 ⟨h1,h2,h3⟩⟩)
      ·exact .inr (.inl ⟨by simpa using h1,by simpa using h2⟩)
     ·exact .inl (by simpa using h1)
    have hF5:Fr (fun k=>k = w1.heap.size) Vb (((((v4.setCell ⟨w1.heap.size,0,none⟩ (.int .i64 at_)).setCell ⟨w1.heap.size,1,none⟩ (.int .i64 y.off)).setCell ⟨w1.heap.size,2,none⟩ (.bool y.dst)).setCell ⟨w1.heap.size,3,none⟩ (.string y.abbr)).alloc (.cells #[.int .i64 at_,.int .i64 y.off,.bool y.dst,.string y.abbr] 76)):=((Fr.of_below HB4.out (Nat.le_refl _)).then (fr_set4 (T:=fun k=>k = w1.heap.size) v4 rfl _ _ _ _)).then (Fr.alloc _ _)
    have hN5:ChgB (((((v4.setCell ⟨w1.heap.size,0,none⟩ (.int .i64 at_)).setCell ⟨w1.heap.size,1,none⟩ (.int .i64 y.off)).setCell ⟨w1.heap.size,2,none⟩ (.bool y.dst)).setCell ⟨w1.heap.size,3,none⟩ (.string y.abbr)).alloc (.cells #[.int .i64 at_,.int .i64 y.off,.bool y.dst,.string y.abbr] 76)) w1.heap.size ⟨at_,y⟩:=Blk.alloc ((((Blk.set hn4 0 (.int .i64 at_)).set 1 (.int .i64 y.off)).set 2 (.bool y.dst)).set 3 (.string y.abbr)) (.cells #[.int .i64 at_,.int .i64 y.off,.bool y.dst,.string y.abbr] 76)
    have hC5:=Blk.new ((((v4.setCell ⟨w1.heap.size,0,none⟩ (.int .i64 at_)).setCell ⟨w1.heap.size,1,none⟩ (.int .i64 y.off)).setCell ⟨w1.heap.size,2,none⟩ (.bool y.dst)).setCell ⟨w1.heap.size,3,none⟩ (.string y.abbr)) 76 #[.int .i64 at_,.int .i64 y.off,.bool y.dst,.string y.abbr]
    rw [show ((((v4.setCell ⟨w1.heap.size,0,none⟩ (.int .i64 at_)).setCell ⟨w1.heap.size,1,none⟩ (.int .i64 y.off)).setCell ⟨w1.heap.size,2,none⟩ (.bool y.dst)).setCell ⟨w1.heap.size,3,none⟩ (.string y.abbr)).heap.size = v4.heap.size by simp] at hC5
    obtain ⟨v5,hv5⟩:∃ v,((((v4.setCell ⟨w1.heap.size,0,none⟩ (.int .i64 at_)).setCell ⟨w1.heap.size,1,none⟩ (.int .i64 y.off)).setCell ⟨w1.heap.size,2,none⟩ (.bool y.dst)).setCell ⟨w1.heap.size,3,none⟩ (.string y.abbr)).alloc (.cells #[.int .i64 at_,.int .i64 y.off,.bool y.dst,.string y.abbr] 76) = v:=⟨_,rfl⟩
    rw [hv5] at hF5 hN5 hC5
    have HF5:=Lib.hid hF5
    have HN5:=Lib.hid hN5
    have HY5:=Lib.hid (HYB.out.fr hF5 (by omega))
    have hs5:=hF5.size
    have y5:=HY5.out.cell 0 (v:=.func (.yield lp) #[] #[]) rfl
    have k0:=hC5.cell 0 (v:=.int .i64 at_) rfl
    have k1:=hC5.cell 1 (v:=.int .i64 y.off) rfl
    have k2:=hC5.cell 2 (v:=.bool y.dst) rfl
    have k3:=hC5.cell 3 (v:=.string y.abbr) rfl
    have hyl5:=HY5.out.lt
    have hcl5:=hC5.lt
    have HSB5:=Lib.hid (((HWB.out.then_below HB03.out hB2).trans HSB.out).then_fr hF5 (fun k hk e=>by omega))
    have HT:=Lib.hid (show ∀ rest,turnsF x R ⟨fr,locW x R fr⟩ ((pre ++ [(at_,f)]) ++ rest) = (out ++ [⟨at_,y⟩]) ++ turnsF x R ⟨at_,y⟩ rest from fun rest=>by
     rw [List.append_assoc,HALL.out]
     show out ++ turnsF x R now ((at_,f) :: rest) = _
     rw [turnsF_turn (by show locE (locW x R at_) now.loc = false;rw [HYL.out];exact HQ.out)]
     show out ++ ⟨at_,locW x R at_⟩ :: turnsF x R ⟨at_,locW x R at_⟩ rest = _
     rw [HYL.out,List.append_assoc]
     rfl)
    have hnext:∃ rest,turnsL x R fr to = out ++ ⟨at_,y⟩ :: rest:=⟨turnsF x R ⟨at_,y⟩ rest,by
     have h:=HT.out rest
     rw [List.append_assoc,List.append_assoc] at h
     unfold turnsL
     rw [HREST.out]
     exact h⟩
    obtain ⟨fn,tmps,assign,body,hyd,hR⟩:=hY out ⟨at_,y⟩ (fun _=>False) Oj v5 (fJ _ _ _ _ HJ.out (hF5.mono fun k hk=>.inl fun h=>by subst hk;exact nn h)) (fun k h=>Nat.lt_of_lt_of_le (HBB.out k (HSUB.out k h)) hs5) (fun _ h=>h.elim) (fun _ h=>h.elim) ⟨fun _ h=>h,hnext,HSB5.out⟩
    unfold encC chgA at hyd
    simp only at hyd
    have HY2:=Lib.hid hR
    clear hy4 hn4 hq3 hF5 hN5 hC5 hR hnext
    rcases hcase with c1 | ⟨c1,c2⟩ | ⟨c1,c2,c3⟩
    all_goals
     gi_wp2
     refine ⟨fun _=>by omega,(roundIn_in HY2.out).mono ?_⟩
     rintro o v6 ⟨O6,hx6,hbd6,hf6,hend⟩
     have hN6:=Blk.fr HN5.out hf6 (fun e=>e.elim nn id)
     have hY6:=HY5.out.fr hf6 (fun e=>e.elim ny id)
     have hE6:=(HE3.out.fr HF5.out (by omega)).fr hf6 (fun e=>e.elim ne id)
     have hL6:=(HL3.out.fr HF5.out (by omega)).fr hf6 (fun e=>e.elim nl id)
     have hext6:∀ k,O6 k→O0 k∨W.heap.size ≤ k:=fun k h=>by
      rcases hx6 k h with h | h | h
      ·exact HEXT.out k h
      ·exact h.elim
      ·exact .inr (by omega)
     have hno6:∀ k,k ≤ w1.heap.size→¬ Oj k→¬ O6 k:=fun k hk hn h=>by
      rcases hx6 k h with h | h | h
      ·exact hn h
      ·exact h
      ·omega
     have hO':∀ k,(O k∨O6 k)→O k∨D k∨Vb.heap.size ≤ k:=fun k h=>by
      rcases h with h | h
      ·exact .inl h
      ·rcases hx6 k h with h | h | h
       ·exact .inl (HSUB.out k h)
       ·exact h.elim
       ·exact .inr (.inr (by omega))
     have hfr6:Fr (fun k=>O k∨D k) Vb v6:=((HF5.out.mono (T':=fun k=>O k∨D k) fun k hk=>.inl (.inl (by subst hk;exact on))).then (hf6.mono (T':=fun k=>O k∨D k) fun k hk=>.inl (.inl (HSUB.out k (hk.elim id False.elim)))))
     have hbd':Bd (fun k=>O k∨O6 k) v6:=fun k h=>by
      rcases h with h | h
      ·exact (HBB.out.fr hfr6) k h
      ·exact hbd6 k h
     clear hyd
     rcases hend with ⟨rfl,hJ6⟩ | ⟨rfl,hJx6⟩
     ·gi_wp2
      exact ⟨fun k=>O k∨O6 k,hO',hbd',hfr6,O6,out ++ [⟨at_,y⟩],⟨at_,y⟩,fun k h=>.inr h,hJ6,⟨.inl oy,.inl on⟩,⟨hno6 _ (by omega) ny,hno6 _ (Nat.le_refl _) nn⟩,hext6,hY6,hN6,HT.out,(by constructor <;> simp only <;> omega),⟨.inl oe,.inl ol⟩,⟨hno6 _ (by omega) ne,hno6 _ (by omega) nl⟩,hE6,hL6⟩
     ·gi_wp2
      exact ⟨fun k=>O k∨O6 k,hO',hbd',hfr6,O6,out ++ [⟨at_,y⟩],fun k h=>.inr h,hext6,.inr ⟨rfl,hJx6,fun rest=>⟨turnsF x R ⟨at_,y⟩ rest,HT.out rest⟩⟩⟩
 case done =>
  intro D xs O V hD hS hI hO hBO hOD hfr hK2
  obtain ⟨Oj,out,now,hsub,hJ,-,-,hext,-,-,hall,-,-⟩:=hI
  have hout:out = turnsL x R fr to:=by
   have h:=hall []
   rw [List.append_nil,hS] at h
   unfold turnsL
   rw [h]
   exact (List.append_nil out).symm
  have HK2:=Lib.hid hK2
  have HOUT:=Lib.hid hout
  have HJ:=Lib.hid hJ
  have HFR:=Lib.hid (((Fr.of_below (T:=fun k=>O0 k∨(k = eb∨k = lb)) HB03.out (Nat.le_refl _)).trans hfr fun k hk=>by
   rcases hk with (hk | hk | hk | hk | hk) | hk
   ·exact .inl (.inl hk)
   ·exact .inr (by omega)
   ·exact .inr (by omega)
   ·exact .inl (.inr (.inl hk))
   ·exact .inl (.inr (.inr hk))
   ·exact hk.elim))
  have hDl:D < V.heap.size:=(Array.getElem?_eq_some_iff.1 hK2).1
  have hDw:W.heap.size ≤ D:=by have:=HB03.out.size;omega
  have hnD:¬ Oj D:=fun h=>hOD (hsub D h)
  clear hS hfr hK2 hall hout hJ
  gi_wp2
  simp only [Exit.noGoto]
  refine ⟨by simp,.inl ⟨_,_,rfl,run_takeDeferred HK2.out,?_⟩⟩
  refine ⟨_,results_none rfl _ _ _,?_⟩
  exact ⟨⟨_,rfl⟩,Oj,hext,fun k h=>Nat.lt_of_lt_of_le (hBO k (hsub k h)) (Nat.le_of_eq (fin_size V D _).symm),HFR.out.trans (Fr.putObj (T:=fun k=>k = D) V _ rfl) (fun k hk=>.inr (by omega)),.inl ⟨out,HOUT.out,fJ _ _ _ _ HJ.out (Fr.putObj V _ hnD)⟩⟩
 case stop =>
  intro D c pre O V hD hS hX hO hBO hOD hfr hK2
  obtain ⟨rest,hrest⟩:=hS
  obtain ⟨Oj,out,hsub,hext,hX⟩:=hX
  have HK2:=Lib.hid hK2
  have HFR:=Lib.hid (((Fr.of_below (T:=fun k=>O0 k∨(k = eb∨k = lb)) HB03.out (Nat.le_refl _)).trans hfr fun k hk=>by
   rcases hk with (hk | hk | hk | hk | hk) | hk
   ·exact .inl (.inl hk)
   ·exact .inr (by omega)
   ·exact .inr (by omega)
   ·exact .inl (.inr (.inl hk))
   ·exact .inl (.inr (.inr hk))
   ·exact hk.elim))
  have hDl:D < V.heap.size:=(Array.getElem?_eq_some_iff.1 hK2).1
  have hDw:W.heap.size ≤ D:=by have:=HB03.out.size;omega
  have hnD:¬ Oj D:=fun h=>hOD (hsub D h)
  have HREST:=Lib.hid hrest
  clear hfr hK2 hrest
  rcases hX with ⟨rfl,hJ,hr⟩ | ⟨rfl,hJ,hr⟩
  ·have HOUT:=Lib.hid (show out = turnsL x R fr to by
    unfold turnsL
    rw [HREST.out]
    exact (hr rest).symm)
   have HJ:=Lib.hid hJ
   clear hr hJ
   gi_wp2
   simp only [Exit.noGoto]
   refine ⟨by simp,.inl ⟨_,_,rfl,run_takeDeferred HK2.out,?_⟩⟩
   refine ⟨_,results_none rfl _ _ _,?_⟩
   exact ⟨⟨_,rfl⟩,Oj,hext,fun k h=>Nat.lt_of_lt_of_le (hBO k (hsub k h)) (Nat.le_of_eq (fin_size V D _).symm),HFR.out.trans (Fr.putObj (T:=fun k=>k = D) V _ rfl) (fun k hk=>.inr (by omega)),.inl ⟨out,HOUT.out,fJ _ _ _ _ HJ.out (Fr.putObj V _ hnD)⟩⟩
  ·obtain ⟨r2,hr2⟩:=hr rest
   have HOUT:=Lib.hid (show ∃ rest,turnsL x R fr to = out ++ rest from ⟨r2,by
    unfold turnsL
    rw [HREST.out]
    exact hr2⟩)
   have HJ:=Lib.hid hJ
   clear hr hr2 hJ
   gi_wp2
   simp only [Exit.noGoto]
   refine ⟨by simp,.inl ⟨_,_,rfl,run_takeDeferred HK2.out,?_⟩⟩
   refine ⟨_,results_none rfl _ _ _,?_⟩
   exact ⟨⟨_,rfl⟩,Oj,hext,fun k h=>Nat.lt_of_lt_of_le (hBO k (hsub k h)) (Nat.le_of_eq (fin_size V D _).symm),HFR.out.trans (Fr.putObj (T:=fun k=>k = D) V _ rfl) (fun k hk=>.inr (by omega)),.inr ⟨out,HOUT.out,fx _ _ _ _ HJ.out (Fr.putObj V _ hnD)⟩⟩
end
section -- EnvY
open Go Go.RowKit
section
variable {P:Program} {n:Nat} {ops:Array Oper}
def reachB (ops:Array Oper) (j:Nat):Nat→Nat→Bool
 | 0,_=>false
 | f + 1,i=>depB ops i j || (List.range i).any fun k=>depB ops i k && reachB ops j f k
def envYB (ops:Array Oper) (D:List Nat) (y:Nat):Bool :=
 envB ops D && decide (y < ops.size) && (List.range ops.size).all fun i=>if i < y then reachB ops i ops.size y else if y < i then reachB ops y ops.size i else true
theorem reachB_shut {L:Nat→Bool} (h:ShutI ops L) {j:Nat}:∀ {f i:Nat},reachB ops j f i = true→L i = true→L j = true
 | 0,_,hr,_=>by cases hr
 | f + 1,i,hr,hi=>by
   unfold reachB at hr
   rw [Bool.or_eq_true] at hr
   rcases hr with h1 | h1
   ·exact h i j h1 hi
   ·obtain ⟨k,_,h2⟩:=List.any_eq_true.1 h1
    rw [Bool.and_eq_true] at h2
    exact reachB_shut h h2.2 (h i k h2.1 hi)
def PureStep (P:Program) (ops:Array Oper) (fin:Act) (o:Oper) (v:Value):Prop :=
 (Region.wanted o (yielded ops fin.tmps) = false∧v = undef)∨(Region.wanted o (yielded ops fin.tmps) = true∧∀ w,(execOp fin.eval o).run P w = .ok (.value v) w)
def PureSteps (P:Program) (ops:Array Oper) (fin:Act):List Oper→List Value→Prop
 | o :: l,v :: V=>PureStep P ops fin o v∧PureSteps P ops fin l V
 | [],[]=>True
 | _,_=>False
def YieldStep (F:Fence) (n:Nat) (P:Program) (ops:Array Oper) (fin:Bool→Act) (w0:World) (Z:Bool→World→Prop) (o:Oper):Prop :=
 (∀ b,Region.wanted o (yielded ops (fin b).tmps) = true)∧∀ w,Below w0.heap.size w0 w→∃ l f tmps assign body,(∀ b,(execOp (fin b).eval o).run P w = .ok (.round l f tmps assign body) w)∧RoundIn F (n - 1) P l f tmps assign body w fun e w'=>∃ b,e = .returned (.bool b)∧Z b w'
def EnvYSteps (F:Fence) (n:Nat) (P:Program) (ops:Array Oper) (fin:Bool→Act) (w0:World) (Z:Bool→World→Prop) (V2:Bool→List Value):List Oper→List Value→Prop
 | o :: l,v :: V=>(∀ b,EnvStep P ops (fin b) w0 o v)∧EnvYSteps F n P ops fin w0 Z V2 l V
 | o :: l,[]=>YieldStep F n P ops fin w0 Z o∧∀ b,PureSteps P ops (fin b) l (V2 b)
 | [],_=>False
theorem pureSteps_len {fin:Act}:∀ {l:List Oper} {V:List Value},PureSteps P ops fin l V→V.length = l.length
 | [],[],_=>rfl
 | [],_ :: _,h=>h.elim
 | _ :: _,[],h=>h.elim
 | _ :: l,_ :: V,h=>by simp [pureSteps_len h.2]
theorem pureSteps_at {fin:Act}:∀ {l:List Oper} {V:List Value},PureSteps P ops fin l V→∀ {j:Nat} {o:Oper},l[j]? = some o→PureStep P ops fin o (V.getD j undef)
 | [],_,_,_,_,h=>by simp at h
 | _ :: _,[],hs,_,_,_=>hs.elim
 | x :: l,v :: V,hs,0,o,h=>by
   simp only [List.getElem?_cons_zero,Option.some.injEq] at h
   subst h
   exact hs.1
 | x :: l,v :: V,hs,j + 1,o,h=>by
   rw [List.getElem?_cons_succ] at h
   simpa using pureSteps_at hs.2 h
theorem envYSteps_len {F:Fence} {fin:Bool→Act} {w0:World} {Z:Bool→World→Prop} {V2:Bool→List Value}:∀ {l:List Oper} {V:List Value},EnvYSteps F n P ops fin w0 Z V2 l V→∀ b,V.length + 1 + (V2 b).length = l.length
 | [],_,h,_=>by cases h
 | _ :: _,[],h,b=>by simp [pureSteps_len (h.2 b)];omega
 | _ :: l,_ :: V,h,b=>by have:=envYSteps_len h.2 b;simp only [List.length_cons];omega
theorem envYSteps_at {F:Fence} {fin:Bool→Act} {w0:World} {Z:Bool→World→Prop} {V2:Bool→List Value}:∀ {l:List Oper} {V:List Value},EnvYSteps F n P ops fin w0 Z V2 l V→∀ {j:Nat} {o:Oper},l[j]? = some o →
  (j < V.length→∀ b,EnvStep P ops (fin b) w0 o (V.getD j undef))∧(j = V.length→YieldStep F n P ops fin w0 Z o)∧(V.length < j→∀ b,PureStep P ops (fin b) o ((V ++ .bool b :: V2 b).getD j undef))
 | [],_,h,_,_,_=>by cases h
 | x :: l,[],hs,0,o,h=>by
   simp only [List.getElem?_cons_zero,Option.some.injEq] at h
   subst h
   exact ⟨fun h=>absurd h (Nat.not_lt_zero _),fun _=>hs.1,fun h=>absurd h (Nat.lt_irrefl _)⟩
 | x :: l,[],hs,j + 1,o,h=>by
   rw [List.getElem?_cons_succ] at h
   exact ⟨fun h=>absurd h (Nat.not_lt_zero _),(fun h=>by simp at h),fun _ b=>by simpa using pureSteps_at (hs.2 b) h⟩
 | x :: l,v :: V,hs,0,o,h=>by
   simp only [List.getElem?_cons_zero,Option.some.injEq] at h
   subst h
   exact ⟨fun _ b=>hs.1 b,(fun h=>by simp at h),(fun h=>absurd h (Nat.not_lt_zero _))⟩
 | x :: l,v :: V,hs,j + 1,o,h=>by
   rw [List.getElem?_cons_succ] at h
   have h2:=envYSteps_at hs.2 h
   refine ⟨fun hj b=>?_,fun hj=>?_,fun hj b=>?_⟩
   ·simpa using h2.1 (by simpa using hj) b
   ·exact h2.2.1 (by simpa using hj)
   ·simpa using h2.2.2 (by simpa using hj) b
theorem wpIn_envY {F:Fence} (hF:Wide F) {id:Nat} {l:List Oper} {Q:Exit→Act→World→Prop} {a:Act} {w:World} (hm:P.follows .mixedOrders = true) (D:List Nat) (V:List Value) (V2:Bool→List Value) (Z:Bool→World→Prop)
  (hb:envYB l.toArray D V.length = true) {fin:Bool→Act} (hfin:∀ b,putAll a D (V ++ .bool b :: V2 b) = fin b)
  (hstep:EnvYSteps F n P l.toArray fin w Z V2 l V) (hend:∀ b w',Z b w'→Q .normal (fin b) w'):(Code.region id l.toArray true).wpIn F n P Q a w:=by
 unfold envYB at hb
 simp only [Bool.and_eq_true,decide_eq_true_eq] at hb
 obtain ⟨⟨hb,hy⟩,hreach⟩:=hb
 have hb0:=hb
 unfold envB at hb
 rw [Bool.and_eq_true] at hb
 obtain ⟨hi,hb⟩:=hb
 have hi':=hi
 simp only [invB,Bool.and_eq_true,decide_eq_true_eq] at hi'
 obtain ⟨⟨-,hlen⟩,hnd⟩:=hi'
 have hlen:D.length = l.length:=by simpa using hlen
 have hV:∀ b,(V ++ .bool b :: V2 b).length = D.length:=fun b=>by
  have:=envYSteps_len hstep b
  simp only [List.length_append,List.length_cons]
  omega
 have hsame1:∀ b b' i,i < V.length→(V ++ .bool b :: V2 b).getD i undef = (V ++ .bool b' :: V2 b').getD i undef:=fun b b' i h=>by
  rw [List.getD_eq_getElem?_getD,List.getD_eq_getElem?_getD,List.getElem?_append_left h,List.getElem?_append_left h]
 have hVi:∀ b i,i < V.length→(V ++ .bool b :: V2 b).getD i undef = V.getD i undef:=fun b i h=>by
  rw [List.getD_eq_getElem?_getD,List.getD_eq_getElem?_getD,List.getElem?_append_left h]
 have hVy:∀ b,(V ++ .bool b :: V2 b).getD V.length undef = .bool b:=fun b=>by
  rw [List.getD_eq_getElem?_getD,List.getElem?_append_right (Nat.le_refl _),Nat.sub_self]
  rfl
 have hfinp:∀ b,frameOf a D (valOf D (V ++ .bool b :: V2 b)) = fin b:=fun b=>by
  rw [← hfin]
  exact putAll_eq D _ a _ (hV b) fun i hi=>by unfold valOf;rw [idxOf_getD hnd hi]
 have hpre:∀ {L:Nat→Bool},ShutI l.toArray L→L V.length = true→∀ i,i < V.length→L i = true:=fun hsh hL i hi=>by
  have h1:=List.all_eq_true.1 hreach i (List.mem_range.2 (by omega))
  rw [if_pos hi] at h1
  exact reachB_shut hsh h1 hL
 have hsuf:∀ i,V.length < i→i < l.length→reachB l.toArray V.length l.toArray.size i = true:=fun i hi hil=>by
  have h1:=List.all_eq_true.1 hreach i (List.mem_range.2 (by simpa using hil))
  rw [if_neg (by omega),if_pos hi] at h1
  exact h1
 refine wpIn_inv hm D (fun L x w'=>∃ b,(∀ i,i < D.length→L i = true→x (D.getD i 0) = (V ++ .bool b :: V2 b).getD i undef)∧(L V.length = false→Below w.heap.size w w')∧(L V.length = true→Z b w')) hi (fun x=>⟨true,(fun i _ h=>by cases h),(fun _=>(Below.refl _ _).drew),fun h=>by cases h⟩) ?_ ?_
 ·have main:∀ (i:Nat) (o:Oper),l[i]? = some o→StepI F n P l.toArray a D (fun L x w'=>∃ b,(∀ i,i < D.length→L i = true→x (D.getD i 0) = (V ++ .bool b :: V2 b).getD i undef)∧(L V.length = false→Below w.heap.size w w')∧(L V.length = true→Z b w')) i o:=by
   intro k o hlk L x w1 R hI hsh hLk hr hR
   obtain ⟨b,hx,hbw,hz⟩:=hI
   have hkl:k < l.length:=(List.getElem?_eq_some_iff.1 hlk).1
   have ho:l.toArray[k]? = some o:=by simpa using hlk
   have hkD:k < D.length:=by omega
   obtain ⟨s1,s2,s3⟩:=envYSteps_at hstep hlk
   have hb1:=List.all_eq_true.1 hb k (List.mem_range.2 (by simpa using hkl))
   rw [ho] at hb1
   simp only [Bool.and_eq_true] at hb1
   obtain ⟨⟨hop,hdst⟩,hlook⟩:=hb1
   have hndf:∀ c,o.op ≠ .defer c:=fun c hc=>by rw [hc] at hop;cases hop
   have hnsl:∀ cs b,o.op ≠ .select cs b:=fun c b hc=>by rw [hc] at hop;cases hop
   have hsame:∀ s,s ∈ o.looksAt l.toArray→(frameOf a D x).tmps[s]? = (fin b).tmps[s]?:=by
    intro s hs
    rw [← hfinp,frameOf_tmps,frameOf_tmps]
    by_cases hD:s ∈ D
    ·have:=List.all_eq_true.1 hlook s hs
     rw [Bool.or_eq_true] at this
     rcases this with h | h
     ·simp [hD] at h
     ·obtain ⟨j,hj,hj2⟩:=List.any_eq_true.1 h
      rw [Bool.and_eq_true] at hj2
      obtain ⟨hjs,hje⟩:=hj2
      have hjs:D.getD j 0 = s:=by simpa using hjs
      have hjk:=List.mem_range.1 hj
      have h1:=hx j (by omega) (hr j hje)
      rw [hjs] at h1
      have h2:x s = valOf D (V ++ .bool b :: V2 b) s:=by
       have e:D.idxOf s = j:=by rw [← hjs];exact idxOf_getD hnd (by omega)
       unfold valOf
       rw [e]
       exact h1
      rw [h2]
    ·simp [hD]
   have hev:∀ y ∈ o.op.operands,(frameOf a D x).eval y = (fin b).eval y:=by
    intro y hy
    cases y with
    | tmp s =>
      have h1:=hsame s (List.mem_append_left _ (List.mem_filterMap.2 ⟨.tmp s,by simpa using hy,rfl⟩))
      show (frameOf a D x).tmps.getD s undef = (fin b).tmps.getD s undef
      simp only [Array.getD_eq_getD_getElem?,h1]
    | _=>rfl
   have hex:=execOp_congr (ρ:=(frameOf a D x).eval) (ρ':=(fin b).eval) o hnsl hev
   have hwa:Region.wanted o (yielded l.toArray (frameOf a D x).tmps) = Region.wanted o (yielded l.toArray (fin b).tmps):=by
    unfold Region.wanted
    cases hg:o.guard with
    | none=>rfl
    | some g =>
      obtain ⟨g,b'⟩:=g
      dsimp only
      unfold yielded
      cases hd:(l.toArray[g]?).bind (·.dst) with
      | none=>rfl
      | some d =>
        have h1:=hsame d (List.mem_append_right _ (by rw [hg];show d ∈ ((l.toArray[g]?).bind (·.dst)).toList;rw [hd];simp))
        simp only [Option.bind_some,h1]
   have hdst:o.dst = some (D.getD k 0):=by simpa using hdst
   have hmem:D.getD k 0 ∈ D:=by rw [List.getD_eq_getElem?_getD,List.getElem?_eq_getElem hkD];exact List.getElem_mem hkD
   have hput:∀ v,(frameOf a D x).put o.dst v = frameOf a D (upd x (D.getD k 0) v):=fun v=>by rw [hdst];exact frameOf_put D x a _ hmem v
   have hslot:∀ i,i < D.length→i ≠ k→D.getD i 0 ≠ D.getD k 0:=fun i hiD hik e=>by
    rw [List.getD_eq_getElem?_getD,List.getD_eq_getElem?_getD,List.getElem?_eq_getElem hiD,List.getElem?_eq_getElem hkD] at e
    simp only [Option.getD_some] at e
    have hpw:=List.pairwise_iff_getElem.1 hnd
    rcases Nat.lt_or_ge i k with h | h
    ·exact hpw i k hiD hkD h e
    ·exact hpw k i hkD hiD (by omega) e.symm
   have hmore:∀ i,i ≠ k→more L k i = L i:=fun i hik=>by unfold more;rw [decide_eq_false hik];rfl
   have hmk:more L k k = true:=by unfold more;simp
   unfold wpListIn
   rw [hwa]
   rcases Nat.lt_trichotomy k V.length with hky | hky | hky
   · -- ahead of the round
    have hLy:L V.length = false:=by
     cases h:L V.length with
     | false=>rfl
     | true=>rw [hpre hsh h k hky] at hLk;cases hLk
    have hmy:more L k V.length = false:=by rw [hmore _ (by omega)];exact hLy
    have hnew:∀ w',Below w1.heap.size w1 w'→∃ b',(∀ i,i < D.length→more L k i = true→upd x (D.getD k 0) (V.getD k undef) (D.getD i 0) = (V ++ .bool b' :: V2 b').getD i undef)∧(more L k V.length = false→Below w.heap.size w w')∧(more L k V.length = true→Z b' w'):=fun w' hb'=>by
     refine ⟨b,fun i hiD hm=>?_,fun _=>(hbw hLy).trans (hb'.mono (hbw hLy).size),fun h=>by rw [hmy] at h;cases h⟩
     by_cases hik:i = k
     ·subst hik;rw [upd_same,hVi b i hky]
     ·rw [hmore i hik] at hm
      rw [upd_other x _ (hslot i hiD hik)]
      exact hx i hiD hm
    rcases s1 hky b with ⟨h1,h2⟩ | ⟨h1,h2⟩
    ·rw [if_neg (by rw [h1];simp)]
     refine ⟨fun f _=>hF.fn f,?_⟩
     rw [hput,← h2]
     exact hR _ _ (hnew w1 (Below.refl _ _))
    ·rw [if_pos h1]
     refine ⟨fun f _=>hF.fn f,?_⟩
     rw [Oper.semAt_plain F _ o hndf,hex]
     have h3:=h2 w1 (hbw hLy)
     generalize (execOp (fin b).eval o).run P w1 = r at h3
     cases r with
     | halt hh w'=>exact h3.elim
     | ok nx w' =>
       cases nx with
       | value u =>
         obtain ⟨rfl,hb'⟩:=h3
         rw [Oper.uponIn_value,hput]
         exact hR _ _ (hnew w' hb')
       | enter f args =>
         obtain ⟨rfl,hc⟩:=h3
         rw [Oper.uponIn_enter]
         refine ⟨(fun h=>by rw [hF.depth] at h;cases h),(hF.calls hc).mono ?_⟩
         rintro e w'' ⟨rfl,hb'⟩
         show wpListIn F n P l.toArray _ [] ((frameOf a D x).put o.dst (V.getD k undef)) w''
         rw [hput]
         exact hR _ _ (hnew w'' hb')
       | _=>exact h3.elim
   · -- the round
    obtain ⟨h1,h2⟩:=s2 hky
    rw [hky] at hLk
    obtain ⟨lp,f,tmps,assign,body,hrun,hround⟩:=h2 w1 (hbw hLk)
    rw [if_pos (h1 b)]
    refine ⟨fun f _=>hF.fn f,?_⟩
    rw [Oper.semAt_plain F _ o hndf,hex,hrun b,Oper.uponIn_round]
    refine ⟨(fun h=>by rw [hF.depth] at h;cases h),hround.mono ?_⟩
    rintro e w'' ⟨b',rfl,hz'⟩
    show wpListIn F n P l.toArray _ [] ((frameOf a D x).put o.dst (.bool b')) w''
    rw [hput]
    refine hR _ _ ⟨b',fun i hiD hm=>?_,(fun h=>by rw [← hky,hmk] at h;cases h),fun _=>hz'⟩
    by_cases hik:i = k
    ·subst hik;rw [upd_same,hky,hVy]
    ·rw [hmore i hik] at hm
     have hiy:i < V.length:=by
      rcases Nat.lt_or_ge i V.length with h | h
      ·exact h
      ·have h5:=reachB_shut hsh (hsuf i (by omega) (by omega)) hm
       rw [hLk] at h5
       cases h5
     rw [upd_other x _ (hslot i hiD hik),hsame1 b' b i hiy]
     exact hx i hiD hm
   · -- behind the round
    have hLy:L V.length = true:=by
     have h5:=hsuf k hky hkl
     rw [show l.toArray.size = l.toArray.size - 1 + 1 by omega] at h5
     unfold reachB at h5
     rw [Bool.or_eq_true] at h5
     rcases h5 with h6 | h6
     ·unfold depB at h6
      rw [ho] at h6
      exact hr _ h6
     ·obtain ⟨j,_,h7⟩:=List.any_eq_true.1 h6
      rw [Bool.and_eq_true] at h7
      have h8:=h7.1
      unfold depB at h8
      rw [ho] at h8
      exact reachB_shut hsh h7.2 (hr _ h8)
    have hmy:more L k V.length = true:=by rw [hmore _ (by omega)];exact hLy
    have hnew:∃ b',(∀ i,i < D.length→more L k i = true→upd x (D.getD k 0) ((V ++ .bool b :: V2 b).getD k undef) (D.getD i 0) = (V ++ .bool b' :: V2 b').getD i undef)∧(more L k V.length = false→Below w.heap.size w w1)∧(more L k V.length = true→Z b' w1):=by
     refine ⟨b,fun i hiD hm=>?_,(fun h=>by rw [hmy] at h;cases h),fun _=>hz hLy⟩
     by_cases hik:i = k
     ·subst hik;rw [upd_same]
     ·rw [hmore i hik] at hm
      rw [upd_other x _ (hslot i hiD hik)]
      exact hx i hiD hm
    rcases s3 hky b with ⟨h1,h2⟩ | ⟨h1,h2⟩
    ·rw [if_neg (by rw [h1];simp)]
     refine ⟨fun f _=>hF.fn f,?_⟩
     rw [hput,← h2]
     exact hR _ _ hnew
    ·rw [if_pos h1]
     refine ⟨fun f _=>hF.fn f,?_⟩
     rw [Oper.semAt_plain F _ o hndf,hex,h2 w1,Oper.uponIn_value,hput]
     exact hR _ _ hnew
  have all:∀ (m:List Oper) (k:Nat),(∀ j,m[j]? = l[k + j]?)→StepsI F n P l.toArray a D (fun L x w'=>∃ b,(∀ i,i < D.length→L i = true→x (D.getD i 0) = (V ++ .bool b :: V2 b).getD i undef)∧(L V.length = false→Below w.heap.size w w')∧(L V.length = true→Z b w')) k m:=by
   intro m
   induction m with
   | nil=>intro k _;trivial
   | cons o m ih =>
     intro k hk
     exact ⟨main k o (by simpa using (hk 0).symm),ih (k + 1) fun j=>by have:=hk (j + 1);simpa [Nat.add_assoc,Nat.add_comm 1 j] using this⟩
  exact all l 0 fun j=>by simp
 ·rintro x w' L hL ⟨b,h1,-,h3⟩
  have e:frameOf a D x = fin b:=by
   rw [← hfinp]
   refine frameOf_congr D _ _ a fun s hs=>?_
   obtain ⟨j,hj,rfl⟩:=List.getElem_of_mem hs
   have h4:=h1 j hj (hL j (by simpa using (by omega:j < l.length)))
   rw [List.getD_eq_getElem?_getD,List.getElem?_eq_getElem hj] at h4
   have h4:x D[j] = (V ++ .bool b :: V2 b).getD j undef:=h4
   unfold valOf
   rw [List.Nodup.idxOf_getElem hnd j hj]
   exact h4
  rw [e]
  exact hend b w' (h3 (hL _ hy))
end
end
end Go.Proofs.YteekjfgjmccdnaaGreatDoor
