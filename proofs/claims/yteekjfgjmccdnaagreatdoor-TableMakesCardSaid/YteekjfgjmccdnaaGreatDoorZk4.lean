/-
  Layer 11's answers as plain functions: the last firing ahead of a second, the first one behind it, instants, the latest one, those fired.
-/
import Derived.Laws.OwnMore
import Derived.Laws.AppendOwn
import Derived.Laws.AppendOwnNone
import Derived.Maps.AppendAt
import Derived.Lib.MinMax
import Derived.Lib.SplitLaws
import Derived.Lib.PathFns
import Derived.Lib.SmallJoins
import Derived.Test.YteekjfgjmccdnaaGreatDoorZk3
set_option maxHeartbeats 16000000
set_option maxRecDepth 100000
namespace Go.Proofs.YteekjfgjmccdnaaGreatDoor
section -- EnvW
open Go Go.RowKit
section
variable {P:Program} {n:Nat} {ops:Array Oper}
def envWB (ops:Array Oper) (D:List Nat) (s1 s2:Nat):Bool :=
 invB ops D && (List.range ops.size).all fun i=>match ops[i]? with
  | some o=>(match o.op with | .defer ..=>false | .select ..=>false | _=>true) && (if i = s1∨i = s2 then o.dst.isNone && o.guard.isNone else o.dst == some (D.getD i 0)) &&
    (o.looksAt ops).all fun s=>!D.contains s || (List.range i).any fun j=>D.getD j 0 == s && o.after.any fun e=>Region.binds .any e && e.on == j
  | none=>true
def aheadB (ops:Array Oper) (s1 s2 k:Nat):Bool:=depB ops s1 k && depB ops s2 k
def EnvWStep (P:Program) (ops:Array Oper) (fin:Act) (w0:World) (s1 s2 k:Nat) (o:Oper) (v:Value):Prop :=
 (k == s1 || k == s2) = true∨(Region.wanted o (yielded ops fin.tmps) = false∧v = undef)∨(Region.wanted o (yielded ops fin.tmps) = true∧∀ w,(aheadB ops s1 s2 k = true→w = w0)→(execOp fin.eval o).run P w = .ok (.value v) w)
def EnvWSteps (P:Program) (ops:Array Oper) (fin:Act) (w0:World) (s1 s2:Nat):Nat→List Oper→List Value→Prop
 | k,o :: l,v :: V=>EnvWStep P ops fin w0 s1 s2 k o v∧EnvWSteps P ops fin w0 s1 s2 (k + 1) l V
 | _,[],[]=>True
 | _,_,_=>False
theorem envWSteps_at {fin:Act} {w0:World} {s1 s2:Nat}:∀ {l:List Oper} {V:List Value} {k:Nat},EnvWSteps P ops fin w0 s1 s2 k l V→∀ {j:Nat} {o:Oper},l[j]? = some o→EnvWStep P ops fin w0 s1 s2 (k + j) o (V.getD j undef)
 | [],_,_,_,_,_,h=>by simp at h
 | _ :: _,[],_,hs,_,_,_=>hs.elim
 | x :: l,v :: V,k,hs,0,o,h=>by
   simp only [List.getElem?_cons_zero,Option.some.injEq] at h
   subst h
   exact hs.1
 | x :: l,v :: V,k,hs,j + 1,o,h=>by
   rw [List.getElem?_cons_succ] at h
   have:=envWSteps_at hs.2 h
   rw [show k + 1 + j = k + (j + 1) by omega] at this
   simpa using this
theorem envWSteps_len {fin:Act} {w0:World} {s1 s2:Nat}:∀ {l:List Oper} {V:List Value} {k:Nat},EnvWSteps P ops fin w0 s1 s2 k l V→V.length = l.length
 | [],[],_,_=>rfl
 | [],_ :: _,_,h=>h.elim
 | _ :: _,[],_,h=>h.elim
 | _ :: l,_ :: V,_,h=>by simp [envWSteps_len h.2]
theorem more_same (L:Nat→Bool) (k:Nat):more L k k = true:=by unfold more;rw [decide_eq_true rfl];rfl
def twoW (w0 wa wb wc wd:World):Bool→Bool→World→Prop
 | false,false,w=>w = w0
 | true,false,w=>w = wa
 | false,true,w=>w = wb
 | true,true,w=>w = wc∨w = wd
theorem wpIn_envW {F:Fence} (hF:Wide F) {id:Nat} {l:List Oper} {Q:Exit→Act→World→Prop} {a:Act} {w:World} (hm:P.follows .mixedOrders = true) (D:List Nat) (V:List Value) (s1 s2:Nat) (o1 o2:Oper) (wa wb wc wd:World)
  (hb:envWB l.toArray D s1 s2 = true) (hs1:l[s1]? = some o1) (hs2:l[s2]? = some o2) (hsz1:a.tmps.size ≤ D.getD s1 0) (hsz2:a.tmps.size ≤ D.getD s2 0) (hne:s1 ≠ s2) {fin:Act} (hfin:putAll a D V = fin)
  (hstep:EnvWSteps P l.toArray fin w.drew s1 s2 0 l V)
  (h1:(execOp fin.eval o1).run P w.drew = .ok .skip wa) (h2:(execOp fin.eval o2).run P w.drew = .ok .skip wb) (h12:(execOp fin.eval o2).run P wa = .ok .skip wc) (h21:(execOp fin.eval o1).run P wb = .ok .skip wd)
  (hend:∀ w',w' = wc∨w' = wd→Q .normal fin w'):(Code.region id l.toArray true).wpIn F n P Q a w:=by
 unfold envWB at hb
 rw [Bool.and_eq_true] at hb
 obtain ⟨hi,hb⟩:=hb
 have hi':=hi
 simp only [invB,Bool.and_eq_true,decide_eq_true_eq] at hi'
 obtain ⟨⟨-,hlen⟩,hnd⟩:=hi'
 have hV:V.length = D.length:=by rw [envWSteps_len hstep,hlen];simp
 have hfin:frameOf a D (valOf D V) = fin:=by
  rw [← hfin]
  exact putAll_eq D V a _ hV fun i hi=>by unfold valOf;rw [idxOf_getD hnd hi]
 refine wpIn_inv hm D (fun L x w'=>(∀ i,i < D.length→L i = true→x (D.getD i 0) = V.getD i undef)∧twoW w.drew wa wb wc wd (L s1) (L s2) w') hi (fun x=>⟨(fun i _ h=>by cases h),rfl⟩) ?_ ?_
 ·have main:∀ (i:Nat) (o:Oper),l[i]? = some o→StepI F n P l.toArray a D (fun L x w'=>(∀ i,i < D.length→L i = true→x (D.getD i 0) = V.getD i undef)∧twoW w.drew wa wb wc wd (L s1) (L s2) w') i o:=by
   intro k o hlk L x w1 R hI hsh hLk hr hR
   obtain ⟨hx,htw⟩:=hI
   have hkl:k < l.length:=(List.getElem?_eq_some_iff.1 hlk).1
   have ho:l.toArray[k]? = some o:=by simpa using hlk
   have hkD:k < D.length:=by rw [hlen];simpa using hkl
   have hst1:=envWSteps_at hstep hlk
   rw [Nat.zero_add] at hst1
   have hb1:=List.all_eq_true.1 hb k (List.mem_range.2 (by simpa using hkl))
   rw [ho] at hb1
   simp only [Bool.and_eq_true] at hb1
   obtain ⟨⟨hop,hdst⟩,hlook⟩:=hb1
   have hndf:∀ c,o.op ≠ .defer c:=fun c hc=>by rw [hc] at hop;cases hop
   have hnsl:∀ cs b,o.op ≠ .select cs b:=fun c b hc=>by rw [hc] at hop;cases hop
   have hsame:∀ s,s ∈ o.looksAt l.toArray→(frameOf a D x).tmps[s]? = fin.tmps[s]?:=by
    intro s hs
    rw [← hfin,frameOf_tmps,frameOf_tmps]
    by_cases hD:s ∈ D
    ·have:=List.all_eq_true.1 hlook s hs
     rw [Bool.or_eq_true] at this
     rcases this with h | h
     ·simp [hD] at h
     ·obtain ⟨j,hj,hj2⟩:=List.any_eq_true.1 h
      rw [Bool.and_eq_true] at hj2
      obtain ⟨hjs,hje⟩:=hj2
      have hjs:D.getD j 0 = s:=by simpa using hjs
      have hjk:=List.mem_range.1 hj
      have h1:=hx j (by omega) (hr j hje)
      rw [hjs] at h1
      have h2:x s = valOf D V s:=by
       have e:D.idxOf s = j:=by rw [← hjs];exact idxOf_getD hnd (by omega)
       unfold valOf
       rw [e]
       exact h1
      rw [h2]
    ·simp [hD]
   have hev:∀ y ∈ o.op.operands,(frameOf a D x).eval y = fin.eval y:=by
    intro y hy
    cases y with
    | tmp s =>
      have h1:=hsame s (List.mem_append_left _ (List.mem_filterMap.2 ⟨.tmp s,by simpa using hy,rfl⟩))
      show (frameOf a D x).tmps.getD s undef = fin.tmps.getD s undef
      simp only [Array.getD_eq_getD_getElem?,h1]
    | _=>rfl
   have hex:=execOp_congr (ρ:=(frameOf a D x).eval) (ρ':=fin.eval) o hnsl hev
   have hwa:Region.wanted o (yielded l.toArray (frameOf a D x).tmps) = Region.wanted o (yielded l.toArray fin.tmps):=by
    unfold Region.wanted
    cases hg:o.guard with
    | none=>rfl
    | some g =>
      obtain ⟨g,b⟩:=g
      dsimp only
      unfold yielded
      cases hd:(l.toArray[g]?).bind (·.dst) with
      | none=>rfl
      | some d =>
        have h1:=hsame d (List.mem_append_right _ (by rw [hg];show d ∈ ((l.toArray[g]?).bind (·.dst)).toList;rw [hd];simp))
        simp only [Option.bind_some,h1]
   have hmem:D.getD k 0 ∈ D:=by rw [List.getD_eq_getElem?_getD,List.getElem?_eq_getElem hkD];exact List.getElem_mem hkD
   have hnew:∀ w',twoW w.drew wa wb wc wd (more L k s1) (more L k s2) w' →
     ((∀ i,i < D.length→more L k i = true→upd x (D.getD k 0) (V.getD k undef) (D.getD i 0) = V.getD i undef)∧twoW w.drew wa wb wc wd (more L k s1) (more L k s2) w'):=by
    intro w' h1
    refine ⟨fun i hiD hm=>?_,h1⟩
    by_cases hik:i = k
    ·subst hik;rw [upd_same]
    ·have hne:D.getD i 0 ≠ D.getD k 0:=by
      rw [List.getD_eq_getElem?_getD,List.getD_eq_getElem?_getD,List.getElem?_eq_getElem hiD,List.getElem?_eq_getElem hkD]
      intro e
      simp only [Option.getD_some] at e
      have hpw:=List.pairwise_iff_getElem.1 hnd
      rcases Nat.lt_or_ge i k with h | h
      ·exact hpw i k hiD hkD h e
      ·exact hpw k i hkD hiD (by omega) e.symm
     rw [upd_other x _ hne]
     have:L i = true:=by
      unfold more at hm
      rw [decide_eq_false hik] at hm
      simpa using hm
     exact hx i hiD this
   have hkeep:∀ s,s ≠ k→more L k s = L s:=fun s hs=>by
    unfold more
    rw [decide_eq_false hs,Bool.false_or]
   unfold wpListIn
   rw [hwa]
   by_cases hks:k = s1∨k = s2
   ·rw [if_pos hks] at hdst
    simp only [Bool.and_eq_true] at hdst
    have hdn:o.dst = none:=by simpa using hdst.1
    have hgn:o.guard = none:=by simpa using hdst.2
    have hwt:Region.wanted o (yielded l.toArray fin.tmps) = true:=by unfold Region.wanted;rw [hgn]
    have hsz:a.tmps.size ≤ D.getD k 0:=by rcases hks with rfl | rfl <;> assumption
    have e:(frameOf a D x).put none undef = frameOf a D (upd x (D.getD k 0) (V.getD k undef)):=by
     show frameOf a D x = _
     have h1:(frameOf a D x).tmps = (frameOf a D (upd x (D.getD k 0) (V.getD k undef))).tmps:=by
      apply Array.ext_getElem?
      intro s
      rw [frameOf_tmps,frameOf_tmps]
      by_cases hs:s < a.tmps.size
      ·rw [upd_other x _ (show s ≠ D.getD k 0 by omega)]
      ·simp [hs]
     have h2:(frameOf a D x).defers = (frameOf a D (upd x (D.getD k 0) (V.getD k undef))).defers:=by rw [frameOf_defers,frameOf_defers]
     generalize frameOf a D x = p1 at h1 h2
     generalize frameOf a D (upd x (D.getD k 0) (V.getD k undef)) = q1 at h1 h2
     cases p1
     cases q1
     simp only at h1 h2
     subst h1 h2
     rfl
    rw [if_pos hwt]
    refine ⟨fun f _=>hF.fn f,?_⟩
    rw [Oper.semAt_plain F _ o hndf,hex]
    have hrun:∃ w',(execOp fin.eval o).run P w1 = .ok .skip w'∧twoW w.drew wa wb wc wd (more L k s1) (more L k s2) w':=by
     rcases hks with rfl | rfl
     ·obtain rfl:o = o1:=by rw [hlk] at hs1;exact Option.some.inj hs1
      rw [hkeep s2 (fun h=>hne h.symm),more_same]
      rw [hLk] at htw
      cases hL2:L s2 with
      | true=>rw [hL2] at htw;cases htw;exact ⟨_,h21,.inr rfl⟩
      | false=>rw [hL2] at htw;cases htw;exact ⟨_,h1,rfl⟩
     ·obtain rfl:o = o2:=by rw [hlk] at hs2;exact Option.some.inj hs2
      rw [hkeep s1 hne,more_same]
      rw [hLk] at htw
      cases hL2:L s1 with
      | true=>rw [hL2] at htw;cases htw;exact ⟨_,h12,.inl rfl⟩
      | false=>rw [hL2] at htw;cases htw;exact ⟨_,h2,rfl⟩
    obtain ⟨w',hr',htw'⟩:=hrun
    rw [hr',Oper.uponIn_skip,hdn,e]
    exact hR _ _ (hnew w' htw')
   ·rw [if_neg hks] at hdst
    have hput:∀ v,(frameOf a D x).put o.dst v = frameOf a D (upd x (D.getD k 0) v):=fun v=>by
     have hdst:o.dst = some (D.getD k 0):=by simpa using hdst
     rw [hdst]
     exact frameOf_put D x a _ hmem v
    have htw':twoW w.drew wa wb wc wd (more L k s1) (more L k s2) w1:=by
     rw [hkeep s1 (fun h=>hks (.inl h.symm)),hkeep s2 (fun h=>hks (.inr h.symm))]
     exact htw
    rcases hst1 with h0 | ⟨h1,h2⟩ | ⟨h1,h2⟩
    ·exact absurd (by simpa using h0) hks
    ·rw [if_neg (by rw [h1];simp)]
     refine ⟨fun f _=>hF.fn f,?_⟩
     rw [hput,← h2]
     exact hR _ _ (hnew w1 htw')
    ·rw [if_pos h1]
     refine ⟨fun f _=>hF.fn f,?_⟩
     rw [Oper.semAt_plain F _ o hndf,hex,h2 w1 (fun h=>by
      unfold aheadB at h
      rw [Bool.and_eq_true] at h
      have g1:L s1 = false:=by
       cases h3:L s1 with
       | false=>rfl
       | true=>rw [hsh s1 k h.1 h3] at hLk;cases hLk
      have g2:L s2 = false:=by
       cases h3:L s2 with
       | false=>rfl
       | true=>rw [hsh s2 k h.2 h3] at hLk;cases hLk
      rw [g1,g2] at htw
      exact htw),Oper.uponIn_value,hput]
     exact hR _ _ (hnew w1 htw')
  have all:∀ (m:List Oper) (k:Nat),(∀ j,m[j]? = l[k + j]?)→StepsI F n P l.toArray a D (fun L x w'=>(∀ i,i < D.length→L i = true→x (D.getD i 0) = V.getD i undef)∧twoW w.drew wa wb wc wd (L s1) (L s2) w') k m:=by
   intro m
   induction m with
   | nil=>intro k _;trivial
   | cons o m ih =>
     intro k hk
     exact ⟨main k o (by simpa using (hk 0).symm),ih (k + 1) fun j=>by have:=hk (j + 1);simpa [Nat.add_assoc,Nat.add_comm 1 j] using this⟩
  exact all l 0 fun j=>by simp
 ·rintro x w' L hL ⟨h2,h3⟩
  have e:frameOf a D x = fin:=by
   rw [← hfin]
   refine frameOf_congr D _ _ a fun s hs=>?_
   obtain ⟨j,hj,rfl⟩:=List.getElem_of_mem hs
   have h4:=h2 j hj (hL j (by omega))
   rw [List.getD_eq_getElem?_getD,List.getElem?_eq_getElem hj] at h4
   have h4:x D[j] = V.getD j undef:=h4
   unfold valOf
   rw [List.Nodup.idxOf_getElem hnd j hj]
   exact h4
  rw [e]
  have g1:=(List.getElem?_eq_some_iff.1 hs1).1
  have g2:=(List.getElem?_eq_some_iff.1 hs2).1
  rw [hL s1 (by simpa using g1),hL s2 (by simpa using g2)] at h3
  exact hend _ h3
theorem wp_envW {id:Nat} {l:List Oper} {Q:Exit→Act→World→Prop} {a:Act} {w:World} (hm:P.follows .mixedOrders = true) (D:List Nat) (V:List Value) (s1 s2:Nat) (o1 o2:Oper) (wa wb wc wd:World)
  (hb:envWB l.toArray D s1 s2 = true) (hs1:l[s1]? = some o1) (hs2:l[s2]? = some o2) (hsz1:a.tmps.size ≤ D.getD s1 0) (hsz2:a.tmps.size ≤ D.getD s2 0) (hne:s1 ≠ s2) {fin:Act} (hfin:putAll a D V = fin)
  (hstep:EnvWSteps P l.toArray fin w.drew s1 s2 0 l V)
  (h1:(execOp fin.eval o1).run P w.drew = .ok .skip wa) (h2:(execOp fin.eval o2).run P w.drew = .ok .skip wb) (h12:(execOp fin.eval o2).run P wa = .ok .skip wc) (h21:(execOp fin.eval o1).run P wb = .ok .skip wd)
  (hend:∀ w',w' = wc∨w' = wd→Q .normal fin w'):(Code.region id l.toArray true).wp P Q a w :=
 (wpIn_wide (n:=8)).1 (wpIn_envW wide0 hm D V s1 s2 o1 o2 wa wb wc wd hb hs1 hs2 hsz1 hsz2 hne hfin hstep h1 h2 h12 h21 hend)
end
end
section -- FBase
open Go Go.RowKit Go.Shelf
structure Fir where
 nominal:Int
 kind:Int
 save:Int
 letter:ByteArray
def firV (x:Fir):List Value:=[.int .i64 x.nominal,.int .i64 x.kind,.int .i64 x.save,.string x.letter]
def firA (x:Fir):Value:=.agg #[.int .i64 x.nominal,.int .i64 x.kind,.int .i64 x.save,.string x.letter]
def firsV (l:List Fir):List Value:=l.flatMap firV
theorem length_firsV (l:List Fir):(firsV l).length = l.length * 4:=by
 induction l with
 | nil=>rfl
 | cons c l ih=>simp only [firsV,List.flatMap_cons,List.length_append,List.length_cons,firV,List.length_nil] at ih ⊢;omega
theorem firsV_append (l m:List Fir):firsV (l ++ m) = firsV l ++ firsV m:=by simp [firsV]
theorem firsV_cons (x:Fir) (m:List Fir):firsV (x :: m) = firV x ++ firsV m:=by simp [firsV]
def RwF (W:World) (base g cap n:Nat) (d:List Fir):Prop:=d.length = n∧W.ownsRow base 112 4 (.slice (some ⟨g,0,none⟩) n cap) n (firsV d)
section
variable {W W':World} {base g cap n:Nat} {A C d:List Fir} {x y:Fir}
theorem RwF.at_ (h:RwF W base g cap n (A ++ x :: C)):W.cell? ⟨g,A.length * 4,none⟩ = some (.int .i64 x.nominal)∧W.cell? ⟨g,A.length * 4 + 1,none⟩ = some (.int .i64 x.kind)∧W.cell? ⟨g,A.length * 4 + 2,none⟩ = some (.int .i64 x.save)∧W.cell? ⟨g,A.length * 4 + 3,none⟩ = some (.string x.letter):=by
 have hl:=h.1
 rw [List.length_append,List.length_cons] at hl
 have hc:∀ i,i < 4→W.cell? ⟨g,A.length * 4 + i,none⟩ = (firV x)[i]?:=fun i hi=>by
  rw [h.2.cellAt _ (by omega),firsV_append,firsV_cons,List.getElem?_append_right (by rw [length_firsV];omega),length_firsV,Nat.add_sub_cancel_left,List.getElem?_append_left (by simp [firV];omega)]
 exact ⟨hc 0 (by omega),hc 1 (by omega),hc 2 (by omega),hc 3 (by omega)⟩
theorem RwF.at2 {Q:List Fir} (h:RwF W base g cap n (A ++ y :: (Q ++ x :: C))):W.cell? ⟨g,(A.length + 1 + Q.length) * 4,none⟩ = some (.int .i64 x.nominal)∧W.cell? ⟨g,(A.length + 1 + Q.length) * 4 + 1,none⟩ = some (.int .i64 x.kind)∧W.cell? ⟨g,(A.length + 1 + Q.length) * 4 + 2,none⟩ = some (.int .i64 x.save)∧W.cell? ⟨g,(A.length + 1 + Q.length) * 4 + 3,none⟩ = some (.string x.letter):=by
 have h1:RwF W base g cap n ((A ++ y :: Q) ++ x :: C):=by simpa using h
 have h2:=h1.at_
 rwa [show (A ++ y :: Q).length = A.length + 1 + Q.length by simp;omega] at h2
end
end
section -- Fire
open Go Go.RowKit Go.Shelf
structure Rul where
 name:ByteArray
 from_:Int
 to_:Int
 month:Int
 dk:Int
 dw:Int
 dn:Int
 sec:Int
 kind:Int
 save:Int
 letter:ByteArray
def rulV (r:Rul):List Value:=[.string r.name,.int .i64 r.from_,.int .i64 r.to_,.int .i64 r.month,.int .i64 r.dk,.int .i64 r.dw,.int .i64 r.dn,.int .i64 r.sec,.int .i64 r.kind,.int .i64 r.save,.string r.letter]
def rulA (r:Rul):Value:=.agg #[.string r.name,.int .i64 r.from_,.int .i64 r.to_,.int .i64 r.month,.int .i64 r.dk,.int .i64 r.dw,.int .i64 r.dn,.int .i64 r.sec,.int .i64 r.kind,.int .i64 r.save,.string r.letter]
abbrev RulB (W:World) (b:Nat) (r:Rul):Prop:=Blk W b 106 #[.string r.name,.int .i64 r.from_,.int .i64 r.to_,.int .i64 r.month,.int .i64 r.dk,.int .i64 r.dw,.int .i64 r.dn,.int .i64 r.sec,.int .i64 r.kind,.int .i64 r.save,.string r.letter]
def Fir.zero:Fir:=⟨0,0,0,⟨#[]⟩⟩
def inOkB (k wk n y m:Int):Bool:=inB k wk n y m && (decide (k = 0) || ofInB (inDay k wk n y m))
def ofB (r:Rul) (y:Int):Bool:=decide (r.from_ ≤ y∧y ≤ r.to_) && (inOkB r.dk r.dw r.dn y r.month && mayB r.sec)
def firOf (r:Rul) (y:Int):Fir:=⟨inDay r.dk r.dw r.dn y r.month * 86400 + r.sec,r.kind,r.save,r.letter⟩
def ofV (r:Rul) (y:Int):Fir:=if ofB r y then firOf r y else .zero
theorem in_ok {k wk n y m:Int} (h:inOkB k wk n y m = true):∃ Y M D,inA k wk n y m = dateA Y M D∧inE k wk n y m = 0∧dateB Y M D = true∧dayV Y M D = inDay k wk n y m:=by
 unfold inOkB at h
 rw [Bool.and_eq_true,Bool.or_eq_true,decide_eq_true_eq] at h
 obtain ⟨h1,h2⟩:=h
 by_cases h0:k = 0
 ·refine ⟨y,m,n,by unfold inA;rw [if_pos h1,if_pos h0],by unfold inE;rw [if_pos h1,if_pos h0],?_,by unfold inDay;rw [if_pos h0]⟩
  unfold inB dayOkB at h1
  unfold dateB
  simp only [Bool.and_eq_true,decide_eq_true_eq] at h1 ⊢
  exact ⟨h1.1.2,by omega,h1.2⟩
 ·have h2:=h2.resolve_left h0
  have h3:=h2
  unfold ofInB at h3
  rw [decide_eq_true_eq] at h3
  have h4:=of_date h3.1 h3.2
  exact ⟨_,_,_,by unfold inA ofA;rw [if_pos h1,if_neg h0,if_pos h2],by unfold inE ofE_;rw [if_pos h1,if_neg h0,if_pos h2],h4.1,h4.2⟩
theorem in_no {k wk n y m:Int} (h:inOkB k wk n y m = false):(∃ Y M D,inA k wk n y m = dateA Y M D)∧inE k wk n y m = 10:=by
 unfold inOkB at h
 unfold inA inE ofA ofE_
 cases h1:inB k wk n y m with
 | false=>exact ⟨⟨_,_,_,rfl⟩,rfl⟩
 | true =>
   rw [h1,Bool.true_and,Bool.or_eq_false_iff,decide_eq_false_iff_not] at h
   rw [if_pos rfl,if_neg h.1,h.2,if_pos rfl,if_neg h.1]
   exact ⟨⟨_,_,_,rfl⟩,rfl⟩
theorem fof_any (r:Rul) (y:Int) (w:World) (ha:Ahead w) :
  Calls Tryz.prog 129 #[rulA r,.int .i64 y] w fun e w'=>e = .returned (.tuple #[firA (ofV r y),.bool (ofB r y)])∧Below w.heap.size w w':=by
 have HB0:=Lib.hid (show Below w.heap.size w ((w.alloc (.cells (rulV r).toArray 106)).alloc (.cells #[.int .i64 0,.int .i64 0,.int .i64 0,.string ⟨#[]⟩] 112)) from ((Below.refl _ _).alloc (Nat.le_refl _) _).alloc (by simp) _)
 have b0:RulB ((w.alloc (.cells (rulV r).toArray 106)).alloc (.cells #[.int .i64 0,.int .i64 0,.int .i64 0,.string ⟨#[]⟩] 112)) w.heap.size r:=(Blk.new w 106 (rulV r).toArray).alloc (.cells #[.int .i64 0,.int .i64 0,.int .i64 0,.string ⟨#[]⟩] 112)
 have b1:=Blk.new (w.alloc (.cells (rulV r).toArray 106)) 112 #[.int .i64 0,.int .i64 0,.int .i64 0,.string ⟨#[]⟩]
 rw [World.size_alloc] at b1
 unfold rulV at HB0 b0 b1
 have HI:=Lib.hid (And.intro b0 b1)
 have q1:=Blk.cell b0 1 (v:=.int .i64 r.from_) rfl
 have q2:=Blk.cell b0 2 (v:=.int .i64 r.to_) rfl
 have q3:=Blk.cell b0 3 (v:=.int .i64 r.month) rfl
 have q4:=Blk.cell b0 4 (v:=.int .i64 r.dk) rfl
 have q5:=Blk.cell b0 5 (v:=.int .i64 r.dw) rfl
 have q6:=Blk.cell b0 6 (v:=.int .i64 r.dn) rfl
 have r0:=b1.cell 0 (v:=.int .i64 0) rfl
 have r1:=b1.cell 1 (v:=.int .i64 0) rfl
 have r2:=b1.cell 2 (v:=.int .i64 0) rfl
 have r3:=b1.cell 3 (v:=.string ⟨#[]⟩) rfl
 have g0:=b1.frozen 0
 have g1:=b1.frozen 1
 have g2:=b1.frozen 2
 have g3:=b1.frozen 3
 have HN:=Lib.hid (in_any r.dk r.dw r.dn y r.month ((w.alloc (.cells (rulV r).toArray 106)).alloc (.cells #[.int .i64 0,.int .i64 0,.int .i64 0,.string ⟨#[]⟩] 112)) (ha.below HB0.out (Nat.le_refl _)))
 clear b0 b1
 unfold rulV dayA at HN
 by_cases h1:y < r.from_
 ·have e1:ofB r y = false:=by unfold ofB;rw [decide_eq_false (by omega)];rfl
  have e2:ofV r y = .zero:=by unfold ofV;rw [e1];rfl
  rw [e1,e2]
  have hd:decide (y < r.from_) = true:=decide_eq_true h1
  unfold rulA firA Fir.zero
  clear e1 e2
  go_enter Tryz.func129,Tryz.ntmps129
  go_wp2_with fail
  refine bodyPost_ret (v:=.tuple #[.agg #[.int .i64 0,.int .i64 0,.int .i64 0,.string ⟨#[]⟩],.bool false]) ?_ rfl ⟨rfl,HB0.out⟩
  simp [results,Tryz.f129,go_sem,r0,r1,r2,r3]
 ·have hd:decide (y < r.from_) = false:=decide_eq_false h1
  by_cases h2:r.to_ < y
  ·have e1:ofB r y = false:=by unfold ofB;rw [decide_eq_false (by omega)];rfl
   have e2:ofV r y = .zero:=by unfold ofV;rw [e1];rfl
   rw [e1,e2]
   have hd2:decide (r.to_ < y) = true:=decide_eq_true h2
   unfold rulA firA Fir.zero
   clear e1 e2
   go_enter Tryz.func129,Tryz.ntmps129
   go_wp2_with fail
   refine bodyPost_ret (v:=.tuple #[.agg #[.int .i64 0,.int .i64 0,.int .i64 0,.string ⟨#[]⟩],.bool false]) ?_ rfl ⟨rfl,HB0.out⟩
   simp [results,Tryz.f129,go_sem,r0,r1,r2,r3]
  ·have hd2:decide (r.to_ < y) = false:=decide_eq_false h2
   have HM:=Lib.hid (show ofB r y = (inOkB r.dk r.dw r.dn y r.month && mayB r.sec) by unfold ofB;rw [decide_eq_true (by omega)];rfl)
   cases hin:inOkB r.dk r.dw r.dn y r.month with
   | false =>
     obtain ⟨⟨Y,M,D,eA⟩,eE⟩:=in_no hin
     have e1:ofB r y = false:=by rw [HM.out,hin];rfl
     have e2:ofV r y = .zero:=by unfold ofV;rw [e1];rfl
     rw [eA,eE] at HN
     unfold dateA at HN
     rw [e1,e2]
     unfold rulA firA Fir.zero
     clear e1 e2 eA eE hin h1 h2
     go_enter Tryz.func129,Tryz.ntmps129
     go_wp2_with fail
     refine HN.out.mono ?_
     rintro e w1 ⟨rfl,hb⟩
     have h0:=Blk.below HI.out.1 hb HI.out.1.lt
     have h1:=HI.out.2.below hb HI.out.2.lt
     have hb1:=HB0.out.trans (hb.mono HB0.out.size)
     have HBW:=Lib.hid (hb1.alloc hb1.size (.cells #[.int .i64 Y,.int .i64 M,.int .i64 D] 44))
     have HRB:=Lib.hid (show RulB (w1.alloc (.cells #[.int .i64 Y,.int .i64 M,.int .i64 D] 44)) w.heap.size r from Blk.alloc h0 _)
     have HFB1:=Lib.hid (h1.alloc (.cells #[.int .i64 Y,.int .i64 M,.int .i64 D] 44))
     have HDB:=Lib.hid (Blk.new w1 44 #[.int .i64 Y,.int .i64 M,.int .i64 D])
     have HAW:=Lib.hid (ha.below HBW.out (Nat.le_refl _))
     have q7:=Blk.cell h0 7 (v:=.int .i64 r.sec) rfl
     have q8:=Blk.cell h0 8 (v:=.int .i64 r.kind) rfl
     have q9:=Blk.cell h0 9 (v:=.int .i64 r.save) rfl
     have q10:=Blk.cell h0 10 (v:=.string r.letter) rfl
     have r0:=h1.cell 0 (v:=.int .i64 0) rfl
     have r1:=h1.cell 1 (v:=.int .i64 0) rfl
     have r2:=h1.cell 2 (v:=.int .i64 0) rfl
     have r3:=h1.cell 3 (v:=.string ⟨#[]⟩) rfl
     have g0:=h1.frozen 0
     have g1:=h1.frozen 1
     have g2:=h1.frozen 2
     have g3:=h1.frozen 3
     have hl0:=Blk.lt h0
     have hl1:=h1.lt
     have HF1:=Lib.hid h1
     have HB1W:=Lib.hid hb1
     clear hb h0 h1 hb1 q1 q2 q3 q4 q5 q6
     go_wp2_with fail
     have HW:=((((HF1.out.set 0 (.int .i64 0)).set 1 (.int .i64 0)).set 2 (.int .i64 0)).set 3 (.string ⟨#[]⟩)).alloc (.cells #[.int .i64 Y,.int .i64 M,.int .i64 D] 44)
     refine bodyPost_ret (v:=.tuple #[.agg #[.int .i64 0,.int .i64 0,.int .i64 0,.string ⟨#[]⟩],.bool false]) ?_ rfl ⟨rfl,(below_set4 HB1W.out (by omega) _ _ _ _).alloc (by have:=HB1W.out.size;simpa using this) _⟩
     have v0:=HW.cell 0 (v:=.int .i64 0) rfl
     have v1:=HW.cell 1 (v:=.int .i64 0) rfl
     have v2:=HW.cell 2 (v:=.int .i64 0) rfl
     have v3:=HW.cell 3 (v:=.string ⟨#[]⟩) rfl
     simp [results,Tryz.f129,go_sem,v0,v1,v2,v3]
   | true =>
     obtain ⟨Y,M,D,eA,eE,hdt,hdv⟩:=in_ok hin
     have hdr:=dayV_in hdt
     rw [eA,eE] at HN
     have HJ:=Lib.hid (fun W h=>join_any Y M D r.sec W h)
     rw [hdt,hdv] at HJ
     rw [hdv] at hdr
     simp only [Bool.true_and] at HJ
     unfold dateA at HN HJ
     cases hs:mayB r.sec with
     | false =>
       have e1:ofB r y = false:=by rw [HM.out,hin,hs];rfl
       have e2:ofV r y = .zero:=by unfold ofV;rw [e1];rfl
       rw [hs] at HJ
       simp only [Bool.false_eq_true,if_false] at HJ
       rw [e1,e2]
       unfold rulA firA Fir.zero
       clear e1 e2 eA eE hin h1 h2 hdt hdv hs
       go_enter Tryz.func129,Tryz.ntmps129
       go_wp2_with fail
       refine HN.out.mono ?_
       rintro e w1 ⟨rfl,hb⟩
       have h0:=Blk.below HI.out.1 hb HI.out.1.lt
       have h1:=HI.out.2.below hb HI.out.2.lt
       have hb1:=HB0.out.trans (hb.mono HB0.out.size)
       have HBW:=Lib.hid (hb1.alloc hb1.size (.cells #[.int .i64 Y,.int .i64 M,.int .i64 D] 44))
       have HRB:=Lib.hid (show RulB (w1.alloc (.cells #[.int .i64 Y,.int .i64 M,.int .i64 D] 44)) w.heap.size r from Blk.alloc h0 _)
       have HFB1:=Lib.hid (h1.alloc (.cells #[.int .i64 Y,.int .i64 M,.int .i64 D] 44))
       have HDB:=Lib.hid (Blk.new w1 44 #[.int .i64 Y,.int .i64 M,.int .i64 D])
       have HAW:=Lib.hid (ha.below HBW.out (Nat.le_refl _))
       have q7:=Blk.cell h0 7 (v:=.int .i64 r.sec) rfl
       have q8:=Blk.cell h0 8 (v:=.int .i64 r.kind) rfl
       have q9:=Blk.cell h0 9 (v:=.int .i64 r.save) rfl
       have q10:=Blk.cell h0 10 (v:=.string r.letter) rfl
       have r0:=h1.cell 0 (v:=.int .i64 0) rfl
       have r1:=h1.cell 1 (v:=.int .i64 0) rfl
       have r2:=h1.cell 2 (v:=.int .i64 0) rfl
       have r3:=h1.cell 3 (v:=.string ⟨#[]⟩) rfl
       have g0:=h1.frozen 0
       have g1:=h1.frozen 1
       have g2:=h1.frozen 2
       have g3:=h1.frozen 3
       have hl0:=Blk.lt h0
       have hl1:=h1.lt
       have HF1:=Lib.hid h1
       have HB1W:=Lib.hid hb1
       clear hb h0 h1 hb1 q1 q2 q3 q4 q5 q6
       go_wp2_with fail
       refine (HJ.out _ HAW.out).mono ?_
       rintro e w2 ⟨rfl,hb⟩
       have h0:=Blk.below HRB.out hb (Blk.lt HRB.out)
       have h1:=HFB1.out.below hb HFB1.out.lt
       have HBX:=Lib.hid (HBW.out.trans (hb.mono HBW.out.size))
       have HFB:=Lib.hid h1
       have q7:=Blk.cell h0 7 (v:=.int .i64 r.sec) rfl
       have q8:=Blk.cell h0 8 (v:=.int .i64 r.kind) rfl
       have q9:=Blk.cell h0 9 (v:=.int .i64 r.save) rfl
       have q10:=Blk.cell h0 10 (v:=.string r.letter) rfl
       have r0:=h1.cell 0 (v:=.int .i64 0) rfl
       have r1:=h1.cell 1 (v:=.int .i64 0) rfl
       have r2:=h1.cell 2 (v:=.int .i64 0) rfl
       have r3:=h1.cell 3 (v:=.string ⟨#[]⟩) rfl
       have g0:=h1.frozen 0
       have g1:=h1.frozen 1
       have g2:=h1.frozen 2
       have g3:=h1.frozen 3
       clear hb h0 h1
       go_wp2_with fail
       have HW:=(((HFB.out.set 0 (.int .i64 0)).set 1 (.int .i64 0)).set 2 (.int .i64 0)).set 3 (.string ⟨#[]⟩)
       refine bodyPost_ret (v:=.tuple #[.agg #[.int .i64 0,.int .i64 0,.int .i64 0,.string ⟨#[]⟩],.bool false]) ?_ rfl ⟨rfl,below_set4 HBX.out (by omega) _ _ _ _⟩
       have v0:=HW.cell 0 (v:=.int .i64 0) rfl
       have v1:=HW.cell 1 (v:=.int .i64 0) rfl
       have v2:=HW.cell 2 (v:=.int .i64 0) rfl
       have v3:=HW.cell 3 (v:=.string ⟨#[]⟩) rfl
       simp [results,Tryz.f129,go_sem,v0,v1,v2,v3]
     | true =>
       have e1:ofB r y = true:=by rw [HM.out,hin,hs];rfl
       have e2:ofV r y = firOf r y:=by unfold ofV;rw [e1];rfl
       rw [hs] at HJ
       simp only [if_true] at HJ
       rw [e1,e2]
       unfold rulA firA firOf
       unfold mayB at hs
       rw [decide_eq_true_eq] at hs
       generalize inDay r.dk r.dw r.dn y r.month = v at *
       clear e1 e2 eA eE hin h1 h2 hdt hdv HM
       go_enter Tryz.func129,Tryz.ntmps129
       go_wp2_with fail
       refine HN.out.mono ?_
       rintro e w1 ⟨rfl,hb⟩
       have h0:=Blk.below HI.out.1 hb HI.out.1.lt
       have h1:=HI.out.2.below hb HI.out.2.lt
       have hb1:=HB0.out.trans (hb.mono HB0.out.size)
       have HBW:=Lib.hid (hb1.alloc hb1.size (.cells #[.int .i64 Y,.int .i64 M,.int .i64 D] 44))
       have HRB:=Lib.hid (show RulB (w1.alloc (.cells #[.int .i64 Y,.int .i64 M,.int .i64 D] 44)) w.heap.size r from Blk.alloc h0 _)
       have HFB1:=Lib.hid (h1.alloc (.cells #[.int .i64 Y,.int .i64 M,.int .i64 D] 44))
       have HDB:=Lib.hid (Blk.new w1 44 #[.int .i64 Y,.int .i64 M,.int .i64 D])
       have HAW:=Lib.hid (ha.below HBW.out (Nat.le_refl _))
       have q7:=Blk.cell h0 7 (v:=.int .i64 r.sec) rfl
       have q8:=Blk.cell h0 8 (v:=.int .i64 r.kind) rfl
       have q9:=Blk.cell h0 9 (v:=.int .i64 r.save) rfl
       have q10:=Blk.cell h0 10 (v:=.string r.letter) rfl
       have r0:=h1.cell 0 (v:=.int .i64 0) rfl
       have r1:=h1.cell 1 (v:=.int .i64 0) rfl
       have r2:=h1.cell 2 (v:=.int .i64 0) rfl
       have r3:=h1.cell 3 (v:=.string ⟨#[]⟩) rfl
       have g0:=h1.frozen 0
       have g1:=h1.frozen 1
       have g2:=h1.frozen 2
       have g3:=h1.frozen 3
       have hl0:=Blk.lt h0
       have hl1:=h1.lt
       have HF1:=Lib.hid h1
       have HB1W:=Lib.hid hb1
       clear hb h0 h1 hb1 q1 q2 q3 q4 q5 q6
       go_wp2_with fail
       refine (HJ.out _ HAW.out).mono ?_
       rintro e w2 ⟨rfl,hb⟩
       have h0:=Blk.below HRB.out hb (Blk.lt HRB.out)
       have h1:=HFB1.out.below hb HFB1.out.lt
       have HBX:=Lib.hid (HBW.out.trans (hb.mono HBW.out.size))
       have HFB:=Lib.hid h1
       have q7:=Blk.cell h0 7 (v:=.int .i64 r.sec) rfl
       have q8:=Blk.cell h0 8 (v:=.int .i64 r.kind) rfl
       have q9:=Blk.cell h0 9 (v:=.int .i64 r.save) rfl
       have q10:=Blk.cell h0 10 (v:=.string r.letter) rfl
       have r0:=h1.cell 0 (v:=.int .i64 0) rfl
       have r1:=h1.cell 1 (v:=.int .i64 0) rfl
       have r2:=h1.cell 2 (v:=.int .i64 0) rfl
       have r3:=h1.cell 3 (v:=.string ⟨#[]⟩) rfl
       have g0:=h1.frozen 0
       have g1:=h1.frozen 1
       have g2:=h1.frozen 2
       have g3:=h1.frozen 3
       clear hb h0 h1
       go_wp2_with fail
       have HW:=(((HFB.out.set 0 (.int .i64 (v * 86400 + r.sec))).set 1 (.int .i64 r.kind)).set 2 (.int .i64 r.save)).set 3 (.string r.letter)
       refine bodyPost_ret (v:=.tuple #[.agg #[.int .i64 (v * 86400 + r.sec),.int .i64 r.kind,.int .i64 r.save,.string r.letter],.bool true]) ?_ rfl ⟨rfl,below_set4 HBX.out (by omega) _ _ _ _⟩
       have w0:=HW.cell 0 (v:=.int .i64 (v * 86400 + r.sec)) rfl
       have w1:=HW.cell 1 (v:=.int .i64 r.kind) rfl
       have w2:=HW.cell 2 (v:=.int .i64 r.save) rfl
       have w3:=HW.cell 3 (v:=.string r.letter) rfl
       simp [results,Tryz.f129,go_sem,w0,w1,w2,w3]
end
section -- FRules
open Go Go.RowKit Go.Shelf
def rulsV (l:List Rul):List Value:=l.flatMap rulV
theorem length_rulsV (l:List Rul):(rulsV l).length = l.length * 11:=by
 induction l with
 | nil=>rfl
 | cons c l ih=>simp only [rulsV,List.flatMap_cons,List.length_append,List.length_cons,rulV,List.length_nil] at ih ⊢;omega
theorem rulsV_at (l:List Rul) (i:Nat) (h:i < l.length) (k:Nat) (hk:k < 11):(rulsV l)[i * 11 + k]? = (rulV l[i])[k]?:=by
 induction l generalizing i with
 | nil=>exact absurd h (by simp)
 | cons c l ih =>
   rcases i with _ | i
   ·rw [Nat.zero_mul,Nat.zero_add]
    show (rulV c ++ rulsV l)[k]? = _
    rw [List.getElem?_append_left (by simp [rulV];omega)]
    rfl
   ·have:=ih i (by simpa using h)
    show (rulV c ++ rulsV l)[(i + 1) * 11 + k]? = _
    rw [List.getElem?_append_right (by simp [rulV];omega),show (i + 1) * 11 + k - (rulV c).length = i * 11 + k by simp [rulV];omega,this]
    rfl
def Ruls (w:World) (B:Nat) (v:Value) (l:List Rul):Prop:=Sl w B 11 v l.length (rulsV l)
section
variable {w w':World} {B B':Nat} {v:Value} {l:List Rul}
theorem Ruls.form (h:Ruls w B v l):∃ A c,v = .slice A l.length c∧l.length ≤ c∧c ≤ maxLen:=by
 obtain ⟨A,c,rfl,h1,h2,-⟩:=h
 exact ⟨A,c,rfl,h1,h2⟩
theorem Ruls.below (h:Ruls w B v l) (hb:Below B w w'):Ruls w' B v l:=Sl.below h hb
def RulC (W:World) (b o:Nat) (r:Rul):Prop:=W.cell? ⟨b,o,none⟩ = some (.string r.name)∧W.cell? ⟨b,o + 1,none⟩ = some (.int .i64 r.from_)∧W.cell? ⟨b,o + 2,none⟩ = some (.int .i64 r.to_)∧W.cell? ⟨b,o + 3,none⟩ = some (.int .i64 r.month)∧W.cell? ⟨b,o + 4,none⟩ = some (.int .i64 r.dk)∧W.cell? ⟨b,o + 5,none⟩ = some (.int .i64 r.dw)∧W.cell? ⟨b,o + 6,none⟩ = some (.int .i64 r.dn)∧W.cell? ⟨b,o + 7,none⟩ = some (.int .i64 r.sec)∧W.cell? ⟨b,o + 8,none⟩ = some (.int .i64 r.kind)∧W.cell? ⟨b,o + 9,none⟩ = some (.int .i64 r.save)∧W.cell? ⟨b,o + 10,none⟩ = some (.string r.letter)
theorem Ruls.cells (h:Ruls w B v l) (hl:0 < l.length):∃ b o c,v = .slice (some ⟨b,o,none⟩) l.length c∧b < B∧∀ i (hi:i < l.length),RulC w b (o + i * 11) l[i]:=by
 obtain ⟨b,o,c,e,hb,hc⟩:=Sl.at_ h hl
 refine ⟨b,o,c,e,hb,fun i hi=>?_⟩
 have hk:∀ k u,k < 11→(rulV l[i])[k]? = some u→w.cell? ⟨b,o + i * 11 + k,none⟩ = some u:=fun k u hk hu=>by
  rw [Nat.add_assoc]
  exact hc _ u (by rw [rulsV_at l i hi k hk];exact hu)
 exact ⟨hk 0 _ (by omega) rfl,hk 1 _ (by omega) rfl,hk 2 _ (by omega) rfl,hk 3 _ (by omega) rfl,hk 4 _ (by omega) rfl,hk 5 _ (by omega) rfl,hk 6 _ (by omega) rfl,hk 7 _ (by omega) rfl,hk 8 _ (by omega) rfl,hk 9 _ (by omega) rfl,hk 10 _ (by omega) rfl⟩
end
def yrs (a b:Int):List Int:=(List.range (b + 1 - a).toNat).map fun i=>a + (i:Nat)
def genR (r:Rul) (a b:Int):List Fir:=((yrs a b).filter fun y=>ofB r y).map fun y=>firOf r y
def genL (l:List Rul) (a b:Int):List Fir:=l.flatMap fun r=>genR r a b
theorem yrs_nil {a b:Int} (h:b < a):yrs a b = []:=by
 unfold yrs
 rw [show (b + 1 - a).toNat = 0 by omega]
 rfl
theorem yrs_snoc {a b:Int} (h:a ≤ b + 1):yrs a (b + 1) = yrs a b ++ [b + 1]:=by
 unfold yrs
 rw [show (b + 1 + 1 - a).toNat = (b + 1 - a).toNat + 1 by omega,List.range_succ,List.map_append]
 congr 1
 simp
 omega
theorem yrs_split {a b c:Int} (h1:a ≤ b + 1) (h2:b ≤ c):yrs a c = yrs a b ++ yrs (b + 1) c:=by
 obtain ⟨n,hn⟩:∃ n:Nat,c = b + n:=⟨(c - b).toNat,by omega⟩
 subst hn
 clear h2
 induction n with
 | zero=>rw [show b + ((0:Nat):Int) = b by omega,yrs_nil (show b < b + 1 by omega),List.append_nil]
 | succ n ih =>
   rw [show b + ((n + 1:Nat):Int) = b + (n:Int) + 1 by omega,yrs_snoc (by omega),yrs_snoc (by omega),ih,List.append_assoc]
theorem yrs_mem {a b y:Int}:y ∈ yrs a b ↔ a ≤ y∧y ≤ b:=by
 unfold yrs
 rw [List.mem_map]
 constructor
 ·rintro ⟨i,hi,rfl⟩
  rw [List.mem_range] at hi
  omega
 ·intro h
  exact ⟨(y - a).toNat,List.mem_range.2 (by omega),by omega⟩
theorem yrs_len (a b:Int):(yrs a b).length = (b + 1 - a).toNat:=by unfold yrs;simp
theorem genR_cut (r:Rul) (a b:Int):genR r a b = genR r (max a r.from_) (min b r.to_):=by
 have hno:∀ x y,(∀ z,z ∈ yrs x y→ofB r z = false)→genR r x y = []:=fun x y h=>by
  unfold genR
  rw [List.filter_eq_nil_iff.2 (fun z hz=>by rw [h z hz];decide),List.map_nil]
 have hof:∀ z,(z < r.from_∨r.to_ < z)→ofB r z = false:=fun z hz=>by
  unfold ofB
  rw [decide_eq_false (by omega)]
  rfl
 have happ:∀ x y z,x ≤ y + 1→y ≤ z→genR r x z = genR r x y ++ genR r (y + 1) z:=fun x y z h1 h2=>by
  unfold genR
  rw [yrs_split h1 h2,List.filter_append,List.map_append]
 by_cases h:max a r.from_ ≤ min b r.to_
 ·rw [happ a (max a r.from_ - 1) b (by omega) (by omega),hno a (max a r.from_ - 1) (fun z hz=>hof z (by have:=yrs_mem.1 hz;omega)),List.nil_append,show max a r.from_ - 1 + 1 = max a r.from_ by omega,
   happ (max a r.from_) (min b r.to_) b (by omega) (by omega),hno (min b r.to_ + 1) b (fun z hz=>hof z (by have:=yrs_mem.1 hz;omega)),List.append_nil]
 ·rw [hno (max a r.from_) (min b r.to_) (fun z hz=>by have:=yrs_mem.1 hz;omega)]
  exact hno a b fun z hz=>hof z (by have:=yrs_mem.1 hz;omega)
theorem genR_split (r:Rul) {a b c:Int} (h1:a ≤ b + 1) (h2:b ≤ c):genR r a c = genR r a b ++ genR r (b + 1) c:=by
 unfold genR
 rw [yrs_split h1 h2,List.filter_append,List.map_append]
theorem genR_len (r:Rul) (a b:Int):(genR r a b).length ≤ (b + 1 - a).toNat:=by
 unfold genR
 rw [List.length_map]
 exact Nat.le_trans (List.length_filter_le _ _) (by rw [yrs_len];exact Nat.le_refl _)
theorem genL_len (l:List Rul) (a b:Int):(genL l a b).length ≤ l.length * (b + 1 - a).toNat:=by
 unfold genL
 induction l with
 | nil=>simp
 | cons r l ih =>
   simp only [List.flatMap_cons,List.length_append,List.length_cons]
   have:=genR_len r a b
   rw [Nat.add_mul,Nat.one_mul]
   omega
end
section -- Append
open Go Go.RowKit
section
variable {P:Program} {w:World}
theorem run_append_none_any (base:Nat) (t ty e:TypeId) (i:TypeInfo) (size:Nat) (ht:P.underlying t = some (.slice e)) (hi:P.info? e = some i)
  (v:Value) (n c:Nat) (xs:List Value) (hown:w.ownsRow base e size v n xs) :
  (Builtin.append_ #[t,t] ty #[v,.slice none 0 c]).run P w = .ok v w:=by
 rcases hown.2 with ⟨rfl,rfl⟩ | ⟨g,cap,cur,rfl,_,_,hnc,_⟩
 ·simp [Builtin.append_,run_underlying ht,sizeOf,typeInfo,hi,Builtin.lenOf,Builtin.firstCells]
 ·simp [Builtin.append_,run_underlying ht,sizeOf,typeInfo,hi,Builtin.lenOf,Builtin.firstCells,hnc,storeCells]
theorem run_append_sl (base:Nat) (t ty e:TypeId) (i:TypeInfo) (z:Value) (size bytes:Nat) (ht:P.underlying t = some (.slice e)) (hi:P.info? e = some i) (hz:i.zero = some z)
  (hsize:i.size = size) (hby:i.bytes = bytes) (hzs:z.cells.size = size) (hsz:0 < size)
  (v:Value) (n:Nat) (xs:List Value) (hown:w.ownsRow base e size v n xs)
  (x:Value) (B m:Nat) (ys:List Value) (hx:Sl w B size x m ys) (h1:∀ u ∈ ys,u.oneCell' = true)
  (h63:n + m ≤ maxLen) (hbytes:(n + m) * bytes ≤ 140737488355328) (hbase:base ≤ w.heap.size) :
  ∃ v' w',(Builtin.append_ #[t,t] ty #[v,x]).run P w = .ok v' w'∧w'.ownsRow base e size v' (n + m) (xs ++ ys)∧w.grownBy w' v.ownBlock:=by
 obtain ⟨A,c,rfl,hmc,hcm,hl,hc⟩:=hx
 rcases A with _ | ad
 ·have hm:m = 0:=by
   rcases Nat.eq_zero_or_pos m with h | h
   ·exact h
   ·obtain ⟨_,_,e,_⟩:=hc h
    cases e
  subst hm
  have hy:ys = []:=List.eq_nil_of_length_eq_zero (by simpa using hl)
  subst hy
  refine ⟨v,w,run_append_none_any base t ty e i size ht hi v n c xs hown,by simpa using hown,⟨rfl,rfl,rfl,Nat.le_refl _,fun _ _ _=>rfl⟩⟩
 ·obtain ⟨v',w',h2,h3,h4,-⟩:=run_append_own w base t ty e i z size bytes ht hi hz hsize hby hzs hsz v n xs hown ad m c ys hl (fun j u hu=>by
   rcases Nat.eq_zero_or_pos m with h | h
   ·subst h
    have hy:ys = []:=List.eq_nil_of_length_eq_zero (by simpa using hl)
    subst hy
    cases hu
   ·obtain ⟨b,o,e,_,hcc⟩:=hc h
    cases e
    rw [Addr.add_lit]
    exact hcc j u hu) h1 h63 hbytes hbase
  exact ⟨v',w',h2,h3,h4⟩
theorem wpList_append_sl {ops:Array Oper} {rest:List Oper} {o:Oper} {a:Act} {Q:Exit→Act→World→Prop} (hgd:o.guard = none) (s x:Operand) (t:TypeId)
  (ho:o.op = .call { callee:=.builtin .append,args:=#[s,x],argTypes:=#[t,t] })
  (base:Nat) (e:TypeId) (i:TypeInfo) (z:Value) (size bytes:Nat) (ht:P.underlying t = some (.slice e)) (hi:P.info? e = some i) (hz:i.zero = some z)
  (hsize:i.size = size) (hby:i.bytes = bytes) (hzs:z.cells.size = size) (hsz:0 < size)
  (v:Value) (n:Nat) (xs:List Value) (hs:a.eval s = v) (hown:w.ownsRow base e size v n xs)
  (y:Value) (B m:Nat) (ys:List Value) (hx:a.eval x = y) (hsl:Sl w B size y m ys) (h1:∀ u ∈ ys,u.oneCell' = true)
  (h63:n + m ≤ maxLen) (hbytes:(n + m) * bytes ≤ 140737488355328) (hbase:base ≤ w.heap.size)
  (h:∀ v' w',w'.ownsRow base e size v' (n + m) (xs ++ ys)→w.grownBy w' v.ownBlock→wpList P ops Q rest (a.put o.dst v') w'):wpList P ops Q (o :: rest) a w:=by
 refine wpList_plain hgd fun K hK=>?_
 obtain ⟨v',w',hr,h2,h3⟩:=run_append_sl (P:=P) (w:=w) base t o.type e i z size bytes ht hi hz hsize hby hzs hsz v n xs hown y B m ys hsl h1 h63 hbytes hbase
 unfold Oper.wp execOp
 simp only [ho,resolve,invoke,builtin,Sem.run_bind,Sem.run_pure,Result.andThen_ok,List.map_toArray,List.map_cons,List.map_nil,hs,hx,hr]
 exact hK _ _ (h v' w' h2 h3)
end
end
section -- FAid
open Go Go.RowKit Go.Shelf
theorem info_parts {P:Program} {t:TypeId} {z:Value} {a b:Nat} (h:(P.info? t).map (fun i=>(i.zero,i.size,i.bytes)) = some (some z,a,b)):∃ i,P.info? t = some i∧i.zero = some z∧i.size = a∧i.bytes = b:=by
 cases hi:P.info? t with
 | none=>rw [hi] at h;simp at h
 | some i =>
   rw [hi] at h
   simp only [Option.map_some,Option.some.injEq,Prod.mk.injEq] at h
   exact ⟨i,rfl,h.1,h.2.1,h.2.2⟩
theorem cell_new2 (w:World) (o:Obj) (C:Array Value) (t:TypeId) (fr:Nat × Nat) (i:Nat):((w.alloc o).alloc (.cells C t fr)).cell? ⟨w.heap.size + 1,i,none⟩ = C[i]?:=by
 have:=cell_new (w.alloc o) C t fr i
 rwa [World.size_alloc] at this
theorem ownsRow_below {w W:World} {base:Nat} {e:TypeId} {sz n:Nat} {v:Value} {xs:List Value} (h:w.ownsRow base e sz v n xs) (hb:Below w.heap.size w W):W.ownsRow base e sz v n xs:=(Fr.of_below (T:=fun _=>False) hb (Nat.le_refl _)).own h (fun _ _ h=>h)
def genK (l:List Rul) (a b:Int) (k:Nat):List Fir:=genL (l.take k) a b
theorem genK_next (l:List Rul) (a b:Int) {k:Nat} (hk:k < l.length):genK l a b (k + 1) = genK l a b k ++ genR l[k] a b:=by
 unfold genK genL
 rw [List.take_succ_eq_append_getElem hk,List.flatMap_append]
 simp
theorem genR_next (r:Rul) {a y:Int} (h:a ≤ y):genR r a y = genR r a (y - 1) ++ if ofB r y then [firOf r y] else []:=by
 rw [genR_split r (show a ≤ y - 1 + 1 by omega) (show y - 1 ≤ y by omega),show y - 1 + 1 = y by omega]
 congr 1
 unfold genR yrs
 rw [show (y + 1 - y).toNat = 1 by omega]
 simp
 split <;> simp_all
def cmpZ (a b:Int):Int:=if a < b then -1 else if a > b then 1 else 0
theorem isNaN_any (a:Int) (w:World):Calls Tryz.prog 127 #[.int .i64 a] w fun e w'=>e = .returned (.bool false)∧w' = w:=by
 go_enter Tryz.func127,Tryz.ntmps127
 go_wp2_with fail
 go_ret
 exact ⟨rfl,rfl⟩
theorem cmpInt_any (a b:Int) (w:World) :
  Calls Tryz.prog 98 #[.int .i64 a,.int .i64 b] w fun e w'=>e = .returned (.int .i64 (cmpZ a b))∧w' = w:=by
 have HN:=Lib.hid (fun (a:Int) W=>isNaN_any a W)
 by_cases h1:a < b
 ·have HV:=Lib.hid (show cmpZ a b = -1 by unfold cmpZ;rw [if_pos h1])
  have hd:decide (a < b) = true:=decide_eq_true h1
  go_enter Tryz.func98,Tryz.ntmps98
  go_wp2_with fail
  refine (HN.out _ _).mono ?_
  rintro e w1 ⟨rfl,rfl⟩
  go_wp2_with fail
  refine (HN.out _ _).mono ?_
  rintro e w1 ⟨rfl,rfl⟩
  go_wp2_with fail
  go_ret
  exact ⟨by rw [HV.out];rfl,rfl⟩
 ·have hd:decide (a < b) = false:=decide_eq_false h1
  by_cases h2:b < a
  ·have HV:=Lib.hid (show cmpZ a b = 1 by unfold cmpZ;rw [if_neg h1,if_pos h2])
   have he:decide (b < a) = true:=decide_eq_true h2
   go_enter Tryz.func98,Tryz.ntmps98
   go_wp2_with fail
   refine (HN.out _ _).mono ?_
   rintro e w1 ⟨rfl,rfl⟩
   go_wp2_with fail
   refine (HN.out _ _).mono ?_
   rintro e w1 ⟨rfl,rfl⟩
   go_wp2_with fail
   go_ret
   exact ⟨by rw [HV.out];rfl,rfl⟩
  ·have HV:=Lib.hid (show cmpZ a b = 0 by unfold cmpZ;rw [if_neg h1,if_neg h2])
   have he:decide (b < a) = false:=decide_eq_false h2
   go_enter Tryz.func98,Tryz.ntmps98
   go_wp2_with fail
   refine (HN.out _ _).mono ?_
   rintro e w1 ⟨rfl,rfl⟩
   go_wp2_with fail
   refine (HN.out _ _).mono ?_
   rintro e w1 ⟨rfl,rfl⟩
   go_wp2_with fail
   go_ret
   exact ⟨by rw [HV.out];rfl,rfl⟩
end
section -- AShow
open Go Go.RowKit Go.Shelf
def digB (n:Int):UInt8:=UInt8.ofNat (48 + n).toNat
def twoB (n:Int):ByteArray:=⟨#[digB (n / 10),digB (n % 10)]⟩
theorem digB_toNat {n:Int} (h0:0 ≤ n) (h1:n < 200):((digB n).toNat:Int) = 48 + n:=by
 unfold digB
 rw [UInt8.toNat_ofNat']
 omega
theorem two_conv {n:Int} (h0:0 ≤ n) (h1:n < 100) (w:World):(convert 186 9 (.slice (some ⟨w.heap.size,0,none⟩) 2 2)).run Tryz.prog (w.alloc (.cells #[.int .u8 (48 + n / 10),.int .u8 (48 + n % 10)] 5)) = .ok (.string (twoB n)) (w.alloc (.cells #[.int .u8 (48 + n / 10),.int .u8 (48 + n % 10)] 5)):=by
 have h:=run_convert_bytes_back (P:=Tryz.prog) (w.alloc (.cells #[.int .u8 (48 + n / 10),.int .u8 (48 + n % 10)] 5)) 186 9 5 ⟨w.heap.size,0,none⟩ 2 [digB (n / 10),digB (n % 10)] Tryz.underlying186 Tryz.underlying5 Tryz.underlying9 (fun j hj=>by
  rw [Addr.add_lit,Nat.zero_add,cell_new]
  rcases j with _ | _ | j
  ·simp [digB_toNat (show 0 ≤ n / 10 by omega) (by omega)]
  ·simp [digB_toNat (show 0 ≤ n % 10 by omega) (by omega)]
  ·simp at hj;omega)
 exact h
theorem two_any (n:Int) (h0:0 ≤ n) (h1:n < 100) (w:World) :
  Calls Tryz.prog 140 #[.int .i64 n] w fun e w'=>e = .returned (.string (twoB n))∧Below w.heap.size w w':=by
 have e1:n.tdiv 10 = n / 10:=by rw [Int.tdiv_eq_ediv_of_nonneg h0]
 have e2:n.tmod 10 = n % 10:=by rw [Int.tmod_eq_emod_of_nonneg h0]
 have HC:=two_conv h0 h1 w
 go_enter Tryz.func140,Tryz.ntmps140
 go_wp2_with fail
 go_ret
 exact ⟨rfl,(Below.refl w.heap.size w).alloc (Nat.le_refl _) _⟩
def offN (n:Int):ByteArray:=twoB (n / 3600) ++ (if 0 < n % 3600 then twoB (n % 3600 / 60) else ⟨#[]⟩) ++ (if 0 < n % 60 then twoB (n % 60) else ⟨#[]⟩)
def offB (off:Int):ByteArray:=if off < 0 then ⟨#[45]⟩ ++ offN (-off) else ⟨#[43]⟩ ++ offN off
theorem off_any (off:Int) (w:World) :
  Calls Tryz.prog 113 #[.int .i64 off] w fun e w'=>e = .returned (if -360000 < off∧off < 360000 then .tuple #[.string (offB off),.int .i64 0] else .tuple #[.string ⟨#[]⟩,.int .i64 10])∧Below w.heap.size w w':=by
 have HT:=Lib.hid (fun n h0 h1 W=>two_any n h0 h1 W)
 by_cases hr:-360000 < off∧off < 360000
 ·rw [if_pos hr]
  have hd1:decide (off ≤ -360000) = false:=decide_eq_false (by omega)
  have hd2:decide (360000 ≤ off) = false:=decide_eq_false (by omega)
  by_cases hn:off < 0
  ·have hd3:decide (off < 0) = true:=decide_eq_true hn
   have e3:(-off).tdiv 3600 = (-off) / 3600:=by rw [Int.tdiv_eq_ediv_of_nonneg (by omega)]
   have e4:(-off).tmod 3600 = (-off) % 3600:=by rw [Int.tmod_eq_emod_of_nonneg (by omega)]
   have e5:(-off).tmod 60 = (-off) % 60:=by rw [Int.tmod_eq_emod_of_nonneg (by omega)]
   have e6:((-off) % 3600).tdiv 60 = (-off) % 3600 / 60:=by rw [Int.tdiv_eq_ediv_of_nonneg (by omega)]
   have H1:=Lib.hid (HT.out ((-off) / 3600) (by omega) (by omega))
   have H2:=Lib.hid (HT.out ((-off) % 3600 / 60) (by omega) (by omega))
   have H3:=Lib.hid (HT.out ((-off) % 60) (by omega) (by omega))
   by_cases h3:0 < (-off) % 3600
   ·by_cases h4:0 < (-off) % 60
    ·have HV:=Lib.hid (show offB off = ⟨#[45]⟩ ++ twoB ((-off) / 3600) ++ twoB ((-off) % 3600 / 60) ++ twoB ((-off) % 60) by unfold offB offN;rw [if_pos hn,if_pos h3,if_pos h4,← ByteArray.append_assoc,← ByteArray.append_assoc])
     have g3:decide (0 < (-off) % 3600) = true:=decide_eq_true h3
     have g4:decide (0 < (-off) % 60) = true:=decide_eq_true h4
     clear h3 h4 HT
     have s1:(twoB ((-off) / 3600)).size = 2:=rfl
     have s2:(twoB ((-off) % 3600 / 60)).size = 2:=rfl
     have s3:(twoB ((-off) % 60)).size = 2:=rfl
     generalize twoB ((-off) / 3600) = t1 at *
     generalize twoB ((-off) % 3600 / 60) = t2 at *
     generalize twoB ((-off) % 60) = t3 at *
     go_enter Tryz.func113,Tryz.ntmps113
     go_wp2_with fail
     refine (H1.out _).mono ?_
     rintro e w1 ⟨rfl,hb1⟩
     go_wp2_with fail
     refine (H2.out _).mono ?_
     rintro e w2 ⟨rfl,hb2⟩
     go_wp2_with fail
     refine (H3.out _).mono ?_
     rintro e w3 ⟨rfl,hb3⟩
     go_wp2_with fail
     go_ret2
     exact ⟨by rw [HV.out];rfl,(hb1.trans (hb2.mono hb1.size)).trans (hb3.mono (Nat.le_trans hb1.size hb2.size))⟩
    ·have HV:=Lib.hid (show offB off = ⟨#[45]⟩ ++ twoB ((-off) / 3600) ++ twoB ((-off) % 3600 / 60) by unfold offB offN;rw [if_pos hn,if_pos h3,if_neg h4,← ByteArray.append_assoc,← ByteArray.append_assoc];exact ByteArray.append_empty)
     have g3:decide (0 < (-off) % 3600) = true:=decide_eq_true h3
     have g4:decide (0 < (-off) % 60) = false:=decide_eq_false h4
     clear h3 h4 HT
     have s1:(twoB ((-off) / 3600)).size = 2:=rfl
     have s2:(twoB ((-off) % 3600 / 60)).size = 2:=rfl
     have s3:(twoB ((-off) % 60)).size = 2:=rfl
     generalize twoB ((-off) / 3600) = t1 at *
     generalize twoB ((-off) % 3600 / 60) = t2 at *
     go_enter Tryz.func113,Tryz.ntmps113
     go_wp2_with fail
     refine (H1.out _).mono ?_
     rintro e w1 ⟨rfl,hb1⟩
     go_wp2_with fail
     refine (H2.out _).mono ?_
     rintro e w2 ⟨rfl,hb2⟩
     go_wp2_with fail
     go_ret2
     exact ⟨by rw [HV.out];rfl,hb1.trans (hb2.mono hb1.size)⟩
   ·have h4:¬ 0 < (-off) % 60:=by omega
    have HV:=Lib.hid (show offB off = ⟨#[45]⟩ ++ twoB ((-off) / 3600) by unfold offB offN;rw [if_pos hn,if_neg h3,if_neg h4];rw [show (⟨#[]⟩:ByteArray) = ByteArray.empty from rfl,ByteArray.append_empty,ByteArray.append_empty])
    have g3:decide (0 < (-off) % 3600) = false:=decide_eq_false h3
    have g4:decide (0 < (-off) % 60) = false:=decide_eq_false h4
    clear h3 h4 HT
    have s1:(twoB ((-off) / 3600)).size = 2:=rfl
    generalize twoB ((-off) / 3600) = t1 at *
    go_enter Tryz.func113,Tryz.ntmps113
    go_wp2_with fail
    refine (H1.out _).mono ?_
    rintro e w1 ⟨rfl,hb1⟩
    go_wp2_with fail
    go_ret2
    exact ⟨by rw [HV.out];rfl,hb1⟩
  ·have hd3:decide (off < 0) = false:=decide_eq_false hn
   have e3:(off).tdiv 3600 = (off) / 3600:=by rw [Int.tdiv_eq_ediv_of_nonneg (by omega)]
   have e4:(off).tmod 3600 = (off) % 3600:=by rw [Int.tmod_eq_emod_of_nonneg (by omega)]
   have e5:(off).tmod 60 = (off) % 60:=by rw [Int.tmod_eq_emod_of_nonneg (by omega)]
   have e6:((off) % 3600).tdiv 60 = (off) % 3600 / 60:=by rw [Int.tdiv_eq_ediv_of_nonneg (by omega)]
   have H1:=Lib.hid (HT.out ((off) / 3600) (by omega) (by omega))
   have H2:=Lib.hid (HT.out ((off) % 3600 / 60) (by omega) (by omega))
   have H3:=Lib.hid (HT.out ((off) % 60) (by omega) (by omega))
   by_cases h3:0 < (off) % 3600
   ·by_cases h4:0 < (off) % 60
    ·have HV:=Lib.hid (show offB off = ⟨#[43]⟩ ++ twoB ((off) / 3600) ++ twoB ((off) % 3600 / 60) ++ twoB ((off) % 60) by unfold offB offN;rw [if_neg hn,if_pos h3,if_pos h4,← ByteArray.append_assoc,← ByteArray.append_assoc])
     have g3:decide (0 < (off) % 3600) = true:=decide_eq_true h3
     have g4:decide (0 < (off) % 60) = true:=decide_eq_true h4
     clear h3 h4 HT
     have s1:(twoB ((off) / 3600)).size = 2:=rfl
     have s2:(twoB ((off) % 3600 / 60)).size = 2:=rfl
     have s3:(twoB ((off) % 60)).size = 2:=rfl
     generalize twoB ((off) / 3600) = t1 at *
     generalize twoB ((off) % 3600 / 60) = t2 at *
     generalize twoB ((off) % 60) = t3 at *
     go_enter Tryz.func113,Tryz.ntmps113
     go_wp2_with fail
     refine (H1.out _).mono ?_
     rintro e w1 ⟨rfl,hb1⟩
     go_wp2_with fail
     refine (H2.out _).mono ?_
     rintro e w2 ⟨rfl,hb2⟩
     go_wp2_with fail
     refine (H3.out _).mono ?_
     rintro e w3 ⟨rfl,hb3⟩
     go_wp2_with fail
     go_ret2
     exact ⟨by rw [HV.out];rfl,(hb1.trans (hb2.mono hb1.size)).trans (hb3.mono (Nat.le_trans hb1.size hb2.size))⟩
    ·have HV:=Lib.hid (show offB off = ⟨#[43]⟩ ++ twoB ((off) / 3600) ++ twoB ((off) % 3600 / 60) by unfold offB offN;rw [if_neg hn,if_pos h3,if_neg h4,← ByteArray.append_assoc,← ByteArray.append_assoc];exact ByteArray.append_empty)
     have g3:decide (0 < (off) % 3600) = true:=decide_eq_true h3
     have g4:decide (0 < (off) % 60) = false:=decide_eq_false h4
     clear h3 h4 HT
     have s1:(twoB ((off) / 3600)).size = 2:=rfl
     have s2:(twoB ((off) % 3600 / 60)).size = 2:=rfl
     have s3:(twoB ((off) % 60)).size = 2:=rfl
     generalize twoB ((off) / 3600) = t1 at *
     generalize twoB ((off) % 3600 / 60) = t2 at *
     go_enter Tryz.func113,Tryz.ntmps113
     go_wp2_with fail
     refine (H1.out _).mono ?_
     rintro e w1 ⟨rfl,hb1⟩
     go_wp2_with fail
     refine (H2.out _).mono ?_
     rintro e w2 ⟨rfl,hb2⟩
     go_wp2_with fail
     go_ret2
     exact ⟨by rw [HV.out];rfl,hb1.trans (hb2.mono hb1.size)⟩
   ·have h4:¬ 0 < (off) % 60:=by omega
    have HV:=Lib.hid (show offB off = ⟨#[43]⟩ ++ twoB ((off) / 3600) by unfold offB offN;rw [if_neg hn,if_neg h3,if_neg h4];rw [show (⟨#[]⟩:ByteArray) = ByteArray.empty from rfl,ByteArray.append_empty,ByteArray.append_empty])
    have g3:decide (0 < (off) % 3600) = false:=decide_eq_false h3
    have g4:decide (0 < (off) % 60) = false:=decide_eq_false h4
    clear h3 h4 HT
    have s1:(twoB ((off) / 3600)).size = 2:=rfl
    generalize twoB ((off) / 3600) = t1 at *
    go_enter Tryz.func113,Tryz.ntmps113
    go_wp2_with fail
    refine (H1.out _).mono ?_
    rintro e w1 ⟨rfl,hb1⟩
    go_wp2_with fail
    go_ret2
    exact ⟨by rw [HV.out];rfl,hb1⟩
 ·rw [if_neg hr]
  by_cases h1:off ≤ -360000
  ·have hd1:decide (off ≤ -360000) = true:=decide_eq_true h1
   have hd2:decide (360000 ≤ off) = false:=decide_eq_false (by omega)
   go_enter Tryz.func113,Tryz.ntmps113
   go_wp2_with fail
   go_ret2
   exact ⟨rfl,Below.refl _ _⟩
  ·have hd1:decide (off ≤ -360000) = false:=decide_eq_false h1
   have hd2:decide (360000 ≤ off) = true:=decide_eq_true (by omega)
   go_enter Tryz.func113,Tryz.ntmps113
   go_wp2_with fail
   go_ret2
   exact ⟨rfl,Below.refl _ _⟩
theorem kindR_kinds (f:List UInt8):kindR f = (0,12)∨(f.length ≤ 64∧((kindR f) = (0,0)∨(kindR f) = (1,0)∨(kindR f) = (2,0)∨(kindR f) = (3,0))):=by
 unfold kindR
 by_cases hb:badB f = true
 ·rw [if_pos hb];exact .inl rfl
 ·rw [if_neg hb]
  refine .inr ⟨?_,?_⟩
  ·by_cases hl:64 < f.length
   ·exact absurd (bad_long hl) hb
   ·omega
  ·unfold kindP
   split
   ·simp
   ·split
    ·simp
    ·split <;> simp
def repB (f old new:ByteArray):ByteArray:=⟨(Lib.replace f.data.toList old.data.toList new.data.toList 1).toArray⟩
def showV (f:ByteArray) (off:Int) (dst:Bool) (letter:ByteArray):ByteArray × Int :=
 if (kindR f.data.toList).2 = 0 then
  (if (kindR f.data.toList).1 = 1 then (repB f ⟨#[37,115]⟩ letter,0)
  else if (kindR f.data.toList).1 = 2 then (if -360000 < off∧off < 360000 then (repB f ⟨#[37,122]⟩ (offB off),0) else (⟨#[]⟩,10))
  else if (kindR f.data.toList).1 = 3 then (if dst then ⟨(Lib.cut f.data.toList [47]).2.1.toArray⟩ else ⟨(Lib.cut f.data.toList [47]).1.toArray⟩,0)
  else (f,0))
 else (⟨#[]⟩,(kindR f.data.toList).2)
theorem rep_any (f old new:ByteArray) (h1:1 ≤ old.size) (hs:f.size ≤ 64) (hn:new.size ≤ 100∨(Lib.countB f old ≤ 1∧new.size ≤ 140737488351232)) (w:World) (hm:Tryz.MaxL w) :
  Calls Tryz.prog 112 #[.string f,.string old,.string new,.int .i64 1] w fun e w'=>e = .returned (.string (repB f old new))∧Below w.heap.size w w' :=
 Tryz.strings_Replace f old new 1 w (by omega) hm h1 (by
  have h:=Lib.countB_le old h1 f.size f (Nat.le_refl _)
  rcases hn with hn | ⟨hc,hn⟩
  ·have h2:Lib.countB f old * new.size ≤ 64 * 100:=Nat.mul_le_mul (by omega) hn
   omega
  ·have h2:Lib.countB f old * new.size ≤ 1 * 140737488351232:=Nat.mul_le_mul hc hn
   omega)
theorem offB_size (off:Int):(offB off).size ≤ 100:=by
 have h:∀ n,(offN n).size ≤ 50:=fun n=>by
  unfold offN
  rw [ByteArray.size_append,ByteArray.size_append]
  have e:∀ k,(twoB k).size = 2:=fun k=>rfl
  split <;> split <;> simp only [e] <;> decide
 unfold offB
 split
 ·rw [ByteArray.size_append]
  have:=h (-off)
  have e:(⟨#[45]⟩:ByteArray).size = 1:=rfl
  omega
 ·rw [ByteArray.size_append]
  have:=h off
  have e:(⟨#[43]⟩:ByteArray).size = 1:=rfl
  omega
theorem show_any (f:ByteArray) (off:Int) (dst:Bool) (letter:ByteArray) (w:World) (hs:f.size < 4294967281) (hl:letter.size ≤ 140737488351232) (hm:Tryz.MaxL w) :
  Calls Tryz.prog 73 #[.string f,.int .i64 off,.bool dst,.string letter] w fun o w'=>o = .returned (.tuple #[.string (showV f off dst letter).1,.int .i64 (showV f off dst letter).2])∧Below w.heap.size w w':=by
 rcases kindR_kinds f.data.toList with h | ⟨hl64,h | h | h | h⟩
 ·have e:showV f off dst letter = (⟨#[]⟩,12):=by unfold showV;rw [h,if_neg (by decide)]
  rw [e]
  exact show_err f off dst letter w hs hm 0 12 h (by decide)
 ·have e:showV f off dst letter = (f,0):=by unfold showV;rw [h];rfl
  rw [e]
  exact show_plain f off dst letter w hs hm h
 ·have hs64:f.size ≤ 64:=by have:f.data.toList.length = f.size:=Array.length_toList
                            omega
  have e:showV f off dst letter = (repB f ⟨#[37,115]⟩ letter,0):=by unfold showV;rw [h];rfl
  rw [e]
  have HK:=Lib.hid (kind_at f hs 1 0 h w hm)
  have HR:=Lib.hid (fun W (hb:Below w.heap.size w W)=>rep_any f ⟨#[37,115]⟩ letter (by decide) hs64 (.inr ⟨count_one h,hl⟩) W (hm.below hb (Nat.le_refl _)))
  clear h e hm
  generalize repB f ⟨#[37,115]⟩ letter = t at *
  go_enter Tryz.func73,Tryz.ntmps73
  go_wp2_with fail
  refine HK.out.mono ?_
  rintro e w1 ⟨rfl,hb⟩
  go_wp2_with fail
  refine (HR.out _ hb).mono ?_
  rintro e w2 ⟨rfl,hb2⟩
  go_wp2_with fail
  go_ret2
  exact ⟨rfl,hb.trans (hb2.mono hb.size)⟩
 ·have hs64:f.size ≤ 64:=by have:f.data.toList.length = f.size:=Array.length_toList
                            omega
  have HK:=Lib.hid (kind_at f hs 2 0 h w hm)
  have HO:=Lib.hid (fun W=>off_any off W)
  have HR:=Lib.hid (fun W (hb:Below w.heap.size w W)=>rep_any f ⟨#[37,122]⟩ (offB off) (by decide) hs64 (.inl (offB_size off)) W (hm.below hb (Nat.le_refl _)))
  by_cases hr:-360000 < off∧off < 360000
  ·have e:showV f off dst letter = (repB f ⟨#[37,122]⟩ (offB off),0):=by unfold showV;simp only [h];rw [if_pos trivial,if_neg (by decide),if_pos trivial,if_pos hr]
   rw [e]
   simp only [if_pos hr] at HO
   clear h e hm
   generalize repB f ⟨#[37,122]⟩ (offB off) = t at *
   generalize offB off = ob at *
   go_enter Tryz.func73,Tryz.ntmps73
   go_wp2_with fail
   refine HK.out.mono ?_
   rintro e w1 ⟨rfl,hb⟩
   go_wp2_with fail
   refine (HO.out _).mono ?_
   rintro e w2 ⟨rfl,hb2⟩
   have hb3:=hb.trans (hb2.mono hb.size)
   go_wp2_with fail
   refine (HR.out _ hb3).mono ?_
   rintro e w3 ⟨rfl,hb4⟩
   go_wp2_with fail
   go_ret2
   exact ⟨rfl,hb3.trans (hb4.mono hb3.size)⟩
  ·have e:showV f off dst letter = (⟨#[]⟩,10):=by unfold showV;simp only [h];rw [if_pos trivial,if_neg (by decide),if_pos trivial,if_neg hr]
   rw [e]
   simp only [if_neg hr] at HO
   clear h e hm HR
   go_enter Tryz.func73,Tryz.ntmps73
   go_wp2_with fail
   refine HK.out.mono ?_
   rintro e w1 ⟨rfl,hb⟩
   go_wp2_with fail
   refine (HO.out _).mono ?_
   rintro e w2 ⟨rfl,hb2⟩
   have hb3:=hb.trans (hb2.mono hb.size)
   go_wp2_with fail
   go_ret2
   exact ⟨rfl,hb3⟩
 ·have HK:=Lib.hid (kind_at f hs 3 0 h w hm)
  have HC:=Lib.hid (fun W (hb:Below w.heap.size w W)=>Tryz.strings_Cut f ⟨#[47]⟩ W hs (hm.below hb (Nat.le_refl _)))
  obtain ⟨⟨c0,c1,c2⟩,hc⟩:∃ c,Lib.cut f.data.toList [47] = c:=⟨_,rfl⟩
  have hcs:Lib.cut f.data.toList (⟨#[47]⟩:ByteArray).data.toList = (c0,c1,c2):=hc
  simp only [hcs] at HC
  cases dst with
  | true =>
    have e:showV f off true letter = (⟨c1.toArray⟩,0):=by unfold showV;rw [h,hc];rfl
    rw [e]
    clear h e hm hc hcs
    go_enter Tryz.func73,Tryz.ntmps73
    go_wp2_with fail
    refine HK.out.mono ?_
    rintro e w1 ⟨rfl,hb⟩
    go_wp2_with fail
    refine (HC.out _ hb).mono ?_
    rintro e w2 ⟨rfl,n,rfl⟩
    go_wp2_with fail
    go_ret2
    exact ⟨rfl,below_drewN hb n⟩
  | false =>
    have e:showV f off false letter = (⟨c0.toArray⟩,0):=by unfold showV;rw [h,hc];rfl
    rw [e]
    clear h e hm hc hcs
    go_enter Tryz.func73,Tryz.ntmps73
    go_wp2_with fail
    refine HK.out.mono ?_
    rintro e w1 ⟨rfl,hb⟩
    go_wp2_with fail
    refine (HC.out _ hb).mono ?_
    rintro e w2 ⟨rfl,n,rfl⟩
    go_wp2_with fail
    go_ret2
    exact ⟨rfl,below_drewN hb n⟩
end
section -- ARefS
open Go Go.RowKit Go.Shelf
def letZ (z:Int):Bool:=decide (97 ≤ z∧z ≤ 122∨65 ≤ z∧z ≤ 90∨48 ≤ z∧z ≤ 57∨z = 43∨z = 45)
theorem letB_all:∀ n:_root_.Fin 256,letB (UInt8.ofNat n.1) = letZ (n.1:Int):=by decide +kernel
theorem letB_eq (x:UInt8):letB x = letZ (x.toNat:Int):=by
 have:=letB_all ⟨x.toNat,x.toNat_lt⟩
 simpa using this
theorem letter_any (x:UInt8) (w:World):Calls Tryz.prog 171 #[.int .u8 (x.toNat:Int)] w fun e w'=>e = .returned (.bool (letB x))∧w' = w:=by
 rw [letB_eq]
 generalize (x.toNat:Int) = z
 by_cases h1:97 ≤ z
 ·have d1:decide (97 ≤ z) = true:=decide_eq_true h1
  have d3:decide (65 ≤ z) = true:=decide_eq_true (by omega)
  have d4:decide (z ≤ 90) = false:=decide_eq_false (by omega)
  have d5:decide (48 ≤ z) = true:=decide_eq_true (by omega)
  have d6:decide (z ≤ 57) = false:=decide_eq_false (by omega)
  have d7:(z == 43) = false:=by simp;omega
  have d8:(z == 45) = false:=by simp;omega
  by_cases h2:z ≤ 122
  ·have d2:decide (z ≤ 122) = true:=decide_eq_true h2
   have HV:=Lib.hid (show letZ z = true by unfold letZ;rw [decide_eq_true_eq];omega)
   go_enter Tryz.func171,Tryz.ntmps171
   go_wp2_with fail
   go_ret
   exact ⟨by rw [HV.out];rfl,rfl⟩
  ·have d2:decide (z ≤ 122) = false:=decide_eq_false h2
   have HV:=Lib.hid (show letZ z = false by unfold letZ;rw [decide_eq_false_iff_not];omega)
   go_enter Tryz.func171,Tryz.ntmps171
   go_wp2_with fail
   go_ret
   exact ⟨by rw [HV.out];rfl,rfl⟩
 ·have d1:decide (97 ≤ z) = false:=decide_eq_false h1
  by_cases h3:65 ≤ z
  ·have d3:decide (65 ≤ z) = true:=decide_eq_true h3
   have d5:decide (48 ≤ z) = true:=decide_eq_true (by omega)
   have d6:decide (z ≤ 57) = false:=decide_eq_false (by omega)
   have d7:(z == 43) = false:=by simp;omega
   have d8:(z == 45) = false:=by simp;omega
   by_cases h4:z ≤ 90
   ·have d4:decide (z ≤ 90) = true:=decide_eq_true h4
    have HV:=Lib.hid (show letZ z = true by unfold letZ;rw [decide_eq_true_eq];omega)
    go_enter Tryz.func171,Tryz.ntmps171
    go_wp2_with fail
    go_ret
    exact ⟨by rw [HV.out];rfl,rfl⟩
   ·have d4:decide (z ≤ 90) = false:=decide_eq_false h4
    have HV:=Lib.hid (show letZ z = false by unfold letZ;rw [decide_eq_false_iff_not];omega)
    go_enter Tryz.func171,Tryz.ntmps171
    go_wp2_with fail
    go_ret
    exact ⟨by rw [HV.out];rfl,rfl⟩
  ·have d3:decide (65 ≤ z) = false:=decide_eq_false h3
   by_cases h5:48 ≤ z
   ·have d5:decide (48 ≤ z) = true:=decide_eq_true h5
    have d7:(z == 43) = false:=by simp;omega
    have d8:(z == 45) = false:=by simp;omega
    by_cases h6:z ≤ 57
    ·have d6:decide (z ≤ 57) = true:=decide_eq_true h6
     have HV:=Lib.hid (show letZ z = true by unfold letZ;rw [decide_eq_true_eq];omega)
     go_enter Tryz.func171,Tryz.ntmps171
     go_wp2_with fail
     go_ret
     exact ⟨by rw [HV.out];rfl,rfl⟩
    ·have d6:decide (z ≤ 57) = false:=decide_eq_false h6
     have HV:=Lib.hid (show letZ z = false by unfold letZ;rw [decide_eq_false_iff_not];omega)
     go_enter Tryz.func171,Tryz.ntmps171
     go_wp2_with fail
     go_ret
     exact ⟨by rw [HV.out];rfl,rfl⟩
   ·have d5:decide (48 ≤ z) = false:=decide_eq_false h5
    by_cases h7:z = 43
    ·have d7:(z == 43) = true:=by simpa using h7
     have HV:=Lib.hid (show letZ z = true by unfold letZ;rw [decide_eq_true_eq];omega)
     clear h7
     go_enter Tryz.func171,Tryz.ntmps171
     go_wp2_with fail
     go_ret
     exact ⟨by rw [HV.out];rfl,rfl⟩
    ·have d7:(z == 43) = false:=by simpa using h7
     by_cases h8:z = 45
     ·have d8:(z == 45) = true:=by simpa using h8
      have HV:=Lib.hid (show letZ z = true by unfold letZ;rw [decide_eq_true_eq];omega)
      clear h8
      go_enter Tryz.func171,Tryz.ntmps171
      go_wp2_with fail
      go_ret
      exact ⟨by rw [HV.out];rfl,rfl⟩
     ·have d8:(z == 45) = false:=by simpa using h8
      have HV:=Lib.hid (show letZ z = false by unfold letZ;rw [decide_eq_false_iff_not];omega)
      go_enter Tryz.func171,Tryz.ntmps171
      go_wp2_with fail
      go_ret
      exact ⟨by rw [HV.out];rfl,rfl⟩
theorem byte_eq {x c:UInt8}:((x.toNat:Int) == (c.toNat:Int)) = decide (x = c):=by
 by_cases h:x = c
 ·subst h;simp
 ·rw [decide_eq_false h]
  cases hq:((x.toNat:Int) == (c.toNat:Int)) with
  | false=>rfl
  | true =>
    exfalso
    apply h
    have:(x.toNat:Int) = (c.toNat:Int):=by simpa using hq
    exact UInt8.toNat_inj.1 (by omega)
theorem rkind_any (f:ByteArray) (w:World) (hs:f.size < 4294967281) :
  Calls Tryz.prog 142 #[.string f] w fun e w'=>e = .returned (.tuple #[.int .i64 (refK f.data.toList).1,.int .i64 ((refK f.data.toList).2:Nat)])∧w' = w:=by
 have hlen:f.data.toList.length = f.size:=Array.length_toList
 by_cases h0:f.size = 0
 ·have HV:=Lib.hid (show refK f.data.toList = (-1,0) by unfold refK;rw [if_pos (.inl (List.eq_nil_of_length_eq_zero (by omega)))])
  have d0:decide (f.size = 0) = true:=decide_eq_true h0
  go_enter Tryz.func142,Tryz.ntmps142
  go_wp2_with fail
  go_ret2
  exact ⟨by rw [HV.out];rfl,rfl⟩
 ·by_cases h1:64 < f.size
  ·have HV:=Lib.hid (show refK f.data.toList = (-1,0) by unfold refK;rw [if_pos (.inr (by omega))])
   go_enter Tryz.func142,Tryz.ntmps142
   go_wp2_with fail
   go_ret2
   exact ⟨by rw [HV.out];rfl,rfl⟩
  ·have HR:=Lib.hid (refK_in (f:=f.data.toList) (fun h=>h0 (by rw [← hlen,h];rfl)) (by omega))
   have hl64:f.size ≤ 64:=by omega
   have d0:((f.size:Int) == 0) = false:=beq_eq_false_iff_ne.2 (by omega)
   have d1:decide (64 < f.size) = false:=decide_eq_false h1
   have d2:decide ((64:Int) < (f.size:Int)) = false:=decide_eq_false (by omega)
   have hpos:0 < f.size:=by omega
   go_enter Tryz.func142,Tryz.ntmps142
   go_wp2_with fail
   go_loopw [4,5,6] (fun kv av iv wr=>∃ (i:Nat) (k:Int) (a:Nat),i ≤ f.size∧iv = .int .i64 i∧kv = .int .i64 k∧av = .int .i64 a∧0 ≤ k∧k ≤ 3∧a ≤ 64∧wr = w∧scanR f.data.toList.length 0 f.data.toList (0,0) = scanR f.data.toList.length i (f.data.toList.drop i) (k,a)) (fun _ _ iv _=>f.size - (intOf iv).toNat)
   case atStart=>exact ⟨0,0,0,Nat.zero_le _,rfl,rfl,rfl,by omega,by omega,by omega,rfl,rfl⟩
   case round =>
    obtain ⟨i,k,a,hi,rfl,rfl,rfl,hk0,hk3,ha,rfl,hsc⟩:=hrel
    have HSC:=Lib.hid hsc
    clear hsc
    by_cases hlt:i < f.size
    ·have hd:decide ((i:Int) < (f.size:Int)) = true:=decide_eq_true (by omega)
     have hil:i < f.data.toList.length:=by omega
     have hcons:f.data.toList.drop i = f.data.toList[i] :: f.data.toList.drop (i + 1):=List.drop_eq_getElem_cons hil
     obtain ⟨x,hx⟩:∃ x,f.data.toList[i] = x:=⟨_,rfl⟩
     have hxi:f[i] = x:=by rw [← hx];exact (Array.getElem_toList (xs:=f.data) (h:=by omega)).symm
     have hhead:(f.data.toList.drop (i + 1)).head? = f.data.toList[i + 1]?:=by rw [List.head?_drop]
     rw [hcons,hx] at HSC
     have HST:=Lib.hid (show scanR f.data.toList.length i (x :: f.data.toList.drop (i + 1)) (k,a) = if letB x then scanR f.data.toList.length (i + 1) (f.data.toList.drop (i + 1)) (k,a)
      else if k ≠ 0 then none
      else if x = 47∧0 < i∧i + 1 < f.data.toList.length then scanR f.data.toList.length (i + 1) (f.data.toList.drop (i + 1)) (3,i)
      else if x = 37∧(f.data.toList.drop (i + 1)).head? = some 115 then scanR f.data.toList.length (i + 1) (f.data.toList.drop (i + 1)) (1,i)
      else if x = 37∧(f.data.toList.drop (i + 1)).head? = some 122 then scanR f.data.toList.length (i + 1) (f.data.toList.drop (i + 1)) (2,i)
      else none from rfl)
     have HBAD:=Lib.hid (fun (h:scanR f.data.toList.length i (x :: f.data.toList.drop (i + 1)) (k,a) = none)=>show refK f.data.toList = (-1,0) by rw [HR.out,HSC.out,h])
     have HL:=Lib.hid (letter_any x wr)
     have HHD:=Lib.hid hhead
     clear hcons hx hhead
     cases hlx:letB x with
     | true =>
       have HN:=Lib.hid (show scanR f.data.toList.length i (x :: f.data.toList.drop (i + 1)) (k,a) = scanR f.data.toList.length (i + 1) (f.data.toList.drop (i + 1)) (k,a) by rw [HST.out,hlx,if_pos rfl])
       rw [hlx] at HL
       clear hlx
       go_wp2_with fail
       refine HL.out.mono ?_
       rintro e w1 ⟨rfl,rfl⟩
       go_wp2_with fail
       go_roundw
       case rel=>exact ⟨i + 1,k,a,by omega,by go_num,rfl,rfl,hk0,hk3,ha,by trivial,HSC.out.trans HN.out⟩
       case measure=>simp [intOf];omega
     | false =>
       rw [hlx] at HL HST
       rw [if_neg (by decide)] at HST
       clear hlx
       by_cases hk:k = 0
       ·subst hk
        rw [if_neg (by simp)] at HST
        have d0:((0:Int) != 0) = false:=rfl
        by_cases h47:x = 47
        ·subst h47
         by_cases hin:0 < i∧i + 1 < f.size
         ·have HN:=Lib.hid (show scanR f.data.toList.length i (47 :: f.data.toList.drop (i + 1)) (0,a) = scanR f.data.toList.length (i + 1) (f.data.toList.drop (i + 1)) (3,i) by rw [HST.out,if_pos ⟨rfl,hin.1,by omega⟩])
          have d3:decide (0 < i) = true:=decide_eq_true hin.1
          have d4:decide ((i:Int) + 1 < (f.size:Int)) = true:=decide_eq_true (by omega)
          go_wp2_with fail
          refine HL.out.mono ?_
          rintro e w1 ⟨rfl,rfl⟩
          go_wp2_with fail
          go_roundw
          case rel=>exact ⟨i + 1,3,i,by omega,by go_num,rfl,rfl,by omega,by omega,by omega,by trivial,HSC.out.trans HN.out⟩
          case measure=>simp [intOf];omega
         ·have HV:=Lib.hid (HBAD.out (by rw [HST.out,if_neg (fun h=>hin ⟨h.2.1,by omega⟩),if_neg (fun h=>absurd h.1 (by decide)),if_neg (fun h=>absurd h.1 (by decide))]))
          by_cases hi0:0 < i
          ·have d3:decide (0 < i) = true:=decide_eq_true hi0
           have d4:decide ((i:Int) + 1 < (f.size:Int)) = false:=decide_eq_false (by omega)
           go_wp2_with fail
           refine HL.out.mono ?_
           rintro e w1 ⟨rfl,rfl⟩
           go_wp2_with fail
           go_ret2
           exact ⟨by rw [HV.out];rfl,rfl⟩
          ·have d3:decide (0 < i) = false:=decide_eq_false hi0
           go_wp2_with fail
           refine HL.out.mono ?_
           rintro e w1 ⟨rfl,rfl⟩
           go_wp2_with fail
           go_ret2
           exact ⟨by rw [HV.out];rfl,rfl⟩
        ·rw [if_neg (fun h=>h47 h.1)] at HST
         have e47:((x.toNat:Int) == 47) = false:=(byte_eq (x:=x) (c:=47)).trans (decide_eq_false h47)
         by_cases h37:x = 37
         ·subst h37
          by_cases hin:i + 1 < f.size
          ·have d4:decide ((i:Int) + 1 < (f.size:Int)) = true:=decide_eq_true (by omega)
           obtain ⟨y,hy⟩:∃ y,f.data.toList[i + 1]'(by omega) = y:=⟨_,rfl⟩
           have hyi:f[i + 1] = y:=by rw [← hy];exact (Array.getElem_toList (xs:=f.data) (h:=by omega)).symm
           have hh:(f.data.toList.drop (i + 1)).head? = some y:=by rw [HHD.out,List.getElem?_eq_getElem (by omega),hy]
           rw [hh] at HST
           have e1:(((i:Int) + 1).toNat) = i + 1:=by omega
           clear hy hh
           by_cases hy1:y = 115
           ·subst hy1
            have HN:=Lib.hid (show scanR f.data.toList.length i (37 :: f.data.toList.drop (i + 1)) (0,a) = scanR f.data.toList.length (i + 1) (f.data.toList.drop (i + 1)) (1,i) by rw [HST.out,if_pos ⟨rfl,rfl⟩])
            go_wp2_with fail
            refine HL.out.mono ?_
            rintro e w1 ⟨rfl,rfl⟩
            go_wp2_with fail
            go_roundw
            case rel=>exact ⟨i + 1,1,i,by omega,by go_num,rfl,rfl,by omega,by omega,by omega,by trivial,HSC.out.trans HN.out⟩
            case measure=>simp [intOf];omega
           ·rw [if_neg (fun h=>hy1 (by simpa using h.2))] at HST
            have e115:((y.toNat:Int) == 115) = false:=(byte_eq (x:=y) (c:=115)).trans (decide_eq_false hy1)
            by_cases hy2:y = 122
            ·subst hy2
             have HN:=Lib.hid (show scanR f.data.toList.length i (37 :: f.data.toList.drop (i + 1)) (0,a) = scanR f.data.toList.length (i + 1) (f.data.toList.drop (i + 1)) (2,i) by rw [HST.out,if_pos ⟨rfl,rfl⟩])
             go_wp2_with fail
             refine HL.out.mono ?_
             rintro e w1 ⟨rfl,rfl⟩
             go_wp2_with fail
             go_roundw
             case rel=>exact ⟨i + 1,2,i,by omega,by go_num,rfl,rfl,by omega,by omega,by omega,by trivial,HSC.out.trans HN.out⟩
             case measure=>simp [intOf];omega
            ·have e122:((y.toNat:Int) == 122) = false:=(byte_eq (x:=y) (c:=122)).trans (decide_eq_false hy2)
             have HV:=Lib.hid (HBAD.out (by rw [HST.out,if_neg (fun h=>hy2 (by simpa using h.2))]))
             go_wp2_with fail
             refine HL.out.mono ?_
             rintro e w1 ⟨rfl,rfl⟩
             go_wp2_with fail
             go_ret2
             exact ⟨by rw [HV.out];rfl,rfl⟩
          ·have d4:decide ((i:Int) + 1 < (f.size:Int)) = false:=decide_eq_false (by omega)
           have hh:(f.data.toList.drop (i + 1)).head? = none:=by rw [HHD.out,List.getElem?_eq_none (by omega)]
           have HV:=Lib.hid (HBAD.out (by rw [HST.out,hh,if_neg (fun h=>absurd h.2 (by decide)),if_neg (fun h=>absurd h.2 (by decide))]))
           go_wp2_with fail
           refine HL.out.mono ?_
           rintro e w1 ⟨rfl,rfl⟩
           go_wp2_with fail
           go_ret2
           exact ⟨by rw [HV.out];rfl,rfl⟩
         ·have e37:((x.toNat:Int) == 37) = false:=(byte_eq (x:=x) (c:=37)).trans (decide_eq_false h37)
          have HV:=Lib.hid (HBAD.out (by rw [HST.out,if_neg (fun h=>h37 h.1),if_neg (fun h=>h37 h.1)]))
          go_wp2_with fail
          refine HL.out.mono ?_
          rintro e w1 ⟨rfl,rfl⟩
          go_wp2_with fail
          go_ret2
          exact ⟨by rw [HV.out];rfl,rfl⟩
       ·have HV:=Lib.hid (HBAD.out (by rw [HST.out,if_pos hk]))
        have d0:(k != 0) = true:=by simpa using hk
        go_wp2_with fail
        refine HL.out.mono ?_
        rintro e w1 ⟨rfl,rfl⟩
        go_wp2_with fail
        go_ret2
        exact ⟨by rw [HV.out];rfl,rfl⟩
    ·obtain rfl:i = f.size:=by omega
     have hd:decide ((f.size:Int) < (f.size:Int)) = false:=decide_eq_false (by omega)
     have HV:=Lib.hid (show refK f.data.toList = (k,a) by
      rw [HR.out,HSC.out,List.drop_eq_nil_of_le (by omega)]
      rfl)
     go_wp2_with fail
     go_ret2
     exact ⟨by rw [HV.out];rfl,rfl⟩
end
section -- ARefT
open Go Go.RowKit Go.Shelf
theorem pair_any (n:Int) (h0:0 ≤ n) (h1:n < 100) (w:World) :
  Calls Tryz.prog 172 #[.int .i64 n] w fun e w'=>e = .returned (.string (twoB n))∧Below w.heap.size w w':=by
 have e1:n.tdiv 10 = n / 10:=by rw [Int.tdiv_eq_ediv_of_nonneg h0]
 have e2:n.tmod 10 = n % 10:=by rw [Int.tmod_eq_emod_of_nonneg h0]
 have e3:(n / 10).tmod 10 = n / 10:=by rw [Int.tmod_eq_emod_of_nonneg (by omega)];omega
 have HC:=two_conv h0 h1 w
 go_enter Tryz.func172,Tryz.ntmps172
 go_wp2_with fail
 go_ret
 exact ⟨rfl,(Below.refl w.heap.size w).alloc (Nat.le_refl _) _⟩
theorem roff_any (off:Int) (hr:-360000 < off∧off < 360000) (w:World) :
  Calls Tryz.prog 143 #[.int .i64 off] w fun e w'=>e = .returned (.string (offB off))∧Below w.heap.size w w':=by
 have HT:=Lib.hid (fun n h0 h1 W=>pair_any n h0 h1 W)
 by_cases hn:off < 0
 ·have hd3:decide (off < 0) = true:=decide_eq_true hn
  have e0:(0:Int) - off = -off:=by omega
  have e3:(-off).tdiv 3600 = (-off) / 3600:=by rw [Int.tdiv_eq_ediv_of_nonneg (by omega)]
  have e4:(-off).tdiv 60 = (-off) / 60:=by rw [Int.tdiv_eq_ediv_of_nonneg (by omega)]
  have e5:(-off) / 60 - 60 * ((-off) / 3600) = (-off) % 3600 / 60:=by omega
  have e6:(-off) - 3600 * ((-off) / 3600) - 60 * ((-off) % 3600 / 60) = (-off) % 60:=by omega
  have H1:=Lib.hid (HT.out ((-off) / 3600) (by omega) (by omega))
  have H2:=Lib.hid (HT.out ((-off) % 3600 / 60) (by omega) (by omega))
  have H3:=Lib.hid (HT.out ((-off) % 60) (by omega) (by omega))
  have s1:(twoB ((-off) / 3600)).size = 2:=rfl
  have s2:(twoB ((-off) % 3600 / 60)).size = 2:=rfl
  have s3:(twoB ((-off) % 60)).size = 2:=rfl
  have b1:0 ≤ (-off) / 3600∧(-off) / 3600 < 100:=by omega
  have b2:0 ≤ (-off) % 3600 / 60∧(-off) % 3600 / 60 < 60:=by omega
  have b3:0 ≤ (-off) % 60∧(-off) % 60 < 60:=by omega
  have b4:0 ≤ (-off) / 60∧(-off) / 60 < 6000:=by omega
  have b5:0 ≤ 60 * ((-off) / 3600)∧60 * ((-off) / 3600) < 6000:=by omega
  have b6:0 ≤ 3600 * ((-off) / 3600)∧3600 * ((-off) / 3600) ≤ (-off):=by omega
  have b7:0 ≤ 60 * ((-off) % 3600 / 60)∧60 * ((-off) % 3600 / 60) < 3600:=by omega
  by_cases h4:(-off) % 60 = 0
  ·have g4:((-off) % 60 != 0) = false:=by rw [h4];rfl
   by_cases h3:(-off) % 3600 / 60 = 0
   ·have HV:=Lib.hid (show offB off = ⟨#[45]⟩ ++ twoB ((-off) / 3600) by unfold offB offN;rw [if_pos hn,if_neg (by omega),if_neg (by omega),show (⟨#[]⟩:ByteArray) = ByteArray.empty from rfl,ByteArray.append_empty,ByteArray.append_empty])
    have g3:((-off) % 3600 / 60 != 0) = false:=by rw [h3];rfl
    clear h3 h4 HT H2 H3
    go_enter Tryz.func143,Tryz.ntmps143
    go_wp2_with fail
    refine (H1.out _).mono ?_
    rintro e w1 ⟨rfl,hb1⟩
    go_wp2_with fail
    go_ret
    exact ⟨by rw [HV.out];rfl,hb1⟩
   ·have HV:=Lib.hid (show offB off = ⟨#[45]⟩ ++ twoB ((-off) / 3600) ++ twoB ((-off) % 3600 / 60) by unfold offB offN;rw [if_pos hn,if_pos (by omega),if_neg (by omega),← ByteArray.append_assoc,← ByteArray.append_assoc];exact ByteArray.append_empty)
    have g3:((-off) % 3600 / 60 != 0) = true:=by simpa using h3
    clear h3 h4 HT H3
    go_enter Tryz.func143,Tryz.ntmps143
    go_wp2_with fail
    refine (H1.out _).mono ?_
    rintro e w1 ⟨rfl,hb1⟩
    go_wp2_with fail
    refine (H2.out _).mono ?_
    rintro e w2 ⟨rfl,hb2⟩
    go_wp2_with fail
    go_ret
    exact ⟨by rw [HV.out];rfl,hb1.trans (hb2.mono hb1.size)⟩
  ·have HV:=Lib.hid (show offB off = ⟨#[45]⟩ ++ twoB ((-off) / 3600) ++ twoB ((-off) % 3600 / 60) ++ twoB ((-off) % 60) by unfold offB offN;rw [if_pos hn,if_pos (by omega),if_pos (by omega),← ByteArray.append_assoc,← ByteArray.append_assoc])
   have g4:((-off) % 60 != 0) = true:=by simpa using h4
   clear h4 HT
   go_enter Tryz.func143,Tryz.ntmps143
   go_wp2_with fail
   refine (H1.out _).mono ?_
   rintro e w1 ⟨rfl,hb1⟩
   go_wp2_with fail
   refine (H2.out _).mono ?_
   rintro e w2 ⟨rfl,hb2⟩
   go_wp2_with fail
   refine (H3.out _).mono ?_
   rintro e w3 ⟨rfl,hb3⟩
   go_wp2_with fail
   go_ret
   exact ⟨by rw [HV.out];rfl,(hb1.trans (hb2.mono hb1.size)).trans (hb3.mono (Nat.le_trans hb1.size hb2.size))⟩
 ·have hd3:decide (off < 0) = false:=decide_eq_false hn
  have e3:(off).tdiv 3600 = (off) / 3600:=by rw [Int.tdiv_eq_ediv_of_nonneg (by omega)]
  have e4:(off).tdiv 60 = (off) / 60:=by rw [Int.tdiv_eq_ediv_of_nonneg (by omega)]
  have e5:(off) / 60 - 60 * ((off) / 3600) = (off) % 3600 / 60:=by omega
  have e6:(off) - 3600 * ((off) / 3600) - 60 * ((off) % 3600 / 60) = (off) % 60:=by omega
  have H1:=Lib.hid (HT.out ((off) / 3600) (by omega) (by omega))
  have H2:=Lib.hid (HT.out ((off) % 3600 / 60) (by omega) (by omega))
  have H3:=Lib.hid (HT.out ((off) % 60) (by omega) (by omega))
  have s1:(twoB ((off) / 3600)).size = 2:=rfl
  have s2:(twoB ((off) % 3600 / 60)).size = 2:=rfl
  have s3:(twoB ((off) % 60)).size = 2:=rfl
  have b1:0 ≤ (off) / 3600∧(off) / 3600 < 100:=by omega
  have b2:0 ≤ (off) % 3600 / 60∧(off) % 3600 / 60 < 60:=by omega
  have b3:0 ≤ (off) % 60∧(off) % 60 < 60:=by omega
  have b4:0 ≤ (off) / 60∧(off) / 60 < 6000:=by omega
  have b5:0 ≤ 60 * ((off) / 3600)∧60 * ((off) / 3600) < 6000:=by omega
  have b6:0 ≤ 3600 * ((off) / 3600)∧3600 * ((off) / 3600) ≤ (off):=by omega
  have b7:0 ≤ 60 * ((off) % 3600 / 60)∧60 * ((off) % 3600 / 60) < 3600:=by omega
  by_cases h4:(off) % 60 = 0
  ·have g4:((off) % 60 != 0) = false:=by rw [h4];rfl
   by_cases h3:(off) % 3600 / 60 = 0
   ·have HV:=Lib.hid (show offB off = ⟨#[43]⟩ ++ twoB ((off) / 3600) by unfold offB offN;rw [if_neg hn,if_neg (by omega),if_neg (by omega),show (⟨#[]⟩:ByteArray) = ByteArray.empty from rfl,ByteArray.append_empty,ByteArray.append_empty])
    have g3:((off) % 3600 / 60 != 0) = false:=by rw [h3];rfl
    clear h3 h4 HT H2 H3
    go_enter Tryz.func143,Tryz.ntmps143
    go_wp2_with fail
    refine (H1.out _).mono ?_
    rintro e w1 ⟨rfl,hb1⟩
    go_wp2_with fail
    go_ret
    exact ⟨by rw [HV.out];rfl,hb1⟩
   ·have HV:=Lib.hid (show offB off = ⟨#[43]⟩ ++ twoB ((off) / 3600) ++ twoB ((off) % 3600 / 60) by unfold offB offN;rw [if_neg hn,if_pos (by omega),if_neg (by omega),← ByteArray.append_assoc,← ByteArray.append_assoc];exact ByteArray.append_empty)
    have g3:((off) % 3600 / 60 != 0) = true:=by simpa using h3
    clear h3 h4 HT H3
    go_enter Tryz.func143,Tryz.ntmps143
    go_wp2_with fail
    refine (H1.out _).mono ?_
    rintro e w1 ⟨rfl,hb1⟩
    go_wp2_with fail
    refine (H2.out _).mono ?_
    rintro e w2 ⟨rfl,hb2⟩
    go_wp2_with fail
    go_ret
    exact ⟨by rw [HV.out];rfl,hb1.trans (hb2.mono hb1.size)⟩
  ·have HV:=Lib.hid (show offB off = ⟨#[43]⟩ ++ twoB ((off) / 3600) ++ twoB ((off) % 3600 / 60) ++ twoB ((off) % 60) by unfold offB offN;rw [if_neg hn,if_pos (by omega),if_pos (by omega),← ByteArray.append_assoc,← ByteArray.append_assoc])
   have g4:((off) % 60 != 0) = true:=by simpa using h4
   clear h4 HT
   go_enter Tryz.func143,Tryz.ntmps143
   go_wp2_with fail
   refine (H1.out _).mono ?_
   rintro e w1 ⟨rfl,hb1⟩
   go_wp2_with fail
   refine (H2.out _).mono ?_
   rintro e w2 ⟨rfl,hb2⟩
   go_wp2_with fail
   refine (H3.out _).mono ?_
   rintro e w3 ⟨rfl,hb3⟩
   go_wp2_with fail
   go_ret
   exact ⟨by rw [HV.out];rfl,(hb1.trans (hb2.mono hb1.size)).trans (hb3.mono (Nat.le_trans hb1.size hb2.size))⟩
end
section -- ARefU
open Go Go.RowKit Go.Shelf
theorem bytes_ext {a b:ByteArray} (h:a.data.toList = b.data.toList):a = b:=by
 obtain ⟨⟨x⟩⟩:=a
 obtain ⟨⟨y⟩⟩:=b
 simp at h
 rw [h]
theorem repB_at {f m new:ByteArray} {i:Nat} (hi:Lib.index f.data.toList m.data.toList = i) (hf:f.data.toList = f.data.toList.take i ++ m.data.toList ++ f.data.toList.drop (i + m.data.toList.length)) :
  repB f m new = f.extract 0 i ++ new ++ f.extract (i + m.data.toList.length) f.size:=by
 apply bytes_ext
 unfold repB
 rw [Go.Joins.data_append,Go.Joins.data_append,Go.Lib.Pa.extract_upto_list,Lib.extract_to_end]
 show Lib.replace _ _ _ 1 = _
 by_cases hm:m.data.toList = new.data.toList
 ·unfold Lib.replace
  rw [if_pos (by simpa using hm),← hm]
  exact hf
 ·exact rep_at hm hi
theorem cut_at {f:ByteArray} {i:Nat} (hi:Lib.index f.data.toList [47] = i):(⟨(Lib.cut f.data.toList [47]).1.toArray⟩:ByteArray) = f.extract 0 i∧(⟨(Lib.cut f.data.toList [47]).2.1.toArray⟩:ByteArray) = f.extract (i + 1) f.size:=by
 unfold Lib.cut
 rw [if_pos (by rw [hi];omega),hi]
 constructor
 ·apply bytes_ext
  rw [Go.Lib.Pa.extract_upto_list]
  rfl
 ·apply bytes_ext
  rw [Lib.extract_to_end]
  rfl
theorem rshow_any (f:ByteArray) (off:Int) (dst:Bool) (letter:ByteArray) (w:World) (hs:f.size < 4294967281) (hl:letter.size ≤ 140737488351232) :
  Calls Tryz.prog 115 #[.string f,.int .i64 off,.bool dst,.string letter] w fun o w'=>o = .returned (.tuple #[.string (showV f off dst letter).1,.bool (decide ((showV f off dst letter).2 = 0))])∧Below w.heap.size w w':=by
 have HK:=Lib.hid (rkind_any f w hs)
 have hlen:f.data.toList.length = f.size:=Array.length_toList
 rcases refK_of f.data.toList with ⟨h1,h2⟩ | ⟨k,at_,h1,h2,h3⟩
 ·have e:showV f off dst letter = (⟨#[]⟩,12):=by unfold showV;rw [h1,if_neg (by decide)]
  rw [e]
  rw [h2] at HK
  clear h1 h2 e
  go_enter Tryz.func115,Tryz.ntmps115
  go_wp2_with fail
  refine HK.out.mono ?_
  rintro e w1 ⟨rfl,rfl⟩
  go_wp2_with fail
  go_ret2
  exact ⟨rfl,Below.refl _ _⟩
 ·rw [h2] at HK
  rcases h3 with ⟨rfl,rfl⟩ | ⟨k1,k3,hf,hi,hle⟩
  ·have e:showV f off dst letter = (f,0):=by unfold showV;rw [h1];rfl
   rw [e]
   clear h1 h2 e
   go_enter Tryz.func115,Tryz.ntmps115
   go_wp2_with fail
   refine HK.out.mono ?_
   rintro e w1 ⟨rfl,rfl⟩
   go_wp2_with fail
   go_ret2
   exact ⟨rfl,Below.refl _ _⟩
  ·rcases (show k = 1∨k = 2∨k = 3 by omega) with rfl | rfl | rfl
   ·have hle2:at_ + 2 ≤ f.size:=by rw [← hlen];exact hle
    have e:showV f off dst letter = (f.extract 0 at_ ++ letter ++ f.extract (at_ + 2) f.size,0):=by
     unfold showV;rw [h1]
     exact congrArg (fun x=>(x,(0:Int))) (repB_at (m:=⟨#[37,115]⟩) hi hf)
    rw [e]
    have z1:(f.extract 0 at_).size ≤ 4294967281:=by rw [ByteArray.size_extract];omega
    have z2:(f.extract (at_ + 2) f.size).size ≤ 4294967281:=by rw [ByteArray.size_extract];omega
    clear h1 h2 e hf hi hle
    go_enter Tryz.func115,Tryz.ntmps115
    go_wp2_with fail
    refine HK.out.mono ?_
    rintro e w1 ⟨rfl,rfl⟩
    go_wp2_with fail
    have e2:((at_:Int) + 2).toNat = at_ + 2:=by omega
    refine wp_env (fin:=?fna) (by kernel_rfl) [23,24,25,26,27,28,29,30,31,32,8,9]
     [.string f,.int .i64 at_,.string (f.extract 0 at_),.string letter,.string (f.extract 0 at_ ++ letter),.string f,.int .i64 at_,.int .i64 ((at_:Int) + 2),.string (f.extract (at_ + 2) f.size),.string (f.extract 0 at_ ++ letter ++ f.extract (at_ + 2) f.size),.string (f.extract 0 at_ ++ letter ++ f.extract (at_ + 2) f.size),.bool true] (by kernel_rfl) ?fina ?stepsa ?nexta
    case fina =>
     simp only [putAll,Act.put,List.setIfInBounds_toArray,List.set_cons_succ,List.set_cons_zero]
     rfl
    case stepsa =>
     refine ⟨?_,?_,?_,?_,?_,?_,?_,?_,?_,?_,?_,?_,trivial⟩
     all_goals refine .inr ⟨by kernel_rfl,fun w1_ hB_=>?_⟩
     all_goals
      skip
      go_simp
      first
       | exact ⟨rfl,Below.refl _ _⟩
       | (rw [if_neg (by omega)];exact ⟨rfl,Below.refl _ _⟩)
       | ((first | rw [decide_eq_true (by omega)] | rw [decide_eq_false (by omega)] | rw [if_pos (by omega)] | rw [IntWalk.i64_in _ (by omega)]);exact ⟨rfl,Below.refl _ _⟩)
       | done
    case nexta =>
    intro w2 hb2
    go_wp2_with fail
    go_ret2
    exact ⟨rfl,hb2⟩
   ·have hle2:at_ + 2 ≤ f.size:=by rw [← hlen];exact hle
    by_cases hr:-360000 < off∧off < 360000
    ·have e:showV f off dst letter = (f.extract 0 at_ ++ offB off ++ f.extract (at_ + 2) f.size,0):=by
      unfold showV;simp only [h1];rw [if_pos trivial,if_neg (by decide),if_pos trivial,if_pos hr]
      exact congrArg (fun x=>(x,(0:Int))) (repB_at (m:=⟨#[37,122]⟩) hi hf)
     rw [e]
     have z1:(f.extract 0 at_).size ≤ 4294967281:=by rw [ByteArray.size_extract];omega
     have z2:(f.extract (at_ + 2) f.size).size ≤ 4294967281:=by rw [ByteArray.size_extract];omega
     have z3:=offB_size off
     have HO:=Lib.hid (fun W=>roff_any off hr W)
     have d1:decide (off ≤ -360000) = false:=decide_eq_false (by omega)
     have d2:decide (360000 ≤ off) = false:=decide_eq_false (by omega)
     clear h1 h2 e hf hi hle
     generalize offB off = ob at *
     go_enter Tryz.func115,Tryz.ntmps115
     go_wp2_with fail
     refine HK.out.mono ?_
     rintro e w1 ⟨rfl,rfl⟩
     go_wp2_with fail
     have e2:((at_:Int) + 2).toNat = at_ + 2:=by omega
     refine wp_env (fin:=?fnb) (by kernel_rfl) [41,42,43,44,45,46,47,48,49,50,51,8,9]
      [.string f,.int .i64 at_,.string (f.extract 0 at_),.int .i64 off,.string ob,.string (f.extract 0 at_ ++ ob),.string f,.int .i64 at_,.int .i64 ((at_:Int) + 2),.string (f.extract (at_ + 2) f.size),.string (f.extract 0 at_ ++ ob ++ f.extract (at_ + 2) f.size),.string (f.extract 0 at_ ++ ob ++ f.extract (at_ + 2) f.size),.bool true] (by kernel_rfl) ?finb ?stepsb ?nextb
     case finb =>
      simp only [putAll,Act.put,List.setIfInBounds_toArray,List.set_cons_succ,List.set_cons_zero]
      rfl
     case stepsb =>
      refine ⟨?_,?_,?_,?_,?_,?_,?_,?_,?_,?_,?_,?_,?_,trivial⟩
      all_goals refine .inr ⟨by kernel_rfl,fun w1_ hB_=>?_⟩
      all_goals
       skip
       go_simp
       first
        | exact ⟨rfl,Below.refl _ _⟩
        | (rw [if_neg (by omega)];exact ⟨rfl,Below.refl _ _⟩)
        | exact ⟨rfl,HO.out w1_⟩
        | ((first | rw [decide_eq_true (by omega)] | rw [decide_eq_false (by omega)] | rw [if_pos (by omega)] | rw [IntWalk.i64_in _ (by omega)]);exact ⟨rfl,Below.refl _ _⟩)
        | done
     case nextb =>
     intro w2 hb2
     go_wp2_with fail
     go_ret2
     exact ⟨rfl,hb2⟩
    ·have e:showV f off dst letter = (⟨#[]⟩,10):=by
      unfold showV;simp only [h1];rw [if_pos trivial,if_neg (by decide),if_pos trivial,if_neg hr]
     rw [e]
     clear h1 h2 e hf hi hle
     by_cases hr1:off ≤ -360000
     ·have d1:decide (off ≤ -360000) = true:=decide_eq_true hr1
      have d2:decide (360000 ≤ off) = false:=decide_eq_false (by omega)
      go_enter Tryz.func115,Tryz.ntmps115
      go_wp2_with fail
      refine HK.out.mono ?_
      rintro e w1 ⟨rfl,rfl⟩
      go_wp2_with fail
      go_ret2
      exact ⟨rfl,Below.refl _ _⟩
     ·have d1:decide (off ≤ -360000) = false:=decide_eq_false hr1
      have d2:decide (360000 ≤ off) = true:=decide_eq_true (by omega)
      go_enter Tryz.func115,Tryz.ntmps115
      go_wp2_with fail
      refine HK.out.mono ?_
      rintro e w1 ⟨rfl,rfl⟩
      go_wp2_with fail
      go_ret2
      exact ⟨rfl,Below.refl _ _⟩
   ·have hle2:at_ + 1 ≤ f.size:=by rw [← hlen];exact hle
    have e2:((at_:Int) + 1).toNat = at_ + 1:=by omega
    obtain ⟨q1,q2⟩:=cut_at (f:=f) hi
    cases dst with
    | true =>
      have e:showV f off true letter = (f.extract (at_ + 1) f.size,0):=by
       unfold showV;simp only [h1];rw [if_pos trivial,if_neg (by decide),if_neg (by decide),if_pos trivial,if_pos trivial,q2]
      rw [e]
      clear h1 h2 e hf hi hle q1 q2
      go_enter Tryz.func115,Tryz.ntmps115
      go_wp2_with fail
      refine HK.out.mono ?_
      rintro e w1 ⟨rfl,rfl⟩
      go_wp2_with fail
      go_ret2
      exact ⟨rfl,Below.refl _ _⟩
    | false =>
      have e:showV f off false letter = (f.extract 0 at_,0):=by
       unfold showV;simp only [h1];rw [if_pos trivial,if_neg (by decide),if_neg (by decide),if_pos trivial,if_neg (by decide),q1]
      rw [e]
      clear h1 h2 e hf hi hle q1 q2
      go_enter Tryz.func115,Tryz.ntmps115
      go_wp2_with fail
      refine HK.out.mono ?_
      rintro e w1 ⟨rfl,rfl⟩
      go_wp2_with fail
      go_ret2
      exact ⟨rfl,Below.refl _ _⟩
end
section -- FSmall
open Go Go.RowKit Go.Shelf
def smallR (r:Rul):Bool:=decide (1900 ≤ r.from_∧r.from_ ≤ 2100∧r.from_ ≤ r.to_∧1 ≤ r.month∧r.month ≤ 12∧-172800 ≤ r.sec∧r.sec ≤ 259200∧0 ≤ r.kind∧r.kind ≤ 2) && dayOkB r.dk r.dw r.dn
def smallB (l:List Rul):Bool:=l.all smallR && decide (l.length ≤ 6)
theorem small_no {l:List Rul} {k:Nat} (hk:k < l.length) (h:smallR l[k] = false):smallB l = false:=by
 unfold smallB
 rw [Bool.and_eq_false_iff]
 left
 rw [List.all_eq_false]
 exact ⟨l[k],List.getElem_mem hk,by rw [h];decide⟩
theorem small_yes {l:List Rul} (h:∀ k (hk:k < l.length),smallR l[k] = true):smallB l = decide (l.length ≤ 6):=by
 unfold smallB
 rw [List.all_eq_true.2 (fun r hr=>by obtain ⟨k,hk,rfl⟩:=List.getElem_of_mem hr;exact h k hk),Bool.true_and]
theorem small_any (w:World) (B:Nat) (v:Value) (l:List Rul) (hv:Ruls w B v l) (hB:B ≤ w.heap.size) :
  Calls Tryz.prog 83 #[v] w fun e w'=>e = .returned (.bool (smallB l))∧Below w.heap.size w w':=by
 obtain ⟨A,c,rfl,hlc,hcm⟩:=hv.form
 unfold maxLen at hcm
 have HV:=Lib.hid hv
 clear hv
 go_enter Tryz.func83,Tryz.ntmps83
 go_wp2_with fail
 go_loopw [3] (fun iv wr=>∃ k:Nat,k ≤ l.length∧iv = .int .i64 k∧(∀ j (hj:j < l.length),j < k→smallR l[j] = true)∧Below w.heap.size w wr) (fun iv _=>l.length - (intOf iv).toNat)
 case atStart=>exact ⟨0,Nat.zero_le _,rfl,fun j _ h=>by omega,Below.refl _ _⟩
 case round =>
  obtain ⟨k,hk,rfl,hsm,hbw⟩:=hrel
  have HSM:=Lib.hid hsm
  have HBW:=Lib.hid hbw
  have hws:=hbw.size
  clear hsm hbw
  by_cases hlt:k < l.length
  ·have hd:decide ((k:Int) < (l.length:Int)) = true:=decide_eq_true (by omega)
   obtain ⟨bb,o,c',e,hbb,hc⟩:=(HV.out.below (HBW.out.mono hB)).cells (by omega)
   cases e
   obtain ⟨c0,c1,c2,c3,c4,c5,c6,c7,c8,c9,c10⟩:=hc k hlt
   have HNO:=Lib.hid (small_no hlt)
   have HYES:=Lib.hid (fun (h:smallR l[k] = true)=>show ∀ j (hj:j < l.length),j < k + 1→smallR l[j] = true from fun j hj hjk=>by
    rcases Nat.lt_or_ge j k with h1 | h1
    ·exact HSM.out j hj h1
    ·have:j = k:=by omega
     subst this
     exact h)
   obtain ⟨r,hr⟩:∃ r,l[k] = r:=⟨_,rfl⟩
   rw [hr] at c0 c1 c2 c3 c4 c5 c6 c7 c8 c9 c10 HNO HYES
   have HDF:=Lib.hid (dfcheck_any r.dk r.dw r.dn (wr.alloc (.cells #[.string r.name,.int .i64 r.from_,.int .i64 r.to_,.int .i64 r.month,.int .i64 r.dk,.int .i64 r.dw,.int .i64 r.dn,.int .i64 r.sec,.int .i64 r.kind,.int .i64 r.save,.string r.letter] 106)))
   unfold dayA at HDF
   clear hr hc
   have hc:True:=trivial
   by_cases h1:r.from_ < 1900
   ·
    have HS:=Lib.hid (HNO.out (by unfold smallR;simp only [Bool.and_eq_false_iff,decide_eq_false_iff_not];left;omega))
    clear hc
    go_wp2_with fail
    go_ret
    exact ⟨by rw [HS.out];rfl,HBW.out.alloc hws _⟩
   ·by_cases h2:2100 < r.from_
    ·
     have HS:=Lib.hid (HNO.out (by unfold smallR;simp only [Bool.and_eq_false_iff,decide_eq_false_iff_not];left;omega))
     clear hc
     go_wp2_with fail
     go_ret
     exact ⟨by rw [HS.out];rfl,HBW.out.alloc hws _⟩
    ·by_cases h3:r.to_ < r.from_
     ·
      have HS:=Lib.hid (HNO.out (by unfold smallR;simp only [Bool.and_eq_false_iff,decide_eq_false_iff_not];left;omega))
      clear hc
      go_wp2_with fail
      go_ret
      exact ⟨by rw [HS.out];rfl,HBW.out.alloc hws _⟩
     ·by_cases h4:r.month < 1
      ·
       have HS:=Lib.hid (HNO.out (by unfold smallR;simp only [Bool.and_eq_false_iff,decide_eq_false_iff_not];left;omega))
       clear hc
       go_wp2_with fail
       go_ret
       exact ⟨by rw [HS.out];rfl,HBW.out.alloc hws _⟩
      ·by_cases h5:12 < r.month
       ·
        have HS:=Lib.hid (HNO.out (by unfold smallR;simp only [Bool.and_eq_false_iff,decide_eq_false_iff_not];left;omega))
        clear hc
        go_wp2_with fail
        go_ret
        exact ⟨by rw [HS.out];rfl,HBW.out.alloc hws _⟩
       ·by_cases h6:r.sec < -172800
        ·
         have HS:=Lib.hid (HNO.out (by unfold smallR;simp only [Bool.and_eq_false_iff,decide_eq_false_iff_not];left;omega))
         clear hc
         go_wp2_with fail
         go_ret
         exact ⟨by rw [HS.out];rfl,HBW.out.alloc hws _⟩
        ·by_cases h7:259200 < r.sec
         ·
          have HS:=Lib.hid (HNO.out (by unfold smallR;simp only [Bool.and_eq_false_iff,decide_eq_false_iff_not];left;omega))
          clear hc
          go_wp2_with fail
          go_ret
          exact ⟨by rw [HS.out];rfl,HBW.out.alloc hws _⟩
         ·by_cases h8:r.kind < 0
          ·
           have HS:=Lib.hid (HNO.out (by unfold smallR;simp only [Bool.and_eq_false_iff,decide_eq_false_iff_not];left;omega))
           clear hc
           go_wp2_with fail
           go_ret
           exact ⟨by rw [HS.out];rfl,HBW.out.alloc hws _⟩
          ·by_cases h9:2 < r.kind
           ·
            have HS:=Lib.hid (HNO.out (by unfold smallR;simp only [Bool.and_eq_false_iff,decide_eq_false_iff_not];left;omega))
            clear hc
            go_wp2_with fail
            go_ret
            exact ⟨by rw [HS.out];rfl,HBW.out.alloc hws _⟩
           ·have HR0:=Lib.hid (show decide (1900 ≤ r.from_∧r.from_ ≤ 2100∧r.from_ ≤ r.to_∧1 ≤ r.month∧r.month ≤ 12∧-172800 ≤ r.sec∧r.sec ≤ 259200∧0 ≤ r.kind∧r.kind ≤ 2) = true by rw [decide_eq_true_eq];omega)
            cases hok:dayOkB r.dk r.dw r.dn with
            | false =>
              have HS:=Lib.hid (HNO.out (by unfold smallR;rw [hok,Bool.and_false]))
              rw [hok] at HDF
              simp only [Bool.false_eq_true,if_false] at HDF
              clear hok
              go_wp2_with fail
              refine HDF.out.mono ?_
              rintro e w2 ⟨rfl,hb⟩
              have HB2:=Lib.hid ((HBW.out.alloc hws _).trans (hb.mono (by simp;omega)))
              clear hb
              go_wp2_with fail
              go_ret
              exact ⟨by rw [HS.out];rfl,HB2.out⟩
            | true =>
              have HS:=Lib.hid (HYES.out (by unfold smallR;rw [hok,HR0.out];rfl))
              rw [hok] at HDF
              simp only [if_true] at HDF
              clear hok
              go_wp2_with fail
              refine HDF.out.mono ?_
              rintro e w2 ⟨rfl,hb⟩
              have HB2:=Lib.hid ((HBW.out.alloc hws _).trans (hb.mono (by simp;omega)))
              clear hb
              go_wp2_with fail
              go_roundw
              case rel=>exact ⟨k + 1,by omega,by go_num,HS.out,HB2.out⟩
              case measure=>first | (simp [intOf];done) | (simp [intOf];omega)
  ·obtain rfl:k = l.length:=by omega
   have HS:=Lib.hid (small_yes (fun k hk=>HSM.out k hk hk))
   by_cases h6:l.length ≤ 6
   ·rw [decide_eq_true h6] at HS
    go_wp2_with fail
    go_ret
    exact ⟨by rw [HS.out];simp;omega,HBW.out⟩
   ·rw [decide_eq_false h6] at HS
    go_wp2_with fail
    go_ret
    exact ⟨by rw [HS.out];simp;omega,HBW.out⟩
end
section -- PMath
open Go Go.RowKit Go.Shelf
def tryY (r:Rul) (st:Int) (may:Fir→Bool):Nat→Int→Option Fir
 | 0,_=>none
 | n + 1,y=>if ofB r y && may (firOf r y) then some (firOf r y) else tryY r st may n (y + st)
def pickS (better:Fir→Fir→Bool) (o c:Option Fir):Option Fir :=
 match c with
 | none=>o
 | some f=>match o with
   | none=>some f
   | some x=>if better f x then some f else some x
def pickV (l:List Rul) (yr:Rul→Int) (st:Int) (better:Fir→Fir→Bool) (may:Fir→Bool):Option Fir :=
 l.foldl (fun o r=>pickS better o (tryY r st may 12 (yr r))) none
theorem pickV_snoc (l:List Rul) (r:Rul) (yr:Rul→Int) (st:Int) (better:Fir→Fir→Bool) (may:Fir→Bool) :
  pickV (l ++ [r]) yr st better may = pickS better (pickV l yr st better may) (tryY r st may 12 (yr r)):=by
 unfold pickV
 rw [List.foldl_append]
 rfl
theorem pickV_next {l:List Rul} {k:Nat} (hk:k < l.length) (yr:Rul→Int) (st:Int) (better:Fir→Fir→Bool) (may:Fir→Bool) :
  pickV (l.take (k + 1)) yr st better may = pickS better (pickV (l.take k) yr st better may) (tryY l[k] st may 12 (yr l[k])):=by
 rw [List.take_add_one,List.getElem?_eq_getElem hk]
 exact pickV_snoc _ _ _ _ _ _
def secYear (s:Int):Int:=if ofInB (s / 86400) then ofYear (s / 86400) else 0
def geB (a b:Fir):Bool:=decide (b.nominal ≤ a.nominal)
def ltB (a b:Fir):Bool:=decide (a.nominal < b.nominal)
def underB (s:Int) (f:Fir):Bool:=decide (f.nominal < s)
def atB (s:Int) (f:Fir):Bool:=decide (s ≤ f.nominal)
def aheadF (l:List Rul) (s:Int):Option Fir:=pickV l (fun r=>min r.to_ (secYear s + 1)) (-1) geB (underB s)
def behindF (l:List Rul) (s:Int):Option Fir:=pickV l (fun r=>max r.from_ (secYear s - 1)) 1 ltB (atB s)
def saveO (o:Option Fir):Int:=match o with | some x=>x.save | none=>0
def savedF (l:List Rul) (f:Fir):Int:=saveO (aheadF l f.nominal)
def instF (f:Fir) (off save:Int):Int:=if f.kind = 2 then f.nominal else if f.kind = 1 then f.nominal - off else f.nominal - off - save
def backF (l:List Rul) (off i:Int):Nat→Option Fir→Option Fir
 | 0,o=>o
 | _ + 1,none=>none
 | n + 1,some f=>if i < instF f off (savedF l f) then backF l off i n (aheadF l f.nominal) else some f
def farN:Int:=5000000000000
def latestF (l:List Rul) (off i:Int):Option Fir:=backF l off i ((i + 180001) + farN).toNat (aheadF l (i + 180001))
def firedN (l:List Rul) (off fr to:Int):Nat→Option Fir→List (Int × Fir)
 | 0,_=>[]
 | _ + 1,none=>[]
 | n + 1,some f=>if f.nominal ≤ to + 180000 then
    (if instF f off (savedF l f) ≤ fr∨to < instF f off (savedF l f) then firedN l off fr to n (behindF l (f.nominal + 1))
      else (instF f off (savedF l f),f) :: firedN l off fr to n (behindF l (f.nominal + 1)))
   else []
def firedF (l:List Rul) (off fr to:Int):List (Int × Fir):=firedN l off fr to (to + 180001 + farN).toNat (behindF l (fr - 180000))
theorem tryY_some {r:Rul} {st:Int} {may:Fir→Bool}:∀ {n:Nat} {y:Int} {f:Fir},tryY r st may n y = some f→∃ j:Nat,j < n∧f = firOf r (y + st * j)∧ofB r (y + st * j) = true∧may f = true∧∀ i:Nat,i < j→¬ (ofB r (y + st * i) = true∧may (firOf r (y + st * i)) = true)
 | 0,y,f,h=>by cases h
 | n + 1,y,f,h=>by
   unfold tryY at h
   by_cases hc:(ofB r y && may (firOf r y)) = true
   ·rw [if_pos hc] at h
    cases h
    rw [Bool.and_eq_true] at hc
    exact ⟨0,by omega,by simp,by simpa using hc.1,hc.2,fun i hi=>absurd hi (by omega)⟩
   ·rw [if_neg hc] at h
    obtain ⟨j,hj,rfl,h1,h2,h3⟩:=tryY_some h
    have e:∀ k:Nat,y + st + st * (k:Int) = y + st * ((k + 1:Nat):Int):=fun k=>by push_cast;rw [Int.mul_add];omega
    refine ⟨j + 1,by omega,by rw [← e],by rw [← e];exact h1,h2,fun i hi=>?_⟩
    rcases i with _ | i
    ·intro ⟨g1,g2⟩
     apply hc
     rw [Bool.and_eq_true]
     simp at g1 g2
     exact ⟨g1,g2⟩
    ·rw [← e]
     exact h3 i (by omega)
theorem tryY_none {r:Rul} {st:Int} {may:Fir→Bool}:∀ {n:Nat} {y:Int},tryY r st may n y = none→∀ i:Nat,i < n→¬ (ofB r (y + st * i) = true∧may (firOf r (y + st * i)) = true)
 | 0,y,h,i,hi=>absurd hi (by omega)
 | n + 1,y,h,i,hi=>by
   unfold tryY at h
   by_cases hc:(ofB r y && may (firOf r y)) = true
   ·rw [if_pos hc] at h
    cases h
   ·rw [if_neg hc] at h
    have e:∀ k:Nat,y + st + st * (k:Int) = y + st * ((k + 1:Nat):Int):=fun k=>by push_cast;rw [Int.mul_add];omega
    rcases i with _ | i
    ·intro ⟨g1,g2⟩
     apply hc
     rw [Bool.and_eq_true]
     simp at g1 g2
     exact ⟨g1,g2⟩
    ·rw [← e]
     exact tryY_none h i (by omega)
theorem of_month {r:Rul} {y:Int} (h:ofB r y = true):-100000 ≤ y∧y ≤ 100000∧1 ≤ r.month∧r.month ≤ 12∧r.from_ ≤ y∧y ≤ r.to_∧dayOkB r.dk r.dw r.dn = true∧r.dn ≤ lenV y r.month∧-604800 < r.sec∧r.sec < 604800:=by
 unfold ofB inOkB inB ymB mayB at h
 simp only [Bool.and_eq_true,decide_eq_true_eq] at h
 obtain ⟨⟨h1,h2⟩,⟨⟨⟨h3,h4⟩,h5⟩,-⟩,h7,h8⟩:=h
 exact ⟨h4.1,h4.2.1,h4.2.2.1,h4.2.2.2,h1,h2,h3,h5,h7,h8⟩
theorem day_ok {k wk n:Int} (h:dayOkB k wk n = true):0 ≤ k∧k ≤ 3∧0 ≤ wk∧wk ≤ 6∧0 ≤ n∧n ≤ 31∧(k ≠ 1→1 ≤ n):=by
 unfold dayOkB at h
 simp at h
 omega
theorem inDay_in {k wk n y m:Int} (hok:dayOkB k wk n = true) (h1:1 ≤ m) (h2:m ≤ 12) (hn:n ≤ lenV y m):yearV y - 6 ≤ inDay k wk n y m∧inDay k wk n y m ≤ yearV y + 371 + leapsV y∧inDay k wk n y m ≤ yearV (y + 1) + 6:=by
 obtain ⟨k1,k2,w1,w2,n1,n2,hn1⟩:=day_ok hok
 have e:=yearV_next y
 have hl:=leapsV_in y
 have hlen:=lenV_in (y:=y) h1 h2
 have hs:startV y m + lenV y m ≤ 365 + leapsV y:=by
  by_cases hm:m = 12
  ·subst hm;rw [startV_dec];exact Int.le_refl _
  ·rw [← startV_next h1 (by omega)]
   have hd:=@startV_dec y
   have hl2:=lenV_in (y:=y) (m:=12) (by omega) (by omega)
   obtain ⟨a,ha,hb⟩:=aheadV_at (m + 1) (by omega) (by omega)
   rw [ha]
   have:=startV_mono (y:=y) 11 (j:=a) (by omega) (by omega)
   rw [show ((11:Nat):Int) + 1 = 12 by rfl] at this
   omega
 have hs0:=(startV_in y m).1
 have hday:∀ d,1 ≤ d→d ≤ lenV y m→yearV y ≤ dayV y m d∧dayV y m d ≤ yearV y + 364 + leapsV y:=fun d g1 g2=>by unfold dayV;omega
 have hsk1:∀ a,a ≤ seekV a 1 wk∧seekV a 1 wk ≤ a + 6:=fun a=>by unfold seekV;rw [if_pos rfl];omega
 have hsk2:∀ a,a - 6 ≤ seekV a (-1) wk∧seekV a (-1) wk ≤ a:=fun a=>by unfold seekV;rw [if_neg (by decide)];omega
 unfold inDay
 by_cases k0:k = 0
 ·rw [if_pos k0]
  have:=hday n (hn1 (by omega)) hn
  omega
 ·rw [if_neg k0]
  by_cases kk:k = 2
  ·rw [if_pos kk]
   have g:=hday n (hn1 (by omega)) hn
   have:=hsk1 (dayV y m n)
   omega
  ·rw [if_neg kk]
   by_cases kl:k = 1
   ·rw [if_pos kl]
    have g:=hday (lenV y m) (by omega) (Int.le_refl _)
    have:=hsk2 (dayV y m (lenV y m))
    omega
   ·rw [if_neg kl]
    have g:=hday n (hn1 (by omega)) hn
    have:=hsk2 (dayV y m n)
    omega
theorem firOf_in {r:Rul} {y:Int} (h:ofB r y = true):86400 * yearV y - 1123200 < (firOf r y).nominal∧(firOf r y).nominal < 86400 * yearV (y + 1) + 1123200:=by
 obtain ⟨-,-,m1,m2,-,-,hok,hn,s1,s2⟩:=of_month h
 obtain ⟨d1,d2,d3⟩:=inDay_in (y:=y) hok m1 m2 hn
 unfold firOf
 simp only
 omega
theorem yearV_far {a b:Int} (h:a ≤ b):yearV a + 365 * (b - a) ≤ yearV b:=by unfold yearV;omega
theorem firOf_lt {r:Rul} {y z:Int} (h:ofB r y = true) (hz:ofB r z = true) (hyz:y < z):(firOf r y).nominal < (firOf r z).nominal:=by
 obtain ⟨-,-,m1,m2,-,-,hok,hn,s1,s2⟩:=of_month h
 obtain ⟨-,-,-,-,-,-,-,hn2,-,-⟩:=of_month hz
 obtain ⟨k1,k2,w1,w2,n1,n2,hn1⟩:=day_ok hok
 have hy:=yearV_far (show y + 1 ≤ z by omega)
 have e:=yearV_next y
 have l1:=leapsV_in y
 have l2:=leapsV_in z
 have a1:∀ d,dayV y r.month d = yearV y + startV y r.month + d - 1:=fun d=>rfl
 have a2:∀ d,dayV z r.month d = yearV z + startV z r.month + d - 1:=fun d=>rfl
 have b1:startV y r.month ≤ startV z r.month + 1:=by unfold startV;split <;> omega
 have c1:lenV y r.month ≤ lenV z r.month + 1:=by unfold lenV;split <;> omega
 have hsk1:∀ a,a ≤ seekV a 1 r.dw∧seekV a 1 r.dw ≤ a + 6:=fun a=>by unfold seekV;rw [if_pos rfl];omega
 have hsk2:∀ a,a - 6 ≤ seekV a (-1) r.dw∧seekV a (-1) r.dw ≤ a:=fun a=>by unfold seekV;rw [if_neg (by decide)];omega
 have key:inDay r.dk r.dw r.dn y r.month < inDay r.dk r.dw r.dn z r.month:=by
  unfold inDay
  by_cases k0:r.dk = 0
  ·rw [if_pos k0,if_pos k0,a1,a2]
   omega
  ·rw [if_neg k0,if_neg k0]
   by_cases kk:r.dk = 2
   ·rw [if_pos kk,if_pos kk]
    have g1:=hsk1 (dayV y r.month r.dn)
    have g2:=hsk1 (dayV z r.month r.dn)
    rw [a1] at g1;rw [a2] at g2
    rw [a1,a2]
    omega
   ·rw [if_neg kk,if_neg kk]
    by_cases kl:r.dk = 1
    ·rw [if_pos kl,if_pos kl]
     have g1:=hsk2 (dayV y r.month (lenV y r.month))
     have g2:=hsk2 (dayV z r.month (lenV z r.month))
     rw [a1] at g1;rw [a2] at g2
     rw [a1,a2]
     omega
    ·rw [if_neg kl,if_neg kl]
     have g1:=hsk2 (dayV y r.month r.dn)
     have g2:=hsk2 (dayV z r.month r.dn)
     rw [a1] at g1;rw [a2] at g2
     rw [a1,a2]
     omega
 unfold firOf
 simp only
 omega
theorem leap_near (a:Int):∃ j,a ≤ j∧j ≤ a + 7∧leapB j = true:=by
 by_cases h:(a + (-a) % 4) % 100 = 0
 ·exact ⟨a + (-a) % 4 + 4,by omega,by omega,by unfold leapB;rw [decide_eq_true_eq];omega⟩
 ·exact ⟨a + (-a) % 4,by omega,by omega,by unfold leapB;rw [decide_eq_true_eq];omega⟩
theorem of_make {r:Rul} {y:Int} (h1:-99000 ≤ y) (h2:y ≤ 90000) (h3:r.from_ ≤ y) (h4:y ≤ r.to_) (m1:1 ≤ r.month) (m2:r.month ≤ 12) (hok:dayOkB r.dk r.dw r.dn = true) (hn:r.dn ≤ lenV y r.month) (s1:-604800 < r.sec) (s2:r.sec < 604800):ofB r y = true:=by
 obtain ⟨d1,-,d3⟩:=inDay_in (y:=y) hok m1 m2 hn
 have e1:=yearV_mono h1
 have e2:=yearV_mono (show y + 1 ≤ 90001 by omega)
 have e3:yearV (-99000) = -36878535:=by decide
 have e4:yearV 90001 = 32152663:=by decide
 unfold ofB inOkB inB ymB mayB ofInB
 simp only [Bool.and_eq_true,Bool.or_eq_true,decide_eq_true_eq]
 exact ⟨⟨h3,h4⟩,⟨⟨⟨hok,by omega,by omega,m1,m2⟩,hn⟩,.inr ⟨by omega,by omega⟩⟩,s1,s2⟩
theorem of_near {r:Rul} {z a:Int} (h:ofB r z = true) (h1:r.from_ ≤ a) (h2:a + 8 ≤ r.to_) (b1:-99000 ≤ a) (b2:a ≤ 89000):∃ j,a ≤ j∧j ≤ a + 8∧ofB r j = true:=by
 obtain ⟨-,-,m1,m2,-,-,hok,hn,s1,s2⟩:=of_month h
 obtain ⟨j,j1,j2,hj⟩:=leap_near a
 refine ⟨j,j1,by omega,of_make (by omega) (by omega) (by omega) (by omega) m1 m2 hok ?_ s1 s2⟩
 have hl:=leapsV_in z
 have hlj:leapsV j = 1:=by unfold leapsV;rw [if_pos hj]
 unfold lenV at hn ⊢
 split at hn <;> rename_i hm
 ·rw [if_pos hm];omega
 ·rw [if_neg hm];omega
theorem sec_year {s:Int} (h1:-3217862419200 ≤ s) (h2:s ≤ 2500000000000):86400 * yearV (secYear s) ≤ s∧s < 86400 * yearV (secYear s + 1)∧secYear s ≤ 82000∧-100000 ≤ secYear s:=by
 have hin:ofInB (s / 86400) = true:=by unfold ofInB;rw [decide_eq_true_eq];omega
 unfold secYear
 rw [if_pos hin]
 have hb:=of_back (s / 86400)
 have hr:=of_rest (s / 86400)
 have hn:=yearV_next (ofYear (s / 86400))
 have hp:=of_parts (s / 86400)
 have hd:=(of_date (n:=s / 86400) (by omega) (by omega)).1
 have hy:=dateB_in hd
 have hc:ofYear (s / 86400) ≤ 82000:=by
  by_cases hc:ofYear (s / 86400) ≤ 82000
  ·exact hc
  ·have e:=yearV_mono (show 82001 ≤ ofYear (s / 86400) by omega)
   have e2:yearV 82001 = 29230723:=by decide
   omega
 omega
structure BestO (S:Fir→Prop) (may:Fir→Bool) (le:Fir→Fir→Prop) (o:Option Fir):Prop where
 some:∀ f,o = some f→S f∧may f = true∧∀ g,S g→may g = true→le g f
 none:o = none→∀ g,S g→may g = false
theorem BestO.pick {S T:Fir→Prop} {may:Fir→Bool} {le:Fir→Fir→Prop} {better:Fir→Fir→Bool} (ht:∀ a b c,le a b→le b c→le a c) (hb1:∀ a b,better a b = true→le b a) (hb2:∀ a b,better a b = false→le a b) {o c:Option Fir} (ho:BestO S may le o) (hc:BestO T may le c) :
  BestO (fun f=>S f∨T f) may le (pickS better o c):=by
 rcases c with _ | f
 ·refine ⟨fun x hx=>?_,fun hx g hg=>?_⟩
  ·obtain ⟨a1,a2,a3⟩:=ho.some x hx
   refine ⟨.inl a1,a2,fun g hg hm=>?_⟩
   rcases hg with hg | hg
   ·exact a3 g hg hm
   ·rw [hc.none rfl g hg] at hm;cases hm
  ·rcases hg with hg | hg
   ·exact ho.none hx g hg
   ·exact hc.none rfl g hg
 ·obtain ⟨c1,c2,c3⟩:=hc.some f rfl
  rcases o with _ | x
  ·refine ⟨fun y hy=>?_,fun hx=>by cases hx⟩
   cases hy
   refine ⟨.inr c1,c2,fun g hg hm=>?_⟩
   rcases hg with hg | hg
   ·rw [ho.none rfl g hg] at hm;cases hm
   ·exact c3 g hg hm
  ·obtain ⟨a1,a2,a3⟩:=ho.some x rfl
   unfold pickS
   simp only
   cases hbt:better f x with
   | true =>
     rw [if_pos rfl]
     refine ⟨fun y hy=>?_,fun hx=>by cases hx⟩
     cases hy
     refine ⟨.inr c1,c2,fun g hg hm=>?_⟩
     rcases hg with hg | hg
     ·exact ht _ _ _ (a3 g hg hm) (hb1 _ _ hbt)
     ·exact c3 g hg hm
   | false =>
     rw [if_neg (by decide)]
     refine ⟨fun y hy=>?_,fun hx=>by cases hx⟩
     cases hy
     refine ⟨.inl a1,a2,fun g hg hm=>?_⟩
     rcases hg with hg | hg
     ·exact a3 g hg hm
     ·exact ht _ _ _ (c3 g hg hm) (hb2 _ _ hbt)
def FireR (r:Rul) (f:Fir):Prop:=∃ y,ofB r y = true∧f = firOf r y
def Fires (l:List Rul) (f:Fir):Prop:=∃ r ∈ l,FireR r f
def okR (r:Rul):Prop:=-90000 ≤ r.from_∧r.from_ ≤ 80000
theorem pickV_best {may:Fir→Bool} {le:Fir→Fir→Prop} {better:Fir→Fir→Bool} (ht:∀ a b c,le a b→le b c→le a c) (hb1:∀ a b,better a b = true→le b a) (hb2:∀ a b,better a b = false→le a b) (yr:Rul→Int) (st:Int) :
  ∀ (l:List Rul),(∀ r ∈ l,BestO (FireR r) may le (tryY r st may 12 (yr r)))→BestO (Fires l) may le (pickV l yr st better may):=by
 have key:∀ (l l0:List Rul) (o:Option Fir),BestO (Fires l0) may le o→(∀ r ∈ l,BestO (FireR r) may le (tryY r st may 12 (yr r)))→BestO (Fires (l0 ++ l)) may le (l.foldl (fun o r=>pickS better o (tryY r st may 12 (yr r))) o):=by
  intro l
  induction l with
  | nil=>intro l0 o h _;rwa [List.append_nil]
  | cons r l ih =>
    intro l0 o h hr
    have h1:=h.pick ht hb1 hb2 (hr r (by simp))
    have h0:BestO (Fires (l0 ++ [r])) may le (pickS better o (tryY r st may 12 (yr r))):=by
     refine ⟨fun f hf=>?_,fun hf g hg=>?_⟩
     ·obtain ⟨a,b,c⟩:=h1.some f hf
      refine ⟨?_,b,fun g hg hm=>c g ?_ hm⟩
      ·rcases a with ⟨x,hx,hf⟩ | hf
       ·exact ⟨x,by simp [hx],hf⟩
       ·exact ⟨r,by simp,hf⟩
      ·obtain ⟨x,hx,hgx⟩:=hg
       rcases List.mem_append.1 hx with hx | hx
       ·exact .inl ⟨x,hx,hgx⟩
       ·rw [List.mem_singleton] at hx;subst hx;exact .inr hgx
     ·refine h1.none hf g ?_
      obtain ⟨x,hx,hgx⟩:=hg
      rcases List.mem_append.1 hx with hx | hx
      ·exact .inl ⟨x,hx,hgx⟩
      ·rw [List.mem_singleton] at hx;subst hx;exact .inr hgx
    have h2:=ih (l0 ++ [r]) _ h0 (fun x hx=>hr x (by simp [hx]))
    rw [List.append_assoc] at h2
    exact h2
 intro l h
 have:=key l [] none ⟨fun f hf=>(by cases hf),fun _ g ⟨x,hx,_⟩=>(by cases hx)⟩ h
 rwa [List.nil_append] at this
theorem try_ahead {r:Rul} {s:Int} (h1:-3217862419200 ≤ s) (h2:s ≤ 2500000000000) (hr:okR r):BestO (FireR r) (underB s) (fun a b=>a.nominal ≤ b.nominal) (tryY r (-1) (underB s) 12 (min r.to_ (secYear s + 1))):=by
 obtain ⟨g1,g2,g3,g4⟩:=sec_year h1 h2
 obtain ⟨Y,hY⟩:∃ Y,secYear s = Y:=⟨_,rfl⟩
 rw [hY] at g1 g2 g3 g4 ⊢
 have top:∀ z,ofB r z = true→underB s (firOf r z) = true→z ≤ min r.to_ (Y + 1):=fun z hz hu=>by
  obtain ⟨-,-,-,-,-,z2,-⟩:=of_month hz
  have hlow:=(firOf_in hz).1
  unfold underB at hu
  rw [decide_eq_true_eq] at hu
  by_cases hc:z ≤ Y + 1
  ·omega
  ·have:=yearV_far (show Y + 1 ≤ z by omega)
   omega
 obtain ⟨y0,hy0⟩:∃ y0,min r.to_ (Y + 1) = y0:=⟨_,rfl⟩
 rw [hy0] at top ⊢
 refine ⟨fun f hf=>?_,fun hn g hg=>?_⟩
 ·obtain ⟨j,hj,rfl,a1,a2,a3⟩:=tryY_some hf
  refine ⟨⟨_,a1,rfl⟩,a2,fun g hg hm=>?_⟩
  obtain ⟨z,hz,rfl⟩:=hg
  have hz0:=top z hz hm
  by_cases hc:z ≤ y0 + -1 * (j:Int)
  ·by_cases he:z = y0 + -1 * (j:Int)
   ·rw [he];exact Int.le_refl _
   ·have:=firOf_lt hz a1 (by omega);omega
  ·exfalso
   refine a3 (y0 - z).toNat (by omega) ?_
   rw [show y0 + -1 * (((y0 - z).toNat:Nat):Int) = z by omega]
   exact ⟨hz,hm⟩
 ·obtain ⟨z,hz,rfl⟩:=hg
  cases hm:underB s (firOf r z) with
  | false=>rfl
  | true =>
    exfalso
    have hz0:=top z hz hm
    obtain ⟨-,-,-,-,z1,z2,-⟩:=of_month hz
    by_cases hc:y0 - 12 < z
    ·refine tryY_none hn (y0 - z).toNat (by omega) ?_
     rw [show y0 + -1 * (((y0 - z).toNat:Nat):Int) = z by omega]
     exact ⟨hz,hm⟩
    ·obtain ⟨j,j1,j2,hj⟩:=of_near hz (a:=y0 - 11) (by omega) (by omega) (by have:=hr.1;omega) (by omega)
     refine tryY_none hn (y0 - j).toNat (by omega) ?_
     rw [show y0 + -1 * (((y0 - j).toNat:Nat):Int) = j by omega]
     refine ⟨hj,?_⟩
     have hup:=(firOf_in hj).2
     have e1:=yearV_mono (show j + 1 ≤ Y - 1 by omega)
     have e2:=yearV_far (show Y - 1 ≤ Y by omega)
     unfold underB
     rw [decide_eq_true_eq]
     omega
theorem try_behind {r:Rul} {s:Int} (h1:-3217862419200 ≤ s) (h2:s ≤ 2500000000000) (hr:okR r):BestO (FireR r) (atB s) (fun a b=>b.nominal ≤ a.nominal) (tryY r 1 (atB s) 12 (max r.from_ (secYear s - 1))):=by
 obtain ⟨g1,g2,g3,g4⟩:=sec_year h1 h2
 obtain ⟨Y,hY⟩:∃ Y,secYear s = Y:=⟨_,rfl⟩
 rw [hY] at g1 g2 g3 g4 ⊢
 have top:∀ z,ofB r z = true→atB s (firOf r z) = true→max r.from_ (Y - 1) ≤ z:=fun z hz hu=>by
  obtain ⟨-,-,-,-,z1,-,-⟩:=of_month hz
  have hup:=(firOf_in hz).2
  unfold atB at hu
  rw [decide_eq_true_eq] at hu
  by_cases hc:Y - 1 ≤ z
  ·omega
  ·have e1:=yearV_mono (show z + 1 ≤ Y - 1 by omega)
   have e2:=yearV_far (show Y - 1 ≤ Y by omega)
   omega
 obtain ⟨y0,hy0⟩:∃ y0,max r.from_ (Y - 1) = y0:=⟨_,rfl⟩
 rw [hy0] at top ⊢
 refine ⟨fun f hf=>?_,fun hn g hg=>?_⟩
 ·obtain ⟨j,hj,rfl,a1,a2,a3⟩:=tryY_some hf
  refine ⟨⟨_,a1,rfl⟩,a2,fun g hg hm=>?_⟩
  obtain ⟨z,hz,rfl⟩:=hg
  have hz0:=top z hz hm
  by_cases hc:y0 + 1 * (j:Int) ≤ z
  ·by_cases he:z = y0 + 1 * (j:Int)
   ·rw [he];exact Int.le_refl _
   ·have:=firOf_lt a1 hz (by omega);omega
  ·exfalso
   refine a3 (z - y0).toNat (by omega) ?_
   rw [show y0 + 1 * (((z - y0).toNat:Nat):Int) = z by omega]
   exact ⟨hz,hm⟩
 ·obtain ⟨z,hz,rfl⟩:=hg
  cases hm:atB s (firOf r z) with
  | false=>rfl
  | true =>
    exfalso
    have hz0:=top z hz hm
    obtain ⟨-,-,-,-,z1,z2,-⟩:=of_month hz
    by_cases hc:z < y0 + 12
    ·refine tryY_none hn (z - y0).toNat (by omega) ?_
     rw [show y0 + 1 * (((z - y0).toNat:Nat):Int) = z by omega]
     exact ⟨hz,hm⟩
    ·obtain ⟨j,j1,j2,hj⟩:=of_near hz (a:=y0 + 3) (by omega) (by omega) (by have:=hr.1;omega) (by have:=hr.2;omega)
     refine tryY_none hn (j - y0).toNat (by omega) ?_
     rw [show y0 + 1 * (((j - y0).toNat:Nat):Int) = j by omega]
     refine ⟨hj,?_⟩
     have hlow:=(firOf_in hj).1
     have e1:=yearV_mono (show Y + 2 ≤ j by omega)
     have e2:=yearV_far (show Y + 1 ≤ Y + 2 by omega)
     unfold atB
     rw [decide_eq_true_eq]
     omega
theorem ahead_best {l:List Rul} {s:Int} (h1:-3217862419200 ≤ s) (h2:s ≤ 2500000000000) (hr:∀ r ∈ l,okR r):BestO (Fires l) (underB s) (fun a b=>a.nominal ≤ b.nominal) (aheadF l s):=by
 refine pickV_best (better:=geB) (le:=fun a b=>a.nominal ≤ b.nominal) (fun _ _ _ h k=>Int.le_trans h k) (fun a b h=>?_) (fun a b h=>?_) _ _ l fun r hm=>try_ahead h1 h2 (hr r hm)
 ·unfold geB at h;rw [decide_eq_true_eq] at h;exact h
 ·unfold geB at h;rw [decide_eq_false_iff_not] at h;show a.nominal ≤ b.nominal;omega
theorem behind_best {l:List Rul} {s:Int} (h1:-3217862419200 ≤ s) (h2:s ≤ 2500000000000) (hr:∀ r ∈ l,okR r):BestO (Fires l) (atB s) (fun a b=>b.nominal ≤ a.nominal) (behindF l s):=by
 refine pickV_best (better:=ltB) (le:=fun a b=>b.nominal ≤ a.nominal) (fun _ _ _ h k=>Int.le_trans k h) (fun a b h=>?_) (fun a b h=>?_) _ _ l fun r hm=>try_behind h1 h2 (hr r hm)
 ·unfold ltB at h;rw [decide_eq_true_eq] at h;show a.nominal ≤ b.nominal;omega
 ·unfold ltB at h;rw [decide_eq_false_iff_not] at h;show b.nominal ≤ a.nominal;omega
theorem pickV_mem {yr:Rul→Int} {st:Int} {better:Fir→Fir→Bool} {may:Fir→Bool}:∀ (l:List Rul) {f:Fir},pickV l yr st better may = some f→Fires l f∧may f = true:=by
 have key:∀ (l l0:List Rul) (o:Option Fir),(∀ f,o = some f→Fires l0 f∧may f = true)→∀ f,l.foldl (fun o r=>pickS better o (tryY r st may 12 (yr r))) o = some f→Fires (l0 ++ l) f∧may f = true:=by
  intro l
  induction l with
  | nil=>intro l0 o h f hf;rw [List.append_nil];exact h f hf
  | cons r l ih =>
    intro l0 o h f hf
    have:=ih (l0 ++ [r]) (pickS better o (tryY r st may 12 (yr r))) (fun g hg=>?_) f hf
    ·rwa [List.append_assoc] at this
    ·unfold pickS at hg
     have hold:∀ x,o = some x→Fires (l0 ++ [r]) x∧may x = true:=fun x hx=>by
      obtain ⟨⟨a,ha,hb⟩,hc⟩:=h x hx
      exact ⟨⟨a,by simp [ha],hb⟩,hc⟩
     cases hc:tryY r st may 12 (yr r) with
     | none=>rw [hc] at hg;exact hold g hg
     | some x =>
       rw [hc] at hg
       obtain ⟨j,hj,rfl,h1,h2,h3⟩:=tryY_some hc
       have hnew:Fires (l0 ++ [r]) (firOf r (yr r + st * j))∧may (firOf r (yr r + st * j)) = true:=⟨⟨r,by simp,_,h1,rfl⟩,h2⟩
       rcases o with _ | y
       ·cases hg;exact hnew
       ·simp only at hg
        split at hg
        ·cases hg;exact hnew
        ·cases hg;exact hold _ rfl
 intro l f hf
 have:=key l [] none (fun f hf=>(by cases hf)) f hf
 rwa [List.nil_append] at this
theorem ahead_mem {l:List Rul} {s:Int} {f:Fir} (h:aheadF l s = some f):Fires l f∧f.nominal < s:=by
 obtain ⟨h1,h2⟩:=pickV_mem l h
 unfold underB at h2
 rw [decide_eq_true_eq] at h2
 exact ⟨h1,h2⟩
theorem behind_mem {l:List Rul} {s:Int} {f:Fir} (h:behindF l s = some f):Fires l f∧s ≤ f.nominal:=by
 obtain ⟨h1,h2⟩:=pickV_mem l h
 unfold atB at h2
 rw [decide_eq_true_eq] at h2
 exact ⟨h1,h2⟩
theorem fires_nom {l:List Rul} {f:Fir} (h:Fires l f):-4000000000000 ≤ f.nominal∧f.nominal ≤ 4000000000000:=by
 obtain ⟨r,hr,y,hy,rfl⟩:=h
 obtain ⟨y1,y2,-⟩:=of_month hy
 have g:=firOf_in hy
 have e1:=yearV_mono y1
 have e2:=yearV_mono (show y + 1 ≤ 100001 by omega)
 have e3:yearV (-100000) = -37243778:=by decide
 have e4:yearV 100001 = 35805088:=by decide
 omega
def svOk (l:List Rul):Prop:=∀ f,Fires l f→-1000000000000000 ≤ f.save∧f.save ≤ 1000000000000000
end
end Go.Proofs.YteekjfgjmccdnaaGreatDoor
