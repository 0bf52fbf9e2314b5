/-
  Layer 11's reference walked: a firing put into a row.
-/
import Derived.Test.YteekjfgjmccdnaaGreatDoorZk4
set_option maxHeartbeats 16000000
set_option maxRecDepth 100000
namespace Go.Proofs.YteekjfgjmccdnaaGreatDoor
section -- PRow
open Go Go.RowKit Go.Shelf
def capN:Int:=4448390400
structure RightR (l:List Rul) (A:List Fir):Prop where
 small:∀ r ∈ l,1900 ≤ r.from_∧r.from_ ≤ 2070
 mem:∀ f,f ∈ A ↔ ∃ r ∈ l,∃ y,1890 ≤ y∧y ≤ 2110∧ofB r y = true∧f = firOf r y
 save:∀ f ∈ A,-90000 < f.save∧f.save < 90000
 kind:∀ f ∈ A,0 ≤ f.kind∧f.kind ≤ 2
 gap:∀ i (h:i + 1 < A.length),A[i].nominal + 180000 < A[i + 1].nominal
section
variable {l:List Rul} {A:List Fir}
theorem RightR.ok (h:RightR l A):∀ r ∈ l,okR r:=fun r hr=>by have:=h.small r hr;unfold okR;omega
theorem RightR.lt (h:RightR l A):∀ (d i:Nat) (hj:i + d + 1 < A.length),A[i].nominal + 180000 < A[i + d + 1].nominal
 | 0,i,hj=>h.gap i hj
 | d + 1,i,hj=>by
   have h1:=h.lt d i (by omega)
   have h2:=h.gap (i + d + 1) (by omega)
   have e:A[i + (d + 1) + 1] = A[i + d + 1 + 1]:=rfl
   rw [e]
   omega
theorem RightR.rise (h:RightR l A) {i j:Nat} (hij:i < j) (hj:j < A.length):A[i].nominal + 180000 < A[j].nominal:=by
 obtain ⟨d,rfl⟩:∃ d,j = i + d + 1:=⟨j - i - 1,by omega⟩
 exact h.lt d i hj
theorem capN_eq:capN = 86400 * yearV 2111 - 1123200:=by decide
theorem RightR.fires (h:RightR l A) {f:Fir} (hf:f ∈ A):Fires l f:=by
 obtain ⟨r,hr,y,-,-,hy,rfl⟩:=(h.mem f).1 hf
 exact ⟨r,hr,y,hy,rfl⟩
theorem RightR.near (h:RightR l A) {f:Fir} (hf:Fires l f) (hn:f.nominal < capN):f ∈ A:=by
 obtain ⟨r,hr,y,hy,rfl⟩:=hf
 have hs:=h.small r hr
 obtain ⟨-,-,-,-,h1,-⟩:=of_month hy
 refine (h.mem _).2 ⟨r,hr,y,by omega,?_,hy,rfl⟩
 by_cases hc:y ≤ 2110
 ·exact hc
 ·have e:=yearV_mono (show 2111 ≤ y by omega)
  have g:=(firOf_in hy).1
  rw [capN_eq] at hn
  omega
def Cut (A:List Fir) (key:Nat→Int) (s:Int) (k:Nat):Prop:=k ≤ A.length∧∀ j,j < A.length→(j < k ↔ key j < s)
def nomA (A:List Fir) (j:Nat):Int:=match A[j]? with | some f=>f.nominal | none=>0
theorem nomA_at {j:Nat} (h:j < A.length):nomA A j = A[j].nominal:=by unfold nomA;rw [List.getElem?_eq_getElem h]
def prevO (A:List Fir) (k:Nat):Option Fir:=if k = 0 then none else A[k - 1]?
theorem prevO_zero (A:List Fir):prevO A 0 = none:=rfl
theorem prevO_succ {k:Nat} (h:k < A.length):prevO A (k + 1) = some A[k]:=by unfold prevO;rw [if_neg (by omega)];exact List.getElem?_eq_getElem h
theorem cut_some {A:List Fir} {key:Nat→Int} (hr:∀ i j,i < j→j < A.length→key i < key j) (s:Int):∃ k,Cut A key s k:=by
 have:∀ n,n ≤ A.length→∃ k,k ≤ n∧∀ j,j < n→(j < k ↔ key j < s):=by
  intro n
  induction n with
  | zero=>exact fun _=>⟨0,Nat.le_refl _,fun j hj=>absurd hj (by omega)⟩
  | succ n ih =>
    intro hn
    obtain ⟨k,hk,h⟩:=ih (by omega)
    by_cases hc:key n < s
    ·refine ⟨n + 1,Nat.le_refl _,fun j hj=>⟨fun _=>?_,fun _=>hj⟩⟩
     by_cases e:j = n
     ·subst e;exact hc
     ·have:=hr j n (by omega) (by omega);omega
    ·refine ⟨k,by omega,fun j hj=>?_⟩
     by_cases e:j = n
     ·subst e;exact ⟨fun g=>absurd g (by omega),fun g=>absurd g hc⟩
     ·exact h j (by omega)
 obtain ⟨k,hk,h⟩:=this A.length (Nat.le_refl _)
 exact ⟨k,hk,h⟩
theorem RightR.cut (h:RightR l A) (s:Int):∃ k,Cut A (nomA A) s k:=cut_some (fun i j hij hj=>by rw [nomA_at (by omega),nomA_at hj];have:=h.rise hij hj;omega) s
theorem ahead_row (h:RightR l A) {s:Int} {k:Nat} (hc:Cut A (nomA A) s k) (h1:-3217862419200 ≤ s) (h2:s ≤ capN):aheadF l s = prevO A k:=by
 have hb:=ahead_best h1 (show s ≤ 2500000000000 by unfold capN at h2;omega) h.ok
 have hm:∀ j (hj:j < A.length),j < k ↔ A[j].nominal < s:=fun j hj=>by rw [hc.2 j hj,nomA_at hj]
 cases ho:aheadF l s with
 | none =>
   rcases k with _ | k
   ·rfl
   ·exfalso
    have hk:k < A.length:=by have:=hc.1;omega
    have:=hb.none ho A[k] (h.fires (List.getElem_mem hk))
    unfold underB at this
    rw [decide_eq_false_iff_not] at this
    exact this ((hm k hk).1 (by omega))
 | some f =>
   obtain ⟨a1,a2,a3⟩:=hb.some f ho
   unfold underB at a2
   rw [decide_eq_true_eq] at a2
   have hfA:=h.near a1 (by omega)
   obtain ⟨j,hj,rfl⟩:=List.getElem_of_mem hfA
   have hjk:=(hm j hj).2 a2
   obtain ⟨k,rfl⟩:∃ m,k = m + 1:=⟨k - 1,by omega⟩
   have hk:k < A.length:=by have:=hc.1;omega
   have hle:=a3 A[k] (h.fires (List.getElem_mem hk)) (by unfold underB;rw [decide_eq_true_eq];exact (hm k hk).1 (by omega))
   rw [prevO_succ hk]
   by_cases e:j = k
   ·subst e;rfl
   ·have:=h.rise (show j < k by omega) hk;omega
theorem behind_row (h:RightR l A) {s:Int} {k:Nat} (hc:Cut A (nomA A) s k) (h1:-3217862419200 ≤ s) (h2:s ≤ capN) (hk:k < A.length) (hcap:A[k].nominal < capN):behindF l s = some A[k]:=by
 have hb:=behind_best h1 (show s ≤ 2500000000000 by unfold capN at h2;omega) h.ok
 have hm:∀ j (hj:j < A.length),j < k ↔ A[j].nominal < s:=fun j hj=>by rw [hc.2 j hj,nomA_at hj]
 have hks:s ≤ A[k].nominal:=by have:=hm k hk;omega
 cases ho:behindF l s with
 | none =>
   exfalso
   have:=hb.none ho A[k] (h.fires (List.getElem_mem hk))
   unfold atB at this
   rw [decide_eq_false_iff_not] at this
   exact this hks
 | some f =>
   obtain ⟨a1,a2,a3⟩:=hb.some f ho
   have hle:=a3 A[k] (h.fires (List.getElem_mem hk)) (by unfold atB;rw [decide_eq_true_eq];exact hks)
   unfold atB at a2
   rw [decide_eq_true_eq] at a2
   obtain ⟨j,hj,rfl⟩:=List.getElem_of_mem (h.near a1 (by omega))
   have hjk:¬ j < k:=by have:=hm j hj;omega
   by_cases e:j = k
   ·subst e;rfl
   ·have:=h.rise (show k < j by omega) hj;omega
theorem behind_far (h:RightR l A) {s:Int} {k:Nat} (hc:Cut A (nomA A) s k) (h1:-3217862419200 ≤ s) (h2:s ≤ capN) (hcap:∀ hk:k < A.length,capN ≤ A[k].nominal) {f:Fir} (hf:behindF l s = some f):capN ≤ f.nominal:=by
 have hb:=behind_best h1 (show s ≤ 2500000000000 by unfold capN at h2;omega) h.ok
 obtain ⟨a1,a2,a3⟩:=hb.some f hf
 unfold atB at a2
 rw [decide_eq_true_eq] at a2
 by_cases hn:f.nominal < capN
 ·obtain ⟨j,hj,rfl⟩:=List.getElem_of_mem (h.near a1 hn)
  have hjk:¬ j < k:=by have:=hc.2 j hj;rw [nomA_at hj] at this;omega
  have hkl:k < A.length:=by omega
  have:=hcap hkl
  by_cases e:j = k
  ·subst e;omega
  ·have:=h.rise (show k < j by omega) hj;omega
 ·omega
def instA (A:List Fir) (off:Int) (j:Nat):Int:=match A[j]? with | some f=>instF f off (saveO (prevO A j)) | none=>0
theorem instA_at {off:Int} {j:Nat} (h:j < A.length):instA A off j = instF A[j] off (saveO (prevO A j)):=by unfold instA;rw [List.getElem?_eq_getElem h]
theorem saveO_none:saveO none = 0:=rfl
theorem saveO_some (f:Fir):saveO (some f) = f.save:=rfl
theorem RightR.prev (h:RightR l A) {j:Nat} (hj:j ≤ A.length):-90000 < saveO (prevO A j)∧saveO (prevO A j) < 90000:=by
 rcases j with _ | j
 ·rw [prevO_zero,saveO_none];omega
 ·rw [prevO_succ (by omega),saveO_some]
  exact h.save _ (List.getElem_mem _)
theorem instF_in {f:Fir} {off sv:Int} (h1:-90000 < off∧off < 90000) (h2:-90000 < sv∧sv < 90000):f.nominal - 179998 ≤ instF f off sv∧instF f off sv ≤ f.nominal + 179998:=by
 unfold instF
 split
 ·omega
 ·split <;> omega
theorem RightR.inst_in (h:RightR l A) {off:Int} (ho:-90000 < off∧off < 90000) {j:Nat} (hj:j < A.length):A[j].nominal - 179998 ≤ instA A off j∧instA A off j ≤ A[j].nominal + 179998:=by
 rw [instA_at hj]
 exact instF_in ho (h.prev (by omega))
theorem RightR.inst_next (h:RightR l A) {off:Int} (ho:-90000 < off∧off < 90000) {j:Nat} (hj:j + 1 < A.length):instA A off j < instA A off (j + 1):=by
 rw [instA_at hj,instA_at (show j < A.length by omega),prevO_succ (by omega)]
 have g:=h.gap j hj
 have p:=h.prev (show j ≤ A.length by omega)
 have q:=h.save A[j] (List.getElem_mem _)
 rw [saveO_some]
 generalize saveO (prevO A j) = sv at p ⊢
 unfold instF
 split <;> split <;> (try split) <;> (try split) <;> omega
theorem RightR.inst_lt (h:RightR l A) {off:Int} (ho:-90000 < off∧off < 90000) {i j:Nat} (hij:i < j) (hj:j < A.length):instA A off i < instA A off j:=by
 induction j with
 | zero=>omega
 | succ j ih =>
   have h1:=h.inst_next ho hj
   by_cases e:i = j
   ·subst e;exact h1
   ·have:=ih (by omega) (by omega);omega
theorem RightR.icut (h:RightR l A) {off:Int} (ho:-90000 < off∧off < 90000) (s:Int):∃ k,Cut A (instA A off) s k:=cut_some (fun _ _ hij hj=>h.inst_lt ho hij hj) s
theorem saved_row (h:RightR l A) {j:Nat} (hj:j < A.length) (hcap:A[j].nominal ≤ capN) (h1:-3217862419200 ≤ A[j].nominal):savedF l A[j] = saveO (prevO A j):=by
 unfold savedF
 rw [ahead_row h (k:=j) ⟨by omega,fun i hi=>?_⟩ h1 hcap]
 rw [nomA_at hi]
 constructor
 ·intro g;have:=h.rise g hj;omega
 ·intro g
  rcases Nat.lt_trichotomy i j with e | e | e
  ·exact e
  ·subst e;omega
  ·have:=h.rise e hi;omega
theorem RightR.low (h:RightR l A) {f:Fir} (hf:f ∈ A):-3217862419200 ≤ f.nominal:=by
 obtain ⟨r,hr,y,y1,y2,hy,rfl⟩:=(h.mem f).1 hf
 have g:=(firOf_in hy).1
 have e:=yearV_mono y1
 have e2:yearV 1890 = -29219:=by decide
 omega
theorem RightR.low2 (h:RightR l A) {f:Fir} (hf:f ∈ A):-2600000000 ≤ f.nominal:=by
 obtain ⟨r,hr,y,y1,y2,hy,rfl⟩:=(h.mem f).1 hf
 have g:=(firOf_in hy).1
 have e:=yearV_mono y1
 have e2:yearV 1890 = -29219:=by decide
 omega
theorem RightR.count (h:RightR l A):∀ (j:Nat) (hj:j < A.length),-2600000000 + (j:Int) ≤ A[j].nominal
 | 0,hj=>by have:=h.low2 (List.getElem_mem hj);omega
 | j + 1,hj=>by
   have h1:=h.count j (by omega)
   have h2:=h.gap j hj
   push_cast
   omega
theorem back_row (h:RightR l A) {off i:Int} (ho:-90000 < off∧off < 90000) {k:Nat} (hc:Cut A (instA A off) (i + 1) k):∀ (m n:Nat),k ≤ m→m ≤ A.length→(∀ f,prevO A m = some f→f.nominal ≤ capN)→m - k < n→backF l off i n (prevO A m) = prevO A k
 | m,0,_,_,_,hn=>absurd hn (by omega)
 | 0,n + 1,hk,hm,hb,hn=>by
   obtain rfl:k = 0:=by omega
   rfl
 | m + 1,n + 1,hk,hm,hb,hn=>by
   have hml:m < A.length:=by omega
   have hcap:A[m].nominal ≤ capN:=hb _ (prevO_succ hml)
   rw [prevO_succ hml]
   unfold backF
   rw [saved_row h hml hcap (h.low (List.getElem_mem _)),← instA_at hml]
   have:=hc.2 m hml
   by_cases hlt:i < instA A off m
   ·rw [if_pos hlt]
    have e:aheadF l A[m].nominal = prevO A m:=by
     refine ahead_row h ⟨by omega,fun j hj=>?_⟩ (h.low (List.getElem_mem _)) hcap
     rw [nomA_at hj]
     constructor
     ·intro g;have:=h.rise g hml;omega
     ·intro g
      rcases Nat.lt_trichotomy j m with e | e | e
      ·exact e
      ·subst e;omega
      ·have:=h.rise e hj;omega
    rw [e]
    refine back_row h ho hc m n (by omega) (by omega) (fun f hf=>?_) (by omega)
    rcases m with _ | m
    ·cases hf
    ·rw [prevO_succ (by omega)] at hf
     cases hf
     have:=h.rise (show m < m + 1 by omega) hml
     omega
   ·rw [if_neg hlt]
    obtain rfl:k = m + 1:=by omega
    rw [prevO_succ hml]
theorem latest_row (h:RightR l A) {off i:Int} (ho:-90000 < off∧off < 90000) (h1:-3217862419200 ≤ i) (h2:i + 180001 ≤ capN) {k:Nat} (hc:Cut A (instA A off) (i + 1) k):latestF l off i = prevO A k:=by
 obtain ⟨m,hm⟩:=h.cut (i + 180001)
 unfold latestF
 rw [ahead_row h hm (by omega) h2]
 refine back_row h ho hc m _ ?_ hm.1 (fun f hf=>?_) ?_
 ·rcases Nat.lt_or_ge m k with g | g
  ·exfalso
   have hml:m < A.length:=by have:=hc.1;omega
   have e1:=(hc.2 m hml).1 g
   have e2:=hm.2 m hml
   have e3:=h.inst_in ho hml
   rw [nomA_at hml] at e2
   omega
  ·exact g
 ·rcases m with _ | m
  ·cases hf
  ·have hml:m < A.length:=by have:=hm.1;omega
   rw [prevO_succ hml] at hf
   cases hf
   have:=(hm.2 m hml).1 (by omega)
   rw [nomA_at hml] at this
   omega
 ·unfold farN
  rcases m with _ | m
  ·omega
  ·have hml:m < A.length:=by have:=hm.1;omega
   have:=(hm.2 m hml).1 (by omega)
   rw [nomA_at hml] at this
   have:=h.count m hml
   omega
def segA (A:List Fir) (off fr to:Int) (j n:Nat):List (Int × Fir):=(List.range' j n).filterMap fun i=>if fr < instA A off i∧instA A off i ≤ to then A[i]?.map fun f=>(instA A off i,f) else none
theorem segA_succ (A:List Fir) (off fr to:Int) (j n:Nat):segA A off fr to j (n + 1) = (match (if fr < instA A off j∧instA A off j ≤ to then A[j]?.map fun f=>(instA A off j,f) else none) with | some x=>[x] | none=>[]) ++ segA A off fr to (j + 1) n:=by
 unfold segA
 rw [List.range'_succ,List.filterMap_cons]
 split <;> rename_i e <;> rw [e] <;> rfl
theorem segA_nil {off fr to:Int}:∀ {n j:Nat},(∀ i,j ≤ i→i < A.length→¬ (fr < instA A off i∧instA A off i ≤ to))→segA A off fr to j n = []
 | 0,j,_=>rfl
 | n + 1,j,h=>by
   rw [segA_succ,segA_nil (fun i hi hl=>h i (by omega) hl),List.append_nil]
   by_cases hl:j < A.length
   ·rw [if_neg (h j (Nat.le_refl _) hl)]
   ·rw [List.getElem?_eq_none (by omega),Option.map_none,ite_self]
def CurA (A:List Fir) (j:Nat) (o:Option Fir):Prop:=(∃ h:j < A.length,A[j].nominal < capN∧o = some A[j])∨((∀ h:j < A.length,capN ≤ A[j].nominal)∧∀ f,o = some f→capN ≤ f.nominal)
theorem behind_cur (h:RightR l A) {s:Int} {k:Nat} (hc:Cut A (nomA A) s k) (h1:-3217862419200 ≤ s) (h2:s ≤ capN):CurA A k (behindF l s):=by
 by_cases hk:∃ hk:k < A.length,A[k].nominal < capN
 ·obtain ⟨hk,hn⟩:=hk
  exact .inl ⟨hk,hn,behind_row h hc h1 h2 hk hn⟩
 ·have g:∀ hk:k < A.length,capN ≤ A[k].nominal:=fun hk2=>by
   by_cases e:A[k].nominal < capN
   ·exact absurd ⟨hk2,e⟩ hk
   ·omega
  exact .inr ⟨g,fun f hf=>behind_far h hc h1 h2 g hf⟩
theorem cut_behind (h:RightR l A) {j:Nat} (hj:j < A.length):Cut A (nomA A) (A[j].nominal + 1) (j + 1):=⟨by omega,fun i hi=>by
 rw [nomA_at hi]
 constructor
 ·intro g
  by_cases e:i = j
  ·subst e;omega
  ·have:=h.rise (show i < j by omega) hj;omega
 ·intro g
  rcases Nat.lt_trichotomy i j with e | e | e
  ·omega
  ·omega
  ·have:=h.rise e hi;omega⟩
theorem firedN_row (h:RightR l A) {off fr to:Int} (ho:-90000 < off∧off < 90000) (hto:to + 180000 < capN):∀ (n j:Nat) (o:Option Fir),CurA A j o→A.length - j < n→firedN l off fr to n o = segA A off fr to j (A.length - j)
 | 0,j,o,_,hn=>absurd hn (by omega)
 | n + 1,j,o,hcur,hn=>by
   rcases hcur with ⟨hj,hcap,rfl⟩ | ⟨hfar,hout⟩
   ·have hin:=h.inst_in ho hj
    have hs:=saved_row h hj (by omega) (h.low (List.getElem_mem _))
    have hnext:CurA A (j + 1) (behindF l (A[j].nominal + 1)):=behind_cur h (cut_behind h hj) (by have:=h.low (List.getElem_mem hj);omega) (by omega)
    have ih:=firedN_row (fr:=fr) h ho hto n (j + 1) _ hnext (by omega)
    rw [show A.length - j = (A.length - (j + 1)) + 1 by omega,segA_succ,List.getElem?_eq_getElem hj]
    unfold firedN
    rw [hs,← instA_at hj,ih]
    by_cases hle:A[j].nominal ≤ to + 180000
    ·rw [if_pos hle]
     by_cases hout:instA A off j ≤ fr∨to < instA A off j
     ·rw [if_pos hout,if_neg (by omega)]
      rfl
     ·rw [if_neg hout,if_pos (by omega)]
      rfl
    ·rw [if_neg hle,if_neg (by omega),segA_nil (fun i hi hl=>by
      by_cases e:i = j + 1∨j + 1 < i
      ·have h1:=h.inst_lt ho (show j < i by omega) hl
       omega
      ·omega)]
     rfl
   ·rw [segA_nil (fun i hi hl=>by
     have h1:=h.inst_in ho hl
     by_cases e:i = j
     ·subst e;have:=hfar hl;omega
     ·have h2:=h.rise (show j < i by omega) hl
      have h3:=hfar (by omega)
      omega)]
    rcases o with _ | f
    ·rfl
    ·have:=hout f rfl
     unfold firedN
     rw [if_neg (by omega)]
theorem fired_row (h:RightR l A) {off fr to:Int} (ho:-90000 < off∧off < 90000) (h1:-3217862419200 ≤ fr - 180000) (h2:fr ≤ to) (hto:to + 180000 < capN):firedF l off fr to = segA A off fr to 0 A.length:=by
 obtain ⟨k,hk⟩:=h.cut (fr - 180000)
 have hlen:A.length - k < (to + 180001 + farN).toNat:=by
  have hcap:(A.length:Int) ≤ 10000000000:=by
   by_cases h0:A.length = 0
   ·omega
   ·have hl:A.length - 1 < A.length:=by omega
    have h3:=h.count (A.length - 1) hl
    obtain ⟨r,hr,y,y1,y2,hy,e⟩:=(h.mem _).1 (List.getElem_mem hl)
    rw [e] at h3
    have g:=(firOf_in hy).2
    have e1:=yearV_mono (show y + 1 ≤ 2111 by omega)
    have e2:yearV 2111 = 51499:=by decide
    omega
  unfold farN
  omega
 unfold firedF
 rw [firedN_row h ho hto _ k _ (behind_cur h hk h1 (by omega)) hlen]
 have hsplit:∀ (m j:Nat),(∀ i,i < m→i + j < A.length→¬ (fr < instA A off (i + j)∧instA A off (i + j) ≤ to))→∀ n,segA A off fr to j (m + n) = segA A off fr to (j + m) n:=by
  intro m
  induction m with
  | zero=>intro j _ n;rw [Nat.zero_add];rfl
  | succ m ih =>
    intro j hj n
    rw [show m + 1 + n = (m + n) + 1 by omega,segA_succ,ih (j + 1) (fun i hi hl=>by have:=hj (i + 1) (by omega) (by omega);rwa [show i + 1 + j = i + (j + 1) by omega] at this) n,show j + 1 + m = j + (m + 1) by omega]
    by_cases hl:j < A.length
    ·have:=hj 0 (by omega) (by omega)
     rw [Nat.zero_add] at this
     rw [if_neg this]
     rfl
    ·rw [List.getElem?_eq_none (by omega),Option.map_none,ite_self]
     rfl
 have:=hsplit k 0 (fun i hi hl=>by
  have hl2:i < A.length:=by omega
  have g:=(hk.2 i hl2).1 hi
  have e:=h.inst_in ho hl2
  rw [nomA_at hl2] at g
  rw [Nat.add_zero]
  omega) (A.length - k)
 rw [show k + (A.length - k) = A.length by have:=hk.1;omega,Nat.zero_add] at this
 exact this.symm
end
end
section -- PEnd
open Go Go.RowKit Go.Shelf
def apartB:List Fir→Bool
 | []=>true
 | [f]=>decide (-90000 < f.save) && decide (f.save < 90000)
 | f :: g :: t=>decide (-90000 < f.save) && decide (f.save < 90000) && decide (f.nominal + 180000 < g.nominal) && apartB (g :: t)
theorem apartB_spec:∀ {A:List Fir},apartB A = true→(∀ f ∈ A,-90000 < f.save∧f.save < 90000)∧∀ i (h:i + 1 < A.length),A[i].nominal + 180000 < A[i + 1].nominal
 | [],_=>⟨fun f hf=>(by cases hf),fun i h=>absurd h (by simp)⟩
 | [f],h=>by
   unfold apartB at h
   simp only [Bool.and_eq_true,decide_eq_true_eq] at h
   refine ⟨fun g hg=>?_,fun i hi=>absurd hi (by simp)⟩
   rw [List.mem_singleton] at hg
   subst hg
   exact h
 | f :: g :: t,h=>by
   unfold apartB at h
   simp only [Bool.and_eq_true,decide_eq_true_eq] at h
   obtain ⟨h1,h2⟩:=apartB_spec (A:=g :: t) h.2
   refine ⟨fun x hx=>?_,fun i hi=>?_⟩
   ·rcases List.mem_cons.1 hx with rfl | hx
    ·exact h.1.1
    ·exact h1 x hx
   ·rcases i with _ | i
    ·exact h.1.2
    ·exact h2 i (by simpa using hi)
theorem apartB_of:∀ {A:List Fir},(∀ f ∈ A,-90000 < f.save∧f.save < 90000)→(∀ i (h:i + 1 < A.length),A[i].nominal + 180000 < A[i + 1].nominal)→apartB A = true
 | [],_,_=>rfl
 | [f],h1,_=>by
   unfold apartB
   simp only [Bool.and_eq_true,decide_eq_true_eq]
   exact h1 f (by simp)
 | f :: g :: t,h1,h2=>by
   unfold apartB
   simp only [Bool.and_eq_true,decide_eq_true_eq]
   exact ⟨⟨h1 f (by simp),h2 0 (by simp)⟩,apartB_of (fun x hx=>h1 x (by simp [hx])) (fun i hi=>h2 (i + 1) (by simpa using hi))⟩
theorem right_of {l:List Rul} {A:List Fir} (hs:smallB l = true) (hf:∀ r ∈ l,r.from_ ≤ 2070) (hst:Stab Fir.nominal (genL l 1890 2110) A) (hap:apartB A = true):RightR l A:=by
 have hsm:∀ r ∈ l,smallR r = true:=by
  unfold smallB at hs
  rw [Bool.and_eq_true,List.all_eq_true] at hs
  exact hs.1
 have hmem:∀ f,f ∈ A ↔ ∃ r ∈ l,∃ y,1890 ≤ y∧y ≤ 2110∧ofB r y = true∧f = firOf r y:=fun f=>by
  rw [hst.1.mem_iff]
  unfold genL genR
  rw [List.mem_flatMap]
  constructor
  ·rintro ⟨r,hr,hx⟩
   rw [List.mem_map] at hx
   obtain ⟨y,hy,rfl⟩:=hx
   rw [List.mem_filter,yrs_mem] at hy
   exact ⟨r,hr,y,hy.1.1,hy.1.2,hy.2,rfl⟩
  ·rintro ⟨r,hr,y,h1,h2,h3,rfl⟩
   refine ⟨r,hr,List.mem_map.2 ⟨y,?_,rfl⟩⟩
   rw [List.mem_filter,yrs_mem]
   exact ⟨⟨h1,h2⟩,h3⟩
 obtain ⟨h1,h2⟩:=apartB_spec hap
 refine ⟨fun r hr=>?_,hmem,h1,fun f hfA=>?_,h2⟩
 ·have:=hsm r hr
  unfold smallR at this
  rw [Bool.and_eq_true,decide_eq_true_eq] at this
  exact ⟨this.1.1,hf r hr⟩
 ·obtain ⟨r,hr,y,-,-,-,rfl⟩:=(hmem f).1 hfA
  have:=hsm r hr
  unfold smallR at this
  rw [Bool.and_eq_true,decide_eq_true_eq] at this
  unfold firOf
  exact this.1.2.2.2.2.2.2.2
def endLoop (m:Int):Int→List (Int × Fir)→Int
 | sv,[]=>sv
 | sv,x :: t=>if m - sv ≤ x.1 then sv else endLoop m x.2.save t
def endSave (l:List Rul) (off n:Int):Int:=endLoop (n - off) (saveO (latestF l off (n - 360000))) (firedF l off (n - 360000) (n + 360000))
def refSave (A:List Fir) (off m:Int):Int→Nat→Nat→Int
 | sv,_,0=>sv
 | sv,j,n + 1=>match A[j]? with
   | none=>sv
   | some f=>if m - sv ≤ instA A off j then sv else refSave A off m f.save (j + 1) n
theorem refSave_skip {l:List Rul} {A:List Fir} (h:RightR l A) {off m:Int}:∀ (k j n:Nat),j + k ≤ A.length→(∀ i,j ≤ i→i < j + k→¬ m - saveO (prevO A i) ≤ instA A off i)→refSave A off m (saveO (prevO A j)) j (k + n) = refSave A off m (saveO (prevO A (j + k))) (j + k) n
 | 0,j,n,_,_=>by rw [Nat.zero_add];rfl
 | k + 1,j,n,hl,hs=>by
   have hj:j < A.length:=by omega
   rw [show k + 1 + n = (k + n) + 1 by omega]
   have h0:=hs j (Nat.le_refl _) (by omega)
   have ih:=refSave_skip h (off:=off) (m:=m) k (j + 1) n (by omega) (fun i h1 h2=>hs i (by omega) (by omega))
   rw [prevO_succ hj,saveO_some,show j + 1 + k = j + (k + 1) by omega] at ih
   rw [refSave,List.getElem?_eq_getElem hj]
   simp only
   rw [if_neg h0,ih]
theorem endLoop_row {l:List Rul} {A:List Fir} (h:RightR l A) {off m fr to:Int} (ho:-90000 < off∧off < 90000) (hto:∀ sv,-90000 < sv∧sv < 90000→m - sv ≤ to):∀ (n j:Nat),j + n = A.length→(∀ i,j ≤ i→i < A.length→fr < instA A off i)→endLoop m (saveO (prevO A j)) (segA A off fr to j n) = refSave A off m (saveO (prevO A j)) j n
 | 0,j,_,_=>rfl
 | n + 1,j,hl,hfr=>by
   have hj:j < A.length:=by omega
   rw [segA_succ,refSave,List.getElem?_eq_getElem hj]
   simp only [Option.map_some]
   have hp:=h.prev (show j ≤ A.length by omega)
   have h1:=hfr j (Nat.le_refl _) hj
   by_cases ht:instA A off j ≤ to
   ·rw [if_pos ⟨h1,ht⟩]
    show endLoop m _ ((instA A off j,A[j]) :: segA A off fr to (j + 1) n) = _
    unfold endLoop
    simp only
    split
    ·rfl
    ·have:=endLoop_row h (off:=off) (m:=m) (fr:=fr) (to:=to) ho hto n (j + 1) (by omega) (fun i hi hl=>hfr i (by omega) hl)
     rw [prevO_succ hj,saveO_some] at this
     exact this
   ·rw [if_neg (by omega),segA_nil (fun i hi hl=>by have:=h.inst_lt ho (show j < i by omega) hl;omega)]
    rw [if_pos (by have:=hto _ hp;omega)]
    rfl
theorem end_save {l:List Rul} {A:List Fir} (h:RightR l A) {off n:Int} (ho:-90000 < off∧off < 90000) (h1:-3217862419200 ≤ n - 540000) (h2:n + 540000 < capN):endSave l off n = refSave A off (n - off) 0 0 A.length:=by
 obtain ⟨k,hk⟩:=h.icut ho (n - 360000 + 1)
 unfold endSave
 rw [latest_row h ho (by omega) (by omega) hk,fired_row h ho (by omega) (by omega) (by omega)]
 have hkl:=hk.1
 have e1:=refSave_skip h (off:=off) (m:=n - off) k 0 (A.length - k) (by omega) (fun i _ hi=>by
  have hl:i < A.length:=by omega
  have:=(hk.2 i hl).1 (by omega)
  have:=h.prev (show i ≤ A.length by omega)
  omega)
 rw [Nat.zero_add,show k + (A.length - k) = A.length by omega,prevO_zero,saveO_none] at e1
 rw [e1,← endLoop_row h ho (fr:=n - 360000) (to:=n + 360000) (m:=n - off) (fun sv hs=>by omega) (A.length - k) k (by omega) (fun i hi hl=>by have:=hk.2 i hl;omega)]
 congr 1
 have hsplit:∀ (m j:Nat),(∀ i,i < m→i + j < A.length→¬ (n - 360000 < instA A off (i + j)∧instA A off (i + j) ≤ n + 360000))→∀ q,segA A off (n - 360000) (n + 360000) j (m + q) = segA A off (n - 360000) (n + 360000) (j + m) q:=by
  intro m
  induction m with
  | zero=>intro j _ q;rw [Nat.zero_add];rfl
  | succ m ih =>
    intro j hj q
    rw [show m + 1 + q = (m + q) + 1 by omega,segA_succ,ih (j + 1) (fun i hi hl=>by have:=hj (i + 1) (by omega) (by omega);rwa [show i + 1 + j = i + (j + 1) by omega] at this) q,show j + 1 + m = j + (m + 1) by omega]
    by_cases hl:j < A.length
    ·have:=hj 0 (by omega) (by omega)
     rw [Nat.zero_add] at this
     rw [if_neg this]
     rfl
    ·rw [List.getElem?_eq_none (by omega),Option.map_none,ite_self]
     rfl
 have:=hsplit k 0 (fun i hi hl=>by
  have:=(hk.2 i (by omega)).1 hi
  rw [Nat.add_zero]
  omega) (A.length - k)
 rw [show k + (A.length - k) = A.length by omega,Nat.zero_add] at this
 exact this
end
section -- Pick
open Go Go.RowKit Go.Shelf
theorem floor_div (s:Int):s / 86400 = if s < s.tdiv 86400 * 86400 then s.tdiv 86400 - 1 else s.tdiv 86400:=by
 have h:=floor_eq (a:=s) (b:=86400) (by decide)
 have e:=Int.tmod_add_mul_tdiv s 86400
 have e2:s.tmod 86400 < 86400:=Int.tmod_lt_of_pos s (by decide)
 have e3:=Int.tmod_lt_of_pos (-s) (show (0:Int) < 86400 by decide)
 rw [Int.neg_tmod] at e3
 have e4:s < 0∨0 ≤ s.tmod 86400:=by
  by_cases hs:s < 0
  ·exact .inl hs
  ·exact .inr (Int.tmod_nonneg _ (by omega))
 have e5:0 < s∨s.tmod 86400 ≤ 0:=by
  by_cases hs:0 < s
  ·exact .inl hs
  ·refine .inr ?_
   have:=Int.tmod_nonneg 86400 (show 0 ≤ -s by omega)
   rw [Int.neg_tmod] at this
   omega
 rw [h]
 split <;> split <;> omega
theorem ffloor_any (s:Int) (h1:-9223372036854775808 ≤ s) (h2:s ≤ 9223372036854775807) (w:World) :
  Calls Tryz.prog 128 #[.int .i64 s] w fun e w'=>e = .returned (.int .i64 (s / 86400))∧w' = w:=by
 have hf:=floor_div s
 have e:=Int.tmod_add_mul_tdiv s 86400
 have e2:=Int.tmod_lt_of_pos s (show (0:Int) < 86400 by decide)
 have e3:=Int.tmod_lt_of_pos (-s) (show (0:Int) < 86400 by decide)
 rw [Int.neg_tmod] at e3
 have hr:-9223372036854775808 ≤ s.tdiv 86400 * 86400∧s.tdiv 86400 * 86400 ≤ 9223372036854775807:=by
  rcases (show s < 0∨0 ≤ s by omega) with hs | hs
  ·have:=Int.tmod_nonneg 86400 (show 0 ≤ -s by omega)
   rw [Int.neg_tmod] at this
   omega
  ·have:=Int.tmod_nonneg 86400 hs
   omega
 by_cases hc:s < s.tdiv 86400 * 86400
 ·have HF:=Lib.hid (show s / 86400 = s.tdiv 86400 - 1 by rw [hf,if_pos hc])
  have hd:decide (s < s.tdiv 86400 * 86400) = true:=decide_eq_true hc
  clear hf e e2 e3
  obtain ⟨q,hq⟩:∃ q,s.tdiv 86400 = q:=⟨_,rfl⟩
  rw [hq] at *
  go_enter Tryz.func128,Tryz.ntmps128
  go_wp2_with fail
  go_ret
  exact ⟨by rw [HF.out];rfl,rfl⟩
 ·have HF:=Lib.hid (show s / 86400 = s.tdiv 86400 by rw [hf,if_neg hc])
  have hd:decide (s < s.tdiv 86400 * 86400) = false:=decide_eq_false hc
  clear hf e e2 e3
  obtain ⟨q,hq⟩:∃ q,s.tdiv 86400 = q:=⟨_,rfl⟩
  rw [hq] at *
  go_enter Tryz.func128,Tryz.ntmps128
  go_wp2_with fail
  go_ret
  exact ⟨by rw [HF.out];rfl,rfl⟩
theorem fyear_any (s:Int) (h1:-9223372036854775808 ≤ s) (h2:s ≤ 9223372036854775807) (w:World) (ha:Ahead w) :
  Calls Tryz.prog 99 #[.int .i64 s] w fun e w'=>e = .returned (.int .i64 (secYear s))∧Below w.heap.size w w':=by
 have HF:=Lib.hid (ffloor_any s h1 h2 w)
 obtain ⟨d,hd⟩:∃ d,s / 86400 = d:=⟨_,rfl⟩
 rw [hd] at HF
 by_cases hin:-37243778 ≤ d∧d < 35805088
 ·have HV:=Lib.hid (show secYear s = ofYear d by unfold secYear;rw [hd,if_pos (by unfold ofInB;exact decide_eq_true hin)])
  have HO:=Lib.hid (of_any d hin.1 hin.2 w ha)
  unfold dateA at HO
  clear hin hd ha
  generalize ofYear d = yy at *
  generalize ofMon d = mm at *
  generalize ofDay d = dd at *
  go_enter Tryz.func99,Tryz.ntmps99
  go_wp2_with fail
  refine HF.out.mono ?_
  rintro e w1 ⟨rfl,rfl⟩
  go_wp2_with fail
  refine HO.out.mono ?_
  rintro e w2 ⟨rfl,hb⟩
  have HB:=Lib.hid (hb.alloc hb.size (.cells #[.int .i64 yy,.int .i64 mm,.int .i64 dd] 44))
  clear hb
  go_wp2_with fail
  go_ret
  exact ⟨by rw [HV.out];rfl,HB.out⟩
 ·have HV:=Lib.hid (show secYear s = 0 by unfold secYear;rw [hd,if_neg (by unfold ofInB;rw [decide_eq_true_eq];exact hin)])
  have HO:=Lib.hid (of_out d hin w)
  unfold dateA at HO
  clear hin hd ha
  go_enter Tryz.func99,Tryz.ntmps99
  go_wp2_with fail
  refine HF.out.mono ?_
  rintro e w1 ⟨rfl,rfl⟩
  go_wp2_with fail
  refine HO.out.mono ?_
  rintro e w2 ⟨rfl,hb⟩
  have HB:=Lib.hid (hb.alloc hb.size (.cells #[.int .i64 0,.int .i64 0,.int .i64 0] 44))
  clear hb
  go_wp2_with fail
  go_ret
  exact ⟨by rw [HV.out];rfl,HB.out⟩
section
variable (w:World)
theorem ahead1_any (r:Rul) (b:Nat) (n:Int) (hc:w.cell? ⟨b,0,none⟩ = some (.int .i64 n)) :
  Calls Tryz.prog 100 #[rulA r,.pointer (some ⟨b,0,none⟩)] w fun e w'=>e = .returned (.tuple #[.int .i64 (min r.to_ n),.int .i64 (-1)])∧Below w.heap.size w w':=by
 have hl:b < w.heap.size:=World.block_lt_of_cell? w _ hc
 have HB:=Lib.hid ((Below.refl w.heap.size w).alloc (Nat.le_refl _) (.cells (rulV r).toArray 106))
 unfold rulA
 unfold rulV at HB
 go_enter Tryz.func100,Tryz.ntmps100
 go_wp2_with fail
 go_ret2
 exact ⟨rfl,HB.out⟩
theorem behind1_any (r:Rul) (b:Nat) (n:Int) (hc:w.cell? ⟨b,0,none⟩ = some (.int .i64 n)) :
  Calls Tryz.prog 144 #[rulA r,.pointer (some ⟨b,0,none⟩)] w fun e w'=>e = .returned (.tuple #[.int .i64 (max r.from_ n),.int .i64 1])∧Below w.heap.size w w':=by
 have hl:b < w.heap.size:=World.block_lt_of_cell? w _ hc
 have HB:=Lib.hid ((Below.refl w.heap.size w).alloc (Nat.le_refl _) (.cells (rulV r).toArray 106))
 unfold rulA
 unfold rulV at HB
 go_enter Tryz.func144,Tryz.ntmps144
 go_wp2_with fail
 go_ret2
 exact ⟨rfl,HB.out⟩
theorem ahead2_any (a b:Fir):Calls Tryz.prog 102 #[firA a,firA b] w fun e w'=>e = .returned (.bool (geB a b))∧Below w.heap.size w w':=by
 have HB:=Lib.hid (((Below.refl w.heap.size w).alloc (Nat.le_refl _) (.cells (firV a).toArray 112)).alloc (by simp) (.cells (firV b).toArray 112))
 unfold firA geB
 unfold firV at HB
 go_enter Tryz.func102,Tryz.ntmps102
 go_wp2_with fail
 go_ret
 exact ⟨rfl,HB.out⟩
theorem behind2_any (a b:Fir):Calls Tryz.prog 145 #[firA a,firA b] w fun e w'=>e = .returned (.bool (ltB a b))∧Below w.heap.size w w':=by
 have HB:=Lib.hid (((Below.refl w.heap.size w).alloc (Nat.le_refl _) (.cells (firV a).toArray 112)).alloc (by simp) (.cells (firV b).toArray 112))
 unfold firA ltB
 unfold firV at HB
 go_enter Tryz.func145,Tryz.ntmps145
 go_wp2_with fail
 go_ret
 exact ⟨rfl,HB.out⟩
theorem ahead3_any (a:Fir) (b:Nat) (s:Int) (hc:w.cell? ⟨b,0,none⟩ = some (.int .i64 s)):Calls Tryz.prog 103 #[firA a,.pointer (some ⟨b,0,none⟩)] w fun e w'=>e = .returned (.bool (underB s a))∧Below w.heap.size w w':=by
 have hl:b < w.heap.size:=World.block_lt_of_cell? w _ hc
 have HB:=Lib.hid ((Below.refl w.heap.size w).alloc (Nat.le_refl _) (.cells (firV a).toArray 112))
 unfold firA underB
 unfold firV at HB
 go_enter Tryz.func103,Tryz.ntmps103
 go_wp2_with fail
 go_ret
 exact ⟨rfl,HB.out⟩
theorem behind3_any (a:Fir) (b:Nat) (s:Int) (hc:w.cell? ⟨b,0,none⟩ = some (.int .i64 s)):Calls Tryz.prog 146 #[firA a,.pointer (some ⟨b,0,none⟩)] w fun e w'=>e = .returned (.bool (atB s a))∧Below w.heap.size w w':=by
 have hl:b < w.heap.size:=World.block_lt_of_cell? w _ hc
 have HB:=Lib.hid ((Below.refl w.heap.size w).alloc (Nat.le_refl _) (.cells (firV a).toArray 112))
 unfold firA atB
 unfold firV at HB
 go_enter Tryz.func146,Tryz.ntmps146
 go_wp2_with fail
 go_ret
 exact ⟨rfl,HB.out⟩
theorem inst_any (f:Fir) (off sv:Int) (h:-1000000000000000 ≤ f.nominal∧f.nominal ≤ 1000000000000000) (h1:-1000000000000000 ≤ off∧off ≤ 1000000000000000) (h2:-1000000000000000 ≤ sv∧sv ≤ 1000000000000000) :
  Calls Tryz.prog 61 #[firA f,.int .i64 off,.int .i64 sv] w fun e w'=>e = .returned (.int .i64 (instF f off sv))∧Below w.heap.size w w':=by
 have HB:=Lib.hid ((Below.refl w.heap.size w).alloc (Nat.le_refl _) (.cells (firV f).toArray 112))
 unfold firA
 unfold firV at HB
 by_cases k2:f.kind = 2
 ·have HV:=Lib.hid (show instF f off sv = f.nominal by unfold instF;rw [if_pos k2])
  have e:(f.kind == 2) = true:=by simpa using k2
  clear k2
  go_enter Tryz.func61,Tryz.ntmps61
  go_wp2_with fail
  go_ret
  exact ⟨by rw [HV.out];rfl,HB.out⟩
 ·have e:(f.kind == 2) = false:=by simpa using k2
  by_cases k1:f.kind = 1
  ·have HV:=Lib.hid (show instF f off sv = f.nominal - off by unfold instF;rw [if_neg k2,if_pos k1])
   have e1:(f.kind == 1) = true:=by simpa using k1
   clear k2 k1
   go_enter Tryz.func61,Tryz.ntmps61
   go_wp2_with fail
   go_ret
   exact ⟨by rw [HV.out];rfl,HB.out⟩
  ·have HV:=Lib.hid (show instF f off sv = f.nominal - off - sv by unfold instF;rw [if_neg k2,if_neg k1])
   have e1:(f.kind == 1) = false:=by simpa using k1
   go_enter Tryz.func61,Tryz.ntmps61
   go_wp2_with fail
   go_ret
   exact ⟨by rw [HV.out];rfl,HB.out⟩
end
end
section -- PBest
open Go Go.RowKit Go.Shelf
def firO (o:Option Fir):Fir:=match o with | some f=>f | none=>.zero
def resO (o:Option Fir):Value:=.tuple #[firA (firO o),.bool o.isSome]
abbrev FirB (W:World) (b:Nat) (f:Fir):Prop:=Blk W b 112 (firV f).toArray
def leftY (r:Rul) (st:Int) (may:Fir→Bool) (y0:Int) (j:Nat):Prop:=j ≤ 12∧tryY r st may 12 y0 = tryY r st may (12 - j) (y0 + st * j)
theorem leftY.next {r:Rul} {st:Int} {may:Fir→Bool} {y0:Int} {j:Nat} (h:leftY r st may y0 j) (hj:j < 12) (hn:(ofB r (y0 + st * j) && may (firOf r (y0 + st * j))) = false):leftY r st may y0 (j + 1):=by
 refine ⟨by omega,?_⟩
 rw [h.2,show 12 - j = (12 - (j + 1)) + 1 by omega,tryY,hn,if_neg (by decide)]
 congr 1
 push_cast
 rw [Int.mul_add]
 omega
theorem leftY.hit {r:Rul} {st:Int} {may:Fir→Bool} {y0:Int} {j:Nat} (h:leftY r st may y0 j) (hj:j < 12) (hn:(ofB r (y0 + st * j) && may (firOf r (y0 + st * j))) = true):tryY r st may 12 y0 = some (firOf r (y0 + st * j)):=by
 rw [h.2,show 12 - j = (12 - (j + 1)) + 1 by omega,tryY,hn,if_pos rfl]
theorem leftY.out {r:Rul} {st:Int} {may:Fir→Bool} {y0:Int} (h:leftY r st may y0 12):tryY r st may 12 y0 = none:=by
 rw [h.2];rfl
theorem best_Ahead (w:World) (B:Nat) (v:Value) (l:List Rul) (hv:Ruls w B v l) (hB:B ≤ w.heap.size) (ha:Ahead w) (b1 b3:Nat) (yr:Rul→Int) (st:Int) (better:Fir→Fir→Bool) (may:Fir→Bool)
  (hst:-1 ≤ st∧st ≤ 1) (hyr:∀ r ∈ l,-4000000000000000000 ≤ yr r∧yr r ≤ 4000000000000000000)
  (hy:∀ r ∈ l,∀ W,Below w.heap.size w W→Calls Tryz.prog 100 #[rulA r,.pointer (some ⟨b1,0,none⟩)] W fun e W'=>e = .returned (.tuple #[.int .i64 (yr r),.int .i64 st])∧Below W.heap.size W W')
  (hb:∀ a b W,Calls Tryz.prog 102 #[firA a,firA b] W fun e W'=>e = .returned (.bool (better a b))∧Below W.heap.size W W')
  (hm:∀ f W,Below w.heap.size w W→Calls Tryz.prog 103 #[firA f,.pointer (some ⟨b3,0,none⟩)] W fun e W'=>e = .returned (.bool (may f))∧Below W.heap.size W W') :
  Calls Tryz.prog 101 #[v,.func (.func 100) #[] #[.pointer (some ⟨b1,0,none⟩)],.func (.func 102) #[] #[],.func (.func 103) #[] #[.pointer (some ⟨b3,0,none⟩)]] w fun e w'=>e = .returned (resO (pickV l yr st better may))∧Below w.heap.size w w':=by
 have HV:=Lib.hid hv
 have HA:=Lib.hid ha
 have HY:=Lib.hid hy
 have HBT:=Lib.hid hb
 have HM:=Lib.hid hm
 have HYR:=Lib.hid hyr
 obtain ⟨A,c,rfl,hlc,hcm⟩:=hv.form
 unfold maxLen at hcm
 have HB0:=Lib.hid (((Below.refl w.heap.size w).alloc (Nat.le_refl _) (.cells (firV .zero).toArray 112)).alloc (by simp) (.cells (firV .zero).toArray 112))
 have ho0:=Blk.new (w.alloc (.cells (firV .zero).toArray 112)) 112 (firV .zero).toArray
 have hr0:=(Blk.new w 112 (firV .zero).toArray).alloc (.cells (firV .zero).toArray 112)
 rw [World.size_alloc] at ho0
 have HO0:=Lib.hid (show FirB _ _ (firO (pickV (l.take 0) yr st better may)) from ho0)
 have HR0:=Lib.hid hr0
 clear hv ha hy hb hm hyr ho0 hr0
 unfold firV Fir.zero at HB0 HR0
 unfold firV Fir.zero at HO0
 go_enter Tryz.func101,Tryz.ntmps101
 go_wp2_with fail
 go_step3
 go_wp2_with fail
 go_step3
 go_wp2_with fail
 go_loopw [11,20] (fun fv iv wr=>∃ k:Nat,k ≤ l.length∧iv = .int .i64 k∧fv = .bool (pickV (l.take k) yr st better may).isSome∧FirB wr (w.heap.size + 1) (firO (pickV (l.take k) yr st better may))∧FirB wr w.heap.size .zero∧Below w.heap.size w wr) (fun _ iv _=>l.length - (intOf iv).toNat)
 case atStart=>exact ⟨0,Nat.zero_le _,rfl,rfl,HO0.out,HR0.out,HB0.out⟩
 case round =>
  clear HO0 HR0 HB0
  obtain ⟨k,hk,rfl,rfl,hfb,hf0,hbw⟩:=hrel
  obtain ⟨o,ho⟩:∃ o,pickV (l.take k) yr st better may = o:=⟨_,rfl⟩
  rw [ho] at hfb ⊢
  have HFB:=Lib.hid hfb
  have HF0:=Lib.hid hf0
  have HBW:=Lib.hid hbw
  have hws:=hbw.size
  have hfl:=Blk.lt hfb
  clear hfb hf0 hbw
  by_cases hlt:k < l.length
  ·have hd:decide ((k:Int) < (l.length:Int)) = true:=decide_eq_true (by omega)
   obtain ⟨bb,o1,c',e,hbb,hc⟩:=(HV.out.below (HBW.out.mono hB)).cells (by omega)
   cases e
   obtain ⟨c0,c1,c2,c3,c4,c5,c6,c7,c8,c9,c10⟩:=hc k hlt
   have HNX:=Lib.hid (pickV_next hlt yr st better may)
   rw [ho] at HNX
   have hyk:=HY.out l[k] (List.getElem_mem hlt)
   have hyrk:=HYR.out l[k] (List.getElem_mem hlt)
   obtain ⟨r,hr⟩:∃ r,l[k] = r:=⟨_,rfl⟩
   rw [hr] at c0 c1 c2 c3 c4 c5 c6 c7 c8 c9 c10 HNX hyk hyrk
   have HYK:=Lib.hid hyk
   have HO:=Lib.hid ho
   obtain ⟨y0,hy0⟩:∃ y0,yr r = y0:=⟨_,rfl⟩
   rw [hy0] at hyrk HYK HNX
   clear hc hr hyk ho hy0
   unfold rulA at HYK
   go_wp2_with fail
   refine (HYK.out _ ?b1).mono ?_
   case b1=>exact HBW.out.alloc hws _
   rintro e w2 ⟨rfl,hb⟩
   have HR2:=Lib.hid (show RulB w2 wr.heap.size r from Blk.below (Blk.new wr _ _) hb (Blk.lt (Blk.new wr _ _)))
   have hb2:Below w.heap.size w w2:=(HBW.out.alloc hws _).trans (hb.mono (by rw [World.size_alloc];omega))
   have HB2:=Lib.hid hb2
   have HFB2:=Lib.hid (show FirB w2 (w.heap.size + 1) (firO o) from Blk.below (Blk.alloc HFB.out _) hb (by rw [World.size_alloc];omega))
   have HF02:=Lib.hid (show FirB w2 w.heap.size .zero from Blk.below (Blk.alloc HF0.out _) hb (by rw [World.size_alloc];omega))
   obtain ⟨BX,hBX⟩:∃ n,wr.heap.size = n:=⟨_,rfl⟩
   rw [hBX] at HR2 hws hfl ⊢
   clear hb hb2 c0 c1 c2 c3 c4 c5 c6 c7 c8 c9 c10 HFB HF0 HBW hBX HYK
   go_wp2_with fail
   go_loopw [11,14,30] (fun fv yv jv wi=>∃ j:Nat,fv = .bool o.isSome∧jv = .int .i64 j∧yv = .int .i64 (y0 + st * j)∧leftY r st may y0 j∧RulB wi BX r∧FirB wi (w.heap.size + 1) (firO o)∧FirB wi w.heap.size .zero∧Below w.heap.size w wi) (fun _ _ jv _=>12 - (intOf jv).toNat)
   case atStart=>exact ⟨0,rfl,rfl,by simp,⟨by omega,by simp⟩,HR2.out,HFB2.out,HF02.out,HB2.out⟩
   case round =>
    clear HR2 HB2 HFB2 HF02
    obtain ⟨j,rfl,rfl,rfl,hle,hrb,hfb,hf0,hbw⟩:=hrel
    have HLE:=Lib.hid hle
    have HFB:=Lib.hid hfb
    have HF0:=Lib.hid hf0
    have HRB:=Lib.hid hrb
    have HBI:=Lib.hid hbw
    have hj12:=hle.1
    have hwi:=hbw.size
    have hBl:=Blk.lt hrb
    have hfl2:=Blk.lt hfb
    clear hle hfb hf0 hrb hbw
    by_cases hjl:j < 12
    ·have hd2:decide ((j:Int) < 12) = true:=decide_eq_true (by omega)
     obtain ⟨y,hyv⟩:∃ y,y0 + st * (j:Int) = y:=⟨_,rfl⟩
     have hyr2:-4500000000000000000 ≤ y∧y ≤ 4500000000000000000:=by
      have e1:-1 * (j:Int) ≤ st * j:=Int.mul_le_mul_of_nonneg_right hst.1 (by omega)
      have e2:st * (j:Int) ≤ 1 * j:=Int.mul_le_mul_of_nonneg_right hst.2 (by omega)
      omega
     have HOF:=Lib.hid (fof_any r y wr (HA.out.below HBI.out (Nat.le_refl _)))
     have HYV:=Lib.hid (show y0 + st * ((j + 1:Nat):Int) = y + st by rw [← hyv];push_cast;rw [Int.mul_add];omega)
     have HMY:=Lib.hid (fun (W:World) (hb:Below w.heap.size w W)=>HM.out (firOf r y) W hb)
     rw [hyv]
     have q0:=Blk.cell HRB.out 0 (v:=.string r.name) rfl
     have q1:=Blk.cell HRB.out 1 (v:=.int .i64 r.from_) rfl
     have q2:=Blk.cell HRB.out 2 (v:=.int .i64 r.to_) rfl
     have q3:=Blk.cell HRB.out 3 (v:=.int .i64 r.month) rfl
     have q4:=Blk.cell HRB.out 4 (v:=.int .i64 r.dk) rfl
     have q5:=Blk.cell HRB.out 5 (v:=.int .i64 r.dw) rfl
     have q6:=Blk.cell HRB.out 6 (v:=.int .i64 r.dn) rfl
     have q7:=Blk.cell HRB.out 7 (v:=.int .i64 r.sec) rfl
     have q8:=Blk.cell HRB.out 8 (v:=.int .i64 r.kind) rfl
     have q9:=Blk.cell HRB.out 9 (v:=.int .i64 r.save) rfl
     have q10:=Blk.cell HRB.out 10 (v:=.string r.letter) rfl
     unfold rulA at HOF
     cases hof:ofB r y with
     | false =>
       have hn:(ofB r (y0 + st * (j:Int)) && may (firOf r (y0 + st * (j:Int)))) = false:=by rw [hyv,hof];rfl
       have HL2:=Lib.hid (HLE.out.next hjl hn)
       have hov:ofV r y = .zero:=by unfold ofV;rw [hof];rfl
       rw [hof,hov] at HOF
       unfold firA Fir.zero at HOF
       clear hn hov hof HMY
       go_wp2_with fail
       refine HOF.out.mono ?_
       rintro e w3 ⟨rfl,hb⟩
       have hb3:Below wr.heap.size wr (w3.alloc (.cells #[.int .i64 0,.int .i64 0,.int .i64 0,.string ⟨#[]⟩] 112)):=hb.alloc hb.size _
       have HB3:=Lib.hid hb3
       clear hb hb3 q0 q1 q2 q3 q4 q5 q6 q7 q8 q9 q10
       go_wp2_with fail
       go_roundw
       case rel=>exact ⟨j + 1,rfl,by go_num,by rw [HYV.out],HL2.out,Blk.below HRB.out HB3.out hBl,Blk.below HFB.out HB3.out hfl2,Blk.below HF0.out HB3.out (by omega),HBI.out.trans (HB3.out.mono hwi)⟩
       case measure=>simp [intOf];omega
     | true =>
       have hov:ofV r y = firOf r y:=by unfold ofV;rw [hof];rfl
       rw [hof,hov] at HOF
       obtain ⟨f,hf⟩:∃ f,firOf r y = f:=⟨_,rfl⟩
       rw [hf] at HOF HMY
       unfold firA at HOF HMY
       clear hov
       cases hmy:may f with
       | false =>
         have hn:(ofB r (y0 + st * (j:Int)) && may (firOf r (y0 + st * (j:Int)))) = false:=by rw [hyv,hf,hmy,Bool.and_false]
         have HL2:=Lib.hid (HLE.out.next hjl hn)
         rw [hmy] at HMY
         clear hn hof hf hmy
         go_wp2_with fail
         refine HOF.out.mono ?_
         rintro e w3 ⟨rfl,hb⟩
         have hb3:Below wr.heap.size wr (w3.alloc (.cells #[.int .i64 f.nominal,.int .i64 f.kind,.int .i64 f.save,.string f.letter] 112)):=hb.alloc hb.size _
         have HB3:=Lib.hid hb3
         clear hb hb3 q0 q1 q2 q3 q4 q5 q6 q7 q8 q9 q10
         go_wp2_with fail
         refine (HMY.out _ (HBI.out.trans (HB3.out.mono hwi))).mono ?_
         rintro e w4 ⟨rfl,hb⟩
         have HB4:=Lib.hid (HB3.out.trans (hb.mono HB3.out.size))
         clear hb
         go_wp2_with fail
         go_roundw
         case rel=>exact ⟨j + 1,rfl,by go_num,by rw [HYV.out],HL2.out,Blk.below HRB.out HB4.out hBl,Blk.below HFB.out HB4.out hfl2,Blk.below HF0.out HB4.out (by omega),HBI.out.trans (HB4.out.mono hwi)⟩
         case measure=>simp [intOf];omega
       | true =>
         have hn:(ofB r (y0 + st * (j:Int)) && may (firOf r (y0 + st * (j:Int)))) = true:=by rw [hyv,hf,hmy,hof];rfl
         have HHT:=Lib.hid (HLE.out.hit hjl hn)
         rw [hyv,hf] at HHT
         rw [HHT.out] at HNX
         rw [hmy] at HMY
         clear hn hof hf hmy
         go_wp2_with fail
         refine HOF.out.mono ?_
         rintro e w3 ⟨rfl,hb⟩
         have hb3:Below wr.heap.size wr (w3.alloc (.cells #[.int .i64 f.nominal,.int .i64 f.kind,.int .i64 f.save,.string f.letter] 112)):=hb.alloc hb.size _
         have HB3:=Lib.hid hb3
         have HX3:=Lib.hid (Blk.new w3 112 #[.int .i64 f.nominal,.int .i64 f.kind,.int .i64 f.save,.string f.letter])
         clear hb hb3 q0 q1 q2 q3 q4 q5 q6 q7 q8 q9 q10
         go_wp2_with fail
         refine (HMY.out _ (HBI.out.trans (HB3.out.mono hwi))).mono ?_
         rintro e w4 ⟨rfl,hb⟩
         have HB4:=Lib.hid (HB3.out.trans (hb.mono HB3.out.size))
         have HX4:=Lib.hid (HX3.out.below hb HX3.out.lt)
         have HFB4:=Lib.hid (show FirB w4 (w.heap.size + 1) (firO o) from Blk.below HFB.out HB4.out hfl2)
         have HF04:=Lib.hid (show FirB w4 w.heap.size .zero from Blk.below HF0.out HB4.out (by omega))
         have HBW4:=Lib.hid (HBI.out.trans (HB4.out.mono hwi))
         clear hb
         cases o with
         | none =>
           have HN2:=Lib.hid (show pickV (l.take (k + 1)) yr st better may = some f from HNX.out)
           have hf4:=HFB4.out.lt
           have s0:=HFB4.out.cell 0 (v:=.int .i64 0) rfl
           have s1:=HFB4.out.cell 1 (v:=.int .i64 0) rfl
           have s2:=HFB4.out.cell 2 (v:=.int .i64 0) rfl
           have s3:=HFB4.out.cell 3 (v:=.string ⟨#[]⟩) rfl
           have g0:=HFB4.out.frozen 0
           have g1:=HFB4.out.frozen 1
           have g2:=HFB4.out.frozen 2
           have g3:=HFB4.out.frozen 3
           have x0:=HX4.out.cell 0 (v:=.int .i64 f.nominal) rfl
           have x1:=HX4.out.cell 1 (v:=.int .i64 f.kind) rfl
           have x2:=HX4.out.cell 2 (v:=.int .i64 f.save) rfl
           have x3:=HX4.out.cell 3 (v:=.string f.letter) rfl
           have hx:=HX4.out.lt
           go_wp2_with fail
           exact ⟨⟨k + 1,by omega,by go_num,by rw [HN2.out] <;> rfl,by rw [HN2.out];exact (((HFB4.out.set 0 _).set 1 _).set 2 _).set 3 _,(((HF04.out.other (by omega) 0 _).other (by omega) 1 _).other (by omega) 2 _).other (by omega) 3 _,below_set4 HBW4.out (by omega) _ _ _ _⟩,by simp [intOf];omega⟩
         | some x =>
           have HBX:=Lib.hid (fun W=>HBT.out f x W)
           unfold firA at HBX
           have hf4:=HFB4.out.lt
           have s0:=HFB4.out.cell 0 (v:=.int .i64 x.nominal) rfl
           have s1:=HFB4.out.cell 1 (v:=.int .i64 x.kind) rfl
           have s2:=HFB4.out.cell 2 (v:=.int .i64 x.save) rfl
           have s3:=HFB4.out.cell 3 (v:=.string x.letter) rfl
           have x0:=HX4.out.cell 0 (v:=.int .i64 f.nominal) rfl
           have x1:=HX4.out.cell 1 (v:=.int .i64 f.kind) rfl
           have x2:=HX4.out.cell 2 (v:=.int .i64 f.save) rfl
           have x3:=HX4.out.cell 3 (v:=.string f.letter) rfl
           have hx:=HX4.out.lt
           cases hbt:better f x with
           | false =>
             have HN2:=Lib.hid (show pickV (l.take (k + 1)) yr st better may = some x from HNX.out.trans (by unfold pickS;simp only;rw [hbt];rfl))
             rw [hbt] at HBX
             clear hbt
             go_wp2_with fail
             refine (HBX.out _).mono ?_
             rintro e w5 ⟨rfl,hb⟩
             have HFB5:=Lib.hid (show FirB w5 (w.heap.size + 1) x from Blk.below HFB4.out hb hf4)
             have HF05:=Lib.hid (show FirB w5 w.heap.size .zero from Blk.below HF04.out hb (by omega))
             have HBW5:=Lib.hid (HBW4.out.trans (hb.mono HBW4.out.size))
             have HX5:=Lib.hid (HX4.out.below hb HX4.out.lt)
             have hf5:=HFB5.out.lt
             clear hb s0 s1 s2 s3 x0 x1 x2 x3
             go_wp2_with fail
             exact ⟨⟨k + 1,by omega,by go_num,by rw [HN2.out] <;> rfl,by rw [HN2.out];exact HFB5.out,HF05.out,HBW5.out⟩,by simp [intOf];omega⟩
           | true =>
             have HN2:=Lib.hid (show pickV (l.take (k + 1)) yr st better may = some f from HNX.out.trans (by unfold pickS;simp only;rw [hbt];rfl))
             rw [hbt] at HBX
             clear hbt
             go_wp2_with fail
             refine (HBX.out _).mono ?_
             rintro e w5 ⟨rfl,hb⟩
             have HFB5:=Lib.hid (show FirB w5 (w.heap.size + 1) x from Blk.below HFB4.out hb hf4)
             have HF05:=Lib.hid (show FirB w5 w.heap.size .zero from Blk.below HF04.out hb (by omega))
             have HBW5:=Lib.hid (HBW4.out.trans (hb.mono HBW4.out.size))
             have HX5:=Lib.hid (HX4.out.below hb HX4.out.lt)
             have hf5:=HFB5.out.lt
             clear hb s0 s1 s2 s3 x0 x1 x2 x3
             have s0:=HFB5.out.cell 0 (v:=.int .i64 x.nominal) rfl
             have s1:=HFB5.out.cell 1 (v:=.int .i64 x.kind) rfl
             have s2:=HFB5.out.cell 2 (v:=.int .i64 x.save) rfl
             have s3:=HFB5.out.cell 3 (v:=.string x.letter) rfl
             have g0:=HFB5.out.frozen 0
             have g1:=HFB5.out.frozen 1
             have g2:=HFB5.out.frozen 2
             have g3:=HFB5.out.frozen 3
             have x0:=HX5.out.cell 0 (v:=.int .i64 f.nominal) rfl
             have x1:=HX5.out.cell 1 (v:=.int .i64 f.kind) rfl
             have x2:=HX5.out.cell 2 (v:=.int .i64 f.save) rfl
             have x3:=HX5.out.cell 3 (v:=.string f.letter) rfl
             have hx5:=HX5.out.lt
             go_wp2_with fail
             exact ⟨⟨k + 1,by omega,by go_num,by rw [HN2.out] <;> rfl,by rw [HN2.out];exact (((HFB5.out.set 0 _).set 1 _).set 2 _).set 3 _,(((HF05.out.other (by omega) 0 _).other (by omega) 1 _).other (by omega) 2 _).other (by omega) 3 _,below_set4 HBW5.out (by omega) _ _ _ _⟩,by simp [intOf];omega⟩
    ·obtain rfl:j = 12:=by omega
     have hd2:decide (((12:Nat):Int) < 12) = false:=by decide
     have HN2:=Lib.hid (show pickV (l.take (k + 1)) yr st better may = o by rw [HNX.out,HLE.out.out];rfl)
     go_wp2_with fail
     exact ⟨⟨k + 1,by omega,by go_num,by rw [HN2.out],by rw [HN2.out];exact HFB.out,HF0.out,HBI.out⟩,by simp [intOf];omega⟩
  ·obtain rfl:k = l.length:=by omega
   have hd:decide ((l.length:Int) < (l.length:Int)) = false:=decide_eq_false (by omega)
   rw [List.take_length] at ho
   have HO:=Lib.hid ho
   obtain ⟨f,hf⟩:∃ f,firO o = f:=⟨_,rfl⟩
   have HFO:=Lib.hid hf
   rw [hf] at HFB
   have q0:=HFB.out.cell 0 (v:=.int .i64 f.nominal) rfl
   have q1:=HFB.out.cell 1 (v:=.int .i64 f.kind) rfl
   have q2:=HFB.out.cell 2 (v:=.int .i64 f.save) rfl
   have q3:=HFB.out.cell 3 (v:=.string f.letter) rfl
   have hf0l:=Blk.lt HF0.out
   have p0:=HF0.out.cell 0 (v:=.int .i64 0) rfl
   have p1:=HF0.out.cell 1 (v:=.int .i64 0) rfl
   have p2:=HF0.out.cell 2 (v:=.int .i64 0) rfl
   have p3:=HF0.out.cell 3 (v:=.string ⟨#[]⟩) rfl
   have z0:=HF0.out.frozen 0
   have z1:=HF0.out.frozen 1
   have z2:=HF0.out.frozen 2
   have z3:=HF0.out.frozen 3
   clear hf ho
   go_wp2_with fail
   have HX:=Lib.hid (((HF0.out.set 0 (.int .i64 f.nominal)).set 1 (.int .i64 f.kind)).set 2 (.int .i64 f.save) |>.set 3 (.string f.letter))
   have v0:=HX.out.cell 0 (v:=.int .i64 f.nominal) rfl
   have v1:=HX.out.cell 1 (v:=.int .i64 f.kind) rfl
   have v2:=HX.out.cell 2 (v:=.int .i64 f.save) rfl
   have v3:=HX.out.cell 3 (v:=.string f.letter) rfl
   rw [Exit.noGoto_ret]
   refine bodyPost_ret (v:=resO o) ?_ rfl ⟨by rw [HO.out],below_set4 HBW.out (by omega) _ _ _ _⟩
   unfold resO
   rw [HFO.out]
   simp [results,Tryz.f101,go_sem,v0,v1,v2,v3,firA]
theorem best_Behind (w:World) (B:Nat) (v:Value) (l:List Rul) (hv:Ruls w B v l) (hB:B ≤ w.heap.size) (ha:Ahead w) (b1 b3:Nat) (yr:Rul→Int) (st:Int) (better:Fir→Fir→Bool) (may:Fir→Bool)
  (hst:-1 ≤ st∧st ≤ 1) (hyr:∀ r ∈ l,-4000000000000000000 ≤ yr r∧yr r ≤ 4000000000000000000)
  (hy:∀ r ∈ l,∀ W,Below w.heap.size w W→Calls Tryz.prog 144 #[rulA r,.pointer (some ⟨b1,0,none⟩)] W fun e W'=>e = .returned (.tuple #[.int .i64 (yr r),.int .i64 st])∧Below W.heap.size W W')
  (hb:∀ a b W,Calls Tryz.prog 145 #[firA a,firA b] W fun e W'=>e = .returned (.bool (better a b))∧Below W.heap.size W W')
  (hm:∀ f W,Below w.heap.size w W→Calls Tryz.prog 146 #[firA f,.pointer (some ⟨b3,0,none⟩)] W fun e W'=>e = .returned (.bool (may f))∧Below W.heap.size W W') :
  Calls Tryz.prog 101 #[v,.func (.func 144) #[] #[.pointer (some ⟨b1,0,none⟩)],.func (.func 145) #[] #[],.func (.func 146) #[] #[.pointer (some ⟨b3,0,none⟩)]] w fun e w'=>e = .returned (resO (pickV l yr st better may))∧Below w.heap.size w w':=by
 have HV:=Lib.hid hv
 have HA:=Lib.hid ha
 have HY:=Lib.hid hy
 have HBT:=Lib.hid hb
 have HM:=Lib.hid hm
 have HYR:=Lib.hid hyr
 obtain ⟨A,c,rfl,hlc,hcm⟩:=hv.form
 unfold maxLen at hcm
 have HB0:=Lib.hid (((Below.refl w.heap.size w).alloc (Nat.le_refl _) (.cells (firV .zero).toArray 112)).alloc (by simp) (.cells (firV .zero).toArray 112))
 have ho0:=Blk.new (w.alloc (.cells (firV .zero).toArray 112)) 112 (firV .zero).toArray
 have hr0:=(Blk.new w 112 (firV .zero).toArray).alloc (.cells (firV .zero).toArray 112)
 rw [World.size_alloc] at ho0
 have HO0:=Lib.hid (show FirB _ _ (firO (pickV (l.take 0) yr st better may)) from ho0)
 have HR0:=Lib.hid hr0
 clear hv ha hy hb hm hyr ho0 hr0
 unfold firV Fir.zero at HB0 HR0
 unfold firV Fir.zero at HO0
 go_enter Tryz.func101,Tryz.ntmps101
 go_wp2_with fail
 go_step3
 go_wp2_with fail
 go_step3
 go_wp2_with fail
 go_loopw [11,20] (fun fv iv wr=>∃ k:Nat,k ≤ l.length∧iv = .int .i64 k∧fv = .bool (pickV (l.take k) yr st better may).isSome∧FirB wr (w.heap.size + 1) (firO (pickV (l.take k) yr st better may))∧FirB wr w.heap.size .zero∧Below w.heap.size w wr) (fun _ iv _=>l.length - (intOf iv).toNat)
 case atStart=>exact ⟨0,Nat.zero_le _,rfl,rfl,HO0.out,HR0.out,HB0.out⟩
 case round =>
  clear HO0 HR0 HB0
  obtain ⟨k,hk,rfl,rfl,hfb,hf0,hbw⟩:=hrel
  obtain ⟨o,ho⟩:∃ o,pickV (l.take k) yr st better may = o:=⟨_,rfl⟩
  rw [ho] at hfb ⊢
  have HFB:=Lib.hid hfb
  have HF0:=Lib.hid hf0
  have HBW:=Lib.hid hbw
  have hws:=hbw.size
  have hfl:=Blk.lt hfb
  clear hfb hf0 hbw
  by_cases hlt:k < l.length
  ·have hd:decide ((k:Int) < (l.length:Int)) = true:=decide_eq_true (by omega)
   obtain ⟨bb,o1,c',e,hbb,hc⟩:=(HV.out.below (HBW.out.mono hB)).cells (by omega)
   cases e
   obtain ⟨c0,c1,c2,c3,c4,c5,c6,c7,c8,c9,c10⟩:=hc k hlt
   have HNX:=Lib.hid (pickV_next hlt yr st better may)
   rw [ho] at HNX
   have hyk:=HY.out l[k] (List.getElem_mem hlt)
   have hyrk:=HYR.out l[k] (List.getElem_mem hlt)
   obtain ⟨r,hr⟩:∃ r,l[k] = r:=⟨_,rfl⟩
   rw [hr] at c0 c1 c2 c3 c4 c5 c6 c7 c8 c9 c10 HNX hyk hyrk
   have HYK:=Lib.hid hyk
   have HO:=Lib.hid ho
   obtain ⟨y0,hy0⟩:∃ y0,yr r = y0:=⟨_,rfl⟩
   rw [hy0] at hyrk HYK HNX
   clear hc hr hyk ho hy0
   unfold rulA at HYK
   go_wp2_with fail
   refine (HYK.out _ ?b1).mono ?_
   case b1=>exact HBW.out.alloc hws _
   rintro e w2 ⟨rfl,hb⟩
   have HR2:=Lib.hid (show RulB w2 wr.heap.size r from Blk.below (Blk.new wr _ _) hb (Blk.lt (Blk.new wr _ _)))
   have hb2:Below w.heap.size w w2:=(HBW.out.alloc hws _).trans (hb.mono (by rw [World.size_alloc];omega))
   have HB2:=Lib.hid hb2
   have HFB2:=Lib.hid (show FirB w2 (w.heap.size + 1) (firO o) from Blk.below (Blk.alloc HFB.out _) hb (by rw [World.size_alloc];omega))
   have HF02:=Lib.hid (show FirB w2 w.heap.size .zero from Blk.below (Blk.alloc HF0.out _) hb (by rw [World.size_alloc];omega))
   obtain ⟨BX,hBX⟩:∃ n,wr.heap.size = n:=⟨_,rfl⟩
   rw [hBX] at HR2 hws hfl ⊢
   clear hb hb2 c0 c1 c2 c3 c4 c5 c6 c7 c8 c9 c10 HFB HF0 HBW hBX HYK
   go_wp2_with fail
   go_loopw [11,14,30] (fun fv yv jv wi=>∃ j:Nat,fv = .bool o.isSome∧jv = .int .i64 j∧yv = .int .i64 (y0 + st * j)∧leftY r st may y0 j∧RulB wi BX r∧FirB wi (w.heap.size + 1) (firO o)∧FirB wi w.heap.size .zero∧Below w.heap.size w wi) (fun _ _ jv _=>12 - (intOf jv).toNat)
   case atStart=>exact ⟨0,rfl,rfl,by simp,⟨by omega,by simp⟩,HR2.out,HFB2.out,HF02.out,HB2.out⟩
   case round =>
    clear HR2 HB2 HFB2 HF02
    obtain ⟨j,rfl,rfl,rfl,hle,hrb,hfb,hf0,hbw⟩:=hrel
    have HLE:=Lib.hid hle
    have HFB:=Lib.hid hfb
    have HF0:=Lib.hid hf0
    have HRB:=Lib.hid hrb
    have HBI:=Lib.hid hbw
    have hj12:=hle.1
    have hwi:=hbw.size
    have hBl:=Blk.lt hrb
    have hfl2:=Blk.lt hfb
    clear hle hfb hf0 hrb hbw
    by_cases hjl:j < 12
    ·have hd2:decide ((j:Int) < 12) = true:=decide_eq_true (by omega)
     obtain ⟨y,hyv⟩:∃ y,y0 + st * (j:Int) = y:=⟨_,rfl⟩
     have hyr2:-4500000000000000000 ≤ y∧y ≤ 4500000000000000000:=by
      have e1:-1 * (j:Int) ≤ st * j:=Int.mul_le_mul_of_nonneg_right hst.1 (by omega)
      have e2:st * (j:Int) ≤ 1 * j:=Int.mul_le_mul_of_nonneg_right hst.2 (by omega)
      omega
     have HOF:=Lib.hid (fof_any r y wr (HA.out.below HBI.out (Nat.le_refl _)))
     have HYV:=Lib.hid (show y0 + st * ((j + 1:Nat):Int) = y + st by rw [← hyv];push_cast;rw [Int.mul_add];omega)
     have HMY:=Lib.hid (fun (W:World) (hb:Below w.heap.size w W)=>HM.out (firOf r y) W hb)
     rw [hyv]
     have q0:=Blk.cell HRB.out 0 (v:=.string r.name) rfl
     have q1:=Blk.cell HRB.out 1 (v:=.int .i64 r.from_) rfl
     have q2:=Blk.cell HRB.out 2 (v:=.int .i64 r.to_) rfl
     have q3:=Blk.cell HRB.out 3 (v:=.int .i64 r.month) rfl
     have q4:=Blk.cell HRB.out 4 (v:=.int .i64 r.dk) rfl
     have q5:=Blk.cell HRB.out 5 (v:=.int .i64 r.dw) rfl
     have q6:=Blk.cell HRB.out 6 (v:=.int .i64 r.dn) rfl
     have q7:=Blk.cell HRB.out 7 (v:=.int .i64 r.sec) rfl
     have q8:=Blk.cell HRB.out 8 (v:=.int .i64 r.kind) rfl
     have q9:=Blk.cell HRB.out 9 (v:=.int .i64 r.save) rfl
     have q10:=Blk.cell HRB.out 10 (v:=.string r.letter) rfl
     unfold rulA at HOF
     cases hof:ofB r y with
     | false =>
       have hn:(ofB r (y0 + st * (j:Int)) && may (firOf r (y0 + st * (j:Int)))) = false:=by rw [hyv,hof];rfl
       have HL2:=Lib.hid (HLE.out.next hjl hn)
       have hov:ofV r y = .zero:=by unfold ofV;rw [hof];rfl
       rw [hof,hov] at HOF
       unfold firA Fir.zero at HOF
       clear hn hov hof HMY
       go_wp2_with fail
       refine HOF.out.mono ?_
       rintro e w3 ⟨rfl,hb⟩
       have hb3:Below wr.heap.size wr (w3.alloc (.cells #[.int .i64 0,.int .i64 0,.int .i64 0,.string ⟨#[]⟩] 112)):=hb.alloc hb.size _
       have HB3:=Lib.hid hb3
       clear hb hb3 q0 q1 q2 q3 q4 q5 q6 q7 q8 q9 q10
       go_wp2_with fail
       go_roundw
       case rel=>exact ⟨j + 1,rfl,by go_num,by rw [HYV.out],HL2.out,Blk.below HRB.out HB3.out hBl,Blk.below HFB.out HB3.out hfl2,Blk.below HF0.out HB3.out (by omega),HBI.out.trans (HB3.out.mono hwi)⟩
       case measure=>simp [intOf];omega
     | true =>
       have hov:ofV r y = firOf r y:=by unfold ofV;rw [hof];rfl
       rw [hof,hov] at HOF
       obtain ⟨f,hf⟩:∃ f,firOf r y = f:=⟨_,rfl⟩
       rw [hf] at HOF HMY
       unfold firA at HOF HMY
       clear hov
       cases hmy:may f with
       | false =>
         have hn:(ofB r (y0 + st * (j:Int)) && may (firOf r (y0 + st * (j:Int)))) = false:=by rw [hyv,hf,hmy,Bool.and_false]
         have HL2:=Lib.hid (HLE.out.next hjl hn)
         rw [hmy] at HMY
         clear hn hof hf hmy
         go_wp2_with fail
         refine HOF.out.mono ?_
         rintro e w3 ⟨rfl,hb⟩
         have hb3:Below wr.heap.size wr (w3.alloc (.cells #[.int .i64 f.nominal,.int .i64 f.kind,.int .i64 f.save,.string f.letter] 112)):=hb.alloc hb.size _
         have HB3:=Lib.hid hb3
         clear hb hb3 q0 q1 q2 q3 q4 q5 q6 q7 q8 q9 q10
         go_wp2_with fail
         refine (HMY.out _ (HBI.out.trans (HB3.out.mono hwi))).mono ?_
         rintro e w4 ⟨rfl,hb⟩
         have HB4:=Lib.hid (HB3.out.trans (hb.mono HB3.out.size))
         clear hb
         go_wp2_with fail
         go_roundw
         case rel=>exact ⟨j + 1,rfl,by go_num,by rw [HYV.out],HL2.out,Blk.below HRB.out HB4.out hBl,Blk.below HFB.out HB4.out hfl2,Blk.below HF0.out HB4.out (by omega),HBI.out.trans (HB4.out.mono hwi)⟩
         case measure=>simp [intOf];omega
       | true =>
         have hn:(ofB r (y0 + st * (j:Int)) && may (firOf r (y0 + st * (j:Int)))) = true:=by rw [hyv,hf,hmy,hof];rfl
         have HHT:=Lib.hid (HLE.out.hit hjl hn)
         rw [hyv,hf] at HHT
         rw [HHT.out] at HNX
         rw [hmy] at HMY
         clear hn hof hf hmy
         go_wp2_with fail
         refine HOF.out.mono ?_
         rintro e w3 ⟨rfl,hb⟩
         have hb3:Below wr.heap.size wr (w3.alloc (.cells #[.int .i64 f.nominal,.int .i64 f.kind,.int .i64 f.save,.string f.letter] 112)):=hb.alloc hb.size _
         have HB3:=Lib.hid hb3
         have HX3:=Lib.hid (Blk.new w3 112 #[.int .i64 f.nominal,.int .i64 f.kind,.int .i64 f.save,.string f.letter])
         clear hb hb3 q0 q1 q2 q3 q4 q5 q6 q7 q8 q9 q10
         go_wp2_with fail
         refine (HMY.out _ (HBI.out.trans (HB3.out.mono hwi))).mono ?_
         rintro e w4 ⟨rfl,hb⟩
         have HB4:=Lib.hid (HB3.out.trans (hb.mono HB3.out.size))
         have HX4:=Lib.hid (HX3.out.below hb HX3.out.lt)
         have HFB4:=Lib.hid (show FirB w4 (w.heap.size + 1) (firO o) from Blk.below HFB.out HB4.out hfl2)
         have HF04:=Lib.hid (show FirB w4 w.heap.size .zero from Blk.below HF0.out HB4.out (by omega))
         have HBW4:=Lib.hid (HBI.out.trans (HB4.out.mono hwi))
         clear hb
         cases o with
         | none =>
           have HN2:=Lib.hid (show pickV (l.take (k + 1)) yr st better may = some f from HNX.out)
           have hf4:=HFB4.out.lt
           have s0:=HFB4.out.cell 0 (v:=.int .i64 0) rfl
           have s1:=HFB4.out.cell 1 (v:=.int .i64 0) rfl
           have s2:=HFB4.out.cell 2 (v:=.int .i64 0) rfl
           have s3:=HFB4.out.cell 3 (v:=.string ⟨#[]⟩) rfl
           have g0:=HFB4.out.frozen 0
           have g1:=HFB4.out.frozen 1
           have g2:=HFB4.out.frozen 2
           have g3:=HFB4.out.frozen 3
           have x0:=HX4.out.cell 0 (v:=.int .i64 f.nominal) rfl
           have x1:=HX4.out.cell 1 (v:=.int .i64 f.kind) rfl
           have x2:=HX4.out.cell 2 (v:=.int .i64 f.save) rfl
           have x3:=HX4.out.cell 3 (v:=.string f.letter) rfl
           have hx:=HX4.out.lt
           go_wp2_with fail
           exact ⟨⟨k + 1,by omega,by go_num,by rw [HN2.out] <;> rfl,by rw [HN2.out];exact (((HFB4.out.set 0 _).set 1 _).set 2 _).set 3 _,(((HF04.out.other (by omega) 0 _).other (by omega) 1 _).other (by omega) 2 _).other (by omega) 3 _,below_set4 HBW4.out (by omega) _ _ _ _⟩,by simp [intOf];omega⟩
         | some x =>
           have HBX:=Lib.hid (fun W=>HBT.out f x W)
           unfold firA at HBX
           have hf4:=HFB4.out.lt
           have s0:=HFB4.out.cell 0 (v:=.int .i64 x.nominal) rfl
           have s1:=HFB4.out.cell 1 (v:=.int .i64 x.kind) rfl
           have s2:=HFB4.out.cell 2 (v:=.int .i64 x.save) rfl
           have s3:=HFB4.out.cell 3 (v:=.string x.letter) rfl
           have x0:=HX4.out.cell 0 (v:=.int .i64 f.nominal) rfl
           have x1:=HX4.out.cell 1 (v:=.int .i64 f.kind) rfl
           have x2:=HX4.out.cell 2 (v:=.int .i64 f.save) rfl
           have x3:=HX4.out.cell 3 (v:=.string f.letter) rfl
           have hx:=HX4.out.lt
           cases hbt:better f x with
           | false =>
             have HN2:=Lib.hid (show pickV (l.take (k + 1)) yr st better may = some x from HNX.out.trans (by unfold pickS;simp only;rw [hbt];rfl))
             rw [hbt] at HBX
             clear hbt
             go_wp2_with fail
             refine (HBX.out _).mono ?_
             rintro e w5 ⟨rfl,hb⟩
             have HFB5:=Lib.hid (show FirB w5 (w.heap.size + 1) x from Blk.below HFB4.out hb hf4)
             have HF05:=Lib.hid (show FirB w5 w.heap.size .zero from Blk.below HF04.out hb (by omega))
             have HBW5:=Lib.hid (HBW4.out.trans (hb.mono HBW4.out.size))
             have HX5:=Lib.hid (HX4.out.below hb HX4.out.lt)
             have hf5:=HFB5.out.lt
             clear hb s0 s1 s2 s3 x0 x1 x2 x3
             go_wp2_with fail
             exact ⟨⟨k + 1,by omega,by go_num,by rw [HN2.out] <;> rfl,by rw [HN2.out];exact HFB5.out,HF05.out,HBW5.out⟩,by simp [intOf];omega⟩
           | true =>
             have HN2:=Lib.hid (show pickV (l.take (k + 1)) yr st better may = some f from HNX.out.trans (by unfold pickS;simp only;rw [hbt];rfl))
             rw [hbt] at HBX
             clear hbt
             go_wp2_with fail
             refine (HBX.out _).mono ?_
             rintro e w5 ⟨rfl,hb⟩
             have HFB5:=Lib.hid (show FirB w5 (w.heap.size + 1) x from Blk.below HFB4.out hb hf4)
             have HF05:=Lib.hid (show FirB w5 w.heap.size .zero from Blk.below HF04.out hb (by omega))
             have HBW5:=Lib.hid (HBW4.out.trans (hb.mono HBW4.out.size))
             have HX5:=Lib.hid (HX4.out.below hb HX4.out.lt)
             have hf5:=HFB5.out.lt
             clear hb s0 s1 s2 s3 x0 x1 x2 x3
             have s0:=HFB5.out.cell 0 (v:=.int .i64 x.nominal) rfl
             have s1:=HFB5.out.cell 1 (v:=.int .i64 x.kind) rfl
             have s2:=HFB5.out.cell 2 (v:=.int .i64 x.save) rfl
             have s3:=HFB5.out.cell 3 (v:=.string x.letter) rfl
             have g0:=HFB5.out.frozen 0
             have g1:=HFB5.out.frozen 1
             have g2:=HFB5.out.frozen 2
             have g3:=HFB5.out.frozen 3
             have x0:=HX5.out.cell 0 (v:=.int .i64 f.nominal) rfl
             have x1:=HX5.out.cell 1 (v:=.int .i64 f.kind) rfl
             have x2:=HX5.out.cell 2 (v:=.int .i64 f.save) rfl
             have x3:=HX5.out.cell 3 (v:=.string f.letter) rfl
             have hx5:=HX5.out.lt
             go_wp2_with fail
             exact ⟨⟨k + 1,by omega,by go_num,by rw [HN2.out] <;> rfl,by rw [HN2.out];exact (((HFB5.out.set 0 _).set 1 _).set 2 _).set 3 _,(((HF05.out.other (by omega) 0 _).other (by omega) 1 _).other (by omega) 2 _).other (by omega) 3 _,below_set4 HBW5.out (by omega) _ _ _ _⟩,by simp [intOf];omega⟩
    ·obtain rfl:j = 12:=by omega
     have hd2:decide (((12:Nat):Int) < 12) = false:=by decide
     have HN2:=Lib.hid (show pickV (l.take (k + 1)) yr st better may = o by rw [HNX.out,HLE.out.out];rfl)
     go_wp2_with fail
     exact ⟨⟨k + 1,by omega,by go_num,by rw [HN2.out],by rw [HN2.out];exact HFB.out,HF0.out,HBI.out⟩,by simp [intOf];omega⟩
  ·obtain rfl:k = l.length:=by omega
   have hd:decide ((l.length:Int) < (l.length:Int)) = false:=decide_eq_false (by omega)
   rw [List.take_length] at ho
   have HO:=Lib.hid ho
   obtain ⟨f,hf⟩:∃ f,firO o = f:=⟨_,rfl⟩
   have HFO:=Lib.hid hf
   rw [hf] at HFB
   have q0:=HFB.out.cell 0 (v:=.int .i64 f.nominal) rfl
   have q1:=HFB.out.cell 1 (v:=.int .i64 f.kind) rfl
   have q2:=HFB.out.cell 2 (v:=.int .i64 f.save) rfl
   have q3:=HFB.out.cell 3 (v:=.string f.letter) rfl
   have hf0l:=Blk.lt HF0.out
   have p0:=HF0.out.cell 0 (v:=.int .i64 0) rfl
   have p1:=HF0.out.cell 1 (v:=.int .i64 0) rfl
   have p2:=HF0.out.cell 2 (v:=.int .i64 0) rfl
   have p3:=HF0.out.cell 3 (v:=.string ⟨#[]⟩) rfl
   have z0:=HF0.out.frozen 0
   have z1:=HF0.out.frozen 1
   have z2:=HF0.out.frozen 2
   have z3:=HF0.out.frozen 3
   clear hf ho
   go_wp2_with fail
   have HX:=Lib.hid (((HF0.out.set 0 (.int .i64 f.nominal)).set 1 (.int .i64 f.kind)).set 2 (.int .i64 f.save) |>.set 3 (.string f.letter))
   have v0:=HX.out.cell 0 (v:=.int .i64 f.nominal) rfl
   have v1:=HX.out.cell 1 (v:=.int .i64 f.kind) rfl
   have v2:=HX.out.cell 2 (v:=.int .i64 f.save) rfl
   have v3:=HX.out.cell 3 (v:=.string f.letter) rfl
   rw [Exit.noGoto_ret]
   refine bodyPost_ret (v:=resO o) ?_ rfl ⟨by rw [HO.out],below_set4 HBW.out (by omega) _ _ _ _⟩
   unfold resO
   rw [HFO.out]
   simp [results,Tryz.f101,go_sem,v0,v1,v2,v3,firA]
end
section -- PLate
open Go Go.RowKit Go.Shelf
def yrOk (l:List Rul):Prop:=∀ r ∈ l,(-4000000000000000000 ≤ r.from_∧r.from_ ≤ 4000000000000000000)∧-4000000000000000000 ≤ r.to_
theorem secYear_in (s:Int):-100001 ≤ secYear s∧secYear s ≤ 100001:=by
 unfold secYear
 split
 ·rename_i h
  unfold ofInB at h
  rw [decide_eq_true_eq] at h
  have:=dateB_in (of_date h.1 h.2).1
  omega
 ·omega
theorem fahead_any (w:World) (v:Value) (l:List Rul) (hv:Ruls w w.heap.size v l) (ha:Ahead w) (ho:yrOk l) (s:Int) (h1:-9223372036854775808 ≤ s) (h2:s ≤ 9223372036854775807) :
  Calls Tryz.prog 60 #[v,.int .i64 s] w fun e w'=>e = .returned (resO (aheadF l s))∧Below w.heap.size w w':=by
 have HY:=Lib.hid (fyear_any s h1 h2 (w.alloc (.cells #[.int .i64 s] 3) |>.alloc (.cells (firV .zero).toArray 112)) ((ha.below ((Below.refl w.heap.size w).alloc (Nat.le_refl _) _) (Nat.le_refl _)).below ((Below.refl (w.alloc (.cells #[.int .i64 s] 3)).heap.size (w.alloc (.cells #[.int .i64 s] 3))).alloc (Nat.le_refl _) _) (Nat.le_refl _)))
 have hb0:Below w.heap.size w ((w.alloc (.cells #[.int .i64 s] 3)).alloc (.cells (firV .zero).toArray 112)):=((Below.refl w.heap.size w).alloc (Nat.le_refl _) _).alloc (by simp) _
 have hs0:=(Blk.new w 3 #[.int .i64 s]).alloc (.cells (firV .zero).toArray 112)
 have hr0:=Blk.new (w.alloc (.cells #[.int .i64 s] 3)) 112 (firV .zero).toArray
 rw [World.size_alloc] at hr0
 have HV:=Lib.hid hv
 have HA:=Lib.hid ha
 have HO:=Lib.hid ho
 have hyi:=secYear_in s
 obtain ⟨Y,hY⟩:∃ Y,secYear s = Y:=⟨_,rfl⟩
 have HF:=Lib.hid (show aheadF l s = pickV l (fun r=>min r.to_ (Y + 1)) (-1) geB (underB s) by unfold aheadF;rw [hY])
 rw [hY] at HY hyi
 clear hY hv ha ho
 unfold firV Fir.zero at HY hb0 hs0 hr0
 go_enter Tryz.func60,Tryz.ntmps60
 go_wp2_with fail
 refine HY.out.mono ?_
 rintro e w1 ⟨rfl,hb⟩
 have hs1:=hs0.below hb hs0.lt
 have hr1:=hr0.below hb hr0.lt
 have hb1:=hb0.trans (hb.mono hb0.size)
 have hz1:=hb1.size
 have HS2:=Lib.hid (hs1.alloc (.cells #[.int .i64 (Y + 1)] 3))
 have HR2:=Lib.hid (hr1.alloc (.cells #[.int .i64 (Y + 1)] 3))
 have HL2:=Lib.hid (Blk.new w1 3 #[.int .i64 (Y + 1)])
 have HB2:=Lib.hid (hb1.alloc hz1 (.cells #[.int .i64 (Y + 1)] 3))
 have hrl:=hr1.lt
 have hll:=HL2.out.lt
 have hsl:=HS2.out.lt
 clear hb hb0 hs0 hr0 hs1 hr1 hb1 HY
 go_wp2_with fail
 have HBE:=Lib.hid (best_Ahead _ w.heap.size v l (HV.out.below HB2.out |>.more (Nat.le_refl _)) HB2.out.size (HA.out.below HB2.out (Nat.le_refl _)) w1.heap.size w.heap.size (fun r=>min r.to_ (Y + 1)) (-1) geB (underB s) (by omega) (fun r hr=>by have:=HO.out r hr;omega)
  (fun r hr W hb=>ahead1_any W r w1.heap.size (Y + 1) ((HL2.out.below hb hll).cell 0 rfl)) (fun a b W=>ahead2_any W a b) (fun f W hb=>ahead3_any W f w.heap.size s ((HS2.out.below hb hsl).cell 0 rfl)))
 rw [← HF.out] at HBE
 refine HBE.out.mono ?_
 rintro e w2 ⟨rfl,hb⟩
 have HR3:=Lib.hid (HR2.out.below hb HR2.out.lt)
 have HB3:=Lib.hid (HB2.out.trans (hb.mono HB2.out.size))
 clear hb HR2 HB2 HBE
 obtain ⟨o,hoo⟩:∃ o,aheadF l s = o:=⟨_,rfl⟩
 rw [hoo]
 have HOO:=Lib.hid hoo
 clear hoo
 obtain ⟨f,hf⟩:∃ f,firO o = f:=⟨_,rfl⟩
 have HFO:=Lib.hid (show resO o = .tuple #[firA f,.bool o.isSome] by unfold resO;rw [hf])
 unfold resO
 rw [hf]
 unfold firA
 have hr3:=HR3.out.lt
 have p0:=HR3.out.cell 0 (v:=.int .i64 0) rfl
 have p1:=HR3.out.cell 1 (v:=.int .i64 0) rfl
 have p2:=HR3.out.cell 2 (v:=.int .i64 0) rfl
 have p3:=HR3.out.cell 3 (v:=.string ⟨#[]⟩) rfl
 have z0:=HR3.out.frozen 0
 have z1:=HR3.out.frozen 1
 have z2:=HR3.out.frozen 2
 have z3:=HR3.out.frozen 3
 clear hf
 go_wp2_with fail
 have HX:=Lib.hid (((HR3.out.set 0 (.int .i64 f.nominal)).set 1 (.int .i64 f.kind)).set 2 (.int .i64 f.save) |>.set 3 (.string f.letter))
 have v0:=HX.out.cell 0 (v:=.int .i64 f.nominal) rfl
 have v1:=HX.out.cell 1 (v:=.int .i64 f.kind) rfl
 have v2:=HX.out.cell 2 (v:=.int .i64 f.save) rfl
 have v3:=HX.out.cell 3 (v:=.string f.letter) rfl
 refine bodyPost_ret (v:=resO o) ?_ rfl ⟨by rw [HOO.out],below_set4 HB3.out (by omega) _ _ _ _⟩
 rw [HFO.out]
 simp [results,Tryz.f60,go_sem,v0,v1,v2,v3,firA]
theorem fbehind_any (w:World) (v:Value) (l:List Rul) (hv:Ruls w w.heap.size v l) (ha:Ahead w) (ho:yrOk l) (s:Int) (h1:-9223372036854775808 ≤ s) (h2:s ≤ 9223372036854775807) :
  Calls Tryz.prog 117 #[v,.int .i64 s] w fun e w'=>e = .returned (resO (behindF l s))∧Below w.heap.size w w':=by
 have HY:=Lib.hid (fyear_any s h1 h2 (w.alloc (.cells #[.int .i64 s] 3) |>.alloc (.cells (firV .zero).toArray 112)) ((ha.below ((Below.refl w.heap.size w).alloc (Nat.le_refl _) _) (Nat.le_refl _)).below ((Below.refl (w.alloc (.cells #[.int .i64 s] 3)).heap.size (w.alloc (.cells #[.int .i64 s] 3))).alloc (Nat.le_refl _) _) (Nat.le_refl _)))
 have hb0:Below w.heap.size w ((w.alloc (.cells #[.int .i64 s] 3)).alloc (.cells (firV .zero).toArray 112)):=((Below.refl w.heap.size w).alloc (Nat.le_refl _) _).alloc (by simp) _
 have hs0:=(Blk.new w 3 #[.int .i64 s]).alloc (.cells (firV .zero).toArray 112)
 have hr0:=Blk.new (w.alloc (.cells #[.int .i64 s] 3)) 112 (firV .zero).toArray
 rw [World.size_alloc] at hr0
 have HV:=Lib.hid hv
 have HA:=Lib.hid ha
 have HO:=Lib.hid ho
 have hyi:=secYear_in s
 obtain ⟨Y,hY⟩:∃ Y,secYear s = Y:=⟨_,rfl⟩
 have HF:=Lib.hid (show behindF l s = pickV l (fun r=>max r.from_ (Y - 1)) (1) ltB (atB s) by unfold behindF;rw [hY])
 rw [hY] at HY hyi
 clear hY hv ha ho
 unfold firV Fir.zero at HY hb0 hs0 hr0
 go_enter Tryz.func117,Tryz.ntmps117
 go_wp2_with fail
 refine HY.out.mono ?_
 rintro e w1 ⟨rfl,hb⟩
 have hs1:=hs0.below hb hs0.lt
 have hr1:=hr0.below hb hr0.lt
 have hb1:=hb0.trans (hb.mono hb0.size)
 have hz1:=hb1.size
 have HS2:=Lib.hid (hs1.alloc (.cells #[.int .i64 (Y - 1)] 3))
 have HR2:=Lib.hid (hr1.alloc (.cells #[.int .i64 (Y - 1)] 3))
 have HL2:=Lib.hid (Blk.new w1 3 #[.int .i64 (Y - 1)])
 have HB2:=Lib.hid (hb1.alloc hz1 (.cells #[.int .i64 (Y - 1)] 3))
 have hrl:=hr1.lt
 have hll:=HL2.out.lt
 have hsl:=HS2.out.lt
 clear hb hb0 hs0 hr0 hs1 hr1 hb1 HY
 go_wp2_with fail
 have HBE:=Lib.hid (best_Behind _ w.heap.size v l (HV.out.below HB2.out |>.more (Nat.le_refl _)) HB2.out.size (HA.out.below HB2.out (Nat.le_refl _)) w1.heap.size w.heap.size (fun r=>max r.from_ (Y - 1)) (1) ltB (atB s) (by omega) (fun r hr=>by have:=HO.out r hr;omega)
  (fun r hr W hb=>behind1_any W r w1.heap.size (Y - 1) ((HL2.out.below hb hll).cell 0 rfl)) (fun a b W=>behind2_any W a b) (fun f W hb=>behind3_any W f w.heap.size s ((HS2.out.below hb hsl).cell 0 rfl)))
 rw [← HF.out] at HBE
 refine HBE.out.mono ?_
 rintro e w2 ⟨rfl,hb⟩
 have HR3:=Lib.hid (HR2.out.below hb HR2.out.lt)
 have HB3:=Lib.hid (HB2.out.trans (hb.mono HB2.out.size))
 clear hb HR2 HB2 HBE
 obtain ⟨o,hoo⟩:∃ o,behindF l s = o:=⟨_,rfl⟩
 rw [hoo]
 have HOO:=Lib.hid hoo
 clear hoo
 obtain ⟨f,hf⟩:∃ f,firO o = f:=⟨_,rfl⟩
 have HFO:=Lib.hid (show resO o = .tuple #[firA f,.bool o.isSome] by unfold resO;rw [hf])
 unfold resO
 rw [hf]
 unfold firA
 have hr3:=HR3.out.lt
 have p0:=HR3.out.cell 0 (v:=.int .i64 0) rfl
 have p1:=HR3.out.cell 1 (v:=.int .i64 0) rfl
 have p2:=HR3.out.cell 2 (v:=.int .i64 0) rfl
 have p3:=HR3.out.cell 3 (v:=.string ⟨#[]⟩) rfl
 have z0:=HR3.out.frozen 0
 have z1:=HR3.out.frozen 1
 have z2:=HR3.out.frozen 2
 have z3:=HR3.out.frozen 3
 clear hf
 go_wp2_with fail
 have HX:=Lib.hid (((HR3.out.set 0 (.int .i64 f.nominal)).set 1 (.int .i64 f.kind)).set 2 (.int .i64 f.save) |>.set 3 (.string f.letter))
 have v0:=HX.out.cell 0 (v:=.int .i64 f.nominal) rfl
 have v1:=HX.out.cell 1 (v:=.int .i64 f.kind) rfl
 have v2:=HX.out.cell 2 (v:=.int .i64 f.save) rfl
 have v3:=HX.out.cell 3 (v:=.string f.letter) rfl
 refine bodyPost_ret (v:=resO o) ?_ rfl ⟨by rw [HOO.out],below_set4 HB3.out (by omega) _ _ _ _⟩
 rw [HFO.out]
 simp [results,Tryz.f117,go_sem,v0,v1,v2,v3,firA]
end
section -- PLatest
open Go Go.RowKit Go.Shelf
theorem saveO_firO (o:Option Fir):saveO o = (firO o).save:=by cases o <;> rfl
theorem savedF_in {l:List Rul} (hs:svOk l) (f:Fir):-1000000000000000 ≤ savedF l f∧savedF l f ≤ 1000000000000000:=by
 unfold savedF
 cases h:aheadF l f.nominal with
 | none=>exact ⟨by decide,by decide⟩
 | some x=>exact hs x (ahead_mem h).1
theorem saved_any (w:World) (v:Value) (l:List Rul) (hv:Ruls w w.heap.size v l) (ha:Ahead w) (ho:yrOk l) (f:Fir) (hf:-4000000000000 ≤ f.nominal∧f.nominal ≤ 4000000000000) :
  Calls Tryz.prog 93 #[v,firA f] w fun e w'=>e = .returned (.int .i64 (savedF l f))∧Below w.heap.size w w':=by
 have hb0:Below w.heap.size w (w.alloc (.cells (firV f).toArray 112)):=(Below.refl w.heap.size w).alloc (Nat.le_refl _) _
 have hx0:=Blk.new w 112 (firV f).toArray
 have HA:=Lib.hid (fahead_any (w.alloc (.cells (firV f).toArray 112)) v l ((hv.below hb0).more hb0.size) (ha.below hb0 (Nat.le_refl _)) ho f.nominal (by omega) (by omega))
 have HV:=Lib.hid (show savedF l f = (firO (aheadF l f.nominal)).save by unfold savedF;exact saveO_firO _)
 obtain ⟨o,hoo⟩:∃ o,aheadF l f.nominal = o:=⟨_,rfl⟩
 rw [hoo] at HA HV
 clear hv ha ho hoo
 unfold resO at HA
 obtain ⟨g,hg⟩:∃ g,firO o = g:=⟨_,rfl⟩
 rw [hg] at HA HV
 unfold firA at HA ⊢
 unfold firV at hb0 hx0 HA
 clear hg
 go_enter Tryz.func93,Tryz.ntmps93
 go_wp2_with fail
 refine HA.out.mono ?_
 rintro e w1 ⟨rfl,hb⟩
 have hb1:=hb0.trans (hb.mono hb0.size)
 have HB:=Lib.hid (hb1.alloc hb1.size (.cells #[.int .i64 g.nominal,.int .i64 g.kind,.int .i64 g.save,.string g.letter] 112))
 clear hb hb0 hb1 hx0 HA
 go_wp2_with fail
 go_ret
 exact ⟨by rw [HV.out];rfl,HB.out⟩
theorem latest_any (w:World) (v:Value) (l:List Rul) (hv:Ruls w w.heap.size v l) (ha:Ahead w) (ho:yrOk l) (hsv:svOk l) (off i:Int) (ho1:-1000000000000000 ≤ off∧off ≤ 1000000000000000) (hi1:-4500000000000 ≤ i) (hi2:i ≤ 9000000000000000000) :
  Calls Tryz.prog 58 #[v,.int .i64 off,.int .i64 i] w fun e w'=>e = .returned (resO (latestF l off i))∧Below w.heap.size w w':=by
 have hb0:Below w.heap.size w (w.alloc (.cells (firV .zero).toArray 112)):=(Below.refl w.heap.size w).alloc (Nat.le_refl _) _
 have hr0:=Blk.new w 112 (firV .zero).toArray
 have HV:=Lib.hid hv
 have HA:=Lib.hid (fun (s:Int) (h1:-9223372036854775808 ≤ s) (h2:s ≤ 9223372036854775807) (W:World) (hb:Below w.heap.size w W)=>fahead_any W v l ((hv.below hb).more hb.size) (ha.below hb (Nat.le_refl _)) ho s h1 h2)
 have HS:=Lib.hid (fun (f:Fir) (hf:Fires l f) (W:World) (hb:Below w.heap.size w W)=>saved_any W v l ((hv.below hb).more hb.size) (ha.below hb (Nat.le_refl _)) ho f (fires_nom hf))
 have HSV:=Lib.hid hsv
 have HF:=Lib.hid (show latestF l off i = backF l off i ((i + 180001) + farN).toNat (aheadF l (i + 180001)) from rfl)
 have HT:=Lib.hid (fun f (h:aheadF l (i + 180001) = some f)=>ahead_mem h)
 obtain ⟨o,hoo⟩:∃ o,aheadF l (i + 180001) = o:=⟨_,rfl⟩
 have h0:=HA.out (i + 180001) (by omega) (by omega) _ hb0
 have e1:i + 180000 + 1 = i + 180001:=by omega
 rw [hoo] at h0 HF HT
 have H0:=Lib.hid h0
 clear hv ha ho hsv h0 hoo
 unfold resO at H0
 obtain ⟨g,hg⟩:∃ g,firO o = g:=⟨_,rfl⟩
 rw [hg] at H0
 unfold firA at H0
 have HG:=Lib.hid hg
 clear hg
 unfold firV Fir.zero at hb0 hr0 H0
 go_enter Tryz.func58,Tryz.ntmps58
 go_wp2_with fail
 refine H0.out.mono ?_
 rintro e w1 ⟨rfl,hb⟩
 have hb1:=hb0.trans (hb.mono hb0.size)
 have HR1:=Lib.hid ((hr0.below hb hr0.lt).alloc (.cells #[.int .i64 g.nominal,.int .i64 g.kind,.int .i64 g.save,.string g.letter] 112))
 have HX1:=Lib.hid (show FirB (w1.alloc (.cells #[.int .i64 g.nominal,.int .i64 g.kind,.int .i64 g.save,.string g.letter] 112)) w1.heap.size (firO o) by rw [HG.out];exact Blk.new w1 _ _)
 have hs1:=hb1.size
 have HB1:=Lib.hid (hb1.alloc hs1 (.cells #[.int .i64 g.nominal,.int .i64 g.kind,.int .i64 g.save,.string g.letter] 112))
 have hr1:=(hr0.below hb hr0.lt).lt
 obtain ⟨BX,hBX⟩:∃ n,w1.heap.size = n:=⟨_,rfl⟩
 clear hb hb0 hb1 hr0 H0
 go_wp2_with fail
 rw [hBX] at HX1 hr1 hs1
 try simp only [hBX]
 clear hBX
 go_loopw [9] (fun fv wr=>∃ o N,fv = .bool (Option.isSome o)∧FirB wr BX (firO o)∧FirB wr w.heap.size .zero∧backF l off i N o = latestF l off i∧(∀ f,o = some f→Fires l f∧f.nominal + farN < (N:Int))∧Below w.heap.size w wr) (fun fv W=>match fv with | .bool true=>(intOf ((W.cell? ⟨BX,0,none⟩).getD undef) + farN + 1).toNat | _=>0)
 case atStart=>exact ⟨o,((i + 180001) + farN).toNat,rfl,HX1.out,HR1.out,HF.out.symm,fun f hf=>⟨(HT.out f hf).1,by have:=(HT.out f hf).2;unfold farN;omega⟩,HB1.out⟩
 case round =>
  clear HX1 HR1 HB1 HF HT HG
  obtain ⟨o,N,rfl,hx,hr,hbk,hfr,hbw⟩:=hrel
  have HR:=Lib.hid hr
  have HBK:=Lib.hid hbk
  have HFR:=Lib.hid hfr
  have HBW:=Lib.hid hbw
  have HX:=Lib.hid hx
  have hxl:=Blk.lt hx
  have hrl:=Blk.lt hr
  have hws:=hbw.size
  clear hr hbk hfr hbw
  rcases o with _ | f
  ·have HZ:=Lib.hid (show latestF l off i = none by
    rw [← HBK.out]
    cases N <;> rfl)
   clear hx
   go_wp2_with fail
   refine wp_env (fin:=?fnn) (by kernel_rfl) [18,19,20,21,22,23,24,25,26,27,28]
    [.bool false,.bool false,undef,undef,undef,undef,undef,undef,undef,undef,.bool false] (by kernel_rfl) ?finn ?stepsn ?nextn
   case finn =>
    simp only [putAll,Act.put,List.setIfInBounds_toArray,List.set_cons_succ,List.set_cons_zero]
    rfl
   case stepsn =>
    refine ⟨?_,?_,?_,?_,?_,?_,?_,?_,?_,?_,?_,trivial⟩
    all_goals first | exact .inl ⟨by kernel_rfl,rfl⟩ | refine .inr ⟨by kernel_rfl,fun w1_ hB_=>?_⟩
    all_goals
     skip
     go_simp
     first
      | exact ⟨rfl,Below.refl _ _⟩
      | ((first | rw [decide_eq_true (by omega)] | rw [decide_eq_false (by omega)] | rw [if_pos (by omega)] | rw [IntWalk.i64_in _ (by omega)]);exact ⟨rfl,Below.refl _ _⟩)
      | done
   case nextn =>
   intro w2 hb2
   have hx2:FirB w2 BX (firO none):=HX.out.below hb2 hxl
   have hr2:=HR.out.below hb2 hrl
   have HB2:=Lib.hid (HBW.out.trans (hb2.mono hws))
   have hx2l:=Blk.lt hx2
   have hr2l:=Blk.lt hr2
   obtain ⟨q,hq⟩:∃ q,firO none = q:=⟨_,rfl⟩
   have HFO:=Lib.hid (show resO none = .tuple #[firA q,.bool (Option.isSome none)] by unfold resO;rw [hq])
   rw [hq] at hx2
   have q0:=Blk.cell hx2 0 (v:=.int .i64 q.nominal) rfl
   have q1:=Blk.cell hx2 1 (v:=.int .i64 q.kind) rfl
   have q2:=Blk.cell hx2 2 (v:=.int .i64 q.save) rfl
   have q3:=Blk.cell hx2 3 (v:=.string q.letter) rfl
   have p0:=Blk.cell hr2 0 (v:=.int .i64 0) rfl
   have p1:=Blk.cell hr2 1 (v:=.int .i64 0) rfl
   have p2:=Blk.cell hr2 2 (v:=.int .i64 0) rfl
   have p3:=Blk.cell hr2 3 (v:=.string ⟨#[]⟩) rfl
   have z0:=Blk.frozen hr2 0
   have z1:=Blk.frozen hr2 1
   have z2:=Blk.frozen hr2 2
   have z3:=Blk.frozen hr2 3
   have HY:=Lib.hid ((((Blk.set hr2 0 (.int .i64 q.nominal)).set 1 (.int .i64 q.kind)).set 2 (.int .i64 q.save)).set 3 (.string q.letter))
   clear hx2 hr2 hb2 hq
   go_wp2_with fail
   have v0:=HY.out.cell 0 (v:=.int .i64 q.nominal) rfl
   have v1:=HY.out.cell 1 (v:=.int .i64 q.kind) rfl
   have v2:=HY.out.cell 2 (v:=.int .i64 q.save) rfl
   have v3:=HY.out.cell 3 (v:=.string q.letter) rfl
   refine bodyPost_ret (v:=resO none) ?_ rfl ⟨by rw [HZ.out],below_set4 HB2.out (by omega) _ _ _ _⟩
   rw [HFO.out]
   simp [results,Tryz.f58,go_sem,v0,v1,v2,v3,firA]
  ·obtain ⟨hff,hfn⟩:=HFR.out f rfl
   have hnom:=fires_nom hff
   obtain ⟨M,rfl⟩:∃ M,N = M + 1:=⟨N - 1,by unfold farN at hfn;omega⟩
   have HSF:=Lib.hid (HS.out f hff)
   have hsi:=savedF_in HSV.out f
   have HI:=Lib.hid (fun (W:World)=>inst_any W f off (savedF l f) (by omega) ho1 hsi)
   have HBK2:=Lib.hid (show (if i < instF f off (savedF l f) then backF l off i M (aheadF l f.nominal) else some f) = latestF l off i from HBK.out)
   generalize savedF l f = sv at *
   generalize instF f off sv = ins at *
   rw [show firO (some f) = f from rfl] at hx HX
   have HCELL:=Lib.hid (fun (W:World) (h:Below wr.heap.size wr W)=>show W.cell? ⟨BX,0,none⟩ = some (.int .i64 f.nominal)∧W.cell? ⟨BX,1,none⟩ = some (.int .i64 f.kind)∧W.cell? ⟨BX,2,none⟩ = some (.int .i64 f.save)∧W.cell? ⟨BX,3,none⟩ = some (.string f.letter) from ⟨(Blk.below HX.out h hxl).cell 0 rfl,(Blk.below HX.out h hxl).cell 1 rfl,(Blk.below HX.out h hxl).cell 2 rfl,(Blk.below HX.out h hxl).cell 3 rfl⟩)
   have HSC:=Lib.hid (fun (W:World) (h:Below wr.heap.size wr W)=>HSF.out W (HBW.out.trans (h.mono hws)))
   unfold firA at HSC HI
   clear hx HSF
   by_cases hlt:i < ins
   ·have hd:decide (i < ins) = true:=decide_eq_true hlt
    rw [if_pos hlt] at HBK2
    go_wp2_with fail
    refine wp_env (fin:=?fnt) (by kernel_rfl) [18,19,20,21,22,23,24,25,26,27,28]
     [.bool true,.bool true,.agg #[.int .i64 f.nominal,.int .i64 f.kind,.int .i64 f.save,.string f.letter],.int .i64 off,v,.agg #[.int .i64 f.nominal,.int .i64 f.kind,.int .i64 f.save,.string f.letter],.int .i64 sv,.int .i64 ins,.int .i64 i,.bool true,.bool true] (by kernel_rfl) ?fint ?stepst ?nextt
    case fint =>
     simp only [putAll,Act.put,List.setIfInBounds_toArray,List.set_cons_succ,List.set_cons_zero]
     rfl
    case stepst =>
     refine ⟨?_,?_,?_,?_,?_,?_,?_,?_,?_,?_,?_,trivial⟩
     all_goals refine .inr ⟨by kernel_rfl,fun w1_ hB_=>?_⟩
     all_goals
      obtain ⟨d0,d1,d2,d3⟩:=HCELL.out w1_ hB_
      go_simp
      first
       | exact ⟨rfl,Below.refl _ _⟩
       | exact ⟨rfl,HSC.out w1_ hB_⟩
       | exact ⟨rfl,HI.out w1_⟩
       | ((first | rw [decide_eq_true (by omega)] | rw [decide_eq_false (by omega)] | rw [if_pos (by omega)] | rw [IntWalk.i64_in _ (by omega)]);exact ⟨rfl,Below.refl _ _⟩)
       | done
    case nextt =>
    intro w2 hb2
    have hb3:=HBW.out.trans (hb2.mono hws)
    have HX2:=Lib.hid (HX.out.below hb2 hxl)
    have HR2:=Lib.hid (HR.out.below hb2 hrl)
    have hx2l:=HX2.out.lt
    have x0:=HX2.out.cell 0 (v:=.int .i64 f.nominal) rfl
    have HA2:=Lib.hid (HA.out f.nominal (by omega) (by omega) w2 hb3)
    have HAM:=Lib.hid (fun g (h:aheadF l f.nominal = some g)=>ahead_mem h)
    have HB2:=Lib.hid hb3
    have hs2:=hb3.size
    obtain ⟨o2,ho2⟩:∃ o2,aheadF l f.nominal = o2:=⟨_,rfl⟩
    rw [ho2] at HA2 HBK2 HAM
    unfold resO at HA2
    obtain ⟨q,hq⟩:∃ q,firO o2 = q:=⟨_,rfl⟩
    have HQ:=Lib.hid hq
    rw [hq] at HA2
    unfold firA at HA2
    clear hb2 hb3 ho2 hq
    go_wp2_with fail
    refine HA2.out.mono ?_
    rintro e w3 ⟨rfl,hb⟩
    have HX3:=Lib.hid (HX2.out.below hb hx2l)
    have HR3:=Lib.hid (HR2.out.below hb HR2.out.lt)
    have HB3:=Lib.hid (HB2.out.trans (hb.mono hs2))
    have hx3l:=HX3.out.lt
    have q0:=HX3.out.cell 0 (v:=.int .i64 f.nominal) rfl
    have q1:=HX3.out.cell 1 (v:=.int .i64 f.kind) rfl
    have q2:=HX3.out.cell 2 (v:=.int .i64 f.save) rfl
    have q3:=HX3.out.cell 3 (v:=.string f.letter) rfl
    have z0:=HX3.out.frozen 0
    have z1:=HX3.out.frozen 1
    have z2:=HX3.out.frozen 2
    have z3:=HX3.out.frozen 3
    clear hb x0
    go_wp2_with fail
    have hy:=(((HX3.out.set 0 (.int .i64 q.nominal)).set 1 (.int .i64 q.kind)).set 2 (.int .i64 q.save)).set 3 (.string q.letter)
    go_roundw
    case rel =>
     refine ⟨o2,M,rfl,by rw [HQ.out];exact hy,(((HR3.out.other (by omega) 0 _).other (by omega) 1 _).other (by omega) 2 _).other (by omega) 3 _,HBK2.out,fun g hg=>⟨(HAM.out g hg).1,by have:=(HAM.out g hg).2;unfold farN at hfn ⊢;omega⟩,below_set4 HB3.out (by omega) _ _ _ _⟩
    case measure =>
     rw [HX.out.cell 0 (v:=.int .i64 f.nominal) rfl]
     rcases o2 with _ | g
     ·show 0 < (f.nominal + farN + 1).toNat
      unfold farN;omega
     ·obtain rfl:g = q:=HQ.out
      have:=(HAM.out g rfl).2
      show (intOf ((World.cell? _ _).getD undef) + farN + 1).toNat < (f.nominal + farN + 1).toNat
      rw [hy.cell 0 (v:=.int .i64 g.nominal) rfl]
      show (g.nominal + farN + 1).toNat < _
      unfold farN;omega
   ·have hd:decide (i < ins) = false:=decide_eq_false hlt
    rw [if_neg hlt] at HBK2
    go_wp2_with fail
    refine wp_env (fin:=?fnf) (by kernel_rfl) [18,19,20,21,22,23,24,25,26,27,28]
     [.bool true,.bool true,.agg #[.int .i64 f.nominal,.int .i64 f.kind,.int .i64 f.save,.string f.letter],.int .i64 off,v,.agg #[.int .i64 f.nominal,.int .i64 f.kind,.int .i64 f.save,.string f.letter],.int .i64 sv,.int .i64 ins,.int .i64 i,.bool false,.bool false] (by kernel_rfl) ?finf ?stepsf ?nextf
    case finf =>
     simp only [putAll,Act.put,List.setIfInBounds_toArray,List.set_cons_succ,List.set_cons_zero]
     rfl
    case stepsf =>
     refine ⟨?_,?_,?_,?_,?_,?_,?_,?_,?_,?_,?_,trivial⟩
     all_goals refine .inr ⟨by kernel_rfl,fun w1_ hB_=>?_⟩
     all_goals
      obtain ⟨d0,d1,d2,d3⟩:=HCELL.out w1_ hB_
      go_simp
      first
       | exact ⟨rfl,Below.refl _ _⟩
       | exact ⟨rfl,HSC.out w1_ hB_⟩
       | exact ⟨rfl,HI.out w1_⟩
       | ((first | rw [decide_eq_true (by omega)] | rw [decide_eq_false (by omega)] | rw [if_pos (by omega)] | rw [IntWalk.i64_in _ (by omega)]);exact ⟨rfl,Below.refl _ _⟩)
       | done
    case nextf =>
    intro w2 hb2
    have hx2:FirB w2 BX (firO (some f)):=HX.out.below hb2 hxl
    have hr2:=HR.out.below hb2 hrl
    have HB2:=Lib.hid (HBW.out.trans (hb2.mono hws))
    have hx2l:=Blk.lt hx2
    have hr2l:=Blk.lt hr2
    obtain ⟨q,hq⟩:∃ q,firO (some f) = q:=⟨_,rfl⟩
    have HFO:=Lib.hid (show resO (some f) = .tuple #[firA q,.bool (Option.isSome (some f))] by unfold resO;rw [hq])
    rw [hq] at hx2
    have q0:=Blk.cell hx2 0 (v:=.int .i64 q.nominal) rfl
    have q1:=Blk.cell hx2 1 (v:=.int .i64 q.kind) rfl
    have q2:=Blk.cell hx2 2 (v:=.int .i64 q.save) rfl
    have q3:=Blk.cell hx2 3 (v:=.string q.letter) rfl
    have p0:=Blk.cell hr2 0 (v:=.int .i64 0) rfl
    have p1:=Blk.cell hr2 1 (v:=.int .i64 0) rfl
    have p2:=Blk.cell hr2 2 (v:=.int .i64 0) rfl
    have p3:=Blk.cell hr2 3 (v:=.string ⟨#[]⟩) rfl
    have z0:=Blk.frozen hr2 0
    have z1:=Blk.frozen hr2 1
    have z2:=Blk.frozen hr2 2
    have z3:=Blk.frozen hr2 3
    have HY:=Lib.hid ((((Blk.set hr2 0 (.int .i64 q.nominal)).set 1 (.int .i64 q.kind)).set 2 (.int .i64 q.save)).set 3 (.string q.letter))
    clear hx2 hr2 hb2 hq
    go_wp2_with fail
    have v0:=HY.out.cell 0 (v:=.int .i64 q.nominal) rfl
    have v1:=HY.out.cell 1 (v:=.int .i64 q.kind) rfl
    have v2:=HY.out.cell 2 (v:=.int .i64 q.save) rfl
    have v3:=HY.out.cell 3 (v:=.string q.letter) rfl
    refine bodyPost_ret (v:=resO (some f)) ?_ rfl ⟨by rw [HBK2.out],below_set4 HB2.out (by omega) _ _ _ _⟩
    rw [HFO.out]
    simp [results,Tryz.f58,go_sem,v0,v1,v2,v3,firA]
end
section -- RefB
open Go Go.RowKit Go.Shelf
structure FrI where
 f:Fir
 i:Int
def friV (x:FrI):List Value:=[.int .i64 x.f.nominal,.int .i64 x.f.kind,.int .i64 x.f.save,.int .i64 x.i,.string x.f.letter]
def friA (x:FrI):Value:=.agg #[.int .i64 x.f.nominal,.int .i64 x.f.kind,.int .i64 x.f.save,.int .i64 x.i,.string x.f.letter]
def frisV (l:List FrI):List Value:=l.flatMap friV
theorem length_frisV (l:List FrI):(frisV l).length = l.length * 5:=by
 induction l with
 | nil=>rfl
 | cons c l ih=>simp only [frisV,List.flatMap_cons,List.length_append,List.length_cons,friV,List.length_nil] at ih ⊢;omega
theorem frisV_append (l m:List FrI):frisV (l ++ m) = frisV l ++ frisV m:=by simp [frisV]
theorem frisV_at (l:List FrI) (i:Nat) (h:i < l.length) (k:Nat) (hk:k < 5):(frisV l)[i * 5 + k]? = (friV l[i])[k]?:=by
 induction l generalizing i with
 | nil=>exact absurd h (by simp)
 | cons c l ih =>
   rcases i with _ | i
   ·rw [Nat.zero_mul,Nat.zero_add]
    show (friV c ++ frisV l)[k]? = _
    rw [List.getElem?_append_left (by simp [friV];omega)]
    rfl
   ·have:=ih i (by simpa using h)
    show (friV c ++ frisV l)[(i + 1) * 5 + k]? = _
    rw [List.getElem?_append_right (by simp [friV];omega),show (i + 1) * 5 + k - (friV c).length = i * 5 + k by simp [friV];omega,this]
    rfl
theorem frisV_one (l:List FrI):∀ u ∈ frisV l,u.oneCell' = true:=by
 intro u hu
 unfold frisV at hu
 obtain ⟨c,-,hc⟩:=List.mem_flatMap.1 hu
 simp [friV] at hc
 rcases hc with rfl | rfl | rfl | rfl | rfl <;> rfl
def Fris (w:World) (B:Nat) (v:Value) (l:List FrI):Prop:=Sl w B 5 v l.length (frisV l)
section
variable {w w':World} {B B':Nat} {v:Value} {l:List FrI}
theorem Fris.form (h:Fris w B v l):∃ A c,v = .slice A l.length c∧l.length ≤ c∧c ≤ maxLen:=by
 obtain ⟨A,c,rfl,h1,h2,-⟩:=h
 exact ⟨A,c,rfl,h1,h2⟩
theorem Fris.below (h:Fris w B v l) (hb:Below B w w'):Fris w' B v l:=Sl.below h hb
theorem Fris.cells (h:Fris w B v l) (hl:0 < l.length):∃ b o c,v = .slice (some ⟨b,o,none⟩) l.length c∧b < B∧∀ i (hi:i < l.length),w.cell? ⟨b,o + i * 5,none⟩ = some (.int .i64 (l[i]).f.nominal)∧w.cell? ⟨b,o + i * 5 + 1,none⟩ = some (.int .i64 (l[i]).f.kind)∧w.cell? ⟨b,o + i * 5 + 2,none⟩ = some (.int .i64 (l[i]).f.save)∧w.cell? ⟨b,o + i * 5 + 3,none⟩ = some (.int .i64 (l[i]).i)∧w.cell? ⟨b,o + i * 5 + 4,none⟩ = some (.string (l[i]).f.letter):=by
 obtain ⟨b,o,c,e,hb,hc⟩:=Sl.at_ h hl
 refine ⟨b,o,c,e,hb,fun i hi=>?_⟩
 have hk:∀ k u,k < 5→(friV l[i])[k]? = some u→w.cell? ⟨b,o + i * 5 + k,none⟩ = some u:=fun k u hk hu=>by
  rw [Nat.add_assoc]
  exact hc _ u (by rw [frisV_at l i hi k hk];exact hu)
 exact ⟨hk 0 _ (by omega) rfl,hk 1 _ (by omega) rfl,hk 2 _ (by omega) rfl,hk 3 _ (by omega) rfl,hk 4 _ (by omega) rfl⟩
theorem Fris.front {A:Option Addr} {c n:Nat} (h:Fris w B (.slice A l.length c) l) (hn:n ≤ l.length):Fris w B (.slice A n c) (l.take n):=by
 obtain ⟨A',c',e,h1,h2,h3,h4⟩:=h
 injection e with e1 e2 e3
 subst e1 e3
 have hl:(l.take n).length = n:=by rw [List.length_take];omega
 unfold Fris
 rw [hl]
 refine ⟨_,_,rfl,by omega,h2,by rw [length_frisV,hl],fun hp=>?_⟩
 obtain ⟨b,o,rfl,hb,hc⟩:=h4 (by omega)
 refine ⟨b,o,rfl,hb,fun j u hu=>hc j u ?_⟩
 rw [← List.take_append_drop n l,frisV_append,List.getElem?_append_left (List.getElem?_eq_some_iff.1 hu).1]
 exact hu
theorem Fris.back {A:Option Addr} {c n:Nat} (h:Fris w B (.slice A l.length c) l) (hn:n ≤ l.length):Fris w B (.slice (if c = n then A else A.map (·.add (n * 5))) (l.length - n) (c - n)) (l.drop n):=by
 obtain ⟨A',c',e,h1,h2,h3,h4⟩:=h
 injection e with e1 e2 e3
 subst e1 e3
 have hl:(l.drop n).length = l.length - n:=List.length_drop
 unfold Fris
 rw [hl]
 refine ⟨_,_,rfl,by omega,by omega,by rw [length_frisV,hl],fun hp=>?_⟩
 obtain ⟨b,o,rfl,hb,hc⟩:=h4 (by omega)
 rw [if_neg (by omega)]
 refine ⟨b,o + n * 5,by simp [Addr.add_lit],hb,fun j u hu=>?_⟩
 rw [Nat.add_assoc]
 refine hc _ u ?_
 rw [← List.take_append_drop n l,frisV_append,List.getElem?_append_right (by rw [length_frisV,List.length_take];omega),length_frisV,List.length_take,Nat.min_eq_left hn,Nat.add_sub_cancel_left]
 exact hu
end
theorem Fris.backM {w:World} {B:Nat} {l:List FrI} {A:Option Addr} {c n:Nat} (h:Fris w B (.slice A l.length c) l) (hn:n ≤ l.length):Sl w B 5 (.slice (if c = n then A else A.map (·.add (n * 5))) (l.length - n) (c - n)) (l.length - n) (frisV (l.drop n)):=by
 have h0:=h.back hn
 unfold Fris at h0
 rwa [List.length_drop] at h0
theorem infoFri:(Tryz.prog.info? 129).map (fun i=>(i.zero,i.size,i.bytes)) = some (some (.agg #[.int .i64 0,.int .i64 0,.int .i64 0,.int .i64 0,.string ⟨#[]⟩]),5,48):=by kernel_rfl
def TyF (w:World) (v:Value):Prop:=∀ b o n c,v = .slice (some ⟨b,o,none⟩) n c→∃ cs fr,w.heap[b]? = some (.cells cs 129 fr)
theorem TyF.nil (w:World) (n c:Nat):TyF w (.slice none n c):=fun b o n c e=>by cases e
theorem TyF.kept {w w':World} {v:Value} (h:TyF w v) (hk:∀ (b:Nat) (cs:Array Value) (fr:Nat × Nat),w.heap[b]? = some (Obj.cells cs 129 fr)→w'.heap[b]? = w.heap[b]?):TyF w' v:=fun b o n c e=>by
 obtain ⟨cs,fr,h1⟩:=h b o n c e
 exact ⟨cs,fr,(hk b cs fr h1).trans h1⟩
theorem TyF.below {w w':World} {v:Value} (h:TyF w v) (hb:Below w.heap.size w w'):TyF w' v:=h.kept fun b _ _ h1=>hb.block b (Array.getElem?_eq_some_iff.1 h1).1
theorem TyF.own {w:World} {base:Nat} {sz n:Nat} {v:Value} {xs:List Value} (h:w.ownsRow base 129 sz v n xs):TyF w v:=fun b o n' c he=>by
 rcases h.2 with ⟨rfl,_⟩ | ⟨g,cap,cur,rfl,hb,hg,-⟩
 ·cases he
 ·injection he with h1 h2 h3
  injection h1 with h1
  injection h1 with h1 h2
  subst h1
  exact ⟨_,_,hg⟩
def FrisN (w:World) (v:Value) (l:List FrI):Prop:=Fris w w.heap.size v l∧TyF w v
theorem FrisN.below {w w':World} {v:Value} {l:List FrI} (h:FrisN w v l) (hb:Below w.heap.size w w'):FrisN w' v l:=⟨Sl.more (Sl.below h.1 hb) hb.size,h.2.below hb⟩
def PutPost (w:World) (l:List FrI) (x:FrI) (e:Ending) (w':World):Prop:=∃ u A C,e = .returned u∧l = A ++ C∧(∀ a ∈ A,a.f.nominal ≤ x.f.nominal)∧(∀ c ∈ C,x.f.nominal < c.f.nominal)∧FrisN w' u (A ++ x :: C)∧Below w.heap.size w w'
theorem put_any (w:World) (B:Nat) (v:Value) (l:List FrI) (x:FrI) (hv:Fris w B v l) (hB:B ≤ w.heap.size) (hl:l.length ≤ 100000) (hi:∀ y ∈ l,y.i ≤ x.i) (hs:l.Pairwise (fun a b=>a.f.nominal ≤ b.f.nominal)) :
  Calls Tryz.prog 111 #[v,friA x] w (PutPost w l x):=by
 obtain ⟨i0,hi0,hz0,hz1,hz2⟩:=info_parts infoFri
 have HB0:=Lib.hid ((Below.refl w.heap.size w).alloc (Nat.le_refl _) (.cells #[.int .i64 x.f.nominal,.int .i64 x.f.kind,.int .i64 x.f.save,.int .i64 x.i,.string x.f.letter] 129))
 have hx:=Blk.new w 129 #[.int .i64 x.f.nominal,.int .i64 x.f.kind,.int .i64 x.f.save,.int .i64 x.i,.string x.f.letter]
 have HXB:=Lib.hid hx
 have HV:=Lib.hid (hv.below (HB0.out.mono hB))
 obtain ⟨A,c,rfl,hlc,hcm⟩:=hv.form
 unfold maxLen at hcm
 have HI:=Lib.hid (fun k (hk:k < l.length)=>hi l[k] (List.getElem_mem hk))
 have HS:=Lib.hid hs
 clear hv hi hs
 unfold friA
 go_enter Tryz.func111,Tryz.ntmps111
 go_wp2_with fail
 obtain ⟨W0,hW0⟩:∃ W,w.alloc (.cells #[.int .i64 x.f.nominal,.int .i64 x.f.kind,.int .i64 x.f.save,.int .i64 x.i,.string x.f.letter] 129) = W:=⟨_,rfl⟩
 rw [hW0] at HB0 HXB HV ⊢
 clear hW0 hx
 go_loopw [5] (fun nv wr=>∃ n:Nat,n ≤ l.length∧nv = .int .i64 n∧(∀ k (hk:k < l.length),n ≤ k→x.f.nominal < (l[k]).f.nominal)∧Below W0.heap.size W0 wr) (fun nv _=>(intOf nv).toNat)
 case atStart=>exact ⟨l.length,Nat.le_refl _,rfl,fun k hk h=>by omega,Below.refl _ _⟩
 case round =>
  obtain ⟨n,hn,rfl,hbig,hbw⟩:=hrel
  have HBG:=Lib.hid hbig
  have HBW:=Lib.hid hbw
  have hxr:=HXB.out.below hbw HXB.out.lt
  have hvr:=HV.out.below (B:=B) (hbw.mono (Nat.le_trans hB HB0.out.size))
  have hws:=hbw.size
  clear hbig hbw
  have HVR:=Lib.hid hvr
  have HXR:=Lib.hid hxr
  have x0:wr.cell? ⟨w.heap.size,0,none⟩ = some (.int .i64 x.f.nominal):=hxr.cell 0 rfl
  have x1:wr.cell? ⟨w.heap.size,1,none⟩ = some (.int .i64 x.f.kind):=hxr.cell 1 rfl
  have x2:wr.cell? ⟨w.heap.size,2,none⟩ = some (.int .i64 x.f.save):=hxr.cell 2 rfl
  have x3:wr.cell? ⟨w.heap.size,3,none⟩ = some (.int .i64 x.i):=hxr.cell 3 rfl
  have x4:wr.cell? ⟨w.heap.size,4,none⟩ = some (.string x.f.letter):=hxr.cell 4 rfl
  by_cases h0:n = 0
  ·have hd:decide ((0:Int) < (n:Int)) = false:=decide_eq_false (by omega)
   have hd3:decide (0 < n) = false:=decide_eq_false (by omega)
   have HAC:=Lib.hid (show (∀ a ∈ l.take n,a.f.nominal ≤ x.f.nominal)∧(∀ c ∈ l.drop n,x.f.nominal < c.f.nominal) from ⟨fun a ha=>by rw [h0] at ha;simp at ha,fun c hc=>by
    rw [h0] at hc
    obtain ⟨k,hk,rfl⟩:=List.getElem_of_mem (by simpa using hc)
    exact HBG.out k hk (by omega)⟩)
   clear h0
   go_wp2_with fail
   refine wp_env (fin:=?fnZ) (by kernel_rfl) [9,10,11,12,13,14,15,16,17,18,19,20,21,22,23,24,25,26,27,28,29,30,31,32,33,34,35,36,37,38,39,40,41,42,43,44,45,46,47,48,49]
    [.int .i64 n,.bool false,.bool false,undef,undef,undef,undef,undef,undef,undef,undef,undef,undef,undef,undef,undef,undef,undef,undef,undef,undef,undef,undef,undef,undef,undef,undef,undef,undef,undef,undef,undef,undef,undef,undef,undef,undef,undef,undef,undef,.bool false] (by kernel_rfl) ?finZ ?stepsZ ?nextZ
   case finZ =>
    simp only [putAll,Act.put,List.setIfInBounds_toArray,List.set_cons_succ,List.set_cons_zero]
    rfl
   case stepsZ =>
    refine ⟨?_,?_,?_,?_,?_,?_,?_,?_,?_,?_,?_,?_,?_,?_,?_,?_,?_,?_,?_,?_,?_,?_,?_,?_,?_,?_,?_,?_,?_,?_,?_,?_,?_,?_,?_,?_,?_,?_,?_,?_,?_,trivial⟩
    all_goals first | exact .inl ⟨by kernel_rfl,rfl⟩ | refine .inr ⟨by kernel_rfl,fun w1_ hB_=>?_⟩
    all_goals
     go_simp
     first
      | exact ⟨rfl,Below.refl _ _⟩
      | ((first | rw [decide_eq_true (by omega)] | rw [decide_eq_false (by omega)] | rw [if_pos (by omega)] | rw [IntWalk.i64_in _ (by omega)]);exact ⟨rfl,Below.refl _ _⟩)
      | done
   case nextZ =>
   clear hd hd3
   intro w5 hb5
   have HB5:=Lib.hid (HBW.out.trans (hb5.mono HBW.out.size))
   have HVR:=Lib.hid (HVR.out.below (B:=B) (hb5.mono (Nat.le_trans hB (Nat.le_trans HB0.out.size HBW.out.size))))
   have HXR:=Lib.hid (HXR.out.below hb5 (Nat.lt_of_lt_of_le HXB.out.lt HBW.out.size))
   have hws5:=hb5.size
   have HWW5:=Lib.hid (HB0.out.trans (HB5.out.mono HB0.out.size))
   have hs5:=HWW5.out.size
   have HFRN:=Lib.hid (show Sl w5 B 5 (.slice A n c) n (frisV (l.take n)) by have:=HVR.out.front hn;unfold Fris at this;rwa [List.length_take,Nat.min_eq_left hn] at this)
   clear hb5 x0 x1 x2 x3 x4
   go_wp2_with first
    | (at_builtin;refine wpList_append_sl rfl _ _ 97 rfl w.heap.size 129 i0 (.agg #[.int .i64 0,.int .i64 0,.int .i64 0,.int .i64 0,.string ⟨#[]⟩]) 5 48 Tryz.underlying97 hi0 hz0 hz1 hz2 rfl (by decide) (.slice none 0 0) 0 [] rfl (World.ownsRow_nil _ _ _ _) _ B n _ rfl HFRN.out (frisV_one _) (by unfold maxLen;omega) (by omega) hs5 ?_;intro v7 w7 hown7 hgrow7;have hb7:Below w5.heap.size w5 w7:=(Below.refl _ _).grown hgrow7 (Nat.le_refl _) (fun k e=>by cases e);have HB7:=Lib.hid (HWW5.out.trans (hb7.mono hs5));have HX7:=Lib.hid (HXR.out.below hb7 HXR.out.lt);have HV7:=Lib.hid (HVR.out.below (B:=B) (hb7.mono (Nat.le_trans hB hs5)));have HOW7:=Lib.hid hown7;clear hb7 hown7 hgrow7;have x0:=HX7.out.cell 0 (v:=.int .i64 x.f.nominal) rfl;have x1:=HX7.out.cell 1 (v:=.int .i64 x.f.kind) rfl;have x2:=HX7.out.cell 2 (v:=.int .i64 x.f.save) rfl;have x3:=HX7.out.cell 3 (v:=.int .i64 x.i) rfl;have x4:=HX7.out.cell 4 (v:=.string x.f.letter) rfl;have hs7:=HB7.out.size)
    | (at_builtin;have _t:=HOW7;refine wpList_append_own _ rfl _ _ 97 rfl w.heap.size 129 i0 (.agg #[.int .i64 0,.int .i64 0,.int .i64 0,.int .i64 0,.string ⟨#[]⟩]) 5 48 Tryz.underlying97 hi0 hz0 hz1 hz2 rfl (by decide) v7 (0 + n) _ rfl (HOW7.out.alloc _) ⟨w7.heap.size,0,none⟩ 1 1 (friV x) rfl rfl (fun j y hy=>by rw [Addr.add_lit,Nat.zero_add];exact (cell_new w7 _ _ _ j).trans (by simpa [friV] using hy)) (by simp [friV,Value.oneCell']) (by unfold maxLen;omega) (by omega) (by simp;omega) ?_;intro v8 w8 hown8 hgrow8 hnil8;go_loud (have HB8:=Lib.hid ((HB7.out.alloc hs7 _).grown hgrow8 (by simp;omega) (fun g e=>(HOW7.out.lt g e).1));have HV8:=Lib.hid (HV7.out.below (B:=B) ((((Below.refl B w7).alloc (Nat.le_trans hB hs7) _)).grown hgrow8 (by simp;omega) (fun g e=>Nat.le_trans hB (HOW7.out.lt g e).1)));have HOW8:=Lib.hid hown8;have hs8:=HB8.out.size;have HBKN:=Lib.hid (HV8.out.backM hn);clear hown8 hgrow8 hnil8 x0 x1 x2 x3 x4))
    | (at_builtin;have _t:=HOW8;go_loud (refine wpList_append_sl rfl _ _ 97 rfl w.heap.size 129 i0 (.agg #[.int .i64 0,.int .i64 0,.int .i64 0,.int .i64 0,.string ⟨#[]⟩]) 5 48 Tryz.underlying97 hi0 hz0 hz1 hz2 rfl (by decide) v8 (0 + n + 1) _ rfl HOW8.out _ B (l.length - n) _ rfl HBKN.out (frisV_one _) (by unfold maxLen;omega) (by omega) hs8 ?_);intro v9 w9 hown9 hgrow9)
   all_goals
    go_ret
    have hb9:=HB8.out.grown hgrow9 hs8 (fun g e=>(HOW8.out.lt g e).1)
    refine ⟨v9,l.take n,l.drop n,rfl,(List.take_append_drop n l).symm,HAC.out.1,HAC.out.2,?_,hb9⟩
    refine ⟨?_,TyF.own hown9⟩
    have h:=Sl.of_own hown9
    unfold Fris
    rw [List.nil_append,show 0 + n + 1 + (l.length - n) = (l.take n ++ x :: l.drop n).length by simp;omega] at h
    rw [show frisV (l.take n ++ x :: l.drop n) = frisV (l.take n) ++ friV x ++ frisV (l.drop n) by simp [frisV]]
    exact h
  ·obtain ⟨p,hp⟩:∃ p,n = p + 1:=⟨n - 1,by omega⟩
   have hd:decide ((0:Int) < (n:Int)) = true:=decide_eq_true (by omega)
   have e1:(n:Int) - 1 = (p:Int):=by omega
   have hpl:p < l.length:=by omega
   obtain ⟨b,o,c',e,hb,hc⟩:=hvr.cells (by omega)
   cases e
   obtain ⟨d0,-,-,d3,-⟩:=hc p hpl
   have d0':wr.cell? ⟨b,o + p * 5,none⟩ = some (.int .i64 (l[p]).f.nominal):=d0
   have d3':wr.cell? ⟨b,o + p * 5 + 3,none⟩ = some (.int .i64 (l[p]).i):=d3
   have hii:=HI.out p hpl
   obtain ⟨y,hy⟩:∃ y,l[p] = y:=⟨_,rfl⟩
   rw [hy] at d0' d3' hii
   have HY:=Lib.hid hy
   have hbw_:b < wr.heap.size:=Nat.lt_of_lt_of_le hb (Nat.le_trans hB (Nat.le_trans HB0.out.size hws))
   have hww_:w.heap.size < wr.heap.size:=Nat.lt_of_lt_of_le HXB.out.lt hws
   have HCELL:=Lib.hid (fun (W:World) (h:Below wr.heap.size wr W)=>show W.cell? ⟨b,o + p * 5,none⟩ = some (.int .i64 y.f.nominal)∧W.cell? ⟨b,o + p * 5 + 3,none⟩ = some (.int .i64 y.i)∧W.cell? ⟨w.heap.size,0,none⟩ = some (.int .i64 x.f.nominal)∧W.cell? ⟨w.heap.size,3,none⟩ = some (.int .i64 x.i) from ⟨(h.cell hbw_).trans d0',(h.cell hbw_).trans d3',(h.cell hww_).trans x0,(h.cell hww_).trans x3⟩)
   clear hc d0 d3 hy hbw_ hww_ d0' d3'
   by_cases hgt:x.f.nominal < y.f.nominal
   ·have hg:decide (x.f.nominal < y.f.nominal) = true:=decide_eq_true hgt
    have HP:=Lib.hid hp
    clear hp
    go_wp2_with fail
    refine wp_env (fin:=?fnG) (by kernel_rfl) [9,10,11,12,13,14,15,16,17,18,19,20,21,22,23,24,25,26,27,28,29,30,31,32,33,34,35,36,37,38,39,40,41,42,43,44,45,46,47,48,49]
     [.int .i64 n,.bool true,.bool true,.slice (some ⟨b,o,none⟩) l.length c,.int .i64 n,.int .i64 p,.pointer (some ⟨b,o + p * 5,none⟩),.pointer (some ⟨b,o + p * 5,none⟩),.pointer (some ⟨b,o + p * 5,none⟩),.int .i64 y.f.nominal,.pointer (some ⟨w.heap.size,0,none⟩),.pointer (some ⟨w.heap.size,0,none⟩),.int .i64 x.f.nominal,.bool true,.bool true,undef,undef,undef,undef,undef,undef,undef,undef,undef,undef,undef,undef,undef,undef,undef,undef,undef,undef,undef,undef,undef,undef,undef,undef,.bool true,.bool true] (by kernel_rfl) ?finG ?stepsG ?nextG
    case finG =>
     simp only [putAll,Act.put,List.setIfInBounds_toArray,List.set_cons_succ,List.set_cons_zero]
     rfl
    case stepsG =>
     refine ⟨?_,?_,?_,?_,?_,?_,?_,?_,?_,?_,?_,?_,?_,?_,?_,?_,?_,?_,?_,?_,?_,?_,?_,?_,?_,?_,?_,?_,?_,?_,?_,?_,?_,?_,?_,?_,?_,?_,?_,?_,?_,trivial⟩
     all_goals first | exact .inl ⟨by kernel_rfl,rfl⟩ | refine .inr ⟨by kernel_rfl,fun w1_ hB_=>?_⟩
     all_goals
      obtain ⟨d0_,d3_,q0_,q3_⟩:=HCELL.out w1_ hB_
      go_simp
      first
       | exact ⟨rfl,Below.refl _ _⟩
       | ((first | rw [decide_eq_true (by omega)] | rw [decide_eq_false (by omega)] | rw [if_pos (by omega)] | rw [IntWalk.i64_in _ (by omega)]);exact ⟨rfl,Below.refl _ _⟩)
       | done
    case nextG =>
    intro w5 hb5
    have HB5:=Lib.hid (HBW.out.trans (hb5.mono HBW.out.size))
    clear hb5
    go_wp2_with fail
    go_roundw
    case rel=>exact ⟨p,by omega,by first | rfl | go_num,fun k hk h=>by
     rcases Nat.lt_or_ge p k with h1 | h1
     ·exact HBG.out k hk (by have:=HP.out;omega)
     ·have:k = p:=by omega
      subst this
      rw [HY.out]
      exact hgt,HB5.out⟩
    case measure=>have:=HP.out;simp [intOf];omega
   ·have hg:decide (x.f.nominal < y.f.nominal) = false:=decide_eq_false hgt
    have hg3:decide (x.i < y.i) = false:=decide_eq_false (by omega)
    have HAC:=Lib.hid (show (∀ a ∈ l.take n,a.f.nominal ≤ x.f.nominal)∧(∀ c ∈ l.drop n,x.f.nominal < c.f.nominal) from ⟨fun a ha=>by
     rw [hp] at ha
     have h1:=take_le (key:=fun y:FrI=>y.f.nominal) HS.out hpl a ha
     rw [HY.out] at h1
     omega,fun c hc=>by
     obtain ⟨k,hk,rfl⟩:=List.getElem_of_mem hc
     rw [List.getElem_drop]
     exact HBG.out _ _ (by omega)⟩)
    clear hp
    by_cases heq:y.f.nominal = x.f.nominal
    ·have hg2:(y.f.nominal == x.f.nominal) = true:=by simpa using heq
     go_wp2_with fail
     refine wp_env (fin:=?fnE) (by kernel_rfl) [9,10,11,12,13,14,15,16,17,18,19,20,21,22,23,24,25,26,27,28,29,30,31,32,33,34,35,36,37,38,39,40,41,42,43,44,45,46,47,48,49]
      [.int .i64 n,.bool true,.bool true,.slice (some ⟨b,o,none⟩) l.length c,.int .i64 n,.int .i64 p,.pointer (some ⟨b,o + p * 5,none⟩),.pointer (some ⟨b,o + p * 5,none⟩),.pointer (some ⟨b,o + p * 5,none⟩),.int .i64 y.f.nominal,.pointer (some ⟨w.heap.size,0,none⟩),.pointer (some ⟨w.heap.size,0,none⟩),.int .i64 x.f.nominal,.bool false,.bool false,.slice (some ⟨b,o,none⟩) l.length c,.int .i64 n,.int .i64 p,.pointer (some ⟨b,o + p * 5,none⟩),.pointer (some ⟨b,o + p * 5,none⟩),.pointer (some ⟨b,o + p * 5,none⟩),.int .i64 y.f.nominal,.pointer (some ⟨w.heap.size,0,none⟩),.pointer (some ⟨w.heap.size,0,none⟩),.int .i64 x.f.nominal,.bool true,.bool true,.slice (some ⟨b,o,none⟩) l.length c,.int .i64 n,.int .i64 p,.pointer (some ⟨b,o + p * 5,none⟩),.pointer (some ⟨b,o + p * 5,none⟩),.pointer (some ⟨b,o + p * 5 + 3,none⟩),.int .i64 y.i,.pointer (some ⟨w.heap.size,0,none⟩),.pointer (some ⟨w.heap.size,3,none⟩),.int .i64 x.i,.bool false,.bool false,.bool false,.bool false] (by kernel_rfl) ?finE ?stepsE ?nextE
     case finE =>
      simp only [putAll,Act.put,List.setIfInBounds_toArray,List.set_cons_succ,List.set_cons_zero]
      rfl
     case stepsE =>
      refine ⟨?_,?_,?_,?_,?_,?_,?_,?_,?_,?_,?_,?_,?_,?_,?_,?_,?_,?_,?_,?_,?_,?_,?_,?_,?_,?_,?_,?_,?_,?_,?_,?_,?_,?_,?_,?_,?_,?_,?_,?_,?_,trivial⟩
      all_goals refine .inr ⟨by kernel_rfl,fun w1_ hB_=>?_⟩
      all_goals
       obtain ⟨d0_,d3_,q0_,q3_⟩:=HCELL.out w1_ hB_
       go_simp
       first
        | exact ⟨rfl,Below.refl _ _⟩
        | ((first | rw [decide_eq_true (by omega)] | rw [decide_eq_false (by omega)] | rw [if_pos (by omega)] | rw [IntWalk.i64_in _ (by omega)]);exact ⟨rfl,Below.refl _ _⟩)
        | done
     case nextE =>
     clear hd hg hg2 hg3 heq hgt e1
     obtain ⟨A,hA⟩:∃ A,(some ⟨b,o,none⟩:Option Addr) = A:=⟨_,rfl⟩
     rw [hA] at HVR ⊢
     clear hA
     intro w5 hb5
     have HB5:=Lib.hid (HBW.out.trans (hb5.mono HBW.out.size))
     have HVR:=Lib.hid (HVR.out.below (B:=B) (hb5.mono (Nat.le_trans hB (Nat.le_trans HB0.out.size HBW.out.size))))
     have HXR:=Lib.hid (HXR.out.below hb5 (Nat.lt_of_lt_of_le HXB.out.lt HBW.out.size))
     have hws5:=hb5.size
     have HWW5:=Lib.hid (HB0.out.trans (HB5.out.mono HB0.out.size))
     have hs5:=HWW5.out.size
     have HFRN:=Lib.hid (show Sl w5 B 5 (.slice A n c) n (frisV (l.take n)) by have:=HVR.out.front hn;unfold Fris at this;rwa [List.length_take,Nat.min_eq_left hn] at this)
     clear hb5 x0 x1 x2 x3 x4
     go_wp2_with first
      | (at_builtin;refine wpList_append_sl rfl _ _ 97 rfl w.heap.size 129 i0 (.agg #[.int .i64 0,.int .i64 0,.int .i64 0,.int .i64 0,.string ⟨#[]⟩]) 5 48 Tryz.underlying97 hi0 hz0 hz1 hz2 rfl (by decide) (.slice none 0 0) 0 [] rfl (World.ownsRow_nil _ _ _ _) _ B n _ rfl HFRN.out (frisV_one _) (by unfold maxLen;omega) (by omega) hs5 ?_;intro v7 w7 hown7 hgrow7;have hb7:Below w5.heap.size w5 w7:=(Below.refl _ _).grown hgrow7 (Nat.le_refl _) (fun k e=>by cases e);have HB7:=Lib.hid (HWW5.out.trans (hb7.mono hs5));have HX7:=Lib.hid (HXR.out.below hb7 HXR.out.lt);have HV7:=Lib.hid (HVR.out.below (B:=B) (hb7.mono (Nat.le_trans hB hs5)));have HOW7:=Lib.hid hown7;clear hb7 hown7 hgrow7;have x0:=HX7.out.cell 0 (v:=.int .i64 x.f.nominal) rfl;have x1:=HX7.out.cell 1 (v:=.int .i64 x.f.kind) rfl;have x2:=HX7.out.cell 2 (v:=.int .i64 x.f.save) rfl;have x3:=HX7.out.cell 3 (v:=.int .i64 x.i) rfl;have x4:=HX7.out.cell 4 (v:=.string x.f.letter) rfl;have hs7:=HB7.out.size)
      | (at_builtin;have _t:=HOW7;refine wpList_append_own _ rfl _ _ 97 rfl w.heap.size 129 i0 (.agg #[.int .i64 0,.int .i64 0,.int .i64 0,.int .i64 0,.string ⟨#[]⟩]) 5 48 Tryz.underlying97 hi0 hz0 hz1 hz2 rfl (by decide) v7 (0 + n) _ rfl (HOW7.out.alloc _) ⟨w7.heap.size,0,none⟩ 1 1 (friV x) rfl rfl (fun j y hy=>by rw [Addr.add_lit,Nat.zero_add];exact (cell_new w7 _ _ _ j).trans (by simpa [friV] using hy)) (by simp [friV,Value.oneCell']) (by unfold maxLen;omega) (by omega) (by simp;omega) ?_;intro v8 w8 hown8 hgrow8 hnil8;go_loud (have HB8:=Lib.hid ((HB7.out.alloc hs7 _).grown hgrow8 (by simp;omega) (fun g e=>(HOW7.out.lt g e).1));have HV8:=Lib.hid (HV7.out.below (B:=B) ((((Below.refl B w7).alloc (Nat.le_trans hB hs7) _)).grown hgrow8 (by simp;omega) (fun g e=>Nat.le_trans hB (HOW7.out.lt g e).1)));have HOW8:=Lib.hid hown8;have hs8:=HB8.out.size;have HBKN:=Lib.hid (HV8.out.backM hn);clear hown8 hgrow8 hnil8 x0 x1 x2 x3 x4))
      | (at_builtin;have _t:=HOW8;go_loud (refine wpList_append_sl rfl _ _ 97 rfl w.heap.size 129 i0 (.agg #[.int .i64 0,.int .i64 0,.int .i64 0,.int .i64 0,.string ⟨#[]⟩]) 5 48 Tryz.underlying97 hi0 hz0 hz1 hz2 rfl (by decide) v8 (0 + n + 1) _ rfl HOW8.out _ B (l.length - n) _ rfl HBKN.out (frisV_one _) (by unfold maxLen;omega) (by omega) hs8 ?_);intro v9 w9 hown9 hgrow9)
     all_goals
      go_ret
      have hb9:=HB8.out.grown hgrow9 hs8 (fun g e=>(HOW8.out.lt g e).1)
      refine ⟨v9,l.take n,l.drop n,rfl,(List.take_append_drop n l).symm,HAC.out.1,HAC.out.2,?_,hb9⟩
      refine ⟨?_,TyF.own hown9⟩
      have h:=Sl.of_own hown9
      unfold Fris
      rw [List.nil_append,show 0 + n + 1 + (l.length - n) = (l.take n ++ x :: l.drop n).length by simp;omega] at h
      rw [show frisV (l.take n ++ x :: l.drop n) = frisV (l.take n) ++ friV x ++ frisV (l.drop n) by simp [frisV]]
      exact h
    ·have hg2:(y.f.nominal == x.f.nominal) = false:=by simpa using heq
     go_wp2_with fail
     refine wp_env (fin:=?fnL) (by kernel_rfl) [9,10,11,12,13,14,15,16,17,18,19,20,21,22,23,24,25,26,27,28,29,30,31,32,33,34,35,36,37,38,39,40,41,42,43,44,45,46,47,48,49]
      [.int .i64 n,.bool true,.bool true,.slice (some ⟨b,o,none⟩) l.length c,.int .i64 n,.int .i64 p,.pointer (some ⟨b,o + p * 5,none⟩),.pointer (some ⟨b,o + p * 5,none⟩),.pointer (some ⟨b,o + p * 5,none⟩),.int .i64 y.f.nominal,.pointer (some ⟨w.heap.size,0,none⟩),.pointer (some ⟨w.heap.size,0,none⟩),.int .i64 x.f.nominal,.bool false,.bool false,.slice (some ⟨b,o,none⟩) l.length c,.int .i64 n,.int .i64 p,.pointer (some ⟨b,o + p * 5,none⟩),.pointer (some ⟨b,o + p * 5,none⟩),.pointer (some ⟨b,o + p * 5,none⟩),.int .i64 y.f.nominal,.pointer (some ⟨w.heap.size,0,none⟩),.pointer (some ⟨w.heap.size,0,none⟩),.int .i64 x.f.nominal,.bool false,.bool false,undef,undef,undef,undef,undef,undef,undef,undef,undef,undef,undef,.bool false,.bool false,.bool false] (by kernel_rfl) ?finL ?stepsL ?nextL
     case finL =>
      simp only [putAll,Act.put,List.setIfInBounds_toArray,List.set_cons_succ,List.set_cons_zero]
      rfl
     case stepsL =>
      refine ⟨?_,?_,?_,?_,?_,?_,?_,?_,?_,?_,?_,?_,?_,?_,?_,?_,?_,?_,?_,?_,?_,?_,?_,?_,?_,?_,?_,?_,?_,?_,?_,?_,?_,?_,?_,?_,?_,?_,?_,?_,?_,trivial⟩
      all_goals first | exact .inl ⟨by kernel_rfl,rfl⟩ | refine .inr ⟨by kernel_rfl,fun w1_ hB_=>?_⟩
      all_goals
       obtain ⟨d0_,d3_,q0_,q3_⟩:=HCELL.out w1_ hB_
       go_simp
       first
        | exact ⟨rfl,Below.refl _ _⟩
        | ((first | rw [decide_eq_true (by omega)] | rw [decide_eq_false (by omega)] | rw [if_pos (by omega)] | rw [IntWalk.i64_in _ (by omega)]);exact ⟨rfl,Below.refl _ _⟩)
        | done
     case nextL =>
     clear hd hg hg2 hg3 heq hgt e1
     obtain ⟨A,hA⟩:∃ A,(some ⟨b,o,none⟩:Option Addr) = A:=⟨_,rfl⟩
     rw [hA] at HVR ⊢
     clear hA
     intro w5 hb5
     have HB5:=Lib.hid (HBW.out.trans (hb5.mono HBW.out.size))
     have HVR:=Lib.hid (HVR.out.below (B:=B) (hb5.mono (Nat.le_trans hB (Nat.le_trans HB0.out.size HBW.out.size))))
     have HXR:=Lib.hid (HXR.out.below hb5 (Nat.lt_of_lt_of_le HXB.out.lt HBW.out.size))
     have hws5:=hb5.size
     have HWW5:=Lib.hid (HB0.out.trans (HB5.out.mono HB0.out.size))
     have hs5:=HWW5.out.size
     have HFRN:=Lib.hid (show Sl w5 B 5 (.slice A n c) n (frisV (l.take n)) by have:=HVR.out.front hn;unfold Fris at this;rwa [List.length_take,Nat.min_eq_left hn] at this)
     clear hb5 x0 x1 x2 x3 x4
     go_wp2_with first
      | (at_builtin;refine wpList_append_sl rfl _ _ 97 rfl w.heap.size 129 i0 (.agg #[.int .i64 0,.int .i64 0,.int .i64 0,.int .i64 0,.string ⟨#[]⟩]) 5 48 Tryz.underlying97 hi0 hz0 hz1 hz2 rfl (by decide) (.slice none 0 0) 0 [] rfl (World.ownsRow_nil _ _ _ _) _ B n _ rfl HFRN.out (frisV_one _) (by unfold maxLen;omega) (by omega) hs5 ?_;intro v7 w7 hown7 hgrow7;have hb7:Below w5.heap.size w5 w7:=(Below.refl _ _).grown hgrow7 (Nat.le_refl _) (fun k e=>by cases e);have HB7:=Lib.hid (HWW5.out.trans (hb7.mono hs5));have HX7:=Lib.hid (HXR.out.below hb7 HXR.out.lt);have HV7:=Lib.hid (HVR.out.below (B:=B) (hb7.mono (Nat.le_trans hB hs5)));have HOW7:=Lib.hid hown7;clear hb7 hown7 hgrow7;have x0:=HX7.out.cell 0 (v:=.int .i64 x.f.nominal) rfl;have x1:=HX7.out.cell 1 (v:=.int .i64 x.f.kind) rfl;have x2:=HX7.out.cell 2 (v:=.int .i64 x.f.save) rfl;have x3:=HX7.out.cell 3 (v:=.int .i64 x.i) rfl;have x4:=HX7.out.cell 4 (v:=.string x.f.letter) rfl;have hs7:=HB7.out.size)
      | (at_builtin;have _t:=HOW7;refine wpList_append_own _ rfl _ _ 97 rfl w.heap.size 129 i0 (.agg #[.int .i64 0,.int .i64 0,.int .i64 0,.int .i64 0,.string ⟨#[]⟩]) 5 48 Tryz.underlying97 hi0 hz0 hz1 hz2 rfl (by decide) v7 (0 + n) _ rfl (HOW7.out.alloc _) ⟨w7.heap.size,0,none⟩ 1 1 (friV x) rfl rfl (fun j y hy=>by rw [Addr.add_lit,Nat.zero_add];exact (cell_new w7 _ _ _ j).trans (by simpa [friV] using hy)) (by simp [friV,Value.oneCell']) (by unfold maxLen;omega) (by omega) (by simp;omega) ?_;intro v8 w8 hown8 hgrow8 hnil8;go_loud (have HB8:=Lib.hid ((HB7.out.alloc hs7 _).grown hgrow8 (by simp;omega) (fun g e=>(HOW7.out.lt g e).1));have HV8:=Lib.hid (HV7.out.below (B:=B) ((((Below.refl B w7).alloc (Nat.le_trans hB hs7) _)).grown hgrow8 (by simp;omega) (fun g e=>Nat.le_trans hB (HOW7.out.lt g e).1)));have HOW8:=Lib.hid hown8;have hs8:=HB8.out.size;have HBKN:=Lib.hid (HV8.out.backM hn);clear hown8 hgrow8 hnil8 x0 x1 x2 x3 x4))
      | (at_builtin;have _t:=HOW8;go_loud (refine wpList_append_sl rfl _ _ 97 rfl w.heap.size 129 i0 (.agg #[.int .i64 0,.int .i64 0,.int .i64 0,.int .i64 0,.string ⟨#[]⟩]) 5 48 Tryz.underlying97 hi0 hz0 hz1 hz2 rfl (by decide) v8 (0 + n + 1) _ rfl HOW8.out _ B (l.length - n) _ rfl HBKN.out (frisV_one _) (by unfold maxLen;omega) (by omega) hs8 ?_);intro v9 w9 hown9 hgrow9)
     all_goals
      go_ret
      have hb9:=HB8.out.grown hgrow9 hs8 (fun g e=>(HOW8.out.lt g e).1)
      refine ⟨v9,l.take n,l.drop n,rfl,(List.take_append_drop n l).symm,HAC.out.1,HAC.out.2,?_,hb9⟩
      refine ⟨?_,TyF.own hown9⟩
      have h:=Sl.of_own hown9
      unfold Fris
      rw [List.nil_append,show 0 + n + 1 + (l.length - n) = (l.take n ++ x :: l.drop n).length by simp;omega] at h
      rw [show frisV (l.take n ++ x :: l.drop n) = frisV (l.take n) ++ friV x ++ frisV (l.drop n) by simp [frisV]]
      exact h
end
end Go.Proofs.YteekjfgjmccdnaaGreatDoor
