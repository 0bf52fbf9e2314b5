/-
  Layer 14's steps at a zone of one era without rules: there is none.
-/
import Derived.Test.YteekjfgjmccdnaaGreatDoorZj9
section
/- EnvY: A region that draws its order, within a fence, whose round of the loop (the call of its yield) comes behind all that looks, and ahead of all that only reckons: each operation's value is known ahead. -/
namespace Go.Proofs.YteekjfgjmccdnaaGreatDoor
open Go Go.RowKit

section
variable {P : Program} {n : Nat} {ops : Array Oper}
/-- Operation i stands behind j, at last. -/
def reachB (ops : Array Oper) (j : Nat) : Nat → Nat → Bool
  | 0, _ => false
  | f + 1, i => depB ops i j || (List.range i).any fun k => depB ops i k && reachB ops j f k
/-- What is asked of the region itself. y: the round. -/
def envYB (ops : Array Oper) (D : List Nat) (y : Nat) : Bool :=
  envB ops D && decide (y < ops.size) && (List.range ops.size).all fun i => if i < y then reachB ops i ops.size y else if y < i then reachB ops y ops.size i else true
theorem reachB_shut {L : Nat → Bool} (h : ShutI ops L) {j : Nat} : ∀ {f i : Nat}, reachB ops j f i = true → L i = true → L j = true
  | 0, _, hr, _ => by cases hr
  | f + 1, i, hr, hi => by
    unfold reachB at hr
    rw [Bool.or_eq_true] at hr
    rcases hr with h1 | h1
    · exact h i j h1 hi
    · obtain ⟨k, _, h2⟩ := List.any_eq_true.1 h1
      rw [Bool.and_eq_true] at h2
      exact reachB_shut h h2.2 (h i k h2.1 hi)
def PureStep (P : Program) (ops : Array Oper) (fin : Act) (o : Oper) (v : Value) : Prop :=
  (Region.wanted o (yielded ops fin.tmps) = false ∧ v = undef) ∨ (Region.wanted o (yielded ops fin.tmps) = true ∧ ∀ w, (execOp fin.eval o).run P w = .ok (.value v) w)
def PureSteps (P : Program) (ops : Array Oper) (fin : Act) : List Oper → List Value → Prop
  | o :: l, v :: V => PureStep P ops fin o v ∧ PureSteps P ops fin l V
  | [], [] => True
  | _, _ => False
def YieldStep (F : Fence) (n : Nat) (P : Program) (ops : Array Oper) (fin : Bool → Act) (w0 : World) (Z : Bool → World → Prop) (o : Oper) : Prop :=
  (∀ b, Region.wanted o (yielded ops (fin b).tmps) = true) ∧ ∀ w, Below w0.heap.size w0 w → ∃ l f tmps assign body, (∀ b, (execOp (fin b).eval o).run P w = .ok (.round l f tmps assign body) w) ∧ RoundIn F (n - 1) P l f tmps assign body w fun e w' => ∃ b, e = .returned (.bool b) ∧ Z b w'
def EnvYSteps (F : Fence) (n : Nat) (P : Program) (ops : Array Oper) (fin : Bool → Act) (w0 : World) (Z : Bool → World → Prop) (V2 : Bool → List Value) : List Oper → List Value → Prop
  | o :: l, v :: V => (∀ b, EnvStep P ops (fin b) w0 o v) ∧ EnvYSteps F n P ops fin w0 Z V2 l V
  | o :: l, [] => YieldStep F n P ops fin w0 Z o ∧ ∀ b, PureSteps P ops (fin b) l (V2 b)
  | [], _ => False
theorem pureSteps_len {fin : Act} : ∀ {l : List Oper} {V : List Value}, PureSteps P ops fin l V → V.length = l.length
  | [], [], _ => rfl
  | [], _ :: _, h => h.elim
  | _ :: _, [], h => h.elim
  | _ :: l, _ :: V, h => by simp [pureSteps_len h.2]
theorem pureSteps_at {fin : Act} : ∀ {l : List Oper} {V : List Value}, PureSteps P ops fin l V → ∀ {j : Nat} {o : Oper}, l[j]? = some o → PureStep P ops fin o (V.getD j undef)
  | [], _, _, _, _, h => by simp at h
  | _ :: _, [], hs, _, _, _ => hs.elim
  | x :: l, v :: V, hs, 0, o, h => by
    simp only [List.getElem?_cons_zero, Option.some.injEq] at h
    subst h
    exact hs.1
  | x :: l, v :: V, hs, j + 1, o, h => by
    rw [List.getElem?_cons_succ] at h
    simpa using pureSteps_at hs.2 h
theorem envYSteps_len {F : Fence} {fin : Bool → Act} {w0 : World} {Z : Bool → World → Prop} {V2 : Bool → List Value} : ∀ {l : List Oper} {V : List Value}, EnvYSteps F n P ops fin w0 Z V2 l V → ∀ b, V.length + 1 + (V2 b).length = l.length
  | [], _, h, _ => by cases h
  | _ :: _, [], h, b => by simp [pureSteps_len (h.2 b)]; omega
  | _ :: l, _ :: V, h, b => by have := envYSteps_len h.2 b; simp only [List.length_cons]; omega
theorem envYSteps_at {F : Fence} {fin : Bool → Act} {w0 : World} {Z : Bool → World → Prop} {V2 : Bool → List Value} : ∀ {l : List Oper} {V : List Value}, EnvYSteps F n P ops fin w0 Z V2 l V → ∀ {j : Nat} {o : Oper}, l[j]? = some o →
    (j < V.length → ∀ b, EnvStep P ops (fin b) w0 o (V.getD j undef)) ∧ (j = V.length → YieldStep F n P ops fin w0 Z o) ∧ (V.length < j → ∀ b, PureStep P ops (fin b) o ((V ++ .bool b :: V2 b).getD j undef))
  | [], _, h, _, _, _ => by cases h
  | x :: l, [], hs, 0, o, h => by
    simp only [List.getElem?_cons_zero, Option.some.injEq] at h
    subst h
    exact ⟨fun h => absurd h (Nat.not_lt_zero _), fun _ => hs.1, fun h => absurd h (Nat.lt_irrefl _)⟩
  | x :: l, [], hs, j + 1, o, h => by
    rw [List.getElem?_cons_succ] at h
    exact ⟨fun h => absurd h (Nat.not_lt_zero _), (fun h => by simp at h), fun _ b => by simpa using pureSteps_at (hs.2 b) h⟩
  | x :: l, v :: V, hs, 0, o, h => by
    simp only [List.getElem?_cons_zero, Option.some.injEq] at h
    subst h
    exact ⟨fun _ b => hs.1 b, (fun h => by simp at h), (fun h => absurd h (Nat.not_lt_zero _))⟩
  | x :: l, v :: V, hs, j + 1, o, h => by
    rw [List.getElem?_cons_succ] at h
    have h2 := envYSteps_at hs.2 h
    refine ⟨fun hj b => ?_, fun hj => ?_, fun hj b => ?_⟩
    · simpa using h2.1 (by simpa using hj) b
    · exact h2.2.1 (by simpa using hj)
    · simpa using h2.2.2 (by simpa using hj) b
/-- A REGION THAT DRAWS ITS ORDER, WITH A ROUND OF THE LOOP IN IT, WITHIN A FENCE. D: each operation's slot; V: what those ahead of the round yield; V2 b: those behind it, if the round yields b. -/
theorem wpIn_envY {F : Fence} (hF : Wide F) {id : Nat} {l : List Oper} {Q : Exit → Act → World → Prop} {a : Act} {w : World} (hm : P.follows .mixedOrders = true) (D : List Nat) (V : List Value) (V2 : Bool → List Value) (Z : Bool → World → Prop)
    (hb : envYB l.toArray D V.length = true) {fin : Bool → Act} (hfin : ∀ b, putAll a D (V ++ .bool b :: V2 b) = fin b)
    (hstep : EnvYSteps F n P l.toArray fin w Z V2 l V) (hend : ∀ b w', Z b w' → Q .normal (fin b) w') : (Code.region id l.toArray true).wpIn F n P Q a w := by
  unfold envYB at hb
  simp only [Bool.and_eq_true, decide_eq_true_eq] at hb
  obtain ⟨⟨hb, hy⟩, hreach⟩ := hb
  have hb0 := hb
  unfold envB at hb
  rw [Bool.and_eq_true] at hb
  obtain ⟨hi, hb⟩ := hb
  have hi' := hi
  simp only [invB, Bool.and_eq_true, decide_eq_true_eq] at hi'
  obtain ⟨⟨-, hlen⟩, hnd⟩ := hi'
  have hlen : D.length = l.length := by simpa using hlen
  have hV : ∀ b, (V ++ .bool b :: V2 b).length = D.length := fun b => by
    have := envYSteps_len hstep b
    simp only [List.length_append, List.length_cons]
    omega
  have hsame1 : ∀ b b' i, i < V.length → (V ++ .bool b :: V2 b).getD i undef = (V ++ .bool b' :: V2 b').getD i undef := fun b b' i h => by
    rw [List.getD_eq_getElem?_getD, List.getD_eq_getElem?_getD, List.getElem?_append_left h, List.getElem?_append_left h]
  have hVi : ∀ b i, i < V.length → (V ++ .bool b :: V2 b).getD i undef = V.getD i undef := fun b i h => by
    rw [List.getD_eq_getElem?_getD, List.getD_eq_getElem?_getD, List.getElem?_append_left h]
  have hVy : ∀ b, (V ++ .bool b :: V2 b).getD V.length undef = .bool b := fun b => by
    rw [List.getD_eq_getElem?_getD, List.getElem?_append_right (Nat.le_refl _), Nat.sub_self]
    rfl
  have hfinp : ∀ b, frameOf a D (valOf D (V ++ .bool b :: V2 b)) = fin b := fun b => by
    rw [← hfin]
    exact putAll_eq D _ a _ (hV b) fun i hi => by unfold valOf; rw [idxOf_getD hnd hi]
  have hpre : ∀ {L : Nat → Bool}, ShutI l.toArray L → L V.length = true → ∀ i, i < V.length → L i = true := fun hsh hL i hi => by
    have h1 := List.all_eq_true.1 hreach i (List.mem_range.2 (by omega))
    rw [if_pos hi] at h1
    exact reachB_shut hsh h1 hL
  have hsuf : ∀ i, V.length < i → i < l.length → reachB l.toArray V.length l.toArray.size i = true := fun i hi hil => by
    have h1 := List.all_eq_true.1 hreach i (List.mem_range.2 (by simpa using hil))
    rw [if_neg (by omega), if_pos hi] at h1
    exact h1
  refine wpIn_inv hm D (fun L x w' => ∃ b, (∀ i, i < D.length → L i = true → x (D.getD i 0) = (V ++ .bool b :: V2 b).getD i undef) ∧ (L V.length = false → Below w.heap.size w w') ∧ (L V.length = true → Z b w')) hi (fun x => ⟨true, (fun i _ h => by cases h), (fun _ => (Below.refl _ _).drew), fun h => by cases h⟩) ?_ ?_
  · have main : ∀ (i : Nat) (o : Oper), l[i]? = some o → StepI F n P l.toArray a D (fun L x w' => ∃ b, (∀ i, i < D.length → L i = true → x (D.getD i 0) = (V ++ .bool b :: V2 b).getD i undef) ∧ (L V.length = false → Below w.heap.size w w') ∧ (L V.length = true → Z b w')) i o := by
      intro k o hlk L x w1 R hI hsh hLk hr hR
      obtain ⟨b, hx, hbw, hz⟩ := hI
      have hkl : k < l.length := (List.getElem?_eq_some_iff.1 hlk).1
      have ho : l.toArray[k]? = some o := by simpa using hlk
      have hkD : k < D.length := by omega
      obtain ⟨s1, s2, s3⟩ := envYSteps_at hstep hlk
      have hb1 := List.all_eq_true.1 hb k (List.mem_range.2 (by simpa using hkl))
      rw [ho] at hb1
      simp only [Bool.and_eq_true] at hb1
      obtain ⟨⟨hop, hdst⟩, hlook⟩ := hb1
      have hndf : ∀ c, o.op ≠ .defer c := fun c hc => by rw [hc] at hop; cases hop
      have hnsl : ∀ cs b, o.op ≠ .select cs b := fun c b hc => by rw [hc] at hop; cases hop
      have hsame : ∀ s, s ∈ o.looksAt l.toArray → (frameOf a D x).tmps[s]? = (fin b).tmps[s]? := by
        intro s hs
        rw [← hfinp, frameOf_tmps, frameOf_tmps]
        by_cases hD : s ∈ D
        · have := List.all_eq_true.1 hlook s hs
          rw [Bool.or_eq_true] at this
          rcases this with h | h
          · simp [hD] at h
          · obtain ⟨j, hj, hj2⟩ := List.any_eq_true.1 h
            rw [Bool.and_eq_true] at hj2
            obtain ⟨hjs, hje⟩ := hj2
            have hjs : D.getD j 0 = s := by simpa using hjs
            have hjk := List.mem_range.1 hj
            have h1 := hx j (by omega) (hr j hje)
            rw [hjs] at h1
            have h2 : x s = valOf D (V ++ .bool b :: V2 b) s := by
              have e : D.idxOf s = j := by rw [← hjs]; exact idxOf_getD hnd (by omega)
              unfold valOf
              rw [e]
              exact h1
            rw [h2]
        · simp [hD]
      have hev : ∀ y ∈ o.op.operands, (frameOf a D x).eval y = (fin b).eval y := by
        intro y hy
        cases y with
        | tmp s =>
          have h1 := hsame s (List.mem_append_left _ (List.mem_filterMap.2 ⟨.tmp s, by simpa using hy, rfl⟩))
          show (frameOf a D x).tmps.getD s undef = (fin b).tmps.getD s undef
          simp only [Array.getD_eq_getD_getElem?, h1]
        | _ => rfl
      have hex := execOp_congr (ρ := (frameOf a D x).eval) (ρ' := (fin b).eval) o hnsl hev
      have hwa : Region.wanted o (yielded l.toArray (frameOf a D x).tmps) = Region.wanted o (yielded l.toArray (fin b).tmps) := by
        unfold Region.wanted
        cases hg : o.guard with
        | none => rfl
        | some g =>
          obtain ⟨g, b'⟩ := g
          dsimp only
          unfold yielded
          cases hd : (l.toArray[g]?).bind (·.dst) with
          | none => rfl
          | some d =>
            have h1 := hsame d (List.mem_append_right _ (by rw [hg]; show d ∈ ((l.toArray[g]?).bind (·.dst)).toList; rw [hd]; simp))
            simp only [Option.bind_some, h1]
      have hdst : o.dst = some (D.getD k 0) := by simpa using hdst
      have hmem : D.getD k 0 ∈ D := by rw [List.getD_eq_getElem?_getD, List.getElem?_eq_getElem hkD]; exact List.getElem_mem hkD
      have hput : ∀ v, (frameOf a D x).put o.dst v = frameOf a D (upd x (D.getD k 0) v) := fun v => by rw [hdst]; exact frameOf_put D x a _ hmem v
      have hslot : ∀ i, i < D.length → i ≠ k → D.getD i 0 ≠ D.getD k 0 := fun i hiD hik e => by
        rw [List.getD_eq_getElem?_getD, List.getD_eq_getElem?_getD, List.getElem?_eq_getElem hiD, List.getElem?_eq_getElem hkD] at e
        simp only [Option.getD_some] at e
        have hpw := List.pairwise_iff_getElem.1 hnd
        rcases Nat.lt_or_ge i k with h | h
        · exact hpw i k hiD hkD h e
        · exact hpw k i hkD hiD (by omega) e.symm
      have hmore : ∀ i, i ≠ k → more L k i = L i := fun i hik => by unfold more; rw [decide_eq_false hik]; rfl
      have hmk : more L k k = true := by unfold more; simp
      unfold wpListIn
      rw [hwa]
      rcases Nat.lt_trichotomy k V.length with hky | hky | hky
      · -- ahead of the round
        have hLy : L V.length = false := by
          cases h : L V.length with
          | false => rfl
          | true => rw [hpre hsh h k hky] at hLk; cases hLk
        have hmy : more L k V.length = false := by rw [hmore _ (by omega)]; exact hLy
        have hnew : ∀ w', Below w1.heap.size w1 w' → ∃ b', (∀ i, i < D.length → more L k i = true → upd x (D.getD k 0) (V.getD k undef) (D.getD i 0) = (V ++ .bool b' :: V2 b').getD i undef) ∧ (more L k V.length = false → Below w.heap.size w w') ∧ (more L k V.length = true → Z b' w') := fun w' hb' => by
          refine ⟨b, fun i hiD hm => ?_, fun _ => (hbw hLy).trans (hb'.mono (hbw hLy).size), fun h => by rw [hmy] at h; cases h⟩
          by_cases hik : i = k
          · subst hik; rw [upd_same, hVi b i hky]
          · rw [hmore i hik] at hm
            rw [upd_other x _ (hslot i hiD hik)]
            exact hx i hiD hm
        rcases s1 hky b with ⟨h1, h2⟩ | ⟨h1, h2⟩
        · rw [if_neg (by rw [h1]; simp)]
          refine ⟨fun f _ => hF.fn f, ?_⟩
          rw [hput, ← h2]
          exact hR _ _ (hnew w1 (Below.refl _ _))
        · rw [if_pos h1]
          refine ⟨fun f _ => hF.fn f, ?_⟩
          rw [Oper.semAt_plain F _ o hndf, hex]
          have h3 := h2 w1 (hbw hLy)
          generalize (execOp (fin b).eval o).run P w1 = r at h3
          cases r with
          | halt hh w' => exact h3.elim
          | ok nx w' =>
            cases nx with
            | value u =>
              obtain ⟨rfl, hb'⟩ := h3
              rw [Oper.uponIn_value, hput]
              exact hR _ _ (hnew w' hb')
            | enter f args =>
              obtain ⟨rfl, hc⟩ := h3
              rw [Oper.uponIn_enter]
              refine ⟨(fun h => by rw [hF.depth] at h; cases h), (hF.calls hc).mono ?_⟩
              rintro e w'' ⟨rfl, hb'⟩
              show wpListIn F n P l.toArray _ [] ((frameOf a D x).put o.dst (V.getD k undef)) w''
              rw [hput]
              exact hR _ _ (hnew w'' hb')
            | _ => exact h3.elim
      · -- the round
        obtain ⟨h1, h2⟩ := s2 hky
        rw [hky] at hLk
        obtain ⟨lp, f, tmps, assign, body, hrun, hround⟩ := h2 w1 (hbw hLk)
        rw [if_pos (h1 b)]
        refine ⟨fun f _ => hF.fn f, ?_⟩
        rw [Oper.semAt_plain F _ o hndf, hex, hrun b, Oper.uponIn_round]
        refine ⟨(fun h => by rw [hF.depth] at h; cases h), hround.mono ?_⟩
        rintro e w'' ⟨b', rfl, hz'⟩
        show wpListIn F n P l.toArray _ [] ((frameOf a D x).put o.dst (.bool b')) w''
        rw [hput]
        refine hR _ _ ⟨b', fun i hiD hm => ?_, (fun h => by rw [← hky, hmk] at h; cases h), fun _ => hz'⟩
        by_cases hik : i = k
        · subst hik; rw [upd_same, hky, hVy]
        · rw [hmore i hik] at hm
          have hiy : i < V.length := by
            rcases Nat.lt_or_ge i V.length with h | h
            · exact h
            · have h5 := reachB_shut hsh (hsuf i (by omega) (by omega)) hm
              rw [hLk] at h5
              cases h5
          rw [upd_other x _ (hslot i hiD hik), hsame1 b' b i hiy]
          exact hx i hiD hm
      · -- behind the round
        have hLy : L V.length = true := by
          have h5 := hsuf k hky hkl
          rw [show l.toArray.size = l.toArray.size - 1 + 1 by omega] at h5
          unfold reachB at h5
          rw [Bool.or_eq_true] at h5
          rcases h5 with h6 | h6
          · unfold depB at h6
            rw [ho] at h6
            exact hr _ h6
          · obtain ⟨j, _, h7⟩ := List.any_eq_true.1 h6
            rw [Bool.and_eq_true] at h7
            have h8 := h7.1
            unfold depB at h8
            rw [ho] at h8
            exact reachB_shut hsh h7.2 (hr _ h8)
        have hmy : more L k V.length = true := by rw [hmore _ (by omega)]; exact hLy
        have hnew : ∃ b', (∀ i, i < D.length → more L k i = true → upd x (D.getD k 0) ((V ++ .bool b :: V2 b).getD k undef) (D.getD i 0) = (V ++ .bool b' :: V2 b').getD i undef) ∧ (more L k V.length = false → Below w.heap.size w w1) ∧ (more L k V.length = true → Z b' w1) := by
          refine ⟨b, fun i hiD hm => ?_, (fun h => by rw [hmy] at h; cases h), fun _ => hz hLy⟩
          by_cases hik : i = k
          · subst hik; rw [upd_same]
          · rw [hmore i hik] at hm
            rw [upd_other x _ (hslot i hiD hik)]
            exact hx i hiD hm
        rcases s3 hky b with ⟨h1, h2⟩ | ⟨h1, h2⟩
        · rw [if_neg (by rw [h1]; simp)]
          refine ⟨fun f _ => hF.fn f, ?_⟩
          rw [hput, ← h2]
          exact hR _ _ hnew
        · rw [if_pos h1]
          refine ⟨fun f _ => hF.fn f, ?_⟩
          rw [Oper.semAt_plain F _ o hndf, hex, h2 w1, Oper.uponIn_value, hput]
          exact hR _ _ hnew
    have all : ∀ (m : List Oper) (k : Nat), (∀ j, m[j]? = l[k + j]?) → StepsI F n P l.toArray a D (fun L x w' => ∃ b, (∀ i, i < D.length → L i = true → x (D.getD i 0) = (V ++ .bool b :: V2 b).getD i undef) ∧ (L V.length = false → Below w.heap.size w w') ∧ (L V.length = true → Z b w')) k m := by
      intro m
      induction m with
      | nil => intro k _; trivial
      | cons o m ih =>
        intro k hk
        exact ⟨main k o (by simpa using (hk 0).symm), ih (k + 1) fun j => by have := hk (j + 1); simpa [Nat.add_assoc, Nat.add_comm 1 j] using this⟩
    exact all l 0 fun j => by simp
  · rintro x w' L hL ⟨b, h1, -, h3⟩
    have e : frameOf a D x = fin b := by
      rw [← hfinp]
      refine frameOf_congr D _ _ a fun s hs => ?_
      obtain ⟨j, hj, rfl⟩ := List.getElem_of_mem hs
      have h4 := h1 j hj (hL j (by simpa using (by omega : j < l.length)))
      rw [List.getD_eq_getElem?_getD, List.getElem?_eq_getElem hj] at h4
      have h4 : x D[j] = (V ++ .bool b :: V2 b).getD j undef := h4
      unfold valOf
      rw [List.Nodup.idxOf_getElem hnd j hj]
      exact h4
    rw [e]
    exact hend b w' (h3 (hL _ hy))
end
end Go.Proofs.YteekjfgjmccdnaaGreatDoor
end

section
/- HSteps: Layer 14 at any zone: from which instants on a zone may show something else, one by one, walked. -/
namespace Go.Proofs.YteekjfgjmccdnaaGreatDoor
open Go Go.RowKit Go.Shelf
attribute [local go_sem] Oper.semAt_some
set_option maxRecDepth 100000

theorem zsteps_any (w : World) (zn : ByteArray) (ev sv : Value) (fr to : Int) :
    Calls Tryz.prog 119 #[zoneA zn ev, setsV zn ev sv, .int .i64 fr, .int .i64 to] w fun o w' => o = .returned (.func (.func 147) #[] #[.pointer (some ⟨w.heap.size, 0, none⟩), .pointer (some ⟨w.heap.size + 1, 0, none⟩), .pointer (some ⟨w.heap.size + 2, 0, none⟩), .pointer (some ⟨w.heap.size + 3, 0, none⟩)]) ∧ Below w.heap.size w w' ∧
      Blk w' w.heap.size 24 #[.string zn, ev] ∧ Blk w' (w.heap.size + 1) 90 #[setsV zn ev sv] ∧ Blk w' (w.heap.size + 2) 3 #[.int .i64 fr] ∧ Blk w' (w.heap.size + 3) 3 #[.int .i64 to] ∧ w'.heap.size = w.heap.size + 4 := by
  have h1 := (((Blk.new w 24 #[.string zn, ev]).alloc (.cells #[setsV zn ev sv] 90)).alloc (.cells #[.int .i64 fr] 3)).alloc (.cells #[.int .i64 to] 3)
  have h2 := ((Blk.new (w.alloc (.cells #[.string zn, ev] 24)) 90 #[setsV zn ev sv]).alloc (.cells #[.int .i64 fr] 3)).alloc (.cells #[.int .i64 to] 3)
  have h3 := (Blk.new ((w.alloc (.cells #[.string zn, ev] 24)).alloc (.cells #[setsV zn ev sv] 90)) 3 #[.int .i64 fr]).alloc (.cells #[.int .i64 to] 3)
  have h4 := Blk.new (((w.alloc (.cells #[.string zn, ev] 24)).alloc (.cells #[setsV zn ev sv] 90)).alloc (.cells #[.int .i64 fr] 3)) 3 #[.int .i64 to]
  simp only [World.size_alloc] at h2 h3 h4
  have HB := Lib.hid (((((Below.refl w.heap.size w).alloc (Nat.le_refl _) (.cells #[.string zn, ev] 24)).alloc (by simp) (.cells #[setsV zn ev sv] 90)).alloc (by simp; omega) (.cells #[.int .i64 fr] 3)).alloc (by simp; omega) (.cells #[.int .i64 to] 3))
  have HH := Lib.hid (And.intro h1 (And.intro h2 (And.intro h3 h4)))
  clear h1 h2 h3 h4
  unfold setsV zoneA worldA at *
  go_enter Tryz.func119, Tryz.ntmps119
  go_wp2_with fail
  go_ret
  exact ⟨rfl, HB.out, HH.out.1, HH.out.2.1, HH.out.2.2.1, HH.out.2.2.2, by simp⟩
theorem roundIn_out {P : Program} {a b l l' : Nat} {f : FuncId} {tmps : Array Value} {assign body : Code} {w : World} {R : Ending → World → Prop} (h : RoundIn (Fence.wide.inRound l) a P l' f tmps assign body w R) : RoundIn Fence.wide b P l' f tmps assign body w R :=
  ⟨trivial, fun c cs _ => h.2 c cs (fun _ h => by cases h)⟩
/-- A function that is gone through, within another loop's round. -/
theorem iter_in {α : Type} {n l₀ : Nat} {P : Program} {g : Nat} {lb : Array Value} {encs : α → Array Value} {R : List α → α → (Nat → Prop) → World → Prop} {S Sp : List α → Prop} {K M : Nat → Prop} {W : World} (h : Iter Fence.wide n P g lb encs R S Sp K M W) : Iter (Fence.wide.inRound l₀) n P g lb encs R S Sp K M W :=
  fun l J Jx fJ fx hY O h1 h2 h3 => (h l J Jx fJ fx (fun pre x D O W a b c d e => let ⟨fn, t, ag, bd, hr, hR⟩ := hY pre x D O W a b c d e; ⟨fn, t, ag, bd, hr, roundIn_out hR⟩) O h1 h2 h3).inRound l₀
/-- What the loops keep, and how they may be left. -/
def StG (sb fb tb : Nat) (sv : Value) (fr to : Int) (yb lp s0 : Nat) (O0 : Nat → Prop) (J : List Chg → (Nat → Prop) → World → Prop) (out : List Chg) (O : Nat → Prop) (W : World) : Prop :=
  ∃ Oj, (∀ k, Oj k → O k) ∧ J out Oj W ∧ (O yb ∧ O sb ∧ O fb ∧ O tb) ∧ (¬ Oj yb ∧ ¬ Oj sb ∧ ¬ Oj fb ∧ ¬ Oj tb) ∧ (∀ k, Oj k → O0 k ∨ s0 ≤ k) ∧ Blk W yb 172 #[.func (.yield lp) #[] #[]] ∧ Blk W sb 90 #[sv] ∧ Blk W fb 3 #[.int .i64 fr] ∧ Blk W tb 3 #[.int .i64 to]
def StX (L : List Chg) (s0 : Nat) (O0 : Nat → Prop) (Jx : List Chg → (Nat → Prop) → World → Prop) (c : Code) (out : List Chg) (O : Nat → Prop) (W : World) : Prop :=
  ∃ Oj, (∀ k, Oj k → O k) ∧ (∀ k, Oj k → O0 k ∨ s0 ≤ k) ∧ c = .ret ∧ Jx out Oj W ∧ ∃ r2, L = out ++ r2
section
variable {sb fb tb yb lp s0 : Nat} {sv : Value} {fr to : Int} {O0 : Nat → Prop} {J Jx : List Chg → (Nat → Prop) → World → Prop} {L : List Chg} {α : Type}
theorem stG_feet (fJ : Feet J) (g : List α → List Chg) : Feet (fun pre => StG sb fb tb sv fr to yb lp s0 O0 J (g pre)) := by
  rintro pre O W W' ⟨Oj, h1, h2, ⟨o1, o2, o3, o4⟩, h3, h4, h5, h6, h7, h8⟩ hf
  exact ⟨Oj, h1, fJ _ _ _ _ h2 (hf.mono fun k hk => .inl fun h => hk (h1 k h)), ⟨o1, o2, o3, o4⟩, h3, h4, h5.fr hf (fun h => h o1), h6.fr hf (fun h => h o2), h7.fr hf (fun h => h o3), h8.fr hf (fun h => h o4)⟩
theorem stX_feet (fx : Feet Jx) (g : List α → List Chg) (c : Code) : Feet (fun pre => StX L s0 O0 Jx c (g pre)) := by
  rintro pre O W W' ⟨Oj, h1, h2, hc, hJ, hr⟩ hf
  exact ⟨Oj, h1, h2, hc, fx _ _ _ _ hJ (hf.mono fun k hk => .inl fun h => hk (h1 k h)), hr⟩
/-- The same era gives no more. -/
def eraG (S : List SetF) (l : List EraF) (fr to : Int) (pre : List Nat) : List Chg := (List.range pre.length).flatMap (eraT S l fr to)
def StE (L : List Chg) (s0 : Nat) (O0 : Nat → Prop) (Jx : List Chg → (Nat → Prop) → World → Prop) (c : Code) (_ : List Nat) (O : Nat → Prop) (W : World) : Prop := ∃ out, StX L s0 O0 Jx c out O W
theorem stE_feet (fx : Feet Jx) (c : Code) : Feet (StE L s0 O0 Jx c) := by
  rintro pre O W W' ⟨out, h⟩ hf
  exact ⟨out, stX_feet (α := Unit) fx (fun _ => out) c [] O W W' h hf⟩
end
set_option maxHeartbeats 8000000 in
theorem steps_iter (n : Nat) (hn : 8 ≤ n) (zb sb fb tb B B2 : Nat) (Wb w0 : World) (zn : ByteArray) (ev sv : Value) (l : List EraF) (S : List SetF) (fr to : Int) (W : World)
    (hzb : Blk W zb 24 #[.string zn, ev]) (hsb : Blk W sb 90 #[setsV zn ev sv]) (hfb : Blk W fb 3 #[.int .i64 fr]) (htb : Blk W tb 3 #[.int .i64 to]) (hz : ZW W B ev sv l S) (ho : ZOk l S) (h0 : errZ S l = 0) (hlet : ∀ s ∈ S, letOk s.l)
    (hE : ∀ e ∈ endL S l, -9000000000000000000 ≤ e ∧ e ≤ 9000000000000000000) (hfr : -4500000000000 ≤ fr ∧ fr ≤ 4500000000000) (hto : -4500000000000 ≤ to ∧ to ≤ 4500000000000)
    (hbs : B2 ≤ sb ∧ B2 ≤ fb ∧ B2 ≤ tb ∧ B ≤ B2) (hB2 : B2 ≤ W.heap.size) (hWb : SameB B2 Wb W) (hm0 : Tryz.MaxL w0) (hw0 : w0.heap.size ≤ B2) :
    Iter Fence.wide n Tryz.prog 147 #[.pointer (some ⟨zb, 0, none⟩), .pointer (some ⟨sb, 0, none⟩), .pointer (some ⟨fb, 0, none⟩), .pointer (some ⟨tb, 0, none⟩)] encC (RC (stepsL S l fr to) B2 Wb) (fun xs => xs = stepsL S l fr to) (fun pre => ∃ rest, stepsL S l fr to = pre ++ rest) (fun k => (k = sb ∨ k = fb ∨ k = tb) ∨ k < B2) (fun k => k = sb ∨ k = fb ∨ k = tb) W := by
  intro lp J Jx fJ fx hY O0 hJ0 hO0 hK
  obtain ⟨hsB, hfB, htB, hBB⟩ := hbs
  show CallsIn Fence.wide n Tryz.prog 147 #[.func (.yield lp) #[] #[], .pointer (some ⟨zb, 0, none⟩), .pointer (some ⟨sb, 0, none⟩), .pointer (some ⟨fb, 0, none⟩), .pointer (some ⟨tb, 0, none⟩)] W _
  refine callsIn_of_wp_marks Tryz.func147 rfl trivial ?_ rfl
  simp only [Tryz.ntmps147, List.size_toArray, List.length_cons, List.length_nil, Nat.reduceAdd, Nat.reduceSub, Array.replicate_succ, Array.replicate_zero, List.push_toArray, List.append_toArray, List.nil_append, List.cons_append]
  have z0 := hzb.cell 0 (v := .string zn) rfl
  have z1 := hzb.cell 1 (v := ev) rfl
  have s0 := hsb.cell 0 (v := setsV zn ev sv) rfl
  have hzl := hzb.lt
  have hsl := hsb.lt
  have hfl := hfb.lt
  have htl := htb.lt
  have HSB := Lib.hid hsb
  have HFB := Lib.hid hfb
  have HTB := Lib.hid htb
  have HZ := Lib.hid hz
  have HO := Lib.hid ho
  have HE0 := Lib.hid h0
  have HLT := Lib.hid hlet
  have HEI := Lib.hid hE
  have HWB := Lib.hid hWb
  obtain ⟨sz, hsz⟩ : ∃ v, setsV zn ev sv = v := ⟨_, rfl⟩
  obtain ⟨Ae, ce, he, -, -⟩ := hz.eras.form
  have HSZ := Lib.hid hsz
  have HEV := Lib.hid he
  rw [hsz] at s0
  rw [he] at z1
  clear hzb hsb hfb htb hz ho h0 hlet hE hWb hsz he
  gi_wp2
  refine wpIn_scope ?_
  gi_wp2
  refine wpIn_label ?_
  gi_wp2
  have hb1 : Below W.heap.size W (W.alloc (.cells #[.func (.yield lp) #[] #[]] 172)) := (Below.refl _ _).alloc (Nat.le_refl _) _
  have hy1 := Blk.new W 172 #[.func (.yield lp) #[] #[]]
  obtain ⟨W1, hW1⟩ : ∃ W1, W.alloc (.cells #[.func (.yield lp) #[] #[]] 172) = W1 := ⟨_, rfl⟩
  rw [hW1] at hb1 hy1 ⊢
  have hs1 := hy1.lt
  have HB1 := Lib.hid hb1
  have HY1 := Lib.hid hy1
  have HSP := Lib.hid (callsIn_wide (n := n - 1).2 (spansZ_any W1 zn ev sv))
  rw [HSZ.out, HEV.out] at HSP
  unfold zoneA at HSP
  clear hW1 z0 z1 s0 hb1 hy1
  refine ⟨trivial, fun _ => by omega, HSP.out.mono ?_⟩
  rintro o w3 ⟨rfl, hb3, hz3, hs3, hs3s⟩
  have HB3 := Lib.hid (HB1.out.trans (hb3.mono HB1.out.size))
  have HY3 := Lib.hid (HY1.out.below hb3 hs1)
  have HC3 := Lib.hid (And.intro hz3 hs3)
  have hw3 := hb3.size
  clear HSP hb3 hz3 hs3
  gi_wp2
  refine range_own (α := Nat) rfl (by omega) (gf := 173) (lb := #[.pointer (some ⟨W1.heap.size, 0, none⟩), .pointer (some ⟨W1.heap.size + 1, 0, none⟩)]) rfl trivial (enters_of Tryz.func173 (by kernel_rfl) rfl)
    (encs := encS l (endL S l)) (R := RS l B2 w3) (K := fun k => k < B2)
    (fun V hV => spansZ_iter (n - 1) (by omega) _ _ B B2 w3 zn ev sv l S V (by rw [HEV.out]; exact HC3.out.1.below hV HC3.out.1.lt) (by rw [HSZ.out]; exact HC3.out.2.below hV HC3.out.2.lt) ((HZ.out.below HB3.out).below hV) HO.out HE0.out hBB (by have := hV.size; omega) (fun k hk => hV.block k (by omega)))
    (fun _ => rfl) (fun pre => StG sb fb tb sz fr to W.heap.size lp W.heap.size O0 J (eraG S l fr to pre)) (StE (stepsL S l fr to) W.heap.size O0 Jx) (stG_feet fJ _) (stE_feet fx)
    (fun k => O0 k ∨ k = W.heap.size ∨ k = sb ∨ k = fb ∨ k = tb) ⟨O0, fun k h => .inl h, fJ _ _ _ _ hJ0 (Fr.of_below HB3.out (Nat.le_refl _)), ⟨.inr (.inl rfl), .inr (.inr (.inl rfl)), .inr (.inr (.inr (.inl rfl))), .inr (.inr (.inr (.inr rfl)))⟩, ⟨fun e => by have := hO0 _ e; omega, hK _ (.inl (.inl rfl)), hK _ (.inl (.inr (.inl rfl))), hK _ (.inl (.inr (.inr rfl)))⟩, fun k h => .inl h, HY3.out, by rw [← HSZ.out]; exact HSB.out.below HB3.out hsl, HFB.out.below HB3.out hfl, HTB.out.below HB3.out htl⟩
    (fun k hk => by rcases hk with h | h | h | h | h; have := hO0 _ h; all_goals omega) (fun k hk => by omega) (fun k hk h => by
      rcases h with h | h | h | h | h
      · exact hK k (.inr hk) h
      · omega
      · omega
      · omega
      · omega) ?round ?done ?stop
  case round =>
    intro l2 pre kx O D V hI hBO hBD hDO hR nOl nDl hlow hltl
    obtain ⟨hnD, rfl, hkl, hsame⟩ := hR
    have hsb : SameB B2 w3 V := ⟨by omega, hsame⟩
    have hVs : w3.heap.size < V.heap.size := by omega
    obtain ⟨k, hpk⟩ : ∃ k, pre.length = k := ⟨_, rfl⟩
    rw [hpk] at hkl ⊢
    have hgx : l.getD k default = l[k] := by rw [List.getD_eq_getElem?_getD, List.getElem?_eq_getElem hkl]; rfl
    have hmem : l[k] ∈ l := List.getElem_mem hkl
    have hoff := errZ_off HE0.out hkl
    obtain ⟨x, hx⟩ : ∃ x, l[k] = x := ⟨_, rfl⟩
    rw [hx] at hgx hmem hoff
    have hfv := fromV_in HEI.out k
    have htv := toV_in HEI.out k
    have HAT := Lib.hid (fun h => eraT_at (S := S) (l := l) (fr := fr) (to := to) (k := k) h)
    have HIN := Lib.hid (fun h => eraT_in (S := S) (l := l) (fr := fr) (to := to) (k := k) h)
    have HSK := Lib.hid (fun h => eraT_skip (S := S) (l := l) (fr := fr) (to := to) (k := k) h)
    obtain ⟨rest0, hrest0⟩ := stepsL_split (S := S) (fr := fr) (to := to) hkl
    obtain ⟨fv, hfv2⟩ : ∃ f, fromV (endL S l) k = f := ⟨_, rfl⟩
    obtain ⟨tv, htv2⟩ : ∃ f, toV (endL S l) k = f := ⟨_, rfl⟩
    unfold encS
    rw [hgx, hfv2, htv2]
    rw [hgx, hfv2, htv2] at HAT HIN
    rw [hfv2, htv2] at HSK
    rw [hfv2] at hfv
    rw [htv2] at htv
    have HREST := Lib.hid hrest0
    have HPK := Lib.hid hpk
    have HBO := Lib.hid hBO
    have HMEM := Lib.hid hmem
    have hE1 := (Blk.new V 42 #[.int .i64 x.n.off, .string x.ru, .int .i64 x.n.save, .string x.fm, .bool x.en, .int .i64 x.n.year, .int .i64 x.n.month, .int .i64 x.n.dk, .int .i64 x.n.dw, .int .i64 x.n.dn, .int .i64 x.n.sec, .int .i64 x.n.ak]).alloc (.cells #[.int .i64 fv, .int .i64 tv] 80)
    have hT1 := Blk.new (V.alloc (.cells #[.int .i64 x.n.off, .string x.ru, .int .i64 x.n.save, .string x.fm, .bool x.en, .int .i64 x.n.year, .int .i64 x.n.month, .int .i64 x.n.dk, .int .i64 x.n.dw, .int .i64 x.n.dn, .int .i64 x.n.sec, .int .i64 x.n.ak] 42)) 80 #[.int .i64 fv, .int .i64 tv]
    rw [World.size_alloc] at hT1
    have hbV : Below V.heap.size V ((V.alloc (.cells #[.int .i64 x.n.off, .string x.ru, .int .i64 x.n.save, .string x.fm, .bool x.en, .int .i64 x.n.year, .int .i64 x.n.month, .int .i64 x.n.dk, .int .i64 x.n.dw, .int .i64 x.n.dn, .int .i64 x.n.sec, .int .i64 x.n.ak] 42)).alloc (.cells #[.int .i64 fv, .int .i64 tv] 80)) := ((Below.refl _ _).alloc (Nat.le_refl _) _).alloc (by simp) _
    unfold EraF.val eraA
    clear hI hBO hBD hDO hsame hpk hgx hmem hx hfv2 htv2 hrest0
    gi_wp2
    intro Vb hfb hIb r0 hr0
    obtain ⟨Oj, hsub, hJ, ⟨oy, os, of_, ot⟩, ⟨ny, ns, nf, nt⟩, hext, hyb, hsbb, hfbb, htbb⟩ := hIb
    have hE2 := hE1.fr hfb (by omega)
    have hT2 := hT1.fr hfb (by omega)
    have hVb : V.heap.size + 2 ≤ Vb.heap.size := Nat.le_trans (by simp) hfb.size
    have hsb2 := (hsb.then_below hbV (by omega)).then_fr hfb (fun k hk e => by omega)
    have HBB := Lib.hid ((HBO.out.fr (Fr.of_below (T := fun _ => True) hbV (Nat.le_refl _))).fr hfb)
    have HS2 := Lib.hid hsb2
    have HSW := Lib.hid ((HWB.out.then_below HB3.out hB2).trans hsb2)
    have HJ := Lib.hid hJ
    have HYB := Lib.hid hyb
    have HSBB := Lib.hid hsbb
    have HFBB := Lib.hid hfbb
    have HTBB := Lib.hid htbb
    have HEB := Lib.hid hE2
    have HTT := Lib.hid hT2
    have HSUB := Lib.hid hsub
    have HEXT := Lib.hid hext
    have HZB := Lib.hid (hsb2.zw (HZ.out.below HB3.out) hBB hm0 hw0)
    have hnyb := hyb.lt
    have HRU := Lib.hid ((wide1 l2).calls (n := n - 1 - 1 - 1) (rulesT_any Vb zn ev sv B S HZB.out.sets HZB.out.le x))
    rw [HSZ.out] at HRU
    unfold EraF.val eraA at HRU
    have t0 := hT2.cell 0 (v := .int .i64 fv) rfl
    have t1 := hT2.cell 1 (v := .int .i64 tv) rfl
    have f0 := hfbb.cell 0 (v := .int .i64 fr) rfl
    have b0 := htbb.cell 0 (v := .int .i64 to) rfl
    have q0 := hsbb.cell 0 (v := sz) rfl
    have e0 := hE2.cell 0 (v := .int .i64 x.n.off) rfl
    have e1 := hE2.cell 1 (v := .string x.ru) rfl
    have e2 := hE2.cell 2 (v := .int .i64 x.n.save) rfl
    have e3 := hE2.cell 3 (v := .string x.fm) rfl
    have e4 := hE2.cell 4 (v := .bool x.en) rfl
    have e5 := hE2.cell 5 (v := .int .i64 x.n.year) rfl
    have e6 := hE2.cell 6 (v := .int .i64 x.n.month) rfl
    have e7 := hE2.cell 7 (v := .int .i64 x.n.dk) rfl
    have e8 := hE2.cell 8 (v := .int .i64 x.n.dw) rfl
    have e9 := hE2.cell 9 (v := .int .i64 x.n.dn) rfl
    have e10 := hE2.cell 10 (v := .int .i64 x.n.sec) rfl
    have e11 := hE2.cell 11 (v := .int .i64 x.n.ak) rfl
    have hebl := hE2.lt
    have htbl := hT2.lt
    have hsbl := hsbb.lt
    have hfbl := hfbb.lt
    have htbl2 := htbb.lt
    have hwrap : wrap64 (tv - 1) = tv - 1 := IntWalk.wrap64_in _ (by omega)
    have hwrap2 : IntKind.i64.wrap (tv - 1) = tv - 1 := IntWalk.i64_in _ (by omega)
    clear hsb hsb2 hE1 hT1 hE2 hT2 hbV hfb hJ hyb hsbb hfbb htbb hsub hext
    have hskip : (tv - 1 ≤ fr ∨ to < fv) ∨ ¬ (tv - 1 ≤ fr ∨ to < fv) := Classical.em _
    rcases hskip with hsk | hsk
    · have HG := Lib.hid (show eraG S l fr to (pre ++ [k]) = eraG S l fr to pre by
        unfold eraG
        rw [List.length_append, List.length_singleton, HPK.out, stepsF_succ, HSK.out hsk, List.append_nil])
      have hcase : decide (tv - 1 ≤ fr) = true ∨ (decide (tv - 1 ≤ fr) = false ∧ decide (to < fv) = true) := by
        by_cases h : tv - 1 ≤ fr
        · exact .inl (decide_eq_true h)
        · exact .inr ⟨decide_eq_false h, decide_eq_true (by omega)⟩
      clear HRU hsk
      rcases hcase with c1 | ⟨c1, c2⟩
      all_goals
        gi_wp2
        refine ⟨O, fun k h => .inl h, HBB.out, Fr.refl _ _, ?_⟩
        show StG _ _ _ _ _ _ _ _ _ _ _ (eraG S l fr to (pre ++ [k])) O Vb
        rw [HG.out]
        exact ⟨Oj, HSUB.out, HJ.out, ⟨oy, os, of_, ot⟩, ⟨ny, ns, nf, nt⟩, HEXT.out, HYB.out, HSBB.out, HFBB.out, HTBB.out⟩
    · have d1 : decide (tv - 1 ≤ fr) = false := decide_eq_false (by omega)
      have d2 : decide (to < fv) = false := decide_eq_false (by omega)
      have HNS := Lib.hid hsk
      obtain ⟨A, cR, hrv⟩ := rvalE_form HZB.out.sets x
      have HRL := Lib.hid (HZB.out.sets.rule x)
      rw [hrv] at HRU HRL
      have HRV := Lib.hid hrv
      have HRO := Lib.hid (HO.out.rule x)
      have HLO := Lib.hid (ZOk.ruleL HLT.out x)
      obtain ⟨R, hR⟩ : ∃ R, ruleE S x = R := ⟨_, rfl⟩
      rw [hR] at HRU HRL HAT HIN HRO HLO
      have HRQ := Lib.hid hR
      have hfm := HO.out.fm x HMEM.out
      clear hrv hR
      gi_wp2
      refine ⟨trivial, fun _ => by omega, HRU.out.mono ?_⟩
      rintro o w5 ⟨rfl, hb5⟩
      have HB5 := Lib.hid hb5
      have HQ := Lib.hid (fun (U : World) (h : Below w5.heap.size w5 U) => show U.cell? ⟨V.heap.size + 1, 0, none⟩ = some (.int .i64 fv) ∧ U.cell? ⟨V.heap.size + 1, 1, none⟩ = some (.int .i64 tv) ∧ U.cell? ⟨fb, 0, none⟩ = some (.int .i64 fr) ∧ U.cell? ⟨W.heap.size, 0, none⟩ = some (.func (.yield lp) #[] #[]) ∧ (U.cell? ⟨V.heap.size, 0, none⟩ = some (.int .i64 x.n.off) ∧ U.cell? ⟨V.heap.size, 1, none⟩ = some (.string x.ru) ∧ U.cell? ⟨V.heap.size, 2, none⟩ = some (.int .i64 x.n.save) ∧ U.cell? ⟨V.heap.size, 3, none⟩ = some (.string x.fm) ∧ U.cell? ⟨V.heap.size, 4, none⟩ = some (.bool x.en) ∧ U.cell? ⟨V.heap.size, 5, none⟩ = some (.int .i64 x.n.year) ∧ U.cell? ⟨V.heap.size, 6, none⟩ = some (.int .i64 x.n.month) ∧ U.cell? ⟨V.heap.size, 7, none⟩ = some (.int .i64 x.n.dk) ∧ U.cell? ⟨V.heap.size, 8, none⟩ = some (.int .i64 x.n.dw) ∧ U.cell? ⟨V.heap.size, 9, none⟩ = some (.int .i64 x.n.dn) ∧ U.cell? ⟨V.heap.size, 10, none⟩ = some (.int .i64 x.n.sec) ∧ U.cell? ⟨V.heap.size, 11, none⟩ = some (.int .i64 x.n.ak)) from by
        have hb := HB5.out.trans (h.mono HB5.out.size)
        have hh := HEB.out.below hb HEB.out.lt
        exact ⟨(HTT.out.below hb HTT.out.lt).cell 0 rfl, (HTT.out.below hb HTT.out.lt).cell 1 rfl, (HFBB.out.below hb HFBB.out.lt).cell 0 rfl, (HYB.out.below hb HYB.out.lt).cell 0 rfl, hh.cell 0 rfl, hh.cell 1 rfl, hh.cell 2 rfl, hh.cell 3 rfl, hh.cell 4 rfl, hh.cell 5 rfl, hh.cell 6 rfl, hh.cell 7 rfl, hh.cell 8 rfl, hh.cell 9 rfl, hh.cell 10 rfl, hh.cell 11 rfl⟩)
      have hs5 := hb5.size
      have hwd := wide1 l2
      obtain ⟨p0, p1, p2, p3, m0, m1, m2, m3, m4, m5, m6, m7, m8, m9, m10, m11⟩ := HQ.out w5 (Below.refl _ _)
      clear hb5 t0 t1 f0 b0 q0 e0 e1 e2 e3 e4 e5 e6 e7 e8 e9 e10 e11 HRU
      by_cases hat : fr < fv
      · have d3 : decide (fr < fv) = true := decide_eq_true hat
        have HG := Lib.hid (HAT.out HNS.out hat)
        have HSH := Lib.hid (fun (U : World) (h : Below w5.heap.size w5 U) => shown_any U x B (.slice A R.length cR) R ((HZB.out.maxl.below HB5.out (Nat.le_refl _)).below h (Nat.le_refl _)) hfm ((RW.mk HRL.out HZB.out.ahead HZB.out.tab HZB.out.le).below (HB5.out.trans (h.mono hs5))) HRO.out fv (by omega) (by omega) (by omega) (sum_ok HRO.out HLO.out hoff.2))
        obtain ⟨⟨yo, yd, ys⟩, hy⟩ : ∃ y, locW x R fv = y := ⟨_, rfl⟩
        rw [hy] at HSH HG
        unfold EraF.val eraA chgA at HSH
        clear hat hy
        obtain ⟨out, hout⟩ : ∃ o, eraG S l fr to pre = o := ⟨_, rfl⟩
        have HOUT := Lib.hid hout
        have HJ2 := Lib.hid (show J out Oj Vb by rw [← HOUT.out]; exact HJ.out)
        have hnext : ∃ rest, stepsL S l fr to = out ++ ⟨fv, ⟨yo, yd, ys⟩⟩ :: rest := by
          have h := HREST.out
          rw [HG.out] at h
          refine ⟨turnsL x R (max fr fv) (min to (tv - 1)) ++ rest0, h.trans ?_⟩
          rw [← HOUT.out]
          unfold eraG
          rw [HPK.out]
          rfl
        have HNX := Lib.hid hnext
        clear hnext hout
        gi_wp2
        refine wpIn_envY (fin := ?fnY) hwd (by kernel_rfl) [29, 30, 31, 32, 33, 34, 35, 36, 37, 38, 39, 40, 41, 42]
          [.pointer (some ⟨V.heap.size + 1, 0, none⟩), .int .i64 fv, .int .i64 fr, .bool true, .bool true, .func (.yield lp) #[] #[], .agg #[.int .i64 x.n.off, .string x.ru, .int .i64 x.n.save, .string x.fm, .bool x.en, .int .i64 x.n.year, .int .i64 x.n.month, .int .i64 x.n.dk, .int .i64 x.n.dw, .int .i64 x.n.dn, .int .i64 x.n.sec, .int .i64 x.n.ak], .slice A R.length cR, .pointer (some ⟨V.heap.size + 1, 0, none⟩), .int .i64 fv, .agg #[.int .i64 fv, .int .i64 yo, .bool yd, .string ys]]
          (fun b => [.bool (!b), .bool (!b)]) (fun b U => ∃ O6, (∀ k, O6 k → Oj k ∨ Vb.heap.size ≤ k) ∧ Bd O6 U ∧ Fr Oj Vb U ∧ ((b = true ∧ J (out ++ [⟨fv, ⟨yo, yd, ys⟩⟩]) O6 U) ∨ (b = false ∧ Jx (out ++ [⟨fv, ⟨yo, yd, ys⟩⟩]) O6 U))) (by kernel_rfl) ?finY ?stepsY ?nextY
        case finY =>
          intro b_
          simp only [List.cons_append, List.nil_append, putAll, Act.put, List.setIfInBounds_toArray, List.set_cons_succ, List.set_cons_zero]
          rfl
        case stepsY =>
          refine ⟨?_, ?_, ?_, ?_, ?_, ?_, ?_, ?_, ?_, ?_, ?_, ⟨fun b_ => by kernel_rfl, fun w1_ hB_ => ?yld⟩, fun b_ => ⟨.inr ⟨by kernel_rfl, fun w1_ => ?_⟩, .inr ⟨by kernel_rfl, fun w1_ => ?_⟩, trivial⟩⟩
          case yld =>
            have hb := HB5.out.trans (hB_.mono hs5)
            obtain ⟨fn, tmps, assign, body, hyd, hRd⟩ := hY out ⟨fv, ⟨yo, yd, ys⟩⟩ (fun _ => False) Oj w1_ (fJ _ _ _ _ HJ2.out (Fr.of_below hb (Nat.le_refl _))) (fun k h => Nat.lt_of_lt_of_le (HBB.out k (HSUB.out k h)) hb.size) (fun _ h => h.elim) (fun _ h => h.elim) ⟨fun _ h => h, HNX.out, HSW.out.then_below hb HS2.out.size⟩
            unfold encC chgA at hyd
            simp only at hyd
            refine ⟨lp, fn, tmps, assign, body, fun b_ => ?_, (roundIn_in hRd).mono ?_⟩
            · go_simp
              try rfl
            · rintro e U ⟨O6, hx6, hbd6, hf6, hend⟩
              have h1 : ∀ k, O6 k → Oj k ∨ Vb.heap.size ≤ k := fun k h => by
                rcases hx6 k h with h | h | h
                · exact .inl h
                · exact h.elim
                · exact .inr (Nat.le_trans hb.size h)
              have h2 : Fr Oj Vb U := (Fr.of_below hb (Nat.le_refl _)).then (hf6.mono fun k hk => .inl (hk.elim id False.elim))
              rcases hend with ⟨rfl, h3⟩ | ⟨rfl, h3⟩
              · exact ⟨true, rfl, O6, h1, hbd6, h2, .inl ⟨rfl, h3⟩⟩
              · exact ⟨false, rfl, O6, h1, hbd6, h2, .inr ⟨rfl, h3⟩⟩
          all_goals
            first
              | (intro b_
                 refine .inr ⟨by kernel_rfl, fun w1_ hB_ => ?_⟩
                 obtain ⟨p0, p1, p2, p3, m0, m1, m2, m3, m4, m5, m6, m7, m8, m9, m10, m11⟩ := HQ.out w1_ hB_
                 go_simp
                 first
                   | exact ⟨rfl, Below.refl _ _⟩
                   | exact ⟨rfl, HSH.out _ hB_⟩)
              | (go_simp; done)
              | (cases b_ <;> go_simp <;> rfl)
        case nextY =>
          rintro b v6 ⟨O6, hx6, hbd6, hf6, hend⟩
          have HT1 := Lib.hid (show eraG S l fr to (pre ++ [k]) = (out ++ [⟨fv, ⟨yo, yd, ys⟩⟩]) ++ turnsL x R (max fr fv) (min to (tv - 1)) by
            unfold eraG
            rw [List.length_append, List.length_singleton, HPK.out, stepsF_succ, HG.out, ← HOUT.out]
            unfold eraG
            rw [HPK.out, List.append_assoc]
            rfl)
          have HT2 := Lib.hid (show stepsL S l fr to = (out ++ [⟨fv, ⟨yo, yd, ys⟩⟩]) ++ (turnsL x R (max fr fv) (min to (tv - 1)) ++ rest0) by
            rw [HREST.out, HG.out, ← HOUT.out]
            unfold eraG
            rw [HPK.out, List.append_assoc]
            rfl)
          obtain ⟨out6, hout6⟩ : ∃ o, out ++ [⟨fv, ⟨yo, yd, ys⟩⟩] = o := ⟨_, rfl⟩
          rw [hout6] at hend HT1 HT2
          clear hout6
          rcases hend with ⟨rfl, hJ6⟩ | ⟨rfl, hJx6⟩
          ·
            have hno6 : ∀ k, k < Vb.heap.size → ¬ Oj k → ¬ O6 k := fun k hk hn h => (hx6 k h).elim hn (fun h => by omega)
            have hnV : ∀ k, V.heap.size ≤ k → ¬ Oj k := fun k hk h => by have := HBO.out k (HSUB.out k h); omega
            have hY6 := HYB.out.fr hf6 ny
            have hS6 := HSBB.out.fr hf6 ns
            have hF6 := HFBB.out.fr hf6 nf
            have hT6 := HTBB.out.fr hf6 nt
            have hE6 := HEB.out.fr hf6 (hnV _ (Nat.le_refl _))
            have hP6 := HTT.out.fr hf6 (hnV _ (by omega))
            have hext6 : ∀ k, O6 k → O0 k ∨ W.heap.size ≤ k := fun k h => by
              rcases hx6 k h with h | h
              · exact HEXT.out k h
              · exact .inr (by omega)
            have hnB : ∀ k, k < B2 → ¬ Oj k := fun k hk h => by
              rcases HEXT.out k h with h | h
              · exact hK k (.inr hk) h
              · omega
            have hsb6 := HSW.out.then_fr hf6 hnB
            have hz6 := (HS2.out.then_fr hf6 hnB).zw (HZ.out.below HB3.out) hBB hm0 hw0
            have HRW6 := Lib.hid (show RW v6 B (.slice A R.length cR) R by
              have h := hz6.sets.rule x
              rw [HRV.out, HRQ.out] at h
              exact ⟨h, hz6.ahead, hz6.tab, hz6.le⟩)
            have HMX6 := Lib.hid hz6.maxl
            have hs6 := hf6.size
            have hl6 : v6.heap[l2]? = some (.loop r0) := (hf6.block l2 (Array.getElem?_eq_some_iff.1 hr0).1 (fun h => nOl (HSUB.out _ h))).trans hr0
            have HL6 := Lib.hid hl6
            have HY6 := Lib.hid hY6
            have HS6 := Lib.hid hS6
            have HF6 := Lib.hid hF6
            have HT6 := Lib.hid hT6
            have HSW6 := Lib.hid hsb6
            have HJ6 := Lib.hid hJ6
            have HX6 := Lib.hid hx6
            have HF6R := Lib.hid hf6
            have HEX6 := Lib.hid hext6
            have HNO6 := Lib.hid hno6
            have HBD6 := Lib.hid hbd6
            have e0 := hE6.cell 0 (v := .int .i64 x.n.off) rfl
            have e1 := hE6.cell 1 (v := .string x.ru) rfl
            have e2 := hE6.cell 2 (v := .int .i64 x.n.save) rfl
            have e3 := hE6.cell 3 (v := .string x.fm) rfl
            have e4 := hE6.cell 4 (v := .bool x.en) rfl
            have e5 := hE6.cell 5 (v := .int .i64 x.n.year) rfl
            have e6 := hE6.cell 6 (v := .int .i64 x.n.month) rfl
            have e7 := hE6.cell 7 (v := .int .i64 x.n.dk) rfl
            have e8 := hE6.cell 8 (v := .int .i64 x.n.dw) rfl
            have e9 := hE6.cell 9 (v := .int .i64 x.n.dn) rfl
            have e10 := hE6.cell 10 (v := .int .i64 x.n.sec) rfl
            have e11 := hE6.cell 11 (v := .int .i64 x.n.ak) rfl
            have t0 := hP6.cell 0 (v := .int .i64 fv) rfl
            have t1 := hP6.cell 1 (v := .int .i64 tv) rfl
            have f0 := hF6.cell 0 (v := .int .i64 fr) rfl
            have b0 := hT6.cell 0 (v := .int .i64 to) rfl
            have heq : ∀ (w : World) (a : Option Addr) (n c n' c' : Nat), (binOp .eql 52 (.slice a n c) (.slice none n' c')).run Tryz.prog w = .ok (.bool a.isNone) w := fun w a n c n' c' => Lib.run_eql_slice_nil w _ _ a n c n' c' Tryz.underlying52
            have hOO : ∀ k, (O k ∨ O6 k) → O k ∨ D k ∨ Vb.heap.size ≤ k := fun k h => by
              rcases h with h | h
              · exact .inl h
              · rcases HX6.out k h with h | h
                · exact .inl (HSUB.out k h)
                · exact .inr (.inr h)
            have hfrO : Fr (fun k => O k ∨ D k) Vb v6 := HF6R.out.mono fun k h => .inl (.inl (HSUB.out k h))
            have HOO := Lib.hid hOO
            have HFRO := Lib.hid hfrO
            clear hno6 hnV hY6 hS6 hF6 hT6 hE6 hP6 hext6 hnB hsb6 hz6 hl6 hJ6 hx6 hf6 hbd6 hOO hfrO p0 p1 p2 p3 m0 m1 m2 m3 m4 m5 m6 m7 m8 m9 m10 m11
            cases hA : A with
            | none =>
              have hnil : R = [] := by
                rcases Nat.eq_zero_or_pos R.length with h | h
                · exact List.eq_nil_of_length_eq_zero h
                · exfalso
                  obtain ⟨b, o, c', e, -⟩ := HRL.out.cells h
                  rw [hA] at e
                  cases e
              have HT1N := Lib.hid (show eraG S l fr to (pre ++ [k]) = out6 by rw [HT1.out, hnil, turnsL_nil, List.append_nil])
              clear hnil
              gi_wp2
              refine ⟨fun k => O k ∨ O6 k, HOO.out, fun k h => h.elim ((HBB.out.fr HFRO.out) k) (HBD6.out k), HFRO.out, ?_⟩
              show StG _ _ _ _ _ _ _ _ _ _ _ (eraG S l fr to (pre ++ [k])) _ v6
              rw [HT1N.out]
              exact ⟨O6, fun k h => .inr h, HJ6.out, ⟨.inl oy, .inl os, .inl of_, .inl ot⟩, ⟨HNO6.out _ hnyb ny, HNO6.out _ hsbl ns, HNO6.out _ hfbl nf, HNO6.out _ htbl2 nt⟩, HEX6.out, HY6.out, HS6.out, HF6.out, HT6.out⟩
            | some a6 =>
              subst hA
              have HTU := Lib.hid ((wide1 l2).calls (n := n - 1 - 1 - 1) (turns_any v6 x (.slice (some a6) R.length cR) (some a6) R.length cR rfl (max fr fv) (min to (tv - 1))))
              unfold EraF.val eraA at HTU
              gi_wp2
              refine ⟨trivial, fun _ => by omega, HTU.out.mono ?_⟩
              rintro o w8 ⟨rfl, hb8, g0, g1, g2, g3, hs8⟩
              have HB8 := Lib.hid hb8
              have HC8 := Lib.hid (And.intro g0 (And.intro g1 (And.intro g2 g3)))
              have hl8 : w8.heap[l2]? = some (.loop r0) := (hb8.block l2 (Array.getElem?_eq_some_iff.1 HL6.out).1).trans HL6.out
              have hl6s := (Array.getElem?_eq_some_iff.1 HL6.out).1
              clear HTU hb8 g0 g1 g2 g3 t0 t1 f0 b0 heq e0 e1 e2 e3 e4 e5 e6 e7 e8 e9 e10 e11
              gi_wp2
              refine range_own_in (α := Chg) (l₀ := l2) (r₀ := r0) rfl hl8 (by omega) (gf := 175) (lb := #[.pointer (some ⟨v6.heap.size, 0, none⟩), .pointer (some ⟨v6.heap.size + 1, 0, none⟩), .pointer (some ⟨v6.heap.size + 2, 0, none⟩), .pointer (some ⟨v6.heap.size + 3, 0, none⟩)]) rfl trivial (enters_of Tryz.func175 (by kernel_rfl) rfl)
                (encs := encC) (R := RC (turnsL x R (max fr fv) (min to (tv - 1))) B2 Wb) (K := fun k => (k = v6.heap.size ∨ k = v6.heap.size + 1) ∨ k < B2)
                (fun U hU => iter_in (turns_iter (n - 1 - 1 - 1) (by omega) _ _ _ _ B B2 Wb w0 x _ R (max fr fv) (min to (tv - 1)) U (HC8.out.1.below hU HC8.out.1.lt) (HC8.out.2.1.below hU HC8.out.2.1.lt) (HC8.out.2.2.1.below hU HC8.out.2.2.1.lt) (HC8.out.2.2.2.below hU HC8.out.2.2.2.lt) ((HRW6.out.below HB8.out).below hU) HRO.out HLO.out ((HMX6.out.below HB8.out (Nat.le_refl _)).below hU (Nat.le_refl _)) hfm (by omega) hoff.2 (by omega) (by omega) ⟨by omega, by omega, hBB⟩ (by have := hU.size; omega) ((HSW6.out.then_below HB8.out (by omega)).then_below hU (by omega)) hm0 hw0))
                (fun _ => rfl) (fun pre2 => StG sb fb tb sz fr to W.heap.size lp W.heap.size O0 J (out6 ++ pre2)) (fun c pre2 => StX (stepsL S l fr to) W.heap.size O0 Jx c (out6 ++ pre2)) (stG_feet fJ (fun pre2 => out6 ++ pre2)) (fun c => stX_feet fx (fun pre2 => out6 ++ pre2) c)
                (fun k => O6 k ∨ k = W.heap.size ∨ k = sb ∨ k = fb ∨ k = tb) ⟨O6, fun k h => .inl h, fJ _ _ _ _ (by rw [List.append_nil]; exact HJ6.out) (Fr.of_below HB8.out (Nat.le_refl _)), ⟨.inr (.inl rfl), .inr (.inr (.inl rfl)), .inr (.inr (.inr (.inl rfl))), .inr (.inr (.inr (.inr rfl)))⟩, ⟨HNO6.out _ hnyb ny, HNO6.out _ hsbl ns, HNO6.out _ hfbl nf, HNO6.out _ htbl2 nt⟩, HEX6.out, HY6.out.below HB8.out HY6.out.lt, HS6.out.below HB8.out HS6.out.lt, HF6.out.below HB8.out HF6.out.lt, HT6.out.below HB8.out HT6.out.lt⟩
                (fun k hk => by rcases hk with h | h | h | h | h; have := HBD6.out _ h; all_goals omega) (fun k hk => by omega) (fun k hk h => by
                  rcases h with h | h | h | h | h
                  · rcases hk with hk | hk
                    · have := HBD6.out _ h
                      omega
                    · rcases HEX6.out k h with h | h
                      · exact hK k (.inr hk) h
                      · omega
                  · omega
                  · omega
                  · omega
                  · omega) ?round2x ?done2x ?stop2x
              case round2x =>
                intro l3 pre2 c O3 D3 U hI3 hBO3 hBD3 hDO3 hR3 nOl3 nDl3 hlow3 hltl3
                obtain ⟨ca, ⟨co, cd, cs⟩⟩ := c
                obtain ⟨hnD3, ⟨rest3, hrest3⟩, hsame3⟩ := hR3
                have HR3 := Lib.hid hrest3
                have HS3 := Lib.hid hsame3
                have HBO3 := Lib.hid hBO3
                have HC3U := Lib.hid (Blk.new U 76 #[.int .i64 ca, .int .i64 co, .bool cd, .string cs])
                have HB3U := Lib.hid ((Below.refl U.heap.size U).alloc (Nat.le_refl _) (.cells #[.int .i64 ca, .int .i64 co, .bool cd, .string cs] 76))
                unfold encC chgA
                clear hI3 hBO3 hBD3 hDO3 hrest3 hsame3
                gi_wp2
                refine ⟨HB3U.out, ?_⟩
                intro Ub hfb3 hIb3 _
                obtain ⟨Oj3, hsub3, hJ3, ⟨oy3, os3, of3, ot3⟩, ⟨ny3, ns3, nf3, nt3⟩, hext3, hyb3, hsb3, hfb3b, htb3⟩ := hIb3
                have hC3 := HC3U.out.fr hfb3 (by omega)
                have hUb : U.heap.size ≤ Ub.heap.size := Nat.le_trans HB3U.out.size hfb3.size
                have HSM := Lib.hid ((SameB.then_below HS3.out HB3U.out (SameB.size HS3.out)).then_fr hfb3 (fun k hk e => by omega))
                have HFRU := Lib.hid ((Fr.of_below (T := fun _ => True) HB3U.out (Nat.le_refl _)).then (hfb3.mono fun k _ => .inl trivial))
                have k0 := hC3.cell 0 (v := .int .i64 ca) rfl
                have k1 := hC3.cell 1 (v := .int .i64 co) rfl
                have k2 := hC3.cell 2 (v := .bool cd) rfl
                have k3 := hC3.cell 3 (v := .string cs) rfl
                have y0 := hyb3.cell 0 (v := .func (.yield lp) #[] #[]) rfl
                have hcl3 := hC3.lt
                have hyl3 := hyb3.lt
                have hsl3 := hsb3.lt
                have hfl3 := hfb3b.lt
                have htl3 := htb3.lt
                have HNX3 := Lib.hid (show stepsL S l fr to = (out6 ++ pre2) ++ ⟨ca, ⟨co, cd, cs⟩⟩ :: (rest3 ++ rest0) by
                  rw [HT2.out, HR3.out]
                  simp)
                have HBJ := Lib.hid (show Bd Oj3 Ub from fun k h => Nat.lt_of_lt_of_le (HBO3.out k (hsub3 k h)) hUb)
                obtain ⟨fn, tmps, assign, body, hyd, hRd⟩ := hY (out6 ++ pre2) ⟨ca, ⟨co, cd, cs⟩⟩ (fun _ => False) Oj3 Ub hJ3 HBJ.out (fun _ h => h.elim) (fun _ h => h.elim) ⟨fun _ h => h, ⟨_, HNX3.out⟩, HSM.out⟩
                unfold encC chgA at hyd
                simp only at hyd
                have HRD := Lib.hid hRd
                have HSUB3 := Lib.hid hsub3
                have HEXT3 := Lib.hid hext3
                have HYB3 := Lib.hid hyb3
                have HSB3 := Lib.hid hsb3
                have HFB3 := Lib.hid hfb3b
                have HTB3 := Lib.hid htb3
                clear hRd hsub3 hext3 hyb3 hsb3 hfb3b htb3 hJ3 hC3 hfb3
                gi_wp2
                refine ⟨fun _ => by omega, (roundIn_in HRD.out).mono ?_⟩
                rintro o V7 ⟨O7, hx7, hbd7, hf7, hend7⟩
                have hY7 := HYB3.out.fr hf7 (fun e => e.elim ny3 id)
                have hS7 := HSB3.out.fr hf7 (fun e => e.elim ns3 id)
                have hF7 := HFB3.out.fr hf7 (fun e => e.elim nf3 id)
                have hT7 := HTB3.out.fr hf7 (fun e => e.elim nt3 id)
                have hext7 : ∀ k, O7 k → O0 k ∨ W.heap.size ≤ k := fun k h => by
                  rcases hx7 k h with h | h | h
                  · exact HEXT3.out k h
                  · exact h.elim
                  · exact .inr (by omega)
                have hno7 : ∀ k, k < Ub.heap.size → ¬ Oj3 k → ¬ O7 k := fun k hk hn h => by
                  rcases hx7 k h with h | h | h
                  · exact hn h
                  · exact h
                  · omega
                have hOO7 : ∀ k, (O3 k ∨ O7 k) → O3 k ∨ D3 k ∨ Ub.heap.size ≤ k := fun k h => by
                  rcases h with h | h
                  · exact .inl h
                  · rcases hx7 k h with h | h | h
                    · exact .inl (HSUB3.out k h)
                    · exact h.elim
                    · exact .inr (.inr h)
                have hfr7 : Fr (fun k => O3 k ∨ D3 k) Ub V7 := hf7.mono fun k hk => .inl (.inl (HSUB3.out k (hk.elim id False.elim)))
                have hbd7' : Bd (fun k => O3 k ∨ O7 k) V7 := fun k h => by
                  rcases h with h | h
                  · exact Nat.lt_of_lt_of_le (HBO3.out k h) (Nat.le_trans hUb hf7.size)
                  · exact hbd7 k h
                clear hyd
                rcases hend7 with ⟨rfl, hJ7⟩ | ⟨rfl, hJx7⟩
                · have HJ7 := Lib.hid hJ7
                  clear hJ7
                  gi_wp2
                  exact ⟨fun k => O3 k ∨ O7 k, hOO7, hbd7', hfr7, O7, fun k h => .inr h, (by rw [← List.append_assoc]; exact HJ7.out), ⟨.inl oy3, .inl os3, .inl of3, .inl ot3⟩, ⟨hno7 _ hyl3 ny3, hno7 _ hsl3 ns3, hno7 _ hfl3 nf3, hno7 _ htl3 nt3⟩, hext7, hY7, hS7, hF7, hT7⟩
                · have HJ7 := Lib.hid hJx7
                  clear hJx7
                  gi_wp2
                  exact ⟨fun k => O3 k ∨ O7 k, hOO7, hbd7', hfr7, O7, fun k h => .inr h, hext7, rfl, (by rw [← List.append_assoc]; exact HJ7.out), rest3 ++ rest0, (by rw [HNX3.out]; simp)⟩
              case done2x =>
                intro xs3 O3 U hS3 hI3 hO3 hBO3 hfr3
                have HFIN := Lib.hid ((HFRO.out.then (Fr.of_below HB8.out (Nat.le_refl _))).trans hfr3 (fun k hk => by
                  rcases hk with (hk | hk | hk | hk | hk) | hk
                  · rcases HX6.out k hk with h | h
                    · exact .inl (.inl (HSUB.out k h))
                    · exact .inr h
                  · exact .inl (.inl (by rw [hk]; exact oy))
                  · exact .inl (.inl (by rw [hk]; exact os))
                  · exact .inl (.inl (by rw [hk]; exact of_))
                  · exact .inl (.inl (by rw [hk]; exact ot))
                  · exact .inr (by omega)))
                have HO3 := Lib.hid (show ∀ k, O3 k → O k ∨ D k ∨ Vb.heap.size ≤ k from fun k h => by
                  rcases hO3 k h with (hk | hk | hk | hk | hk) | hk
                  · rcases HX6.out k hk with h | h
                    · exact .inl (HSUB.out k h)
                    · exact .inr (.inr h)
                  · exact .inl (by rw [hk]; exact oy)
                  · exact .inl (by rw [hk]; exact os)
                  · exact .inl (by rw [hk]; exact of_)
                  · exact .inl (by rw [hk]; exact ot)
                  · exact .inr (.inr (by have := HB8.out.size; omega)))
                have HI3 := Lib.hid (show StG sb fb tb sz fr to W.heap.size lp W.heap.size O0 J (eraG S l fr to (pre ++ [k])) O3 U by
                  rw [HT1.out, ← hS3]
                  exact hI3)
                have HBD3 := Lib.hid hBO3
                clear hS3 hI3 hO3 hBO3 hfr3
                gi_wp2
                exact ⟨O3, HO3.out, HBD3.out, HFIN.out, HI3.out⟩
              case stop2x =>
                intro c pre2 O3 U hS3 hX3 hO3 hBO3 hfr3
                have HFIN := Lib.hid ((HFRO.out.then (Fr.of_below HB8.out (Nat.le_refl _))).trans hfr3 (fun k hk => by
                  rcases hk with (hk | hk | hk | hk | hk) | hk
                  · rcases HX6.out k hk with h | h
                    · exact .inl (.inl (HSUB.out k h))
                    · exact .inr h
                  · exact .inl (.inl (by rw [hk]; exact oy))
                  · exact .inl (.inl (by rw [hk]; exact os))
                  · exact .inl (.inl (by rw [hk]; exact of_))
                  · exact .inl (.inl (by rw [hk]; exact ot))
                  · exact .inr (by omega)))
                have HO3 := Lib.hid (show ∀ k, O3 k → O k ∨ D k ∨ Vb.heap.size ≤ k from fun k h => by
                  rcases hO3 k h with (hk | hk | hk | hk | hk) | hk
                  · rcases HX6.out k hk with h | h
                    · exact .inl (HSUB.out k h)
                    · exact .inr (.inr h)
                  · exact .inl (by rw [hk]; exact oy)
                  · exact .inl (by rw [hk]; exact os)
                  · exact .inl (by rw [hk]; exact of_)
                  · exact .inl (by rw [hk]; exact ot)
                  · exact .inr (.inr (by have := HB8.out.size; omega)))
                obtain ⟨Oj3, hsub3, hext3, rfl, hJx3, r2, hr2⟩ := hX3
                have HX3 := Lib.hid (And.intro hsub3 (And.intro hext3 (And.intro hJx3 hr2)))
                have HBD3 := Lib.hid hBO3
                clear hS3 hO3 hBO3 hfr3 hsub3 hext3 hJx3 hr2
                gi_wp2
                exact ⟨O3, HO3.out, HBD3.out, HFIN.out, out6 ++ pre2, Oj3, HX3.out.1, HX3.out.2.1, rfl, HX3.out.2.2.1, r2, HX3.out.2.2.2⟩
          · have HX6 := Lib.hid hx6
            have HF6R := Lib.hid hf6
            have HBD6 := Lib.hid hbd6
            have HJX := Lib.hid hJx6
            clear hx6 hf6 hbd6 hJx6
            gi_wp2
            exact ⟨fun k => O k ∨ O6 k, (fun k h => by
              rcases h with h | h
              · exact .inl h
              · rcases HX6.out k h with h | h
                · exact .inl (HSUB.out k h)
                · exact .inr (.inr h)), (fun k h => h.elim ((HBB.out.fr HF6R.out) k) (HBD6.out k)), (HF6R.out.mono fun k h => .inl (.inl (HSUB.out k h))), out6, O6, (fun k h => .inr h), (fun k h => by
              rcases HX6.out k h with h | h
              · exact HEXT.out k h
              · exact .inr (by omega)), rfl, HJX.out, ⟨_, HT2.out⟩⟩
      · have d3 : decide (fr < fv) = false := decide_eq_false hat
        have HG := Lib.hid (HIN.out HNS.out (by omega))
        obtain ⟨out6, hout6⟩ : ∃ o, eraG S l fr to pre = o := ⟨_, rfl⟩
        have HT1 := Lib.hid (show eraG S l fr to (pre ++ [k]) = out6 ++ turnsL x R (max fr fv) (min to (tv - 1)) by
          rw [← hout6]
          unfold eraG
          rw [List.length_append, List.length_singleton, HPK.out, stepsF_succ, HG.out])
        have HT2 := Lib.hid (show stepsL S l fr to = out6 ++ (turnsL x R (max fr fv) (min to (tv - 1)) ++ rest0) by
          rw [HREST.out, HG.out, ← hout6]
          unfold eraG
          rw [HPK.out])
        have HJ2 := Lib.hid (show J out6 Oj Vb by rw [← hout6]; exact HJ.out)
        clear hat hout6
        gi_wp2
        refine wpIn_env (fin := ?fnzs) (hwd) (by kernel_rfl) [29, 30, 31, 32, 33, 34, 35, 36, 37, 38, 39, 40, 41, 42]
          [.pointer (some ⟨V.heap.size + 1, 0, none⟩), .int .i64 fv, .int .i64 fr, .bool false, .bool false, undef, undef, undef, undef, undef, undef, undef, undef, .bool false] (by kernel_rfl) ?finzs ?stepszs ?nextzs
        case finzs =>
          simp only [putAll, Act.put, List.setIfInBounds_toArray, List.set_cons_succ, List.set_cons_zero]
          rfl
        case stepszs =>
          refine ⟨.inr ⟨by kernel_rfl, fun w1_ hB_ => ?_⟩, .inr ⟨by kernel_rfl, fun w1_ hB_ => ?_⟩, .inr ⟨by kernel_rfl, fun w1_ hB_ => ?_⟩, .inr ⟨by kernel_rfl, fun w1_ hB_ => ?_⟩, .inr ⟨by kernel_rfl, fun w1_ hB_ => ?_⟩, .inl ⟨by kernel_rfl, rfl⟩, .inl ⟨by kernel_rfl, rfl⟩, .inl ⟨by kernel_rfl, rfl⟩, .inl ⟨by kernel_rfl, rfl⟩, .inl ⟨by kernel_rfl, rfl⟩, .inl ⟨by kernel_rfl, rfl⟩, .inl ⟨by kernel_rfl, rfl⟩, .inl ⟨by kernel_rfl, rfl⟩, .inr ⟨by kernel_rfl, fun w1_ hB_ => ?_⟩, trivial⟩
          all_goals
            obtain ⟨p0, p1, p2, p3, m0, m1, m2, m3, m4, m5, m6, m7, m8, m9, m10, m11⟩ := HQ.out w1_ hB_
            go_simp
            first
              | exact ⟨rfl, Below.refl _ _⟩
              | (rw [decide_eq_true (by omega)]; exact ⟨rfl, Below.refl _ _⟩)
              | (rw [decide_eq_false (by omega)]; exact ⟨rfl, Below.refl _ _⟩)
              | (rw [if_pos (by omega)]; exact ⟨rfl, Below.refl _ _⟩)
              | (rw [IntWalk.i64_in _ (by omega)]; exact ⟨rfl, Below.refl _ _⟩)
              | done
        case nextzs =>
        intro v6 hb6
        have hbv := HB5.out.trans (hb6.mono hs5)
        obtain ⟨O6, hO6⟩ : ∃ o, o = Oj := ⟨_, rfl⟩
        have hx6 : ∀ k, O6 k → Oj k ∨ Vb.heap.size ≤ k := fun k h => .inl (by rw [← hO6]; exact h)
        have hbd6 : Bd O6 v6 := fun k h => Nat.lt_of_lt_of_le (HBB.out k (HSUB.out k (by rw [← hO6]; exact h))) hbv.size
        have hf6 : Fr Oj Vb v6 := Fr.of_below hbv (Nat.le_refl _)
        have hJ6 : J out6 O6 v6 := by rw [hO6]; exact fJ _ _ _ _ HJ2.out (Fr.of_below hbv (Nat.le_refl _))
        clear hO6 hb6 hbv
        have hno6 : ∀ k, k < Vb.heap.size → ¬ Oj k → ¬ O6 k := fun k hk hn h => (hx6 k h).elim hn (fun h => by omega)
        have hnV : ∀ k, V.heap.size ≤ k → ¬ Oj k := fun k hk h => by have := HBO.out k (HSUB.out k h); omega
        have hY6 := HYB.out.fr hf6 ny
        have hS6 := HSBB.out.fr hf6 ns
        have hF6 := HFBB.out.fr hf6 nf
        have hT6 := HTBB.out.fr hf6 nt
        have hE6 := HEB.out.fr hf6 (hnV _ (Nat.le_refl _))
        have hP6 := HTT.out.fr hf6 (hnV _ (by omega))
        have hext6 : ∀ k, O6 k → O0 k ∨ W.heap.size ≤ k := fun k h => by
          rcases hx6 k h with h | h
          · exact HEXT.out k h
          · exact .inr (by omega)
        have hnB : ∀ k, k < B2 → ¬ Oj k := fun k hk h => by
          rcases HEXT.out k h with h | h
          · exact hK k (.inr hk) h
          · omega
        have hsb6 := HSW.out.then_fr hf6 hnB
        have hz6 := (HS2.out.then_fr hf6 hnB).zw (HZ.out.below HB3.out) hBB hm0 hw0
        have HRW6 := Lib.hid (show RW v6 B (.slice A R.length cR) R by
          have h := hz6.sets.rule x
          rw [HRV.out, HRQ.out] at h
          exact ⟨h, hz6.ahead, hz6.tab, hz6.le⟩)
        have HMX6 := Lib.hid hz6.maxl
        have hs6 := hf6.size
        have hl6 : v6.heap[l2]? = some (.loop r0) := (hf6.block l2 (Array.getElem?_eq_some_iff.1 hr0).1 (fun h => nOl (HSUB.out _ h))).trans hr0
        have HL6 := Lib.hid hl6
        have HY6 := Lib.hid hY6
        have HS6 := Lib.hid hS6
        have HF6 := Lib.hid hF6
        have HT6 := Lib.hid hT6
        have HSW6 := Lib.hid hsb6
        have HJ6 := Lib.hid hJ6
        have HX6 := Lib.hid hx6
        have HF6R := Lib.hid hf6
        have HEX6 := Lib.hid hext6
        have HNO6 := Lib.hid hno6
        have HBD6 := Lib.hid hbd6
        have e0 := hE6.cell 0 (v := .int .i64 x.n.off) rfl
        have e1 := hE6.cell 1 (v := .string x.ru) rfl
        have e2 := hE6.cell 2 (v := .int .i64 x.n.save) rfl
        have e3 := hE6.cell 3 (v := .string x.fm) rfl
        have e4 := hE6.cell 4 (v := .bool x.en) rfl
        have e5 := hE6.cell 5 (v := .int .i64 x.n.year) rfl
        have e6 := hE6.cell 6 (v := .int .i64 x.n.month) rfl
        have e7 := hE6.cell 7 (v := .int .i64 x.n.dk) rfl
        have e8 := hE6.cell 8 (v := .int .i64 x.n.dw) rfl
        have e9 := hE6.cell 9 (v := .int .i64 x.n.dn) rfl
        have e10 := hE6.cell 10 (v := .int .i64 x.n.sec) rfl
        have e11 := hE6.cell 11 (v := .int .i64 x.n.ak) rfl
        have t0 := hP6.cell 0 (v := .int .i64 fv) rfl
        have t1 := hP6.cell 1 (v := .int .i64 tv) rfl
        have f0 := hF6.cell 0 (v := .int .i64 fr) rfl
        have b0 := hT6.cell 0 (v := .int .i64 to) rfl
        have heq : ∀ (w : World) (a : Option Addr) (n c n' c' : Nat), (binOp .eql 52 (.slice a n c) (.slice none n' c')).run Tryz.prog w = .ok (.bool a.isNone) w := fun w a n c n' c' => Lib.run_eql_slice_nil w _ _ a n c n' c' Tryz.underlying52
        have hOO : ∀ k, (O k ∨ O6 k) → O k ∨ D k ∨ Vb.heap.size ≤ k := fun k h => by
          rcases h with h | h
          · exact .inl h
          · rcases HX6.out k h with h | h
            · exact .inl (HSUB.out k h)
            · exact .inr (.inr h)
        have hfrO : Fr (fun k => O k ∨ D k) Vb v6 := HF6R.out.mono fun k h => .inl (.inl (HSUB.out k h))
        have HOO := Lib.hid hOO
        have HFRO := Lib.hid hfrO
        clear hno6 hnV hY6 hS6 hF6 hT6 hE6 hP6 hext6 hnB hsb6 hz6 hl6 hJ6 hx6 hf6 hbd6 hOO hfrO p0 p1 p2 p3 m0 m1 m2 m3 m4 m5 m6 m7 m8 m9 m10 m11
        cases hA : A with
        | none =>
          have hnil : R = [] := by
            rcases Nat.eq_zero_or_pos R.length with h | h
            · exact List.eq_nil_of_length_eq_zero h
            · exfalso
              obtain ⟨b, o, c', e, -⟩ := HRL.out.cells h
              rw [hA] at e
              cases e
          have HT1N := Lib.hid (show eraG S l fr to (pre ++ [k]) = out6 by rw [HT1.out, hnil, turnsL_nil, List.append_nil])
          clear hnil
          gi_wp2
          refine ⟨fun k => O k ∨ O6 k, HOO.out, fun k h => h.elim ((HBB.out.fr HFRO.out) k) (HBD6.out k), HFRO.out, ?_⟩
          show StG _ _ _ _ _ _ _ _ _ _ _ (eraG S l fr to (pre ++ [k])) _ v6
          rw [HT1N.out]
          exact ⟨O6, fun k h => .inr h, HJ6.out, ⟨.inl oy, .inl os, .inl of_, .inl ot⟩, ⟨HNO6.out _ hnyb ny, HNO6.out _ hsbl ns, HNO6.out _ hfbl nf, HNO6.out _ htbl2 nt⟩, HEX6.out, HY6.out, HS6.out, HF6.out, HT6.out⟩
        | some a6 =>
          subst hA
          have HTU := Lib.hid ((wide1 l2).calls (n := n - 1 - 1 - 1) (turns_any v6 x (.slice (some a6) R.length cR) (some a6) R.length cR rfl (max fr fv) (min to (tv - 1))))
          unfold EraF.val eraA at HTU
          gi_wp2
          refine ⟨trivial, fun _ => by omega, HTU.out.mono ?_⟩
          rintro o w8 ⟨rfl, hb8, g0, g1, g2, g3, hs8⟩
          have HB8 := Lib.hid hb8
          have HC8 := Lib.hid (And.intro g0 (And.intro g1 (And.intro g2 g3)))
          have hl8 : w8.heap[l2]? = some (.loop r0) := (hb8.block l2 (Array.getElem?_eq_some_iff.1 HL6.out).1).trans HL6.out
          have hl6s := (Array.getElem?_eq_some_iff.1 HL6.out).1
          clear HTU hb8 g0 g1 g2 g3 t0 t1 f0 b0 heq e0 e1 e2 e3 e4 e5 e6 e7 e8 e9 e10 e11
          gi_wp2
          refine range_own_in (α := Chg) (l₀ := l2) (r₀ := r0) rfl hl8 (by omega) (gf := 175) (lb := #[.pointer (some ⟨v6.heap.size, 0, none⟩), .pointer (some ⟨v6.heap.size + 1, 0, none⟩), .pointer (some ⟨v6.heap.size + 2, 0, none⟩), .pointer (some ⟨v6.heap.size + 3, 0, none⟩)]) rfl trivial (enters_of Tryz.func175 (by kernel_rfl) rfl)
            (encs := encC) (R := RC (turnsL x R (max fr fv) (min to (tv - 1))) B2 Wb) (K := fun k => (k = v6.heap.size ∨ k = v6.heap.size + 1) ∨ k < B2)
            (fun U hU => iter_in (turns_iter (n - 1 - 1 - 1) (by omega) _ _ _ _ B B2 Wb w0 x _ R (max fr fv) (min to (tv - 1)) U (HC8.out.1.below hU HC8.out.1.lt) (HC8.out.2.1.below hU HC8.out.2.1.lt) (HC8.out.2.2.1.below hU HC8.out.2.2.1.lt) (HC8.out.2.2.2.below hU HC8.out.2.2.2.lt) ((HRW6.out.below HB8.out).below hU) HRO.out HLO.out ((HMX6.out.below HB8.out (Nat.le_refl _)).below hU (Nat.le_refl _)) hfm (by omega) hoff.2 (by omega) (by omega) ⟨by omega, by omega, hBB⟩ (by have := hU.size; omega) ((HSW6.out.then_below HB8.out (by omega)).then_below hU (by omega)) hm0 hw0))
            (fun _ => rfl) (fun pre2 => StG sb fb tb sz fr to W.heap.size lp W.heap.size O0 J (out6 ++ pre2)) (fun c pre2 => StX (stepsL S l fr to) W.heap.size O0 Jx c (out6 ++ pre2)) (stG_feet fJ (fun pre2 => out6 ++ pre2)) (fun c => stX_feet fx (fun pre2 => out6 ++ pre2) c)
            (fun k => O6 k ∨ k = W.heap.size ∨ k = sb ∨ k = fb ∨ k = tb) ⟨O6, fun k h => .inl h, fJ _ _ _ _ (by rw [List.append_nil]; exact HJ6.out) (Fr.of_below HB8.out (Nat.le_refl _)), ⟨.inr (.inl rfl), .inr (.inr (.inl rfl)), .inr (.inr (.inr (.inl rfl))), .inr (.inr (.inr (.inr rfl)))⟩, ⟨HNO6.out _ hnyb ny, HNO6.out _ hsbl ns, HNO6.out _ hfbl nf, HNO6.out _ htbl2 nt⟩, HEX6.out, HY6.out.below HB8.out HY6.out.lt, HS6.out.below HB8.out HS6.out.lt, HF6.out.below HB8.out HF6.out.lt, HT6.out.below HB8.out HT6.out.lt⟩
            (fun k hk => by rcases hk with h | h | h | h | h; have := HBD6.out _ h; all_goals omega) (fun k hk => by omega) (fun k hk h => by
              rcases h with h | h | h | h | h
              · rcases hk with hk | hk
                · have := HBD6.out _ h
                  omega
                · rcases HEX6.out k h with h | h
                  · exact hK k (.inr hk) h
                  · omega
              · omega
              · omega
              · omega
              · omega) ?round2y ?done2y ?stop2y
          case round2y =>
            intro l3 pre2 c O3 D3 U hI3 hBO3 hBD3 hDO3 hR3 nOl3 nDl3 hlow3 hltl3
            obtain ⟨ca, ⟨co, cd, cs⟩⟩ := c
            obtain ⟨hnD3, ⟨rest3, hrest3⟩, hsame3⟩ := hR3
            have HR3 := Lib.hid hrest3
            have HS3 := Lib.hid hsame3
            have HBO3 := Lib.hid hBO3
            have HC3U := Lib.hid (Blk.new U 76 #[.int .i64 ca, .int .i64 co, .bool cd, .string cs])
            have HB3U := Lib.hid ((Below.refl U.heap.size U).alloc (Nat.le_refl _) (.cells #[.int .i64 ca, .int .i64 co, .bool cd, .string cs] 76))
            unfold encC chgA
            clear hI3 hBO3 hBD3 hDO3 hrest3 hsame3
            gi_wp2
            refine ⟨HB3U.out, ?_⟩
            intro Ub hfb3 hIb3 _
            obtain ⟨Oj3, hsub3, hJ3, ⟨oy3, os3, of3, ot3⟩, ⟨ny3, ns3, nf3, nt3⟩, hext3, hyb3, hsb3, hfb3b, htb3⟩ := hIb3
            have hC3 := HC3U.out.fr hfb3 (by omega)
            have hUb : U.heap.size ≤ Ub.heap.size := Nat.le_trans HB3U.out.size hfb3.size
            have HSM := Lib.hid ((SameB.then_below HS3.out HB3U.out (SameB.size HS3.out)).then_fr hfb3 (fun k hk e => by omega))
            have HFRU := Lib.hid ((Fr.of_below (T := fun _ => True) HB3U.out (Nat.le_refl _)).then (hfb3.mono fun k _ => .inl trivial))
            have k0 := hC3.cell 0 (v := .int .i64 ca) rfl
            have k1 := hC3.cell 1 (v := .int .i64 co) rfl
            have k2 := hC3.cell 2 (v := .bool cd) rfl
            have k3 := hC3.cell 3 (v := .string cs) rfl
            have y0 := hyb3.cell 0 (v := .func (.yield lp) #[] #[]) rfl
            have hcl3 := hC3.lt
            have hyl3 := hyb3.lt
            have hsl3 := hsb3.lt
            have hfl3 := hfb3b.lt
            have htl3 := htb3.lt
            have HNX3 := Lib.hid (show stepsL S l fr to = (out6 ++ pre2) ++ ⟨ca, ⟨co, cd, cs⟩⟩ :: (rest3 ++ rest0) by
              rw [HT2.out, HR3.out]
              simp)
            have HBJ := Lib.hid (show Bd Oj3 Ub from fun k h => Nat.lt_of_lt_of_le (HBO3.out k (hsub3 k h)) hUb)
            obtain ⟨fn, tmps, assign, body, hyd, hRd⟩ := hY (out6 ++ pre2) ⟨ca, ⟨co, cd, cs⟩⟩ (fun _ => False) Oj3 Ub hJ3 HBJ.out (fun _ h => h.elim) (fun _ h => h.elim) ⟨fun _ h => h, ⟨_, HNX3.out⟩, HSM.out⟩
            unfold encC chgA at hyd
            simp only at hyd
            have HRD := Lib.hid hRd
            have HSUB3 := Lib.hid hsub3
            have HEXT3 := Lib.hid hext3
            have HYB3 := Lib.hid hyb3
            have HSB3 := Lib.hid hsb3
            have HFB3 := Lib.hid hfb3b
            have HTB3 := Lib.hid htb3
            clear hRd hsub3 hext3 hyb3 hsb3 hfb3b htb3 hJ3 hC3 hfb3
            gi_wp2
            refine ⟨fun _ => by omega, (roundIn_in HRD.out).mono ?_⟩
            rintro o V7 ⟨O7, hx7, hbd7, hf7, hend7⟩
            have hY7 := HYB3.out.fr hf7 (fun e => e.elim ny3 id)
            have hS7 := HSB3.out.fr hf7 (fun e => e.elim ns3 id)
            have hF7 := HFB3.out.fr hf7 (fun e => e.elim nf3 id)
            have hT7 := HTB3.out.fr hf7 (fun e => e.elim nt3 id)
            have hext7 : ∀ k, O7 k → O0 k ∨ W.heap.size ≤ k := fun k h => by
              rcases hx7 k h with h | h | h
              · exact HEXT3.out k h
              · exact h.elim
              · exact .inr (by omega)
            have hno7 : ∀ k, k < Ub.heap.size → ¬ Oj3 k → ¬ O7 k := fun k hk hn h => by
              rcases hx7 k h with h | h | h
              · exact hn h
              · exact h
              · omega
            have hOO7 : ∀ k, (O3 k ∨ O7 k) → O3 k ∨ D3 k ∨ Ub.heap.size ≤ k := fun k h => by
              rcases h with h | h
              · exact .inl h
              · rcases hx7 k h with h | h | h
                · exact .inl (HSUB3.out k h)
                · exact h.elim
                · exact .inr (.inr h)
            have hfr7 : Fr (fun k => O3 k ∨ D3 k) Ub V7 := hf7.mono fun k hk => .inl (.inl (HSUB3.out k (hk.elim id False.elim)))
            have hbd7' : Bd (fun k => O3 k ∨ O7 k) V7 := fun k h => by
              rcases h with h | h
              · exact Nat.lt_of_lt_of_le (HBO3.out k h) (Nat.le_trans hUb hf7.size)
              · exact hbd7 k h
            clear hyd
            rcases hend7 with ⟨rfl, hJ7⟩ | ⟨rfl, hJx7⟩
            · have HJ7 := Lib.hid hJ7
              clear hJ7
              gi_wp2
              exact ⟨fun k => O3 k ∨ O7 k, hOO7, hbd7', hfr7, O7, fun k h => .inr h, (by rw [← List.append_assoc]; exact HJ7.out), ⟨.inl oy3, .inl os3, .inl of3, .inl ot3⟩, ⟨hno7 _ hyl3 ny3, hno7 _ hsl3 ns3, hno7 _ hfl3 nf3, hno7 _ htl3 nt3⟩, hext7, hY7, hS7, hF7, hT7⟩
            · have HJ7 := Lib.hid hJx7
              clear hJx7
              gi_wp2
              exact ⟨fun k => O3 k ∨ O7 k, hOO7, hbd7', hfr7, O7, fun k h => .inr h, hext7, rfl, (by rw [← List.append_assoc]; exact HJ7.out), rest3 ++ rest0, (by rw [HNX3.out]; simp)⟩
          case done2y =>
            intro xs3 O3 U hS3 hI3 hO3 hBO3 hfr3
            have HFIN := Lib.hid ((HFRO.out.then (Fr.of_below HB8.out (Nat.le_refl _))).trans hfr3 (fun k hk => by
              rcases hk with (hk | hk | hk | hk | hk) | hk
              · rcases HX6.out k hk with h | h
                · exact .inl (.inl (HSUB.out k h))
                · exact .inr h
              · exact .inl (.inl (by rw [hk]; exact oy))
              · exact .inl (.inl (by rw [hk]; exact os))
              · exact .inl (.inl (by rw [hk]; exact of_))
              · exact .inl (.inl (by rw [hk]; exact ot))
              · exact .inr (by omega)))
            have HO3 := Lib.hid (show ∀ k, O3 k → O k ∨ D k ∨ Vb.heap.size ≤ k from fun k h => by
              rcases hO3 k h with (hk | hk | hk | hk | hk) | hk
              · rcases HX6.out k hk with h | h
                · exact .inl (HSUB.out k h)
                · exact .inr (.inr h)
              · exact .inl (by rw [hk]; exact oy)
              · exact .inl (by rw [hk]; exact os)
              · exact .inl (by rw [hk]; exact of_)
              · exact .inl (by rw [hk]; exact ot)
              · exact .inr (.inr (by have := HB8.out.size; omega)))
            have HI3 := Lib.hid (show StG sb fb tb sz fr to W.heap.size lp W.heap.size O0 J (eraG S l fr to (pre ++ [k])) O3 U by
              rw [HT1.out, ← hS3]
              exact hI3)
            have HBD3 := Lib.hid hBO3
            clear hS3 hI3 hO3 hBO3 hfr3
            gi_wp2
            exact ⟨O3, HO3.out, HBD3.out, HFIN.out, HI3.out⟩
          case stop2y =>
            intro c pre2 O3 U hS3 hX3 hO3 hBO3 hfr3
            have HFIN := Lib.hid ((HFRO.out.then (Fr.of_below HB8.out (Nat.le_refl _))).trans hfr3 (fun k hk => by
              rcases hk with (hk | hk | hk | hk | hk) | hk
              · rcases HX6.out k hk with h | h
                · exact .inl (.inl (HSUB.out k h))
                · exact .inr h
              · exact .inl (.inl (by rw [hk]; exact oy))
              · exact .inl (.inl (by rw [hk]; exact os))
              · exact .inl (.inl (by rw [hk]; exact of_))
              · exact .inl (.inl (by rw [hk]; exact ot))
              · exact .inr (by omega)))
            have HO3 := Lib.hid (show ∀ k, O3 k → O k ∨ D k ∨ Vb.heap.size ≤ k from fun k h => by
              rcases hO3 k h with (hk | hk | hk | hk | hk) | hk
              · rcases HX6.out k hk with h | h
                · exact .inl (HSUB.out k h)
                · exact .inr (.inr h)
              · exact .inl (by rw [hk]; exact oy)
              · exact .inl (by rw [hk]; exact os)
              · exact .inl (by rw [hk]; exact of_)
              · exact .inl (by rw [hk]; exact ot)
              · exact .inr (.inr (by have := HB8.out.size; omega)))
            obtain ⟨Oj3, hsub3, hext3, rfl, hJx3, r2, hr2⟩ := hX3
            have HX3 := Lib.hid (And.intro hsub3 (And.intro hext3 (And.intro hJx3 hr2)))
            have HBD3 := Lib.hid hBO3
            clear hS3 hO3 hBO3 hfr3 hsub3 hext3 hJx3 hr2
            gi_wp2
            exact ⟨O3, HO3.out, HBD3.out, HFIN.out, out6 ++ pre2, Oj3, HX3.out.1, HX3.out.2.1, rfl, HX3.out.2.2.1, r2, HX3.out.2.2.2⟩
  case done =>
    intro D xs O V hD hS hI hO hBO hOD hfr hK2
    obtain ⟨Oj, hsub, hJ, -, -, hext, -⟩ := hI
    have HOUT := Lib.hid (show eraG S l fr to xs = stepsL S l fr to by
      unfold eraG stepsL
      rw [show xs.length = l.length from hS])
    have HK2 := Lib.hid hK2
    have HFR := Lib.hid (((Fr.of_below (T := fun k => O0 k ∨ (k = sb ∨ k = fb ∨ k = tb)) HB3.out (Nat.le_refl _)).trans hfr fun k hk => by
      rcases hk with (hk | hk | hk | hk | hk) | hk
      · exact .inl (.inl hk)
      · exact .inr (by omega)
      · exact .inl (.inr (.inl hk))
      · exact .inl (.inr (.inr (.inl hk)))
      · exact .inl (.inr (.inr (.inr hk)))
      · exact hk.elim))
    have hDl : D < V.heap.size := (Array.getElem?_eq_some_iff.1 hK2).1
    have hDw : W.heap.size ≤ D := by omega
    have hnD : ¬ Oj D := fun h => hOD (hsub D h)
    have HJ := Lib.hid (show J (stepsL S l fr to) Oj V by rw [← HOUT.out]; exact hJ)
    have HBO := Lib.hid hBO
    have HSUB := Lib.hid hsub
    have HEXT := Lib.hid hext
    clear hS hfr hK2 hJ hBO hsub hext hO
    gi_wp2
    simp only [Exit.noGoto]
    refine ⟨by simp, .inl ⟨_, _, rfl, run_takeDeferred HK2.out, ?_⟩⟩
    refine ⟨_, results_none rfl _ _ _, ?_⟩
    exact ⟨⟨_, rfl⟩, Oj, HEXT.out, fun k h => Nat.lt_of_lt_of_le (HBO.out k (HSUB.out k h)) (Nat.le_of_eq (fin_size V D _).symm), HFR.out.trans (Fr.putObj (T := fun k => k = D) V _ rfl) (fun k hk => .inr (by omega)), .inl ⟨_, rfl, fJ _ _ _ _ HJ.out (Fr.putObj V _ hnD)⟩⟩
  case stop =>
    intro D c pre O V hD hS hX hO hBO hOD hfr hK2
    obtain ⟨out, Oj, hsub, hext, rfl, hJx, r2, hr2⟩ := hX
    have HK2 := Lib.hid hK2
    have HFR := Lib.hid (((Fr.of_below (T := fun k => O0 k ∨ (k = sb ∨ k = fb ∨ k = tb)) HB3.out (Nat.le_refl _)).trans hfr fun k hk => by
      rcases hk with (hk | hk | hk | hk | hk) | hk
      · exact .inl (.inl hk)
      · exact .inr (by omega)
      · exact .inl (.inr (.inl hk))
      · exact .inl (.inr (.inr (.inl hk)))
      · exact .inl (.inr (.inr (.inr hk)))
      · exact hk.elim))
    have hDl : D < V.heap.size := (Array.getElem?_eq_some_iff.1 hK2).1
    have hDw : W.heap.size ≤ D := by omega
    have hnD : ¬ Oj D := fun h => hOD (hsub D h)
    have HJ := Lib.hid (And.intro hJx hr2)
    have HBO := Lib.hid hBO
    have HSUB := Lib.hid hsub
    have HEXT := Lib.hid hext
    clear hS hfr hK2 hJx hr2 hBO hsub hext hO
    gi_wp2
    simp only [Exit.noGoto]
    refine ⟨by simp, .inl ⟨_, _, rfl, run_takeDeferred HK2.out, ?_⟩⟩
    refine ⟨_, results_none rfl _ _ _, ?_⟩
    exact ⟨⟨_, rfl⟩, Oj, HEXT.out, fun k h => Nat.lt_of_lt_of_le (HBO.out k (HSUB.out k h)) (Nat.le_of_eq (fin_size V D _).symm), HFR.out.trans (Fr.putObj (T := fun k => k = D) V _ rfl) (fun k hk => .inr (by omega)), .inr ⟨out, ⟨r2, HJ.out.2⟩, fx _ _ _ _ HJ.out.1 (Fr.putObj V _ hnD)⟩⟩
end Go.Proofs.YteekjfgjmccdnaaGreatDoor
end

section
/- HChanges: Layer 14 at any zone: all its changes, one by one, walked. -/
namespace Go.Proofs.YteekjfgjmccdnaaGreatDoor
open Go Go.RowKit Go.Shelf
attribute [local go_sem] Oper.semAt_some
set_option maxRecDepth 100000

theorem zchanges_any (w : World) (zn : ByteArray) (ev sv : Value) (fr to : Int) :
    Calls Tryz.prog 79 #[zoneA zn ev, setsV zn ev sv, .int .i64 fr, .int .i64 to] w fun o w' => o = .returned (.func (.func 118) #[] #[.pointer (some ⟨w.heap.size + 2, 0, none⟩), .pointer (some ⟨w.heap.size, 0, none⟩), .pointer (some ⟨w.heap.size + 1, 0, none⟩), .pointer (some ⟨w.heap.size + 3, 0, none⟩)]) ∧ Below w.heap.size w w' ∧
      Blk w' w.heap.size 24 #[.string zn, ev] ∧ Blk w' (w.heap.size + 1) 90 #[setsV zn ev sv] ∧ Blk w' (w.heap.size + 2) 3 #[.int .i64 fr] ∧ Blk w' (w.heap.size + 3) 3 #[.int .i64 to] ∧ w'.heap.size = w.heap.size + 4 := by
  have h1 := (((Blk.new w 24 #[.string zn, ev]).alloc (.cells #[setsV zn ev sv] 90)).alloc (.cells #[.int .i64 fr] 3)).alloc (.cells #[.int .i64 to] 3)
  have h2 := ((Blk.new (w.alloc (.cells #[.string zn, ev] 24)) 90 #[setsV zn ev sv]).alloc (.cells #[.int .i64 fr] 3)).alloc (.cells #[.int .i64 to] 3)
  have h3 := (Blk.new ((w.alloc (.cells #[.string zn, ev] 24)).alloc (.cells #[setsV zn ev sv] 90)) 3 #[.int .i64 fr]).alloc (.cells #[.int .i64 to] 3)
  have h4 := Blk.new (((w.alloc (.cells #[.string zn, ev] 24)).alloc (.cells #[setsV zn ev sv] 90)).alloc (.cells #[.int .i64 fr] 3)) 3 #[.int .i64 to]
  simp only [World.size_alloc] at h2 h3 h4
  have HB := Lib.hid (((((Below.refl w.heap.size w).alloc (Nat.le_refl _) (.cells #[.string zn, ev] 24)).alloc (by simp) (.cells #[setsV zn ev sv] 90)).alloc (by simp; omega) (.cells #[.int .i64 fr] 3)).alloc (by simp; omega) (.cells #[.int .i64 to] 3))
  have HH := Lib.hid (And.intro h1 (And.intro h2 (And.intro h3 h4)))
  clear h1 h2 h3 h4
  unfold setsV zoneA worldA at *
  go_enter Tryz.func79, Tryz.ntmps79
  go_wp2_with fail
  go_ret
  exact ⟨rfl, HB.out, HH.out.1, HH.out.2.1, HH.out.2.2.1, HH.out.2.2.2, by simp⟩
/-- The loop over what may turn: what it keeps, and how it may be left. -/
def ChI (yb nb lp : Nat) (now0 : Loc) (s0 : Nat) (O0 : Nat → Prop) (J : List Chg → (Nat → Prop) → World → Prop) (pre : List Chg) (O : Nat → Prop) (W : World) : Prop :=
  ∃ Oj out now, (∀ k, Oj k → O k) ∧ J out Oj W ∧ (O yb ∧ O nb) ∧ (¬ Oj yb ∧ ¬ Oj nb) ∧ (∀ k, Oj k → O0 k ∨ s0 ≤ k) ∧ Blk W yb 172 #[.func (.yield lp) #[] #[]] ∧ ChgB W nb now ∧ (∀ rest, dropF now0 (pre ++ rest) = out ++ dropF now.loc rest)
def ChX (now0 : Loc) (s0 : Nat) (O0 : Nat → Prop) (Jx : List Chg → (Nat → Prop) → World → Prop) (c : Code) (pre : List Chg) (O : Nat → Prop) (W : World) : Prop :=
  ∃ Oj out, (∀ k, Oj k → O k) ∧ (∀ k, Oj k → O0 k ∨ s0 ≤ k) ∧ c = .ret ∧ Jx out Oj W ∧ ∀ rest, ∃ r2, dropF now0 (pre ++ rest) = out ++ r2
section
variable {yb nb lp s0 : Nat} {now0 : Loc} {O0 : Nat → Prop} {J Jx : List Chg → (Nat → Prop) → World → Prop}
theorem chI_feet (fJ : Feet J) : Feet (ChI yb nb lp now0 s0 O0 J) := by
  rintro pre O W W' ⟨Oj, out, now, h1, h2, ⟨o1, o2⟩, h3, h4, h5, h6, h7⟩ hf
  exact ⟨Oj, out, now, h1, fJ _ _ _ _ h2 (hf.mono fun k hk => .inl fun h => hk (h1 k h)), ⟨o1, o2⟩, h3, h4, h5.fr hf (fun h => h o1), Blk.fr h6 hf (fun h => h o2), h7⟩
theorem chX_feet (fx : Feet Jx) (c : Code) : Feet (ChX now0 s0 O0 Jx c) := by
  rintro pre O W W' ⟨Oj, out, h1, h2, hc, hJ, hr⟩ hf
  exact ⟨Oj, out, h1, h2, hc, fx _ _ _ _ hJ (hf.mono fun k hk => .inl fun h => hk (h1 k h)), hr⟩
end
theorem errI_zero {S : List SetF} {l : List EraF} {i : Int} (h : errI S l i = 0) : errZ S l = 0 := by
  unfold errI atZ at h
  split at h
  · exact h
  · rename_i hn
    omega
set_option maxHeartbeats 8000000 in
theorem changes_iter (n : Nat) (hn : 10 ≤ n) (zb sb fb tb B B2 : Nat) (Wb w0 : World) (zn : ByteArray) (ev sv : Value) (l : List EraF) (S : List SetF) (fr to : Int) (W : World)
    (hzb : Blk W zb 24 #[.string zn, ev]) (hsb : Blk W sb 90 #[setsV zn ev sv]) (hfb : Blk W fb 3 #[.int .i64 fr]) (htb : Blk W tb 3 #[.int .i64 to]) (hz : ZW W B ev sv l S) (ho : ZOk l S) (hlet : ∀ s ∈ S, letOk s.l)
    (hE : errZ S l = 0 → ∀ e ∈ endL S l, -9000000000000000000 ≤ e ∧ e ≤ 9000000000000000000) (hfr : -9000000000000000000 ≤ fr ∧ fr ≤ 4500000000000) (hto : -4500000000000 ≤ to ∧ to ≤ 4500000000000)
    (hbs : B2 ≤ fb ∧ B ≤ B2 ∧ zb ≠ fb ∧ sb ≠ fb ∧ tb ≠ fb) (hB2 : B2 ≤ W.heap.size) (hWb : SameB B2 Wb W) (hm0 : Tryz.MaxL w0) (hw0 : w0.heap.size ≤ B2) :
    Iter Fence.wide n Tryz.prog 118 #[.pointer (some ⟨fb, 0, none⟩), .pointer (some ⟨zb, 0, none⟩), .pointer (some ⟨sb, 0, none⟩), .pointer (some ⟨tb, 0, none⟩)] encC (RC (changesL S l fr to) B2 Wb) (fun xs => xs = changesL S l fr to) (fun pre => ∃ rest, changesL S l fr to = pre ++ rest) (fun k => k = fb ∨ k < B2) (fun k => k = fb) W := by
  intro lp J Jx fJ fx hY O0 hJ0 hO0 hK
  obtain ⟨hfB, hBB, hzn, hsn, htn⟩ := hbs
  show CallsIn Fence.wide n Tryz.prog 118 #[.func (.yield lp) #[] #[], .pointer (some ⟨fb, 0, none⟩), .pointer (some ⟨zb, 0, none⟩), .pointer (some ⟨sb, 0, none⟩), .pointer (some ⟨tb, 0, none⟩)] W _
  refine callsIn_of_wp_marks Tryz.func118 rfl trivial ?_ rfl
  simp only [Tryz.ntmps118, List.size_toArray, List.length_cons, List.length_nil, Nat.reduceAdd, Nat.reduceSub, Array.replicate_succ, Array.replicate_zero, List.push_toArray, List.append_toArray, List.nil_append, List.cons_append]
  obtain ⟨f, hmax⟩ : ∃ f, max fr (-2199023255552) = f := ⟨_, rfl⟩
  have hf1 : -2199023255552 ≤ f ∧ f ≤ 4500000000000 := by omega
  have HCL := Lib.hid (show changesL S l fr to = if errI S l f = 0 then dropF (locZ S l f) (stepsL S l f to) else [] by unfold changesL; rw [hmax])
  have hfl := hfb.lt
  have hzl := hzb.lt
  have hsl := hsb.lt
  have htl := htb.lt
  have hF1 : Fr (fun k => k = fb) W ((W.setCell ⟨fb, 0, none⟩ (.int .i64 f)).alloc (.cells #[.func (.yield lp) #[] #[]] 172)) := (Fr.setCell (T := fun k => k = fb) _ 0 _ rfl).then (Fr.alloc _ _)
  have hfb1 := (hfb.set 0 (.int .i64 f)).alloc (.cells #[.func (.yield lp) #[] #[]] 172)
  have hy1 := Blk.new (W.setCell ⟨fb, 0, none⟩ (.int .i64 f)) 172 #[.func (.yield lp) #[] #[]]
  rw [show (W.setCell ⟨fb, 0, none⟩ (.int .i64 f)).heap.size = W.heap.size by simp] at hy1
  obtain ⟨sz, hsz⟩ : ∃ v, setsV zn ev sv = v := ⟨_, rfl⟩
  obtain ⟨Ae, ce, he, -, -⟩ := hz.eras.form
  have HSZ := Lib.hid hsz
  have HEV := Lib.hid he
  rw [hsz] at hsb
  rw [he] at hzb
  have z0 := hzb.cell 0 (v := .string zn) rfl
  have z1 := hzb.cell 1 (v := .slice Ae l.length ce) rfl
  have s0 := hsb.cell 0 (v := sz) rfl
  have f0 := hfb.cell 0 (v := .int .i64 fr) rfl
  have ff := hfb.frozen 0
  have t0 := htb.cell 0 (v := .int .i64 to) rfl
  have HZB := Lib.hid hzb
  have HSB := Lib.hid hsb
  have HTB := Lib.hid htb
  have HZ := Lib.hid hz
  have HO := Lib.hid ho
  have HLT := Lib.hid hlet
  have HEI := Lib.hid hE
  have HWB := Lib.hid hWb
  have HF1 := Lib.hid hF1
  have HFB1 := Lib.hid hfb1
  have HY1 := Lib.hid hy1
  have hnz : zb ≠ W.heap.size := by omega
  clear hzb hsb hfb htb hz ho hlet hE hWb hsz he hF1 hfb1 hy1
  gi_wp2
  refine wpIn_scope ?_
  gi_wp2
  obtain ⟨W1, hW1⟩ : ∃ W1, (W.setCell ⟨fb, 0, none⟩ (.int .i64 f)).alloc (.cells #[.func (.yield lp) #[] #[]] 172) = W1 := ⟨_, rfl⟩
  rw [hW1] at HF1 HFB1 HY1 ⊢
  have hsW : SameB B2 W W1 := (SameB.refl hB2).then_fr HF1.out (fun k hk e => by omega)
  have hz1 := hsW.zw HZ.out hBB hm0 hw0
  have HSW1 := Lib.hid (HWB.out.trans hsW)
  have HZ1 := Lib.hid hz1
  have HFI := Lib.hid (callsIn_wide (n := n - 1).2 (zfirst_any zn ev sv B l S f W1 hz1 HO.out HLT.out))
  rw [HSZ.out, HEV.out] at HFI
  unfold zoneA at HFI
  obtain ⟨⟨yo, yd, ys⟩, hy⟩ : ∃ y, locZ S l f = y := ⟨_, rfl⟩
  obtain ⟨er, her⟩ : ∃ e, errI S l f = e := ⟨_, rfl⟩
  rw [hy, her] at HFI HCL
  unfold chgA at HFI
  have HER := Lib.hid her
  have hs1 := HY1.out.lt
  have hws1 := HF1.out.size
  have hJ1 : J [] O0 W1 := fJ _ _ _ _ hJ0 (HF1.out.mono fun k hk => .inl (by rw [hk]; exact hK fb (.inl rfl)))
  have HJ1 := Lib.hid hJ1
  clear hW1 z0 z1 s0 f0 ff t0 hsW hz1 hy her hJ1 hmax
  refine ⟨trivial, fun _ => by omega, HFI.out.mono ?_⟩
  rintro o w2 ⟨rfl, hb2⟩
  have z0 := ((HZB.out.fr HF1.out hzn).below hb2 (by omega)).cell 0 (v := .string zn) rfl
  have z1 := ((HZB.out.fr HF1.out hzn).below hb2 (by omega)).cell 1 (v := .slice Ae l.length ce) rfl
  have s0 := ((HSB.out.fr HF1.out hsn).below hb2 (by omega)).cell 0 (v := sz) rfl
  have t0 := ((HTB.out.fr HF1.out htn).below hb2 (by omega)).cell 0 (v := .int .i64 to) rfl
  have f0 := (HFB1.out.below hb2 (by omega)).cell 0 (v := .int .i64 f) rfl
  have hs2 := hb2.size
  have hz2l : zb < w2.heap.size := by omega
  have hs2l : sb < w2.heap.size := by omega
  have ht2l : tb < w2.heap.size := by omega
  have hf2l : fb < w2.heap.size := by omega
  have HB2 := Lib.hid hb2
  have HN3 := Lib.hid (Blk.new w2 76 #[.int .i64 f, .int .i64 yo, .bool yd, .string ys])
  have HB3 := Lib.hid (HB2.out.trans (((Below.refl w2.heap.size w2).alloc (Nat.le_refl _) (.cells #[.int .i64 f, .int .i64 yo, .bool yd, .string ys] 76)).mono hs2))
  have hs3 : (w2.alloc (.cells #[.int .i64 f, .int .i64 yo, .bool yd, .string ys] 76)).heap.size = w2.heap.size + 1 := by simp
  clear HFI hb2
  by_cases he0 : er = 0
  · subst he0
    rw [if_pos rfl] at HCL
    gi_wp2
    refine wpIn_label ?_
    gi_wp2
    obtain ⟨w3, hw3⟩ : ∃ w3, w2.alloc (.cells #[.int .i64 f, .int .i64 yo, .bool yd, .string ys] 76) = w3 := ⟨_, rfl⟩
    rw [hw3] at HN3 HB3 hs3 ⊢
    have HS3 := Lib.hid hs3
    clear hw3 hs3 z0 z1 s0 f0 t0
    have HST := Lib.hid (callsIn_wide (n := n - 1).2 (zsteps_any w3 zn ev sv f to))
    rw [HSZ.out, HEV.out] at HST
    unfold zoneA at HST
    refine ⟨trivial, fun _ => by omega, HST.out.mono ?_⟩
    rintro o w4 ⟨rfl, hb4, g0, g1, g2, g3, hs4⟩
    have HB4 := Lib.hid (HB3.out.trans (hb4.mono HB3.out.size))
    have HN4 := Lib.hid (HN3.out.below hb4 HN3.out.lt)
    have HY4 := Lib.hid (HY1.out.below HB4.out hs1)
    have HC4 := Lib.hid (And.intro g0 (And.intro g1 (And.intro g2 g3)))
    clear hb4 g0 g1 g2 g3 HST
    gi_wp2
    have h34 : w2.heap.size < w3.heap.size := by have := HS3.out; omega
    have HZE := Lib.hid (errI_zero HER.out)
    refine range_own (α := Chg) rfl (by omega) (gf := 147) (lb := #[.pointer (some ⟨w3.heap.size, 0, none⟩), .pointer (some ⟨w3.heap.size + 1, 0, none⟩), .pointer (some ⟨w3.heap.size + 2, 0, none⟩), .pointer (some ⟨w3.heap.size + 3, 0, none⟩)]) rfl trivial (enters_of Tryz.func147 (by kernel_rfl) rfl)
      (encs := encC) (R := RC (stepsL S l f to) B2 Wb) (K := fun k => (k = w3.heap.size + 1 ∨ k = w3.heap.size + 2 ∨ k = w3.heap.size + 3) ∨ k < B2)
      (fun V hV => steps_iter (n - 1) (by omega) _ _ _ _ B B2 Wb w0 zn ev sv l S f to V (by rw [HEV.out]; exact HC4.out.1.below hV HC4.out.1.lt) (by rw [HSZ.out]; exact HC4.out.2.1.below hV HC4.out.2.1.lt) (HC4.out.2.2.1.below hV HC4.out.2.2.1.lt) (HC4.out.2.2.2.below hV HC4.out.2.2.2.lt) ((HZ1.out.below HB4.out).below hV) HO.out HZE.out HLT.out (HEI.out HZE.out) (by omega) hto ⟨by omega, by omega, by omega, hBB⟩ (by have := hV.size; omega) ((HSW1.out.then_below HB4.out (by omega)).then_below hV (by omega)) hm0 hw0)
      (fun _ => rfl) (ChI W.heap.size w2.heap.size lp ⟨yo, yd, ys⟩ W.heap.size O0 J) (ChX ⟨yo, yd, ys⟩ W.heap.size O0 Jx) (chI_feet fJ) (chX_feet fx)
      (fun k => O0 k ∨ k = W.heap.size ∨ k = w2.heap.size) ⟨O0, [], ⟨f, ⟨yo, yd, ys⟩⟩, fun k h => .inl h, fJ _ _ _ _ HJ1.out (Fr.of_below HB4.out (Nat.le_refl _)), ⟨.inr (.inl rfl), .inr (.inr rfl)⟩, ⟨fun e => by have := hO0 _ e; omega, fun e => by have := hO0 _ e; omega⟩, fun k h => .inl h, HY4.out, HN4.out, fun rest => rfl⟩
      (fun k hk => by rcases hk with h | h | h; have := hO0 _ h; all_goals omega) (fun k hk => by omega) (fun k hk h => by
        rcases h with h | h | h
        · rcases hk with hk | hk
          · have := hO0 _ h
            omega
          · exact hK k (.inr hk) h
        · omega
        · omega) ?round ?done ?stop
    case round =>
      intro l2 pre c O D V hI hBO hBD hDO hR nOl nDl hlow hltl
      obtain ⟨ca, ⟨co, cd, cs⟩⟩ := c
      obtain ⟨hnD, ⟨rest, hrest⟩, hsb⟩ := hR
      have HREST := Lib.hid hrest
      have HBO := Lib.hid hBO
      have HSB3 := Lib.hid hsb
      have HCV := Lib.hid (Blk.new V 76 #[.int .i64 ca, .int .i64 co, .bool cd, .string cs])
      have HBV := Lib.hid ((Below.refl V.heap.size V).alloc (Nat.le_refl _) (.cells #[.int .i64 ca, .int .i64 co, .bool cd, .string cs] 76))
      unfold encC chgA
      clear hI hBO hBD hDO hrest hsb
      gi_wp2
      refine ⟨HBV.out, ?_⟩
      intro Vb hfb hIb _
      obtain ⟨Oj, out, ⟨na, ⟨no, nd, nst⟩⟩, hsub, hJ, ⟨oy, on⟩, ⟨ny, nn⟩, hext, hyb, hnb, hall⟩ := hIb
      have hC := HCV.out.fr hfb (by omega)
      have hVb : V.heap.size ≤ Vb.heap.size := Nat.le_trans HBV.out.size hfb.size
      have HSM := Lib.hid ((SameB.then_below HSB3.out HBV.out (SameB.size HSB3.out)).then_fr hfb (fun k hk e => by omega))
      have HBB := Lib.hid (show Bd O Vb from fun k h => Nat.lt_of_lt_of_le (HBO.out k h) hVb)
      have hnV : ∀ k, V.heap.size ≤ k → ¬ O k := fun k hk h => by have := HBO.out k h; omega
      have hnbl := Blk.lt hnb
      have hybl := hyb.lt
      have hcl := hC.lt
      have c0 := hC.cell 0 (v := .int .i64 ca) rfl
      have c1 := hC.cell 1 (v := .int .i64 co) rfl
      have c2 := hC.cell 2 (v := .bool cd) rfl
      have c3 := hC.cell 3 (v := .string cs) rfl
      have n0 := Blk.cell hnb 0 (v := .int .i64 na) rfl
      have n1 := Blk.cell hnb 1 (v := .int .i64 no) rfl
      have n2 := Blk.cell hnb 2 (v := .bool nd) rfl
      have n3 := Blk.cell hnb 3 (v := .string nst) rfl
      have HJ := Lib.hid hJ
      have HYB := Lib.hid hyb
      have HNB := Lib.hid hnb
      have HALL := Lib.hid hall
      have HSUB := Lib.hid hsub
      have HEXT := Lib.hid hext
      have HC := Lib.hid hC
      have hncn : V.heap.size ≠ w2.heap.size := fun e => hnV _ (Nat.le_refl _) (by rw [e]; exact on)
      clear hJ hyb hnb hall hsub hext hC hfb
      cases hq : locE ⟨co, cd, cs⟩ ⟨no, nd, nst⟩ with
      | true =>
        have hyn := locE_iff.1 hq
        injection hyn with e1 e2 e3
        subst e1 e2 e3
        have HE := Lib.hid (show ∀ rest, dropF ⟨yo, yd, ys⟩ ((pre ++ [⟨ca, ⟨co, cd, cs⟩⟩]) ++ rest) = out ++ dropF ⟨co, cd, cs⟩ rest from fun rest => by
          rw [List.append_assoc, HALL.out]
          show out ++ dropF ⟨co, cd, cs⟩ (⟨ca, ⟨co, cd, cs⟩⟩ :: rest) = _
          rw [dropF_same hq])
        clear hq
        gi_wp2
        exact ⟨O, fun k h => .inl h, HBB.out, Fr.refl _ _, Oj, out, ⟨na, ⟨co, cd, cs⟩⟩, HSUB.out, HJ.out, ⟨oy, on⟩, ⟨ny, nn⟩, HEXT.out, HYB.out, HNB.out, HE.out⟩
      | false =>
        have HQ := Lib.hid hq
        have hq3 := hq
        unfold locE at hq3
        rw [decide_eq_false_iff_not] at hq3
        clear hq
        have y0 := HYB.out.cell 0 (v := .func (.yield lp) #[] #[]) rfl
        have g0 := Blk.frozen HNB.out 0
        have g1 := Blk.frozen HNB.out 1
        have g2 := Blk.frozen HNB.out 2
        have g3 := Blk.frozen HNB.out 3
        have hcase : (co == no) = false ∨ ((co == no) = true ∧ (cd == nd) = false) ∨ ((co == no) = true ∧ (cd == nd) = true ∧ (cs.toList == nst.toList) = false) := by
          by_cases h1 : co = no
          · by_cases h2 : cd = nd
            · exact .inr (.inr ⟨by simpa using h1, by simpa using h2, beq_eq_false_iff_ne.2 fun h3 => hq3 ⟨h1, h2, h3⟩⟩)
            · exact .inr (.inl ⟨by simpa using h1, by simpa using h2⟩)
          · exact .inl (by simpa using h1)
        have hF5 := fr_set4 (T := fun k => k = w2.heap.size) Vb rfl (.int .i64 ca) (.int .i64 co) (.bool cd) (.string cs)
        have hN5 : ChgB ((((Vb.setCell ⟨w2.heap.size, 0, none⟩ (.int .i64 ca)).setCell ⟨w2.heap.size, 1, none⟩ (.int .i64 co)).setCell ⟨w2.heap.size, 2, none⟩ (.bool cd)).setCell ⟨w2.heap.size, 3, none⟩ (.string cs)) w2.heap.size ⟨ca, ⟨co, cd, cs⟩⟩ := (((Blk.set HNB.out 0 (.int .i64 ca)).set 1 (.int .i64 co)).set 2 (.bool cd)).set 3 (.string cs)
        obtain ⟨v5, hv5⟩ : ∃ v, ((((Vb.setCell ⟨w2.heap.size, 0, none⟩ (.int .i64 ca)).setCell ⟨w2.heap.size, 1, none⟩ (.int .i64 co)).setCell ⟨w2.heap.size, 2, none⟩ (.bool cd)).setCell ⟨w2.heap.size, 3, none⟩ (.string cs)) = v := ⟨_, rfl⟩
        rw [hv5] at hF5 hN5
        have HF5 := Lib.hid hF5
        have HN5 := Lib.hid hN5
        have HY5 := Lib.hid (HYB.out.fr hF5 (by omega))
        have HC5 := Lib.hid (HC.out.fr hF5 hncn)
        have hs5 := hF5.size
        have y5 := HY5.out.cell 0 (v := .func (.yield lp) #[] #[]) rfl
        have k0 := HC5.out.cell 0 (v := .int .i64 ca) rfl
        have k1 := HC5.out.cell 1 (v := .int .i64 co) rfl
        have k2 := HC5.out.cell 2 (v := .bool cd) rfl
        have k3 := HC5.out.cell 3 (v := .string cs) rfl
        have hyl5 := HY5.out.lt
        have hcl5 := HC5.out.lt
        have HSB5 := Lib.hid (HSM.out.then_fr hF5 (fun k hk e => by omega))
        have HT := Lib.hid (show ∀ rest, dropF ⟨yo, yd, ys⟩ ((pre ++ [⟨ca, ⟨co, cd, cs⟩⟩]) ++ rest) = (out ++ [⟨ca, ⟨co, cd, cs⟩⟩]) ++ dropF ⟨co, cd, cs⟩ rest from fun rest => by
          rw [List.append_assoc, HALL.out]
          show out ++ dropF ⟨no, nd, nst⟩ (⟨ca, ⟨co, cd, cs⟩⟩ :: rest) = _
          rw [dropF_turn HQ.out, List.append_assoc]
          rfl)
        have hnext : ∃ rest, changesL S l fr to = out ++ ⟨ca, ⟨co, cd, cs⟩⟩ :: rest := ⟨dropF ⟨co, cd, cs⟩ rest, by
          have h := HT.out rest
          rw [List.append_assoc, List.append_assoc] at h
          rw [HCL.out, HREST.out]
          exact h⟩
        obtain ⟨fn, tmps, assign, body, hyd, hR⟩ := hY out ⟨ca, ⟨co, cd, cs⟩⟩ (fun _ => False) Oj v5 (fJ _ _ _ _ HJ.out (hF5.mono fun k hk => .inl fun h => by subst hk; exact nn h)) (fun k h => Nat.lt_of_lt_of_le (HBB.out k (HSUB.out k h)) hs5) (fun _ h => h.elim) (fun _ h => h.elim) ⟨fun _ h => h, hnext, HSB5.out⟩
        unfold encC chgA at hyd
        simp only at hyd
        have HY2 := Lib.hid hR
        clear hq3 hF5 hN5 hR hnext
        rcases hcase with d1 | ⟨d1, d2⟩ | ⟨d1, d2, d3⟩
        all_goals
          gi_wp2
          refine ⟨fun _ => by omega, (roundIn_in HY2.out).mono ?_⟩
          rintro o v6 ⟨O6, hx6, hbd6, hf6, hend⟩
          have hN6 := Blk.fr HN5.out hf6 (fun e => e.elim nn id)
          have hY6 := HY5.out.fr hf6 (fun e => e.elim ny id)
          have hext6 : ∀ k, O6 k → O0 k ∨ W.heap.size ≤ k := fun k h => by
            rcases hx6 k h with h | h | h
            · exact HEXT.out k h
            · exact h.elim
            · exact .inr (by omega)
          have hno6 : ∀ k, k ≤ w2.heap.size → ¬ Oj k → ¬ O6 k := fun k hk hn h => by
            rcases hx6 k h with h | h | h
            · exact hn h
            · exact h
            · omega
          have hO' : ∀ k, (O k ∨ O6 k) → O k ∨ D k ∨ Vb.heap.size ≤ k := fun k h => by
            rcases h with h | h
            · exact .inl h
            · rcases hx6 k h with h | h | h
              · exact .inl (HSUB.out k h)
              · exact h.elim
              · exact .inr (.inr (by omega))
          have hfr6 : Fr (fun k => O k ∨ D k) Vb v6 := ((HF5.out.mono (T' := fun k => O k ∨ D k) fun k hk => .inl (.inl (by subst hk; exact on))).then (hf6.mono (T' := fun k => O k ∨ D k) fun k hk => .inl (.inl (HSUB.out k (hk.elim id False.elim)))))
          have hbd' : Bd (fun k => O k ∨ O6 k) v6 := fun k h => by
            rcases h with h | h
            · exact (HBB.out.fr hfr6) k h
            · exact hbd6 k h
          clear hyd
          rcases hend with ⟨rfl, hJ6⟩ | ⟨rfl, hJx6⟩
          · have HJ6 := Lib.hid hJ6
            clear hJ6
            gi_wp2
            exact ⟨fun k => O k ∨ O6 k, hO', hbd', hfr6, O6, out ++ [⟨ca, ⟨co, cd, cs⟩⟩], ⟨ca, ⟨co, cd, cs⟩⟩, fun k h => .inr h, HJ6.out, ⟨.inl oy, .inl on⟩, ⟨hno6 _ (by omega) ny, hno6 _ (Nat.le_refl _) nn⟩, hext6, hY6, hN6, HT.out⟩
          · have HJ6 := Lib.hid hJx6
            clear hJx6
            gi_wp2
            exact ⟨fun k => O k ∨ O6 k, hO', hbd', hfr6, O6, out ++ [⟨ca, ⟨co, cd, cs⟩⟩], fun k h => .inr h, hext6, rfl, HJ6.out, fun rest => ⟨dropF ⟨co, cd, cs⟩ rest, HT.out rest⟩⟩
    case done =>
      intro D xs O V hD hS hI hO hBO hOD hfr hK2
      obtain ⟨Oj, out, now, hsub, hJ, -, -, hext, -, -, hall⟩ := hI
      have hout : out = changesL S l fr to := by
        have h := hall []
        rw [List.append_nil, hS] at h
        rw [HCL.out, h]
        exact (List.append_nil out).symm
      have HK2 := Lib.hid hK2
      have HOUT := Lib.hid hout
      have HJ := Lib.hid hJ
      have HFR := Lib.hid ((((HF1.out.mono (T' := fun k => O0 k ∨ k = fb) fun k hk => .inl (.inr hk)).then (Fr.of_below HB4.out (Nat.le_refl _))).trans hfr fun k hk => by
        rcases hk with (hk | hk | hk) | hk
        · exact .inl (.inl hk)
        · exact .inr (by omega)
        · exact .inr (by omega)
        · exact .inr (by omega)))
      have hDl : D < V.heap.size := (Array.getElem?_eq_some_iff.1 hK2).1
      have hDw : W.heap.size ≤ D := by omega
      have hnD : ¬ Oj D := fun h => hOD (hsub D h)
      have HEXT := Lib.hid (show ∀ k, Oj k → O0 k ∨ W.heap.size ≤ k from hext)
      have HSUB := Lib.hid hsub
      have HBO := Lib.hid hBO
      clear hS hfr hK2 hall hout hJ hext hsub hBO hO
      gi_wp2
      simp only [Exit.noGoto]
      refine ⟨by simp, .inl ⟨_, _, rfl, run_takeDeferred HK2.out, ?_⟩⟩
      refine ⟨_, results_none rfl _ _ _, ?_⟩
      exact ⟨⟨_, rfl⟩, Oj, HEXT.out, fun k h => Nat.lt_of_lt_of_le (HBO.out k (HSUB.out k h)) (Nat.le_of_eq (fin_size V D _).symm), HFR.out.trans (Fr.putObj (T := fun k => k = D) V _ rfl) (fun k hk => .inr (by omega)), .inl ⟨out, HOUT.out, fJ _ _ _ _ HJ.out (Fr.putObj V _ hnD)⟩⟩
    case stop =>
      intro D c pre O V hD hS hX hO hBO hOD hfr hK2
      obtain ⟨rest, hrest⟩ := hS
      obtain ⟨Oj, out, hsub, hext, rfl, hJx, hr⟩ := hX
      obtain ⟨r2, hr2⟩ := hr rest
      have HOUT := Lib.hid (show ∃ rest, changesL S l fr to = out ++ rest from ⟨r2, by
        rw [HCL.out, hrest]
        exact hr2⟩)
      have HK2 := Lib.hid hK2
      have HJ := Lib.hid hJx
      have HFR := Lib.hid ((((HF1.out.mono (T' := fun k => O0 k ∨ k = fb) fun k hk => .inl (.inr hk)).then (Fr.of_below HB4.out (Nat.le_refl _))).trans hfr fun k hk => by
        rcases hk with (hk | hk | hk) | hk
        · exact .inl (.inl hk)
        · exact .inr (by omega)
        · exact .inr (by omega)
        · exact .inr (by omega)))
      have hDl : D < V.heap.size := (Array.getElem?_eq_some_iff.1 hK2).1
      have hDw : W.heap.size ≤ D := by omega
      have hnD : ¬ Oj D := fun h => hOD (hsub D h)
      have HEXT := Lib.hid (show ∀ k, Oj k → O0 k ∨ W.heap.size ≤ k from hext)
      have HSUB := Lib.hid hsub
      have HBO := Lib.hid hBO
      clear hrest hfr hK2 hr hr2 hJx hext hsub hBO hO
      gi_wp2
      simp only [Exit.noGoto]
      refine ⟨by simp, .inl ⟨_, _, rfl, run_takeDeferred HK2.out, ?_⟩⟩
      refine ⟨_, results_none rfl _ _ _, ?_⟩
      exact ⟨⟨_, rfl⟩, Oj, HEXT.out, fun k h => Nat.lt_of_lt_of_le (HBO.out k (HSUB.out k h)) (Nat.le_of_eq (fin_size V D _).symm), HFR.out.trans (Fr.putObj (T := fun k => k = D) V _ rfl) (fun k hk => .inr (by omega)), .inr ⟨out, HOUT.out, fx _ _ _ _ HJ.out (Fr.putObj V _ hnD)⟩⟩
  · have hne : (er == 0) = false := beq_eq_false_iff_ne.2 he0
    rw [if_neg he0] at HCL
    gi_wp2
    rw [Exit.noGoto_ret]
    refine ⟨_, results_none rfl _ _ _, ?_⟩
    have HFR : Fr (fun k => O0 k ∨ k = fb) W (w2.alloc (.cells #[.int .i64 f, .int .i64 yo, .bool yd, .string ys] 76)) := (HF1.out.mono fun k hk => .inl (.inr hk)).then (Fr.of_below HB3.out (Nat.le_refl _))
    exact ⟨⟨_, rfl⟩, O0, fun k h => .inl h, hO0.fr HFR, HFR, .inl ⟨[], HCL.out.symm, fJ _ _ _ _ HJ1.out (Fr.of_below HB3.out (Nat.le_refl _))⟩⟩
end Go.Proofs.YteekjfgjmccdnaaGreatDoor
end

section
/- HMake: Layer 14's Make at any zone, walked. -/
namespace Go.Proofs.YteekjfgjmccdnaaGreatDoor
open Go Go.RowKit Go.Shelf
attribute [local go_sem] Oper.semAt_some
set_option maxRecDepth 100000

def makeErr (S : List SetF) (l : List EraF) (to : Int) : Int :=
  if errZ S l ≠ 0 then errZ S l else if to < -2199023255552 ∨ 2199023255552 < to then 10 else errI S l (-2199023255552)
def tabL (S : List SetF) (l : List EraF) (to : Int) : List Chg := ⟨-2199023255552, locZ S l (-2199023255552)⟩ :: changesL S l (-2199023255552) to
def MakeEnd (S : List SetF) (l : List EraF) (to : Int) (w : World) (o : Ending) (w' : World) : Prop :=
  (∃ v, o = .returned (.tuple #[v, .int .i64 (makeErr S l to)]) ∧ (makeErr S l to = 0 → Chgs w' w'.heap.size v (tabL S l to)) ∧ (makeErr S l to ≠ 0 → v = .slice none 0 0)) ∧ Below w.heap.size w w'
theorem infoChgH : (Tryz.prog.info? 76).map (fun i => (i.zero, i.size, i.bytes)) = some (some (.agg #[.int .i64 0, .int .i64 0, .bool false, .string ⟨#[]⟩]), 4, 40) := by kernel_rfl
/-- The row that the loop makes. -/
def MkI (ob base : Nat) (c0 : Chg) (pre : List Chg) (O : Nat → Prop) (W : World) : Prop :=
  ∃ v, O ob ∧ Blk W ob 81 #[v] ∧ W.ownsRow base 76 4 v (c0 :: pre).length (chgsV (c0 :: pre)) ∧ ∀ g, v.ownBlock = some g → O g ∧ g ≠ ob
theorem mkI_feet (ob base : Nat) (c0 : Chg) : Feet (MkI ob base c0) := by
  rintro pre O W W' ⟨v, h3, h4, h5, h6⟩ hf
  exact ⟨v, h3, h4.fr hf (fun h => h h3), hf.own h5 (fun g hg h => h (h6 g hg).1), h6⟩
theorem MkI.push {ob base : Nat} {c0 c : Chg} {pre : List Chg} {O : Nat → Prop} {W W1 W2 : World} {v v' : Value} (hBO : Bd O W) (ho1 : O ob)
    (h1 : Below W.heap.size W W1) (hv : Blk W ob 81 #[v]) (hvo : ∀ g, v.ownBlock = some g → O g ∧ g ≠ ob) (hg : W1.grownBy W2 v.ownBlock) (ho : W2.ownsRow base 76 4 v' ((c0 :: pre).length + 1) (chgsV (c0 :: pre) ++ chgV c))
    (hl : v'.ownBlock = v.ownBlock ∨ v'.ownBlock = some W1.heap.size) :
    ∃ O', (∀ k, O' k → O k ∨ W.heap.size ≤ k) ∧ Bd O' (W2.setCell ⟨ob, 0, none⟩ v') ∧ Fr O W (W2.setCell ⟨ob, 0, none⟩ v') ∧ MkI ob base c0 (pre ++ [c]) O' (W2.setCell ⟨ob, 0, none⟩ v') := by
  have hob := hv.lt
  have hs1 := h1.size
  have hvn : v'.ownBlock ≠ some ob := by
    rcases hl with e | e
    · rw [e]; exact fun e => (hvo _ e).2 rfl
    · rw [e]; exact fun e => by cases e; omega
  have n2 : v.ownBlock ≠ some ob := fun e => (hvo _ e).2 rfl
  have g2 : Blk W2 ob 81 #[v] := (hv.below h1 hob).grown hg n2
  refine ⟨fun k => O k ∨ v'.ownBlock = some k, ?_, ?_, ?_, v', .inl ho1, g2.set 0 v', ?_, fun g hg' => ⟨.inr hg', fun e => hvn (by rw [hg', e])⟩⟩
  · intro k hk
    rcases hk with hk | hk
    · exact .inl hk
    · rcases hl with e | e
      · rw [e] at hk; exact .inl (hvo k hk).1
      · rw [e] at hk; cases hk; exact .inr hs1
  · intro k hk
    have hsz : (W2.setCell ⟨ob, 0, none⟩ v').heap.size = W2.heap.size := by simp
    rw [hsz]
    rcases hk with hk | hk
    · have := hBO k hk; have := hg.size; omega
    · exact (ho.lt _ hk).2
  · exact (((Fr.of_below h1 (Nat.le_refl _)).then (Fr.grown hg (fun g e => .inl (hvo g e).1))).then (Fr.setCell _ 0 _ ho1))
  · have e1 : c0 :: (pre ++ [c]) = (c0 :: pre) ++ [c] := rfl
    rw [e1, chgsV_append, List.length_append, List.length_singleton, show chgsV [c] = chgV c by simp [chgsV]]
    exact Fr.own (Fr.setCell (T := fun k => k = ob) W2 0 v' rfl) ho (fun g hg' e => hvn (by rw [hg', e]))
theorem own_one (w : World) (c : Chg) (base : Nat) (hb : base ≤ w.heap.size) : (w.alloc (.cells #[.int .i64 c.at_, .int .i64 c.loc.off, .bool c.loc.dst, .string c.loc.abbr] 76)).ownsRow base 76 4 (.slice (some ⟨w.heap.size, 0, none⟩) 1 1) 1 (chgsV [c]) :=
  ⟨by simp [chgsV, chgV], .inr ⟨w.heap.size, 1, _, rfl, hb, World.alloc_heap_new _ _, Nat.le_refl _, by decide, rfl, by simp [chgsV, chgV]⟩⟩
set_option maxHeartbeats 4000000 in
theorem zmake_any (zn : ByteArray) (ev sv : Value) (l : List EraF) (S : List SetF) (to : Int) (B : Nat) (w : World) (hz : ZW w B ev sv l S) (ho : ZOk l S) (hlet : ∀ s ∈ S, letOk s.l)
    (hE : errZ S l = 0 → ∀ e ∈ endL S l, -9000000000000000000 ≤ e ∧ e ≤ 9000000000000000000) (hcl : -2199023255552 ≤ to → to ≤ 2199023255552 → (changesL S l (-2199023255552) to).length ≤ 1000000000000) :
    Calls Tryz.prog 38 #[zoneA zn ev, setsV zn ev sv, .int .i64 to] w (MakeEnd S l to w) := by
  obtain ⟨Ae, ce, he, -, -⟩ := hz.eras.form
  have HEV := Lib.hid he
  have hb0 : Below w.heap.size w (w.alloc (.cells #[.string zn, ev] 24)) := (Below.refl _ _).alloc (Nat.le_refl _) _
  have hz0 := Blk.new w 24 #[.string zn, ev]
  have HC := Lib.hid (zcheckZ_any zn ev sv B l S _ (hz.below hb0) ho)
  obtain ⟨sz, hsz⟩ : ∃ v, setsV zn ev sv = v := ⟨_, rfl⟩
  have HSZ := Lib.hid hsz
  obtain ⟨eZ, heZ⟩ : ∃ e, errZ S l = e := ⟨_, rfl⟩
  rw [hsz, heZ] at HC
  rw [hsz]
  have HEZ := Lib.hid heZ
  rw [he] at hz0 HC hb0 ⊢
  unfold zoneA at HC ⊢
  have HZ := Lib.hid hz
  have HO := Lib.hid ho
  have HLT := Lib.hid hlet
  have HEI := Lib.hid hE
  have HCLN := Lib.hid hcl
  have HB0 := Lib.hid hb0
  have HZ0 := Lib.hid hz0
  clear he hsz heZ hz ho hlet hE hcl hb0 hz0
  refine (callsIn_wide (n := 14)).1 ?_
  refine callsIn_of_wp_marks Tryz.func38 rfl trivial ?_ rfl
  simp only [Tryz.ntmps38, List.size_toArray, List.length_cons, List.length_nil, Nat.reduceAdd, Nat.reduceSub, Array.replicate_succ, Array.replicate_zero, List.push_toArray, List.append_toArray, List.nil_append, List.cons_append]
  refine wpIn_wide.2 ?_
  go_wp2_with fail
  refine HC.out.mono ?_
  rintro o w1 ⟨rfl, hb⟩
  have HB1 := Lib.hid (HB0.out.trans (hb.mono HB0.out.size))
  have HZ1 := Lib.hid (HZ0.out.below hb HZ0.out.lt)
  have hs1 := HZ1.out.lt
  have z0 := HZ1.out.cell 0 (v := .string zn) rfl
  have z1 := HZ1.out.cell 1 (v := .slice Ae l.length ce) rfl
  clear HC hb
  by_cases h0 : eZ = 0
  · subst h0
    by_cases hr1 : to < -2199023255552
    · have d1 : decide (to < -2199023255552) = true := decide_eq_true hr1
      have HER := Lib.hid (show makeErr S l to = 10 by unfold makeErr; rw [HEZ.out, if_neg (by simp), if_pos (.inl hr1)])
      go_wp2_with fail
      refine ⟨.tuple #[.slice none 0 0, .int .i64 (10)], by simp [results, Tryz.f38, go_sem], ⟨_, by rw [HER.out], fun h => absurd (HER.out.symm.trans h) (by decide), fun _ => rfl⟩, HB1.out⟩
    · by_cases hr2 : 2199023255552 < to
      · have d1 : decide (to < -2199023255552) = false := decide_eq_false hr1
        have d2 : decide (2199023255552 < to) = true := decide_eq_true hr2
        have HER := Lib.hid (show makeErr S l to = 10 by unfold makeErr; rw [HEZ.out, if_neg (by simp), if_pos (.inr hr2)])
        go_wp2_with fail
        refine ⟨.tuple #[.slice none 0 0, .int .i64 (10)], by simp [results, Tryz.f38, go_sem], ⟨_, by rw [HER.out], fun h => absurd (HER.out.symm.trans h) (by decide), fun _ => rfl⟩, HB1.out⟩
      · have d1 : decide (to < -2199023255552) = false := decide_eq_false hr1
        have d2 : decide (2199023255552 < to) = false := decide_eq_false hr2
        have HER := Lib.hid (show makeErr S l to = errI S l (-2199023255552) by unfold makeErr; rw [HEZ.out, if_neg (by simp), if_neg (by omega)])
        have HFI := Lib.hid (zfirst_any zn ev sv B l S (-2199023255552) w1 (HZ.out.below HB1.out) HO.out HLT.out)
        rw [HSZ.out, HEV.out] at HFI
        unfold zoneA at HFI
        obtain ⟨⟨yo, yd, ys⟩, hy⟩ : ∃ y, locZ S l (-2199023255552) = y := ⟨_, rfl⟩
        obtain ⟨er, her⟩ : ∃ e, errI S l (-2199023255552) = e := ⟨_, rfl⟩
        rw [hy, her] at HFI
        rw [her] at HER
        unfold chgA at HFI
        have HY := Lib.hid hy
        have HTO := Lib.hid (show -2199023255552 ≤ to ∧ to ≤ 2199023255552 by omega)
        clear hy her hr1 hr2
        go_wp2_with fail
        refine HFI.out.mono ?_
        rintro o w2 ⟨rfl, hb⟩
        have HB2 := Lib.hid (HB1.out.trans (hb.mono HB1.out.size))
        have HZ2 := Lib.hid (HZ1.out.below hb hs1)
        have hs2 := HZ2.out.lt
        clear z0 z1 hb HFI
        have z0 := HZ2.out.cell 0 (v := .string zn) rfl
        have z1 := HZ2.out.cell 1 (v := .slice Ae l.length ce) rfl
        by_cases he0 : er = 0
        · subst he0
          have lz1 : w.heap.size < w2.heap.size + 1 := by omega
          have lz2 : w.heap.size < w2.heap.size + 1 + 1 := by omega
          have HOW := Lib.hid (own_one (w2.alloc (.cells #[.int .i64 (-2199023255552), .int .i64 yo, .bool yd, .string ys] 76)) ⟨-2199023255552, ⟨yo, yd, ys⟩⟩ w.heap.size (by simp; omega))
          have HT := Lib.hid (Blk.new ((w2.alloc (.cells #[.int .i64 (-2199023255552), .int .i64 yo, .bool yd, .string ys] 76)).alloc (.cells #[.int .i64 (-2199023255552), .int .i64 yo, .bool yd, .string ys] 76)) 81 #[.slice (some ⟨w2.heap.size + 1, 0, none⟩) 1 1])
          have HB3 := Lib.hid ((((Below.refl w2.heap.size w2).alloc (Nat.le_refl _) (.cells #[.int .i64 (-2199023255552), .int .i64 yo, .bool yd, .string ys] 76)).alloc (by simp) (.cells #[.int .i64 (-2199023255552), .int .i64 yo, .bool yd, .string ys] 76)).alloc (by simp; omega) (.cells #[.slice (some ⟨w2.heap.size + 1, 0, none⟩) 1 1] 81))
          have HO3 := Lib.hid (HOW.out.alloc (.cells #[.slice (some ⟨w2.heap.size + 1, 0, none⟩) 1 1] 81))
          have hs3 : ((((w2.alloc (.cells #[.int .i64 (-2199023255552), .int .i64 yo, .bool yd, .string ys] 76)).alloc (.cells #[.int .i64 (-2199023255552), .int .i64 yo, .bool yd, .string ys] 76)).alloc (.cells #[.slice (some ⟨w2.heap.size + 1, 0, none⟩) 1 1] 81))).heap.size = w2.heap.size + 3 := by simp
          simp only [World.size_alloc] at HT HO3
          have HS3 := Lib.hid hs3
          clear hs3
          go_wp2_with fail
          obtain ⟨w3, hw3⟩ : ∃ w3, (((w2.alloc (.cells #[.int .i64 (-2199023255552), .int .i64 yo, .bool yd, .string ys] 76)).alloc (.cells #[.int .i64 (-2199023255552), .int .i64 yo, .bool yd, .string ys] 76)).alloc (.cells #[.slice (some ⟨w2.heap.size + 1, 0, none⟩) 1 1] 81)) = w3 := ⟨_, rfl⟩
          rw [hw3] at HB3 HT HO3 HS3 ⊢
          clear hw3 z0 z1 lz1 lz2
          have HCH := Lib.hid (zchanges_any w3 zn ev sv (-2199023255552) to)
          rw [HSZ.out, HEV.out] at HCH
          unfold zoneA at HCH
          refine HCH.out.mono ?_
          rintro o w4 ⟨rfl, hb4, g0, g1, g2, g3, hs4⟩
          have HB4 := Lib.hid ((HB2.out.trans (HB3.out.mono (by omega))).trans (hb4.mono (by have := HS3.out; omega)))
          have HC4 := Lib.hid (And.intro g0 (And.intro g1 (And.intro g2 g3)))
          have HT4 := Lib.hid (HT.out.below hb4 HT.out.lt)
          have HO4 := Lib.hid (ownsRow_below HO3.out hb4)
          have HS4 := Lib.hid hs4
          clear hb4 g0 g1 g2 g3 hs4 HCH
          go_wp2_with fail
          have h23 := HS3.out
          have h44 := HS4.out
          have hle := HZ.out.le
          refine (wpIn_wide (n := 14)).1 ?_
          refine range_own (α := Chg) rfl (by omega) (gf := 118) (lb := #[.pointer (some ⟨w3.heap.size + 2, 0, none⟩), .pointer (some ⟨w3.heap.size, 0, none⟩), .pointer (some ⟨w3.heap.size + 1, 0, none⟩), .pointer (some ⟨w3.heap.size + 3, 0, none⟩)]) rfl trivial (enters_of Tryz.func118 (by kernel_rfl) rfl)
            (encs := encC) (R := RC (changesL S l (-2199023255552) to) w.heap.size w4) (K := fun k => k = w3.heap.size + 2 ∨ k < w.heap.size)
            (fun V hV => changes_iter 13 (by omega) _ _ _ _ B w.heap.size w4 w zn ev sv l S (-2199023255552) to V (by rw [HEV.out]; exact HC4.out.1.below hV HC4.out.1.lt) (by rw [HSZ.out]; exact HC4.out.2.1.below hV HC4.out.2.1.lt) (HC4.out.2.2.1.below hV HC4.out.2.2.1.lt) (HC4.out.2.2.2.below hV HC4.out.2.2.2.lt) ((HZ.out.below HB4.out).below hV) HO.out HLT.out HEI.out (by omega) (by have := HTO.out; omega) ⟨by omega, by omega, by omega, by omega, by omega⟩ (by have := hV.size; omega) ((SameB.refl (by omega)).then_below hV (by omega)) HZ.out.maxl (Nat.le_refl _))
            (fun _ => rfl) (MkI (w2.heap.size + 1 + 1) w.heap.size ⟨-2199023255552, ⟨yo, yd, ys⟩⟩) (fun _ _ _ _ => False) (mkI_feet _ _ _) (fun _ _ _ _ _ h _ => h)
            (fun k => k = w2.heap.size + 1 + 1 ∨ k = w2.heap.size + 1) ⟨_, .inl rfl, HT4.out, HO4.out, fun g hg => by cases hg; exact ⟨.inr rfl, by show w2.heap.size + 1 ≠ _; omega⟩⟩
            (fun k hk => by omega) (fun k hk => by omega) (fun k hk => by omega) ?round ?done ?stop
          case stop =>
            intro _ _ _ _ _ _ _ h
            exact h.elim
          case round =>
            intro lp pre c O D V hI hBO hBD hDO hR nOl nDl hlow hltl
            obtain ⟨ca, ⟨co, cd, cs⟩⟩ := c
            obtain ⟨hnD, ⟨rest, hrest⟩, hsame⟩ := hR
            have hcl := HCLN.out HTO.out.1 HTO.out.2
            rw [hrest, List.length_append, List.length_cons] at hcl
            have hpl : pre.length + 1 ≤ 1000000000000 := by omega
            have HBO := Lib.hid hBO
            have HCV := Lib.hid (Blk.new V 76 #[.int .i64 ca, .int .i64 co, .bool cd, .string cs])
            have HBV := Lib.hid ((Below.refl V.heap.size V).alloc (Nat.le_refl _) (.cells #[.int .i64 ca, .int .i64 co, .bool cd, .string cs] 76))
            unfold encC chgA
            clear hI hBO hBD hDO hrest hsame hcl
            gi_wp2
            refine ⟨HBV.out, ?_⟩
            intro Vb hfb hIb _
            obtain ⟨v, o2, hobb, hown, huo⟩ := hIb
            obtain ⟨A, c5, rfl⟩ := (Sl.of_own hown).form
            have hC := HCV.out.fr hfb (by omega)
            have hVb : V.heap.size ≤ Vb.heap.size := Nat.le_trans HBV.out.size hfb.size
            have HBB := Lib.hid (show Bd O Vb from fun k h => Nat.lt_of_lt_of_le (HBO.out k h) hVb)
            have HOB := Lib.hid hobb
            have HOW := Lib.hid hown
            have HUO := Lib.hid huo
            have hwV : w.heap.size ≤ Vb.heap.size := by omega
            have hAP : ∃ v5 u5, (Builtin.append_ #[81, 81] 81 #[.slice A ((⟨-2199023255552, ⟨yo, yd, ys⟩⟩ : Chg) :: pre).length c5, .slice (some ⟨Vb.heap.size, 0, none⟩) 1 1]).run Tryz.prog (Vb.alloc (.cells #[.int .i64 ca, .int .i64 co, .bool cd, .string cs] 76)) = .ok v5 u5 ∧ u5.ownsRow w.heap.size 76 4 v5 (((⟨-2199023255552, ⟨yo, yd, ys⟩⟩ : Chg) :: pre).length + 1) (chgsV ((⟨-2199023255552, ⟨yo, yd, ys⟩⟩ : Chg) :: pre) ++ chgV ⟨ca, ⟨co, cd, cs⟩⟩) ∧
                (Vb.alloc (.cells #[.int .i64 ca, .int .i64 co, .bool cd, .string cs] 76)).grownBy u5 (Value.slice A ((⟨-2199023255552, ⟨yo, yd, ys⟩⟩ : Chg) :: pre).length c5).ownBlock ∧ (v5.ownBlock = (Value.slice A ((⟨-2199023255552, ⟨yo, yd, ys⟩⟩ : Chg) :: pre).length c5).ownBlock ∨ v5.ownBlock = some (Vb.alloc (.cells #[.int .i64 ca, .int .i64 co, .bool cd, .string cs] 76)).heap.size) := by
              obtain ⟨i0, hi, hz0, hz1, hz2⟩ := info_parts infoChgH
              obtain ⟨v5, u5, h2, h3, h4, -, h5⟩ := run_append_own_at (P := Tryz.prog) (Vb.alloc (.cells #[.int .i64 ca, .int .i64 co, .bool cd, .string cs] 76)) w.heap.size 81 81 76 i0 (.agg #[.int .i64 0, .int .i64 0, .bool false, .string ⟨#[]⟩]) 4 40 Tryz.underlying81 hi hz0 hz1 hz2 rfl (by decide) _ _ _ (HOW.out.alloc _) ⟨Vb.heap.size, 0, none⟩ 1 1 (chgV ⟨ca, ⟨co, cd, cs⟩⟩) rfl (fun j y hy => by rw [Addr.add_lit, Nat.zero_add]; exact (cell_new _ _ _ _ j).trans (by simpa [chgV] using hy)) (by simp [chgV, Value.oneCell']) (by unfold maxLen; simp only [List.length_cons]; omega) (by simp only [List.length_cons]; omega) (by simp; omega)
              exact ⟨v5, u5, h2, h3, h4, h5⟩
            obtain ⟨v5, u5, hrun, how, hgr, hlo⟩ := hAP
            have hBn : Below Vb.heap.size Vb (Vb.alloc (.cells #[.int .i64 ca, .int .i64 co, .bool cd, .string cs] 76)) := (Below.refl _ _).alloc (Nat.le_refl _) _
            obtain ⟨A5, c6, rfl⟩ := (Sl.of_own how).form
            obtain ⟨O', hx', hbd', hfr', hI'⟩ := MkI.push (base := w.heap.size) (c0 := ⟨-2199023255552, ⟨yo, yd, ys⟩⟩) (c := ⟨ca, ⟨co, cd, cs⟩⟩) (pre := pre) HBB.out o2 hBn HOB.out HUO.out hgr how hlo
            have rf5 : u5.frozen? ⟨w2.heap.size + 1 + 1, 0, none⟩ = false := ((HOB.out.alloc (.cells #[.int .i64 ca, .int .i64 co, .bool cd, .string cs] 76)).grown hgr (fun e => (HUO.out _ e).2 rfl)).frozen 0
            have rc5 := ((HOB.out.alloc (.cells #[.int .i64 ca, .int .i64 co, .bool cd, .string cs] 76)).grown hgr (fun e => (HUO.out _ e).2 rfl)).cell 0 (v := .slice A ((⟨-2199023255552, ⟨yo, yd, ys⟩⟩ : Chg) :: pre).length c5) rfl
            have HRES := Lib.hid (show leftO (MkI (w2.heap.size + 1 + 1) w.heap.size ⟨-2199023255552, ⟨yo, yd, ys⟩⟩) (fun _ _ _ _ => False) (pre ++ [⟨ca, ⟨co, cd, cs⟩⟩]) O D Vb .normal ⟨#[], []⟩ (u5.setCell ⟨w2.heap.size + 1 + 1, 0, none⟩ (.slice A5 (((⟨-2199023255552, ⟨yo, yd, ys⟩⟩ : Chg) :: pre).length + 1) c6)) from ⟨O', fun k h => by rcases hx' k h with h | h; exact .inl h; exact .inr (.inr h), hbd', hfr'.mono (fun k h => .inl (.inl h)), hI'⟩)
            have r0 : Vb.cell? ⟨w2.heap.size + 1 + 1, 0, none⟩ = some (.slice A ((⟨-2199023255552, ⟨yo, yd, ys⟩⟩ : Chg) :: pre).length c5) := HOB.out.cell 0 rfl
            have rl := HOB.out.lt
            have c0 := hC.cell 0 (v := .int .i64 ca) rfl
            have c1 := hC.cell 1 (v := .int .i64 co) rfl
            have c2 := hC.cell 2 (v := .bool cd) rfl
            have c3 := hC.cell 3 (v := .string cs) rfl
            have hcl := hC.lt
            obtain ⟨m, hm⟩ : ∃ m, ((⟨-2199023255552, ⟨yo, yd, ys⟩⟩ : Chg) :: pre).length = m := ⟨_, rfl⟩
            rw [hm] at hrun rc5 r0 HRES
            clear hx' hbd' hfr' hI' how hgr hlo hobb hown huo hC hm hfb
            gi_wp2_with (gi_at_builtin; refine wpListIn_append_run rfl _ _ _ rfl rfl rfl hrun ?_)
            exact HRES.out
          case done =>
            intro D xs O V hD hS hI hO hBO hOD hfr hK2
            obtain ⟨u, o2, hobb, hown, huo⟩ := hI
            have HTL := Lib.hid (show tabL S l to = ⟨-2199023255552, ⟨yo, yd, ys⟩⟩ :: xs by unfold tabL; rw [HY.out, hS])
            have r0 := hobb.cell 0 (v := u) rfl
            have HSL := Lib.hid (Sl.of_own hown)
            have HBL := Lib.hid (show Below w.heap.size w V from HB4.out.trans (hfr.below (by omega) (fun k hk h => by rcases h with (h | h) | h <;> omega)))
            have HK2 := Lib.hid hK2
            have rl := hobb.lt
            clear hobb hown huo hfr hO hBO hS hK2
            go_wp2_with fail
            refine ⟨by simp, .inl ⟨_, _, rfl, run_takeDeferred HK2.out, ?_⟩⟩
            refine ⟨.tuple #[u, .int .i64 0], ?_, ⟨u, by rw [HER.out], fun _ => ?_, fun h => absurd HER.out h⟩, fin_below HBL.out (by omega)⟩
            · simp [results, Tryz.f38, go_sem]
            · rw [HTL.out, fin_size]
              exact fin_sl HSL.out HK2.out
        · have hne : (er == 0) = false := beq_eq_false_iff_ne.2 he0
          go_wp2_with fail
          refine ⟨.tuple #[.slice none 0 0, .int .i64 er], by simp [results, Tryz.f38, go_sem], ⟨_, by rw [HER.out], fun h => absurd (HER.out.symm.trans h) he0, fun _ => rfl⟩, HB2.out.alloc HB2.out.size _⟩
  · have hne : (eZ == 0) = false := beq_eq_false_iff_ne.2 h0
    have HER := Lib.hid (show makeErr S l to = eZ by unfold makeErr; rw [HEZ.out, if_pos h0])
    go_wp2_with fail
    refine ⟨.tuple #[.slice none 0 0, .int .i64 (eZ)], by simp [results, Tryz.f38, go_sem], ⟨_, by rw [HER.out], fun h => absurd (HER.out.symm.trans h) (h0), fun _ => rfl⟩, HB1.out⟩
end Go.Proofs.YteekjfgjmccdnaaGreatDoor
end

section
/- HRch: Layer 14's reference: its list of changes (walked). -/
namespace Go.Proofs.YteekjfgjmccdnaaGreatDoor
open Go Go.RowKit Go.Shelf
set_option maxRecDepth 100000

section
variable {S : List SetF} {l : List EraF} {R : List RowF}
end
end Go.Proofs.YteekjfgjmccdnaaGreatDoor
end

section
/- HAll: Layer 14's Changes at any zone. -/
namespace Go.Proofs.YteekjfgjmccdnaaGreatDoor
open Go Go.RowKit Go.Shelf
set_option maxRecDepth 100000

theorem zall_any (w : World) (zn : ByteArray) (A : Option Addr) (m c : Nat) (ev sv : Value) (he : ev = .slice A m c) (fr : Int) :
    Calls Tryz.prog 40 #[zoneA zn ev, setsV zn ev sv, .int .i64 fr] w fun o w' => ∃ b, w.heap.size ≤ b ∧ o = .returned (.func (.func 118) #[] #[.pointer (some ⟨b + 2, 0, none⟩), .pointer (some ⟨b, 0, none⟩), .pointer (some ⟨b + 1, 0, none⟩), .pointer (some ⟨b + 3, 0, none⟩)]) ∧ Below w.heap.size w w' ∧
      Blk w' b 24 #[.string zn, ev] ∧ Blk w' (b + 1) 90 #[setsV zn ev sv] ∧ Blk w' (b + 2) 3 #[.int .i64 fr] ∧ Blk w' (b + 3) 3 #[.int .i64 2199023255552] ∧ w'.heap.size = b + 4 := by
  obtain ⟨sz, hsz⟩ : ∃ v, setsV zn ev sv = v := ⟨_, rfl⟩
  have HC := Lib.hid (fun V => zchanges_any V zn ev sv fr 2199023255552)
  rw [hsz] at HC ⊢
  have HB := Lib.hid ((Below.refl w.heap.size w).alloc (Nat.le_refl _) (.cells #[.string zn, ev] 24))
  subst he
  unfold zoneA at HC ⊢
  clear hsz
  go_enter Tryz.func40, Tryz.ntmps40
  go_wp2_with fail
  refine (HC.out _).mono ?_
  rintro o w1 ⟨rfl, hb, h0, h1, h2, h3, hs⟩
  have HB1 := Lib.hid (HB.out.trans (hb.mono HB.out.size))
  have HH := Lib.hid (And.intro h0 (And.intro h1 (And.intro h2 (And.intro h3 hs))))
  have hsz := HB.out.size
  have HS := Lib.hid hsz
  clear hb h0 h1 h2 h3 hs hsz HC
  go_wp2_with fail
  go_ret
  simp only [World.size_alloc] at HH
  exact ⟨w.heap.size + 1, by omega, rfl, HB1.out, HH.out⟩
/-- A zone that may not be has no changes. -/
theorem changesL_bad {S : List SetF} {l : List EraF} {fr to : Int} (h : errZ S l ≠ 0) : changesL S l fr to = [] := by
  unfold changesL
  rw [if_neg fun e => h (errI_zero e)]
end Go.Proofs.YteekjfgjmccdnaaGreatDoor
end

section
/- TSteps: Layer 14's steps at a zone of one era without rules: there is none. -/
namespace Go.Proofs.YteekjfgjmccdnaaGreatDoor
open Go Go.RowKit Go.Shelf
attribute [local go_sem] Oper.semAt_some
set_option maxRecDepth 100000

theorem rules_plain (sv : Value) (e : EraN) (f : ByteArray) (w : World) :
    Calls Tryz.prog 149 #[eraPA e f, sv] w fun o w' => o = .returned (.slice none 0 0) ∧ Below w.heap.size w w' := by
  unfold eraPA eraP
  go_enter Tryz.func149, Tryz.ntmps149
  go_wp2_with fail
  go_ret
  exact ⟨rfl, (Below.refl _ _).alloc (Nat.le_refl _) _⟩
/-- What the loop over the eras keeps. -/
def StI (sb fb tb : Nat) (sv : Value) (a t : Int) (J : (Nat → Prop) → World → Prop) (Oa : Nat → Prop) (_ : List Unit) (O : Nat → Prop) (W : World) : Prop :=
  (∀ k, Oa k → O k) ∧ (O sb ∧ O fb ∧ O tb) ∧ J Oa W ∧ Blk W sb 90 #[sv] ∧ Blk W fb 3 #[.int .i64 a] ∧ Blk W tb 3 #[.int .i64 t]
theorem stI_feet (sb fb tb : Nat) (sv : Value) (a t : Int) (J : (Nat → Prop) → World → Prop) (hJ : ∀ O W W', J O W → Fr (fun k => ¬ O k) W W' → J O W') (Oa : Nat → Prop) : Feet (StI sb fb tb sv a t J Oa) := by
  rintro pre O W W' ⟨h0, ⟨o1, o2, o3⟩, h1, h2, h3, h4⟩ hf
  exact ⟨h0, ⟨o1, o2, o3⟩, hJ _ _ _ h1 (hf.mono fun k hk => .inl fun h => hk (h0 k h)), h2.fr hf (fun h => h o1), h3.fr hf (fun h => h o2), h4.fr hf (fun h => h o3)⟩
set_option maxHeartbeats 2000000 in
theorem steps1_none (n : Nat) (hn : 4 ≤ n) (zb sb fb tb b : Nat) (nm : ByteArray) (g : Fn) (ts cs : Array Value) (e : EraN) (f : ByteArray) (a t : Int) (W : World) (hs : f.size < 4294967281) (hm : Tryz.MaxL W) (h0 : errP e f.data.toList = 0)
    (ha : -2199023255552 ≤ a) (ha2 : a < 2199023255552) (ht : -2199023255552 ≤ t) (ht2 : t ≤ 2199023255552)
    (hz : Blk W zb 24 #[.string nm, .slice (some ⟨b, 0, none⟩) 1 1]) (hsb : Blk W sb 90 #[.func g ts cs]) (hfb : Blk W fb 3 #[.int .i64 a]) (htb : Blk W tb 3 #[.int .i64 t]) (he : OneE W b e f) (encs : Nat → Array Value) (R : List Nat → Nat → (Nat → Prop) → World → Prop) :
    Iter Fence.wide n Tryz.prog 147 #[.pointer (some ⟨zb, 0, none⟩), .pointer (some ⟨sb, 0, none⟩), .pointer (some ⟨fb, 0, none⟩), .pointer (some ⟨tb, 0, none⟩)] encs R (fun xs : List Nat => xs = []) (fun _ => False) (fun k => k = sb ∨ k = fb ∨ k = tb) (fun k => k = sb ∨ k = fb ∨ k = tb) W := by
  intro lp J Jx fJ fx hY O hJ hO hK
  have z0 := hz.cell 0 (v := .string nm) rfl
  have z1 := hz.cell 1 (v := .slice (some ⟨b, 0, none⟩) 1 1) rfl
  have s0 := hsb.cell 0 (v := .func g ts cs) rfl
  have hzl := hz.lt
  have hsl := hsb.lt
  show CallsIn Fence.wide n Tryz.prog 147 #[.func (.yield lp) #[] #[], .pointer (some ⟨zb, 0, none⟩), .pointer (some ⟨sb, 0, none⟩), .pointer (some ⟨fb, 0, none⟩), .pointer (some ⟨tb, 0, none⟩)] W _
  refine callsIn_of_wp_marks Tryz.func147 rfl trivial ?_ rfl
  simp only [Tryz.ntmps147, List.size_toArray, List.length_cons, List.length_nil, Nat.reduceAdd, Nat.reduceSub, Array.replicate_succ, Array.replicate_zero, List.push_toArray, List.append_toArray, List.nil_append, List.cons_append]
  gi_wp2
  refine wpIn_scope ?_
  gi_wp2
  refine wpIn_label ?_
  gi_wp2
  have hb1 : Below W.heap.size W (W.alloc (.cells #[.func (.yield lp) #[] #[]] 172)) := (Below.refl _ _).alloc (Nat.le_refl _) _
  have hm1 := hm.below hb1 (Nat.le_refl _)
  have he1 : OneE _ b e f := Blk.below he hb1 (Blk.lt he)
  have hsb1 := hsb.below hb1 hsb.lt
  have hfb1 := hfb.below hb1 hfb.lt
  have htb1 := htb.below hb1 htb.lt
  have hfl := hfb.lt
  have htl := htb.lt
  have HFJ := Lib.hid fJ
  obtain ⟨W1, hW1⟩ : ∃ W1, W.alloc (.cells #[.func (.yield lp) #[] #[]] 172) = W1 := ⟨_, rfl⟩
  have hz1s : W.heap.size < W1.heap.size := by rw [← hW1]; simp
  rw [hW1] at hb1 hm1 he1 hsb1 hfb1 htb1 ⊢
  clear hW1 z0 z1 s0
  refine ⟨trivial, fun _ => by omega, (callsIn_wide.2 (spans_any _ _ nm b g ts cs _ rfl rfl)).mono ?_⟩
  rintro o w2 ⟨rfl, hb2, hz2, hs2⟩
  have hm2 := hm1.below hb2 (Nat.le_refl _)
  have he2 : OneE w2 b e f := Blk.below he1 hb2 (Blk.lt he1)
  have hsb2 := hsb1.below hb2 hsb1.lt
  have hfb2 := hfb1.below hb2 hfb1.lt
  have htb2 := htb1.below hb2 htb1.lt
  have hbw := hb1.trans (hb2.mono hb1.size)
  gi_wp2
  refine range_own (α := Unit) rfl (by omega) (gf := 173) (lb := #[.pointer (some ⟨W1.heap.size, 0, none⟩), .pointer (some ⟨W1.heap.size + 1, 0, none⟩)]) rfl trivial (enters_of Tryz.func173 (by kernel_rfl) rfl)
    (fun W' hW' => spans1_one (n - 1) (by omega) _ _ b nm g ts cs e f W' hs (hm2.below hW' (Nat.le_refl _)) h0 (hz2.below hW' hz2.lt) (hs2.below hW' hs2.lt) (Blk.below he2 hW' (Blk.lt he2)))
    (fun _ => rfl) (StI sb fb tb (.func g ts cs) a t (J []) O) (fun _ _ _ _ => False) (stI_feet sb fb tb (.func g ts cs) a t (J []) (fun O W W' h hf => fJ [] O W W' h hf) O) (fun _ _ _ _ _ h _ => h) (fun k => O k ∨ k = sb ∨ k = fb ∨ k = tb)
    ⟨fun k h => .inl h, ⟨.inr (.inl rfl), .inr (.inr (.inl rfl)), .inr (.inr (.inr rfl))⟩, fJ _ _ _ _ hJ (Fr.of_below hbw (Nat.le_refl _)), hsb2, hfb2, htb2⟩ (fun k hk => ?_) (fun k hk => hk.elim) (fun k hk => hk.elim) ?round ?done ?stop
  · have := hbw.size
    rcases hk with h | h | h | h
    · have := hO k h; omega
    · omega
    · omega
    · omega
  case stop =>
    intro _ _ _ _ _ _ _ h
    exact h.elim
  case round =>
    intro lp2 pre k O2 D W3 hI hBO hBD hDO hR nOl nDl hlow hltl
    obtain ⟨-, hnD⟩ := hR
    clear hI hBD hDO
    unfold eraPA eraP
    gi_wp2
    have hA := (Blk.new W3 42 #[.int .i64 e.off, .string ⟨#[]⟩, .int .i64 e.save, .string f, .bool false, .int .i64 e.year, .int .i64 e.month, .int .i64 e.dk, .int .i64 e.dw, .int .i64 e.dn, .int .i64 e.sec, .int .i64 e.ak]).alloc (.cells #[.int .i64 (-2199023255553), .int .i64 2199023255553] 80)
    have hT := Blk.new (W3.alloc (.cells #[.int .i64 e.off, .string ⟨#[]⟩, .int .i64 e.save, .string f, .bool false, .int .i64 e.year, .int .i64 e.month, .int .i64 e.dk, .int .i64 e.dw, .int .i64 e.dn, .int .i64 e.sec, .int .i64 e.ak] 42)) 80 #[.int .i64 (-2199023255553), .int .i64 2199023255553]
    rw [World.size_alloc] at hT
    have hbel2 : Below W3.heap.size W3 ((W3.alloc (.cells #[.int .i64 e.off, .string ⟨#[]⟩, .int .i64 e.save, .string f, .bool false, .int .i64 e.year, .int .i64 e.month, .int .i64 e.dk, .int .i64 e.dw, .int .i64 e.dn, .int .i64 e.sec, .int .i64 e.ak] 42)).alloc (.cells #[.int .i64 (-2199023255553), .int .i64 2199023255553] 80)) := ((Below.refl _ _).alloc (Nat.le_refl _) _).alloc (by simp) _
    refine ⟨hbel2, ?_⟩
    intro Wb hfb3 hIb _
    obtain ⟨hI0, ⟨o1, o2, o3⟩, hJb, hsbb, hfbb, htbb⟩ := hIb
    have hAb : OneE Wb W3.heap.size e f := hA.fr hfb3 (by omega)
    have hTb := hT.fr hfb3 (by omega)
    have hBO2 := hBO.fr ((Fr.of_below (T := fun k => k = lp2) hbel2 (Nat.le_refl _)).then hfb3)
    have s0 := hsbb.cell 0 (v := .func g ts cs) rfl
    have f0 := hfbb.cell 0 (v := .int .i64 a) rfl
    have t0 := htbb.cell 0 (v := .int .i64 t) rfl
    have d0 := hTb.cell 0 (v := .int .i64 (-2199023255553)) rfl
    have d1 := hTb.cell 1 (v := .int .i64 2199023255553) rfl
    obtain ⟨c0, c1, c2, c3, c4, c5, c6, c7, c8, c9, c10, c11⟩ := hAb.cells
    have g1 : decide (2199023255552 ≤ a) = false := by simpa using ha2
    have g2 : decide (t < -2199023255553) = false := by simp; omega
    have g3 : decide (a < -2199023255553) = false := by simp; omega
    have hnn := fun w : World => (show (binOp .eql 52 (.slice none 0 0) (.slice none 0 0)).run Tryz.prog w = .ok (.bool true) w by kernel_rfl)
    have RU := fun W => rules_plain (.func g ts cs) e f W
    unfold eraPA eraP at RU
    have HJB := Lib.hid hJb
    have HTB := Lib.hid hTb
    have HFB := Lib.hid hfbb
    have HBO := Lib.hid hBO2
    have HI0 := Lib.hid hI0
    have HSB := Lib.hid hsbb
    have HTT := Lib.hid htbb
    clear hJb hTb hfbb hBO2 hI0 hsbb htbb hA hT hbel2 hfb3 hAb hBO hJ hO hK hY fJ fx
    gi_wp2
    refine ⟨trivial, fun _ => by omega, ((callsIn_wide.2 (RU Wb)).inRound lp2).mono ?_⟩
    rintro o w5 ⟨rfl, hb5⟩
    clear RU c0 c1 c2 c3 c4 c5 c6 c7 c8 c9 c10 c11 s0 f0 t0 d0 d1
    have HB5 := Lib.hid hb5
    clear hb5
    gi_wp2
    refine wpIn_env (fin := ?fnS) (wide1 lp2) (by kernel_rfl) [29, 30, 31, 32, 33, 34, 35, 36, 37, 38, 39, 40, 41, 42]
      [.pointer (some ⟨W3.heap.size + 1, 0, none⟩), .int .i64 (-2199023255553), .int .i64 a, .bool false, .bool false, undef, undef, undef, undef, undef, undef, undef, undef, .bool false] (by kernel_rfl) ?finS ?stepsS ?nextS
    case finS =>
      simp only [putAll, Act.put, List.setIfInBounds_toArray, List.set_cons_succ, List.set_cons_zero]
      rfl
    case stepsS =>
      refine ⟨?_, ?_, ?_, ?_, ?_, ?_, ?_, ?_, ?_, ?_, ?_, ?_, ?_, ?_, trivial⟩
      all_goals
        first
          | exact .inl ⟨by kernel_rfl, rfl⟩
          | (refine .inr ⟨by kernel_rfl, fun w1_ hB_ => ?_⟩
             have hbb := HB5.out.trans (hB_.mono HB5.out.size)
             have d0 := (HTB.out.below hbb HTB.out.lt).cell 0 (v := .int .i64 (-2199023255553)) rfl
             have f0 := (HFB.out.below hbb HFB.out.lt).cell 0 (v := .int .i64 a) rfl
             go_simp
             exact ⟨rfl, Below.refl _ _⟩)
    case nextS =>
      intro w6 hb6
      have hb7 := HB5.out.trans (hb6.mono HB5.out.size)
      clear hb6
      gi_wp2
      have hf7 : Fr (fun k => O2 k ∨ D k) Wb w6 := Fr.of_below hb7 (Nat.le_refl _)
      refine ⟨O2, fun k h => .inl h, HBO.out.fr hf7, hf7, HI0.out, ⟨o1, o2, o3⟩, ?_, HSB.out.below hb7 HSB.out.lt, HFB.out.below hb7 HFB.out.lt, HTT.out.below hb7 HTT.out.lt⟩
      exact HFJ.out [] _ _ _ HJB.out (Fr.of_below hb7 (Nat.le_refl _))
  case done =>
    intro D xs O2 W3 hD hS hI hO2 hBO hOD hfr hK2
    obtain ⟨hI0, -, hJ3, hs3, hf3, ht3⟩ := hI
    gi_wp2
    refine ⟨by simp, .inl ⟨_, _, rfl, run_takeDeferred hK2, ?_⟩⟩
    have hbs := hbw.size
    have hfw : Fr (fun k => O k ∨ (k = sb ∨ k = fb ∨ k = tb)) W W3 := (Fr.of_below hbw (Nat.le_refl _)).then (hfr.mono fun k hk => by
      rcases hk with h | h
      · exact .inl h
      · exact h.elim)
    have hfp : Fr (fun k => k = D) W3 (W3.putObj D (.deferred none)) := Fr.putObj _ _ rfl
    have hnD : ¬ O D := fun h => by have := hO D h; omega
    exact ⟨.tuple #[], results_none rfl _ _ _, ⟨_, rfl⟩, O, fun k h => .inl h, (hO.fr hfw).fr hfp, hfw.trans hfp (fun k hk => .inr (by omega)), .inl ⟨[], rfl, fJ _ _ _ _ hJ3 (Fr.putObj _ _ hnD)⟩⟩
end Go.Proofs.YteekjfgjmccdnaaGreatDoor
end
