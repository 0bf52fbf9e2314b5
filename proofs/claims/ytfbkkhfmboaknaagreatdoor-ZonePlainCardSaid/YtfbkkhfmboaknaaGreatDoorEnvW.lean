/-
  A region that draws its order, with two operations that write at its end, in either order: an exchange. Each operation's value is known ahead.
-/
import Derived.Test.YtfbkkhfmboaknaaGreatDoorEnv
namespace Go.Proofs.YtfbkkhfmboaknaaGreatDoor
open Go Go.RowKit

section
variable {P : Program} {n : Nat} {ops : Array Oper}
/-- What is asked of the region itself. s1, s2: the operations that write. -/
def envWB (ops : Array Oper) (D : List Nat) (s1 s2 : Nat) : Bool :=
  invB ops D && (List.range ops.size).all fun i => match ops[i]? with
    | some o => (match o.op with | .defer .. => false | .select .. => false | _ => true) && (if i = s1 ∨ i = s2 then o.dst.isNone && o.guard.isNone else o.dst == some (D.getD i 0)) &&
      (o.looksAt ops).all fun s => !D.contains s || (List.range i).any fun j => D.getD j 0 == s && o.after.any fun e => Region.binds .any e && e.on == j
    | none => true
/-- Does an operation stand ahead of both writing ones? -/
def aheadB (ops : Array Oper) (s1 s2 k : Nat) : Bool := depB ops s1 k && depB ops s2 k
def EnvWStep (P : Program) (ops : Array Oper) (fin : Act) (w0 : World) (s1 s2 k : Nat) (o : Oper) (v : Value) : Prop :=
  (k == s1 || k == s2) = true ∨ (Region.wanted o (yielded ops fin.tmps) = false ∧ v = undef) ∨ (Region.wanted o (yielded ops fin.tmps) = true ∧ ∀ w, (aheadB ops s1 s2 k = true → w = w0) → (execOp fin.eval o).run P w = .ok (.value v) w)
def EnvWSteps (P : Program) (ops : Array Oper) (fin : Act) (w0 : World) (s1 s2 : Nat) : Nat → List Oper → List Value → Prop
  | k, o :: l, v :: V => EnvWStep P ops fin w0 s1 s2 k o v ∧ EnvWSteps P ops fin w0 s1 s2 (k + 1) l V
  | _, [], [] => True
  | _, _, _ => False
theorem envWSteps_at {fin : Act} {w0 : World} {s1 s2 : Nat} : ∀ {l : List Oper} {V : List Value} {k : Nat}, EnvWSteps P ops fin w0 s1 s2 k l V → ∀ {j : Nat} {o : Oper}, l[j]? = some o → EnvWStep P ops fin w0 s1 s2 (k + j) o (V.getD j undef)
  | [], _, _, _, _, _, h => by simp at h
  | _ :: _, [], _, hs, _, _, _ => hs.elim
  | x :: l, v :: V, k, hs, 0, o, h => by
    simp only [List.getElem?_cons_zero, Option.some.injEq] at h
    subst h
    exact hs.1
  | x :: l, v :: V, k, hs, j + 1, o, h => by
    rw [List.getElem?_cons_succ] at h
    have := envWSteps_at hs.2 h
    rw [show k + 1 + j = k + (j + 1) by omega] at this
    simpa using this
theorem envWSteps_len {fin : Act} {w0 : World} {s1 s2 : Nat} : ∀ {l : List Oper} {V : List Value} {k : Nat}, EnvWSteps P ops fin w0 s1 s2 k l V → V.length = l.length
  | [], [], _, _ => rfl
  | [], _ :: _, _, h => h.elim
  | _ :: _, [], _, h => h.elim
  | _ :: l, _ :: V, _, h => by simp [envWSteps_len h.2]
theorem more_same (L : Nat → Bool) (k : Nat) : more L k k = true := by unfold more; rw [decide_eq_true rfl]; rfl
/-- The world, by which of the two writing operations are done. -/
def twoW (w0 wa wb wc wd : World) : Bool → Bool → World → Prop
  | false, false, w => w = w0
  | true, false, w => w = wa
  | false, true, w => w = wb
  | true, true, w => w = wc ∨ w = wd
/-- A REGION THAT DRAWS ITS ORDER, WITH TWO OPERATIONS THAT WRITE, WITHIN A FENCE. D: each operation's slot (the writing ones': two that the frame has not); V: what it yields; fin: the frame in the end. -/
theorem wpIn_envW {F : Fence} (hF : Wide F) {id : Nat} {l : List Oper} {Q : Exit → Act → World → Prop} {a : Act} {w : World} (hm : P.follows .mixedOrders = true) (D : List Nat) (V : List Value) (s1 s2 : Nat) (o1 o2 : Oper) (wa wb wc wd : World)
    (hb : envWB l.toArray D s1 s2 = true) (hs1 : l[s1]? = some o1) (hs2 : l[s2]? = some o2) (hsz1 : a.tmps.size ≤ D.getD s1 0) (hsz2 : a.tmps.size ≤ D.getD s2 0) (hne : s1 ≠ s2) {fin : Act} (hfin : putAll a D V = fin)
    (hstep : EnvWSteps P l.toArray fin w.drew s1 s2 0 l V)
    (h1 : (execOp fin.eval o1).run P w.drew = .ok .skip wa) (h2 : (execOp fin.eval o2).run P w.drew = .ok .skip wb) (h12 : (execOp fin.eval o2).run P wa = .ok .skip wc) (h21 : (execOp fin.eval o1).run P wb = .ok .skip wd)
    (hend : ∀ w', w' = wc ∨ w' = wd → Q .normal fin w') : (Code.region id l.toArray true).wpIn F n P Q a w := by
  unfold envWB at hb
  rw [Bool.and_eq_true] at hb
  obtain ⟨hi, hb⟩ := hb
  have hi' := hi
  simp only [invB, Bool.and_eq_true, decide_eq_true_eq] at hi'
  obtain ⟨⟨-, hlen⟩, hnd⟩ := hi'
  have hV : V.length = D.length := by rw [envWSteps_len hstep, hlen]; simp
  have hfin : frameOf a D (valOf D V) = fin := by
    rw [← hfin]
    exact putAll_eq D V a _ hV fun i hi => by unfold valOf; rw [idxOf_getD hnd hi]
  refine wpIn_inv hm D (fun L x w' => (∀ i, i < D.length → L i = true → x (D.getD i 0) = V.getD i undef) ∧ twoW w.drew wa wb wc wd (L s1) (L s2) w') hi (fun x => ⟨(fun i _ h => by cases h), rfl⟩) ?_ ?_
  · have main : ∀ (i : Nat) (o : Oper), l[i]? = some o → StepI F n P l.toArray a D (fun L x w' => (∀ i, i < D.length → L i = true → x (D.getD i 0) = V.getD i undef) ∧ twoW w.drew wa wb wc wd (L s1) (L s2) w') i o := by
      intro k o hlk L x w1 R hI hsh hLk hr hR
      obtain ⟨hx, htw⟩ := hI
      have hkl : k < l.length := (List.getElem?_eq_some_iff.1 hlk).1
      have ho : l.toArray[k]? = some o := by simpa using hlk
      have hkD : k < D.length := by rw [hlen]; simpa using hkl
      have hst1 := envWSteps_at hstep hlk
      rw [Nat.zero_add] at hst1
      have hb1 := List.all_eq_true.1 hb k (List.mem_range.2 (by simpa using hkl))
      rw [ho] at hb1
      simp only [Bool.and_eq_true] at hb1
      obtain ⟨⟨hop, hdst⟩, hlook⟩ := hb1
      have hndf : ∀ c, o.op ≠ .defer c := fun c hc => by rw [hc] at hop; cases hop
      have hnsl : ∀ cs b, o.op ≠ .select cs b := fun c b hc => by rw [hc] at hop; cases hop
      have hsame : ∀ s, s ∈ o.looksAt l.toArray → (frameOf a D x).tmps[s]? = fin.tmps[s]? := by
        intro s hs
        rw [← hfin, frameOf_tmps, frameOf_tmps]
        by_cases hD : s ∈ D
        · have := List.all_eq_true.1 hlook s hs
          rw [Bool.or_eq_true] at this
          rcases this with h | h
          · simp [hD] at h
          · obtain ⟨j, hj, hj2⟩ := List.any_eq_true.1 h
            rw [Bool.and_eq_true] at hj2
            obtain ⟨hjs, hje⟩ := hj2
            have hjs : D.getD j 0 = s := by simpa using hjs
            have hjk := List.mem_range.1 hj
            have h1 := hx j (by omega) (hr j hje)
            rw [hjs] at h1
            have h2 : x s = valOf D V s := by
              have e : D.idxOf s = j := by rw [← hjs]; exact idxOf_getD hnd (by omega)
              unfold valOf
              rw [e]
              exact h1
            rw [h2]
        · simp [hD]
      have hev : ∀ y ∈ o.op.operands, (frameOf a D x).eval y = fin.eval y := by
        intro y hy
        cases y with
        | tmp s =>
          have h1 := hsame s (List.mem_append_left _ (List.mem_filterMap.2 ⟨.tmp s, by simpa using hy, rfl⟩))
          show (frameOf a D x).tmps.getD s undef = fin.tmps.getD s undef
          simp only [Array.getD_eq_getD_getElem?, h1]
        | _ => rfl
      have hex := execOp_congr (ρ := (frameOf a D x).eval) (ρ' := fin.eval) o hnsl hev
      have hwa : Region.wanted o (yielded l.toArray (frameOf a D x).tmps) = Region.wanted o (yielded l.toArray fin.tmps) := by
        unfold Region.wanted
        cases hg : o.guard with
        | none => rfl
        | some g =>
          obtain ⟨g, b⟩ := g
          dsimp only
          unfold yielded
          cases hd : (l.toArray[g]?).bind (·.dst) with
          | none => rfl
          | some d =>
            have h1 := hsame d (List.mem_append_right _ (by rw [hg]; show d ∈ ((l.toArray[g]?).bind (·.dst)).toList; rw [hd]; simp))
            simp only [Option.bind_some, h1]
      have hmem : D.getD k 0 ∈ D := by rw [List.getD_eq_getElem?_getD, List.getElem?_eq_getElem hkD]; exact List.getElem_mem hkD
      have hnew : ∀ w', twoW w.drew wa wb wc wd (more L k s1) (more L k s2) w' →
          ((∀ i, i < D.length → more L k i = true → upd x (D.getD k 0) (V.getD k undef) (D.getD i 0) = V.getD i undef) ∧ twoW w.drew wa wb wc wd (more L k s1) (more L k s2) w') := by
        intro w' h1
        refine ⟨fun i hiD hm => ?_, h1⟩
        by_cases hik : i = k
        · subst hik; rw [upd_same]
        · have hne : D.getD i 0 ≠ D.getD k 0 := by
            rw [List.getD_eq_getElem?_getD, List.getD_eq_getElem?_getD, List.getElem?_eq_getElem hiD, List.getElem?_eq_getElem hkD]
            intro e
            simp only [Option.getD_some] at e
            have hpw := List.pairwise_iff_getElem.1 hnd
            rcases Nat.lt_or_ge i k with h | h
            · exact hpw i k hiD hkD h e
            · exact hpw k i hkD hiD (by omega) e.symm
          rw [upd_other x _ hne]
          have : L i = true := by
            unfold more at hm
            rw [decide_eq_false hik] at hm
            simpa using hm
          exact hx i hiD this
      have hkeep : ∀ s, s ≠ k → more L k s = L s := fun s hs => by
        unfold more
        rw [decide_eq_false hs, Bool.false_or]
      unfold wpListIn
      rw [hwa]
      by_cases hks : k = s1 ∨ k = s2
      · rw [if_pos hks] at hdst
        simp only [Bool.and_eq_true] at hdst
        have hdn : o.dst = none := by simpa using hdst.1
        have hgn : o.guard = none := by simpa using hdst.2
        have hwt : Region.wanted o (yielded l.toArray fin.tmps) = true := by unfold Region.wanted; rw [hgn]
        have hsz : a.tmps.size ≤ D.getD k 0 := by rcases hks with rfl | rfl <;> assumption
        have e : (frameOf a D x).put none undef = frameOf a D (upd x (D.getD k 0) (V.getD k undef)) := by
          show frameOf a D x = _
          have h1 : (frameOf a D x).tmps = (frameOf a D (upd x (D.getD k 0) (V.getD k undef))).tmps := by
            apply Array.ext_getElem?
            intro s
            rw [frameOf_tmps, frameOf_tmps]
            by_cases hs : s < a.tmps.size
            · rw [upd_other x _ (show s ≠ D.getD k 0 by omega)]
            · simp [hs]
          have h2 : (frameOf a D x).defers = (frameOf a D (upd x (D.getD k 0) (V.getD k undef))).defers := by rw [frameOf_defers, frameOf_defers]
          generalize frameOf a D x = p1 at h1 h2
          generalize frameOf a D (upd x (D.getD k 0) (V.getD k undef)) = q1 at h1 h2
          cases p1
          cases q1
          simp only at h1 h2
          subst h1 h2
          rfl
        rw [if_pos hwt]
        refine ⟨fun f _ => hF.fn f, ?_⟩
        rw [Oper.semAt_plain F _ o hndf, hex]
        have hrun : ∃ w', (execOp fin.eval o).run P w1 = .ok .skip w' ∧ twoW w.drew wa wb wc wd (more L k s1) (more L k s2) w' := by
          rcases hks with rfl | rfl
          · obtain rfl : o = o1 := by rw [hlk] at hs1; exact Option.some.inj hs1
            rw [hkeep s2 (fun h => hne h.symm), more_same]
            rw [hLk] at htw
            cases hL2 : L s2 with
            | true => rw [hL2] at htw; cases htw; exact ⟨_, h21, .inr rfl⟩
            | false => rw [hL2] at htw; cases htw; exact ⟨_, h1, rfl⟩
          · obtain rfl : o = o2 := by rw [hlk] at hs2; exact Option.some.inj hs2
            rw [hkeep s1 hne, more_same]
            rw [hLk] at htw
            cases hL2 : L s1 with
            | true => rw [hL2] at htw; cases htw; exact ⟨_, h12, .inl rfl⟩
            | false => rw [hL2] at htw; cases htw; exact ⟨_, h2, rfl⟩
        obtain ⟨w', hr', htw'⟩ := hrun
        rw [hr', Oper.uponIn_skip, hdn, e]
        exact hR _ _ (hnew w' htw')
      · rw [if_neg hks] at hdst
        have hput : ∀ v, (frameOf a D x).put o.dst v = frameOf a D (upd x (D.getD k 0) v) := fun v => by
          have hdst : o.dst = some (D.getD k 0) := by simpa using hdst
          rw [hdst]
          exact frameOf_put D x a _ hmem v
        have htw' : twoW w.drew wa wb wc wd (more L k s1) (more L k s2) w1 := by
          rw [hkeep s1 (fun h => hks (.inl h.symm)), hkeep s2 (fun h => hks (.inr h.symm))]
          exact htw
        rcases hst1 with h0 | ⟨h1, h2⟩ | ⟨h1, h2⟩
        · exact absurd (by simpa using h0) hks
        · rw [if_neg (by rw [h1]; simp)]
          refine ⟨fun f _ => hF.fn f, ?_⟩
          rw [hput, ← h2]
          exact hR _ _ (hnew w1 htw')
        · rw [if_pos h1]
          refine ⟨fun f _ => hF.fn f, ?_⟩
          rw [Oper.semAt_plain F _ o hndf, hex, h2 w1 (fun h => by
            unfold aheadB at h
            rw [Bool.and_eq_true] at h
            have g1 : L s1 = false := by
              cases h3 : L s1 with
              | false => rfl
              | true => rw [hsh s1 k h.1 h3] at hLk; cases hLk
            have g2 : L s2 = false := by
              cases h3 : L s2 with
              | false => rfl
              | true => rw [hsh s2 k h.2 h3] at hLk; cases hLk
            rw [g1, g2] at htw
            exact htw), Oper.uponIn_value, hput]
          exact hR _ _ (hnew w1 htw')
    have all : ∀ (m : List Oper) (k : Nat), (∀ j, m[j]? = l[k + j]?) → StepsI F n P l.toArray a D (fun L x w' => (∀ i, i < D.length → L i = true → x (D.getD i 0) = V.getD i undef) ∧ twoW w.drew wa wb wc wd (L s1) (L s2) w') k m := by
      intro m
      induction m with
      | nil => intro k _; trivial
      | cons o m ih =>
        intro k hk
        exact ⟨main k o (by simpa using (hk 0).symm), ih (k + 1) fun j => by have := hk (j + 1); simpa [Nat.add_assoc, Nat.add_comm 1 j] using this⟩
    exact all l 0 fun j => by simp
  · rintro x w' L hL ⟨h2, h3⟩
    have e : frameOf a D x = fin := by
      rw [← hfin]
      refine frameOf_congr D _ _ a fun s hs => ?_
      obtain ⟨j, hj, rfl⟩ := List.getElem_of_mem hs
      have h4 := h2 j hj (hL j (by omega))
      rw [List.getD_eq_getElem?_getD, List.getElem?_eq_getElem hj] at h4
      have h4 : x D[j] = V.getD j undef := h4
      unfold valOf
      rw [List.Nodup.idxOf_getElem hnd j hj]
      exact h4
    rw [e]
    have g1 := (List.getElem?_eq_some_iff.1 hs1).1
    have g2 := (List.getElem?_eq_some_iff.1 hs2).1
    rw [hL s1 (by simpa using g1), hL s2 (by simpa using g2)] at h3
    exact hend _ h3
/-- The same, in no fence. -/
theorem wp_envW {id : Nat} {l : List Oper} {Q : Exit → Act → World → Prop} {a : Act} {w : World} (hm : P.follows .mixedOrders = true) (D : List Nat) (V : List Value) (s1 s2 : Nat) (o1 o2 : Oper) (wa wb wc wd : World)
    (hb : envWB l.toArray D s1 s2 = true) (hs1 : l[s1]? = some o1) (hs2 : l[s2]? = some o2) (hsz1 : a.tmps.size ≤ D.getD s1 0) (hsz2 : a.tmps.size ≤ D.getD s2 0) (hne : s1 ≠ s2) {fin : Act} (hfin : putAll a D V = fin)
    (hstep : EnvWSteps P l.toArray fin w.drew s1 s2 0 l V)
    (h1 : (execOp fin.eval o1).run P w.drew = .ok .skip wa) (h2 : (execOp fin.eval o2).run P w.drew = .ok .skip wb) (h12 : (execOp fin.eval o2).run P wa = .ok .skip wc) (h21 : (execOp fin.eval o1).run P wb = .ok .skip wd)
    (hend : ∀ w', w' = wc ∨ w' = wd → Q .normal fin w') : (Code.region id l.toArray true).wp P Q a w :=
  (wpIn_wide (n := 8)).1 (wpIn_envW wide0 hm D V s1 s2 o1 o2 wa wb wc wd hb hs1 hs2 hsz1 hsz2 hne hfin hstep h1 h2 h12 h21 hend)
end
end Go.Proofs.YtfbkkhfmboaknaaGreatDoor
