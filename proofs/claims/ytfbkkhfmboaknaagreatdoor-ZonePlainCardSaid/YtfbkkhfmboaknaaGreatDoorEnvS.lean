/-
  A region that draws its order, with one operation that writes into memory that nobody else in it looks at: each operation's value is known ahead.
-/
import Derived.Test.YtfbkkhfmboaknaaGreatDoorEnv
namespace Go.Proofs.YtfbkkhfmboaknaaGreatDoor
open Go Go.RowKit

section
variable {P : Program} {n : Nat} {ops : Array Oper}
/-- What is asked of the region itself. st: the operation that writes. -/
def envSB (ops : Array Oper) (D : List Nat) (st : Nat) : Bool :=
  invB ops D && (List.range ops.size).all fun i => match ops[i]? with
    | some o => (match o.op with | .defer .. => false | .select .. => false | _ => true) && (if i = st then o.dst.isNone else o.dst == some (D.getD i 0)) &&
      (o.looksAt ops).all fun s => !D.contains s || (List.range i).any fun j => D.getD j 0 == s && o.after.any fun e => Region.binds .any e && e.on == j
    | none => true
/-- What one operation does. T: the blocks that the one that writes turns; p: what it leaves. -/
def envSRes (P : Program) (T : Nat → Prop) (p : World → Prop) (st : Bool) (v : Value) (w : World) : Result Next → Prop
  | .ok (.value u) w' => st = false ∧ u = v ∧ Below w.heap.size w w'
  | .ok .skip w' => st = true ∧ v = undef ∧ Fr T w w' ∧ p w'
  | .ok (.enter f args) w' => st = false ∧ w' = w ∧ Calls P f args w fun e w'' => e = .returned v ∧ Below w.heap.size w w''
  | _ => False
def EnvSStep (P : Program) (ops : Array Oper) (fin : Act) (w0 : World) (T : Nat → Prop) (p : World → Prop) (st : Bool) (o : Oper) (v : Value) : Prop :=
  (Region.wanted o (yielded ops fin.tmps) = false ∧ v = undef ∧ st = false) ∨ (Region.wanted o (yielded ops fin.tmps) = true ∧ ∀ w, (st = true → Below w0.heap.size w0 w) → Fr T w0 w → envSRes P T p st v w ((execOp fin.eval o).run P w))
def EnvSSteps (P : Program) (ops : Array Oper) (fin : Act) (w0 : World) (T : Nat → Prop) (p : World → Prop) : Nat → Nat → List Oper → List Value → Prop
  | st, k, o :: l, v :: V => EnvSStep P ops fin w0 T p (k == st) o v ∧ EnvSSteps P ops fin w0 T p st (k + 1) l V
  | _, _, [], [] => True
  | _, _, _, _ => False
theorem envSSteps_at {fin : Act} {w0 : World} {T : Nat → Prop} {p : World → Prop} {st : Nat} : ∀ {l : List Oper} {V : List Value} {k : Nat}, EnvSSteps P ops fin w0 T p st k l V → ∀ {j : Nat} {o : Oper}, l[j]? = some o → EnvSStep P ops fin w0 T p (k + j == st) o (V.getD j undef)
  | [], _, _, _, _, _, h => by simp at h
  | _ :: _, [], _, hs, _, _, _ => hs.elim
  | x :: l, v :: V, k, hs, 0, o, h => by
    simp only [List.getElem?_cons_zero, Option.some.injEq] at h
    subst h
    exact hs.1
  | x :: l, v :: V, k, hs, j + 1, o, h => by
    rw [List.getElem?_cons_succ] at h
    have := envSSteps_at hs.2 h
    rw [show k + 1 + j = k + (j + 1) by omega] at this
    simpa using this
theorem envSSteps_len {fin : Act} {w0 : World} {T : Nat → Prop} {p : World → Prop} {st : Nat} : ∀ {l : List Oper} {V : List Value} {k : Nat}, EnvSSteps P ops fin w0 T p st k l V → V.length = l.length
  | [], [], _, _ => rfl
  | [], _ :: _, _, h => h.elim
  | _ :: _, [], _, h => h.elim
  | _ :: l, _ :: V, _, h => by simp [envSSteps_len h.2]
/-- A REGION THAT DRAWS ITS ORDER, WITH ONE OPERATION THAT WRITES, WITHIN A FENCE. D: each operation's slot (the writing one's: one that the frame has not); V: what it yields; fin: the frame in the end. -/
theorem wpIn_envS {F : Fence} (hF : Wide F) {id : Nat} {l : List Oper} {Q : Exit → Act → World → Prop} {a : Act} {w : World} (hm : P.follows .mixedOrders = true) (D : List Nat) (V : List Value) (st : Nat) (T : Nat → Prop) (p : World → Prop) (hp : ∀ W W', p W → Below W.heap.size W W' → p W')
    (hb : envSB l.toArray D st = true) (hst : st < D.length) (hsz : a.tmps.size ≤ D.getD st 0) {fin : Act} (hfin : putAll a D V = fin)
    (hstep : EnvSSteps P l.toArray fin w T p st 0 l V) (hend : ∀ w', Fr T w w' → p w' → Q .normal fin w') : (Code.region id l.toArray true).wpIn F n P Q a w := by
  unfold envSB at hb
  rw [Bool.and_eq_true] at hb
  obtain ⟨hi, hb⟩ := hb
  have hi' := hi
  simp only [invB, Bool.and_eq_true, decide_eq_true_eq] at hi'
  obtain ⟨⟨-, hlen⟩, hnd⟩ := hi'
  have hV : V.length = D.length := by rw [envSSteps_len hstep, hlen]; simp
  have hfin : frameOf a D (valOf D V) = fin := by
    rw [← hfin]
    exact putAll_eq D V a _ hV fun i hi => by unfold valOf; rw [idxOf_getD hnd hi]
  refine wpIn_inv hm D (fun L x w' => Fr T w w' ∧ (∀ i, i < D.length → L i = true → x (D.getD i 0) = V.getD i undef) ∧ (L st = true → p w') ∧ (L st = false → Below w.heap.size w w')) hi (fun x => ⟨Fr.of_below ((Below.refl w.heap.size w).drew) (Nat.le_refl _), (fun i _ h => by cases h), (fun h => by cases h), (fun _ => (Below.refl _ _).drew)⟩) ?_ ?_
  · have main : ∀ (i : Nat) (o : Oper), l[i]? = some o → StepI F n P l.toArray a D (fun L x w' => Fr T w w' ∧ (∀ i, i < D.length → L i = true → x (D.getD i 0) = V.getD i undef) ∧ (L st = true → p w') ∧ (L st = false → Below w.heap.size w w')) i o := by
      intro k o hlk L x w1 R hI hsh hLk hr hR
      obtain ⟨hfr, hx, hpL, hbL⟩ := hI
      have hkl : k < l.length := (List.getElem?_eq_some_iff.1 hlk).1
      have ho : l.toArray[k]? = some o := by simpa using hlk
      have hkD : k < D.length := by rw [hlen]; simpa using hkl
      have hst1 := envSSteps_at hstep hlk
      rw [Nat.zero_add] at hst1
      have hb1 := List.all_eq_true.1 hb k (List.mem_range.2 (by simpa using hkl))
      rw [ho] at hb1
      simp only [Bool.and_eq_true] at hb1
      obtain ⟨⟨hop, hdst⟩, hlook⟩ := hb1
      have hndf : ∀ c, o.op ≠ .defer c := fun c hc => by rw [hc] at hop; cases hop
      have hnsl : ∀ cs b, o.op ≠ .select cs b := fun c b hc => by rw [hc] at hop; cases hop
      have hsame : ∀ s, s ∈ o.looksAt l.toArray → (frameOf a D x).tmps[s]? = fin.tmps[s]? := by
        intro s hs
        rw [← hfin, frameOf_tmps, frameOf_tmps]
        by_cases hD : s ∈ D
        · have := List.all_eq_true.1 hlook s hs
          rw [Bool.or_eq_true] at this
          rcases this with h | h
          · simp [hD] at h
          · obtain ⟨j, hj, hj2⟩ := List.any_eq_true.1 h
            rw [Bool.and_eq_true] at hj2
            obtain ⟨hjs, hje⟩ := hj2
            have hjs : D.getD j 0 = s := by simpa using hjs
            have hjk := List.mem_range.1 hj
            have h1 := hx j (by omega) (hr j hje)
            rw [hjs] at h1
            have h2 : x s = valOf D V s := by
              have e : D.idxOf s = j := by rw [← hjs]; exact idxOf_getD hnd (by omega)
              unfold valOf
              rw [e]
              exact h1
            rw [h2]
        · simp [hD]
      have hev : ∀ y ∈ o.op.operands, (frameOf a D x).eval y = fin.eval y := by
        intro y hy
        cases y with
        | tmp s =>
          have h1 := hsame s (List.mem_append_left _ (List.mem_filterMap.2 ⟨.tmp s, by simpa using hy, rfl⟩))
          show (frameOf a D x).tmps.getD s undef = fin.tmps.getD s undef
          simp only [Array.getD_eq_getD_getElem?, h1]
        | _ => rfl
      have hex := execOp_congr (ρ := (frameOf a D x).eval) (ρ' := fin.eval) o hnsl hev
      have hwa : Region.wanted o (yielded l.toArray (frameOf a D x).tmps) = Region.wanted o (yielded l.toArray fin.tmps) := by
        unfold Region.wanted
        cases hg : o.guard with
        | none => rfl
        | some g =>
          obtain ⟨g, b⟩ := g
          dsimp only
          unfold yielded
          cases hd : (l.toArray[g]?).bind (·.dst) with
          | none => rfl
          | some d =>
            have h1 := hsame d (List.mem_append_right _ (by rw [hg]; show d ∈ ((l.toArray[g]?).bind (·.dst)).toList; rw [hd]; simp))
            simp only [Option.bind_some, h1]
      have hmem : D.getD k 0 ∈ D := by rw [List.getD_eq_getElem?_getD, List.getElem?_eq_getElem hkD]; exact List.getElem_mem hkD
      have hnew : ∀ w', Fr T w w' → ((k == st) = true → p w') → (∀ W, p w1 → (k == st) = false → Below w1.heap.size w1 W → p W) → ((k == st) = false → Below w1.heap.size w1 w') →
          (Fr T w w' ∧ (∀ i, i < D.length → more L k i = true → upd x (D.getD k 0) (V.getD k undef) (D.getD i 0) = V.getD i undef) ∧ (more L k st = true → p w') ∧ (more L k st = false → Below w.heap.size w w')) := by
        intro w' h1 h2 h3 h4
        refine ⟨h1, fun i hiD hm => ?_, fun hm => ?_, fun hm => ?_⟩
        · by_cases hik : i = k
          · subst hik; rw [upd_same]
          · have hne : D.getD i 0 ≠ D.getD k 0 := by
              rw [List.getD_eq_getElem?_getD, List.getD_eq_getElem?_getD, List.getElem?_eq_getElem hiD, List.getElem?_eq_getElem hkD]
              intro e
              simp only [Option.getD_some] at e
              have hpw := List.pairwise_iff_getElem.1 hnd
              rcases Nat.lt_or_ge i k with h | h
              · exact hpw i k hiD hkD h e
              · exact hpw k i hkD hiD (by omega) e.symm
            rw [upd_other x _ hne]
            have : L i = true := by
              unfold more at hm
              rw [decide_eq_false hik] at hm
              simpa using hm
            exact hx i hiD this
        · cases hks : (k == st) with
          | true => exact h2 hks
          | false =>
            have hne : ¬ st = k := (fun e => by subst e; simp at hks)
            have : L st = true := by
              unfold more at hm
              rw [decide_eq_false hne] at hm
              simpa using hm
            exact h3 w' (hpL this) hks (h4 hks)
        · unfold more at hm
          rw [Bool.or_eq_false_iff] at hm
          have hne : ¬ st = k := of_decide_eq_false hm.1
          have hB := hbL hm.2
          exact hB.trans ((h4 (by simpa using (fun e => hne e.symm))).mono hB.size)
      unfold wpListIn
      rw [hwa]
      have hput : (k == st) = false → ∀ v, (frameOf a D x).put o.dst v = frameOf a D (upd x (D.getD k 0) v) := fun hks v => by
        rw [if_neg (fun e => by subst e; simp at hks)] at hdst
        have hdst : o.dst = some (D.getD k 0) := by simpa using hdst
        rw [hdst]
        exact frameOf_put D x a _ hmem v
      rcases hst1 with ⟨h1, h2, h3⟩ | ⟨h1, h2⟩
      · rw [if_neg (by rw [h1]; simp)]
        refine ⟨fun f _ => hF.fn f, ?_⟩
        rw [hput h3, ← h2]
        exact hR _ _ (hnew w1 hfr (fun h => by rw [h3] at h; cases h) (fun W hpw _ hbW => hp _ _ hpw hbW) (fun _ => Below.refl _ _))
      · rw [if_pos h1]
        refine ⟨fun f _ => hF.fn f, ?_⟩
        rw [Oper.semAt_plain F _ o hndf, hex]
        have hks0 : (k == st) = true → L st = false := fun h => by
          have e : k = st := by simpa using h
          rw [← e]
          exact hLk
        have h3 := h2 w1 (fun h => hbL (hks0 h)) hfr
        generalize (execOp fin.eval o).run P w1 = r at h3
        cases r with
        | halt hh w' => exact h3.elim
        | ok nx w' =>
          cases nx with
          | value u =>
            obtain ⟨hks, rfl, hbw⟩ := h3
            rw [Oper.uponIn_value, hput hks]
            exact hR _ _ (hnew w' (hfr.then (Fr.of_below hbw (Nat.le_refl _))) (fun h => by rw [hks] at h; cases h) (fun W hpw _ hbW => hp _ _ hpw hbW) (fun _ => hbw))
          | skip =>
            obtain ⟨hks, hvu, hfw, hpw'⟩ := h3
            have hkst : k = st := by simpa using hks
            subst hkst
            rw [if_pos rfl] at hdst
            have hdn : o.dst = none := by simpa using hdst
            rw [Oper.uponIn_skip, hdn]
            have e : (frameOf a D x).put none undef = frameOf a D (upd x (D.getD k 0) (V.getD k undef)) := by
              show frameOf a D x = _
              have h1 : (frameOf a D x).tmps = (frameOf a D (upd x (D.getD k 0) (V.getD k undef))).tmps := by
                apply Array.ext_getElem?
                intro s
                rw [frameOf_tmps, frameOf_tmps]
                by_cases hs : s < a.tmps.size
                · rw [upd_other x _ (show s ≠ D.getD k 0 by omega)]
                · simp [hs]
              have h2 : (frameOf a D x).defers = (frameOf a D (upd x (D.getD k 0) (V.getD k undef))).defers := by rw [frameOf_defers, frameOf_defers]
              generalize frameOf a D x = p1 at h1 h2
              generalize frameOf a D (upd x (D.getD k 0) (V.getD k undef)) = q1 at h1 h2
              cases p1
              cases q1
              simp only at h1 h2
              subst h1 h2
              rfl
            rw [e]
            exact hR _ _ (hnew w' (hfr.then hfw) (fun _ => hpw') (fun W _ h => by simp at h) (fun h => by simp at h))
          | enter f args =>
            obtain ⟨hks, rfl, hc⟩ := h3
            rw [Oper.uponIn_enter]
            refine ⟨(fun h => by rw [hF.depth] at h; cases h), (hF.calls hc).mono ?_⟩
            rintro e w'' ⟨rfl, hbw⟩
            show wpListIn F n P l.toArray _ [] ((frameOf a D x).put o.dst (V.getD k undef)) w''
            rw [hput hks]
            exact hR _ _ (hnew w'' (hfr.then (Fr.of_below hbw (Nat.le_refl _))) (fun h => by rw [hks] at h; cases h) (fun W hpw _ hbW => hp _ _ hpw hbW) (fun _ => hbw))
          | _ => exact h3.elim
    have all : ∀ (m : List Oper) (k : Nat), (∀ j, m[j]? = l[k + j]?) → StepsI F n P l.toArray a D (fun L x w' => Fr T w w' ∧ (∀ i, i < D.length → L i = true → x (D.getD i 0) = V.getD i undef) ∧ (L st = true → p w') ∧ (L st = false → Below w.heap.size w w')) k m := by
      intro m
      induction m with
      | nil => intro k _; trivial
      | cons o m ih =>
        intro k hk
        exact ⟨main k o (by simpa using (hk 0).symm), ih (k + 1) fun j => by have := hk (j + 1); simpa [Nat.add_assoc, Nat.add_comm 1 j] using this⟩
    exact all l 0 fun j => by simp
  · rintro x w' L hL ⟨h1, h2, h3, -⟩
    have e : frameOf a D x = fin := by
      rw [← hfin]
      refine frameOf_congr D _ _ a fun s hs => ?_
      obtain ⟨j, hj, rfl⟩ := List.getElem_of_mem hs
      have h4 := h2 j hj (hL j (by omega))
      rw [List.getD_eq_getElem?_getD, List.getElem?_eq_getElem hj] at h4
      have h4 : x D[j] = V.getD j undef := h4
      unfold valOf
      rw [List.Nodup.idxOf_getElem hnd j hj]
      exact h4
    rw [e]
    exact hend w' h1 (h3 (hL st (by omega)))
/-- The same, in no fence. -/
theorem wp_envS {id : Nat} {l : List Oper} {Q : Exit → Act → World → Prop} {a : Act} {w : World} (hm : P.follows .mixedOrders = true) (D : List Nat) (V : List Value) (st : Nat) (T : Nat → Prop) (p : World → Prop) (hp : ∀ W W', p W → Below W.heap.size W W' → p W')
    (hb : envSB l.toArray D st = true) (hst : st < D.length) (hsz : a.tmps.size ≤ D.getD st 0) {fin : Act} (hfin : putAll a D V = fin)
    (hstep : EnvSSteps P l.toArray fin w T p st 0 l V) (hend : ∀ w', Fr T w w' → p w' → Q .normal fin w') : (Code.region id l.toArray true).wp P Q a w :=
  (wpIn_wide (n := 8)).1 (wpIn_envS wide0 hm D V st T p hp hb hst hsz hfin hstep hend)
end
end Go.Proofs.YtfbkkhfmboaknaaGreatDoor
