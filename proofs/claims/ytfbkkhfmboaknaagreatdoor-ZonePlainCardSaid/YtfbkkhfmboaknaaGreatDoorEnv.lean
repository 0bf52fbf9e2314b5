/-
  A region that draws its order and writes nothing that was there, within a fence that lets everything: each operation's value is known ahead.
-/
import Derived.Test.YtfbkkhfmboaknaaGreatDoorInvIn
import Derived.Test.YtfbkkhfmboaknaaGreatDoorTextIn
namespace Go.Proofs.YtfbkkhfmboaknaaGreatDoor
open Go Go.RowKit

/-- What a slot holds in the end. -/
def valOf (D : List Nat) (V : List Value) (s : Nat) : Value := V.getD (D.idxOf s) undef
theorem frameOf_tmps (D : List Nat) (x : Nat → Value) : ∀ (a : Act) (s : Nat), (frameOf a D x).tmps[s]? = if s ∈ D ∧ s < a.tmps.size then some (x s) else a.tmps[s]? := by
  unfold frameOf
  induction D with
  | nil => intro a s; simp
  | cons d D ih =>
    intro a s
    rw [List.foldl_cons, ih]
    simp only [Act.put, Array.size_setIfInBounds, Array.getElem?_setIfInBounds, List.mem_cons]
    by_cases h1 : s ∈ D
    · by_cases h2 : s < a.tmps.size
      · simp [h1, h2]
      · have h4 : a.tmps[s]? = none := Array.getElem?_eq_none (by omega)
        by_cases h3 : d = s <;> simp [h1, h2, h3, h4]
    · by_cases h2 : s = d
      · subst h2
        by_cases h3 : s < a.tmps.size <;> simp [h1, h3]
      · have h3 : ¬ d = s := fun e => h2 e.symm
        simp [h1, h2, h3]
theorem frameOf_defers (D : List Nat) (x : Nat → Value) : ∀ a : Act, (frameOf a D x).defers = a.defers := by
  unfold frameOf
  induction D with
  | nil => intro a; rfl
  | cons d D ih => intro a; rw [List.foldl_cons, ih]; rfl
theorem frameOf_put (D : List Nat) (x : Nat → Value) (a : Act) (d : Nat) (hd : d ∈ D) (v : Value) : (frameOf a D x).put (some d) v = frameOf a D (upd x d v) := by
  have h1 : ((frameOf a D x).put (some d) v).tmps = (frameOf a D (upd x d v)).tmps := by
    apply Array.ext_getElem?
    intro s
    have hsz : (frameOf a D x).tmps.size = a.tmps.size := by
      unfold frameOf
      clear hd
      induction D generalizing a with
      | nil => rfl
      | cons d D ih => rw [List.foldl_cons, ih]; simp [Act.put]
    simp only [Act.put, Array.getElem?_setIfInBounds, frameOf_tmps, hsz]
    by_cases h : d = s
    · subst h
      rw [upd_same]
      by_cases h2 : d < a.tmps.size <;> simp [h2, hd]
    · rw [if_neg h, upd_other x v (fun e => h e.symm)]
  have h2 : ((frameOf a D x).put (some d) v).defers = (frameOf a D (upd x d v)).defers := by
    rw [frameOf_defers]
    exact frameOf_defers D x a
  generalize (frameOf a D x).put (some d) v = p at h1 h2
  generalize frameOf a D (upd x d v) = q at h1 h2
  cases p
  cases q
  simp only at h1 h2
  subst h1 h2
  rfl
theorem frameOf_congr (D : List Nat) (x y : Nat → Value) (a : Act) (h : ∀ s ∈ D, x s = y s) : frameOf a D x = frameOf a D y := by
  unfold frameOf
  induction D generalizing a with
  | nil => rfl
  | cons d D ih =>
    rw [List.foldl_cons, List.foldl_cons, h d (by simp)]
    exact ih _ fun s hs => h s (by simp [hs])
def putAll : Act → List Nat → List Value → Act
  | a, d :: D, v :: V => putAll (a.put (some d) v) D V
  | a, _, _ => a
theorem putAll_eq : ∀ (D : List Nat) (V : List Value) (a : Act) (x : Nat → Value), V.length = D.length → (∀ i, i < D.length → x (D.getD i 0) = V.getD i undef) → frameOf a D x = putAll a D V
  | [], [], a, x, _, _ => rfl
  | [], _ :: _, _, _, h, _ => by cases h
  | _ :: _, [], _, _, h, _ => by cases h
  | d :: D, v :: V, a, x, hl, h => by
    have h0 : x d = v := h 0 (by simp)
    show frameOf (a.put (some d) (x d)) D x = putAll (a.put (some d) v) D V
    rw [h0]
    exact putAll_eq D V _ x (by simpa using hl) fun i hi => by have := h (i + 1) (by simpa using hi); simpa using this
section
variable {P : Program} {n : Nat} {ops : Array Oper}
/-- What is asked of the region itself. -/
def envB (ops : Array Oper) (D : List Nat) : Bool :=
  invB ops D && (List.range ops.size).all fun i => match ops[i]? with
    | some o => (match o.op with | .defer .. => false | .select .. => false | _ => true) && (o.dst == some (D.getD i 0)) &&
      (o.looksAt ops).all fun s => !D.contains s || (List.range i).any fun j => D.getD j 0 == s && o.after.any fun e => Region.binds .any e && e.on == j
    | none => true
/-- What one operation does: it yields v, and writes nothing that was there. -/
def envRes (P : Program) (v : Value) (w : World) : Result Next → Prop
  | .ok (.value u) w' => u = v ∧ Below w.heap.size w w'
  | .ok (.enter f args) w' => w' = w ∧ Calls P f args w fun e w'' => e = .returned v ∧ Below w.heap.size w w''
  | _ => False
def EnvStep (P : Program) (ops : Array Oper) (fin : Act) (w0 : World) (o : Oper) (v : Value) : Prop :=
  (Region.wanted o (yielded ops fin.tmps) = false ∧ v = undef) ∨ (Region.wanted o (yielded ops fin.tmps) = true ∧ ∀ w, Below w0.heap.size w0 w → envRes P v w ((execOp fin.eval o).run P w))
def EnvSteps (P : Program) (ops : Array Oper) (fin : Act) (w0 : World) : List Oper → List Value → Prop
  | o :: l, v :: V => EnvStep P ops fin w0 o v ∧ EnvSteps P ops fin w0 l V
  | [], [] => True
  | _, _ => False
theorem envSteps_at {fin : Act} {w0 : World} : ∀ {l : List Oper} {V : List Value}, EnvSteps P ops fin w0 l V → ∀ {j : Nat} {o : Oper}, l[j]? = some o → EnvStep P ops fin w0 o (V.getD j undef)
  | [], _, _, _, _, h => by simp at h
  | _ :: _, [], hs, _, _, _ => hs.elim
  | x :: l, v :: V, hs, 0, o, h => by
    simp only [List.getElem?_cons_zero, Option.some.injEq] at h
    subst h
    exact hs.1
  | x :: l, v :: V, hs, j + 1, o, h => by
    rw [List.getElem?_cons_succ] at h
    simpa using envSteps_at hs.2 h
theorem envSteps_len {fin : Act} {w0 : World} : ∀ {l : List Oper} {V : List Value}, EnvSteps P ops fin w0 l V → V.length = l.length
  | [], [], _ => rfl
  | [], _ :: _, h => h.elim
  | _ :: _, [], h => h.elim
  | _ :: l, _ :: V, h => by simp [envSteps_len h.2]
theorem idxOf_getD {D : List Nat} (hnd : D.Nodup) {i : Nat} (hi : i < D.length) : D.idxOf (D.getD i 0) = i := by
  rw [List.getD_eq_getElem?_getD, List.getElem?_eq_getElem hi, Option.getD_some]
  exact List.Nodup.idxOf_getElem hnd i hi
theorem stepsF_of {F : Fence} (hF : Wide F) {a fin : Act} {D : List Nat} {V : List Value} {w0 : World} (hb : envB ops D = true) (hV : V.length = D.length) (hfin : frameOf a D (valOf D V) = fin) :
    ∀ (l : List Oper) (k : Nat), (∀ j, l[j]? = ops[k + j]?) → (∀ j o, l[j]? = some o → EnvStep P ops fin w0 o (V.getD (k + j) undef)) → StepsF F n P ops a D (V.map Fact.is) w0 k l
  | [], _, _, _ => trivial
  | o :: l, k, hk, hs => by
    refine ⟨?_, stepsF_of hF hb hV hfin l (k + 1) (fun j => by have := hk (j + 1); simpa [Nat.add_assoc, Nat.add_comm 1 j] using this) fun j o' h => by have := hs (j + 1) o' (by simpa using h); simpa [Nat.add_assoc, Nat.add_comm 1 j] using this⟩
    have ho : ops[k]? = some o := by simpa using (hk 0).symm
    have hkl := (Array.getElem?_eq_some_iff.1 ho).1
    have hst : EnvStep P ops fin w0 o (V.getD k undef) := hs 0 o rfl
    unfold envB at hb
    rw [Bool.and_eq_true] at hb
    obtain ⟨hi, hb⟩ := hb
    simp only [invB, Bool.and_eq_true, decide_eq_true_eq] at hi
    obtain ⟨⟨-, hlen⟩, hnd⟩ := hi
    have hb := List.all_eq_true.1 hb k (List.mem_range.2 hkl)
    rw [ho] at hb
    simp only [Bool.and_eq_true] at hb
    obtain ⟨⟨hop, hdst⟩, hlook⟩ := hb
    have hndf : ∀ c, o.op ≠ .defer c := fun c hc => by rw [hc] at hop; cases hop
    have hnsl : ∀ cs b, o.op ≠ .select cs b := fun c b hc => by rw [hc] at hop; cases hop
    intro x w R hB hf hR
    -- the slots that it looks at
    have hsame : ∀ s, s ∈ o.looksAt ops → (frameOf a D x).tmps[s]? = fin.tmps[s]? := by
      intro s hs
      rw [← hfin, frameOf_tmps, frameOf_tmps]
      by_cases hD : s ∈ D
      · have := List.all_eq_true.1 hlook s hs
        rw [Bool.or_eq_true] at this
        rcases this with h | h
        · simp [hD] at h
        · obtain ⟨j, hj, hj2⟩ := List.any_eq_true.1 h
          rw [Bool.and_eq_true] at hj2
          obtain ⟨hjs, hje⟩ := hj2
          have hjs : D.getD j 0 = s := by simpa using hjs
          have hjk := List.mem_range.1 hj
          have h1 := hf j hje
          have hjl : j < D.length := by omega
          rw [hjs] at h1
          have h2 : x s = valOf D V s := by
            have e : D.idxOf s = j := by rw [← hjs]; exact idxOf_getD hnd hjl
            unfold valOf
            rw [e]
            rw [List.getD_eq_getElem?_getD, List.getElem?_map, List.getElem?_eq_getElem (show j < V.length by omega)] at h1
            rw [List.getD_eq_getElem?_getD, List.getElem?_eq_getElem (show j < V.length by omega)]
            exact h1
          rw [h2]
      · simp [hD]
    have hev : ∀ y ∈ o.op.operands, (frameOf a D x).eval y = fin.eval y := by
      intro y hy
      cases y with
      | tmp s =>
        have h1 := hsame s (List.mem_append_left _ (List.mem_filterMap.2 ⟨.tmp s, by simpa using hy, rfl⟩))
        show (frameOf a D x).tmps.getD s undef = fin.tmps.getD s undef
        simp only [Array.getD_eq_getD_getElem?, h1]
      | _ => rfl
    have hex := execOp_congr (ρ := (frameOf a D x).eval) (ρ' := fin.eval) o hnsl hev
    have hwa : Region.wanted o (yielded ops (frameOf a D x).tmps) = Region.wanted o (yielded ops fin.tmps) := by
      unfold Region.wanted
      cases hg : o.guard with
      | none => rfl
      | some g =>
        obtain ⟨g, b⟩ := g
        dsimp only
        unfold yielded
        cases hd : (ops[g]?).bind (·.dst) with
        | none => rfl
        | some d =>
          have h1 := hsame d (List.mem_append_right _ (by rw [hg]; simp [hd]))
          simp only [Option.bind_some, h1]
    have hdst : o.dst = some (D.getD k 0) := by simpa using hdst
    have hkD : k < D.length := by omega
    have hmem : D.getD k 0 ∈ D := by rw [List.getD_eq_getElem?_getD, List.getElem?_eq_getElem hkD]; exact List.getElem_mem hkD
    have hput : ∀ v, (frameOf a D x).put o.dst v = frameOf a D (upd x (D.getD k 0) v) := fun v => by rw [hdst]; exact frameOf_put D x a _ hmem v
    have hfk : ∀ w', ((V.map Fact.is).getD k .any).p (V.getD k undef) w' := by
      intro w'
      rw [List.getD_eq_getElem?_getD, List.getD_eq_getElem?_getD, List.getElem?_map, List.getElem?_eq_getElem (show k < V.length by omega)]
      rfl
    unfold wpListIn
    rw [hwa]
    rcases hst with ⟨h1, h2⟩ | ⟨h1, h2⟩
    · rw [if_neg (by rw [h1]; simp)]
      refine ⟨fun f _ => hF.fn f, ?_⟩
      rw [hput]
      exact hR _ _ (h2 ▸ hfk w) (Below.refl _ _)
    · rw [if_pos h1]
      refine ⟨fun f _ => hF.fn f, ?_⟩
      rw [Oper.semAt_plain F _ o hndf, hex]
      have h3 := h2 w hB
      generalize (execOp fin.eval o).run P w = r at h3
      cases r with
      | halt hh w' => exact h3.elim
      | ok nx w' =>
        cases nx with
        | value u =>
          obtain ⟨rfl, hbw⟩ := h3
          rw [Oper.uponIn_value, hput]
          exact hR _ _ (hfk w') hbw
        | enter f args =>
          obtain ⟨rfl, hc⟩ := h3
          rw [Oper.uponIn_enter]
          refine ⟨(fun h => by rw [hF.depth] at h; cases h), (hF.calls hc).mono ?_⟩
          rintro e w'' ⟨rfl, hbw⟩
          show wpListIn F n P ops _ [] ((frameOf a D x).put o.dst (V.getD k undef)) w''
          rw [hput]
          exact hR _ _ (hfk w'') hbw
        | _ => exact h3.elim
/-- A REGION THAT DRAWS ITS ORDER, WITHIN A FENCE. D: each operation's slot; V: what it yields; fin: the frame in the end. -/
theorem wpIn_env {F : Fence} (hF : Wide F) {id : Nat} {l : List Oper} {Q : Exit → Act → World → Prop} {a : Act} {w : World} (hm : P.follows .mixedOrders = true) (D : List Nat) (V : List Value) (hb : envB l.toArray D = true) {fin : Act} (hfin : putAll a D V = fin)
    (hstep : EnvSteps P l.toArray fin w l V) (hend : ∀ w', Below w.heap.size w w' → Q .normal fin w') : (Code.region id l.toArray true).wpIn F n P Q a w := by
  have hb' := hb
  unfold envB at hb'
  rw [Bool.and_eq_true] at hb'
  obtain ⟨hi, -⟩ := hb'
  have hi' := hi
  simp only [invB, Bool.and_eq_true, decide_eq_true_eq] at hi'
  obtain ⟨⟨-, hlen⟩, hnd⟩ := hi'
  have hV : V.length = D.length := by rw [envSteps_len hstep, hlen]; simp
  have hfin : frameOf a D (valOf D V) = fin := by
    rw [← hfin]
    exact putAll_eq D V a _ hV fun i hi => by unfold valOf; rw [idxOf_getD hnd hi]
  refine wpIn_facts hm D (V.map Fact.is) hi (stepsF_of hF hb hV hfin l 0 (fun j => by simp) fun j o h => by rw [Nat.zero_add]; exact envSteps_at hstep h) fun x w' hbw hx => ?_
  have e : frameOf a D x = fin := by
    rw [← hfin]
    refine frameOf_congr D _ _ a fun s hs => ?_
    obtain ⟨j, hj, rfl⟩ := List.getElem_of_mem hs
    have h1 := hx j (by omega)
    rw [List.getD_eq_getElem?_getD, List.getElem?_map, List.getElem?_eq_getElem (show j < V.length by omega), List.getD_eq_getElem?_getD, List.getElem?_eq_getElem hj] at h1
    have h1 : x D[j] = V[j]'(by omega) := h1
    unfold valOf
    rw [List.Nodup.idxOf_getElem hnd j hj, List.getD_eq_getElem?_getD, List.getElem?_eq_getElem (show j < V.length by omega), Option.getD_some]
    exact h1
  rw [e]
  exact hend w' hbw
/-- The same, in no fence. -/
theorem wp_env {id : Nat} {l : List Oper} {Q : Exit → Act → World → Prop} {a : Act} {w : World} (hm : P.follows .mixedOrders = true) (D : List Nat) (V : List Value) (hb : envB l.toArray D = true) {fin : Act} (hfin : putAll a D V = fin)
    (hstep : EnvSteps P l.toArray fin w l V) (hend : ∀ w', Below w.heap.size w w' → Q .normal fin w') : (Code.region id l.toArray true).wp P Q a w :=
  (wpIn_wide (n := 8)).1 (wpIn_env wide0 hm D V hb hfin hstep hend)
end
end Go.Proofs.YtfbkkhfmboaknaaGreatDoor
