/-
  A region that draws its order, with one block made in it (a variable of its own) and one operation that fills the block: each other operation's value is known ahead.
-/
import Derived.Test.YtonmmgcibpjahaaGreatDoorSh11
section
/- EnvA: A region that draws its order, with one block made in it (a variable of its own) and one operation that fills the block: each other operation's value is known ahead. -/
namespace Go.Proofs.YtonmmgcibpjahaaGreatDoor
open Go Go.RowKit

section
variable {P : Program} {n : Nat} {ops : Array Oper}
/-- What is asked of the region itself. al: the operation that makes the block; st: the one that fills it. -/
def envAB (ops : Array Oper) (D : List Nat) (al st : Nat) : Bool :=
  envSB ops D st && decide (al < ops.size) && decide (al ≠ st) && (match ops[st]? with | some o => o.after.any fun e => Region.binds .any e && e.on == al | none => false)
/-- What one operation does: the one that makes the block, the one that fills it (cells cs, of type t, zs ahead), any other one. -/
def EnvAStep (P : Program) (ops : Array Oper) (fin : Value → Act) (w0 : World) (t : TypeId) (zs cs : Array Value) (o : Oper) (v : Value) : Bool → Bool → Prop
  | true, _ => (∀ p, Region.wanted o (yielded ops (fin p).tmps) = true) ∧ ∀ p w, Below w0.heap.size w0 w → (execOp (fin p).eval o).run P w = .ok (.value (.pointer (some ⟨w.heap.size, 0, none⟩))) (w.alloc (.cells zs t))
  | false, true => (∀ p, Region.wanted o (yielded ops (fin p).tmps) = true) ∧ ∀ b w, Blk w b t zs → ∃ w', (execOp (fin (.pointer (some ⟨b, 0, none⟩))).eval o).run P w = .ok .skip w' ∧ Fr (fun k => k = b) w w' ∧ Blk w' b t cs
  | false, false => ∀ p, EnvStep P ops (fin p) w0 o v
def EnvASteps (P : Program) (ops : Array Oper) (fin : Value → Act) (w0 : World) (t : TypeId) (zs cs : Array Value) (al st : Nat) : Nat → List Oper → List Value → Prop
  | k, o :: l, v :: V => EnvAStep P ops fin w0 t zs cs o v (k == al) (k == st) ∧ EnvASteps P ops fin w0 t zs cs al st (k + 1) l V
  | _, [], [] => True
  | _, _, _ => False
theorem envASteps_at {fin : Value → Act} {w0 : World} {t : TypeId} {zs cs : Array Value} {al st : Nat} : ∀ {l : List Oper} {V : List Value} {k : Nat}, EnvASteps P ops fin w0 t zs cs al st k l V → ∀ {j : Nat} {o : Oper}, l[j]? = some o → EnvAStep P ops fin w0 t zs cs o (V.getD j undef) (k + j == al) (k + j == st)
  | [], _, _, _, _, _, h => by simp at h
  | _ :: _, [], _, hs, _, _, _ => hs.elim
  | x :: l, v :: V, k, hs, 0, o, h => by
    simp only [List.getElem?_cons_zero, Option.some.injEq] at h
    subst h
    exact hs.1
  | x :: l, v :: V, k, hs, j + 1, o, h => by
    rw [List.getElem?_cons_succ] at h
    have := envASteps_at hs.2 h
    rw [show k + 1 + j = k + (j + 1) by omega] at this
    simpa using this
theorem envASteps_len {fin : Value → Act} {w0 : World} {t : TypeId} {zs cs : Array Value} {al st : Nat} : ∀ {l : List Oper} {V : List Value} {k : Nat}, EnvASteps P ops fin w0 t zs cs al st k l V → V.length = l.length
  | [], [], _, _ => rfl
  | [], _ :: _, _, h => h.elim
  | _ :: _, [], _, h => h.elim
  | _ :: l, _ :: V, _, h => by simp [envASteps_len h.2]
theorem getD_setU {V : List Value} {al i : Nat} (p : Value) (h : al < V.length) : (V.set al p).getD i undef = if al = i then p else V.getD i undef := by
  rw [List.getD_eq_getElem?_getD, List.getElem?_set, List.getD_eq_getElem?_getD]
  split
  · rename_i e
    subst e
    rfl
  · rfl
/-- What holds while the region goes on. -/
def EnvAI (w : World) (D : List Nat) (V : List Value) (t : TypeId) (zs cs : Array Value) (al st : Nat) (L : Nat → Bool) (x : Nat → Value) (w' : World) : Prop :=
  Below w.heap.size w w' ∧ ∃ p, (∀ i, i < D.length → L i = true → x (D.getD i 0) = (V.set al p).getD i undef) ∧ (L al = true → ∃ b, p = .pointer (some ⟨b, 0, none⟩) ∧ w.heap.size ≤ b ∧ Blk w' b t (if L st = true then cs else zs)) ∧ (L al = false → L st = false)
/-- A REGION THAT DRAWS ITS ORDER, WITH ONE BLOCK OF ITS OWN, WITHIN A FENCE. D: each operation's slot (the filling one's: one that the frame has not); V: what it yields (at al: anything); fin p: the frame in the end, if the block's address is p. -/
theorem wpIn_envA {F : Fence} (hF : Wide F) {id : Nat} {l : List Oper} {Q : Exit → Act → World → Prop} {a : Act} {w : World} (hm : P.follows .mixedOrders = true) (D : List Nat) (V : List Value) (al st : Nat) (t : TypeId) (zs cs : Array Value)
    (hb : envAB l.toArray D al st = true) (hsz : a.tmps.size ≤ D.getD st 0) (hstD : st < D.length) {fin : Value → Act} (hfin : ∀ p, putAll a D (V.set al p) = fin p)
    (hstep : EnvASteps P l.toArray fin w t zs cs al st 0 l V) (hend : ∀ b w', Below w.heap.size w w' → w.heap.size ≤ b → Blk w' b t cs → Q .normal (fin (.pointer (some ⟨b, 0, none⟩))) w') : (Code.region id l.toArray true).wpIn F n P Q a w := by
  unfold envAB at hb
  simp only [Bool.and_eq_true, decide_eq_true_eq] at hb
  obtain ⟨⟨⟨hb, hal⟩, hne⟩, hedge⟩ := hb
  unfold envSB at hb
  rw [Bool.and_eq_true] at hb
  obtain ⟨hi, hb⟩ := hb
  have hi' := hi
  simp only [invB, Bool.and_eq_true, decide_eq_true_eq] at hi'
  obtain ⟨⟨-, hlen⟩, hnd⟩ := hi'
  have hV : V.length = D.length := by rw [envASteps_len hstep, hlen]; simp
  have halV : al < V.length := by rw [hV, hlen]; exact hal
  have hfinp : ∀ p, frameOf a D (valOf D (V.set al p)) = fin p := fun p => by
    rw [← hfin]
    exact putAll_eq D _ a _ (by rw [List.length_set]; exact hV) fun i hi => by unfold valOf; rw [idxOf_getD hnd hi]
  refine wpIn_inv hm D (EnvAI w D V t zs cs al st) hi (fun x => ⟨(Below.refl _ _).drew, undef, (fun i _ h => by cases h), (fun h => by cases h), fun _ => rfl⟩) ?_ ?_
  · have main : ∀ (i : Nat) (o : Oper), l[i]? = some o → StepI F n P l.toArray a D (EnvAI w D V t zs cs al st) i o := by
      intro k o hlk L x w1 R hI hsh hLk hr hR
      obtain ⟨hbw, p, hx, hblk, hord⟩ := hI
      have hkl : k < l.length := (List.getElem?_eq_some_iff.1 hlk).1
      have ho : l.toArray[k]? = some o := by simpa using hlk
      have hkD : k < D.length := by rw [hlen]; simpa using hkl
      have hst1 := envASteps_at hstep hlk
      rw [Nat.zero_add] at hst1
      have hb1 := List.all_eq_true.1 hb k (List.mem_range.2 (by simpa using hkl))
      rw [ho] at hb1
      simp only [Bool.and_eq_true] at hb1
      obtain ⟨⟨hop, hdst⟩, hlook⟩ := hb1
      have hndf : ∀ c, o.op ≠ .defer c := fun c hc => by rw [hc] at hop; cases hop
      have hnsl : ∀ cs b, o.op ≠ .select cs b := fun c b hc => by rw [hc] at hop; cases hop
      have hsame : ∀ s, s ∈ o.looksAt l.toArray → (frameOf a D x).tmps[s]? = (fin p).tmps[s]? := by
        intro s hs
        rw [← hfinp, frameOf_tmps, frameOf_tmps]
        by_cases hD : s ∈ D
        · have := List.all_eq_true.1 hlook s hs
          rw [Bool.or_eq_true] at this
          rcases this with h | h
          · simp [hD] at h
          · obtain ⟨j, hj, hj2⟩ := List.any_eq_true.1 h
            rw [Bool.and_eq_true] at hj2
            obtain ⟨hjs, hje⟩ := hj2
            have hjs : D.getD j 0 = s := by simpa using hjs
            have hjk := List.mem_range.1 hj
            have h1 := hx j (by omega) (hr j hje)
            rw [hjs] at h1
            have h2 : x s = valOf D (V.set al p) s := by
              have e : D.idxOf s = j := by rw [← hjs]; exact idxOf_getD hnd (by omega)
              unfold valOf
              rw [e]
              exact h1
            rw [h2]
        · simp [hD]
      have hev : ∀ y ∈ o.op.operands, (frameOf a D x).eval y = (fin p).eval y := by
        intro y hy
        cases y with
        | tmp s =>
          have h1 := hsame s (List.mem_append_left _ (List.mem_filterMap.2 ⟨.tmp s, by simpa using hy, rfl⟩))
          show (frameOf a D x).tmps.getD s undef = (fin p).tmps.getD s undef
          simp only [Array.getD_eq_getD_getElem?, h1]
        | _ => rfl
      have hex := execOp_congr (ρ := (frameOf a D x).eval) (ρ' := (fin p).eval) o hnsl hev
      have hwa : Region.wanted o (yielded l.toArray (frameOf a D x).tmps) = Region.wanted o (yielded l.toArray (fin p).tmps) := by
        unfold Region.wanted
        cases hg : o.guard with
        | none => rfl
        | some g =>
          obtain ⟨g, b⟩ := g
          dsimp only
          unfold yielded
          cases hd : (l.toArray[g]?).bind (·.dst) with
          | none => rfl
          | some d =>
            have h1 := hsame d (List.mem_append_right _ (by rw [hg]; show d ∈ ((l.toArray[g]?).bind (·.dst)).toList; rw [hd]; simp))
            simp only [Option.bind_some, h1]
      have hmem : D.getD k 0 ∈ D := by rw [List.getD_eq_getElem?_getD, List.getElem?_eq_getElem hkD]; exact List.getElem_mem hkD
      have hslot : ∀ i, i < D.length → i ≠ k → D.getD i 0 ≠ D.getD k 0 := fun i hiD hik e => by
        rw [List.getD_eq_getElem?_getD, List.getD_eq_getElem?_getD, List.getElem?_eq_getElem hiD, List.getElem?_eq_getElem hkD] at e
        simp only [Option.getD_some] at e
        have hpw := List.pairwise_iff_getElem.1 hnd
        rcases Nat.lt_or_ge i k with h | h
        · exact hpw i k hiD hkD h e
        · exact hpw k i hkD hiD (by omega) e.symm
      have hmore : ∀ i, i ≠ k → more L k i = L i := fun i hik => by unfold more; rw [decide_eq_false hik]; rfl
      have hmk : more L k k = true := by unfold more; simp
      unfold wpListIn
      rw [hwa]
      by_cases hka : k = al
      · subst hka
        rw [beq_self_eq_true] at hst1
        obtain ⟨h1, h2⟩ := hst1
        rw [if_pos (h1 p)]
        refine ⟨fun f _ => hF.fn f, ?_⟩
        rw [Oper.semAt_plain F _ o hndf, hex, h2 p w1 hbw, Oper.uponIn_value]
        rw [if_neg hne] at hdst
        have hdst : o.dst = some (D.getD k 0) := by simpa using hdst
        rw [hdst, frameOf_put D x a _ hmem]
        have hLs : L st = false := hord hLk
        refine hR _ _ ⟨hbw.alloc hbw.size _, .pointer (some ⟨w1.heap.size, 0, none⟩), fun i hiD hm => ?_, fun _ => ⟨_, rfl, hbw.size, ?_⟩, fun h => ?_⟩
        · rw [getD_setU _ halV]
          by_cases hik : i = k
          · subst hik; rw [upd_same, if_pos rfl]
          · rw [hmore i hik] at hm
            have h3 := hx i hiD hm
            rw [getD_setU _ halV, if_neg (fun e => hik e.symm)] at h3
            rw [upd_other x _ (hslot i hiD hik), if_neg (fun e => hik e.symm), h3]
        · rw [hmore st (fun e => hne e.symm), hLs, if_neg (by decide)]
          exact Blk.new w1 t zs
        · rw [hmk] at h; cases h
      · rw [show (k == al) = false by simpa using hka] at hst1
        have hma : more L k al = L al := hmore al (fun e => hka e.symm)
        by_cases hks : k = st
        · subst hks
          rw [beq_self_eq_true] at hst1
          obtain ⟨h1, h2⟩ := hst1
          have hLa : L al = true := by
            rw [ho] at hedge
            exact hr al hedge
          obtain ⟨b, rfl, hbb, hB⟩ := hblk hLa
          rw [hLk, if_neg (by decide)] at hB
          rw [if_pos (h1 _)]
          refine ⟨fun f _ => hF.fn f, ?_⟩
          obtain ⟨w', hrun, hfr, hB'⟩ := h2 b w1 hB
          rw [Oper.semAt_plain F _ o hndf, hex, hrun]
          rw [if_pos rfl] at hdst
          have hdn : o.dst = none := by simpa using hdst
          rw [Oper.uponIn_skip, hdn]
          have e : (frameOf a D x).put none undef = frameOf a D (upd x (D.getD k 0) (V.getD k undef)) := by
            show frameOf a D x = _
            have h1 : (frameOf a D x).tmps = (frameOf a D (upd x (D.getD k 0) (V.getD k undef))).tmps := by
              apply Array.ext_getElem?
              intro s
              rw [frameOf_tmps, frameOf_tmps]
              by_cases hs : s < a.tmps.size
              · rw [upd_other x _ (show s ≠ D.getD k 0 by omega)]
              · simp [hs]
            have h2 : (frameOf a D x).defers = (frameOf a D (upd x (D.getD k 0) (V.getD k undef))).defers := by rw [frameOf_defers, frameOf_defers]
            generalize frameOf a D x = p1 at h1 h2
            generalize frameOf a D (upd x (D.getD k 0) (V.getD k undef)) = q1 at h1 h2
            cases p1
            cases q1
            simp only at h1 h2
            subst h1 h2
            rfl
          rw [e]
          refine hR _ _ ⟨hbw.trans (hfr.below hbw.size (fun j hj e => by omega)), .pointer (some ⟨b, 0, none⟩), fun i hiD hm => ?_, fun _ => ⟨b, rfl, hbb, ?_⟩, fun h => ?_⟩
          · by_cases hik : i = k
            · subst hik; rw [upd_same, getD_setU _ halV, if_neg (fun e => hka e.symm)]
            · rw [hmore i hik] at hm
              rw [upd_other x _ (hslot i hiD hik)]
              exact hx i hiD hm
          · rw [hmk, if_pos rfl]; exact hB'
          · rw [hma, hLa] at h; cases h
        · rw [show (k == st) = false by simpa using hks] at hst1
          have hms : more L k st = L st := hmore st (fun e => hks e.symm)
          rw [if_neg hks] at hdst
          have hdst : o.dst = some (D.getD k 0) := by simpa using hdst
          have hput : ∀ v, (frameOf a D x).put o.dst v = frameOf a D (upd x (D.getD k 0) v) := fun v => by
            rw [hdst]
            exact frameOf_put D x a _ hmem v
          have hvk : (V.set al p).getD k undef = V.getD k undef := by rw [getD_setU _ halV, if_neg (fun e => hka e.symm)]
          have hnew : ∀ w', Below w1.heap.size w1 w' → EnvAI w D V t zs cs al st (more L k) (upd x (D.getD k 0) (V.getD k undef)) w' := fun w' hb' => by
            refine ⟨hbw.trans (hb'.mono hbw.size), p, fun i hiD hm => ?_, fun h => ?_, fun h => ?_⟩
            · by_cases hik : i = k
              · subst hik; rw [upd_same, hvk]
              · rw [hmore i hik] at hm
                rw [upd_other x _ (hslot i hiD hik)]
                exact hx i hiD hm
            · rw [hma] at h
              obtain ⟨b, hp, hbb, hB⟩ := hblk h
              refine ⟨b, hp, hbb, ?_⟩
              rw [hms]
              exact hB.below hb' hB.lt
            · rw [hma] at h; rw [hms]; exact hord h
          rcases hst1 p with ⟨h1, h2⟩ | ⟨h1, h2⟩
          · rw [if_neg (by rw [h1]; simp)]
            refine ⟨fun f _ => hF.fn f, ?_⟩
            rw [hput, ← h2]
            exact hR _ _ (hnew w1 (Below.refl _ _))
          · rw [if_pos h1]
            refine ⟨fun f _ => hF.fn f, ?_⟩
            rw [Oper.semAt_plain F _ o hndf, hex]
            have h3 := h2 w1 hbw
            generalize (execOp (fin p).eval o).run P w1 = r at h3
            cases r with
            | halt hh w' => exact h3.elim
            | ok nx w' =>
              cases nx with
              | value u =>
                obtain ⟨rfl, hb'⟩ := h3
                rw [Oper.uponIn_value, hput]
                exact hR _ _ (hnew w' hb')
              | enter f args =>
                obtain ⟨rfl, hc⟩ := h3
                rw [Oper.uponIn_enter]
                refine ⟨(fun h => by rw [hF.depth] at h; cases h), (hF.calls hc).mono ?_⟩
                rintro e w'' ⟨rfl, hb'⟩
                show wpListIn F n P l.toArray _ [] ((frameOf a D x).put o.dst (V.getD k undef)) w''
                rw [hput]
                exact hR _ _ (hnew w'' hb')
              | _ => exact h3.elim
    have all : ∀ (m : List Oper) (k : Nat), (∀ j, m[j]? = l[k + j]?) → StepsI F n P l.toArray a D (EnvAI w D V t zs cs al st) k m := by
      intro m
      induction m with
      | nil => intro k _; trivial
      | cons o m ih =>
        intro k hk
        exact ⟨main k o (by simpa using (hk 0).symm), ih (k + 1) fun j => by have := hk (j + 1); simpa [Nat.add_assoc, Nat.add_comm 1 j] using this⟩
    exact all l 0 fun j => by simp
  · rintro x w' L hL ⟨h1, p, h2, h3, -⟩
    obtain ⟨b, rfl, hbb, hB⟩ := h3 (hL al (by simpa using hal))
    rw [hL st (by omega), if_pos rfl] at hB
    have e : frameOf a D x = fin (.pointer (some ⟨b, 0, none⟩)) := by
      rw [← hfinp]
      refine frameOf_congr D _ _ a fun s hs => ?_
      obtain ⟨j, hj, rfl⟩ := List.getElem_of_mem hs
      have h4 := h2 j hj (hL j (by omega))
      rw [List.getD_eq_getElem?_getD, List.getElem?_eq_getElem hj] at h4
      have h4 : x D[j] = (V.set al (.pointer (some ⟨b, 0, none⟩))).getD j undef := h4
      unfold valOf
      rw [List.Nodup.idxOf_getElem hnd j hj]
      exact h4
    rw [e]
    exact hend b w' h1 hbb hB
/-- The same, in no fence. -/
theorem wp_envA {id : Nat} {l : List Oper} {Q : Exit → Act → World → Prop} {a : Act} {w : World} (hm : P.follows .mixedOrders = true) (D : List Nat) (V : List Value) (al st : Nat) (t : TypeId) (zs cs : Array Value)
    (hb : envAB l.toArray D al st = true) (hsz : a.tmps.size ≤ D.getD st 0) (hstD : st < D.length) {fin : Value → Act} (hfin : ∀ p, putAll a D (V.set al p) = fin p)
    (hstep : EnvASteps P l.toArray fin w t zs cs al st 0 l V) (hend : ∀ b w', Below w.heap.size w w' → w.heap.size ≤ b → Blk w' b t cs → Q .normal (fin (.pointer (some ⟨b, 0, none⟩))) w') : (Code.region id l.toArray true).wp P Q a w :=
  (wpIn_wide (n := 8)).1 (wpIn_envA wide0 hm D V al st t zs cs hb hsz hstD hfin hstep hend)
end
end Go.Proofs.YtonmmgcibpjahaaGreatDoor
end
