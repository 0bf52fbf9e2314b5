import Derived.Test.YtfbkkhfmboaknaaGreatDoorSerial
namespace Go.Proofs.YtfbkkhfmboaknaaGreatDoor
open Go

section
variable {P : Program}
/-- An operation that looks at no memory, if its operands fit. -/
def quiet (P : Program) (op : Op) : Bool :=
  match op with
  | .move _ | .assign _ | .pick .. | .extract .. | .field .. | .slice .. | .indexAddr .. | .index .. | .unOp .. | .makeInterface .. | .makeFunc .. | .nilCheck _ | .binOp .. | .build .. => true
  | .convert _ d _ => match P.underlying d with | some (.int _) => true | _ => false
  | .fieldAddr s _ f => match P.underlying s with
    | some (.struct fs) => match fs[f]? with
      | some fd => match P.info? fd.type with | some i => i.size != 0 | none => false
      | none => false
    | _ => false
  | .call c => match c.callee with | .builtin .len => true | _ => false
  | _ => false
def isSeqV : Value → Bool
  | .slice .. => true
  | .string _ => true
  | _ => false
def isFuncV : Value → Bool
  | .func .. => true
  | _ => false
def isIntV : Value → Bool
  | .int .. => true
  | _ => false
def fits (ρ : Operand → Value) (op : Op) : Bool :=
  match op with
  | .binOp _ _ x y _ => plainPair (ρ x) (ρ y)
  | .nilCheck x => !isFuncV (ρ x)
  | .convert _ _ x => isIntV (ρ x)
  | .call c => match (c.args.map ρ)[0]? with | some v => isSeqV v | none => false
  | _ => true
theorem calm_value {s : Sem Value} (h : Calm P s) : Calm P (do pure (Next.value (← s))) := calm_bind h fun _ => calm_pure _
theorem value_of {s : Sem Value} {w w1 : World} {n : Next} (h : (do pure (Next.value (← s)) : Sem Next).run P w = .ok n w1) : ∃ v, n = .value v := by
  rw [Sem.run_bind] at h
  obtain ⟨a, w2, _, h2⟩ := andThen_ok_inv h
  simp only [Sem.run_pure, Result.ok.injEq] at h2
  exact ⟨a, h2.1.symm⟩
theorem calm_convert_int (s d : TypeId) (k : IntKind) (n : Int) (hd : ∃ k', P.underlying d = some (.int k')) : Calm P (convert s d (.int k n)) := by
  obtain ⟨k', hd⟩ := hd
  intro w v w1 e
  unfold convert at e ⊢
  rw [Sem.run_bind] at e
  obtain ⟨a, w2, h1, h2⟩ := andThen_ok_inv e
  obtain ⟨rfl, h3⟩ := calm_underlying s _ _ _ h1
  rw [Sem.run_bind, run_underlying hd, Result.andThen_ok] at h2
  have hc : Calm P (Conv.intToInt k' n) := calm_pure _
  have h4 : ∀ w', (match a, TypeDesc.int k', Value.int k n with | _, .int k, .int _ n => Conv.intToInt k n | _, _, _ => stuck "" : Sem Value).run P w' = (Conv.intToInt k' n).run P w' := fun _ => by cases a <;> rfl
  have h5 : (Conv.intToInt k' n).run P w2 = .ok v w1 := by cases a <;> exact h2
  obtain ⟨rfl, h6⟩ := hc _ _ _ h5
  refine ⟨rfl, fun w' => ?_⟩
  rw [Sem.run_bind, h3 w', Result.andThen_ok, Sem.run_bind, run_underlying hd, Result.andThen_ok]
  cases a <;> exact h6 w'
theorem calm_len (ts : Array TypeId) (t : TypeId) (args : Array Value) (v : Value) (h : args[0]? = some v) (hv : isSeqV v = true) : Calm P (Builtin.len_ ts t args) := by
  unfold Builtin.len_
  rw [h]
  generalize ts[0]? = o
  cases o with
  | none => exact (never_stuck _).calm
  | some t' =>
    dsimp only
    refine calm_bind (calm_underlying _) fun d => ?_
    cases v <;> simp only [isSeqV, Bool.false_eq_true] at hv
    all_goals
      cases d <;> dsimp only <;> repeat' first
        | exact calm_pure _
        | exact (never_stuck _).calm
        | exact calm_underlying _
        | contradiction
        | (refine calm_bind (calm_underlying _) fun _ => ?_)
        | split
theorem value_nilCheck (o : Oper) (ρ : Operand → Value) (x : Operand) (ho : o.op = .nilCheck x) {w w1 : World} {n : Next} (h : (execOp ρ o).run P w = .ok n w1) : ∃ v, n = .value v := by
  unfold execOp at h
  rw [ho] at h
  dsimp only at h
  split at h
  · exact absurd h (never_runtimePanic _ _ _ _)
  · exact absurd h (never_runtimePanic _ _ _ _)
  · exact absurd h (never_runtimePanic _ _ _ _)
  · split at h
    · exact absurd h (never_runtimePanic _ _ _ _)
    · rw [Sem.run_bind] at h
      obtain ⟨p, w2, _, h⟩ := andThen_ok_inv h
      rw [Sem.run_bind] at h
      obtain ⟨b, w3, _, h⟩ := andThen_ok_inv h
      split at h
      · rw [Sem.run_bind] at h
        obtain ⟨b, w4, h1, _⟩ := andThen_ok_inv h
        exact absurd h1 (never_unsupported _ _ _ _)
      · simp only [Sem.run_pure, Result.ok.injEq] at h
        exact ⟨_, h.1.symm⟩
    · simp only [Sem.run_pure, Result.ok.injEq] at h
      exact ⟨_, h.1.symm⟩
  · simp only [Sem.run_pure, Result.ok.injEq] at h
    exact ⟨_, h.1.symm⟩
theorem value_exec (o : Oper) (ρ : Operand → Value) (hq : quiet P o.op = true) {w w1 : World} {n : Next} (h : (execOp ρ o).run P w = .ok n w1) : ∃ v, n = .value v := by
  cases ho : o.op
  case nilCheck x => exact value_nilCheck o ρ x ho h
  case call c =>
    obtain ⟨callee, args, ts⟩ := c
    rw [ho] at hq
    cases callee with
    | builtin b =>
      cases b <;> simp only [quiet, Bool.false_eq_true] at hq
      simp only [execOp, ho, resolve, invoke, builtin, pure_bind] at h
      exact value_of h
    | _ => simp [quiet] at hq
  case pick c a b =>
    unfold execOp at h
    rw [ho] at h
    dsimp only at h
    rw [Sem.run_bind] at h
    obtain ⟨p, w2, _, h⟩ := andThen_ok_inv h
    simp only [Sem.run_pure, Result.ok.injEq] at h
    exact ⟨_, h.1.symm⟩
  all_goals
    rw [ho] at hq
    first
      | (simp [quiet] at hq; done)
      | (unfold execOp at h; rw [ho] at h; exact value_of h)
      | (unfold execOp at h; rw [ho] at h; simp only [Sem.run_pure, Result.ok.injEq] at h; exact ⟨_, h.1.symm⟩)
theorem calm_underlying_at {β : Type} {t : TypeId} {d : TypeDesc} (h : P.underlying t = some d) {f : TypeDesc → Sem β} (hf : Calm P (f d)) : Calm P (underlying t >>= f) := fun w v w1 e => by
  rw [Sem.run_bind, run_underlying h, Result.andThen_ok] at e
  obtain ⟨a, b⟩ := hf _ _ _ e
  exact ⟨a, fun w' => by rw [Sem.run_bind, run_underlying h, Result.andThen_ok]; exact b w'⟩
theorem run_sizeOf_at {t : TypeId} {i : TypeInfo} (h : P.info? t = some i) (w : World) : (sizeOf t).run P w = .ok i.size w := by
  simp [sizeOf, typeInfo, h]
theorem calm_sizeOf_at {β : Type} {t : TypeId} {i : TypeInfo} (h : P.info? t = some i) {f : Nat → Sem β} (hf : Calm P (f i.size)) : Calm P (sizeOf t >>= f) := fun w v w1 e => by
  rw [Sem.run_bind, run_sizeOf_at h, Result.andThen_ok] at e
  obtain ⟨a, b⟩ := hf _ _ _ e
  exact ⟨a, fun w' => by rw [Sem.run_bind, run_sizeOf_at h, Result.andThen_ok]; exact b w'⟩
theorem calm_mapM {γ δ : Type} : ∀ (l : List γ) (f : γ → Sem δ), (∀ a, Calm P (f a)) → Calm P (l.mapM f)
  | [], f, _ => by rw [List.mapM_nil]; exact calm_pure _
  | a :: l, f, h => by
    rw [List.mapM_cons]
    exact calm_bind (h a) fun _ => calm_bind (calm_mapM l f h) fun _ => calm_pure _
theorem calm_build (t : TypeId) (parts : Array (Nat × Value)) : Calm P (Instr.build t parts) := by
  unfold Instr.build
  refine calm_bind ?_ fun z => calm_bind (calm_underlying t) fun d => ?_
  · unfold zeroValue
    refine calm_bind (calm_typeInfo t) fun i => ?_
    split
    · exact calm_pure _
    · exact (never_unsupported _).calm
  · cases d <;> dsimp only
    case struct fields =>
      refine calm_bind ?_ fun places => ?_
      · rw [Array.mapM_eq_mapM_toList]
        refine calm_bind (calm_mapM _ _ fun f => calm_bind (calm_sizeOf _) fun _ => calm_pure _) fun _ => calm_pure _
      · split
        · exact calm_pure _
        · exact (never_stuck _).calm
    case array n e =>
      refine calm_bind (calm_sizeOf _) fun places => ?_
      split
      · exact calm_pure _
      · exact (never_stuck _).calm
    all_goals exact (never_stuck _).calm
theorem calm_exec (o : Oper) (ρ : Operand → Value) (hq : quiet P o.op = true) (hf : fits ρ o.op = true) : Calm P (execOp ρ o) := by
  cases ho : o.op
  all_goals
    rw [ho] at hq hf
    first
      | (simp [quiet] at hq; done)
      | skip
  all_goals unfold execOp; rw [ho]
  case move x => exact calm_pure _
  case assign x => exact calm_pure _
  case pick c a b => exact calm_bind (calm_asBool _) fun _ => calm_pure _
  case nilCheck x =>
    dsimp only
    simp only [fits, Bool.not_eq_true'] at hf
    split
    · exact (never_runtimePanic _).calm
    · exact (never_runtimePanic _).calm
    · exact (never_runtimePanic _).calm
    · rename_i he; rw [he] at hf; cases hf
    · exact calm_pure _
  case binOp op t x y t' => exact calm_value (calm_bind (calm_eqGuard_of hf op t x y) fun _ => calm_binOp_of hf op t)
  case unOp => exact calm_value (calm_unary _ _)
  case convert s d x =>
    simp only [fits] at hf
    simp only [quiet] at hq
    cases hx : ρ x <;> rw [hx] at hf <;> simp only [isIntV, Bool.false_eq_true] at hf
    dsimp only
    rw [hx]
    refine calm_value (calm_convert_int _ _ _ _ ?_)
    split at hq
    · exact ⟨_, by assumption⟩
    · cases hq
  case build => exact calm_value (calm_build _ _)
  case makeInterface => exact calm_value (calm_makeInterface _ _)
  case makeFunc => exact calm_value (calm_pure _)
  case slice => exact calm_value (calm_sliceAt _ _ _ _ _)
  case fieldAddr s x f =>
    simp only [quiet] at hq
    split at hq
    · rename_i fs hs
      split at hq
      · rename_i fd hfd
        split at hq
        · rename_i i hi
          refine calm_value ?_
          unfold Instr.fieldAt
          refine calm_underlying_at hs ?_
          dsimp only
          rw [hfd]
          refine calm_bind (calm_sureAddr _) fun a => calm_bind ?_ fun _ => calm_pure _
          unfold fieldPlace
          refine calm_sizeOf_at hi ?_
          rw [if_neg (by simpa using hq)]
          exact calm_pure _
        · cases hq
      · cases hq
    · cases hq
  case field => exact calm_value (calm_field _ _ _)
  case indexAddr => exact calm_value (calm_indexAt _ _ _)
  case index => exact calm_value (calm_index _ _ _)
  case extract => exact calm_value (calm_extract _ _)
  case call c =>
    obtain ⟨callee, args, ts⟩ := c
    cases callee with
    | builtin b =>
      cases b <;> simp only [quiet, Bool.false_eq_true] at hq
      simp only [fits] at hf
      simp only [resolve, invoke, builtin, pure_bind]
      split at hf
      · exact calm_value (calm_len _ _ _ _ (by assumption) hf)
      · cases hf
    | _ => simp [quiet] at hq

/-! ### The order of a region -/

variable {ops : Array Oper}
theorem straight_out {R : Act → World → Prop} : ¬ LetsOut (Exit.then R (fun _ _ _ => False)) := fun ⟨_, _, h⟩ => h

/-- An operation that runs hands on to some value in some world. -/
theorem wpOp_some {R : Act → World → Prop} {i : Nat} {o : Oper} (hi : ops[i]? = some o) {K : Act → World → Prop} {a : Act} {w : World}
    (h : wpOp P ops (Exit.then R (fun _ _ _ => False)) i K a w) : ∃ v a' w', a'.tmps = (a.put o.dst v).tmps ∧ K a' w' := by
  unfold wpOp at h
  simp only [hi] at h
  split at h
  · rcases h with h | ⟨_, h⟩
    · unfold Oper.wp at h
      generalize hr : (execOp a.eval o).run P w = r at h
      cases r with
      | ok n w' =>
        cases n <;> simp only [Oper.upon] at h <;> first | exact ⟨_, _, _, rfl, h⟩ | exact h.elim | skip
        case defer d => exact ⟨undef, _, _, by cases o.dst <;> rfl, h⟩
        case enter f args =>
          obtain ⟨e, w'', fr, hR, _⟩ := h []
          cases e with
          | returned v => exact ⟨_, _, _, rfl, hR⟩
          | panicked c => exact hR.elim
          | outgrown => exact (straight_out hR).elim
        case row row args =>
          obtain ⟨v, w'', hR, _⟩ := h default []
          exact ⟨_, _, _, rfl, hR⟩
      | halt x w' => cases x <;> simp only [Oper.upon] at h <;> exact h.elim
    · exact (straight_out h).elim
  · exact ⟨_, _, _, rfl, h⟩
theorem put_other (a : Act) (d : Option Tmp) (v : Value) (t : Tmp) (h : d ≠ some t) : (a.put d v).tmps[t]? = a.tmps[t]? := by
  cases d with
  | none => rfl
  | some d =>
    have hne : d ≠ t := fun e => h (by rw [e])
    simp [Act.put, Array.getElem?_setIfInBounds_ne hne]
/-- What a row of operations leaves, where they do not write, is as it was. -/
theorem final {R : Act → World → Prop} (l : List Nat) : ∀ (a : Act) (w : World), wpOps P ops (Exit.then R (fun _ _ _ => False)) l a w →
    ∃ af wf, R af wf ∧ ∀ t, (∀ k ∈ l, ∀ o, ops[k]? = some o → o.dst ≠ some t) → af.tmps[t]? = a.tmps[t]? := by
  induction l with
  | nil => exact fun a w h => ⟨a, w, h, fun _ _ => rfl⟩
  | cons i l ih =>
    intro a w h
    rw [wpOps_cons] at h
    cases hi : ops[i]? with
    | none =>
      have h' : wpOps P ops (Exit.then R (fun _ _ _ => False)) l a w := by simpa [wpOp, hi] using h
      obtain ⟨af, wf, h1, h2⟩ := ih _ _ h'
      exact ⟨af, wf, h1, fun t ht => h2 t fun k hk => ht k (List.mem_cons_of_mem _ hk)⟩
    | some o =>
      obtain ⟨v, a', w', he, hK⟩ := wpOp_some hi h
      obtain ⟨af, wf, h1, h2⟩ := ih _ _ hK
      refine ⟨af, wf, h1, fun t ht => ?_⟩
      rw [h2 t fun k hk => ht k (List.mem_cons_of_mem _ hk), he]
      exact put_other a _ v t (ht i (List.mem_cons_self ..) o hi)
/-- Two frames hold the same where an operation looks. -/
def Agree (ops : Array Oper) (o : Oper) (a b : Act) : Prop := ∀ t ∈ o.looksAt ops, a.tmps[t]? = b.tmps[t]?
theorem Agree.eval {o : Oper} {a b : Act} (h : Agree ops o a b) : ∀ x ∈ o.op.operands, a.eval x = b.eval x := by
  intro x hx
  cases x with
  | tmp t =>
    have := h t (List.mem_append_left _ (List.mem_filterMap.2 ⟨.tmp t, by simpa using hx, rfl⟩))
    simp only [Act.eval, Array.getD_eq_getD_getElem?, this]
  | _ => rfl
theorem Agree.wanted {o : Oper} {a b : Act} (h : Agree ops o a b) : Region.wanted o (yielded ops a.tmps) = Region.wanted o (yielded ops b.tmps) := by
  unfold Region.wanted
  cases hg : o.guard with
  | none => rfl
  | some gw =>
    obtain ⟨g, want⟩ := gw
    have hy : yielded ops a.tmps g = yielded ops b.tmps g := by
      unfold yielded
      cases ht : (ops[g]?).bind (·.dst) with
      | none => rfl
      | some t =>
        have := h t (by simp [Oper.looksAt, hg, ht])
        simp only [Option.bind_some, this]
    simp only [hy]
theorem fits_congr {ρ ρ' : Operand → Value} (op : Op) (h : ∀ x ∈ op.operands, ρ x = ρ' x) : fits ρ op = fits ρ' op := by
  cases op <;> simp only [fits]
  case binOp o t x y t' => rw [h x (by simp [Op.operands]), h y (by simp [Op.operands])]
  case nilCheck x => rw [h x (by simp [Op.operands])]
  case convert s d x => rw [h x (by simp [Op.operands])]
  case call c =>
    have : c.args.map ρ = c.args.map ρ' := Array.map_congr_left fun x hx => h x (by simp [Op.operands, Call.operands, hx])
    rw [this]
theorem quiet_select {op : Op} (h : quiet P op = true) : ∀ cs b, op ≠ .select cs b := by
  intro cs b e
  rw [e] at h
  cases h
theorem Yields.agree {o : Oper} {u : Value} {a b : Act} (hy : Yields P ops o u a) (h : Agree ops o a b) (hs : ∀ cs c, o.op ≠ .select cs c) : Yields P ops o u b :=
  hy.of_same (execOp_congr o hs fun x hx => (h.eval x hx).symm) h.wanted.symm
/-- All operands of the quiet operations fit. -/
def goodB (P : Program) (ops : Array Oper) (a : Act) : Bool := ops.toList.all fun o => fits a.eval o.op || !quiet P o.op || !Region.wanted o (yielded ops a.tmps)
theorem yields_of {R : Act → World → Prop} {i : Nat} {o : Oper} (hi : ops[i]? = some o) (hq : quiet P o.op = true) {K : Act → World → Prop} {a : Act} {w : World}
    (h : wpOp P ops (Exit.then R (fun _ _ _ => False)) i K a w) (hfin : ∀ u w', K (a.put o.dst u) w' → Region.wanted o (yielded ops a.tmps) = true → fits a.eval o.op = true) :
    ∃ u, Yields P ops o u a ∧ K (a.put o.dst u) w := by
  unfold wpOp at h
  simp only [hi] at h
  split at h
  · rename_i hw
    rcases h with h | ⟨_, h⟩
    · unfold Oper.wp at h
      generalize hr : (execOp a.eval o).run P w = r at h
      cases r with
      | ok n w' =>
        obtain ⟨u, rfl⟩ := value_exec o a.eval hq hr
        simp only [Oper.upon] at h
        obtain ⟨rfl, hall⟩ := calm_exec o a.eval hq (hfin u w' h hw) _ _ _ hr
        exact ⟨u, .inl ⟨hw, hall⟩, h⟩
      | halt x w' => cases x <;> simp only [Oper.upon] at h <;> exact h.elim
    · exact (straight_out h).elim
  · rename_i hw
    exact ⟨undef, .inr ⟨by simpa using hw, rfl⟩, h⟩
theorem yields_inv {R : Exit → Act → World → Prop} {i : Nat} {o : Oper} {u : Value} (hi : ops[i]? = some o) {K : Act → World → Prop} {a : Act} {w : World} (hR : ¬ LetsOut R) (hy : Yields P ops o u a)
    (h : wpOp P ops R i K a w) : K (a.put o.dst u) w := by
  unfold wpOp at h
  simp only [hi] at h
  rcases hy with ⟨hw, hy⟩ | ⟨hw, rfl⟩
  · rw [if_pos hw] at h
    rcases h with h | ⟨_, h⟩
    · unfold Oper.wp at h
      rw [hy w] at h
      exact h
    · exact (hR h).elim
  · rw [if_neg (by rw [hw]; simp)] at h
    exact h
end
end Go.Proofs.YtfbkkhfmboaknaaGreatDoor
