import Derived.Test.YtfbkkhfmboaknaaGreatDoorSerialB
namespace Go.Proofs.YtfbkkhfmboaknaaGreatDoor
open Go

section
variable {P : Program} {ops : Array Oper}

/-- Back over an operation: what a quiet one yields behind it, it yields ahead of it. -/
theorem wpOp_back {R : Act → World → Prop} {i j : Nat} {oi oj : Oper} {u : Value} (hi : ops[i]? = some oi) (hj : ops[j]? = some oj) (hap : oi.apart ops oj = true)
    (hsi : ∀ cs b, oi.op ≠ .select cs b) (hsj : ∀ cs b, oj.op ≠ .select cs b) {K : Act → World → Prop} {a : Act} {w : World} (hy : Yields P ops oi u a)
    (h : wpOp P ops (Exit.then R (fun _ _ _ => False)) j (wpOp P ops (Exit.then R (fun _ _ _ => False)) i K) a w) :
    wpOp P ops (Exit.then R (fun _ _ _ => False)) j K (a.put oi.dst u) w := by
  obtain ⟨h1, h2, h3⟩ := Oper.apart_spec hap
  have keep : ∀ v, Yields P ops oi u (a.put oj.dst v) := fun v => hy.of_same (execOp_put oi hsi a oj.dst v h3) (wanted_put oi a oj.dst v h3)
  have keepD : ∀ d, Yields P ops oi u { a with defers := d :: a.defers } := fun d => hy.of_same rfl rfl
  unfold wpOp at h ⊢
  simp only [hj] at h ⊢
  rw [wanted_put oj a oi.dst u h1]
  split at h
  · rename_i hw
    rw [if_pos hw]
    rcases h with h | ⟨_, h⟩
    case inr => exact (straight_out h).elim
    refine .inl ?_
    unfold Oper.wp at h ⊢
    rw [execOp_put oj hsj a oi.dst u h1]
    generalize (execOp a.eval oj).run P w = r at h ⊢
    cases r with
    | ok n w' =>
      cases n <;> simp only [Oper.upon] at h ⊢
      case value v => rw [Act.put_comm a u v h2]; exact yields_inv hi straight_out (keep v) h
      case skip => rw [Act.put_comm a u undef h2]; exact yields_inv hi straight_out (keep undef) h
      case defer d =>
        rw [Act.put_defers, Act.put_comm _ u undef h2]
        exact yields_inv hi straight_out ((keepD d).of_same (execOp_put oi hsi _ oj.dst undef h3) (wanted_put oi _ oj.dst undef h3)) h
      case enter f args =>
        refine Calls.mono h fun e w'' he => ?_
        cases e with
        | returned v =>
          have he' : wpOp P ops (Exit.then R (fun _ _ _ => False)) i K (a.put oj.dst v) w'' := he
          have hk := yields_inv hi straight_out (keep v) he'
          rw [← Act.put_comm a u v h2] at hk
          exact hk
        | panicked c => exact he
        | outgrown => exact he
      case row row args => exact Rows.mono h fun v w'' he => by rw [Act.put_comm a u v h2]; exact yields_inv hi straight_out (keep v) he
    | halt x w' => cases x <;> simp only [Oper.upon] at h ⊢ <;> exact h
  · rename_i hw
    rw [if_neg hw, Act.put_comm a u undef h2]
    exact yields_inv hi straight_out (keep undef) h

/-- What a frame must hold at the end. -/
def Fin (P : Program) (ops : Array Oper) (R : Act → World → Prop) : Prop := ∀ a w, R a w → goodB P ops a = true
theorem good_at {a : Act} (h : goodB P ops a = true) {i : Nat} {o : Oper} (hi : ops[i]? = some o) (hq : quiet P o.op = true) (hw : Region.wanted o (yielded ops a.tmps) = true) : fits a.eval o.op = true := by
  unfold goodB at h
  rw [List.all_eq_true] at h
  have := h o (Array.mem_toList_iff.2 (Array.mem_of_getElem? hi))
  simpa [hq, hw] using this
/-- No operation of the row writes where o looks. -/
def Spares (ops : Array Oper) (o : Oper) (l : List Nat) : Prop := ∀ k ∈ l, ∀ ok, ops[k]? = some ok → ∀ t ∈ o.looksAt ops, ok.dst ≠ some t
theorem fits_of_final {R : Act → World → Prop} (hF : Fin P ops R) {i : Nat} {o : Oper} (hi : ops[i]? = some o) (hq : quiet P o.op = true) (hself : ∀ t ∈ o.looksAt ops, o.dst ≠ some t) {l : List Nat} (hl : Spares ops o l)
    {a : Act} (u : Value) {w' : World} (h : wpOps P ops (Exit.then R (fun _ _ _ => False)) l (a.put o.dst u) w') (hw : Region.wanted o (yielded ops a.tmps) = true) : fits a.eval o.op = true := by
  obtain ⟨af, wf, h1, h2⟩ := final l _ _ h
  have hag : Agree ops o af a := fun t ht => by
    rw [h2 t fun k hk ok hok => hl k hk ok hok t ht]
    exact put_other a _ u t (hself t ht)
  rw [← fits_congr o.op hag.eval]
  exact good_at (hF _ _ h1) hi hq (by rw [hag.wanted]; exact hw)

/-- An operation whose operands always fit. -/
def easy (op : Op) : Bool := match op with | .move _ => true | _ => false
theorem easy_fits {op : Op} (h : easy op = true) (ρ : Operand → Value) : fits ρ op = true := by
  unfold easy at h
  split at h
  · rfl
  · cases h
/-- An operation that may change places. -/
def Moves (P : Program) (ops : Array Oper) (o : Oper) (l : List Nat) : Prop := quiet P o.op = true ∧ (easy o.op = true ∨ ((∀ t ∈ o.looksAt ops, o.dst ≠ some t) ∧ Spares ops o l))
theorem Moves.fits {o : Oper} {l l' : List Nat} (h : Moves P ops o l) {R : Act → World → Prop} (hF : Fin P ops R) {i : Nat} (hi : ops[i]? = some o) (hl : Spares ops o l → Spares ops o l') {a : Act} (u : Value) {w' : World}
    (hh : wpOps P ops (Exit.then R (fun _ _ _ => False)) l' (a.put o.dst u) w') (hw : Region.wanted o (yielded ops a.tmps) = true) : fits a.eval o.op = true := by
  obtain ⟨hq, he | ⟨hself, hsp⟩⟩ := h
  · exact easy_fits he _
  · exact fits_of_final hF hi hq hself (hl hsp) u hh hw
theorem swap {R : Act → World → Prop} (hF : Fin P ops R) {i j : Nat} {oi oj : Oper} (hi : ops[i]? = some oi) (hj : ops[j]? = some oj) (hap : oi.apart ops oj = true) (hap' : oj.apart ops oi = true)
    (hsi : ∀ cs b, oi.op ≠ .select cs b) (hsj : ∀ cs b, oj.op ≠ .select cs b) {rest : List Nat}
    (hq : Moves P ops oi rest ∨ Moves P ops oj rest)
    {a : Act} {w : World} (h : wpOps P ops (Exit.then R (fun _ _ _ => False)) (j :: i :: rest) a w) : wpOps P ops (Exit.then R (fun _ _ _ => False)) (i :: j :: rest) a w := by
  obtain ⟨h1, h2, h3⟩ := Oper.apart_spec hap
  rw [wpOps_cons] at h ⊢
  rcases hq with hm | hm
  · -- the quiet one goes ahead
    have h' : wpOp P ops (Exit.then R (fun _ _ _ => False)) j (wpOp P ops (Exit.then R (fun _ _ _ => False)) i (wpOps P ops (Exit.then R (fun _ _ _ => False)) rest)) a w :=
      wpOp_mono (fun a w h => by rwa [wpOps_cons] at h) h
    obtain ⟨v, a', w', he, hK⟩ := wpOp_some hj h'
    have hq := hm.1
    obtain ⟨u, hy, _⟩ := yields_of hi hq hK fun u w' hu hw => hm.fits hF hi id u hu hw
    have hag : Agree ops oi a' a := fun t ht => by
      rw [he]
      exact put_other a _ v t fun e => h3 t e ht
    have hy' := Yields.agree hy hag (quiet_select hq)
    refine hy'.wpOp hi ?_
    rw [wpOps_cons]
    exact wpOp_back hi hj hap hsi hsj hy' h'
  · -- the quiet one goes behind
    have hq := hm.1
    obtain ⟨u, hy, hK⟩ := yields_of hj hq h fun u w' hu hw => hm.fits hF hj (l' := i :: rest) (fun hsp k hk ok hok t ht => by
      rcases List.mem_cons.1 hk with rfl | hk
      · rw [hi] at hok
        obtain rfl := Option.some.inj hok
        exact fun e => h1 t e ht
      · exact hsp k hk ok hok t ht) u hu hw
    rw [wpOps_cons] at hK
    have := wpOp_put (oi := oj) (oj := oi) hi hap' hsj hsi (fun c a w h => h) hy hK
    exact wpOp_mono (fun a' w' h => by rw [wpOps_cons]; exact h.1.wpOp hj h.2) this

/-! ### Two loads, in either order -/
/-- What leaves the world as it was. -/
def Stay (P : Program) {α : Type} (s : Sem α) : Prop := ∀ w v w1, s.run P w = .ok v w1 → w1 = w
theorem Calm.stay {α : Type} {s : Sem α} (h : Calm P s) : Stay P s := fun w v w1 e => (h w v w1 e).1
theorem stay_bind {α β : Type} {s : Sem α} {f : α → Sem β} (hs : Stay P s) (hf : ∀ a, Stay P (f a)) : Stay P (s >>= f) := fun w v w1 e => by
  rw [Sem.run_bind] at e
  obtain ⟨a, w2, h1, h2⟩ := andThen_ok_inv e
  obtain rfl := hs _ _ _ h1
  exact hf a _ _ _ h2
theorem stay_load (a : Addr) : Stay P (load a) := fun w v w1 e => by
  unfold load at e
  simp only [Sem.run] at e
  split at e
  · cases e
    rfl
  · split at e
    · cases e
      rfl
    · cases e
theorem stay_loadCellsFrom (a : Addr) : ∀ (n i : Nat) (acc : Array Value), Stay P (loadCellsFrom a i n acc) := by
  intro n
  induction n with
  | zero => exact fun i acc => (calm_pure _).stay
  | succ n ih => exact fun i acc => stay_bind (stay_load _) fun v => ih _ _
theorem stay_loadVar (t : TypeId) (a : Addr) : Stay P (loadVar t a) := by
  unfold loadVar
  refine stay_bind (calm_isAgg t).stay fun b => ?_
  cases b
  · exact stay_load a
  · exact stay_bind (calm_sizeOf t).stay fun n => stay_bind (stay_loadCellsFrom a n 0 #[]) fun v => (calm_pure _).stay
theorem stay_loadAt (t : TypeId) (v : Value) : Stay P (Instr.loadAt t v) := stay_bind (calm_sureAddr v).stay fun a => stay_loadVar t a
def isLoad (op : Op) : Bool := match op with | .load .. => true | _ => false
theorem isLoad_exec {o : Oper} (h : isLoad o.op = true) {ρ : Operand → Value} {w w1 : World} {n : Next} (e : (execOp ρ o).run P w = .ok n w1) : w1 = w ∧ ∃ v, n = .value v := by
  unfold isLoad at h
  split at h
  · rename_i t x ho
    have e' : (do pure (Next.value (← Instr.loadAt t (ρ x))) : Sem Next).run P w = .ok n w1 := by
      unfold execOp at e
      simpa only [ho] using e
    refine ⟨stay_bind (stay_loadAt t (ρ x)) (fun v => (calm_pure _).stay) _ _ _ e', value_of e'⟩
  · cases h
/-- What an operation yields in this world, which it leaves as it was. -/
def YAt (P : Program) (ops : Array Oper) (o : Oper) (v : Value) (a : Act) (w : World) : Prop :=
  (Region.wanted o (yielded ops a.tmps) = true ∧ (execOp a.eval o).run P w = .ok (.value v) w) ∨ (Region.wanted o (yielded ops a.tmps) = false ∧ v = undef)
theorem yat_of {R : Act → World → Prop} {i : Nat} {o : Oper} (hi : ops[i]? = some o) (hl : isLoad o.op = true) {K : Act → World → Prop} {a : Act} {w : World}
    (h : wpOp P ops (Exit.then R (fun _ _ _ => False)) i K a w) : ∃ v, YAt P ops o v a w ∧ K (a.put o.dst v) w := by
  unfold wpOp at h
  simp only [hi] at h
  split at h
  · rename_i hw
    rcases h with h | ⟨_, h⟩
    · unfold Oper.wp at h
      generalize hr : (execOp a.eval o).run P w = r at h
      cases r with
      | ok n w' =>
        obtain ⟨rfl, v, rfl⟩ := isLoad_exec hl hr
        simp only [Oper.upon] at h
        exact ⟨v, .inl ⟨hw, hr⟩, h⟩
      | halt x w' => cases x <;> simp only [Oper.upon] at h <;> exact h.elim
    · exact (straight_out h).elim
  · rename_i hw
    exact ⟨undef, .inr ⟨by simpa using hw, rfl⟩, h⟩
theorem YAt.wpOp {i : Nat} {o : Oper} {v : Value} {a : Act} {w : World} {Q : Exit → Act → World → Prop} (hi : ops[i]? = some o) (hy : YAt P ops o v a w) {K : Act → World → Prop} (h : K (a.put o.dst v) w) : wpOp P ops Q i K a w := by
  unfold Go.wpOp
  simp only [hi]
  rcases hy with ⟨hw, hv⟩ | ⟨hw, rfl⟩
  · rw [if_pos hw]
    refine .inl ?_
    unfold Oper.wp
    rw [hv]
    exact h
  · rw [if_neg (by rw [hw]; simp)]
    exact h
theorem YAt.of_same {o : Oper} {v : Value} {a a' : Act} {w : World} (hy : YAt P ops o v a w) (he : execOp a'.eval o = execOp a.eval o)
    (hw : Region.wanted o (yielded ops a'.tmps) = Region.wanted o (yielded ops a.tmps)) : YAt P ops o v a' w := by
  unfold YAt at *
  rw [he, hw]
  exact hy
theorem swap_loads {R : Act → World → Prop} {i j : Nat} {oi oj : Oper} (hi : ops[i]? = some oi) (hj : ops[j]? = some oj) (hap : oi.apart ops oj = true)
    (hsi : ∀ cs b, oi.op ≠ .select cs b) (hsj : ∀ cs b, oj.op ≠ .select cs b) {rest : List Nat} (hli : isLoad oi.op = true) (hlj : isLoad oj.op = true)
    {a : Act} {w : World} (h : wpOps P ops (Exit.then R (fun _ _ _ => False)) (j :: i :: rest) a w) : wpOps P ops (Exit.then R (fun _ _ _ => False)) (i :: j :: rest) a w := by
  obtain ⟨h1, h2, h3⟩ := Oper.apart_spec hap
  rw [wpOps_cons] at h ⊢
  obtain ⟨vj, hyj, hK⟩ := yat_of hj hlj h
  rw [wpOps_cons] at hK
  obtain ⟨vi, hyi, hK2⟩ := yat_of hi hli hK
  refine YAt.wpOp hi (hyi.of_same (execOp_put oi hsi a oj.dst vj h3).symm (wanted_put oi a oj.dst vj h3).symm) ?_
  rw [wpOps_cons]
  refine YAt.wpOp hj (hyj.of_same (execOp_put oj hsj a oi.dst vi h1) (wanted_put oj a oi.dst vi h1)) ?_
  rw [Act.put_comm a vi vj h2]
  exact hK2

/-! ### The look at a region's rows -/
def orMask (b : Array Nat) (l : List Edge) (s : Nat) : Nat := l.foldl (fun s e => if Region.binds .any e then s ||| 2 ^ e.on ||| b.getD e.on 0 else s) s
theorem orMask_bit (b : Array Nat) (l : List Edge) : ∀ (s p : Nat), (orMask b l s).testBit p = true → s.testBit p = true ∨ ∃ e ∈ l, Region.binds .any e = true ∧ (e.on = p ∨ (b.getD e.on 0).testBit p = true) := by
  induction l with
  | nil => exact fun s p h => .inl h
  | cons e l ih =>
    intro s p h
    rcases ih _ p h with h | ⟨e', he', hb, hp⟩
    · dsimp only at h
      split at h
      · rename_i hb
        rw [Nat.testBit_or, Nat.testBit_or, Nat.testBit_two_pow] at h
        simp only [Bool.or_eq_true, decide_eq_true_eq] at h
        rcases h with (h | h) | h
        · exact .inl h
        · exact .inr ⟨e, List.mem_cons_self .., hb, .inl h⟩
        · exact .inr ⟨e, List.mem_cons_self .., hb, .inr h⟩
      · exact .inl h
    · exact .inr ⟨e', List.mem_cons_of_mem _ he', hb, hp⟩
def noSelect (op : Op) : Bool := match op with | .select .. => false | _ => true
/-- o writes nowhere where x looks. -/
def sparesB (ops : Array Oper) (x o : Oper) : Bool := match o.dst with | some d => !(x.looksAt ops).contains d | none => true
def serialB (P : Program) (ops : Array Oper) (b : Array Nat) : Bool :=
  (List.range ops.size).all fun i => match ops[i]? with
    | none => true
    | some oi =>
      (oi.after.toList.all fun e => !Region.binds .any e || decide (e.on < i)) && (b.getD i 0 == orMask b oi.after.toList 0) && noSelect oi.op &&
      (!quiet P oi.op || easy oi.op || (List.range ops.size).all fun k => decide (k < i) || match ops[k]? with | some ok => sparesB ops oi ok | none => true) &&
      ((List.range i).all fun p => (b.getD i 0).testBit p || match ops[p]? with | some op => op.apart ops oi && oi.apart ops op && (quiet P op.op || quiet P oi.op || (isLoad op.op && isLoad oi.op)) | none => true)
structure Serial (P : Program) (ops : Array Oper) (b : Array Nat) : Prop where
  edges : ∀ (i : Nat) (oi : Oper), ops[i]? = some oi → ∀ e ∈ oi.after, Region.binds .any e = true → e.on < i
  mask : ∀ (i : Nat) (oi : Oper), ops[i]? = some oi → b.getD i 0 = orMask b oi.after.toList 0
  sel : ∀ (i : Nat) (oi : Oper), ops[i]? = some oi → ∀ cs c, oi.op ≠ .select cs c
  spares : ∀ (i : Nat) (oi : Oper), ops[i]? = some oi → quiet P oi.op = true → easy oi.op = false → ∀ (k : Nat) (ok : Oper), i ≤ k → ops[k]? = some ok → ∀ t ∈ oi.looksAt ops, ok.dst ≠ some t
  pair : ∀ (i : Nat) (oi : Oper), ops[i]? = some oi → ∀ (p : Nat) (op : Oper), p < i → ops[p]? = some op → (b.getD i 0).testBit p = true ∨ (op.apart ops oi = true ∧ oi.apart ops op = true ∧ ((quiet P op.op = true ∨ quiet P oi.op = true) ∨ (isLoad op.op = true ∧ isLoad oi.op = true)))
theorem sparesB_spec {x o : Oper} (h : sparesB ops x o = true) : ∀ t ∈ x.looksAt ops, o.dst ≠ some t := by
  intro t ht e
  unfold sparesB at h
  rw [e] at h
  simp at h
  exact h ht
theorem serial_of {b : Array Nat} (h : serialB P ops b = true) : Serial P ops b := by
  have hall : ∀ (i : Nat) (oi : Oper), ops[i]? = some oi → ((((oi.after.toList.all fun e => !Region.binds .any e || decide (e.on < i)) = true ∧ (b.getD i 0 == orMask b oi.after.toList 0) = true) ∧ noSelect oi.op = true) ∧
      (!quiet P oi.op || easy oi.op || (List.range ops.size).all fun k => decide (k < i) || match ops[k]? with | some ok => sparesB ops oi ok | none => true) = true) ∧
      ((List.range i).all fun p => (b.getD i 0).testBit p || match ops[p]? with | some op => op.apart ops oi && oi.apart ops op && (quiet P op.op || quiet P oi.op || (isLoad op.op && isLoad oi.op)) | none => true) = true := fun i oi hi => by
    have hlt : i < ops.size := (Array.getElem?_eq_some_iff.1 hi).1
    have := List.all_eq_true.1 h i (List.mem_range.2 hlt)
    simp only [hi, Bool.and_eq_true] at this
    exact this
  refine ⟨fun i oi hi e he hb => ?_, fun i oi hi => ?_, fun i oi hi cs c e => ?_, fun i oi hi hq hne k ok hk hok => ?_, fun i oi hi p op hp hop => ?_⟩
  · have := List.all_eq_true.1 (hall i oi hi).1.1.1.1 e (Array.mem_toList_iff.2 he)
    simpa [hb] using this
  · simpa using (hall i oi hi).1.1.1.2
  · have := (hall i oi hi).1.1.2
    rw [e] at this
    cases this
  · have h1 := (hall i oi hi).1.2
    rw [hq, hne] at h1
    have hlt : k < ops.size := (Array.getElem?_eq_some_iff.1 hok).1
    have h2 := List.all_eq_true.1 (show (List.range ops.size).all (fun k => decide (k < i) || match ops[k]? with | some ok => sparesB ops oi ok | none => true) = true from h1) k (List.mem_range.2 hlt)
    rw [hok] at h2
    simp only [Bool.or_eq_true, decide_eq_true_eq] at h2
    exact sparesB_spec (h2.resolve_left (by omega))
  · have := List.all_eq_true.1 (hall i oi hi).2 p (List.mem_range.2 hp)
    simp only [hop, Bool.or_eq_true, Bool.and_eq_true] at this
    rcases this with h | ⟨⟨h1, h2⟩, h3⟩
    · exact .inl h
    · exact .inr ⟨h1, h2, h3⟩

/-! ### From the text's order to every order -/
/-- The rows that are still to come. -/
def unl (n : Nat) (listed : Array Bool) : List Nat := (List.range n).filter fun k => !listed.getD k true
theorem sorted_split {l : List Nat} (hs : l.Pairwise (· < ·)) {i : Nat} (hi : i ∈ l) : l = l.filter (fun k => decide (k < i)) ++ i :: l.filter (fun k => decide (i < k)) := by
  induction l with
  | nil => cases hi
  | cons x l ih =>
    obtain ⟨h1, h2⟩ := List.pairwise_cons.1 hs
    rcases List.mem_cons.1 hi with rfl | hi
    · have e1 : l.filter (fun k => decide (k < i)) = [] := List.filter_eq_nil_iff.2 fun k hk => by have := h1 k hk; simp; omega
      have e2 : l.filter (fun k => decide (i < k)) = l := List.filter_eq_self.2 fun k hk => by simpa using h1 k hk
      simp [e1, e2]
    · have hx := h1 i hi
      rw [List.filter_cons, List.filter_cons, if_pos (by simpa using hx), if_neg (by simp; omega), List.cons_append, ← ih h2 hi]
theorem sorted_rest {l : List Nat} (hs : l.Pairwise (· < ·)) (i : Nat) : l.filter (fun k => decide (k < i)) ++ l.filter (fun k => decide (i < k)) = l.filter (fun k => decide (k ≠ i)) := by
  induction l with
  | nil => rfl
  | cons x l ih =>
    obtain ⟨h1, h2⟩ := List.pairwise_cons.1 hs
    have ih := ih h2
    rcases Nat.lt_trichotomy x i with h | h | h
    · rw [List.filter_cons, List.filter_cons, List.filter_cons, if_pos (by simpa using h), if_neg (by simp; omega), if_pos (by simp; omega), List.cons_append, ih]
    · subst h
      rw [List.filter_cons, List.filter_cons, List.filter_cons, if_neg (by simp), if_neg (by simp), if_neg (by simp), ih]
    · have e1 : l.filter (fun k => decide (k < i)) = [] := List.filter_eq_nil_iff.2 fun k hk => by have := h1 k hk; simp; omega
      rw [e1, List.nil_append] at ih
      rw [List.filter_cons, List.filter_cons, List.filter_cons, if_neg (by simp; omega), if_pos (by simpa using h), if_pos (by simp; omega), e1, List.nil_append, ih]
theorem unl_sorted (n : Nat) (listed : Array Bool) : (unl n listed).Pairwise (· < ·) := (List.pairwise_lt_range).filter _
theorem getD_set (listed : Array Bool) (i k : Nat) (d : Bool) : (listed.setIfInBounds i true).getD k d = if i = k ∧ i < listed.size then true else listed.getD k d := by
  simp only [Array.getD_eq_getD_getElem?, Array.getElem?_setIfInBounds]
  by_cases h : i = k
  · subst h
    by_cases h2 : i < listed.size
    · simp [h2]
    · simp [h2]
  · simp [h]
theorem unl_set (n : Nat) (listed : Array Bool) (i : Nat) (hi : i < listed.size) : unl n (listed.setIfInBounds i true) = (unl n listed).filter fun k => decide (k ≠ i) := by
  unfold unl
  rw [List.filter_filter]
  apply List.filter_congr
  intro k _
  rw [getD_set]
  by_cases h : i = k
  · subst h; simp [hi]
  · simp [h, Ne.symm h]
/-- What an operation stands behind is listed, of each that is. -/
def Shut (ops : Array Oper) (listed : Array Bool) : Prop := ∀ i oi, ops[i]? = some oi → listed.getD i false = true → ∀ e ∈ oi.after, Region.binds .any e = true → listed.getD e.on false = true
theorem listed_of_mask {b : Array Nat} (hS : Serial P ops b) {listed : Array Bool} (hc : Shut ops listed) : ∀ (i : Nat) (oi : Oper), ops[i]? = some oi → (∀ e ∈ oi.after, Region.binds .any e = true → listed.getD e.on false = true) →
    ∀ p, (b.getD i 0).testBit p = true → listed.getD p false = true := by
  intro i
  induction i using Nat.strongRecOn with
  | _ i ih =>
    intro oi hi hall p hp
    rw [hS.mask i oi hi] at hp
    rcases orMask_bit b _ 0 p hp with h | ⟨e, he, hb, h⟩
    · simp at h
    · have he' := Array.mem_toList_iff.1 he
      have hl := hall e he' hb
      rcases h with rfl | h
      · exact hl
      · have hlt := hS.edges i oi hi e he' hb
        have hsz : i < ops.size := (Array.getElem?_eq_some_iff.1 hi).1
        have hoe : ops[e.on]? = some ops[e.on] := Array.getElem?_eq_getElem (by omega)
        exact ih e.on hlt _ hoe (hc e.on _ hoe hl) p h
theorem front {b : Array Nat} (hS : Serial P ops b) {R : Act → World → Prop} (hF : Fin P ops R) {i : Nat} {oi : Oper} (hi : ops[i]? = some oi) (post : List Nat) (hpost : ∀ k ∈ post, i < k) :
    ∀ (pre : List Nat), (pre.Pairwise (· < ·)) → (∀ p ∈ pre, p < i ∧ p < ops.size ∧ (b.getD i 0).testBit p = false) → ∀ (a : Act) (w : World),
      wpOps P ops (Exit.then R (fun _ _ _ => False)) (pre ++ i :: post) a w → wpOps P ops (Exit.then R (fun _ _ _ => False)) (i :: (pre ++ post)) a w := by
  intro pre
  induction pre with
  | nil => exact fun _ _ a w h => h
  | cons p pre ih =>
    intro hsorted hpre a w h
    obtain ⟨hs1, hs2⟩ := List.pairwise_cons.1 hsorted
    obtain ⟨hpi, hpn, hpb⟩ := hpre p (List.mem_cons_self ..)
    have hop : ops[p]? = some ops[p] := Array.getElem?_eq_getElem hpn
    have h1 : wpOps P ops (Exit.then R (fun _ _ _ => False)) (p :: i :: (pre ++ post)) a w := by
      rw [List.cons_append, wpOps_cons] at h
      rw [wpOps_cons]
      exact wpOp_mono (fun a w h => ih hs2 (fun q hq => hpre q (List.mem_cons_of_mem _ hq)) a w h) h
    rcases hS.pair i oi hi p _ hpi hop with h2 | ⟨hap, hap', hq⟩
    · rw [hpb] at h2; cases h2
    · rcases hq with hq | ⟨hq1, hq2⟩
      case inr => exact swap_loads hi hop hap' (hS.sel i oi hi) (hS.sel p _ hop) hq2 hq1 h1
      refine swap hF hi hop hap' hap (hS.sel i oi hi) (hS.sel p _ hop) ?_ h1
      rcases hq with hq | hq
      · refine .inr ⟨hq, ?_⟩
        rcases Bool.eq_false_or_eq_true (easy ops[p].op) with he | he
        · exact .inl he
        refine .inr ⟨hS.spares p _ hop hq he p _ (Nat.le_refl _) hop, fun k hk ok hok => hS.spares p _ hop hq he k ok ?_ hok⟩
        rcases List.mem_append.1 hk with hk | hk
        · exact Nat.le_of_lt (hs1 k hk)
        · have := hpost k hk; omega
      · refine .inl ⟨hq, ?_⟩
        rcases Bool.eq_false_or_eq_true (easy oi.op) with he | he
        · exact .inl he
        refine .inr ⟨hS.spares i oi hi hq he i oi (Nat.le_refl _) hi, fun k hk ok hok t ht e => ?_⟩
        rcases List.mem_append.1 hk with hk | hk
        · obtain ⟨hki, hkn, hkb⟩ := hpre k (List.mem_cons_of_mem _ hk)
          rcases hS.pair i oi hi k ok hki hok with h3 | ⟨h3, _, _⟩
          · rw [hkb] at h3; cases h3
          · exact (Oper.apart_spec h3).1 t e ht
        · exact hS.spares i oi hi hq he k ok (Nat.le_of_lt (hpost k hk)) hok t ht e

theorem any_of_text {b : Array Nat} (hS : Serial P ops b) {R : Act → World → Prop} (hF : Fin P ops R) : ∀ (fuel : Nat) (listed : Array Bool), listed.size = ops.size → Shut ops listed → (unl ops.size listed).length ≤ fuel →
    ∀ (a : Act) (w : World), wpOps P ops (Exit.then R (fun _ _ _ => False)) (unl ops.size listed) a w → wpAny P .any ops (Exit.then R (fun _ _ _ => False)) fuel listed a w := by
  have hmem : ∀ (listed : Array Bool) (i : Nat), i ∈ unl ops.size listed ↔ i < ops.size ∧ listed.getD i true = false := fun listed i => by
    unfold unl
    rw [List.mem_filter, List.mem_range]
    simp
  -- where something is still to come, something may come up
  have hnone : ∀ (listed : Array Bool), listed.size = ops.size → Region.ready .any ops listed = [] → unl ops.size listed = [] := fun listed hsz hr => by
    rcases hu : unl ops.size listed with _ | ⟨m, l⟩
    · rfl
    · exfalso
      have hm : m ∈ unl ops.size listed := by rw [hu]; exact List.mem_cons_self ..
      have hmin : ∀ k, k < m → k < ops.size → listed.getD k false = true := fun k hk hkn => by
        have hso := unl_sorted ops.size listed
        rw [hu] at hso
        have hnot : k ∉ unl ops.size listed := fun hin => by
          rw [hu] at hin
          rcases List.mem_cons.1 hin with rfl | hin
          · omega
          · have := (List.pairwise_cons.1 hso).1 k hin; omega
        have : ¬ (k < ops.size ∧ listed.getD k true = false) := fun h => hnot ((hmem listed k).2 h)
        have hkl : k < listed.size := by omega
        have h2 : listed.getD k true = true := by
          cases h : listed.getD k true
          · exact absurd ⟨hkn, h⟩ this
          · rfl
        simpa [Array.getD, hkl] using h2
      obtain ⟨hmn, hml⟩ := (hmem listed m).1 hm
      have hom : ops[m]? = some ops[m] := Array.getElem?_eq_getElem hmn
      have : m ∈ Region.ready .any ops listed := mem_ready.2 ⟨hml, _, hom, fun e he hb => by
        have hlt := hS.edges m _ hom e he hb
        exact hmin e.on hlt (by omega)⟩
      rw [hr] at this
      cases this
  intro fuel
  induction fuel with
  | zero =>
    intro listed hsz hc hf a w h
    have hu : unl ops.size listed = [] := List.eq_nil_of_length_eq_zero (by omega)
    rw [hu] at h
    refine ⟨?_, h⟩
    rcases hr : Region.ready .any ops listed with _ | ⟨i, l⟩
    · rfl
    · have hi : i ∈ Region.ready .any ops listed := by rw [hr]; exact List.mem_cons_self ..
      obtain ⟨h0, o, ho, _⟩ := mem_ready.1 hi
      have := (hmem listed i).2 ⟨(Array.getElem?_eq_some_iff.1 ho).1, h0⟩
      rw [hu] at this
      cases this
  | succ fuel ih =>
    intro listed hsz hc hf a w h
    refine ⟨fun hr => by rw [hnone listed hsz hr] at h; exact h, fun i hi => ?_⟩
    obtain ⟨h0, oi, ho, hall⟩ := mem_ready.1 hi
    have hin : i < ops.size := (Array.getElem?_eq_some_iff.1 ho).1
    have hiu := (hmem listed i).2 ⟨hin, h0⟩
    have hso := unl_sorted ops.size listed
    rw [sorted_split hso hiu] at h
    have h1 := front hS hF ho ((unl ops.size listed).filter fun k => decide (i < k)) (fun k hk => by simpa using (List.mem_filter.1 hk).2) ((unl ops.size listed).filter fun k => decide (k < i)) (hso.filter _) (fun p hp => by
      obtain ⟨hp1, hp2⟩ := List.mem_filter.1 hp
      obtain ⟨hpn, hpl⟩ := (hmem listed p).1 hp1
      refine ⟨by simpa using hp2, hpn, ?_⟩
      cases hb : (b.getD i 0).testBit p
      · rfl
      · have := listed_of_mask hS hc i oi ho hall p hb
        have hpl' : p < listed.size := by omega
        simp only [Array.getD, hpl', dif_pos] at this hpl
        rw [this] at hpl
        cases hpl) a w h
    rw [wpOps_cons, sorted_rest hso, ← unl_set ops.size listed i (by omega)] at h1
    refine wpOp_mono (fun a' w' h' => ih (listed.setIfInBounds i true) (by simpa using hsz) ?_ ?_ a' w' h') h1
    · intro k ok hk hl e he hb
      rw [getD_set] at hl ⊢
      split
      · rfl
      · split at hl
        · rename_i hik
          obtain ⟨rfl, _⟩ := hik
          rw [ho] at hk
          obtain rfl := Option.some.inj hk
          exact hall e he hb
        · exact hc k ok hk hl e he hb
    · rw [unl_set ops.size listed i (by omega), ← sorted_rest hso i]
      have hlen := congrArg List.length (sorted_split hso hiu)
      simp only [List.length_append, List.length_cons] at hlen ⊢
      omega

/-- A REGION THAT DRAWS ITS ORDER, WALKED IN THE ORDER OF THE TEXT. -/
theorem wp_serial {id : Nat} {l : List Oper} {Q : Exit → Act → World → Prop} {a : Act} {w : World} (hm : P.follows .mixedOrders = true) (b : Array Nat) (hs : serialB P l.toArray b = true)
    (h : wpList P l.toArray (Exit.then (fun a w => goodB P l.toArray a = true ∧ Q .normal a w) (fun _ _ _ => False)) l a w.drew) : (Code.region id l.toArray true).wp P Q a w := by
  have hS := serial_of hs
  have hl : wpOps P l.toArray (Exit.then (fun a w => goodB P l.toArray a = true ∧ Q .normal a w) (fun _ _ _ => False)) (unl l.toArray.size (Array.replicate l.toArray.size false)) a w.drew := by
    have e : unl l.toArray.size (Array.replicate l.toArray.size false) = List.range' 0 l.length := by
      unfold unl
      rw [List.filter_eq_self.2 fun k hk => by have := List.mem_range.1 hk; simp [Array.getD]; simpa using this, List.range_eq_range']
      simp
    rw [e, wpOps_eq_wpList l 0 (by simp)]
    exact h
  have := wp_region_any (id := id) (Q := Exit.then (fun a w => goodB P l.toArray a = true ∧ Q .normal a w) (fun _ _ _ => False)) hm
    (any_of_text hS (fun a w h => h.1) l.toArray.size (Array.replicate l.toArray.size false) (by simp) (fun i oi hi hl => by
      have : i < l.toArray.size := (Array.getElem?_eq_some_iff.1 hi).1
      simp [Array.getD] at hl) (by
        refine Nat.le_trans (List.length_filter_le _ _) ?_
        simp) a w.drew hl)
  refine wp_mono this fun e a w q => ?_
  cases e with
  | normal => exact q.2
  | _ => exact q.elim
/-- What each row stands behind, as bits. -/
def maskOf (ops : Array Oper) : Array Nat := ops.foldl (fun acc o => acc.push (orMask acc o.after.toList 0)) #[]
/-- The same, what the region must hand on behind a name. -/
theorem wp_text {id : Nat} {l : List Oper} {Q : Exit → Act → World → Prop} {a : Act} {w : World} (hm : P.follows .mixedOrders = true) (hs : serialB P l.toArray (maskOf l.toArray) = true)
    (h : ∀ R : Act → World → Prop, (∀ a w, goodB P l.toArray a = true ∧ Q .normal a w → R a w) → wpList P l.toArray (Exit.then R (fun _ _ _ => False)) l a w.drew) : (Code.region id l.toArray true).wp P Q a w :=
  wp_serial hm _ hs (h _ fun _ _ h => h)
end
end Go.Proofs.YtfbkkhfmboaknaaGreatDoor
