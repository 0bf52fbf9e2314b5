/-
  A region that draws its order of evaluation, but whose operations are in one forced order but for those that look at no memory: it may be walked in the order of the text.
-/
import Derived.WalkKit
import Derived.Orders
import Derived.KernelRfl
namespace Go.Proofs.YtfbkkhfmboaknaaGreatDoor
open Go

section calm
variable {α β : Type} {P : Program}
/-- What yields its value in whatever world, if it does in one. -/
def Calm (P : Program) (s : Sem α) : Prop := ∀ w v w1, s.run P w = .ok v w1 → w1 = w ∧ ∀ w', s.run P w' = .ok v w'
/-- What never yields. -/
def Never (P : Program) (s : Sem α) : Prop := ∀ w v w1, s.run P w ≠ .ok v w1
theorem Never.calm {s : Sem α} (h : Never P s) : Calm P s := fun w v w1 e => absurd e (h w v w1)
theorem calm_pure (a : α) : Calm P (pure a : Sem α) := fun w v w1 e => by
  simp only [Sem.run_pure, Result.ok.injEq] at e
  obtain ⟨rfl, rfl⟩ := e
  exact ⟨rfl, fun _ => rfl⟩
theorem never_halt (h : Halt) : Never P (.halt h : Sem α) := fun w v w1 e => by simp [Sem.run] at e
theorem never_stuck (y : String) : Never P (stuck y : Sem α) := never_halt _
theorem never_unsupported (u : Unsupported) : Never P (unsupported u : Sem α) := never_halt _
theorem andThen_ok_inv {r : Result α} {f : α → World → Result β} {v : β} {w1 : World} (h : r.andThen f = .ok v w1) : ∃ a w, r = .ok a w ∧ f a w = .ok v w1 := by
  cases r with
  | ok a w => exact ⟨a, w, rfl, h⟩
  | halt x w => cases h
theorem calm_bind {s : Sem α} {f : α → Sem β} (hs : Calm P s) (hf : ∀ a, Calm P (f a)) : Calm P (s >>= f) := fun w v w1 e => by
  rw [Sem.run_bind] at e
  obtain ⟨a, w2, h1, h2⟩ := andThen_ok_inv e
  obtain ⟨rfl, h3⟩ := hs _ _ _ h1
  obtain ⟨rfl, h4⟩ := hf a _ _ _ h2
  exact ⟨rfl, fun w' => by rw [Sem.run_bind, h3 w']; exact h4 w'⟩
theorem never_bind {s : Sem α} {f : α → Sem β} (hf : ∀ a, Never P (f a)) : Never P (s >>= f) := fun w v w1 e => by
  rw [Sem.run_bind] at e
  obtain ⟨a, w2, h1, h2⟩ := andThen_ok_inv e
  exact hf a _ _ _ h2
theorem calm_program : Calm P program := fun w v w1 e => by
  simp only [run_program, Result.ok.injEq] at e
  obtain ⟨rfl, rfl⟩ := e
  exact ⟨rfl, fun _ => rfl⟩
theorem calm_typeInfo (t : TypeId) : Calm P (typeInfo t) := by
  unfold typeInfo
  refine calm_bind calm_program fun p => ?_
  split
  · exact calm_pure _
  · exact (never_stuck _).calm
theorem calm_underlying (t : TypeId) : Calm P (underlying t) := by
  unfold underlying
  refine calm_bind calm_program fun p => ?_
  split
  · exact calm_pure _
  · exact (never_stuck _).calm
theorem calm_sizeOf (t : TypeId) : Calm P (sizeOf t) := calm_bind (calm_typeInfo t) fun _ => calm_pure _
theorem never_runtimePanic (e : RuntimeError) : Never P (runtimePanic e : Sem α) := by
  unfold runtimePanic
  refine never_bind fun p => ?_
  cases e
  all_goals first
    | exact never_halt _
    | (refine never_bind fun _ => ?_; first | exact never_halt _ | (refine never_bind fun _ => ?_; exact never_halt _))
theorem never_boundsPanic (k : IntKind) (x y : Int) (c : BoundsCode) : Never P (boundsPanic k x y c : Sem α) := by
  unfold boundsPanic
  dsimp only
  split <;> exact never_bind fun _ => never_runtimePanic _
theorem calm_asIntOf (v : Value) : Calm P (asIntOf v) := by
  unfold asIntOf
  split
  · exact calm_pure _
  · exact (never_unsupported _).calm
  · exact (never_stuck _).calm
theorem calm_asBool (v : Value) : Calm P (asBool v) := by
  unfold asBool
  split
  · exact calm_pure _
  · exact (never_stuck _).calm
theorem calm_asAgg (v : Value) : Calm P (asAgg v) := by
  unfold asAgg
  split
  · exact calm_pure _
  · exact (never_stuck _).calm
theorem calm_asAddr (v : Value) : Calm P (asAddr v) := by
  unfold asAddr
  split
  · exact calm_pure _
  · exact (never_runtimePanic _).calm
  · exact (never_stuck _).calm
theorem calm_sureAddr (v : Value) : Calm P (Instr.sureAddr v) := by
  unfold Instr.sureAddr
  split
  · exact calm_pure _
  · exact (never_stuck _).calm
theorem calm_ite {c : Prop} [Decidable c] {a b : Sem α} (ha : Calm P a) (hb : Calm P b) : Calm P (if c then a else b) := by split <;> assumption
theorem calm_sliceBound (x : Value) (y : Nat) (c : BoundsCode) : Calm P (Instr.sliceBound x y c) := by
  unfold Instr.sliceBound
  refine calm_bind (calm_asIntOf _) fun r => ?_
  exact calm_ite (calm_pure _) (never_boundsPanic _ _ _ _).calm
theorem calm_sliceBounds (b : Bool) (l c : Nat) (lo hi mx : Option Value) : Calm P (Instr.sliceBounds b l c lo hi mx) := by
  unfold Instr.sliceBounds
  repeat' first
    | exact calm_pure _
    | exact (never_stuck _).calm
    | exact (never_unsupported _).calm
    | exact (never_boundsPanic _ _ _ _).calm
    | exact (never_runtimePanic _).calm
    | exact calm_underlying _
    | exact calm_sizeOf _
    | exact calm_asIntOf _
    | exact calm_asBool _
    | exact calm_asAgg _
    | exact calm_asAddr _
    | exact calm_sureAddr _
    | exact calm_typeInfo _
    | exact calm_program
    | exact calm_sliceBound _ _ _
    | (refine calm_bind ?_ fun _ => ?_)
    | split
    | dsimp only
theorem calm_slice (t : TypeId) (x : Value) (lo hi mx : Option Value) : Calm P (Instr.slice t x lo hi mx) := by
  unfold Instr.slice
  repeat' first
    | exact calm_pure _
    | exact (never_stuck _).calm
    | exact (never_unsupported _).calm
    | exact (never_boundsPanic _ _ _ _).calm
    | exact (never_runtimePanic _).calm
    | exact calm_underlying _
    | exact calm_sizeOf _
    | exact calm_asIntOf _
    | exact calm_asBool _
    | exact calm_asAgg _
    | exact calm_asAddr _
    | exact calm_sureAddr _
    | exact calm_typeInfo _
    | exact calm_program
    | exact calm_sliceBound _ _ _
    | exact calm_sliceBounds _ _ _ _ _ _
    | (refine calm_bind ?_ fun _ => ?_)
    | split
    | dsimp only
theorem calm_sliceAt (t : TypeId) (x : Value) (lo hi mx : Option Value) : Calm P (Instr.sliceAt t x lo hi mx) := by
  unfold Instr.sliceAt
  repeat' first
    | exact calm_pure _
    | exact (never_stuck _).calm
    | exact (never_unsupported _).calm
    | exact (never_boundsPanic _ _ _ _).calm
    | exact (never_runtimePanic _).calm
    | exact calm_underlying _
    | exact calm_sizeOf _
    | exact calm_asIntOf _
    | exact calm_asBool _
    | exact calm_asAgg _
    | exact calm_asAddr _
    | exact calm_sureAddr _
    | exact calm_typeInfo _
    | exact calm_program
    | exact calm_sliceBound _ _ _
    | exact calm_sliceBounds _ _ _ _ _ _
    | exact calm_slice _ _ _ _ _
    | (refine calm_bind ?_ fun _ => ?_)
    | split
    | dsimp only
theorem calm_indexAt (t : TypeId) (x i : Value) : Calm P (Instr.indexAt t x i) := by
  unfold Instr.indexAt
  repeat' first
    | exact calm_pure _
    | exact (never_stuck _).calm
    | exact (never_unsupported _).calm
    | exact (never_boundsPanic _ _ _ _).calm
    | exact (never_runtimePanic _).calm
    | exact calm_underlying _
    | exact calm_sizeOf _
    | exact calm_asIntOf _
    | exact calm_asBool _
    | exact calm_asAgg _
    | exact calm_asAddr _
    | exact calm_sureAddr _
    | exact calm_typeInfo _
    | exact calm_program
    | exact calm_sliceBound _ _ _
    | exact calm_sliceBounds _ _ _ _ _ _
    | exact calm_slice _ _ _ _ _
    | (refine calm_bind ?_ fun _ => ?_)
    | split
    | dsimp only
theorem calm_isAgg (t : TypeId) : Calm P (isAgg t) := by
  unfold isAgg
  repeat' first
    | exact calm_pure _
    | exact (never_stuck _).calm
    | exact (never_unsupported _).calm
    | exact (never_boundsPanic _ _ _ _).calm
    | exact (never_runtimePanic _).calm
    | exact calm_underlying _
    | exact calm_sizeOf _
    | exact calm_asIntOf _
    | exact calm_asBool _
    | exact calm_asAgg _
    | exact calm_asAddr _
    | exact calm_sureAddr _
    | exact calm_typeInfo _
    | exact calm_program
    | exact calm_sliceBound _ _ _
    | exact calm_sliceBounds _ _ _ _ _ _
    | exact calm_slice _ _ _ _ _
    | (refine calm_bind ?_ fun _ => ?_)
    | split
    | dsimp only
theorem calm_part (t : TypeId) (cs : Array Value) (i : Nat) : Calm P (part t cs i) := by
  unfold part
  repeat' first
    | exact calm_pure _
    | exact (never_stuck _).calm
    | exact (never_unsupported _).calm
    | exact (never_boundsPanic _ _ _ _).calm
    | exact (never_runtimePanic _).calm
    | exact calm_underlying _
    | exact calm_sizeOf _
    | exact calm_asIntOf _
    | exact calm_asBool _
    | exact calm_asAgg _
    | exact calm_asAddr _
    | exact calm_sureAddr _
    | exact calm_typeInfo _
    | exact calm_program
    | exact calm_sliceBound _ _ _
    | exact calm_sliceBounds _ _ _ _ _ _
    | exact calm_slice _ _ _ _ _
    | exact calm_isAgg _
    | (refine calm_bind ?_ fun _ => ?_)
    | split
    | dsimp only
theorem calm_index (t : TypeId) (x i : Value) : Calm P (Instr.index t x i) := by
  unfold Instr.index
  repeat' first
    | exact calm_pure _
    | exact (never_stuck _).calm
    | exact (never_unsupported _).calm
    | exact (never_boundsPanic _ _ _ _).calm
    | exact (never_runtimePanic _).calm
    | exact calm_underlying _
    | exact calm_sizeOf _
    | exact calm_asIntOf _
    | exact calm_asBool _
    | exact calm_asAgg _
    | exact calm_asAddr _
    | exact calm_sureAddr _
    | exact calm_typeInfo _
    | exact calm_program
    | exact calm_sliceBound _ _ _
    | exact calm_sliceBounds _ _ _ _ _ _
    | exact calm_slice _ _ _ _ _
    | exact calm_part _ _ _
    | (refine calm_bind ?_ fun _ => ?_)
    | split
    | dsimp only
theorem calm_field (t : TypeId) (x : Value) (i : Nat) : Calm P (Instr.field t x i) := by
  unfold Instr.field
  repeat' first
    | exact calm_pure _
    | exact (never_stuck _).calm
    | exact (never_unsupported _).calm
    | exact (never_boundsPanic _ _ _ _).calm
    | exact (never_runtimePanic _).calm
    | exact calm_underlying _
    | exact calm_sizeOf _
    | exact calm_asIntOf _
    | exact calm_asBool _
    | exact calm_asAgg _
    | exact calm_asAddr _
    | exact calm_sureAddr _
    | exact calm_typeInfo _
    | exact calm_program
    | exact calm_sliceBound _ _ _
    | exact calm_sliceBounds _ _ _ _ _ _
    | exact calm_slice _ _ _ _ _
    | exact calm_part _ _ _
    | (refine calm_bind ?_ fun _ => ?_)
    | split
    | dsimp only
theorem calm_extract (x : Value) (i : Nat) : Calm P (Instr.extract x i) := by
  unfold Instr.extract
  repeat' first
    | exact calm_pure _
    | exact (never_stuck _).calm
    | exact (never_unsupported _).calm
    | exact (never_boundsPanic _ _ _ _).calm
    | exact (never_runtimePanic _).calm
    | exact calm_underlying _
    | exact calm_sizeOf _
    | exact calm_asIntOf _
    | exact calm_asBool _
    | exact calm_asAgg _
    | exact calm_asAddr _
    | exact calm_sureAddr _
    | exact calm_typeInfo _
    | exact calm_program
    | exact calm_sliceBound _ _ _
    | exact calm_sliceBounds _ _ _ _ _ _
    | exact calm_slice _ _ _ _ _
    | exact calm_part _ _ _
    | (refine calm_bind ?_ fun _ => ?_)
    | split
    | dsimp only
theorem calm_makeInterface (t : TypeId) (x : Value) : Calm P (Instr.makeInterface t x) := by
  unfold Instr.makeInterface
  repeat' first
    | exact calm_pure _
    | exact (never_stuck _).calm
    | exact (never_unsupported _).calm
    | exact (never_boundsPanic _ _ _ _).calm
    | exact (never_runtimePanic _).calm
    | exact calm_underlying _
    | exact calm_sizeOf _
    | exact calm_asIntOf _
    | exact calm_asBool _
    | exact calm_asAgg _
    | exact calm_asAddr _
    | exact calm_sureAddr _
    | exact calm_typeInfo _
    | exact calm_program
    | exact calm_sliceBound _ _ _
    | exact calm_sliceBounds _ _ _ _ _ _
    | exact calm_slice _ _ _ _ _
    | exact calm_part _ _ _
    | (refine calm_bind ?_ fun _ => ?_)
    | split
    | dsimp only
theorem calm_intArith (o : BinOp) (k : IntKind) (x y : Int) : Calm P (Op.intArith o k x y) := by
  unfold Op.intArith
  repeat' first
    | exact calm_pure _
    | exact (never_stuck _).calm
    | exact (never_unsupported _).calm
    | exact (never_boundsPanic _ _ _ _).calm
    | exact (never_runtimePanic _).calm
    | exact calm_underlying _
    | exact calm_sizeOf _
    | exact calm_asIntOf _
    | exact calm_asBool _
    | exact calm_asAgg _
    | exact calm_asAddr _
    | exact calm_sureAddr _
    | exact calm_typeInfo _
    | exact calm_program
    | exact calm_sliceBound _ _ _
    | exact calm_sliceBounds _ _ _ _ _ _
    | exact calm_slice _ _ _ _ _
    | exact calm_part _ _ _
    | (refine calm_bind ?_ fun _ => ?_)
    | split
    | dsimp only
theorem calm_intBits (o : BinOp) (k : IntKind) (x y : Int) : Calm P (Op.intBits o k x y) := by
  unfold Op.intBits
  repeat' first
    | exact calm_pure _
    | exact (never_stuck _).calm
    | exact (never_unsupported _).calm
    | exact (never_boundsPanic _ _ _ _).calm
    | exact (never_runtimePanic _).calm
    | exact calm_underlying _
    | exact calm_sizeOf _
    | exact calm_asIntOf _
    | exact calm_asBool _
    | exact calm_asAgg _
    | exact calm_asAddr _
    | exact calm_sureAddr _
    | exact calm_typeInfo _
    | exact calm_program
    | exact calm_sliceBound _ _ _
    | exact calm_sliceBounds _ _ _ _ _ _
    | exact calm_slice _ _ _ _ _
    | exact calm_part _ _ _
    | (refine calm_bind ?_ fun _ => ?_)
    | split
    | dsimp only
theorem calm_intCmp (o : BinOp) (x y : Int) : Calm P (Op.intCmp o x y) := by
  unfold Op.intCmp
  repeat' first
    | exact calm_pure _
    | exact (never_stuck _).calm
    | exact (never_unsupported _).calm
    | exact (never_boundsPanic _ _ _ _).calm
    | exact (never_runtimePanic _).calm
    | exact calm_underlying _
    | exact calm_sizeOf _
    | exact calm_asIntOf _
    | exact calm_asBool _
    | exact calm_asAgg _
    | exact calm_asAddr _
    | exact calm_sureAddr _
    | exact calm_typeInfo _
    | exact calm_program
    | exact calm_sliceBound _ _ _
    | exact calm_sliceBounds _ _ _ _ _ _
    | exact calm_slice _ _ _ _ _
    | exact calm_part _ _ _
    | (refine calm_bind ?_ fun _ => ?_)
    | split
    | dsimp only
theorem calm_intDiv (o : BinOp) (k : IntKind) (x y : Int) : Calm P (Op.intDiv o k x y) := by
  unfold Op.intDiv
  repeat' first
    | exact calm_pure _
    | exact (never_stuck _).calm
    | exact (never_unsupported _).calm
    | exact (never_boundsPanic _ _ _ _).calm
    | exact (never_runtimePanic _).calm
    | exact calm_underlying _
    | exact calm_sizeOf _
    | exact calm_asIntOf _
    | exact calm_asBool _
    | exact calm_asAgg _
    | exact calm_asAddr _
    | exact calm_sureAddr _
    | exact calm_typeInfo _
    | exact calm_program
    | exact calm_sliceBound _ _ _
    | exact calm_sliceBounds _ _ _ _ _ _
    | exact calm_slice _ _ _ _ _
    | exact calm_part _ _ _
    | (refine calm_bind ?_ fun _ => ?_)
    | split
    | dsimp only
theorem calm_shift (o : BinOp) (k k' : IntKind) (x y : Int) : Calm P (Op.shift o k x k' y) := by
  unfold Op.shift
  repeat' first
    | exact calm_pure _
    | exact (never_stuck _).calm
    | exact (never_unsupported _).calm
    | exact (never_boundsPanic _ _ _ _).calm
    | exact (never_runtimePanic _).calm
    | exact calm_underlying _
    | exact calm_sizeOf _
    | exact calm_asIntOf _
    | exact calm_asBool _
    | exact calm_asAgg _
    | exact calm_asAddr _
    | exact calm_sureAddr _
    | exact calm_typeInfo _
    | exact calm_program
    | exact calm_sliceBound _ _ _
    | exact calm_sliceBounds _ _ _ _ _ _
    | exact calm_slice _ _ _ _ _
    | exact calm_part _ _ _
    | (refine calm_bind ?_ fun _ => ?_)
    | split
    | dsimp only
theorem calm_stringOp (o : BinOp) (x y : ByteArray) : Calm P (Op.stringOp o x y) := by
  unfold Op.stringOp
  repeat' first
    | exact calm_pure _
    | exact (never_stuck _).calm
    | exact (never_unsupported _).calm
    | exact (never_boundsPanic _ _ _ _).calm
    | exact (never_runtimePanic _).calm
    | exact calm_underlying _
    | exact calm_sizeOf _
    | exact calm_asIntOf _
    | exact calm_asBool _
    | exact calm_asAgg _
    | exact calm_asAddr _
    | exact calm_sureAddr _
    | exact calm_typeInfo _
    | exact calm_program
    | exact calm_sliceBound _ _ _
    | exact calm_sliceBounds _ _ _ _ _ _
    | exact calm_slice _ _ _ _ _
    | exact calm_part _ _ _
    | (refine calm_bind ?_ fun _ => ?_)
    | split
    | dsimp only
theorem calm_unary (o : UnOp) (x : Value) : Calm P (Op.unary o x) := by
  unfold Op.unary
  repeat' first
    | exact calm_pure _
    | exact (never_stuck _).calm
    | exact (never_unsupported _).calm
    | exact (never_boundsPanic _ _ _ _).calm
    | exact (never_runtimePanic _).calm
    | exact calm_underlying _
    | exact calm_sizeOf _
    | exact calm_asIntOf _
    | exact calm_asBool _
    | exact calm_asAgg _
    | exact calm_asAddr _
    | exact calm_sureAddr _
    | exact calm_typeInfo _
    | exact calm_program
    | exact calm_sliceBound _ _ _
    | exact calm_sliceBounds _ _ _ _ _ _
    | exact calm_slice _ _ _ _ _
    | exact calm_part _ _ _
    | exact calm_intArith _ _ _ _
    | exact calm_intBits _ _ _ _
    | (refine calm_bind ?_ fun _ => ?_)
    | split
    | dsimp only
/-- A number, a bool, or a text. -/
def scalarV : Value → Bool
  | .int _ _ => true
  | .bool _ => true
  | .string _ => true
  | _ => false
/-- Such a one, or some of them in a row. -/
def flatV : Value → Bool
  | .int _ _ => true
  | .bool _ => true
  | .string _ => true
  | .agg cs => cs.all scalarV
  | _ => false
theorem calm_bind_of {s : Sem α} {f : α → Sem β} (hs : Calm P s) (hf : ∀ a, (∃ w w1, s.run P w = .ok a w1) → Calm P (f a)) : Calm P (s >>= f) := fun w v w1 e => by
  rw [Sem.run_bind] at e
  obtain ⟨a, w2, h1, h2⟩ := andThen_ok_inv e
  obtain ⟨rfl, h3⟩ := hs _ _ _ h1
  obtain ⟨rfl, h4⟩ := hf a ⟨_, _, h1⟩ _ _ _ h2
  exact ⟨rfl, fun w' => by rw [Sem.run_bind, h3 w']; exact h4 w'⟩
theorem part_flat {t : TypeId} {cs : Array Value} {off : Nat} (hc : cs.all scalarV = true) {w w1 : World} {v : Value} (h : (part t cs off).run P w = .ok v w1) : flatV v = true := by
  rw [Array.all_eq_true_iff_forall_mem] at hc
  unfold part at h
  rw [Sem.run_bind] at h
  obtain ⟨b, w2, _, h⟩ := andThen_ok_inv h
  split at h
  · rw [Sem.run_bind] at h
    obtain ⟨n, w3, _, h⟩ := andThen_ok_inv h
    simp only [Sem.run_pure, Result.ok.injEq] at h
    rw [← h.1]
    simp only [flatV]
    rw [Array.all_eq_true_iff_forall_mem]
    intro x hx
    rw [Array.mem_extract_iff_getElem] at hx
    obtain ⟨i, hi, rfl⟩ := hx
    exact hc _ (Array.getElem_mem _)
  · split at h
    · rename_i u hu
      simp only [Sem.run_pure, Result.ok.injEq] at h
      rw [← h.1]
      have hm : u ∈ cs := Array.mem_of_getElem? hu
      have := hc u hm
      cases u <;> simp_all [flatV, scalarV]
    · exact absurd h (never_stuck _ _ _ _)
theorem calm_forIn {γ : Type} : ∀ (l : List γ) (b : β) (f : γ → β → Sem (ForInStep β)), (∀ a b, Calm P (f a b)) → Calm P (forIn l b f)
  | [], b, f, _ => by rw [List.forIn_nil]; exact calm_pure _
  | a :: l, b, f, h => by
    rw [List.forIn_cons]
    refine calm_bind (h a b) fun r => ?_
    cases r with
    | done b => exact calm_pure _
    | yield b => exact calm_forIn l b f h
theorem calm_forIn_array {γ : Type} (xs : Array γ) (b : β) (f : γ → β → Sem (ForInStep β)) (h : ∀ a b, Calm P (f a b)) : Calm P (forIn xs b f) := by
  rw [← Array.forIn_toList]
  exact calm_forIn _ _ _ h
theorem calm_forIn_range (n : Nat) (b : β) (f : Nat → β → Sem (ForInStep β)) (h : ∀ a b, Calm P (f a b)) : Calm P (forIn [0:n] b f) := by
  rw [Std.Legacy.Range.forIn_eq_forIn_range']
  exact calm_forIn _ _ _ h
theorem calm_equalIn_flat : ∀ (d : Nat) (t : TypeId) (x y : Value), flatV x = true → flatV y = true → Calm P (Op.equalIn d t x y)
  | 0, t, x, y, _, _ => by rw [Op.equalIn]; exact (never_unsupported _).calm
  | d + 1, t, x, y, hx, hy => by
    have ih := calm_equalIn_flat d
    rw [Op.equalIn]
    refine calm_bind (calm_underlying _) fun ds => ?_
    cases x <;> simp only [flatV, Bool.false_eq_true] at hx
    all_goals (cases y <;> simp only [flatV, Bool.false_eq_true] at hy)
    all_goals (cases ds <;> dsimp only)
    all_goals repeat' first | contradiction | exact calm_pure _ | exact (never_stuck _).calm | exact (never_unsupported _).calm | (refine calm_bind calm_program fun _ => ?_) | split
    · refine calm_bind (calm_sizeOf _) fun n => calm_bind (calm_forIn_range _ _ _ fun i s => calm_bind_of (calm_part _ _ _) fun a ha => calm_bind_of (calm_part _ _ _) fun b hb => calm_bind (ih _ _ _ (part_flat hx ha.choose_spec.choose_spec) (part_flat hy hb.choose_spec.choose_spec)) fun r => ?_) fun s => ?_
      · split <;> exact calm_pure _
      · split <;> exact calm_pure _
    · refine calm_bind (calm_forIn_array _ _ _ fun f s => ?_) fun s => ?_
      · split
        · refine calm_bind_of (calm_part _ _ _) fun a ha => calm_bind_of (calm_part _ _ _) fun b hb => calm_bind (ih _ _ _ (part_flat hx ha.choose_spec.choose_spec) (part_flat hy hb.choose_spec.choose_spec)) fun r => ?_
          split <;> exact calm_pure _
        · exact calm_pure _
      · split <;> exact calm_pure _
theorem calm_equal_agg (t : TypeId) {xs ys : Array Value} (hx : xs.all scalarV = true) (hy : ys.all scalarV = true) : Calm P (Op.equal t (.agg xs) (.agg ys)) := calm_equalIn_flat _ t _ _ (by simpa [flatV] using hx) (by simpa [flatV] using hy)
theorem calm_binOp_agg (op : BinOp) (t : TypeId) {xs ys : Array Value} (hx : xs.all scalarV = true) (hy : ys.all scalarV = true) : Calm P (binOp op t (.agg xs) (.agg ys)) := by
  have he := calm_equal_agg (P := P) t hx hy
  cases op <;> unfold binOp <;> repeat' first
    | contradiction
    | exact he
    | exact calm_pure _
    | exact (never_stuck _).calm
    | exact (never_unsupported _).calm
    | (refine calm_bind he fun _ => ?_)
    | split
    | dsimp only
    | (exfalso; simp_all; done)
theorem calm_eqGuardIn_flat : ∀ (d : Nat) (t : TypeId) (x y : Value), flatV x = true → flatV y = true → Calm P (Op.eqGuardIn d t x y)
  | 0, t, x, y, _, _ => by rw [Op.eqGuardIn]; exact (never_unsupported _).calm
  | d + 1, t, x, y, hx, hy => by
    have ih := calm_eqGuardIn_flat d
    rw [Op.eqGuardIn]
    refine calm_bind (calm_underlying _) fun ds => ?_
    cases x <;> simp only [flatV, Bool.false_eq_true] at hx
    all_goals (cases y <;> simp only [flatV, Bool.false_eq_true] at hy)
    all_goals (cases ds <;> dsimp only)
    all_goals repeat' first | contradiction | exact calm_pure _ | exact (never_stuck _).calm | exact (never_unsupported _).calm | (refine calm_bind calm_program fun _ => ?_) | split
    · refine calm_bind (calm_sizeOf _) fun n => calm_bind (calm_forIn_range _ _ _ fun i s => calm_bind_of (calm_part _ _ _) fun a ha => calm_bind_of (calm_part _ _ _) fun b hb => calm_bind (ih _ _ _ (part_flat hx ha.choose_spec.choose_spec) (part_flat hy hb.choose_spec.choose_spec)) fun r => ?_) fun s => ?_
      · split <;> exact calm_pure _
      · split <;> exact calm_pure _
    · refine calm_bind (calm_forIn_array _ _ _ fun f s => ?_) fun s => ?_
      · split
        · refine calm_bind_of (calm_part _ _ _) fun a ha => calm_bind_of (calm_part _ _ _) fun b hb => calm_bind (ih _ _ _ (part_flat hx ha.choose_spec.choose_spec) (part_flat hy hb.choose_spec.choose_spec)) fun r => ?_
          split <;> exact calm_pure _
        · exact calm_pure _
      · split <;> exact calm_pure _
/-- Two operands of which '==' and the like look at no memory. -/
def plainPair : Value → Value → Bool
  | .int _ _, .int _ _ => true
  | .string _, .string _ => true
  | .bool _, .bool _ => true
  | .slice _ _ _, .slice _ _ _ => true
  | .pointer none, .pointer none => true
  | .pointer none, .pointer (some _) => true
  | .pointer (some _), .pointer none => true
  | .agg xs, .agg ys => xs.all scalarV && ys.all scalarV
  | _, _ => false
theorem equal_succ (t : TypeId) (x y : Value) : Op.equal t x y = Op.equalIn (9999 + 1) t x y := rfl
theorem calm_equal_bool (t : TypeId) (a b : Bool) : Calm P (Op.equal t (.bool a) (.bool b)) := by
  rw [equal_succ, Op.equalIn]
  refine calm_bind (calm_underlying _) fun d => ?_
  cases d <;> dsimp only <;> repeat' first | contradiction | exact calm_pure _ | exact (never_stuck _).calm | exact (never_unsupported _).calm | split | dsimp only
theorem calm_equal_slice (t : TypeId) (a : Option Addr) (n c : Nat) (a' : Option Addr) (n' c' : Nat) : Calm P (Op.equal t (.slice a n c) (.slice a' n' c')) := by
  rw [equal_succ, Op.equalIn]
  refine calm_bind (calm_underlying _) fun d => ?_
  cases d <;> dsimp only <;> repeat' first | contradiction | exact calm_pure _ | exact (never_stuck _).calm | exact (never_unsupported _).calm | split | dsimp only
theorem calm_equal_nilptr (t : TypeId) (a : Option Addr) : Calm P (Op.equal t (.pointer none) (.pointer a)) := by
  rw [equal_succ, Op.equalIn]
  refine calm_bind (calm_underlying _) fun d => ?_
  cases d <;> dsimp only <;> repeat' first | contradiction | exact calm_pure _ | exact (never_stuck _).calm | exact (never_unsupported _).calm | split | dsimp only
theorem calm_equal_ptrnil (t : TypeId) (a : Addr) : Calm P (Op.equal t (.pointer (some a)) (.pointer none)) := by
  rw [equal_succ, Op.equalIn]
  refine calm_bind (calm_underlying _) fun d => ?_
  cases d <;> dsimp only <;> repeat' first | contradiction | exact calm_pure _ | exact (never_stuck _).calm | exact (never_unsupported _).calm | split | dsimp only
theorem calm_equal_int (t : TypeId) (k k' : IntKind) (a b : Int) : Calm P (Op.equal t (.int k a) (.int k' b)) := by
  rw [equal_succ, Op.equalIn]
  refine calm_bind (calm_underlying _) fun d => ?_
  cases d <;> dsimp only <;> repeat' first | contradiction | exact calm_pure _ | exact (never_stuck _).calm | exact (never_unsupported _).calm | split | dsimp only
theorem calm_equal_string (t : TypeId) (a b : ByteArray) : Calm P (Op.equal t (.string a) (.string b)) := by
  rw [equal_succ, Op.equalIn]
  refine calm_bind (calm_underlying _) fun d => ?_
  cases d <;> dsimp only <;> repeat' first | contradiction | exact calm_pure _ | exact (never_stuck _).calm | exact (never_unsupported _).calm | split | dsimp only
theorem calm_binOp_bool (op : BinOp) (t : TypeId) (a b : Bool) : Calm P (binOp op t (.bool a) (.bool b)) := by
  have he := calm_equal_bool (P := P) t a b
  cases op <;> unfold binOp <;> repeat' first
    | contradiction
    | exact he
    | exact calm_pure _
    | exact (never_stuck _).calm
    | exact (never_unsupported _).calm
    | exact calm_intArith _ _ _ _
    | exact calm_intBits _ _ _ _
    | exact calm_intCmp _ _ _
    | exact calm_intDiv _ _ _ _
    | exact calm_shift _ _ _ _ _
    | exact calm_stringOp _ _ _
    | (refine calm_bind he fun _ => ?_)
    | split
    | dsimp only
    | (exfalso; simp_all; done)
theorem calm_binOp_slice (op : BinOp) (t : TypeId) (a : Option Addr) (n c : Nat) (a' : Option Addr) (n' c' : Nat) : Calm P (binOp op t (.slice a n c) (.slice a' n' c')) := by
  have he := calm_equal_slice (P := P) t a n c a' n' c'
  cases op <;> unfold binOp <;> repeat' first
    | contradiction
    | exact he
    | exact calm_pure _
    | exact (never_stuck _).calm
    | exact (never_unsupported _).calm
    | exact calm_intArith _ _ _ _
    | exact calm_intBits _ _ _ _
    | exact calm_intCmp _ _ _
    | exact calm_intDiv _ _ _ _
    | exact calm_shift _ _ _ _ _
    | exact calm_stringOp _ _ _
    | (refine calm_bind he fun _ => ?_)
    | split
    | dsimp only
    | (exfalso; simp_all; done)
theorem calm_binOp_nilptr (op : BinOp) (t : TypeId) (a : Option Addr) : Calm P (binOp op t (.pointer none) (.pointer a)) := by
  have he := calm_equal_nilptr (P := P) t a
  cases op <;> unfold binOp <;> repeat' first
    | contradiction
    | exact he
    | exact calm_pure _
    | exact (never_stuck _).calm
    | exact (never_unsupported _).calm
    | exact calm_intArith _ _ _ _
    | exact calm_intBits _ _ _ _
    | exact calm_intCmp _ _ _
    | exact calm_intDiv _ _ _ _
    | exact calm_shift _ _ _ _ _
    | exact calm_stringOp _ _ _
    | (refine calm_bind he fun _ => ?_)
    | split
    | dsimp only
    | (exfalso; simp_all; done)
theorem calm_binOp_ptrnil (op : BinOp) (t : TypeId) (a : Addr) : Calm P (binOp op t (.pointer (some a)) (.pointer none)) := by
  have he := calm_equal_ptrnil (P := P) t a
  cases op <;> unfold binOp <;> repeat' first
    | contradiction
    | exact he
    | exact calm_pure _
    | exact (never_stuck _).calm
    | exact (never_unsupported _).calm
    | exact calm_intArith _ _ _ _
    | exact calm_intBits _ _ _ _
    | exact calm_intCmp _ _ _
    | exact calm_intDiv _ _ _ _
    | exact calm_shift _ _ _ _ _
    | exact calm_stringOp _ _ _
    | (refine calm_bind he fun _ => ?_)
    | split
    | dsimp only
    | (exfalso; simp_all; done)
theorem calm_binOp_int (op : BinOp) (t : TypeId) (k k' : IntKind) (a b : Int) : Calm P (binOp op t (.int k a) (.int k' b)) := by
  have he := calm_equal_int (P := P) t k k' a b
  cases op <;> unfold binOp <;> repeat' first
    | contradiction
    | exact he
    | exact calm_pure _
    | exact (never_stuck _).calm
    | exact (never_unsupported _).calm
    | exact calm_intArith _ _ _ _
    | exact calm_intBits _ _ _ _
    | exact calm_intCmp _ _ _
    | exact calm_intDiv _ _ _ _
    | exact calm_shift _ _ _ _ _
    | exact calm_stringOp _ _ _
    | (refine calm_bind he fun _ => ?_)
    | split
    | dsimp only
    | (exfalso; simp_all; done)
theorem calm_binOp_string (op : BinOp) (t : TypeId) (a b : ByteArray) : Calm P (binOp op t (.string a) (.string b)) := by
  have he := calm_equal_string (P := P) t a b
  cases op <;> unfold binOp <;> repeat' first
    | contradiction
    | exact he
    | exact calm_pure _
    | exact (never_stuck _).calm
    | exact (never_unsupported _).calm
    | exact calm_intArith _ _ _ _
    | exact calm_intBits _ _ _ _
    | exact calm_intCmp _ _ _
    | exact calm_intDiv _ _ _ _
    | exact calm_shift _ _ _ _ _
    | exact calm_stringOp _ _ _
    | (refine calm_bind he fun _ => ?_)
    | split
    | dsimp only
    | (exfalso; simp_all; done)
theorem calm_binOp_of {x y : Value} (h : plainPair x y = true) (op : BinOp) (t : TypeId) : Calm P (binOp op t x y) := by
  unfold plainPair at h
  split at h
  · exact calm_binOp_int op t _ _ _ _
  · exact calm_binOp_string op t _ _
  · exact calm_binOp_bool op t _ _
  · exact calm_binOp_slice op t _ _ _ _ _ _
  · exact calm_binOp_nilptr op t _
  · exact calm_binOp_nilptr op t _
  · exact calm_binOp_ptrnil op t _
  · rw [Bool.and_eq_true] at h; exact calm_binOp_agg op t h.1 h.2
  · cases h
theorem calm_eqGuard_of {a b : Value} (h : plainPair a b = true) (op : BinOp) (t : TypeId) (x y : Operand) : Calm P (eqGuard op t x y a b) := by
  have e : ∀ c : Prop, [Decidable c] → Calm P (if c then (pure () : Sem Unit) else pure ()) := fun c _ => calm_ite (calm_pure _) (calm_pure _)
  unfold eqGuard
  unfold plainPair at h
  split at h
  case h_8 =>
    rw [Bool.and_eq_true] at h
    have hg := calm_eqGuardIn_flat (P := P) Op.maxDepth t (.agg _) (.agg _) (by simpa [flatV] using h.1) (by simpa [flatV] using h.2)
    dsimp only
    refine calm_ite (calm_pure _) (calm_bind calm_program fun p => calm_bind calm_program fun p' => calm_ite (calm_pure _) (calm_bind hg fun b => calm_ite (never_unsupported _).calm (calm_pure _)))
  all_goals first
    | exact e _
    | (dsimp only; exact e _)
    | cases h
end calm
end Go.Proofs.YtfbkkhfmboaknaaGreatDoor
