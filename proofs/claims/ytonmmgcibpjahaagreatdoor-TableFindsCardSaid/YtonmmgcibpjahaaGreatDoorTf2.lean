/-
  Layer 12's Show at a format without marks, walked.
-/
import Derived.WalkKit
import Derived.Orders
import Derived.KernelRfl
import Derived.Deep.QuietTactic
import Derived.BigQuiet
import Derived.Shelf.RegionOpen
import Derived.WalkSpells
import Derived.WalkLawsBesides
import Derived.Lib.Hide
import Derived.Lib.Walk
import Derived.Test.YtonmmgcibpjahaaGreatDoorTf1
section
/- Serial: A region that draws its order of evaluation, but whose operations are in one forced order but for those that look at no memory: it may be walked in the order of the text. -/
namespace Go.Proofs.YtonmmgcibpjahaaGreatDoor
open Go

section calm
variable {α β : Type} {P : Program}
/-- What yields its value in whatever world, if it does in one. -/
def Calm (P : Program) (s : Sem α) : Prop := ∀ w v w1, s.run P w = .ok v w1 → w1 = w ∧ ∀ w', s.run P w' = .ok v w'
/-- What never yields. -/
def Never (P : Program) (s : Sem α) : Prop := ∀ w v w1, s.run P w ≠ .ok v w1
theorem Never.calm {s : Sem α} (h : Never P s) : Calm P s := fun w v w1 e => absurd e (h w v w1)
theorem calm_pure (a : α) : Calm P (pure a : Sem α) := fun w v w1 e => by
  simp only [Sem.run_pure, Result.ok.injEq] at e
  obtain ⟨rfl, rfl⟩ := e
  exact ⟨rfl, fun _ => rfl⟩
theorem never_halt (h : Halt) : Never P (.halt h : Sem α) := fun w v w1 e => by simp [Sem.run] at e
theorem never_stuck (y : String) : Never P (stuck y : Sem α) := never_halt _
theorem never_unsupported (u : Unsupported) : Never P (unsupported u : Sem α) := never_halt _
theorem andThen_ok_inv {r : Result α} {f : α → World → Result β} {v : β} {w1 : World} (h : r.andThen f = .ok v w1) : ∃ a w, r = .ok a w ∧ f a w = .ok v w1 := by
  cases r with
  | ok a w => exact ⟨a, w, rfl, h⟩
  | halt x w => cases h
theorem calm_bind {s : Sem α} {f : α → Sem β} (hs : Calm P s) (hf : ∀ a, Calm P (f a)) : Calm P (s >>= f) := fun w v w1 e => by
  rw [Sem.run_bind] at e
  obtain ⟨a, w2, h1, h2⟩ := andThen_ok_inv e
  obtain ⟨rfl, h3⟩ := hs _ _ _ h1
  obtain ⟨rfl, h4⟩ := hf a _ _ _ h2
  exact ⟨rfl, fun w' => by rw [Sem.run_bind, h3 w']; exact h4 w'⟩
theorem never_bind {s : Sem α} {f : α → Sem β} (hf : ∀ a, Never P (f a)) : Never P (s >>= f) := fun w v w1 e => by
  rw [Sem.run_bind] at e
  obtain ⟨a, w2, h1, h2⟩ := andThen_ok_inv e
  exact hf a _ _ _ h2
theorem calm_program : Calm P program := fun w v w1 e => by
  simp only [run_program, Result.ok.injEq] at e
  obtain ⟨rfl, rfl⟩ := e
  exact ⟨rfl, fun _ => rfl⟩
theorem calm_typeInfo (t : TypeId) : Calm P (typeInfo t) := by
  unfold typeInfo
  refine calm_bind calm_program fun p => ?_
  split
  · exact calm_pure _
  · exact (never_stuck _).calm
theorem calm_underlying (t : TypeId) : Calm P (underlying t) := by
  unfold underlying
  refine calm_bind calm_program fun p => ?_
  split
  · exact calm_pure _
  · exact (never_stuck _).calm
theorem calm_sizeOf (t : TypeId) : Calm P (sizeOf t) := calm_bind (calm_typeInfo t) fun _ => calm_pure _
theorem never_runtimePanic (e : RuntimeError) : Never P (runtimePanic e : Sem α) := by
  unfold runtimePanic
  refine never_bind fun p => ?_
  cases e
  all_goals first
    | exact never_halt _
    | (refine never_bind fun _ => ?_; first | exact never_halt _ | (refine never_bind fun _ => ?_; exact never_halt _))
theorem never_boundsPanic (k : IntKind) (x y : Int) (c : BoundsCode) : Never P (boundsPanic k x y c : Sem α) := by
  unfold boundsPanic
  dsimp only
  split <;> exact never_bind fun _ => never_runtimePanic _
theorem calm_asIntOf (v : Value) : Calm P (asIntOf v) := by
  unfold asIntOf
  split
  · exact calm_pure _
  · exact (never_unsupported _).calm
  · exact (never_stuck _).calm
theorem calm_asBool (v : Value) : Calm P (asBool v) := by
  unfold asBool
  split
  · exact calm_pure _
  · exact (never_stuck _).calm
theorem calm_asAgg (v : Value) : Calm P (asAgg v) := by
  unfold asAgg
  split
  · exact calm_pure _
  · exact (never_stuck _).calm
theorem calm_asAddr (v : Value) : Calm P (asAddr v) := by
  unfold asAddr
  split
  · exact calm_pure _
  · exact (never_runtimePanic _).calm
  · exact (never_stuck _).calm
theorem calm_sureAddr (v : Value) : Calm P (Instr.sureAddr v) := by
  unfold Instr.sureAddr
  split
  · exact calm_pure _
  · exact (never_stuck _).calm
theorem calm_ite {c : Prop} [Decidable c] {a b : Sem α} (ha : Calm P a) (hb : Calm P b) : Calm P (if c then a else b) := by split <;> assumption
theorem calm_sliceBound (x : Value) (y : Nat) (c : BoundsCode) : Calm P (Instr.sliceBound x y c) := by
  unfold Instr.sliceBound
  refine calm_bind (calm_asIntOf _) fun r => ?_
  exact calm_ite (calm_pure _) (never_boundsPanic _ _ _ _).calm
theorem calm_sliceBounds (b : Bool) (l c : Nat) (lo hi mx : Option Value) : Calm P (Instr.sliceBounds b l c lo hi mx) := by
  unfold Instr.sliceBounds
  repeat' first
    | exact calm_pure _
    | exact (never_stuck _).calm
    | exact (never_unsupported _).calm
    | exact (never_boundsPanic _ _ _ _).calm
    | exact (never_runtimePanic _).calm
    | exact calm_underlying _
    | exact calm_sizeOf _
    | exact calm_asIntOf _
    | exact calm_asBool _
    | exact calm_asAgg _
    | exact calm_asAddr _
    | exact calm_sureAddr _
    | exact calm_typeInfo _
    | exact calm_program
    | exact calm_sliceBound _ _ _
    | (refine calm_bind ?_ fun _ => ?_)
    | split
    | dsimp only
theorem calm_slice (t : TypeId) (x : Value) (lo hi mx : Option Value) : Calm P (Instr.slice t x lo hi mx) := by
  unfold Instr.slice
  repeat' first
    | exact calm_pure _
    | exact (never_stuck _).calm
    | exact (never_unsupported _).calm
    | exact (never_boundsPanic _ _ _ _).calm
    | exact (never_runtimePanic _).calm
    | exact calm_underlying _
    | exact calm_sizeOf _
    | exact calm_asIntOf _
    | exact calm_asBool _
    | exact calm_asAgg _
    | exact calm_asAddr _
    | exact calm_sureAddr _
    | exact calm_typeInfo _
    | exact calm_program
    | exact calm_sliceBound _ _ _
    | exact calm_sliceBounds _ _ _ _ _ _
    | (refine calm_bind ?_ fun _ => ?_)
    | split
    | dsimp only
theorem calm_sliceAt (t : TypeId) (x : Value) (lo hi mx : Option Value) : Calm P (Instr.sliceAt t x lo hi mx) := by
  unfold Instr.sliceAt
  repeat' first
    | exact calm_pure _
    | exact (never_stuck _).calm
    | exact (never_unsupported _).calm
    | exact (never_boundsPanic _ _ _ _).calm
    | exact (never_runtimePanic _).calm
    | exact calm_underlying _
    | exact calm_sizeOf _
    | exact calm_asIntOf _
    | exact calm_asBool _
    | exact calm_asAgg _
    | exact calm_asAddr _
    | exact calm_sureAddr _
    | exact calm_typeInfo _
    | exact calm_program
    | exact calm_sliceBound _ _ _
    | exact calm_sliceBounds _ _ _ _ _ _
    | exact calm_slice _ _ _ _ _
    | (refine calm_bind ?_ fun _ => ?_)
    | split
    | dsimp only
theorem calm_indexAt (t : TypeId) (x i : Value) : Calm P (Instr.indexAt t x i) := by
  unfold Instr.indexAt
  repeat' first
    | exact calm_pure _
    | exact (never_stuck _).calm
    | exact (never_unsupported _).calm
    | exact (never_boundsPanic _ _ _ _).calm
    | exact (never_runtimePanic _).calm
    | exact calm_underlying _
    | exact calm_sizeOf _
    | exact calm_asIntOf _
    | exact calm_asBool _
    | exact calm_asAgg _
    | exact calm_asAddr _
    | exact calm_sureAddr _
    | exact calm_typeInfo _
    | exact calm_program
    | exact calm_sliceBound _ _ _
    | exact calm_sliceBounds _ _ _ _ _ _
    | exact calm_slice _ _ _ _ _
    | (refine calm_bind ?_ fun _ => ?_)
    | split
    | dsimp only
theorem calm_isAgg (t : TypeId) : Calm P (isAgg t) := by
  unfold isAgg
  repeat' first
    | exact calm_pure _
    | exact (never_stuck _).calm
    | exact (never_unsupported _).calm
    | exact (never_boundsPanic _ _ _ _).calm
    | exact (never_runtimePanic _).calm
    | exact calm_underlying _
    | exact calm_sizeOf _
    | exact calm_asIntOf _
    | exact calm_asBool _
    | exact calm_asAgg _
    | exact calm_asAddr _
    | exact calm_sureAddr _
    | exact calm_typeInfo _
    | exact calm_program
    | exact calm_sliceBound _ _ _
    | exact calm_sliceBounds _ _ _ _ _ _
    | exact calm_slice _ _ _ _ _
    | (refine calm_bind ?_ fun _ => ?_)
    | split
    | dsimp only
theorem calm_part (t : TypeId) (cs : Array Value) (i : Nat) : Calm P (part t cs i) := by
  unfold part
  repeat' first
    | exact calm_pure _
    | exact (never_stuck _).calm
    | exact (never_unsupported _).calm
    | exact (never_boundsPanic _ _ _ _).calm
    | exact (never_runtimePanic _).calm
    | exact calm_underlying _
    | exact calm_sizeOf _
    | exact calm_asIntOf _
    | exact calm_asBool _
    | exact calm_asAgg _
    | exact calm_asAddr _
    | exact calm_sureAddr _
    | exact calm_typeInfo _
    | exact calm_program
    | exact calm_sliceBound _ _ _
    | exact calm_sliceBounds _ _ _ _ _ _
    | exact calm_slice _ _ _ _ _
    | exact calm_isAgg _
    | (refine calm_bind ?_ fun _ => ?_)
    | split
    | dsimp only
theorem calm_index (t : TypeId) (x i : Value) : Calm P (Instr.index t x i) := by
  unfold Instr.index
  repeat' first
    | exact calm_pure _
    | exact (never_stuck _).calm
    | exact (never_unsupported _).calm
    | exact (never_boundsPanic _ _ _ _).calm
    | exact (never_runtimePanic _).calm
    | exact calm_underlying _
    | exact calm_sizeOf _
    | exact calm_asIntOf _
    | exact calm_asBool _
    | exact calm_asAgg _
    | exact calm_asAddr _
    | exact calm_sureAddr _
    | exact calm_typeInfo _
    | exact calm_program
    | exact calm_sliceBound _ _ _
    | exact calm_sliceBounds _ _ _ _ _ _
    | exact calm_slice _ _ _ _ _
    | exact calm_part _ _ _
    | (refine calm_bind ?_ fun _ => ?_)
    | split
    | dsimp only
theorem calm_field (t : TypeId) (x : Value) (i : Nat) : Calm P (Instr.field t x i) := by
  unfold Instr.field
  repeat' first
    | exact calm_pure _
    | exact (never_stuck _).calm
    | exact (never_unsupported _).calm
    | exact (never_boundsPanic _ _ _ _).calm
    | exact (never_runtimePanic _).calm
    | exact calm_underlying _
    | exact calm_sizeOf _
    | exact calm_asIntOf _
    | exact calm_asBool _
    | exact calm_asAgg _
    | exact calm_asAddr _
    | exact calm_sureAddr _
    | exact calm_typeInfo _
    | exact calm_program
    | exact calm_sliceBound _ _ _
    | exact calm_sliceBounds _ _ _ _ _ _
    | exact calm_slice _ _ _ _ _
    | exact calm_part _ _ _
    | (refine calm_bind ?_ fun _ => ?_)
    | split
    | dsimp only
theorem calm_extract (x : Value) (i : Nat) : Calm P (Instr.extract x i) := by
  unfold Instr.extract
  repeat' first
    | exact calm_pure _
    | exact (never_stuck _).calm
    | exact (never_unsupported _).calm
    | exact (never_boundsPanic _ _ _ _).calm
    | exact (never_runtimePanic _).calm
    | exact calm_underlying _
    | exact calm_sizeOf _
    | exact calm_asIntOf _
    | exact calm_asBool _
    | exact calm_asAgg _
    | exact calm_asAddr _
    | exact calm_sureAddr _
    | exact calm_typeInfo _
    | exact calm_program
    | exact calm_sliceBound _ _ _
    | exact calm_sliceBounds _ _ _ _ _ _
    | exact calm_slice _ _ _ _ _
    | exact calm_part _ _ _
    | (refine calm_bind ?_ fun _ => ?_)
    | split
    | dsimp only
theorem calm_makeInterface (t : TypeId) (x : Value) : Calm P (Instr.makeInterface t x) := by
  unfold Instr.makeInterface
  repeat' first
    | exact calm_pure _
    | exact (never_stuck _).calm
    | exact (never_unsupported _).calm
    | exact (never_boundsPanic _ _ _ _).calm
    | exact (never_runtimePanic _).calm
    | exact calm_underlying _
    | exact calm_sizeOf _
    | exact calm_asIntOf _
    | exact calm_asBool _
    | exact calm_asAgg _
    | exact calm_asAddr _
    | exact calm_sureAddr _
    | exact calm_typeInfo _
    | exact calm_program
    | exact calm_sliceBound _ _ _
    | exact calm_sliceBounds _ _ _ _ _ _
    | exact calm_slice _ _ _ _ _
    | exact calm_part _ _ _
    | (refine calm_bind ?_ fun _ => ?_)
    | split
    | dsimp only
theorem calm_intArith (o : BinOp) (k : IntKind) (x y : Int) : Calm P (Op.intArith o k x y) := by
  unfold Op.intArith
  repeat' first
    | exact calm_pure _
    | exact (never_stuck _).calm
    | exact (never_unsupported _).calm
    | exact (never_boundsPanic _ _ _ _).calm
    | exact (never_runtimePanic _).calm
    | exact calm_underlying _
    | exact calm_sizeOf _
    | exact calm_asIntOf _
    | exact calm_asBool _
    | exact calm_asAgg _
    | exact calm_asAddr _
    | exact calm_sureAddr _
    | exact calm_typeInfo _
    | exact calm_program
    | exact calm_sliceBound _ _ _
    | exact calm_sliceBounds _ _ _ _ _ _
    | exact calm_slice _ _ _ _ _
    | exact calm_part _ _ _
    | (refine calm_bind ?_ fun _ => ?_)
    | split
    | dsimp only
theorem calm_intBits (o : BinOp) (k : IntKind) (x y : Int) : Calm P (Op.intBits o k x y) := by
  unfold Op.intBits
  repeat' first
    | exact calm_pure _
    | exact (never_stuck _).calm
    | exact (never_unsupported _).calm
    | exact (never_boundsPanic _ _ _ _).calm
    | exact (never_runtimePanic _).calm
    | exact calm_underlying _
    | exact calm_sizeOf _
    | exact calm_asIntOf _
    | exact calm_asBool _
    | exact calm_asAgg _
    | exact calm_asAddr _
    | exact calm_sureAddr _
    | exact calm_typeInfo _
    | exact calm_program
    | exact calm_sliceBound _ _ _
    | exact calm_sliceBounds _ _ _ _ _ _
    | exact calm_slice _ _ _ _ _
    | exact calm_part _ _ _
    | (refine calm_bind ?_ fun _ => ?_)
    | split
    | dsimp only
theorem calm_intCmp (o : BinOp) (x y : Int) : Calm P (Op.intCmp o x y) := by
  unfold Op.intCmp
  repeat' first
    | exact calm_pure _
    | exact (never_stuck _).calm
    | exact (never_unsupported _).calm
    | exact (never_boundsPanic _ _ _ _).calm
    | exact (never_runtimePanic _).calm
    | exact calm_underlying _
    | exact calm_sizeOf _
    | exact calm_asIntOf _
    | exact calm_asBool _
    | exact calm_asAgg _
    | exact calm_asAddr _
    | exact calm_sureAddr _
    | exact calm_typeInfo _
    | exact calm_program
    | exact calm_sliceBound _ _ _
    | exact calm_sliceBounds _ _ _ _ _ _
    | exact calm_slice _ _ _ _ _
    | exact calm_part _ _ _
    | (refine calm_bind ?_ fun _ => ?_)
    | split
    | dsimp only
theorem calm_intDiv (o : BinOp) (k : IntKind) (x y : Int) : Calm P (Op.intDiv o k x y) := by
  unfold Op.intDiv
  repeat' first
    | exact calm_pure _
    | exact (never_stuck _).calm
    | exact (never_unsupported _).calm
    | exact (never_boundsPanic _ _ _ _).calm
    | exact (never_runtimePanic _).calm
    | exact calm_underlying _
    | exact calm_sizeOf _
    | exact calm_asIntOf _
    | exact calm_asBool _
    | exact calm_asAgg _
    | exact calm_asAddr _
    | exact calm_sureAddr _
    | exact calm_typeInfo _
    | exact calm_program
    | exact calm_sliceBound _ _ _
    | exact calm_sliceBounds _ _ _ _ _ _
    | exact calm_slice _ _ _ _ _
    | exact calm_part _ _ _
    | (refine calm_bind ?_ fun _ => ?_)
    | split
    | dsimp only
theorem calm_shift (o : BinOp) (k k' : IntKind) (x y : Int) : Calm P (Op.shift o k x k' y) := by
  unfold Op.shift
  repeat' first
    | exact calm_pure _
    | exact (never_stuck _).calm
    | exact (never_unsupported _).calm
    | exact (never_boundsPanic _ _ _ _).calm
    | exact (never_runtimePanic _).calm
    | exact calm_underlying _
    | exact calm_sizeOf _
    | exact calm_asIntOf _
    | exact calm_asBool _
    | exact calm_asAgg _
    | exact calm_asAddr _
    | exact calm_sureAddr _
    | exact calm_typeInfo _
    | exact calm_program
    | exact calm_sliceBound _ _ _
    | exact calm_sliceBounds _ _ _ _ _ _
    | exact calm_slice _ _ _ _ _
    | exact calm_part _ _ _
    | (refine calm_bind ?_ fun _ => ?_)
    | split
    | dsimp only
theorem calm_stringOp (o : BinOp) (x y : ByteArray) : Calm P (Op.stringOp o x y) := by
  unfold Op.stringOp
  repeat' first
    | exact calm_pure _
    | exact (never_stuck _).calm
    | exact (never_unsupported _).calm
    | exact (never_boundsPanic _ _ _ _).calm
    | exact (never_runtimePanic _).calm
    | exact calm_underlying _
    | exact calm_sizeOf _
    | exact calm_asIntOf _
    | exact calm_asBool _
    | exact calm_asAgg _
    | exact calm_asAddr _
    | exact calm_sureAddr _
    | exact calm_typeInfo _
    | exact calm_program
    | exact calm_sliceBound _ _ _
    | exact calm_sliceBounds _ _ _ _ _ _
    | exact calm_slice _ _ _ _ _
    | exact calm_part _ _ _
    | (refine calm_bind ?_ fun _ => ?_)
    | split
    | dsimp only
theorem calm_unary (o : UnOp) (x : Value) : Calm P (Op.unary o x) := by
  unfold Op.unary
  repeat' first
    | exact calm_pure _
    | exact (never_stuck _).calm
    | exact (never_unsupported _).calm
    | exact (never_boundsPanic _ _ _ _).calm
    | exact (never_runtimePanic _).calm
    | exact calm_underlying _
    | exact calm_sizeOf _
    | exact calm_asIntOf _
    | exact calm_asBool _
    | exact calm_asAgg _
    | exact calm_asAddr _
    | exact calm_sureAddr _
    | exact calm_typeInfo _
    | exact calm_program
    | exact calm_sliceBound _ _ _
    | exact calm_sliceBounds _ _ _ _ _ _
    | exact calm_slice _ _ _ _ _
    | exact calm_part _ _ _
    | exact calm_intArith _ _ _ _
    | exact calm_intBits _ _ _ _
    | (refine calm_bind ?_ fun _ => ?_)
    | split
    | dsimp only
/-- A number, a bool, or a text. -/
def scalarV : Value → Bool
  | .int _ _ => true
  | .bool _ => true
  | .string _ => true
  | _ => false
/-- Such a one, or some of them in a row. -/
def flatV : Value → Bool
  | .int _ _ => true
  | .bool _ => true
  | .string _ => true
  | .agg cs => cs.all scalarV
  | _ => false
theorem calm_bind_of {s : Sem α} {f : α → Sem β} (hs : Calm P s) (hf : ∀ a, (∃ w w1, s.run P w = .ok a w1) → Calm P (f a)) : Calm P (s >>= f) := fun w v w1 e => by
  rw [Sem.run_bind] at e
  obtain ⟨a, w2, h1, h2⟩ := andThen_ok_inv e
  obtain ⟨rfl, h3⟩ := hs _ _ _ h1
  obtain ⟨rfl, h4⟩ := hf a ⟨_, _, h1⟩ _ _ _ h2
  exact ⟨rfl, fun w' => by rw [Sem.run_bind, h3 w']; exact h4 w'⟩
theorem part_flat {t : TypeId} {cs : Array Value} {off : Nat} (hc : cs.all scalarV = true) {w w1 : World} {v : Value} (h : (part t cs off).run P w = .ok v w1) : flatV v = true := by
  rw [Array.all_eq_true_iff_forall_mem] at hc
  unfold part at h
  rw [Sem.run_bind] at h
  obtain ⟨b, w2, _, h⟩ := andThen_ok_inv h
  split at h
  · rw [Sem.run_bind] at h
    obtain ⟨n, w3, _, h⟩ := andThen_ok_inv h
    simp only [Sem.run_pure, Result.ok.injEq] at h
    rw [← h.1]
    simp only [flatV]
    rw [Array.all_eq_true_iff_forall_mem]
    intro x hx
    rw [Array.mem_extract_iff_getElem] at hx
    obtain ⟨i, hi, rfl⟩ := hx
    exact hc _ (Array.getElem_mem _)
  · split at h
    · rename_i u hu
      simp only [Sem.run_pure, Result.ok.injEq] at h
      rw [← h.1]
      have hm : u ∈ cs := Array.mem_of_getElem? hu
      have := hc u hm
      cases u <;> simp_all [flatV, scalarV]
    · exact absurd h (never_stuck _ _ _ _)
theorem calm_forIn {γ : Type} : ∀ (l : List γ) (b : β) (f : γ → β → Sem (ForInStep β)), (∀ a b, Calm P (f a b)) → Calm P (forIn l b f)
  | [], b, f, _ => by rw [List.forIn_nil]; exact calm_pure _
  | a :: l, b, f, h => by
    rw [List.forIn_cons]
    refine calm_bind (h a b) fun r => ?_
    cases r with
    | done b => exact calm_pure _
    | yield b => exact calm_forIn l b f h
theorem calm_forIn_array {γ : Type} (xs : Array γ) (b : β) (f : γ → β → Sem (ForInStep β)) (h : ∀ a b, Calm P (f a b)) : Calm P (forIn xs b f) := by
  rw [← Array.forIn_toList]
  exact calm_forIn _ _ _ h
theorem calm_forIn_range (n : Nat) (b : β) (f : Nat → β → Sem (ForInStep β)) (h : ∀ a b, Calm P (f a b)) : Calm P (forIn [0:n] b f) := by
  rw [Std.Legacy.Range.forIn_eq_forIn_range']
  exact calm_forIn _ _ _ h
theorem calm_equalIn_flat : ∀ (d : Nat) (t : TypeId) (x y : Value), flatV x = true → flatV y = true → Calm P (Op.equalIn d t x y)
  | 0, t, x, y, _, _ => by rw [Op.equalIn]; exact (never_unsupported _).calm
  | d + 1, t, x, y, hx, hy => by
    have ih := calm_equalIn_flat d
    rw [Op.equalIn]
    refine calm_bind (calm_underlying _) fun ds => ?_
    cases x <;> simp only [flatV, Bool.false_eq_true] at hx
    all_goals (cases y <;> simp only [flatV, Bool.false_eq_true] at hy)
    all_goals (cases ds <;> dsimp only)
    all_goals repeat' first | contradiction | exact calm_pure _ | exact (never_stuck _).calm | exact (never_unsupported _).calm | (refine calm_bind calm_program fun _ => ?_) | split
    · refine calm_bind (calm_sizeOf _) fun n => calm_bind (calm_forIn_range _ _ _ fun i s => calm_bind_of (calm_part _ _ _) fun a ha => calm_bind_of (calm_part _ _ _) fun b hb => calm_bind (ih _ _ _ (part_flat hx ha.choose_spec.choose_spec) (part_flat hy hb.choose_spec.choose_spec)) fun r => ?_) fun s => ?_
      · split <;> exact calm_pure _
      · split <;> exact calm_pure _
    · refine calm_bind (calm_forIn_array _ _ _ fun f s => ?_) fun s => ?_
      · split
        · refine calm_bind_of (calm_part _ _ _) fun a ha => calm_bind_of (calm_part _ _ _) fun b hb => calm_bind (ih _ _ _ (part_flat hx ha.choose_spec.choose_spec) (part_flat hy hb.choose_spec.choose_spec)) fun r => ?_
          split <;> exact calm_pure _
        · exact calm_pure _
      · split <;> exact calm_pure _
theorem calm_equal_agg (t : TypeId) {xs ys : Array Value} (hx : xs.all scalarV = true) (hy : ys.all scalarV = true) : Calm P (Op.equal t (.agg xs) (.agg ys)) := calm_equalIn_flat _ t _ _ (by simpa [flatV] using hx) (by simpa [flatV] using hy)
theorem calm_binOp_agg (op : BinOp) (t : TypeId) {xs ys : Array Value} (hx : xs.all scalarV = true) (hy : ys.all scalarV = true) : Calm P (binOp op t (.agg xs) (.agg ys)) := by
  have he := calm_equal_agg (P := P) t hx hy
  cases op <;> unfold binOp <;> repeat' first
    | contradiction
    | exact he
    | exact calm_pure _
    | exact (never_stuck _).calm
    | exact (never_unsupported _).calm
    | (refine calm_bind he fun _ => ?_)
    | split
    | dsimp only
    | (exfalso; simp_all; done)
theorem calm_eqGuardIn_flat : ∀ (d : Nat) (t : TypeId) (x y : Value), flatV x = true → flatV y = true → Calm P (Op.eqGuardIn d t x y)
  | 0, t, x, y, _, _ => by rw [Op.eqGuardIn]; exact (never_unsupported _).calm
  | d + 1, t, x, y, hx, hy => by
    have ih := calm_eqGuardIn_flat d
    rw [Op.eqGuardIn]
    refine calm_bind (calm_underlying _) fun ds => ?_
    cases x <;> simp only [flatV, Bool.false_eq_true] at hx
    all_goals (cases y <;> simp only [flatV, Bool.false_eq_true] at hy)
    all_goals (cases ds <;> dsimp only)
    all_goals repeat' first | contradiction | exact calm_pure _ | exact (never_stuck _).calm | exact (never_unsupported _).calm | (refine calm_bind calm_program fun _ => ?_) | split
    · refine calm_bind (calm_sizeOf _) fun n => calm_bind (calm_forIn_range _ _ _ fun i s => calm_bind_of (calm_part _ _ _) fun a ha => calm_bind_of (calm_part _ _ _) fun b hb => calm_bind (ih _ _ _ (part_flat hx ha.choose_spec.choose_spec) (part_flat hy hb.choose_spec.choose_spec)) fun r => ?_) fun s => ?_
      · split <;> exact calm_pure _
      · split <;> exact calm_pure _
    · refine calm_bind (calm_forIn_array _ _ _ fun f s => ?_) fun s => ?_
      · split
        · refine calm_bind_of (calm_part _ _ _) fun a ha => calm_bind_of (calm_part _ _ _) fun b hb => calm_bind (ih _ _ _ (part_flat hx ha.choose_spec.choose_spec) (part_flat hy hb.choose_spec.choose_spec)) fun r => ?_
          split <;> exact calm_pure _
        · exact calm_pure _
      · split <;> exact calm_pure _
/-- Two operands of which '==' and the like look at no memory. -/
def plainPair : Value → Value → Bool
  | .int _ _, .int _ _ => true
  | .string _, .string _ => true
  | .bool _, .bool _ => true
  | .slice _ _ _, .slice _ _ _ => true
  | .pointer none, .pointer none => true
  | .pointer none, .pointer (some _) => true
  | .pointer (some _), .pointer none => true
  | .agg xs, .agg ys => xs.all scalarV && ys.all scalarV
  | _, _ => false
theorem equal_succ (t : TypeId) (x y : Value) : Op.equal t x y = Op.equalIn (9999 + 1) t x y := rfl
theorem calm_equal_bool (t : TypeId) (a b : Bool) : Calm P (Op.equal t (.bool a) (.bool b)) := by
  rw [equal_succ, Op.equalIn]
  refine calm_bind (calm_underlying _) fun d => ?_
  cases d <;> dsimp only <;> repeat' first | contradiction | exact calm_pure _ | exact (never_stuck _).calm | exact (never_unsupported _).calm | split | dsimp only
theorem calm_equal_slice (t : TypeId) (a : Option Addr) (n c : Nat) (a' : Option Addr) (n' c' : Nat) : Calm P (Op.equal t (.slice a n c) (.slice a' n' c')) := by
  rw [equal_succ, Op.equalIn]
  refine calm_bind (calm_underlying _) fun d => ?_
  cases d <;> dsimp only <;> repeat' first | contradiction | exact calm_pure _ | exact (never_stuck _).calm | exact (never_unsupported _).calm | split | dsimp only
theorem calm_equal_nilptr (t : TypeId) (a : Option Addr) : Calm P (Op.equal t (.pointer none) (.pointer a)) := by
  rw [equal_succ, Op.equalIn]
  refine calm_bind (calm_underlying _) fun d => ?_
  cases d <;> dsimp only <;> repeat' first | contradiction | exact calm_pure _ | exact (never_stuck _).calm | exact (never_unsupported _).calm | split | dsimp only
theorem calm_equal_ptrnil (t : TypeId) (a : Addr) : Calm P (Op.equal t (.pointer (some a)) (.pointer none)) := by
  rw [equal_succ, Op.equalIn]
  refine calm_bind (calm_underlying _) fun d => ?_
  cases d <;> dsimp only <;> repeat' first | contradiction | exact calm_pure _ | exact (never_stuck _).calm | exact (never_unsupported _).calm | split | dsimp only
theorem calm_equal_int (t : TypeId) (k k' : IntKind) (a b : Int) : Calm P (Op.equal t (.int k a) (.int k' b)) := by
  rw [equal_succ, Op.equalIn]
  refine calm_bind (calm_underlying _) fun d => ?_
  cases d <;> dsimp only <;> repeat' first | contradiction | exact calm_pure _ | exact (never_stuck _).calm | exact (never_unsupported _).calm | split | dsimp only
theorem calm_equal_string (t : TypeId) (a b : ByteArray) : Calm P (Op.equal t (.string a) (.string b)) := by
  rw [equal_succ, Op.equalIn]
  refine calm_bind (calm_underlying _) fun d => ?_
  cases d <;> dsimp only <;> repeat' first | contradiction | exact calm_pure _ | exact (never_stuck _).calm | exact (never_unsupported _).calm | split | dsimp only
theorem calm_binOp_bool (op : BinOp) (t : TypeId) (a b : Bool) : Calm P (binOp op t (.bool a) (.bool b)) := by
  have he := calm_equal_bool (P := P) t a b
  cases op <;> unfold binOp <;> repeat' first
    | contradiction
    | exact he
    | exact calm_pure _
    | exact (never_stuck _).calm
    | exact (never_unsupported _).calm
    | exact calm_intArith _ _ _ _
    | exact calm_intBits _ _ _ _
    | exact calm_intCmp _ _ _
    | exact calm_intDiv _ _ _ _
    | exact calm_shift _ _ _ _ _
    | exact calm_stringOp _ _ _
    | (refine calm_bind he fun _ => ?_)
    | split
    | dsimp only
    | (exfalso; simp_all; done)
theorem calm_binOp_slice (op : BinOp) (t : TypeId) (a : Option Addr) (n c : Nat) (a' : Option Addr) (n' c' : Nat) : Calm P (binOp op t (.slice a n c) (.slice a' n' c')) := by
  have he := calm_equal_slice (P := P) t a n c a' n' c'
  cases op <;> unfold binOp <;> repeat' first
    | contradiction
    | exact he
    | exact calm_pure _
    | exact (never_stuck _).calm
    | exact (never_unsupported _).calm
    | exact calm_intArith _ _ _ _
    | exact calm_intBits _ _ _ _
    | exact calm_intCmp _ _ _
    | exact calm_intDiv _ _ _ _
    | exact calm_shift _ _ _ _ _
    | exact calm_stringOp _ _ _
    | (refine calm_bind he fun _ => ?_)
    | split
    | dsimp only
    | (exfalso; simp_all; done)
theorem calm_binOp_nilptr (op : BinOp) (t : TypeId) (a : Option Addr) : Calm P (binOp op t (.pointer none) (.pointer a)) := by
  have he := calm_equal_nilptr (P := P) t a
  cases op <;> unfold binOp <;> repeat' first
    | contradiction
    | exact he
    | exact calm_pure _
    | exact (never_stuck _).calm
    | exact (never_unsupported _).calm
    | exact calm_intArith _ _ _ _
    | exact calm_intBits _ _ _ _
    | exact calm_intCmp _ _ _
    | exact calm_intDiv _ _ _ _
    | exact calm_shift _ _ _ _ _
    | exact calm_stringOp _ _ _
    | (refine calm_bind he fun _ => ?_)
    | split
    | dsimp only
    | (exfalso; simp_all; done)
theorem calm_binOp_ptrnil (op : BinOp) (t : TypeId) (a : Addr) : Calm P (binOp op t (.pointer (some a)) (.pointer none)) := by
  have he := calm_equal_ptrnil (P := P) t a
  cases op <;> unfold binOp <;> repeat' first
    | contradiction
    | exact he
    | exact calm_pure _
    | exact (never_stuck _).calm
    | exact (never_unsupported _).calm
    | exact calm_intArith _ _ _ _
    | exact calm_intBits _ _ _ _
    | exact calm_intCmp _ _ _
    | exact calm_intDiv _ _ _ _
    | exact calm_shift _ _ _ _ _
    | exact calm_stringOp _ _ _
    | (refine calm_bind he fun _ => ?_)
    | split
    | dsimp only
    | (exfalso; simp_all; done)
theorem calm_binOp_int (op : BinOp) (t : TypeId) (k k' : IntKind) (a b : Int) : Calm P (binOp op t (.int k a) (.int k' b)) := by
  have he := calm_equal_int (P := P) t k k' a b
  cases op <;> unfold binOp <;> repeat' first
    | contradiction
    | exact he
    | exact calm_pure _
    | exact (never_stuck _).calm
    | exact (never_unsupported _).calm
    | exact calm_intArith _ _ _ _
    | exact calm_intBits _ _ _ _
    | exact calm_intCmp _ _ _
    | exact calm_intDiv _ _ _ _
    | exact calm_shift _ _ _ _ _
    | exact calm_stringOp _ _ _
    | (refine calm_bind he fun _ => ?_)
    | split
    | dsimp only
    | (exfalso; simp_all; done)
theorem calm_binOp_string (op : BinOp) (t : TypeId) (a b : ByteArray) : Calm P (binOp op t (.string a) (.string b)) := by
  have he := calm_equal_string (P := P) t a b
  cases op <;> unfold binOp <;> repeat' first
    | contradiction
    | exact he
    | exact calm_pure _
    | exact (never_stuck _).calm
    | exact (never_unsupported _).calm
    | exact calm_intArith _ _ _ _
    | exact calm_intBits _ _ _ _
    | exact calm_intCmp _ _ _
    | exact calm_intDiv _ _ _ _
    | exact calm_shift _ _ _ _ _
    | exact calm_stringOp _ _ _
    | (refine calm_bind he fun _ => ?_)
    | split
    | dsimp only
    | (exfalso; simp_all; done)
theorem calm_binOp_of {x y : Value} (h : plainPair x y = true) (op : BinOp) (t : TypeId) : Calm P (binOp op t x y) := by
  unfold plainPair at h
  split at h
  · exact calm_binOp_int op t _ _ _ _
  · exact calm_binOp_string op t _ _
  · exact calm_binOp_bool op t _ _
  · exact calm_binOp_slice op t _ _ _ _ _ _
  · exact calm_binOp_nilptr op t _
  · exact calm_binOp_nilptr op t _
  · exact calm_binOp_ptrnil op t _
  · rw [Bool.and_eq_true] at h; exact calm_binOp_agg op t h.1 h.2
  · cases h
theorem calm_eqGuard_of {a b : Value} (h : plainPair a b = true) (op : BinOp) (t : TypeId) (x y : Operand) : Calm P (eqGuard op t x y a b) := by
  have e : ∀ c : Prop, [Decidable c] → Calm P (if c then (pure () : Sem Unit) else pure ()) := fun c _ => calm_ite (calm_pure _) (calm_pure _)
  unfold eqGuard
  unfold plainPair at h
  split at h
  case h_8 =>
    rw [Bool.and_eq_true] at h
    have hg := calm_eqGuardIn_flat (P := P) Op.maxDepth t (.agg _) (.agg _) (by simpa [flatV] using h.1) (by simpa [flatV] using h.2)
    dsimp only
    refine calm_ite (calm_pure _) (calm_bind calm_program fun p => calm_bind calm_program fun p' => calm_ite (calm_pure _) (calm_bind hg fun b => calm_ite (never_unsupported _).calm (calm_pure _)))
  all_goals first
    | exact e _
    | (dsimp only; exact e _)
    | cases h
end calm
end Go.Proofs.YtonmmgcibpjahaaGreatDoor
end

section
/- SerialB:  -/
namespace Go.Proofs.YtonmmgcibpjahaaGreatDoor
open Go

section
variable {P : Program}
/-- An operation that looks at no memory, if its operands fit. -/
def quiet (P : Program) (op : Op) : Bool :=
  match op with
  | .move _ | .assign _ | .pick .. | .extract .. | .field .. | .slice .. | .indexAddr .. | .index .. | .unOp .. | .makeInterface .. | .makeFunc .. | .nilCheck _ | .binOp .. | .build .. => true
  | .convert _ d _ => match P.underlying d with | some (.int _) => true | _ => false
  | .fieldAddr s _ f => match P.underlying s with
    | some (.struct fs) => match fs[f]? with
      | some fd => match P.info? fd.type with | some i => i.size != 0 | none => false
      | none => false
    | _ => false
  | .call c => match c.callee with | .builtin .len => true | _ => false
  | _ => false
def isSeqV : Value → Bool
  | .slice .. => true
  | .string _ => true
  | _ => false
def isFuncV : Value → Bool
  | .func .. => true
  | _ => false
def isIntV : Value → Bool
  | .int .. => true
  | _ => false
def fits (ρ : Operand → Value) (op : Op) : Bool :=
  match op with
  | .binOp _ _ x y _ => plainPair (ρ x) (ρ y)
  | .nilCheck x => !isFuncV (ρ x)
  | .convert _ _ x => isIntV (ρ x)
  | .call c => match (c.args.map ρ)[0]? with | some v => isSeqV v | none => false
  | _ => true
theorem calm_value {s : Sem Value} (h : Calm P s) : Calm P (do pure (Next.value (← s))) := calm_bind h fun _ => calm_pure _
theorem value_of {s : Sem Value} {w w1 : World} {n : Next} (h : (do pure (Next.value (← s)) : Sem Next).run P w = .ok n w1) : ∃ v, n = .value v := by
  rw [Sem.run_bind] at h
  obtain ⟨a, w2, _, h2⟩ := andThen_ok_inv h
  simp only [Sem.run_pure, Result.ok.injEq] at h2
  exact ⟨a, h2.1.symm⟩
theorem calm_convert_int (s d : TypeId) (k : IntKind) (n : Int) (hd : ∃ k', P.underlying d = some (.int k')) : Calm P (convert s d (.int k n)) := by
  obtain ⟨k', hd⟩ := hd
  intro w v w1 e
  unfold convert at e ⊢
  rw [Sem.run_bind] at e
  obtain ⟨a, w2, h1, h2⟩ := andThen_ok_inv e
  obtain ⟨rfl, h3⟩ := calm_underlying s _ _ _ h1
  rw [Sem.run_bind, run_underlying hd, Result.andThen_ok] at h2
  have hc : Calm P (Conv.intToInt k' n) := calm_pure _
  have h4 : ∀ w', (match a, TypeDesc.int k', Value.int k n with | _, .int k, .int _ n => Conv.intToInt k n | _, _, _ => stuck "" : Sem Value).run P w' = (Conv.intToInt k' n).run P w' := fun _ => by cases a <;> rfl
  have h5 : (Conv.intToInt k' n).run P w2 = .ok v w1 := by cases a <;> exact h2
  obtain ⟨rfl, h6⟩ := hc _ _ _ h5
  refine ⟨rfl, fun w' => ?_⟩
  rw [Sem.run_bind, h3 w', Result.andThen_ok, Sem.run_bind, run_underlying hd, Result.andThen_ok]
  cases a <;> exact h6 w'
theorem calm_len (ts : Array TypeId) (t : TypeId) (args : Array Value) (v : Value) (h : args[0]? = some v) (hv : isSeqV v = true) : Calm P (Builtin.len_ ts t args) := by
  unfold Builtin.len_
  rw [h]
  generalize ts[0]? = o
  cases o with
  | none => exact (never_stuck _).calm
  | some t' =>
    dsimp only
    refine calm_bind (calm_underlying _) fun d => ?_
    cases v <;> simp only [isSeqV, Bool.false_eq_true] at hv
    all_goals
      cases d <;> dsimp only <;> repeat' first
        | exact calm_pure _
        | exact (never_stuck _).calm
        | exact calm_underlying _
        | contradiction
        | (refine calm_bind (calm_underlying _) fun _ => ?_)
        | split
theorem value_nilCheck (o : Oper) (ρ : Operand → Value) (x : Operand) (ho : o.op = .nilCheck x) {w w1 : World} {n : Next} (h : (execOp ρ o).run P w = .ok n w1) : ∃ v, n = .value v := by
  unfold execOp at h
  rw [ho] at h
  dsimp only at h
  split at h
  · exact absurd h (never_runtimePanic _ _ _ _)
  · exact absurd h (never_runtimePanic _ _ _ _)
  · exact absurd h (never_runtimePanic _ _ _ _)
  · split at h
    · exact absurd h (never_runtimePanic _ _ _ _)
    · rw [Sem.run_bind] at h
      obtain ⟨p, w2, _, h⟩ := andThen_ok_inv h
      rw [Sem.run_bind] at h
      obtain ⟨b, w3, _, h⟩ := andThen_ok_inv h
      split at h
      · rw [Sem.run_bind] at h
        obtain ⟨b, w4, h1, _⟩ := andThen_ok_inv h
        exact absurd h1 (never_unsupported _ _ _ _)
      · simp only [Sem.run_pure, Result.ok.injEq] at h
        exact ⟨_, h.1.symm⟩
    · simp only [Sem.run_pure, Result.ok.injEq] at h
      exact ⟨_, h.1.symm⟩
  · simp only [Sem.run_pure, Result.ok.injEq] at h
    exact ⟨_, h.1.symm⟩
theorem value_exec (o : Oper) (ρ : Operand → Value) (hq : quiet P o.op = true) {w w1 : World} {n : Next} (h : (execOp ρ o).run P w = .ok n w1) : ∃ v, n = .value v := by
  cases ho : o.op
  case nilCheck x => exact value_nilCheck o ρ x ho h
  case call c =>
    obtain ⟨callee, args, ts⟩ := c
    rw [ho] at hq
    cases callee with
    | builtin b =>
      cases b <;> simp only [quiet, Bool.false_eq_true] at hq
      simp only [execOp, ho, resolve, invoke, builtin, pure_bind] at h
      exact value_of h
    | _ => simp [quiet] at hq
  case pick c a b =>
    unfold execOp at h
    rw [ho] at h
    dsimp only at h
    rw [Sem.run_bind] at h
    obtain ⟨p, w2, _, h⟩ := andThen_ok_inv h
    simp only [Sem.run_pure, Result.ok.injEq] at h
    exact ⟨_, h.1.symm⟩
  all_goals
    rw [ho] at hq
    first
      | (simp [quiet] at hq; done)
      | (unfold execOp at h; rw [ho] at h; exact value_of h)
      | (unfold execOp at h; rw [ho] at h; simp only [Sem.run_pure, Result.ok.injEq] at h; exact ⟨_, h.1.symm⟩)
theorem calm_underlying_at {β : Type} {t : TypeId} {d : TypeDesc} (h : P.underlying t = some d) {f : TypeDesc → Sem β} (hf : Calm P (f d)) : Calm P (underlying t >>= f) := fun w v w1 e => by
  rw [Sem.run_bind, run_underlying h, Result.andThen_ok] at e
  obtain ⟨a, b⟩ := hf _ _ _ e
  exact ⟨a, fun w' => by rw [Sem.run_bind, run_underlying h, Result.andThen_ok]; exact b w'⟩
theorem run_sizeOf_at {t : TypeId} {i : TypeInfo} (h : P.info? t = some i) (w : World) : (sizeOf t).run P w = .ok i.size w := by
  simp [sizeOf, typeInfo, h]
theorem calm_sizeOf_at {β : Type} {t : TypeId} {i : TypeInfo} (h : P.info? t = some i) {f : Nat → Sem β} (hf : Calm P (f i.size)) : Calm P (sizeOf t >>= f) := fun w v w1 e => by
  rw [Sem.run_bind, run_sizeOf_at h, Result.andThen_ok] at e
  obtain ⟨a, b⟩ := hf _ _ _ e
  exact ⟨a, fun w' => by rw [Sem.run_bind, run_sizeOf_at h, Result.andThen_ok]; exact b w'⟩
theorem calm_mapM {γ δ : Type} : ∀ (l : List γ) (f : γ → Sem δ), (∀ a, Calm P (f a)) → Calm P (l.mapM f)
  | [], f, _ => by rw [List.mapM_nil]; exact calm_pure _
  | a :: l, f, h => by
    rw [List.mapM_cons]
    exact calm_bind (h a) fun _ => calm_bind (calm_mapM l f h) fun _ => calm_pure _
theorem calm_build (t : TypeId) (parts : Array (Nat × Value)) : Calm P (Instr.build t parts) := by
  unfold Instr.build
  refine calm_bind ?_ fun z => calm_bind (calm_underlying t) fun d => ?_
  · unfold zeroValue
    refine calm_bind (calm_typeInfo t) fun i => ?_
    split
    · exact calm_pure _
    · exact (never_unsupported _).calm
  · cases d <;> dsimp only
    case struct fields =>
      refine calm_bind ?_ fun places => ?_
      · rw [Array.mapM_eq_mapM_toList]
        refine calm_bind (calm_mapM _ _ fun f => calm_bind (calm_sizeOf _) fun _ => calm_pure _) fun _ => calm_pure _
      · split
        · exact calm_pure _
        · exact (never_stuck _).calm
    case array n e =>
      refine calm_bind (calm_sizeOf _) fun places => ?_
      split
      · exact calm_pure _
      · exact (never_stuck _).calm
    all_goals exact (never_stuck _).calm
theorem calm_exec (o : Oper) (ρ : Operand → Value) (hq : quiet P o.op = true) (hf : fits ρ o.op = true) : Calm P (execOp ρ o) := by
  cases ho : o.op
  all_goals
    rw [ho] at hq hf
    first
      | (simp [quiet] at hq; done)
      | skip
  all_goals unfold execOp; rw [ho]
  case move x => exact calm_pure _
  case assign x => exact calm_pure _
  case pick c a b => exact calm_bind (calm_asBool _) fun _ => calm_pure _
  case nilCheck x =>
    dsimp only
    simp only [fits, Bool.not_eq_true'] at hf
    split
    · exact (never_runtimePanic _).calm
    · exact (never_runtimePanic _).calm
    · exact (never_runtimePanic _).calm
    · rename_i he; rw [he] at hf; cases hf
    · exact calm_pure _
  case binOp op t x y t' => exact calm_value (calm_bind (calm_eqGuard_of hf op t x y) fun _ => calm_binOp_of hf op t)
  case unOp => exact calm_value (calm_unary _ _)
  case convert s d x =>
    simp only [fits] at hf
    simp only [quiet] at hq
    cases hx : ρ x <;> rw [hx] at hf <;> simp only [isIntV, Bool.false_eq_true] at hf
    dsimp only
    rw [hx]
    refine calm_value (calm_convert_int _ _ _ _ ?_)
    split at hq
    · exact ⟨_, by assumption⟩
    · cases hq
  case build => exact calm_value (calm_build _ _)
  case makeInterface => exact calm_value (calm_makeInterface _ _)
  case makeFunc => exact calm_value (calm_pure _)
  case slice => exact calm_value (calm_sliceAt _ _ _ _ _)
  case fieldAddr s x f =>
    simp only [quiet] at hq
    split at hq
    · rename_i fs hs
      split at hq
      · rename_i fd hfd
        split at hq
        · rename_i i hi
          refine calm_value ?_
          unfold Instr.fieldAt
          refine calm_underlying_at hs ?_
          dsimp only
          rw [hfd]
          refine calm_bind (calm_sureAddr _) fun a => calm_bind ?_ fun _ => calm_pure _
          unfold fieldPlace
          refine calm_sizeOf_at hi ?_
          rw [if_neg (by simpa using hq)]
          exact calm_pure _
        · cases hq
      · cases hq
    · cases hq
  case field => exact calm_value (calm_field _ _ _)
  case indexAddr => exact calm_value (calm_indexAt _ _ _)
  case index => exact calm_value (calm_index _ _ _)
  case extract => exact calm_value (calm_extract _ _)
  case call c =>
    obtain ⟨callee, args, ts⟩ := c
    cases callee with
    | builtin b =>
      cases b <;> simp only [quiet, Bool.false_eq_true] at hq
      simp only [fits] at hf
      simp only [resolve, invoke, builtin, pure_bind]
      split at hf
      · exact calm_value (calm_len _ _ _ _ (by assumption) hf)
      · cases hf
    | _ => simp [quiet] at hq

/-! ### The order of a region -/

variable {ops : Array Oper}
theorem straight_out {R : Act → World → Prop} : ¬ LetsOut (Exit.then R (fun _ _ _ => False)) := fun ⟨_, _, h⟩ => h

/-- An operation that runs hands on to some value in some world. -/
theorem wpOp_some {R : Act → World → Prop} {i : Nat} {o : Oper} (hi : ops[i]? = some o) {K : Act → World → Prop} {a : Act} {w : World}
    (h : wpOp P ops (Exit.then R (fun _ _ _ => False)) i K a w) : ∃ v a' w', a'.tmps = (a.put o.dst v).tmps ∧ K a' w' := by
  unfold wpOp at h
  simp only [hi] at h
  split at h
  · rcases h with h | ⟨_, h⟩
    · unfold Oper.wp at h
      generalize hr : (execOp a.eval o).run P w = r at h
      cases r with
      | ok n w' =>
        cases n <;> simp only [Oper.upon] at h <;> first | exact ⟨_, _, _, rfl, h⟩ | exact h.elim | skip
        case defer d => exact ⟨undef, _, _, by cases o.dst <;> rfl, h⟩
        case enter f args =>
          obtain ⟨e, w'', fr, hR, _⟩ := h []
          cases e with
          | returned v => exact ⟨_, _, _, rfl, hR⟩
          | panicked c => exact hR.elim
          | outgrown => exact (straight_out hR).elim
        case row row args =>
          obtain ⟨v, w'', hR, _⟩ := h default []
          exact ⟨_, _, _, rfl, hR⟩
      | halt x w' => cases x <;> simp only [Oper.upon] at h <;> exact h.elim
    · exact (straight_out h).elim
  · exact ⟨_, _, _, rfl, h⟩
theorem put_other (a : Act) (d : Option Tmp) (v : Value) (t : Tmp) (h : d ≠ some t) : (a.put d v).tmps[t]? = a.tmps[t]? := by
  cases d with
  | none => rfl
  | some d =>
    have hne : d ≠ t := fun e => h (by rw [e])
    simp [Act.put, Array.getElem?_setIfInBounds_ne hne]
/-- What a row of operations leaves, where they do not write, is as it was. -/
theorem final {R : Act → World → Prop} (l : List Nat) : ∀ (a : Act) (w : World), wpOps P ops (Exit.then R (fun _ _ _ => False)) l a w →
    ∃ af wf, R af wf ∧ ∀ t, (∀ k ∈ l, ∀ o, ops[k]? = some o → o.dst ≠ some t) → af.tmps[t]? = a.tmps[t]? := by
  induction l with
  | nil => exact fun a w h => ⟨a, w, h, fun _ _ => rfl⟩
  | cons i l ih =>
    intro a w h
    rw [wpOps_cons] at h
    cases hi : ops[i]? with
    | none =>
      have h' : wpOps P ops (Exit.then R (fun _ _ _ => False)) l a w := by simpa [wpOp, hi] using h
      obtain ⟨af, wf, h1, h2⟩ := ih _ _ h'
      exact ⟨af, wf, h1, fun t ht => h2 t fun k hk => ht k (List.mem_cons_of_mem _ hk)⟩
    | some o =>
      obtain ⟨v, a', w', he, hK⟩ := wpOp_some hi h
      obtain ⟨af, wf, h1, h2⟩ := ih _ _ hK
      refine ⟨af, wf, h1, fun t ht => ?_⟩
      rw [h2 t fun k hk => ht k (List.mem_cons_of_mem _ hk), he]
      exact put_other a _ v t (ht i (List.mem_cons_self ..) o hi)
/-- Two frames hold the same where an operation looks. -/
def Agree (ops : Array Oper) (o : Oper) (a b : Act) : Prop := ∀ t ∈ o.looksAt ops, a.tmps[t]? = b.tmps[t]?
theorem Agree.eval {o : Oper} {a b : Act} (h : Agree ops o a b) : ∀ x ∈ o.op.operands, a.eval x = b.eval x := by
  intro x hx
  cases x with
  | tmp t =>
    have := h t (List.mem_append_left _ (List.mem_filterMap.2 ⟨.tmp t, by simpa using hx, rfl⟩))
    simp only [Act.eval, Array.getD_eq_getD_getElem?, this]
  | _ => rfl
theorem Agree.wanted {o : Oper} {a b : Act} (h : Agree ops o a b) : Region.wanted o (yielded ops a.tmps) = Region.wanted o (yielded ops b.tmps) := by
  unfold Region.wanted
  cases hg : o.guard with
  | none => rfl
  | some gw =>
    obtain ⟨g, want⟩ := gw
    have hy : yielded ops a.tmps g = yielded ops b.tmps g := by
      unfold yielded
      cases ht : (ops[g]?).bind (·.dst) with
      | none => rfl
      | some t =>
        have := h t (by simp [Oper.looksAt, hg, ht])
        simp only [Option.bind_some, this]
    simp only [hy]
theorem fits_congr {ρ ρ' : Operand → Value} (op : Op) (h : ∀ x ∈ op.operands, ρ x = ρ' x) : fits ρ op = fits ρ' op := by
  cases op <;> simp only [fits]
  case binOp o t x y t' => rw [h x (by simp [Op.operands]), h y (by simp [Op.operands])]
  case nilCheck x => rw [h x (by simp [Op.operands])]
  case convert s d x => rw [h x (by simp [Op.operands])]
  case call c =>
    have : c.args.map ρ = c.args.map ρ' := Array.map_congr_left fun x hx => h x (by simp [Op.operands, Call.operands, hx])
    rw [this]
theorem quiet_select {op : Op} (h : quiet P op = true) : ∀ cs b, op ≠ .select cs b := by
  intro cs b e
  rw [e] at h
  cases h
theorem Yields.agree {o : Oper} {u : Value} {a b : Act} (hy : Yields P ops o u a) (h : Agree ops o a b) (hs : ∀ cs c, o.op ≠ .select cs c) : Yields P ops o u b :=
  hy.of_same (execOp_congr o hs fun x hx => (h.eval x hx).symm) h.wanted.symm
/-- All operands of the quiet operations fit. -/
def goodB (P : Program) (ops : Array Oper) (a : Act) : Bool := ops.toList.all fun o => fits a.eval o.op || !quiet P o.op || !Region.wanted o (yielded ops a.tmps)
theorem yields_of {R : Act → World → Prop} {i : Nat} {o : Oper} (hi : ops[i]? = some o) (hq : quiet P o.op = true) {K : Act → World → Prop} {a : Act} {w : World}
    (h : wpOp P ops (Exit.then R (fun _ _ _ => False)) i K a w) (hfin : ∀ u w', K (a.put o.dst u) w' → Region.wanted o (yielded ops a.tmps) = true → fits a.eval o.op = true) :
    ∃ u, Yields P ops o u a ∧ K (a.put o.dst u) w := by
  unfold wpOp at h
  simp only [hi] at h
  split at h
  · rename_i hw
    rcases h with h | ⟨_, h⟩
    · unfold Oper.wp at h
      generalize hr : (execOp a.eval o).run P w = r at h
      cases r with
      | ok n w' =>
        obtain ⟨u, rfl⟩ := value_exec o a.eval hq hr
        simp only [Oper.upon] at h
        obtain ⟨rfl, hall⟩ := calm_exec o a.eval hq (hfin u w' h hw) _ _ _ hr
        exact ⟨u, .inl ⟨hw, hall⟩, h⟩
      | halt x w' => cases x <;> simp only [Oper.upon] at h <;> exact h.elim
    · exact (straight_out h).elim
  · rename_i hw
    exact ⟨undef, .inr ⟨by simpa using hw, rfl⟩, h⟩
theorem yields_inv {R : Exit → Act → World → Prop} {i : Nat} {o : Oper} {u : Value} (hi : ops[i]? = some o) {K : Act → World → Prop} {a : Act} {w : World} (hR : ¬ LetsOut R) (hy : Yields P ops o u a)
    (h : wpOp P ops R i K a w) : K (a.put o.dst u) w := by
  unfold wpOp at h
  simp only [hi] at h
  rcases hy with ⟨hw, hy⟩ | ⟨hw, rfl⟩
  · rw [if_pos hw] at h
    rcases h with h | ⟨_, h⟩
    · unfold Oper.wp at h
      rw [hy w] at h
      exact h
    · exact (hR h).elim
  · rw [if_neg (by rw [hw]; simp)] at h
    exact h
end
end Go.Proofs.YtonmmgcibpjahaaGreatDoor
end

section
/- SerialC:  -/
namespace Go.Proofs.YtonmmgcibpjahaaGreatDoor
open Go

section
variable {P : Program} {ops : Array Oper}

/-- Back over an operation: what a quiet one yields behind it, it yields ahead of it. -/
theorem wpOp_back {R : Act → World → Prop} {i j : Nat} {oi oj : Oper} {u : Value} (hi : ops[i]? = some oi) (hj : ops[j]? = some oj) (hap : oi.apart ops oj = true)
    (hsi : ∀ cs b, oi.op ≠ .select cs b) (hsj : ∀ cs b, oj.op ≠ .select cs b) {K : Act → World → Prop} {a : Act} {w : World} (hy : Yields P ops oi u a)
    (h : wpOp P ops (Exit.then R (fun _ _ _ => False)) j (wpOp P ops (Exit.then R (fun _ _ _ => False)) i K) a w) :
    wpOp P ops (Exit.then R (fun _ _ _ => False)) j K (a.put oi.dst u) w := by
  obtain ⟨h1, h2, h3⟩ := Oper.apart_spec hap
  have keep : ∀ v, Yields P ops oi u (a.put oj.dst v) := fun v => hy.of_same (execOp_put oi hsi a oj.dst v h3) (wanted_put oi a oj.dst v h3)
  have keepD : ∀ d, Yields P ops oi u { a with defers := d :: a.defers } := fun d => hy.of_same rfl rfl
  unfold wpOp at h ⊢
  simp only [hj] at h ⊢
  rw [wanted_put oj a oi.dst u h1]
  split at h
  · rename_i hw
    rw [if_pos hw]
    rcases h with h | ⟨_, h⟩
    case inr => exact (straight_out h).elim
    refine .inl ?_
    unfold Oper.wp at h ⊢
    rw [execOp_put oj hsj a oi.dst u h1]
    generalize (execOp a.eval oj).run P w = r at h ⊢
    cases r with
    | ok n w' =>
      cases n <;> simp only [Oper.upon] at h ⊢
      case value v => rw [Act.put_comm a u v h2]; exact yields_inv hi straight_out (keep v) h
      case skip => rw [Act.put_comm a u undef h2]; exact yields_inv hi straight_out (keep undef) h
      case defer d =>
        rw [Act.put_defers, Act.put_comm _ u undef h2]
        exact yields_inv hi straight_out ((keepD d).of_same (execOp_put oi hsi _ oj.dst undef h3) (wanted_put oi _ oj.dst undef h3)) h
      case enter f args =>
        refine Calls.mono h fun e w'' he => ?_
        cases e with
        | returned v =>
          have he' : wpOp P ops (Exit.then R (fun _ _ _ => False)) i K (a.put oj.dst v) w'' := he
          have hk := yields_inv hi straight_out (keep v) he'
          rw [← Act.put_comm a u v h2] at hk
          exact hk
        | panicked c => exact he
        | outgrown => exact he
      case row row args => exact Rows.mono h fun v w'' he => by rw [Act.put_comm a u v h2]; exact yields_inv hi straight_out (keep v) he
    | halt x w' => cases x <;> simp only [Oper.upon] at h ⊢ <;> exact h
  · rename_i hw
    rw [if_neg hw, Act.put_comm a u undef h2]
    exact yields_inv hi straight_out (keep undef) h

/-- What a frame must hold at the end. -/
def Fin (P : Program) (ops : Array Oper) (R : Act → World → Prop) : Prop := ∀ a w, R a w → goodB P ops a = true
theorem good_at {a : Act} (h : goodB P ops a = true) {i : Nat} {o : Oper} (hi : ops[i]? = some o) (hq : quiet P o.op = true) (hw : Region.wanted o (yielded ops a.tmps) = true) : fits a.eval o.op = true := by
  unfold goodB at h
  rw [List.all_eq_true] at h
  have := h o (Array.mem_toList_iff.2 (Array.mem_of_getElem? hi))
  simpa [hq, hw] using this
/-- No operation of the row writes where o looks. -/
def Spares (ops : Array Oper) (o : Oper) (l : List Nat) : Prop := ∀ k ∈ l, ∀ ok, ops[k]? = some ok → ∀ t ∈ o.looksAt ops, ok.dst ≠ some t
theorem fits_of_final {R : Act → World → Prop} (hF : Fin P ops R) {i : Nat} {o : Oper} (hi : ops[i]? = some o) (hq : quiet P o.op = true) (hself : ∀ t ∈ o.looksAt ops, o.dst ≠ some t) {l : List Nat} (hl : Spares ops o l)
    {a : Act} (u : Value) {w' : World} (h : wpOps P ops (Exit.then R (fun _ _ _ => False)) l (a.put o.dst u) w') (hw : Region.wanted o (yielded ops a.tmps) = true) : fits a.eval o.op = true := by
  obtain ⟨af, wf, h1, h2⟩ := final l _ _ h
  have hag : Agree ops o af a := fun t ht => by
    rw [h2 t fun k hk ok hok => hl k hk ok hok t ht]
    exact put_other a _ u t (hself t ht)
  rw [← fits_congr o.op hag.eval]
  exact good_at (hF _ _ h1) hi hq (by rw [hag.wanted]; exact hw)

/-- An operation whose operands always fit. -/
def easy (op : Op) : Bool := match op with | .move _ => true | _ => false
theorem easy_fits {op : Op} (h : easy op = true) (ρ : Operand → Value) : fits ρ op = true := by
  unfold easy at h
  split at h
  · rfl
  · cases h
/-- An operation that may change places. -/
def Moves (P : Program) (ops : Array Oper) (o : Oper) (l : List Nat) : Prop := quiet P o.op = true ∧ (easy o.op = true ∨ ((∀ t ∈ o.looksAt ops, o.dst ≠ some t) ∧ Spares ops o l))
theorem Moves.fits {o : Oper} {l l' : List Nat} (h : Moves P ops o l) {R : Act → World → Prop} (hF : Fin P ops R) {i : Nat} (hi : ops[i]? = some o) (hl : Spares ops o l → Spares ops o l') {a : Act} (u : Value) {w' : World}
    (hh : wpOps P ops (Exit.then R (fun _ _ _ => False)) l' (a.put o.dst u) w') (hw : Region.wanted o (yielded ops a.tmps) = true) : fits a.eval o.op = true := by
  obtain ⟨hq, he | ⟨hself, hsp⟩⟩ := h
  · exact easy_fits he _
  · exact fits_of_final hF hi hq hself (hl hsp) u hh hw
theorem swap {R : Act → World → Prop} (hF : Fin P ops R) {i j : Nat} {oi oj : Oper} (hi : ops[i]? = some oi) (hj : ops[j]? = some oj) (hap : oi.apart ops oj = true) (hap' : oj.apart ops oi = true)
    (hsi : ∀ cs b, oi.op ≠ .select cs b) (hsj : ∀ cs b, oj.op ≠ .select cs b) {rest : List Nat}
    (hq : Moves P ops oi rest ∨ Moves P ops oj rest)
    {a : Act} {w : World} (h : wpOps P ops (Exit.then R (fun _ _ _ => False)) (j :: i :: rest) a w) : wpOps P ops (Exit.then R (fun _ _ _ => False)) (i :: j :: rest) a w := by
  obtain ⟨h1, h2, h3⟩ := Oper.apart_spec hap
  rw [wpOps_cons] at h ⊢
  rcases hq with hm | hm
  · -- the quiet one goes ahead
    have h' : wpOp P ops (Exit.then R (fun _ _ _ => False)) j (wpOp P ops (Exit.then R (fun _ _ _ => False)) i (wpOps P ops (Exit.then R (fun _ _ _ => False)) rest)) a w :=
      wpOp_mono (fun a w h => by rwa [wpOps_cons] at h) h
    obtain ⟨v, a', w', he, hK⟩ := wpOp_some hj h'
    have hq := hm.1
    obtain ⟨u, hy, _⟩ := yields_of hi hq hK fun u w' hu hw => hm.fits hF hi id u hu hw
    have hag : Agree ops oi a' a := fun t ht => by
      rw [he]
      exact put_other a _ v t fun e => h3 t e ht
    have hy' := Yields.agree hy hag (quiet_select hq)
    refine hy'.wpOp hi ?_
    rw [wpOps_cons]
    exact wpOp_back hi hj hap hsi hsj hy' h'
  · -- the quiet one goes behind
    have hq := hm.1
    obtain ⟨u, hy, hK⟩ := yields_of hj hq h fun u w' hu hw => hm.fits hF hj (l' := i :: rest) (fun hsp k hk ok hok t ht => by
      rcases List.mem_cons.1 hk with rfl | hk
      · rw [hi] at hok
        obtain rfl := Option.some.inj hok
        exact fun e => h1 t e ht
      · exact hsp k hk ok hok t ht) u hu hw
    rw [wpOps_cons] at hK
    have := wpOp_put (oi := oj) (oj := oi) hi hap' hsj hsi (fun c a w h => h) hy hK
    exact wpOp_mono (fun a' w' h => by rw [wpOps_cons]; exact h.1.wpOp hj h.2) this

/-! ### Two loads, in either order -/
/-- What leaves the world as it was. -/
def Stay (P : Program) {α : Type} (s : Sem α) : Prop := ∀ w v w1, s.run P w = .ok v w1 → w1 = w
theorem Calm.stay {α : Type} {s : Sem α} (h : Calm P s) : Stay P s := fun w v w1 e => (h w v w1 e).1
theorem stay_bind {α β : Type} {s : Sem α} {f : α → Sem β} (hs : Stay P s) (hf : ∀ a, Stay P (f a)) : Stay P (s >>= f) := fun w v w1 e => by
  rw [Sem.run_bind] at e
  obtain ⟨a, w2, h1, h2⟩ := andThen_ok_inv e
  obtain rfl := hs _ _ _ h1
  exact hf a _ _ _ h2
theorem stay_load (a : Addr) : Stay P (load a) := fun w v w1 e => by
  unfold load at e
  simp only [Sem.run] at e
  split at e
  · cases e
    rfl
  · split at e
    · cases e
      rfl
    · cases e
theorem stay_loadCellsFrom (a : Addr) : ∀ (n i : Nat) (acc : Array Value), Stay P (loadCellsFrom a i n acc) := by
  intro n
  induction n with
  | zero => exact fun i acc => (calm_pure _).stay
  | succ n ih => exact fun i acc => stay_bind (stay_load _) fun v => ih _ _
theorem stay_loadVar (t : TypeId) (a : Addr) : Stay P (loadVar t a) := by
  unfold loadVar
  refine stay_bind (calm_isAgg t).stay fun b => ?_
  cases b
  · exact stay_load a
  · exact stay_bind (calm_sizeOf t).stay fun n => stay_bind (stay_loadCellsFrom a n 0 #[]) fun v => (calm_pure _).stay
theorem stay_loadAt (t : TypeId) (v : Value) : Stay P (Instr.loadAt t v) := stay_bind (calm_sureAddr v).stay fun a => stay_loadVar t a
def isLoad (op : Op) : Bool := match op with | .load .. => true | _ => false
theorem isLoad_exec {o : Oper} (h : isLoad o.op = true) {ρ : Operand → Value} {w w1 : World} {n : Next} (e : (execOp ρ o).run P w = .ok n w1) : w1 = w ∧ ∃ v, n = .value v := by
  unfold isLoad at h
  split at h
  · rename_i t x ho
    have e' : (do pure (Next.value (← Instr.loadAt t (ρ x))) : Sem Next).run P w = .ok n w1 := by
      unfold execOp at e
      simpa only [ho] using e
    refine ⟨stay_bind (stay_loadAt t (ρ x)) (fun v => (calm_pure _).stay) _ _ _ e', value_of e'⟩
  · cases h
/-- What an operation yields in this world, which it leaves as it was. -/
def YAt (P : Program) (ops : Array Oper) (o : Oper) (v : Value) (a : Act) (w : World) : Prop :=
  (Region.wanted o (yielded ops a.tmps) = true ∧ (execOp a.eval o).run P w = .ok (.value v) w) ∨ (Region.wanted o (yielded ops a.tmps) = false ∧ v = undef)
theorem yat_of {R : Act → World → Prop} {i : Nat} {o : Oper} (hi : ops[i]? = some o) (hl : isLoad o.op = true) {K : Act → World → Prop} {a : Act} {w : World}
    (h : wpOp P ops (Exit.then R (fun _ _ _ => False)) i K a w) : ∃ v, YAt P ops o v a w ∧ K (a.put o.dst v) w := by
  unfold wpOp at h
  simp only [hi] at h
  split at h
  · rename_i hw
    rcases h with h | ⟨_, h⟩
    · unfold Oper.wp at h
      generalize hr : (execOp a.eval o).run P w = r at h
      cases r with
      | ok n w' =>
        obtain ⟨rfl, v, rfl⟩ := isLoad_exec hl hr
        simp only [Oper.upon] at h
        exact ⟨v, .inl ⟨hw, hr⟩, h⟩
      | halt x w' => cases x <;> simp only [Oper.upon] at h <;> exact h.elim
    · exact (straight_out h).elim
  · rename_i hw
    exact ⟨undef, .inr ⟨by simpa using hw, rfl⟩, h⟩
theorem YAt.wpOp {i : Nat} {o : Oper} {v : Value} {a : Act} {w : World} {Q : Exit → Act → World → Prop} (hi : ops[i]? = some o) (hy : YAt P ops o v a w) {K : Act → World → Prop} (h : K (a.put o.dst v) w) : wpOp P ops Q i K a w := by
  unfold Go.wpOp
  simp only [hi]
  rcases hy with ⟨hw, hv⟩ | ⟨hw, rfl⟩
  · rw [if_pos hw]
    refine .inl ?_
    unfold Oper.wp
    rw [hv]
    exact h
  · rw [if_neg (by rw [hw]; simp)]
    exact h
theorem YAt.of_same {o : Oper} {v : Value} {a a' : Act} {w : World} (hy : YAt P ops o v a w) (he : execOp a'.eval o = execOp a.eval o)
    (hw : Region.wanted o (yielded ops a'.tmps) = Region.wanted o (yielded ops a.tmps)) : YAt P ops o v a' w := by
  unfold YAt at *
  rw [he, hw]
  exact hy
theorem swap_loads {R : Act → World → Prop} {i j : Nat} {oi oj : Oper} (hi : ops[i]? = some oi) (hj : ops[j]? = some oj) (hap : oi.apart ops oj = true)
    (hsi : ∀ cs b, oi.op ≠ .select cs b) (hsj : ∀ cs b, oj.op ≠ .select cs b) {rest : List Nat} (hli : isLoad oi.op = true) (hlj : isLoad oj.op = true)
    {a : Act} {w : World} (h : wpOps P ops (Exit.then R (fun _ _ _ => False)) (j :: i :: rest) a w) : wpOps P ops (Exit.then R (fun _ _ _ => False)) (i :: j :: rest) a w := by
  obtain ⟨h1, h2, h3⟩ := Oper.apart_spec hap
  rw [wpOps_cons] at h ⊢
  obtain ⟨vj, hyj, hK⟩ := yat_of hj hlj h
  rw [wpOps_cons] at hK
  obtain ⟨vi, hyi, hK2⟩ := yat_of hi hli hK
  refine YAt.wpOp hi (hyi.of_same (execOp_put oi hsi a oj.dst vj h3).symm (wanted_put oi a oj.dst vj h3).symm) ?_
  rw [wpOps_cons]
  refine YAt.wpOp hj (hyj.of_same (execOp_put oj hsj a oi.dst vi h1) (wanted_put oj a oi.dst vi h1)) ?_
  rw [Act.put_comm a vi vj h2]
  exact hK2

/-! ### The look at a region's rows -/
def orMask (b : Array Nat) (l : List Edge) (s : Nat) : Nat := l.foldl (fun s e => if Region.binds .any e then s ||| 2 ^ e.on ||| b.getD e.on 0 else s) s
theorem orMask_bit (b : Array Nat) (l : List Edge) : ∀ (s p : Nat), (orMask b l s).testBit p = true → s.testBit p = true ∨ ∃ e ∈ l, Region.binds .any e = true ∧ (e.on = p ∨ (b.getD e.on 0).testBit p = true) := by
  induction l with
  | nil => exact fun s p h => .inl h
  | cons e l ih =>
    intro s p h
    rcases ih _ p h with h | ⟨e', he', hb, hp⟩
    · dsimp only at h
      split at h
      · rename_i hb
        rw [Nat.testBit_or, Nat.testBit_or, Nat.testBit_two_pow] at h
        simp only [Bool.or_eq_true, decide_eq_true_eq] at h
        rcases h with (h | h) | h
        · exact .inl h
        · exact .inr ⟨e, List.mem_cons_self .., hb, .inl h⟩
        · exact .inr ⟨e, List.mem_cons_self .., hb, .inr h⟩
      · exact .inl h
    · exact .inr ⟨e', List.mem_cons_of_mem _ he', hb, hp⟩
def noSelect (op : Op) : Bool := match op with | .select .. => false | _ => true
/-- o writes nowhere where x looks. -/
def sparesB (ops : Array Oper) (x o : Oper) : Bool := match o.dst with | some d => !(x.looksAt ops).contains d | none => true
def serialB (P : Program) (ops : Array Oper) (b : Array Nat) : Bool :=
  (List.range ops.size).all fun i => match ops[i]? with
    | none => true
    | some oi =>
      (oi.after.toList.all fun e => !Region.binds .any e || decide (e.on < i)) && (b.getD i 0 == orMask b oi.after.toList 0) && noSelect oi.op &&
      (!quiet P oi.op || easy oi.op || (List.range ops.size).all fun k => decide (k < i) || match ops[k]? with | some ok => sparesB ops oi ok | none => true) &&
      ((List.range i).all fun p => (b.getD i 0).testBit p || match ops[p]? with | some op => op.apart ops oi && oi.apart ops op && (quiet P op.op || quiet P oi.op || (isLoad op.op && isLoad oi.op)) | none => true)
structure Serial (P : Program) (ops : Array Oper) (b : Array Nat) : Prop where
  edges : ∀ (i : Nat) (oi : Oper), ops[i]? = some oi → ∀ e ∈ oi.after, Region.binds .any e = true → e.on < i
  mask : ∀ (i : Nat) (oi : Oper), ops[i]? = some oi → b.getD i 0 = orMask b oi.after.toList 0
  sel : ∀ (i : Nat) (oi : Oper), ops[i]? = some oi → ∀ cs c, oi.op ≠ .select cs c
  spares : ∀ (i : Nat) (oi : Oper), ops[i]? = some oi → quiet P oi.op = true → easy oi.op = false → ∀ (k : Nat) (ok : Oper), i ≤ k → ops[k]? = some ok → ∀ t ∈ oi.looksAt ops, ok.dst ≠ some t
  pair : ∀ (i : Nat) (oi : Oper), ops[i]? = some oi → ∀ (p : Nat) (op : Oper), p < i → ops[p]? = some op → (b.getD i 0).testBit p = true ∨ (op.apart ops oi = true ∧ oi.apart ops op = true ∧ ((quiet P op.op = true ∨ quiet P oi.op = true) ∨ (isLoad op.op = true ∧ isLoad oi.op = true)))
theorem sparesB_spec {x o : Oper} (h : sparesB ops x o = true) : ∀ t ∈ x.looksAt ops, o.dst ≠ some t := by
  intro t ht e
  unfold sparesB at h
  rw [e] at h
  simp at h
  exact h ht
theorem serial_of {b : Array Nat} (h : serialB P ops b = true) : Serial P ops b := by
  have hall : ∀ (i : Nat) (oi : Oper), ops[i]? = some oi → ((((oi.after.toList.all fun e => !Region.binds .any e || decide (e.on < i)) = true ∧ (b.getD i 0 == orMask b oi.after.toList 0) = true) ∧ noSelect oi.op = true) ∧
      (!quiet P oi.op || easy oi.op || (List.range ops.size).all fun k => decide (k < i) || match ops[k]? with | some ok => sparesB ops oi ok | none => true) = true) ∧
      ((List.range i).all fun p => (b.getD i 0).testBit p || match ops[p]? with | some op => op.apart ops oi && oi.apart ops op && (quiet P op.op || quiet P oi.op || (isLoad op.op && isLoad oi.op)) | none => true) = true := fun i oi hi => by
    have hlt : i < ops.size := (Array.getElem?_eq_some_iff.1 hi).1
    have := List.all_eq_true.1 h i (List.mem_range.2 hlt)
    simp only [hi, Bool.and_eq_true] at this
    exact this
  refine ⟨fun i oi hi e he hb => ?_, fun i oi hi => ?_, fun i oi hi cs c e => ?_, fun i oi hi hq hne k ok hk hok => ?_, fun i oi hi p op hp hop => ?_⟩
  · have := List.all_eq_true.1 (hall i oi hi).1.1.1.1 e (Array.mem_toList_iff.2 he)
    simpa [hb] using this
  · simpa using (hall i oi hi).1.1.1.2
  · have := (hall i oi hi).1.1.2
    rw [e] at this
    cases this
  · have h1 := (hall i oi hi).1.2
    rw [hq, hne] at h1
    have hlt : k < ops.size := (Array.getElem?_eq_some_iff.1 hok).1
    have h2 := List.all_eq_true.1 (show (List.range ops.size).all (fun k => decide (k < i) || match ops[k]? with | some ok => sparesB ops oi ok | none => true) = true from h1) k (List.mem_range.2 hlt)
    rw [hok] at h2
    simp only [Bool.or_eq_true, decide_eq_true_eq] at h2
    exact sparesB_spec (h2.resolve_left (by omega))
  · have := List.all_eq_true.1 (hall i oi hi).2 p (List.mem_range.2 hp)
    simp only [hop, Bool.or_eq_true, Bool.and_eq_true] at this
    rcases this with h | ⟨⟨h1, h2⟩, h3⟩
    · exact .inl h
    · exact .inr ⟨h1, h2, h3⟩

/-! ### From the text's order to every order -/
/-- The rows that are still to come. -/
def unl (n : Nat) (listed : Array Bool) : List Nat := (List.range n).filter fun k => !listed.getD k true
theorem sorted_split {l : List Nat} (hs : l.Pairwise (· < ·)) {i : Nat} (hi : i ∈ l) : l = l.filter (fun k => decide (k < i)) ++ i :: l.filter (fun k => decide (i < k)) := by
  induction l with
  | nil => cases hi
  | cons x l ih =>
    obtain ⟨h1, h2⟩ := List.pairwise_cons.1 hs
    rcases List.mem_cons.1 hi with rfl | hi
    · have e1 : l.filter (fun k => decide (k < i)) = [] := List.filter_eq_nil_iff.2 fun k hk => by have := h1 k hk; simp; omega
      have e2 : l.filter (fun k => decide (i < k)) = l := List.filter_eq_self.2 fun k hk => by simpa using h1 k hk
      simp [e1, e2]
    · have hx := h1 i hi
      rw [List.filter_cons, List.filter_cons, if_pos (by simpa using hx), if_neg (by simp; omega), List.cons_append, ← ih h2 hi]
theorem sorted_rest {l : List Nat} (hs : l.Pairwise (· < ·)) (i : Nat) : l.filter (fun k => decide (k < i)) ++ l.filter (fun k => decide (i < k)) = l.filter (fun k => decide (k ≠ i)) := by
  induction l with
  | nil => rfl
  | cons x l ih =>
    obtain ⟨h1, h2⟩ := List.pairwise_cons.1 hs
    have ih := ih h2
    rcases Nat.lt_trichotomy x i with h | h | h
    · rw [List.filter_cons, List.filter_cons, List.filter_cons, if_pos (by simpa using h), if_neg (by simp; omega), if_pos (by simp; omega), List.cons_append, ih]
    · subst h
      rw [List.filter_cons, List.filter_cons, List.filter_cons, if_neg (by simp), if_neg (by simp), if_neg (by simp), ih]
    · have e1 : l.filter (fun k => decide (k < i)) = [] := List.filter_eq_nil_iff.2 fun k hk => by have := h1 k hk; simp; omega
      rw [e1, List.nil_append] at ih
      rw [List.filter_cons, List.filter_cons, List.filter_cons, if_neg (by simp; omega), if_pos (by simpa using h), if_pos (by simp; omega), e1, List.nil_append, ih]
theorem unl_sorted (n : Nat) (listed : Array Bool) : (unl n listed).Pairwise (· < ·) := (List.pairwise_lt_range).filter _
theorem getD_set (listed : Array Bool) (i k : Nat) (d : Bool) : (listed.setIfInBounds i true).getD k d = if i = k ∧ i < listed.size then true else listed.getD k d := by
  simp only [Array.getD_eq_getD_getElem?, Array.getElem?_setIfInBounds]
  by_cases h : i = k
  · subst h
    by_cases h2 : i < listed.size
    · simp [h2]
    · simp [h2]
  · simp [h]
theorem unl_set (n : Nat) (listed : Array Bool) (i : Nat) (hi : i < listed.size) : unl n (listed.setIfInBounds i true) = (unl n listed).filter fun k => decide (k ≠ i) := by
  unfold unl
  rw [List.filter_filter]
  apply List.filter_congr
  intro k _
  rw [getD_set]
  by_cases h : i = k
  · subst h; simp [hi]
  · simp [h, Ne.symm h]
/-- What an operation stands behind is listed, of each that is. -/
def Shut (ops : Array Oper) (listed : Array Bool) : Prop := ∀ i oi, ops[i]? = some oi → listed.getD i false = true → ∀ e ∈ oi.after, Region.binds .any e = true → listed.getD e.on false = true
theorem listed_of_mask {b : Array Nat} (hS : Serial P ops b) {listed : Array Bool} (hc : Shut ops listed) : ∀ (i : Nat) (oi : Oper), ops[i]? = some oi → (∀ e ∈ oi.after, Region.binds .any e = true → listed.getD e.on false = true) →
    ∀ p, (b.getD i 0).testBit p = true → listed.getD p false = true := by
  intro i
  induction i using Nat.strongRecOn with
  | _ i ih =>
    intro oi hi hall p hp
    rw [hS.mask i oi hi] at hp
    rcases orMask_bit b _ 0 p hp with h | ⟨e, he, hb, h⟩
    · simp at h
    · have he' := Array.mem_toList_iff.1 he
      have hl := hall e he' hb
      rcases h with rfl | h
      · exact hl
      · have hlt := hS.edges i oi hi e he' hb
        have hsz : i < ops.size := (Array.getElem?_eq_some_iff.1 hi).1
        have hoe : ops[e.on]? = some ops[e.on] := Array.getElem?_eq_getElem (by omega)
        exact ih e.on hlt _ hoe (hc e.on _ hoe hl) p h
theorem front {b : Array Nat} (hS : Serial P ops b) {R : Act → World → Prop} (hF : Fin P ops R) {i : Nat} {oi : Oper} (hi : ops[i]? = some oi) (post : List Nat) (hpost : ∀ k ∈ post, i < k) :
    ∀ (pre : List Nat), (pre.Pairwise (· < ·)) → (∀ p ∈ pre, p < i ∧ p < ops.size ∧ (b.getD i 0).testBit p = false) → ∀ (a : Act) (w : World),
      wpOps P ops (Exit.then R (fun _ _ _ => False)) (pre ++ i :: post) a w → wpOps P ops (Exit.then R (fun _ _ _ => False)) (i :: (pre ++ post)) a w := by
  intro pre
  induction pre with
  | nil => exact fun _ _ a w h => h
  | cons p pre ih =>
    intro hsorted hpre a w h
    obtain ⟨hs1, hs2⟩ := List.pairwise_cons.1 hsorted
    obtain ⟨hpi, hpn, hpb⟩ := hpre p (List.mem_cons_self ..)
    have hop : ops[p]? = some ops[p] := Array.getElem?_eq_getElem hpn
    have h1 : wpOps P ops (Exit.then R (fun _ _ _ => False)) (p :: i :: (pre ++ post)) a w := by
      rw [List.cons_append, wpOps_cons] at h
      rw [wpOps_cons]
      exact wpOp_mono (fun a w h => ih hs2 (fun q hq => hpre q (List.mem_cons_of_mem _ hq)) a w h) h
    rcases hS.pair i oi hi p _ hpi hop with h2 | ⟨hap, hap', hq⟩
    · rw [hpb] at h2; cases h2
    · rcases hq with hq | ⟨hq1, hq2⟩
      case inr => exact swap_loads hi hop hap' (hS.sel i oi hi) (hS.sel p _ hop) hq2 hq1 h1
      refine swap hF hi hop hap' hap (hS.sel i oi hi) (hS.sel p _ hop) ?_ h1
      rcases hq with hq | hq
      · refine .inr ⟨hq, ?_⟩
        rcases Bool.eq_false_or_eq_true (easy ops[p].op) with he | he
        · exact .inl he
        refine .inr ⟨hS.spares p _ hop hq he p _ (Nat.le_refl _) hop, fun k hk ok hok => hS.spares p _ hop hq he k ok ?_ hok⟩
        rcases List.mem_append.1 hk with hk | hk
        · exact Nat.le_of_lt (hs1 k hk)
        · have := hpost k hk; omega
      · refine .inl ⟨hq, ?_⟩
        rcases Bool.eq_false_or_eq_true (easy oi.op) with he | he
        · exact .inl he
        refine .inr ⟨hS.spares i oi hi hq he i oi (Nat.le_refl _) hi, fun k hk ok hok t ht e => ?_⟩
        rcases List.mem_append.1 hk with hk | hk
        · obtain ⟨hki, hkn, hkb⟩ := hpre k (List.mem_cons_of_mem _ hk)
          rcases hS.pair i oi hi k ok hki hok with h3 | ⟨h3, _, _⟩
          · rw [hkb] at h3; cases h3
          · exact (Oper.apart_spec h3).1 t e ht
        · exact hS.spares i oi hi hq he k ok (Nat.le_of_lt (hpost k hk)) hok t ht e

theorem any_of_text {b : Array Nat} (hS : Serial P ops b) {R : Act → World → Prop} (hF : Fin P ops R) : ∀ (fuel : Nat) (listed : Array Bool), listed.size = ops.size → Shut ops listed → (unl ops.size listed).length ≤ fuel →
    ∀ (a : Act) (w : World), wpOps P ops (Exit.then R (fun _ _ _ => False)) (unl ops.size listed) a w → wpAny P .any ops (Exit.then R (fun _ _ _ => False)) fuel listed a w := by
  have hmem : ∀ (listed : Array Bool) (i : Nat), i ∈ unl ops.size listed ↔ i < ops.size ∧ listed.getD i true = false := fun listed i => by
    unfold unl
    rw [List.mem_filter, List.mem_range]
    simp
  -- where something is still to come, something may come up
  have hnone : ∀ (listed : Array Bool), listed.size = ops.size → Region.ready .any ops listed = [] → unl ops.size listed = [] := fun listed hsz hr => by
    rcases hu : unl ops.size listed with _ | ⟨m, l⟩
    · rfl
    · exfalso
      have hm : m ∈ unl ops.size listed := by rw [hu]; exact List.mem_cons_self ..
      have hmin : ∀ k, k < m → k < ops.size → listed.getD k false = true := fun k hk hkn => by
        have hso := unl_sorted ops.size listed
        rw [hu] at hso
        have hnot : k ∉ unl ops.size listed := fun hin => by
          rw [hu] at hin
          rcases List.mem_cons.1 hin with rfl | hin
          · omega
          · have := (List.pairwise_cons.1 hso).1 k hin; omega
        have : ¬ (k < ops.size ∧ listed.getD k true = false) := fun h => hnot ((hmem listed k).2 h)
        have hkl : k < listed.size := by omega
        have h2 : listed.getD k true = true := by
          cases h : listed.getD k true
          · exact absurd ⟨hkn, h⟩ this
          · rfl
        simpa [Array.getD, hkl] using h2
      obtain ⟨hmn, hml⟩ := (hmem listed m).1 hm
      have hom : ops[m]? = some ops[m] := Array.getElem?_eq_getElem hmn
      have : m ∈ Region.ready .any ops listed := mem_ready.2 ⟨hml, _, hom, fun e he hb => by
        have hlt := hS.edges m _ hom e he hb
        exact hmin e.on hlt (by omega)⟩
      rw [hr] at this
      cases this
  intro fuel
  induction fuel with
  | zero =>
    intro listed hsz hc hf a w h
    have hu : unl ops.size listed = [] := List.eq_nil_of_length_eq_zero (by omega)
    rw [hu] at h
    refine ⟨?_, h⟩
    rcases hr : Region.ready .any ops listed with _ | ⟨i, l⟩
    · rfl
    · have hi : i ∈ Region.ready .any ops listed := by rw [hr]; exact List.mem_cons_self ..
      obtain ⟨h0, o, ho, _⟩ := mem_ready.1 hi
      have := (hmem listed i).2 ⟨(Array.getElem?_eq_some_iff.1 ho).1, h0⟩
      rw [hu] at this
      cases this
  | succ fuel ih =>
    intro listed hsz hc hf a w h
    refine ⟨fun hr => by rw [hnone listed hsz hr] at h; exact h, fun i hi => ?_⟩
    obtain ⟨h0, oi, ho, hall⟩ := mem_ready.1 hi
    have hin : i < ops.size := (Array.getElem?_eq_some_iff.1 ho).1
    have hiu := (hmem listed i).2 ⟨hin, h0⟩
    have hso := unl_sorted ops.size listed
    rw [sorted_split hso hiu] at h
    have h1 := front hS hF ho ((unl ops.size listed).filter fun k => decide (i < k)) (fun k hk => by simpa using (List.mem_filter.1 hk).2) ((unl ops.size listed).filter fun k => decide (k < i)) (hso.filter _) (fun p hp => by
      obtain ⟨hp1, hp2⟩ := List.mem_filter.1 hp
      obtain ⟨hpn, hpl⟩ := (hmem listed p).1 hp1
      refine ⟨by simpa using hp2, hpn, ?_⟩
      cases hb : (b.getD i 0).testBit p
      · rfl
      · have := listed_of_mask hS hc i oi ho hall p hb
        have hpl' : p < listed.size := by omega
        simp only [Array.getD, hpl', dif_pos] at this hpl
        rw [this] at hpl
        cases hpl) a w h
    rw [wpOps_cons, sorted_rest hso, ← unl_set ops.size listed i (by omega)] at h1
    refine wpOp_mono (fun a' w' h' => ih (listed.setIfInBounds i true) (by simpa using hsz) ?_ ?_ a' w' h') h1
    · intro k ok hk hl e he hb
      rw [getD_set] at hl ⊢
      split
      · rfl
      · split at hl
        · rename_i hik
          obtain ⟨rfl, _⟩ := hik
          rw [ho] at hk
          obtain rfl := Option.some.inj hk
          exact hall e he hb
        · exact hc k ok hk hl e he hb
    · rw [unl_set ops.size listed i (by omega), ← sorted_rest hso i]
      have hlen := congrArg List.length (sorted_split hso hiu)
      simp only [List.length_append, List.length_cons] at hlen ⊢
      omega

/-- A REGION THAT DRAWS ITS ORDER, WALKED IN THE ORDER OF THE TEXT. -/
theorem wp_serial {id : Nat} {l : List Oper} {Q : Exit → Act → World → Prop} {a : Act} {w : World} (hm : P.follows .mixedOrders = true) (b : Array Nat) (hs : serialB P l.toArray b = true)
    (h : wpList P l.toArray (Exit.then (fun a w => goodB P l.toArray a = true ∧ Q .normal a w) (fun _ _ _ => False)) l a w.drew) : (Code.region id l.toArray true).wp P Q a w := by
  have hS := serial_of hs
  have hl : wpOps P l.toArray (Exit.then (fun a w => goodB P l.toArray a = true ∧ Q .normal a w) (fun _ _ _ => False)) (unl l.toArray.size (Array.replicate l.toArray.size false)) a w.drew := by
    have e : unl l.toArray.size (Array.replicate l.toArray.size false) = List.range' 0 l.length := by
      unfold unl
      rw [List.filter_eq_self.2 fun k hk => by have := List.mem_range.1 hk; simp [Array.getD]; simpa using this, List.range_eq_range']
      simp
    rw [e, wpOps_eq_wpList l 0 (by simp)]
    exact h
  have := wp_region_any (id := id) (Q := Exit.then (fun a w => goodB P l.toArray a = true ∧ Q .normal a w) (fun _ _ _ => False)) hm
    (any_of_text hS (fun a w h => h.1) l.toArray.size (Array.replicate l.toArray.size false) (by simp) (fun i oi hi hl => by
      have : i < l.toArray.size := (Array.getElem?_eq_some_iff.1 hi).1
      simp [Array.getD] at hl) (by
        refine Nat.le_trans (List.length_filter_le _ _) ?_
        simp) a w.drew hl)
  refine wp_mono this fun e a w q => ?_
  cases e with
  | normal => exact q.2
  | _ => exact q.elim
/-- What each row stands behind, as bits. -/
def maskOf (ops : Array Oper) : Array Nat := ops.foldl (fun acc o => acc.push (orMask acc o.after.toList 0)) #[]
/-- The same, what the region must hand on behind a name. -/
theorem wp_text {id : Nat} {l : List Oper} {Q : Exit → Act → World → Prop} {a : Act} {w : World} (hm : P.follows .mixedOrders = true) (hs : serialB P l.toArray (maskOf l.toArray) = true)
    (h : ∀ R : Act → World → Prop, (∀ a w, goodB P l.toArray a = true ∧ Q .normal a w → R a w) → wpList P l.toArray (Exit.then R (fun _ _ _ => False)) l a w.drew) : (Code.region id l.toArray true).wp P Q a w :=
  wp_serial hm _ hs (h _ fun _ _ h => h)
end
end Go.Proofs.YtonmmgcibpjahaaGreatDoor
end

section
/- TextIn: A region that draws its order, within a fence that lets everything: walked in the order of the text. -/
namespace Go.Proofs.YtonmmgcibpjahaaGreatDoor
open Go Go.RowKit

section
variable {P : Program} {n : Nat} {ops : Array Oper}
/-- A fence that lets everything. -/
def Wide (F : Fence) : Prop := F = Fence.wide ∨ ∃ l, F = Fence.wide.inRound l
theorem wide0 : Wide Fence.wide := .inl rfl
theorem wide1 (l : Nat) : Wide (Fence.wide.inRound l) := .inr ⟨l, rfl⟩
theorem Wide.fn {F : Fence} (h : Wide F) (f : FuncId) : F.fn f := by rcases h with rfl | ⟨l, rfl⟩ <;> trivial
theorem Wide.depth {F : Fence} (h : Wide F) : F.depth = none := by rcases h with rfl | ⟨l, rfl⟩ <;> rfl
theorem Wide.calls {F : Fence} (h : Wide F) {f : FuncId} {args : Array Value} {w : World} {R : Ending → World → Prop} (hc : Calls P f args w R) : CallsIn F n P f args w R := by
  rcases h with rfl | ⟨l, rfl⟩
  · exact callsIn_wide.2 hc
  · exact (callsIn_wide.2 hc).inRound l
theorem Wide.rows {F : Fence} (h : Wide F) {row : String} {args : Array Value} {w : World} {R : Value → World → Prop} (hc : Rows P row args w R) : RowsIn F n P row args w R := by
  have h0 : RowsIn Fence.wide n P row args w R := fun c cs _ => by
    obtain ⟨v, w', r, s⟩ := hc c cs
    exact ⟨v, w', r, stepsIn_wide.2 s⟩
  rcases h with rfl | ⟨l, rfl⟩
  · exact h0
  · exact h0
def noDefer (op : Op) : Bool := match op with | .defer .. => false | _ => true
theorem upon_in {F : Fence} (hF : Wide F) {o : Oper} {a : Act} {next next' : Act → World → Prop} {R : Act → World → Prop} (hn : ∀ a w, next a w → next' a w) {r : Result Next}
    (h : o.upon P a next (Exit.then R (fun _ _ _ => False)) r) : o.uponIn F n P a next' (Exit.then R (fun _ _ _ => False)) r := by
  have hd : F.depth.isSome = true → 1 ≤ n := fun h => by rw [hF.depth] at h; cases h
  cases r with
  | halt hh w' =>
    cases hh <;> simp only [Oper.upon] at h
    exact h
  | ok x w' =>
    cases x <;> simp only [Oper.upon] at h
    case value v => exact hn _ _ h
    case skip => exact hn _ _ h
    case defer d => exact hn _ _ h
    case enter f args =>
      refine ⟨hd, (hF.calls h).mono ?_⟩
      intro e w'' he
      cases e with
      | returned v => exact hn _ _ he
      | panicked c => exact he
      | outgrown => exact he
    case row r args => exact ⟨hd, (hF.rows h).mono fun v w'' he => hn _ _ he⟩
theorem ops_in {F : Fence} (hF : Wide F) (hnd : ∀ (i : Nat) (o : Oper), ops[i]? = some o → noDefer o.op = true) {R : Act → World → Prop} : ∀ (l : List Nat) (a : Act) (w : World),
    wpOps P ops (Exit.then R (fun _ _ _ => False)) l a w → wpOpsIn F n P ops (Exit.then R (fun _ _ _ => False)) l a w
  | [], a, w, h => h
  | i :: l, a, w, h => by
    rw [wpOps_cons] at h
    unfold wpOp at h
    simp only [wpOpsIn]
    cases ho : ops[i]? with
    | none =>
      simp only [ho] at h
      exact ops_in hF hnd l a w h
    | some o =>
      simp only [ho] at h
      by_cases hw : Region.wanted o (yielded ops a.tmps) = true
      · rw [if_pos hw] at h
        dsimp only
        rw [if_pos hw]
        rcases h with h | ⟨_, h⟩
        · refine ⟨fun f _ => hF.fn f, ?_⟩
          rw [Oper.semAt_plain F a.eval o (fun c hc => by have := hnd i o ho; rw [hc] at this; cases this)]
          exact upon_in hF (fun a w h => ops_in hF hnd l a w h) h
        · exact (straight_out h).elim
      · rw [if_neg hw] at h
        dsimp only
        rw [if_neg hw]
        exact ⟨fun f _ => hF.fn f, ops_in hF hnd l _ w h⟩
/-- A REGION THAT DRAWS ITS ORDER, WITHIN A FENCE, WALKED IN THE ORDER OF THE TEXT (by the walk without a fence). -/
theorem wpIn_text {F : Fence} (hF : Wide F) {id : Nat} {l : List Oper} {Q : Exit → Act → World → Prop} {a : Act} {w : World} (hm : P.follows .mixedOrders = true) (hs : serialB P l.toArray (maskOf l.toArray) = true) (hd : (l.all fun o => noDefer o.op) = true)
    (h : ∀ R : Act → World → Prop, (∀ a w, goodB P l.toArray a = true ∧ Q .normal a w → R a w) → wpList P l.toArray (Exit.then R (fun _ _ _ => False)) l a w.drew) : (Code.region id l.toArray true).wpIn F n P Q a w := by
  have hS := serial_of hs
  have h := h _ (fun _ _ h => h)
  have hl : wpOps P l.toArray (Exit.then (fun a w => goodB P l.toArray a = true ∧ Q .normal a w) (fun _ _ _ => False)) (unl l.toArray.size (Array.replicate l.toArray.size false)) a w.drew := by
    have e : unl l.toArray.size (Array.replicate l.toArray.size false) = List.range' 0 l.length := by
      unfold unl
      rw [List.filter_eq_self.2 fun k hk => by have := List.mem_range.1 hk; simp [Array.getD]; simpa using this, List.range_eq_range']
      simp
    rw [e, wpOps_eq_wpList l 0 (by simp)]
    exact h
  have hany := any_of_text hS (fun a w h => h.1) l.toArray.size (Array.replicate l.toArray.size false) (by simp) (fun i oi hi hl => by
      have : i < l.toArray.size := (Array.getElem?_eq_some_iff.1 hi).1
      simp [Array.getD] at hl) (by
        refine Nat.le_trans (List.length_filter_le _ _) ?_
        simp) a w.drew hl
  have hnd : ∀ (i : Nat) (o : Oper), l.toArray[i]? = some o → noDefer o.op = true := fun i o hi => List.all_eq_true.1 hd o (by
    rw [List.getElem?_toArray] at hi
    exact List.mem_of_getElem? hi)
  refine wpIn_mono (wpIn_region_draw (Q := Exit.then (fun a w => goodB P l.toArray a = true ∧ Q .normal a w) (fun _ _ _ => False)) fun t => ?_) fun e a w q => ?_
  · simp only [Region.schedule, hm, Bool.true_or, if_true]
    exact ops_in hF hnd _ _ _ (wpAny_sound l.toArray.size t _ a _ hany)
  · cases e with
    | normal => exact q.2
    | _ => exact q.elim
end
end Go.Proofs.YtonmmgcibpjahaaGreatDoor
end

section
/- Env: A region that draws its order and writes nothing that was there, within a fence that lets everything: each operation's value is known ahead. -/
namespace Go.Proofs.YtonmmgcibpjahaaGreatDoor
open Go Go.RowKit

/-- What a slot holds in the end. -/
def valOf (D : List Nat) (V : List Value) (s : Nat) : Value := V.getD (D.idxOf s) undef
theorem frameOf_tmps (D : List Nat) (x : Nat → Value) : ∀ (a : Act) (s : Nat), (frameOf a D x).tmps[s]? = if s ∈ D ∧ s < a.tmps.size then some (x s) else a.tmps[s]? := by
  unfold frameOf
  induction D with
  | nil => intro a s; simp
  | cons d D ih =>
    intro a s
    rw [List.foldl_cons, ih]
    simp only [Act.put, Array.size_setIfInBounds, Array.getElem?_setIfInBounds, List.mem_cons]
    by_cases h1 : s ∈ D
    · by_cases h2 : s < a.tmps.size
      · simp [h1, h2]
      · have h4 : a.tmps[s]? = none := Array.getElem?_eq_none (by omega)
        by_cases h3 : d = s <;> simp [h1, h2, h3]
    · by_cases h2 : s = d
      · subst h2
        by_cases h3 : s < a.tmps.size <;> simp [h1, h3]
      · have h3 : ¬ d = s := fun e => h2 e.symm
        simp [h1, h2, h3]
theorem frameOf_defers (D : List Nat) (x : Nat → Value) : ∀ a : Act, (frameOf a D x).defers = a.defers := by
  unfold frameOf
  induction D with
  | nil => intro a; rfl
  | cons d D ih => intro a; rw [List.foldl_cons, ih]; rfl
theorem frameOf_put (D : List Nat) (x : Nat → Value) (a : Act) (d : Nat) (hd : d ∈ D) (v : Value) : (frameOf a D x).put (some d) v = frameOf a D (upd x d v) := by
  have h1 : ((frameOf a D x).put (some d) v).tmps = (frameOf a D (upd x d v)).tmps := by
    apply Array.ext_getElem?
    intro s
    have hsz : (frameOf a D x).tmps.size = a.tmps.size := by
      unfold frameOf
      clear hd
      induction D generalizing a with
      | nil => rfl
      | cons d D ih => rw [List.foldl_cons, ih]; simp [Act.put]
    simp only [Act.put, Array.getElem?_setIfInBounds, frameOf_tmps, hsz]
    by_cases h : d = s
    · subst h
      rw [upd_same]
      by_cases h2 : d < a.tmps.size <;> simp [h2, hd]
    · rw [if_neg h, upd_other x v (fun e => h e.symm)]
  have h2 : ((frameOf a D x).put (some d) v).defers = (frameOf a D (upd x d v)).defers := by
    rw [frameOf_defers]
    exact frameOf_defers D x a
  generalize (frameOf a D x).put (some d) v = p at h1 h2
  generalize frameOf a D (upd x d v) = q at h1 h2
  cases p
  cases q
  simp only at h1 h2
  subst h1 h2
  rfl
theorem frameOf_congr (D : List Nat) (x y : Nat → Value) (a : Act) (h : ∀ s ∈ D, x s = y s) : frameOf a D x = frameOf a D y := by
  unfold frameOf
  induction D generalizing a with
  | nil => rfl
  | cons d D ih =>
    rw [List.foldl_cons, List.foldl_cons, h d (by simp)]
    exact ih _ fun s hs => h s (by simp [hs])
def putAll : Act → List Nat → List Value → Act
  | a, d :: D, v :: V => putAll (a.put (some d) v) D V
  | a, _, _ => a
theorem putAll_eq : ∀ (D : List Nat) (V : List Value) (a : Act) (x : Nat → Value), V.length = D.length → (∀ i, i < D.length → x (D.getD i 0) = V.getD i undef) → frameOf a D x = putAll a D V
  | [], [], a, x, _, _ => rfl
  | [], _ :: _, _, _, h, _ => by cases h
  | _ :: _, [], _, _, h, _ => by cases h
  | d :: D, v :: V, a, x, hl, h => by
    have h0 : x d = v := h 0 (by simp)
    show frameOf (a.put (some d) (x d)) D x = putAll (a.put (some d) v) D V
    rw [h0]
    exact putAll_eq D V _ x (by simpa using hl) fun i hi => by have := h (i + 1) (by simpa using hi); simpa using this
section
variable {P : Program} {n : Nat} {ops : Array Oper}
/-- What is asked of the region itself. -/
def envB (ops : Array Oper) (D : List Nat) : Bool :=
  invB ops D && (List.range ops.size).all fun i => match ops[i]? with
    | some o => (match o.op with | .defer .. => false | .select .. => false | _ => true) && (o.dst == some (D.getD i 0)) &&
      (o.looksAt ops).all fun s => !D.contains s || (List.range i).any fun j => D.getD j 0 == s && o.after.any fun e => Region.binds .any e && e.on == j
    | none => true
/-- What one operation does: it yields v, and writes nothing that was there. -/
def envRes (P : Program) (v : Value) (w : World) : Result Next → Prop
  | .ok (.value u) w' => u = v ∧ Below w.heap.size w w'
  | .ok (.enter f args) w' => w' = w ∧ Calls P f args w fun e w'' => e = .returned v ∧ Below w.heap.size w w''
  | _ => False
def EnvStep (P : Program) (ops : Array Oper) (fin : Act) (w0 : World) (o : Oper) (v : Value) : Prop :=
  (Region.wanted o (yielded ops fin.tmps) = false ∧ v = undef) ∨ (Region.wanted o (yielded ops fin.tmps) = true ∧ ∀ w, Below w0.heap.size w0 w → envRes P v w ((execOp fin.eval o).run P w))
def EnvSteps (P : Program) (ops : Array Oper) (fin : Act) (w0 : World) : List Oper → List Value → Prop
  | o :: l, v :: V => EnvStep P ops fin w0 o v ∧ EnvSteps P ops fin w0 l V
  | [], [] => True
  | _, _ => False
theorem envSteps_at {fin : Act} {w0 : World} : ∀ {l : List Oper} {V : List Value}, EnvSteps P ops fin w0 l V → ∀ {j : Nat} {o : Oper}, l[j]? = some o → EnvStep P ops fin w0 o (V.getD j undef)
  | [], _, _, _, _, h => by simp at h
  | _ :: _, [], hs, _, _, _ => hs.elim
  | x :: l, v :: V, hs, 0, o, h => by
    simp only [List.getElem?_cons_zero, Option.some.injEq] at h
    subst h
    exact hs.1
  | x :: l, v :: V, hs, j + 1, o, h => by
    rw [List.getElem?_cons_succ] at h
    simpa using envSteps_at hs.2 h
theorem envSteps_len {fin : Act} {w0 : World} : ∀ {l : List Oper} {V : List Value}, EnvSteps P ops fin w0 l V → V.length = l.length
  | [], [], _ => rfl
  | [], _ :: _, h => h.elim
  | _ :: _, [], h => h.elim
  | _ :: l, _ :: V, h => by simp [envSteps_len h.2]
theorem idxOf_getD {D : List Nat} (hnd : D.Nodup) {i : Nat} (hi : i < D.length) : D.idxOf (D.getD i 0) = i := by
  rw [List.getD_eq_getElem?_getD, List.getElem?_eq_getElem hi, Option.getD_some]
  exact List.Nodup.idxOf_getElem hnd i hi
theorem stepsF_of {F : Fence} (hF : Wide F) {a fin : Act} {D : List Nat} {V : List Value} {w0 : World} (hb : envB ops D = true) (hV : V.length = D.length) (hfin : frameOf a D (valOf D V) = fin) :
    ∀ (l : List Oper) (k : Nat), (∀ j, l[j]? = ops[k + j]?) → (∀ j o, l[j]? = some o → EnvStep P ops fin w0 o (V.getD (k + j) undef)) → StepsF F n P ops a D (V.map Fact.is) w0 k l
  | [], _, _, _ => trivial
  | o :: l, k, hk, hs => by
    refine ⟨?_, stepsF_of hF hb hV hfin l (k + 1) (fun j => by have := hk (j + 1); simpa [Nat.add_assoc, Nat.add_comm 1 j] using this) fun j o' h => by have := hs (j + 1) o' (by simpa using h); simpa [Nat.add_assoc, Nat.add_comm 1 j] using this⟩
    have ho : ops[k]? = some o := by simpa using (hk 0).symm
    have hkl := (Array.getElem?_eq_some_iff.1 ho).1
    have hst : EnvStep P ops fin w0 o (V.getD k undef) := hs 0 o rfl
    unfold envB at hb
    rw [Bool.and_eq_true] at hb
    obtain ⟨hi, hb⟩ := hb
    simp only [invB, Bool.and_eq_true, decide_eq_true_eq] at hi
    obtain ⟨⟨-, hlen⟩, hnd⟩ := hi
    have hb := List.all_eq_true.1 hb k (List.mem_range.2 hkl)
    rw [ho] at hb
    simp only [Bool.and_eq_true] at hb
    obtain ⟨⟨hop, hdst⟩, hlook⟩ := hb
    have hndf : ∀ c, o.op ≠ .defer c := fun c hc => by rw [hc] at hop; cases hop
    have hnsl : ∀ cs b, o.op ≠ .select cs b := fun c b hc => by rw [hc] at hop; cases hop
    intro x w R hB hf hR
    -- the slots that it looks at
    have hsame : ∀ s, s ∈ o.looksAt ops → (frameOf a D x).tmps[s]? = fin.tmps[s]? := by
      intro s hs
      rw [← hfin, frameOf_tmps, frameOf_tmps]
      by_cases hD : s ∈ D
      · have := List.all_eq_true.1 hlook s hs
        rw [Bool.or_eq_true] at this
        rcases this with h | h
        · simp [hD] at h
        · obtain ⟨j, hj, hj2⟩ := List.any_eq_true.1 h
          rw [Bool.and_eq_true] at hj2
          obtain ⟨hjs, hje⟩ := hj2
          have hjs : D.getD j 0 = s := by simpa using hjs
          have hjk := List.mem_range.1 hj
          have h1 := hf j hje
          have hjl : j < D.length := by omega
          rw [hjs] at h1
          have h2 : x s = valOf D V s := by
            have e : D.idxOf s = j := by rw [← hjs]; exact idxOf_getD hnd hjl
            unfold valOf
            rw [e]
            rw [List.getD_eq_getElem?_getD, List.getElem?_map, List.getElem?_eq_getElem (show j < V.length by omega)] at h1
            rw [List.getD_eq_getElem?_getD, List.getElem?_eq_getElem (show j < V.length by omega)]
            exact h1
          rw [h2]
      · simp [hD]
    have hev : ∀ y ∈ o.op.operands, (frameOf a D x).eval y = fin.eval y := by
      intro y hy
      cases y with
      | tmp s =>
        have h1 := hsame s (List.mem_append_left _ (List.mem_filterMap.2 ⟨.tmp s, by simpa using hy, rfl⟩))
        show (frameOf a D x).tmps.getD s undef = fin.tmps.getD s undef
        simp only [Array.getD_eq_getD_getElem?, h1]
      | _ => rfl
    have hex := execOp_congr (ρ := (frameOf a D x).eval) (ρ' := fin.eval) o hnsl hev
    have hwa : Region.wanted o (yielded ops (frameOf a D x).tmps) = Region.wanted o (yielded ops fin.tmps) := by
      unfold Region.wanted
      cases hg : o.guard with
      | none => rfl
      | some g =>
        obtain ⟨g, b⟩ := g
        dsimp only
        unfold yielded
        cases hd : (ops[g]?).bind (·.dst) with
        | none => rfl
        | some d =>
          have h1 := hsame d (List.mem_append_right _ (by rw [hg]; simp [hd]))
          simp only [Option.bind_some, h1]
    have hdst : o.dst = some (D.getD k 0) := by simpa using hdst
    have hkD : k < D.length := by omega
    have hmem : D.getD k 0 ∈ D := by rw [List.getD_eq_getElem?_getD, List.getElem?_eq_getElem hkD]; exact List.getElem_mem hkD
    have hput : ∀ v, (frameOf a D x).put o.dst v = frameOf a D (upd x (D.getD k 0) v) := fun v => by rw [hdst]; exact frameOf_put D x a _ hmem v
    have hfk : ∀ w', ((V.map Fact.is).getD k .any).p (V.getD k undef) w' := by
      intro w'
      rw [List.getD_eq_getElem?_getD, List.getD_eq_getElem?_getD, List.getElem?_map, List.getElem?_eq_getElem (show k < V.length by omega)]
      rfl
    unfold wpListIn
    rw [hwa]
    rcases hst with ⟨h1, h2⟩ | ⟨h1, h2⟩
    · rw [if_neg (by rw [h1]; simp)]
      refine ⟨fun f _ => hF.fn f, ?_⟩
      rw [hput]
      exact hR _ _ (h2 ▸ hfk w) (Below.refl _ _)
    · rw [if_pos h1]
      refine ⟨fun f _ => hF.fn f, ?_⟩
      rw [Oper.semAt_plain F _ o hndf, hex]
      have h3 := h2 w hB
      generalize (execOp fin.eval o).run P w = r at h3
      cases r with
      | halt hh w' => exact h3.elim
      | ok nx w' =>
        cases nx with
        | value u =>
          obtain ⟨rfl, hbw⟩ := h3
          rw [Oper.uponIn_value, hput]
          exact hR _ _ (hfk w') hbw
        | enter f args =>
          obtain ⟨rfl, hc⟩ := h3
          rw [Oper.uponIn_enter]
          refine ⟨(fun h => by rw [hF.depth] at h; cases h), (hF.calls hc).mono ?_⟩
          rintro e w'' ⟨rfl, hbw⟩
          show wpListIn F n P ops _ [] ((frameOf a D x).put o.dst (V.getD k undef)) w''
          rw [hput]
          exact hR _ _ (hfk w'') hbw
        | _ => exact h3.elim
/-- A REGION THAT DRAWS ITS ORDER, WITHIN A FENCE. D: each operation's slot; V: what it yields; fin: the frame in the end. -/
theorem wpIn_env {F : Fence} (hF : Wide F) {id : Nat} {l : List Oper} {Q : Exit → Act → World → Prop} {a : Act} {w : World} (hm : P.follows .mixedOrders = true) (D : List Nat) (V : List Value) (hb : envB l.toArray D = true) {fin : Act} (hfin : putAll a D V = fin)
    (hstep : EnvSteps P l.toArray fin w l V) (hend : ∀ w', Below w.heap.size w w' → Q .normal fin w') : (Code.region id l.toArray true).wpIn F n P Q a w := by
  have hb' := hb
  unfold envB at hb'
  rw [Bool.and_eq_true] at hb'
  obtain ⟨hi, -⟩ := hb'
  have hi' := hi
  simp only [invB, Bool.and_eq_true, decide_eq_true_eq] at hi'
  obtain ⟨⟨-, hlen⟩, hnd⟩ := hi'
  have hV : V.length = D.length := by rw [envSteps_len hstep, hlen]; simp
  have hfin : frameOf a D (valOf D V) = fin := by
    rw [← hfin]
    exact putAll_eq D V a _ hV fun i hi => by unfold valOf; rw [idxOf_getD hnd hi]
  refine wpIn_facts hm D (V.map Fact.is) hi (stepsF_of hF hb hV hfin l 0 (fun j => by simp) fun j o h => by rw [Nat.zero_add]; exact envSteps_at hstep h) fun x w' hbw hx => ?_
  have e : frameOf a D x = fin := by
    rw [← hfin]
    refine frameOf_congr D _ _ a fun s hs => ?_
    obtain ⟨j, hj, rfl⟩ := List.getElem_of_mem hs
    have h1 := hx j (by omega)
    rw [List.getD_eq_getElem?_getD, List.getElem?_map, List.getElem?_eq_getElem (show j < V.length by omega), List.getD_eq_getElem?_getD, List.getElem?_eq_getElem hj] at h1
    have h1 : x D[j] = V[j]'(by omega) := h1
    unfold valOf
    rw [List.Nodup.idxOf_getElem hnd j hj, List.getD_eq_getElem?_getD, List.getElem?_eq_getElem (show j < V.length by omega), Option.getD_some]
    exact h1
  rw [e]
  exact hend w' hbw
/-- The same, in no fence. -/
theorem wp_env {id : Nat} {l : List Oper} {Q : Exit → Act → World → Prop} {a : Act} {w : World} (hm : P.follows .mixedOrders = true) (D : List Nat) (V : List Value) (hb : envB l.toArray D = true) {fin : Act} (hfin : putAll a D V = fin)
    (hstep : EnvSteps P l.toArray fin w l V) (hend : ∀ w', Below w.heap.size w w' → Q .normal fin w') : (Code.region id l.toArray true).wp P Q a w :=
  (wpIn_wide (n := 8)).1 (wpIn_env wide0 hm D V hb hfin hstep hend)
end
end Go.Proofs.YtonmmgcibpjahaaGreatDoor
end

section
/- NKind: Layer 12's Kind, walked. -/
namespace Go.Proofs.YtonmmgcibpjahaaGreatDoor
open Go Go.RowKit Go.Shelf
set_option maxRecDepth 100000

theorem contains_at (f : ByteArray) (hs : f.size < 4294967281) (m : ByteArray) (b : Bool) (h : Lib.contains f.data.toList m.data.toList = b) (w : World) (hm : Tryz.MaxL w) :
    Calls Tryz.prog 93 #[.string f, .string m] w fun e w' => e = .returned (.bool b) ∧ w = w' := (Tryz.strings_Contains f m w hs hm).mono fun e w' ⟨h1, h2⟩ => ⟨by rw [h1, h], h2.symm⟩
theorem replaceK_len (old : List UInt8) : ∀ (k : Nat) (s : List UInt8), (Lib.replaceK old [] k s).length ≤ s.length
  | 0, s => Nat.le_refl _
  | k + 1, s => by
    unfold Lib.replaceK
    split
    · exact Nat.le_refl _
    · have := replaceK_len old k (s.drop ((Lib.index s old).toNat + old.length))
      simp only [List.length_append, List.length_take, List.length_nil, List.length_drop] at *
      omega
theorem replace_len (s old : List UInt8) : (Lib.replace s old [] 1).length ≤ s.length := by
  unfold Lib.replace
  split
  · exact Nat.le_refl _
  · exact replaceK_len _ _ _
theorem replace_at (f : ByteArray) (hs : f.size < 4294967281) (m : ByteArray) (h1 : 1 ≤ m.size) (w : World) (hm : Tryz.MaxL w) :
    Calls Tryz.prog 76 #[.string f, .string m, .string ⟨#[]⟩, .int .i64 1] w fun e w' => e = .returned (.string ⟨(Lib.replace f.data.toList m.data.toList [] 1).toArray⟩) ∧ Below w.heap.size w w' :=
  Tryz.strings_Replace f m ⟨#[]⟩ 1 w hs hm h1 (by show f.size + _ * 0 ≤ _; omega)
def abcS : ByteArray := ⟨#[97, 98, 99, 100, 101, 102, 103, 104, 105, 106, 107, 108, 109, 110, 111, 112, 113, 114, 115, 116, 117, 118, 119, 120, 121, 122, 65, 66, 67, 68, 69, 70, 71, 72, 73, 74, 75, 76, 77, 78, 79, 80, 81, 82, 83, 84, 85, 86, 87, 88, 89, 90, 48, 49, 50, 51, 52, 53, 54, 55, 56, 57, 43, 45]⟩
theorem trim_at (p : ByteArray) (hs : p.size ≤ 9223372036854775807) (l : List UInt8) (hl : Lib.trimS p.data.toList abcB = l) (w : World) :
    Calls Tryz.prog 94 #[.string p, .string abcS] w fun e w' => e = .returned (.string ⟨l.toArray⟩) ∧ Below w.heap.size w w' := by
  subst hl
  exact Tryz.strings_Trim p abcS w hs (by decide) (Go.Proofs.ascii_of_all (by decide))
set_option maxHeartbeats 4000000 in
theorem kind_any (f : ByteArray) (w : World) (hs : f.size < 4294967281) (hm : Tryz.MaxL w) :
    Calls Tryz.prog 70 #[.string f] w fun e w' => e = .returned (.tuple #[.int .i64 (kindR f.data.toList).1, .int .i64 (kindR f.data.toList).2]) ∧ Below w.heap.size w w' := by
  have HM : ∀ W, Below w.heap.size w W → Tryz.MaxL W := fun W hb => hm.below hb (Nat.le_refl _)
  by_cases h1 : Lib.contains f.data.toList [37, 115] = true
  · have HT := contains_at f hs ⟨#[37, 115]⟩ true h1
    go_enter Tryz.func70, Tryz.ntmps70
    go_wp2_with fail
    refine wp_loop_rounds 4 ?_
    rw [rounds_succ]
    go_wp2_with fail
    refine (HT _ (HM _ (((Below.refl _ _).alloc (Nat.le_refl _) _).alloc (by simp) _))).mono ?_
    rintro e w1 ⟨rfl, rfl⟩
    go_wp2_with fail
    refine wp_env (fin := ?fn0) (by kernel_rfl) [23, 24, 25, 26, 27, 28, 4, 5]
      [.string f, .pointer (some ⟨w.heap.size + 1, 0, none⟩), .string ⟨#[37, 115]⟩, .string ⟨(Lib.replace f.data.toList [37, 115] [] 1).toArray⟩, .pointer (some ⟨w.heap.size + 1, 1, none⟩), .int .i64 1, .string ⟨(Lib.replace f.data.toList [37, 115] [] 1).toArray⟩, .int .i64 1] (by kernel_rfl) ?fin0 ?steps0 ?next0
    case fin0 => simp only [putAll, Act.put, List.setIfInBounds_toArray, List.set_cons_succ, List.set_cons_zero]; rfl
    case steps0 =>
      refine ⟨?_, ?_, ?_, ?_, ?_, ?_, ?_, ?_, trivial⟩
      all_goals
        refine .inr ⟨by kernel_rfl, fun w1_ hB => ?_⟩
        have hb := blk_behind hB
        simp only [World.size_alloc] at hb
        have q0 := hb.cell 0 (v := .string ⟨#[37, 115]⟩) rfl
        have q1 := hb.cell 1 (v := .int .i64 1) rfl
        have hbw := (((Below.refl _ _).alloc (Nat.le_refl _) _).alloc (by simp) _).trans (hB.mono (by simp; omega))
        clear hb hB
        go_simp
        first | exact ⟨rfl, Below.refl _ _⟩ | exact ⟨rfl, replace_at f hs ⟨#[37, 115]⟩ (by decide) _ (HM _ hbw)⟩
    case next0 =>
      intro W4 hB4
      have hB := (((Below.refl _ _).alloc (Nat.le_refl _) _).alloc (by simp) _).trans (hB4.mono (by simp; omega))
      clear hB4
      have hp : f.data.toList ≠ [] := contains_ne (by decide) h1
      have hne : ¬ f.toList = [] := by rw [Lib.toList_data]; exact hp
      have hne2 : f.toList.isEmpty = false := by cases e : f.toList with | nil => exact absurd e hne | cons a l => rfl
      have hk : kindP f.data.toList = (1, Lib.replace f.data.toList [37, 115] [] 1) := by unfold kindP; rw [if_pos h1]
      have hz : (Lib.replace f.data.toList [37, 115] [] 1).length ≤ f.size := by have := replace_len f.data.toList [37, 115]; simpa using this
      by_cases hl : 64 < (f.size : Int)
      · have HB := Lib.hid (kindR_bad (bad_long (f := f.data.toList) (by rw [Array.length_toList]; show 64 < f.size; omega)))
        clear hk hz hp
        go_wp2_with fail
        all_goals (go_ret2; exact ⟨by rw [HB.out]; rfl, hB⟩)
      · have HK := Lib.hid (fun h => kindR_ok (bad_not hk hp (by rw [Array.length_toList]; show ¬ 64 < f.size; omega) (edge_not hk (by decide)) h) hk)
        have HN := Lib.hid (fun h => kindR_bad (bad_trim hk h))
        clear hk hp
        generalize Lib.replace f.data.toList [37, 115] [] 1 = p at *
        go_wp2_with fail
        refine (trim_at _ (by show p.toArray.size ≤ _; simp; omega) (Lib.trimS p abcB) rfl _).mono ?_
        rintro e w5 ⟨rfl, hb5⟩
        generalize Lib.trimS p abcB = z at *
        have hb6 := hB.trans (hb5.mono hB.size)
        clear hb5 hB
        by_cases he : z = []
        · have he2 : (!z.isEmpty) = false := by rw [he]; rfl
          have HB := Lib.hid (HK.out he)
          clear he HK HN
          go_wp2_with fail
          go_ret2
          exact ⟨by rw [HB.out]; rfl, hb6⟩
        · have he2 : (!z.isEmpty) = true := by cases z with | nil => exact absurd rfl he | cons a l => rfl
          have HB := Lib.hid (HN.out he)
          clear he HK HN
          go_wp2_with fail
          go_ret2
          exact ⟨by rw [HB.out]; rfl, hb6⟩
  · skip
    by_cases h2 : Lib.contains f.data.toList [37, 122] = true
    · have HT := contains_at f hs ⟨#[37, 122]⟩ true h2
      have HF1 := contains_at f hs ⟨#[37, 115]⟩ false (by simpa using h1)
      go_enter Tryz.func70, Tryz.ntmps70
      go_wp2_with fail
      refine wp_loop_rounds 4 ?_
      rw [rounds_succ]
      go_wp2_with fail
      refine (HF1 _ (HM _ (((Below.refl _ _).alloc (Nat.le_refl _) _).alloc (by simp) _))).mono ?_
      rintro e w1 ⟨rfl, rfl⟩
      go_wp2_with fail
      rw [rounds_succ]
      go_wp2_with fail
      refine (HT _ (HM _ ((((Below.refl _ _).alloc (Nat.le_refl _) _).alloc (by simp) _).alloc (by simp; omega) _))).mono ?_
      rintro e w1 ⟨rfl, rfl⟩
      go_wp2_with fail
      refine wp_env (fin := ?fn1) (by kernel_rfl) [23, 24, 25, 26, 27, 28, 4, 5]
        [.string f, .pointer (some ⟨w.heap.size + 1 + 1, 0, none⟩), .string ⟨#[37, 122]⟩, .string ⟨(Lib.replace f.data.toList [37, 122] [] 1).toArray⟩, .pointer (some ⟨w.heap.size + 1 + 1, 1, none⟩), .int .i64 2, .string ⟨(Lib.replace f.data.toList [37, 122] [] 1).toArray⟩, .int .i64 2] (by kernel_rfl) ?fin1 ?steps1 ?next1
      case fin1 => simp only [putAll, Act.put, List.setIfInBounds_toArray, List.set_cons_succ, List.set_cons_zero]; rfl
      case steps1 =>
        refine ⟨?_, ?_, ?_, ?_, ?_, ?_, ?_, ?_, trivial⟩
        all_goals
          refine .inr ⟨by kernel_rfl, fun w1_ hB => ?_⟩
          have hb := blk_behind hB
          simp only [World.size_alloc] at hb
          have q0 := hb.cell 0 (v := .string ⟨#[37, 122]⟩) rfl
          have q1 := hb.cell 1 (v := .int .i64 2) rfl
          have hbw := ((((Below.refl _ _).alloc (Nat.le_refl _) _).alloc (by simp) _).alloc (by simp; omega) _).trans (hB.mono (by simp; omega))
          clear hb hB
          go_simp
          first | exact ⟨rfl, Below.refl _ _⟩ | exact ⟨rfl, replace_at f hs ⟨#[37, 122]⟩ (by decide) _ (HM _ hbw)⟩
      case next1 =>
        intro W4 hB4
        have hB := ((((Below.refl _ _).alloc (Nat.le_refl _) _).alloc (by simp) _).alloc (by simp; omega) _).trans (hB4.mono (by simp; omega))
        clear hB4
        have hp : f.data.toList ≠ [] := contains_ne (by decide) h2
        have hne : ¬ f.toList = [] := by rw [Lib.toList_data]; exact hp
        have hne2 : f.toList.isEmpty = false := by cases e : f.toList with | nil => exact absurd e hne | cons a l => rfl
        have hk : kindP f.data.toList = (2, Lib.replace f.data.toList [37, 122] [] 1) := by unfold kindP; rw [if_neg h1, if_pos h2]
        have hz : (Lib.replace f.data.toList [37, 122] [] 1).length ≤ f.size := by have := replace_len f.data.toList [37, 122]; simpa using this
        by_cases hl : 64 < (f.size : Int)
        · have HB := Lib.hid (kindR_bad (bad_long (f := f.data.toList) (by rw [Array.length_toList]; show 64 < f.size; omega)))
          clear hk hz hp
          go_wp2_with fail
          all_goals (go_ret2; exact ⟨by rw [HB.out]; rfl, hB⟩)
        · have HK := Lib.hid (fun h => kindR_ok (bad_not hk hp (by rw [Array.length_toList]; show ¬ 64 < f.size; omega) (edge_not hk (by decide)) h) hk)
          have HN := Lib.hid (fun h => kindR_bad (bad_trim hk h))
          clear hk hp
          generalize Lib.replace f.data.toList [37, 122] [] 1 = p at *
          go_wp2_with fail
          refine (trim_at _ (by show p.toArray.size ≤ _; simp; omega) (Lib.trimS p abcB) rfl _).mono ?_
          rintro e w5 ⟨rfl, hb5⟩
          generalize Lib.trimS p abcB = z at *
          have hb6 := hB.trans (hb5.mono hB.size)
          clear hb5 hB
          by_cases he : z = []
          · have he2 : (!z.isEmpty) = false := by rw [he]; rfl
            have HB := Lib.hid (HK.out he)
            clear he HK HN
            go_wp2_with fail
            go_ret2
            exact ⟨by rw [HB.out]; rfl, hb6⟩
          · have he2 : (!z.isEmpty) = true := by cases z with | nil => exact absurd rfl he | cons a l => rfl
            have HB := Lib.hid (HN.out he)
            clear he HK HN
            go_wp2_with fail
            go_ret2
            exact ⟨by rw [HB.out]; rfl, hb6⟩
    · skip
      by_cases h3 : Lib.contains f.data.toList [47] = true
      · have HT := contains_at f hs ⟨#[47]⟩ true h3
        have HF1 := contains_at f hs ⟨#[37, 115]⟩ false (by simpa using h1)
        have HF2 := contains_at f hs ⟨#[37, 122]⟩ false (by simpa using h2)
        go_enter Tryz.func70, Tryz.ntmps70
        go_wp2_with fail
        refine wp_loop_rounds 4 ?_
        rw [rounds_succ]
        go_wp2_with fail
        refine (HF1 _ (HM _ (((Below.refl _ _).alloc (Nat.le_refl _) _).alloc (by simp) _))).mono ?_
        rintro e w1 ⟨rfl, rfl⟩
        go_wp2_with fail
        rw [rounds_succ]
        go_wp2_with fail
        refine (HF2 _ (HM _ ((((Below.refl _ _).alloc (Nat.le_refl _) _).alloc (by simp) _).alloc (by simp; omega) _))).mono ?_
        rintro e w1 ⟨rfl, rfl⟩
        go_wp2_with fail
        rw [rounds_succ]
        go_wp2_with fail
        refine (HT _ (HM _ (((((Below.refl _ _).alloc (Nat.le_refl _) _).alloc (by simp) _).alloc (by simp; omega) _).alloc (by simp; omega) _))).mono ?_
        rintro e w1 ⟨rfl, rfl⟩
        go_wp2_with fail
        refine wp_env (fin := ?fn2) (by kernel_rfl) [23, 24, 25, 26, 27, 28, 4, 5]
          [.string f, .pointer (some ⟨w.heap.size + 1 + 1 + 1, 0, none⟩), .string ⟨#[47]⟩, .string ⟨(Lib.replace f.data.toList [47] [] 1).toArray⟩, .pointer (some ⟨w.heap.size + 1 + 1 + 1, 1, none⟩), .int .i64 3, .string ⟨(Lib.replace f.data.toList [47] [] 1).toArray⟩, .int .i64 3] (by kernel_rfl) ?fin2 ?steps2 ?next2
        case fin2 => simp only [putAll, Act.put, List.setIfInBounds_toArray, List.set_cons_succ, List.set_cons_zero]; rfl
        case steps2 =>
          refine ⟨?_, ?_, ?_, ?_, ?_, ?_, ?_, ?_, trivial⟩
          all_goals
            refine .inr ⟨by kernel_rfl, fun w1_ hB => ?_⟩
            have hb := blk_behind hB
            simp only [World.size_alloc] at hb
            have q0 := hb.cell 0 (v := .string ⟨#[47]⟩) rfl
            have q1 := hb.cell 1 (v := .int .i64 3) rfl
            have hbw := (((((Below.refl _ _).alloc (Nat.le_refl _) _).alloc (by simp) _).alloc (by simp; omega) _).alloc (by simp; omega) _).trans (hB.mono (by simp; omega))
            clear hb hB
            go_simp
            first | exact ⟨rfl, Below.refl _ _⟩ | exact ⟨rfl, replace_at f hs ⟨#[47]⟩ (by decide) _ (HM _ hbw)⟩
        case next2 =>
          intro W4 hB4
          have hB := (((((Below.refl _ _).alloc (Nat.le_refl _) _).alloc (by simp) _).alloc (by simp; omega) _).alloc (by simp; omega) _).trans (hB4.mono (by simp; omega))
          clear hB4
          have hp : f.data.toList ≠ [] := contains_ne (by decide) h3
          have hne : ¬ f.toList = [] := by rw [Lib.toList_data]; exact hp
          have hne2 : f.toList.isEmpty = false := by cases e : f.toList with | nil => exact absurd e hne | cons a l => rfl
          have hk : kindP f.data.toList = (3, Lib.replace f.data.toList [47] [] 1) := by unfold kindP; rw [if_neg h1, if_neg h2, if_pos h3]
          have hz : (Lib.replace f.data.toList [47] [] 1).length ≤ f.size := by have := replace_len f.data.toList [47]; simpa using this
          have h0 : 0 < f.size := by have := List.length_pos_iff.2 hp; simpa using this
          have hE := edge_at hk h0
          by_cases e0 : (f[0].toNat : Int) = 47
          · have HB := Lib.hid (kindR_bad (bad_edge (hE.trans (by rw [decide_eq_true e0]; rfl))))
            clear hk hz hp hE
            go_wp2_with fail
            all_goals (go_ret2; exact ⟨by rw [HB.out]; rfl, hB⟩)
          · by_cases e1 : (f[f.size - 1].toNat : Int) = 47
            · have HB := Lib.hid (kindR_bad (bad_edge (hE.trans (by rw [decide_eq_true e1, Bool.or_true]))))
              clear hk hz hp hE
              go_wp2_with fail
              all_goals (go_ret2; exact ⟨by rw [HB.out]; rfl, hB⟩)
            · have HE := Lib.hid (hE.trans (by rw [decide_eq_false e0, decide_eq_false e1, Bool.or_false]))
              have e2 : ((f[0].toNat : Int) == 47) = false := by simpa using e0
              have e3 : ((f[f.size - 1].toNat : Int) == 47) = false := by simpa using e1
              clear hE
              by_cases hl : 64 < (f.size : Int)
              · have HB := Lib.hid (kindR_bad (bad_long (f := f.data.toList) (by rw [Array.length_toList]; show 64 < f.size; omega)))
                clear hk hz hp
                go_wp2_with fail
                all_goals (go_ret2; exact ⟨by rw [HB.out]; rfl, hB⟩)
              · have HK := Lib.hid (fun h => kindR_ok (bad_not hk hp (by rw [Array.length_toList]; show ¬ 64 < f.size; omega) HE.out h) hk)
                have HN := Lib.hid (fun h => kindR_bad (bad_trim hk h))
                clear hk hp
                generalize Lib.replace f.data.toList [47] [] 1 = p at *
                go_wp2_with fail
                refine (trim_at _ (by show p.toArray.size ≤ _; simp; omega) (Lib.trimS p abcB) rfl _).mono ?_
                rintro e w5 ⟨rfl, hb5⟩
                generalize Lib.trimS p abcB = z at *
                have hb6 := hB.trans (hb5.mono hB.size)
                clear hb5 hB
                by_cases he : z = []
                · have he2 : (!z.isEmpty) = false := by rw [he]; rfl
                  have HB := Lib.hid (HK.out he)
                  clear he HK HN
                  go_wp2_with fail
                  go_ret2
                  exact ⟨by rw [HB.out]; rfl, hb6⟩
                · have he2 : (!z.isEmpty) = true := by cases z with | nil => exact absurd rfl he | cons a l => rfl
                  have HB := Lib.hid (HN.out he)
                  clear he HK HN
                  go_wp2_with fail
                  go_ret2
                  exact ⟨by rw [HB.out]; rfl, hb6⟩
      · skip
        have HF1 := contains_at f hs ⟨#[37, 115]⟩ false (by simpa using h1)
        have HF2 := contains_at f hs ⟨#[37, 122]⟩ false (by simpa using h2)
        have HF3 := contains_at f hs ⟨#[47]⟩ false (by simpa using h3)
        go_enter Tryz.func70, Tryz.ntmps70
        go_wp2_with fail
        refine wp_loop_rounds 4 ?_
        rw [rounds_succ]
        go_wp2_with fail
        refine (HF1 _ (HM _ (((Below.refl _ _).alloc (Nat.le_refl _) _).alloc (by simp) _))).mono ?_
        rintro e w1 ⟨rfl, rfl⟩
        go_wp2_with fail
        rw [rounds_succ]
        go_wp2_with fail
        refine (HF2 _ (HM _ ((((Below.refl _ _).alloc (Nat.le_refl _) _).alloc (by simp) _).alloc (by simp; omega) _))).mono ?_
        rintro e w1 ⟨rfl, rfl⟩
        go_wp2_with fail
        rw [rounds_succ]
        go_wp2_with fail
        refine (HF3 _ (HM _ (((((Below.refl _ _).alloc (Nat.le_refl _) _).alloc (by simp) _).alloc (by simp; omega) _).alloc (by simp; omega) _))).mono ?_
        rintro e w1 ⟨rfl, rfl⟩
        go_wp2_with fail
        rw [rounds_succ]
        have hB : Below w.heap.size w ((((w.alloc (.cells #[.string ⟨#[37, 115]⟩, .int .i64 1, .string ⟨#[37, 122]⟩, .int .i64 2, .string ⟨#[47]⟩, .int .i64 3] 162)).alloc (.cells #[.string ⟨#[37, 115]⟩, .int .i64 1] 162)).alloc (.cells #[.string ⟨#[37, 122]⟩, .int .i64 2] 162)).alloc (.cells #[.string ⟨#[47]⟩, .int .i64 3] 162)) := (((((Below.refl _ _).alloc (Nat.le_refl _) _).alloc (by simp) _).alloc (by simp; omega) _).alloc (by simp; omega) _)
        have hk : kindP f.data.toList = (0, f.data.toList) := by unfold kindP; rw [if_neg h1, if_neg h2, if_neg h3]
        have hz : f.data.toList.length ≤ f.data.toList.length := Nat.le_refl _
        by_cases hp : f.data.toList = []
        · have hne : f.toList = [] := by rw [Lib.toList_data]; exact hp
          have hne2 : f.toList.isEmpty = true := by rw [hne]; rfl
          have HB := Lib.hid (kindR_bad (bad_empty hp))
          clear hk hz hp
          go_wp2_with fail
          all_goals (go_ret2; exact ⟨by rw [HB.out]; rfl, hB⟩)
        · have hne : ¬ f.toList = [] := by rw [Lib.toList_data]; exact hp
          have hne2 : f.toList.isEmpty = false := by cases e : f.toList with | nil => exact absurd e hne | cons a l => rfl
          by_cases hl : 64 < (f.size : Int)
          · have HB := Lib.hid (kindR_bad (bad_long (f := f.data.toList) (by rw [Array.length_toList]; show 64 < f.size; omega)))
            clear hk hz hp
            go_wp2_with fail
            all_goals (go_ret2; exact ⟨by rw [HB.out]; rfl, hB⟩)
          · have HK := Lib.hid (fun h => kindR_ok (bad_not hk hp (by rw [Array.length_toList]; show ¬ 64 < f.size; omega) (edge_not hk (by decide)) h) hk)
            have HN := Lib.hid (fun h => kindR_bad (bad_trim hk h))
            clear hk hp
            have hfp : f = ⟨f.data.toList.toArray⟩ := by cases f; simp
            have HFP := Lib.hid hfp
            clear hfp
            go_wp2_with fail
            refine (trim_at _ (by omega) (Lib.trimS f.data.toList abcB) rfl _).mono ?_
            rintro e w5 ⟨rfl, hb5⟩
            generalize Lib.trimS f.data.toList abcB = z at *
            have hb6 := hB.trans (hb5.mono hB.size)
            clear hb5 hB
            by_cases he : z = []
            · have he2 : (!z.isEmpty) = false := by rw [he]; rfl
              have HB := Lib.hid (HK.out he)
              clear he HK HN
              go_wp2_with fail
              go_ret2
              exact ⟨by rw [HB.out]; rfl, hb6⟩
            · have he2 : (!z.isEmpty) = true := by cases z with | nil => exact absurd rfl he | cons a l => rfl
              have HB := Lib.hid (HN.out he)
              clear he HK HN
              go_wp2_with fail
              go_ret2
              exact ⟨by rw [HB.out]; rfl, hb6⟩
end Go.Proofs.YtonmmgcibpjahaaGreatDoor
end

section
/- NShow: Layer 12's Show at a format without marks, walked. -/
namespace Go.Proofs.YtonmmgcibpjahaaGreatDoor
open Go Go.RowKit Go.Shelf
set_option maxRecDepth 100000

theorem kind_at (f : ByteArray) (hs : f.size < 4294967281) (k e : Int) (h : kindR f.data.toList = (k, e)) (w : World) (hm : Tryz.MaxL w) :
    Calls Tryz.prog 70 #[.string f] w fun o w' => o = .returned (.tuple #[.int .i64 k, .int .i64 e]) ∧ Below w.heap.size w w' :=
  (kind_any f w hs hm).mono fun o w' ⟨h1, h2⟩ => ⟨by rw [h1, h], h2⟩
set_option maxHeartbeats 1000000 in
theorem show_plain (f : ByteArray) (off : Int) (dst : Bool) (letter : ByteArray) (w : World) (hs : f.size < 4294967281) (hm : Tryz.MaxL w) (h : kindR f.data.toList = (0, 0)) :
    Calls Tryz.prog 54 #[.string f, .int .i64 off, .bool dst, .string letter] w fun e w' => e = .returned (.tuple #[.string f, .int .i64 0]) ∧ Below w.heap.size w w' := by
  have HK := fun W => kind_at f hs 0 0 h W
  clear h
  go_enter Tryz.func54, Tryz.ntmps54
  go_wp2_with fail
  refine (HK _ hm).mono ?_
  rintro e w1 ⟨rfl, hb⟩
  go_wp2_with fail
  go_ret2
  exact ⟨rfl, hb⟩
set_option maxHeartbeats 1000000 in
theorem show_err (f : ByteArray) (off : Int) (dst : Bool) (letter : ByteArray) (w : World) (hs : f.size < 4294967281) (hm : Tryz.MaxL w) (k e : Int) (h : kindR f.data.toList = (k, e)) (he : e ≠ 0) :
    Calls Tryz.prog 54 #[.string f, .int .i64 off, .bool dst, .string letter] w fun o w' => o = .returned (.tuple #[.string ⟨#[]⟩, .int .i64 e]) ∧ Below w.heap.size w w' := by
  have HK := fun W => kind_at f hs k e h W
  have he2 : (e != 0) = true := by simpa using he
  clear h
  go_enter Tryz.func54, Tryz.ntmps54
  go_wp2_with fail
  refine (HK _ hm).mono ?_
  rintro e w1 ⟨rfl, hb⟩
  go_wp2_with fail
  go_ret2
  exact ⟨rfl, hb⟩
end Go.Proofs.YtonmmgcibpjahaaGreatDoor
end
