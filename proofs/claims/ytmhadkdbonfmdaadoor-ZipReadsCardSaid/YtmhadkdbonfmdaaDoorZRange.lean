/-
  A range over a function whose elements lie in memory that the function makes between the rounds: the body may lean on what the function says of the element and of the memory since the last round.
-/
import Derived.RangeFuncNested
import Derived.RangeFuncBound
import Derived.RangeFuncCalls
import Derived.RangeFuncLeaves
import Derived.RangeFuncFrom
import Derived.Test.YtmhadkdbonfmdaaDoorZEqual
namespace Go.Proofs.YtmhadkdbonfmdaaDoor
open Go Go.RowKit

/-- The same of cells alone: a loop's record, made since the ground n, may have turned. -/
structure GrC (c n : Nat) (A B : World) : Prop where
  os : B.os = A.os
  tape : B.tape = A.tape
  output : B.output = A.output
  size : A.heap.size ≤ B.heap.size
  low : ∀ k, k < n → k < A.heap.size → k ≠ c → B.heap[k]? = A.heap[k]?
  cells : ∀ k o, A.heap[k]? = some o → o.isCells = true → k ≠ c → B.heap[k]? = some o
theorem Gr.cells {c n : Nat} {A B : World} (h : Gr c A B) : GrC c n A B :=
  ⟨h.os, h.tape, h.output, h.size, fun k _ hk hc => h.block k hk hc, fun k o ho _ hk => (h.block k (Array.getElem?_eq_some_iff.1 ho).1 hk).trans ho⟩
theorem GrC.putObj {c n : Nat} {A B : World} (h : GrC c n A B) {l : Nat} {o : Obj} (o' : Obj) (hl : n ≤ l) (hb : B.heap[l]? = some o) (ho : o.isCells = false) : GrC c n A (B.putObj l o') := by
  refine ⟨h.os, h.tape, h.output, Nat.le_trans h.size (by simp [World.putObj]), fun k hk1 hk2 hc => ?_, fun k o2 h1 h2 h3 => ?_⟩
  · rw [World.putObj_heap_other (by omega)]
    exact h.low k hk1 hk2 hc
  · have h4 := h.cells k o2 h1 h2 h3
    rcases Nat.eq_or_lt_of_le (Nat.le_refl l) with _ | hh
    · by_cases e : k = l
      · subst e
        rw [hb] at h4
        cases h4
        rw [ho] at h2
        cases h2
      · rw [World.putObj_heap_other e]
        exact h4
    · omega
/-- Cells that stay: those of the blocks X. -/
structure Kept (X : Nat → Prop) (A B : World) : Prop where
  os : B.os = A.os
  tape : B.tape = A.tape
  output : B.output = A.output
  size : A.heap.size ≤ B.heap.size
  cells : ∀ k o, X k → A.heap[k]? = some o → o.isCells = true → B.heap[k]? = some o
theorem Kept.trans {X : Nat → Prop} {A B C : World} (h : Kept X A B) (k : Kept X B C) : Kept X A C :=
  ⟨k.os.trans h.os, k.tape.trans h.tape, k.output.trans h.output, Nat.le_trans h.size k.size, fun j o hx ho hc => k.cells j o hx (h.cells j o hx ho hc) hc⟩
theorem Kept.putObj {X : Nat → Prop} {A : World} {l : Nat} {o : Obj} (o' : Obj) (hb : A.heap[l]? = some o) (ho : o.isCells = false) : Kept X A (A.putObj l o') := by
  refine ⟨rfl, rfl, rfl, by simp [World.putObj], fun k o2 _ h1 h2 => ?_⟩
  by_cases e : k = l
  · subst e
    rw [hb] at h1
    cases h1
    rw [ho] at h2
    cases h2
  · rw [World.putObj_heap_other e]
    exact h1

section
variable {F : Fence} {n : Nat} {P : Program}
/-- How the body of a round may be left. -/
def leftBy {α : Type} (X : Nat → Prop) (I : List α → World → Prop) (Ix : Code → List α → World → Prop) (xs : List α) (W : World) : Exit → Act → World → Prop
  | .normal, _, W' => KeepsOthers W W' ∧ Kept X W W' ∧ I xs W'
  | .ret, _, W' => KeepsOthers W W' ∧ Ix .ret xs W'
  | .exit id, _, W' => KeepsOthers W W' ∧ Ix (.exit id) xs W'
  | .goto t, _, W' => KeepsOthers W W' ∧ Ix (.goto t) xs W'
  | .panic _, _, _ => False
  | .outgrown, _, _ => False
/-- The function's contract: X: the blocks that a round must keep; R: what holds of an element, between the world behind the last round and that of its own one. -/
def GivesR {α : Type} (F : Fence) (n : Nat) (P : Program) (g : Nat) (lb : Array Value) (encs : α → Array Value) (c : Nat) (X : Nat → Prop) (R : List α → α → World → World → Prop) (S Sp : List α → Prop) (W : World) : Prop :=
  ∀ (l : Nat) (J Jx : List α → World → Prop),
    (∀ pre x W0 W1, J pre W0 → Gr c W0 W1 → R pre x W0 W1 → YieldAt F (n - 1) P l (encs x) W1 fun e W' =>
      (e = .returned (.bool true) ∧ J (pre ++ [x]) W' ∧ Kept X W1 W') ∨ (e = .returned (.bool false) ∧ Jx (pre ++ [x]) W')) →
    J [] W →
    CallsIn F n P g (#[.func (.yield l) #[] #[]] ++ lb) W fun e W' => (∃ v, e = .returned v) ∧ ((∃ xs W0, S xs ∧ J xs W0 ∧ Gr c W0 W') ∨ (∃ pre W0, Sp pre ∧ Jx pre W0 ∧ Gr c W0 W'))

theorem range_ready {α : Type} {g : Operand} {ps : Array Tmp} {assign body : Code} {Q : Exit → Act → World → Prop} {a : Act} {w : World}
    (hro : F.round = none) (h1 : 1 ≤ n) {gf : Nat} {lb : Array Value} (hg : a.eval g = .func (.func gf) #[] lb) (hFg : F.fn gf) (eg : ∀ args w, (callFunc gf args).run P w = .ok (.enter gf args) w)
    {encs : α → Array Value} {X : Nat → Prop} {R : List α → α → World → World → Prop} {S Sp : List α → Prop}
    (hseq : ∀ W, Below w.heap.size w W → W.heap.size = w.heap.size + 2 → GivesR F (n - 1) P gf lb encs (w.heap.size + 2) X R S Sp W) (hps : ∀ x, (encs x).size = ps.size)
    (I : List α → World → Prop) (Ix : Code → List α → World → Prop) (hI : OwnFrom w.heap.size I) (hIx : ∀ c, OwnFrom w.heap.size (Ix c)) (h0 : I [] w) (a₁ : α → World → Act) (aw : α → World → World) (haw : ∀ x W, Below W.heap.size W (aw x W))
    (hassign : ∀ (l : Nat) (x : α) (W : World) (K : Act → World → Prop), K (a₁ x W) (aw x W) →
      assign.wpIn (F.inRound l) (n - 1 - 1) P (Exit.then K (fun _ _ _ => False)) { tmps := (ps.zip (encs x)).foldl (fun t (p, v) => t.setIfInBounds p v) a.tmps, defers := [] } W)
    (hbody : ∀ (l : Nat) (pre : List α) (x : α) (W0 W1 W : World), I pre W0 → w.heap.size + 2 ≤ W0.heap.size → GrC (w.heap.size + 2) w.heap.size W0 W → Gr (w.heap.size + 2) W0 W1 → GrC (w.heap.size + 2) w.heap.size (aw x W1) W → R pre x W0 W1 → body.wpIn (F.inRound l) (n - 1 - 1) P (leftBy X I Ix (pre ++ [x]) W) (a₁ x W1) W)
    (hdone : ∀ (D : Nat) (xs : List α) (W0 W : World), w.heap.size ≤ D → S xs → I xs W0 → w.heap.size + 2 ≤ W0.heap.size → GrC (w.heap.size + 2) w.heap.size W0 W → W.heap[D]? = some (.deferred (some [])) → Q .normal { a with defers := { target := .collected D, args := #[] } :: a.defers } W)
    (hstop : ∀ (D : Nat) (c : Code) (pre : List α) (W0 W : World), w.heap.size ≤ D → Sp pre → Ix c pre W0 → w.heap.size + 2 ≤ W0.heap.size → GrC (w.heap.size + 2) w.heap.size W0 W → W.heap[D]? = some (.deferred (some [])) → c.wpIn F n P Q { a with defers := { target := .collected D, args := #[] } :: a.defers } W) :
    (Code.rangeFunc g ps assign body).wpIn F n P Q a w := by
  have hD : ∀ W : World, W = (w.alloc (.deferred (some []))) → W.heap[w.heap.size]? = some (.deferred (some [])) := fun W e => by rw [e]; exact World.alloc_heap_new w _
  refine wpIn_rangeFunc fun fn hfn => ?_
  rw [hro]
  generalize hT : w.heap.size = T at *
  generalize hrec : (fun (st : LoopState) (pe : Option Code) => ({ state := st, pending := pe, fn := fn, tmps := a.tmps, params := ps, assign := assign, body := body, defers := T } : Loop)) = rec
  have er : ∀ st pe, ({ state := st, pending := pe, fn := fn, tmps := a.tmps, params := ps, assign := assign, body := body, defers := T } : Loop) = rec st pe := fun st pe => by rw [← hrec]
  have rs : ∀ st pe, (rec st pe).state = st := fun st pe => by rw [← hrec]
  have rp : ∀ st pe, (rec st pe).params = ps := fun st pe => by rw [← hrec]
  have rb : ∀ st pe, ({ rec st pe with state := .busy } : Loop) = rec .busy pe := fun st pe => by rw [← hrec]
  generalize hW1 : (w.alloc (.deferred (some []))).alloc (.loop (rec .ready none)) = W1
  have hs1 : W1.heap.size = T + 2 := by rw [← hW1]; simp [hT]
  have hl1 : W1.heap[T + 1]? = some (.loop (rec .ready none)) := by
    have := World.alloc_heap_new (w.alloc (.deferred (some []))) (.loop (rec .ready none))
    rw [World.size_alloc, hT] at this
    rw [← hW1]
    exact this
  have hd1 : W1.heap[T]? = some (.deferred (some [])) := by
    rw [← hW1]
    exact (Below.heap_alloc _ _ _ (by simp [hT])).trans (hD _ rfl)
  have hi1 : I [] W1 := by rw [← hW1]; exact hI.alloc _ (hI.alloc _ h0)
  have hb1 : Below T w W1 := by
    rw [← hW1]
    exact ((Below.refl _ w).alloc (by omega) _).alloc (by simp; omega) _
  have en := run_enterLoop_outer (P := P) (w := w) fn a.tmps ps assign body
  rw [hT, er .ready none, hW1] at en
  refine ⟨T + 1, [{ target := .collected T, args := #[] }], W1, { target := .fn (.func gf) lb, args := #[.func (.yield (T + 1)) #[] #[]] }, W1, gf, #[.func (.yield (T + 1)) #[] #[]] ++ lb, W1, en, ?_, ?_, ?_, fun _ => h1, ?_⟩
  · simp only [resolve, hg]
    simp [go_sem]
  · intro f' hf'
    simp [Target.leads] at hf'
    rw [← hf']
    exact hFg
  · simp [invoke, go_sem, eg]
  refine (hseq W1 hb1 hs1 (T + 1)
    (fun pre W => I pre W ∧ T + 2 ≤ W.heap.size ∧ W.heap[T + 1]? = some (.loop (rec .ready none)) ∧ W.heap[T]? = some (.deferred (some [])))
    (fun pre W => ∃ c, Ix c pre W ∧ T + 2 ≤ W.heap.size ∧ W.heap[T + 1]? = some (.loop (rec .done (some c))) ∧ W.heap[T]? = some (.deferred (some []))) ?round ⟨hi1, by omega, hl1, hd1⟩).mono ?behind
  case round =>
    rintro pre x W0 V ⟨hi, hsz, hl0, hk0⟩ hg0 hR
    have hlV := (hg0.block (T + 1) (by omega) (by omega)).trans hl0
    have hkV := (hg0.block T (by omega) (by omega)).trans hk0
    have hltV : T + 1 < V.heap.size := (Array.getElem?_eq_some_iff.1 hlV).1
    have hy := run_yield (P := P) (args := encs x) hlV (by rw [rp]; exact hps x)
    have hbV := haw x V
    have hl := (hbV.block (T + 1) hltV).trans hlV
    have hk := (hbV.block T (by omega)).trans hkV
    have hlt : T + 1 < (aw x V).heap.size := Nat.lt_of_lt_of_le hltV hbV.size
    have hgV : Gr (T + 2) W0 (aw x V) := hg0.trans (Gr.of_below hbV (Nat.le_refl _))
    have hbr := run_beginRound (P := P) hl (rs _ _)
    rw [rb] at hbr
    generalize hB : (aw x V).putObj (T + 1) (.loop (rec .busy none)) = Bz at hbr
    have hlB : Bz.heap[T + 1]? = some (.loop (rec .busy none)) := by rw [← hB]; exact World.putObj_heap_same hlt
    have hkB : Bz.heap[T]? = some (.deferred (some [])) := by rw [← hB]; exact (World.putObj_heap_other (by omega)).trans hk
    have hVB : Kept X V Bz := by
      refine Kept.trans (B := aw x V) ⟨hbV.os, hbV.tape, hbV.output, hbV.size, fun k o _ ho _ => (hbV.block k (Array.getElem?_eq_some_iff.1 ho).1).trans ho⟩ ?_
      rw [← hB]; exact Kept.putObj _ hl rfl
    have hGB : GrC (T + 2) T (aw x V) Bz := by rw [← hB]; exact (Gr.refl (T + 2) (aw x V)).cells.putObj _ (by omega) hl rfl
    have hG0 : GrC (T + 2) T W0 Bz := by rw [← hB]; exact hgV.cells.putObj _ (by omega) hl rfl
    have hsB : T + 2 ≤ Bz.heap.size := Nat.le_trans hsz hG0.size
    have e1 : (rec .ready none).fn = fn ∧ (rec .ready none).tmps = a.tmps ∧ (rec .ready none).assign = assign ∧ (rec .ready none).body = body := by rw [← hrec]; exact ⟨rfl, rfl, rfl, rfl⟩
    rw [e1.1, e1.2.1, e1.2.2.1, e1.2.2.2, rp] at hy
    refine ⟨fn, _, assign, body, hy, roundIn_of_wpIn hfn (hassign _ x V _ ⟨_, hbr, ?_⟩)⟩
    refine wpIn_mono (hbody _ pre x W0 V Bz hi (by omega) hG0 hg0 hGB hR) ?_
    have fin : ∀ (jump : Option Code) (W3 : World), KeepsOthers Bz W3 → ∃ W4, (Instr.endRound (T + 1) jump).run P W3 = .ok (.bool jump.isNone) W4 ∧ W4 = W3.putObj (T + 1) (.loop (rec (if jump.isNone then .ready else .done) jump)) ∧
        W3.heap[T + 1]? = some (.loop (rec .busy none)) ∧ W4.heap[T + 1]? = some (.loop (rec (if jump.isNone then .ready else .done) jump)) ∧ W4.heap[T]? = some (.deferred (some [])) ∧ T + 2 ≤ W4.heap.size := fun jump W3 hk3 => by
      have hl3 := hk3.same _ _ hlB rfl
      have hr := run_endRound (P := P) jump hl3
      have hh : ({ rec .busy none with state := (if jump.isNone then LoopState.ready else .done), pending := jump } : Loop) = rec (if jump.isNone then .ready else .done) jump := by rw [← hrec]
      rw [hh] at hr
      exact ⟨_, hr, rfl, hl3, World.putObj_heap_same (Array.getElem?_eq_some_iff.1 hl3).1, (World.putObj_heap_other (by omega)).trans (hk3.same _ _ hkB rfl), by have := hk3.size; simp [World.putObj]; omega⟩
    rintro e a3 W3 hp
    cases e with
    | normal =>
      obtain ⟨hk3, hkp3, hi3⟩ := hp
      obtain ⟨W4, hr, rfl, hl3, hl4, hk4, hs4⟩ := fin none W3 hk3
      exact ⟨_, _, hr, .inl ⟨rfl, ⟨hI.putObj _ hi3 (by omega) hl3 rfl, hs4, hl4, hk4⟩, (hVB.trans hkp3).trans (Kept.putObj _ hl3 rfl)⟩⟩
    | ret =>
      obtain ⟨hk3, hi3⟩ := hp
      obtain ⟨W4, hr, rfl, hl3, hl4, hk4, hs4⟩ := fin (some .ret) W3 hk3
      exact ⟨_, _, hr, .inr ⟨rfl, .ret, (hIx _).putObj _ hi3 (by omega) hl3 rfl, hs4, hl4, hk4⟩⟩
    | exit id =>
      obtain ⟨hk3, hi3⟩ := hp
      obtain ⟨W4, hr, rfl, hl3, hl4, hk4, hs4⟩ := fin (some (.exit id)) W3 hk3
      exact ⟨_, _, hr, .inr ⟨rfl, .exit id, (hIx _).putObj _ hi3 (by omega) hl3 rfl, hs4, hl4, hk4⟩⟩
    | goto t =>
      obtain ⟨hk3, hi3⟩ := hp
      obtain ⟨W4, hr, rfl, hl3, hl4, hk4, hs4⟩ := fin (some (.goto t)) W3 hk3
      exact ⟨_, _, hr, .inr ⟨rfl, .goto t, (hIx _).putObj _ hi3 (by omega) hl3 rfl, hs4, hl4, hk4⟩⟩
    | panic ch => exact hp.elim
    | outgrown => exact hp.elim
  case behind =>
    rintro e W2 ⟨⟨v, rfl⟩, h⟩
    rcases h with ⟨xs, W0, hS, ⟨hi, hsz, hl, hk⟩, hg0⟩ | ⟨pre, W0, hSp, ⟨c, hi, hsz, hl, hk⟩, hg0⟩
    · have hl2 := (hg0.block (T + 1) (by omega) (by omega)).trans hl
      have hr := run_endLoop (P := P) hl2 (by rw [rs]; simp)
      have hpe : (rec .ready none).pending = none := by rw [← hrec]
      rw [hpe] at hr
      exact ⟨none, _, hr, hdone _ xs W0 _ (Nat.le_refl _) hS hi hsz (hg0.cells.putObj _ (by omega) hl2 rfl) ((World.putObj_heap_other (by omega)).trans ((hg0.block T (by omega) (by omega)).trans hk))⟩
    · have hl2 := (hg0.block (T + 1) (by omega) (by omega)).trans hl
      have hr := run_endLoop (P := P) hl2 (by rw [rs]; simp)
      have hpe : (rec .done (some c)).pending = some c := by rw [← hrec]
      rw [hpe] at hr
      exact ⟨some c, _, hr, hstop _ c pre W0 _ (Nat.le_refl _) hSp hi hsz (hg0.cells.putObj _ (by omega) hl2 rfl) ((World.putObj_heap_other (by omega)).trans ((hg0.block T (by omega) (by omega)).trans hk))⟩
end
end Go.Proofs.YtmhadkdbonfmdaaDoor
