/-
  A range over a function by what each side owns: the loop's body owns some blocks of memory, the function turns none of these between the rounds, and the body turns no other one.
-/
import Derived.RangeFuncNested
import Derived.RangeFuncBound
import Derived.RangeFuncCalls
import Derived.RangeFuncLeaves
import Derived.RangeFuncFrom
import Derived.OwnWalkIn
import Derived.Test.YtfbkkhfmboaknaaGreatDoorBase
namespace Go.Proofs.YtfbkkhfmboaknaaGreatDoor
open Go Go.RowKit

/-- Memory from W to W', where the blocks T may have turned, and new ones have been made. -/
structure Fr (T : Nat → Prop) (W W' : World) : Prop where
  os : W'.os = W.os
  tape : W'.tape = W.tape
  output : W'.output = W.output
  size : W.heap.size ≤ W'.heap.size
  block : ∀ k, k < W.heap.size → ¬ T k → W'.heap[k]? = W.heap[k]?
section
variable {T T' : Nat → Prop} {W W' W2 : World}
theorem Fr.refl (T : Nat → Prop) (W : World) : Fr T W W := ⟨rfl, rfl, rfl, Nat.le_refl _, fun _ _ _ => rfl⟩
theorem Fr.trans (h : Fr T W W') (k : Fr T' W' W2) (ht : ∀ k, T' k → T k ∨ W.heap.size ≤ k) : Fr T W W2 :=
  ⟨k.os.trans h.os, k.tape.trans h.tape, k.output.trans h.output, Nat.le_trans h.size k.size, fun j hj hn =>
    (k.block j (Nat.lt_of_lt_of_le hj h.size) (fun e => by rcases ht j e with e | e; exact hn e; omega)).trans (h.block j hj hn)⟩
theorem Fr.then (h : Fr T W W') (k : Fr T W' W2) : Fr T W W2 := h.trans k fun _ h => .inl h
theorem Fr.mono (h : Fr T W W') (ht : ∀ k, T k → T' k ∨ W.heap.size ≤ k) : Fr T' W W' := ⟨h.os, h.tape, h.output, h.size, fun k hk hn => h.block k hk fun e => by rcases ht k e with e | e; exact hn e; omega⟩
theorem Fr.of_below {B : Nat} (h : Below B W W') (hB : W.heap.size ≤ B) : Fr T W W' := ⟨h.os, h.tape, h.output, h.size, fun k hk _ => h.block k (Nat.lt_of_lt_of_le hk hB)⟩
theorem Fr.below {B : Nat} (h : Fr T W W') (hB : B ≤ W.heap.size) (ht : ∀ k, k < B → ¬ T k) : Below B W W' := ⟨h.os, h.tape, h.output, h.size, fun k hk => h.block k (Nat.lt_of_lt_of_le hk hB) (ht k hk)⟩
theorem Fr.grown {row : Option Nat} (h : W.grownBy W' row) (hr : ∀ g, row = some g → T g ∨ W.heap.size ≤ g) : Fr T W W' :=
  ⟨h.os, h.tape, h.output, h.size, fun k hk hn => h.block k hk fun e => by rcases hr k e.symm with e | e; exact hn e; omega⟩
theorem Fr.alloc (W : World) (o : Obj) : Fr T W (W.alloc o) := .of_below ((Below.refl W.heap.size W).alloc (Nat.le_refl _) o) (Nat.le_refl _)
theorem Fr.drew (W : World) : Fr T W W.drew := .of_below ((Below.refl W.heap.size W).drew) (Nat.le_refl _)
theorem Fr.setCell (W : World) {b : Nat} (i : Nat) (v : Value) (h : T b) : Fr T W (W.setCell ⟨b, i, none⟩ v) :=
  ⟨rfl, rfl, rfl, by simp, fun k _ hn => Below.heap_setCell W ⟨b, i, none⟩ v k (fun e => hn (by subst e; exact h))⟩
theorem Fr.putObj (W : World) {l : Nat} (o : Obj) (h : T l) : Fr T W (W.putObj l o) :=
  ⟨rfl, rfl, rfl, by simp [World.putObj], fun k _ hn => World.putObj_heap_other (fun e => hn (by subst e; exact h))⟩
theorem Fr.cell (h : Fr T W W') {p : Addr} (hp : p.block < W.heap.size) (hn : ¬ T p.block) : W'.cell? p = W.cell? p := World.cell?_of_block (h.block p.block hp hn)
theorem Fr.frozen (h : Fr T W W') {p : Addr} (hp : p.block < W.heap.size) (hn : ¬ T p.block) : W'.frozen? p = W.frozen? p := by
  unfold World.frozen?
  rw [h.block p.block hp hn]
theorem Fr.at_ (h : Fr T W W') {k : Nat} {o : Obj} (hk : W.heap[k]? = some o) (hn : ¬ T k) : W'.heap[k]? = some o := (h.block k (Array.getElem?_eq_some_iff.1 hk).1 hn).trans hk
theorem Fr.boxed (h : Fr T W W') {B : Nat} {t : TypeId} {v : Value} (hb : Boxed W B t v) (hn : ¬ T B) : Boxed W' B t v := h.at_ hb hn
theorem Fr.own {base : Nat} {e : TypeId} {sz n : Nat} {v : Value} {xs : List Value} (h : Fr T W W') (ho : W.ownsRow base e sz v n xs) (hn : ∀ g, v.ownBlock = some g → ¬ T g) : W'.ownsRow base e sz v n xs := by
  refine ⟨ho.1, ?_⟩
  rcases ho.2 with hnil | ⟨g, cap, cur, rfl, hb, hg, rest⟩
  · exact .inl hnil
  · exact .inr ⟨g, cap, cur, rfl, hb, h.at_ hg (hn g rfl), rest⟩
theorem Fr.sl {B sz n : Nat} {v : Value} {xs : List Value} (h : Fr T W W') (hs : Sl W B sz v n xs) (hB : B ≤ W.heap.size) (hn : ∀ k, k < B → ¬ T k) : Sl W' B sz v n xs := hs.below (h.below hB hn)
end

/-- All blocks of O are there. -/
def Bd (O : Nat → Prop) (W : World) : Prop := ∀ k, O k → k < W.heap.size
theorem Bd.fr {O T : Nat → Prop} {W W' : World} (h : Bd O W) (hf : Fr T W W') : Bd O W' := fun k hk => Nat.lt_of_lt_of_le (h k hk) hf.size
/-- J speaks of the blocks O alone. -/
def Feet {β : Type} (J : β → (Nat → Prop) → World → Prop) : Prop := ∀ s O W W', J s O W → Fr (fun k => ¬ O k) W W' → J s O W'

section
variable {F : Fence} {n : Nat} {P : Program}
/-- What a loop does with each element x: R says what x is, D are blocks that the function gives away with it. -/
def RoundsIn {α : Type} (F : Fence) (m : Nat) (P : Program) (l : Nat) (encs : α → Array Value) (R : List α → α → (Nat → Prop) → World → Prop) (J Jx : List α → (Nat → Prop) → World → Prop) : Prop :=
  ∀ pre x D O W, J pre O W → Bd O W → Bd D W → (∀ k, D k → ¬ O k) → R pre x D W → YieldAt F m P l (encs x) W fun e W' =>
    ∃ O', (∀ k, O' k → O k ∨ D k ∨ W.heap.size ≤ k) ∧ Bd O' W' ∧ Fr (fun k => O k ∨ D k) W W' ∧ ((e = .returned (.bool true) ∧ J (pre ++ [x]) O' W') ∨ (e = .returned (.bool false) ∧ Jx (pre ++ [x]) O' W'))
/-- The end of a function that was gone through. -/
def IterEnd {α : Type} (S Sp : List α → Prop) (J Jx : List α → (Nat → Prop) → World → Prop) (O M : Nat → Prop) (W : World) (e : Ending) (W' : World) : Prop :=
  (∃ v, e = .returned v) ∧ ∃ O', (∀ k, O' k → O k ∨ W.heap.size ≤ k) ∧ Bd O' W' ∧ Fr (fun k => O k ∨ M k) W W' ∧ ((∃ xs, S xs ∧ J xs O' W') ∨ (∃ pre, Sp pre ∧ Jx pre O' W'))
/-- What a function does that is gone through: it gives all of a list xs of S, or a beginning pre of Sp, behind which the loop stopped. K: blocks that were there and that it looks at; M: those of them that it turns. -/
def Iter {α : Type} (F : Fence) (n : Nat) (P : Program) (g : Nat) (lb : Array Value) (encs : α → Array Value) (R : List α → α → (Nat → Prop) → World → Prop) (S Sp : List α → Prop) (K M : Nat → Prop) (W : World) : Prop :=
  ∀ (l : Nat) (J Jx : List α → (Nat → Prop) → World → Prop), Feet J → Feet Jx → RoundsIn F (n - 1) P l encs R J Jx →
    ∀ O, J [] O W → Bd O W → (∀ k, K k → ¬ O k) →
    CallsIn F n P g (#[.func (.yield l) #[] #[]] ++ lb) W (IterEnd S Sp J Jx O M W)
/-- How the body of a round may be left. -/
def leftO {α : Type} (I : List α → (Nat → Prop) → World → Prop) (Ix : Code → List α → (Nat → Prop) → World → Prop) (xs : List α) (O D : Nat → Prop) (W : World) (e : Exit) (_ : Act) (W' : World) : Prop :=
  ∃ O', (∀ k, O' k → O k ∨ D k ∨ W.heap.size ≤ k) ∧ Bd O' W' ∧ Fr (fun k => O k ∨ D k) W W' ∧
    match e with
    | .normal => I xs O' W'
    | .ret => Ix .ret xs O' W'
    | .exit id => Ix (.exit id) xs O' W'
    | .goto t => Ix (.goto t) xs O' W'
    | .panic _ => False
    | .outgrown => False

theorem range_own {α : Type} {g : Operand} {ps : Array Tmp} {assign body : Code} {Q : Exit → Act → World → Prop} {a : Act} {w : World}
    (hro : F.round = none) (h1 : 1 ≤ n) {gf : Nat} {lb : Array Value} (hg : a.eval g = .func (.func gf) #[] lb) (hFg : F.fn gf) (eg : ∀ args w, (callFunc gf args).run P w = .ok (.enter gf args) w)
    {encs : α → Array Value} {R : List α → α → (Nat → Prop) → World → Prop} {S Sp : List α → Prop} {K M : Nat → Prop}
    (hseq : ∀ W, Below w.heap.size w W → Iter F (n - 1) P gf lb encs R S Sp K M W) (hps : ∀ x, (encs x).size = ps.size)
    (I : List α → (Nat → Prop) → World → Prop) (Ix : Code → List α → (Nat → Prop) → World → Prop) (hI : Feet I) (hIx : ∀ c, Feet (Ix c)) (O0 : Nat → Prop) (h0 : I [] O0 w) (hO0 : Bd O0 w) (hM : Bd K w) (hMO : ∀ k, K k → ¬ O0 k)
    (hround : ∀ (l : Nat) (pre : List α) (x : α) (O D : Nat → Prop) (W : World), I pre O W → Bd O W → Bd D W → (∀ k, D k → ¬ O k) → R pre x D W → ¬ O l → ¬ D l → w.heap.size < l → l < W.heap.size →
      assign.wpIn (F.inRound l) (n - 1 - 1) P (Exit.then (fun a' Wa => Below W.heap.size W Wa ∧ ∀ Wb, Fr (fun k => k = l) Wa Wb → I pre O Wb → (∃ r, Wb.heap[l]? = some (.loop r)) → body.wpIn (F.inRound l) (n - 1 - 1) P (leftO I Ix (pre ++ [x]) O D Wb) a' Wb) (fun _ _ _ => False))
        { tmps := (ps.zip (encs x)).foldl (fun t (p, v) => t.setIfInBounds p v) a.tmps, defers := [] } W)
    (hdone : ∀ (B : Nat) (xs : List α) (O : Nat → Prop) (W : World), w.heap.size ≤ B → S xs → I xs O W → (∀ k, O k → O0 k ∨ w.heap.size ≤ k) → Bd O W → ¬ O B → Fr (fun k => O0 k ∨ M k) w W → W.heap[B]? = some (.deferred (some [])) → Q .normal { a with defers := { target := .collected B, args := #[] } :: a.defers } W)
    (hstop : ∀ (B : Nat) (c : Code) (pre : List α) (O : Nat → Prop) (W : World), w.heap.size ≤ B → Sp pre → Ix c pre O W → (∀ k, O k → O0 k ∨ w.heap.size ≤ k) → Bd O W → ¬ O B → Fr (fun k => O0 k ∨ M k) w W → W.heap[B]? = some (.deferred (some [])) → c.wpIn F n P Q { a with defers := { target := .collected B, args := #[] } :: a.defers } W) :
    (Code.rangeFunc g ps assign body).wpIn F n P Q a w := by
  refine wpIn_rangeFunc fun fn hfn => ?_
  rw [hro]
  generalize hT : w.heap.size = T at *
  generalize hrec : (fun (st : LoopState) (pe : Option Code) => ({ state := st, pending := pe, fn := fn, tmps := a.tmps, params := ps, assign := assign, body := body, defers := T } : Loop)) = rec
  have er : ∀ st pe, ({ state := st, pending := pe, fn := fn, tmps := a.tmps, params := ps, assign := assign, body := body, defers := T } : Loop) = rec st pe := fun st pe => by rw [← hrec]
  have rs : ∀ st pe, (rec st pe).state = st := fun st pe => by rw [← hrec]
  have rp : ∀ st pe, (rec st pe).params = ps := fun st pe => by rw [← hrec]
  have rb : ∀ st pe, ({ rec st pe with state := .busy } : Loop) = rec .busy pe := fun st pe => by rw [← hrec]
  generalize hW1 : (w.alloc (.deferred (some []))).alloc (.loop (rec .ready none)) = W1
  have hs1 : W1.heap.size = T + 2 := by rw [← hW1]; simp [hT]
  have hl1 : W1.heap[T + 1]? = some (.loop (rec .ready none)) := by
    have := World.alloc_heap_new (w.alloc (.deferred (some []))) (.loop (rec .ready none))
    rw [World.size_alloc, hT] at this
    rw [← hW1]
    exact this
  have hd1 : W1.heap[T]? = some (.deferred (some [])) := by
    have h := World.alloc_heap_new w (.deferred (some []))
    rw [hT] at h
    rw [← hW1]
    exact (Below.heap_alloc _ _ _ (by simp [hT])).trans h
  have hb1 : Below T w W1 := by
    rw [← hW1]
    exact ((Below.refl _ w).alloc (by omega) _).alloc (by simp; omega) _
  have hf1 : ∀ X, Fr X w W1 := fun X => Fr.of_below hb1 (by omega)
  have en := run_enterLoop_outer (P := P) (w := w) fn a.tmps ps assign body
  rw [hT, er .ready none, hW1] at en
  refine ⟨T + 1, [{ target := .collected T, args := #[] }], W1, { target := .fn (.func gf) lb, args := #[.func (.yield (T + 1)) #[] #[]] }, W1, gf, #[.func (.yield (T + 1)) #[] #[]] ++ lb, W1, en, ?_, ?_, ?_, fun _ => h1, ?_⟩
  · simp only [resolve, hg]
    simp [go_sem]
  · intro f' hf'
    simp [Target.leads] at hf'
    rw [← hf']
    exact hFg
  · simp [invoke, go_sem, eg]
  have bO0 : ∀ k, O0 k → k < T := fun k hk => by have := hO0 k hk; omega
  have bM : ∀ k, K k → k < T := fun k hk => by have := hM k hk; omega
  refine (hseq W1 hb1 (T + 1)
    (fun pre O W => I pre (fun k => O k ∧ k ≠ T ∧ k ≠ T + 1) W ∧ O T ∧ O (T + 1) ∧ T + 2 ≤ W.heap.size ∧ W.heap[T + 1]? = some (.loop (rec .ready none)) ∧ W.heap[T]? = some (.deferred (some [])))
    (fun pre O W => (∃ c, Ix c pre (fun k => O k ∧ k ≠ T ∧ k ≠ T + 1) W ∧ W.heap[T + 1]? = some (.loop (rec .done (some c)))) ∧ O T ∧ O (T + 1) ∧ T + 2 ≤ W.heap.size ∧ W.heap[T]? = some (.deferred (some []))) ?feetJ ?feetX ?round
    (fun k => O0 k ∨ k = T ∨ k = T + 1) ⟨?i0, .inr (.inl rfl), .inr (.inr rfl), by omega, hl1, hd1⟩ ?bd (fun k hm h => by have := bM k hm; rcases h with h | h | h; exact hMO k hm h; omega; omega)).mono ?behind
  case feetJ =>
    rintro s O W W' ⟨hi, hT0, hT1, hs, hl, hd⟩ hf
    refine ⟨hI _ _ _ _ hi (hf.mono fun k hk => .inl fun h => hk h.1), hT0, hT1, Nat.le_trans hs hf.size, hf.at_ hl (by simpa using hT1), hf.at_ hd (by simpa using hT0)⟩
  case feetX =>
    rintro s O W W' ⟨⟨c, hi, hl⟩, hT0, hT1, hs, hd⟩ hf
    refine ⟨⟨c, hIx c _ _ _ _ hi (hf.mono fun k hk => .inl fun h => hk h.1), hf.at_ hl (by simpa using hT1)⟩, hT0, hT1, Nat.le_trans hs hf.size, hf.at_ hd (by simpa using hT0)⟩
  case i0 =>
    have e : (fun k => (O0 k ∨ k = T ∨ k = T + 1) ∧ k ≠ T ∧ k ≠ T + 1) = O0 := by
      funext k
      apply propext
      constructor
      · rintro ⟨h | h | h, h1, h2⟩
        · exact h
        · exact absurd h h1
        · exact absurd h h2
      · intro h
        have := bO0 k h
        exact ⟨.inl h, by omega, by omega⟩
    rw [e]
    exact hI _ _ _ _ h0 (hf1 _)
  case bd =>
    intro k hk
    rcases hk with hk | hk | hk
    · have := bO0 k hk; omega
    · omega
    · omega
  case round =>
    rintro pre x D O V ⟨hi, hT0, hT1, hsz, hlV, hkV⟩ hBO hBD hDO hR
    have hltV : T + 1 < V.heap.size := (Array.getElem?_eq_some_iff.1 hlV).1
    have hy := run_yield (P := P) (args := encs x) hlV (by rw [rp]; exact hps x)
    have hDT : ¬ D T := fun h => hDO T h hT0
    have hDT1 : ¬ D (T + 1) := fun h => hDO (T + 1) h hT1
    have e1 : (rec .ready none).fn = fn ∧ (rec .ready none).tmps = a.tmps ∧ (rec .ready none).assign = assign ∧ (rec .ready none).body = body := by rw [← hrec]; exact ⟨rfl, rfl, rfl, rfl⟩
    rw [e1.1, e1.2.1, e1.2.2.1, e1.2.2.2, rp] at hy
    refine ⟨fn, _, assign, body, hy, roundIn_of_wpIn hfn (wpIn_mono (hround (T + 1) pre x _ D V hi (fun k hk => hBO k hk.1) hBD (fun k hk h => hDO k hk h.1) hR (fun h => h.2.2 rfl) hDT1 (by omega) hltV) ?_)⟩
    rintro e a' Va hVa
    cases e with
    | normal => ?_
    | ret => exact hVa.elim
    | exit id => exact hVa.elim
    | goto t => exact hVa.elim
    | panic ch => exact hVa.elim
    | outgrown => exact hVa.elim
    obtain ⟨hbV, hbody⟩ := hVa
    have hl := (hbV.block (T + 1) hltV).trans hlV
    have hk := (hbV.block T (by omega)).trans hkV
    have hlt : T + 1 < Va.heap.size := Nat.lt_of_lt_of_le hltV hbV.size
    have hbr := run_beginRound (P := P) hl (rs _ _)
    rw [rb] at hbr
    refine ⟨_, hbr, ?_⟩
    generalize hB : Va.putObj (T + 1) (.loop (rec .busy none)) = Bz at hbr
    have hlB : Bz.heap[T + 1]? = some (.loop (rec .busy none)) := by rw [← hB]; exact World.putObj_heap_same hlt
    have hkB : Bz.heap[T]? = some (.deferred (some [])) := by rw [← hB]; exact (World.putObj_heap_other (by omega)).trans hk
    have hAB : ∀ X : Nat → Prop, X (T + 1) → Fr X Va Bz := fun X hX => by rw [← hB]; exact Fr.putObj _ _ hX
    have hVB : ∀ X : Nat → Prop, X (T + 1) → Fr X V Bz := fun X hX => (Fr.of_below hbV (Nat.le_refl _)).then (hAB X hX)
    have hsB : V.heap.size ≤ Bz.heap.size := (hVB (fun _ => True) trivial).size
    have hiB : I pre (fun k => O k ∧ k ≠ T ∧ k ≠ T + 1) Bz := hI _ _ _ _ hi (hVB _ (fun h => h.2.2 rfl))
    refine wpIn_mono (hbody Bz (hAB _ rfl) hiB ⟨_, hlB⟩) ?_
    rintro e a3 W3 ⟨O3, hx3, hb3, hf3, hp⟩
    have hl3 : W3.heap[T + 1]? = some (.loop (rec .busy none)) := hf3.at_ hlB (fun h => by rcases h with h | h; exact h.2.2 rfl; exact hDT1 h)
    have hk3 : W3.heap[T]? = some (.deferred (some [])) := hf3.at_ hkB (fun h => by rcases h with h | h; exact h.2.1 rfl; exact hDT h)
    have n3 : ∀ k, O3 k → k ≠ T ∧ k ≠ T + 1 := fun k hk => by
      rcases hx3 k hk with h | h | h
      · exact ⟨h.2.1, h.2.2⟩
      · exact ⟨fun e => hDT (e ▸ h), fun e => hDT1 (e ▸ h)⟩
      · constructor <;> omega
    have eO : (fun k => (O3 k ∨ k = T ∨ k = T + 1) ∧ k ≠ T ∧ k ≠ T + 1) = O3 := by
      funext k
      apply propext
      constructor
      · rintro ⟨h | h | h, h1, h2⟩
        · exact h
        · exact absurd h h1
        · exact absurd h h2
      · intro h
        exact ⟨.inl h, n3 k h⟩
    have hxO : ∀ k, (O3 k ∨ k = T ∨ k = T + 1) → O k ∨ D k ∨ V.heap.size ≤ k := fun k hk => by
      rcases hk with hk | rfl | rfl
      · rcases hx3 k hk with h | h | h
        · exact .inl h.1
        · exact .inr (.inl h)
        · exact .inr (.inr (by omega))
      · exact .inl hT0
      · exact .inl hT1
    have hs3 := hf3.size
    have fin : ∀ (jump : Option Code), ∃ W4, (Instr.endRound (T + 1) jump).run P W3 = .ok (.bool jump.isNone) W4 ∧ W4.heap[T + 1]? = some (.loop (rec (if jump.isNone then .ready else .done) jump)) ∧ W4.heap[T]? = some (.deferred (some [])) ∧ T + 2 ≤ W4.heap.size ∧ (∀ X : Nat → Prop, X (T + 1) → Fr X W3 W4) := fun jump => by
      have hr := run_endRound (P := P) jump hl3
      have hh : ({ rec .busy none with state := (if jump.isNone then LoopState.ready else .done), pending := jump } : Loop) = rec (if jump.isNone then .ready else .done) jump := by rw [← hrec]
      rw [hh] at hr
      exact ⟨_, hr, World.putObj_heap_same (Array.getElem?_eq_some_iff.1 hl3).1, (World.putObj_heap_other (by omega)).trans hk3, by simp [World.putObj]; omega, fun X hX => Fr.putObj _ _ hX⟩
    have hfV : ∀ W4, (∀ X : Nat → Prop, X (T + 1) → Fr X W3 W4) → Fr (fun k => O k ∨ D k) V W4 := fun W4 h4 =>
      ((hVB (fun k => O k ∨ D k) (.inl hT1)).trans hf3 (fun k hk => by rcases hk with hk | hk; exact .inl (.inl hk.1); exact .inl (.inr hk))).then (h4 _ (.inl hT1))
    have hbd : ∀ W4, (∀ X : Nat → Prop, X (T + 1) → Fr X W3 W4) → Bd (fun k => O3 k ∨ k = T ∨ k = T + 1) W4 := fun W4 h4 k hk => by
      have h5 := (h4 (fun _ => True) trivial).size
      rcases hk with hk | hk | hk
      · have := hb3 k hk; omega
      · omega
      · omega
    have n5 : ∀ k, ¬ ¬ O3 k → k ≠ T + 1 := fun k h => (n3 k (Classical.not_not.1 h)).2
    have keep : ∀ W4, (∀ X : Nat → Prop, X (T + 1) → Fr X W3 W4) → Fr (fun k => ¬ O3 k) W3 W4 := fun W4 h4 => h4 _ (fun h => (n3 _ h).2 rfl)
    cases e with
    | normal =>
      obtain ⟨W4, hr, hl4, hk4, hs4, h4⟩ := fin none
      exact ⟨_, _, hr, _, hxO, hbd _ h4, hfV _ h4, .inl ⟨rfl, by rw [eO]; exact hI _ _ _ _ hp (keep _ h4), .inr (.inl rfl), .inr (.inr rfl), hs4, hl4, hk4⟩⟩
    | ret =>
      obtain ⟨W4, hr, hl4, hk4, hs4, h4⟩ := fin (some .ret)
      exact ⟨_, _, hr, _, hxO, hbd _ h4, hfV _ h4, .inr ⟨rfl, ⟨_, by rw [eO]; exact hIx _ _ _ _ _ hp (keep _ h4), hl4⟩, .inr (.inl rfl), .inr (.inr rfl), hs4, hk4⟩⟩
    | exit id =>
      obtain ⟨W4, hr, hl4, hk4, hs4, h4⟩ := fin (some (.exit id))
      exact ⟨_, _, hr, _, hxO, hbd _ h4, hfV _ h4, .inr ⟨rfl, ⟨_, by rw [eO]; exact hIx _ _ _ _ _ hp (keep _ h4), hl4⟩, .inr (.inl rfl), .inr (.inr rfl), hs4, hk4⟩⟩
    | goto t =>
      obtain ⟨W4, hr, hl4, hk4, hs4, h4⟩ := fin (some (.goto t))
      exact ⟨_, _, hr, _, hxO, hbd _ h4, hfV _ h4, .inr ⟨rfl, ⟨_, by rw [eO]; exact hIx _ _ _ _ _ hp (keep _ h4), hl4⟩, .inr (.inl rfl), .inr (.inr rfl), hs4, hk4⟩⟩
    | panic ch => exact hp.elim
    | outgrown => exact hp.elim
  case behind =>
    rintro e W2 ⟨⟨v, rfl⟩, O2, hx2, hb2, hf2, h⟩
    have hfw : ∀ W4, (∀ X : Nat → Prop, X (T + 1) → Fr X W2 W4) → Fr (fun k => O0 k ∨ M k) w W4 := fun W4 h4 =>
      ((hf1 (fun k => O0 k ∨ M k)).trans hf2 (fun k hk => by
        rcases hk with (hk | hk | hk) | hk
        · exact .inl (.inl hk)
        · exact .inr (by omega)
        · exact .inr (by omega)
        · exact .inl (.inr hk))).trans (h4 (fun k => k = T + 1) rfl) (fun k hk => .inr (by omega))
    have hx : ∀ k, (O2 k ∧ k ≠ T ∧ k ≠ T + 1) → O0 k ∨ T ≤ k := fun k hk => by
      rcases hx2 k hk.1 with (h | h | h) | h
      · exact .inl h
      · exact .inr (by omega)
      · exact .inr (by omega)
      · exact .inr (by omega)
    have hput : ∀ (o : Obj), ∀ X : Nat → Prop, X (T + 1) → Fr X W2 (W2.putObj (T + 1) o) := fun o X hX => Fr.putObj _ _ hX
    rcases h with ⟨xs, hS, hi, hT0, hT1, hsz, hl, hk⟩ | ⟨pre, hSp, ⟨c, hi, hl⟩, hT0, hT1, hsz, hk⟩
    · have hr := run_endLoop (P := P) hl (by rw [rs]; simp)
      have hpe : (rec .ready none).pending = none := by rw [← hrec]
      rw [hpe] at hr
      exact ⟨none, _, hr, hdone _ xs _ _ (Nat.le_refl _) hS (hI _ _ _ _ hi (hput _ _ (fun h => h.2.2 rfl))) hx (fun k hk => by have := hb2 k hk.1; simpa [World.putObj] using this) (fun h => h.2.1 rfl) (hfw _ (hput _)) ((World.putObj_heap_other (by omega)).trans hk)⟩
    · have hr := run_endLoop (P := P) hl (by rw [rs]; simp)
      have hpe : (rec .done (some c)).pending = some c := by rw [← hrec]
      rw [hpe] at hr
      exact ⟨some c, _, hr, hstop _ c pre _ _ (Nat.le_refl _) hSp (hIx c _ _ _ _ hi (hput _ _ (fun h => h.2.2 rfl))) hx (fun k hk => by have := hb2 k hk.1; simpa [World.putObj] using this) (fun h => h.2.1 rfl) (hfw _ (hput _)) ((World.putObj_heap_other (by omega)).trans hk)⟩
/-- The same within a round of the loop l₀. -/
theorem range_own_in {α : Type} {g : Operand} {ps : Array Tmp} {assign body : Code} {Q : Exit → Act → World → Prop} {a : Act} {w : World}
    {l₀ : Nat} {r₀ : Loop} (hro : F.round = some l₀) (hl₀ : w.heap[l₀]? = some (.loop r₀)) (h1 : 1 ≤ n) {gf : Nat} {lb : Array Value} (hg : a.eval g = .func (.func gf) #[] lb) (hFg : F.fn gf) (eg : ∀ args w, (callFunc gf args).run P w = .ok (.enter gf args) w)
    {encs : α → Array Value} {R : List α → α → (Nat → Prop) → World → Prop} {S Sp : List α → Prop} {K M : Nat → Prop}
    (hseq : ∀ W, Below w.heap.size w W → Iter F (n - 1) P gf lb encs R S Sp K M W) (hps : ∀ x, (encs x).size = ps.size)
    (I : List α → (Nat → Prop) → World → Prop) (Ix : Code → List α → (Nat → Prop) → World → Prop) (hI : Feet I) (hIx : ∀ c, Feet (Ix c)) (O0 : Nat → Prop) (h0 : I [] O0 w) (hO0 : Bd O0 w) (hM : Bd K w) (hMO : ∀ k, K k → ¬ O0 k)
    (hround : ∀ (l : Nat) (pre : List α) (x : α) (O D : Nat → Prop) (W : World), I pre O W → Bd O W → Bd D W → (∀ k, D k → ¬ O k) → R pre x D W → ¬ O l → ¬ D l → w.heap.size ≤ l → l < W.heap.size →
      assign.wpIn (F.inRound l) (n - 1 - 1) P (Exit.then (fun a' Wa => Below W.heap.size W Wa ∧ ∀ Wb, Fr (fun k => k = l) Wa Wb → I pre O Wb → (∃ r, Wb.heap[l]? = some (.loop r)) → body.wpIn (F.inRound l) (n - 1 - 1) P (leftO I Ix (pre ++ [x]) O D Wb) a' Wb) (fun _ _ _ => False))
        { tmps := (ps.zip (encs x)).foldl (fun t (p, v) => t.setIfInBounds p v) a.tmps, defers := [] } W)
    (hdone : ∀ (xs : List α) (O : Nat → Prop) (W : World), S xs → I xs O W → (∀ k, O k → O0 k ∨ w.heap.size ≤ k) → Bd O W → Fr (fun k => O0 k ∨ M k) w W → Q .normal a W)
    (hstop : ∀ (c : Code) (pre : List α) (O : Nat → Prop) (W : World), Sp pre → Ix c pre O W → (∀ k, O k → O0 k ∨ w.heap.size ≤ k) → Bd O W → Fr (fun k => O0 k ∨ M k) w W → c.wpIn F n P Q a W) :
    (Code.rangeFunc g ps assign body).wpIn F n P Q a w := by
  refine wpIn_rangeFunc fun fn hfn => ?_
  rw [hro]
  generalize hT : w.heap.size = T at *
  obtain ⟨db, hdb⟩ : ∃ db, r₀.defers = db := ⟨_, rfl⟩
  generalize hrec : (fun (st : LoopState) (pe : Option Code) => ({ state := st, pending := pe, fn := fn, tmps := a.tmps, params := ps, assign := assign, body := body, defers := db } : Loop)) = rec
  have er : ∀ st pe, ({ state := st, pending := pe, fn := fn, tmps := a.tmps, params := ps, assign := assign, body := body, defers := db } : Loop) = rec st pe := fun st pe => by rw [← hrec]
  have rs : ∀ st pe, (rec st pe).state = st := fun st pe => by rw [← hrec]
  have rp : ∀ st pe, (rec st pe).params = ps := fun st pe => by rw [← hrec]
  have rb : ∀ st pe, ({ rec st pe with state := .busy } : Loop) = rec .busy pe := fun st pe => by rw [← hrec]
  generalize hW1 : w.alloc (.loop (rec .ready none)) = W1
  have hs1 : W1.heap.size = T + 1 := by rw [← hW1]; simp [hT]
  have hl1 : W1.heap[T]? = some (.loop (rec .ready none)) := by
    have := World.alloc_heap_new w (.loop (rec .ready none))
    rw [hT] at this
    rw [← hW1]
    exact this
  have hb1 : Below T w W1 := by
    rw [← hW1]
    exact (Below.refl _ w).alloc (by omega) _
  have hf1 : ∀ X, Fr X w W1 := fun X => Fr.of_below hb1 (by omega)
  have en := run_enterLoop_inner (P := P) hl₀ fn a.tmps ps assign body
  rw [hdb, hT, er .ready none, hW1] at en
  refine ⟨T, [], W1, { target := .fn (.func gf) lb, args := #[.func (.yield T) #[] #[]] }, W1, gf, #[.func (.yield T) #[] #[]] ++ lb, W1, en, ?_, ?_, ?_, fun _ => h1, ?_⟩
  · simp only [resolve, hg]
    simp [go_sem]
  · intro f' hf'
    simp [Target.leads] at hf'
    rw [← hf']
    exact hFg
  · simp [invoke, go_sem, eg]
  have bO0 : ∀ k, O0 k → k < T := fun k hk => by have := hO0 k hk; omega
  have bM : ∀ k, K k → k < T := fun k hk => by have := hM k hk; omega
  refine (hseq W1 hb1 T
    (fun pre O W => I pre (fun k => O k ∧ k ≠ T) W ∧ O T ∧ T + 1 ≤ W.heap.size ∧ W.heap[T]? = some (.loop (rec .ready none)))
    (fun pre O W => (∃ c, Ix c pre (fun k => O k ∧ k ≠ T) W ∧ W.heap[T]? = some (.loop (rec .done (some c)))) ∧ O T ∧ T + 1 ≤ W.heap.size) ?feetJ ?feetX ?round
    (fun k => O0 k ∨ k = T) ⟨?i0, .inr rfl, by omega, hl1⟩ ?bd (fun k hm h => by have := bM k hm; rcases h with h | h; exact hMO k hm h; omega)).mono ?behind
  case feetJ =>
    rintro s O W W' ⟨hi, hT0, hs, hl⟩ hf
    refine ⟨hI _ _ _ _ hi (hf.mono fun k hk => .inl fun h => hk h.1), hT0, Nat.le_trans hs hf.size, hf.at_ hl (by simpa using hT0)⟩
  case feetX =>
    rintro s O W W' ⟨⟨c, hi, hl⟩, hT0, hs⟩ hf
    refine ⟨⟨c, hIx c _ _ _ _ hi (hf.mono fun k hk => .inl fun h => hk h.1), hf.at_ hl (by simpa using hT0)⟩, hT0, Nat.le_trans hs hf.size⟩
  case i0 =>
    have e : (fun k => (O0 k ∨ k = T) ∧ k ≠ T) = O0 := by
      funext k
      apply propext
      constructor
      · rintro ⟨h | h, h1⟩
        · exact h
        · exact absurd h h1
      · intro h
        have := bO0 k h
        exact ⟨.inl h, by omega⟩
    rw [e]
    exact hI _ _ _ _ h0 (hf1 _)
  case bd =>
    intro k hk
    rcases hk with hk | hk
    · have := bO0 k hk; omega
    · omega
  case round =>
    rintro pre x D O V ⟨hi, hT0, hsz, hlV⟩ hBO hBD hDO hR
    have hltV : T < V.heap.size := (Array.getElem?_eq_some_iff.1 hlV).1
    have hy := run_yield (P := P) (args := encs x) hlV (by rw [rp]; exact hps x)
    have hDT : ¬ D T := fun h => hDO T h hT0
    have e1 : (rec .ready none).fn = fn ∧ (rec .ready none).tmps = a.tmps ∧ (rec .ready none).assign = assign ∧ (rec .ready none).body = body := by rw [← hrec]; exact ⟨rfl, rfl, rfl, rfl⟩
    rw [e1.1, e1.2.1, e1.2.2.1, e1.2.2.2, rp] at hy
    refine ⟨fn, _, assign, body, hy, roundIn_of_wpIn hfn (wpIn_mono (hround T pre x _ D V hi (fun k hk => hBO k hk.1) hBD (fun k hk h => hDO k hk h.1) hR (fun h => h.2 rfl) hDT (by omega) hltV) ?_)⟩
    rintro e a' Va hVa
    cases e with
    | normal => ?_
    | ret => exact hVa.elim
    | exit id => exact hVa.elim
    | goto t => exact hVa.elim
    | panic ch => exact hVa.elim
    | outgrown => exact hVa.elim
    obtain ⟨hbV, hbody⟩ := hVa
    have hl := (hbV.block T hltV).trans hlV
    have hlt : T < Va.heap.size := Nat.lt_of_lt_of_le hltV hbV.size
    have hbr := run_beginRound (P := P) hl (rs _ _)
    rw [rb] at hbr
    refine ⟨_, hbr, ?_⟩
    generalize hB : Va.putObj T (.loop (rec .busy none)) = Bz at hbr
    have hlB : Bz.heap[T]? = some (.loop (rec .busy none)) := by rw [← hB]; exact World.putObj_heap_same hlt
    have hAB : ∀ X : Nat → Prop, X T → Fr X Va Bz := fun X hX => by rw [← hB]; exact Fr.putObj _ _ hX
    have hVB : ∀ X : Nat → Prop, X T → Fr X V Bz := fun X hX => (Fr.of_below hbV (Nat.le_refl _)).then (hAB X hX)
    have hsB : V.heap.size ≤ Bz.heap.size := (hVB (fun _ => True) trivial).size
    have hiB : I pre (fun k => O k ∧ k ≠ T) Bz := hI _ _ _ _ hi (hVB _ (fun h => h.2 rfl))
    refine wpIn_mono (hbody Bz (hAB _ rfl) hiB ⟨_, hlB⟩) ?_
    rintro e a3 W3 ⟨O3, hx3, hb3, hf3, hp⟩
    have hl3 : W3.heap[T]? = some (.loop (rec .busy none)) := hf3.at_ hlB (fun h => by rcases h with h | h; exact h.2 rfl; exact hDT h)
    have n3 : ∀ k, O3 k → k ≠ T := fun k hk => by
      rcases hx3 k hk with h | h | h
      · exact h.2
      · exact fun e => hDT (e ▸ h)
      · omega
    have eO : (fun k => (O3 k ∨ k = T) ∧ k ≠ T) = O3 := by
      funext k
      apply propext
      constructor
      · rintro ⟨h | h, h1⟩
        · exact h
        · exact absurd h h1
      · intro h
        exact ⟨.inl h, n3 k h⟩
    have hxO : ∀ k, (O3 k ∨ k = T) → O k ∨ D k ∨ V.heap.size ≤ k := fun k hk => by
      rcases hk with hk | rfl
      · rcases hx3 k hk with h | h | h
        · exact .inl h.1
        · exact .inr (.inl h)
        · exact .inr (.inr (by omega))
      · exact .inl hT0
    have hs3 := hf3.size
    have fin : ∀ (jump : Option Code), ∃ W4, (Instr.endRound T jump).run P W3 = .ok (.bool jump.isNone) W4 ∧ W4.heap[T]? = some (.loop (rec (if jump.isNone then .ready else .done) jump)) ∧ T + 1 ≤ W4.heap.size ∧ (∀ X : Nat → Prop, X T → Fr X W3 W4) := fun jump => by
      have hr := run_endRound (P := P) jump hl3
      have hh : ({ rec .busy none with state := (if jump.isNone then LoopState.ready else .done), pending := jump } : Loop) = rec (if jump.isNone then .ready else .done) jump := by rw [← hrec]
      rw [hh] at hr
      exact ⟨_, hr, World.putObj_heap_same (Array.getElem?_eq_some_iff.1 hl3).1, by simp [World.putObj]; omega, fun X hX => Fr.putObj _ _ hX⟩
    have hfV : ∀ W4, (∀ X : Nat → Prop, X T → Fr X W3 W4) → Fr (fun k => O k ∨ D k) V W4 := fun W4 h4 =>
      ((hVB (fun k => O k ∨ D k) (.inl hT0)).trans hf3 (fun k hk => by rcases hk with hk | hk; exact .inl (.inl hk.1); exact .inl (.inr hk))).then (h4 _ (.inl hT0))
    have hbd : ∀ W4, (∀ X : Nat → Prop, X T → Fr X W3 W4) → Bd (fun k => O3 k ∨ k = T) W4 := fun W4 h4 k hk => by
      have h5 := (h4 (fun _ => True) trivial).size
      rcases hk with hk | hk
      · have := hb3 k hk; omega
      · omega
    have keep : ∀ W4, (∀ X : Nat → Prop, X T → Fr X W3 W4) → Fr (fun k => ¬ O3 k) W3 W4 := fun W4 h4 => h4 _ (fun h => n3 _ h rfl)
    cases e with
    | normal =>
      obtain ⟨W4, hr, hl4, hs4, h4⟩ := fin none
      exact ⟨_, _, hr, _, hxO, hbd _ h4, hfV _ h4, .inl ⟨rfl, by rw [eO]; exact hI _ _ _ _ hp (keep _ h4), .inr rfl, hs4, hl4⟩⟩
    | ret =>
      obtain ⟨W4, hr, hl4, hs4, h4⟩ := fin (some .ret)
      exact ⟨_, _, hr, _, hxO, hbd _ h4, hfV _ h4, .inr ⟨rfl, ⟨_, by rw [eO]; exact hIx _ _ _ _ _ hp (keep _ h4), hl4⟩, .inr rfl, hs4⟩⟩
    | exit id =>
      obtain ⟨W4, hr, hl4, hs4, h4⟩ := fin (some (.exit id))
      exact ⟨_, _, hr, _, hxO, hbd _ h4, hfV _ h4, .inr ⟨rfl, ⟨_, by rw [eO]; exact hIx _ _ _ _ _ hp (keep _ h4), hl4⟩, .inr rfl, hs4⟩⟩
    | goto t =>
      obtain ⟨W4, hr, hl4, hs4, h4⟩ := fin (some (.goto t))
      exact ⟨_, _, hr, _, hxO, hbd _ h4, hfV _ h4, .inr ⟨rfl, ⟨_, by rw [eO]; exact hIx _ _ _ _ _ hp (keep _ h4), hl4⟩, .inr rfl, hs4⟩⟩
    | panic ch => exact hp.elim
    | outgrown => exact hp.elim
  case behind =>
    rintro e W2 ⟨⟨v, rfl⟩, O2, hx2, hb2, hf2, h⟩
    have hfw : ∀ W4, (∀ X : Nat → Prop, X T → Fr X W2 W4) → Fr (fun k => O0 k ∨ M k) w W4 := fun W4 h4 =>
      ((hf1 (fun k => O0 k ∨ M k)).trans hf2 (fun k hk => by
        rcases hk with (hk | hk) | hk
        · exact .inl (.inl hk)
        · exact .inr (by omega)
        · exact .inl (.inr hk))).trans (h4 (fun k => k = T) rfl) (fun k hk => .inr (by omega))
    have hx : ∀ k, (O2 k ∧ k ≠ T) → O0 k ∨ T ≤ k := fun k hk => by
      rcases hx2 k hk.1 with (h | h) | h
      · exact .inl h
      · exact .inr (by omega)
      · exact .inr (by omega)
    have hput : ∀ (o : Obj), ∀ X : Nat → Prop, X T → Fr X W2 (W2.putObj T o) := fun o X hX => Fr.putObj _ _ hX
    rcases h with ⟨xs, hS, hi, hT0, hsz, hl⟩ | ⟨pre, hSp, ⟨c, hi, hl⟩, hT0, hsz⟩
    · have hr := run_endLoop (P := P) hl (by rw [rs]; simp)
      have hpe : (rec .ready none).pending = none := by rw [← hrec]
      rw [hpe] at hr
      exact ⟨none, _, hr, hdone xs _ _ hS (hI _ _ _ _ hi (hput _ _ (fun h => h.2 rfl))) hx (fun k hk => by have := hb2 k hk.1; simpa [World.putObj] using this) (hfw _ (hput _))⟩
    · have hr := run_endLoop (P := P) hl (by rw [rs]; simp)
      have hpe : (rec .done (some c)).pending = some c := by rw [← hrec]
      rw [hpe] at hr
      exact ⟨some c, _, hr, hstop c pre _ _ hSp (hIx c _ _ _ _ hi (hput _ _ (fun h => h.2 rfl))) hx (fun k hk => by have := hb2 k hk.1; simpa [World.putObj] using this) (hfw _ (hput _))⟩
end
section
variable {P : Program} {F : Fence} {n : Nat} {b : Frame} {a : Act} {k : List Item} {cs : List Frame} {w : World} {Q : Exit → Act → World → Prop}
theorem stepR_scope {c : Code} : step P (lone (b.atR a (.code (.scope c) :: k)) cs w) = .next (lone (b.atR a (.code c :: .inScope c :: k)) cs w) :=
  step_lone_go (by simp [stepG, stepG.exec, Frame.atR])
theorem stepR_inScope {c : Code} : step P (lone (b.atR a (.inScope c :: k)) cs w) = .next (lone (b.atR a k) cs w) :=
  step_lone_go (by simp [stepG, stepG.exec, Frame.atR])
/-- A scope through which the run goes without a goto. -/
theorem wpIn_scope {c : Code} (h : c.wpIn F n P (Exit.noGoto Q) a w) : (Code.scope c).wpIn F n P Q a w := by
  intro b k cs hro hb hr
  have h0 : (lone (b.atR a (.code (.scope c) :: k)) cs w).fenced P F := fenced_calm hb hr rfl
  obtain ⟨e, a₁, w₁, hq, harr⟩ := h b (.inScope c :: k) cs hro hb hr
  cases e with
  | normal => exact ⟨.normal, a₁, w₁, hq, .head h0 stepR_scope (StepsIn.trans harr (.one (fenced_calm hb hr rfl) stepR_inScope))⟩
  | exit id =>
    have hx : exitTo id (.inScope c :: k) = exitTo id k := by simp [exitTo]
    exact ⟨.exit id, a₁, w₁, hq, fun k' hk => .head h0 stepR_scope (harr.1 k' (by rw [hx]; exact hk)),
      fun hr' hk => let ⟨k₁, h1, h2⟩ := harr.2 hr' (by rw [hx]; exact hk); ⟨k₁, h1, .head h0 stepR_scope h2⟩⟩
  | goto l => exact hq.elim
  | ret => exact ⟨_, a₁, w₁, hq, .of_steps (.one h0 stepR_scope) harr⟩
  | panic ch => exact ⟨_, a₁, w₁, hq, .of_steps (.one h0 stepR_scope) harr⟩
  | outgrown => exact ⟨_, a₁, w₁, hq, .of_steps (.one h0 stepR_scope) harr⟩
end
/-- An append whose run is known. -/
theorem wpListIn_append_run {F : Fence} {n : Nat} {P : Program} {w : World} {ops : Array Oper} {rest : List Oper} {o : Oper} {a : Act} {Q : Exit → Act → World → Prop} (hg : o.guard = none) (s x : Operand) (t : TypeId)
    (ho : o.op = .call { callee := .builtin .append, args := #[s, x], argTypes := #[t, t] }) {v y v' : Value} {w' : World} (hs : a.eval s = v) (hx : a.eval x = y) (hr : (Builtin.append_ #[t, t] o.type #[v, y]).run P w = .ok v' w')
    (h : wpListIn F n P ops Q rest (a.put o.dst v') w') : wpListIn F n P ops Q (o :: rest) a w := by
  refine wpListIn_plain hg fun K hK => ?_
  unfold Oper.wpIn
  refine ⟨by simp [Oper.about, ho, resolve, Target.leads, Sem.run_pure], ?_⟩
  rw [Oper.semAt_plain F _ _ (by rw [ho]; intro c hc'; cases hc')]
  simp [execOp, ho, resolve, invoke, builtin, hs, hx, hr, Result.andThen]
  exact hK _ _ h

/-- The end of a function that held a range over a function: the mark is taken. -/
theorem fin_cell {W : World} {D : Nat} {d : Option (List Deferred)} (hK : W.heap[D]? = some (.deferred d)) (p : Addr) : (W.putObj D (.deferred none)).cell? p = W.cell? p := by
  by_cases e : p.block = D
  · have h2 : (W.putObj D (.deferred none)).heap[p.block]? = some (.deferred none) := by rw [e]; exact World.putObj_heap_same (Array.getElem?_eq_some_iff.1 hK).1
    unfold World.cell?
    rw [h2, e, hK]
  · unfold World.cell?
    rw [World.putObj_heap_other e]
theorem fin_sl {W : World} {D B sz n : Nat} {v : Value} {xs : List Value} {d : Option (List Deferred)} (h : Sl W B sz v n xs) (hK : W.heap[D]? = some (.deferred d)) : Sl (W.putObj D (.deferred none)) B sz v n xs := h.keep fun p _ => fin_cell hK p
theorem fin_below {w W : World} {D B : Nat} (h : Below B w W) (hD : B ≤ D) : Below B w (W.putObj D (.deferred none)) :=
  ⟨h.os, h.tape, h.output, by have := h.size; simpa [World.putObj] using this, fun k hk => (World.putObj_heap_other (by omega)).trans (h.block k hk)⟩
theorem fin_size (W : World) (D : Nat) (o : Obj) : (W.putObj D o).heap.size = W.heap.size := by simp [World.putObj]
end Go.Proofs.YtfbkkhfmboaknaaGreatDoor
