/-
  A range over a function whose round begins by writing into memory of the loop's own (a variable that stands outside).
-/
import Derived.Test.YtfbkkhfmboaknaaGreatDoorFrm
namespace Go.Proofs.YtfbkkhfmboaknaaGreatDoor
open Go Go.RowKit

section
variable {F : Fence} {n : Nat} {P : Program}
theorem range_own_set {α : Type} {g : Operand} {ps : Array Tmp} {assign body : Code} {Q : Exit → Act → World → Prop} {a : Act} {w : World}
    (hro : F.round = none) (h1 : 1 ≤ n) {gf : Nat} {lb : Array Value} (hg : a.eval g = .func (.func gf) #[] lb) (hFg : F.fn gf) (eg : ∀ args w, (callFunc gf args).run P w = .ok (.enter gf args) w)
    {encs : α → Array Value} {R : List α → α → (Nat → Prop) → World → Prop} {S Sp : List α → Prop} {K M : Nat → Prop}
    (hseq : ∀ W, Below w.heap.size w W → Iter F (n - 1) P gf lb encs R S Sp K M W) (hps : ∀ x, (encs x).size = ps.size)
    (I : List α → (Nat → Prop) → World → Prop) (Ix : Code → List α → (Nat → Prop) → World → Prop) (hI : Feet I) (hIx : ∀ c, Feet (Ix c)) (Ip : List α → α → (Nat → Prop) → World → Prop) (hIp : ∀ x, Feet (fun pre => Ip pre x)) (O0 : Nat → Prop) (h0 : I [] O0 w) (hO0 : Bd O0 w) (hM : Bd K w) (hMO : ∀ k, K k → ¬ O0 k)
    (hround : ∀ (l : Nat) (pre : List α) (x : α) (O D : Nat → Prop) (W : World), I pre O W → Bd O W → Bd D W → (∀ k, D k → ¬ O k) → R pre x D W → ¬ O l → ¬ D l → w.heap.size < l → l < W.heap.size →
      assign.wpIn (F.inRound l) (n - 1 - 1) P (Exit.then (fun a' Wa => (Fr O W Wa ∧ Ip pre x O Wa) ∧ ∀ Wb, Fr (fun k => k = l) Wa Wb → Ip pre x O Wb → (∃ r, Wb.heap[l]? = some (.loop r)) → body.wpIn (F.inRound l) (n - 1 - 1) P (leftO I Ix (pre ++ [x]) O D Wb) a' Wb) (fun _ _ _ => False))
        { tmps := (ps.zip (encs x)).foldl (fun t (p, v) => t.setIfInBounds p v) a.tmps, defers := [] } W)
    (hdone : ∀ (B : Nat) (xs : List α) (O : Nat → Prop) (W : World), w.heap.size ≤ B → S xs → I xs O W → (∀ k, O k → O0 k ∨ w.heap.size ≤ k) → Bd O W → ¬ O B → Fr (fun k => O0 k ∨ M k) w W → W.heap[B]? = some (.deferred (some [])) → Q .normal { a with defers := { target := .collected B, args := #[] } :: a.defers } W)
    (hstop : ∀ (B : Nat) (c : Code) (pre : List α) (O : Nat → Prop) (W : World), w.heap.size ≤ B → Sp pre → Ix c pre O W → (∀ k, O k → O0 k ∨ w.heap.size ≤ k) → Bd O W → ¬ O B → Fr (fun k => O0 k ∨ M k) w W → W.heap[B]? = some (.deferred (some [])) → c.wpIn F n P Q { a with defers := { target := .collected B, args := #[] } :: a.defers } W) :
    (Code.rangeFunc g ps assign body).wpIn F n P Q a w := by
  refine wpIn_rangeFunc fun fn hfn => ?_
  rw [hro]
  generalize hT : w.heap.size = T at *
  generalize hrec : (fun (st : LoopState) (pe : Option Code) => ({ state := st, pending := pe, fn := fn, tmps := a.tmps, params := ps, assign := assign, body := body, defers := T } : Loop)) = rec
  have er : ∀ st pe, ({ state := st, pending := pe, fn := fn, tmps := a.tmps, params := ps, assign := assign, body := body, defers := T } : Loop) = rec st pe := fun st pe => by rw [← hrec]
  have rs : ∀ st pe, (rec st pe).state = st := fun st pe => by rw [← hrec]
  have rp : ∀ st pe, (rec st pe).params = ps := fun st pe => by rw [← hrec]
  have rb : ∀ st pe, ({ rec st pe with state := .busy } : Loop) = rec .busy pe := fun st pe => by rw [← hrec]
  generalize hW1 : (w.alloc (.deferred (some []))).alloc (.loop (rec .ready none)) = W1
  have hs1 : W1.heap.size = T + 2 := by rw [← hW1]; simp [hT]
  have hl1 : W1.heap[T + 1]? = some (.loop (rec .ready none)) := by
    have := World.alloc_heap_new (w.alloc (.deferred (some []))) (.loop (rec .ready none))
    rw [World.size_alloc, hT] at this
    rw [← hW1]
    exact this
  have hd1 : W1.heap[T]? = some (.deferred (some [])) := by
    have h := World.alloc_heap_new w (.deferred (some []))
    rw [hT] at h
    rw [← hW1]
    exact (Below.heap_alloc _ _ _ (by simp [hT])).trans h
  have hb1 : Below T w W1 := by
    rw [← hW1]
    exact ((Below.refl _ w).alloc (by omega) _).alloc (by simp; omega) _
  have hf1 : ∀ X, Fr X w W1 := fun X => Fr.of_below hb1 (by omega)
  have en := run_enterLoop_outer (P := P) (w := w) fn a.tmps ps assign body
  rw [hT, er .ready none, hW1] at en
  refine ⟨T + 1, [{ target := .collected T, args := #[] }], W1, { target := .fn (.func gf) lb, args := #[.func (.yield (T + 1)) #[] #[]] }, W1, gf, #[.func (.yield (T + 1)) #[] #[]] ++ lb, W1, en, ?_, ?_, ?_, fun _ => h1, ?_⟩
  · simp only [resolve, hg]
    simp [go_sem]
  · intro f' hf'
    simp [Target.leads] at hf'
    rw [← hf']
    exact hFg
  · simp [invoke, go_sem, eg]
  have bO0 : ∀ k, O0 k → k < T := fun k hk => by have := hO0 k hk; omega
  have bM : ∀ k, K k → k < T := fun k hk => by have := hM k hk; omega
  refine (hseq W1 hb1 (T + 1)
    (fun pre O W => I pre (fun k => O k ∧ k ≠ T ∧ k ≠ T + 1) W ∧ O T ∧ O (T + 1) ∧ T + 2 ≤ W.heap.size ∧ W.heap[T + 1]? = some (.loop (rec .ready none)) ∧ W.heap[T]? = some (.deferred (some [])))
    (fun pre O W => (∃ c, Ix c pre (fun k => O k ∧ k ≠ T ∧ k ≠ T + 1) W ∧ W.heap[T + 1]? = some (.loop (rec .done (some c)))) ∧ O T ∧ O (T + 1) ∧ T + 2 ≤ W.heap.size ∧ W.heap[T]? = some (.deferred (some []))) ?feetJ ?feetX ?round
    (fun k => O0 k ∨ k = T ∨ k = T + 1) ⟨?i0, .inr (.inl rfl), .inr (.inr rfl), by omega, hl1, hd1⟩ ?bd (fun k hm h => by have := bM k hm; rcases h with h | h | h; exact hMO k hm h; omega; omega)).mono ?behind
  case feetJ =>
    rintro s O W W' ⟨hi, hT0, hT1, hs, hl, hd⟩ hf
    refine ⟨hI _ _ _ _ hi (hf.mono fun k hk => .inl fun h => hk h.1), hT0, hT1, Nat.le_trans hs hf.size, hf.at_ hl (by simpa using hT1), hf.at_ hd (by simpa using hT0)⟩
  case feetX =>
    rintro s O W W' ⟨⟨c, hi, hl⟩, hT0, hT1, hs, hd⟩ hf
    refine ⟨⟨c, hIx c _ _ _ _ hi (hf.mono fun k hk => .inl fun h => hk h.1), hf.at_ hl (by simpa using hT1)⟩, hT0, hT1, Nat.le_trans hs hf.size, hf.at_ hd (by simpa using hT0)⟩
  case i0 =>
    have e : (fun k => (O0 k ∨ k = T ∨ k = T + 1) ∧ k ≠ T ∧ k ≠ T + 1) = O0 := by
      funext k
      apply propext
      constructor
      · rintro ⟨h | h | h, h1, h2⟩
        · exact h
        · exact absurd h h1
        · exact absurd h h2
      · intro h
        have := bO0 k h
        exact ⟨.inl h, by omega, by omega⟩
    rw [e]
    exact hI _ _ _ _ h0 (hf1 _)
  case bd =>
    intro k hk
    rcases hk with hk | hk | hk
    · have := bO0 k hk; omega
    · omega
    · omega
  case round =>
    rintro pre x D O V ⟨hi, hT0, hT1, hsz, hlV, hkV⟩ hBO hBD hDO hR
    have hltV : T + 1 < V.heap.size := (Array.getElem?_eq_some_iff.1 hlV).1
    have hy := run_yield (P := P) (args := encs x) hlV (by rw [rp]; exact hps x)
    have hDT : ¬ D T := fun h => hDO T h hT0
    have hDT1 : ¬ D (T + 1) := fun h => hDO (T + 1) h hT1
    have e1 : (rec .ready none).fn = fn ∧ (rec .ready none).tmps = a.tmps ∧ (rec .ready none).assign = assign ∧ (rec .ready none).body = body := by rw [← hrec]; exact ⟨rfl, rfl, rfl, rfl⟩
    rw [e1.1, e1.2.1, e1.2.2.1, e1.2.2.2, rp] at hy
    refine ⟨fn, _, assign, body, hy, roundIn_of_wpIn hfn (wpIn_mono (hround (T + 1) pre x _ D V hi (fun k hk => hBO k hk.1) hBD (fun k hk h => hDO k hk h.1) hR (fun h => h.2.2 rfl) hDT1 (by omega) hltV) ?_)⟩
    rintro e a' Va hVa
    cases e with
    | normal => ?_
    | ret => exact hVa.elim
    | exit id => exact hVa.elim
    | goto t => exact hVa.elim
    | panic ch => exact hVa.elim
    | outgrown => exact hVa.elim
    obtain ⟨⟨hbV, hip⟩, hbody⟩ := hVa
    have hl := hbV.at_ hlV (fun h => h.2.2 rfl)
    have hk := hbV.at_ hkV (fun h => h.2.1 rfl)
    have hlt : T + 1 < Va.heap.size := Nat.lt_of_lt_of_le hltV hbV.size
    have hbr := run_beginRound (P := P) hl (rs _ _)
    rw [rb] at hbr
    refine ⟨_, hbr, ?_⟩
    generalize hB : Va.putObj (T + 1) (.loop (rec .busy none)) = Bz at hbr
    have hlB : Bz.heap[T + 1]? = some (.loop (rec .busy none)) := by rw [← hB]; exact World.putObj_heap_same hlt
    have hkB : Bz.heap[T]? = some (.deferred (some [])) := by rw [← hB]; exact (World.putObj_heap_other (by omega)).trans hk
    have hAB : ∀ X : Nat → Prop, X (T + 1) → Fr X Va Bz := fun X hX => by rw [← hB]; exact Fr.putObj _ _ hX
    have hVB : ∀ X : Nat → Prop, X (T + 1) → (∀ k, O k → X k) → Fr X V Bz := fun X hX hOX => (hbV.mono fun k hk => .inl (hOX k hk.1)).then (hAB X hX)
    have hsB : V.heap.size ≤ Bz.heap.size := (hVB (fun _ => True) trivial fun _ _ => trivial).size
    have hiB : Ip pre x (fun k => O k ∧ k ≠ T ∧ k ≠ T + 1) Bz := hIp x _ _ _ _ hip (hAB _ (fun h => h.2.2 rfl))
    refine wpIn_mono (hbody Bz (hAB _ rfl) hiB ⟨_, hlB⟩) ?_
    rintro e a3 W3 ⟨O3, hx3, hb3, hf3, hp⟩
    have hl3 : W3.heap[T + 1]? = some (.loop (rec .busy none)) := hf3.at_ hlB (fun h => by rcases h with h | h; exact h.2.2 rfl; exact hDT1 h)
    have hk3 : W3.heap[T]? = some (.deferred (some [])) := hf3.at_ hkB (fun h => by rcases h with h | h; exact h.2.1 rfl; exact hDT h)
    have n3 : ∀ k, O3 k → k ≠ T ∧ k ≠ T + 1 := fun k hk => by
      rcases hx3 k hk with h | h | h
      · exact ⟨h.2.1, h.2.2⟩
      · exact ⟨fun e => hDT (e ▸ h), fun e => hDT1 (e ▸ h)⟩
      · constructor <;> omega
    have eO : (fun k => (O3 k ∨ k = T ∨ k = T + 1) ∧ k ≠ T ∧ k ≠ T + 1) = O3 := by
      funext k
      apply propext
      constructor
      · rintro ⟨h | h | h, h1, h2⟩
        · exact h
        · exact absurd h h1
        · exact absurd h h2
      · intro h
        exact ⟨.inl h, n3 k h⟩
    have hxO : ∀ k, (O3 k ∨ k = T ∨ k = T + 1) → O k ∨ D k ∨ V.heap.size ≤ k := fun k hk => by
      rcases hk with hk | rfl | rfl
      · rcases hx3 k hk with h | h | h
        · exact .inl h.1
        · exact .inr (.inl h)
        · exact .inr (.inr (by omega))
      · exact .inl hT0
      · exact .inl hT1
    have hs3 := hf3.size
    have fin : ∀ (jump : Option Code), ∃ W4, (Instr.endRound (T + 1) jump).run P W3 = .ok (.bool jump.isNone) W4 ∧ W4.heap[T + 1]? = some (.loop (rec (if jump.isNone then .ready else .done) jump)) ∧ W4.heap[T]? = some (.deferred (some [])) ∧ T + 2 ≤ W4.heap.size ∧ (∀ X : Nat → Prop, X (T + 1) → Fr X W3 W4) := fun jump => by
      have hr := run_endRound (P := P) jump hl3
      have hh : ({ rec .busy none with state := (if jump.isNone then LoopState.ready else .done), pending := jump } : Loop) = rec (if jump.isNone then .ready else .done) jump := by rw [← hrec]
      rw [hh] at hr
      exact ⟨_, hr, World.putObj_heap_same (Array.getElem?_eq_some_iff.1 hl3).1, (World.putObj_heap_other (by omega)).trans hk3, by simp [World.putObj]; omega, fun X hX => Fr.putObj _ _ hX⟩
    have hfV : ∀ W4, (∀ X : Nat → Prop, X (T + 1) → Fr X W3 W4) → Fr (fun k => O k ∨ D k) V W4 := fun W4 h4 =>
      ((hVB (fun k => O k ∨ D k) (.inl hT1) fun k h => .inl h).trans hf3 (fun k hk => by rcases hk with hk | hk; exact .inl (.inl hk.1); exact .inl (.inr hk))).then (h4 _ (.inl hT1))
    have hbd : ∀ W4, (∀ X : Nat → Prop, X (T + 1) → Fr X W3 W4) → Bd (fun k => O3 k ∨ k = T ∨ k = T + 1) W4 := fun W4 h4 k hk => by
      have h5 := (h4 (fun _ => True) trivial).size
      rcases hk with hk | hk | hk
      · have := hb3 k hk; omega
      · omega
      · omega
    have n5 : ∀ k, ¬ ¬ O3 k → k ≠ T + 1 := fun k h => (n3 k (Classical.not_not.1 h)).2
    have keep : ∀ W4, (∀ X : Nat → Prop, X (T + 1) → Fr X W3 W4) → Fr (fun k => ¬ O3 k) W3 W4 := fun W4 h4 => h4 _ (fun h => (n3 _ h).2 rfl)
    cases e with
    | normal =>
      obtain ⟨W4, hr, hl4, hk4, hs4, h4⟩ := fin none
      exact ⟨_, _, hr, _, hxO, hbd _ h4, hfV _ h4, .inl ⟨rfl, by rw [eO]; exact hI _ _ _ _ hp (keep _ h4), .inr (.inl rfl), .inr (.inr rfl), hs4, hl4, hk4⟩⟩
    | ret =>
      obtain ⟨W4, hr, hl4, hk4, hs4, h4⟩ := fin (some .ret)
      exact ⟨_, _, hr, _, hxO, hbd _ h4, hfV _ h4, .inr ⟨rfl, ⟨_, by rw [eO]; exact hIx _ _ _ _ _ hp (keep _ h4), hl4⟩, .inr (.inl rfl), .inr (.inr rfl), hs4, hk4⟩⟩
    | exit id =>
      obtain ⟨W4, hr, hl4, hk4, hs4, h4⟩ := fin (some (.exit id))
      exact ⟨_, _, hr, _, hxO, hbd _ h4, hfV _ h4, .inr ⟨rfl, ⟨_, by rw [eO]; exact hIx _ _ _ _ _ hp (keep _ h4), hl4⟩, .inr (.inl rfl), .inr (.inr rfl), hs4, hk4⟩⟩
    | goto t =>
      obtain ⟨W4, hr, hl4, hk4, hs4, h4⟩ := fin (some (.goto t))
      exact ⟨_, _, hr, _, hxO, hbd _ h4, hfV _ h4, .inr ⟨rfl, ⟨_, by rw [eO]; exact hIx _ _ _ _ _ hp (keep _ h4), hl4⟩, .inr (.inl rfl), .inr (.inr rfl), hs4, hk4⟩⟩
    | panic ch => exact hp.elim
    | outgrown => exact hp.elim
  case behind =>
    rintro e W2 ⟨⟨v, rfl⟩, O2, hx2, hb2, hf2, h⟩
    have hfw : ∀ W4, (∀ X : Nat → Prop, X (T + 1) → Fr X W2 W4) → Fr (fun k => O0 k ∨ M k) w W4 := fun W4 h4 =>
      ((hf1 (fun k => O0 k ∨ M k)).trans hf2 (fun k hk => by
        rcases hk with (hk | hk | hk) | hk
        · exact .inl (.inl hk)
        · exact .inr (by omega)
        · exact .inr (by omega)
        · exact .inl (.inr hk))).trans (h4 (fun k => k = T + 1) rfl) (fun k hk => .inr (by omega))
    have hx : ∀ k, (O2 k ∧ k ≠ T ∧ k ≠ T + 1) → O0 k ∨ T ≤ k := fun k hk => by
      rcases hx2 k hk.1 with (h | h | h) | h
      · exact .inl h
      · exact .inr (by omega)
      · exact .inr (by omega)
      · exact .inr (by omega)
    have hput : ∀ (o : Obj), ∀ X : Nat → Prop, X (T + 1) → Fr X W2 (W2.putObj (T + 1) o) := fun o X hX => Fr.putObj _ _ hX
    rcases h with ⟨xs, hS, hi, hT0, hT1, hsz, hl, hk⟩ | ⟨pre, hSp, ⟨c, hi, hl⟩, hT0, hT1, hsz, hk⟩
    · have hr := run_endLoop (P := P) hl (by rw [rs]; simp)
      have hpe : (rec .ready none).pending = none := by rw [← hrec]
      rw [hpe] at hr
      exact ⟨none, _, hr, hdone _ xs _ _ (Nat.le_refl _) hS (hI _ _ _ _ hi (hput _ _ (fun h => h.2.2 rfl))) hx (fun k hk => by have := hb2 k hk.1; simpa [World.putObj] using this) (fun h => h.2.1 rfl) (hfw _ (hput _)) ((World.putObj_heap_other (by omega)).trans hk)⟩
    · have hr := run_endLoop (P := P) hl (by rw [rs]; simp)
      have hpe : (rec .done (some c)).pending = some c := by rw [← hrec]
      rw [hpe] at hr
      exact ⟨some c, _, hr, hstop _ c pre _ _ (Nat.le_refl _) hSp (hIx c _ _ _ _ hi (hput _ _ (fun h => h.2.2 rfl))) hx (fun k hk => by have := hb2 k hk.1; simpa [World.putObj] using this) (fun h => h.2.1 rfl) (hfw _ (hput _)) ((World.putObj_heap_other (by omega)).trans hk)⟩
end
end Go.Proofs.YtfbkkhfmboaknaaGreatDoor
