/-
  Firings in memory: a row of them that a call may turn.
-/
import Derived.WalkMore
import Derived.Laws.OwnMore
import Derived.Test.YtonmmgcibpjahaaGreatDoorPt3
section
/- FrmS: A range over a function whose round begins by writing into memory of the loop's own (a variable that stands outside). -/
namespace Go.Proofs.YtonmmgcibpjahaaGreatDoor
open Go Go.RowKit

section
variable {F : Fence} {n : Nat} {P : Program}
theorem range_own_set {α : Type} {g : Operand} {ps : Array Tmp} {assign body : Code} {Q : Exit → Act → World → Prop} {a : Act} {w : World}
    (hro : F.round = none) (h1 : 1 ≤ n) {gf : Nat} {lb : Array Value} (hg : a.eval g = .func (.func gf) #[] lb) (hFg : F.fn gf) (eg : ∀ args w, (callFunc gf args).run P w = .ok (.enter gf args) w)
    {encs : α → Array Value} {R : List α → α → (Nat → Prop) → World → Prop} {S Sp : List α → Prop} {K M : Nat → Prop}
    (hseq : ∀ W, Below w.heap.size w W → Iter F (n - 1) P gf lb encs R S Sp K M W) (hps : ∀ x, (encs x).size = ps.size)
    (I : List α → (Nat → Prop) → World → Prop) (Ix : Code → List α → (Nat → Prop) → World → Prop) (hI : Feet I) (hIx : ∀ c, Feet (Ix c)) (Ip : List α → α → (Nat → Prop) → World → Prop) (hIp : ∀ x, Feet (fun pre => Ip pre x)) (O0 : Nat → Prop) (h0 : I [] O0 w) (hO0 : Bd O0 w) (hM : Bd K w) (hMO : ∀ k, K k → ¬ O0 k)
    (hround : ∀ (l : Nat) (pre : List α) (x : α) (O D : Nat → Prop) (W : World), I pre O W → Bd O W → Bd D W → (∀ k, D k → ¬ O k) → R pre x D W → ¬ O l → ¬ D l → w.heap.size < l → l < W.heap.size →
      assign.wpIn (F.inRound l) (n - 1 - 1) P (Exit.then (fun a' Wa => (Fr O W Wa ∧ Ip pre x O Wa) ∧ ∀ Wb, Fr (fun k => k = l) Wa Wb → Ip pre x O Wb → (∃ r, Wb.heap[l]? = some (.loop r)) → body.wpIn (F.inRound l) (n - 1 - 1) P (leftO I Ix (pre ++ [x]) O D Wb) a' Wb) (fun _ _ _ => False))
        { tmps := (ps.zip (encs x)).foldl (fun t (p, v) => t.setIfInBounds p v) a.tmps, defers := [] } W)
    (hdone : ∀ (B : Nat) (xs : List α) (O : Nat → Prop) (W : World), w.heap.size ≤ B → S xs → I xs O W → (∀ k, O k → O0 k ∨ w.heap.size ≤ k) → Bd O W → ¬ O B → Fr (fun k => O0 k ∨ M k) w W → W.heap[B]? = some (.deferred (some [])) → Q .normal { a with defers := { target := .collected B, args := #[] } :: a.defers } W)
    (hstop : ∀ (B : Nat) (c : Code) (pre : List α) (O : Nat → Prop) (W : World), w.heap.size ≤ B → Sp pre → Ix c pre O W → (∀ k, O k → O0 k ∨ w.heap.size ≤ k) → Bd O W → ¬ O B → Fr (fun k => O0 k ∨ M k) w W → W.heap[B]? = some (.deferred (some [])) → c.wpIn F n P Q { a with defers := { target := .collected B, args := #[] } :: a.defers } W) :
    (Code.rangeFunc g ps assign body).wpIn F n P Q a w := by
  refine wpIn_rangeFunc fun fn hfn => ?_
  rw [hro]
  generalize hT : w.heap.size = T at *
  generalize hrec : (fun (st : LoopState) (pe : Option Code) => ({ state := st, pending := pe, fn := fn, tmps := a.tmps, params := ps, assign := assign, body := body, defers := T } : Loop)) = rec
  have er : ∀ st pe, ({ state := st, pending := pe, fn := fn, tmps := a.tmps, params := ps, assign := assign, body := body, defers := T } : Loop) = rec st pe := fun st pe => by rw [← hrec]
  have rs : ∀ st pe, (rec st pe).state = st := fun st pe => by rw [← hrec]
  have rp : ∀ st pe, (rec st pe).params = ps := fun st pe => by rw [← hrec]
  have rb : ∀ st pe, ({ rec st pe with state := .busy } : Loop) = rec .busy pe := fun st pe => by rw [← hrec]
  generalize hW1 : (w.alloc (.deferred (some []))).alloc (.loop (rec .ready none)) = W1
  have hs1 : W1.heap.size = T + 2 := by rw [← hW1]; simp [hT]
  have hl1 : W1.heap[T + 1]? = some (.loop (rec .ready none)) := by
    have := World.alloc_heap_new (w.alloc (.deferred (some []))) (.loop (rec .ready none))
    rw [World.size_alloc, hT] at this
    rw [← hW1]
    exact this
  have hd1 : W1.heap[T]? = some (.deferred (some [])) := by
    have h := World.alloc_heap_new w (.deferred (some []))
    rw [hT] at h
    rw [← hW1]
    exact (Below.heap_alloc _ _ _ (by simp [hT])).trans h
  have hb1 : Below T w W1 := by
    rw [← hW1]
    exact ((Below.refl _ w).alloc (by omega) _).alloc (by simp; omega) _
  have hf1 : ∀ X, Fr X w W1 := fun X => Fr.of_below hb1 (by omega)
  have en := run_enterLoop_outer (P := P) (w := w) fn a.tmps ps assign body
  rw [hT, er .ready none, hW1] at en
  refine ⟨T + 1, [{ target := .collected T, args := #[] }], W1, { target := .fn (.func gf) lb, args := #[.func (.yield (T + 1)) #[] #[]] }, W1, gf, #[.func (.yield (T + 1)) #[] #[]] ++ lb, W1, en, ?_, ?_, ?_, fun _ => h1, ?_⟩
  · simp only [resolve, hg]
    simp [go_sem]
  · intro f' hf'
    simp [Target.leads] at hf'
    rw [← hf']
    exact hFg
  · simp [invoke, go_sem, eg]
  have bO0 : ∀ k, O0 k → k < T := fun k hk => by have := hO0 k hk; omega
  have bM : ∀ k, K k → k < T := fun k hk => by have := hM k hk; omega
  refine (hseq W1 hb1 (T + 1)
    (fun pre O W => I pre (fun k => O k ∧ k ≠ T ∧ k ≠ T + 1) W ∧ O T ∧ O (T + 1) ∧ T + 2 ≤ W.heap.size ∧ W.heap[T + 1]? = some (.loop (rec .ready none)) ∧ W.heap[T]? = some (.deferred (some [])))
    (fun pre O W => (∃ c, Ix c pre (fun k => O k ∧ k ≠ T ∧ k ≠ T + 1) W ∧ W.heap[T + 1]? = some (.loop (rec .done (some c)))) ∧ O T ∧ O (T + 1) ∧ T + 2 ≤ W.heap.size ∧ W.heap[T]? = some (.deferred (some []))) ?feetJ ?feetX ?round
    (fun k => O0 k ∨ k = T ∨ k = T + 1) ⟨?i0, .inr (.inl rfl), .inr (.inr rfl), by omega, hl1, hd1⟩ ?bd (fun k hm h => by have := bM k hm; rcases h with h | h | h; exact hMO k hm h; omega; omega)).mono ?behind
  case feetJ =>
    rintro s O W W' ⟨hi, hT0, hT1, hs, hl, hd⟩ hf
    refine ⟨hI _ _ _ _ hi (hf.mono fun k hk => .inl fun h => hk h.1), hT0, hT1, Nat.le_trans hs hf.size, hf.at_ hl (by simpa using hT1), hf.at_ hd (by simpa using hT0)⟩
  case feetX =>
    rintro s O W W' ⟨⟨c, hi, hl⟩, hT0, hT1, hs, hd⟩ hf
    refine ⟨⟨c, hIx c _ _ _ _ hi (hf.mono fun k hk => .inl fun h => hk h.1), hf.at_ hl (by simpa using hT1)⟩, hT0, hT1, Nat.le_trans hs hf.size, hf.at_ hd (by simpa using hT0)⟩
  case i0 =>
    have e : (fun k => (O0 k ∨ k = T ∨ k = T + 1) ∧ k ≠ T ∧ k ≠ T + 1) = O0 := by
      funext k
      apply propext
      constructor
      · rintro ⟨h | h | h, h1, h2⟩
        · exact h
        · exact absurd h h1
        · exact absurd h h2
      · intro h
        have := bO0 k h
        exact ⟨.inl h, by omega, by omega⟩
    rw [e]
    exact hI _ _ _ _ h0 (hf1 _)
  case bd =>
    intro k hk
    rcases hk with hk | hk | hk
    · have := bO0 k hk; omega
    · omega
    · omega
  case round =>
    rintro pre x D O V ⟨hi, hT0, hT1, hsz, hlV, hkV⟩ hBO hBD hDO hR
    have hltV : T + 1 < V.heap.size := (Array.getElem?_eq_some_iff.1 hlV).1
    have hy := run_yield (P := P) (args := encs x) hlV (by rw [rp]; exact hps x)
    have hDT : ¬ D T := fun h => hDO T h hT0
    have hDT1 : ¬ D (T + 1) := fun h => hDO (T + 1) h hT1
    have e1 : (rec .ready none).fn = fn ∧ (rec .ready none).tmps = a.tmps ∧ (rec .ready none).assign = assign ∧ (rec .ready none).body = body := by rw [← hrec]; exact ⟨rfl, rfl, rfl, rfl⟩
    rw [e1.1, e1.2.1, e1.2.2.1, e1.2.2.2, rp] at hy
    refine ⟨fn, _, assign, body, hy, roundIn_of_wpIn hfn (wpIn_mono (hround (T + 1) pre x _ D V hi (fun k hk => hBO k hk.1) hBD (fun k hk h => hDO k hk h.1) hR (fun h => h.2.2 rfl) hDT1 (by omega) hltV) ?_)⟩
    rintro e a' Va hVa
    cases e with
    | normal => ?_
    | ret => exact hVa.elim
    | exit id => exact hVa.elim
    | goto t => exact hVa.elim
    | panic ch => exact hVa.elim
    | outgrown => exact hVa.elim
    obtain ⟨⟨hbV, hip⟩, hbody⟩ := hVa
    have hl := hbV.at_ hlV (fun h => h.2.2 rfl)
    have hk := hbV.at_ hkV (fun h => h.2.1 rfl)
    have hlt : T + 1 < Va.heap.size := Nat.lt_of_lt_of_le hltV hbV.size
    have hbr := run_beginRound (P := P) hl (rs _ _)
    rw [rb] at hbr
    refine ⟨_, hbr, ?_⟩
    generalize hB : Va.putObj (T + 1) (.loop (rec .busy none)) = Bz at hbr
    have hlB : Bz.heap[T + 1]? = some (.loop (rec .busy none)) := by rw [← hB]; exact World.putObj_heap_same hlt
    have hkB : Bz.heap[T]? = some (.deferred (some [])) := by rw [← hB]; exact (World.putObj_heap_other (by omega)).trans hk
    have hAB : ∀ X : Nat → Prop, X (T + 1) → Fr X Va Bz := fun X hX => by rw [← hB]; exact Fr.putObj _ _ hX
    have hVB : ∀ X : Nat → Prop, X (T + 1) → (∀ k, O k → X k) → Fr X V Bz := fun X hX hOX => (hbV.mono fun k hk => .inl (hOX k hk.1)).then (hAB X hX)
    have hsB : V.heap.size ≤ Bz.heap.size := (hVB (fun _ => True) trivial fun _ _ => trivial).size
    have hiB : Ip pre x (fun k => O k ∧ k ≠ T ∧ k ≠ T + 1) Bz := hIp x _ _ _ _ hip (hAB _ (fun h => h.2.2 rfl))
    refine wpIn_mono (hbody Bz (hAB _ rfl) hiB ⟨_, hlB⟩) ?_
    rintro e a3 W3 ⟨O3, hx3, hb3, hf3, hp⟩
    have hl3 : W3.heap[T + 1]? = some (.loop (rec .busy none)) := hf3.at_ hlB (fun h => by rcases h with h | h; exact h.2.2 rfl; exact hDT1 h)
    have hk3 : W3.heap[T]? = some (.deferred (some [])) := hf3.at_ hkB (fun h => by rcases h with h | h; exact h.2.1 rfl; exact hDT h)
    have n3 : ∀ k, O3 k → k ≠ T ∧ k ≠ T + 1 := fun k hk => by
      rcases hx3 k hk with h | h | h
      · exact ⟨h.2.1, h.2.2⟩
      · exact ⟨fun e => hDT (e ▸ h), fun e => hDT1 (e ▸ h)⟩
      · constructor <;> omega
    have eO : (fun k => (O3 k ∨ k = T ∨ k = T + 1) ∧ k ≠ T ∧ k ≠ T + 1) = O3 := by
      funext k
      apply propext
      constructor
      · rintro ⟨h | h | h, h1, h2⟩
        · exact h
        · exact absurd h h1
        · exact absurd h h2
      · intro h
        exact ⟨.inl h, n3 k h⟩
    have hxO : ∀ k, (O3 k ∨ k = T ∨ k = T + 1) → O k ∨ D k ∨ V.heap.size ≤ k := fun k hk => by
      rcases hk with hk | rfl | rfl
      · rcases hx3 k hk with h | h | h
        · exact .inl h.1
        · exact .inr (.inl h)
        · exact .inr (.inr (by omega))
      · exact .inl hT0
      · exact .inl hT1
    have hs3 := hf3.size
    have fin : ∀ (jump : Option Code), ∃ W4, (Instr.endRound (T + 1) jump).run P W3 = .ok (.bool jump.isNone) W4 ∧ W4.heap[T + 1]? = some (.loop (rec (if jump.isNone then .ready else .done) jump)) ∧ W4.heap[T]? = some (.deferred (some [])) ∧ T + 2 ≤ W4.heap.size ∧ (∀ X : Nat → Prop, X (T + 1) → Fr X W3 W4) := fun jump => by
      have hr := run_endRound (P := P) jump hl3
      have hh : ({ rec .busy none with state := (if jump.isNone then LoopState.ready else .done), pending := jump } : Loop) = rec (if jump.isNone then .ready else .done) jump := by rw [← hrec]
      rw [hh] at hr
      exact ⟨_, hr, World.putObj_heap_same (Array.getElem?_eq_some_iff.1 hl3).1, (World.putObj_heap_other (by omega)).trans hk3, by simp [World.putObj]; omega, fun X hX => Fr.putObj _ _ hX⟩
    have hfV : ∀ W4, (∀ X : Nat → Prop, X (T + 1) → Fr X W3 W4) → Fr (fun k => O k ∨ D k) V W4 := fun W4 h4 =>
      ((hVB (fun k => O k ∨ D k) (.inl hT1) fun k h => .inl h).trans hf3 (fun k hk => by rcases hk with hk | hk; exact .inl (.inl hk.1); exact .inl (.inr hk))).then (h4 _ (.inl hT1))
    have hbd : ∀ W4, (∀ X : Nat → Prop, X (T + 1) → Fr X W3 W4) → Bd (fun k => O3 k ∨ k = T ∨ k = T + 1) W4 := fun W4 h4 k hk => by
      have h5 := (h4 (fun _ => True) trivial).size
      rcases hk with hk | hk | hk
      · have := hb3 k hk; omega
      · omega
      · omega
    have n5 : ∀ k, ¬ ¬ O3 k → k ≠ T + 1 := fun k h => (n3 k (Classical.not_not.1 h)).2
    have keep : ∀ W4, (∀ X : Nat → Prop, X (T + 1) → Fr X W3 W4) → Fr (fun k => ¬ O3 k) W3 W4 := fun W4 h4 => h4 _ (fun h => (n3 _ h).2 rfl)
    cases e with
    | normal =>
      obtain ⟨W4, hr, hl4, hk4, hs4, h4⟩ := fin none
      exact ⟨_, _, hr, _, hxO, hbd _ h4, hfV _ h4, .inl ⟨rfl, by rw [eO]; exact hI _ _ _ _ hp (keep _ h4), .inr (.inl rfl), .inr (.inr rfl), hs4, hl4, hk4⟩⟩
    | ret =>
      obtain ⟨W4, hr, hl4, hk4, hs4, h4⟩ := fin (some .ret)
      exact ⟨_, _, hr, _, hxO, hbd _ h4, hfV _ h4, .inr ⟨rfl, ⟨_, by rw [eO]; exact hIx _ _ _ _ _ hp (keep _ h4), hl4⟩, .inr (.inl rfl), .inr (.inr rfl), hs4, hk4⟩⟩
    | exit id =>
      obtain ⟨W4, hr, hl4, hk4, hs4, h4⟩ := fin (some (.exit id))
      exact ⟨_, _, hr, _, hxO, hbd _ h4, hfV _ h4, .inr ⟨rfl, ⟨_, by rw [eO]; exact hIx _ _ _ _ _ hp (keep _ h4), hl4⟩, .inr (.inl rfl), .inr (.inr rfl), hs4, hk4⟩⟩
    | goto t =>
      obtain ⟨W4, hr, hl4, hk4, hs4, h4⟩ := fin (some (.goto t))
      exact ⟨_, _, hr, _, hxO, hbd _ h4, hfV _ h4, .inr ⟨rfl, ⟨_, by rw [eO]; exact hIx _ _ _ _ _ hp (keep _ h4), hl4⟩, .inr (.inl rfl), .inr (.inr rfl), hs4, hk4⟩⟩
    | panic ch => exact hp.elim
    | outgrown => exact hp.elim
  case behind =>
    rintro e W2 ⟨⟨v, rfl⟩, O2, hx2, hb2, hf2, h⟩
    have hfw : ∀ W4, (∀ X : Nat → Prop, X (T + 1) → Fr X W2 W4) → Fr (fun k => O0 k ∨ M k) w W4 := fun W4 h4 =>
      ((hf1 (fun k => O0 k ∨ M k)).trans hf2 (fun k hk => by
        rcases hk with (hk | hk | hk) | hk
        · exact .inl (.inl hk)
        · exact .inr (by omega)
        · exact .inr (by omega)
        · exact .inl (.inr hk))).trans (h4 (fun k => k = T + 1) rfl) (fun k hk => .inr (by omega))
    have hx : ∀ k, (O2 k ∧ k ≠ T ∧ k ≠ T + 1) → O0 k ∨ T ≤ k := fun k hk => by
      rcases hx2 k hk.1 with (h | h | h) | h
      · exact .inl h
      · exact .inr (by omega)
      · exact .inr (by omega)
      · exact .inr (by omega)
    have hput : ∀ (o : Obj), ∀ X : Nat → Prop, X (T + 1) → Fr X W2 (W2.putObj (T + 1) o) := fun o X hX => Fr.putObj _ _ hX
    rcases h with ⟨xs, hS, hi, hT0, hT1, hsz, hl, hk⟩ | ⟨pre, hSp, ⟨c, hi, hl⟩, hT0, hT1, hsz, hk⟩
    · have hr := run_endLoop (P := P) hl (by rw [rs]; simp)
      have hpe : (rec .ready none).pending = none := by rw [← hrec]
      rw [hpe] at hr
      exact ⟨none, _, hr, hdone _ xs _ _ (Nat.le_refl _) hS (hI _ _ _ _ hi (hput _ _ (fun h => h.2.2 rfl))) hx (fun k hk => by have := hb2 k hk.1; simpa [World.putObj] using this) (fun h => h.2.1 rfl) (hfw _ (hput _)) ((World.putObj_heap_other (by omega)).trans hk)⟩
    · have hr := run_endLoop (P := P) hl (by rw [rs]; simp)
      have hpe : (rec .done (some c)).pending = some c := by rw [← hrec]
      rw [hpe] at hr
      exact ⟨some c, _, hr, hstop _ c pre _ _ (Nat.le_refl _) hSp (hIx c _ _ _ _ hi (hput _ _ (fun h => h.2.2 rfl))) hx (fun k hk => by have := hb2 k hk.1; simpa [World.putObj] using this) (fun h => h.2.1 rfl) (hfw _ (hput _)) ((World.putObj_heap_other (by omega)).trans hk)⟩
end
end Go.Proofs.YtonmmgcibpjahaaGreatDoor
end

section
/- CivilF: Layer 8 walked: which date a day of a month is. -/
namespace Go.Proofs.YtonmmgcibpjahaaGreatDoor
open Go Go.RowKit Go.Shelf
attribute [local go_sem] Oper.semAt_some
set_option maxRecDepth 100000

/-- The day of the week that is sought, from a day on, upwards or downwards. -/
def seekV (a st wk : Int) : Int := if st = 1 then a + (wk - weekV a) % 7 else a - (weekV a - wk) % 7
/-- From which day on it is sought. -/
def inDay0 (k n y m : Int) : Int := dayV y m (if k = 1 then lenV y m else n)
/-- Which day it is. -/
def inDay (k wk n y m : Int) : Int := if k = 0 then dayV y m n else if k = 2 then seekV (dayV y m n) 1 wk else seekV (dayV y m (if k = 1 then lenV y m else n)) (-1) wk
/-- Is there a day? -/
def inB (k wk n y m : Int) : Bool := dayOkB k wk n && ymB y m && decide (n ≤ lenV y m)
def ofInB (n : Int) : Bool := decide (-37243778 ≤ n ∧ n < 35805088)
def ofA (n : Int) : Value := if ofInB n then dateA (ofYear n) (ofMon n) (ofDay n) else dateA 0 0 0
def ofE_ (n : Int) : Int := if ofInB n then 0 else 10
theorem weekV_add (a k : Int) : weekV (a + k) = (weekV a + k) % 7 := by unfold weekV; omega
theorem seek_spec {a st wk : Int} (hst : st = 1 ∨ st = -1) (h1 : 0 ≤ wk) (h2 : wk < 7) : ∃ k : Nat, k < 7 ∧ seekV a st wk = a + st * k ∧ weekV (a + st * k) = wk ∧ ∀ j : Nat, j < k → weekV (a + st * j) ≠ wk := by
  have hw := weekV_in a
  rcases hst with rfl | rfl
  · refine ⟨((wk - weekV a) % 7).toNat, by omega, ?_, ?_, fun j hj => ?_⟩
    · unfold seekV
      rw [if_pos rfl, Int.one_mul]
      omega
    · rw [Int.one_mul, weekV_add]
      omega
    · rw [Int.one_mul, weekV_add]
      omega
  · refine ⟨((weekV a - wk) % 7).toNat, by omega, ?_, ?_, fun j hj => ?_⟩
    · unfold seekV
      rw [if_neg (by omega)]
      omega
    · rw [show a + -1 * (((weekV a - wk) % 7).toNat : Int) = a + (-(((weekV a - wk) % 7).toNat : Int)) by omega, weekV_add]
      omega
    · rw [show a + -1 * (j : Int) = a + (-(j : Int)) by omega, weekV_add]
      omega
/-- The loop's variables: the day's form, the answer, the day that is looked at. -/
def SeekI (n fb : Nat) (k wk N : Int) (f : Nat → Int) (pre : List Nat) (O : Nat → Prop) (W : World) : Prop :=
  (O n ∧ O (n + 1) ∧ O fb) ∧ Blk W n 48 #[.int .i64 k, .int .i64 wk, .int .i64 N] ∧ Blk W (n + 1) 74 #[.int .i64 0, .int .i64 0, .int .i64 0] ∧ (∃ v, Blk W fb 3 #[.int .i64 v]) ∧ ∀ j, j < pre.length → weekV (f j) ≠ wk
def SeekP (n fb : Nat) (k wk N : Int) (f : Nat → Int) (pre : List Nat) (x : Nat) (O : Nat → Prop) (W : World) : Prop :=
  (O n ∧ O (n + 1) ∧ O fb) ∧ Blk W n 48 #[.int .i64 k, .int .i64 wk, .int .i64 N] ∧ Blk W (n + 1) 74 #[.int .i64 0, .int .i64 0, .int .i64 0] ∧ Blk W fb 3 #[.int .i64 (f x)] ∧ ∀ j, j < pre.length → weekV (f j) ≠ wk
def SeekX (n fb : Nat) (k wk N : Int) (f : Nat → Int) (c : Code) (_ : List Nat) (O : Nat → Prop) (W : World) : Prop :=
  c = .exit 1 ∧ (O n ∧ O (n + 1) ∧ O fb) ∧ Blk W n 48 #[.int .i64 k, .int .i64 wk, .int .i64 N] ∧ Blk W (n + 1) 74 #[.int .i64 0, .int .i64 0, .int .i64 0] ∧ ∃ j, Blk W fb 3 #[.int .i64 (f j)] ∧ weekV (f j) = wk ∧ ∀ i, i < j → weekV (f i) ≠ wk
theorem seekI_feet (n fb : Nat) (k wk N : Int) (f : Nat → Int) : Feet (SeekI n fb k wk N f) := by
  rintro pre O W W' ⟨⟨o0, o1, o2⟩, h0, h1, ⟨v, h2⟩, hs⟩ hf
  exact ⟨⟨o0, o1, o2⟩, h0.fr hf (fun h => h o0), h1.fr hf (fun h => h o1), ⟨v, h2.fr hf (fun h => h o2)⟩, hs⟩
theorem seekP_feet (n fb : Nat) (k wk N : Int) (f : Nat → Int) (x : Nat) : Feet (fun pre => SeekP n fb k wk N f pre x) := by
  rintro pre O W W' ⟨⟨o0, o1, o2⟩, h0, h1, h2, hs⟩ hf
  exact ⟨⟨o0, o1, o2⟩, h0.fr hf (fun h => h o0), h1.fr hf (fun h => h o1), h2.fr hf (fun h => h o2), hs⟩
theorem seekX_feet (n fb : Nat) (k wk N : Int) (f : Nat → Int) (c : Code) : Feet (SeekX n fb k wk N f c) := by
  rintro pre O W W' ⟨hc, ⟨o0, o1, o2⟩, h0, h1, j, h2, hs⟩ hf
  exact ⟨hc, ⟨o0, o1, o2⟩, h0.fr hf (fun h => h o0), h1.fr hf (fun h => h o1), j, h2.fr hf (fun h => h o2), hs⟩
set_option maxHeartbeats 4000000 in
theorem in_last (wk n y m : Int) (w : World) (ha : Ahead w) (h : inB 1 wk n y m = true) :
    Calls Tryz.prog 79 #[dayA 1 wk n, .int .i64 y, .int .i64 m] w fun e w' => e = .returned (.tuple #[ofA (inDay 1 wk n y m), .int .i64 (ofE_ (inDay 1 wk n y m))]) ∧ Below w.heap.size w w' := by
  unfold inB at h
  simp only [Bool.and_eq_true, decide_eq_true_eq] at h
  obtain ⟨⟨hok, hym⟩, hnl⟩ := h
  have hwk : 0 ≤ wk ∧ wk < 7 := by
    have h := hok
    unfold dayOkB at h
    rw [decide_eq_true_eq] at h
    omega
  have HL0 := show longV y m = (lenV y m, 0) by unfold longV; rw [if_pos hym]
  unfold dayA
  refine (callsIn_wide (n := 8)).1 ?_
  refine callsIn_of_wp_marks Tryz.func79 rfl trivial ?_ rfl
  simp only [Tryz.ntmps79, List.size_toArray, List.length_cons, List.length_nil, Nat.reduceAdd, Nat.reduceSub, Array.replicate_succ, Array.replicate_zero, List.push_toArray, List.append_toArray, List.nil_append, List.cons_append]
  gi_wp2
  obtain ⟨W0, hW0⟩ : ∃ W, (w.alloc (.cells #[.int .i64 1, .int .i64 wk, .int .i64 n] 48)).alloc (.cells #[.int .i64 0, .int .i64 0, .int .i64 0] 74) = W := ⟨_, rfl⟩
  obtain ⟨b0, b1, hb0, hs0⟩ := blks2 w _ _ _ _ W0 hW0
  rw [hW0]
  clear hW0
  have HC := Lib.hid (dfcheck_any 1 wk n W0)
  rw [if_pos hok] at HC
  have HB0 := Lib.hid (And.intro hb0 (And.intro b0 b1))
  have q0 := b0.cell 0 (v := .int .i64 1) rfl
  have q1 := b0.cell 1 (v := .int .i64 wk) rfl
  have q2 := b0.cell 2 (v := .int .i64 n) rfl
  clear hb0 b0 b1
  unfold dayA at HC
  refine wpIn_scope ?_
  gi_wp2
  refine ⟨trivial, (callsIn_wide.2 HC.out).mono ?_⟩
  rintro e w1 ⟨rfl, hb⟩
  have HB1 := Lib.hid (show Below w.heap.size w w1 ∧ Blk w1 w.heap.size 48 #[.int .i64 1, .int .i64 wk, .int .i64 n] ∧ Blk w1 (w.heap.size + 1) 74 #[.int .i64 0, .int .i64 0, .int .i64 0] from ⟨HB0.out.1.trans (hb.mono HB0.out.1.size), HB0.out.2.1.below hb HB0.out.2.1.lt, HB0.out.2.2.below hb HB0.out.2.2.lt⟩)
  clear hb HB0 HC q0 q1 q2
  have HL := Lib.hid (long_any y m w1 (ha.below HB1.out.1 (Nat.le_refl _)))
  rw [HL0] at HL
  gi_wp2
  refine ⟨trivial, (callsIn_wide.2 HL.out).mono ?_⟩
  rintro e w2 ⟨rfl, q, rfl⟩
  have HB2 := Lib.hid (show Below w.heap.size w (w1.drewN q) ∧ Blk (w1.drewN q) w.heap.size 48 #[.int .i64 1, .int .i64 wk, .int .i64 n] ∧ Blk (w1.drewN q) (w.heap.size + 1) 74 #[.int .i64 0, .int .i64 0, .int .i64 0] from ⟨below_drewN HB1.out.1 q, HB1.out.2.1.drewN q, HB1.out.2.2.drewN q⟩)
  obtain ⟨W2, hW2⟩ : ∃ W, w1.drewN q = W := ⟨_, rfl⟩
  rw [hW2] at HB2 ⊢
  clear hW2 HL HB1
  have q0 := HB2.out.2.1.cell 0 (v := .int .i64 1) rfl
  have q1 := HB2.out.2.1.cell 1 (v := .int .i64 wk) rfl
  have q2 := HB2.out.2.1.cell 2 (v := .int .i64 n) rfl
  have HD := Lib.hid (days_any y m (lenV y m) W2 (ha.below HB2.out.1 (Nat.le_refl _)))
  have hdb : dateB y m (lenV y m) = true := by
    unfold dateB
    rw [hym]
    unfold dayOkB at hok
    simp only [decide_eq_true_eq] at hok
    have hlen := lenV_in (y := y) (m := m) (by unfold ymB at hym; rw [decide_eq_true_eq] at hym; exact hym.2.2.1) (by unfold ymB at hym; rw [decide_eq_true_eq] at hym; exact hym.2.2.2)
    simp
    omega
  rw [if_pos hdb] at HD
  have hdr := dayV_in hdb
  obtain ⟨a0, ha0⟩ : ∃ a0, dayV y m (lenV y m) = a0 := ⟨_, rfl⟩
  rw [ha0] at HD hdr
  have HA := Lib.hid ha0
  clear ha0
  unfold dateA at HD
  gi_wp2
  refine ⟨trivial, (callsIn_wide.2 HD.out).mono ?_⟩
  rintro e w3 ⟨rfl, hb⟩
  have HB3 := Lib.hid (show Below w.heap.size w w3 ∧ Blk w3 w.heap.size 48 #[.int .i64 1, .int .i64 wk, .int .i64 n] ∧ Blk w3 (w.heap.size + 1) 74 #[.int .i64 0, .int .i64 0, .int .i64 0] from ⟨HB2.out.1.trans (hb.mono HB2.out.1.size), HB2.out.2.1.below hb HB2.out.2.1.lt, HB2.out.2.2.below hb HB2.out.2.2.lt⟩)
  clear hb HB2 HD q0 q1 q2
  gi_wp2
  refine wpIn_label ?_
  have hsz := HB3.out.2.2.lt
  have hb4 : Below w.heap.size w (w3.alloc (.cells #[.int .i64 a0] 3)) := HB3.out.1.alloc HB3.out.1.size _
  have hf4 := Blk.new w3 3 #[.int .i64 a0]
  have HB4 := Lib.hid (show Below w.heap.size w (w3.alloc (.cells #[.int .i64 a0] 3)) ∧ Blk (w3.alloc (.cells #[.int .i64 a0] 3)) w.heap.size 48 #[.int .i64 1, .int .i64 wk, .int .i64 n] ∧ Blk (w3.alloc (.cells #[.int .i64 a0] 3)) (w.heap.size + 1) 74 #[.int .i64 0, .int .i64 0, .int .i64 0] ∧ Blk (w3.alloc (.cells #[.int .i64 a0] 3)) w3.heap.size 3 #[.int .i64 a0] from ⟨hb4, HB3.out.2.1.alloc _, HB3.out.2.2.alloc _, hf4⟩)
  obtain ⟨W4, hW4⟩ : ∃ W, w3.alloc (.cells #[.int .i64 a0] 3) = W := ⟨_, rfl⟩
  rw [hW4] at HB4 ⊢
  have hs4 : w3.heap.size < W4.heap.size := by rw [← hW4]; simp
  generalize w3.heap.size = fb at *
  clear hW4 hb4 hf4 HB3
  have HFM := Lib.hid (from_any a0 (-1) W4)
  obtain ⟨f, hf⟩ : ∃ f : Nat → Int, ∀ k, f k = a0 + (-1) * (k : Int) := ⟨fun k => a0 + (-1) * (k : Int), fun _ => rfl⟩
  have HF := Lib.hid hf
  have hf0 : f 0 = a0 := by rw [hf]; simp
  have HF0 := Lib.hid hf0
  clear hf hf0
  gi_wp2
  refine ⟨trivial, (callsIn_wide.2 HFM.out).mono ?_⟩
  rintro e W5 ⟨rfl, hb5, hs5, hd5, hst5⟩
  have HB5 := Lib.hid (show Below w.heap.size w W5 ∧ SeekI w.heap.size fb 1 wk n f [] (fun k => k = w.heap.size ∨ k = w.heap.size + 1 ∨ k = fb) W5 from ⟨HB4.out.1.trans (hb5.mono HB4.out.1.size), ⟨.inl rfl, .inr (.inl rfl), .inr (.inr rfl)⟩, HB4.out.2.1.below hb5 HB4.out.2.1.lt, HB4.out.2.2.1.below hb5 HB4.out.2.2.1.lt, ⟨a0, HB4.out.2.2.2.below hb5 HB4.out.2.2.2.lt⟩, fun j hj => by simp at hj⟩)
  have HD5 := Lib.hid (And.intro hd5 hst5)
  have hw5 := HB5.out.1.size
  clear hb5 HB4 HFM hd5 hst5
  gi_wp2
  refine range_own_set (α := Nat) rfl (by omega) (gf := 149) (lb := #[.pointer (some ⟨W4.heap.size, 0, none⟩), .pointer (some ⟨W4.heap.size + 1, 0, none⟩)]) rfl trivial (enters_of Tryz.func149 (by kernel_rfl) rfl)
    (encs := encD f) (K := fun k => k = W4.heap.size ∨ k = W4.heap.size + 1)
    (fun W hW => from1_iter 7 (by omega) _ _ f (-1) W (fun k => by rw [HF.out, HF.out]; omega) (fun k hk => by rw [HF.out]; omega) (by omega) (by rw [HF0.out]; exact HD5.out.1.below hW HD5.out.1.lt) (HD5.out.2.below hW HD5.out.2.lt) (by omega))
    (fun _ => rfl) (SeekI w.heap.size fb 1 wk n f) (SeekX w.heap.size fb 1 wk n f) (seekI_feet _ _ _ _ _ _) (seekX_feet _ _ _ _ _ _) (SeekP w.heap.size fb 1 wk n f) (seekP_feet _ _ _ _ _ _)
    (fun k => k = w.heap.size ∨ k = w.heap.size + 1 ∨ k = fb) HB5.out.2 (fun k hk => by omega) (fun k hk => by omega) (fun k hk h => by omega) ?round ?done ?stop
  case round =>
    intro lp pre x O D W hI hBO hBD hDO hR nOl nDl hlow hltl
    obtain ⟨hnD, rfl, hx7⟩ := hR
    unfold encD
    obtain ⟨⟨o0, o1, o2⟩, h0, h1, ⟨v, h2⟩, hs⟩ := hI
    have q0 := h2.cell 0 (v := .int .i64 v) rfl
    have qf := h2.frozen 0
    have HW := Lib.hid (show (Fr O W (W.setCell ⟨fb, 0, none⟩ (.int .i64 (f pre.length))) ∧ SeekP w.heap.size fb 1 wk n f pre pre.length O (W.setCell ⟨fb, 0, none⟩ (.int .i64 (f pre.length)))) ∧ Bd O W from ⟨⟨Fr.setCell W 0 _ o2, ⟨o0, o1, o2⟩, h0.other (by omega) 0 _, h1.other (by omega) 0 _, h2.set 0 _, hs⟩, hBO⟩)
    clear h0 h1 h2 hs hBO hBD hDO
    gi_wp2
    refine ⟨HW.out.1, ?_⟩
    intro Wb hfb hIb _
    have HBW := Lib.hid ((HW.out.2.fr HW.out.1.1).fr hfb)
    have HIB := Lib.hid hIb
    have HWK := Lib.hid (fun W => weekday_any (f pre.length) W)
    have HZ := Lib.hid (show leftO (SeekI w.heap.size fb 1 wk n f) (SeekX w.heap.size fb 1 wk n f) (pre ++ [pre.length]) O D Wb = leftO (SeekI w.heap.size fb 1 wk n f) (SeekX w.heap.size fb 1 wk n f) (pre ++ [pre.length]) O D Wb from rfl)
    have HLF := Lib.hid (show ∀ W, Below Wb.heap.size Wb W → (weekV (f pre.length) ≠ wk → leftO (SeekI w.heap.size fb 1 wk n f) (SeekX w.heap.size fb 1 wk n f) (pre ++ [pre.length]) O D Wb .normal ⟨#[], []⟩ W) ∧ (weekV (f pre.length) = wk → leftO (SeekI w.heap.size fb 1 wk n f) (SeekX w.heap.size fb 1 wk n f) (pre ++ [pre.length]) O D Wb (.exit 1) ⟨#[], []⟩ W) from fun W hbW => by
      obtain ⟨oo, h0, h1, h2, hs⟩ := HIB.out
      have g0 := h0.below hbW h0.lt
      have g1 := h1.below hbW h1.lt
      have g2 := h2.below hbW h2.lt
      have hF : ∀ T, Fr T Wb W := fun T => Fr.of_below hbW (Nat.le_refl _)
      refine ⟨fun hne => ⟨O, fun k h => .inl h, HBW.out.fr (hF (fun _ => True)), hF _, oo, g0, g1, ⟨_, g2⟩, fun j hj => ?_⟩, fun he => ⟨O, fun k h => .inl h, HBW.out.fr (hF (fun _ => True)), hF _, rfl, oo, g0, g1, pre.length, g2, he, hs⟩⟩
      rw [List.length_append, List.length_singleton] at hj
      rcases Nat.lt_or_ge j pre.length with h | h
      · exact hs j h
      · rw [show j = pre.length by omega]
        exact hne)
    obtain ⟨-, h0, h1, h2, hs⟩ := hIb
    have q0 := h2.cell 0 (v := .int .i64 (f pre.length)) rfl
    have q1 := h0.cell 1 (v := .int .i64 wk) rfl
    have HQ := Lib.hid (fun W (hb : Below Wb.heap.size Wb W) => show W.cell? ⟨fb, 0, none⟩ = some (.int .i64 (f pre.length)) ∧ W.cell? ⟨w.heap.size, 1, none⟩ = some (.int .i64 wk) from ⟨(h2.below hb h2.lt).cell 0 rfl, (h0.below hb h0.lt).cell 1 rfl⟩)
    clear h0 h1 h2 hs HW qf HB5 HD5
    generalize f pre.length = z at *
    generalize weekV z = wz at *
    by_cases hw : wz = wk
    · have HRES := Lib.hid (fun W hb => (HLF.out W hb).2 hw)
      clear HLF
      have hw' := hw.symm
      subst hw'
      gi_wp2
      refine wpIn_env (fin := ?fnT) (wide1 lp) (by kernel_rfl) [65, 66, 67, 68, 69]
        [.int .i64 z, .int .i64 wk, .pointer (some ⟨w.heap.size, 1, none⟩), .int .i64 wk, .bool true] (by kernel_rfl) ?finT ?stepsT ?nextT
      case finT =>
        simp only [putAll, Act.put, List.setIfInBounds_toArray, List.set_cons_succ, List.set_cons_zero]
        rfl
      case stepsT =>
        refine ⟨.inr ⟨by kernel_rfl, fun w1_ hB_ => ?_⟩, .inr ⟨by kernel_rfl, fun w1_ hB_ => ?_⟩, .inr ⟨by kernel_rfl, fun w1_ hB_ => ?_⟩, .inr ⟨by kernel_rfl, fun w1_ hB_ => ?_⟩, .inr ⟨by kernel_rfl, fun w1_ hB_ => ?_⟩, trivial⟩
        all_goals
          obtain ⟨c0, c1⟩ := HQ.out w1_ hB_
          clear hB_
          go_simp
          first
            | exact ⟨rfl, Below.refl _ _⟩
            | exact ⟨rfl, (HWK.out w1_).mono fun e w' h => ⟨h.1, by rw [h.2]; exact Below.refl _ _⟩⟩
            | done
      case nextT =>
      intro w7 hb7
      have HR := HRES.out w7 hb7
      clear hb7 HRES
      gi_wp2
      exact HR
    · have HRES := Lib.hid (fun W hb => (HLF.out W hb).1 hw)
      have hw2 : (wz == wk) = false := by simpa using hw
      clear HLF
      gi_wp2
      refine wpIn_env (fin := ?fnF) (wide1 lp) (by kernel_rfl) [65, 66, 67, 68, 69]
        [.int .i64 z, .int .i64 wz, .pointer (some ⟨w.heap.size, 1, none⟩), .int .i64 wk, .bool false] (by kernel_rfl) ?finF ?stepsF ?nextF
      case finF =>
        simp only [putAll, Act.put, List.setIfInBounds_toArray, List.set_cons_succ, List.set_cons_zero]
        rfl
      case stepsF =>
        refine ⟨.inr ⟨by kernel_rfl, fun w1_ hB_ => ?_⟩, .inr ⟨by kernel_rfl, fun w1_ hB_ => ?_⟩, .inr ⟨by kernel_rfl, fun w1_ hB_ => ?_⟩, .inr ⟨by kernel_rfl, fun w1_ hB_ => ?_⟩, .inr ⟨by kernel_rfl, fun w1_ hB_ => ?_⟩, trivial⟩
        all_goals
          obtain ⟨c0, c1⟩ := HQ.out w1_ hB_
          clear hB_
          go_simp
          first
            | exact ⟨rfl, Below.refl _ _⟩
            | exact ⟨rfl, (HWK.out w1_).mono fun e w' h => ⟨h.1, by rw [h.2]; exact Below.refl _ _⟩⟩
            | done
      case nextF =>
      intro w7 hb7
      have HR := HRES.out w7 hb7
      clear hb7 HRES
      gi_wp2
      exact HR
  case stop =>
    rintro D c pre O W hD - ⟨rfl, ⟨o0, o1, o2⟩, h0, h1, j, h2, hj, hjn⟩ hO hBO hOD hfr hK
    have hv : f j = inDay 1 wk n y m := by
      obtain ⟨k, h1, h3, h4, h5⟩ := seek_spec (a := a0) (st := -1) (wk := wk) (by omega) hwk.1 hwk.2
      rcases Nat.lt_trichotomy j k with h | h | h
      · exact absurd (by rw [HF.out] at hj; exact hj) (h5 j h)
      · subst h
        rw [HF.out, ← h3]
        have e := HA.out
        unfold inDay
        simp
        rw [e]
      · exact absurd (by rw [HF.out]; exact h4) (hjn k h)
    have HV := Lib.hid hv
    clear hv hj hjn
    have hsw := hfr.size
    have hW := HB5.out.1.trans (hfr.below hw5 (fun k hk h => by rcases h with h | h <;> omega))
    have HBW := Lib.hid hW
    have haW : Ahead W := fun k hk => by
      have h := (ha.below HB5.out.1 (Nat.le_refl _)) k hk
      have hlt := World.block_lt_of_cell? w _ (ha k hk)
      exact (hfr.cell (p := ⟨0, k, none⟩) (Nat.lt_of_lt_of_le hlt hw5) (fun h => by rcases h with h | h <;> simp at h hlt <;> omega)).trans h
    have HOF := Lib.hid (show Calls Tryz.prog 59 #[.int .i64 (f j)] W fun e w' => e = .returned (.tuple #[ofA (f j), .int .i64 (ofE_ (f j))]) ∧ Below W.heap.size W w' by
      unfold ofA ofE_ ofInB
      by_cases hin : -37243778 ≤ f j ∧ f j < 35805088
      · simp only [hin, decide_true, if_true, and_self]
        exact of_any (f j) hin.1 hin.2 W haW
      · simp only [hin, decide_false]
        exact of_out (f j) hin W)
    have q0 := h2.cell 0 (v := .int .i64 (f j)) rfl
    obtain ⟨Y, M, D2, hofa⟩ : ∃ Y M D2, ofA (f j) = .agg #[.int .i64 Y, .int .i64 M, .int .i64 D2] := by
      unfold ofA dateA
      split <;> exact ⟨_, _, _, rfl⟩
    rw [hofa] at HOF
    have HOA := Lib.hid hofa
    obtain ⟨E, hE⟩ : ∃ E, ofE_ (f j) = E := ⟨_, rfl⟩
    rw [hE] at HOF
    have HE := Lib.hid hE
    have H1 := Lib.hid h1
    have HK := Lib.hid hK
    have hDW : D < W.heap.size := (Array.getElem?_eq_some_iff.1 hK).1
    clear hofa hE h0 h1 h2 haW hW hfr hK HB5 HD5 hO hBO
    generalize f j = z at *
    gi_wp2
    refine ⟨trivial, (callsIn_wide.2 HOF.out).mono ?_⟩
    rintro e W6 ⟨rfl, hb6⟩
    have h6 := H1.out.below hb6 H1.out.lt
    have hK6 := (hb6.block D hDW).trans HK.out
    have HB6 := Lib.hid (HBW.out.trans (hb6.mono HBW.out.size))
    have r0 := h6.cell 0 (v := .int .i64 0) rfl
    have r1 := h6.cell 1 (v := .int .i64 0) rfl
    have r2 := h6.cell 2 (v := .int .i64 0) rfl
    have g0 := h6.frozen 0
    have g1 := h6.frozen 1
    have g2 := h6.frozen 2
    have HR := Lib.hid (((h6.set 0 (.int .i64 Y)).set 1 (.int .i64 M)).set 2 (.int .i64 D2))
    have HKD := Lib.hid (show (((W6.setCell ⟨w.heap.size + 1, 0, none⟩ (.int .i64 Y)).setCell ⟨w.heap.size + 1, 1, none⟩ (.int .i64 M)).setCell ⟨w.heap.size + 1, 2, none⟩ (.int .i64 D2)).heap[D]? = some (.deferred (some [])) from (fr_set3 (T := fun k => k = w.heap.size + 1) W6 rfl _ _ _).at_ hK6 (by omega))
    have HBL := Lib.hid (below_set3 HB6.out (show w.heap.size ≤ w.heap.size + 1 by omega) (.int .i64 Y) (.int .i64 M) (.int .i64 D2))
    clear hb6 h6 hK6 HOF HK q0
    gi_wp2
    refine ⟨by simp, .inl ⟨_, _, rfl, run_takeDeferred HKD.out, ?_⟩⟩
    have hres : Blk ((((W6.setCell ⟨w.heap.size + 1, 0, none⟩ (.int .i64 Y)).setCell ⟨w.heap.size + 1, 1, none⟩ (.int .i64 M)).setCell ⟨w.heap.size + 1, 2, none⟩ (.int .i64 D2)).putObj D (.deferred none)) (w.heap.size + 1) 74 #[.int .i64 Y, .int .i64 M, .int .i64 D2] := (World.putObj_heap_other (by omega)).trans HR.out
    have c0 := hres.cell 0 (v := .int .i64 Y) rfl
    have c1 := hres.cell 1 (v := .int .i64 M) rfl
    have c2 := hres.cell 2 (v := .int .i64 D2) rfl
    refine ⟨.tuple #[.agg #[.int .i64 Y, .int .i64 M, .int .i64 D2], .int .i64 E], ?_, ⟨by rw [← HV.out, HOA.out, HE.out], fin_below HBL.out (by omega)⟩⟩
    simp [results, Tryz.f79, go_sem, c0, c1, c2]
  case done =>
    rintro D xs O W hD hS ⟨-, -, -, -, hs⟩
    exfalso
    obtain ⟨k, h1, -, h2, -⟩ := seek_spec (a := a0) (st := -1) (wk := wk) (by omega) (by omega) (by omega)
    exact hs k (by rw [hS]; exact h1) (by rw [HF.out]; exact h2)
set_option maxHeartbeats 4000000 in
theorem in_less (wk n y m : Int) (w : World) (ha : Ahead w) (h : inB 2 wk n y m = true) :
    Calls Tryz.prog 79 #[dayA 2 wk n, .int .i64 y, .int .i64 m] w fun e w' => e = .returned (.tuple #[ofA (inDay 2 wk n y m), .int .i64 (ofE_ (inDay 2 wk n y m))]) ∧ Below w.heap.size w w' := by
  unfold inB at h
  simp only [Bool.and_eq_true, decide_eq_true_eq] at h
  obtain ⟨⟨hok, hym⟩, hnl⟩ := h
  have hwk : 0 ≤ wk ∧ wk < 7 := by
    have h := hok
    unfold dayOkB at h
    rw [decide_eq_true_eq] at h
    omega
  have HL0 := show longV y m = (lenV y m, 0) by unfold longV; rw [if_pos hym]
  unfold dayA
  refine (callsIn_wide (n := 8)).1 ?_
  refine callsIn_of_wp_marks Tryz.func79 rfl trivial ?_ rfl
  simp only [Tryz.ntmps79, List.size_toArray, List.length_cons, List.length_nil, Nat.reduceAdd, Nat.reduceSub, Array.replicate_succ, Array.replicate_zero, List.push_toArray, List.append_toArray, List.nil_append, List.cons_append]
  gi_wp2
  obtain ⟨W0, hW0⟩ : ∃ W, (w.alloc (.cells #[.int .i64 2, .int .i64 wk, .int .i64 n] 48)).alloc (.cells #[.int .i64 0, .int .i64 0, .int .i64 0] 74) = W := ⟨_, rfl⟩
  obtain ⟨b0, b1, hb0, hs0⟩ := blks2 w _ _ _ _ W0 hW0
  rw [hW0]
  clear hW0
  have HC := Lib.hid (dfcheck_any 2 wk n W0)
  rw [if_pos hok] at HC
  have HB0 := Lib.hid (And.intro hb0 (And.intro b0 b1))
  have q0 := b0.cell 0 (v := .int .i64 2) rfl
  have q1 := b0.cell 1 (v := .int .i64 wk) rfl
  have q2 := b0.cell 2 (v := .int .i64 n) rfl
  clear hb0 b0 b1
  unfold dayA at HC
  refine wpIn_scope ?_
  gi_wp2
  refine ⟨trivial, (callsIn_wide.2 HC.out).mono ?_⟩
  rintro e w1 ⟨rfl, hb⟩
  have HB1 := Lib.hid (show Below w.heap.size w w1 ∧ Blk w1 w.heap.size 48 #[.int .i64 2, .int .i64 wk, .int .i64 n] ∧ Blk w1 (w.heap.size + 1) 74 #[.int .i64 0, .int .i64 0, .int .i64 0] from ⟨HB0.out.1.trans (hb.mono HB0.out.1.size), HB0.out.2.1.below hb HB0.out.2.1.lt, HB0.out.2.2.below hb HB0.out.2.2.lt⟩)
  clear hb HB0 HC q0 q1 q2
  have HL := Lib.hid (long_any y m w1 (ha.below HB1.out.1 (Nat.le_refl _)))
  rw [HL0] at HL
  gi_wp2
  refine ⟨trivial, (callsIn_wide.2 HL.out).mono ?_⟩
  rintro e w2 ⟨rfl, q, rfl⟩
  have HB2 := Lib.hid (show Below w.heap.size w (w1.drewN q) ∧ Blk (w1.drewN q) w.heap.size 48 #[.int .i64 2, .int .i64 wk, .int .i64 n] ∧ Blk (w1.drewN q) (w.heap.size + 1) 74 #[.int .i64 0, .int .i64 0, .int .i64 0] from ⟨below_drewN HB1.out.1 q, HB1.out.2.1.drewN q, HB1.out.2.2.drewN q⟩)
  obtain ⟨W2, hW2⟩ : ∃ W, w1.drewN q = W := ⟨_, rfl⟩
  rw [hW2] at HB2 ⊢
  clear hW2 HL HB1
  have q0 := HB2.out.2.1.cell 0 (v := .int .i64 2) rfl
  have q1 := HB2.out.2.1.cell 1 (v := .int .i64 wk) rfl
  have q2 := HB2.out.2.1.cell 2 (v := .int .i64 n) rfl
  have HD := Lib.hid (days_any y m (n) W2 (ha.below HB2.out.1 (Nat.le_refl _)))
  have hdb : dateB y m (n) = true := by
    unfold dateB
    rw [hym]
    unfold dayOkB at hok
    simp only [decide_eq_true_eq] at hok
    have hlen := lenV_in (y := y) (m := m) (by unfold ymB at hym; rw [decide_eq_true_eq] at hym; exact hym.2.2.1) (by unfold ymB at hym; rw [decide_eq_true_eq] at hym; exact hym.2.2.2)
    simp
    omega
  rw [if_pos hdb] at HD
  have hdr := dayV_in hdb
  obtain ⟨a0, ha0⟩ : ∃ a0, dayV y m (n) = a0 := ⟨_, rfl⟩
  rw [ha0] at HD hdr
  have HA := Lib.hid ha0
  clear ha0
  unfold dateA at HD
  gi_wp2
  refine ⟨trivial, (callsIn_wide.2 HD.out).mono ?_⟩
  rintro e w3 ⟨rfl, hb⟩
  have HB3 := Lib.hid (show Below w.heap.size w w3 ∧ Blk w3 w.heap.size 48 #[.int .i64 2, .int .i64 wk, .int .i64 n] ∧ Blk w3 (w.heap.size + 1) 74 #[.int .i64 0, .int .i64 0, .int .i64 0] from ⟨HB2.out.1.trans (hb.mono HB2.out.1.size), HB2.out.2.1.below hb HB2.out.2.1.lt, HB2.out.2.2.below hb HB2.out.2.2.lt⟩)
  clear hb HB2 HD q0 q1 q2
  gi_wp2
  refine wpIn_label ?_
  have hsz := HB3.out.2.2.lt
  have hb4 : Below w.heap.size w (w3.alloc (.cells #[.int .i64 a0] 3)) := HB3.out.1.alloc HB3.out.1.size _
  have hf4 := Blk.new w3 3 #[.int .i64 a0]
  have HB4 := Lib.hid (show Below w.heap.size w (w3.alloc (.cells #[.int .i64 a0] 3)) ∧ Blk (w3.alloc (.cells #[.int .i64 a0] 3)) w.heap.size 48 #[.int .i64 2, .int .i64 wk, .int .i64 n] ∧ Blk (w3.alloc (.cells #[.int .i64 a0] 3)) (w.heap.size + 1) 74 #[.int .i64 0, .int .i64 0, .int .i64 0] ∧ Blk (w3.alloc (.cells #[.int .i64 a0] 3)) w3.heap.size 3 #[.int .i64 a0] from ⟨hb4, HB3.out.2.1.alloc _, HB3.out.2.2.alloc _, hf4⟩)
  obtain ⟨W4, hW4⟩ : ∃ W, w3.alloc (.cells #[.int .i64 a0] 3) = W := ⟨_, rfl⟩
  rw [hW4] at HB4 ⊢
  have hs4 : w3.heap.size < W4.heap.size := by rw [← hW4]; simp
  generalize w3.heap.size = fb at *
  clear hW4 hb4 hf4 HB3
  have HFM := Lib.hid (from_any a0 (1) W4)
  obtain ⟨f, hf⟩ : ∃ f : Nat → Int, ∀ k, f k = a0 + (1) * (k : Int) := ⟨fun k => a0 + (1) * (k : Int), fun _ => rfl⟩
  have HF := Lib.hid hf
  have hf0 : f 0 = a0 := by rw [hf]; simp
  have HF0 := Lib.hid hf0
  clear hf hf0
  gi_wp2
  refine ⟨trivial, (callsIn_wide.2 HFM.out).mono ?_⟩
  rintro e W5 ⟨rfl, hb5, hs5, hd5, hst5⟩
  have HB5 := Lib.hid (show Below w.heap.size w W5 ∧ SeekI w.heap.size fb 2 wk n f [] (fun k => k = w.heap.size ∨ k = w.heap.size + 1 ∨ k = fb) W5 from ⟨HB4.out.1.trans (hb5.mono HB4.out.1.size), ⟨.inl rfl, .inr (.inl rfl), .inr (.inr rfl)⟩, HB4.out.2.1.below hb5 HB4.out.2.1.lt, HB4.out.2.2.1.below hb5 HB4.out.2.2.1.lt, ⟨a0, HB4.out.2.2.2.below hb5 HB4.out.2.2.2.lt⟩, fun j hj => by simp at hj⟩)
  have HD5 := Lib.hid (And.intro hd5 hst5)
  have hw5 := HB5.out.1.size
  clear hb5 HB4 HFM hd5 hst5
  gi_wp2
  refine range_own_set (α := Nat) rfl (by omega) (gf := 149) (lb := #[.pointer (some ⟨W4.heap.size, 0, none⟩), .pointer (some ⟨W4.heap.size + 1, 0, none⟩)]) rfl trivial (enters_of Tryz.func149 (by kernel_rfl) rfl)
    (encs := encD f) (K := fun k => k = W4.heap.size ∨ k = W4.heap.size + 1)
    (fun W hW => from1_iter 7 (by omega) _ _ f (1) W (fun k => by rw [HF.out, HF.out]; omega) (fun k hk => by rw [HF.out]; omega) (by omega) (by rw [HF0.out]; exact HD5.out.1.below hW HD5.out.1.lt) (HD5.out.2.below hW HD5.out.2.lt) (by omega))
    (fun _ => rfl) (SeekI w.heap.size fb 2 wk n f) (SeekX w.heap.size fb 2 wk n f) (seekI_feet _ _ _ _ _ _) (seekX_feet _ _ _ _ _ _) (SeekP w.heap.size fb 2 wk n f) (seekP_feet _ _ _ _ _ _)
    (fun k => k = w.heap.size ∨ k = w.heap.size + 1 ∨ k = fb) HB5.out.2 (fun k hk => by omega) (fun k hk => by omega) (fun k hk h => by omega) ?round ?done ?stop
  case round =>
    intro lp pre x O D W hI hBO hBD hDO hR nOl nDl hlow hltl
    obtain ⟨hnD, rfl, hx7⟩ := hR
    unfold encD
    obtain ⟨⟨o0, o1, o2⟩, h0, h1, ⟨v, h2⟩, hs⟩ := hI
    have q0 := h2.cell 0 (v := .int .i64 v) rfl
    have qf := h2.frozen 0
    have HW := Lib.hid (show (Fr O W (W.setCell ⟨fb, 0, none⟩ (.int .i64 (f pre.length))) ∧ SeekP w.heap.size fb 2 wk n f pre pre.length O (W.setCell ⟨fb, 0, none⟩ (.int .i64 (f pre.length)))) ∧ Bd O W from ⟨⟨Fr.setCell W 0 _ o2, ⟨o0, o1, o2⟩, h0.other (by omega) 0 _, h1.other (by omega) 0 _, h2.set 0 _, hs⟩, hBO⟩)
    clear h0 h1 h2 hs hBO hBD hDO
    gi_wp2
    refine ⟨HW.out.1, ?_⟩
    intro Wb hfb hIb _
    have HBW := Lib.hid ((HW.out.2.fr HW.out.1.1).fr hfb)
    have HIB := Lib.hid hIb
    have HWK := Lib.hid (fun W => weekday_any (f pre.length) W)
    have HZ := Lib.hid (show leftO (SeekI w.heap.size fb 2 wk n f) (SeekX w.heap.size fb 2 wk n f) (pre ++ [pre.length]) O D Wb = leftO (SeekI w.heap.size fb 2 wk n f) (SeekX w.heap.size fb 2 wk n f) (pre ++ [pre.length]) O D Wb from rfl)
    have HLF := Lib.hid (show ∀ W, Below Wb.heap.size Wb W → (weekV (f pre.length) ≠ wk → leftO (SeekI w.heap.size fb 2 wk n f) (SeekX w.heap.size fb 2 wk n f) (pre ++ [pre.length]) O D Wb .normal ⟨#[], []⟩ W) ∧ (weekV (f pre.length) = wk → leftO (SeekI w.heap.size fb 2 wk n f) (SeekX w.heap.size fb 2 wk n f) (pre ++ [pre.length]) O D Wb (.exit 1) ⟨#[], []⟩ W) from fun W hbW => by
      obtain ⟨oo, h0, h1, h2, hs⟩ := HIB.out
      have g0 := h0.below hbW h0.lt
      have g1 := h1.below hbW h1.lt
      have g2 := h2.below hbW h2.lt
      have hF : ∀ T, Fr T Wb W := fun T => Fr.of_below hbW (Nat.le_refl _)
      refine ⟨fun hne => ⟨O, fun k h => .inl h, HBW.out.fr (hF (fun _ => True)), hF _, oo, g0, g1, ⟨_, g2⟩, fun j hj => ?_⟩, fun he => ⟨O, fun k h => .inl h, HBW.out.fr (hF (fun _ => True)), hF _, rfl, oo, g0, g1, pre.length, g2, he, hs⟩⟩
      rw [List.length_append, List.length_singleton] at hj
      rcases Nat.lt_or_ge j pre.length with h | h
      · exact hs j h
      · rw [show j = pre.length by omega]
        exact hne)
    obtain ⟨-, h0, h1, h2, hs⟩ := hIb
    have q0 := h2.cell 0 (v := .int .i64 (f pre.length)) rfl
    have q1 := h0.cell 1 (v := .int .i64 wk) rfl
    have HQ := Lib.hid (fun W (hb : Below Wb.heap.size Wb W) => show W.cell? ⟨fb, 0, none⟩ = some (.int .i64 (f pre.length)) ∧ W.cell? ⟨w.heap.size, 1, none⟩ = some (.int .i64 wk) from ⟨(h2.below hb h2.lt).cell 0 rfl, (h0.below hb h0.lt).cell 1 rfl⟩)
    clear h0 h1 h2 hs HW qf HB5 HD5
    generalize f pre.length = z at *
    generalize weekV z = wz at *
    by_cases hw : wz = wk
    · have HRES := Lib.hid (fun W hb => (HLF.out W hb).2 hw)
      clear HLF
      have hw' := hw.symm
      subst hw'
      gi_wp2
      refine wpIn_env (fin := ?fnT) (wide1 lp) (by kernel_rfl) [65, 66, 67, 68, 69]
        [.int .i64 z, .int .i64 wk, .pointer (some ⟨w.heap.size, 1, none⟩), .int .i64 wk, .bool true] (by kernel_rfl) ?finT ?stepsT ?nextT
      case finT =>
        simp only [putAll, Act.put, List.setIfInBounds_toArray, List.set_cons_succ, List.set_cons_zero]
        rfl
      case stepsT =>
        refine ⟨.inr ⟨by kernel_rfl, fun w1_ hB_ => ?_⟩, .inr ⟨by kernel_rfl, fun w1_ hB_ => ?_⟩, .inr ⟨by kernel_rfl, fun w1_ hB_ => ?_⟩, .inr ⟨by kernel_rfl, fun w1_ hB_ => ?_⟩, .inr ⟨by kernel_rfl, fun w1_ hB_ => ?_⟩, trivial⟩
        all_goals
          obtain ⟨c0, c1⟩ := HQ.out w1_ hB_
          clear hB_
          go_simp
          first
            | exact ⟨rfl, Below.refl _ _⟩
            | exact ⟨rfl, (HWK.out w1_).mono fun e w' h => ⟨h.1, by rw [h.2]; exact Below.refl _ _⟩⟩
            | done
      case nextT =>
      intro w7 hb7
      have HR := HRES.out w7 hb7
      clear hb7 HRES
      gi_wp2
      exact HR
    · have HRES := Lib.hid (fun W hb => (HLF.out W hb).1 hw)
      have hw2 : (wz == wk) = false := by simpa using hw
      clear HLF
      gi_wp2
      refine wpIn_env (fin := ?fnF) (wide1 lp) (by kernel_rfl) [65, 66, 67, 68, 69]
        [.int .i64 z, .int .i64 wz, .pointer (some ⟨w.heap.size, 1, none⟩), .int .i64 wk, .bool false] (by kernel_rfl) ?finF ?stepsF ?nextF
      case finF =>
        simp only [putAll, Act.put, List.setIfInBounds_toArray, List.set_cons_succ, List.set_cons_zero]
        rfl
      case stepsF =>
        refine ⟨.inr ⟨by kernel_rfl, fun w1_ hB_ => ?_⟩, .inr ⟨by kernel_rfl, fun w1_ hB_ => ?_⟩, .inr ⟨by kernel_rfl, fun w1_ hB_ => ?_⟩, .inr ⟨by kernel_rfl, fun w1_ hB_ => ?_⟩, .inr ⟨by kernel_rfl, fun w1_ hB_ => ?_⟩, trivial⟩
        all_goals
          obtain ⟨c0, c1⟩ := HQ.out w1_ hB_
          clear hB_
          go_simp
          first
            | exact ⟨rfl, Below.refl _ _⟩
            | exact ⟨rfl, (HWK.out w1_).mono fun e w' h => ⟨h.1, by rw [h.2]; exact Below.refl _ _⟩⟩
            | done
      case nextF =>
      intro w7 hb7
      have HR := HRES.out w7 hb7
      clear hb7 HRES
      gi_wp2
      exact HR
  case stop =>
    rintro D c pre O W hD - ⟨rfl, ⟨o0, o1, o2⟩, h0, h1, j, h2, hj, hjn⟩ hO hBO hOD hfr hK
    have hv : f j = inDay 2 wk n y m := by
      obtain ⟨k, h1, h3, h4, h5⟩ := seek_spec (a := a0) (st := 1) (wk := wk) (by omega) hwk.1 hwk.2
      rcases Nat.lt_trichotomy j k with h | h | h
      · exact absurd (by rw [HF.out] at hj; exact hj) (h5 j h)
      · subst h
        rw [HF.out, ← h3]
        have e := HA.out
        unfold inDay
        simp
        rw [e]
      · exact absurd (by rw [HF.out]; exact h4) (hjn k h)
    have HV := Lib.hid hv
    clear hv hj hjn
    have hsw := hfr.size
    have hW := HB5.out.1.trans (hfr.below hw5 (fun k hk h => by rcases h with h | h <;> omega))
    have HBW := Lib.hid hW
    have haW : Ahead W := fun k hk => by
      have h := (ha.below HB5.out.1 (Nat.le_refl _)) k hk
      have hlt := World.block_lt_of_cell? w _ (ha k hk)
      exact (hfr.cell (p := ⟨0, k, none⟩) (Nat.lt_of_lt_of_le hlt hw5) (fun h => by rcases h with h | h <;> simp at h hlt <;> omega)).trans h
    have HOF := Lib.hid (show Calls Tryz.prog 59 #[.int .i64 (f j)] W fun e w' => e = .returned (.tuple #[ofA (f j), .int .i64 (ofE_ (f j))]) ∧ Below W.heap.size W w' by
      unfold ofA ofE_ ofInB
      by_cases hin : -37243778 ≤ f j ∧ f j < 35805088
      · simp only [hin, decide_true, if_true, and_self]
        exact of_any (f j) hin.1 hin.2 W haW
      · simp only [hin, decide_false]
        exact of_out (f j) hin W)
    have q0 := h2.cell 0 (v := .int .i64 (f j)) rfl
    obtain ⟨Y, M, D2, hofa⟩ : ∃ Y M D2, ofA (f j) = .agg #[.int .i64 Y, .int .i64 M, .int .i64 D2] := by
      unfold ofA dateA
      split <;> exact ⟨_, _, _, rfl⟩
    rw [hofa] at HOF
    have HOA := Lib.hid hofa
    obtain ⟨E, hE⟩ : ∃ E, ofE_ (f j) = E := ⟨_, rfl⟩
    rw [hE] at HOF
    have HE := Lib.hid hE
    have H1 := Lib.hid h1
    have HK := Lib.hid hK
    have hDW : D < W.heap.size := (Array.getElem?_eq_some_iff.1 hK).1
    clear hofa hE h0 h1 h2 haW hW hfr hK HB5 HD5 hO hBO
    generalize f j = z at *
    gi_wp2
    refine ⟨trivial, (callsIn_wide.2 HOF.out).mono ?_⟩
    rintro e W6 ⟨rfl, hb6⟩
    have h6 := H1.out.below hb6 H1.out.lt
    have hK6 := (hb6.block D hDW).trans HK.out
    have HB6 := Lib.hid (HBW.out.trans (hb6.mono HBW.out.size))
    have r0 := h6.cell 0 (v := .int .i64 0) rfl
    have r1 := h6.cell 1 (v := .int .i64 0) rfl
    have r2 := h6.cell 2 (v := .int .i64 0) rfl
    have g0 := h6.frozen 0
    have g1 := h6.frozen 1
    have g2 := h6.frozen 2
    have HR := Lib.hid (((h6.set 0 (.int .i64 Y)).set 1 (.int .i64 M)).set 2 (.int .i64 D2))
    have HKD := Lib.hid (show (((W6.setCell ⟨w.heap.size + 1, 0, none⟩ (.int .i64 Y)).setCell ⟨w.heap.size + 1, 1, none⟩ (.int .i64 M)).setCell ⟨w.heap.size + 1, 2, none⟩ (.int .i64 D2)).heap[D]? = some (.deferred (some [])) from (fr_set3 (T := fun k => k = w.heap.size + 1) W6 rfl _ _ _).at_ hK6 (by omega))
    have HBL := Lib.hid (below_set3 HB6.out (show w.heap.size ≤ w.heap.size + 1 by omega) (.int .i64 Y) (.int .i64 M) (.int .i64 D2))
    clear hb6 h6 hK6 HOF HK q0
    gi_wp2
    refine ⟨by simp, .inl ⟨_, _, rfl, run_takeDeferred HKD.out, ?_⟩⟩
    have hres : Blk ((((W6.setCell ⟨w.heap.size + 1, 0, none⟩ (.int .i64 Y)).setCell ⟨w.heap.size + 1, 1, none⟩ (.int .i64 M)).setCell ⟨w.heap.size + 1, 2, none⟩ (.int .i64 D2)).putObj D (.deferred none)) (w.heap.size + 1) 74 #[.int .i64 Y, .int .i64 M, .int .i64 D2] := (World.putObj_heap_other (by omega)).trans HR.out
    have c0 := hres.cell 0 (v := .int .i64 Y) rfl
    have c1 := hres.cell 1 (v := .int .i64 M) rfl
    have c2 := hres.cell 2 (v := .int .i64 D2) rfl
    refine ⟨.tuple #[.agg #[.int .i64 Y, .int .i64 M, .int .i64 D2], .int .i64 E], ?_, ⟨by rw [← HV.out, HOA.out, HE.out], fin_below HBL.out (by omega)⟩⟩
    simp [results, Tryz.f79, go_sem, c0, c1, c2]
  case done =>
    rintro D xs O W hD hS ⟨-, -, -, -, hs⟩
    exfalso
    obtain ⟨k, h1, -, h2, -⟩ := seek_spec (a := a0) (st := 1) (wk := wk) (by omega) (by omega) (by omega)
    exact hs k (by rw [hS]; exact h1) (by rw [HF.out]; exact h2)
set_option maxHeartbeats 4000000 in
theorem in_great (wk n y m : Int) (w : World) (ha : Ahead w) (h : inB 3 wk n y m = true) :
    Calls Tryz.prog 79 #[dayA 3 wk n, .int .i64 y, .int .i64 m] w fun e w' => e = .returned (.tuple #[ofA (inDay 3 wk n y m), .int .i64 (ofE_ (inDay 3 wk n y m))]) ∧ Below w.heap.size w w' := by
  unfold inB at h
  simp only [Bool.and_eq_true, decide_eq_true_eq] at h
  obtain ⟨⟨hok, hym⟩, hnl⟩ := h
  have hwk : 0 ≤ wk ∧ wk < 7 := by
    have h := hok
    unfold dayOkB at h
    rw [decide_eq_true_eq] at h
    omega
  have HL0 := show longV y m = (lenV y m, 0) by unfold longV; rw [if_pos hym]
  unfold dayA
  refine (callsIn_wide (n := 8)).1 ?_
  refine callsIn_of_wp_marks Tryz.func79 rfl trivial ?_ rfl
  simp only [Tryz.ntmps79, List.size_toArray, List.length_cons, List.length_nil, Nat.reduceAdd, Nat.reduceSub, Array.replicate_succ, Array.replicate_zero, List.push_toArray, List.append_toArray, List.nil_append, List.cons_append]
  gi_wp2
  obtain ⟨W0, hW0⟩ : ∃ W, (w.alloc (.cells #[.int .i64 3, .int .i64 wk, .int .i64 n] 48)).alloc (.cells #[.int .i64 0, .int .i64 0, .int .i64 0] 74) = W := ⟨_, rfl⟩
  obtain ⟨b0, b1, hb0, hs0⟩ := blks2 w _ _ _ _ W0 hW0
  rw [hW0]
  clear hW0
  have HC := Lib.hid (dfcheck_any 3 wk n W0)
  rw [if_pos hok] at HC
  have HB0 := Lib.hid (And.intro hb0 (And.intro b0 b1))
  have q0 := b0.cell 0 (v := .int .i64 3) rfl
  have q1 := b0.cell 1 (v := .int .i64 wk) rfl
  have q2 := b0.cell 2 (v := .int .i64 n) rfl
  clear hb0 b0 b1
  unfold dayA at HC
  refine wpIn_scope ?_
  gi_wp2
  refine ⟨trivial, (callsIn_wide.2 HC.out).mono ?_⟩
  rintro e w1 ⟨rfl, hb⟩
  have HB1 := Lib.hid (show Below w.heap.size w w1 ∧ Blk w1 w.heap.size 48 #[.int .i64 3, .int .i64 wk, .int .i64 n] ∧ Blk w1 (w.heap.size + 1) 74 #[.int .i64 0, .int .i64 0, .int .i64 0] from ⟨HB0.out.1.trans (hb.mono HB0.out.1.size), HB0.out.2.1.below hb HB0.out.2.1.lt, HB0.out.2.2.below hb HB0.out.2.2.lt⟩)
  clear hb HB0 HC q0 q1 q2
  have HL := Lib.hid (long_any y m w1 (ha.below HB1.out.1 (Nat.le_refl _)))
  rw [HL0] at HL
  gi_wp2
  refine ⟨trivial, (callsIn_wide.2 HL.out).mono ?_⟩
  rintro e w2 ⟨rfl, q, rfl⟩
  have HB2 := Lib.hid (show Below w.heap.size w (w1.drewN q) ∧ Blk (w1.drewN q) w.heap.size 48 #[.int .i64 3, .int .i64 wk, .int .i64 n] ∧ Blk (w1.drewN q) (w.heap.size + 1) 74 #[.int .i64 0, .int .i64 0, .int .i64 0] from ⟨below_drewN HB1.out.1 q, HB1.out.2.1.drewN q, HB1.out.2.2.drewN q⟩)
  obtain ⟨W2, hW2⟩ : ∃ W, w1.drewN q = W := ⟨_, rfl⟩
  rw [hW2] at HB2 ⊢
  clear hW2 HL HB1
  have q0 := HB2.out.2.1.cell 0 (v := .int .i64 3) rfl
  have q1 := HB2.out.2.1.cell 1 (v := .int .i64 wk) rfl
  have q2 := HB2.out.2.1.cell 2 (v := .int .i64 n) rfl
  have HD := Lib.hid (days_any y m (n) W2 (ha.below HB2.out.1 (Nat.le_refl _)))
  have hdb : dateB y m (n) = true := by
    unfold dateB
    rw [hym]
    unfold dayOkB at hok
    simp only [decide_eq_true_eq] at hok
    have hlen := lenV_in (y := y) (m := m) (by unfold ymB at hym; rw [decide_eq_true_eq] at hym; exact hym.2.2.1) (by unfold ymB at hym; rw [decide_eq_true_eq] at hym; exact hym.2.2.2)
    simp
    omega
  rw [if_pos hdb] at HD
  have hdr := dayV_in hdb
  obtain ⟨a0, ha0⟩ : ∃ a0, dayV y m (n) = a0 := ⟨_, rfl⟩
  rw [ha0] at HD hdr
  have HA := Lib.hid ha0
  clear ha0
  unfold dateA at HD
  gi_wp2
  refine ⟨trivial, (callsIn_wide.2 HD.out).mono ?_⟩
  rintro e w3 ⟨rfl, hb⟩
  have HB3 := Lib.hid (show Below w.heap.size w w3 ∧ Blk w3 w.heap.size 48 #[.int .i64 3, .int .i64 wk, .int .i64 n] ∧ Blk w3 (w.heap.size + 1) 74 #[.int .i64 0, .int .i64 0, .int .i64 0] from ⟨HB2.out.1.trans (hb.mono HB2.out.1.size), HB2.out.2.1.below hb HB2.out.2.1.lt, HB2.out.2.2.below hb HB2.out.2.2.lt⟩)
  clear hb HB2 HD q0 q1 q2
  gi_wp2
  refine wpIn_label ?_
  have hsz := HB3.out.2.2.lt
  have hb4 : Below w.heap.size w (w3.alloc (.cells #[.int .i64 a0] 3)) := HB3.out.1.alloc HB3.out.1.size _
  have hf4 := Blk.new w3 3 #[.int .i64 a0]
  have HB4 := Lib.hid (show Below w.heap.size w (w3.alloc (.cells #[.int .i64 a0] 3)) ∧ Blk (w3.alloc (.cells #[.int .i64 a0] 3)) w.heap.size 48 #[.int .i64 3, .int .i64 wk, .int .i64 n] ∧ Blk (w3.alloc (.cells #[.int .i64 a0] 3)) (w.heap.size + 1) 74 #[.int .i64 0, .int .i64 0, .int .i64 0] ∧ Blk (w3.alloc (.cells #[.int .i64 a0] 3)) w3.heap.size 3 #[.int .i64 a0] from ⟨hb4, HB3.out.2.1.alloc _, HB3.out.2.2.alloc _, hf4⟩)
  obtain ⟨W4, hW4⟩ : ∃ W, w3.alloc (.cells #[.int .i64 a0] 3) = W := ⟨_, rfl⟩
  rw [hW4] at HB4 ⊢
  have hs4 : w3.heap.size < W4.heap.size := by rw [← hW4]; simp
  generalize w3.heap.size = fb at *
  clear hW4 hb4 hf4 HB3
  have HFM := Lib.hid (from_any a0 (-1) W4)
  obtain ⟨f, hf⟩ : ∃ f : Nat → Int, ∀ k, f k = a0 + (-1) * (k : Int) := ⟨fun k => a0 + (-1) * (k : Int), fun _ => rfl⟩
  have HF := Lib.hid hf
  have hf0 : f 0 = a0 := by rw [hf]; simp
  have HF0 := Lib.hid hf0
  clear hf hf0
  gi_wp2
  refine ⟨trivial, (callsIn_wide.2 HFM.out).mono ?_⟩
  rintro e W5 ⟨rfl, hb5, hs5, hd5, hst5⟩
  have HB5 := Lib.hid (show Below w.heap.size w W5 ∧ SeekI w.heap.size fb 3 wk n f [] (fun k => k = w.heap.size ∨ k = w.heap.size + 1 ∨ k = fb) W5 from ⟨HB4.out.1.trans (hb5.mono HB4.out.1.size), ⟨.inl rfl, .inr (.inl rfl), .inr (.inr rfl)⟩, HB4.out.2.1.below hb5 HB4.out.2.1.lt, HB4.out.2.2.1.below hb5 HB4.out.2.2.1.lt, ⟨a0, HB4.out.2.2.2.below hb5 HB4.out.2.2.2.lt⟩, fun j hj => by simp at hj⟩)
  have HD5 := Lib.hid (And.intro hd5 hst5)
  have hw5 := HB5.out.1.size
  clear hb5 HB4 HFM hd5 hst5
  gi_wp2
  refine range_own_set (α := Nat) rfl (by omega) (gf := 149) (lb := #[.pointer (some ⟨W4.heap.size, 0, none⟩), .pointer (some ⟨W4.heap.size + 1, 0, none⟩)]) rfl trivial (enters_of Tryz.func149 (by kernel_rfl) rfl)
    (encs := encD f) (K := fun k => k = W4.heap.size ∨ k = W4.heap.size + 1)
    (fun W hW => from1_iter 7 (by omega) _ _ f (-1) W (fun k => by rw [HF.out, HF.out]; omega) (fun k hk => by rw [HF.out]; omega) (by omega) (by rw [HF0.out]; exact HD5.out.1.below hW HD5.out.1.lt) (HD5.out.2.below hW HD5.out.2.lt) (by omega))
    (fun _ => rfl) (SeekI w.heap.size fb 3 wk n f) (SeekX w.heap.size fb 3 wk n f) (seekI_feet _ _ _ _ _ _) (seekX_feet _ _ _ _ _ _) (SeekP w.heap.size fb 3 wk n f) (seekP_feet _ _ _ _ _ _)
    (fun k => k = w.heap.size ∨ k = w.heap.size + 1 ∨ k = fb) HB5.out.2 (fun k hk => by omega) (fun k hk => by omega) (fun k hk h => by omega) ?round ?done ?stop
  case round =>
    intro lp pre x O D W hI hBO hBD hDO hR nOl nDl hlow hltl
    obtain ⟨hnD, rfl, hx7⟩ := hR
    unfold encD
    obtain ⟨⟨o0, o1, o2⟩, h0, h1, ⟨v, h2⟩, hs⟩ := hI
    have q0 := h2.cell 0 (v := .int .i64 v) rfl
    have qf := h2.frozen 0
    have HW := Lib.hid (show (Fr O W (W.setCell ⟨fb, 0, none⟩ (.int .i64 (f pre.length))) ∧ SeekP w.heap.size fb 3 wk n f pre pre.length O (W.setCell ⟨fb, 0, none⟩ (.int .i64 (f pre.length)))) ∧ Bd O W from ⟨⟨Fr.setCell W 0 _ o2, ⟨o0, o1, o2⟩, h0.other (by omega) 0 _, h1.other (by omega) 0 _, h2.set 0 _, hs⟩, hBO⟩)
    clear h0 h1 h2 hs hBO hBD hDO
    gi_wp2
    refine ⟨HW.out.1, ?_⟩
    intro Wb hfb hIb _
    have HBW := Lib.hid ((HW.out.2.fr HW.out.1.1).fr hfb)
    have HIB := Lib.hid hIb
    have HWK := Lib.hid (fun W => weekday_any (f pre.length) W)
    have HZ := Lib.hid (show leftO (SeekI w.heap.size fb 3 wk n f) (SeekX w.heap.size fb 3 wk n f) (pre ++ [pre.length]) O D Wb = leftO (SeekI w.heap.size fb 3 wk n f) (SeekX w.heap.size fb 3 wk n f) (pre ++ [pre.length]) O D Wb from rfl)
    have HLF := Lib.hid (show ∀ W, Below Wb.heap.size Wb W → (weekV (f pre.length) ≠ wk → leftO (SeekI w.heap.size fb 3 wk n f) (SeekX w.heap.size fb 3 wk n f) (pre ++ [pre.length]) O D Wb .normal ⟨#[], []⟩ W) ∧ (weekV (f pre.length) = wk → leftO (SeekI w.heap.size fb 3 wk n f) (SeekX w.heap.size fb 3 wk n f) (pre ++ [pre.length]) O D Wb (.exit 1) ⟨#[], []⟩ W) from fun W hbW => by
      obtain ⟨oo, h0, h1, h2, hs⟩ := HIB.out
      have g0 := h0.below hbW h0.lt
      have g1 := h1.below hbW h1.lt
      have g2 := h2.below hbW h2.lt
      have hF : ∀ T, Fr T Wb W := fun T => Fr.of_below hbW (Nat.le_refl _)
      refine ⟨fun hne => ⟨O, fun k h => .inl h, HBW.out.fr (hF (fun _ => True)), hF _, oo, g0, g1, ⟨_, g2⟩, fun j hj => ?_⟩, fun he => ⟨O, fun k h => .inl h, HBW.out.fr (hF (fun _ => True)), hF _, rfl, oo, g0, g1, pre.length, g2, he, hs⟩⟩
      rw [List.length_append, List.length_singleton] at hj
      rcases Nat.lt_or_ge j pre.length with h | h
      · exact hs j h
      · rw [show j = pre.length by omega]
        exact hne)
    obtain ⟨-, h0, h1, h2, hs⟩ := hIb
    have q0 := h2.cell 0 (v := .int .i64 (f pre.length)) rfl
    have q1 := h0.cell 1 (v := .int .i64 wk) rfl
    have HQ := Lib.hid (fun W (hb : Below Wb.heap.size Wb W) => show W.cell? ⟨fb, 0, none⟩ = some (.int .i64 (f pre.length)) ∧ W.cell? ⟨w.heap.size, 1, none⟩ = some (.int .i64 wk) from ⟨(h2.below hb h2.lt).cell 0 rfl, (h0.below hb h0.lt).cell 1 rfl⟩)
    clear h0 h1 h2 hs HW qf HB5 HD5
    generalize f pre.length = z at *
    generalize weekV z = wz at *
    by_cases hw : wz = wk
    · have HRES := Lib.hid (fun W hb => (HLF.out W hb).2 hw)
      clear HLF
      have hw' := hw.symm
      subst hw'
      gi_wp2
      refine wpIn_env (fin := ?fnT) (wide1 lp) (by kernel_rfl) [65, 66, 67, 68, 69]
        [.int .i64 z, .int .i64 wk, .pointer (some ⟨w.heap.size, 1, none⟩), .int .i64 wk, .bool true] (by kernel_rfl) ?finT ?stepsT ?nextT
      case finT =>
        simp only [putAll, Act.put, List.setIfInBounds_toArray, List.set_cons_succ, List.set_cons_zero]
        rfl
      case stepsT =>
        refine ⟨.inr ⟨by kernel_rfl, fun w1_ hB_ => ?_⟩, .inr ⟨by kernel_rfl, fun w1_ hB_ => ?_⟩, .inr ⟨by kernel_rfl, fun w1_ hB_ => ?_⟩, .inr ⟨by kernel_rfl, fun w1_ hB_ => ?_⟩, .inr ⟨by kernel_rfl, fun w1_ hB_ => ?_⟩, trivial⟩
        all_goals
          obtain ⟨c0, c1⟩ := HQ.out w1_ hB_
          clear hB_
          go_simp
          first
            | exact ⟨rfl, Below.refl _ _⟩
            | exact ⟨rfl, (HWK.out w1_).mono fun e w' h => ⟨h.1, by rw [h.2]; exact Below.refl _ _⟩⟩
            | done
      case nextT =>
      intro w7 hb7
      have HR := HRES.out w7 hb7
      clear hb7 HRES
      gi_wp2
      exact HR
    · have HRES := Lib.hid (fun W hb => (HLF.out W hb).1 hw)
      have hw2 : (wz == wk) = false := by simpa using hw
      clear HLF
      gi_wp2
      refine wpIn_env (fin := ?fnF) (wide1 lp) (by kernel_rfl) [65, 66, 67, 68, 69]
        [.int .i64 z, .int .i64 wz, .pointer (some ⟨w.heap.size, 1, none⟩), .int .i64 wk, .bool false] (by kernel_rfl) ?finF ?stepsF ?nextF
      case finF =>
        simp only [putAll, Act.put, List.setIfInBounds_toArray, List.set_cons_succ, List.set_cons_zero]
        rfl
      case stepsF =>
        refine ⟨.inr ⟨by kernel_rfl, fun w1_ hB_ => ?_⟩, .inr ⟨by kernel_rfl, fun w1_ hB_ => ?_⟩, .inr ⟨by kernel_rfl, fun w1_ hB_ => ?_⟩, .inr ⟨by kernel_rfl, fun w1_ hB_ => ?_⟩, .inr ⟨by kernel_rfl, fun w1_ hB_ => ?_⟩, trivial⟩
        all_goals
          obtain ⟨c0, c1⟩ := HQ.out w1_ hB_
          clear hB_
          go_simp
          first
            | exact ⟨rfl, Below.refl _ _⟩
            | exact ⟨rfl, (HWK.out w1_).mono fun e w' h => ⟨h.1, by rw [h.2]; exact Below.refl _ _⟩⟩
            | done
      case nextF =>
      intro w7 hb7
      have HR := HRES.out w7 hb7
      clear hb7 HRES
      gi_wp2
      exact HR
  case stop =>
    rintro D c pre O W hD - ⟨rfl, ⟨o0, o1, o2⟩, h0, h1, j, h2, hj, hjn⟩ hO hBO hOD hfr hK
    have hv : f j = inDay 3 wk n y m := by
      obtain ⟨k, h1, h3, h4, h5⟩ := seek_spec (a := a0) (st := -1) (wk := wk) (by omega) hwk.1 hwk.2
      rcases Nat.lt_trichotomy j k with h | h | h
      · exact absurd (by rw [HF.out] at hj; exact hj) (h5 j h)
      · subst h
        rw [HF.out, ← h3]
        have e := HA.out
        unfold inDay
        simp
        rw [e]
      · exact absurd (by rw [HF.out]; exact h4) (hjn k h)
    have HV := Lib.hid hv
    clear hv hj hjn
    have hsw := hfr.size
    have hW := HB5.out.1.trans (hfr.below hw5 (fun k hk h => by rcases h with h | h <;> omega))
    have HBW := Lib.hid hW
    have haW : Ahead W := fun k hk => by
      have h := (ha.below HB5.out.1 (Nat.le_refl _)) k hk
      have hlt := World.block_lt_of_cell? w _ (ha k hk)
      exact (hfr.cell (p := ⟨0, k, none⟩) (Nat.lt_of_lt_of_le hlt hw5) (fun h => by rcases h with h | h <;> simp at h hlt <;> omega)).trans h
    have HOF := Lib.hid (show Calls Tryz.prog 59 #[.int .i64 (f j)] W fun e w' => e = .returned (.tuple #[ofA (f j), .int .i64 (ofE_ (f j))]) ∧ Below W.heap.size W w' by
      unfold ofA ofE_ ofInB
      by_cases hin : -37243778 ≤ f j ∧ f j < 35805088
      · simp only [hin, decide_true, if_true, and_self]
        exact of_any (f j) hin.1 hin.2 W haW
      · simp only [hin, decide_false]
        exact of_out (f j) hin W)
    have q0 := h2.cell 0 (v := .int .i64 (f j)) rfl
    obtain ⟨Y, M, D2, hofa⟩ : ∃ Y M D2, ofA (f j) = .agg #[.int .i64 Y, .int .i64 M, .int .i64 D2] := by
      unfold ofA dateA
      split <;> exact ⟨_, _, _, rfl⟩
    rw [hofa] at HOF
    have HOA := Lib.hid hofa
    obtain ⟨E, hE⟩ : ∃ E, ofE_ (f j) = E := ⟨_, rfl⟩
    rw [hE] at HOF
    have HE := Lib.hid hE
    have H1 := Lib.hid h1
    have HK := Lib.hid hK
    have hDW : D < W.heap.size := (Array.getElem?_eq_some_iff.1 hK).1
    clear hofa hE h0 h1 h2 haW hW hfr hK HB5 HD5 hO hBO
    generalize f j = z at *
    gi_wp2
    refine ⟨trivial, (callsIn_wide.2 HOF.out).mono ?_⟩
    rintro e W6 ⟨rfl, hb6⟩
    have h6 := H1.out.below hb6 H1.out.lt
    have hK6 := (hb6.block D hDW).trans HK.out
    have HB6 := Lib.hid (HBW.out.trans (hb6.mono HBW.out.size))
    have r0 := h6.cell 0 (v := .int .i64 0) rfl
    have r1 := h6.cell 1 (v := .int .i64 0) rfl
    have r2 := h6.cell 2 (v := .int .i64 0) rfl
    have g0 := h6.frozen 0
    have g1 := h6.frozen 1
    have g2 := h6.frozen 2
    have HR := Lib.hid (((h6.set 0 (.int .i64 Y)).set 1 (.int .i64 M)).set 2 (.int .i64 D2))
    have HKD := Lib.hid (show (((W6.setCell ⟨w.heap.size + 1, 0, none⟩ (.int .i64 Y)).setCell ⟨w.heap.size + 1, 1, none⟩ (.int .i64 M)).setCell ⟨w.heap.size + 1, 2, none⟩ (.int .i64 D2)).heap[D]? = some (.deferred (some [])) from (fr_set3 (T := fun k => k = w.heap.size + 1) W6 rfl _ _ _).at_ hK6 (by omega))
    have HBL := Lib.hid (below_set3 HB6.out (show w.heap.size ≤ w.heap.size + 1 by omega) (.int .i64 Y) (.int .i64 M) (.int .i64 D2))
    clear hb6 h6 hK6 HOF HK q0
    gi_wp2
    refine ⟨by simp, .inl ⟨_, _, rfl, run_takeDeferred HKD.out, ?_⟩⟩
    have hres : Blk ((((W6.setCell ⟨w.heap.size + 1, 0, none⟩ (.int .i64 Y)).setCell ⟨w.heap.size + 1, 1, none⟩ (.int .i64 M)).setCell ⟨w.heap.size + 1, 2, none⟩ (.int .i64 D2)).putObj D (.deferred none)) (w.heap.size + 1) 74 #[.int .i64 Y, .int .i64 M, .int .i64 D2] := (World.putObj_heap_other (by omega)).trans HR.out
    have c0 := hres.cell 0 (v := .int .i64 Y) rfl
    have c1 := hres.cell 1 (v := .int .i64 M) rfl
    have c2 := hres.cell 2 (v := .int .i64 D2) rfl
    refine ⟨.tuple #[.agg #[.int .i64 Y, .int .i64 M, .int .i64 D2], .int .i64 E], ?_, ⟨by rw [← HV.out, HOA.out, HE.out], fin_below HBL.out (by omega)⟩⟩
    simp [results, Tryz.f79, go_sem, c0, c1, c2]
  case done =>
    rintro D xs O W hD hS ⟨-, -, -, -, hs⟩
    exfalso
    obtain ⟨k, h1, -, h2, -⟩ := seek_spec (a := a0) (st := -1) (wk := wk) (by omega) (by omega) (by omega)
    exact hs k (by rw [hS]; exact h1) (by rw [HF.out]; exact h2)
/-- What In answers. -/
def inA (k wk n y m : Int) : Value := if inB k wk n y m then (if k = 0 then dateA y m n else ofA (inDay k wk n y m)) else dateA 0 0 0
def inE (k wk n y m : Int) : Int := if inB k wk n y m then (if k = 0 then 0 else ofE_ (inDay k wk n y m)) else 10
end Go.Proofs.YtonmmgcibpjahaaGreatDoor
end

section
/- CivilG: Layers 8 and 3 walked: In, Join. -/
namespace Go.Proofs.YtonmmgcibpjahaaGreatDoor
open Go Go.RowKit Go.Shelf
set_option maxRecDepth 100000

set_option maxHeartbeats 2000000 in
theorem in_any (k wk n y m : Int) (w : World) (ha : Ahead w) :
    Calls Tryz.prog 79 #[dayA k wk n, .int .i64 y, .int .i64 m] w fun e w' => e = .returned (.tuple #[inA k wk n y m, .int .i64 (inE k wk n y m)]) ∧ Below w.heap.size w w' := by
  have HB0 := Lib.hid (show Below w.heap.size w ((w.alloc (.cells #[.int .i64 k, .int .i64 wk, .int .i64 n] 48)).alloc (.cells #[.int .i64 0, .int .i64 0, .int .i64 0] 74)) from ((Below.refl _ _).alloc (Nat.le_refl _) _).alloc (by simp) _)
  have b0 := (Blk.new w 48 #[.int .i64 k, .int .i64 wk, .int .i64 n]).alloc (.cells #[.int .i64 0, .int .i64 0, .int .i64 0] 74)
  have b1 := Blk.new (w.alloc (.cells #[.int .i64 k, .int .i64 wk, .int .i64 n] 48)) 74 #[.int .i64 0, .int .i64 0, .int .i64 0]
  rw [World.size_alloc] at b1
  have q0 := b0.cell 0 (v := .int .i64 k) rfl
  have q1 := b0.cell 1 (v := .int .i64 wk) rfl
  have q2 := b0.cell 2 (v := .int .i64 n) rfl
  have HI := Lib.hid (And.intro b0 b1)
  clear b0 b1
  have HC := Lib.hid (dfcheck_any k wk n ((w.alloc (.cells #[.int .i64 k, .int .i64 wk, .int .i64 n] 48)).alloc (.cells #[.int .i64 0, .int .i64 0, .int .i64 0] 74)))
  cases hok : dayOkB k wk n with
  | false =>
    have e1 : inA k wk n y m = dateA 0 0 0 := by unfold inA inB; rw [hok]; rfl
    have e2 : inE k wk n y m = 10 := by unfold inE inB; rw [hok]; rfl
    rw [e1, e2]
    rw [hok] at HC
    simp only [Bool.false_eq_true, if_false] at HC
    unfold dayA at *
    clear hok e1 e2
    go_enter Tryz.func79, Tryz.ntmps79
    go_wp2_with fail
    go_step3
    go_wp2_with fail
    refine (HC.out).mono ?_
    rintro e w1 ⟨rfl, hb⟩
    have h1 := HI.out.2.below hb HI.out.2.lt
    have h0 := HI.out.1.below hb HI.out.1.lt
    have HB1 := Lib.hid (HB0.out.trans (hb.mono HB0.out.size))
    have r0 := h1.cell 0 (v := .int .i64 0) rfl
    have r1 := h1.cell 1 (v := .int .i64 0) rfl
    have r2 := h1.cell 2 (v := .int .i64 0) rfl
    have g0 := h1.frozen 0
    have g1 := h1.frozen 1
    have g2 := h1.frozen 2
    have q0 := h0.cell 0 (v := .int .i64 k) rfl
    have q2 := h0.cell 2 (v := .int .i64 n) rfl
    have H1 := Lib.hid h1
    clear hb h0 h1 HC
    go_wp2_with fail
    have HW := ((H1.out.set 0 (.int .i64 0)).set 1 (.int .i64 0)).set 2 (.int .i64 0)
    try rw [Exit.noGoto_ret]
    have w0 := HW.cell 0 (v := .int .i64 (0)) rfl
    have w1_ := HW.cell 1 (v := .int .i64 (0)) rfl
    have w2_ := HW.cell 2 (v := .int .i64 (0)) rfl
    refine bodyPost_ret (v := .tuple #[dateA (0) (0) (0), .int .i64 (10)]) ?_ rfl ⟨rfl, below_set3 HB1.out (by omega) _ _ _⟩
    simp [results, Tryz.f79, go_sem, dateA, w0, w1_, w2_]
  | true =>
    have HOK := Lib.hid hok
    rw [hok] at HC
    simp only [if_true] at HC
    cases hym : ymB y m with
    | false =>
      have e1 : inA k wk n y m = dateA 0 0 0 := by unfold inA inB; rw [hok, hym]; rfl
      have e2 : inE k wk n y m = 10 := by unfold inE inB; rw [hok, hym]; rfl
      have HLV := Lib.hid (show longV y m = (0, 10) by unfold longV; rw [hym]; rfl)
      rw [e1, e2]
      unfold dayA at *
      clear hok hym e1 e2
      go_enter Tryz.func79, Tryz.ntmps79
      go_wp2_with fail
      go_step3
      go_wp2_with fail
      refine (HC.out).mono ?_
      rintro e w1 ⟨rfl, hb⟩
      have h1 := HI.out.2.below hb HI.out.2.lt
      have h0 := HI.out.1.below hb HI.out.1.lt
      have HB1 := Lib.hid (HB0.out.trans (hb.mono HB0.out.size))
      have r0 := h1.cell 0 (v := .int .i64 0) rfl
      have r1 := h1.cell 1 (v := .int .i64 0) rfl
      have r2 := h1.cell 2 (v := .int .i64 0) rfl
      have g0 := h1.frozen 0
      have g1 := h1.frozen 1
      have g2 := h1.frozen 2
      have q0 := h0.cell 0 (v := .int .i64 k) rfl
      have q2 := h0.cell 2 (v := .int .i64 n) rfl
      have H1 := Lib.hid h1
      clear hb h0 h1 HC
      have HL := Lib.hid (long_any y m w1 (ha.below HB1.out (Nat.le_refl _)))
      go_wp2_with fail
      refine (HL.out).mono ?_
      rintro e w2 ⟨rfl, q, rfl⟩
      rw [HLV.out]
      have q0 : (w1.drewN q).cell? ⟨w.heap.size, 0, none⟩ = some (.int .i64 k) := q0
      have q2 : (w1.drewN q).cell? ⟨w.heap.size, 2, none⟩ = some (.int .i64 n) := q2
      have r0 : (w1.drewN q).cell? ⟨w.heap.size + 1, 0, none⟩ = some (.int .i64 0) := r0
      have r1 : (w1.drewN q).cell? ⟨w.heap.size + 1, 1, none⟩ = some (.int .i64 0) := r1
      have r2 : (w1.drewN q).cell? ⟨w.heap.size + 1, 2, none⟩ = some (.int .i64 0) := r2
      have g0 : (w1.drewN q).frozen? ⟨w.heap.size + 1, 0, none⟩ = false := g0
      have g1 : (w1.drewN q).frozen? ⟨w.heap.size + 1, 1, none⟩ = false := g1
      have g2 : (w1.drewN q).frozen? ⟨w.heap.size + 1, 2, none⟩ = false := g2
      have H2 := Lib.hid (H1.out.drewN q)
      have HB2 := Lib.hid (below_drewN HB1.out q)
      clear HL
      go_wp2_with fail
      have HW := ((H2.out.set 0 (.int .i64 0)).set 1 (.int .i64 0)).set 2 (.int .i64 0)
      try rw [Exit.noGoto_ret]
      have w0 := HW.cell 0 (v := .int .i64 (0)) rfl
      have w1_ := HW.cell 1 (v := .int .i64 (0)) rfl
      have w2_ := HW.cell 2 (v := .int .i64 (0)) rfl
      refine bodyPost_ret (v := .tuple #[dateA (0) (0) (0), .int .i64 (10)]) ?_ rfl ⟨rfl, below_set3 HB2.out (by omega) _ _ _⟩
      simp [results, Tryz.f79, go_sem, dateA, w0, w1_, w2_]
    | true =>
      have HLV := Lib.hid (show longV y m = (lenV y m, 0) by unfold longV; rw [hym]; rfl)
      by_cases hn : n ≤ lenV y m
      · by_cases h0 : k = 0
        · have e1 : inA k wk n y m = dateA y m n := by unfold inA inB; rw [hok, hym, decide_eq_true hn]; simp [h0]
          have e2 : inE k wk n y m = 0 := by unfold inE inB; rw [hok, hym, decide_eq_true hn]; simp [h0]
          rw [e1, e2]
          subst h0
          unfold dayA at *
          clear hok hym e1 e2
          generalize lenV y m = l at *
          go_enter Tryz.func79, Tryz.ntmps79
          go_wp2_with fail
          go_step3
          go_wp2_with fail
          refine (HC.out).mono ?_
          rintro e w1 ⟨rfl, hb⟩
          have h1 := HI.out.2.below hb HI.out.2.lt
          have h0 := HI.out.1.below hb HI.out.1.lt
          have HB1 := Lib.hid (HB0.out.trans (hb.mono HB0.out.size))
          have r0 := h1.cell 0 (v := .int .i64 0) rfl
          have r1 := h1.cell 1 (v := .int .i64 0) rfl
          have r2 := h1.cell 2 (v := .int .i64 0) rfl
          have g0 := h1.frozen 0
          have g1 := h1.frozen 1
          have g2 := h1.frozen 2
          have q0 := h0.cell 0 (v := .int .i64 0) rfl
          have q2 := h0.cell 2 (v := .int .i64 n) rfl
          have H1 := Lib.hid h1
          clear hb h0 h1 HC
          have HL := Lib.hid (long_any y m w1 (ha.below HB1.out (Nat.le_refl _)))
          go_wp2_with fail
          refine (HL.out).mono ?_
          rintro e w2 ⟨rfl, q, rfl⟩
          rw [HLV.out]
          have q0 : (w1.drewN q).cell? ⟨w.heap.size, 0, none⟩ = some (.int .i64 0) := q0
          have q2 : (w1.drewN q).cell? ⟨w.heap.size, 2, none⟩ = some (.int .i64 n) := q2
          have r0 : (w1.drewN q).cell? ⟨w.heap.size + 1, 0, none⟩ = some (.int .i64 0) := r0
          have r1 : (w1.drewN q).cell? ⟨w.heap.size + 1, 1, none⟩ = some (.int .i64 0) := r1
          have r2 : (w1.drewN q).cell? ⟨w.heap.size + 1, 2, none⟩ = some (.int .i64 0) := r2
          have g0 : (w1.drewN q).frozen? ⟨w.heap.size + 1, 0, none⟩ = false := g0
          have g1 : (w1.drewN q).frozen? ⟨w.heap.size + 1, 1, none⟩ = false := g1
          have g2 : (w1.drewN q).frozen? ⟨w.heap.size + 1, 2, none⟩ = false := g2
          have H2 := Lib.hid (H1.out.drewN q)
          have HB2 := Lib.hid (below_drewN HB1.out q)
          clear HL
          go_wp2_with fail
          have HW := ((H2.out.set 0 (.int .i64 y)).set 1 (.int .i64 m)).set 2 (.int .i64 n)
          try rw [Exit.noGoto_ret]
          have w0 := HW.cell 0 (v := .int .i64 (y)) rfl
          have w1_ := HW.cell 1 (v := .int .i64 (m)) rfl
          have w2_ := HW.cell 2 (v := .int .i64 (n)) rfl
          refine bodyPost_ret (v := .tuple #[dateA (y) (m) (n), .int .i64 (0)]) ?_ rfl ⟨rfl, below_set3 HB2.out (by omega) _ _ _⟩
          simp [results, Tryz.f79, go_sem, dateA, w0, w1_, w2_]
        · have hB : inB k wk n y m = true := by unfold inB; rw [hok, hym, decide_eq_true hn]; rfl
          have e1 : inA k wk n y m = ofA (inDay k wk n y m) := by unfold inA; rw [if_pos hB, if_neg h0]
          have e2 : inE k wk n y m = ofE_ (inDay k wk n y m) := by unfold inE; rw [if_pos hB, if_neg h0]
          rw [e1, e2]
          have hk : k = 1 ∨ k = 2 ∨ k = 3 := by
            unfold dayOkB at hok
            rw [decide_eq_true_eq] at hok
            omega
          clear HI HB0 HC HOK HLV q0 q1 q2 e1 e2
          rcases hk with rfl | rfl | rfl
          · exact in_last wk n y m w ha hB
          · exact in_less wk n y m w ha hB
          · exact in_great wk n y m w ha hB
      · have e1 : inA k wk n y m = dateA 0 0 0 := by unfold inA inB; rw [hok, hym, decide_eq_false hn]; rfl
        have e2 : inE k wk n y m = 10 := by unfold inE inB; rw [hok, hym, decide_eq_false hn]; rfl
        rw [e1, e2]
        unfold dayA at *
        clear hok hym e1 e2
        generalize lenV y m = l at *
        go_enter Tryz.func79, Tryz.ntmps79
        go_wp2_with fail
        go_step3
        go_wp2_with fail
        refine (HC.out).mono ?_
        rintro e w1 ⟨rfl, hb⟩
        have h1 := HI.out.2.below hb HI.out.2.lt
        have h0 := HI.out.1.below hb HI.out.1.lt
        have HB1 := Lib.hid (HB0.out.trans (hb.mono HB0.out.size))
        have r0 := h1.cell 0 (v := .int .i64 0) rfl
        have r1 := h1.cell 1 (v := .int .i64 0) rfl
        have r2 := h1.cell 2 (v := .int .i64 0) rfl
        have g0 := h1.frozen 0
        have g1 := h1.frozen 1
        have g2 := h1.frozen 2
        have q0 := h0.cell 0 (v := .int .i64 k) rfl
        have q2 := h0.cell 2 (v := .int .i64 n) rfl
        have H1 := Lib.hid h1
        clear hb h0 h1 HC
        have HL := Lib.hid (long_any y m w1 (ha.below HB1.out (Nat.le_refl _)))
        go_wp2_with fail
        refine (HL.out).mono ?_
        rintro e w2 ⟨rfl, q, rfl⟩
        rw [HLV.out]
        have q0 : (w1.drewN q).cell? ⟨w.heap.size, 0, none⟩ = some (.int .i64 k) := q0
        have q2 : (w1.drewN q).cell? ⟨w.heap.size, 2, none⟩ = some (.int .i64 n) := q2
        have r0 : (w1.drewN q).cell? ⟨w.heap.size + 1, 0, none⟩ = some (.int .i64 0) := r0
        have r1 : (w1.drewN q).cell? ⟨w.heap.size + 1, 1, none⟩ = some (.int .i64 0) := r1
        have r2 : (w1.drewN q).cell? ⟨w.heap.size + 1, 2, none⟩ = some (.int .i64 0) := r2
        have g0 : (w1.drewN q).frozen? ⟨w.heap.size + 1, 0, none⟩ = false := g0
        have g1 : (w1.drewN q).frozen? ⟨w.heap.size + 1, 1, none⟩ = false := g1
        have g2 : (w1.drewN q).frozen? ⟨w.heap.size + 1, 2, none⟩ = false := g2
        have H2 := Lib.hid (H1.out.drewN q)
        have HB2 := Lib.hid (below_drewN HB1.out q)
        clear HL
        go_wp2_with fail
        have HW := ((H2.out.set 0 (.int .i64 0)).set 1 (.int .i64 0)).set 2 (.int .i64 0)
        try rw [Exit.noGoto_ret]
        have w0 := HW.cell 0 (v := .int .i64 (0)) rfl
        have w1_ := HW.cell 1 (v := .int .i64 (0)) rfl
        have w2_ := HW.cell 2 (v := .int .i64 (0)) rfl
        refine bodyPost_ret (v := .tuple #[dateA (0) (0) (0), .int .i64 (10)]) ?_ rfl ⟨rfl, below_set3 HB2.out (by omega) _ _ _⟩
        simp [results, Tryz.f79, go_sem, dateA, w0, w1_, w2_]
/-- May a span of a day be? -/
def mayB (s : Int) : Bool := decide (-604800 < s ∧ s < 604800)
theorem may_any (s : Int) (w : World) : Calls Tryz.prog 118 #[.int .i64 s] w fun e w' => e = .returned (.bool (mayB s)) ∧ w' = w := by
  by_cases h1 : -604800 < s
  · by_cases h2 : s < 604800
    · have HV := Lib.hid (show mayB s = true by unfold mayB; rw [decide_eq_true_eq]; omega)
      go_enter Tryz.func118, Tryz.ntmps118
      go_wp2_with fail
      go_ret
      exact ⟨by rw [HV.out]; rfl, rfl⟩
    · have HV := Lib.hid (show mayB s = false by unfold mayB; rw [decide_eq_false_iff_not]; omega)
      have hd : decide (s < 604800) = false := decide_eq_false h2
      go_enter Tryz.func118, Tryz.ntmps118
      go_wp2_with fail
      go_ret
      exact ⟨by rw [HV.out]; rfl, rfl⟩
  · have HV := Lib.hid (show mayB s = false by unfold mayB; rw [decide_eq_false_iff_not]; omega)
    have hd : decide (-604800 < s) = false := decide_eq_false h1
    go_enter Tryz.func118, Tryz.ntmps118
    go_wp2_with fail
    go_ret
    exact ⟨by rw [HV.out]; rfl, rfl⟩
set_option maxHeartbeats 1000000 in
theorem join_any (y m d s : Int) (w : World) (ha : Ahead w) :
    Calls Tryz.prog 80 #[dateA y m d, .int .i64 s] w fun e w' => e = .returned (if dateB y m d && mayB s then .tuple #[.int .i64 (dayV y m d * 86400 + s), .int .i64 0] else .tuple #[.int .i64 0, .int .i64 10]) ∧ Below w.heap.size w w' := by
  have HB0 := Lib.hid ((Below.refl w.heap.size w).alloc (Nat.le_refl _) (.cells #[.int .i64 y, .int .i64 m, .int .i64 d] 74))
  have HD := Lib.hid (days_any y m d (w.alloc (.cells #[.int .i64 y, .int .i64 m, .int .i64 d] 74)) (ha.below HB0.out (Nat.le_refl _)))
  have HM := Lib.hid (fun W => may_any s W)
  unfold dateA at *
  cases h : dateB y m d with
  | false =>
    rw [h] at HD
    simp only [Bool.false_and, Bool.false_eq_true, if_false] at HD ⊢
    clear h
    go_enter Tryz.func80, Tryz.ntmps80
    go_wp2_with fail
    refine HD.out.mono ?_
    rintro e w1 ⟨rfl, hb⟩
    have HB1 := Lib.hid (HB0.out.trans (hb.mono HB0.out.size))
    clear hb
    go_wp2_with fail
    refine bodyPost_ret (v := .tuple #[.int .i64 0, .int .i64 10]) ?_ rfl ⟨rfl, HB1.out⟩
    simp [results, Tryz.f80, go_sem]
  | true =>
    rw [h] at HD
    have hr := dayV_in h
    simp only [Bool.true_and, if_true] at HD ⊢
    clear h
    generalize dayV y m d = v at *
    cases hs : mayB s with
    | false =>
      rw [hs] at HM
      simp only [Bool.false_eq_true, if_false]
      clear hs
      go_enter Tryz.func80, Tryz.ntmps80
      go_wp2_with fail
      refine HD.out.mono ?_
      rintro e w1 ⟨rfl, hb⟩
      have HB1 := Lib.hid (HB0.out.trans (hb.mono HB0.out.size))
      clear hb
      go_wp2_with fail
      refine (HM.out _).mono ?_
      rintro e w2 ⟨rfl, rfl⟩
      go_wp2_with fail
      refine bodyPost_ret (v := .tuple #[.int .i64 0, .int .i64 10]) ?_ rfl ⟨rfl, HB1.out⟩
      simp [results, Tryz.f80, go_sem]
    | true =>
      rw [hs] at HM
      have hs2 := hs
      unfold mayB at hs2
      rw [decide_eq_true_eq] at hs2
      simp only [if_true]
      clear hs
      go_enter Tryz.func80, Tryz.ntmps80
      go_wp2_with fail
      refine HD.out.mono ?_
      rintro e w1 ⟨rfl, hb⟩
      have HB1 := Lib.hid (HB0.out.trans (hb.mono HB0.out.size))
      clear hb
      go_wp2_with fail
      refine (HM.out _).mono ?_
      rintro e w2 ⟨rfl, rfl⟩
      go_wp2_with fail
      refine bodyPost_ret (v := .tuple #[.int .i64 (v * 86400 + s), .int .i64 0]) ?_ rfl ⟨rfl, HB1.out⟩
      simp [results, Tryz.f80, go_sem]
end Go.Proofs.YtonmmgcibpjahaaGreatDoor
end

section
/- Srt: Stable sorting by insertion and by merging in place, over plain lists: what is sorted, what is stable. -/
namespace Go.Proofs.YtonmmgcibpjahaaGreatDoor
section
variable {α : Type} (key : α → Int)

/-- A row that is another one, sorted, equals as they stood. -/
def Stab (xs ys : List α) : Prop := ys.Perm xs ∧ ys.Pairwise (fun a b => key a ≤ key b) ∧ ∀ k : Int, ys.filter (fun a => decide (key a = k)) = xs.filter (fun a => decide (key a = k))
variable {key}
theorem Stab.nil : Stab key ([] : List α) [] := ⟨.nil, .nil, fun _ => rfl⟩
theorem Stab.one (x : α) : Stab key [x] [x] := ⟨.refl _, by simp, fun _ => rfl⟩
theorem Stab.len {xs ys : List α} (h : Stab key xs ys) : ys.length = xs.length := h.1.length_eq
/-- An element put in behind all that are not greater. -/
theorem Stab.put {xs A B : List α} {x : α} (h : Stab key xs (A ++ B)) (hA : ∀ a ∈ A, key a ≤ key x) (hB : ∀ b ∈ B, key x < key b) : Stab key (xs ++ [x]) (A ++ x :: B) := by
  obtain ⟨h1, h2, h3⟩ := h
  refine ⟨?_, ?_, fun k => ?_⟩
  · refine List.perm_middle.trans ?_
    refine (List.Perm.cons x h1).trans ?_
    exact (List.perm_append_singleton x xs).symm
  · rw [List.pairwise_append] at h2 ⊢
    refine ⟨h2.1, List.pairwise_cons.2 ⟨fun b hb => Int.le_of_lt (hB b hb), h2.2.1⟩, fun a ha b hb => ?_⟩
    rcases List.mem_cons.1 hb with rfl | hb
    · exact hA a ha
    · exact h2.2.2 a ha b hb
  · have h4 := h3 k
    rw [List.filter_append] at h4 ⊢
    rw [List.filter_append, ← h4, List.filter_cons]
    by_cases hk : key x = k
    · have hB0 : B.filter (fun a => decide (key a = k)) = [] := by
        rw [List.filter_eq_nil_iff]
        intro b hb
        have := hB b hb
        simp only [decide_eq_true_eq]
        omega
      rw [hB0]
      simp [hk]
    · simp [hk]
theorem Stab.trans {xs ys zs : List α} (h1 : Stab key xs ys) (h2 : Stab key ys zs) : Stab key xs zs :=
  ⟨h2.1.trans h1.1, h2.2.1, fun k => (h2.2.2 k).trans (h1.2.2 k)⟩
/-- What is asked of a row in the midst of sorting: it is another one, equals as they stood. -/
def Keeps (key : α → Int) (xs ys : List α) : Prop := ys.Perm xs ∧ ∀ k : Int, ys.filter (fun a => decide (key a = k)) = xs.filter (fun a => decide (key a = k))
theorem Keeps.refl (xs : List α) : Keeps key xs xs := ⟨.refl _, fun _ => rfl⟩
theorem Keeps.trans {xs ys zs : List α} (h1 : Keeps key xs ys) (h2 : Keeps key ys zs) : Keeps key xs zs := ⟨h2.1.trans h1.1, fun k => (h2.2 k).trans (h1.2 k)⟩
theorem Keeps.stab {xs ys : List α} (h : Keeps key xs ys) (hs : ys.Pairwise (fun a b => key a ≤ key b)) : Stab key xs ys := ⟨h.1, hs, h.2⟩
theorem Stab.keeps {xs ys : List α} (h : Stab key xs ys) : Keeps key xs ys := ⟨h.1, h.2.2⟩
theorem Keeps.append {a b c d : List α} (h1 : Keeps key a b) (h2 : Keeps key c d) : Keeps key (a ++ c) (b ++ d) :=
  ⟨h1.1.append h2.1, fun k => by rw [List.filter_append, List.filter_append, h1.2 k, h2.2 k]⟩
theorem Keeps.len {xs ys : List α} (h : Keeps key xs ys) : ys.length = xs.length := h.1.length_eq
/-- Two rows change places, none of the first one as great as one of the second. -/
theorem Keeps.swap {U V : List α} (h : ∀ u ∈ U, ∀ v ∈ V, key u ≠ key v) : Keeps key (U ++ V) (V ++ U) := by
  refine ⟨List.perm_append_comm, fun k => ?_⟩
  rw [List.filter_append, List.filter_append]
  by_cases hu : ∃ u ∈ U, key u = k
  · obtain ⟨u, hu, rfl⟩ := hu
    have : V.filter (fun a => decide (key a = key u)) = [] := by
      rw [List.filter_eq_nil_iff]
      intro v hv
      simp only [decide_eq_true_eq]
      exact fun e => h u hu v hv e.symm
    rw [this, List.nil_append, List.append_nil]
  · have : U.filter (fun a => decide (key a = k)) = [] := by
      rw [List.filter_eq_nil_iff]
      intro v hv
      simp only [decide_eq_true_eq]
      exact fun e => hu ⟨v, hv, e⟩
    rw [this, List.nil_append, List.append_nil]
/-- Two sorted rows in which each number has the same elements are one. -/
theorem stab_unique : ∀ {ys zs : List α}, ys.Pairwise (fun a b => key a ≤ key b) → zs.Pairwise (fun a b => key a ≤ key b) → (∀ k : Int, ys.filter (fun a => decide (key a = k)) = zs.filter (fun a => decide (key a = k))) → ys = zs
  | [], [], _, _, _ => rfl
  | [], z :: zs, _, _, h => by
    have := h (key z)
    simp at this
  | y :: ys, [], _, _, h => by
    have := h (key y)
    simp at this
  | y :: ys, z :: zs, h1, h2, h => by
    have hyz : key y = key z := by
      have a : key y ≤ key z := by
        have : z ∈ (y :: ys).filter (fun a => decide (key a = key z)) := by rw [h (key z)]; simp
        have := (List.mem_filter.1 this).1
        rcases List.mem_cons.1 this with e | e
        · rw [e]; exact Int.le_refl _
        · exact (List.pairwise_cons.1 h1).1 z e
      have b : key z ≤ key y := by
        have : y ∈ (z :: zs).filter (fun a => decide (key a = key y)) := by rw [← h (key y)]; simp
        have := (List.mem_filter.1 this).1
        rcases List.mem_cons.1 this with e | e
        · rw [e]; exact Int.le_refl _
        · exact (List.pairwise_cons.1 h2).1 y e
      omega
    have e := h (key y)
    rw [List.filter_cons, List.filter_cons, if_pos (by simp), if_pos (by simp [hyz])] at e
    injection e with e1 e2
    subst e1
    congr 1
    refine stab_unique (List.pairwise_cons.1 h1).2 (List.pairwise_cons.1 h2).2 fun k => ?_
    have e := h k
    rw [List.filter_cons, List.filter_cons] at e
    by_cases hk : key y = k
    · rw [if_pos (by simp [hk]), if_pos (by simp [hk])] at e
      injection e
    · rw [if_neg (by simp [hk]), if_neg (by simp [hk])] at e
      exact e
theorem Stab.unique {xs ys zs : List α} (h1 : Stab key xs ys) (h2 : Stab key xs zs) : ys = zs := stab_unique h1.2.1 h2.2.1 fun k => (h1.2.2 k).trans (h2.2.2 k).symm
theorem take_le {L : List α} (hs : L.Pairwise (fun a b => key a ≤ key b)) {s : Nat} (h : s < L.length) : ∀ l ∈ L.take (s + 1), key l ≤ key L[s] := by
  intro l hl
  obtain ⟨i, hi, rfl⟩ := List.mem_take_iff_getElem.1 hl
  rcases Nat.lt_or_ge i s with h1 | h1
  · exact List.pairwise_iff_getElem.1 hs i s (by omega) h h1
  · have : i = s := by omega
    subst this
    exact Int.le_refl _
theorem drop_ge {L : List α} (hs : L.Pairwise (fun a b => key a ≤ key b)) {s : Nat} (h : s < L.length) : ∀ l ∈ L.drop s, key L[s] ≤ key l := by
  intro l hl
  rw [List.drop_eq_getElem_cons h] at hl
  rcases List.mem_cons.1 hl with rfl | hl
  · exact Int.le_refl _
  · have h2 : (L.drop s).Pairwise (fun a b => key a ≤ key b) := hs.sublist (List.drop_sublist s L)
    rw [List.drop_eq_getElem_cons h] at h2
    exact (List.pairwise_cons.1 h2).1 l hl
/-- Two sorted rows, parted so that the first parts stand ahead of the second ones, and each two parts merged. -/
theorem Stab.sym {L1 L2 R1 R2 M1 M2 : List α} (h1 : ∀ l ∈ L1, ∀ r ∈ R2, key l ≤ key r) (h2 : ∀ r ∈ R1, ∀ l ∈ L2, key r < key l)
    (hL : (L1 ++ L2).Pairwise (fun a b => key a ≤ key b)) (hR : (R1 ++ R2).Pairwise (fun a b => key a ≤ key b)) (m1 : Stab key (L1 ++ R1) M1) (m2 : Stab key (L2 ++ R2) M2) : Stab key ((L1 ++ L2) ++ (R1 ++ R2)) (M1 ++ M2) := by
  have hk : Keeps key ((L1 ++ L2) ++ (R1 ++ R2)) ((L1 ++ R1) ++ (L2 ++ R2)) := by
    have h := (Keeps.refl (key := key) L1).append ((Keeps.swap (U := L2) (V := R1) (key := key) (fun u hu v hv e => by have := h2 v hv u hu; omega)).append (Keeps.refl R2))
    simpa using h
  refine ((hk.trans (m1.keeps.append m2.keeps))).stab ?_
  rw [List.pairwise_append] at hL hR ⊢
  refine ⟨m1.2.1, m2.2.1, fun x hx y hy => ?_⟩
  have hx := m1.1.mem_iff.1 hx
  have hy := m2.1.mem_iff.1 hy
  rcases List.mem_append.1 hx with hx | hx <;> rcases List.mem_append.1 hy with hy | hy
  · exact hL.2.2 x hx y hy
  · exact h1 x hx y hy
  · exact Int.le_of_lt (h2 x hx y hy)
  · exact hR.2.2 x hx y hy
theorem stab_left {L : List α} (hL : L.Pairwise (fun a b => key a ≤ key b)) : Stab key L L := (Keeps.refl L).stab hL
end
end Go.Proofs.YtonmmgcibpjahaaGreatDoor
end

section
/- EnvW: A region that draws its order, with two operations that write at its end, in either order: an exchange. Each operation's value is known ahead. -/
namespace Go.Proofs.YtonmmgcibpjahaaGreatDoor
open Go Go.RowKit

section
variable {P : Program} {n : Nat} {ops : Array Oper}
/-- What is asked of the region itself. s1, s2: the operations that write. -/
def envWB (ops : Array Oper) (D : List Nat) (s1 s2 : Nat) : Bool :=
  invB ops D && (List.range ops.size).all fun i => match ops[i]? with
    | some o => (match o.op with | .defer .. => false | .select .. => false | _ => true) && (if i = s1 ∨ i = s2 then o.dst.isNone && o.guard.isNone else o.dst == some (D.getD i 0)) &&
      (o.looksAt ops).all fun s => !D.contains s || (List.range i).any fun j => D.getD j 0 == s && o.after.any fun e => Region.binds .any e && e.on == j
    | none => true
/-- Does an operation stand ahead of both writing ones? -/
def aheadB (ops : Array Oper) (s1 s2 k : Nat) : Bool := depB ops s1 k && depB ops s2 k
def EnvWStep (P : Program) (ops : Array Oper) (fin : Act) (w0 : World) (s1 s2 k : Nat) (o : Oper) (v : Value) : Prop :=
  (k == s1 || k == s2) = true ∨ (Region.wanted o (yielded ops fin.tmps) = false ∧ v = undef) ∨ (Region.wanted o (yielded ops fin.tmps) = true ∧ ∀ w, (aheadB ops s1 s2 k = true → w = w0) → (execOp fin.eval o).run P w = .ok (.value v) w)
def EnvWSteps (P : Program) (ops : Array Oper) (fin : Act) (w0 : World) (s1 s2 : Nat) : Nat → List Oper → List Value → Prop
  | k, o :: l, v :: V => EnvWStep P ops fin w0 s1 s2 k o v ∧ EnvWSteps P ops fin w0 s1 s2 (k + 1) l V
  | _, [], [] => True
  | _, _, _ => False
theorem envWSteps_at {fin : Act} {w0 : World} {s1 s2 : Nat} : ∀ {l : List Oper} {V : List Value} {k : Nat}, EnvWSteps P ops fin w0 s1 s2 k l V → ∀ {j : Nat} {o : Oper}, l[j]? = some o → EnvWStep P ops fin w0 s1 s2 (k + j) o (V.getD j undef)
  | [], _, _, _, _, _, h => by simp at h
  | _ :: _, [], _, hs, _, _, _ => hs.elim
  | x :: l, v :: V, k, hs, 0, o, h => by
    simp only [List.getElem?_cons_zero, Option.some.injEq] at h
    subst h
    exact hs.1
  | x :: l, v :: V, k, hs, j + 1, o, h => by
    rw [List.getElem?_cons_succ] at h
    have := envWSteps_at hs.2 h
    rw [show k + 1 + j = k + (j + 1) by omega] at this
    simpa using this
theorem envWSteps_len {fin : Act} {w0 : World} {s1 s2 : Nat} : ∀ {l : List Oper} {V : List Value} {k : Nat}, EnvWSteps P ops fin w0 s1 s2 k l V → V.length = l.length
  | [], [], _, _ => rfl
  | [], _ :: _, _, h => h.elim
  | _ :: _, [], _, h => h.elim
  | _ :: l, _ :: V, _, h => by simp [envWSteps_len h.2]
theorem more_same (L : Nat → Bool) (k : Nat) : more L k k = true := by unfold more; rw [decide_eq_true rfl]; rfl
/-- The world, by which of the two writing operations are done. -/
def twoW (w0 wa wb wc wd : World) : Bool → Bool → World → Prop
  | false, false, w => w = w0
  | true, false, w => w = wa
  | false, true, w => w = wb
  | true, true, w => w = wc ∨ w = wd
/-- A REGION THAT DRAWS ITS ORDER, WITH TWO OPERATIONS THAT WRITE, WITHIN A FENCE. D: each operation's slot (the writing ones': two that the frame has not); V: what it yields; fin: the frame in the end. -/
theorem wpIn_envW {F : Fence} (hF : Wide F) {id : Nat} {l : List Oper} {Q : Exit → Act → World → Prop} {a : Act} {w : World} (hm : P.follows .mixedOrders = true) (D : List Nat) (V : List Value) (s1 s2 : Nat) (o1 o2 : Oper) (wa wb wc wd : World)
    (hb : envWB l.toArray D s1 s2 = true) (hs1 : l[s1]? = some o1) (hs2 : l[s2]? = some o2) (hsz1 : a.tmps.size ≤ D.getD s1 0) (hsz2 : a.tmps.size ≤ D.getD s2 0) (hne : s1 ≠ s2) {fin : Act} (hfin : putAll a D V = fin)
    (hstep : EnvWSteps P l.toArray fin w.drew s1 s2 0 l V)
    (h1 : (execOp fin.eval o1).run P w.drew = .ok .skip wa) (h2 : (execOp fin.eval o2).run P w.drew = .ok .skip wb) (h12 : (execOp fin.eval o2).run P wa = .ok .skip wc) (h21 : (execOp fin.eval o1).run P wb = .ok .skip wd)
    (hend : ∀ w', w' = wc ∨ w' = wd → Q .normal fin w') : (Code.region id l.toArray true).wpIn F n P Q a w := by
  unfold envWB at hb
  rw [Bool.and_eq_true] at hb
  obtain ⟨hi, hb⟩ := hb
  have hi' := hi
  simp only [invB, Bool.and_eq_true, decide_eq_true_eq] at hi'
  obtain ⟨⟨-, hlen⟩, hnd⟩ := hi'
  have hV : V.length = D.length := by rw [envWSteps_len hstep, hlen]; simp
  have hfin : frameOf a D (valOf D V) = fin := by
    rw [← hfin]
    exact putAll_eq D V a _ hV fun i hi => by unfold valOf; rw [idxOf_getD hnd hi]
  refine wpIn_inv hm D (fun L x w' => (∀ i, i < D.length → L i = true → x (D.getD i 0) = V.getD i undef) ∧ twoW w.drew wa wb wc wd (L s1) (L s2) w') hi (fun x => ⟨(fun i _ h => by cases h), rfl⟩) ?_ ?_
  · have main : ∀ (i : Nat) (o : Oper), l[i]? = some o → StepI F n P l.toArray a D (fun L x w' => (∀ i, i < D.length → L i = true → x (D.getD i 0) = V.getD i undef) ∧ twoW w.drew wa wb wc wd (L s1) (L s2) w') i o := by
      intro k o hlk L x w1 R hI hsh hLk hr hR
      obtain ⟨hx, htw⟩ := hI
      have hkl : k < l.length := (List.getElem?_eq_some_iff.1 hlk).1
      have ho : l.toArray[k]? = some o := by simpa using hlk
      have hkD : k < D.length := by rw [hlen]; simpa using hkl
      have hst1 := envWSteps_at hstep hlk
      rw [Nat.zero_add] at hst1
      have hb1 := List.all_eq_true.1 hb k (List.mem_range.2 (by simpa using hkl))
      rw [ho] at hb1
      simp only [Bool.and_eq_true] at hb1
      obtain ⟨⟨hop, hdst⟩, hlook⟩ := hb1
      have hndf : ∀ c, o.op ≠ .defer c := fun c hc => by rw [hc] at hop; cases hop
      have hnsl : ∀ cs b, o.op ≠ .select cs b := fun c b hc => by rw [hc] at hop; cases hop
      have hsame : ∀ s, s ∈ o.looksAt l.toArray → (frameOf a D x).tmps[s]? = fin.tmps[s]? := by
        intro s hs
        rw [← hfin, frameOf_tmps, frameOf_tmps]
        by_cases hD : s ∈ D
        · have := List.all_eq_true.1 hlook s hs
          rw [Bool.or_eq_true] at this
          rcases this with h | h
          · simp [hD] at h
          · obtain ⟨j, hj, hj2⟩ := List.any_eq_true.1 h
            rw [Bool.and_eq_true] at hj2
            obtain ⟨hjs, hje⟩ := hj2
            have hjs : D.getD j 0 = s := by simpa using hjs
            have hjk := List.mem_range.1 hj
            have h1 := hx j (by omega) (hr j hje)
            rw [hjs] at h1
            have h2 : x s = valOf D V s := by
              have e : D.idxOf s = j := by rw [← hjs]; exact idxOf_getD hnd (by omega)
              unfold valOf
              rw [e]
              exact h1
            rw [h2]
        · simp [hD]
      have hev : ∀ y ∈ o.op.operands, (frameOf a D x).eval y = fin.eval y := by
        intro y hy
        cases y with
        | tmp s =>
          have h1 := hsame s (List.mem_append_left _ (List.mem_filterMap.2 ⟨.tmp s, by simpa using hy, rfl⟩))
          show (frameOf a D x).tmps.getD s undef = fin.tmps.getD s undef
          simp only [Array.getD_eq_getD_getElem?, h1]
        | _ => rfl
      have hex := execOp_congr (ρ := (frameOf a D x).eval) (ρ' := fin.eval) o hnsl hev
      have hwa : Region.wanted o (yielded l.toArray (frameOf a D x).tmps) = Region.wanted o (yielded l.toArray fin.tmps) := by
        unfold Region.wanted
        cases hg : o.guard with
        | none => rfl
        | some g =>
          obtain ⟨g, b⟩ := g
          dsimp only
          unfold yielded
          cases hd : (l.toArray[g]?).bind (·.dst) with
          | none => rfl
          | some d =>
            have h1 := hsame d (List.mem_append_right _ (by rw [hg]; show d ∈ ((l.toArray[g]?).bind (·.dst)).toList; rw [hd]; simp))
            simp only [Option.bind_some, h1]
      have hmem : D.getD k 0 ∈ D := by rw [List.getD_eq_getElem?_getD, List.getElem?_eq_getElem hkD]; exact List.getElem_mem hkD
      have hnew : ∀ w', twoW w.drew wa wb wc wd (more L k s1) (more L k s2) w' →
          ((∀ i, i < D.length → more L k i = true → upd x (D.getD k 0) (V.getD k undef) (D.getD i 0) = V.getD i undef) ∧ twoW w.drew wa wb wc wd (more L k s1) (more L k s2) w') := by
        intro w' h1
        refine ⟨fun i hiD hm => ?_, h1⟩
        by_cases hik : i = k
        · subst hik; rw [upd_same]
        · have hne : D.getD i 0 ≠ D.getD k 0 := by
            rw [List.getD_eq_getElem?_getD, List.getD_eq_getElem?_getD, List.getElem?_eq_getElem hiD, List.getElem?_eq_getElem hkD]
            intro e
            simp only [Option.getD_some] at e
            have hpw := List.pairwise_iff_getElem.1 hnd
            rcases Nat.lt_or_ge i k with h | h
            · exact hpw i k hiD hkD h e
            · exact hpw k i hkD hiD (by omega) e.symm
          rw [upd_other x _ hne]
          have : L i = true := by
            unfold more at hm
            rw [decide_eq_false hik] at hm
            simpa using hm
          exact hx i hiD this
      have hkeep : ∀ s, s ≠ k → more L k s = L s := fun s hs => by
        unfold more
        rw [decide_eq_false hs, Bool.false_or]
      unfold wpListIn
      rw [hwa]
      by_cases hks : k = s1 ∨ k = s2
      · rw [if_pos hks] at hdst
        simp only [Bool.and_eq_true] at hdst
        have hdn : o.dst = none := by simpa using hdst.1
        have hgn : o.guard = none := by simpa using hdst.2
        have hwt : Region.wanted o (yielded l.toArray fin.tmps) = true := by unfold Region.wanted; rw [hgn]
        have hsz : a.tmps.size ≤ D.getD k 0 := by rcases hks with rfl | rfl <;> assumption
        have e : (frameOf a D x).put none undef = frameOf a D (upd x (D.getD k 0) (V.getD k undef)) := by
          show frameOf a D x = _
          have h1 : (frameOf a D x).tmps = (frameOf a D (upd x (D.getD k 0) (V.getD k undef))).tmps := by
            apply Array.ext_getElem?
            intro s
            rw [frameOf_tmps, frameOf_tmps]
            by_cases hs : s < a.tmps.size
            · rw [upd_other x _ (show s ≠ D.getD k 0 by omega)]
            · simp [hs]
          have h2 : (frameOf a D x).defers = (frameOf a D (upd x (D.getD k 0) (V.getD k undef))).defers := by rw [frameOf_defers, frameOf_defers]
          generalize frameOf a D x = p1 at h1 h2
          generalize frameOf a D (upd x (D.getD k 0) (V.getD k undef)) = q1 at h1 h2
          cases p1
          cases q1
          simp only at h1 h2
          subst h1 h2
          rfl
        rw [if_pos hwt]
        refine ⟨fun f _ => hF.fn f, ?_⟩
        rw [Oper.semAt_plain F _ o hndf, hex]
        have hrun : ∃ w', (execOp fin.eval o).run P w1 = .ok .skip w' ∧ twoW w.drew wa wb wc wd (more L k s1) (more L k s2) w' := by
          rcases hks with rfl | rfl
          · obtain rfl : o = o1 := by rw [hlk] at hs1; exact Option.some.inj hs1
            rw [hkeep s2 (fun h => hne h.symm), more_same]
            rw [hLk] at htw
            cases hL2 : L s2 with
            | true => rw [hL2] at htw; cases htw; exact ⟨_, h21, .inr rfl⟩
            | false => rw [hL2] at htw; cases htw; exact ⟨_, h1, rfl⟩
          · obtain rfl : o = o2 := by rw [hlk] at hs2; exact Option.some.inj hs2
            rw [hkeep s1 hne, more_same]
            rw [hLk] at htw
            cases hL2 : L s1 with
            | true => rw [hL2] at htw; cases htw; exact ⟨_, h12, .inl rfl⟩
            | false => rw [hL2] at htw; cases htw; exact ⟨_, h2, rfl⟩
        obtain ⟨w', hr', htw'⟩ := hrun
        rw [hr', Oper.uponIn_skip, hdn, e]
        exact hR _ _ (hnew w' htw')
      · rw [if_neg hks] at hdst
        have hput : ∀ v, (frameOf a D x).put o.dst v = frameOf a D (upd x (D.getD k 0) v) := fun v => by
          have hdst : o.dst = some (D.getD k 0) := by simpa using hdst
          rw [hdst]
          exact frameOf_put D x a _ hmem v
        have htw' : twoW w.drew wa wb wc wd (more L k s1) (more L k s2) w1 := by
          rw [hkeep s1 (fun h => hks (.inl h.symm)), hkeep s2 (fun h => hks (.inr h.symm))]
          exact htw
        rcases hst1 with h0 | ⟨h1, h2⟩ | ⟨h1, h2⟩
        · exact absurd (by simpa using h0) hks
        · rw [if_neg (by rw [h1]; simp)]
          refine ⟨fun f _ => hF.fn f, ?_⟩
          rw [hput, ← h2]
          exact hR _ _ (hnew w1 htw')
        · rw [if_pos h1]
          refine ⟨fun f _ => hF.fn f, ?_⟩
          rw [Oper.semAt_plain F _ o hndf, hex, h2 w1 (fun h => by
            unfold aheadB at h
            rw [Bool.and_eq_true] at h
            have g1 : L s1 = false := by
              cases h3 : L s1 with
              | false => rfl
              | true => rw [hsh s1 k h.1 h3] at hLk; cases hLk
            have g2 : L s2 = false := by
              cases h3 : L s2 with
              | false => rfl
              | true => rw [hsh s2 k h.2 h3] at hLk; cases hLk
            rw [g1, g2] at htw
            exact htw), Oper.uponIn_value, hput]
          exact hR _ _ (hnew w1 htw')
    have all : ∀ (m : List Oper) (k : Nat), (∀ j, m[j]? = l[k + j]?) → StepsI F n P l.toArray a D (fun L x w' => (∀ i, i < D.length → L i = true → x (D.getD i 0) = V.getD i undef) ∧ twoW w.drew wa wb wc wd (L s1) (L s2) w') k m := by
      intro m
      induction m with
      | nil => intro k _; trivial
      | cons o m ih =>
        intro k hk
        exact ⟨main k o (by simpa using (hk 0).symm), ih (k + 1) fun j => by have := hk (j + 1); simpa [Nat.add_assoc, Nat.add_comm 1 j] using this⟩
    exact all l 0 fun j => by simp
  · rintro x w' L hL ⟨h2, h3⟩
    have e : frameOf a D x = fin := by
      rw [← hfin]
      refine frameOf_congr D _ _ a fun s hs => ?_
      obtain ⟨j, hj, rfl⟩ := List.getElem_of_mem hs
      have h4 := h2 j hj (hL j (by omega))
      rw [List.getD_eq_getElem?_getD, List.getElem?_eq_getElem hj] at h4
      have h4 : x D[j] = V.getD j undef := h4
      unfold valOf
      rw [List.Nodup.idxOf_getElem hnd j hj]
      exact h4
    rw [e]
    have g1 := (List.getElem?_eq_some_iff.1 hs1).1
    have g2 := (List.getElem?_eq_some_iff.1 hs2).1
    rw [hL s1 (by simpa using g1), hL s2 (by simpa using g2)] at h3
    exact hend _ h3
/-- The same, in no fence. -/
theorem wp_envW {id : Nat} {l : List Oper} {Q : Exit → Act → World → Prop} {a : Act} {w : World} (hm : P.follows .mixedOrders = true) (D : List Nat) (V : List Value) (s1 s2 : Nat) (o1 o2 : Oper) (wa wb wc wd : World)
    (hb : envWB l.toArray D s1 s2 = true) (hs1 : l[s1]? = some o1) (hs2 : l[s2]? = some o2) (hsz1 : a.tmps.size ≤ D.getD s1 0) (hsz2 : a.tmps.size ≤ D.getD s2 0) (hne : s1 ≠ s2) {fin : Act} (hfin : putAll a D V = fin)
    (hstep : EnvWSteps P l.toArray fin w.drew s1 s2 0 l V)
    (h1 : (execOp fin.eval o1).run P w.drew = .ok .skip wa) (h2 : (execOp fin.eval o2).run P w.drew = .ok .skip wb) (h12 : (execOp fin.eval o2).run P wa = .ok .skip wc) (h21 : (execOp fin.eval o1).run P wb = .ok .skip wd)
    (hend : ∀ w', w' = wc ∨ w' = wd → Q .normal fin w') : (Code.region id l.toArray true).wp P Q a w :=
  (wpIn_wide (n := 8)).1 (wpIn_envW wide0 hm D V s1 s2 o1 o2 wa wb wc wd hb hs1 hs2 hsz1 hsz2 hne hfin hstep h1 h2 h12 h21 hend)
end
end Go.Proofs.YtonmmgcibpjahaaGreatDoor
end

section
/- FBase: Firings in memory: a row of them that a call may turn. -/
namespace Go.Proofs.YtonmmgcibpjahaaGreatDoor
open Go Go.RowKit Go.Shelf
set_option maxRecDepth 100000

/-- A firing. -/
structure Fir where
  nominal : Int
  kind : Int
  save : Int
  letter : ByteArray
def firV (x : Fir) : List Value := [.int .i64 x.nominal, .int .i64 x.kind, .int .i64 x.save, .string x.letter]
def firA (x : Fir) : Value := .agg #[.int .i64 x.nominal, .int .i64 x.kind, .int .i64 x.save, .string x.letter]
def firsV (l : List Fir) : List Value := l.flatMap firV
theorem length_firsV (l : List Fir) : (firsV l).length = l.length * 4 := by
  induction l with
  | nil => rfl
  | cons c l ih => simp only [firsV, List.flatMap_cons, List.length_append, List.length_cons, firV, List.length_nil] at ih ⊢; omega
theorem firsV_append (l m : List Fir) : firsV (l ++ m) = firsV l ++ firsV m := by simp [firsV]
theorem firsV_cons (x : Fir) (m : List Fir) : firsV (x :: m) = firV x ++ firsV m := by simp [firsV]
/-- A row of firings of some call's own. -/
def RwF (W : World) (base g cap n : Nat) (d : List Fir) : Prop := d.length = n ∧ W.ownsRow base 147 4 (.slice (some ⟨g, 0, none⟩) n cap) n (firsV d)
section
variable {W W' : World} {base g cap n : Nat} {A C d : List Fir} {x y : Fir}
theorem RwF.len (h : RwF W base g cap n d) : d.length = n := h.1
theorem RwF.room (h : RwF W base g cap n d) : n ≤ cap ∧ cap ≤ maxLen := by
  rcases h.2.2 with ⟨h', _⟩ | ⟨g', cap', cur, h', _, hg, h1, h2, _⟩
  · simp at h'
  · simp only [Value.slice.injEq, Option.some.injEq, Addr.mk.injEq, and_true, true_and] at h'
    obtain ⟨rfl, rfl⟩ := h'
    exact ⟨h1, h2⟩
theorem RwF.lt (h : RwF W base g cap n d) : base ≤ g ∧ g < W.heap.size := h.2.lt g rfl
theorem RwF.at_ (h : RwF W base g cap n (A ++ x :: C)) : W.cell? ⟨g, A.length * 4, none⟩ = some (.int .i64 x.nominal) ∧ W.cell? ⟨g, A.length * 4 + 1, none⟩ = some (.int .i64 x.kind) ∧ W.cell? ⟨g, A.length * 4 + 2, none⟩ = some (.int .i64 x.save) ∧ W.cell? ⟨g, A.length * 4 + 3, none⟩ = some (.string x.letter) := by
  have hl := h.1
  rw [List.length_append, List.length_cons] at hl
  have hc : ∀ i, i < 4 → W.cell? ⟨g, A.length * 4 + i, none⟩ = (firV x)[i]? := fun i hi => by
    rw [h.2.cellAt _ (by omega), firsV_append, firsV_cons, List.getElem?_append_right (by rw [length_firsV]; omega), length_firsV, Nat.add_sub_cancel_left, List.getElem?_append_left (by simp [firV]; omega)]
  exact ⟨hc 0 (by omega), hc 1 (by omega), hc 2 (by omega), hc 3 (by omega)⟩
theorem RwF.at2 {Q : List Fir} (h : RwF W base g cap n (A ++ y :: (Q ++ x :: C))) : W.cell? ⟨g, (A.length + 1 + Q.length) * 4, none⟩ = some (.int .i64 x.nominal) ∧ W.cell? ⟨g, (A.length + 1 + Q.length) * 4 + 1, none⟩ = some (.int .i64 x.kind) ∧ W.cell? ⟨g, (A.length + 1 + Q.length) * 4 + 2, none⟩ = some (.int .i64 x.save) ∧ W.cell? ⟨g, (A.length + 1 + Q.length) * 4 + 3, none⟩ = some (.string x.letter) := by
  have h1 : RwF W base g cap n ((A ++ y :: Q) ++ x :: C) := by simpa using h
  have h2 := h1.at_
  rwa [show (A ++ y :: Q).length = A.length + 1 + Q.length by simp; omega] at h2
theorem RwF.frozen (h : RwF W base g cap n d) (j : Nat) : W.frozen? ⟨g, j, none⟩ = false := h.2.frozenAt j
theorem RwF.fr {T : Nat → Prop} (h : RwF W base g cap n d) (hf : Fr T W W') (hn : ¬ T g) : RwF W' base g cap n d := ⟨h.1, hf.own h.2 fun k hk => by cases hk; exact hn⟩
theorem RwF.below (h : RwF W base g cap n d) (hb : Below W.heap.size W W') : RwF W' base g cap n d := h.fr (T := fun _ => False) (Fr.of_below hb (Nat.le_refl _)) (fun e => e)
/-- A firing put at a place. -/
def putF (W : World) (g p : Nat) (x : Fir) : World := (((W.setCell ⟨g, p, none⟩ (.int .i64 x.nominal)).setCell ⟨g, p + 1, none⟩ (.int .i64 x.kind)).setCell ⟨g, p + 2, none⟩ (.int .i64 x.save)).setCell ⟨g, p + 3, none⟩ (.string x.letter)
theorem set_mid {L M R : List Value} {i : Nat} (v : Value) (hi : i < M.length) : (L ++ (M ++ R)).set (L.length + i) v = L ++ (M.set i v ++ R) := by
  rw [List.set_append_right _ _ (by omega), Nat.add_sub_cancel_left, List.set_append_left _ _ hi]
theorem RwF.put (h : RwF W base g cap n (A ++ y :: C)) (x : Fir) : RwF (putF W g (A.length * 4) x) base g cap n (A ++ x :: C) := by
  refine ⟨by have := h.1; simpa using this, ?_⟩
  have h1 := (h.2.stored (A.length * 4) (.int .i64 x.nominal)).1
  have h2 := (h1.stored (A.length * 4 + 1) (.int .i64 x.kind)).1
  have h3 := (h2.stored (A.length * 4 + 2) (.int .i64 x.save)).1
  have h4 := (h3.stored (A.length * 4 + 3) (.string x.letter)).1
  unfold putF
  rw [firsV_append, firsV_cons] at h4 ⊢
  rw [← length_firsV A] at h4 ⊢
  have e := set_mid (L := firsV A) (M := firV y) (R := firsV C) (i := 0) (.int .i64 x.nominal) (by simp [firV])
  rw [Nat.add_zero] at e
  rw [e, set_mid _ (by simp [firV]), set_mid _ (by simp [firV]), set_mid _ (by simp [firV])] at h4
  exact h4
theorem putF_fr (W : World) (g p : Nat) (x : Fir) : Fr (fun k => k = g) W (putF W g p x) :=
  (((Fr.setCell (T := fun k => k = g) W p _ rfl).then (Fr.setCell (T := fun k => k = g) _ (p + 1) _ rfl)).then (Fr.setCell (T := fun k => k = g) _ (p + 2) _ rfl)).then (Fr.setCell (T := fun k => k = g) _ (p + 3) _ rfl)
/-- Two firings change places, the one store or the other one first. -/
theorem RwF.swap {Q : List Fir} (h : RwF W base g cap n (A ++ y :: (Q ++ x :: C))) :
    RwF (putF W.drew g ((A.length + 1 + Q.length) * 4) y) base g cap n (A ++ y :: (Q ++ y :: C)) ∧ RwF (putF W.drew g (A.length * 4) x) base g cap n (A ++ x :: (Q ++ x :: C)) ∧
    RwF (putF (putF W.drew g ((A.length + 1 + Q.length) * 4) y) g (A.length * 4) x) base g cap n (A ++ x :: (Q ++ y :: C)) ∧ RwF (putF (putF W.drew g (A.length * 4) x) g ((A.length + 1 + Q.length) * 4) y) base g cap n (A ++ x :: (Q ++ y :: C)) ∧
    Fr (fun k => k = g) W (putF (putF W.drew g ((A.length + 1 + Q.length) * 4) y) g (A.length * 4) x) ∧ Fr (fun k => k = g) W (putF (putF W.drew g (A.length * 4) x) g ((A.length + 1 + Q.length) * 4) y) := by
  have hl : ∀ z : Fir, (A ++ z :: Q).length = A.length + 1 + Q.length := fun z => by simp; omega
  have hd : RwF W.drew base g cap n (A ++ y :: (Q ++ x :: C)) := h
  have h2 : ∀ (z u : Fir), A ++ z :: (Q ++ u :: C) = (A ++ z :: Q) ++ u :: C := fun z u => by simp
  have a1 : RwF (putF W.drew g ((A.length + 1 + Q.length) * 4) y) base g cap n (A ++ y :: (Q ++ y :: C)) := by
    rw [h2] at hd ⊢
    have := hd.put y
    rwa [hl] at this
  have b1 := hd.put x
  refine ⟨a1, b1, a1.put x, ?_, ((Fr.drew W).then (putF_fr _ _ _ _)).then (putF_fr _ _ _ _), ((Fr.drew W).then (putF_fr _ _ _ _)).then (putF_fr _ _ _ _)⟩
  rw [h2] at b1 ⊢
  have := b1.put y
  rwa [hl] at this
end
end Go.Proofs.YtonmmgcibpjahaaGreatDoor
end
