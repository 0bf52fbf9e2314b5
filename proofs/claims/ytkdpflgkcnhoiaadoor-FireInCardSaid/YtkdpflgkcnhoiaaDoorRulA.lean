/-
  A row of rules that a call may turn, and the order of Letter.
-/
import Derived.Test.YtkdpflgkcnhoiaaDoorFSortA
import Derived.Test.YtkdpflgkcnhoiaaDoorFRules
namespace Go.Proofs.YtkdpflgkcnhoiaaDoor
open Go Go.RowKit Go.Shelf
set_option maxRecDepth 100000

theorem rulsV_append (l m : List Rul) : rulsV (l ++ m) = rulsV l ++ rulsV m := by simp [rulsV]
theorem rulsV_cons (x : Rul) (m : List Rul) : rulsV (x :: m) = rulV x ++ rulsV m := by simp [rulsV]
theorem rulsV_one (l : List Rul) : ∀ u ∈ rulsV l, u.oneCell' = true := by
  intro u hu
  unfold rulsV at hu
  obtain ⟨c, -, hc⟩ := List.mem_flatMap.1 hu
  simp [rulV] at hc
  rcases hc with rfl | rfl | rfl | rfl | rfl | rfl | rfl | rfl | rfl | rfl | rfl <;> rfl
/-- A row of rules of some call's own. -/
def RwR (W : World) (base g cap n : Nat) (d : List Rul) : Prop := d.length = n ∧ W.ownsRow base 46 11 (.slice (some ⟨g, 0, none⟩) n cap) n (rulsV d)
section
variable {W W' : World} {base g cap n : Nat} {A C d : List Rul} {x y : Rul}
theorem RwR.len (h : RwR W base g cap n d) : d.length = n := h.1
theorem RwR.room (h : RwR W base g cap n d) : n ≤ cap ∧ cap ≤ maxLen := by
  rcases h.2.2 with ⟨h', _⟩ | ⟨g', cap', cur, h', _, hg, h1, h2, _⟩
  · simp at h'
  · simp only [Value.slice.injEq, Option.some.injEq, Addr.mk.injEq, and_true, true_and] at h'
    obtain ⟨rfl, rfl⟩ := h'
    exact ⟨h1, h2⟩
theorem RwR.lt (h : RwR W base g cap n d) : base ≤ g ∧ g < W.heap.size := h.2.lt g rfl
theorem RwR.at_ (h : RwR W base g cap n (A ++ x :: C)) : RulC W g (A.length * 11) x := by
  have hl := h.1
  rw [List.length_append, List.length_cons] at hl
  have hc : ∀ i, i < 11 → W.cell? ⟨g, A.length * 11 + i, none⟩ = (rulV x)[i]? := fun i hi => by
    rw [h.2.cellAt _ (by omega), rulsV_append, rulsV_cons, List.getElem?_append_right (by rw [length_rulsV]; omega), length_rulsV, Nat.add_sub_cancel_left, List.getElem?_append_left (by simp [rulV]; omega)]
  exact ⟨hc 0 (by omega), hc 1 (by omega), hc 2 (by omega), hc 3 (by omega), hc 4 (by omega), hc 5 (by omega), hc 6 (by omega), hc 7 (by omega), hc 8 (by omega), hc 9 (by omega), hc 10 (by omega)⟩
theorem RwR.at2 {Q : List Rul} (h : RwR W base g cap n (A ++ y :: (Q ++ x :: C))) : RulC W g ((A.length + 1 + Q.length) * 11) x := by
  have h1 : RwR W base g cap n ((A ++ y :: Q) ++ x :: C) := by simpa using h
  have h2 := h1.at_
  rwa [show (A ++ y :: Q).length = A.length + 1 + Q.length by simp; omega] at h2
theorem RwR.frozen (h : RwR W base g cap n d) (j : Nat) : W.frozen? ⟨g, j, none⟩ = false := h.2.frozenAt j
theorem RwR.fr {T : Nat → Prop} (h : RwR W base g cap n d) (hf : Fr T W W') (hn : ¬ T g) : RwR W' base g cap n d := ⟨h.1, hf.own h.2 fun k hk => by cases hk; exact hn⟩
theorem RwR.below (h : RwR W base g cap n d) (hb : Below W.heap.size W W') : RwR W' base g cap n d := h.fr (T := fun _ => False) (Fr.of_below hb (Nat.le_refl _)) (fun e => e)
/-- A rule put at a place. -/
def putR (W : World) (g p : Nat) (x : Rul) : World := ((((((((((W.setCell ⟨g, p, none⟩ (.string x.name)).setCell ⟨g, p + 1, none⟩ (.int .i64 x.from_)).setCell ⟨g, p + 2, none⟩ (.int .i64 x.to_)).setCell ⟨g, p + 3, none⟩ (.int .i64 x.month)).setCell ⟨g, p + 4, none⟩ (.int .i64 x.dk)).setCell ⟨g, p + 5, none⟩ (.int .i64 x.dw)).setCell ⟨g, p + 6, none⟩ (.int .i64 x.dn)).setCell ⟨g, p + 7, none⟩ (.int .i64 x.sec)).setCell ⟨g, p + 8, none⟩ (.int .i64 x.kind)).setCell ⟨g, p + 9, none⟩ (.int .i64 x.save)).setCell ⟨g, p + 10, none⟩ (.string x.letter)
theorem set_midR {L M R : List Value} {i : Nat} (v : Value) (hi : i < M.length) : (L ++ (M ++ R)).set (L.length + i) v = L ++ (M.set i v ++ R) := by
  rw [List.set_append_right _ _ (by omega), Nat.add_sub_cancel_left, List.set_append_left _ _ hi]
theorem RwR.put (h : RwR W base g cap n (A ++ y :: C)) (x : Rul) : RwR (putR W g (A.length * 11) x) base g cap n (A ++ x :: C) := by
  refine ⟨by have := h.1; simpa using this, ?_⟩
  have h1 := (h.2.stored (A.length * 11) (.string x.name)).1
  have h2 := (h1.stored (A.length * 11 + 1) (.int .i64 x.from_)).1
  have h3 := (h2.stored (A.length * 11 + 2) (.int .i64 x.to_)).1
  have h4 := (h3.stored (A.length * 11 + 3) (.int .i64 x.month)).1
  have h5 := (h4.stored (A.length * 11 + 4) (.int .i64 x.dk)).1
  have h6 := (h5.stored (A.length * 11 + 5) (.int .i64 x.dw)).1
  have h7 := (h6.stored (A.length * 11 + 6) (.int .i64 x.dn)).1
  have h8 := (h7.stored (A.length * 11 + 7) (.int .i64 x.sec)).1
  have h9 := (h8.stored (A.length * 11 + 8) (.int .i64 x.kind)).1
  have h10 := (h9.stored (A.length * 11 + 9) (.int .i64 x.save)).1
  have h11 := (h10.stored (A.length * 11 + 10) (.string x.letter)).1
  unfold putR
  rw [rulsV_append, rulsV_cons] at h11 ⊢
  rw [← length_rulsV A] at h11 ⊢
  have e := set_midR (L := rulsV A) (M := rulV y) (R := rulsV C) (i := 0) (.string x.name) (by simp [rulV])
  rw [Nat.add_zero] at e
  rw [e, set_midR _ (by simp [rulV]), set_midR _ (by simp [rulV]), set_midR _ (by simp [rulV]), set_midR _ (by simp [rulV]), set_midR _ (by simp [rulV]), set_midR _ (by simp [rulV]), set_midR _ (by simp [rulV]), set_midR _ (by simp [rulV]), set_midR _ (by simp [rulV]), set_midR _ (by simp [rulV])] at h11
  exact h11
theorem putR_fr (W : World) (g p : Nat) (x : Rul) : Fr (fun k => k = g) W (putR W g p x) :=
  ((((((((((Fr.setCell (T := fun k => k = g) W p _ rfl).then (Fr.setCell (T := fun k => k = g) _ (p + 1) _ rfl)).then (Fr.setCell (T := fun k => k = g) _ (p + 2) _ rfl)).then (Fr.setCell (T := fun k => k = g) _ (p + 3) _ rfl)).then (Fr.setCell (T := fun k => k = g) _ (p + 4) _ rfl)).then (Fr.setCell (T := fun k => k = g) _ (p + 5) _ rfl)).then (Fr.setCell (T := fun k => k = g) _ (p + 6) _ rfl)).then (Fr.setCell (T := fun k => k = g) _ (p + 7) _ rfl)).then (Fr.setCell (T := fun k => k = g) _ (p + 8) _ rfl)).then (Fr.setCell (T := fun k => k = g) _ (p + 9) _ rfl)).then (Fr.setCell (T := fun k => k = g) _ (p + 10) _ rfl)
/-- Two rules change places, the one store or the other one first. -/
theorem RwR.swap {Q : List Rul} (h : RwR W base g cap n (A ++ y :: (Q ++ x :: C))) :
    RwR (putR W.drew g ((A.length + 1 + Q.length) * 11) y) base g cap n (A ++ y :: (Q ++ y :: C)) ∧ RwR (putR W.drew g (A.length * 11) x) base g cap n (A ++ x :: (Q ++ x :: C)) ∧
    RwR (putR (putR W.drew g ((A.length + 1 + Q.length) * 11) y) g (A.length * 11) x) base g cap n (A ++ x :: (Q ++ y :: C)) ∧ RwR (putR (putR W.drew g (A.length * 11) x) g ((A.length + 1 + Q.length) * 11) y) base g cap n (A ++ x :: (Q ++ y :: C)) ∧
    Fr (fun k => k = g) W (putR (putR W.drew g ((A.length + 1 + Q.length) * 11) y) g (A.length * 11) x) ∧ Fr (fun k => k = g) W (putR (putR W.drew g (A.length * 11) x) g ((A.length + 1 + Q.length) * 11) y) := by
  have hl : ∀ z : Rul, (A ++ z :: Q).length = A.length + 1 + Q.length := fun z => by simp; omega
  have hd : RwR W.drew base g cap n (A ++ y :: (Q ++ x :: C)) := h
  have h2 : ∀ (z u : Rul), A ++ z :: (Q ++ u :: C) = (A ++ z :: Q) ++ u :: C := fun z u => by simp
  have a1 : RwR (putR W.drew g ((A.length + 1 + Q.length) * 11) y) base g cap n (A ++ y :: (Q ++ y :: C)) := by
    rw [h2] at hd ⊢
    have := hd.put y
    rwa [hl] at this
  have b1 := hd.put x
  refine ⟨a1, b1, a1.put x, ?_, ((Fr.drew W).then (putR_fr _ _ _ _)).then (putR_fr _ _ _ _), ((Fr.drew W).then (putR_fr _ _ _ _)).then (putR_fr _ _ _ _)⟩
  rw [h2] at b1 ⊢
  have := b1.put y
  rwa [hl] at this
end
/-- The order of Letter as numbers, for months that there are. -/
def keyR (x : Rul) : Int := x.from_ * 100 + x.month
def mOk (x : Rul) : Prop := 1 ≤ x.month ∧ x.month ≤ 12
def cmp2 (x y : Rul) : Int := if cmpZ x.from_ y.from_ = 0 then cmpZ x.month y.month else cmpZ x.from_ y.from_
theorem cmp2_lt {x y : Rul} (hx : mOk x) (hy : mOk y) : (cmp2 x y < 0) = (keyR x < keyR y) := by
  unfold mOk at hx hy
  unfold cmp2 keyR cmpZ
  refine propext ?_
  repeat' split
  all_goals omega
/-- What Or answers of two numbers. -/
def orV (a b : Int) : Int := if a = 0 then b else a
theorem ints_at {w : World} {B : Nat} {v : Value} {a b : Int} (h : Sl w B 1 v 2 [.int .i64 a, .int .i64 b]) : ∃ g o c, v = .slice (some ⟨g, o, none⟩) 2 c ∧ w.cell? ⟨g, o, none⟩ = some (.int .i64 a) ∧ w.cell? ⟨g, o + 1, none⟩ = some (.int .i64 b) := by
  obtain ⟨g, o, c, e, hb, hc⟩ := Sl.at_ h (by omega)
  exact ⟨g, o, c, e, hc 0 _ rfl, hc 1 _ rfl⟩
set_option maxHeartbeats 1000000 in
theorem or_any (w : World) (B : Nat) (v : Value) (a b : Int) (h : Sl w B 1 v 2 [.int .i64 a, .int .i64 b]) :
    Calls Tryd.prog 25 #[v] w fun e w' => e = .returned (.int .i64 (orV a b)) ∧ w' = w := by
  obtain ⟨g, o, c, rfl, c0, c1⟩ := ints_at h
  clear h
  by_cases ha : a = 0
  · subst ha
    have HV := Lib.hid (show orV 0 b = b from rfl)
    by_cases hb : b = 0
    · subst hb
      go_enter Tryd.func25, Tryd.ntmps25
      go_wp2_with fail
      refine wp_loop_rounds 3 ?_
      rw [rounds_succ]
      go_wp2_with fail
      rw [rounds_succ]
      go_wp2_with fail
      rw [rounds_succ]
      go_wp2_with fail
      go_ret
      exact ⟨by rw [HV.out]; rfl, rfl⟩
    · have he : (b != 0) = true := by simpa using hb
      go_enter Tryd.func25, Tryd.ntmps25
      go_wp2_with fail
      refine wp_loop_rounds 3 ?_
      rw [rounds_succ]
      go_wp2_with fail
      rw [rounds_succ]
      go_wp2_with fail
      go_ret
      exact ⟨by rw [HV.out]; rfl, rfl⟩
  · have HV := Lib.hid (show orV a b = a by unfold orV; rw [if_neg ha])
    have he : (a != 0) = true := by simpa using ha
    go_enter Tryd.func25, Tryd.ntmps25
    go_wp2_with fail
    refine wp_loop_rounds 3 ?_
    rw [rounds_succ]
    go_wp2_with fail
    go_ret
    exact ⟨by rw [HV.out]; rfl, rfl⟩
end Go.Proofs.YtkdpflgkcnhoiaaDoor
