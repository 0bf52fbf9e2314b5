/-
  Layer 20: Spans, walked.
-/
import Derived.Shelf.Abstract
import Derived.Shelf.RegionOpen
import Derived.OwnWalkIn
import Derived.TacticsInMore
import Derived.LoopNIn
import Derived.LoopIn
import Derived.BigRegionIn
import Derived.Lib.MinMax
import Derived.Test.YtlkpkmdomecopaaLWalkB
namespace Go.Proofs.Ytlkpkmdomecopaa
open Go Go.RowKit Go.Shelf
attribute [local go_sem] Oper.semAt_some
set_option maxRecDepth 100000

def encS (l : List Chg) (a b : Int) (k : Nat) : Array Value := #[.agg #[.int .i64 (lo l a k), .int .i64 (hi l b k)], locA (locAt l k)]
def clocksV (v : Value) : Value := .iface 26 (rowA v)
theorem meth_at (v : Value) (W : World) : (method 177 26 (rowA v) "At").run Try.prog W = .ok (37, rowA v) W := by kernel_rfl
theorem meth_next (v : Value) (W : World) : (method 177 26 (rowA v) "Next").run Try.prog W = .ok (38, rowA v) W := by kernel_rfl
/-- Where a stretch that begins at s goes on. -/
theorem isAt_lo {l : List Chg} (h : Row l) {a : Int} {k0 k : Nat} (h0 : IsAt l a k0) (hk : k0 ≤ k) (hl : k < l.length) : IsAt l (lo l a k) k := by
  rw [lo_in hl]
  obtain ⟨g1, g2, g3⟩ := h0
  refine isAt_next h.rise hl (by omega) fun h1 => ?_
  have := h.rise k h1
  have := g3 (k + 1) h1 (by omega)
  omega
theorem next_lo {l : List Chg} (h : Row l) {s : Int} {k : Nat} (hk : IsAt l s k) {e : Ending} (hn : NextIs l s e) :
    (∃ h : k + 1 < l.length, e = .returned (.tuple #[chgA l[k + 1], .bool true]) ∧ s < (l[k + 1]).at_) ∨ (l.length = k + 1 ∧ e = .returned (.tuple #[chgA .zero, .bool false])) := by
  obtain ⟨g1, g2, g3⟩ := hk
  rcases hn with ⟨q, hq, h1, h2, h3, rfl⟩ | ⟨h1, rfl⟩
  · left
    have : k < q := h.rise.not_before g1 hq (by omega)
    have : q = k + 1 := by
      rcases Nat.lt_or_ge (k + 1) q with h4 | h4
      · have := h3 (k + 1) (by omega) (by omega) h4
        have := g3 (k + 1) (by omega) (by omega)
        omega
      · omega
    subst this
    exact ⟨hq, rfl, h2⟩
  · right
    refine ⟨?_, rfl⟩
    rcases Nat.lt_or_ge (k + 1) l.length with h2 | h2
    · have := h1 (k + 1) h2 (by omega)
      have := g3 (k + 1) h2 (by omega)
      omega
    · omega
/-- What a round finds: J behind the list pre, at the instant s. -/
structure SpanAt (l : List Chg) (a b : Int) (k0 k1 fb xb : Nat) (J : List Nat → (Nat → Prop) → World → Prop) (O0 : Nat → Prop) (W : World) (pre : List Nat) (O : Nat → Prop) (s : Int) (y : Loc) (wr : World) : Prop where
  j : J pre O wr
  bd : Bd O wr
  ext : ∀ k, O k → O0 k ∨ W.heap.size ≤ k
  nx : ¬ O xb
  xs : W.heap.size ≤ xb
  f : Blk wr fb 3 #[.int .i64 s]
  x : LocB wr xb y
  fr : Fr (fun k => O0 k ∨ k = fb) W wr
  now : (k0 + pre.length ≤ k1 ∧ s = lo l a (k0 + pre.length) ∧ y = locAt l (k0 + pre.length)) ∨ (k0 + pre.length = k1 + 1 ∧ s = b)
section
variable {l : List Chg} {a b : Int} {k0 k1 fb xb : Nat} {J : List Nat → (Nat → Prop) → World → Prop} {O0 O O' D : Nat → Prop} {W wr w4 W5 : World} {pre : List Nat} {s : Int} {y : Loc}
theorem SpanAt.out_ (h : SpanAt l a b k0 k1 fb xb J O0 W pre O s y wr) (hb4 : Below wr.heap.size wr w4) (hD : ∀ k, ¬ D k) (hx : ∀ k, O' k → O k ∨ D k ∨ w4.heap.size ≤ k) (hf5 : Fr (fun k => O k ∨ D k) w4 W5) : (∀ k, O' k → O0 k ∨ W.heap.size ≤ k) ∧ Fr (fun k => O0 k ∨ k = fb) W W5 := by
  have h1 := h.fr.size
  have h2 := hb4.size
  refine ⟨fun k hk => ?_, (h.fr.then (Fr.of_below hb4 (Nat.le_refl _))).trans hf5 fun k hk => ?_⟩
  · rcases hx k hk with h3 | h3 | h3
    · exact h.ext k h3
    · exact absurd h3 (hD k)
    · exact .inr (by omega)
  · rcases hk with h3 | h3
    · rcases h.ext k h3 with h4 | h4
      · exact .inl (.inl h4)
      · exact .inr h4
    · exact absurd h3 (hD k)
theorem SpanAt.keep (h : SpanAt l a b k0 k1 fb xb J O0 W pre O s y wr) (hb4 : Below wr.heap.size wr w4) (hD : ∀ k, ¬ D k) (hf5 : Fr (fun k => O k ∨ D k) w4 W5) (hfb : ¬ O fb) : Blk W5 fb 3 #[.int .i64 s] ∧ LocB W5 xb y :=
  ⟨(h.f.below hb4 h.f.lt).fr hf5 (fun e => by rcases e with e | e; exact hfb e; exact hD _ e), (h.x.below hb4 h.x.lt).fr hf5 (fun e => by rcases e with e | e; exact h.nx e; exact hD _ e)⟩
/-- The round's end: the next stretch. -/
theorem SpanAt.next (h : SpanAt l a b k0 k1 fb xb J O0 W pre O s y wr) (hrow : Row l) (fJ : Feet J) (hk0 : IsAt l a k0) (hk1 : IsAt l (b - 1) k1) (_hk : k0 + pre.length ≤ k1) (hs : s = lo l a (k0 + pre.length)) (hsb : s < b) (hl : k0 + pre.length + 1 < l.length) {c : Chg} (hc : l[k0 + pre.length + 1] = c) (hlt : s < c.at_)
    (hb4 : Below wr.heap.size wr w4) (hD : ∀ k, ¬ D k) (hx : ∀ k, O' k → O k ∨ D k ∨ w4.heap.size ≤ k) (hbd : Bd O' W5) (hf5 : Fr (fun k => O k ∨ D k) w4 W5) (hfb : ¬ O fb) (hfl : fb < W.heap.size) (hJ : J (pre ++ [k0 + pre.length]) O' W5)
    {W6 : World} (h6 : Fr (fun k => k = fb ∨ k = xb) W5 W6) (hF6 : Blk W6 fb 3 #[.int .i64 (min b c.at_)]) (hX6 : LocB W6 xb c.loc) : SpanAt l a b k0 k1 fb xb J O0 W (pre ++ [k0 + pre.length]) O' (min b c.at_) c.loc W6 := by
  obtain ⟨e1, e2⟩ := h.out_ hb4 hD hx hf5
  have q1 := h.fr.size
  have q2 := hb4.size
  have q3 := h.x.lt
  have q4 := h.xs
  have nx : ¬ O' xb := fun e => by
    rcases hx _ e with e | e | e
    · exact h.nx e
    · exact hD _ e
    · omega
  have nf : ¬ O' fb := fun e => by
    rcases hx _ e with e | e | e
    · exact hfb e
    · exact hD _ e
    · omega
  refine ⟨fJ _ _ _ _ hJ (h6.mono fun k hk => .inl fun hO => by rcases hk with rfl | rfl; exact nf hO; exact nx hO), hbd.fr h6, e1, nx, h.xs, hF6, hX6, e2.trans h6 (fun k hk => by rcases hk with hk | hk; exact .inl (.inr hk); exact .inr (by omega)), ?_⟩
  have hle : pre.length + 1 = (pre ++ [k0 + pre.length]).length := by simp
  have hkl : k0 + pre.length < l.length := by omega
  have hat := isAt_lo hrow hk0 (show k0 ≤ k0 + pre.length by omega) hkl
  rw [← hs] at hat
  have hak : (l[k0 + pre.length]).at_ ≤ s := hat.2.1
  have hsa : a ≤ s := by rw [hs, lo_in hkl]; omega
  rw [← hle]
  by_cases hcb : c.at_ < b
  · left
    have hk1' : k0 + (pre.length + 1) ≤ k1 := by
      obtain ⟨g1, g2, g3⟩ := hk1
      rcases Nat.lt_or_ge k1 (k0 + pre.length + 1) with h3 | h3
      · have := g3 _ hl h3; rw [hc] at this; omega
      · omega
    refine ⟨hk1', ?_, ?_⟩
    · rw [show k0 + (pre.length + 1) = k0 + pre.length + 1 by omega, lo_in hl, hc]
      omega
    · rw [show k0 + (pre.length + 1) = k0 + pre.length + 1 by omega, locAt_in hl, hc]
  · right
    have := isAt_unique hk1 (isAt_next hrow.rise hkl (show (l[k0 + pre.length]).at_ ≤ b - 1 by omega) (fun _ => by rw [hc]; omega))
    exact ⟨by omega, by omega⟩
end
set_option maxHeartbeats 4000000 in
theorem spans1_in (n : Nat) (hn : 2 ≤ n) (lp cb fb tb B : Nat) (v : Value) (l : List Chg) (a b : Int) (hrow : Row l) (W : World) (k0 k1 : Nat) (hk0 : IsAt l a k0) (hk1 : IsAt l (b - 1) k1) (ha : -2199023255552 ≤ a) (hab : a < b) (hb : b ≤ 2199023255552)
    (hc : Blk W cb 52 #[clocksV v]) (hf : Blk W fb 3 #[.int .i64 a]) (ht : Blk W tb 3 #[.int .i64 b]) (hcf : cb ≠ fb) (htf : tb ≠ fb) (hv : Chgs W B v l) (hB : B ≤ fb)
    (J Jx : List Nat → (Nat → Prop) → World → Prop) (fJ : Feet J) (hY : RoundsIn Fence.wide (n - 1) Try.prog lp (encS l a b) (fun pre k D W' => ((∀ j, ¬ D j) ∧ k = k0 + pre.length ∧ k ≤ k1) ∧ Chgs W' B v l) J Jx)
    (O0 : Nat → Prop) (h0 : J [] O0 W) (hO0 : Bd O0 W) (hK : ∀ k, (k = cb ∨ k = fb ∨ k = tb ∨ k < B) → ¬ O0 k) :
    CallsIn Fence.wide n Try.prog 21 #[.func (.yield lp) #[] #[], .pointer (some ⟨cb, 0, none⟩), .pointer (some ⟨fb, 0, none⟩), .pointer (some ⟨tb, 0, none⟩)] W (IterEnd (fun xs : List Nat => xs.length = k1 + 1 - k0) (fun _ => True) J Jx O0 (fun k => k = fb) W) := by
  have hbw : B ≤ W.heap.size := Nat.le_trans hB (Nat.le_of_lt hf.lt)
  have HAT := Lib.hid (callsIn_wide (n := n - 1).2 (at_yes W B v l a hv hbw hrow.pos ha (by omega)))
  have qc : W.cell? ⟨cb, 0, none⟩ = some (.iface 26 (rowA v)) := hc.cell 0 rfl
  have qf : W.cell? ⟨fb, 0, none⟩ = some (.int .i64 a) := hf.cell 0 rfl
  have qt : W.cell? ⟨tb, 0, none⟩ = some (.int .i64 b) := ht.cell 0 rfl
  have HV := Lib.hid hv
  refine callsIn_of_wp Try.func21 rfl trivial ?_ rfl
  simp only [Try.ntmps21, List.size_toArray, List.length_cons, List.length_nil, Nat.reduceAdd, Nat.reduceSub, Array.replicate_succ, Array.replicate_zero, List.push_toArray, List.append_toArray, List.nil_append, List.cons_append]
  have hm1 := meth_at v
  have hm2 := meth_next v
  refine wpIn_scope ?_
  gi_wp2
  refine ⟨trivial, fun _ => by omega, HAT.out.mono ?_⟩
  rintro e w1 ⟨⟨x0, rfl, hx0⟩, hb1⟩
  obtain rfl := shownTo_at hx0 hk0
  have hx1 : (l[k0]'hk0.1).loc = locAt l k0 := (locAt_in hk0.1).symm
  rw [hx1]
  generalize hx2 : locAt l k0 = x0 at *
  have HX2 := Lib.hid hx2
  clear hx0 HAT hx1 hx2
  unfold locA
  gi_wp2
  refine wpIn_label ?_
  have hX := Blk.new w1 32 #[.int .i64 x0.off, .bool x0.dst, .string x0.abbr]
  obtain ⟨W2, hW2⟩ : ∃ W2, w1.alloc (.cells #[.int .i64 x0.off, .bool x0.dst, .string x0.abbr] 32) = W2 := ⟨_, rfl⟩
  have hb2 : Below W.heap.size W W2 := by rw [← hW2]; exact hb1.alloc hb1.size _
  have hs2 := hb1.size
  rw [hW2] at hX ⊢
  clear hW2
  have hF2 : ∀ T, Fr T W W2 := fun T => Fr.of_below hb2 (Nat.le_refl _)
  have HS0 : Hid (SpanAt l a b k0 k1 fb w1.heap.size J O0 W [] O0 a x0 W2) := by
    have h01 : k0 ≤ k1 := by
      obtain ⟨g1, g2, g3⟩ := hk0
      obtain ⟨f1, f2, f3⟩ := hk1
      rcases Nat.lt_or_ge k1 k0 with h | h
      · have := f3 k0 g1 h; omega
      · exact h
    refine ⟨fJ _ _ _ _ h0 (hF2 _), hO0.fr (hF2 (fun _ => True)), fun k h => .inl h, fun h => ?_, hs2, hf.below hb2 hf.lt, hX, hF2 _, .inl ⟨h01, ?_, HX2.out.symm⟩⟩
    · have := hO0 _ h; omega
    · rw [List.length_nil, Nat.add_zero, lo_in hk0.1]; have := hk0.2.1; omega
  clear hX hF2 hb2 h0 hO0 hb1 qc qf qt HX2
  generalize w1.heap.size = xb at *
  gi_wp2
  gi_loopw [7] (fun _ wr => ∃ (pre : List Nat) (O : Nat → Prop) (s : Int) (y : Loc), SpanAt l a b k0 k1 fb xb J O0 W pre O s y wr) (fun _ wr => (b - intOf ((wr.cell? ⟨fb, 0, none⟩).getD undef)).toNat)
  case atStart => exact ⟨[], O0, a, x0, HS0.out⟩
  case round =>
    obtain ⟨pre, O, s, y, hS⟩ := hrel
    have HS := Lib.hid hS
    have hcw := hc.fr hS.fr (by rintro (h | h); exact hK _ (.inl rfl) h; exact hcf h)
    have htw := ht.fr hS.fr (by rintro (h | h); exact hK _ (.inr (.inr (.inl rfl))) h; exact htf h)
    have qc : wr.cell? ⟨cb, 0, none⟩ = some (.iface 26 (rowA v)) := hcw.cell 0 rfl
    have qf : wr.cell? ⟨fb, 0, none⟩ = some (.int .i64 s) := hS.f.cell 0 rfl
    have qt : wr.cell? ⟨tb, 0, none⟩ = some (.int .i64 b) := htw.cell 0 rfl
    have hOn : ∀ k, (k = cb ∨ k = fb ∨ k = tb ∨ k < B) → ¬ O k := fun k hk ho => by
      rcases hS.ext k ho with h | h
      · exact hK k hk h
      · have h1 := hc.lt; have h2 := hf.lt; have h3 := ht.lt
        rcases hk with rfl | rfl | rfl | hk <;> omega
    have hvw : Chgs wr B v l := hv.keep fun p hp => hS.fr.cell (by omega) (by rintro (h | h); exact hK _ (.inr (.inr (.inr hp))) h; omega)
    clear hS hcw htw HS0
    by_cases hlt : s < b
    · obtain ⟨hk, hs, hy⟩ : k0 + pre.length ≤ k1 ∧ s = lo l a (k0 + pre.length) ∧ y = locAt l (k0 + pre.length) := by
        rcases HS.out.now with h | h
        · exact h
        · omega
      have hkl : k0 + pre.length < l.length := by have := hk1.1; omega
      have hat : IsAt l s (k0 + pre.length) := by rw [hs]; exact isAt_lo hrow hk0 (by omega) hkl
      have HNX := Lib.hid (callsIn_wide (n := n - 1).2 (next_any wr B v l s hvw (Nat.le_trans hbw HS.out.fr.size)))
      have HHS := Lib.hid hs
      have HHY := Lib.hid hy
      have HVW := Lib.hid hvw
      clear hs hy hvw
      gi_wp2
      refine ⟨trivial, fun _ => by omega, HNX.out.mono ?_⟩
      rintro e w3 ⟨hnx, hb3⟩
      rcases next_lo hrow hat hnx with ⟨hl1, rfl, hlt1⟩ | ⟨hlast, rfl⟩
      · have HC := Lib.hid (show l[k0 + pre.length + 1] = l[k0 + pre.length + 1] from rfl)
        have HHI := Lib.hid (hi_in hl1 b)
        generalize hcc : l[k0 + pre.length + 1] = c at hlt1 HHI ⊢
        have HCC := Lib.hid hcc
        clear hnx HC HNX hcc
        have qc3 := (hb3.cell (p := ⟨cb, 0, none⟩) (World.block_lt_of_cell? _ _ qc)).trans qc
        have qf3 := (hb3.cell (p := ⟨fb, 0, none⟩) (World.block_lt_of_cell? _ _ qf)).trans qf
        have qt3 := (hb3.cell (p := ⟨tb, 0, none⟩) (World.block_lt_of_cell? _ _ qt)).trans qt
        obtain ⟨x0, x1, x2⟩ := LocB.cells (HS.out.x.below hb3 HS.out.x.lt)
        have tl : tb < w3.heap.size := World.block_lt_of_cell? _ _ qt3
        have fl : fb < w3.heap.size := World.block_lt_of_cell? _ _ qf3
        have cl : cb < w3.heap.size := World.block_lt_of_cell? _ _ qc3
        have xl : xb < w3.heap.size := World.block_lt_of_cell? _ _ x0
        clear qc qf qt
        have hbt : c.at_ ≤ 2199023255552 := by rw [← HCC.out]; exact (hrow.off _ hl1).2.2
        have hat0 : -2199023255552 ≤ c.at_ := by rw [← HCC.out]; exact hrow.at_lo _ hl1
        unfold chgA
        gi_wp2
        have hb4 : Below wr.heap.size wr (w3.alloc (.cells #[.int .i64 c.at_, .int .i64 c.loc.off, .bool c.loc.dst, .string c.loc.abbr] 34)) := hb3.alloc hb3.size _
        have hN := Blk.new w3 34 #[.int .i64 c.at_, .int .i64 c.loc.off, .bool c.loc.dst, .string c.loc.abbr]
        obtain ⟨w4, hw4⟩ : ∃ w4, w3.alloc (.cells #[.int .i64 c.at_, .int .i64 c.loc.off, .bool c.loc.dst, .string c.loc.abbr] 34) = w4 := ⟨_, rfl⟩
        rw [hw4] at hN hb4 ⊢
        clear hw4 qc3 qf3 qt3 x0 x1 x2
        have hs3 := hb3.size
        have hs4 := hb4.size
        have hfw := HS.out.f.lt
        obtain ⟨fn, tmps, assign, body, hyd, hR⟩ := hY pre (k0 + pre.length) (fun _ => False) O w4 (fJ _ _ _ _ HS.out.j (Fr.of_below hb4 (Nat.le_refl _))) (HS.out.bd.fr (Fr.of_below (T := fun _ => True) hb4 (Nat.le_refl _))) (fun _ h => h.elim) (fun _ h => h.elim) ⟨⟨fun _ h => h, rfl, hk⟩, HVW.out.below (hb4.mono (Nat.le_trans hbw HS.out.fr.size))⟩
        unfold encS at hyd
        rw [HHI.out, ← HHS.out, ← HHY.out] at hyd
        unfold locA at hyd
        rw [hyd]
        gi_wp2
        refine ⟨fun _ => by omega, hR.mono ?_⟩
        rintro e W5 ⟨O5, hx5, hbd5, hf5, (⟨rfl, hJ5⟩ | ⟨rfl, hJx5⟩)⟩
        · obtain ⟨hf6, hx6⟩ := HS.out.keep hb4 (fun _ h => h) hf5 (hOn _ (.inr (.inl rfl)))
          have hn6 : ChgB W5 w3.heap.size c := Blk.fr hN hf5 (fun e => by rcases e with e | e; exact absurd (HS.out.bd _ e) (by omega); exact e)
          have HF6 := Lib.hid hf6
          have HX6 := Lib.hid hx6
          have HN6 := Lib.hid hn6
          have qf5 : W5.cell? ⟨fb, 0, none⟩ = some (.int .i64 s) := hf6.cell 0 rfl
          have gf5 := hf6.frozen 0
          obtain ⟨x0, x1, x2⟩ := LocB.cells hx6
          have g0 := Blk.frozen hx6 0
          have g1 := Blk.frozen hx6 1
          have g2 := Blk.frozen hx6 2
          obtain ⟨n0, n1, n2, n3⟩ := ChgB.cells hn6
          clear hf6 hx6 hn6 hyd hR hN
          have hxf : xb ≠ fb := by have := HS.out.xs; have := hf.lt; omega
          gi_wp2
          gi_region
          gi_wp2
          have hF7 : Blk ((((W5.setCell ⟨fb, 0, none⟩ (.int .i64 (min b c.at_))).setCell ⟨xb, 0, none⟩ (.int .i64 c.loc.off)).setCell ⟨xb, 1, none⟩ (.bool c.loc.dst)).setCell ⟨xb, 2, none⟩ (.string c.loc.abbr)).drew fb 3 #[.int .i64 (min b c.at_)] :=
            (((HF6.out.set 0 (.int .i64 (min b c.at_))).other hxf.symm 0 _).other hxf.symm 1 _).other hxf.symm 2 _
          have hX7 : LocB ((((W5.setCell ⟨fb, 0, none⟩ (.int .i64 (min b c.at_))).setCell ⟨xb, 0, none⟩ (.int .i64 c.loc.off)).setCell ⟨xb, 1, none⟩ (.bool c.loc.dst)).setCell ⟨xb, 2, none⟩ (.string c.loc.abbr)).drew xb c.loc :=
            LocB.set (Blk.other HX6.out hxf 0 _) c.loc
          have m1 : ((((W5.setCell ⟨fb, 0, none⟩ (.int .i64 (min b c.at_))).setCell ⟨xb, 0, none⟩ (.int .i64 c.loc.off)).setCell ⟨xb, 1, none⟩ (.bool c.loc.dst)).setCell ⟨xb, 2, none⟩ (.string c.loc.abbr)).drew.cell? ⟨fb, 0, none⟩ = some (.int .i64 (min b c.at_)) := hF7.cell 0 rfl
          have m2 : wr.cell? ⟨fb, 0, none⟩ = some (.int .i64 s) := HS.out.f.cell 0 rfl
          refine ⟨⟨pre ++ [k0 + pre.length], O5, min b c.at_, c.loc, HS.out.next hrow fJ hk0 hk1 hk HHS.out hlt hl1 HCC.out hlt1 hb4 (fun _ h => h) hx5 hbd5 hf5 (hOn _ (.inr (.inl rfl))) hf.lt hJ5 ?_ hF7 hX7⟩, ?_⟩
          · exact ((((Fr.setCell W5 0 _ (.inl rfl)).then (Fr.setCell _ 0 _ (.inr rfl))).then (Fr.setCell _ 1 _ (.inr rfl))).then (Fr.setCell _ 2 _ (.inr rfl))).then (Fr.drew _)
          · rw [m1, m2]
            simp only [Option.getD_some, intOf]
            omega
        · obtain ⟨e1, e2⟩ := HS.out.out_ hb4 (fun _ h => h) hx5 hf5
          gi_wp2
          refine bodyPost_end (results_none rfl _ _ _) rfl ?_
          exact ⟨⟨_, rfl⟩, O5, e1, hbd5, e2, .inr ⟨_, trivial, hJx5⟩⟩
      · have hkk : k0 + pre.length = k1 := by have := hk1.1; omega
        have HHI := Lib.hid (hi_out (l := l) (k := k0 + pre.length) (by omega) b)
        have qc3 := (hb3.cell (p := ⟨cb, 0, none⟩) (World.block_lt_of_cell? _ _ qc)).trans qc
        have qf3 := (hb3.cell (p := ⟨fb, 0, none⟩) (World.block_lt_of_cell? _ _ qf)).trans qf
        have qt3 := (hb3.cell (p := ⟨tb, 0, none⟩) (World.block_lt_of_cell? _ _ qt)).trans qt
        obtain ⟨x0, x1, x2⟩ := LocB.cells (HS.out.x.below hb3 HS.out.x.lt)
        have tl : tb < w3.heap.size := World.block_lt_of_cell? _ _ qt3
        have fl : fb < w3.heap.size := World.block_lt_of_cell? _ _ qf3
        have cl : cb < w3.heap.size := World.block_lt_of_cell? _ _ qc3
        have xl : xb < w3.heap.size := World.block_lt_of_cell? _ _ x0
        clear qc qf qt hnx HNX
        unfold chgA
        gi_wp2
        have hb4 : Below wr.heap.size wr (w3.alloc (.cells #[.int .i64 Chg.zero.at_, .int .i64 Chg.zero.loc.off, .bool Chg.zero.loc.dst, .string Chg.zero.loc.abbr] 34)) := hb3.alloc hb3.size _
        obtain ⟨w4, hw4⟩ : ∃ w4, w3.alloc (.cells #[.int .i64 Chg.zero.at_, .int .i64 Chg.zero.loc.off, .bool Chg.zero.loc.dst, .string Chg.zero.loc.abbr] 34) = w4 := ⟨_, rfl⟩
        rw [hw4] at hb4 ⊢
        clear hw4 qc3 qf3 qt3 x0 x1 x2
        obtain ⟨fn, tmps, assign, body, hyd, hR⟩ := hY pre (k0 + pre.length) (fun _ => False) O w4 (fJ _ _ _ _ HS.out.j (Fr.of_below hb4 (Nat.le_refl _))) (HS.out.bd.fr (Fr.of_below (T := fun _ => True) hb4 (Nat.le_refl _))) (fun _ h => h.elim) (fun _ h => h.elim) ⟨⟨fun _ h => h, rfl, hk⟩, HVW.out.below (hb4.mono (Nat.le_trans hbw HS.out.fr.size))⟩
        unfold encS at hyd
        rw [HHI.out, ← HHS.out, ← HHY.out] at hyd
        unfold locA at hyd
        rw [hyd]
        gi_wp2
        refine ⟨fun _ => by omega, hR.mono ?_⟩
        rintro e W5 ⟨O5, hx5, hbd5, hf5, (⟨rfl, hJ5⟩ | ⟨rfl, hJx5⟩)⟩
        · obtain ⟨e1, e2⟩ := HS.out.out_ hb4 (fun _ h => h) hx5 hf5
          gi_wp2
          refine bodyPost_end (results_none rfl _ _ _) rfl ?_
          exact ⟨⟨_, rfl⟩, O5, e1, hbd5, e2, .inl ⟨_, by simp; omega, hJ5⟩⟩
        · obtain ⟨e1, e2⟩ := HS.out.out_ hb4 (fun _ h => h) hx5 hf5
          gi_wp2
          refine bodyPost_end (results_none rfl _ _ _) rfl ?_
          exact ⟨⟨_, rfl⟩, O5, e1, hbd5, e2, .inr ⟨_, trivial, hJx5⟩⟩
    · have hend : pre.length = k1 + 1 - k0 := by
        rcases HS.out.now with ⟨h1, h2, -⟩ | ⟨h1, h2⟩
        · have hl1 := hk1.1
          have h3 := hrow.rise.le hl1 h1
          have h4 := hk1.2.1
          rw [lo_in (by omega)] at h2
          omega
        · omega
      gi_wp2
      refine bodyPost_end (results_none rfl _ _ _) rfl ?_
      exact ⟨⟨_, rfl⟩, O, HS.out.ext, HS.out.bd, HS.out.fr, .inl ⟨pre, hend, HS.out.j⟩⟩
/-- Spans' contract: all stretches; the row still stands at each. -/
theorem spans1_iter2 (n : Nat) (hn : 2 ≤ n) (cb fb tb B : Nat) (v : Value) (l : List Chg) (a b : Int) (hrow : Row l) (W : World) (k0 k1 : Nat) (hk0 : IsAt l a k0) (hk1 : IsAt l (b - 1) k1) (ha : -2199023255552 ≤ a) (hab : a < b) (hb : b ≤ 2199023255552)
    (hc : Blk W cb 52 #[clocksV v]) (hf : Blk W fb 3 #[.int .i64 a]) (ht : Blk W tb 3 #[.int .i64 b]) (hcf : cb ≠ fb) (htf : tb ≠ fb) (hv : Chgs W B v l) (hB : B ≤ fb) :
    Iter Fence.wide n Try.prog 21 #[.pointer (some ⟨cb, 0, none⟩), .pointer (some ⟨fb, 0, none⟩), .pointer (some ⟨tb, 0, none⟩)] (encS l a b) (fun pre k D W' => ((∀ j, ¬ D j) ∧ k = k0 + pre.length ∧ k ≤ k1) ∧ Chgs W' B v l) (fun xs => xs.length = k1 + 1 - k0) (fun _ => True) (fun k => k = cb ∨ k = fb ∨ k = tb ∨ k < B) (fun k => k = fb) W :=
  fun lp J Jx fJ _ hY O h0 hO hK => spans1_in n hn lp cb fb tb B v l a b hrow W k0 k1 hk0 hk1 ha hab hb hc hf ht hcf htf hv hB J Jx fJ hY O h0 hO hK
/-- Spans' contract: all stretches. -/
theorem spans1_iter (n : Nat) (hn : 2 ≤ n) (cb fb tb B : Nat) (v : Value) (l : List Chg) (a b : Int) (hrow : Row l) (W : World) (k0 k1 : Nat) (hk0 : IsAt l a k0) (hk1 : IsAt l (b - 1) k1) (ha : -2199023255552 ≤ a) (hab : a < b) (hb : b ≤ 2199023255552)
    (hc : Blk W cb 52 #[clocksV v]) (hf : Blk W fb 3 #[.int .i64 a]) (ht : Blk W tb 3 #[.int .i64 b]) (hcf : cb ≠ fb) (htf : tb ≠ fb) (hv : Chgs W B v l) (hB : B ≤ fb) :
    Iter Fence.wide n Try.prog 21 #[.pointer (some ⟨cb, 0, none⟩), .pointer (some ⟨fb, 0, none⟩), .pointer (some ⟨tb, 0, none⟩)] (encS l a b) (fun pre k D _ => (∀ j, ¬ D j) ∧ k = k0 + pre.length ∧ k ≤ k1) (fun xs => xs.length = k1 + 1 - k0) (fun _ => True) (fun k => k = cb ∨ k = fb ∨ k = tb ∨ k < B) (fun k => k = fb) W :=
  fun lp J Jx fJ fx hY O h0 hO hK => spans1_iter2 n hn cb fb tb B v l a b hrow W k0 k1 hk0 hk1 ha hab hb hc hf ht hcf htf hv hB lp J Jx fJ fx (fun pre x D O W hJ hO hD hDO hR => hY pre x D O W hJ hO hD hDO hR.1) O h0 hO hK
set_option maxHeartbeats 1000000 in
/-- Spans itself. -/
theorem spans_any (w : World) (c : Value) (a b : Int) (hc : (∃ v, c = clocksV v) ∨ c = .nilIface) : Calls Try.prog 15 #[c, .int .i64 a, .int .i64 b] w fun e w' => e = .returned (.func (.func 21) #[] #[.pointer (some ⟨w.heap.size, 0, none⟩), .pointer (some ⟨w.heap.size + 1, 0, none⟩), .pointer (some ⟨w.heap.size + 2, 0, none⟩)]) ∧ Below w.heap.size w w' ∧ w'.heap.size = w.heap.size + 3 ∧
    Blk w' w.heap.size 52 #[c] ∧ Blk w' (w.heap.size + 1) 3 #[.int .i64 a] ∧ Blk w' (w.heap.size + 2) 3 #[.int .i64 b] := by
  rcases hc with ⟨v, rfl⟩ | rfl
  · unfold clocksV
    have h1 := Blk.new w 52 #[(.iface 26 (rowA v))]
    have h2 := Blk.new (w.alloc (.cells #[(.iface 26 (rowA v))] 52)) 3 #[.int .i64 a]
    have h3 := Blk.new ((w.alloc (.cells #[(.iface 26 (rowA v))] 52)).alloc (.cells #[.int .i64 a] 3)) 3 #[.int .i64 b]
    simp only [World.size_alloc] at h2 h3
    have HB := Lib.hid (show Below w.heap.size w (((w.alloc (.cells #[(.iface 26 (rowA v))] 52)).alloc (.cells #[.int .i64 a] 3)).alloc (.cells #[.int .i64 b] 3)) from (((Below.refl _ _).alloc (Nat.le_refl _) _).alloc (by simp) _).alloc (by simp; omega) _)
    have HH := Lib.hid (show _ ∧ _ ∧ _ from ⟨(h1.alloc (.cells #[.int .i64 a] 3)).alloc (.cells #[.int .i64 b] 3), h2.alloc (.cells #[.int .i64 b] 3), h3⟩)
    clear h1 h2 h3
    go_enter Try.func15, Try.ntmps15
    go_wp2_with fail
    go_ret
    exact ⟨rfl, HB.out, by simp, HH.out⟩
  · have h1 := Blk.new w 52 #[.nilIface]
    have h2 := Blk.new (w.alloc (.cells #[.nilIface] 52)) 3 #[.int .i64 a]
    have h3 := Blk.new ((w.alloc (.cells #[.nilIface] 52)).alloc (.cells #[.int .i64 a] 3)) 3 #[.int .i64 b]
    simp only [World.size_alloc] at h2 h3
    have HB := Lib.hid (show Below w.heap.size w (((w.alloc (.cells #[.nilIface] 52)).alloc (.cells #[.int .i64 a] 3)).alloc (.cells #[.int .i64 b] 3)) from (((Below.refl _ _).alloc (Nat.le_refl _) _).alloc (by simp) _).alloc (by simp; omega) _)
    have HH := Lib.hid (show _ ∧ _ ∧ _ from ⟨(h1.alloc (.cells #[.int .i64 a] 3)).alloc (.cells #[.int .i64 b] 3), h2.alloc (.cells #[.int .i64 b] 3), h3⟩)
    clear h1 h2 h3
    go_enter Try.func15, Try.ntmps15
    go_wp2_with fail
    go_ret
    exact ⟨rfl, HB.out, by simp, HH.out⟩
end Go.Proofs.Ytlkpkmdomecopaa
