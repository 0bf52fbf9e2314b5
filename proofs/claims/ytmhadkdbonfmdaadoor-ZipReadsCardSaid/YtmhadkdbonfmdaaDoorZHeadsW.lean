/-
  Layer 16: heads, walked: the iterator over the members whose heads stand one behind the other.
-/
import Derived.RangeFuncNested
import Derived.RangeFuncBound
import Derived.RangeFuncCalls
import Derived.RangeFuncLeaves
import Derived.RangeFuncFrom
import Derived.Shelf.Abstract
import Derived.Shelf.RegionOpen
import Derived.OwnWalkIn
import Derived.TacticsInMore
import Derived.LoopNIn
import Derived.LoopIn
import Derived.Laws.BytesArg
import Derived.Test.YtmhadkdbonfmdaaDoorZRange
import Derived.Test.YtmhadkdbonfmdaaDoorZHeadsP
namespace Go.Proofs.YtmhadkdbonfmdaaDoor
open Go Go.RowKit Go.Shelf
attribute [local go_sem] Oper.semAt_some
set_option maxRecDepth 100000

set_option maxHeartbeats 400000 in
theorem heads_any (w : World) (v : Value) (A : Option Addr) (n c : Nat) (hv : v = .slice A n c) :
    Calls Tryd.prog 35 #[v] w fun e w' => e = .returned (.func (.func 55) #[] #[.pointer (some ⟨w.heap.size, 0, none⟩)]) ∧ w' = w.alloc (.cells #[v] 32) := by
  subst hv
  go_enter Tryd.func35, Tryd.ntmps35
  go_wp2_with fail
  go_ret
  exact ⟨rfl, rfl⟩

/-- What a round is handed: a member, its bytes' slice, and where its head is. -/
abbrev Fnd := Tri × (Option Addr × Nat) × Nat
/-- The slice of a member's bytes. -/
abbrev dvF (x : Fnd) : Value := .slice x.2.1.1 x.1.2.1.length x.2.1.2
def encF (x : Fnd) : Array Value := #[.agg #[str x.1.1, dvF x, .int .i64 (x.1.2.2 : Nat), .int .i64 (x.2.2 : Nat)]]
def trisF (pre : List Fnd) : List Tri := pre.map (·.1)
theorem trisF_snoc (pre : List Fnd) (x : Fnd) : trisF (pre ++ [x]) = trisF pre ++ [x.1] := by simp [trisF]
def Next (c : Nat) (l : List UInt8) (pre : List Fnd) (x : Fnd) (W0 W1 : World) : Prop := c < W1.heap.size ∧
  hdAt (l.drop (tot (trisF pre))) = some x.1 ∧ x.2.2 = tot (trisF pre) ∧ tot (trisF pre) ≤ l.length ∧ ∃ b, W0.heap.size ≤ b ∧ c < b ∧ W1.ownsRow b 5 1 (dvF x) x.1.2.1.length (bytesV x.1.2.1)
def Ended (l : List UInt8) (xs : List Fnd) : Prop := hdAt (l.drop (tot (trisF xs))) = none

set_option maxHeartbeats 400000 in
theorem new_at {w : World} {v : Value} {l : List UInt8} (h : Bytes w w.heap.size v l) :
    Calls Tryd.prog 56 #[v] w fun r w' => r = .returned (.pointer (some ⟨w.heap.size, 0, none⟩)) ∧ Cur w' w.heap.size l 0 0 ∧ Below w.heap.size w w' ∧ w'.cell? ⟨w.heap.size, 0, none⟩ = some v := by
  obtain ⟨A, c, rfl, -, -⟩ := h.form
  have HC := Lib.hid (new_cur h 117)
  clear h
  go_enter Tryd.func56, Tryd.ntmps56
  go_wp2_with fail
  go_ret
  exact ⟨rfl, HC.out, (Below.refl _ _).alloc (Nat.le_refl _) _, by rw [cell_new]; rfl⟩
theorem conv_string {w : World} {B n c : Nat} {A : Option Addr} {l : List UInt8} (h : Bytes w B (.slice A n c) l) : (convert 32 9 (.slice A n c)).run Tryd.prog w = .ok (str l) w := by
  obtain ⟨A', c', e, h1, h2, -, hA⟩ := h
  cases e
  rcases A with _ | a
  · have hl : l = [] := by
      rcases l with _ | ⟨x, l⟩
      · rfl
      · obtain ⟨_, _, e, _⟩ := hA (by simp)
        cases e
    subst hl
    exact run_convert_bytes_nil (P := Tryd.prog) (w := w) 32 5 Tryd.underlying32 Tryd.underlying5 _ _ 9 Tryd.underlying9
  · refine run_convert_bytes_back (P := Tryd.prog) w 32 9 5 a c l Tryd.underlying32 Tryd.underlying5 Tryd.underlying9 (fun j hj => ?_)
    obtain ⟨b, o, e, -, hc⟩ := hA (by omega)
    cases e
    rw [Addr.add_lit]
    exact hc j _ (bytesV_at l j hj)
/-- A cursor, when other memory is made. -/
theorem Cur.gr {w w' : World} {cb : Nat} {l : List UInt8} {k e : Nat} (h : Cur w cb l k e) (hb : Below w.heap.size w w') : Cur w' cb l k e := h.belowC hb (by obtain ⟨_, _, _, h, _⟩ := h; exact h)
theorem Cur.lt {w : World} {cb : Nat} {l : List UInt8} {k e : Nat} (h : Cur w cb l k e) : cb < w.heap.size ∧ k ≤ l.length := by obtain ⟨_, _, _, h1, h2⟩ := h; exact ⟨h1, h2⟩

/-- Where the iterator stands: its cursor, what it has found of a member, and memory since the round began. -/
structure Stand (c : Nat) (v : Value) (l : List UInt8) (wr w : World) (p : Nat × Nat) (u0 u1 u2 u3 : Value) : Prop where
  cur : Cur w c l p.1 p.2
  c0 : w.cell? ⟨c, 0, none⟩ = some v
  gr : Gr c wr w
  lt : c < wr.heap.size
  blk : w.heap[wr.heap.size]? = some (.cells #[u0, u1, u2, u3] 68 (0, 0))
section
variable {c : Nat} {v : Value} {l : List UInt8} {wr w w' : World} {p p' : Nat × Nat} {u0 u1 u2 u3 : Value}
theorem Stand.size (h : Stand c v l wr w p u0 u1 u2 u3) : wr.heap.size < w.heap.size := (Array.getElem?_eq_some_iff.1 h.blk).1
theorem Stand.step (h : Stand c v l wr w p u0 u1 u2 u3) (hc : Cur w' c l p'.1 p'.2) (hg : Gr c w w' ∧ w'.cell? ⟨c, 0, none⟩ = w.cell? ⟨c, 0, none⟩) : Stand c v l wr w' p' u0 u1 u2 u3 :=
  ⟨hc, hg.2.trans h.c0, h.gr.trans hg.1, h.lt, (hg.1.block _ h.size (by have := h.lt; omega)).trans h.blk⟩
theorem Stand.made (h : Stand c v l wr w p u0 u1 u2 u3) (hb : Below w.heap.size w w') : Stand c v l wr w' p u0 u1 u2 u3 :=
  ⟨h.cur.gr hb, (hb.cell (p := ⟨c, 0, none⟩) h.cur.lt.1).trans h.c0, h.gr.trans (Gr.of_below hb (Nat.le_refl _)), h.lt, (hb.block _ h.size).trans h.blk⟩
theorem Stand.cells (h : Stand c v l wr w p u0 u1 u2 u3) : w.cell? ⟨wr.heap.size, 0, none⟩ = some u0 ∧ w.cell? ⟨wr.heap.size, 1, none⟩ = some u1 ∧ w.cell? ⟨wr.heap.size, 2, none⟩ = some u2 ∧ w.cell? ⟨wr.heap.size, 3, none⟩ = some u3 := by
  have hb := h.blk
  refine ⟨?_, ?_, ?_, ?_⟩ <;> simp [World.cell?, hb]
theorem Stand.free (h : Stand c v l wr w p u0 u1 u2 u3) (i : Nat) : w.frozen? ⟨wr.heap.size, i, none⟩ = false := by
  have hb := h.blk
  simp [World.frozen?, hb]
theorem Stand.set (h : Stand c v l wr w p u0 u1 u2 u3) (i : Nat) (u : Value) (hi : i < 4) :
    Stand c v l wr (w.setCell ⟨wr.heap.size, i, none⟩ u) p (if i = 0 then u else u0) (if i = 1 then u else u1) (if i = 2 then u else u2) (if i = 3 then u else u3) := by
  have hne := h.lt
  refine ⟨h.cur.belowC (B := c + 1) ((Below.refl _ _).setCell (p := ⟨wr.heap.size, i, none⟩) (show c + 1 ≤ wr.heap.size by omega) u) (by omega), ?_, ?_, h.lt, ?_⟩
  · exact (World.cell?_setCell_other _ _ _ _ (fun e => by have := congrArg Addr.block e; dsimp only at this; omega)).trans h.c0
  · have hb := (Below.refl wr.heap.size w).setCell (p := ⟨wr.heap.size, i, none⟩) (Nat.le_refl _) u
    exact ⟨hb.os.trans h.gr.os, hb.tape.trans h.gr.tape, hb.output.trans h.gr.output, Nat.le_trans h.gr.size hb.size, fun k hk hc => (hb.block k hk).trans (h.gr.block k hk hc)⟩
  · have := heap_setCell_same w wr.heap.size i #[u0, u1, u2, u3] 68 u h.blk
    rw [this]
    rcases i with _ | _ | _ | _ | i
    · rfl
    · rfl
    · rfl
    · rfl
    · omega
end
theorem kept_cell {X : Nat → Prop} {w w' : World} (h : Kept X w w') {p : Addr} {u : Value} (hX : X p.block) (hc : w.cell? p = some u) : w'.cell? p = some u ∧ w'.frozen? p = w.frozen? p := by
  obtain ⟨o, ho, hoc⟩ := cells_of_cell hc
  have hh := (h.cells _ o hX ho hoc).trans ho.symm
  exact ⟨(World.cell?_of_block hh).trans hc, World.frozen?_of_block hh⟩
/-- The cursor behind a round. -/
theorem kept_cur {X : Nat → Prop} {W w w' : World} {cb n₀ : Nat} {v : Value} {l : List UInt8} {k e : Nat} (h : Cur w cb l k e) (h0 : w.cell? ⟨cb, 0, none⟩ = some v) (hk : Kept X w w') (hX : X cb) (hb : Bytes W n₀ v l) (hn : n₀ ≤ cb) (hkw : Kept (fun k => k < n₀) W w') :
    Cur w' cb l k e ∧ w'.cell? ⟨cb, 0, none⟩ = some v := by
  obtain ⟨v', hc, -, hlt, hkl⟩ := h
  obtain rfl : v' = v := by
    have := hc.c0.symm.trans h0
    exact Option.some.inj this
  have k0 := kept_cell hk (p := ⟨cb, 0, none⟩) hX hc.c0
  have k1 := kept_cell hk (p := ⟨cb, 1, none⟩) hX hc.c1
  have k2 := kept_cell hk (p := ⟨cb, 2, none⟩) hX hc.c2
  refine ⟨⟨v', ⟨k0.1, k1.1, k2.1, k0.2.trans hc.f0, k1.2.trans hc.f1, k2.2.trans hc.f2⟩, ?_, Nat.lt_of_lt_of_le hlt hk.size, hkl⟩, k0.1⟩
  obtain ⟨A, c, rfl, h1, h2, hl, hA⟩ := hb
  refine ⟨A, c, rfl, h1, h2, hl, fun hp => ?_⟩
  obtain ⟨b, o, rfl, hB, hcc⟩ := hA hp
  exact ⟨b, o, rfl, by omega, fun j u hu => (kept_cell hkw (p := ⟨b, o + j, none⟩) hB (hcc j u hu)).1⟩
theorem cur_int {w : World} {cb : Nat} {l : List UInt8} {k e : Nat} (h : Cur w cb l k e) : (intOf ((w.cell? ⟨cb, 1, none⟩).getD undef)).toNat = k := by
  obtain ⟨_, hc, _⟩ := h
  rw [hc.c1]
  simp [intOf]
theorem own_setF {w : World} {f : Nat} {e : TypeId} {sz n : Nat} {v : Value} {xs : List Value} (h : w.ownsRow (f + 1) e sz v n xs) (i : Nat) (u : Value) : (w.setCell ⟨f, i, none⟩ u).ownsRow (f + 1) e sz v n xs := by
  refine h.kept (row := some f) ⟨rfl, rfl, rfl, by simp, fun j _ hr => Below.heap_setCell w ⟨f, i, none⟩ u j (fun e => hr (by rw [e]))⟩ ?_
  rcases hv : v.ownBlock with _ | g
  · exact .inl rfl
  · exact .inr fun e => by cases e; have := (h.lt _ hv).1; omega
theorem noughts_ok : FldOk [(0, 2), (0, 2), (0, 2), (0, 2), (0, 2)] :=
  fldOk_cons (fld2 (by decide)) (fldOk_cons (fld2 (by decide)) (fldOk_cons (fld2 (by decide)) (fldOk_cons (fld2 (by decide)) (fldOk_cons (fld2 (by decide)) fldOk_nil))))
set_option maxHeartbeats 4000000 in
theorem heads1_in (n : Nat) (hn : 1 ≤ n) (lp Bn n₀ : Nat) (v : Value) (l : List UInt8) (hl : l.length ≤ 1000000) (X : Nat → Prop)
    (J Jx : List Fnd → World → Prop) (W : World) (c : Nat) (hc : c = W.heap.size) (hX : X c)
    (hY : ∀ pre x W0 W1, J pre W0 → Gr c W0 W1 → Next c l pre x W0 W1 → YieldAt Fence.wide (n - 1) Tryd.prog lp (encF x) W1 fun e W' =>
      (e = .returned (.bool true) ∧ J (pre ++ [x]) W' ∧ Kept X W1 W') ∨ (e = .returned (.bool false) ∧ Jx (pre ++ [x]) W'))
    (hXn : ∀ k, k < n₀ → X k) (hn0 : n₀ ≤ W.heap.size)
    (hBn : W.cell? ⟨Bn, 0, none⟩ = some v) (hb : Bytes W n₀ v l) (h0 : J [] W) :
    CallsIn Fence.wide n Tryd.prog 55 #[.func (.yield lp) #[] #[], .pointer (some ⟨Bn, 0, none⟩)] W fun e W' => (∃ v, e = .returned v) ∧
      ((∃ xs W0, Ended l xs ∧ J xs W0 ∧ Gr c W0 W') ∨ (∃ pre W0, True ∧ Jx pre W0 ∧ Gr c W0 W')) := by
  subst hc
  have HB := Lib.hid hb
  have HNEW := Lib.hid (callsIn_wide (n := n - 1).2 (new_at (hb.more hn0)))
  obtain ⟨A, cc, rfl, hlc, hcm⟩ := hb.form
  unfold maxLen at hcm
  clear hb
  refine callsIn_of_wp Tryd.func55 rfl trivial ?_ rfl
  simp only [Tryd.ntmps55, List.size_toArray, List.length_cons, List.length_nil, Nat.reduceAdd, Nat.reduceSub, Array.replicate_succ, Array.replicate_zero, List.push_toArray, List.append_toArray, List.nil_append, List.cons_append]
  gi_wp2
  refine ⟨trivial, HNEW.out.mono ?_⟩
  rintro e w1 ⟨rfl, hcur, hb1, hv0⟩
  have hG1 : Gr W.heap.size W w1 := Gr.of_below hb1 (Nat.le_refl _)
  clear HNEW hb1
  gi_wp2
  gi_loopw [4] (fun _ wr => ∃ (pre : List Fnd) (W0 : World), tot (trisF pre) ≤ l.length ∧ Cur wr W.heap.size l (tot (trisF pre)) 0 ∧ wr.cell? ⟨W.heap.size, 0, none⟩ = some (.slice A l.length cc) ∧ Kept (fun k => k < n₀) W wr ∧ J pre W0 ∧ Gr W.heap.size W0 wr) (fun _ wr => l.length - (intOf ((wr.cell? ⟨W.heap.size, 1, none⟩).getD undef)).toNat)
  case atStart => exact ⟨[], W, Nat.zero_le _, hcur, hv0, ⟨hG1.os, hG1.tape, hG1.output, hG1.size, fun k o hk ho _ => (hG1.block k (by omega) (by omega)).trans ho⟩, h0, hG1⟩
  case round =>
    obtain ⟨pre, W0, hk, hcur, hv0, hkn, hJ, hG⟩ := hrel
    have HV0 := Lib.hid hv0
    have HKN := Lib.hid hkn
    clear hv0 hkn
    generalize hkk : tot (trisF pre) = k at *
    have HJ := Lib.hid hJ
    have HC := Lib.hid hcur
    clear hJ hcur
    gi_wp2
    refine ⟨trivial, (callsIn_wide.2 (cur_at HC.out)).mono ?_⟩
    rintro e ww ⟨rfl, rfl⟩
    gi_wp2
    generalize hw1 : wr.alloc (.cells #[.string ⟨#[]⟩, .slice none 0 0, .int .i64 0, .int .i64 (k : Nat)] 68) = w1
    have HS1 : Hid (Stand W.heap.size (.slice A l.length cc) l wr w1 (k, 0) (str []) (.slice none 0 0) (.int .i64 0) (.int .i64 (k : Nat))) := by
      rw [← hw1]
      exact ⟨HC.out.gr (bump _ _), ((bump wr _).cell (p := ⟨W.heap.size, 0, none⟩) HC.out.lt.1).trans HV0.out, Gr.of_below (bump _ _) (Nat.le_refl _), HC.out.lt.1, heap_alloc_new wr _⟩
    clear hw1
    refine ⟨trivial, (callsIn_wide.2 (curF HS1.out.cur hl 4 (by decide) (by decide))).mono ?_⟩
    rintro e w2 ⟨rfl, hc2, hg2⟩
    by_cases hm : k + 4 ≤ l.length ∧ fv l k 4 = 67324752
    · obtain ⟨hk4, hm⟩ := hm
      rw [gF_ok hk4] at hc2
      rw [nF_ok hk4, hm]
      have HS2 := Lib.hid (HS1.out.step (p' := (k + 4, 0)) hc2 hg2)
      clear hc2 hg2
      gi_wp2
      have HFL : Hid ((fld [(0, 2), (0, 2), (0, 2), (0, 2), (0, 2)]).length = 10) := by show _ = _; simp [length_fld]
      refine ⟨trivial, (callsIn_wide.2 (fields_any _ _ [(0, 2), (0, 2), (0, 2), (0, 2), (0, 2)] (new_fld w2 _ _ _ _ 5 _ rfl rfl rfl (by decide)) (show 5 ≤ 100 by decide) noughts_ok)).mono ?_⟩
      rintro e w4 ⟨v4, rfl, hv4, hb4⟩
      obtain ⟨A4, c4, rfl, -, -⟩ := hv4.form
      rw [HFL.out]
      have HS4 := Lib.hid (HS2.out.made ((bump w2 _).trans (hb4.mono (bump w2 _).size)))
      clear hv4 hb4 HS1 HS2
      gi_wp2
      refine ⟨trivial, (callsIn_wide.2 (curB HS4.out.cur hl 10 (by decide))).mono ?_⟩
      rintro e w5 ⟨⟨A5, N5, rfl, -⟩, hc5, hg5⟩
      obtain ⟨p1, e1⟩ : ∃ p1, p1 = gF 10 l (k + 4, 0) := ⟨_, rfl⟩
      have HS5 := Lib.hid (HS4.out.step (p' := p1) (by rw [e1]; exact hc5) hg5)
      clear hc5 hg5 HS4
      gi_wp2
      refine ⟨trivial, (callsIn_wide.2 (curF HS5.out.cur hl 4 (by decide) (by decide))).mono ?_⟩
      rintro e w6 ⟨rfl, hc6, hg6⟩
      obtain ⟨p2, e2⟩ : ∃ p2, p2 = gF 4 l p1 := ⟨_, rfl⟩
      have HS6 := Lib.hid (HS5.out.step (p' := p2) (by rw [e2]; exact hc6) hg6)
      clear hc6 hg6 HS5
      obtain ⟨sm, hsm⟩ : ∃ sm, nF 4 l (p1.1, p1.2) = sm := ⟨_, rfl⟩
      rw [hsm]
      have hf2 := HS6.out.free 2
      have hcs := HS6.out.cells
      gi_wp2
      have HS7 : Hid (Stand W.heap.size (.slice A l.length cc) l wr (w6.setCell ⟨wr.heap.size, 2, none⟩ (.int .i64 (sm : Nat))) p2 (str []) (.slice none 0 0) (.int .i64 (sm : Nat)) (.int .i64 (k : Nat))) := HS6.out.set 2 (.int .i64 (sm : Nat)) (by decide)
      clear HS6 hcs hf2
      generalize w6.setCell ⟨wr.heap.size, 2, none⟩ (.int .i64 (sm : Nat)) = w7 at *
      refine ⟨trivial, (callsIn_wide.2 (curF HS7.out.cur hl 4 (by decide) (by decide))).mono ?_⟩
      rintro e w8 ⟨rfl, hc8, hg8⟩
      obtain ⟨p3, e3⟩ : ∃ p3, p3 = gF 4 l p2 := ⟨_, rfl⟩
      have HS8 := Lib.hid (HS7.out.step (p' := p3) (by rw [e3]; exact hc8) hg8)
      clear hc8 hg8 HS7
      obtain ⟨nn, hnn⟩ : ∃ nn, nF 4 l (p2.1, p2.2) = nn := ⟨_, rfl⟩
      rw [hnn]
      have hnl : nn < 4294967296 := by rw [← hnn]; exact nF_lt 4 l _ (by decide)
      gi_wp2
      refine ⟨trivial, (callsIn_wide.2 (curF HS8.out.cur hl 4 (by decide) (by decide))).mono ?_⟩
      rintro e w9 ⟨rfl, hc9, hg9⟩
      obtain ⟨p4, e4⟩ : ∃ p4, p4 = gF 4 l p3 := ⟨_, rfl⟩
      have HS9 := Lib.hid (HS8.out.step (p' := p4) (by rw [e4]; exact hc9) hg9)
      clear hc9 hg9 HS8
      gi_wp2
      refine ⟨trivial, (callsIn_wide.2 (curF HS9.out.cur hl 2 (by decide) (by decide))).mono ?_⟩
      rintro e w10 ⟨rfl, hc10, hg10⟩
      obtain ⟨p5, e5⟩ : ∃ p5, p5 = gF 2 l p4 := ⟨_, rfl⟩
      have HS10 := Lib.hid (HS9.out.step (p' := p5) (by rw [e5]; exact hc10) hg10)
      clear hc10 hg10 HS9
      obtain ⟨mm, hmm⟩ : ∃ mm, nF 2 l (p4.1, p4.2) = mm := ⟨_, rfl⟩
      rw [hmm]
      have hml : mm < 4294967296 := by rw [← hmm]; exact nF_lt 2 l _ (by decide)
      gi_wp2
      refine ⟨trivial, (callsIn_wide.2 (curF HS10.out.cur hl 2 (by decide) (by decide))).mono ?_⟩
      rintro e w11 ⟨rfl, hc11, hg11⟩
      obtain ⟨p6, e6⟩ : ∃ p6, p6 = gF 2 l p5 := ⟨_, rfl⟩
      have HS11 := Lib.hid (HS10.out.step (p' := p6) (by rw [e6]; exact hc11) hg11)
      clear hc11 hg11 HS10
      gi_wp2
      refine ⟨trivial, (callsIn_wide.2 (curB HS11.out.cur hl mm hml)).mono ?_⟩
      rintro e w12 ⟨⟨A12, N12, rfl, hv12⟩, hc12, hg12⟩
      obtain ⟨p7, e7⟩ : ∃ p7, p7 = gF mm l p6 := ⟨_, rfl⟩
      have HS12 := Lib.hid (HS11.out.step (p' := p7) (by rw [e7]; exact hc12) hg12)
      have hcv := conv_string hv12
      clear hc12 hg12 HS11 hv12
      obtain ⟨nm, hnm⟩ : ∃ nm, bF mm l (p6.1, p6.2) = nm := ⟨_, rfl⟩
      rw [hnm] at hcv
      have hf0 := HS12.out.free 0
      have hcs := HS12.out.cells
      gi_wp2
      have HS13 : Hid (Stand W.heap.size (.slice A l.length cc) l wr (w12.setCell ⟨wr.heap.size, 0, none⟩ (str nm)) p7 (str nm) (.slice none 0 0) (.int .i64 (sm : Nat)) (.int .i64 (k : Nat))) := HS12.out.set 0 (str nm) (by decide)
      clear HS12 hcs hf0 hcv
      generalize w12.setCell ⟨wr.heap.size, 0, none⟩ (str nm) = w13 at *
      refine ⟨trivial, (callsIn_wide.2 (curB HS13.out.cur hl nn hnl)).mono ?_⟩
      rintro e w14 ⟨⟨A14, N14, rfl, hv14⟩, hc14, hg14⟩
      obtain ⟨p8, e8⟩ : ∃ p8, p8 = gF nn l p7 := ⟨_, rfl⟩
      have HS14 := Lib.hid (HS13.out.step (p' := p8) (by rw [e8]; exact hc14) hg14)
      obtain ⟨dt, hdt⟩ : ∃ dt, bF nn l (p7.1, p7.2) = dt := ⟨_, rfl⟩
      rw [hdt] at hv14
      have hdl : dt.length ≤ 1000000 := by rw [← hdt]; exact Nat.le_trans (bF_le _ _ _) hl
      have HCL := Lib.hid (callsIn_wide (n := n - 1).2 (clone_any w14 _ dt (hv14.more (Nat.le_of_lt HS14.out.cur.lt.1)) hdl))
      clear hc14 hg14 HS13 hv14
      gi_wp2
      refine ⟨trivial, HCL.out.mono ?_⟩
      rintro e w15 ⟨dv, rfl, hdv, hb15⟩
      have HS15 := Lib.hid (HS14.out.made hb15)
      have hdv0 := own_base hdv (show wr.heap.size + 1 ≤ w14.heap.size from HS14.out.size)
      obtain ⟨A15, c15, rfl⟩ := (Sl.of_own hdv).form
      clear HCL HS14 hb15 hdv
      have hf1 := HS15.out.free 1
      have hcs := HS15.out.cells
      gi_wp2
      have HS16 : Hid (Stand W.heap.size (.slice A l.length cc) l wr (w15.setCell ⟨wr.heap.size, 1, none⟩ (.slice A15 dt.length c15)) p8 (str nm) (.slice A15 dt.length c15) (.int .i64 (sm : Nat)) (.int .i64 (k : Nat))) := HS15.out.set 1 (.slice A15 dt.length c15) (by decide)
      have HD := Lib.hid (own_setF hdv0 1 (.slice A15 dt.length c15))
      clear HS15 hcs hf1 hdv0
      generalize w15.setCell ⟨wr.heap.size, 1, none⟩ (.slice A15 dt.length c15) = w16 at *
      refine ⟨trivial, (callsIn_wide.2 (cur_err HS16.out.cur)).mono ?_⟩
      rintro e ww ⟨rfl, rfl⟩
      have hch := chain (by omega) hm e1 e2 e3 e4 e5 e6 (e7.trans (by rw [← hmm])) (e8.trans (by rw [← hnn]))
      have q1 : bF (nF 2 l p4) l p6 = nm := by rw [← hnm, ← hmm]
      have q2 : bF (nF 4 l p2) l p7 = dt := by rw [← hdt, ← hnn]
      have q3 : nF 4 l p1 = sm := hsm
      rw [q1, q2, q3] at hch
      have HCH := Lib.hid hch
      have hG16 : Gr W.heap.size W0 w16 := hG.trans HS16.out.gr
      clear hch q1 q2 q3 e1 e2 e3 e4 e5 e6 e7 e8 hmm hnn hnm hdt hsm
      by_cases he : p8.2 = 0
      · obtain ⟨hat, hp8⟩ := HCH.out.1 he
        obtain ⟨hft, hszt⟩ := hdAt_fits hat
        rw [List.length_drop] at hszt
        have hcu := HS16.out.cur
        rw [he, hp8] at hcu
        have HCU := Lib.hid hcu
        obtain ⟨fn, tmps, assign, body, hy, hR⟩ := hY pre ((nm, dt, sm), (A15, c15), k) W0 w16 HJ.out hG16 ⟨HS16.out.cur.lt.1, by rw [hkk]; exact hat, hkk.symm, by rw [hkk]; exact hk, wr.heap.size + 1, by have := hG.size; omega, by have := HS16.out.lt; omega, HD.out⟩
        unfold encF at hy
        dsimp only at hy
        have hcs := HS16.out.cells
        have HCC := Lib.hid HS16.out.c0
        have HGR := Lib.hid HS16.out.gr
        have HT := Lib.hid (show tot (trisF (pre ++ [((nm, dt, sm), (A15, c15), k)])) = k + sizeT (nm, dt, sm) by rw [trisF_snoc, tot_snoc, hkk])
        clear hY hcu hft hat hp8 HCH HS16
        rw [he]
        gi_wp2
        refine hR.mono ?_
        rintro e W3 (⟨rfl, hJ3, hk3⟩ | ⟨rfl, hJx3⟩)
        · have hkw : Kept (fun k => k < n₀) W W3 := (HKN.out.trans ⟨HGR.out.os, HGR.out.tape, HGR.out.output, HGR.out.size, fun j o hj ho _ => (HGR.out.block j (Array.getElem?_eq_some_iff.1 ho).1 (by omega)).trans ho⟩).trans ⟨hk3.os, hk3.tape, hk3.output, hk3.size, fun j o hj ho hc => hk3.cells j o (hXn j hj) ho hc⟩
          have hc3 := kept_cur HCU.out HCC.out hk3 hX HB.out hn0 hkw
          gi_wp2
          go_roundw
          case rel => exact ⟨pre ++ [((nm, dt, sm), (A15, c15), k)], W3, by rw [HT.out]; omega, by rw [HT.out]; exact hc3.1, hc3.2, hkw, hJ3, Gr.refl _ _⟩
          case measure =>
            have m1 := cur_int hc3.1
            have m2 := cur_int HC.out
            have m3 : 30 ≤ sizeT (nm, dt, sm) := by simp only [sizeT]; omega
            rw [m1, m2]
            omega
        · gi_wp2
          refine bodyPost_ret (results_none rfl _ _ _) rfl ?_
          exact ⟨⟨_, rfl⟩, .inr ⟨_, W3, trivial, hJx3, Gr.refl _ _⟩⟩
      · have HE : Hid (Ended l pre) := by
          show hdAt _ = none
          rw [hkk]
          exact HCH.out.2 he
        have hne : ((p8.2 : Int) != 0) = true := by rw [bne_iff_ne]; omega
        generalize p8.2 = ee at *
        gi_wp2
        refine ⟨fun _ h => (by cases h), ?_⟩
        gi_wp2
        refine bodyPost_ret (results_none rfl _ _ _) rfl ?_
        exact ⟨⟨_, rfl⟩, .inl ⟨pre, W0, HE.out, HJ.out, hG16⟩⟩
    · have HE : Hid (Ended l pre) := by
        show hdAt _ = none
        rw [hkk]
        unfold hdAt
        rw [if_neg]
        rintro ⟨h1, h2, -⟩
        rw [fv_drop, Nat.add_zero] at h2
        rw [List.length_drop] at h1
        exact hm ⟨by omega, h2⟩
      have hne : (((nF 4 l (k, 0) : Nat) : Int) != 67324752) = true := by
        rw [bne_iff_ne]
        intro e
        have e : nF 4 l (k, 0) = 67324752 := by omega
        unfold nF at e
        split at e
        · rename_i h; exact hm ⟨h.2, e⟩
        · cases e
      have hG3 : Gr W.heap.size W0 w2 := hG.trans (HS1.out.gr.trans hg2.1)
      clear hm
      gi_wp2
      refine bodyPost_ret (results_none rfl _ _ _) rfl ?_
      exact ⟨⟨_, rfl⟩, .inl ⟨pre, W0, HE.out, HJ.out, hG3⟩⟩
/-- The iterator's contract. -/
theorem heads1_gives (n : Nat) (hn : 1 ≤ n) (Bn n₀ : Nat) (v : Value) (l : List UInt8) (hl : l.length ≤ 1000000) (X : Nat → Prop) (W : World) (c : Nat) (hc : c = W.heap.size) (hX : X c) (hXn : ∀ k, k < n₀ → X k) (hn0 : n₀ ≤ W.heap.size)
    (hBn : W.cell? ⟨Bn, 0, none⟩ = some v) (hb : Bytes W n₀ v l) : GivesR Fence.wide n Tryd.prog 55 #[.pointer (some ⟨Bn, 0, none⟩)] encF c X (Next c l) (Ended l) (fun _ => True) W := fun lp J Jx hY h0 =>
  heads1_in n hn lp Bn n₀ v l hl X J Jx W c hc hX hY hXn hn0 hBn hb h0
end Go.Proofs.YtmhadkdbonfmdaaDoor
