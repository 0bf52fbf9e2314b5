/-
  Layer 20: the law LocalSpans, walked.
-/
import Derived.Test.YtlkpkmdomecopaaSerialC
import Derived.Test.YtlkpkmdomecopaaLAwake
import Derived.Test.YtlkpkmdomecopaaLErrs
import Derived.Test.YtlkpkmdomecopaaInvIn
import Derived.Test.YtlkpkmdomecopaaEnv
import Derived.Shelf.Abstract
import Derived.Shelf.RegionOpen
import Derived.OwnWalkIn
import Derived.TacticsInMore
import Derived.LoopNIn
import Derived.LoopIn
import Derived.BigRegionIn
import Derived.Deep.RegionHeld3
import Derived.IntWalk
namespace Go.Proofs.Ytlkpkmdomecopaa
open Go Go.RowKit Go.Shelf
attribute [local go_sem] Oper.semAt_some
set_option maxRecDepth 100000

theorem span_facts {l : List Chg} (h : Row l) {a b : Int} {k0 k1 k : Nat} (hk0 : IsAt l a k0) (hk1 : IsAt l (b - 1) k1) (h0 : k0 ≤ k) (h1 : k ≤ k1) (hab : a < b) :
    lo l a k < hi l b k ∧ hi l b k ≤ b ∧ a ≤ lo l a k ∧ IsAt l (lo l a k) k ∧ IsAt l (hi l b k - 1) k := by
  have hk1l := hk1.1
  have hkl : k < l.length := by omega
  have g1 := h.rise.le hk1l h1
  have g2 := hk1.2.1
  have hlo := isAt_lo h hk0 h0 hkl
  have e1 := lo_in hkl a
  by_cases hn : k + 1 < l.length
  · have e2 := hi_in hn b
    have g3 := hk0.2.2 (k + 1) hn (by omega)
    have g4 := h.rise k hn
    exact ⟨by omega, by omega, by omega, hlo, isAt_next h.rise hkl (by omega) fun _ => by omega⟩
  · have e2 : hi l b k = b := by unfold hi; rw [List.getElem?_eq_none (by omega)]
    exact ⟨by omega, by omega, by omega, hlo, isAt_next h.rise hkl (by omega) fun h => absurd h hn⟩
/-- Where the next stretch begins. -/
def nx (l : List Chg) (a b : Int) (k0 k1 n : Nat) : Int := if k0 + n ≤ k1 then lo l a (k0 + n) else b
theorem nx_zero {l : List Chg} {a b : Int} {k0 k1 : Nat} (hk0 : IsAt l a k0) (h : k0 ≤ k1) : nx l a b k0 k1 0 = a := by
  unfold nx
  rw [if_pos (by omega), Nat.add_zero, lo_in hk0.1]
  have := hk0.2.1
  omega
theorem nx_succ {l : List Chg} (h : Row l) {a b : Int} {k0 k1 n : Nat} (hk0 : IsAt l a k0) (hk1 : IsAt l (b - 1) k1) (hn : k0 + n ≤ k1) : nx l a b k0 k1 (n + 1) = hi l b (k0 + n) := by
  unfold nx
  have hk1l := hk1.1
  by_cases h1 : k0 + (n + 1) ≤ k1
  · have hl : k0 + n + 1 < l.length := by omega
    rw [if_pos h1, hi_in hl, show k0 + (n + 1) = k0 + n + 1 by omega, lo_in hl]
    have g1 := h.rise.le hk1l (show k0 + n + 1 ≤ k1 by omega)
    have g2 := hk1.2.1
    have g3 := hk0.2.2 (k0 + n + 1) hl (by omega)
    omega
  · rw [if_neg h1]
    obtain rfl : k1 = k0 + n := by omega
    by_cases hl : k0 + n + 1 < l.length
    · rw [hi_in hl]
      have := hk1.2.2 (k0 + n + 1) hl (by omega)
      omega
    · unfold hi
      rw [List.getElem?_eq_none (by omega)]
theorem nx_end {l : List Chg} {a b : Int} {k0 k1 n : Nat} (h : n = k1 + 1 - k0) (h01 : k0 ≤ k1) : nx l a b k0 k1 n = b := by
  unfold nx
  rw [if_neg (by omega)]
theorem span_later {l : List Chg} (h : Row l) {a b : Int} {k0 k1 k i : Nat} (hk0 : IsAt l a k0) (hk1 : IsAt l (b - 1) k1) (h0 : k0 ≤ k) (h1 : k ≤ k1) (hab : a < b) (hi_ : i < l.length) (hlt : lo l a k < (l[i]).at_) : hi l b k ≤ (l[i]).at_ := by
  obtain ⟨-, -, -, hat, -⟩ := span_facts h hk0 hk1 h0 h1 hab
  have hik : k < i := h.rise.not_before hat.1 hi_ (by have := hat.2.1; omega)
  have hn : k + 1 < l.length := by omega
  rw [hi_in hn]
  have := h.rise.le hi_ (show k + 1 ≤ i by omega)
  omega
theorem span_same {l : List Chg} (h : Row l) {a b : Int} {k0 k1 k i : Nat} (hk0 : IsAt l a k0) (hk1 : IsAt l (b - 1) k1) (h0 : k0 ≤ k) (h1 : k ≤ k1) (hab : a < b) (hi_ : i < l.length) (he : (l[i]).at_ = lo l a k) (hne : lo l a k ≠ a) : (l[i]).loc = locAt l k := by
  obtain ⟨-, -, -, hat, -⟩ := span_facts h hk0 hk1 h0 h1 hab
  have hkl := hat.1
  have e1 := lo_in hkl a
  have hik : i = k := by
    rcases Nat.lt_trichotomy i k with g | g | g
    · have := h.rise.lt hkl g; omega
    · exact g
    · have := h.rise.lt hi_ g; omega
  subst hik
  exact (locAt_in hkl).symm
/-- The law's own blocks. -/
structure SpB (w : World) (u : Value) (a b : Int) (W : World) : Prop where
  l : Blk W w.heap.size 22 #[u]
  t : Blk W (w.heap.size + 1) 42 #[.int .i64 a, .int .i64 b]
  r : Blk W (w.heap.size + 2) 4 #[.bool false]
  bel : Below w.heap.size w W
theorem SpB.below {w : World} {u : Value} {a b : Int} {W W' : World} (h : SpB w u a b W) (hb : Below W.heap.size W W') : SpB w u a b W' :=
  ⟨h.l.below hb h.l.lt, h.t.below hb h.t.lt, h.r.below hb h.r.lt, h.bel.trans (hb.mono h.bel.size)⟩
theorem SpB.start (w : World) (u : Value) (a b : Int) {W : World} (h : (((w.alloc (.cells #[u] 22)).alloc (.cells #[.int .i64 a, .int .i64 b] 42)).alloc (.cells #[.bool false] 4)) = W) : SpB w u a b W := by
  have h1 := Blk.new w 22 #[u]
  have h2 := Blk.new (w.alloc (.cells #[u] 22)) 42 #[.int .i64 a, .int .i64 b]
  have h3 := Blk.new ((w.alloc (.cells #[u] 22)).alloc (.cells #[.int .i64 a, .int .i64 b] 42)) 4 #[.bool false]
  simp only [World.size_alloc] at h2 h3
  rw [← h]
  exact ⟨(h1.alloc _).alloc _, h2.alloc _, h3, (((Below.refl _ _).alloc (Nat.le_refl _) _).alloc (by simp) _).alloc (by simp; omega) _⟩
theorem SpB.cells {w : World} {u : Value} {a b : Int} {W : World} (h : SpB w u a b W) : W.cell? ⟨w.heap.size, 0, none⟩ = some u ∧ W.cell? ⟨w.heap.size + 1, 0, none⟩ = some (.int .i64 a) ∧ W.cell? ⟨w.heap.size + 1, 1, none⟩ = some (.int .i64 b) ∧
    W.cell? ⟨w.heap.size + 2, 0, none⟩ = some (.bool false) ∧ W.frozen? ⟨w.heap.size + 2, 0, none⟩ = false ∧ w.heap.size + 2 < W.heap.size :=
  ⟨h.l.cell 0 rfl, h.t.cell 0 rfl, h.t.cell 1 rfl, h.r.cell 0 rfl, h.r.frozen 0, h.r.lt⟩
/-- What the loop keeps: its own cells, and the law's. -/
def SpI (w : World) (u : Value) (l : List Chg) (a b : Int) (k0 k1 nb cb : Nat) (pre : List Nat) (O : Nat → Prop) (W : World) : Prop :=
  (O w.heap.size ∧ O (w.heap.size + 1) ∧ O nb ∧ O cb) ∧ Blk W w.heap.size 22 #[u] ∧ Blk W (w.heap.size + 1) 42 #[.int .i64 a, .int .i64 b] ∧ Blk W nb 3 #[.int .i64 (nx l a b k0 k1 pre.length)] ∧ Blk W cb 3 #[.int .i64 (pre.length : Nat)]
theorem spI_feet (w : World) (u : Value) (l : List Chg) (a b : Int) (k0 k1 nb cb : Nat) : Feet (SpI w u l a b k0 k1 nb cb) := by
  rintro pre O W W' ⟨⟨o1, o2, o3, o4⟩, h1, h2, h3, h4⟩ hf
  exact ⟨⟨o1, o2, o3, o4⟩, h1.fr hf (fun h => h o1), h2.fr hf (fun h => h o2), h3.fr hf (fun h => h o3), h4.fr hf (fun h => h o4)⟩
/-- All that a round looks at. -/
structure SpR (lb tb nb cb pb xb : Nat) (u : Value) (a b nx : Int) (n : Nat) (a1 b1 : Int) (x : Loc) (W : World) : Prop where
  bp : Blk W pb 42 #[.int .i64 a1, .int .i64 b1]
  bx : LocB W xb x
  bl : Blk W lb 22 #[u]
  bt : Blk W tb 42 #[.int .i64 a, .int .i64 b]
  bn : Blk W nb 3 #[.int .i64 nx]
  bc : Blk W cb 3 #[.int .i64 (n : Nat)]
theorem SpR.below {lb tb nb cb pb xb : Nat} {u : Value} {a b nx : Int} {n : Nat} {a1 b1 : Int} {x : Loc} {W W' : World} (h : SpR lb tb nb cb pb xb u a b nx n a1 b1 x W) (hb : Below W.heap.size W W') : SpR lb tb nb cb pb xb u a b nx n a1 b1 x W' :=
  ⟨h.bp.below hb h.bp.lt, Blk.below h.bx hb (Blk.lt h.bx), h.bl.below hb h.bl.lt, h.bt.below hb h.bt.lt, h.bn.below hb h.bn.lt, h.bc.below hb h.bc.lt⟩
theorem SpR.cells {lb tb nb cb pb xb : Nat} {u : Value} {a b nx : Int} {n : Nat} {a1 b1 : Int} {x : Loc} {W : World} (h : SpR lb tb nb cb pb xb u a b nx n a1 b1 x W) :
    W.cell? ⟨pb, 0, none⟩ = some (.int .i64 a1) ∧ W.cell? ⟨pb, 1, none⟩ = some (.int .i64 b1) ∧ W.cell? ⟨xb, 0, none⟩ = some (.int .i64 x.off) ∧ W.cell? ⟨xb, 1, none⟩ = some (.bool x.dst) ∧ W.cell? ⟨xb, 2, none⟩ = some (.string x.abbr) ∧
    W.cell? ⟨lb, 0, none⟩ = some u ∧ W.cell? ⟨tb, 0, none⟩ = some (.int .i64 a) ∧ W.cell? ⟨tb, 1, none⟩ = some (.int .i64 b) ∧ W.cell? ⟨nb, 0, none⟩ = some (.int .i64 nx) ∧ W.cell? ⟨cb, 0, none⟩ = some (.int .i64 (n : Nat)) :=
  ⟨h.bp.cell 0 rfl, h.bp.cell 1 rfl, Blk.cell h.bx 0 rfl, Blk.cell h.bx 1 rfl, Blk.cell h.bx 2 rfl, h.bl.cell 0 rfl, h.bt.cell 0 rfl, h.bt.cell 1 rfl, h.bn.cell 0 rfl, h.bc.cell 0 rfl⟩
set_option maxHeartbeats 8000000 in
theorem spans_walk (w : World) (v : Value) (l : List Chg) (a b : Int) (hv : Chgs w w.heap.size v l) (ha64 : -9223372036854775808 ≤ a ∧ a ≤ 9223372036854775807) (hb64 : -9223372036854775808 ≤ b ∧ b ≤ 9223372036854775807) :
    Calls Try.prog 4 #[v, .agg #[.int .i64 a, .int .i64 b]] w fun e w' => e = .returned (.bool true) ∧ Below w.heap.size w w' := by
  have HV := Lib.hid hv
  obtain ⟨A, c, rfl, hlc, hcm⟩ := hv.form
  unfold maxLen at hcm
  clear hv
  refine (callsIn_wide (n := 8)).1 ?_
  refine callsIn_of_wp_marks Try.func4 rfl trivial ?_ rfl
  simp only [Try.ntmps4, List.size_toArray, List.length_cons, List.length_nil, Nat.reduceAdd, Nat.reduceSub, Array.replicate_succ, Array.replicate_zero, List.push_toArray, List.append_toArray, List.nil_append, List.cons_append]
  refine wpIn_wide.2 ?_
  go_wp2_with fail
  obtain ⟨W0, hW0⟩ : ∃ W, (((w.alloc (.cells #[.slice A l.length c] 22)).alloc (.cells #[.int .i64 a, .int .i64 b] 42)).alloc (.cells #[.bool false] 4)) = W := ⟨_, rfl⟩
  have hs0 := SpB.start w _ a b hW0
  rw [hW0]
  clear hW0
  have HR := Lib.hid (right_any W0 w.heap.size (.slice A l.length c) l (HV.out.below hs0.bel))
  refine HR.out.mono ?_
  rintro e w1 ⟨rfl, hb1⟩
  have hs1 := hs0.below hb1
  clear hb1 hs0 HR
  obtain ⟨q0, q1, q2, q3, q4, q5⟩ := hs1.cells
  have HS1 := Lib.hid hs1
  clear hs1
  cases hrb : rightB l with
  | false =>
    go_wp2_with fail
    refine (awake_any _).mono ?_
    rintro e wz ⟨rfl, hbz⟩
    have hsz := HS1.out.below hbz
    obtain ⟨z0, z1, z2, z3, z4, z5⟩ := hsz.cells
    have HC := Lib.hid ((hsz.r.set 0 (.bool true)).cell 0 rfl)
    have HBZ := Lib.hid (hsz.bel.setCell (p := ⟨w.heap.size + 2, 0, none⟩) (Nat.le_add_right _ _) (.bool true))
    clear q0 q1 q2 q3 q4 q5 z0 z1 z2 hsz hbz
    go_wp2_with fail
    refine ⟨.bool true, ?_, rfl, HBZ.out⟩
    have hc := HC.out
    simp [results, Try.f4, go_sem, hc]
  | true =>
    have hrow := (rightB_iff l).1 hrb
    clear hrb
    by_cases g1 : a < -2199023255552
    · go_wp2_with fail
      refine (awake_any _).mono ?_
      rintro e wz ⟨rfl, hbz⟩
      have hsz := HS1.out.below hbz
      obtain ⟨z0, z1, z2, z3, z4, z5⟩ := hsz.cells
      have HC := Lib.hid ((hsz.r.set 0 (.bool true)).cell 0 rfl)
      have HBZ := Lib.hid (hsz.bel.setCell (p := ⟨w.heap.size + 2, 0, none⟩) (Nat.le_add_right _ _) (.bool true))
      clear q0 q1 q2 q3 q4 q5 z0 z1 z2 hsz hbz
      go_wp2_with fail
      refine ⟨.bool true, ?_, rfl, HBZ.out⟩
      have hc := HC.out
      simp [results, Try.f4, go_sem, hc]
    · by_cases g2 : 2199023255552 < b
      · go_wp2_with fail
        refine (awake_any _).mono ?_
        rintro e wz ⟨rfl, hbz⟩
        have hsz := HS1.out.below hbz
        obtain ⟨z0, z1, z2, z3, z4, z5⟩ := hsz.cells
        have HC := Lib.hid ((hsz.r.set 0 (.bool true)).cell 0 rfl)
        have HBZ := Lib.hid (hsz.bel.setCell (p := ⟨w.heap.size + 2, 0, none⟩) (Nat.le_add_right _ _) (.bool true))
        clear q0 q1 q2 q3 q4 q5 z0 z1 z2 hsz hbz
        go_wp2_with fail
        refine ⟨.bool true, ?_, rfl, HBZ.out⟩
        have hc := HC.out
        simp [results, Try.f4, go_sem, hc]
      · have hclk := fun W => spans_any W (clocksV (.slice A l.length c)) a b (.inl ⟨_, rfl⟩)
        have HCL := Lib.hid hclk
        clear hclk
        go_wp2_with fail
        refine (HCL.out _).mono ?_
        rintro e w2 ⟨rfl, hb2, hsz2, hc2, hf2, ht2⟩
        have hz2a : w1.heap.size + 3 ≤ w2.heap.size := by omega
        clear hsz2
        have hs2 := HS1.out.below hb2
        have heq := fun (w : World) (f : Fn) (ts cs : Array Value) => run_eql_func_nil w 44 f ts cs Try.underlying44
        obtain ⟨v0, v1, v2, v3, v4, v5⟩ := hs2.cells
        have HS2 := Lib.hid hs2
        clear q0 q1 q2 q3 q4 hb2 hs2
        go_wp2_with fail
        obtain ⟨W3, hW3⟩ : ∃ W, (w2.alloc (.cells #[.int .i64 a] 3)).alloc (.cells #[.int .i64 0] 3) = W := ⟨_, rfl⟩
        obtain ⟨hnb, hcb, hb3, hz3⟩ := blks2 w2 _ _ _ _ W3 hW3
        have hz3a : w2.heap.size + 2 ≤ W3.heap.size := by omega
        rw [hW3]
        clear hW3 v0 v1 v2 v3 v4 v5
        have hs3 := HS2.out.below hb3
        have hc3 := hc2.below hb3 hc2.lt
        have hf3 := hf2.below hb3 hf2.lt
        have ht3 := ht2.below hb3 ht2.lt
        have h12 := HS1.out.bel.size
        clear hc2 hf2 ht2 hz3
        refine (wpIn_wide (n := 8)).1 ?_
        rename_i K0 hK0
        have HK0 := Lib.hid hK0
        clear hK0
        by_cases hab : a < b
        · obtain ⟨k0, hk0⟩ := hrow.some (show -2199023255552 ≤ a by omega)
          obtain ⟨k1, hk1⟩ := hrow.some (show -2199023255552 ≤ b - 1 by omega)
          have h01 : k0 ≤ k1 := by
            obtain ⟨g1, g2, g3⟩ := hk0
            obtain ⟨f1, f2, f3⟩ := hk1
            rcases Nat.lt_or_ge k1 k0 with h | h
            · have := f3 k0 g1 h; omega
            · exact h
          have hs1l := HS1.out.r.lt
          refine range_own (α := Nat) rfl (by omega) (gf := 21) (lb := #[.pointer (some ⟨w1.heap.size, 0, none⟩), .pointer (some ⟨w1.heap.size + 1, 0, none⟩), .pointer (some ⟨w1.heap.size + 2, 0, none⟩)]) rfl trivial (enters_of Try.func21 (by kernel_rfl) rfl)
            (encs := encS l a b) (K := fun k => k = w1.heap.size ∨ k = w1.heap.size + 1 ∨ k = w1.heap.size + 2 ∨ k < w.heap.size)
            (fun W hW => spans1_iter2 7 (by omega) _ _ _ w.heap.size (.slice A l.length c) l a b hrow W k0 k1 hk0 hk1 (by omega) hab (by omega) (hc3.below hW hc3.lt) (hf3.below hW hf3.lt) (ht3.below hW ht3.lt) (by omega) (by omega) ((HV.out.below hs3.bel).below (hW.mono hs3.bel.size)) (by omega))
            (fun _ => rfl) (SpI w (.slice A l.length c) l a b k0 k1 w2.heap.size (w2.heap.size + 1)) (fun _ _ _ _ => False) (spI_feet _ _ _ _ _ _ _ _ _) (fun _ _ _ _ _ h _ => h) (fun k => k = w.heap.size ∨ k = w.heap.size + 1 ∨ k = w2.heap.size ∨ k = w2.heap.size + 1)
            ⟨⟨.inl rfl, .inr (.inl rfl), .inr (.inr (.inl rfl)), .inr (.inr (.inr rfl))⟩, hs3.l, hs3.t, by rw [List.length_nil, nx_zero hk0 h01]; exact hnb, hcb⟩ (fun k hk => by omega) (fun k hk => by omega) (fun k hk => by omega) ?round ?done ?stop
          case stop =>
            intro _ _ _ _ _ _ _ h
            exact h.elim
          case round =>
            intro lp pre k O D W hI hBO hBD hDO hR nOl nDl hlow hltl
            obtain ⟨⟨hnD, hkk, hkl⟩, hch⟩ := hR
            have h0k : k0 ≤ k := by omega
            have HKK := Lib.hid hkk
            clear hkk
            unfold encS locA
            gi_wp2
            have hpb := Blk.new W 42 #[.int .i64 (lo l a k), .int .i64 (hi l b k)]
            have hxb := Blk.new (W.alloc (.cells #[.int .i64 (lo l a k), .int .i64 (hi l b k)] 42)) 32 #[.int .i64 (locAt l k).off, .bool (locAt l k).dst, .string (locAt l k).abbr]
            rw [World.size_alloc] at hxb
            have hpb2 := hpb.alloc (.cells #[.int .i64 (locAt l k).off, .bool (locAt l k).dst, .string (locAt l k).abbr] 32)
            have hbel2 : Below W.heap.size W ((W.alloc (.cells #[.int .i64 (lo l a k), .int .i64 (hi l b k)] 42)).alloc (.cells #[.int .i64 (locAt l k).off, .bool (locAt l k).dst, .string (locAt l k).abbr] 32)) := ((Below.refl _ _).alloc (Nat.le_refl _) _).alloc (by simp) _
            refine ⟨hbel2, ?_⟩
            intro Wb hfb hIb _
            obtain ⟨⟨o1, o2, o3, o4⟩, hl1, ht1, hn1, hc1⟩ := hIb
            have hpbW := hpb2.fr hfb (by omega)
            have hxbW := hxb.fr hfb (by omega)
            have hfbs := hfb.size
            simp only [World.size_alloc] at hfbs
            have hwW : w.heap.size ≤ W.heap.size := by omega
            have hch2 : Chgs Wb w.heap.size (.slice A l.length c) l := Fr.sl hfb (hch.below (hbel2.mono hwW)) (by simp only [World.size_alloc]; omega) (fun k hk => by omega)
            obtain ⟨e1, e2, e3, e4, e5⟩ := span_facts hrow hk0 hk1 h0k hkl hab
            have hnx : nx l a b k0 k1 pre.length = lo l a k := by unfold nx; rw [if_pos (by have := HKK.out; omega), ← HKK.out]
            have hnx2 : nx l a b k0 k1 (pre.length + 1) = hi l b k := by rw [nx_succ hrow hk0 hk1 (by have := HKK.out; omega), ← HKK.out]
            rw [hnx] at hn1
            have HNX := Lib.hid hnx2
            have HLAT := Lib.hid (fun j (hj : j < l.length) (h : lo l a k < (l[j]).at_) => span_later hrow hk0 hk1 h0k hkl hab hj h)
            have HSAM := Lib.hid (fun j (hj : j < l.length) (h : (l[j]).at_ = lo l a k) (h' : lo l a k ≠ a) => span_same hrow hk0 hk1 h0k hkl hab hj h h')
            have SH := Lib.hid (fun W' (hb : Below Wb.heap.size Wb W') i (hi_ : IsAt l i k) => (shown_any W' w.heap.size (.slice A l.length c) l i (hch2.below (hb.mono (by omega))) (by have := hb.size; omega) hrow.pos).mono (R' := fun e w' => e = .returned (locA (locAt l k)) ∧ Below W'.heap.size W' w') fun e w' ⟨⟨y, he, hy⟩, hb'⟩ => ⟨by rw [he, shownTo_at hy hi_, locAt_in hi_.1], hb'⟩)
            have HI0 := Lib.hid e4
            have HI1 := Lib.hid e5
            have HBO := Lib.hid (hBO.fr ((Fr.of_below (T := fun k => k = lp) hbel2 (Nat.le_refl _)).then hfb))
            obtain ⟨bq, oq, c', eq_, hbq, hcq⟩ := hch2.cells hrow.pos
            cases eq_
            have HCQ := Lib.hid hcq
            have HAL := Lib.hid (show SpR w.heap.size (w.heap.size + 1) w2.heap.size (w2.heap.size + 1) W.heap.size (W.heap.size + 1) (.slice (some ⟨bq, oq, none⟩) l.length c) a b (lo l a k) pre.length (lo l a k) (hi l b k) (locAt l k) Wb from ⟨hpbW, hxbW, hl1, ht1, hn1, hc1⟩)
            have HOS := Lib.hid (And.intro (And.intro o1 o2) (And.intro o3 o4))
            clear hpb hxb hpb2 hbel2 hfb hnx hnx2 hch hch2 hcq e4 e5 hpbW hxbW hl1 ht1 hn1 hc1 o1 o2 o3 o4 hBO hI hBD hDO
            unfold locA at SH
            generalize lo l a k = a1 at *
            generalize hi l b k = b1 at *
            generalize locAt l k = x at *
            have d1 : decide (b1 ≤ a1) = false := by simpa using e1
            have d2 : decide (b < b1) = false := by simpa using e2
            have hlpW : lp < W.heap.size := hltl
            clear HCL HS1 HS2 heq hs3 hc3 hf3 ht3 hnb hcb hb3 hs1l h12
            gi_wp2
            rename_i Kb hb_ Kc hc_
            have HKB := Lib.hid hb_
            have HKC := Lib.hid hc_
            clear hb_ hc_
            refine wpIn_env (fin := ?fn) (wide1 lp) (by kernel_rfl) [40, 41, 42, 43, 44, 45, 46, 47, 48, 49, 50, 51, 52, 53, 54, 55, 56, 57, 58, 59, 60, 61, 62, 63, 64, 65, 66, 67, 68, 69, 70, 71, 72, 73, 74]
              [.pointer (some ⟨W.heap.size, 0, none⟩), .int .i64 a1, .int .i64 a1, .bool false, .bool false, .pointer (some ⟨W.heap.size, 1, none⟩), .int .i64 b1, .pointer (some ⟨W.heap.size, 0, none⟩), .int .i64 a1, .bool false, .bool false, .bool false, .pointer (some ⟨W.heap.size, 1, none⟩), .int .i64 b1, .pointer (some ⟨w.heap.size + 1, 1, none⟩), .int .i64 b, .bool false, .bool false, .bool false, .agg #[.int .i64 x.off, .bool x.dst, .string x.abbr], .slice (some ⟨bq, oq, none⟩) l.length c, .pointer (some ⟨W.heap.size, 0, none⟩), .int .i64 a1, .agg #[.int .i64 x.off, .bool x.dst, .string x.abbr], .bool false, .bool false, .bool false, .agg #[.int .i64 x.off, .bool x.dst, .string x.abbr], .slice (some ⟨bq, oq, none⟩) l.length c, .pointer (some ⟨W.heap.size, 1, none⟩), .int .i64 b1, .int .i64 (b1 - 1), .agg #[.int .i64 x.off, .bool x.dst, .string x.abbr], .bool false, .bool false] (by kernel_rfl) ?fin ?steps ?next
            case fin =>
              simp only [putAll, Act.put, List.setIfInBounds_toArray, List.set_cons_succ, List.set_cons_zero]
              rfl
            case steps =>
              clear HBO HKB HKC HOS HKK HLAT HSAM HV HK0
              have hw1 : IntKind.i64.wrap (b1 - 1) = b1 - 1 := IntWalk.i64_in _ (by omega)
              refine ⟨?_, ?_, ?_, ?_, ?_, ?_, ?_, ?_, ?_, ?_, ?_, ?_, ?_, ?_, ?_, ?_, ?_, ?_, ?_, ?_, ?_, ?_, ?_, ?_, ?_, ?_, ?_, ?_, ?_, ?_, ?_, ?_, ?_, ?_, ?_, trivial⟩
              · refine .inr ⟨by kernel_rfl, fun w1_ hB => ?_⟩
                obtain ⟨p0, p1, x0, x1, x2, l0, t0, t1, n0, c0⟩ := (HAL.out.below hB).cells
                go_simp
                exact ⟨rfl, Below.refl _ _⟩
              · refine .inr ⟨by kernel_rfl, fun w1_ hB => ?_⟩
                obtain ⟨p0, p1, x0, x1, x2, l0, t0, t1, n0, c0⟩ := (HAL.out.below hB).cells
                go_simp
                exact ⟨rfl, Below.refl _ _⟩
              · refine .inr ⟨by kernel_rfl, fun w1_ hB => ?_⟩
                obtain ⟨p0, p1, x0, x1, x2, l0, t0, t1, n0, c0⟩ := (HAL.out.below hB).cells
                go_simp
                exact ⟨rfl, Below.refl _ _⟩
              · refine .inr ⟨by kernel_rfl, fun w1_ hB => ?_⟩
                obtain ⟨p0, p1, x0, x1, x2, l0, t0, t1, n0, c0⟩ := (HAL.out.below hB).cells
                go_simp
                exact ⟨rfl, Below.refl _ _⟩
              · refine .inr ⟨by kernel_rfl, fun w1_ hB => ?_⟩
                obtain ⟨p0, p1, x0, x1, x2, l0, t0, t1, n0, c0⟩ := (HAL.out.below hB).cells
                go_simp
                exact ⟨rfl, Below.refl _ _⟩
              · refine .inr ⟨by kernel_rfl, fun w1_ hB => ?_⟩
                obtain ⟨p0, p1, x0, x1, x2, l0, t0, t1, n0, c0⟩ := (HAL.out.below hB).cells
                go_simp
                exact ⟨rfl, Below.refl _ _⟩
              · refine .inr ⟨by kernel_rfl, fun w1_ hB => ?_⟩
                obtain ⟨p0, p1, x0, x1, x2, l0, t0, t1, n0, c0⟩ := (HAL.out.below hB).cells
                go_simp
                exact ⟨rfl, Below.refl _ _⟩
              · refine .inr ⟨by kernel_rfl, fun w1_ hB => ?_⟩
                obtain ⟨p0, p1, x0, x1, x2, l0, t0, t1, n0, c0⟩ := (HAL.out.below hB).cells
                go_simp
                exact ⟨rfl, Below.refl _ _⟩
              · refine .inr ⟨by kernel_rfl, fun w1_ hB => ?_⟩
                obtain ⟨p0, p1, x0, x1, x2, l0, t0, t1, n0, c0⟩ := (HAL.out.below hB).cells
                go_simp
                exact ⟨rfl, Below.refl _ _⟩
              · refine .inr ⟨by kernel_rfl, fun w1_ hB => ?_⟩
                obtain ⟨p0, p1, x0, x1, x2, l0, t0, t1, n0, c0⟩ := (HAL.out.below hB).cells
                go_simp
                exact ⟨rfl, Below.refl _ _⟩
              · refine .inr ⟨by kernel_rfl, fun w1_ hB => ?_⟩
                obtain ⟨p0, p1, x0, x1, x2, l0, t0, t1, n0, c0⟩ := (HAL.out.below hB).cells
                go_simp
                exact ⟨rfl, Below.refl _ _⟩
              · refine .inr ⟨by kernel_rfl, fun w1_ hB => ?_⟩
                obtain ⟨p0, p1, x0, x1, x2, l0, t0, t1, n0, c0⟩ := (HAL.out.below hB).cells
                go_simp
                exact ⟨rfl, Below.refl _ _⟩
              · refine .inr ⟨by kernel_rfl, fun w1_ hB => ?_⟩
                obtain ⟨p0, p1, x0, x1, x2, l0, t0, t1, n0, c0⟩ := (HAL.out.below hB).cells
                go_simp
                exact ⟨rfl, Below.refl _ _⟩
              · refine .inr ⟨by kernel_rfl, fun w1_ hB => ?_⟩
                obtain ⟨p0, p1, x0, x1, x2, l0, t0, t1, n0, c0⟩ := (HAL.out.below hB).cells
                go_simp
                exact ⟨rfl, Below.refl _ _⟩
              · refine .inr ⟨by kernel_rfl, fun w1_ hB => ?_⟩
                obtain ⟨p0, p1, x0, x1, x2, l0, t0, t1, n0, c0⟩ := (HAL.out.below hB).cells
                go_simp
                exact ⟨rfl, Below.refl _ _⟩
              · refine .inr ⟨by kernel_rfl, fun w1_ hB => ?_⟩
                obtain ⟨p0, p1, x0, x1, x2, l0, t0, t1, n0, c0⟩ := (HAL.out.below hB).cells
                go_simp
                exact ⟨rfl, Below.refl _ _⟩
              · refine .inr ⟨by kernel_rfl, fun w1_ hB => ?_⟩
                obtain ⟨p0, p1, x0, x1, x2, l0, t0, t1, n0, c0⟩ := (HAL.out.below hB).cells
                go_simp
                exact ⟨rfl, Below.refl _ _⟩
              · refine .inr ⟨by kernel_rfl, fun w1_ hB => ?_⟩
                obtain ⟨p0, p1, x0, x1, x2, l0, t0, t1, n0, c0⟩ := (HAL.out.below hB).cells
                go_simp
                exact ⟨rfl, Below.refl _ _⟩
              · refine .inr ⟨by kernel_rfl, fun w1_ hB => ?_⟩
                obtain ⟨p0, p1, x0, x1, x2, l0, t0, t1, n0, c0⟩ := (HAL.out.below hB).cells
                go_simp
                exact ⟨rfl, Below.refl _ _⟩
              · refine .inr ⟨by kernel_rfl, fun w1_ hB => ?_⟩
                obtain ⟨p0, p1, x0, x1, x2, l0, t0, t1, n0, c0⟩ := (HAL.out.below hB).cells
                go_simp
                exact ⟨rfl, Below.refl _ _⟩
              · refine .inr ⟨by kernel_rfl, fun w1_ hB => ?_⟩
                obtain ⟨p0, p1, x0, x1, x2, l0, t0, t1, n0, c0⟩ := (HAL.out.below hB).cells
                go_simp
                exact ⟨rfl, Below.refl _ _⟩
              · refine .inr ⟨by kernel_rfl, fun w1_ hB => ?_⟩
                obtain ⟨p0, p1, x0, x1, x2, l0, t0, t1, n0, c0⟩ := (HAL.out.below hB).cells
                go_simp
                exact ⟨rfl, Below.refl _ _⟩
              · refine .inr ⟨by kernel_rfl, fun w1_ hB => ?_⟩
                obtain ⟨p0, p1, x0, x1, x2, l0, t0, t1, n0, c0⟩ := (HAL.out.below hB).cells
                go_simp
                exact ⟨rfl, Below.refl _ _⟩
              · refine .inr ⟨by kernel_rfl, fun w1_ hB => ?_⟩
                go_simp
                exact ⟨rfl, SH.out w1_ hB _ HI0.out⟩
              · refine .inr ⟨by kernel_rfl, fun w1_ hB => ?_⟩
                obtain ⟨p0, p1, x0, x1, x2, l0, t0, t1, n0, c0⟩ := (HAL.out.below hB).cells
                go_simp
                exact ⟨rfl, Below.refl _ _⟩
              · refine .inr ⟨by kernel_rfl, fun w1_ hB => ?_⟩
                obtain ⟨p0, p1, x0, x1, x2, l0, t0, t1, n0, c0⟩ := (HAL.out.below hB).cells
                go_simp
                exact ⟨rfl, Below.refl _ _⟩
              · refine .inr ⟨by kernel_rfl, fun w1_ hB => ?_⟩
                obtain ⟨p0, p1, x0, x1, x2, l0, t0, t1, n0, c0⟩ := (HAL.out.below hB).cells
                go_simp
                exact ⟨rfl, Below.refl _ _⟩
              · refine .inr ⟨by kernel_rfl, fun w1_ hB => ?_⟩
                obtain ⟨p0, p1, x0, x1, x2, l0, t0, t1, n0, c0⟩ := (HAL.out.below hB).cells
                go_simp
                exact ⟨rfl, Below.refl _ _⟩
              · refine .inr ⟨by kernel_rfl, fun w1_ hB => ?_⟩
                obtain ⟨p0, p1, x0, x1, x2, l0, t0, t1, n0, c0⟩ := (HAL.out.below hB).cells
                go_simp
                exact ⟨rfl, Below.refl _ _⟩
              · refine .inr ⟨by kernel_rfl, fun w1_ hB => ?_⟩
                obtain ⟨p0, p1, x0, x1, x2, l0, t0, t1, n0, c0⟩ := (HAL.out.below hB).cells
                go_simp
                exact ⟨rfl, Below.refl _ _⟩
              · refine .inr ⟨by kernel_rfl, fun w1_ hB => ?_⟩
                obtain ⟨p0, p1, x0, x1, x2, l0, t0, t1, n0, c0⟩ := (HAL.out.below hB).cells
                go_simp
                exact ⟨rfl, Below.refl _ _⟩
              · refine .inr ⟨by kernel_rfl, fun w1_ hB => ?_⟩
                obtain ⟨p0, p1, x0, x1, x2, l0, t0, t1, n0, c0⟩ := (HAL.out.below hB).cells
                go_simp
                exact ⟨rfl, Below.refl _ _⟩
              · refine .inr ⟨by kernel_rfl, fun w1_ hB => ?_⟩
                go_simp
                exact ⟨rfl, SH.out w1_ hB _ HI1.out⟩
              · refine .inr ⟨by kernel_rfl, fun w1_ hB => ?_⟩
                obtain ⟨p0, p1, x0, x1, x2, l0, t0, t1, n0, c0⟩ := (HAL.out.below hB).cells
                go_simp
                exact ⟨rfl, Below.refl _ _⟩
              · refine .inr ⟨by kernel_rfl, fun w1_ hB => ?_⟩
                obtain ⟨p0, p1, x0, x1, x2, l0, t0, t1, n0, c0⟩ := (HAL.out.below hB).cells
                go_simp
                exact ⟨rfl, Below.refl _ _⟩
            case next =>
              intro W4 hB
              refine HKC.out _ _ ?_
              clear HKC SH HI0 HI1
              gi_wp2
              refine HKB.out _ _ ?_
              clear HKB
              gi_wp2
              have CEL0 := Lib.hid (fun (i : Nat) (hi : i < l.length) (W' : World) (hb : Below Wb.heap.size Wb W') => show _ ∧ _ ∧ _ ∧ _ from ⟨(hb.cell (p := ⟨bq, oq + i * 4, none⟩) (by show bq < _; omega)).trans (HCQ.out i hi).1, (hb.cell (p := ⟨bq, oq + i * 4 + 1, none⟩) (by show bq < _; omega)).trans (HCQ.out i hi).2.1, (hb.cell (p := ⟨bq, oq + i * 4 + 2, none⟩) (by show bq < _; omega)).trans (HCQ.out i hi).2.2.1, (hb.cell (p := ⟨bq, oq + i * 4 + 3, none⟩) (by show bq < _; omega)).trans (HCQ.out i hi).2.2.2⟩)
              clear HCQ
              rename_i K2 hK2
              have HK2 := Lib.hid hK2
              clear hK2
              gi_loopw [10] (fun i wr => ∃ j : Nat, 1 ≤ j ∧ j ≤ l.length ∧ i = .int .i64 j ∧ Below Wb.heap.size Wb wr) (fun i _ => l.length - (intOf i).toNat)
              case atStart => exact ⟨1, Nat.le_refl _, hrow.pos, rfl, hB⟩
              case round =>
                obtain ⟨j, hj1, hjl, rfl, hBr⟩ := hrel
                obtain ⟨-, -, -, -, -, l0r, -⟩ := (HAL.out.below hBr).cells
                by_cases hlt : j < l.length
                · have CEL := Lib.hid (CEL0.out j hlt)
                  have HL := Lib.hid (HLAT.out j hlt)
                  have HS := Lib.hid (HSAM.out j hlt)
                  clear CEL0 HLAT HSAM
                  generalize (l[j]).at_ = t at *
                  generalize (l[j]).loc = y at *
                  by_cases g4 : a1 < t
                  · have g5 : decide (t < b1) = false := by simpa using HL.out g4
                    have g6 : (t == a1) = false := by simp; omega
                    by_cases g7 : a1 = a
                    · have g8 : (a1 != a) = false := by simpa using g7
                      clear g7
                      gi_wp2
                      refine wpIn_env (fin := ?fnA1) (wide1 lp) (by kernel_rfl) [81, 82, 83, 84, 85, 86, 87, 88, 89, 90, 91, 92, 93, 94, 95, 96, 97, 98, 99, 100, 101, 102, 103, 104, 105, 106, 107, 108, 109, 110, 111, 112, 113, 114, 115, 116, 117, 118, 119, 120, 121, 122, 123, 124]
                        [.slice (some ⟨bq, oq, none⟩) l.length c, .int .i64 j, .pointer (some ⟨bq, oq + j * 4, none⟩), .pointer (some ⟨bq, oq + j * 4, none⟩), .int .i64 t, .pointer (some ⟨W.heap.size, 0, none⟩), .int .i64 a1, .bool true, .bool true, .slice (some ⟨bq, oq, none⟩) l.length c, .int .i64 j, .pointer (some ⟨bq, oq + j * 4, none⟩), .pointer (some ⟨bq, oq + j * 4, none⟩), .int .i64 t, .pointer (some ⟨W.heap.size, 1, none⟩), .int .i64 b1, .bool false, .bool false, .bool false, .pointer (some ⟨W.heap.size, 0, none⟩), .int .i64 a1, .pointer (some ⟨w.heap.size + 1, 0, none⟩), .int .i64 a, .bool false, .bool false, undef, undef, undef, undef, undef, undef, undef, undef, .bool false, .bool false, undef, undef, undef, undef, undef, undef, undef, .bool false, .bool false] (by kernel_rfl) ?fin ?steps ?next
                      case fin =>
                        simp only [putAll, Act.put, List.setIfInBounds_toArray, List.set_cons_succ, List.set_cons_zero]
                        rfl
                      case steps =>
                        refine ⟨?_, ?_, ?_, ?_, ?_, ?_, ?_, ?_, ?_, ?_, ?_, ?_, ?_, ?_, ?_, ?_, ?_, ?_, ?_, ?_, ?_, ?_, ?_, ?_, ?_, ?_, ?_, ?_, ?_, ?_, ?_, ?_, ?_, ?_, ?_, ?_, ?_, ?_, ?_, ?_, ?_, ?_, ?_, ?_, trivial⟩
                        · refine .inr ⟨by kernel_rfl, fun w1_ hB_ => ?_⟩
                          obtain ⟨p0, p1, x0, x1, x2, l0, t0, t1, n0, c0⟩ := (HAL.out.below (hBr.trans (hB_.mono hBr.size))).cells
                          obtain ⟨m0, m1, m2, m3⟩ := CEL.out _ (hBr.trans (hB_.mono hBr.size))
                          go_simp
                          exact ⟨rfl, Below.refl _ _⟩
                        · refine .inr ⟨by kernel_rfl, fun w1_ hB_ => ?_⟩
                          obtain ⟨p0, p1, x0, x1, x2, l0, t0, t1, n0, c0⟩ := (HAL.out.below (hBr.trans (hB_.mono hBr.size))).cells
                          obtain ⟨m0, m1, m2, m3⟩ := CEL.out _ (hBr.trans (hB_.mono hBr.size))
                          go_simp
                          exact ⟨rfl, Below.refl _ _⟩
                        · refine .inr ⟨by kernel_rfl, fun w1_ hB_ => ?_⟩
                          obtain ⟨p0, p1, x0, x1, x2, l0, t0, t1, n0, c0⟩ := (HAL.out.below (hBr.trans (hB_.mono hBr.size))).cells
                          obtain ⟨m0, m1, m2, m3⟩ := CEL.out _ (hBr.trans (hB_.mono hBr.size))
                          go_simp
                          exact ⟨rfl, Below.refl _ _⟩
                        · refine .inr ⟨by kernel_rfl, fun w1_ hB_ => ?_⟩
                          obtain ⟨p0, p1, x0, x1, x2, l0, t0, t1, n0, c0⟩ := (HAL.out.below (hBr.trans (hB_.mono hBr.size))).cells
                          obtain ⟨m0, m1, m2, m3⟩ := CEL.out _ (hBr.trans (hB_.mono hBr.size))
                          go_simp
                          exact ⟨rfl, Below.refl _ _⟩
                        · refine .inr ⟨by kernel_rfl, fun w1_ hB_ => ?_⟩
                          obtain ⟨p0, p1, x0, x1, x2, l0, t0, t1, n0, c0⟩ := (HAL.out.below (hBr.trans (hB_.mono hBr.size))).cells
                          obtain ⟨m0, m1, m2, m3⟩ := CEL.out _ (hBr.trans (hB_.mono hBr.size))
                          go_simp
                          exact ⟨rfl, Below.refl _ _⟩
                        · refine .inr ⟨by kernel_rfl, fun w1_ hB_ => ?_⟩
                          obtain ⟨p0, p1, x0, x1, x2, l0, t0, t1, n0, c0⟩ := (HAL.out.below (hBr.trans (hB_.mono hBr.size))).cells
                          obtain ⟨m0, m1, m2, m3⟩ := CEL.out _ (hBr.trans (hB_.mono hBr.size))
                          go_simp
                          exact ⟨rfl, Below.refl _ _⟩
                        · refine .inr ⟨by kernel_rfl, fun w1_ hB_ => ?_⟩
                          obtain ⟨p0, p1, x0, x1, x2, l0, t0, t1, n0, c0⟩ := (HAL.out.below (hBr.trans (hB_.mono hBr.size))).cells
                          obtain ⟨m0, m1, m2, m3⟩ := CEL.out _ (hBr.trans (hB_.mono hBr.size))
                          go_simp
                          exact ⟨rfl, Below.refl _ _⟩
                        · refine .inr ⟨by kernel_rfl, fun w1_ hB_ => ?_⟩
                          obtain ⟨p0, p1, x0, x1, x2, l0, t0, t1, n0, c0⟩ := (HAL.out.below (hBr.trans (hB_.mono hBr.size))).cells
                          obtain ⟨m0, m1, m2, m3⟩ := CEL.out _ (hBr.trans (hB_.mono hBr.size))
                          go_simp
                          exact ⟨rfl, Below.refl _ _⟩
                        · refine .inr ⟨by kernel_rfl, fun w1_ hB_ => ?_⟩
                          obtain ⟨p0, p1, x0, x1, x2, l0, t0, t1, n0, c0⟩ := (HAL.out.below (hBr.trans (hB_.mono hBr.size))).cells
                          obtain ⟨m0, m1, m2, m3⟩ := CEL.out _ (hBr.trans (hB_.mono hBr.size))
                          go_simp
                          exact ⟨rfl, Below.refl _ _⟩
                        · refine .inr ⟨by kernel_rfl, fun w1_ hB_ => ?_⟩
                          obtain ⟨p0, p1, x0, x1, x2, l0, t0, t1, n0, c0⟩ := (HAL.out.below (hBr.trans (hB_.mono hBr.size))).cells
                          obtain ⟨m0, m1, m2, m3⟩ := CEL.out _ (hBr.trans (hB_.mono hBr.size))
                          go_simp
                          exact ⟨rfl, Below.refl _ _⟩
                        · refine .inr ⟨by kernel_rfl, fun w1_ hB_ => ?_⟩
                          obtain ⟨p0, p1, x0, x1, x2, l0, t0, t1, n0, c0⟩ := (HAL.out.below (hBr.trans (hB_.mono hBr.size))).cells
                          obtain ⟨m0, m1, m2, m3⟩ := CEL.out _ (hBr.trans (hB_.mono hBr.size))
                          go_simp
                          exact ⟨rfl, Below.refl _ _⟩
                        · refine .inr ⟨by kernel_rfl, fun w1_ hB_ => ?_⟩
                          obtain ⟨p0, p1, x0, x1, x2, l0, t0, t1, n0, c0⟩ := (HAL.out.below (hBr.trans (hB_.mono hBr.size))).cells
                          obtain ⟨m0, m1, m2, m3⟩ := CEL.out _ (hBr.trans (hB_.mono hBr.size))
                          go_simp
                          exact ⟨rfl, Below.refl _ _⟩
                        · refine .inr ⟨by kernel_rfl, fun w1_ hB_ => ?_⟩
                          obtain ⟨p0, p1, x0, x1, x2, l0, t0, t1, n0, c0⟩ := (HAL.out.below (hBr.trans (hB_.mono hBr.size))).cells
                          obtain ⟨m0, m1, m2, m3⟩ := CEL.out _ (hBr.trans (hB_.mono hBr.size))
                          go_simp
                          exact ⟨rfl, Below.refl _ _⟩
                        · refine .inr ⟨by kernel_rfl, fun w1_ hB_ => ?_⟩
                          obtain ⟨p0, p1, x0, x1, x2, l0, t0, t1, n0, c0⟩ := (HAL.out.below (hBr.trans (hB_.mono hBr.size))).cells
                          obtain ⟨m0, m1, m2, m3⟩ := CEL.out _ (hBr.trans (hB_.mono hBr.size))
                          go_simp
                          exact ⟨rfl, Below.refl _ _⟩
                        · refine .inr ⟨by kernel_rfl, fun w1_ hB_ => ?_⟩
                          obtain ⟨p0, p1, x0, x1, x2, l0, t0, t1, n0, c0⟩ := (HAL.out.below (hBr.trans (hB_.mono hBr.size))).cells
                          obtain ⟨m0, m1, m2, m3⟩ := CEL.out _ (hBr.trans (hB_.mono hBr.size))
                          go_simp
                          exact ⟨rfl, Below.refl _ _⟩
                        · refine .inr ⟨by kernel_rfl, fun w1_ hB_ => ?_⟩
                          obtain ⟨p0, p1, x0, x1, x2, l0, t0, t1, n0, c0⟩ := (HAL.out.below (hBr.trans (hB_.mono hBr.size))).cells
                          obtain ⟨m0, m1, m2, m3⟩ := CEL.out _ (hBr.trans (hB_.mono hBr.size))
                          go_simp
                          exact ⟨rfl, Below.refl _ _⟩
                        · refine .inr ⟨by kernel_rfl, fun w1_ hB_ => ?_⟩
                          obtain ⟨p0, p1, x0, x1, x2, l0, t0, t1, n0, c0⟩ := (HAL.out.below (hBr.trans (hB_.mono hBr.size))).cells
                          obtain ⟨m0, m1, m2, m3⟩ := CEL.out _ (hBr.trans (hB_.mono hBr.size))
                          go_simp
                          exact ⟨rfl, Below.refl _ _⟩
                        · refine .inr ⟨by kernel_rfl, fun w1_ hB_ => ?_⟩
                          obtain ⟨p0, p1, x0, x1, x2, l0, t0, t1, n0, c0⟩ := (HAL.out.below (hBr.trans (hB_.mono hBr.size))).cells
                          obtain ⟨m0, m1, m2, m3⟩ := CEL.out _ (hBr.trans (hB_.mono hBr.size))
                          go_simp
                          exact ⟨rfl, Below.refl _ _⟩
                        · refine .inr ⟨by kernel_rfl, fun w1_ hB_ => ?_⟩
                          obtain ⟨p0, p1, x0, x1, x2, l0, t0, t1, n0, c0⟩ := (HAL.out.below (hBr.trans (hB_.mono hBr.size))).cells
                          obtain ⟨m0, m1, m2, m3⟩ := CEL.out _ (hBr.trans (hB_.mono hBr.size))
                          go_simp
                          exact ⟨rfl, Below.refl _ _⟩
                        · refine .inr ⟨by kernel_rfl, fun w1_ hB_ => ?_⟩
                          obtain ⟨p0, p1, x0, x1, x2, l0, t0, t1, n0, c0⟩ := (HAL.out.below (hBr.trans (hB_.mono hBr.size))).cells
                          obtain ⟨m0, m1, m2, m3⟩ := CEL.out _ (hBr.trans (hB_.mono hBr.size))
                          go_simp
                          exact ⟨rfl, Below.refl _ _⟩
                        · refine .inr ⟨by kernel_rfl, fun w1_ hB_ => ?_⟩
                          obtain ⟨p0, p1, x0, x1, x2, l0, t0, t1, n0, c0⟩ := (HAL.out.below (hBr.trans (hB_.mono hBr.size))).cells
                          obtain ⟨m0, m1, m2, m3⟩ := CEL.out _ (hBr.trans (hB_.mono hBr.size))
                          go_simp
                          exact ⟨rfl, Below.refl _ _⟩
                        · refine .inr ⟨by kernel_rfl, fun w1_ hB_ => ?_⟩
                          obtain ⟨p0, p1, x0, x1, x2, l0, t0, t1, n0, c0⟩ := (HAL.out.below (hBr.trans (hB_.mono hBr.size))).cells
                          obtain ⟨m0, m1, m2, m3⟩ := CEL.out _ (hBr.trans (hB_.mono hBr.size))
                          go_simp
                          exact ⟨rfl, Below.refl _ _⟩
                        · refine .inr ⟨by kernel_rfl, fun w1_ hB_ => ?_⟩
                          obtain ⟨p0, p1, x0, x1, x2, l0, t0, t1, n0, c0⟩ := (HAL.out.below (hBr.trans (hB_.mono hBr.size))).cells
                          obtain ⟨m0, m1, m2, m3⟩ := CEL.out _ (hBr.trans (hB_.mono hBr.size))
                          go_simp
                          exact ⟨rfl, Below.refl _ _⟩
                        · refine .inr ⟨by kernel_rfl, fun w1_ hB_ => ?_⟩
                          obtain ⟨p0, p1, x0, x1, x2, l0, t0, t1, n0, c0⟩ := (HAL.out.below (hBr.trans (hB_.mono hBr.size))).cells
                          obtain ⟨m0, m1, m2, m3⟩ := CEL.out _ (hBr.trans (hB_.mono hBr.size))
                          go_simp
                          exact ⟨rfl, Below.refl _ _⟩
                        · refine .inr ⟨by kernel_rfl, fun w1_ hB_ => ?_⟩
                          obtain ⟨p0, p1, x0, x1, x2, l0, t0, t1, n0, c0⟩ := (HAL.out.below (hBr.trans (hB_.mono hBr.size))).cells
                          obtain ⟨m0, m1, m2, m3⟩ := CEL.out _ (hBr.trans (hB_.mono hBr.size))
                          go_simp
                          exact ⟨rfl, Below.refl _ _⟩
                        · exact .inl ⟨by kernel_rfl, rfl⟩
                        · exact .inl ⟨by kernel_rfl, rfl⟩
                        · exact .inl ⟨by kernel_rfl, rfl⟩
                        · exact .inl ⟨by kernel_rfl, rfl⟩
                        · exact .inl ⟨by kernel_rfl, rfl⟩
                        · exact .inl ⟨by kernel_rfl, rfl⟩
                        · exact .inl ⟨by kernel_rfl, rfl⟩
                        · exact .inl ⟨by kernel_rfl, rfl⟩
                        · refine .inr ⟨by kernel_rfl, fun w1_ hB_ => ?_⟩
                          obtain ⟨p0, p1, x0, x1, x2, l0, t0, t1, n0, c0⟩ := (HAL.out.below (hBr.trans (hB_.mono hBr.size))).cells
                          obtain ⟨m0, m1, m2, m3⟩ := CEL.out _ (hBr.trans (hB_.mono hBr.size))
                          go_simp
                          exact ⟨rfl, Below.refl _ _⟩
                        · refine .inr ⟨by kernel_rfl, fun w1_ hB_ => ?_⟩
                          obtain ⟨p0, p1, x0, x1, x2, l0, t0, t1, n0, c0⟩ := (HAL.out.below (hBr.trans (hB_.mono hBr.size))).cells
                          obtain ⟨m0, m1, m2, m3⟩ := CEL.out _ (hBr.trans (hB_.mono hBr.size))
                          go_simp
                          exact ⟨rfl, Below.refl _ _⟩
                        · exact .inl ⟨by kernel_rfl, rfl⟩
                        · exact .inl ⟨by kernel_rfl, rfl⟩
                        · exact .inl ⟨by kernel_rfl, rfl⟩
                        · exact .inl ⟨by kernel_rfl, rfl⟩
                        · exact .inl ⟨by kernel_rfl, rfl⟩
                        · exact .inl ⟨by kernel_rfl, rfl⟩
                        · exact .inl ⟨by kernel_rfl, rfl⟩
                        · refine .inr ⟨by kernel_rfl, fun w1_ hB_ => ?_⟩
                          obtain ⟨p0, p1, x0, x1, x2, l0, t0, t1, n0, c0⟩ := (HAL.out.below (hBr.trans (hB_.mono hBr.size))).cells
                          obtain ⟨m0, m1, m2, m3⟩ := CEL.out _ (hBr.trans (hB_.mono hBr.size))
                          go_simp
                          exact ⟨rfl, Below.refl _ _⟩
                        · refine .inr ⟨by kernel_rfl, fun w1_ hB_ => ?_⟩
                          obtain ⟨p0, p1, x0, x1, x2, l0, t0, t1, n0, c0⟩ := (HAL.out.below (hBr.trans (hB_.mono hBr.size))).cells
                          obtain ⟨m0, m1, m2, m3⟩ := CEL.out _ (hBr.trans (hB_.mono hBr.size))
                          go_simp
                          exact ⟨rfl, Below.refl _ _⟩
                      case next =>
                        intro W5 hB5
                        have hB6 := hBr.trans (hB5.mono hBr.size)
                        clear hB5
                        gi_wp2
                        exact ⟨⟨j + 1, by omega, by omega, by go_num, hB6⟩, by simp [intOf]; omega⟩
                    · have g8 : (a1 != a) = true := by simpa using g7
                      gi_wp2
                      refine wpIn_env (fin := ?fnA2) (wide1 lp) (by kernel_rfl) [81, 82, 83, 84, 85, 86, 87, 88, 89, 90, 91, 92, 93, 94, 95, 96, 97, 98, 99, 100, 101, 102, 103, 104, 105, 106, 107, 108, 109, 110, 111, 112, 113, 114, 115, 116, 117, 118, 119, 120, 121, 122, 123, 124]
                        [.slice (some ⟨bq, oq, none⟩) l.length c, .int .i64 j, .pointer (some ⟨bq, oq + j * 4, none⟩), .pointer (some ⟨bq, oq + j * 4, none⟩), .int .i64 t, .pointer (some ⟨W.heap.size, 0, none⟩), .int .i64 a1, .bool true, .bool true, .slice (some ⟨bq, oq, none⟩) l.length c, .int .i64 j, .pointer (some ⟨bq, oq + j * 4, none⟩), .pointer (some ⟨bq, oq + j * 4, none⟩), .int .i64 t, .pointer (some ⟨W.heap.size, 1, none⟩), .int .i64 b1, .bool false, .bool false, .bool false, .pointer (some ⟨W.heap.size, 0, none⟩), .int .i64 a1, .pointer (some ⟨w.heap.size + 1, 0, none⟩), .int .i64 a, .bool true, .bool true, .slice (some ⟨bq, oq, none⟩) l.length c, .int .i64 j, .pointer (some ⟨bq, oq + j * 4, none⟩), .pointer (some ⟨bq, oq + j * 4, none⟩), .int .i64 t, .pointer (some ⟨W.heap.size, 0, none⟩), .int .i64 a1, .bool false, .bool false, .bool false, undef, undef, undef, undef, undef, undef, undef, .bool false, .bool false] (by kernel_rfl) ?fin ?steps ?next
                      case fin =>
                        simp only [putAll, Act.put, List.setIfInBounds_toArray, List.set_cons_succ, List.set_cons_zero]
                        rfl
                      case steps =>
                        refine ⟨?_, ?_, ?_, ?_, ?_, ?_, ?_, ?_, ?_, ?_, ?_, ?_, ?_, ?_, ?_, ?_, ?_, ?_, ?_, ?_, ?_, ?_, ?_, ?_, ?_, ?_, ?_, ?_, ?_, ?_, ?_, ?_, ?_, ?_, ?_, ?_, ?_, ?_, ?_, ?_, ?_, ?_, ?_, ?_, trivial⟩
                        · refine .inr ⟨by kernel_rfl, fun w1_ hB_ => ?_⟩
                          obtain ⟨p0, p1, x0, x1, x2, l0, t0, t1, n0, c0⟩ := (HAL.out.below (hBr.trans (hB_.mono hBr.size))).cells
                          obtain ⟨m0, m1, m2, m3⟩ := CEL.out _ (hBr.trans (hB_.mono hBr.size))
                          go_simp
                          exact ⟨rfl, Below.refl _ _⟩
                        · refine .inr ⟨by kernel_rfl, fun w1_ hB_ => ?_⟩
                          obtain ⟨p0, p1, x0, x1, x2, l0, t0, t1, n0, c0⟩ := (HAL.out.below (hBr.trans (hB_.mono hBr.size))).cells
                          obtain ⟨m0, m1, m2, m3⟩ := CEL.out _ (hBr.trans (hB_.mono hBr.size))
                          go_simp
                          exact ⟨rfl, Below.refl _ _⟩
                        · refine .inr ⟨by kernel_rfl, fun w1_ hB_ => ?_⟩
                          obtain ⟨p0, p1, x0, x1, x2, l0, t0, t1, n0, c0⟩ := (HAL.out.below (hBr.trans (hB_.mono hBr.size))).cells
                          obtain ⟨m0, m1, m2, m3⟩ := CEL.out _ (hBr.trans (hB_.mono hBr.size))
                          go_simp
                          exact ⟨rfl, Below.refl _ _⟩
                        · refine .inr ⟨by kernel_rfl, fun w1_ hB_ => ?_⟩
                          obtain ⟨p0, p1, x0, x1, x2, l0, t0, t1, n0, c0⟩ := (HAL.out.below (hBr.trans (hB_.mono hBr.size))).cells
                          obtain ⟨m0, m1, m2, m3⟩ := CEL.out _ (hBr.trans (hB_.mono hBr.size))
                          go_simp
                          exact ⟨rfl, Below.refl _ _⟩
                        · refine .inr ⟨by kernel_rfl, fun w1_ hB_ => ?_⟩
                          obtain ⟨p0, p1, x0, x1, x2, l0, t0, t1, n0, c0⟩ := (HAL.out.below (hBr.trans (hB_.mono hBr.size))).cells
                          obtain ⟨m0, m1, m2, m3⟩ := CEL.out _ (hBr.trans (hB_.mono hBr.size))
                          go_simp
                          exact ⟨rfl, Below.refl _ _⟩
                        · refine .inr ⟨by kernel_rfl, fun w1_ hB_ => ?_⟩
                          obtain ⟨p0, p1, x0, x1, x2, l0, t0, t1, n0, c0⟩ := (HAL.out.below (hBr.trans (hB_.mono hBr.size))).cells
                          obtain ⟨m0, m1, m2, m3⟩ := CEL.out _ (hBr.trans (hB_.mono hBr.size))
                          go_simp
                          exact ⟨rfl, Below.refl _ _⟩
                        · refine .inr ⟨by kernel_rfl, fun w1_ hB_ => ?_⟩
                          obtain ⟨p0, p1, x0, x1, x2, l0, t0, t1, n0, c0⟩ := (HAL.out.below (hBr.trans (hB_.mono hBr.size))).cells
                          obtain ⟨m0, m1, m2, m3⟩ := CEL.out _ (hBr.trans (hB_.mono hBr.size))
                          go_simp
                          exact ⟨rfl, Below.refl _ _⟩
                        · refine .inr ⟨by kernel_rfl, fun w1_ hB_ => ?_⟩
                          obtain ⟨p0, p1, x0, x1, x2, l0, t0, t1, n0, c0⟩ := (HAL.out.below (hBr.trans (hB_.mono hBr.size))).cells
                          obtain ⟨m0, m1, m2, m3⟩ := CEL.out _ (hBr.trans (hB_.mono hBr.size))
                          go_simp
                          exact ⟨rfl, Below.refl _ _⟩
                        · refine .inr ⟨by kernel_rfl, fun w1_ hB_ => ?_⟩
                          obtain ⟨p0, p1, x0, x1, x2, l0, t0, t1, n0, c0⟩ := (HAL.out.below (hBr.trans (hB_.mono hBr.size))).cells
                          obtain ⟨m0, m1, m2, m3⟩ := CEL.out _ (hBr.trans (hB_.mono hBr.size))
                          go_simp
                          exact ⟨rfl, Below.refl _ _⟩
                        · refine .inr ⟨by kernel_rfl, fun w1_ hB_ => ?_⟩
                          obtain ⟨p0, p1, x0, x1, x2, l0, t0, t1, n0, c0⟩ := (HAL.out.below (hBr.trans (hB_.mono hBr.size))).cells
                          obtain ⟨m0, m1, m2, m3⟩ := CEL.out _ (hBr.trans (hB_.mono hBr.size))
                          go_simp
                          exact ⟨rfl, Below.refl _ _⟩
                        · refine .inr ⟨by kernel_rfl, fun w1_ hB_ => ?_⟩
                          obtain ⟨p0, p1, x0, x1, x2, l0, t0, t1, n0, c0⟩ := (HAL.out.below (hBr.trans (hB_.mono hBr.size))).cells
                          obtain ⟨m0, m1, m2, m3⟩ := CEL.out _ (hBr.trans (hB_.mono hBr.size))
                          go_simp
                          exact ⟨rfl, Below.refl _ _⟩
                        · refine .inr ⟨by kernel_rfl, fun w1_ hB_ => ?_⟩
                          obtain ⟨p0, p1, x0, x1, x2, l0, t0, t1, n0, c0⟩ := (HAL.out.below (hBr.trans (hB_.mono hBr.size))).cells
                          obtain ⟨m0, m1, m2, m3⟩ := CEL.out _ (hBr.trans (hB_.mono hBr.size))
                          go_simp
                          exact ⟨rfl, Below.refl _ _⟩
                        · refine .inr ⟨by kernel_rfl, fun w1_ hB_ => ?_⟩
                          obtain ⟨p0, p1, x0, x1, x2, l0, t0, t1, n0, c0⟩ := (HAL.out.below (hBr.trans (hB_.mono hBr.size))).cells
                          obtain ⟨m0, m1, m2, m3⟩ := CEL.out _ (hBr.trans (hB_.mono hBr.size))
                          go_simp
                          exact ⟨rfl, Below.refl _ _⟩
                        · refine .inr ⟨by kernel_rfl, fun w1_ hB_ => ?_⟩
                          obtain ⟨p0, p1, x0, x1, x2, l0, t0, t1, n0, c0⟩ := (HAL.out.below (hBr.trans (hB_.mono hBr.size))).cells
                          obtain ⟨m0, m1, m2, m3⟩ := CEL.out _ (hBr.trans (hB_.mono hBr.size))
                          go_simp
                          exact ⟨rfl, Below.refl _ _⟩
                        · refine .inr ⟨by kernel_rfl, fun w1_ hB_ => ?_⟩
                          obtain ⟨p0, p1, x0, x1, x2, l0, t0, t1, n0, c0⟩ := (HAL.out.below (hBr.trans (hB_.mono hBr.size))).cells
                          obtain ⟨m0, m1, m2, m3⟩ := CEL.out _ (hBr.trans (hB_.mono hBr.size))
                          go_simp
                          exact ⟨rfl, Below.refl _ _⟩
                        · refine .inr ⟨by kernel_rfl, fun w1_ hB_ => ?_⟩
                          obtain ⟨p0, p1, x0, x1, x2, l0, t0, t1, n0, c0⟩ := (HAL.out.below (hBr.trans (hB_.mono hBr.size))).cells
                          obtain ⟨m0, m1, m2, m3⟩ := CEL.out _ (hBr.trans (hB_.mono hBr.size))
                          go_simp
                          exact ⟨rfl, Below.refl _ _⟩
                        · refine .inr ⟨by kernel_rfl, fun w1_ hB_ => ?_⟩
                          obtain ⟨p0, p1, x0, x1, x2, l0, t0, t1, n0, c0⟩ := (HAL.out.below (hBr.trans (hB_.mono hBr.size))).cells
                          obtain ⟨m0, m1, m2, m3⟩ := CEL.out _ (hBr.trans (hB_.mono hBr.size))
                          go_simp
                          exact ⟨rfl, Below.refl _ _⟩
                        · refine .inr ⟨by kernel_rfl, fun w1_ hB_ => ?_⟩
                          obtain ⟨p0, p1, x0, x1, x2, l0, t0, t1, n0, c0⟩ := (HAL.out.below (hBr.trans (hB_.mono hBr.size))).cells
                          obtain ⟨m0, m1, m2, m3⟩ := CEL.out _ (hBr.trans (hB_.mono hBr.size))
                          go_simp
                          exact ⟨rfl, Below.refl _ _⟩
                        · refine .inr ⟨by kernel_rfl, fun w1_ hB_ => ?_⟩
                          obtain ⟨p0, p1, x0, x1, x2, l0, t0, t1, n0, c0⟩ := (HAL.out.below (hBr.trans (hB_.mono hBr.size))).cells
                          obtain ⟨m0, m1, m2, m3⟩ := CEL.out _ (hBr.trans (hB_.mono hBr.size))
                          go_simp
                          exact ⟨rfl, Below.refl _ _⟩
                        · refine .inr ⟨by kernel_rfl, fun w1_ hB_ => ?_⟩
                          obtain ⟨p0, p1, x0, x1, x2, l0, t0, t1, n0, c0⟩ := (HAL.out.below (hBr.trans (hB_.mono hBr.size))).cells
                          obtain ⟨m0, m1, m2, m3⟩ := CEL.out _ (hBr.trans (hB_.mono hBr.size))
                          go_simp
                          exact ⟨rfl, Below.refl _ _⟩
                        · refine .inr ⟨by kernel_rfl, fun w1_ hB_ => ?_⟩
                          obtain ⟨p0, p1, x0, x1, x2, l0, t0, t1, n0, c0⟩ := (HAL.out.below (hBr.trans (hB_.mono hBr.size))).cells
                          obtain ⟨m0, m1, m2, m3⟩ := CEL.out _ (hBr.trans (hB_.mono hBr.size))
                          go_simp
                          exact ⟨rfl, Below.refl _ _⟩
                        · refine .inr ⟨by kernel_rfl, fun w1_ hB_ => ?_⟩
                          obtain ⟨p0, p1, x0, x1, x2, l0, t0, t1, n0, c0⟩ := (HAL.out.below (hBr.trans (hB_.mono hBr.size))).cells
                          obtain ⟨m0, m1, m2, m3⟩ := CEL.out _ (hBr.trans (hB_.mono hBr.size))
                          go_simp
                          exact ⟨rfl, Below.refl _ _⟩
                        · refine .inr ⟨by kernel_rfl, fun w1_ hB_ => ?_⟩
                          obtain ⟨p0, p1, x0, x1, x2, l0, t0, t1, n0, c0⟩ := (HAL.out.below (hBr.trans (hB_.mono hBr.size))).cells
                          obtain ⟨m0, m1, m2, m3⟩ := CEL.out _ (hBr.trans (hB_.mono hBr.size))
                          go_simp
                          exact ⟨rfl, Below.refl _ _⟩
                        · refine .inr ⟨by kernel_rfl, fun w1_ hB_ => ?_⟩
                          obtain ⟨p0, p1, x0, x1, x2, l0, t0, t1, n0, c0⟩ := (HAL.out.below (hBr.trans (hB_.mono hBr.size))).cells
                          obtain ⟨m0, m1, m2, m3⟩ := CEL.out _ (hBr.trans (hB_.mono hBr.size))
                          go_simp
                          exact ⟨rfl, Below.refl _ _⟩
                        · refine .inr ⟨by kernel_rfl, fun w1_ hB_ => ?_⟩
                          obtain ⟨p0, p1, x0, x1, x2, l0, t0, t1, n0, c0⟩ := (HAL.out.below (hBr.trans (hB_.mono hBr.size))).cells
                          obtain ⟨m0, m1, m2, m3⟩ := CEL.out _ (hBr.trans (hB_.mono hBr.size))
                          go_simp
                          exact ⟨rfl, Below.refl _ _⟩
                        · refine .inr ⟨by kernel_rfl, fun w1_ hB_ => ?_⟩
                          obtain ⟨p0, p1, x0, x1, x2, l0, t0, t1, n0, c0⟩ := (HAL.out.below (hBr.trans (hB_.mono hBr.size))).cells
                          obtain ⟨m0, m1, m2, m3⟩ := CEL.out _ (hBr.trans (hB_.mono hBr.size))
                          go_simp
                          exact ⟨rfl, Below.refl _ _⟩
                        · refine .inr ⟨by kernel_rfl, fun w1_ hB_ => ?_⟩
                          obtain ⟨p0, p1, x0, x1, x2, l0, t0, t1, n0, c0⟩ := (HAL.out.below (hBr.trans (hB_.mono hBr.size))).cells
                          obtain ⟨m0, m1, m2, m3⟩ := CEL.out _ (hBr.trans (hB_.mono hBr.size))
                          go_simp
                          exact ⟨rfl, Below.refl _ _⟩
                        · refine .inr ⟨by kernel_rfl, fun w1_ hB_ => ?_⟩
                          obtain ⟨p0, p1, x0, x1, x2, l0, t0, t1, n0, c0⟩ := (HAL.out.below (hBr.trans (hB_.mono hBr.size))).cells
                          obtain ⟨m0, m1, m2, m3⟩ := CEL.out _ (hBr.trans (hB_.mono hBr.size))
                          go_simp
                          exact ⟨rfl, Below.refl _ _⟩
                        · refine .inr ⟨by kernel_rfl, fun w1_ hB_ => ?_⟩
                          obtain ⟨p0, p1, x0, x1, x2, l0, t0, t1, n0, c0⟩ := (HAL.out.below (hBr.trans (hB_.mono hBr.size))).cells
                          obtain ⟨m0, m1, m2, m3⟩ := CEL.out _ (hBr.trans (hB_.mono hBr.size))
                          go_simp
                          exact ⟨rfl, Below.refl _ _⟩
                        · refine .inr ⟨by kernel_rfl, fun w1_ hB_ => ?_⟩
                          obtain ⟨p0, p1, x0, x1, x2, l0, t0, t1, n0, c0⟩ := (HAL.out.below (hBr.trans (hB_.mono hBr.size))).cells
                          obtain ⟨m0, m1, m2, m3⟩ := CEL.out _ (hBr.trans (hB_.mono hBr.size))
                          go_simp
                          exact ⟨rfl, Below.refl _ _⟩
                        · refine .inr ⟨by kernel_rfl, fun w1_ hB_ => ?_⟩
                          obtain ⟨p0, p1, x0, x1, x2, l0, t0, t1, n0, c0⟩ := (HAL.out.below (hBr.trans (hB_.mono hBr.size))).cells
                          obtain ⟨m0, m1, m2, m3⟩ := CEL.out _ (hBr.trans (hB_.mono hBr.size))
                          go_simp
                          exact ⟨rfl, Below.refl _ _⟩
                        · refine .inr ⟨by kernel_rfl, fun w1_ hB_ => ?_⟩
                          obtain ⟨p0, p1, x0, x1, x2, l0, t0, t1, n0, c0⟩ := (HAL.out.below (hBr.trans (hB_.mono hBr.size))).cells
                          obtain ⟨m0, m1, m2, m3⟩ := CEL.out _ (hBr.trans (hB_.mono hBr.size))
                          go_simp
                          exact ⟨rfl, Below.refl _ _⟩
                        · refine .inr ⟨by kernel_rfl, fun w1_ hB_ => ?_⟩
                          obtain ⟨p0, p1, x0, x1, x2, l0, t0, t1, n0, c0⟩ := (HAL.out.below (hBr.trans (hB_.mono hBr.size))).cells
                          obtain ⟨m0, m1, m2, m3⟩ := CEL.out _ (hBr.trans (hB_.mono hBr.size))
                          go_simp
                          exact ⟨rfl, Below.refl _ _⟩
                        · refine .inr ⟨by kernel_rfl, fun w1_ hB_ => ?_⟩
                          obtain ⟨p0, p1, x0, x1, x2, l0, t0, t1, n0, c0⟩ := (HAL.out.below (hBr.trans (hB_.mono hBr.size))).cells
                          obtain ⟨m0, m1, m2, m3⟩ := CEL.out _ (hBr.trans (hB_.mono hBr.size))
                          go_simp
                          exact ⟨rfl, Below.refl _ _⟩
                        · refine .inr ⟨by kernel_rfl, fun w1_ hB_ => ?_⟩
                          obtain ⟨p0, p1, x0, x1, x2, l0, t0, t1, n0, c0⟩ := (HAL.out.below (hBr.trans (hB_.mono hBr.size))).cells
                          obtain ⟨m0, m1, m2, m3⟩ := CEL.out _ (hBr.trans (hB_.mono hBr.size))
                          go_simp
                          exact ⟨rfl, Below.refl _ _⟩
                        · exact .inl ⟨by kernel_rfl, rfl⟩
                        · exact .inl ⟨by kernel_rfl, rfl⟩
                        · exact .inl ⟨by kernel_rfl, rfl⟩
                        · exact .inl ⟨by kernel_rfl, rfl⟩
                        · exact .inl ⟨by kernel_rfl, rfl⟩
                        · exact .inl ⟨by kernel_rfl, rfl⟩
                        · exact .inl ⟨by kernel_rfl, rfl⟩
                        · refine .inr ⟨by kernel_rfl, fun w1_ hB_ => ?_⟩
                          obtain ⟨p0, p1, x0, x1, x2, l0, t0, t1, n0, c0⟩ := (HAL.out.below (hBr.trans (hB_.mono hBr.size))).cells
                          obtain ⟨m0, m1, m2, m3⟩ := CEL.out _ (hBr.trans (hB_.mono hBr.size))
                          go_simp
                          exact ⟨rfl, Below.refl _ _⟩
                        · refine .inr ⟨by kernel_rfl, fun w1_ hB_ => ?_⟩
                          obtain ⟨p0, p1, x0, x1, x2, l0, t0, t1, n0, c0⟩ := (HAL.out.below (hBr.trans (hB_.mono hBr.size))).cells
                          obtain ⟨m0, m1, m2, m3⟩ := CEL.out _ (hBr.trans (hB_.mono hBr.size))
                          go_simp
                          exact ⟨rfl, Below.refl _ _⟩
                      case next =>
                        intro W5 hB5
                        have hB6 := hBr.trans (hB5.mono hBr.size)
                        clear hB5
                        gi_wp2
                        exact ⟨⟨j + 1, by omega, by omega, by go_num, hB6⟩, by simp [intOf]; omega⟩
                  · have g5 : decide (a1 < t) = false := by simpa using g4
                    by_cases g7 : a1 = a
                    · have g8 : (a1 != a) = false := by simpa using g7
                      clear g7
                      gi_wp2
                      refine wpIn_env (fin := ?fnB1) (wide1 lp) (by kernel_rfl) [81, 82, 83, 84, 85, 86, 87, 88, 89, 90, 91, 92, 93, 94, 95, 96, 97, 98, 99, 100, 101, 102, 103, 104, 105, 106, 107, 108, 109, 110, 111, 112, 113, 114, 115, 116, 117, 118, 119, 120, 121, 122, 123, 124]
                        [.slice (some ⟨bq, oq, none⟩) l.length c, .int .i64 j, .pointer (some ⟨bq, oq + j * 4, none⟩), .pointer (some ⟨bq, oq + j * 4, none⟩), .int .i64 t, .pointer (some ⟨W.heap.size, 0, none⟩), .int .i64 a1, .bool false, .bool false, undef, undef, undef, undef, undef, undef, undef, undef, .bool false, .bool false, .pointer (some ⟨W.heap.size, 0, none⟩), .int .i64 a1, .pointer (some ⟨w.heap.size + 1, 0, none⟩), .int .i64 a, .bool false, .bool false, undef, undef, undef, undef, undef, undef, undef, undef, .bool false, .bool false, undef, undef, undef, undef, undef, undef, undef, .bool false, .bool false] (by kernel_rfl) ?fin ?steps ?next
                      case fin =>
                        simp only [putAll, Act.put, List.setIfInBounds_toArray, List.set_cons_succ, List.set_cons_zero]
                        rfl
                      case steps =>
                        refine ⟨?_, ?_, ?_, ?_, ?_, ?_, ?_, ?_, ?_, ?_, ?_, ?_, ?_, ?_, ?_, ?_, ?_, ?_, ?_, ?_, ?_, ?_, ?_, ?_, ?_, ?_, ?_, ?_, ?_, ?_, ?_, ?_, ?_, ?_, ?_, ?_, ?_, ?_, ?_, ?_, ?_, ?_, ?_, ?_, trivial⟩
                        · refine .inr ⟨by kernel_rfl, fun w1_ hB_ => ?_⟩
                          obtain ⟨p0, p1, x0, x1, x2, l0, t0, t1, n0, c0⟩ := (HAL.out.below (hBr.trans (hB_.mono hBr.size))).cells
                          obtain ⟨m0, m1, m2, m3⟩ := CEL.out _ (hBr.trans (hB_.mono hBr.size))
                          go_simp
                          exact ⟨rfl, Below.refl _ _⟩
                        · refine .inr ⟨by kernel_rfl, fun w1_ hB_ => ?_⟩
                          obtain ⟨p0, p1, x0, x1, x2, l0, t0, t1, n0, c0⟩ := (HAL.out.below (hBr.trans (hB_.mono hBr.size))).cells
                          obtain ⟨m0, m1, m2, m3⟩ := CEL.out _ (hBr.trans (hB_.mono hBr.size))
                          go_simp
                          exact ⟨rfl, Below.refl _ _⟩
                        · refine .inr ⟨by kernel_rfl, fun w1_ hB_ => ?_⟩
                          obtain ⟨p0, p1, x0, x1, x2, l0, t0, t1, n0, c0⟩ := (HAL.out.below (hBr.trans (hB_.mono hBr.size))).cells
                          obtain ⟨m0, m1, m2, m3⟩ := CEL.out _ (hBr.trans (hB_.mono hBr.size))
                          go_simp
                          exact ⟨rfl, Below.refl _ _⟩
                        · refine .inr ⟨by kernel_rfl, fun w1_ hB_ => ?_⟩
                          obtain ⟨p0, p1, x0, x1, x2, l0, t0, t1, n0, c0⟩ := (HAL.out.below (hBr.trans (hB_.mono hBr.size))).cells
                          obtain ⟨m0, m1, m2, m3⟩ := CEL.out _ (hBr.trans (hB_.mono hBr.size))
                          go_simp
                          exact ⟨rfl, Below.refl _ _⟩
                        · refine .inr ⟨by kernel_rfl, fun w1_ hB_ => ?_⟩
                          obtain ⟨p0, p1, x0, x1, x2, l0, t0, t1, n0, c0⟩ := (HAL.out.below (hBr.trans (hB_.mono hBr.size))).cells
                          obtain ⟨m0, m1, m2, m3⟩ := CEL.out _ (hBr.trans (hB_.mono hBr.size))
                          go_simp
                          exact ⟨rfl, Below.refl _ _⟩
                        · refine .inr ⟨by kernel_rfl, fun w1_ hB_ => ?_⟩
                          obtain ⟨p0, p1, x0, x1, x2, l0, t0, t1, n0, c0⟩ := (HAL.out.below (hBr.trans (hB_.mono hBr.size))).cells
                          obtain ⟨m0, m1, m2, m3⟩ := CEL.out _ (hBr.trans (hB_.mono hBr.size))
                          go_simp
                          exact ⟨rfl, Below.refl _ _⟩
                        · refine .inr ⟨by kernel_rfl, fun w1_ hB_ => ?_⟩
                          obtain ⟨p0, p1, x0, x1, x2, l0, t0, t1, n0, c0⟩ := (HAL.out.below (hBr.trans (hB_.mono hBr.size))).cells
                          obtain ⟨m0, m1, m2, m3⟩ := CEL.out _ (hBr.trans (hB_.mono hBr.size))
                          go_simp
                          exact ⟨rfl, Below.refl _ _⟩
                        · refine .inr ⟨by kernel_rfl, fun w1_ hB_ => ?_⟩
                          obtain ⟨p0, p1, x0, x1, x2, l0, t0, t1, n0, c0⟩ := (HAL.out.below (hBr.trans (hB_.mono hBr.size))).cells
                          obtain ⟨m0, m1, m2, m3⟩ := CEL.out _ (hBr.trans (hB_.mono hBr.size))
                          go_simp
                          exact ⟨rfl, Below.refl _ _⟩
                        · refine .inr ⟨by kernel_rfl, fun w1_ hB_ => ?_⟩
                          obtain ⟨p0, p1, x0, x1, x2, l0, t0, t1, n0, c0⟩ := (HAL.out.below (hBr.trans (hB_.mono hBr.size))).cells
                          obtain ⟨m0, m1, m2, m3⟩ := CEL.out _ (hBr.trans (hB_.mono hBr.size))
                          go_simp
                          exact ⟨rfl, Below.refl _ _⟩
                        · exact .inl ⟨by kernel_rfl, rfl⟩
                        · exact .inl ⟨by kernel_rfl, rfl⟩
                        · exact .inl ⟨by kernel_rfl, rfl⟩
                        · exact .inl ⟨by kernel_rfl, rfl⟩
                        · exact .inl ⟨by kernel_rfl, rfl⟩
                        · exact .inl ⟨by kernel_rfl, rfl⟩
                        · exact .inl ⟨by kernel_rfl, rfl⟩
                        · exact .inl ⟨by kernel_rfl, rfl⟩
                        · refine .inr ⟨by kernel_rfl, fun w1_ hB_ => ?_⟩
                          obtain ⟨p0, p1, x0, x1, x2, l0, t0, t1, n0, c0⟩ := (HAL.out.below (hBr.trans (hB_.mono hBr.size))).cells
                          obtain ⟨m0, m1, m2, m3⟩ := CEL.out _ (hBr.trans (hB_.mono hBr.size))
                          go_simp
                          exact ⟨rfl, Below.refl _ _⟩
                        · refine .inr ⟨by kernel_rfl, fun w1_ hB_ => ?_⟩
                          obtain ⟨p0, p1, x0, x1, x2, l0, t0, t1, n0, c0⟩ := (HAL.out.below (hBr.trans (hB_.mono hBr.size))).cells
                          obtain ⟨m0, m1, m2, m3⟩ := CEL.out _ (hBr.trans (hB_.mono hBr.size))
                          go_simp
                          exact ⟨rfl, Below.refl _ _⟩
                        · refine .inr ⟨by kernel_rfl, fun w1_ hB_ => ?_⟩
                          obtain ⟨p0, p1, x0, x1, x2, l0, t0, t1, n0, c0⟩ := (HAL.out.below (hBr.trans (hB_.mono hBr.size))).cells
                          obtain ⟨m0, m1, m2, m3⟩ := CEL.out _ (hBr.trans (hB_.mono hBr.size))
                          go_simp
                          exact ⟨rfl, Below.refl _ _⟩
                        · refine .inr ⟨by kernel_rfl, fun w1_ hB_ => ?_⟩
                          obtain ⟨p0, p1, x0, x1, x2, l0, t0, t1, n0, c0⟩ := (HAL.out.below (hBr.trans (hB_.mono hBr.size))).cells
                          obtain ⟨m0, m1, m2, m3⟩ := CEL.out _ (hBr.trans (hB_.mono hBr.size))
                          go_simp
                          exact ⟨rfl, Below.refl _ _⟩
                        · refine .inr ⟨by kernel_rfl, fun w1_ hB_ => ?_⟩
                          obtain ⟨p0, p1, x0, x1, x2, l0, t0, t1, n0, c0⟩ := (HAL.out.below (hBr.trans (hB_.mono hBr.size))).cells
                          obtain ⟨m0, m1, m2, m3⟩ := CEL.out _ (hBr.trans (hB_.mono hBr.size))
                          go_simp
                          exact ⟨rfl, Below.refl _ _⟩
                        · refine .inr ⟨by kernel_rfl, fun w1_ hB_ => ?_⟩
                          obtain ⟨p0, p1, x0, x1, x2, l0, t0, t1, n0, c0⟩ := (HAL.out.below (hBr.trans (hB_.mono hBr.size))).cells
                          obtain ⟨m0, m1, m2, m3⟩ := CEL.out _ (hBr.trans (hB_.mono hBr.size))
                          go_simp
                          exact ⟨rfl, Below.refl _ _⟩
                        · refine .inr ⟨by kernel_rfl, fun w1_ hB_ => ?_⟩
                          obtain ⟨p0, p1, x0, x1, x2, l0, t0, t1, n0, c0⟩ := (HAL.out.below (hBr.trans (hB_.mono hBr.size))).cells
                          obtain ⟨m0, m1, m2, m3⟩ := CEL.out _ (hBr.trans (hB_.mono hBr.size))
                          go_simp
                          exact ⟨rfl, Below.refl _ _⟩
                        · refine .inr ⟨by kernel_rfl, fun w1_ hB_ => ?_⟩
                          obtain ⟨p0, p1, x0, x1, x2, l0, t0, t1, n0, c0⟩ := (HAL.out.below (hBr.trans (hB_.mono hBr.size))).cells
                          obtain ⟨m0, m1, m2, m3⟩ := CEL.out _ (hBr.trans (hB_.mono hBr.size))
                          go_simp
                          exact ⟨rfl, Below.refl _ _⟩
                        · exact .inl ⟨by kernel_rfl, rfl⟩
                        · exact .inl ⟨by kernel_rfl, rfl⟩
                        · exact .inl ⟨by kernel_rfl, rfl⟩
                        · exact .inl ⟨by kernel_rfl, rfl⟩
                        · exact .inl ⟨by kernel_rfl, rfl⟩
                        · exact .inl ⟨by kernel_rfl, rfl⟩
                        · exact .inl ⟨by kernel_rfl, rfl⟩
                        · exact .inl ⟨by kernel_rfl, rfl⟩
                        · refine .inr ⟨by kernel_rfl, fun w1_ hB_ => ?_⟩
                          obtain ⟨p0, p1, x0, x1, x2, l0, t0, t1, n0, c0⟩ := (HAL.out.below (hBr.trans (hB_.mono hBr.size))).cells
                          obtain ⟨m0, m1, m2, m3⟩ := CEL.out _ (hBr.trans (hB_.mono hBr.size))
                          go_simp
                          exact ⟨rfl, Below.refl _ _⟩
                        · refine .inr ⟨by kernel_rfl, fun w1_ hB_ => ?_⟩
                          obtain ⟨p0, p1, x0, x1, x2, l0, t0, t1, n0, c0⟩ := (HAL.out.below (hBr.trans (hB_.mono hBr.size))).cells
                          obtain ⟨m0, m1, m2, m3⟩ := CEL.out _ (hBr.trans (hB_.mono hBr.size))
                          go_simp
                          exact ⟨rfl, Below.refl _ _⟩
                        · exact .inl ⟨by kernel_rfl, rfl⟩
                        · exact .inl ⟨by kernel_rfl, rfl⟩
                        · exact .inl ⟨by kernel_rfl, rfl⟩
                        · exact .inl ⟨by kernel_rfl, rfl⟩
                        · exact .inl ⟨by kernel_rfl, rfl⟩
                        · exact .inl ⟨by kernel_rfl, rfl⟩
                        · exact .inl ⟨by kernel_rfl, rfl⟩
                        · refine .inr ⟨by kernel_rfl, fun w1_ hB_ => ?_⟩
                          obtain ⟨p0, p1, x0, x1, x2, l0, t0, t1, n0, c0⟩ := (HAL.out.below (hBr.trans (hB_.mono hBr.size))).cells
                          obtain ⟨m0, m1, m2, m3⟩ := CEL.out _ (hBr.trans (hB_.mono hBr.size))
                          go_simp
                          exact ⟨rfl, Below.refl _ _⟩
                        · refine .inr ⟨by kernel_rfl, fun w1_ hB_ => ?_⟩
                          obtain ⟨p0, p1, x0, x1, x2, l0, t0, t1, n0, c0⟩ := (HAL.out.below (hBr.trans (hB_.mono hBr.size))).cells
                          obtain ⟨m0, m1, m2, m3⟩ := CEL.out _ (hBr.trans (hB_.mono hBr.size))
                          go_simp
                          exact ⟨rfl, Below.refl _ _⟩
                      case next =>
                        intro W5 hB5
                        have hB6 := hBr.trans (hB5.mono hBr.size)
                        clear hB5
                        gi_wp2
                        exact ⟨⟨j + 1, by omega, by omega, by go_num, hB6⟩, by simp [intOf]; omega⟩
                    · have g8 : (a1 != a) = true := by simpa using g7
                      by_cases g6 : t = a1
                      · have HYX := Lib.hid (HS.out g6 g7)
                        have g9 : (t == a1) = true := by simpa using g6
                        clear g6
                        rw [HYX.out] at CEL
                        gi_wp2
                        refine wpIn_env (fin := ?fnB3) (wide1 lp) (by kernel_rfl) [81, 82, 83, 84, 85, 86, 87, 88, 89, 90, 91, 92, 93, 94, 95, 96, 97, 98, 99, 100, 101, 102, 103, 104, 105, 106, 107, 108, 109, 110, 111, 112, 113, 114, 115, 116, 117, 118, 119, 120, 121, 122, 123, 124]
                          [.slice (some ⟨bq, oq, none⟩) l.length c, .int .i64 j, .pointer (some ⟨bq, oq + j * 4, none⟩), .pointer (some ⟨bq, oq + j * 4, none⟩), .int .i64 t, .pointer (some ⟨W.heap.size, 0, none⟩), .int .i64 a1, .bool false, .bool false, undef, undef, undef, undef, undef, undef, undef, undef, .bool false, .bool false, .pointer (some ⟨W.heap.size, 0, none⟩), .int .i64 a1, .pointer (some ⟨w.heap.size + 1, 0, none⟩), .int .i64 a, .bool true, .bool true, .slice (some ⟨bq, oq, none⟩) l.length c, .int .i64 j, .pointer (some ⟨bq, oq + j * 4, none⟩), .pointer (some ⟨bq, oq + j * 4, none⟩), .int .i64 t, .pointer (some ⟨W.heap.size, 0, none⟩), .int .i64 a1, .bool true, .bool true, .bool true, .slice (some ⟨bq, oq, none⟩) l.length c, .int .i64 j, .pointer (some ⟨bq, oq + j * 4, none⟩), .pointer (some ⟨bq, oq + j * 4 + 1, none⟩), .agg #[.int .i64 x.off, .bool x.dst, .string x.abbr], .agg #[.int .i64 x.off, .bool x.dst, .string x.abbr], .bool false, .bool false, .bool false] (by kernel_rfl) ?fin ?steps ?next
                        case fin =>
                          simp only [putAll, Act.put, List.setIfInBounds_toArray, List.set_cons_succ, List.set_cons_zero]
                          rfl
                        case steps =>
                          refine ⟨?_, ?_, ?_, ?_, ?_, ?_, ?_, ?_, ?_, ?_, ?_, ?_, ?_, ?_, ?_, ?_, ?_, ?_, ?_, ?_, ?_, ?_, ?_, ?_, ?_, ?_, ?_, ?_, ?_, ?_, ?_, ?_, ?_, ?_, ?_, ?_, ?_, ?_, ?_, ?_, ?_, ?_, ?_, ?_, trivial⟩
                          · refine .inr ⟨by kernel_rfl, fun w1_ hB_ => ?_⟩
                            obtain ⟨p0, p1, x0, x1, x2, l0, t0, t1, n0, c0⟩ := (HAL.out.below (hBr.trans (hB_.mono hBr.size))).cells
                            obtain ⟨m0, m1, m2, m3⟩ := CEL.out _ (hBr.trans (hB_.mono hBr.size))
                            go_simp
                            exact ⟨rfl, Below.refl _ _⟩
                          · refine .inr ⟨by kernel_rfl, fun w1_ hB_ => ?_⟩
                            obtain ⟨p0, p1, x0, x1, x2, l0, t0, t1, n0, c0⟩ := (HAL.out.below (hBr.trans (hB_.mono hBr.size))).cells
                            obtain ⟨m0, m1, m2, m3⟩ := CEL.out _ (hBr.trans (hB_.mono hBr.size))
                            go_simp
                            exact ⟨rfl, Below.refl _ _⟩
                          · refine .inr ⟨by kernel_rfl, fun w1_ hB_ => ?_⟩
                            obtain ⟨p0, p1, x0, x1, x2, l0, t0, t1, n0, c0⟩ := (HAL.out.below (hBr.trans (hB_.mono hBr.size))).cells
                            obtain ⟨m0, m1, m2, m3⟩ := CEL.out _ (hBr.trans (hB_.mono hBr.size))
                            go_simp
                            exact ⟨rfl, Below.refl _ _⟩
                          · refine .inr ⟨by kernel_rfl, fun w1_ hB_ => ?_⟩
                            obtain ⟨p0, p1, x0, x1, x2, l0, t0, t1, n0, c0⟩ := (HAL.out.below (hBr.trans (hB_.mono hBr.size))).cells
                            obtain ⟨m0, m1, m2, m3⟩ := CEL.out _ (hBr.trans (hB_.mono hBr.size))
                            go_simp
                            exact ⟨rfl, Below.refl _ _⟩
                          · refine .inr ⟨by kernel_rfl, fun w1_ hB_ => ?_⟩
                            obtain ⟨p0, p1, x0, x1, x2, l0, t0, t1, n0, c0⟩ := (HAL.out.below (hBr.trans (hB_.mono hBr.size))).cells
                            obtain ⟨m0, m1, m2, m3⟩ := CEL.out _ (hBr.trans (hB_.mono hBr.size))
                            go_simp
                            exact ⟨rfl, Below.refl _ _⟩
                          · refine .inr ⟨by kernel_rfl, fun w1_ hB_ => ?_⟩
                            obtain ⟨p0, p1, x0, x1, x2, l0, t0, t1, n0, c0⟩ := (HAL.out.below (hBr.trans (hB_.mono hBr.size))).cells
                            obtain ⟨m0, m1, m2, m3⟩ := CEL.out _ (hBr.trans (hB_.mono hBr.size))
                            go_simp
                            exact ⟨rfl, Below.refl _ _⟩
                          · refine .inr ⟨by kernel_rfl, fun w1_ hB_ => ?_⟩
                            obtain ⟨p0, p1, x0, x1, x2, l0, t0, t1, n0, c0⟩ := (HAL.out.below (hBr.trans (hB_.mono hBr.size))).cells
                            obtain ⟨m0, m1, m2, m3⟩ := CEL.out _ (hBr.trans (hB_.mono hBr.size))
                            go_simp
                            exact ⟨rfl, Below.refl _ _⟩
                          · refine .inr ⟨by kernel_rfl, fun w1_ hB_ => ?_⟩
                            obtain ⟨p0, p1, x0, x1, x2, l0, t0, t1, n0, c0⟩ := (HAL.out.below (hBr.trans (hB_.mono hBr.size))).cells
                            obtain ⟨m0, m1, m2, m3⟩ := CEL.out _ (hBr.trans (hB_.mono hBr.size))
                            go_simp
                            exact ⟨rfl, Below.refl _ _⟩
                          · refine .inr ⟨by kernel_rfl, fun w1_ hB_ => ?_⟩
                            obtain ⟨p0, p1, x0, x1, x2, l0, t0, t1, n0, c0⟩ := (HAL.out.below (hBr.trans (hB_.mono hBr.size))).cells
                            obtain ⟨m0, m1, m2, m3⟩ := CEL.out _ (hBr.trans (hB_.mono hBr.size))
                            go_simp
                            exact ⟨rfl, Below.refl _ _⟩
                          · exact .inl ⟨by kernel_rfl, rfl⟩
                          · exact .inl ⟨by kernel_rfl, rfl⟩
                          · exact .inl ⟨by kernel_rfl, rfl⟩
                          · exact .inl ⟨by kernel_rfl, rfl⟩
                          · exact .inl ⟨by kernel_rfl, rfl⟩
                          · exact .inl ⟨by kernel_rfl, rfl⟩
                          · exact .inl ⟨by kernel_rfl, rfl⟩
                          · exact .inl ⟨by kernel_rfl, rfl⟩
                          · refine .inr ⟨by kernel_rfl, fun w1_ hB_ => ?_⟩
                            obtain ⟨p0, p1, x0, x1, x2, l0, t0, t1, n0, c0⟩ := (HAL.out.below (hBr.trans (hB_.mono hBr.size))).cells
                            obtain ⟨m0, m1, m2, m3⟩ := CEL.out _ (hBr.trans (hB_.mono hBr.size))
                            go_simp
                            exact ⟨rfl, Below.refl _ _⟩
                          · refine .inr ⟨by kernel_rfl, fun w1_ hB_ => ?_⟩
                            obtain ⟨p0, p1, x0, x1, x2, l0, t0, t1, n0, c0⟩ := (HAL.out.below (hBr.trans (hB_.mono hBr.size))).cells
                            obtain ⟨m0, m1, m2, m3⟩ := CEL.out _ (hBr.trans (hB_.mono hBr.size))
                            go_simp
                            exact ⟨rfl, Below.refl _ _⟩
                          · refine .inr ⟨by kernel_rfl, fun w1_ hB_ => ?_⟩
                            obtain ⟨p0, p1, x0, x1, x2, l0, t0, t1, n0, c0⟩ := (HAL.out.below (hBr.trans (hB_.mono hBr.size))).cells
                            obtain ⟨m0, m1, m2, m3⟩ := CEL.out _ (hBr.trans (hB_.mono hBr.size))
                            go_simp
                            exact ⟨rfl, Below.refl _ _⟩
                          · refine .inr ⟨by kernel_rfl, fun w1_ hB_ => ?_⟩
                            obtain ⟨p0, p1, x0, x1, x2, l0, t0, t1, n0, c0⟩ := (HAL.out.below (hBr.trans (hB_.mono hBr.size))).cells
                            obtain ⟨m0, m1, m2, m3⟩ := CEL.out _ (hBr.trans (hB_.mono hBr.size))
                            go_simp
                            exact ⟨rfl, Below.refl _ _⟩
                          · refine .inr ⟨by kernel_rfl, fun w1_ hB_ => ?_⟩
                            obtain ⟨p0, p1, x0, x1, x2, l0, t0, t1, n0, c0⟩ := (HAL.out.below (hBr.trans (hB_.mono hBr.size))).cells
                            obtain ⟨m0, m1, m2, m3⟩ := CEL.out _ (hBr.trans (hB_.mono hBr.size))
                            go_simp
                            exact ⟨rfl, Below.refl _ _⟩
                          · refine .inr ⟨by kernel_rfl, fun w1_ hB_ => ?_⟩
                            obtain ⟨p0, p1, x0, x1, x2, l0, t0, t1, n0, c0⟩ := (HAL.out.below (hBr.trans (hB_.mono hBr.size))).cells
                            obtain ⟨m0, m1, m2, m3⟩ := CEL.out _ (hBr.trans (hB_.mono hBr.size))
                            go_simp
                            exact ⟨rfl, Below.refl _ _⟩
                          · refine .inr ⟨by kernel_rfl, fun w1_ hB_ => ?_⟩
                            obtain ⟨p0, p1, x0, x1, x2, l0, t0, t1, n0, c0⟩ := (HAL.out.below (hBr.trans (hB_.mono hBr.size))).cells
                            obtain ⟨m0, m1, m2, m3⟩ := CEL.out _ (hBr.trans (hB_.mono hBr.size))
                            go_simp
                            exact ⟨rfl, Below.refl _ _⟩
                          · refine .inr ⟨by kernel_rfl, fun w1_ hB_ => ?_⟩
                            obtain ⟨p0, p1, x0, x1, x2, l0, t0, t1, n0, c0⟩ := (HAL.out.below (hBr.trans (hB_.mono hBr.size))).cells
                            obtain ⟨m0, m1, m2, m3⟩ := CEL.out _ (hBr.trans (hB_.mono hBr.size))
                            go_simp
                            exact ⟨rfl, Below.refl _ _⟩
                          · refine .inr ⟨by kernel_rfl, fun w1_ hB_ => ?_⟩
                            obtain ⟨p0, p1, x0, x1, x2, l0, t0, t1, n0, c0⟩ := (HAL.out.below (hBr.trans (hB_.mono hBr.size))).cells
                            obtain ⟨m0, m1, m2, m3⟩ := CEL.out _ (hBr.trans (hB_.mono hBr.size))
                            go_simp
                            exact ⟨rfl, Below.refl _ _⟩
                          · refine .inr ⟨by kernel_rfl, fun w1_ hB_ => ?_⟩
                            obtain ⟨p0, p1, x0, x1, x2, l0, t0, t1, n0, c0⟩ := (HAL.out.below (hBr.trans (hB_.mono hBr.size))).cells
                            obtain ⟨m0, m1, m2, m3⟩ := CEL.out _ (hBr.trans (hB_.mono hBr.size))
                            go_simp
                            exact ⟨rfl, Below.refl _ _⟩
                          · refine .inr ⟨by kernel_rfl, fun w1_ hB_ => ?_⟩
                            obtain ⟨p0, p1, x0, x1, x2, l0, t0, t1, n0, c0⟩ := (HAL.out.below (hBr.trans (hB_.mono hBr.size))).cells
                            obtain ⟨m0, m1, m2, m3⟩ := CEL.out _ (hBr.trans (hB_.mono hBr.size))
                            go_simp
                            exact ⟨rfl, Below.refl _ _⟩
                          · refine .inr ⟨by kernel_rfl, fun w1_ hB_ => ?_⟩
                            obtain ⟨p0, p1, x0, x1, x2, l0, t0, t1, n0, c0⟩ := (HAL.out.below (hBr.trans (hB_.mono hBr.size))).cells
                            obtain ⟨m0, m1, m2, m3⟩ := CEL.out _ (hBr.trans (hB_.mono hBr.size))
                            go_simp
                            exact ⟨rfl, Below.refl _ _⟩
                          · refine .inr ⟨by kernel_rfl, fun w1_ hB_ => ?_⟩
                            obtain ⟨p0, p1, x0, x1, x2, l0, t0, t1, n0, c0⟩ := (HAL.out.below (hBr.trans (hB_.mono hBr.size))).cells
                            obtain ⟨m0, m1, m2, m3⟩ := CEL.out _ (hBr.trans (hB_.mono hBr.size))
                            go_simp
                            exact ⟨rfl, Below.refl _ _⟩
                          · refine .inr ⟨by kernel_rfl, fun w1_ hB_ => ?_⟩
                            obtain ⟨p0, p1, x0, x1, x2, l0, t0, t1, n0, c0⟩ := (HAL.out.below (hBr.trans (hB_.mono hBr.size))).cells
                            obtain ⟨m0, m1, m2, m3⟩ := CEL.out _ (hBr.trans (hB_.mono hBr.size))
                            go_simp
                            exact ⟨rfl, Below.refl _ _⟩
                          · refine .inr ⟨by kernel_rfl, fun w1_ hB_ => ?_⟩
                            obtain ⟨p0, p1, x0, x1, x2, l0, t0, t1, n0, c0⟩ := (HAL.out.below (hBr.trans (hB_.mono hBr.size))).cells
                            obtain ⟨m0, m1, m2, m3⟩ := CEL.out _ (hBr.trans (hB_.mono hBr.size))
                            go_simp
                            exact ⟨rfl, Below.refl _ _⟩
                          · refine .inr ⟨by kernel_rfl, fun w1_ hB_ => ?_⟩
                            obtain ⟨p0, p1, x0, x1, x2, l0, t0, t1, n0, c0⟩ := (HAL.out.below (hBr.trans (hB_.mono hBr.size))).cells
                            obtain ⟨m0, m1, m2, m3⟩ := CEL.out _ (hBr.trans (hB_.mono hBr.size))
                            go_simp
                            exact ⟨rfl, Below.refl _ _⟩
                          · refine .inr ⟨by kernel_rfl, fun w1_ hB_ => ?_⟩
                            obtain ⟨p0, p1, x0, x1, x2, l0, t0, t1, n0, c0⟩ := (HAL.out.below (hBr.trans (hB_.mono hBr.size))).cells
                            obtain ⟨m0, m1, m2, m3⟩ := CEL.out _ (hBr.trans (hB_.mono hBr.size))
                            go_simp
                            exact ⟨rfl, Below.refl _ _⟩
                          · refine .inr ⟨by kernel_rfl, fun w1_ hB_ => ?_⟩
                            obtain ⟨p0, p1, x0, x1, x2, l0, t0, t1, n0, c0⟩ := (HAL.out.below (hBr.trans (hB_.mono hBr.size))).cells
                            obtain ⟨m0, m1, m2, m3⟩ := CEL.out _ (hBr.trans (hB_.mono hBr.size))
                            go_simp
                            exact ⟨rfl, Below.refl _ _⟩
                          · refine .inr ⟨by kernel_rfl, fun w1_ hB_ => ?_⟩
                            obtain ⟨p0, p1, x0, x1, x2, l0, t0, t1, n0, c0⟩ := (HAL.out.below (hBr.trans (hB_.mono hBr.size))).cells
                            obtain ⟨m0, m1, m2, m3⟩ := CEL.out _ (hBr.trans (hB_.mono hBr.size))
                            go_simp
                            exact ⟨rfl, Below.refl _ _⟩
                          · refine .inr ⟨by kernel_rfl, fun w1_ hB_ => ?_⟩
                            obtain ⟨p0, p1, x0, x1, x2, l0, t0, t1, n0, c0⟩ := (HAL.out.below (hBr.trans (hB_.mono hBr.size))).cells
                            obtain ⟨m0, m1, m2, m3⟩ := CEL.out _ (hBr.trans (hB_.mono hBr.size))
                            go_simp
                            exact ⟨rfl, Below.refl _ _⟩
                          · refine .inr ⟨by kernel_rfl, fun w1_ hB_ => ?_⟩
                            obtain ⟨p0, p1, x0, x1, x2, l0, t0, t1, n0, c0⟩ := (HAL.out.below (hBr.trans (hB_.mono hBr.size))).cells
                            obtain ⟨m0, m1, m2, m3⟩ := CEL.out _ (hBr.trans (hB_.mono hBr.size))
                            go_simp
                            exact ⟨rfl, Below.refl _ _⟩
                          · refine .inr ⟨by kernel_rfl, fun w1_ hB_ => ?_⟩
                            obtain ⟨p0, p1, x0, x1, x2, l0, t0, t1, n0, c0⟩ := (HAL.out.below (hBr.trans (hB_.mono hBr.size))).cells
                            obtain ⟨m0, m1, m2, m3⟩ := CEL.out _ (hBr.trans (hB_.mono hBr.size))
                            go_simp
                            exact ⟨rfl, Below.refl _ _⟩
                          · refine .inr ⟨by kernel_rfl, fun w1_ hB_ => ?_⟩
                            obtain ⟨p0, p1, x0, x1, x2, l0, t0, t1, n0, c0⟩ := (HAL.out.below (hBr.trans (hB_.mono hBr.size))).cells
                            obtain ⟨m0, m1, m2, m3⟩ := CEL.out _ (hBr.trans (hB_.mono hBr.size))
                            go_simp
                            exact ⟨rfl, Below.refl _ _⟩
                          · refine .inr ⟨by kernel_rfl, fun w1_ hB_ => ?_⟩
                            obtain ⟨p0, p1, x0, x1, x2, l0, t0, t1, n0, c0⟩ := (HAL.out.below (hBr.trans (hB_.mono hBr.size))).cells
                            obtain ⟨m0, m1, m2, m3⟩ := CEL.out _ (hBr.trans (hB_.mono hBr.size))
                            go_simp
                            exact ⟨rfl, Below.refl _ _⟩
                          · refine .inr ⟨by kernel_rfl, fun w1_ hB_ => ?_⟩
                            obtain ⟨p0, p1, x0, x1, x2, l0, t0, t1, n0, c0⟩ := (HAL.out.below (hBr.trans (hB_.mono hBr.size))).cells
                            obtain ⟨m0, m1, m2, m3⟩ := CEL.out _ (hBr.trans (hB_.mono hBr.size))
                            go_simp
                            exact ⟨rfl, Below.refl _ _⟩
                          · refine .inr ⟨by kernel_rfl, fun w1_ hB_ => ?_⟩
                            obtain ⟨p0, p1, x0, x1, x2, l0, t0, t1, n0, c0⟩ := (HAL.out.below (hBr.trans (hB_.mono hBr.size))).cells
                            obtain ⟨m0, m1, m2, m3⟩ := CEL.out _ (hBr.trans (hB_.mono hBr.size))
                            go_simp
                            exact ⟨rfl, Below.refl _ _⟩
                          · refine .inr ⟨by kernel_rfl, fun w1_ hB_ => ?_⟩
                            obtain ⟨p0, p1, x0, x1, x2, l0, t0, t1, n0, c0⟩ := (HAL.out.below (hBr.trans (hB_.mono hBr.size))).cells
                            obtain ⟨m0, m1, m2, m3⟩ := CEL.out _ (hBr.trans (hB_.mono hBr.size))
                            go_simp
                            exact ⟨rfl, Below.refl _ _⟩
                        case next =>
                          intro W5 hB5
                          have hB6 := hBr.trans (hB5.mono hBr.size)
                          clear hB5
                          gi_wp2
                          exact ⟨⟨j + 1, by omega, by omega, by go_num, hB6⟩, by simp [intOf]; omega⟩
                      · have g9 : (t == a1) = false := by simpa using g6
                        gi_wp2
                        refine wpIn_env (fin := ?fnB2) (wide1 lp) (by kernel_rfl) [81, 82, 83, 84, 85, 86, 87, 88, 89, 90, 91, 92, 93, 94, 95, 96, 97, 98, 99, 100, 101, 102, 103, 104, 105, 106, 107, 108, 109, 110, 111, 112, 113, 114, 115, 116, 117, 118, 119, 120, 121, 122, 123, 124]
                          [.slice (some ⟨bq, oq, none⟩) l.length c, .int .i64 j, .pointer (some ⟨bq, oq + j * 4, none⟩), .pointer (some ⟨bq, oq + j * 4, none⟩), .int .i64 t, .pointer (some ⟨W.heap.size, 0, none⟩), .int .i64 a1, .bool false, .bool false, undef, undef, undef, undef, undef, undef, undef, undef, .bool false, .bool false, .pointer (some ⟨W.heap.size, 0, none⟩), .int .i64 a1, .pointer (some ⟨w.heap.size + 1, 0, none⟩), .int .i64 a, .bool true, .bool true, .slice (some ⟨bq, oq, none⟩) l.length c, .int .i64 j, .pointer (some ⟨bq, oq + j * 4, none⟩), .pointer (some ⟨bq, oq + j * 4, none⟩), .int .i64 t, .pointer (some ⟨W.heap.size, 0, none⟩), .int .i64 a1, .bool false, .bool false, .bool false, undef, undef, undef, undef, undef, undef, undef, .bool false, .bool false] (by kernel_rfl) ?fin ?steps ?next
                        case fin =>
                          simp only [putAll, Act.put, List.setIfInBounds_toArray, List.set_cons_succ, List.set_cons_zero]
                          rfl
                        case steps =>
                          refine ⟨?_, ?_, ?_, ?_, ?_, ?_, ?_, ?_, ?_, ?_, ?_, ?_, ?_, ?_, ?_, ?_, ?_, ?_, ?_, ?_, ?_, ?_, ?_, ?_, ?_, ?_, ?_, ?_, ?_, ?_, ?_, ?_, ?_, ?_, ?_, ?_, ?_, ?_, ?_, ?_, ?_, ?_, ?_, ?_, trivial⟩
                          · refine .inr ⟨by kernel_rfl, fun w1_ hB_ => ?_⟩
                            obtain ⟨p0, p1, x0, x1, x2, l0, t0, t1, n0, c0⟩ := (HAL.out.below (hBr.trans (hB_.mono hBr.size))).cells
                            obtain ⟨m0, m1, m2, m3⟩ := CEL.out _ (hBr.trans (hB_.mono hBr.size))
                            go_simp
                            exact ⟨rfl, Below.refl _ _⟩
                          · refine .inr ⟨by kernel_rfl, fun w1_ hB_ => ?_⟩
                            obtain ⟨p0, p1, x0, x1, x2, l0, t0, t1, n0, c0⟩ := (HAL.out.below (hBr.trans (hB_.mono hBr.size))).cells
                            obtain ⟨m0, m1, m2, m3⟩ := CEL.out _ (hBr.trans (hB_.mono hBr.size))
                            go_simp
                            exact ⟨rfl, Below.refl _ _⟩
                          · refine .inr ⟨by kernel_rfl, fun w1_ hB_ => ?_⟩
                            obtain ⟨p0, p1, x0, x1, x2, l0, t0, t1, n0, c0⟩ := (HAL.out.below (hBr.trans (hB_.mono hBr.size))).cells
                            obtain ⟨m0, m1, m2, m3⟩ := CEL.out _ (hBr.trans (hB_.mono hBr.size))
                            go_simp
                            exact ⟨rfl, Below.refl _ _⟩
                          · refine .inr ⟨by kernel_rfl, fun w1_ hB_ => ?_⟩
                            obtain ⟨p0, p1, x0, x1, x2, l0, t0, t1, n0, c0⟩ := (HAL.out.below (hBr.trans (hB_.mono hBr.size))).cells
                            obtain ⟨m0, m1, m2, m3⟩ := CEL.out _ (hBr.trans (hB_.mono hBr.size))
                            go_simp
                            exact ⟨rfl, Below.refl _ _⟩
                          · refine .inr ⟨by kernel_rfl, fun w1_ hB_ => ?_⟩
                            obtain ⟨p0, p1, x0, x1, x2, l0, t0, t1, n0, c0⟩ := (HAL.out.below (hBr.trans (hB_.mono hBr.size))).cells
                            obtain ⟨m0, m1, m2, m3⟩ := CEL.out _ (hBr.trans (hB_.mono hBr.size))
                            go_simp
                            exact ⟨rfl, Below.refl _ _⟩
                          · refine .inr ⟨by kernel_rfl, fun w1_ hB_ => ?_⟩
                            obtain ⟨p0, p1, x0, x1, x2, l0, t0, t1, n0, c0⟩ := (HAL.out.below (hBr.trans (hB_.mono hBr.size))).cells
                            obtain ⟨m0, m1, m2, m3⟩ := CEL.out _ (hBr.trans (hB_.mono hBr.size))
                            go_simp
                            exact ⟨rfl, Below.refl _ _⟩
                          · refine .inr ⟨by kernel_rfl, fun w1_ hB_ => ?_⟩
                            obtain ⟨p0, p1, x0, x1, x2, l0, t0, t1, n0, c0⟩ := (HAL.out.below (hBr.trans (hB_.mono hBr.size))).cells
                            obtain ⟨m0, m1, m2, m3⟩ := CEL.out _ (hBr.trans (hB_.mono hBr.size))
                            go_simp
                            exact ⟨rfl, Below.refl _ _⟩
                          · refine .inr ⟨by kernel_rfl, fun w1_ hB_ => ?_⟩
                            obtain ⟨p0, p1, x0, x1, x2, l0, t0, t1, n0, c0⟩ := (HAL.out.below (hBr.trans (hB_.mono hBr.size))).cells
                            obtain ⟨m0, m1, m2, m3⟩ := CEL.out _ (hBr.trans (hB_.mono hBr.size))
                            go_simp
                            exact ⟨rfl, Below.refl _ _⟩
                          · refine .inr ⟨by kernel_rfl, fun w1_ hB_ => ?_⟩
                            obtain ⟨p0, p1, x0, x1, x2, l0, t0, t1, n0, c0⟩ := (HAL.out.below (hBr.trans (hB_.mono hBr.size))).cells
                            obtain ⟨m0, m1, m2, m3⟩ := CEL.out _ (hBr.trans (hB_.mono hBr.size))
                            go_simp
                            exact ⟨rfl, Below.refl _ _⟩
                          · exact .inl ⟨by kernel_rfl, rfl⟩
                          · exact .inl ⟨by kernel_rfl, rfl⟩
                          · exact .inl ⟨by kernel_rfl, rfl⟩
                          · exact .inl ⟨by kernel_rfl, rfl⟩
                          · exact .inl ⟨by kernel_rfl, rfl⟩
                          · exact .inl ⟨by kernel_rfl, rfl⟩
                          · exact .inl ⟨by kernel_rfl, rfl⟩
                          · exact .inl ⟨by kernel_rfl, rfl⟩
                          · refine .inr ⟨by kernel_rfl, fun w1_ hB_ => ?_⟩
                            obtain ⟨p0, p1, x0, x1, x2, l0, t0, t1, n0, c0⟩ := (HAL.out.below (hBr.trans (hB_.mono hBr.size))).cells
                            obtain ⟨m0, m1, m2, m3⟩ := CEL.out _ (hBr.trans (hB_.mono hBr.size))
                            go_simp
                            exact ⟨rfl, Below.refl _ _⟩
                          · refine .inr ⟨by kernel_rfl, fun w1_ hB_ => ?_⟩
                            obtain ⟨p0, p1, x0, x1, x2, l0, t0, t1, n0, c0⟩ := (HAL.out.below (hBr.trans (hB_.mono hBr.size))).cells
                            obtain ⟨m0, m1, m2, m3⟩ := CEL.out _ (hBr.trans (hB_.mono hBr.size))
                            go_simp
                            exact ⟨rfl, Below.refl _ _⟩
                          · refine .inr ⟨by kernel_rfl, fun w1_ hB_ => ?_⟩
                            obtain ⟨p0, p1, x0, x1, x2, l0, t0, t1, n0, c0⟩ := (HAL.out.below (hBr.trans (hB_.mono hBr.size))).cells
                            obtain ⟨m0, m1, m2, m3⟩ := CEL.out _ (hBr.trans (hB_.mono hBr.size))
                            go_simp
                            exact ⟨rfl, Below.refl _ _⟩
                          · refine .inr ⟨by kernel_rfl, fun w1_ hB_ => ?_⟩
                            obtain ⟨p0, p1, x0, x1, x2, l0, t0, t1, n0, c0⟩ := (HAL.out.below (hBr.trans (hB_.mono hBr.size))).cells
                            obtain ⟨m0, m1, m2, m3⟩ := CEL.out _ (hBr.trans (hB_.mono hBr.size))
                            go_simp
                            exact ⟨rfl, Below.refl _ _⟩
                          · refine .inr ⟨by kernel_rfl, fun w1_ hB_ => ?_⟩
                            obtain ⟨p0, p1, x0, x1, x2, l0, t0, t1, n0, c0⟩ := (HAL.out.below (hBr.trans (hB_.mono hBr.size))).cells
                            obtain ⟨m0, m1, m2, m3⟩ := CEL.out _ (hBr.trans (hB_.mono hBr.size))
                            go_simp
                            exact ⟨rfl, Below.refl _ _⟩
                          · refine .inr ⟨by kernel_rfl, fun w1_ hB_ => ?_⟩
                            obtain ⟨p0, p1, x0, x1, x2, l0, t0, t1, n0, c0⟩ := (HAL.out.below (hBr.trans (hB_.mono hBr.size))).cells
                            obtain ⟨m0, m1, m2, m3⟩ := CEL.out _ (hBr.trans (hB_.mono hBr.size))
                            go_simp
                            exact ⟨rfl, Below.refl _ _⟩
                          · refine .inr ⟨by kernel_rfl, fun w1_ hB_ => ?_⟩
                            obtain ⟨p0, p1, x0, x1, x2, l0, t0, t1, n0, c0⟩ := (HAL.out.below (hBr.trans (hB_.mono hBr.size))).cells
                            obtain ⟨m0, m1, m2, m3⟩ := CEL.out _ (hBr.trans (hB_.mono hBr.size))
                            go_simp
                            exact ⟨rfl, Below.refl _ _⟩
                          · refine .inr ⟨by kernel_rfl, fun w1_ hB_ => ?_⟩
                            obtain ⟨p0, p1, x0, x1, x2, l0, t0, t1, n0, c0⟩ := (HAL.out.below (hBr.trans (hB_.mono hBr.size))).cells
                            obtain ⟨m0, m1, m2, m3⟩ := CEL.out _ (hBr.trans (hB_.mono hBr.size))
                            go_simp
                            exact ⟨rfl, Below.refl _ _⟩
                          · refine .inr ⟨by kernel_rfl, fun w1_ hB_ => ?_⟩
                            obtain ⟨p0, p1, x0, x1, x2, l0, t0, t1, n0, c0⟩ := (HAL.out.below (hBr.trans (hB_.mono hBr.size))).cells
                            obtain ⟨m0, m1, m2, m3⟩ := CEL.out _ (hBr.trans (hB_.mono hBr.size))
                            go_simp
                            exact ⟨rfl, Below.refl _ _⟩
                          · refine .inr ⟨by kernel_rfl, fun w1_ hB_ => ?_⟩
                            obtain ⟨p0, p1, x0, x1, x2, l0, t0, t1, n0, c0⟩ := (HAL.out.below (hBr.trans (hB_.mono hBr.size))).cells
                            obtain ⟨m0, m1, m2, m3⟩ := CEL.out _ (hBr.trans (hB_.mono hBr.size))
                            go_simp
                            exact ⟨rfl, Below.refl _ _⟩
                          · refine .inr ⟨by kernel_rfl, fun w1_ hB_ => ?_⟩
                            obtain ⟨p0, p1, x0, x1, x2, l0, t0, t1, n0, c0⟩ := (HAL.out.below (hBr.trans (hB_.mono hBr.size))).cells
                            obtain ⟨m0, m1, m2, m3⟩ := CEL.out _ (hBr.trans (hB_.mono hBr.size))
                            go_simp
                            exact ⟨rfl, Below.refl _ _⟩
                          · refine .inr ⟨by kernel_rfl, fun w1_ hB_ => ?_⟩
                            obtain ⟨p0, p1, x0, x1, x2, l0, t0, t1, n0, c0⟩ := (HAL.out.below (hBr.trans (hB_.mono hBr.size))).cells
                            obtain ⟨m0, m1, m2, m3⟩ := CEL.out _ (hBr.trans (hB_.mono hBr.size))
                            go_simp
                            exact ⟨rfl, Below.refl _ _⟩
                          · refine .inr ⟨by kernel_rfl, fun w1_ hB_ => ?_⟩
                            obtain ⟨p0, p1, x0, x1, x2, l0, t0, t1, n0, c0⟩ := (HAL.out.below (hBr.trans (hB_.mono hBr.size))).cells
                            obtain ⟨m0, m1, m2, m3⟩ := CEL.out _ (hBr.trans (hB_.mono hBr.size))
                            go_simp
                            exact ⟨rfl, Below.refl _ _⟩
                          · refine .inr ⟨by kernel_rfl, fun w1_ hB_ => ?_⟩
                            obtain ⟨p0, p1, x0, x1, x2, l0, t0, t1, n0, c0⟩ := (HAL.out.below (hBr.trans (hB_.mono hBr.size))).cells
                            obtain ⟨m0, m1, m2, m3⟩ := CEL.out _ (hBr.trans (hB_.mono hBr.size))
                            go_simp
                            exact ⟨rfl, Below.refl _ _⟩
                          · refine .inr ⟨by kernel_rfl, fun w1_ hB_ => ?_⟩
                            obtain ⟨p0, p1, x0, x1, x2, l0, t0, t1, n0, c0⟩ := (HAL.out.below (hBr.trans (hB_.mono hBr.size))).cells
                            obtain ⟨m0, m1, m2, m3⟩ := CEL.out _ (hBr.trans (hB_.mono hBr.size))
                            go_simp
                            exact ⟨rfl, Below.refl _ _⟩
                          · refine .inr ⟨by kernel_rfl, fun w1_ hB_ => ?_⟩
                            obtain ⟨p0, p1, x0, x1, x2, l0, t0, t1, n0, c0⟩ := (HAL.out.below (hBr.trans (hB_.mono hBr.size))).cells
                            obtain ⟨m0, m1, m2, m3⟩ := CEL.out _ (hBr.trans (hB_.mono hBr.size))
                            go_simp
                            exact ⟨rfl, Below.refl _ _⟩
                          · refine .inr ⟨by kernel_rfl, fun w1_ hB_ => ?_⟩
                            obtain ⟨p0, p1, x0, x1, x2, l0, t0, t1, n0, c0⟩ := (HAL.out.below (hBr.trans (hB_.mono hBr.size))).cells
                            obtain ⟨m0, m1, m2, m3⟩ := CEL.out _ (hBr.trans (hB_.mono hBr.size))
                            go_simp
                            exact ⟨rfl, Below.refl _ _⟩
                          · refine .inr ⟨by kernel_rfl, fun w1_ hB_ => ?_⟩
                            obtain ⟨p0, p1, x0, x1, x2, l0, t0, t1, n0, c0⟩ := (HAL.out.below (hBr.trans (hB_.mono hBr.size))).cells
                            obtain ⟨m0, m1, m2, m3⟩ := CEL.out _ (hBr.trans (hB_.mono hBr.size))
                            go_simp
                            exact ⟨rfl, Below.refl _ _⟩
                          · exact .inl ⟨by kernel_rfl, rfl⟩
                          · exact .inl ⟨by kernel_rfl, rfl⟩
                          · exact .inl ⟨by kernel_rfl, rfl⟩
                          · exact .inl ⟨by kernel_rfl, rfl⟩
                          · exact .inl ⟨by kernel_rfl, rfl⟩
                          · exact .inl ⟨by kernel_rfl, rfl⟩
                          · exact .inl ⟨by kernel_rfl, rfl⟩
                          · refine .inr ⟨by kernel_rfl, fun w1_ hB_ => ?_⟩
                            obtain ⟨p0, p1, x0, x1, x2, l0, t0, t1, n0, c0⟩ := (HAL.out.below (hBr.trans (hB_.mono hBr.size))).cells
                            obtain ⟨m0, m1, m2, m3⟩ := CEL.out _ (hBr.trans (hB_.mono hBr.size))
                            go_simp
                            exact ⟨rfl, Below.refl _ _⟩
                          · refine .inr ⟨by kernel_rfl, fun w1_ hB_ => ?_⟩
                            obtain ⟨p0, p1, x0, x1, x2, l0, t0, t1, n0, c0⟩ := (HAL.out.below (hBr.trans (hB_.mono hBr.size))).cells
                            obtain ⟨m0, m1, m2, m3⟩ := CEL.out _ (hBr.trans (hB_.mono hBr.size))
                            go_simp
                            exact ⟨rfl, Below.refl _ _⟩
                        case next =>
                          intro W5 hB5
                          have hB6 := hBr.trans (hB5.mono hBr.size)
                          clear hB5
                          gi_wp2
                          exact ⟨⟨j + 1, by omega, by omega, by go_num, hB6⟩, by simp [intOf]; omega⟩
                · obtain rfl : j = l.length := by omega
                  clear CEL0 HLAT HSAM
                  gi_wp2
                  refine HK2.out _ _ ?_
                  clear HK2
                  have hsr := HAL.out.below hBr
                  obtain ⟨p0, p1, x0, x1, x2, l0, t0, t1, n0, c0⟩ := hsr.cells
                  have fn := hsr.bn.frozen 0
                  have fc := hsr.bc.frozen 0
                  have HSR := Lib.hid hsr
                  clear hsr x0 x1 x2 p0 t0 t1
                  have hncW : w2.heap.size + 1 < wr.heap.size := HSR.out.bc.lt
                  have hnl : pre.length < l.length := by have := HKK.out; have := hk1.1; omega
                  gi_wp2
                  have hf : Fr (fun k => O k ∨ D k) Wb ((wr.setCell ⟨w2.heap.size, 0, none⟩ (.int .i64 b1)).setCell ⟨w2.heap.size + 1, 0, none⟩ (.int .i64 (pre.length + 1))) := ((Fr.of_below hBr (Nat.le_refl _)).then (Fr.setCell _ 0 _ (.inl HOS.out.2.1))).then (Fr.setCell _ 0 _ (.inl HOS.out.2.2))
                  refine ⟨O, fun k h => .inl h, HBO.out.fr hf, hf, ⟨HOS.out.1.1, HOS.out.1.2, HOS.out.2.1, HOS.out.2.2⟩, (HSR.out.bl.other (by omega) 0 _).other (by omega) 0 _, (HSR.out.bt.other (by omega) 0 _).other (by omega) 0 _, ?_, ?_⟩
                  · have e : nx l a b k0 k1 (pre ++ [k]).length = b1 := by rw [List.length_append]; exact HNX.out
                    rw [e]
                    exact (HSR.out.bn.set 0 (.int .i64 b1)).other (by omega) 0 _
                  · have e : ((pre ++ [k]).length : Int) = pre.length + 1 := by simp
                    rw [e]
                    exact (HSR.out.bc.other (by omega) 0 _).set 0 _
          case done =>
            intro D xs O W hD hS hI hO hBO hOD hfr hK
            obtain ⟨⟨o1, o2, o3, o4⟩, hl1, ht1, hn1, hc1⟩ := hI
            rw [nx_end hS h01] at hn1
            have hr3l := hs3.r.lt
            have hr5 : Blk W (w.heap.size + 2) 4 #[.bool false] := hs3.r.fr hfr (by omega)
            have hB5 : Below w.heap.size w W := hs3.bel.trans (hfr.below hs3.bel.size (fun k hk h => by omega))
            have hDr : D ≠ w.heap.size + 2 := by omega
            have HR5 := Lib.hid hr5
            have HB5 := Lib.hid hB5
            have HK := Lib.hid hK
            have n0 := hn1.cell 0 (v := .int .i64 b) rfl
            have t0 := ht1.cell 0 (v := .int .i64 a) rfl
            have t1 := ht1.cell 1 (v := .int .i64 b) rfl
            have hge : decide (b ≤ a) = false := by simpa using hab
            clear hr5 hB5 hK o1 o2 o3 o4 hl1 ht1 hn1 hc1 hO hBO hOD hfr HCL HS1 HS2 heq hs3 hc3 hf3 ht3 hnb hcb hb3 hS
            refine HK0.out _ _ ?_
            clear HK0
            go_wp2_with fail
            refine (awake_any _).mono ?_
            rintro e wz ⟨rfl, hbz⟩
            have hrz := HR5.out.below hbz HR5.out.lt
            have gz := hrz.frozen 0
            have cz : wz.cell? ⟨w.heap.size + 2, 0, none⟩ = some (.bool false) := hrz.cell 0 rfl
            have HZ := Lib.hid (fin_facts HK.out hbz hrz hDr)
            have hBz := HB5.out.trans (hbz.mono HB5.out.size)
            clear hrz hbz
            go_wp2_with fail
            refine ⟨by simp, .inl ⟨_, _, rfl, run_takeDeferred HZ.out.1, ?_⟩⟩
            refine ⟨.bool true, ?_, rfl, fin_below (hBz.setCell (by show w.heap.size ≤ w.heap.size + 1 + 1; omega) _) (by omega)⟩
            have hc := HZ.out.2
            simp [results, Try.f4, go_sem, hc]
        · have hge : decide (b ≤ a) = true := by simp; omega
          refine range_own (α := Nat) rfl (by omega) (gf := 21) (lb := #[.pointer (some ⟨w1.heap.size, 0, none⟩), .pointer (some ⟨w1.heap.size + 1, 0, none⟩), .pointer (some ⟨w1.heap.size + 2, 0, none⟩)]) rfl trivial (enters_of Try.func21 (by kernel_rfl) rfl)
            (encs := fun _ => #[undef, undef]) (R := fun _ _ _ _ => False) (K := fun _ => False)
            (fun W hW => spans1_none 7 _ _ _ (clocksV (.slice A l.length c)) a b W (hc3.below hW hc3.lt) (hf3.below hW hf3.lt) (ht3.below hW ht3.lt) (.inr ⟨_, rfl, by omega⟩) _ _ _)
            (fun _ => rfl) (fun _ _ _ => True) (fun _ _ _ _ => False) (fun _ _ _ _ h _ => h) (fun _ _ _ _ _ h _ => h) (fun _ => False) trivial (fun k hk => hk.elim) (fun k hk => hk.elim) (fun k hk => hk.elim) ?round ?done ?stop
          case round =>
            intro lp pre k O D W hI hBO hBD hDO hR
            exact hR.elim
          case stop =>
            intro _ _ _ _ _ _ h
            exact h.elim
          case done =>
            intro D xs O W hD hS hI hO hBO hOD hfr hK
            have hbw : Below W3.heap.size W3 W := hfr.below (Nat.le_refl _) (fun k _ h => by rcases h with h | h <;> exact h)
            have hs5 := hs3.below hbw
            have hr3l := hs3.r.lt
            have hDr : D ≠ w.heap.size + 2 := by omega
            have HR5 := Lib.hid hs5.r
            have HB5 := Lib.hid hs5.bel
            have HK := Lib.hid hK
            have c0 := (hcb.below hbw hcb.lt).cell 0 (v := .int .i64 0) rfl
            have t0 := hs5.t.cell 0 (v := .int .i64 a) rfl
            have t1 := hs5.t.cell 1 (v := .int .i64 b) rfl
            clear hI hO hBO hOD hfr hK hS hbw hs5 HCL HS1 HS2 heq hs3 hc3 hf3 ht3 hnb hcb hb3
            refine HK0.out _ _ ?_
            clear HK0
            go_wp2_with fail
            refine (awake_any _).mono ?_
            rintro e wz ⟨rfl, hbz⟩
            have hrz := HR5.out.below hbz HR5.out.lt
            have gz := hrz.frozen 0
            have cz : wz.cell? ⟨w.heap.size + 2, 0, none⟩ = some (.bool false) := hrz.cell 0 rfl
            have HZ := Lib.hid (fin_facts HK.out hbz hrz hDr)
            have hBz := HB5.out.trans (hbz.mono HB5.out.size)
            clear hrz hbz
            go_wp2_with fail
            refine ⟨by simp, .inl ⟨_, _, rfl, run_takeDeferred HZ.out.1, ?_⟩⟩
            refine ⟨.bool true, ?_, rfl, fin_below (hBz.setCell (by show w.heap.size ≤ w.heap.size + 1 + 1; omega) _) (by omega)⟩
            have hc := HZ.out.2
            simp [results, Try.f4, go_sem, hc]
end Go.Proofs.Ytlkpkmdomecopaa
