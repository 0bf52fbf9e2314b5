/-
  Layer 20: gap, walked.
-/
import Derived.Test.YtlkpkmdomecopaaLAll
namespace Go.Proofs.Ytlkpkmdomecopaa
open Go Go.RowKit Go.Shelf
attribute [local go_sem] Oper.semAt_some
set_option maxRecDepth 100000

/-- What is found. -/
structure Fnd where
  kind : Int
  at_ : Int
  chg : Chg
def fndA (f : Fnd) : Value := .agg #[.int .i64 f.kind, .int .i64 f.at_, .int .i64 f.chg.at_, .int .i64 f.chg.loc.off, .bool f.chg.loc.dst, .string f.chg.loc.abbr]
abbrev FndB (W : World) (b : Nat) (f : Fnd) : Prop := Blk W b 36 #[.int .i64 f.kind, .int .i64 f.at_, .int .i64 f.chg.at_, .int .i64 f.chg.loc.off, .bool f.chg.loc.dst, .string f.chg.loc.abbr]
def Fnd.zero : Fnd := ⟨0, 0, .zero⟩
theorem FndB.cells {W : World} {b : Nat} {f : Fnd} (h : FndB W b f) : W.cell? ⟨b, 0, none⟩ = some (.int .i64 f.kind) ∧ W.cell? ⟨b, 1, none⟩ = some (.int .i64 f.at_) ∧ W.cell? ⟨b, 2, none⟩ = some (.int .i64 f.chg.at_) ∧ W.cell? ⟨b, 3, none⟩ = some (.int .i64 f.chg.loc.off) ∧ W.cell? ⟨b, 4, none⟩ = some (.bool f.chg.loc.dst) ∧ W.cell? ⟨b, 5, none⟩ = some (.string f.chg.loc.abbr) :=
  ⟨h.cell 0 rfl, h.cell 1 rfl, h.cell 2 rfl, h.cell 3 rfl, h.cell 4 rfl, h.cell 5 rfl⟩
def set6 (W : World) (b : Nat) (f : Fnd) : World := (((((W.setCell ⟨b, 0, none⟩ (.int .i64 f.kind)).setCell ⟨b, 1, none⟩ (.int .i64 f.at_)).setCell ⟨b, 2, none⟩ (.int .i64 f.chg.at_)).setCell ⟨b, 3, none⟩ (.int .i64 f.chg.loc.off)).setCell ⟨b, 4, none⟩ (.bool f.chg.loc.dst)).setCell ⟨b, 5, none⟩ (.string f.chg.loc.abbr)
theorem FndB.set {W : World} {b : Nat} {f : Fnd} (h : FndB W b f) (g : Fnd) : FndB (set6 W b g) b g := (((((Blk.set h 0 _).set 1 _).set 2 _).set 3 _).set 4 _).set 5 _
theorem set6_other {W : World} {b b' : Nat} {t : TypeId} {cs : Array Value} (h : Blk W b t cs) (hne : b ≠ b') (f : Fnd) : Blk (set6 W b' f) b t cs := (((((h.other hne 0 _).other hne 1 _).other hne 2 _).other hne 3 _).other hne 4 _).other hne 5 _
theorem set6_fr {T : Nat → Prop} (W : World) {b : Nat} (f : Fnd) (h : T b) : Fr T W (set6 W b f) := (((((Fr.setCell W 0 _ h).then (Fr.setCell _ 1 _ h)).then (Fr.setCell _ 2 _ h)).then (Fr.setCell _ 3 _ h)).then (Fr.setCell _ 4 _ h)).then (Fr.setCell _ 5 _ h)

/-- gap's variables: the second, the result, ahead, first, out. -/
def GapI (n : Nat) (l : List Chg) (s : Int) (k0 : Nat) (pre : List Nat) (O : Nat → Prop) (W : World) : Prop :=
  (O n ∧ O (n + 1) ∧ O (n + 2) ∧ O (n + 3) ∧ O (n + 4)) ∧ Blk W n 3 #[.int .i64 s] ∧ FndB W (n + 1) .zero ∧ FndB W (n + 4) .zero ∧ (∃ ahead first, Blk W (n + 2) 3 #[.int .i64 ahead] ∧ Blk W (n + 3) 4 #[.bool first] ∧
    ((pre.length = 0 ∧ first = true ∧ ahead = 0) ∨ (0 < pre.length ∧ first = false ∧ ahead = (locAt l (k0 + pre.length - 1)).off))) ∧ ∀ i, k0 < i → i < k0 + pre.length → skips l s i = false
def GapX (n : Nat) (l : List Chg) (s : Int) (k0 : Nat) (c : Code) (_ : List Nat) (O : Nat → Prop) (W : World) : Prop :=
  c = .exit 0 ∧ (O (n + 1) ∧ O (n + 4)) ∧ FndB W (n + 1) .zero ∧ ∃ j, ∃ h : j < l.length, k0 < j ∧ skips l s j = true ∧ (∀ i, k0 < i → i < j → skips l s i = false) ∧ FndB W (n + 4) ⟨3, (l[j]).at_, l[j]⟩
theorem gapI_feet (n : Nat) (l : List Chg) (s : Int) (k0 : Nat) : Feet (GapI n l s k0) := by
  rintro pre O W W' ⟨⟨o0, o1, o2, o3, o4⟩, h0, h1, h4, ⟨a, f, h2, h3, hh⟩, hs⟩ hf
  exact ⟨⟨o0, o1, o2, o3, o4⟩, h0.fr hf (fun h => h o0), h1.fr hf (fun h => h o1), h4.fr hf (fun h => h o4), ⟨a, f, h2.fr hf (fun h => h o2), h3.fr hf (fun h => h o3), hh⟩, hs⟩
theorem gapX_feet (n : Nat) (l : List Chg) (s : Int) (k0 : Nat) (c : Code) : Feet (GapX n l s k0 c) := by
  rintro pre O W W' ⟨hc, ⟨o1, o4⟩, h1, j, hj, g1, g2, g3, h4⟩ hf
  exact ⟨hc, ⟨o1, o4⟩, h1.fr hf (fun h => h o1), j, hj, g1, g2, g3, h4.fr hf (fun h => h o4)⟩
/-- What gap answers. -/
def GapEnd (l : List Chg) (s : Int) (k0 : Nat) (w : World) (e : Ending) (w' : World) : Prop :=
  (∃ j, ∃ h : j < l.length, k0 < j ∧ skips l s j = true ∧ (∀ i, k0 < i → i < j → skips l s i = false) ∧ e = .returned (fndA ⟨3, (l[j]).at_, l[j]⟩)) ∧ Below w.heap.size w w'
theorem GapI.next {n : Nat} {l : List Chg} {s : Int} {k0 : Nat} {pre : List Nat} {O : Nat → Prop} {W : World} (h : GapI n l s k0 pre O W) (hs : 0 < pre.length → skips l s (k0 + pre.length) = false) (x : Nat) :
    GapI n l s k0 (pre ++ [x]) O ((W.setCell ⟨n + 2, 0, none⟩ (.int .i64 (locAt l (k0 + pre.length)).off)).setCell ⟨n + 3, 0, none⟩ (.bool false)) := by
  obtain ⟨o, h0, h1, h4, ⟨a, f, h2, h3, hh⟩, hsk⟩ := h
  refine ⟨o, (h0.other (by omega) 0 _).other (by omega) 0 _, (h1.other (by omega) 0 _).other (by omega) 0 _, (h4.other (by omega) 0 _).other (by omega) 0 _, ⟨_, _, (h2.set 0 _).other (by omega) 0 _, (h3.other (by omega) 0 _).set 0 _, .inr ⟨by simp, rfl, ?_⟩⟩, ?_⟩
  · rw [List.length_append, List.length_singleton, show k0 + (pre.length + 1) - 1 = k0 + pre.length by omega]
  · intro i hi1 hi2
    rw [List.length_append, List.length_singleton] at hi2
    rcases Nat.lt_or_ge i (k0 + pre.length) with h | h
    · exact hsk i hi1 h
    · obtain rfl : i = k0 + pre.length := by omega
      exact hs (by omega)
theorem GapI.found {n : Nat} {l : List Chg} {s : Int} {k0 : Nat} {pre : List Nat} {O : Nat → Prop} {W : World} (h : GapI n l s k0 pre O W) (hp : 0 < pre.length) (hl : k0 + pre.length < l.length) (hs : skips l s (k0 + pre.length) = true) (x : List Nat) :
    GapX n l s k0 (.exit 0) x O (set6 W (n + 4) ⟨3, (l[k0 + pre.length]).at_, l[k0 + pre.length]⟩) := by
  obtain ⟨o, h0, h1, h4, -, hsk⟩ := h
  exact ⟨rfl, ⟨o.2.1, o.2.2.2.2⟩, set6_other h1 (by omega) _, _, hl, by omega, hs, hsk, h4.set _⟩
set_option maxHeartbeats 4000000 in
theorem gap_any (w : World) (B : Nat) (v : Value) (l : List Chg) (s : Int) (hv : Chgs w B v l) (hB : B ≤ w.heap.size) (hrow : Row l) (h1 : -2199022895552 < s) (h2 : s < 2199022895552) (k0 : Nat) (hk0 : IsAt l (s - 180000) k0) (hno : ∀ k, k < l.length → shows l s k = false) :
    Calls Try.prog 20 #[clocksV v, .int .i64 s] w (GapEnd l s k0 w) := by
  obtain ⟨k1, hk1⟩ := hrow.some (show -2199023255552 ≤ s + 180000 by omega)
  have HV := Lib.hid hv
  clear hv
  refine (callsIn_wide (n := 8)).1 ?_
  refine callsIn_of_wp_marks Try.func20 rfl trivial ?_ rfl
  simp only [Try.ntmps20, List.size_toArray, List.length_cons, List.length_nil, Nat.reduceAdd, Nat.reduceSub, Array.replicate_succ, Array.replicate_zero, List.push_toArray, List.append_toArray, List.nil_append, List.cons_append]
  gi_wp2
  refine wpIn_scope ?_
  gi_wp2
  obtain ⟨W1, hW1⟩ : ∃ W1, ((((w.alloc (.cells #[.int .i64 s] 3)).alloc (.cells #[.int .i64 0, .int .i64 0, .int .i64 0, .int .i64 0, .bool false, .string ⟨#[]⟩] 36)).alloc (.cells #[.int .i64 0] 3)).alloc (.cells #[.bool true] 4)).alloc (.cells #[.int .i64 0, .int .i64 0, .int .i64 0, .int .i64 0, .bool false, .string ⟨#[]⟩] 36) = W1 := ⟨_, rfl⟩
  obtain ⟨b0, b1, b2, b3, b4, hb1, hs1⟩ := blks5 w _ _ _ _ _ _ _ _ _ _ W1 hW1
  rw [hW1]
  clear hW1
  refine wpIn_label ?_
  have qs : W1.cell? ⟨w.heap.size, 0, none⟩ = some (.int .i64 s) := b0.cell 0 rfl
  have sl : w.heap.size + 5 ≤ W1.heap.size := by omega
  clear hs1
  gi_wp2
  refine ⟨trivial, (callsIn_wide.2 (spans_any W1 (clocksV v) (s - 180000) (s + 180000 + 1) (.inl ⟨v, rfl⟩))).mono ?_⟩
  rintro e W3 ⟨rfl, hb3, hs3, hc3, hf3, ht3⟩
  have hbel : Below w.heap.size w W3 := hb1.trans (hb3.mono (by omega))
  have hv3 : Chgs W3 B v l := HV.out.below (hbel.mono hB)
  have HAI : Hid (GapI w.heap.size l s k0 [] (fun k => w.heap.size ≤ k ∧ k < w.heap.size + 5) W3) := ⟨⟨by constructor <;> omega, by constructor <;> omega, by constructor <;> omega, by constructor <;> omega, by constructor <;> omega⟩, b0.below hb3 b0.lt, b1.below hb3 b1.lt, b4.below hb3 b4.lt,
    ⟨0, true, b2.below hb3 b2.lt, b3.below hb3 b3.lt, .inl ⟨rfl, rfl, rfl⟩⟩, fun i h1 h2 => by rw [List.length_nil] at h2; omega⟩
  have h23 : W1.heap.size + 3 ≤ W3.heap.size := by omega
  clear b0 b1 b2 b3 b4 hb1 hb3 hs3 qs
  gi_wp2
  refine range_own (α := Nat) rfl (by omega) (gf := 21) (lb := #[.pointer (some ⟨W1.heap.size, 0, none⟩), .pointer (some ⟨W1.heap.size + 1, 0, none⟩), .pointer (some ⟨W1.heap.size + 2, 0, none⟩)]) rfl trivial (enters_of Try.func21 (by kernel_rfl) rfl)
    (encs := encS l (s - 180000) (s + 180000 + 1)) (K := fun k => k = W1.heap.size ∨ k = W1.heap.size + 1 ∨ k = W1.heap.size + 2 ∨ k < B)
    (fun W hW => spans1_iter 7 (by omega) _ _ _ B v l _ _ hrow W k0 k1 hk0 (by rw [show s + 180000 + 1 - 1 = s + 180000 by omega]; exact hk1) (by omega) (by omega) (by omega) (hc3.below hW hc3.lt) (hf3.below hW hf3.lt) (ht3.below hW ht3.lt) (by omega) (by omega) (hv3.below (hW.mono (by omega))) (by omega))
    (fun _ => rfl) (GapI w.heap.size l s k0) (GapX w.heap.size l s k0) (gapI_feet _ _ _ _) (gapX_feet _ _ _ _) (fun k => w.heap.size ≤ k ∧ k < w.heap.size + 5) HAI.out (fun k hk => by omega) (fun k hk => by omega) (fun k hk => by omega) ?round ?done ?stop
  case round =>
    intro lp pre k O D W hI hBO hBD hDO hR nOl nDl hlow hltl
    obtain ⟨hnD, hkk, hkl⟩ := hR
    have HKK := Lib.hid hkk
    clear hkk
    unfold encS locA
    gi_wp2
    obtain ⟨W5, hW5⟩ : ∃ W5, (W.alloc (.cells #[.int .i64 (lo l (s - 180000) k), .int .i64 (hi l (s + 180000 + 1) k)] 42)).alloc (.cells #[.int .i64 (locAt l k).off, .bool (locAt l k).dst, .string (locAt l k).abbr] 32) = W5 := ⟨_, rfl⟩
    obtain ⟨hpb, hxb, hb5, hs5⟩ := blks2 W _ _ _ _ W5 hW5
    rw [hW5]
    clear hW5
    refine ⟨hb5, ?_⟩
    intro Wb hfb hIb _
    have hpb3 := hpb.fr hfb (by omega)
    have hxb3 := hxb.fr hfb (by omega)
    have hkk := HKK.out
    have hll : k < l.length := by have := hk1.1; omega
    have hoff := hrow.off _ hll
    have hatl := hrow.at_lo _ hll
    have hk1l : k - 1 < l.length := by omega
    have hoff1 := hrow.off (k - 1) hk1l
    have hsk := skips_iff (s := s) hll
    have hlo : pre.length ≠ 0 → lo l (s - 180000) k = (l[k]).at_ := fun hp => by
      rw [lo_in hll]
      have := hk0.2.2 k hll (by omega)
      omega
    rw [← locAt_in hk1l, ← locAt_in hll] at hsk
    rw [← locAt_in hk1l] at hoff1
    have hlr : -2199023255552 ≤ lo l (s - 180000) k ∧ lo l (s - 180000) k ≤ 2199023255552 := by rw [lo_in hll]; omega
    have HBW := Lib.hid (hBO.fr ((Fr.of_below (T := fun k => k = lp) hb5 (Nat.le_refl _)).then hfb))
    have HIB := Lib.hid hIb
    have HSK := Lib.hid hsk
    have HLO := Lib.hid hlo
    have HXX := Lib.hid (show l[k] = ⟨(l[k]).at_, locAt l k⟩ by rw [locAt_in hll])
    rw [← locAt_in hll] at hoff
    generalize lo l (s - 180000) k = a1 at *
    generalize hi l (s + 180000 + 1) k = b1 at *
    have HX := Lib.hid (show (locAt l (k0 + pre.length)).off = (locAt l k).off by rw [hkk])
    have HY := Lib.hid (show (locAt l (k0 + pre.length - 1)).off = (locAt l (k - 1)).off by rw [hkk])
    have HNO := Lib.hid (show skips l s k = false → skips l s (k0 + pre.length) = false by rw [hkk]; exact id)
    have HFD := Lib.hid (show 0 < pre.length → skips l s k = true → ∀ f : Fnd, f = ⟨3, (l[k]).at_, l[k]⟩ → GapX w.heap.size l s k0 (.exit 0) (pre ++ [k]) O (set6 Wb (w.heap.size + 4) f) from fun hp hs f hf => by
      subst hkk
      subst hf
      exact hIb.found hp hll hs _)
    generalize locAt l k = x at *
    generalize (locAt l (k - 1)) = y at *
    obtain ⟨-, g0, g1, g4, ⟨ahead, first, g2, g3, hh⟩, -⟩ := hIb
    have p0 : Wb.cell? ⟨W.heap.size, 0, none⟩ = some (.int .i64 a1) := hpb3.cell 0 rfl
    obtain ⟨x0, x1, x2⟩ := LocB.cells hxb3
    have q0 : Wb.cell? ⟨w.heap.size, 0, none⟩ = some (.int .i64 s) := g0.cell 0 rfl
    have q2 : Wb.cell? ⟨w.heap.size + 1 + 1, 0, none⟩ = some (.int .i64 ahead) := g2.cell 0 rfl
    have q3 : Wb.cell? ⟨w.heap.size + 1 + 1 + 1, 0, none⟩ = some (.bool first) := g3.cell 0 rfl
    have e2 : Wb.frozen? ⟨w.heap.size + 1 + 1, 0, none⟩ = false := g2.frozen 0
    have e3 : Wb.frozen? ⟨w.heap.size + 1 + 1 + 1, 0, none⟩ = false := g3.frozen 0
    have e40 : Wb.frozen? ⟨w.heap.size + 1 + 1 + 1 + 1, 0, none⟩ = false := g4.frozen 0
    have e41 : Wb.frozen? ⟨w.heap.size + 1 + 1 + 1 + 1, 1, none⟩ = false := g4.frozen 1
    have e42 : Wb.frozen? ⟨w.heap.size + 1 + 1 + 1 + 1, 2, none⟩ = false := g4.frozen 2
    have e43 : Wb.frozen? ⟨w.heap.size + 1 + 1 + 1 + 1, 3, none⟩ = false := g4.frozen 3
    have e44 : Wb.frozen? ⟨w.heap.size + 1 + 1 + 1 + 1, 4, none⟩ = false := g4.frozen 4
    have e45 : Wb.frozen? ⟨w.heap.size + 1 + 1 + 1 + 1, 5, none⟩ = false := g4.frozen 5
    obtain ⟨z0, z1, z2, z3, z4, z5⟩ := FndB.cells g4
    clear hpb hxb hb5 hs5 hpb3 hxb3 hI hsk hlo hfb hBO hkk g0 g1 g2 g3 g4
    have HFO := Lib.hid (show Fr (fun k => O k ∨ D k) Wb ((Wb.setCell ⟨w.heap.size + 2, 0, none⟩ (.int .i64 x.off)).setCell ⟨w.heap.size + 3, 0, none⟩ (.bool false)) from (Fr.setCell _ 0 _ (.inl HIB.out.1.2.2.1)).then (Fr.setCell _ 0 _ (.inl HIB.out.1.2.2.2.1)))
    have HNX := Lib.hid (show (0 < pre.length → skips l s k = false) → leftO (GapI w.heap.size l s k0) (GapX w.heap.size l s k0) (pre ++ [k]) O D Wb .normal ⟨#[], []⟩ ((Wb.setCell ⟨w.heap.size + 1 + 1, 0, none⟩ (.int .i64 x.off)).setCell ⟨w.heap.size + 1 + 1 + 1, 0, none⟩ (.bool false)) from fun h => by
      have hn := HIB.out.next (fun hp => HNO.out (h hp)) k
      rw [HX.out] at hn
      exact ⟨O, fun k h => .inl h, HBW.out.fr HFO.out, HFO.out, hn⟩)
    rcases hh with ⟨hp, rfl, rfl⟩ | ⟨hp, rfl, ha⟩
    · have HRES := Lib.hid (HNX.out (fun h => by omega))
      clear hp
      gi_wp2
      exact HRES.out
    · rw [HY.out] at ha
      subst ha
      by_cases hc1 : a1 + y.off ≤ s
      · by_cases hc2 : s < a1 + x.off
        · have ha1 := HLO.out (by omega)
          have hs := HSK.out.2 (by rw [← ha1]; exact ⟨hc1, hc2⟩)
          have hX := HFD.out hp hs ⟨3, a1, ⟨a1, x⟩⟩ (by rw [HXX.out, ← ha1])
          have HRES := Lib.hid (show leftO (GapI w.heap.size l s k0) (GapX w.heap.size l s k0) (pre ++ [k]) O D Wb (.exit 0) ⟨#[], []⟩ (set6 Wb (w.heap.size + 4) ⟨3, a1, ⟨a1, x⟩⟩) from ⟨O, fun k h => .inl h, HBW.out.fr (set6_fr (T := fun k => O k ∨ D k) Wb _ (.inl HIB.out.1.2.2.2.2)), set6_fr Wb _ (.inl HIB.out.1.2.2.2.2), hX⟩)
          clear hX hs ha1 hp
          gi_wp2
          exact HRES.out
        · have HRES := Lib.hid (HNX.out (fun _ => by
            cases h : skips l s k with
            | false => rfl
            | true => have h1 := HSK.out.1 h; rw [← HLO.out (by omega)] at h1; exact absurd h1.2 hc2))
          clear hp
          gi_wp2
          exact HRES.out
      · have HRES := Lib.hid (HNX.out (fun _ => by
          cases h : skips l s k with
          | false => rfl
          | true => have h1 := HSK.out.1 h; rw [← HLO.out (by omega)] at h1; exact absurd h1.1 hc1))
        clear hp
        gi_wp2
        exact HRES.out
  case stop =>
    rintro D c pre O W hD - ⟨rfl, ⟨o1, o4⟩, g1, j, hj, hkj, hsj, hno', g4⟩ hO hBO hOD hfr hK
    have HJ := Lib.hid (show l[j] = l[j] from rfl)
    have HEND := Lib.hid (show ∀ W', Below w.heap.size w W' → GapEnd l s k0 w (.returned (fndA ⟨3, (l[j]).at_, l[j]⟩)) W' from fun W' hb => ⟨⟨j, hj, hkj, hsj, hno', rfl⟩, hb⟩)
    generalize l[j] = c at *
    obtain ⟨z0, z1, z2, z3, z4, z5⟩ := FndB.cells g4
    obtain ⟨y0, y1, y2, y3, y4, y5⟩ := FndB.cells g1
    have f0 := g1.frozen 0
    have f1 := g1.frozen 1
    have f2 := g1.frozen 2
    have f3 := g1.frozen 3
    have f4 := g1.frozen 4
    have f5 := g1.frozen 5
    have HG1 := Lib.hid g1
    have HK := Lib.hid (show (set6 W (w.heap.size + 1) ⟨3, c.at_, c⟩).heap[D]? = some (.deferred (some [])) from (set6_fr (T := fun k => k = w.heap.size + 1) W _ rfl).at_ hK (by have := hbel.size; omega))
    have HBL := Lib.hid (show Below w.heap.size w (set6 W (w.heap.size + 1) ⟨3, c.at_, c⟩) from (hbel.trans (hfr.below hbel.size (fun k hk h => by rcases h with h | h <;> omega))).trans ((set6_fr (T := fun k => k = w.heap.size + 1) W _ rfl).below (by have := hbel.size; have := hfr.size; omega) (fun k hk h => by omega)))
    clear g1 g4 hK hfr hO hBO
    gi_wp2
    refine ⟨by simp, .inl ⟨_, _, rfl, run_takeDeferred HK.out, ?_⟩⟩
    have hres : FndB ((set6 W (w.heap.size + 1) ⟨3, c.at_, c⟩).putObj D (.deferred none)) (w.heap.size + 1) ⟨3, c.at_, c⟩ := (World.putObj_heap_other (by have := hbel.size; omega)).trans (HG1.out.set ⟨3, c.at_, c⟩)
    obtain ⟨e0, e1, e2, e3, e4, e5⟩ := FndB.cells hres
    refine ⟨fndA ⟨3, c.at_, c⟩, ?_, HEND.out _ (fin_below HBL.out (by have := hbel.size; omega))⟩
    unfold set6 at e0 e1 e2 e3 e4 e5
    simp [results, Try.f20, go_sem, fndA, e0, e1, e2, e3, e4, e5]
  case done =>
    rintro D xs O W hD hS ⟨-, -, -, -, -, hsk⟩
    exfalso
    obtain ⟨g1, g2, g3⟩ := hk0
    have hof := hrow.off k0 g1
    obtain ⟨j, h3, h4, h5, -⟩ := gap_there hno _ k0 rfl g1 (by omega)
    have h01 : k0 ≤ k1 := by
      obtain ⟨f1, f2, f3⟩ := hk1
      rcases Nat.lt_or_ge k1 k0 with h | h
      · have := f3 k0 g1 h; omega
      · exact h
    rw [hS] at hsk
    rcases Nat.lt_or_ge k1 j with h | h
    · have h6 := hk1.2.2 j h4 h
      have h7 := ((skips_iff h4).1 h5).1
      have h8 := hrow.off (j - 1) (by omega)
      omega
    · rw [hsk j h3 (by omega)] at h5
      cases h5
end Go.Proofs.Ytlkpkmdomecopaa
