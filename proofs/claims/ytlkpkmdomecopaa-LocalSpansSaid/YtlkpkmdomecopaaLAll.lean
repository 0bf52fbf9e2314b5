/-
  Layer 20: check, and All, walked.
-/
import Derived.Maps.AppendAt
import Derived.Test.YtlkpkmdomecopaaAppend
import Derived.Test.YtlkpkmdomecopaaLSpans
namespace Go.Proofs.Ytlkpkmdomecopaa
open Go Go.RowKit Go.Shelf
attribute [local go_sem] Oper.semAt_some
set_option maxRecDepth 100000

set_option maxHeartbeats 1000000 in
theorem check_yes (w : World) (B : Nat) (v : Value) (l : List Chg) (s : Int) (hv : Chgs w B v l) (hB : B ≤ w.heap.size) (hl : 0 < l.length) (h1 : -2199022895552 < s) (h2 : s < 2199022895552) :
    Calls Try.prog 19 #[clocksV v, .int .i64 s] w fun e w' => e = .returned (.int .i64 0) ∧ Below w.heap.size w w' := by
  have HAT := Lib.hid (at_yes w B v l (s - 180000) hv hB hl (by omega) (by omega))
  have hm1 := meth_at v
  unfold clocksV
  go_enter Try.func19, Try.ntmps19
  go_wp2_with fail
  refine HAT.out.mono ?_
  rintro e w1 ⟨⟨x, rfl, -⟩, hb1⟩
  have hb2 := hb1.alloc hb1.size (.cells #[.int .i64 x.off, .bool x.dst, .string x.abbr] 32)
  unfold locA
  go_wp2_with fail
  go_ret
  exact ⟨rfl, hb2⟩
set_option maxHeartbeats 1000000 in
theorem check_no (w : World) (v : Value) (s : Int) (h : s ≤ -2199022895552 ∨ 2199022895552 ≤ s) :
    Calls Try.prog 19 #[clocksV v, .int .i64 s] w fun e w' => e = .returned (.int .i64 10) ∧ w' = w := by
  unfold clocksV
  rcases h with h | h
  · go_enter Try.func19, Try.ntmps19
    go_wp2_with fail
    go_ret
    exact ⟨rfl, rfl⟩
  · have h' : ¬ s ≤ -2199022895552 := by omega
    go_enter Try.func19, Try.ntmps19
    go_wp2_with fail
    go_ret
    exact ⟨rfl, rfl⟩
set_option maxHeartbeats 1000000 in
theorem check_nil (w : World) (s : Int) : Calls Try.prog 19 #[.nilIface, .int .i64 s] w fun e w' => e = .returned (.int .i64 2) ∧ w' = w := by
  go_enter Try.func19, Try.ntmps19
  go_wp2_with fail
  go_ret
  exact ⟨rfl, rfl⟩
theorem infoInt : (Try.prog.info? 3).map (fun i => (i.zero, i.size, i.bytes)) = some (some (.int .i64 0), 1, 8) := by kernel_rfl
def intsV (l : List Int) : List Value := l.map fun n => .int .i64 n
theorem intsV_append (l m : List Int) : intsV (l ++ m) = intsV l ++ intsV m := by simp [intsV]
def allL (l : List Chg) (s : Int) : List Int := allOf l s 0 l.length
theorem allOf_le (l : List Chg) (s : Int) (a n : Nat) : (allOf l s a n).length ≤ n := by
  unfold allOf
  rw [List.length_map]
  exact Nat.le_trans (List.length_filter_le _ _) (by simp)
/-- A loop's list of numbers: the boxes of its variables, and the row. -/
def AllI (sb ob base : Nat) (l : List Chg) (s : Int) (k0 : Nat) (pre : List Nat) (O : Nat → Prop) (W : World) : Prop :=
  O sb ∧ Blk W sb 3 #[.int .i64 s] ∧ ∃ v, O ob ∧ Blk W ob 27 #[v] ∧ W.ownsRow base 3 1 v (allOf l s k0 pre.length).length (intsV (allOf l s k0 pre.length)) ∧ ∀ g, v.ownBlock = some g → O g ∧ g ≠ ob ∧ g ≠ sb
theorem allI_feet (sb ob base : Nat) (l : List Chg) (s : Int) (k0 : Nat) : Feet (AllI sb ob base l s k0) := by
  rintro pre O W W' ⟨h1, h2, v, h3, h4, h5, h6⟩ hf
  exact ⟨h1, h2.fr hf (fun h => h h1), v, h3, h4.fr hf (fun h => h h3), hf.own h5 (fun g hg h => h (h6 g hg).1), h6⟩
/-- What All answers. -/
def AllEnd (l : List Chg) (s : Int) (w : World) (e : Ending) (w' : World) : Prop :=
  (∃ u, e = .returned (.tuple #[u, .int .i64 0]) ∧ Sl w' w'.heap.size 1 u (allL l s).length (intsV (allL l s))) ∧ Below w.heap.size w w'
/-- A number more. -/
theorem AllI.push {sb ob base : Nat} {l : List Chg} {s : Int} {k0 : Nat} {pre : List Nat} {O : Nat → Prop} {W W1 W2 : World} {v v' : Value} (h : AllI sb ob base l s k0 pre O W) (hsh : shows l s (k0 + pre.length) = true) (hBO : Bd O W)
    (h1 : Below W.heap.size W W1) (hv : Blk W ob 27 #[v]) (hvo : ∀ g, v.ownBlock = some g → O g ∧ g ≠ ob ∧ g ≠ sb) (hg : W1.grownBy W2 v.ownBlock) (ho : W2.ownsRow base 3 1 v' ((allOf l s k0 pre.length).length + 1) (intsV (allOf l s k0 pre.length) ++ [.int .i64 (tAt l s (k0 + pre.length))]))
    (hl : v'.ownBlock = v.ownBlock ∨ v'.ownBlock = some W1.heap.size) (x : Nat) :
    ∃ O', (∀ k, O' k → O k ∨ W.heap.size ≤ k) ∧ Bd O' (W2.setCell ⟨ob, 0, none⟩ v') ∧ Fr O W (W2.setCell ⟨ob, 0, none⟩ v') ∧ AllI sb ob base l s k0 (pre ++ [x]) O' (W2.setCell ⟨ob, 0, none⟩ v') := by
  obtain ⟨o1, b1, v0, o2, b2, b3, b4⟩ := h
  have hsb := b1.lt
  have hob := b2.lt
  have hs1 := h1.size
  have hne : sb ≠ ob := fun e => by
    subst e
    have : (Obj.cells #[.int .i64 s] 3 (0, 0)) = .cells #[v0] 27 (0, 0) := by
      have := b1.symm.trans b2
      exact Option.some.inj this
    injection this with _ h2
    exact absurd h2 (by decide)
  have hvn : v'.ownBlock ≠ some ob ∧ v'.ownBlock ≠ some sb := by
    rcases hl with e | e
    · rw [e]; exact ⟨fun e => (hvo _ e).2.1 rfl, fun e => (hvo _ e).2.2 rfl⟩
    · rw [e]; exact ⟨fun e => by cases e; omega, fun e => by cases e; omega⟩
  have e1 : allOf l s k0 (pre ++ [x]).length = allOf l s k0 pre.length ++ [tAt l s (k0 + pre.length)] := by
    rw [List.length_append, List.length_singleton, allOf_succ, if_pos hsh]
  have n1 : v.ownBlock ≠ some sb := fun e => (hvo _ e).2.2 rfl
  have n2 : v.ownBlock ≠ some ob := fun e => (hvo _ e).2.1 rfl
  have g1 : Blk W2 sb 3 #[.int .i64 s] := (b1.below h1 hsb).grown hg n1
  have g2 : Blk W2 ob 27 #[v] := (hv.below h1 hob).grown hg n2
  refine ⟨fun k => O k ∨ v'.ownBlock = some k, ?_, ?_, ?_, .inl o1, g1.other hne 0 _, v', .inl o2, g2.set 0 v', ?_, fun g hg' => ⟨.inr hg', fun e => hvn.1 (by rw [hg', e]), fun e => hvn.2 (by rw [hg', e])⟩⟩
  · intro k hk
    rcases hk with hk | hk
    · exact .inl hk
    · rcases hl with e | e
      · rw [e] at hk; exact .inl (hvo k hk).1
      · rw [e] at hk; cases hk; exact .inr hs1
  · intro k hk
    have hsz : (W2.setCell ⟨ob, 0, none⟩ v').heap.size = W2.heap.size := by simp
    rw [hsz]
    rcases hk with hk | hk
    · have := hBO k hk; have := hg.size; omega
    · exact (ho.lt _ hk).2
  · exact (((Fr.of_below h1 (Nat.le_refl _)).then (Fr.grown hg (fun g e => .inl (hvo g e).1))).then (Fr.setCell _ 0 _ o2))
  · rw [e1, intsV_append, List.length_append, List.length_singleton]
    exact Fr.own (Fr.setCell (T := fun k => k = ob) W2 0 v' rfl) ho (fun g hg' e => hvn.1 (by rw [hg', e]))
theorem AllI.skip {sb ob base : Nat} {l : List Chg} {s : Int} {k0 : Nat} {pre : List Nat} {O : Nat → Prop} {W : World} (h : AllI sb ob base l s k0 pre O W) (hsh : shows l s (k0 + pre.length) = false) (x : Nat) : AllI sb ob base l s k0 (pre ++ [x]) O W := by
  have e1 : allOf l s k0 (pre ++ [x]).length = allOf l s k0 pre.length := by
    rw [List.length_append, List.length_singleton, allOf_succ, hsh]
    simp
  unfold AllI at h ⊢
  rw [e1]
  exact h
set_option maxHeartbeats 4000000 in
theorem all_yes (w : World) (B : Nat) (v : Value) (l : List Chg) (s : Int) (hv : Chgs w B v l) (hB : B ≤ w.heap.size) (hrow : Row l) (h1 : -2199022895552 < s) (h2 : s < 2199022895552) :
    Calls Try.prog 11 #[clocksV v, .int .i64 s] w (AllEnd l s w) := by
  obtain ⟨k0, hk0⟩ := hrow.some (show -2199023255552 ≤ s - 180000 by omega)
  obtain ⟨k1, hk1⟩ := hrow.some (show -2199023255552 ≤ s + 180000 by omega)
  have HV := Lib.hid hv
  clear hv
  refine (callsIn_wide (n := 8)).1 ?_
  refine callsIn_of_wp_marks Try.func11 rfl trivial ?_ rfl
  simp only [Try.ntmps11, List.size_toArray, List.length_cons, List.length_nil, Nat.reduceAdd, Nat.reduceSub, Array.replicate_succ, Array.replicate_zero, List.push_toArray, List.append_toArray, List.nil_append, List.cons_append]
  gi_wp2
  have hsb := Blk.new w 3 #[.int .i64 s]
  have hb0 : Below w.heap.size w (w.alloc (.cells #[.int .i64 s] 3)) := (Below.refl _ _).alloc (Nat.le_refl _) _
  obtain ⟨W0, hW0⟩ : ∃ W0, w.alloc (.cells #[.int .i64 s] 3) = W0 := ⟨_, rfl⟩
  have hs0 : W0.heap.size = w.heap.size + 1 := by rw [← hW0]; simp
  rw [hW0] at hsb hb0 ⊢
  clear hW0
  refine ⟨trivial, (callsIn_wide.2 (check_yes W0 B v l s (HV.out.below (hb0.mono hB)) (by omega) hrow.pos h1 h2)).mono ?_⟩
  rintro e w1 ⟨rfl, hb1⟩
  have hsb1 := hsb.below hb1 hsb.lt
  have qs : w1.cell? ⟨w.heap.size, 0, none⟩ = some (.int .i64 s) := hsb1.cell 0 rfl
  have hs1 := hb1.size
  have sl : w.heap.size < w1.heap.size := by omega
  gi_wp2
  have hob := Blk.new w1 27 #[.slice none 0 0]
  have hb2 : Below w1.heap.size w1 (w1.alloc (.cells #[.slice none 0 0] 27)) := (Below.refl _ _).alloc (Nat.le_refl _) _
  obtain ⟨W2, hW2⟩ : ∃ W2, w1.alloc (.cells #[.slice none 0 0] 27) = W2 := ⟨_, rfl⟩
  have hs2 : W2.heap.size = w1.heap.size + 1 := by rw [← hW2]; simp
  rw [hW2] at hob hb2 ⊢
  clear hW2 qs
  refine ⟨trivial, (callsIn_wide.2 (spans_any W2 (clocksV v) (s - 180000) (s + 180000 + 1) (.inl ⟨v, rfl⟩))).mono ?_⟩
  rintro e W3 ⟨rfl, hb3, hs3, hc3, hf3, ht3⟩
  have hbel : Below w.heap.size w W3 := ((hb0.trans (hb1.mono hb0.size)).trans (hb2.mono (by omega))).trans (hb3.mono (by omega))
  have hsb3 := (hsb1.below hb2 (by omega)).below hb3 (by omega)
  have hob3 := hob.below hb3 (by omega)
  have hv3 : Chgs W3 B v l := HV.out.below (hbel.mono hB)
  have HAI : Hid (AllI w.heap.size w1.heap.size w.heap.size l s k0 [] (fun k => k = w.heap.size ∨ k = w1.heap.size) W3) := ⟨.inl rfl, hsb3, _, .inr rfl, hob3, World.ownsRow_nil _ _ _ _, fun g hg => by simp [Value.ownBlock] at hg⟩
  have h12 : w1.heap.size < W2.heap.size := by omega
  have h23 : W2.heap.size + 3 ≤ W3.heap.size := by omega
  clear hsb hb0 hb1 hb2 hsb1 hob hsb3 hob3 hs0 hs2 hs3
  gi_wp2
  refine range_own (α := Nat) rfl (by omega) (gf := 21) (lb := #[.pointer (some ⟨W2.heap.size, 0, none⟩), .pointer (some ⟨W2.heap.size + 1, 0, none⟩), .pointer (some ⟨W2.heap.size + 2, 0, none⟩)]) rfl trivial (enters_of Try.func21 (by kernel_rfl) rfl)
    (encs := encS l (s - 180000) (s + 180000 + 1)) (K := fun k => k = W2.heap.size ∨ k = W2.heap.size + 1 ∨ k = W2.heap.size + 2 ∨ k < B)
    (fun W hW => spans1_iter 7 (by omega) _ _ _ B v l _ _ hrow W k0 k1 hk0 (by rw [show s + 180000 + 1 - 1 = s + 180000 by omega]; exact hk1) (by omega) (by omega) (by omega) (hc3.below hW hc3.lt) (hf3.below hW hf3.lt) (ht3.below hW ht3.lt) (by omega) (by omega) (hv3.below (hW.mono (by omega))) (by omega))
    (fun _ => rfl) (AllI w.heap.size w1.heap.size w.heap.size l s k0) (fun _ _ _ _ => False) (allI_feet _ _ _ _ _ _) (fun _ _ _ _ _ h _ => h) (fun k => k = w.heap.size ∨ k = w1.heap.size) HAI.out (fun k hk => by omega) (fun k hk => by omega) (fun k hk => by omega) ?round ?done ?stop
  case round =>
    intro lp pre k O D W hI hBO hBD hDO hR nOl nDl hlow hltl
    obtain ⟨hnD, hkk, hkl⟩ := hR
    unfold encS locA
    gi_wp2
    have hpb := Blk.new W 42 #[.int .i64 (lo l (s - 180000) (k0 + pre.length)), .int .i64 (hi l (s + 180000 + 1) (k0 + pre.length))]
    have hxb := Blk.new (W.alloc (.cells #[.int .i64 (lo l (s - 180000) (k0 + pre.length)), .int .i64 (hi l (s + 180000 + 1) (k0 + pre.length))] 42)) 32 #[.int .i64 (locAt l (k0 + pre.length)).off, .bool (locAt l (k0 + pre.length)).dst, .string (locAt l (k0 + pre.length)).abbr]
    rw [World.size_alloc] at hxb
    have hpb2 := hpb.alloc (.cells #[.int .i64 (locAt l (k0 + pre.length)).off, .bool (locAt l (k0 + pre.length)).dst, .string (locAt l (k0 + pre.length)).abbr] 32)
    refine ⟨((Below.refl _ _).alloc (Nat.le_refl _) _).alloc (by simp) _, ?_⟩
    intro Wb hfb hIb _
    have hpb3 := hpb2.fr hfb (by omega)
    have hxb3 := hxb.fr hfb (by omega)
    have hll : k0 + pre.length < l.length := by have := hk1.1; omega
    have hsh := shows_span hrow hk0 hk1 (show k0 ≤ k0 + pre.length by omega) (by omega)
    have hto : tAt l s (k0 + pre.length) = s - (locAt l (k0 + pre.length)).off := rfl
    have hoff := hrow.off _ hll
    rw [← locAt_in hll] at hoff
    rw [hto] at hsh
    have hbs : W.heap.size ≤ Wb.heap.size := by have := hfb.size; simp only [World.size_alloc] at this; omega
    have HBW := Lib.hid (hBO.fr ((Fr.of_below (T := fun k => k = lp) (((Below.refl W.heap.size W).alloc (Nat.le_refl _) _).alloc (by simp) _) (Nat.le_refl _)).then hfb))
    have HHK := Lib.hid hkk
    generalize lo l (s - 180000) (k0 + pre.length) = a1 at *
    rw [show s + 180000 + 1 = s + 180001 by omega] at hpb3
    generalize hi l (s + 180001) (k0 + pre.length) = b1 at *
    generalize hx : locAt l (k0 + pre.length) = x at *
    have HTO := Lib.hid hto
    have HIB := Lib.hid hIb
    obtain ⟨o1, hsbb, u, o2, hobb, hown, huo⟩ := hIb
    obtain ⟨A, c, rfl⟩ := (Sl.of_own hown).form
    have p0 : Wb.cell? ⟨W.heap.size, 0, none⟩ = some (.int .i64 a1) := hpb3.cell 0 rfl
    have p1 : Wb.cell? ⟨W.heap.size, 1, none⟩ = some (.int .i64 b1) := hpb3.cell 1 rfl
    have x0 : Wb.cell? ⟨W.heap.size + 1, 0, none⟩ = some (.int .i64 x.off) := hxb3.cell 0 rfl
    have q0 : Wb.cell? ⟨w.heap.size, 0, none⟩ = some (.int .i64 s) := hsbb.cell 0 rfl
    have r0 : Wb.cell? ⟨w1.heap.size, 0, none⟩ = some (.slice A (allOf l s k0 pre.length).length c) := hobb.cell 0 rfl
    have rf := hobb.frozen 0
    have HOB := Lib.hid hobb
    have HOW := Lib.hid hown
    have HUO := Lib.hid huo
    have rl : w1.heap.size < Wb.heap.size := hobb.lt
    have ol : w.heap.size ≤ Wb.heap.size := by have := hsbb.lt; omega
    have hal := allOf_le l s k0 pre.length
    have hl60 := hrow.few
    clear hpb hxb hpb2 hpb3 hxb3 hfb hI hsbb hobb hown huo hto hx hkk hBO
    by_cases hc1 : a1 ≤ s - x.off
    · by_cases hc2 : s - x.off < b1
      · have HS := Lib.hid (hsh.1 ⟨hc1, hc2⟩)
        clear hsh
        have hAP : ∃ v5 u5, (Builtin.append_ #[27, 27] 27 #[.slice A (allOf l s k0 pre.length).length c, .slice (some ⟨Wb.heap.size, 0, none⟩) 1 1]).run Try.prog (Wb.alloc (.cells #[.int .i64 (s - x.off)] 3)) = .ok v5 u5 ∧ u5.ownsRow w.heap.size 3 1 v5 ((allOf l s k0 pre.length).length + 1) (intsV (allOf l s k0 pre.length) ++ [.int .i64 (s - x.off)]) ∧
            (Wb.alloc (.cells #[.int .i64 (s - x.off)] 3)).grownBy u5 (Value.slice A (allOf l s k0 pre.length).length c).ownBlock ∧ (v5.ownBlock = (Value.slice A (allOf l s k0 pre.length).length c).ownBlock ∨ v5.ownBlock = some (Wb.alloc (.cells #[.int .i64 (s - x.off)] 3)).heap.size) := by
          obtain ⟨i0, hi, hz0, hz1, hz2⟩ := info_parts infoInt
          obtain ⟨v5, u5, h2, h3, h4, -, h5⟩ := run_append_own_at (P := Try.prog) (Wb.alloc (.cells #[.int .i64 (s - x.off)] 3)) w.heap.size 27 27 3 i0 (.int .i64 0) 1 8 Try.underlying27 hi hz0 hz1 hz2 rfl (by decide) _ _ _ (HOW.out.alloc _) ⟨Wb.heap.size, 0, none⟩ 1 1 [.int .i64 (s - x.off)] rfl (cell_one_new _ _ _) (by simp [Value.oneCell']) (by unfold maxLen; omega) (by omega) (by simp; omega)
          exact ⟨v5, u5, h2, h3, h4, h5⟩
        obtain ⟨v5, u5, hrun, how, hgr, hlo⟩ := hAP
        have hBn : Below Wb.heap.size Wb (Wb.alloc (.cells #[.int .i64 (s - x.off)] 3)) := (Below.refl _ _).alloc (Nat.le_refl _) _
        obtain ⟨A5, c5, rfl⟩ := (Sl.of_own how).form
        obtain ⟨O', hx', hbd', hfr', hI'⟩ := HIB.out.push HS.out HBW.out hBn HOB.out HUO.out hgr (by rw [HTO.out]; exact how) hlo k
        have rf5 : u5.frozen? ⟨w1.heap.size, 0, none⟩ = false := ((HOB.out.alloc (.cells #[.int .i64 (s - x.off)] 3)).grown hgr (fun e => (HUO.out _ e).2.1 rfl)).frozen 0
        have rc5 : u5.cell? ⟨w1.heap.size, 0, none⟩ = some (.slice A (allOf l s k0 pre.length).length c) := ((HOB.out.alloc (.cells #[.int .i64 (s - x.off)] 3)).grown hgr (fun e => (HUO.out _ e).2.1 rfl)).cell 0 rfl
        have HRES := Lib.hid (show leftO (AllI w.heap.size w1.heap.size w.heap.size l s k0) (fun _ _ _ _ => False) (pre ++ [k]) O D Wb .normal ⟨#[], []⟩ (u5.setCell ⟨w1.heap.size, 0, none⟩ (.slice A5 ((allOf l s k0 pre.length).length + 1) c5)) from ⟨O', fun k h => by rcases hx' k h with h | h; exact .inl h; exact .inr (.inr h), hbd', hfr'.mono (fun k h => .inl (.inl h)), hI'⟩)
        clear hx' hbd' hfr' hI' how hgr hlo
        gi_wp2_with (gi_at_builtin; refine wpListIn_append_run rfl _ _ _ rfl rfl rfl hrun ?_)
        exact HRES.out
      · have HS := Lib.hid (show shows l s (k0 + pre.length) = false by cases h : shows l s (k0 + pre.length) with | false => rfl | true => exact absurd (hsh.2 h).2 hc2)
        have HRES := Lib.hid (show leftO (AllI w.heap.size w1.heap.size w.heap.size l s k0) (fun _ _ _ _ => False) (pre ++ [k]) O D Wb .normal ⟨#[], []⟩ Wb from ⟨O, fun k h => .inl h, HBW.out, Fr.refl _ _, HIB.out.skip HS.out _⟩)
        clear hsh
        gi_wp2
        exact HRES.out
    · have HS := Lib.hid (show shows l s (k0 + pre.length) = false by cases h : shows l s (k0 + pre.length) with | false => rfl | true => exact absurd (hsh.2 h).1 hc1)
      have HRES := Lib.hid (show leftO (AllI w.heap.size w1.heap.size w.heap.size l s k0) (fun _ _ _ _ => False) (pre ++ [k]) O D Wb .normal ⟨#[], []⟩ Wb from ⟨O, fun k h => .inl h, HBW.out, Fr.refl _ _, HIB.out.skip HS.out _⟩)
      clear hsh
      gi_wp2
      exact HRES.out
  case stop =>
    intro _ _ _ _ _ _ _ h
    exact h.elim
  case done =>
    intro D xs O W hD hS hI hO hBO hOD hfr hK
    have h01 : k0 ≤ k1 := by
      obtain ⟨g1, g2, g3⟩ := hk0
      obtain ⟨f1, f2, f3⟩ := hk1
      rcases Nat.lt_or_ge k1 k0 with h | h
      · have := f3 k0 g1 h; omega
      · exact h
    obtain ⟨o1, hsbb, u, o2, hobb, hown, huo⟩ := hI
    rw [hS, allOf_span hrow hk0 hk1 h01] at hown
    have r0 : W.cell? ⟨w1.heap.size, 0, none⟩ = some u := hobb.cell 0 rfl
    have HSL := Lib.hid (Sl.of_own hown)
    have HBL := Lib.hid (show Below w.heap.size w W from hbel.trans (hfr.below (Nat.le_trans (Nat.le_refl _) hbel.size) (fun k hk h => by rcases h with (h | h) | h <;> omega)))
    clear hsbb hobb hown huo hfr hbel hO hBO
    gi_wp2
    refine ⟨by simp, .inl ⟨_, _, rfl, run_takeDeferred hK, ?_⟩⟩
    refine ⟨.tuple #[u, .int .i64 0], ?_, ⟨u, rfl, by rw [fin_size]; exact fin_sl HSL.out hK⟩, fin_below HBL.out (by omega)⟩
    simp [results, Try.f11, go_sem]
set_option maxHeartbeats 1000000 in
theorem all_no (w : World) (v : Value) (s : Int) (h : s ≤ -2199022895552 ∨ 2199022895552 ≤ s) :
    Calls Try.prog 11 #[clocksV v, .int .i64 s] w fun e w' => e = .returned (.tuple #[.slice none 0 0, .int .i64 10]) ∧ Below w.heap.size w w' := by
  have H := fun W => Lib.hid (check_no W v s h)
  have hb : Below w.heap.size w (w.alloc (.cells #[.int .i64 s] 3)) := (Below.refl _ _).alloc (Nat.le_refl _) _
  go_enter Try.func11, Try.ntmps11
  go_wp2_with fail
  refine (H _).out.mono ?_
  rintro e w1 ⟨rfl, rfl⟩
  go_wp2_with fail
  go_ret2
  exact ⟨rfl, hb⟩
set_option maxHeartbeats 1000000 in
theorem all_nil (w : World) (s : Int) :
    Calls Try.prog 11 #[.nilIface, .int .i64 s] w fun e w' => e = .returned (.tuple #[.slice none 0 0, .int .i64 2]) ∧ Below w.heap.size w w' := by
  have H := fun W => Lib.hid (check_nil W s)
  have hb : Below w.heap.size w (w.alloc (.cells #[.int .i64 s] 3)) := (Below.refl _ _).alloc (Nat.le_refl _) _
  go_enter Try.func11, Try.ntmps11
  go_wp2_with fail
  refine (H _).out.mono ?_
  rintro e w1 ⟨rfl, rfl⟩
  go_wp2_with fail
  go_ret2
  exact ⟨rfl, hb⟩
end Go.Proofs.Ytlkpkmdomecopaa
