/-
  Layer 20: the law LocalErrs, walked.
-/
import Derived.Test.YtlkpkmdomecopaaSerialC
import Derived.Test.YtlkpkmdomecopaaLAwake
import Derived.Test.YtlkpkmdomecopaaLFacts
import Derived.Test.YtlkpkmdomecopaaFuncEq
import Derived.Deep.RegionHeld3
import Derived.IntWalk
namespace Go.Proofs.Ytlkpkmdomecopaa
open Go Go.RowKit Go.Shelf
set_option maxRecDepth 100000

set_option maxHeartbeats 2000000 in
theorem spans1_none (n : Nat) (cb fb tb : Nat) (c : Value) (a b : Int) (W : World) (hc : Blk W cb 52 #[c]) (hf : Blk W fb 3 #[.int .i64 a]) (ht : Blk W tb 3 #[.int .i64 b]) (h : c = .nilIface ∨ ∃ v, c = clocksV v ∧ b ≤ a) (encs : Nat → Array Value) (R : List Nat → Nat → (Nat → Prop) → World → Prop) (K : Nat → Prop) :
    Iter Fence.wide n Try.prog 21 #[.pointer (some ⟨cb, 0, none⟩), .pointer (some ⟨fb, 0, none⟩), .pointer (some ⟨tb, 0, none⟩)] encs R (fun xs : List Nat => xs = []) (fun _ => False) K (fun _ => False) W := by
  intro lp J Jx _ _ _ O h0 hO _
  have qc : W.cell? ⟨cb, 0, none⟩ = some c := hc.cell 0 rfl
  have qf : W.cell? ⟨fb, 0, none⟩ = some (.int .i64 a) := hf.cell 0 rfl
  have qt : W.cell? ⟨tb, 0, none⟩ = some (.int .i64 b) := ht.cell 0 rfl
  clear hc hf ht
  show CallsIn Fence.wide n Try.prog 21 #[.func (.yield lp) #[] #[], .pointer (some ⟨cb, 0, none⟩), .pointer (some ⟨fb, 0, none⟩), .pointer (some ⟨tb, 0, none⟩)] W _
  rcases h with rfl | ⟨v, rfl, hab⟩
  · refine callsIn_of_wp Try.func21 rfl trivial ?_ rfl
    simp only [Try.ntmps21, List.size_toArray, List.length_cons, List.length_nil, Nat.reduceAdd, Nat.reduceSub, Array.replicate_succ, Array.replicate_zero, List.push_toArray, List.append_toArray, List.nil_append, List.cons_append]
    refine wpIn_scope ?_
    gi_wp2
    refine bodyPost_end (results_none rfl _ _ _) rfl ?_
    exact ⟨⟨_, rfl⟩, O, fun k h => .inl h, hO, Fr.refl _ _, .inl ⟨[], rfl, h0⟩⟩
  · unfold clocksV at qc
    have hge : decide (b ≤ a) = true := by simpa using hab
    refine callsIn_of_wp Try.func21 rfl trivial ?_ rfl
    simp only [Try.ntmps21, List.size_toArray, List.length_cons, List.length_nil, Nat.reduceAdd, Nat.reduceSub, Array.replicate_succ, Array.replicate_zero, List.push_toArray, List.append_toArray, List.nil_append, List.cons_append]
    refine wpIn_scope ?_
    gi_wp2
    refine bodyPost_end (results_none rfl _ _ _) rfl ?_
    exact ⟨⟨_, rfl⟩, O, fun k h => .inl h, hO, Fr.refl _ _, .inl ⟨[], rfl, h0⟩⟩

/-- The end of a law whose result lies in a cell, and that bears a mark. -/
theorem fin_facts {W wz : World} {D rb : Nat} {d : Option (List Deferred)} (hK : W.heap[D]? = some (.deferred d)) (hb : Below W.heap.size W wz) (hr : Blk wz rb 4 #[.bool false]) (hD : D ≠ rb) :
    (wz.setCell ⟨rb, 0, none⟩ (.bool true)).heap[D]? = some (.deferred d) ∧ ((wz.setCell ⟨rb, 0, none⟩ (.bool true)).putObj D (.deferred none)).cell? ⟨rb, 0, none⟩ = some (.bool true) := by
  have hl : D < W.heap.size := (Array.getElem?_eq_some_iff.1 hK).1
  have h1 : wz.heap[D]? = some (.deferred d) := (hb.block D hl).trans hK
  have h2 := (Fr.setCell (T := fun k => k = rb) wz 0 (.bool true) rfl).at_ h1 hD
  exact ⟨h2, (fin_cell h2 _).trans ((hr.set 0 (.bool true)).cell 0 rfl)⟩
theorem keep3 {b q : Nat} {u0 u1 u2 : Value} (W : World) (hne : b ≠ q) (v : Value) (h0 : W.cell? ⟨q, 0, none⟩ = some u0) (h1 : W.cell? ⟨q, 1, none⟩ = some u1) (h2 : W.cell? ⟨q, 2, none⟩ = some u2) :
    (W.setCell ⟨b, 0, none⟩ v).cell? ⟨q, 0, none⟩ = some u0 ∧ (W.setCell ⟨b, 0, none⟩ v).cell? ⟨q, 1, none⟩ = some u1 ∧ (W.setCell ⟨b, 0, none⟩ v).cell? ⟨q, 2, none⟩ = some u2 :=
  ⟨(World.cell?_setCell_far _ _ _ _ hne).trans h0, (World.cell?_setCell_far _ _ _ _ hne).trans h1, (World.cell?_setCell_far _ _ _ _ hne).trans h2⟩
set_option maxHeartbeats 4000000 in
theorem errs_walk (w : World) (v : Value) (l : List Chg) (i : Int) (hv : Chgs w w.heap.size v l) (_ : -9223372036854775808 ≤ i ∧ i ≤ 9223372036854775807) :
    Calls Try.prog 7 #[v, .int .i64 i] w fun e w' => e = .returned (.bool true) ∧ Below w.heap.size w w' := by
  have HV := Lib.hid hv
  obtain ⟨A, c, rfl, hlc, hcm⟩ := hv.form
  unfold maxLen at hcm
  clear hv
  refine (callsIn_wide (n := 8)).1 ?_
  refine callsIn_of_wp_marks Try.func7 rfl trivial ?_ rfl
  simp only [Try.ntmps7, List.size_toArray, List.length_cons, List.length_nil, Nat.reduceAdd, Nat.reduceSub, Array.replicate_succ, Array.replicate_zero, List.push_toArray, List.append_toArray, List.nil_append, List.cons_append]
  refine wpIn_wide.2 ?_
  have hr0 := Blk.new w 4 #[.bool false]
  have hB0 : Below w.heap.size w (w.alloc (.cells #[.bool false] 4)) := (Below.refl _ _).alloc (Nat.le_refl _) _
  go_wp2_with fail
  obtain ⟨W0, hW0⟩ : ∃ W0, w.alloc (.cells #[.bool false] 4) = W0 := ⟨_, rfl⟩
  rw [hW0] at hr0 hB0 ⊢
  clear hW0
  refine (show_err W0 .nilIface i 2 (.inl ⟨rfl, rfl⟩)).mono ?_
  rintro e w1 ⟨rfl, hb1⟩
  have hr1 := (hr0.below hb1 hr0.lt).alloc (.cells #[.int .i64 0, .bool false, .string ⟨#[]⟩] 32)
  have hB1 := below_box hB0 hb1 (Nat.le_refl _) (.cells #[.int .i64 0, .bool false, .string ⟨#[]⟩] 32)
  unfold locA Loc.zero
  go_wp2_with fail
  obtain ⟨W1, hW1⟩ : ∃ W, w1.alloc (.cells #[.int .i64 0, .bool false, .string ⟨#[]⟩] 32) = W := ⟨_, rfl⟩
  rw [hW1] at hr1 hB1 ⊢
  clear hW1 hb1 hr0 hB0
  refine (all_nil W1 i).mono ?_
  rintro e w2 ⟨rfl, hb2⟩
  have hr2 := hr1.below hb2 hr1.lt
  have hB2 := hB1.trans (hb2.mono hB1.size)
  clear hb2 hr1 hB1
  go_wp2_with fail
  refine (find_nil w2 i true).mono ?_
  rintro e w3 ⟨rfl, hb3⟩
  have hr3 := (hr2.below hb3 hr2.lt).alloc (.cells #[.int .i64 0, .int .i64 0, .int .i64 0, .int .i64 0, .bool false, .string ⟨#[]⟩] 36)
  have hB3 := below_box hB2 hb3 (Nat.le_refl _) (.cells #[.int .i64 0, .int .i64 0, .int .i64 0, .int .i64 0, .bool false, .string ⟨#[]⟩] 36)
  unfold fndA Fnd.zero Chg.zero Loc.zero
  go_wp2_with fail
  obtain ⟨W3, hW3⟩ : ∃ W, w3.alloc (.cells #[.int .i64 0, .int .i64 0, .int .i64 0, .int .i64 0, .bool false, .string ⟨#[]⟩] 36) = W := ⟨_, rfl⟩
  rw [hW3] at hr3 hB3 ⊢
  clear hW3 hb3 hr2 hB2
  refine (spans_any W3 .nilIface 0 9 (.inr rfl)).mono ?_
  rintro e w4 ⟨rfl, hb4, hs4, hc4, hf4, ht4⟩
  have hr4 := hr3.below hb4 hr3.lt
  have hB4 := hB3.trans (hb4.mono hB3.size)
  have hr3l := hr3.lt
  have hB3s := hB3.size
  have heq := fun (w : World) (f : Fn) (ts cs : Array Value) => run_eql_func_nil w 44 f ts cs Try.underlying44
  clear hb4 hr3 hB3
  go_wp2_with fail
  refine (wpIn_wide (n := 8)).1 ?_
  refine range_own (α := Nat) rfl (by omega) (gf := 21) (lb := #[.pointer (some ⟨W3.heap.size, 0, none⟩), .pointer (some ⟨W3.heap.size + 1, 0, none⟩), .pointer (some ⟨W3.heap.size + 2, 0, none⟩)]) rfl trivial (enters_of Try.func21 (by kernel_rfl) rfl)
    (encs := fun _ => #[undef, undef]) (R := fun _ _ _ _ => False) (K := fun _ => False)
    (fun W hW => spans1_none 7 _ _ _ .nilIface 0 9 W (hc4.below hW hc4.lt) (hf4.below hW hf4.lt) (ht4.below hW ht4.lt) (.inl rfl) _ _ _)
    (fun _ => rfl) (fun _ _ _ => True) (fun _ _ _ _ => False) (fun _ _ _ _ h _ => h) (fun _ _ _ _ _ h _ => h) (fun _ => False) trivial (fun k hk => hk.elim) (fun k hk => hk.elim) (fun k hk => hk.elim) ?round ?done ?stop
  case round =>
    intro lp pre k O D W hI hBO hBD hDO hR
    exact hR.elim
  case stop =>
    intro _ _ _ _ _ _ h
    exact h.elim
  case done =>
    intro D xs O W hD hS hI hO hBO hOD hfr hK
    have hbw : Below w4.heap.size w4 W := hfr.below (Nat.le_refl _) (fun k _ h => by rcases h with h | h <;> exact h)
    have hr5 := hr4.below hbw hr4.lt
    have hB5 := hB4.trans (hbw.mono hB4.size)
    have hDW : D < W.heap.size := (Array.getElem?_eq_some_iff.1 hK).1
    have hDr : D ≠ w.heap.size := by have := hB4.size; have := hr4.lt; omega
    clear hI hBO hO hOD hfr hS hbw hr4 hB4 hc4 hf4 ht4
    have HR := Lib.hid (right_any W w.heap.size (.slice A l.length c) l (HV.out.below hB5))
    have HR5 := Lib.hid hr5
    have HB5 := Lib.hid hB5
    have HK := Lib.hid hK
    clear hr5 hB5 hK
    cases hrb : rightB l with
    | false =>
      rw [hrb] at HR
      clear hrb
      go_wp2_with fail
      refine HR.out.mono ?_
      rintro e w6 ⟨rfl, hb6⟩
      go_wp2_with fail
      refine (awake_any _).mono ?_
      rintro e wz ⟨rfl, hbz⟩
      have hrz := (HR5.out.below hb6 HR5.out.lt).below hbz (by have := HR5.out.lt; have := hb6.size; omega)
      have gz := hrz.frozen 0
      have cz : wz.cell? ⟨w.heap.size, 0, none⟩ = some (.bool false) := hrz.cell 0 rfl
      have HZ := Lib.hid (fin_facts HK.out (hb6.trans (hbz.mono hb6.size)) hrz hDr)
      have hBz := (HB5.out.trans (hb6.mono HB5.out.size)).trans (hbz.mono (Nat.le_trans HB5.out.size hb6.size))
      go_wp2_with fail
      refine ⟨by simp, .inl ⟨_, _, rfl, run_takeDeferred HZ.out.1, ?_⟩⟩
      refine ⟨.bool true, ?_, rfl, fin_below (hBz.setCell (Nat.le_refl _) _) (by omega)⟩
      have hc := HZ.out.2
      simp [results, Try.f7, go_sem, hc]
    | true =>
      have hrow := (rightB_iff l).1 hrb
      rw [hrb] at HR
      clear hrb
      by_cases g1 : i < -2199023255552
      · go_wp2_with fail
        refine HR.out.mono ?_
        rintro e w6 ⟨rfl, hb6⟩
        have hr6 := HR5.out.below hb6 HR5.out.lt
        have hB6 := HB5.out.trans (hb6.mono HB5.out.size)
        go_wp2_with fail
        refine (show_err w6 (clocksV (.slice A l.length c)) i 10 (.inr ⟨_, rfl, rfl, .inl g1⟩)).mono ?_
        rintro e w7 ⟨rfl, hb7⟩
        have hb7' := hb7.alloc hb7.size (.cells #[.int .i64 0, .bool false, .string ⟨#[]⟩] 32)
        have hr7 := (hr6.below hb7 hr6.lt).alloc (.cells #[.int .i64 0, .bool false, .string ⟨#[]⟩] 32)
        have hB7 := hB6.trans (hb7'.mono hB6.size)
        have hD7 := hb6.trans (hb7'.mono hb6.size)
        clear hr6 hB6 hb6 hb7 hb7'
        unfold locA Loc.zero
        go_wp2_with fail
        refine (awake_any _).mono ?_
        rintro e wz ⟨rfl, hbz⟩
        have hrz := hr7.below hbz hr7.lt
        have hBz := hB7.trans (hbz.mono hB7.size)
        have HZ := Lib.hid (fin_facts HK.out (hD7.trans (hbz.mono hD7.size)) hrz hDr)
        have gz := hrz.frozen 0
        have cz : wz.cell? ⟨w.heap.size, 0, none⟩ = some (.bool false) := hrz.cell 0 rfl
        clear hr7 hB7 hD7 hbz
        go_wp2_with fail
        refine ⟨by simp, .inl ⟨_, _, rfl, run_takeDeferred HZ.out.1, ?_⟩⟩
        refine ⟨.bool true, ?_, rfl, fin_below (hBz.setCell (Nat.le_refl _) _) (by omega)⟩
        have hc := HZ.out.2
        simp [results, Try.f7, go_sem, hc]
      · by_cases g2 : 2199023255552 < i
        · go_wp2_with fail
          refine HR.out.mono ?_
          rintro e w6 ⟨rfl, hb6⟩
          have hr6 := HR5.out.below hb6 HR5.out.lt
          have hB6 := HB5.out.trans (hb6.mono HB5.out.size)
          go_wp2_with fail
          refine (show_err w6 (clocksV (.slice A l.length c)) i 10 (.inr ⟨_, rfl, rfl, .inr g2⟩)).mono ?_
          rintro e w7 ⟨rfl, hb7⟩
          have hb7' := hb7.alloc hb7.size (.cells #[.int .i64 0, .bool false, .string ⟨#[]⟩] 32)
          have hr7 := (hr6.below hb7 hr6.lt).alloc (.cells #[.int .i64 0, .bool false, .string ⟨#[]⟩] 32)
          have hB7 := hB6.trans (hb7'.mono hB6.size)
          have hD7 := hb6.trans (hb7'.mono hb6.size)
          clear hr6 hB6 hb6 hb7 hb7'
          unfold locA Loc.zero
          go_wp2_with fail
          refine (awake_any _).mono ?_
          rintro e wz ⟨rfl, hbz⟩
          have hrz := hr7.below hbz hr7.lt
          have hBz := hB7.trans (hbz.mono hB7.size)
          have HZ := Lib.hid (fin_facts HK.out (hD7.trans (hbz.mono hD7.size)) hrz hDr)
          have gz := hrz.frozen 0
          have cz : wz.cell? ⟨w.heap.size, 0, none⟩ = some (.bool false) := hrz.cell 0 rfl
          clear hr7 hB7 hD7 hbz
          go_wp2_with fail
          refine ⟨by simp, .inl ⟨_, _, rfl, run_takeDeferred HZ.out.1, ?_⟩⟩
          refine ⟨.bool true, ?_, rfl, fin_below (hBz.setCell (Nat.le_refl _) _) (by omega)⟩
          have hc := HZ.out.2
          simp [results, Try.f7, go_sem, hc]
        · obtain ⟨k, hk⟩ := hrow.some (show -2199023255552 ≤ i by omega)
          go_wp2_with fail
          refine HR.out.mono ?_
          rintro e w6 ⟨rfl, hb6⟩
          have hr6 := HR5.out.below hb6 HR5.out.lt
          have hB6 := HB5.out.trans (hb6.mono HB5.out.size)
          go_wp2_with fail
          refine (show_yes w6 w.heap.size (.slice A l.length c) l i (HV.out.below hB6) hB6.size hrow (by omega) (by omega)).mono ?_
          rintro e w7 ⟨⟨x, rfl, hx⟩, hb7⟩
          have hxk := shownTo_at hx hk
          have hof := hrow.off k hk.1
          rw [← hxk] at hof
          have HXK := Lib.hid hxk
          clear hxk hx
          have hwl : w.heap.size < w7.heap.size := Nat.lt_of_lt_of_le hr6.lt hb7.size
          have hb7' := hb7.alloc hb7.size (.cells #[.int .i64 x.off, .bool x.dst, .string x.abbr] 32)
          have hr7 := (hr6.below hb7 hr6.lt).alloc (.cells #[.int .i64 x.off, .bool x.dst, .string x.abbr] 32)
          have hx7 : LocB (w7.alloc (.cells #[.int .i64 x.off, .bool x.dst, .string x.abbr] 32)) w7.heap.size x := Blk.new w7 32 _
          have hB7 := hB6.trans (hb7'.mono hB6.size)
          have hD7 := hb6.trans (hb7'.mono hb6.size)
          clear hr6 hB6 hb6 hb7 hb7'
          unfold locA
          go_wp2_with fail
          obtain ⟨W7, hW7⟩ : ∃ W, w7.alloc (.cells #[.int .i64 x.off, .bool x.dst, .string x.abbr] 32) = W := ⟨_, rfl⟩
          rw [hW7] at hx7 hr7 hB7 hD7 ⊢
          obtain ⟨v0, v1, v2⟩ := LocB.cells hx7
          have HR7 : Hid (Blk W7.drew w.heap.size 4 #[.bool false]) := Lib.hid hr7
          have HB7 := Lib.hid hB7.drew
          have HD7 := Lib.hid hD7.drew
          have HX7 : Hid (LocB W7.drew w7.heap.size x) := Lib.hid hx7
          have KS := fun (W : World) (v : Value) (h0 : W.cell? ⟨w7.heap.size, 0, none⟩ = some (.int .i64 x.off)) (h1 : W.cell? ⟨w7.heap.size, 1, none⟩ = some (.bool x.dst)) (h2 : W.cell? ⟨w7.heap.size, 2, none⟩ = some (.string x.abbr)) => Lib.hid (keep3 (b := w.heap.size) W (Nat.ne_of_lt hwl) v h0 h1 h2)
          have x0 : W7.drew.cell? ⟨w7.heap.size, 0, none⟩ = some (.int .i64 x.off) := v0
          have x1 : W7.drew.cell? ⟨w7.heap.size, 1, none⟩ = some (.bool x.dst) := v1
          have x2 : W7.drew.cell? ⟨w7.heap.size, 2, none⟩ = some (.string x.abbr) := v2
          have SH : ∀ W, Below W7.drew.heap.size W7.drew W → Hid (Calls Try.prog 16 #[.slice A l.length c, .int .i64 i] W fun e w' => e = .returned (locA x) ∧ Below W.heap.size W w') := fun W hb => Lib.hid ((shown_any W w.heap.size (.slice A l.length c) l i (HV.out.below (HB7.out.trans (hb.mono HB7.out.size))) (Nat.le_trans HB7.out.size hb.size) hrow.pos).mono fun e w' ⟨⟨y, he, hy⟩, hb'⟩ => ⟨by rw [he, (shownTo_at hy hk).trans HXK.out.symm], hb'⟩)
          clear v0 v1 v2 hx7 hr7 hB7 hD7 hW7
          unfold locA at SH
          have hsum : IntKind.i64.wrap (i + x.off) = i + x.off := IntWalk.i64_in _ (by omega)
          go_region_held3 (fun w' => w'.cell? ⟨w7.heap.size, 0, none⟩ = some (.int .i64 x.off) ∧ w'.cell? ⟨w7.heap.size, 1, none⟩ = some (.bool x.dst) ∧ w'.cell? ⟨w7.heap.size, 2, none⟩ = some (.string x.abbr)) (first | exact ⟨x0, x1, x2⟩ | exact ⟨y0, y1, y2⟩ | exact ⟨z0, z1, z2⟩ | exact (KS _ _ z0 z1 z2).out)
            (first
              | (go_at_call 16; refine (SH _ (Below.refl _ _)).out.mono ?_; rintro e w8 ⟨rfl, hb8⟩; obtain ⟨y0, y1, y2⟩ := LocB.cells (HX7.out.below hb8 HX7.out.lt))
              | (go_at_call 10; refine (awake_any _).mono ?_; rintro e wz ⟨rfl, hbz⟩; obtain ⟨z0, z1, z2⟩ := LocB.cells ((HX7.out.below hb8 HX7.out.lt).below hbz (Nat.lt_of_lt_of_le HX7.out.lt hb8.size)); have hrz := (HR7.out.below hb8 HR7.out.lt).below hbz (Nat.lt_of_lt_of_le HR7.out.lt hb8.size); have gz := hrz.frozen 0; have cz : wz.cell? ⟨w.heap.size, 0, none⟩ = some (.bool false) := hrz.cell 0 rfl))
          have hBz := (HB7.out.trans (hb8.mono HB7.out.size)).trans (hbz.mono (Nat.le_trans HB7.out.size hb8.size))
          have HZ := Lib.hid (fin_facts HK.out ((HD7.out.trans (hb8.mono HD7.out.size)).trans (hbz.mono (Nat.le_trans HD7.out.size hb8.size))) hrz hDr)
          clear x0 x1 x2 y0 y1 y2 z0 z1 z2 SH KS
          go_wp2_with fail
          refine ⟨by simp, .inl ⟨_, _, rfl, run_takeDeferred HZ.out.1, ?_⟩⟩
          refine ⟨.bool true, ?_, rfl, fin_below (hBz.setCell (Nat.le_refl _) _) (by omega)⟩
          have hc := HZ.out.2
          simp [results, Try.f7, go_sem, hc]
end Go.Proofs.Ytlkpkmdomecopaa
