/-
  Layers 8 and 3 walked: In, Join.
-/
import Derived.Test.YtfbkkhfmboaknaaGreatDoorCivilF
import Derived.WalkMore
namespace Go.Proofs.YtfbkkhfmboaknaaGreatDoor
open Go Go.RowKit Go.Shelf
set_option maxRecDepth 100000

set_option maxHeartbeats 2000000 in
theorem in_any (k wk n y m : Int) (w : World) (ha : Ahead w) :
    Calls Tryz.prog 59 #[dayA k wk n, .int .i64 y, .int .i64 m] w fun e w' => e = .returned (.tuple #[inA k wk n y m, .int .i64 (inE k wk n y m)]) ∧ Below w.heap.size w w' := by
  have HB0 := Lib.hid (show Below w.heap.size w ((w.alloc (.cells #[.int .i64 k, .int .i64 wk, .int .i64 n] 48)).alloc (.cells #[.int .i64 0, .int .i64 0, .int .i64 0] 78)) from ((Below.refl _ _).alloc (Nat.le_refl _) _).alloc (by simp) _)
  have b0 := (Blk.new w 48 #[.int .i64 k, .int .i64 wk, .int .i64 n]).alloc (.cells #[.int .i64 0, .int .i64 0, .int .i64 0] 78)
  have b1 := Blk.new (w.alloc (.cells #[.int .i64 k, .int .i64 wk, .int .i64 n] 48)) 78 #[.int .i64 0, .int .i64 0, .int .i64 0]
  rw [World.size_alloc] at b1
  have q0 := b0.cell 0 (v := .int .i64 k) rfl
  have q1 := b0.cell 1 (v := .int .i64 wk) rfl
  have q2 := b0.cell 2 (v := .int .i64 n) rfl
  have HI := Lib.hid (And.intro b0 b1)
  clear b0 b1
  have HC := Lib.hid (dfcheck_any k wk n ((w.alloc (.cells #[.int .i64 k, .int .i64 wk, .int .i64 n] 48)).alloc (.cells #[.int .i64 0, .int .i64 0, .int .i64 0] 78)))
  cases hok : dayOkB k wk n with
  | false =>
    have e1 : inA k wk n y m = dateA 0 0 0 := by unfold inA inB; rw [hok]; rfl
    have e2 : inE k wk n y m = 10 := by unfold inE inB; rw [hok]; rfl
    rw [e1, e2]
    rw [hok] at HC
    simp only [Bool.false_eq_true, if_false] at HC
    unfold dayA at *
    clear hok e1 e2
    go_enter Tryz.func59, Tryz.ntmps59
    go_wp2_with fail
    go_step3
    go_wp2_with fail
    refine (HC.out).mono ?_
    rintro e w1 ⟨rfl, hb⟩
    have h1 := HI.out.2.below hb HI.out.2.lt
    have h0 := HI.out.1.below hb HI.out.1.lt
    have HB1 := Lib.hid (HB0.out.trans (hb.mono HB0.out.size))
    have r0 := h1.cell 0 (v := .int .i64 0) rfl
    have r1 := h1.cell 1 (v := .int .i64 0) rfl
    have r2 := h1.cell 2 (v := .int .i64 0) rfl
    have g0 := h1.frozen 0
    have g1 := h1.frozen 1
    have g2 := h1.frozen 2
    have q0 := h0.cell 0 (v := .int .i64 k) rfl
    have q2 := h0.cell 2 (v := .int .i64 n) rfl
    have H1 := Lib.hid h1
    clear hb h0 h1 HC
    go_wp2_with fail
    have HW := ((H1.out.set 0 (.int .i64 0)).set 1 (.int .i64 0)).set 2 (.int .i64 0)
    try rw [Exit.noGoto_ret]
    have w0 := HW.cell 0 (v := .int .i64 (0)) rfl
    have w1_ := HW.cell 1 (v := .int .i64 (0)) rfl
    have w2_ := HW.cell 2 (v := .int .i64 (0)) rfl
    refine bodyPost_ret (v := .tuple #[dateA (0) (0) (0), .int .i64 (10)]) ?_ rfl ⟨rfl, below_set3 HB1.out (by omega) _ _ _⟩
    simp [results, Tryz.f59, go_sem, dateA, w0, w1_, w2_]
  | true =>
    have HOK := Lib.hid hok
    rw [hok] at HC
    simp only [if_true] at HC
    cases hym : ymB y m with
    | false =>
      have e1 : inA k wk n y m = dateA 0 0 0 := by unfold inA inB; rw [hok, hym]; rfl
      have e2 : inE k wk n y m = 10 := by unfold inE inB; rw [hok, hym]; rfl
      have HLV := Lib.hid (show longV y m = (0, 10) by unfold longV; rw [hym]; rfl)
      rw [e1, e2]
      unfold dayA at *
      clear hok hym e1 e2
      go_enter Tryz.func59, Tryz.ntmps59
      go_wp2_with fail
      go_step3
      go_wp2_with fail
      refine (HC.out).mono ?_
      rintro e w1 ⟨rfl, hb⟩
      have h1 := HI.out.2.below hb HI.out.2.lt
      have h0 := HI.out.1.below hb HI.out.1.lt
      have HB1 := Lib.hid (HB0.out.trans (hb.mono HB0.out.size))
      have r0 := h1.cell 0 (v := .int .i64 0) rfl
      have r1 := h1.cell 1 (v := .int .i64 0) rfl
      have r2 := h1.cell 2 (v := .int .i64 0) rfl
      have g0 := h1.frozen 0
      have g1 := h1.frozen 1
      have g2 := h1.frozen 2
      have q0 := h0.cell 0 (v := .int .i64 k) rfl
      have q2 := h0.cell 2 (v := .int .i64 n) rfl
      have H1 := Lib.hid h1
      clear hb h0 h1 HC
      have HL := Lib.hid (long_any y m w1 (ha.below HB1.out (Nat.le_refl _)))
      go_wp2_with fail
      refine (HL.out).mono ?_
      rintro e w2 ⟨rfl, q, rfl⟩
      rw [HLV.out]
      have q0 : (w1.drewN q).cell? ⟨w.heap.size, 0, none⟩ = some (.int .i64 k) := q0
      have q2 : (w1.drewN q).cell? ⟨w.heap.size, 2, none⟩ = some (.int .i64 n) := q2
      have r0 : (w1.drewN q).cell? ⟨w.heap.size + 1, 0, none⟩ = some (.int .i64 0) := r0
      have r1 : (w1.drewN q).cell? ⟨w.heap.size + 1, 1, none⟩ = some (.int .i64 0) := r1
      have r2 : (w1.drewN q).cell? ⟨w.heap.size + 1, 2, none⟩ = some (.int .i64 0) := r2
      have g0 : (w1.drewN q).frozen? ⟨w.heap.size + 1, 0, none⟩ = false := g0
      have g1 : (w1.drewN q).frozen? ⟨w.heap.size + 1, 1, none⟩ = false := g1
      have g2 : (w1.drewN q).frozen? ⟨w.heap.size + 1, 2, none⟩ = false := g2
      have H2 := Lib.hid (H1.out.drewN q)
      have HB2 := Lib.hid (below_drewN HB1.out q)
      clear HL
      go_wp2_with fail
      have HW := ((H2.out.set 0 (.int .i64 0)).set 1 (.int .i64 0)).set 2 (.int .i64 0)
      try rw [Exit.noGoto_ret]
      have w0 := HW.cell 0 (v := .int .i64 (0)) rfl
      have w1_ := HW.cell 1 (v := .int .i64 (0)) rfl
      have w2_ := HW.cell 2 (v := .int .i64 (0)) rfl
      refine bodyPost_ret (v := .tuple #[dateA (0) (0) (0), .int .i64 (10)]) ?_ rfl ⟨rfl, below_set3 HB2.out (by omega) _ _ _⟩
      simp [results, Tryz.f59, go_sem, dateA, w0, w1_, w2_]
    | true =>
      have HLV := Lib.hid (show longV y m = (lenV y m, 0) by unfold longV; rw [hym]; rfl)
      by_cases hn : n ≤ lenV y m
      · by_cases h0 : k = 0
        · have e1 : inA k wk n y m = dateA y m n := by unfold inA inB; rw [hok, hym, decide_eq_true hn]; simp [h0]
          have e2 : inE k wk n y m = 0 := by unfold inE inB; rw [hok, hym, decide_eq_true hn]; simp [h0]
          rw [e1, e2]
          subst h0
          unfold dayA at *
          clear hok hym e1 e2
          generalize lenV y m = l at *
          go_enter Tryz.func59, Tryz.ntmps59
          go_wp2_with fail
          go_step3
          go_wp2_with fail
          refine (HC.out).mono ?_
          rintro e w1 ⟨rfl, hb⟩
          have h1 := HI.out.2.below hb HI.out.2.lt
          have h0 := HI.out.1.below hb HI.out.1.lt
          have HB1 := Lib.hid (HB0.out.trans (hb.mono HB0.out.size))
          have r0 := h1.cell 0 (v := .int .i64 0) rfl
          have r1 := h1.cell 1 (v := .int .i64 0) rfl
          have r2 := h1.cell 2 (v := .int .i64 0) rfl
          have g0 := h1.frozen 0
          have g1 := h1.frozen 1
          have g2 := h1.frozen 2
          have q0 := h0.cell 0 (v := .int .i64 0) rfl
          have q2 := h0.cell 2 (v := .int .i64 n) rfl
          have H1 := Lib.hid h1
          clear hb h0 h1 HC
          have HL := Lib.hid (long_any y m w1 (ha.below HB1.out (Nat.le_refl _)))
          go_wp2_with fail
          refine (HL.out).mono ?_
          rintro e w2 ⟨rfl, q, rfl⟩
          rw [HLV.out]
          have q0 : (w1.drewN q).cell? ⟨w.heap.size, 0, none⟩ = some (.int .i64 0) := q0
          have q2 : (w1.drewN q).cell? ⟨w.heap.size, 2, none⟩ = some (.int .i64 n) := q2
          have r0 : (w1.drewN q).cell? ⟨w.heap.size + 1, 0, none⟩ = some (.int .i64 0) := r0
          have r1 : (w1.drewN q).cell? ⟨w.heap.size + 1, 1, none⟩ = some (.int .i64 0) := r1
          have r2 : (w1.drewN q).cell? ⟨w.heap.size + 1, 2, none⟩ = some (.int .i64 0) := r2
          have g0 : (w1.drewN q).frozen? ⟨w.heap.size + 1, 0, none⟩ = false := g0
          have g1 : (w1.drewN q).frozen? ⟨w.heap.size + 1, 1, none⟩ = false := g1
          have g2 : (w1.drewN q).frozen? ⟨w.heap.size + 1, 2, none⟩ = false := g2
          have H2 := Lib.hid (H1.out.drewN q)
          have HB2 := Lib.hid (below_drewN HB1.out q)
          clear HL
          go_wp2_with fail
          have HW := ((H2.out.set 0 (.int .i64 y)).set 1 (.int .i64 m)).set 2 (.int .i64 n)
          try rw [Exit.noGoto_ret]
          have w0 := HW.cell 0 (v := .int .i64 (y)) rfl
          have w1_ := HW.cell 1 (v := .int .i64 (m)) rfl
          have w2_ := HW.cell 2 (v := .int .i64 (n)) rfl
          refine bodyPost_ret (v := .tuple #[dateA (y) (m) (n), .int .i64 (0)]) ?_ rfl ⟨rfl, below_set3 HB2.out (by omega) _ _ _⟩
          simp [results, Tryz.f59, go_sem, dateA, w0, w1_, w2_]
        · have hB : inB k wk n y m = true := by unfold inB; rw [hok, hym, decide_eq_true hn]; rfl
          have e1 : inA k wk n y m = ofA (inDay k wk n y m) := by unfold inA; rw [if_pos hB, if_neg h0]
          have e2 : inE k wk n y m = ofE_ (inDay k wk n y m) := by unfold inE; rw [if_pos hB, if_neg h0]
          rw [e1, e2]
          have hk : k = 1 ∨ k = 2 ∨ k = 3 := by
            unfold dayOkB at hok
            rw [decide_eq_true_eq] at hok
            omega
          clear HI HB0 HC HOK HLV q0 q1 q2 e1 e2
          rcases hk with rfl | rfl | rfl
          · exact in_last wk n y m w ha hB
          · exact in_less wk n y m w ha hB
          · exact in_great wk n y m w ha hB
      · have e1 : inA k wk n y m = dateA 0 0 0 := by unfold inA inB; rw [hok, hym, decide_eq_false hn]; rfl
        have e2 : inE k wk n y m = 10 := by unfold inE inB; rw [hok, hym, decide_eq_false hn]; rfl
        rw [e1, e2]
        unfold dayA at *
        clear hok hym e1 e2
        generalize lenV y m = l at *
        go_enter Tryz.func59, Tryz.ntmps59
        go_wp2_with fail
        go_step3
        go_wp2_with fail
        refine (HC.out).mono ?_
        rintro e w1 ⟨rfl, hb⟩
        have h1 := HI.out.2.below hb HI.out.2.lt
        have h0 := HI.out.1.below hb HI.out.1.lt
        have HB1 := Lib.hid (HB0.out.trans (hb.mono HB0.out.size))
        have r0 := h1.cell 0 (v := .int .i64 0) rfl
        have r1 := h1.cell 1 (v := .int .i64 0) rfl
        have r2 := h1.cell 2 (v := .int .i64 0) rfl
        have g0 := h1.frozen 0
        have g1 := h1.frozen 1
        have g2 := h1.frozen 2
        have q0 := h0.cell 0 (v := .int .i64 k) rfl
        have q2 := h0.cell 2 (v := .int .i64 n) rfl
        have H1 := Lib.hid h1
        clear hb h0 h1 HC
        have HL := Lib.hid (long_any y m w1 (ha.below HB1.out (Nat.le_refl _)))
        go_wp2_with fail
        refine (HL.out).mono ?_
        rintro e w2 ⟨rfl, q, rfl⟩
        rw [HLV.out]
        have q0 : (w1.drewN q).cell? ⟨w.heap.size, 0, none⟩ = some (.int .i64 k) := q0
        have q2 : (w1.drewN q).cell? ⟨w.heap.size, 2, none⟩ = some (.int .i64 n) := q2
        have r0 : (w1.drewN q).cell? ⟨w.heap.size + 1, 0, none⟩ = some (.int .i64 0) := r0
        have r1 : (w1.drewN q).cell? ⟨w.heap.size + 1, 1, none⟩ = some (.int .i64 0) := r1
        have r2 : (w1.drewN q).cell? ⟨w.heap.size + 1, 2, none⟩ = some (.int .i64 0) := r2
        have g0 : (w1.drewN q).frozen? ⟨w.heap.size + 1, 0, none⟩ = false := g0
        have g1 : (w1.drewN q).frozen? ⟨w.heap.size + 1, 1, none⟩ = false := g1
        have g2 : (w1.drewN q).frozen? ⟨w.heap.size + 1, 2, none⟩ = false := g2
        have H2 := Lib.hid (H1.out.drewN q)
        have HB2 := Lib.hid (below_drewN HB1.out q)
        clear HL
        go_wp2_with fail
        have HW := ((H2.out.set 0 (.int .i64 0)).set 1 (.int .i64 0)).set 2 (.int .i64 0)
        try rw [Exit.noGoto_ret]
        have w0 := HW.cell 0 (v := .int .i64 (0)) rfl
        have w1_ := HW.cell 1 (v := .int .i64 (0)) rfl
        have w2_ := HW.cell 2 (v := .int .i64 (0)) rfl
        refine bodyPost_ret (v := .tuple #[dateA (0) (0) (0), .int .i64 (10)]) ?_ rfl ⟨rfl, below_set3 HB2.out (by omega) _ _ _⟩
        simp [results, Tryz.f59, go_sem, dateA, w0, w1_, w2_]
/-- May a span of a day be? -/
def mayB (s : Int) : Bool := decide (-604800 < s ∧ s < 604800)
theorem may_any (s : Int) (w : World) : Calls Tryz.prog 99 #[.int .i64 s] w fun e w' => e = .returned (.bool (mayB s)) ∧ w' = w := by
  by_cases h1 : -604800 < s
  · by_cases h2 : s < 604800
    · have HV := Lib.hid (show mayB s = true by unfold mayB; rw [decide_eq_true_eq]; omega)
      go_enter Tryz.func99, Tryz.ntmps99
      go_wp2_with fail
      go_ret
      exact ⟨by rw [HV.out]; rfl, rfl⟩
    · have HV := Lib.hid (show mayB s = false by unfold mayB; rw [decide_eq_false_iff_not]; omega)
      have hd : decide (s < 604800) = false := decide_eq_false h2
      go_enter Tryz.func99, Tryz.ntmps99
      go_wp2_with fail
      go_ret
      exact ⟨by rw [HV.out]; rfl, rfl⟩
  · have HV := Lib.hid (show mayB s = false by unfold mayB; rw [decide_eq_false_iff_not]; omega)
    have hd : decide (-604800 < s) = false := decide_eq_false h1
    go_enter Tryz.func99, Tryz.ntmps99
    go_wp2_with fail
    go_ret
    exact ⟨by rw [HV.out]; rfl, rfl⟩
set_option maxHeartbeats 1000000 in
theorem join_any (y m d s : Int) (w : World) (ha : Ahead w) :
    Calls Tryz.prog 60 #[dateA y m d, .int .i64 s] w fun e w' => e = .returned (if dateB y m d && mayB s then .tuple #[.int .i64 (dayV y m d * 86400 + s), .int .i64 0] else .tuple #[.int .i64 0, .int .i64 10]) ∧ Below w.heap.size w w' := by
  have HB0 := Lib.hid ((Below.refl w.heap.size w).alloc (Nat.le_refl _) (.cells #[.int .i64 y, .int .i64 m, .int .i64 d] 78))
  have HD := Lib.hid (days_any y m d (w.alloc (.cells #[.int .i64 y, .int .i64 m, .int .i64 d] 78)) (ha.below HB0.out (Nat.le_refl _)))
  have HM := Lib.hid (fun W => may_any s W)
  unfold dateA at *
  cases h : dateB y m d with
  | false =>
    rw [h] at HD
    simp only [Bool.false_and, Bool.false_eq_true, if_false] at HD ⊢
    clear h
    go_enter Tryz.func60, Tryz.ntmps60
    go_wp2_with fail
    refine HD.out.mono ?_
    rintro e w1 ⟨rfl, hb⟩
    have HB1 := Lib.hid (HB0.out.trans (hb.mono HB0.out.size))
    clear hb
    go_wp2_with fail
    refine bodyPost_ret (v := .tuple #[.int .i64 0, .int .i64 10]) ?_ rfl ⟨rfl, HB1.out⟩
    simp [results, Tryz.f60, go_sem]
  | true =>
    rw [h] at HD
    have hr := dayV_in h
    simp only [Bool.true_and, if_true] at HD ⊢
    clear h
    generalize dayV y m d = v at *
    cases hs : mayB s with
    | false =>
      rw [hs] at HM
      simp only [Bool.false_eq_true, if_false]
      clear hs
      go_enter Tryz.func60, Tryz.ntmps60
      go_wp2_with fail
      refine HD.out.mono ?_
      rintro e w1 ⟨rfl, hb⟩
      have HB1 := Lib.hid (HB0.out.trans (hb.mono HB0.out.size))
      clear hb
      go_wp2_with fail
      refine (HM.out _).mono ?_
      rintro e w2 ⟨rfl, rfl⟩
      go_wp2_with fail
      refine bodyPost_ret (v := .tuple #[.int .i64 0, .int .i64 10]) ?_ rfl ⟨rfl, HB1.out⟩
      simp [results, Tryz.f60, go_sem]
    | true =>
      rw [hs] at HM
      have hs2 := hs
      unfold mayB at hs2
      rw [decide_eq_true_eq] at hs2
      simp only [if_true]
      clear hs
      go_enter Tryz.func60, Tryz.ntmps60
      go_wp2_with fail
      refine HD.out.mono ?_
      rintro e w1 ⟨rfl, hb⟩
      have HB1 := Lib.hid (HB0.out.trans (hb.mono HB0.out.size))
      clear hb
      go_wp2_with fail
      refine (HM.out _).mono ?_
      rintro e w2 ⟨rfl, rfl⟩
      go_wp2_with fail
      refine bodyPost_ret (v := .tuple #[.int .i64 (v * 86400 + s), .int .i64 0]) ?_ rfl ⟨rfl, HB1.out⟩
      simp [results, Tryz.f60, go_sem]
end Go.Proofs.YtfbkkhfmboaknaaGreatDoor
