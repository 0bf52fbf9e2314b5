/-
  Layer 11 walked: a rule's firing in a year.
-/
import Derived.Test.YtfbkkhfmboaknaaGreatDoorCivilG
import Derived.Test.YtfbkkhfmboaknaaGreatDoorFBase
namespace Go.Proofs.YtfbkkhfmboaknaaGreatDoor
open Go Go.RowKit Go.Shelf
set_option maxRecDepth 100000

/-- A rule. -/
structure Rul where
  name : ByteArray
  from_ : Int
  to_ : Int
  month : Int
  dk : Int
  dw : Int
  dn : Int
  sec : Int
  kind : Int
  save : Int
  letter : ByteArray
def rulV (r : Rul) : List Value := [.string r.name, .int .i64 r.from_, .int .i64 r.to_, .int .i64 r.month, .int .i64 r.dk, .int .i64 r.dw, .int .i64 r.dn, .int .i64 r.sec, .int .i64 r.kind, .int .i64 r.save, .string r.letter]
def rulA (r : Rul) : Value := .agg #[.string r.name, .int .i64 r.from_, .int .i64 r.to_, .int .i64 r.month, .int .i64 r.dk, .int .i64 r.dw, .int .i64 r.dn, .int .i64 r.sec, .int .i64 r.kind, .int .i64 r.save, .string r.letter]
abbrev RulB (W : World) (b : Nat) (r : Rul) : Prop := Blk W b 76 #[.string r.name, .int .i64 r.from_, .int .i64 r.to_, .int .i64 r.month, .int .i64 r.dk, .int .i64 r.dw, .int .i64 r.dn, .int .i64 r.sec, .int .i64 r.kind, .int .i64 r.save, .string r.letter]
def Fir.zero : Fir := ⟨0, 0, 0, ⟨#[]⟩⟩
def inOkB (k wk n y m : Int) : Bool := inB k wk n y m && (decide (k = 0) || ofInB (inDay k wk n y m))
/-- Does a rule fire in a year, and how? -/
def ofB (r : Rul) (y : Int) : Bool := decide (r.from_ ≤ y ∧ y ≤ r.to_) && (inOkB r.dk r.dw r.dn y r.month && mayB r.sec)
def firOf (r : Rul) (y : Int) : Fir := ⟨inDay r.dk r.dw r.dn y r.month * 86400 + r.sec, r.kind, r.save, r.letter⟩
def ofV (r : Rul) (y : Int) : Fir := if ofB r y then firOf r y else .zero
theorem in_ok {k wk n y m : Int} (h : inOkB k wk n y m = true) : ∃ Y M D, inA k wk n y m = dateA Y M D ∧ inE k wk n y m = 0 ∧ dateB Y M D = true ∧ dayV Y M D = inDay k wk n y m := by
  unfold inOkB at h
  rw [Bool.and_eq_true, Bool.or_eq_true, decide_eq_true_eq] at h
  obtain ⟨h1, h2⟩ := h
  by_cases h0 : k = 0
  · refine ⟨y, m, n, by unfold inA; rw [if_pos h1, if_pos h0], by unfold inE; rw [if_pos h1, if_pos h0], ?_, by unfold inDay; rw [if_pos h0]⟩
    unfold inB dayOkB at h1
    unfold dateB
    simp only [Bool.and_eq_true, decide_eq_true_eq] at h1 ⊢
    exact ⟨h1.1.2, by omega, h1.2⟩
  · have h2 := h2.resolve_left h0
    have h3 := h2
    unfold ofInB at h3
    rw [decide_eq_true_eq] at h3
    have h4 := of_date h3.1 h3.2
    exact ⟨_, _, _, by unfold inA ofA; rw [if_pos h1, if_neg h0, if_pos h2], by unfold inE ofE_; rw [if_pos h1, if_neg h0, if_pos h2], h4.1, h4.2⟩
theorem in_no {k wk n y m : Int} (h : inOkB k wk n y m = false) : (∃ Y M D, inA k wk n y m = dateA Y M D) ∧ inE k wk n y m = 10 := by
  unfold inOkB at h
  unfold inA inE ofA ofE_
  cases h1 : inB k wk n y m with
  | false => exact ⟨⟨_, _, _, rfl⟩, rfl⟩
  | true =>
    rw [h1, Bool.true_and, Bool.or_eq_false_iff, decide_eq_false_iff_not] at h
    rw [if_pos rfl, if_neg h.1, h.2, if_pos rfl, if_neg h.1]
    exact ⟨⟨_, _, _, rfl⟩, rfl⟩
set_option maxHeartbeats 2000000 in
theorem fof_any (r : Rul) (y : Int) (w : World) (ha : Ahead w) :
    Calls Tryz.prog 137 #[rulA r, .int .i64 y] w fun e w' => e = .returned (.tuple #[firA (ofV r y), .bool (ofB r y)]) ∧ Below w.heap.size w w' := by
  have HB0 := Lib.hid (show Below w.heap.size w ((w.alloc (.cells (rulV r).toArray 76)).alloc (.cells #[.int .i64 0, .int .i64 0, .int .i64 0, .string ⟨#[]⟩] 126)) from ((Below.refl _ _).alloc (Nat.le_refl _) _).alloc (by simp) _)
  have b0 : RulB ((w.alloc (.cells (rulV r).toArray 76)).alloc (.cells #[.int .i64 0, .int .i64 0, .int .i64 0, .string ⟨#[]⟩] 126)) w.heap.size r := (Blk.new w 76 (rulV r).toArray).alloc (.cells #[.int .i64 0, .int .i64 0, .int .i64 0, .string ⟨#[]⟩] 126)
  have b1 := Blk.new (w.alloc (.cells (rulV r).toArray 76)) 126 #[.int .i64 0, .int .i64 0, .int .i64 0, .string ⟨#[]⟩]
  rw [World.size_alloc] at b1
  unfold rulV at HB0 b0 b1
  have HI := Lib.hid (And.intro b0 b1)
  have q1 := Blk.cell b0 1 (v := .int .i64 r.from_) rfl
  have q2 := Blk.cell b0 2 (v := .int .i64 r.to_) rfl
  have q3 := Blk.cell b0 3 (v := .int .i64 r.month) rfl
  have q4 := Blk.cell b0 4 (v := .int .i64 r.dk) rfl
  have q5 := Blk.cell b0 5 (v := .int .i64 r.dw) rfl
  have q6 := Blk.cell b0 6 (v := .int .i64 r.dn) rfl
  have r0 := b1.cell 0 (v := .int .i64 0) rfl
  have r1 := b1.cell 1 (v := .int .i64 0) rfl
  have r2 := b1.cell 2 (v := .int .i64 0) rfl
  have r3 := b1.cell 3 (v := .string ⟨#[]⟩) rfl
  have g0 := b1.frozen 0
  have g1 := b1.frozen 1
  have g2 := b1.frozen 2
  have g3 := b1.frozen 3
  have HN := Lib.hid (in_any r.dk r.dw r.dn y r.month ((w.alloc (.cells (rulV r).toArray 76)).alloc (.cells #[.int .i64 0, .int .i64 0, .int .i64 0, .string ⟨#[]⟩] 126)) (ha.below HB0.out (Nat.le_refl _)))
  clear b0 b1
  unfold rulV dayA at HN
  by_cases h1 : y < r.from_
  · have e1 : ofB r y = false := by unfold ofB; rw [decide_eq_false (by omega)]; rfl
    have e2 : ofV r y = .zero := by unfold ofV; rw [e1]; rfl
    rw [e1, e2]
    have hd : decide (y < r.from_) = true := decide_eq_true h1
    unfold rulA firA Fir.zero
    clear e1 e2
    go_enter Tryz.func137, Tryz.ntmps137
    go_wp2_with fail
    refine bodyPost_ret (v := .tuple #[.agg #[.int .i64 0, .int .i64 0, .int .i64 0, .string ⟨#[]⟩], .bool false]) ?_ rfl ⟨rfl, HB0.out⟩
    simp [results, Tryz.f137, go_sem, r0, r1, r2, r3]
  · have hd : decide (y < r.from_) = false := decide_eq_false h1
    by_cases h2 : r.to_ < y
    · have e1 : ofB r y = false := by unfold ofB; rw [decide_eq_false (by omega)]; rfl
      have e2 : ofV r y = .zero := by unfold ofV; rw [e1]; rfl
      rw [e1, e2]
      have hd2 : decide (r.to_ < y) = true := decide_eq_true h2
      unfold rulA firA Fir.zero
      clear e1 e2
      go_enter Tryz.func137, Tryz.ntmps137
      go_wp2_with fail
      refine bodyPost_ret (v := .tuple #[.agg #[.int .i64 0, .int .i64 0, .int .i64 0, .string ⟨#[]⟩], .bool false]) ?_ rfl ⟨rfl, HB0.out⟩
      simp [results, Tryz.f137, go_sem, r0, r1, r2, r3]
    · have hd2 : decide (r.to_ < y) = false := decide_eq_false h2
      have HM := Lib.hid (show ofB r y = (inOkB r.dk r.dw r.dn y r.month && mayB r.sec) by unfold ofB; rw [decide_eq_true (by omega)]; rfl)
      cases hin : inOkB r.dk r.dw r.dn y r.month with
      | false =>
        obtain ⟨⟨Y, M, D, eA⟩, eE⟩ := in_no hin
        have e1 : ofB r y = false := by rw [HM.out, hin]; rfl
        have e2 : ofV r y = .zero := by unfold ofV; rw [e1]; rfl
        rw [eA, eE] at HN
        unfold dateA at HN
        rw [e1, e2]
        unfold rulA firA Fir.zero
        clear e1 e2 eA eE hin h1 h2
        go_enter Tryz.func137, Tryz.ntmps137
        go_wp2_with fail
        refine HN.out.mono ?_
        rintro e w1 ⟨rfl, hb⟩
        have h0 := Blk.below HI.out.1 hb HI.out.1.lt
        have h1 := HI.out.2.below hb HI.out.2.lt
        have hb1 := HB0.out.trans (hb.mono HB0.out.size)
        have HBW := Lib.hid (hb1.alloc hb1.size (.cells #[.int .i64 Y, .int .i64 M, .int .i64 D] 78))
        have HRB := Lib.hid (show RulB (w1.alloc (.cells #[.int .i64 Y, .int .i64 M, .int .i64 D] 78)) w.heap.size r from Blk.alloc h0 _)
        have HFB1 := Lib.hid (h1.alloc (.cells #[.int .i64 Y, .int .i64 M, .int .i64 D] 78))
        have HDB := Lib.hid (Blk.new w1 78 #[.int .i64 Y, .int .i64 M, .int .i64 D])
        have HAW := Lib.hid (ha.below HBW.out (Nat.le_refl _))
        have q7 := Blk.cell h0 7 (v := .int .i64 r.sec) rfl
        have q8 := Blk.cell h0 8 (v := .int .i64 r.kind) rfl
        have q9 := Blk.cell h0 9 (v := .int .i64 r.save) rfl
        have q10 := Blk.cell h0 10 (v := .string r.letter) rfl
        have r0 := h1.cell 0 (v := .int .i64 0) rfl
        have r1 := h1.cell 1 (v := .int .i64 0) rfl
        have r2 := h1.cell 2 (v := .int .i64 0) rfl
        have r3 := h1.cell 3 (v := .string ⟨#[]⟩) rfl
        have g0 := h1.frozen 0
        have g1 := h1.frozen 1
        have g2 := h1.frozen 2
        have g3 := h1.frozen 3
        have hl0 := Blk.lt h0
        have hl1 := h1.lt
        have HF1 := Lib.hid h1
        have HB1W := Lib.hid hb1
        clear hb h0 h1 hb1 q1 q2 q3 q4 q5 q6
        go_wp2_with fail
        have HW := ((((HF1.out.set 0 (.int .i64 0)).set 1 (.int .i64 0)).set 2 (.int .i64 0)).set 3 (.string ⟨#[]⟩)).alloc (.cells #[.int .i64 Y, .int .i64 M, .int .i64 D] 78)
        refine bodyPost_ret (v := .tuple #[.agg #[.int .i64 0, .int .i64 0, .int .i64 0, .string ⟨#[]⟩], .bool false]) ?_ rfl ⟨rfl, (below_set4 HB1W.out (by omega) _ _ _ _).alloc (by have := HB1W.out.size; simpa using this) _⟩
        have v0 := HW.cell 0 (v := .int .i64 0) rfl
        have v1 := HW.cell 1 (v := .int .i64 0) rfl
        have v2 := HW.cell 2 (v := .int .i64 0) rfl
        have v3 := HW.cell 3 (v := .string ⟨#[]⟩) rfl
        simp [results, Tryz.f137, go_sem, v0, v1, v2, v3]
      | true =>
        obtain ⟨Y, M, D, eA, eE, hdt, hdv⟩ := in_ok hin
        have hdr := dayV_in hdt
        rw [eA, eE] at HN
        have HJ := Lib.hid (fun W h => join_any Y M D r.sec W h)
        rw [hdt, hdv] at HJ
        rw [hdv] at hdr
        simp only [Bool.true_and] at HJ
        unfold dateA at HN HJ
        cases hs : mayB r.sec with
        | false =>
          have e1 : ofB r y = false := by rw [HM.out, hin, hs]; rfl
          have e2 : ofV r y = .zero := by unfold ofV; rw [e1]; rfl
          rw [hs] at HJ
          simp only [Bool.false_eq_true, if_false] at HJ
          rw [e1, e2]
          unfold rulA firA Fir.zero
          clear e1 e2 eA eE hin h1 h2 hdt hdv hs
          go_enter Tryz.func137, Tryz.ntmps137
          go_wp2_with fail
          refine HN.out.mono ?_
          rintro e w1 ⟨rfl, hb⟩
          have h0 := Blk.below HI.out.1 hb HI.out.1.lt
          have h1 := HI.out.2.below hb HI.out.2.lt
          have hb1 := HB0.out.trans (hb.mono HB0.out.size)
          have HBW := Lib.hid (hb1.alloc hb1.size (.cells #[.int .i64 Y, .int .i64 M, .int .i64 D] 78))
          have HRB := Lib.hid (show RulB (w1.alloc (.cells #[.int .i64 Y, .int .i64 M, .int .i64 D] 78)) w.heap.size r from Blk.alloc h0 _)
          have HFB1 := Lib.hid (h1.alloc (.cells #[.int .i64 Y, .int .i64 M, .int .i64 D] 78))
          have HDB := Lib.hid (Blk.new w1 78 #[.int .i64 Y, .int .i64 M, .int .i64 D])
          have HAW := Lib.hid (ha.below HBW.out (Nat.le_refl _))
          have q7 := Blk.cell h0 7 (v := .int .i64 r.sec) rfl
          have q8 := Blk.cell h0 8 (v := .int .i64 r.kind) rfl
          have q9 := Blk.cell h0 9 (v := .int .i64 r.save) rfl
          have q10 := Blk.cell h0 10 (v := .string r.letter) rfl
          have r0 := h1.cell 0 (v := .int .i64 0) rfl
          have r1 := h1.cell 1 (v := .int .i64 0) rfl
          have r2 := h1.cell 2 (v := .int .i64 0) rfl
          have r3 := h1.cell 3 (v := .string ⟨#[]⟩) rfl
          have g0 := h1.frozen 0
          have g1 := h1.frozen 1
          have g2 := h1.frozen 2
          have g3 := h1.frozen 3
          have hl0 := Blk.lt h0
          have hl1 := h1.lt
          have HF1 := Lib.hid h1
          have HB1W := Lib.hid hb1
          clear hb h0 h1 hb1 q1 q2 q3 q4 q5 q6
          go_wp2_with fail
          refine (HJ.out _ HAW.out).mono ?_
          rintro e w2 ⟨rfl, hb⟩
          have h0 := Blk.below HRB.out hb (Blk.lt HRB.out)
          have h1 := HFB1.out.below hb HFB1.out.lt
          have HBX := Lib.hid (HBW.out.trans (hb.mono HBW.out.size))
          have HFB := Lib.hid h1
          have q7 := Blk.cell h0 7 (v := .int .i64 r.sec) rfl
          have q8 := Blk.cell h0 8 (v := .int .i64 r.kind) rfl
          have q9 := Blk.cell h0 9 (v := .int .i64 r.save) rfl
          have q10 := Blk.cell h0 10 (v := .string r.letter) rfl
          have r0 := h1.cell 0 (v := .int .i64 0) rfl
          have r1 := h1.cell 1 (v := .int .i64 0) rfl
          have r2 := h1.cell 2 (v := .int .i64 0) rfl
          have r3 := h1.cell 3 (v := .string ⟨#[]⟩) rfl
          have g0 := h1.frozen 0
          have g1 := h1.frozen 1
          have g2 := h1.frozen 2
          have g3 := h1.frozen 3
          clear hb h0 h1
          go_wp2_with fail
          have HW := (((HFB.out.set 0 (.int .i64 0)).set 1 (.int .i64 0)).set 2 (.int .i64 0)).set 3 (.string ⟨#[]⟩)
          refine bodyPost_ret (v := .tuple #[.agg #[.int .i64 0, .int .i64 0, .int .i64 0, .string ⟨#[]⟩], .bool false]) ?_ rfl ⟨rfl, below_set4 HBX.out (by omega) _ _ _ _⟩
          have v0 := HW.cell 0 (v := .int .i64 0) rfl
          have v1 := HW.cell 1 (v := .int .i64 0) rfl
          have v2 := HW.cell 2 (v := .int .i64 0) rfl
          have v3 := HW.cell 3 (v := .string ⟨#[]⟩) rfl
          simp [results, Tryz.f137, go_sem, v0, v1, v2, v3]
        | true =>
          have e1 : ofB r y = true := by rw [HM.out, hin, hs]; rfl
          have e2 : ofV r y = firOf r y := by unfold ofV; rw [e1]; rfl
          rw [hs] at HJ
          simp only [if_true] at HJ
          rw [e1, e2]
          unfold rulA firA firOf
          unfold mayB at hs
          rw [decide_eq_true_eq] at hs
          generalize inDay r.dk r.dw r.dn y r.month = v at *
          clear e1 e2 eA eE hin h1 h2 hdt hdv HM
          go_enter Tryz.func137, Tryz.ntmps137
          go_wp2_with fail
          refine HN.out.mono ?_
          rintro e w1 ⟨rfl, hb⟩
          have h0 := Blk.below HI.out.1 hb HI.out.1.lt
          have h1 := HI.out.2.below hb HI.out.2.lt
          have hb1 := HB0.out.trans (hb.mono HB0.out.size)
          have HBW := Lib.hid (hb1.alloc hb1.size (.cells #[.int .i64 Y, .int .i64 M, .int .i64 D] 78))
          have HRB := Lib.hid (show RulB (w1.alloc (.cells #[.int .i64 Y, .int .i64 M, .int .i64 D] 78)) w.heap.size r from Blk.alloc h0 _)
          have HFB1 := Lib.hid (h1.alloc (.cells #[.int .i64 Y, .int .i64 M, .int .i64 D] 78))
          have HDB := Lib.hid (Blk.new w1 78 #[.int .i64 Y, .int .i64 M, .int .i64 D])
          have HAW := Lib.hid (ha.below HBW.out (Nat.le_refl _))
          have q7 := Blk.cell h0 7 (v := .int .i64 r.sec) rfl
          have q8 := Blk.cell h0 8 (v := .int .i64 r.kind) rfl
          have q9 := Blk.cell h0 9 (v := .int .i64 r.save) rfl
          have q10 := Blk.cell h0 10 (v := .string r.letter) rfl
          have r0 := h1.cell 0 (v := .int .i64 0) rfl
          have r1 := h1.cell 1 (v := .int .i64 0) rfl
          have r2 := h1.cell 2 (v := .int .i64 0) rfl
          have r3 := h1.cell 3 (v := .string ⟨#[]⟩) rfl
          have g0 := h1.frozen 0
          have g1 := h1.frozen 1
          have g2 := h1.frozen 2
          have g3 := h1.frozen 3
          have hl0 := Blk.lt h0
          have hl1 := h1.lt
          have HF1 := Lib.hid h1
          have HB1W := Lib.hid hb1
          clear hb h0 h1 hb1 q1 q2 q3 q4 q5 q6
          go_wp2_with fail
          refine (HJ.out _ HAW.out).mono ?_
          rintro e w2 ⟨rfl, hb⟩
          have h0 := Blk.below HRB.out hb (Blk.lt HRB.out)
          have h1 := HFB1.out.below hb HFB1.out.lt
          have HBX := Lib.hid (HBW.out.trans (hb.mono HBW.out.size))
          have HFB := Lib.hid h1
          have q7 := Blk.cell h0 7 (v := .int .i64 r.sec) rfl
          have q8 := Blk.cell h0 8 (v := .int .i64 r.kind) rfl
          have q9 := Blk.cell h0 9 (v := .int .i64 r.save) rfl
          have q10 := Blk.cell h0 10 (v := .string r.letter) rfl
          have r0 := h1.cell 0 (v := .int .i64 0) rfl
          have r1 := h1.cell 1 (v := .int .i64 0) rfl
          have r2 := h1.cell 2 (v := .int .i64 0) rfl
          have r3 := h1.cell 3 (v := .string ⟨#[]⟩) rfl
          have g0 := h1.frozen 0
          have g1 := h1.frozen 1
          have g2 := h1.frozen 2
          have g3 := h1.frozen 3
          clear hb h0 h1
          go_wp2_with fail
          have HW := (((HFB.out.set 0 (.int .i64 (v * 86400 + r.sec))).set 1 (.int .i64 r.kind)).set 2 (.int .i64 r.save)).set 3 (.string r.letter)
          refine bodyPost_ret (v := .tuple #[.agg #[.int .i64 (v * 86400 + r.sec), .int .i64 r.kind, .int .i64 r.save, .string r.letter], .bool true]) ?_ rfl ⟨rfl, below_set4 HBX.out (by omega) _ _ _ _⟩
          have w0 := HW.cell 0 (v := .int .i64 (v * 86400 + r.sec)) rfl
          have w1 := HW.cell 1 (v := .int .i64 r.kind) rfl
          have w2 := HW.cell 2 (v := .int .i64 r.save) rfl
          have w3 := HW.cell 3 (v := .string r.letter) rfl
          simp [results, Tryz.f137, go_sem, w0, w1, w2, w3]
end Go.Proofs.YtfbkkhfmboaknaaGreatDoor
