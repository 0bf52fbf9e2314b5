/-
  Layer 11's law: are rules small? The chapter's example.
-/
import Derived.Laws.AppendOwn
import Derived.Laws.AppendOwnNone
import Derived.Maps.AppendAt
import Derived.Lib.MinMax
import Derived.Lib.SplitLaws
import Derived.Lib.PathFns
import Derived.Lib.SmallJoins
import Derived.Test.YtonmmgcibpjahaaGreatDoorPt4
section
/- Fire: Layer 11 walked: a rule's firing in a year. -/
namespace Go.Proofs.YtonmmgcibpjahaaGreatDoor
open Go Go.RowKit Go.Shelf
set_option maxRecDepth 100000

/-- A rule. -/
structure Rul where
  name : ByteArray
  from_ : Int
  to_ : Int
  month : Int
  dk : Int
  dw : Int
  dn : Int
  sec : Int
  kind : Int
  save : Int
  letter : ByteArray
def rulV (r : Rul) : List Value := [.string r.name, .int .i64 r.from_, .int .i64 r.to_, .int .i64 r.month, .int .i64 r.dk, .int .i64 r.dw, .int .i64 r.dn, .int .i64 r.sec, .int .i64 r.kind, .int .i64 r.save, .string r.letter]
def rulA (r : Rul) : Value := .agg #[.string r.name, .int .i64 r.from_, .int .i64 r.to_, .int .i64 r.month, .int .i64 r.dk, .int .i64 r.dw, .int .i64 r.dn, .int .i64 r.sec, .int .i64 r.kind, .int .i64 r.save, .string r.letter]
abbrev RulB (W : World) (b : Nat) (r : Rul) : Prop := Blk W b 72 #[.string r.name, .int .i64 r.from_, .int .i64 r.to_, .int .i64 r.month, .int .i64 r.dk, .int .i64 r.dw, .int .i64 r.dn, .int .i64 r.sec, .int .i64 r.kind, .int .i64 r.save, .string r.letter]
def Fir.zero : Fir := ⟨0, 0, 0, ⟨#[]⟩⟩
def inOkB (k wk n y m : Int) : Bool := inB k wk n y m && (decide (k = 0) || ofInB (inDay k wk n y m))
/-- Does a rule fire in a year, and how? -/
def ofB (r : Rul) (y : Int) : Bool := decide (r.from_ ≤ y ∧ y ≤ r.to_) && (inOkB r.dk r.dw r.dn y r.month && mayB r.sec)
def firOf (r : Rul) (y : Int) : Fir := ⟨inDay r.dk r.dw r.dn y r.month * 86400 + r.sec, r.kind, r.save, r.letter⟩
def ofV (r : Rul) (y : Int) : Fir := if ofB r y then firOf r y else .zero
theorem in_ok {k wk n y m : Int} (h : inOkB k wk n y m = true) : ∃ Y M D, inA k wk n y m = dateA Y M D ∧ inE k wk n y m = 0 ∧ dateB Y M D = true ∧ dayV Y M D = inDay k wk n y m := by
  unfold inOkB at h
  rw [Bool.and_eq_true, Bool.or_eq_true, decide_eq_true_eq] at h
  obtain ⟨h1, h2⟩ := h
  by_cases h0 : k = 0
  · refine ⟨y, m, n, by unfold inA; rw [if_pos h1, if_pos h0], by unfold inE; rw [if_pos h1, if_pos h0], ?_, by unfold inDay; rw [if_pos h0]⟩
    unfold inB dayOkB at h1
    unfold dateB
    simp only [Bool.and_eq_true, decide_eq_true_eq] at h1 ⊢
    exact ⟨h1.1.2, by omega, h1.2⟩
  · have h2 := h2.resolve_left h0
    have h3 := h2
    unfold ofInB at h3
    rw [decide_eq_true_eq] at h3
    have h4 := of_date h3.1 h3.2
    exact ⟨_, _, _, by unfold inA ofA; rw [if_pos h1, if_neg h0, if_pos h2], by unfold inE ofE_; rw [if_pos h1, if_neg h0, if_pos h2], h4.1, h4.2⟩
theorem in_no {k wk n y m : Int} (h : inOkB k wk n y m = false) : (∃ Y M D, inA k wk n y m = dateA Y M D) ∧ inE k wk n y m = 10 := by
  unfold inOkB at h
  unfold inA inE ofA ofE_
  cases h1 : inB k wk n y m with
  | false => exact ⟨⟨_, _, _, rfl⟩, rfl⟩
  | true =>
    rw [h1, Bool.true_and, Bool.or_eq_false_iff, decide_eq_false_iff_not] at h
    rw [if_pos rfl, if_neg h.1, h.2, if_pos rfl, if_neg h.1]
    exact ⟨⟨_, _, _, rfl⟩, rfl⟩
set_option maxHeartbeats 2000000 in
theorem fof_any (r : Rul) (y : Int) (w : World) (ha : Ahead w) :
    Calls Tryz.prog 160 #[rulA r, .int .i64 y] w fun e w' => e = .returned (.tuple #[firA (ofV r y), .bool (ofB r y)]) ∧ Below w.heap.size w w' := by
  have HB0 := Lib.hid (show Below w.heap.size w ((w.alloc (.cells (rulV r).toArray 72)).alloc (.cells #[.int .i64 0, .int .i64 0, .int .i64 0, .string ⟨#[]⟩] 147)) from ((Below.refl _ _).alloc (Nat.le_refl _) _).alloc (by simp) _)
  have b0 : RulB ((w.alloc (.cells (rulV r).toArray 72)).alloc (.cells #[.int .i64 0, .int .i64 0, .int .i64 0, .string ⟨#[]⟩] 147)) w.heap.size r := (Blk.new w 72 (rulV r).toArray).alloc (.cells #[.int .i64 0, .int .i64 0, .int .i64 0, .string ⟨#[]⟩] 147)
  have b1 := Blk.new (w.alloc (.cells (rulV r).toArray 72)) 147 #[.int .i64 0, .int .i64 0, .int .i64 0, .string ⟨#[]⟩]
  rw [World.size_alloc] at b1
  unfold rulV at HB0 b0 b1
  have HI := Lib.hid (And.intro b0 b1)
  have q1 := Blk.cell b0 1 (v := .int .i64 r.from_) rfl
  have q2 := Blk.cell b0 2 (v := .int .i64 r.to_) rfl
  have q3 := Blk.cell b0 3 (v := .int .i64 r.month) rfl
  have q4 := Blk.cell b0 4 (v := .int .i64 r.dk) rfl
  have q5 := Blk.cell b0 5 (v := .int .i64 r.dw) rfl
  have q6 := Blk.cell b0 6 (v := .int .i64 r.dn) rfl
  have r0 := b1.cell 0 (v := .int .i64 0) rfl
  have r1 := b1.cell 1 (v := .int .i64 0) rfl
  have r2 := b1.cell 2 (v := .int .i64 0) rfl
  have r3 := b1.cell 3 (v := .string ⟨#[]⟩) rfl
  have g0 := b1.frozen 0
  have g1 := b1.frozen 1
  have g2 := b1.frozen 2
  have g3 := b1.frozen 3
  have HN := Lib.hid (in_any r.dk r.dw r.dn y r.month ((w.alloc (.cells (rulV r).toArray 72)).alloc (.cells #[.int .i64 0, .int .i64 0, .int .i64 0, .string ⟨#[]⟩] 147)) (ha.below HB0.out (Nat.le_refl _)))
  clear b0 b1
  unfold rulV dayA at HN
  by_cases h1 : y < r.from_
  · have e1 : ofB r y = false := by unfold ofB; rw [decide_eq_false (by omega)]; rfl
    have e2 : ofV r y = .zero := by unfold ofV; rw [e1]; rfl
    rw [e1, e2]
    have hd : decide (y < r.from_) = true := decide_eq_true h1
    unfold rulA firA Fir.zero
    clear e1 e2
    go_enter Tryz.func160, Tryz.ntmps160
    go_wp2_with fail
    refine bodyPost_ret (v := .tuple #[.agg #[.int .i64 0, .int .i64 0, .int .i64 0, .string ⟨#[]⟩], .bool false]) ?_ rfl ⟨rfl, HB0.out⟩
    simp [results, Tryz.f160, go_sem, r0, r1, r2, r3]
  · have hd : decide (y < r.from_) = false := decide_eq_false h1
    by_cases h2 : r.to_ < y
    · have e1 : ofB r y = false := by unfold ofB; rw [decide_eq_false (by omega)]; rfl
      have e2 : ofV r y = .zero := by unfold ofV; rw [e1]; rfl
      rw [e1, e2]
      have hd2 : decide (r.to_ < y) = true := decide_eq_true h2
      unfold rulA firA Fir.zero
      clear e1 e2
      go_enter Tryz.func160, Tryz.ntmps160
      go_wp2_with fail
      refine bodyPost_ret (v := .tuple #[.agg #[.int .i64 0, .int .i64 0, .int .i64 0, .string ⟨#[]⟩], .bool false]) ?_ rfl ⟨rfl, HB0.out⟩
      simp [results, Tryz.f160, go_sem, r0, r1, r2, r3]
    · have hd2 : decide (r.to_ < y) = false := decide_eq_false h2
      have HM := Lib.hid (show ofB r y = (inOkB r.dk r.dw r.dn y r.month && mayB r.sec) by unfold ofB; rw [decide_eq_true (by omega)]; rfl)
      cases hin : inOkB r.dk r.dw r.dn y r.month with
      | false =>
        obtain ⟨⟨Y, M, D, eA⟩, eE⟩ := in_no hin
        have e1 : ofB r y = false := by rw [HM.out, hin]; rfl
        have e2 : ofV r y = .zero := by unfold ofV; rw [e1]; rfl
        rw [eA, eE] at HN
        unfold dateA at HN
        rw [e1, e2]
        unfold rulA firA Fir.zero
        clear e1 e2 eA eE hin h1 h2
        go_enter Tryz.func160, Tryz.ntmps160
        go_wp2_with fail
        refine HN.out.mono ?_
        rintro e w1 ⟨rfl, hb⟩
        have h0 := Blk.below HI.out.1 hb HI.out.1.lt
        have h1 := HI.out.2.below hb HI.out.2.lt
        have hb1 := HB0.out.trans (hb.mono HB0.out.size)
        have HBW := Lib.hid (hb1.alloc hb1.size (.cells #[.int .i64 Y, .int .i64 M, .int .i64 D] 74))
        have HRB := Lib.hid (show RulB (w1.alloc (.cells #[.int .i64 Y, .int .i64 M, .int .i64 D] 74)) w.heap.size r from Blk.alloc h0 _)
        have HFB1 := Lib.hid (h1.alloc (.cells #[.int .i64 Y, .int .i64 M, .int .i64 D] 74))
        have HDB := Lib.hid (Blk.new w1 74 #[.int .i64 Y, .int .i64 M, .int .i64 D])
        have HAW := Lib.hid (ha.below HBW.out (Nat.le_refl _))
        have q7 := Blk.cell h0 7 (v := .int .i64 r.sec) rfl
        have q8 := Blk.cell h0 8 (v := .int .i64 r.kind) rfl
        have q9 := Blk.cell h0 9 (v := .int .i64 r.save) rfl
        have q10 := Blk.cell h0 10 (v := .string r.letter) rfl
        have r0 := h1.cell 0 (v := .int .i64 0) rfl
        have r1 := h1.cell 1 (v := .int .i64 0) rfl
        have r2 := h1.cell 2 (v := .int .i64 0) rfl
        have r3 := h1.cell 3 (v := .string ⟨#[]⟩) rfl
        have g0 := h1.frozen 0
        have g1 := h1.frozen 1
        have g2 := h1.frozen 2
        have g3 := h1.frozen 3
        have hl0 := Blk.lt h0
        have hl1 := h1.lt
        have HF1 := Lib.hid h1
        have HB1W := Lib.hid hb1
        clear hb h0 h1 hb1 q1 q2 q3 q4 q5 q6
        go_wp2_with fail
        have HW := ((((HF1.out.set 0 (.int .i64 0)).set 1 (.int .i64 0)).set 2 (.int .i64 0)).set 3 (.string ⟨#[]⟩)).alloc (.cells #[.int .i64 Y, .int .i64 M, .int .i64 D] 74)
        refine bodyPost_ret (v := .tuple #[.agg #[.int .i64 0, .int .i64 0, .int .i64 0, .string ⟨#[]⟩], .bool false]) ?_ rfl ⟨rfl, (below_set4 HB1W.out (by omega) _ _ _ _).alloc (by have := HB1W.out.size; simpa using this) _⟩
        have v0 := HW.cell 0 (v := .int .i64 0) rfl
        have v1 := HW.cell 1 (v := .int .i64 0) rfl
        have v2 := HW.cell 2 (v := .int .i64 0) rfl
        have v3 := HW.cell 3 (v := .string ⟨#[]⟩) rfl
        simp [results, Tryz.f160, go_sem, v0, v1, v2, v3]
      | true =>
        obtain ⟨Y, M, D, eA, eE, hdt, hdv⟩ := in_ok hin
        have hdr := dayV_in hdt
        rw [eA, eE] at HN
        have HJ := Lib.hid (fun W h => join_any Y M D r.sec W h)
        rw [hdt, hdv] at HJ
        rw [hdv] at hdr
        simp only [Bool.true_and] at HJ
        unfold dateA at HN HJ
        cases hs : mayB r.sec with
        | false =>
          have e1 : ofB r y = false := by rw [HM.out, hin, hs]; rfl
          have e2 : ofV r y = .zero := by unfold ofV; rw [e1]; rfl
          rw [hs] at HJ
          simp only [Bool.false_eq_true, if_false] at HJ
          rw [e1, e2]
          unfold rulA firA Fir.zero
          clear e1 e2 eA eE hin h1 h2 hdt hdv hs
          go_enter Tryz.func160, Tryz.ntmps160
          go_wp2_with fail
          refine HN.out.mono ?_
          rintro e w1 ⟨rfl, hb⟩
          have h0 := Blk.below HI.out.1 hb HI.out.1.lt
          have h1 := HI.out.2.below hb HI.out.2.lt
          have hb1 := HB0.out.trans (hb.mono HB0.out.size)
          have HBW := Lib.hid (hb1.alloc hb1.size (.cells #[.int .i64 Y, .int .i64 M, .int .i64 D] 74))
          have HRB := Lib.hid (show RulB (w1.alloc (.cells #[.int .i64 Y, .int .i64 M, .int .i64 D] 74)) w.heap.size r from Blk.alloc h0 _)
          have HFB1 := Lib.hid (h1.alloc (.cells #[.int .i64 Y, .int .i64 M, .int .i64 D] 74))
          have HDB := Lib.hid (Blk.new w1 74 #[.int .i64 Y, .int .i64 M, .int .i64 D])
          have HAW := Lib.hid (ha.below HBW.out (Nat.le_refl _))
          have q7 := Blk.cell h0 7 (v := .int .i64 r.sec) rfl
          have q8 := Blk.cell h0 8 (v := .int .i64 r.kind) rfl
          have q9 := Blk.cell h0 9 (v := .int .i64 r.save) rfl
          have q10 := Blk.cell h0 10 (v := .string r.letter) rfl
          have r0 := h1.cell 0 (v := .int .i64 0) rfl
          have r1 := h1.cell 1 (v := .int .i64 0) rfl
          have r2 := h1.cell 2 (v := .int .i64 0) rfl
          have r3 := h1.cell 3 (v := .string ⟨#[]⟩) rfl
          have g0 := h1.frozen 0
          have g1 := h1.frozen 1
          have g2 := h1.frozen 2
          have g3 := h1.frozen 3
          have hl0 := Blk.lt h0
          have hl1 := h1.lt
          have HF1 := Lib.hid h1
          have HB1W := Lib.hid hb1
          clear hb h0 h1 hb1 q1 q2 q3 q4 q5 q6
          go_wp2_with fail
          refine (HJ.out _ HAW.out).mono ?_
          rintro e w2 ⟨rfl, hb⟩
          have h0 := Blk.below HRB.out hb (Blk.lt HRB.out)
          have h1 := HFB1.out.below hb HFB1.out.lt
          have HBX := Lib.hid (HBW.out.trans (hb.mono HBW.out.size))
          have HFB := Lib.hid h1
          have q7 := Blk.cell h0 7 (v := .int .i64 r.sec) rfl
          have q8 := Blk.cell h0 8 (v := .int .i64 r.kind) rfl
          have q9 := Blk.cell h0 9 (v := .int .i64 r.save) rfl
          have q10 := Blk.cell h0 10 (v := .string r.letter) rfl
          have r0 := h1.cell 0 (v := .int .i64 0) rfl
          have r1 := h1.cell 1 (v := .int .i64 0) rfl
          have r2 := h1.cell 2 (v := .int .i64 0) rfl
          have r3 := h1.cell 3 (v := .string ⟨#[]⟩) rfl
          have g0 := h1.frozen 0
          have g1 := h1.frozen 1
          have g2 := h1.frozen 2
          have g3 := h1.frozen 3
          clear hb h0 h1
          go_wp2_with fail
          have HW := (((HFB.out.set 0 (.int .i64 0)).set 1 (.int .i64 0)).set 2 (.int .i64 0)).set 3 (.string ⟨#[]⟩)
          refine bodyPost_ret (v := .tuple #[.agg #[.int .i64 0, .int .i64 0, .int .i64 0, .string ⟨#[]⟩], .bool false]) ?_ rfl ⟨rfl, below_set4 HBX.out (by omega) _ _ _ _⟩
          have v0 := HW.cell 0 (v := .int .i64 0) rfl
          have v1 := HW.cell 1 (v := .int .i64 0) rfl
          have v2 := HW.cell 2 (v := .int .i64 0) rfl
          have v3 := HW.cell 3 (v := .string ⟨#[]⟩) rfl
          simp [results, Tryz.f160, go_sem, v0, v1, v2, v3]
        | true =>
          have e1 : ofB r y = true := by rw [HM.out, hin, hs]; rfl
          have e2 : ofV r y = firOf r y := by unfold ofV; rw [e1]; rfl
          rw [hs] at HJ
          simp only [if_true] at HJ
          rw [e1, e2]
          unfold rulA firA firOf
          unfold mayB at hs
          rw [decide_eq_true_eq] at hs
          generalize inDay r.dk r.dw r.dn y r.month = v at *
          clear e1 e2 eA eE hin h1 h2 hdt hdv HM
          go_enter Tryz.func160, Tryz.ntmps160
          go_wp2_with fail
          refine HN.out.mono ?_
          rintro e w1 ⟨rfl, hb⟩
          have h0 := Blk.below HI.out.1 hb HI.out.1.lt
          have h1 := HI.out.2.below hb HI.out.2.lt
          have hb1 := HB0.out.trans (hb.mono HB0.out.size)
          have HBW := Lib.hid (hb1.alloc hb1.size (.cells #[.int .i64 Y, .int .i64 M, .int .i64 D] 74))
          have HRB := Lib.hid (show RulB (w1.alloc (.cells #[.int .i64 Y, .int .i64 M, .int .i64 D] 74)) w.heap.size r from Blk.alloc h0 _)
          have HFB1 := Lib.hid (h1.alloc (.cells #[.int .i64 Y, .int .i64 M, .int .i64 D] 74))
          have HDB := Lib.hid (Blk.new w1 74 #[.int .i64 Y, .int .i64 M, .int .i64 D])
          have HAW := Lib.hid (ha.below HBW.out (Nat.le_refl _))
          have q7 := Blk.cell h0 7 (v := .int .i64 r.sec) rfl
          have q8 := Blk.cell h0 8 (v := .int .i64 r.kind) rfl
          have q9 := Blk.cell h0 9 (v := .int .i64 r.save) rfl
          have q10 := Blk.cell h0 10 (v := .string r.letter) rfl
          have r0 := h1.cell 0 (v := .int .i64 0) rfl
          have r1 := h1.cell 1 (v := .int .i64 0) rfl
          have r2 := h1.cell 2 (v := .int .i64 0) rfl
          have r3 := h1.cell 3 (v := .string ⟨#[]⟩) rfl
          have g0 := h1.frozen 0
          have g1 := h1.frozen 1
          have g2 := h1.frozen 2
          have g3 := h1.frozen 3
          have hl0 := Blk.lt h0
          have hl1 := h1.lt
          have HF1 := Lib.hid h1
          have HB1W := Lib.hid hb1
          clear hb h0 h1 hb1 q1 q2 q3 q4 q5 q6
          go_wp2_with fail
          refine (HJ.out _ HAW.out).mono ?_
          rintro e w2 ⟨rfl, hb⟩
          have h0 := Blk.below HRB.out hb (Blk.lt HRB.out)
          have h1 := HFB1.out.below hb HFB1.out.lt
          have HBX := Lib.hid (HBW.out.trans (hb.mono HBW.out.size))
          have HFB := Lib.hid h1
          have q7 := Blk.cell h0 7 (v := .int .i64 r.sec) rfl
          have q8 := Blk.cell h0 8 (v := .int .i64 r.kind) rfl
          have q9 := Blk.cell h0 9 (v := .int .i64 r.save) rfl
          have q10 := Blk.cell h0 10 (v := .string r.letter) rfl
          have r0 := h1.cell 0 (v := .int .i64 0) rfl
          have r1 := h1.cell 1 (v := .int .i64 0) rfl
          have r2 := h1.cell 2 (v := .int .i64 0) rfl
          have r3 := h1.cell 3 (v := .string ⟨#[]⟩) rfl
          have g0 := h1.frozen 0
          have g1 := h1.frozen 1
          have g2 := h1.frozen 2
          have g3 := h1.frozen 3
          clear hb h0 h1
          go_wp2_with fail
          have HW := (((HFB.out.set 0 (.int .i64 (v * 86400 + r.sec))).set 1 (.int .i64 r.kind)).set 2 (.int .i64 r.save)).set 3 (.string r.letter)
          refine bodyPost_ret (v := .tuple #[.agg #[.int .i64 (v * 86400 + r.sec), .int .i64 r.kind, .int .i64 r.save, .string r.letter], .bool true]) ?_ rfl ⟨rfl, below_set4 HBX.out (by omega) _ _ _ _⟩
          have w0 := HW.cell 0 (v := .int .i64 (v * 86400 + r.sec)) rfl
          have w1 := HW.cell 1 (v := .int .i64 r.kind) rfl
          have w2 := HW.cell 2 (v := .int .i64 r.save) rfl
          have w3 := HW.cell 3 (v := .string r.letter) rfl
          simp [results, Tryz.f160, go_sem, w0, w1, w2, w3]
end Go.Proofs.YtonmmgcibpjahaaGreatDoor
end

section
/- FRules: Rules in memory. -/
namespace Go.Proofs.YtonmmgcibpjahaaGreatDoor
open Go Go.RowKit Go.Shelf
set_option maxRecDepth 100000

def rulsV (l : List Rul) : List Value := l.flatMap rulV
theorem length_rulsV (l : List Rul) : (rulsV l).length = l.length * 11 := by
  induction l with
  | nil => rfl
  | cons c l ih => simp only [rulsV, List.flatMap_cons, List.length_append, List.length_cons, rulV, List.length_nil] at ih ⊢; omega
theorem rulsV_at (l : List Rul) (i : Nat) (h : i < l.length) (k : Nat) (hk : k < 11) : (rulsV l)[i * 11 + k]? = (rulV l[i])[k]? := by
  induction l generalizing i with
  | nil => exact absurd h (by simp)
  | cons c l ih =>
    rcases i with _ | i
    · rw [Nat.zero_mul, Nat.zero_add]
      show (rulV c ++ rulsV l)[k]? = _
      rw [List.getElem?_append_left (by simp [rulV]; omega)]
      rfl
    · have := ih i (by simpa using h)
      show (rulV c ++ rulsV l)[(i + 1) * 11 + k]? = _
      rw [List.getElem?_append_right (by simp [rulV]; omega), show (i + 1) * 11 + k - (rulV c).length = i * 11 + k by simp [rulV]; omega, this]
      rfl
/-- A slice of rules. -/
def Ruls (w : World) (B : Nat) (v : Value) (l : List Rul) : Prop := Sl w B 11 v l.length (rulsV l)
section
variable {w w' : World} {B B' : Nat} {v : Value} {l : List Rul}
theorem Ruls.form (h : Ruls w B v l) : ∃ A c, v = .slice A l.length c ∧ l.length ≤ c ∧ c ≤ maxLen := by
  obtain ⟨A, c, rfl, h1, h2, -⟩ := h
  exact ⟨A, c, rfl, h1, h2⟩
theorem Ruls.below (h : Ruls w B v l) (hb : Below B w w') : Ruls w' B v l := Sl.below h hb
/-- The cells of a rule at a place. -/
def RulC (W : World) (b o : Nat) (r : Rul) : Prop := W.cell? ⟨b, o, none⟩ = some (.string r.name) ∧ W.cell? ⟨b, o + 1, none⟩ = some (.int .i64 r.from_) ∧ W.cell? ⟨b, o + 2, none⟩ = some (.int .i64 r.to_) ∧ W.cell? ⟨b, o + 3, none⟩ = some (.int .i64 r.month) ∧ W.cell? ⟨b, o + 4, none⟩ = some (.int .i64 r.dk) ∧ W.cell? ⟨b, o + 5, none⟩ = some (.int .i64 r.dw) ∧ W.cell? ⟨b, o + 6, none⟩ = some (.int .i64 r.dn) ∧ W.cell? ⟨b, o + 7, none⟩ = some (.int .i64 r.sec) ∧ W.cell? ⟨b, o + 8, none⟩ = some (.int .i64 r.kind) ∧ W.cell? ⟨b, o + 9, none⟩ = some (.int .i64 r.save) ∧ W.cell? ⟨b, o + 10, none⟩ = some (.string r.letter)
theorem Ruls.cells (h : Ruls w B v l) (hl : 0 < l.length) : ∃ b o c, v = .slice (some ⟨b, o, none⟩) l.length c ∧ b < B ∧ ∀ i (hi : i < l.length), RulC w b (o + i * 11) l[i] := by
  obtain ⟨b, o, c, e, hb, hc⟩ := Sl.at_ h hl
  refine ⟨b, o, c, e, hb, fun i hi => ?_⟩
  have hk : ∀ k u, k < 11 → (rulV l[i])[k]? = some u → w.cell? ⟨b, o + i * 11 + k, none⟩ = some u := fun k u hk hu => by
    rw [Nat.add_assoc]
    exact hc _ u (by rw [rulsV_at l i hi k hk]; exact hu)
  exact ⟨hk 0 _ (by omega) rfl, hk 1 _ (by omega) rfl, hk 2 _ (by omega) rfl, hk 3 _ (by omega) rfl, hk 4 _ (by omega) rfl, hk 5 _ (by omega) rfl, hk 6 _ (by omega) rfl, hk 7 _ (by omega) rfl, hk 8 _ (by omega) rfl, hk 9 _ (by omega) rfl, hk 10 _ (by omega) rfl⟩
/-- One rule of a slice, as a slice. -/
theorem Ruls.one {b o c : Nat} (h : Ruls w B (.slice (some ⟨b, o, none⟩) l.length c) l) {i : Nat} (hi : i < l.length) : Ruls w B (.slice (some ⟨b, o + i * 11, none⟩) 1 (c - i)) [l[i]] := by
  obtain ⟨A, c', e, h1, h2, h3, h4⟩ := h
  injection e with e1 e2 e3
  subst e1 e3
  refine ⟨_, _, rfl, by simp; omega, by omega, by simp [rulsV, rulV], fun _ => ?_⟩
  obtain ⟨b', o', e, hb, hc⟩ := h4 (by omega)
  injection e with e
  injection e with e1 e2
  subst e1 e2
  refine ⟨b, o + i * 11, rfl, hb, fun j u hu => ?_⟩
  have hj : j < 11 := by
    have := (List.getElem?_eq_some_iff.1 hu).1
    simpa [rulsV, rulV] using this
  rw [Nat.add_assoc]
  refine hc _ u ?_
  rw [rulsV_at l i hi j hj]
  simpa [rulsV] using hu
end
/-- The firings of rules in some years, rule by rule. -/
def yrs (a b : Int) : List Int := (List.range (b + 1 - a).toNat).map fun i => a + (i : Nat)
def genR (r : Rul) (a b : Int) : List Fir := ((yrs a b).filter fun y => ofB r y).map fun y => firOf r y
def genL (l : List Rul) (a b : Int) : List Fir := l.flatMap fun r => genR r a b
theorem yrs_nil {a b : Int} (h : b < a) : yrs a b = [] := by
  unfold yrs
  rw [show (b + 1 - a).toNat = 0 by omega]
  rfl
theorem yrs_snoc {a b : Int} (h : a ≤ b + 1) : yrs a (b + 1) = yrs a b ++ [b + 1] := by
  unfold yrs
  rw [show (b + 1 + 1 - a).toNat = (b + 1 - a).toNat + 1 by omega, List.range_succ, List.map_append]
  congr 1
  simp
  omega
theorem yrs_split {a b c : Int} (h1 : a ≤ b + 1) (h2 : b ≤ c) : yrs a c = yrs a b ++ yrs (b + 1) c := by
  obtain ⟨n, hn⟩ : ∃ n : Nat, c = b + n := ⟨(c - b).toNat, by omega⟩
  subst hn
  clear h2
  induction n with
  | zero => rw [show b + ((0 : Nat) : Int) = b by omega, yrs_nil (show b < b + 1 by omega), List.append_nil]
  | succ n ih =>
    rw [show b + ((n + 1 : Nat) : Int) = b + (n : Int) + 1 by omega, yrs_snoc (by omega), yrs_snoc (by omega), ih, List.append_assoc]
theorem yrs_mem {a b y : Int} : y ∈ yrs a b ↔ a ≤ y ∧ y ≤ b := by
  unfold yrs
  rw [List.mem_map]
  constructor
  · rintro ⟨i, hi, rfl⟩
    rw [List.mem_range] at hi
    omega
  · intro h
    exact ⟨(y - a).toNat, List.mem_range.2 (by omega), by omega⟩
theorem yrs_len (a b : Int) : (yrs a b).length = (b + 1 - a).toNat := by unfold yrs; simp
/-- Years in which a rule does not hold have no firing of it. -/
theorem genR_cut (r : Rul) (a b : Int) : genR r a b = genR r (max a r.from_) (min b r.to_) := by
  have hno : ∀ x y, (∀ z, z ∈ yrs x y → ofB r z = false) → genR r x y = [] := fun x y h => by
    unfold genR
    rw [List.filter_eq_nil_iff.2 (fun z hz => by rw [h z hz]; decide), List.map_nil]
  have hof : ∀ z, (z < r.from_ ∨ r.to_ < z) → ofB r z = false := fun z hz => by
    unfold ofB
    rw [decide_eq_false (by omega)]
    rfl
  have happ : ∀ x y z, x ≤ y + 1 → y ≤ z → genR r x z = genR r x y ++ genR r (y + 1) z := fun x y z h1 h2 => by
    unfold genR
    rw [yrs_split h1 h2, List.filter_append, List.map_append]
  by_cases h : max a r.from_ ≤ min b r.to_
  · rw [happ a (max a r.from_ - 1) b (by omega) (by omega), hno a (max a r.from_ - 1) (fun z hz => hof z (by have := yrs_mem.1 hz; omega)), List.nil_append, show max a r.from_ - 1 + 1 = max a r.from_ by omega,
      happ (max a r.from_) (min b r.to_) b (by omega) (by omega), hno (min b r.to_ + 1) b (fun z hz => hof z (by have := yrs_mem.1 hz; omega)), List.append_nil]
  · rw [hno (max a r.from_) (min b r.to_) (fun z hz => by have := yrs_mem.1 hz; omega)]
    exact hno a b fun z hz => hof z (by have := yrs_mem.1 hz; omega)
theorem genR_split (r : Rul) {a b c : Int} (h1 : a ≤ b + 1) (h2 : b ≤ c) : genR r a c = genR r a b ++ genR r (b + 1) c := by
  unfold genR
  rw [yrs_split h1 h2, List.filter_append, List.map_append]
theorem genR_len (r : Rul) (a b : Int) : (genR r a b).length ≤ (b + 1 - a).toNat := by
  unfold genR
  rw [List.length_map]
  exact Nat.le_trans (List.length_filter_le _ _) (by rw [yrs_len]; exact Nat.le_refl _)
theorem genL_len_split (l : List Rul) {a b c : Int} (h1 : a ≤ b + 1) (h2 : b ≤ c) : (genL l a c).length = (genL l a b).length + (genL l (b + 1) c).length := by
  unfold genL
  induction l with
  | nil => rfl
  | cons r l ih =>
    simp only [List.flatMap_cons, List.length_append]
    rw [ih, genR_split r h1 h2, List.length_append]
    omega
theorem genL_len (l : List Rul) (a b : Int) : (genL l a b).length ≤ l.length * (b + 1 - a).toNat := by
  unfold genL
  induction l with
  | nil => simp
  | cons r l ih =>
    simp only [List.flatMap_cons, List.length_append, List.length_cons]
    have := genR_len r a b
    rw [Nat.add_mul, Nat.one_mul]
    omega
theorem genL_one (r : Rul) (a b : Int) : genL [r] a b = genR r a b := by unfold genL; simp
end Go.Proofs.YtonmmgcibpjahaaGreatDoor
end

section
/- Append: Appending what lies in memory, in whatever form, to a row of the call's own, or to a full one that is another's. -/
namespace Go.Proofs.YtonmmgcibpjahaaGreatDoor
open Go Go.RowKit

section
variable {P : Program} {w : World}
theorem run_append_none_any (base : Nat) (t ty e : TypeId) (i : TypeInfo) (size : Nat) (ht : P.underlying t = some (.slice e)) (hi : P.info? e = some i)
    (v : Value) (n c : Nat) (xs : List Value) (hown : w.ownsRow base e size v n xs) :
    (Builtin.append_ #[t, t] ty #[v, .slice none 0 c]).run P w = .ok v w := by
  rcases hown.2 with ⟨rfl, rfl⟩ | ⟨g, cap, cur, rfl, _, _, hnc, _⟩
  · simp [Builtin.append_, run_underlying ht, sizeOf, typeInfo, hi, Builtin.lenOf, Builtin.firstCells]
  · simp [Builtin.append_, run_underlying ht, sizeOf, typeInfo, hi, Builtin.lenOf, Builtin.firstCells, hnc, storeCells]
theorem run_append_sl (base : Nat) (t ty e : TypeId) (i : TypeInfo) (z : Value) (size bytes : Nat) (ht : P.underlying t = some (.slice e)) (hi : P.info? e = some i) (hz : i.zero = some z)
    (hsize : i.size = size) (hby : i.bytes = bytes) (hzs : z.cells.size = size) (hsz : 0 < size)
    (v : Value) (n : Nat) (xs : List Value) (hown : w.ownsRow base e size v n xs)
    (x : Value) (B m : Nat) (ys : List Value) (hx : Sl w B size x m ys) (h1 : ∀ u ∈ ys, u.oneCell' = true)
    (h63 : n + m ≤ maxLen) (hbytes : (n + m) * bytes ≤ 140737488355328) (hbase : base ≤ w.heap.size) :
    ∃ v' w', (Builtin.append_ #[t, t] ty #[v, x]).run P w = .ok v' w' ∧ w'.ownsRow base e size v' (n + m) (xs ++ ys) ∧ w.grownBy w' v.ownBlock := by
  obtain ⟨A, c, rfl, hmc, hcm, hl, hc⟩ := hx
  rcases A with _ | ad
  · have hm : m = 0 := by
      rcases Nat.eq_zero_or_pos m with h | h
      · exact h
      · obtain ⟨_, _, e, _⟩ := hc h
        cases e
    subst hm
    have hy : ys = [] := List.eq_nil_of_length_eq_zero (by simpa using hl)
    subst hy
    refine ⟨v, w, run_append_none_any base t ty e i size ht hi v n c xs hown, by simpa using hown, ⟨rfl, rfl, rfl, Nat.le_refl _, fun _ _ _ => rfl⟩⟩
  · obtain ⟨v', w', h2, h3, h4, -⟩ := run_append_own w base t ty e i z size bytes ht hi hz hsize hby hzs hsz v n xs hown ad m c ys hl (fun j u hu => by
      rcases Nat.eq_zero_or_pos m with h | h
      · subst h
        have hy : ys = [] := List.eq_nil_of_length_eq_zero (by simpa using hl)
        subst hy
        cases hu
      · obtain ⟨b, o, e, _, hcc⟩ := hc h
        cases e
        rw [Addr.add_lit]
        exact hcc j u hu) h1 h63 hbytes hbase
    exact ⟨v', w', h2, h3, h4⟩
theorem wpList_append_sl {ops : Array Oper} {rest : List Oper} {o : Oper} {a : Act} {Q : Exit → Act → World → Prop} (hgd : o.guard = none) (s x : Operand) (t : TypeId)
    (ho : o.op = .call { callee := .builtin .append, args := #[s, x], argTypes := #[t, t] })
    (base : Nat) (e : TypeId) (i : TypeInfo) (z : Value) (size bytes : Nat) (ht : P.underlying t = some (.slice e)) (hi : P.info? e = some i) (hz : i.zero = some z)
    (hsize : i.size = size) (hby : i.bytes = bytes) (hzs : z.cells.size = size) (hsz : 0 < size)
    (v : Value) (n : Nat) (xs : List Value) (hs : a.eval s = v) (hown : w.ownsRow base e size v n xs)
    (y : Value) (B m : Nat) (ys : List Value) (hx : a.eval x = y) (hsl : Sl w B size y m ys) (h1 : ∀ u ∈ ys, u.oneCell' = true)
    (h63 : n + m ≤ maxLen) (hbytes : (n + m) * bytes ≤ 140737488355328) (hbase : base ≤ w.heap.size)
    (h : ∀ v' w', w'.ownsRow base e size v' (n + m) (xs ++ ys) → w.grownBy w' v.ownBlock → wpList P ops Q rest (a.put o.dst v') w') : wpList P ops Q (o :: rest) a w := by
  refine wpList_plain hgd fun K hK => ?_
  obtain ⟨v', w', hr, h2, h3⟩ := run_append_sl (P := P) (w := w) base t o.type e i z size bytes ht hi hz hsize hby hzs hsz v n xs hown y B m ys hsl h1 h63 hbytes hbase
  unfold Oper.wp execOp
  simp only [ho, resolve, invoke, builtin, Sem.run_bind, Sem.run_pure, Result.andThen_ok, List.map_toArray, List.map_cons, List.map_nil, hs, hx, hr]
  exact hK _ _ (h v' w' h2 h3)
/-- .. to a full row that may be another's: it moves. -/
theorem run_append_full (t ty e : TypeId) (i : TypeInfo) (z : Value) (size bytes : Nat) (ht : P.underlying t = some (.slice e)) (hi : P.info? e = some i) (hz : i.zero = some z)
    (hsize : i.size = size) (hby : i.bytes = bytes) (hzs : z.cells.size = size) (hsz : 0 < size)
    (A : Option Addr) (B' n : Nat) (xs : List Value) (hv : Sl w B' size (.slice A n n) n xs)
    (ad : Addr) (m c : Nat) (news : List Value) (hl : news.length = m * size) (hnews : ∀ j u, news[j]? = some u → w.cell? (ad.add j) = some u) (h1 : ∀ u ∈ news, u.oneCell' = true)
    (hm : 0 < m) (h63 : n + m ≤ maxLen) (hbytes : (n + m) * bytes ≤ 140737488355328) :
    ∃ v' w', (Builtin.append_ #[t, t] ty #[.slice A n n, .slice (some ad) m c]).run P w = .ok v' w' ∧ w'.ownsRow w.heap.size e size v' (n + m) (xs ++ news) ∧ w.grownBy w' none := by
  obtain ⟨A', c', e', _, hcm, hxl, hc⟩ := hv
  cases e'
  rcases A with _ | b
  · have hn : n = 0 := by
      rcases Nat.eq_zero_or_pos n with h | h
      · exact h
      · obtain ⟨_, _, e, _⟩ := hc h
        cases e
    subst hn
    have hx : xs = [] := List.eq_nil_of_length_eq_zero (by simpa using hxl)
    subst hx
    obtain ⟨v', w', h2, h3, h4, -⟩ := run_append_own (P := P) w w.heap.size t ty e i z size bytes ht hi hz hsize hby hzs hsz (.slice none 0 0) 0 [] (World.ownsRow_nil _ _ _ _) ad m c news hl hnews h1 h63 hbytes (Nat.le_refl _)
    exact ⟨v', w', h2, h3, h4⟩
  · subst hsize
    subst hby
    have hlen : (xs ++ news).length = (n + m) * i.size := by rw [List.length_append, hxl, hl, Nat.add_mul]
    have hsmall : n + m ≤ 9223372036854775807 := by simp only [maxLen] at h63; omega
    have hr := run_append_grow (P := P) w t ty e i z ht hi hz b n n xs hxl (fun j u hu => by
      rcases Nat.eq_zero_or_pos n with h | h
      · subst h
        have hx : xs = [] := List.eq_nil_of_length_eq_zero (by simpa using hxl)
        subst hx
        cases hu
      · obtain ⟨b', o, e, _, hcc⟩ := hc h
        cases e
        rw [Addr.add_lit]
        exact hcc j u hu) ad m c news hl hnews (by omega) (by omega) (growslice_fits (by omega) hbytes)
    have hge := grownCap_ge w (n + m) n e
    have hcm : grownCap w (n + m) n e ≤ maxLen := grownCap_le_maxLen w (n + m) n e h63
    refine ⟨_, _, hr, ⟨hlen, .inr ⟨w.heap.size, _, _, rfl, Nat.le_refl _, heap_alloc_new w.drew _, hge, hcm, ?_, ?_⟩⟩, ⟨rfl, rfl, rfl, by simp, fun k hk _ => heap_alloc_old w.drew _ hk⟩⟩
    · simp only [Array.size_append, List.size_toArray, size_zeroCells, hzs, hxl, hl, ← Nat.add_mul]
      congr 1
      omega
    · simp only [Array.toList_append, List.append_assoc]
      rw [← List.append_assoc, ← hlen]
      exact List.take_left
theorem wpList_append_full {ops : Array Oper} {rest : List Oper} {o : Oper} {a : Act} {Q : Exit → Act → World → Prop} (hgd : o.guard = none) (s x : Operand) (t : TypeId)
    (ho : o.op = .call { callee := .builtin .append, args := #[s, x], argTypes := #[t, t] })
    (e : TypeId) (i : TypeInfo) (z : Value) (size bytes : Nat) (ht : P.underlying t = some (.slice e)) (hi : P.info? e = some i) (hz : i.zero = some z)
    (hsize : i.size = size) (hby : i.bytes = bytes) (hzs : z.cells.size = size) (hsz : 0 < size)
    (A : Option Addr) (B' n : Nat) (xs : List Value) (hs : a.eval s = .slice A n n) (hv : Sl w B' size (.slice A n n) n xs)
    (ad : Addr) (m c : Nat) (news : List Value) (hx : a.eval x = .slice (some ad) m c) (hl : news.length = m * size) (hnews : ∀ j u, news[j]? = some u → w.cell? (ad.add j) = some u) (h1 : ∀ u ∈ news, u.oneCell' = true)
    (hm : 0 < m) (h63 : n + m ≤ maxLen) (hbytes : (n + m) * bytes ≤ 140737488355328)
    (h : ∀ v' w', w'.ownsRow w.heap.size e size v' (n + m) (xs ++ news) → w.grownBy w' none → wpList P ops Q rest (a.put o.dst v') w') : wpList P ops Q (o :: rest) a w := by
  refine wpList_plain hgd fun K hK => ?_
  obtain ⟨v', w', hr, h2, h3⟩ := run_append_full (P := P) (w := w) t o.type e i z size bytes ht hi hz hsize hby hzs hsz A B' n xs hv ad m c news hl hnews h1 hm h63 hbytes
  unfold Oper.wp execOp
  simp only [ho, resolve, invoke, builtin, Sem.run_bind, Sem.run_pure, Result.andThen_ok, List.map_toArray, List.map_cons, List.map_nil, hs, hx, hr]
  exact hK _ _ (h v' w' h2 h3)
end
end Go.Proofs.YtonmmgcibpjahaaGreatDoor
end

section
/- FAid: Helps of layer 11's walks: infos of types, rows of firings so far, comparing numbers. -/
namespace Go.Proofs.YtonmmgcibpjahaaGreatDoor
open Go Go.RowKit Go.Shelf
set_option maxRecDepth 100000

theorem info_parts {P : Program} {t : TypeId} {z : Value} {a b : Nat} (h : (P.info? t).map (fun i => (i.zero, i.size, i.bytes)) = some (some z, a, b)) : ∃ i, P.info? t = some i ∧ i.zero = some z ∧ i.size = a ∧ i.bytes = b := by
  cases hi : P.info? t with
  | none => rw [hi] at h; simp at h
  | some i =>
    rw [hi] at h
    simp only [Option.map_some, Option.some.injEq, Prod.mk.injEq] at h
    exact ⟨i, rfl, h.1, h.2.1, h.2.2⟩
theorem cell_new2 (w : World) (o : Obj) (C : Array Value) (t : TypeId) (fr : Nat × Nat) (i : Nat) : ((w.alloc o).alloc (.cells C t fr)).cell? ⟨w.heap.size + 1, i, none⟩ = C[i]? := by
  have := cell_new (w.alloc o) C t fr i
  rwa [World.size_alloc] at this
theorem ownsRow_below {w W : World} {base : Nat} {e : TypeId} {sz n : Nat} {v : Value} {xs : List Value} (h : w.ownsRow base e sz v n xs) (hb : Below w.heap.size w W) : W.ownsRow base e sz v n xs := (Fr.of_below (T := fun _ => False) hb (Nat.le_refl _)).own h (fun _ _ h => h)
/-- The firings so far: of the rules ahead, and of the k-th one in the years from a on, ahead of y. -/
def genK (l : List Rul) (a b : Int) (k : Nat) : List Fir := genL (l.take k) a b
theorem genK_next (l : List Rul) (a b : Int) {k : Nat} (hk : k < l.length) : genK l a b (k + 1) = genK l a b k ++ genR l[k] a b := by
  unfold genK genL
  rw [List.take_succ_eq_append_getElem hk, List.flatMap_append]
  simp
theorem genR_next (r : Rul) {a y : Int} (h : a ≤ y) : genR r a y = genR r a (y - 1) ++ if ofB r y then [firOf r y] else [] := by
  rw [genR_split r (show a ≤ y - 1 + 1 by omega) (show y - 1 ≤ y by omega), show y - 1 + 1 = y by omega]
  congr 1
  unfold genR yrs
  rw [show (y + 1 - y).toNat = 1 by omega]
  simp
  split <;> simp_all
/-- What the order of firings answers. -/
def cmpZ (a b : Int) : Int := if a < b then -1 else if a > b then 1 else 0
theorem cmpZ_lt (a b : Int) : (cmpZ a b < 0) = (a < b) := by
  unfold cmpZ
  split
  · simp; assumption
  · split <;> simp <;> omega
theorem isNaN_any (a : Int) (w : World) : Calls Tryz.prog 141 #[.int .i64 a] w fun e w' => e = .returned (.bool false) ∧ w' = w := by
  go_enter Tryz.func141, Tryz.ntmps141
  go_wp2_with fail
  go_ret
  exact ⟨rfl, rfl⟩
set_option maxHeartbeats 1000000 in
theorem cmpInt_any (a b : Int) (w : World) :
    Calls Tryz.prog 105 #[.int .i64 a, .int .i64 b] w fun e w' => e = .returned (.int .i64 (cmpZ a b)) ∧ w' = w := by
  have HN := Lib.hid (fun (a : Int) W => isNaN_any a W)
  by_cases h1 : a < b
  · have HV := Lib.hid (show cmpZ a b = -1 by unfold cmpZ; rw [if_pos h1])
    have hd : decide (a < b) = true := decide_eq_true h1
    go_enter Tryz.func105, Tryz.ntmps105
    go_wp2_with fail
    refine (HN.out _ _).mono ?_
    rintro e w1 ⟨rfl, rfl⟩
    go_wp2_with fail
    refine (HN.out _ _).mono ?_
    rintro e w1 ⟨rfl, rfl⟩
    go_wp2_with fail
    go_ret
    exact ⟨by rw [HV.out]; rfl, rfl⟩
  · have hd : decide (a < b) = false := decide_eq_false h1
    by_cases h2 : b < a
    · have HV := Lib.hid (show cmpZ a b = 1 by unfold cmpZ; rw [if_neg h1, if_pos h2])
      have he : decide (b < a) = true := decide_eq_true h2
      go_enter Tryz.func105, Tryz.ntmps105
      go_wp2_with fail
      refine (HN.out _ _).mono ?_
      rintro e w1 ⟨rfl, rfl⟩
      go_wp2_with fail
      refine (HN.out _ _).mono ?_
      rintro e w1 ⟨rfl, rfl⟩
      go_wp2_with fail
      go_ret
      exact ⟨by rw [HV.out]; rfl, rfl⟩
    · have HV := Lib.hid (show cmpZ a b = 0 by unfold cmpZ; rw [if_neg h1, if_neg h2])
      have he : decide (b < a) = false := decide_eq_false h2
      go_enter Tryz.func105, Tryz.ntmps105
      go_wp2_with fail
      refine (HN.out _ _).mono ?_
      rintro e w1 ⟨rfl, rfl⟩
      go_wp2_with fail
      refine (HN.out _ _).mono ?_
      rintro e w1 ⟨rfl, rfl⟩
      go_wp2_with fail
      go_ret
      exact ⟨by rw [HV.out]; rfl, rfl⟩
end Go.Proofs.YtonmmgcibpjahaaGreatDoor
end

section
/- AShow: Layer 12's Offset and Show walked whole. -/
namespace Go.Proofs.YtonmmgcibpjahaaGreatDoor
open Go Go.RowKit Go.Shelf
set_option maxRecDepth 100000

def digB (n : Int) : UInt8 := UInt8.ofNat (48 + n).toNat
/-- A number in two digits. -/
def twoB (n : Int) : ByteArray := ⟨#[digB (n / 10), digB (n % 10)]⟩
theorem digB_toNat {n : Int} (h0 : 0 ≤ n) (h1 : n < 200) : ((digB n).toNat : Int) = 48 + n := by
  unfold digB
  rw [UInt8.toNat_ofNat']
  omega
theorem two_conv {n : Int} (h0 : 0 ≤ n) (h1 : n < 100) (w : World) : (convert 177 9 (.slice (some ⟨w.heap.size, 0, none⟩) 2 2)).run Tryz.prog (w.alloc (.cells #[.int .u8 (48 + n / 10), .int .u8 (48 + n % 10)] 5)) = .ok (.string (twoB n)) (w.alloc (.cells #[.int .u8 (48 + n / 10), .int .u8 (48 + n % 10)] 5)) := by
  have h := run_convert_bytes_back (P := Tryz.prog) (w.alloc (.cells #[.int .u8 (48 + n / 10), .int .u8 (48 + n % 10)] 5)) 177 9 5 ⟨w.heap.size, 0, none⟩ 2 [digB (n / 10), digB (n % 10)] Tryz.underlying177 Tryz.underlying5 Tryz.underlying9 (fun j hj => by
    rw [Addr.add_lit, Nat.zero_add, cell_new]
    rcases j with _ | _ | j
    · simp [digB_toNat (show 0 ≤ n / 10 by omega) (by omega)]
    · simp [digB_toNat (show 0 ≤ n % 10 by omega) (by omega)]
    · simp at hj; omega)
  exact h
set_option maxHeartbeats 1000000 in
theorem two_any (n : Int) (h0 : 0 ≤ n) (h1 : n < 100) (w : World) :
    Calls Tryz.prog 112 #[.int .i64 n] w fun e w' => e = .returned (.string (twoB n)) ∧ Below w.heap.size w w' := by
  have e1 : n.tdiv 10 = n / 10 := by rw [Int.tdiv_eq_ediv_of_nonneg h0]
  have e2 : n.tmod 10 = n % 10 := by rw [Int.tmod_eq_emod_of_nonneg h0]
  have HC := two_conv h0 h1 w
  go_enter Tryz.func112, Tryz.ntmps112
  go_wp2_with fail
  go_ret
  exact ⟨rfl, (Below.refl w.heap.size w).alloc (Nat.le_refl _) _⟩
/-- An offset as a text. -/
def offN (n : Int) : ByteArray := twoB (n / 3600) ++ (if 0 < n % 3600 then twoB (n % 3600 / 60) else ⟨#[]⟩) ++ (if 0 < n % 60 then twoB (n % 60) else ⟨#[]⟩)
def offB (off : Int) : ByteArray := if off < 0 then ⟨#[45]⟩ ++ offN (-off) else ⟨#[43]⟩ ++ offN off
set_option maxHeartbeats 2000000 in
theorem off_any (off : Int) (w : World) :
    Calls Tryz.prog 77 #[.int .i64 off] w fun e w' => e = .returned (if -360000 < off ∧ off < 360000 then .tuple #[.string (offB off), .int .i64 0] else .tuple #[.string ⟨#[]⟩, .int .i64 10]) ∧ Below w.heap.size w w' := by
  have HT := Lib.hid (fun n h0 h1 W => two_any n h0 h1 W)
  by_cases hr : -360000 < off ∧ off < 360000
  · rw [if_pos hr]
    have hd1 : decide (off ≤ -360000) = false := decide_eq_false (by omega)
    have hd2 : decide (360000 ≤ off) = false := decide_eq_false (by omega)
    by_cases hn : off < 0
    · have hd3 : decide (off < 0) = true := decide_eq_true hn
      have e3 : (-off).tdiv 3600 = (-off) / 3600 := by rw [Int.tdiv_eq_ediv_of_nonneg (by omega)]
      have e4 : (-off).tmod 3600 = (-off) % 3600 := by rw [Int.tmod_eq_emod_of_nonneg (by omega)]
      have e5 : (-off).tmod 60 = (-off) % 60 := by rw [Int.tmod_eq_emod_of_nonneg (by omega)]
      have e6 : ((-off) % 3600).tdiv 60 = (-off) % 3600 / 60 := by rw [Int.tdiv_eq_ediv_of_nonneg (by omega)]
      have H1 := Lib.hid (HT.out ((-off) / 3600) (by omega) (by omega))
      have H2 := Lib.hid (HT.out ((-off) % 3600 / 60) (by omega) (by omega))
      have H3 := Lib.hid (HT.out ((-off) % 60) (by omega) (by omega))
      by_cases h3 : 0 < (-off) % 3600
      · by_cases h4 : 0 < (-off) % 60
        · have HV := Lib.hid (show offB off = ⟨#[45]⟩ ++ twoB ((-off) / 3600) ++ twoB ((-off) % 3600 / 60) ++ twoB ((-off) % 60) by unfold offB offN; rw [if_pos hn, if_pos h3, if_pos h4, ← ByteArray.append_assoc, ← ByteArray.append_assoc])
          have g3 : decide (0 < (-off) % 3600) = true := decide_eq_true h3
          have g4 : decide (0 < (-off) % 60) = true := decide_eq_true h4
          clear h3 h4 HT
          have s1 : (twoB ((-off) / 3600)).size = 2 := rfl
          have s2 : (twoB ((-off) % 3600 / 60)).size = 2 := rfl
          have s3 : (twoB ((-off) % 60)).size = 2 := rfl
          generalize twoB ((-off) / 3600) = t1 at *
          generalize twoB ((-off) % 3600 / 60) = t2 at *
          generalize twoB ((-off) % 60) = t3 at *

          go_enter Tryz.func77, Tryz.ntmps77
          go_wp2_with fail
          refine (H1.out _).mono ?_
          rintro e w1 ⟨rfl, hb1⟩
          go_wp2_with fail
          refine (H2.out _).mono ?_
          rintro e w2 ⟨rfl, hb2⟩
          go_wp2_with fail
          refine (H3.out _).mono ?_
          rintro e w3 ⟨rfl, hb3⟩
          go_wp2_with fail
          go_ret2
          exact ⟨by rw [HV.out]; rfl, (hb1.trans (hb2.mono hb1.size)).trans (hb3.mono (Nat.le_trans hb1.size hb2.size))⟩
        · have HV := Lib.hid (show offB off = ⟨#[45]⟩ ++ twoB ((-off) / 3600) ++ twoB ((-off) % 3600 / 60) by unfold offB offN; rw [if_pos hn, if_pos h3, if_neg h4, ← ByteArray.append_assoc, ← ByteArray.append_assoc]; exact ByteArray.append_empty)
          have g3 : decide (0 < (-off) % 3600) = true := decide_eq_true h3
          have g4 : decide (0 < (-off) % 60) = false := decide_eq_false h4
          clear h3 h4 HT
          have s1 : (twoB ((-off) / 3600)).size = 2 := rfl
          have s2 : (twoB ((-off) % 3600 / 60)).size = 2 := rfl
          have s3 : (twoB ((-off) % 60)).size = 2 := rfl
          generalize twoB ((-off) / 3600) = t1 at *
          generalize twoB ((-off) % 3600 / 60) = t2 at *
          go_enter Tryz.func77, Tryz.ntmps77
          go_wp2_with fail
          refine (H1.out _).mono ?_
          rintro e w1 ⟨rfl, hb1⟩
          go_wp2_with fail
          refine (H2.out _).mono ?_
          rintro e w2 ⟨rfl, hb2⟩
          go_wp2_with fail
          go_ret2
          exact ⟨by rw [HV.out]; rfl, hb1.trans (hb2.mono hb1.size)⟩
      · have h4 : ¬ 0 < (-off) % 60 := by omega
        have HV := Lib.hid (show offB off = ⟨#[45]⟩ ++ twoB ((-off) / 3600) by unfold offB offN; rw [if_pos hn, if_neg h3, if_neg h4]; rw [show (⟨#[]⟩ : ByteArray) = ByteArray.empty from rfl, ByteArray.append_empty, ByteArray.append_empty])
        have g3 : decide (0 < (-off) % 3600) = false := decide_eq_false h3
        have g4 : decide (0 < (-off) % 60) = false := decide_eq_false h4
        clear h3 h4 HT
        have s1 : (twoB ((-off) / 3600)).size = 2 := rfl
        generalize twoB ((-off) / 3600) = t1 at *
        go_enter Tryz.func77, Tryz.ntmps77
        go_wp2_with fail
        refine (H1.out _).mono ?_
        rintro e w1 ⟨rfl, hb1⟩
        go_wp2_with fail
        go_ret2
        exact ⟨by rw [HV.out]; rfl, hb1⟩
    · have hd3 : decide (off < 0) = false := decide_eq_false hn
      have e3 : (off).tdiv 3600 = (off) / 3600 := by rw [Int.tdiv_eq_ediv_of_nonneg (by omega)]
      have e4 : (off).tmod 3600 = (off) % 3600 := by rw [Int.tmod_eq_emod_of_nonneg (by omega)]
      have e5 : (off).tmod 60 = (off) % 60 := by rw [Int.tmod_eq_emod_of_nonneg (by omega)]
      have e6 : ((off) % 3600).tdiv 60 = (off) % 3600 / 60 := by rw [Int.tdiv_eq_ediv_of_nonneg (by omega)]
      have H1 := Lib.hid (HT.out ((off) / 3600) (by omega) (by omega))
      have H2 := Lib.hid (HT.out ((off) % 3600 / 60) (by omega) (by omega))
      have H3 := Lib.hid (HT.out ((off) % 60) (by omega) (by omega))
      by_cases h3 : 0 < (off) % 3600
      · by_cases h4 : 0 < (off) % 60
        · have HV := Lib.hid (show offB off = ⟨#[43]⟩ ++ twoB ((off) / 3600) ++ twoB ((off) % 3600 / 60) ++ twoB ((off) % 60) by unfold offB offN; rw [if_neg hn, if_pos h3, if_pos h4, ← ByteArray.append_assoc, ← ByteArray.append_assoc])
          have g3 : decide (0 < (off) % 3600) = true := decide_eq_true h3
          have g4 : decide (0 < (off) % 60) = true := decide_eq_true h4
          clear h3 h4 HT
          have s1 : (twoB ((off) / 3600)).size = 2 := rfl
          have s2 : (twoB ((off) % 3600 / 60)).size = 2 := rfl
          have s3 : (twoB ((off) % 60)).size = 2 := rfl
          generalize twoB ((off) / 3600) = t1 at *
          generalize twoB ((off) % 3600 / 60) = t2 at *
          generalize twoB ((off) % 60) = t3 at *

          go_enter Tryz.func77, Tryz.ntmps77
          go_wp2_with fail
          refine (H1.out _).mono ?_
          rintro e w1 ⟨rfl, hb1⟩
          go_wp2_with fail
          refine (H2.out _).mono ?_
          rintro e w2 ⟨rfl, hb2⟩
          go_wp2_with fail
          refine (H3.out _).mono ?_
          rintro e w3 ⟨rfl, hb3⟩
          go_wp2_with fail
          go_ret2
          exact ⟨by rw [HV.out]; rfl, (hb1.trans (hb2.mono hb1.size)).trans (hb3.mono (Nat.le_trans hb1.size hb2.size))⟩
        · have HV := Lib.hid (show offB off = ⟨#[43]⟩ ++ twoB ((off) / 3600) ++ twoB ((off) % 3600 / 60) by unfold offB offN; rw [if_neg hn, if_pos h3, if_neg h4, ← ByteArray.append_assoc, ← ByteArray.append_assoc]; exact ByteArray.append_empty)
          have g3 : decide (0 < (off) % 3600) = true := decide_eq_true h3
          have g4 : decide (0 < (off) % 60) = false := decide_eq_false h4
          clear h3 h4 HT
          have s1 : (twoB ((off) / 3600)).size = 2 := rfl
          have s2 : (twoB ((off) % 3600 / 60)).size = 2 := rfl
          have s3 : (twoB ((off) % 60)).size = 2 := rfl
          generalize twoB ((off) / 3600) = t1 at *
          generalize twoB ((off) % 3600 / 60) = t2 at *
          go_enter Tryz.func77, Tryz.ntmps77
          go_wp2_with fail
          refine (H1.out _).mono ?_
          rintro e w1 ⟨rfl, hb1⟩
          go_wp2_with fail
          refine (H2.out _).mono ?_
          rintro e w2 ⟨rfl, hb2⟩
          go_wp2_with fail
          go_ret2
          exact ⟨by rw [HV.out]; rfl, hb1.trans (hb2.mono hb1.size)⟩
      · have h4 : ¬ 0 < (off) % 60 := by omega
        have HV := Lib.hid (show offB off = ⟨#[43]⟩ ++ twoB ((off) / 3600) by unfold offB offN; rw [if_neg hn, if_neg h3, if_neg h4]; rw [show (⟨#[]⟩ : ByteArray) = ByteArray.empty from rfl, ByteArray.append_empty, ByteArray.append_empty])
        have g3 : decide (0 < (off) % 3600) = false := decide_eq_false h3
        have g4 : decide (0 < (off) % 60) = false := decide_eq_false h4
        clear h3 h4 HT
        have s1 : (twoB ((off) / 3600)).size = 2 := rfl
        generalize twoB ((off) / 3600) = t1 at *
        go_enter Tryz.func77, Tryz.ntmps77
        go_wp2_with fail
        refine (H1.out _).mono ?_
        rintro e w1 ⟨rfl, hb1⟩
        go_wp2_with fail
        go_ret2
        exact ⟨by rw [HV.out]; rfl, hb1⟩
  · rw [if_neg hr]
    by_cases h1 : off ≤ -360000
    · have hd1 : decide (off ≤ -360000) = true := decide_eq_true h1
      have hd2 : decide (360000 ≤ off) = false := decide_eq_false (by omega)
      go_enter Tryz.func77, Tryz.ntmps77
      go_wp2_with fail
      go_ret2
      exact ⟨rfl, Below.refl _ _⟩
    · have hd1 : decide (off ≤ -360000) = false := decide_eq_false h1
      have hd2 : decide (360000 ≤ off) = true := decide_eq_true (by omega)
      go_enter Tryz.func77, Tryz.ntmps77
      go_wp2_with fail
      go_ret2
      exact ⟨rfl, Below.refl _ _⟩
theorem kindR_kinds (f : List UInt8) : kindR f = (0, 12) ∨ (f.length ≤ 64 ∧ ((kindR f) = (0, 0) ∨ (kindR f) = (1, 0) ∨ (kindR f) = (2, 0) ∨ (kindR f) = (3, 0))) := by
  unfold kindR
  by_cases hb : badB f = true
  · rw [if_pos hb]; exact .inl rfl
  · rw [if_neg hb]
    refine .inr ⟨?_, ?_⟩
    · by_cases hl : 64 < f.length
      · exact absurd (bad_long hl) hb
      · omega
    · unfold kindP
      split
      · simp
      · split
        · simp
        · split <;> simp
def repB (f old new : ByteArray) : ByteArray := ⟨(Lib.replace f.data.toList old.data.toList new.data.toList 1).toArray⟩
/-- How a time is called, and what is wrong. -/
def showV (f : ByteArray) (off : Int) (dst : Bool) (letter : ByteArray) : ByteArray × Int :=
  if (kindR f.data.toList).2 = 0 then
    (if (kindR f.data.toList).1 = 1 then (repB f ⟨#[37, 115]⟩ letter, 0)
    else if (kindR f.data.toList).1 = 2 then (if -360000 < off ∧ off < 360000 then (repB f ⟨#[37, 122]⟩ (offB off), 0) else (⟨#[]⟩, 10))
    else if (kindR f.data.toList).1 = 3 then (if dst then ⟨(Lib.cut f.data.toList [47]).2.1.toArray⟩ else ⟨(Lib.cut f.data.toList [47]).1.toArray⟩, 0)
    else (f, 0))
  else (⟨#[]⟩, (kindR f.data.toList).2)
theorem rep_any (f old new : ByteArray) (h1 : 1 ≤ old.size) (hs : f.size ≤ 64) (hn : new.size ≤ 100 ∨ (Lib.countB f old ≤ 1 ∧ new.size ≤ 140737488351232)) (w : World) (hm : Tryz.MaxL w) :
    Calls Tryz.prog 76 #[.string f, .string old, .string new, .int .i64 1] w fun e w' => e = .returned (.string (repB f old new)) ∧ Below w.heap.size w w' :=
  Tryz.strings_Replace f old new 1 w (by omega) hm h1 (by
    have h := Lib.countB_le old h1 f.size f (Nat.le_refl _)
    rcases hn with hn | ⟨hc, hn⟩
    · have h2 : Lib.countB f old * new.size ≤ 64 * 100 := Nat.mul_le_mul (by omega) hn
      omega
    · have h2 : Lib.countB f old * new.size ≤ 1 * 140737488351232 := Nat.mul_le_mul hc hn
      omega)
theorem offB_size (off : Int) : (offB off).size ≤ 100 := by
  have h : ∀ n, (offN n).size ≤ 50 := fun n => by
    unfold offN
    rw [ByteArray.size_append, ByteArray.size_append]
    have e : ∀ k, (twoB k).size = 2 := fun k => rfl
    split <;> split <;> simp only [e] <;> decide
  unfold offB
  split
  · rw [ByteArray.size_append]
    have := h (-off)
    have e : (⟨#[45]⟩ : ByteArray).size = 1 := rfl
    omega
  · rw [ByteArray.size_append]
    have := h off
    have e : (⟨#[43]⟩ : ByteArray).size = 1 := rfl
    omega
set_option maxHeartbeats 2000000 in
theorem show_any (f : ByteArray) (off : Int) (dst : Bool) (letter : ByteArray) (w : World) (hs : f.size < 4294967281) (hl : letter.size ≤ 140737488351232) (hm : Tryz.MaxL w) :
    Calls Tryz.prog 54 #[.string f, .int .i64 off, .bool dst, .string letter] w fun o w' => o = .returned (.tuple #[.string (showV f off dst letter).1, .int .i64 (showV f off dst letter).2]) ∧ Below w.heap.size w w' := by
  rcases kindR_kinds f.data.toList with h | ⟨hl64, h | h | h | h⟩
  · have e : showV f off dst letter = (⟨#[]⟩, 12) := by unfold showV; rw [h, if_neg (by decide)]
    rw [e]
    exact show_err f off dst letter w hs hm 0 12 h (by decide)
  · have e : showV f off dst letter = (f, 0) := by unfold showV; rw [h]; rfl
    rw [e]
    exact show_plain f off dst letter w hs hm h
  · have hs64 : f.size ≤ 64 := by have : f.data.toList.length = f.size := Array.length_toList
                                  omega
    have e : showV f off dst letter = (repB f ⟨#[37, 115]⟩ letter, 0) := by unfold showV; rw [h]; rfl
    rw [e]
    have HK := Lib.hid (kind_at f hs 1 0 h w hm)
    have HR := Lib.hid (fun W (hb : Below w.heap.size w W) => rep_any f ⟨#[37, 115]⟩ letter (by decide) hs64 (.inr ⟨count_one h, hl⟩) W (hm.below hb (Nat.le_refl _)))
    clear h e hm
    generalize repB f ⟨#[37, 115]⟩ letter = t at *
    go_enter Tryz.func54, Tryz.ntmps54
    go_wp2_with fail
    refine HK.out.mono ?_
    rintro e w1 ⟨rfl, hb⟩
    go_wp2_with fail
    refine (HR.out _ hb).mono ?_
    rintro e w2 ⟨rfl, hb2⟩
    go_wp2_with fail
    go_ret2
    exact ⟨rfl, hb.trans (hb2.mono hb.size)⟩
  · have hs64 : f.size ≤ 64 := by have : f.data.toList.length = f.size := Array.length_toList
                                  omega
    have HK := Lib.hid (kind_at f hs 2 0 h w hm)
    have HO := Lib.hid (fun W => off_any off W)
    have HR := Lib.hid (fun W (hb : Below w.heap.size w W) => rep_any f ⟨#[37, 122]⟩ (offB off) (by decide) hs64 (.inl (offB_size off)) W (hm.below hb (Nat.le_refl _)))
    by_cases hr : -360000 < off ∧ off < 360000
    · have e : showV f off dst letter = (repB f ⟨#[37, 122]⟩ (offB off), 0) := by unfold showV; simp only [h]; rw [if_pos trivial, if_neg (by decide), if_pos trivial, if_pos hr]
      rw [e]
      simp only [if_pos hr] at HO
      clear h e hm
      generalize repB f ⟨#[37, 122]⟩ (offB off) = t at *
      generalize offB off = ob at *
      go_enter Tryz.func54, Tryz.ntmps54
      go_wp2_with fail
      refine HK.out.mono ?_
      rintro e w1 ⟨rfl, hb⟩
      go_wp2_with fail
      refine (HO.out _).mono ?_
      rintro e w2 ⟨rfl, hb2⟩
      have hb3 := hb.trans (hb2.mono hb.size)
      go_wp2_with fail
      refine (HR.out _ hb3).mono ?_
      rintro e w3 ⟨rfl, hb4⟩
      go_wp2_with fail
      go_ret2
      exact ⟨rfl, hb3.trans (hb4.mono hb3.size)⟩
    · have e : showV f off dst letter = (⟨#[]⟩, 10) := by unfold showV; simp only [h]; rw [if_pos trivial, if_neg (by decide), if_pos trivial, if_neg hr]
      rw [e]
      simp only [if_neg hr] at HO
      clear h e hm HR
      go_enter Tryz.func54, Tryz.ntmps54
      go_wp2_with fail
      refine HK.out.mono ?_
      rintro e w1 ⟨rfl, hb⟩
      go_wp2_with fail
      refine (HO.out _).mono ?_
      rintro e w2 ⟨rfl, hb2⟩
      have hb3 := hb.trans (hb2.mono hb.size)
      go_wp2_with fail
      go_ret2
      exact ⟨rfl, hb3⟩
  · have HK := Lib.hid (kind_at f hs 3 0 h w hm)
    have HC := Lib.hid (fun W (hb : Below w.heap.size w W) => Tryz.strings_Cut f ⟨#[47]⟩ W hs (hm.below hb (Nat.le_refl _)))
    obtain ⟨⟨c0, c1, c2⟩, hc⟩ : ∃ c, Lib.cut f.data.toList [47] = c := ⟨_, rfl⟩
    have hcs : Lib.cut f.data.toList (⟨#[47]⟩ : ByteArray).data.toList = (c0, c1, c2) := hc
    simp only [hcs] at HC
    cases dst with
    | true =>
      have e : showV f off true letter = (⟨c1.toArray⟩, 0) := by unfold showV; rw [h, hc]; rfl
      rw [e]
      clear h e hm hc hcs
      go_enter Tryz.func54, Tryz.ntmps54
      go_wp2_with fail
      refine HK.out.mono ?_
      rintro e w1 ⟨rfl, hb⟩
      go_wp2_with fail
      refine (HC.out _ hb).mono ?_
      rintro e w2 ⟨rfl, n, rfl⟩
      go_wp2_with fail
      go_ret2
      exact ⟨rfl, below_drewN hb n⟩
    | false =>
      have e : showV f off false letter = (⟨c0.toArray⟩, 0) := by unfold showV; rw [h, hc]; rfl
      rw [e]
      clear h e hm hc hcs
      go_enter Tryz.func54, Tryz.ntmps54
      go_wp2_with fail
      refine HK.out.mono ?_
      rintro e w1 ⟨rfl, hb⟩
      go_wp2_with fail
      refine (HC.out _ hb).mono ?_
      rintro e w2 ⟨rfl, n, rfl⟩
      go_wp2_with fail
      go_ret2
      exact ⟨rfl, below_drewN hb n⟩
/-- Show, wherever. -/
theorem shows_any (f : ByteArray) (off : Int) (dst : Bool) (letter : ByteArray) (hs : f.size < 4294967281) (hl : letter.size ≤ 140737488351232) : Shows f off dst letter (showV f off dst letter).1 (showV f off dst letter).2 := fun W hm => show_any f off dst letter W hs hl hm
end Go.Proofs.YtonmmgcibpjahaaGreatDoor
end

section
/- ARefS: Layer 12's reference walked: letters, offsets, which kind a format is. -/
namespace Go.Proofs.YtonmmgcibpjahaaGreatDoor
open Go Go.RowKit Go.Shelf
set_option maxRecDepth 100000

def letZ (z : Int) : Bool := decide (97 ≤ z ∧ z ≤ 122 ∨ 65 ≤ z ∧ z ≤ 90 ∨ 48 ≤ z ∧ z ≤ 57 ∨ z = 43 ∨ z = 45)
theorem letB_all : ∀ n : _root_.Fin 256, letB (UInt8.ofNat n.1) = letZ (n.1 : Int) := by decide +kernel
theorem letB_eq (x : UInt8) : letB x = letZ (x.toNat : Int) := by
  have := letB_all ⟨x.toNat, x.toNat_lt⟩
  simpa using this
set_option maxHeartbeats 2000000 in
theorem letter_any (x : UInt8) (w : World) : Calls Tryz.prog 69 #[.int .u8 (x.toNat : Int)] w fun e w' => e = .returned (.bool (letB x)) ∧ w' = w := by
  rw [letB_eq]
  generalize (x.toNat : Int) = z
  by_cases h1 : 97 ≤ z
  · have d1 : decide (97 ≤ z) = true := decide_eq_true h1
    have d3 : decide (65 ≤ z) = true := decide_eq_true (by omega)
    have d4 : decide (z ≤ 90) = false := decide_eq_false (by omega)
    have d5 : decide (48 ≤ z) = true := decide_eq_true (by omega)
    have d6 : decide (z ≤ 57) = false := decide_eq_false (by omega)
    have d7 : (z == 43) = false := by simp; omega
    have d8 : (z == 45) = false := by simp; omega
    by_cases h2 : z ≤ 122
    · have d2 : decide (z ≤ 122) = true := decide_eq_true h2
      have HV := Lib.hid (show letZ z = true by unfold letZ; rw [decide_eq_true_eq]; omega)
      go_enter Tryz.func69, Tryz.ntmps69
      go_wp2_with fail
      go_ret
      exact ⟨by rw [HV.out]; rfl, rfl⟩
    · have d2 : decide (z ≤ 122) = false := decide_eq_false h2
      have HV := Lib.hid (show letZ z = false by unfold letZ; rw [decide_eq_false_iff_not]; omega)
      go_enter Tryz.func69, Tryz.ntmps69
      go_wp2_with fail
      go_ret
      exact ⟨by rw [HV.out]; rfl, rfl⟩
  · have d1 : decide (97 ≤ z) = false := decide_eq_false h1
    by_cases h3 : 65 ≤ z
    · have d3 : decide (65 ≤ z) = true := decide_eq_true h3
      have d5 : decide (48 ≤ z) = true := decide_eq_true (by omega)
      have d6 : decide (z ≤ 57) = false := decide_eq_false (by omega)
      have d7 : (z == 43) = false := by simp; omega
      have d8 : (z == 45) = false := by simp; omega
      by_cases h4 : z ≤ 90
      · have d4 : decide (z ≤ 90) = true := decide_eq_true h4
        have HV := Lib.hid (show letZ z = true by unfold letZ; rw [decide_eq_true_eq]; omega)
        go_enter Tryz.func69, Tryz.ntmps69
        go_wp2_with fail
        go_ret
        exact ⟨by rw [HV.out]; rfl, rfl⟩
      · have d4 : decide (z ≤ 90) = false := decide_eq_false h4
        have HV := Lib.hid (show letZ z = false by unfold letZ; rw [decide_eq_false_iff_not]; omega)
        go_enter Tryz.func69, Tryz.ntmps69
        go_wp2_with fail
        go_ret
        exact ⟨by rw [HV.out]; rfl, rfl⟩
    · have d3 : decide (65 ≤ z) = false := decide_eq_false h3
      by_cases h5 : 48 ≤ z
      · have d5 : decide (48 ≤ z) = true := decide_eq_true h5
        have d7 : (z == 43) = false := by simp; omega
        have d8 : (z == 45) = false := by simp; omega
        by_cases h6 : z ≤ 57
        · have d6 : decide (z ≤ 57) = true := decide_eq_true h6
          have HV := Lib.hid (show letZ z = true by unfold letZ; rw [decide_eq_true_eq]; omega)
          go_enter Tryz.func69, Tryz.ntmps69
          go_wp2_with fail
          go_ret
          exact ⟨by rw [HV.out]; rfl, rfl⟩
        · have d6 : decide (z ≤ 57) = false := decide_eq_false h6
          have HV := Lib.hid (show letZ z = false by unfold letZ; rw [decide_eq_false_iff_not]; omega)
          go_enter Tryz.func69, Tryz.ntmps69
          go_wp2_with fail
          go_ret
          exact ⟨by rw [HV.out]; rfl, rfl⟩
      · have d5 : decide (48 ≤ z) = false := decide_eq_false h5
        by_cases h7 : z = 43
        · have d7 : (z == 43) = true := by simpa using h7
          have HV := Lib.hid (show letZ z = true by unfold letZ; rw [decide_eq_true_eq]; omega)
          clear h7
          go_enter Tryz.func69, Tryz.ntmps69
          go_wp2_with fail
          go_ret
          exact ⟨by rw [HV.out]; rfl, rfl⟩
        · have d7 : (z == 43) = false := by simpa using h7
          by_cases h8 : z = 45
          · have d8 : (z == 45) = true := by simpa using h8
            have HV := Lib.hid (show letZ z = true by unfold letZ; rw [decide_eq_true_eq]; omega)
            clear h8
            go_enter Tryz.func69, Tryz.ntmps69
            go_wp2_with fail
            go_ret
            exact ⟨by rw [HV.out]; rfl, rfl⟩
          · have d8 : (z == 45) = false := by simpa using h8
            have HV := Lib.hid (show letZ z = false by unfold letZ; rw [decide_eq_false_iff_not]; omega)
            go_enter Tryz.func69, Tryz.ntmps69
            go_wp2_with fail
            go_ret
            exact ⟨by rw [HV.out]; rfl, rfl⟩
theorem byte_eq {x c : UInt8} : ((x.toNat : Int) == (c.toNat : Int)) = decide (x = c) := by
  by_cases h : x = c
  · subst h; simp
  · rw [decide_eq_false h]
    cases hq : ((x.toNat : Int) == (c.toNat : Int)) with
    | false => rfl
    | true =>
      exfalso
      apply h
      have : (x.toNat : Int) = (c.toNat : Int) := by simpa using hq
      exact UInt8.toNat_inj.1 (by omega)
set_option maxHeartbeats 4000000 in
theorem rkind_any (f : ByteArray) (w : World) (hs : f.size < 4294967281) :
    Calls Tryz.prog 46 #[.string f] w fun e w' => e = .returned (.tuple #[.int .i64 (refK f.data.toList).1, .int .i64 ((refK f.data.toList).2 : Nat)]) ∧ w' = w := by
  have hlen : f.data.toList.length = f.size := Array.length_toList
  by_cases h0 : f.size = 0
  · have HV := Lib.hid (show refK f.data.toList = (-1, 0) by unfold refK; rw [if_pos (.inl (List.eq_nil_of_length_eq_zero (by omega)))])
    have d0 : decide (f.size = 0) = true := decide_eq_true h0
    go_enter Tryz.func46, Tryz.ntmps46
    go_wp2_with fail
    go_ret2
    exact ⟨by rw [HV.out]; rfl, rfl⟩
  · by_cases h1 : 64 < f.size
    · have HV := Lib.hid (show refK f.data.toList = (-1, 0) by unfold refK; rw [if_pos (.inr (by omega))])
      go_enter Tryz.func46, Tryz.ntmps46
      go_wp2_with fail
      go_ret2
      exact ⟨by rw [HV.out]; rfl, rfl⟩
    · have HR := Lib.hid (refK_in (f := f.data.toList) (fun h => h0 (by rw [← hlen, h]; rfl)) (by omega))
      have hl64 : f.size ≤ 64 := by omega
      have d0 : ((f.size : Int) == 0) = false := beq_eq_false_iff_ne.2 (by omega)
      have d1 : decide (64 < f.size) = false := decide_eq_false h1
      have d2 : decide ((64 : Int) < (f.size : Int)) = false := decide_eq_false (by omega)
      have hpos : 0 < f.size := by omega
      go_enter Tryz.func46, Tryz.ntmps46
      go_wp2_with fail
      go_loopw [4, 5, 6] (fun kv av iv wr => ∃ (i : Nat) (k : Int) (a : Nat), i ≤ f.size ∧ iv = .int .i64 i ∧ kv = .int .i64 k ∧ av = .int .i64 a ∧ 0 ≤ k ∧ k ≤ 3 ∧ a ≤ 64 ∧ wr = w ∧ scanR f.data.toList.length 0 f.data.toList (0, 0) = scanR f.data.toList.length i (f.data.toList.drop i) (k, a)) (fun _ _ iv _ => f.size - (intOf iv).toNat)
      case atStart => exact ⟨0, 0, 0, Nat.zero_le _, rfl, rfl, rfl, by omega, by omega, by omega, rfl, rfl⟩
      case round =>
        obtain ⟨i, k, a, hi, rfl, rfl, rfl, hk0, hk3, ha, rfl, hsc⟩ := hrel
        have HSC := Lib.hid hsc
        clear hsc
        by_cases hlt : i < f.size
        · have hd : decide ((i : Int) < (f.size : Int)) = true := decide_eq_true (by omega)
          have hil : i < f.data.toList.length := by omega
          have hcons : f.data.toList.drop i = f.data.toList[i] :: f.data.toList.drop (i + 1) := List.drop_eq_getElem_cons hil
          obtain ⟨x, hx⟩ : ∃ x, f.data.toList[i] = x := ⟨_, rfl⟩
          have hxi : f[i] = x := by rw [← hx]; exact (Array.getElem_toList (xs := f.data) (h := by omega)).symm
          have hhead : (f.data.toList.drop (i + 1)).head? = f.data.toList[i + 1]? := by rw [List.head?_drop]
          rw [hcons, hx] at HSC
          have HST := Lib.hid (show scanR f.data.toList.length i (x :: f.data.toList.drop (i + 1)) (k, a) = if letB x then scanR f.data.toList.length (i + 1) (f.data.toList.drop (i + 1)) (k, a)
            else if k ≠ 0 then none
            else if x = 47 ∧ 0 < i ∧ i + 1 < f.data.toList.length then scanR f.data.toList.length (i + 1) (f.data.toList.drop (i + 1)) (3, i)
            else if x = 37 ∧ (f.data.toList.drop (i + 1)).head? = some 115 then scanR f.data.toList.length (i + 1) (f.data.toList.drop (i + 1)) (1, i)
            else if x = 37 ∧ (f.data.toList.drop (i + 1)).head? = some 122 then scanR f.data.toList.length (i + 1) (f.data.toList.drop (i + 1)) (2, i)
            else none from rfl)
          have HBAD := Lib.hid (fun (h : scanR f.data.toList.length i (x :: f.data.toList.drop (i + 1)) (k, a) = none) => show refK f.data.toList = (-1, 0) by rw [HR.out, HSC.out, h])
          have HL := Lib.hid (letter_any x wr)
          have HHD := Lib.hid hhead
          clear hcons hx hhead
          cases hlx : letB x with
          | true =>
            have HN := Lib.hid (show scanR f.data.toList.length i (x :: f.data.toList.drop (i + 1)) (k, a) = scanR f.data.toList.length (i + 1) (f.data.toList.drop (i + 1)) (k, a) by rw [HST.out, hlx, if_pos rfl])
            rw [hlx] at HL
            clear hlx
            go_wp2_with fail
            refine HL.out.mono ?_
            rintro e w1 ⟨rfl, rfl⟩
            go_wp2_with fail
            go_roundw
            case rel => exact ⟨i + 1, k, a, by omega, by go_num, rfl, rfl, hk0, hk3, ha, by trivial, HSC.out.trans HN.out⟩
            case measure => simp [intOf]; omega
          | false =>
            rw [hlx] at HL HST
            rw [if_neg (by decide)] at HST
            clear hlx
            by_cases hk : k = 0
            · subst hk
              rw [if_neg (by simp)] at HST
              have d0 : ((0 : Int) != 0) = false := rfl
              by_cases h47 : x = 47
              · subst h47
                by_cases hin : 0 < i ∧ i + 1 < f.size
                · have HN := Lib.hid (show scanR f.data.toList.length i (47 :: f.data.toList.drop (i + 1)) (0, a) = scanR f.data.toList.length (i + 1) (f.data.toList.drop (i + 1)) (3, i) by rw [HST.out, if_pos ⟨rfl, hin.1, by omega⟩])
                  have d3 : decide (0 < i) = true := decide_eq_true hin.1
                  have d4 : decide ((i : Int) + 1 < (f.size : Int)) = true := decide_eq_true (by omega)
                  go_wp2_with fail
                  refine HL.out.mono ?_
                  rintro e w1 ⟨rfl, rfl⟩
                  go_wp2_with fail
                  go_roundw
                  case rel => exact ⟨i + 1, 3, i, by omega, by go_num, rfl, rfl, by omega, by omega, by omega, by trivial, HSC.out.trans HN.out⟩
                  case measure => simp [intOf]; omega
                · have HV := Lib.hid (HBAD.out (by rw [HST.out, if_neg (fun h => hin ⟨h.2.1, by omega⟩), if_neg (fun h => absurd h.1 (by decide)), if_neg (fun h => absurd h.1 (by decide))]))
                  by_cases hi0 : 0 < i
                  · have d3 : decide (0 < i) = true := decide_eq_true hi0
                    have d4 : decide ((i : Int) + 1 < (f.size : Int)) = false := decide_eq_false (by omega)
                    go_wp2_with fail
                    refine HL.out.mono ?_
                    rintro e w1 ⟨rfl, rfl⟩
                    go_wp2_with fail
                    go_ret2
                    exact ⟨by rw [HV.out]; rfl, rfl⟩
                  · have d3 : decide (0 < i) = false := decide_eq_false hi0
                    go_wp2_with fail
                    refine HL.out.mono ?_
                    rintro e w1 ⟨rfl, rfl⟩
                    go_wp2_with fail
                    go_ret2
                    exact ⟨by rw [HV.out]; rfl, rfl⟩
              · rw [if_neg (fun h => h47 h.1)] at HST
                have e47 : ((x.toNat : Int) == 47) = false := (byte_eq (x := x) (c := 47)).trans (decide_eq_false h47)
                by_cases h37 : x = 37
                · subst h37
                  by_cases hin : i + 1 < f.size
                  · have d4 : decide ((i : Int) + 1 < (f.size : Int)) = true := decide_eq_true (by omega)
                    obtain ⟨y, hy⟩ : ∃ y, f.data.toList[i + 1]'(by omega) = y := ⟨_, rfl⟩
                    have hyi : f[i + 1] = y := by rw [← hy]; exact (Array.getElem_toList (xs := f.data) (h := by omega)).symm
                    have hh : (f.data.toList.drop (i + 1)).head? = some y := by rw [HHD.out, List.getElem?_eq_getElem (by omega), hy]
                    rw [hh] at HST
                    have e1 : (((i : Int) + 1).toNat) = i + 1 := by omega
                    clear hy hh
                    by_cases hy1 : y = 115
                    · subst hy1
                      have HN := Lib.hid (show scanR f.data.toList.length i (37 :: f.data.toList.drop (i + 1)) (0, a) = scanR f.data.toList.length (i + 1) (f.data.toList.drop (i + 1)) (1, i) by rw [HST.out, if_pos ⟨rfl, rfl⟩])
                      go_wp2_with fail
                      refine HL.out.mono ?_
                      rintro e w1 ⟨rfl, rfl⟩
                      go_wp2_with fail
                      go_roundw
                      case rel => exact ⟨i + 1, 1, i, by omega, by go_num, rfl, rfl, by omega, by omega, by omega, by trivial, HSC.out.trans HN.out⟩
                      case measure => simp [intOf]; omega
                    · rw [if_neg (fun h => hy1 (by simpa using h.2))] at HST
                      have e115 : ((y.toNat : Int) == 115) = false := (byte_eq (x := y) (c := 115)).trans (decide_eq_false hy1)
                      by_cases hy2 : y = 122
                      · subst hy2
                        have HN := Lib.hid (show scanR f.data.toList.length i (37 :: f.data.toList.drop (i + 1)) (0, a) = scanR f.data.toList.length (i + 1) (f.data.toList.drop (i + 1)) (2, i) by rw [HST.out, if_pos ⟨rfl, rfl⟩])
                        go_wp2_with fail
                        refine HL.out.mono ?_
                        rintro e w1 ⟨rfl, rfl⟩
                        go_wp2_with fail
                        go_roundw
                        case rel => exact ⟨i + 1, 2, i, by omega, by go_num, rfl, rfl, by omega, by omega, by omega, by trivial, HSC.out.trans HN.out⟩
                        case measure => simp [intOf]; omega
                      · have e122 : ((y.toNat : Int) == 122) = false := (byte_eq (x := y) (c := 122)).trans (decide_eq_false hy2)
                        have HV := Lib.hid (HBAD.out (by rw [HST.out, if_neg (fun h => hy2 (by simpa using h.2))]))
                        go_wp2_with fail
                        refine HL.out.mono ?_
                        rintro e w1 ⟨rfl, rfl⟩
                        go_wp2_with fail
                        go_ret2
                        exact ⟨by rw [HV.out]; rfl, rfl⟩
                  · have d4 : decide ((i : Int) + 1 < (f.size : Int)) = false := decide_eq_false (by omega)
                    have hh : (f.data.toList.drop (i + 1)).head? = none := by rw [HHD.out, List.getElem?_eq_none (by omega)]
                    have HV := Lib.hid (HBAD.out (by rw [HST.out, hh, if_neg (fun h => absurd h.2 (by decide)), if_neg (fun h => absurd h.2 (by decide))]))
                    go_wp2_with fail
                    refine HL.out.mono ?_
                    rintro e w1 ⟨rfl, rfl⟩
                    go_wp2_with fail
                    go_ret2
                    exact ⟨by rw [HV.out]; rfl, rfl⟩
                · have e37 : ((x.toNat : Int) == 37) = false := (byte_eq (x := x) (c := 37)).trans (decide_eq_false h37)
                  have HV := Lib.hid (HBAD.out (by rw [HST.out, if_neg (fun h => h37 h.1), if_neg (fun h => h37 h.1)]))
                  go_wp2_with fail
                  refine HL.out.mono ?_
                  rintro e w1 ⟨rfl, rfl⟩
                  go_wp2_with fail
                  go_ret2
                  exact ⟨by rw [HV.out]; rfl, rfl⟩
            · have HV := Lib.hid (HBAD.out (by rw [HST.out, if_pos hk]))
              have d0 : (k != 0) = true := by simpa using hk
              go_wp2_with fail
              refine HL.out.mono ?_
              rintro e w1 ⟨rfl, rfl⟩
              go_wp2_with fail
              go_ret2
              exact ⟨by rw [HV.out]; rfl, rfl⟩
        · obtain rfl : i = f.size := by omega
          have hd : decide ((f.size : Int) < (f.size : Int)) = false := decide_eq_false (by omega)
          have HV := Lib.hid (show refK f.data.toList = (k, a) by
            rw [HR.out, HSC.out, List.drop_eq_nil_of_le (by omega)]
            rfl)
          go_wp2_with fail
          go_ret2
          exact ⟨by rw [HV.out]; rfl, rfl⟩
end Go.Proofs.YtonmmgcibpjahaaGreatDoor
end

section
/- ARefT: Layer 12's reference walked: offsets, how a time is called. -/
namespace Go.Proofs.YtonmmgcibpjahaaGreatDoor
open Go Go.RowKit Go.Shelf
set_option maxRecDepth 100000

set_option maxHeartbeats 1000000 in
theorem pair_any (n : Int) (h0 : 0 ≤ n) (h1 : n < 100) (w : World) :
    Calls Tryz.prog 95 #[.int .i64 n] w fun e w' => e = .returned (.string (twoB n)) ∧ Below w.heap.size w w' := by
  have e1 : n.tdiv 10 = n / 10 := by rw [Int.tdiv_eq_ediv_of_nonneg h0]
  have e2 : n.tmod 10 = n % 10 := by rw [Int.tmod_eq_emod_of_nonneg h0]
  have e3 : (n / 10).tmod 10 = n / 10 := by rw [Int.tmod_eq_emod_of_nonneg (by omega)]; omega
  have HC := two_conv h0 h1 w
  go_enter Tryz.func95, Tryz.ntmps95
  go_wp2_with fail
  go_ret
  exact ⟨rfl, (Below.refl w.heap.size w).alloc (Nat.le_refl _) _⟩
set_option maxHeartbeats 2000000 in
theorem roff_any (off : Int) (hr : -360000 < off ∧ off < 360000) (w : World) :
    Calls Tryz.prog 72 #[.int .i64 off] w fun e w' => e = .returned (.string (offB off)) ∧ Below w.heap.size w w' := by
  have HT := Lib.hid (fun n h0 h1 W => pair_any n h0 h1 W)
  by_cases hn : off < 0
  · have hd3 : decide (off < 0) = true := decide_eq_true hn
    have e0 : (0 : Int) - off = -off := by omega
    have e3 : (-off).tdiv 3600 = (-off) / 3600 := by rw [Int.tdiv_eq_ediv_of_nonneg (by omega)]
    have e4 : (-off).tdiv 60 = (-off) / 60 := by rw [Int.tdiv_eq_ediv_of_nonneg (by omega)]
    have e5 : (-off) / 60 - 60 * ((-off) / 3600) = (-off) % 3600 / 60 := by omega
    have e6 : (-off) - 3600 * ((-off) / 3600) - 60 * ((-off) % 3600 / 60) = (-off) % 60 := by omega
    have H1 := Lib.hid (HT.out ((-off) / 3600) (by omega) (by omega))
    have H2 := Lib.hid (HT.out ((-off) % 3600 / 60) (by omega) (by omega))
    have H3 := Lib.hid (HT.out ((-off) % 60) (by omega) (by omega))
    have s1 : (twoB ((-off) / 3600)).size = 2 := rfl
    have s2 : (twoB ((-off) % 3600 / 60)).size = 2 := rfl
    have s3 : (twoB ((-off) % 60)).size = 2 := rfl
    have b1 : 0 ≤ (-off) / 3600 ∧ (-off) / 3600 < 100 := by omega
    have b2 : 0 ≤ (-off) % 3600 / 60 ∧ (-off) % 3600 / 60 < 60 := by omega
    have b3 : 0 ≤ (-off) % 60 ∧ (-off) % 60 < 60 := by omega
    have b4 : 0 ≤ (-off) / 60 ∧ (-off) / 60 < 6000 := by omega
    have b5 : 0 ≤ 60 * ((-off) / 3600) ∧ 60 * ((-off) / 3600) < 6000 := by omega
    have b6 : 0 ≤ 3600 * ((-off) / 3600) ∧ 3600 * ((-off) / 3600) ≤ (-off) := by omega
    have b7 : 0 ≤ 60 * ((-off) % 3600 / 60) ∧ 60 * ((-off) % 3600 / 60) < 3600 := by omega
    by_cases h4 : (-off) % 60 = 0
    · have g4 : ((-off) % 60 != 0) = false := by rw [h4]; rfl
      by_cases h3 : (-off) % 3600 / 60 = 0
      · have HV := Lib.hid (show offB off = ⟨#[45]⟩ ++ twoB ((-off) / 3600) by unfold offB offN; rw [if_pos hn, if_neg (by omega), if_neg (by omega), show (⟨#[]⟩ : ByteArray) = ByteArray.empty from rfl, ByteArray.append_empty, ByteArray.append_empty])
        have g3 : ((-off) % 3600 / 60 != 0) = false := by rw [h3]; rfl
        clear h3 h4 HT H2 H3
        go_enter Tryz.func72, Tryz.ntmps72
        go_wp2_with fail
        refine (H1.out _).mono ?_
        rintro e w1 ⟨rfl, hb1⟩
        go_wp2_with fail
        go_ret
        exact ⟨by rw [HV.out]; rfl, hb1⟩
      · have HV := Lib.hid (show offB off = ⟨#[45]⟩ ++ twoB ((-off) / 3600) ++ twoB ((-off) % 3600 / 60) by unfold offB offN; rw [if_pos hn, if_pos (by omega), if_neg (by omega), ← ByteArray.append_assoc, ← ByteArray.append_assoc]; exact ByteArray.append_empty)
        have g3 : ((-off) % 3600 / 60 != 0) = true := by simpa using h3
        clear h3 h4 HT H3
        go_enter Tryz.func72, Tryz.ntmps72
        go_wp2_with fail
        refine (H1.out _).mono ?_
        rintro e w1 ⟨rfl, hb1⟩
        go_wp2_with fail
        refine (H2.out _).mono ?_
        rintro e w2 ⟨rfl, hb2⟩
        go_wp2_with fail
        go_ret
        exact ⟨by rw [HV.out]; rfl, hb1.trans (hb2.mono hb1.size)⟩
    · have HV := Lib.hid (show offB off = ⟨#[45]⟩ ++ twoB ((-off) / 3600) ++ twoB ((-off) % 3600 / 60) ++ twoB ((-off) % 60) by unfold offB offN; rw [if_pos hn, if_pos (by omega), if_pos (by omega), ← ByteArray.append_assoc, ← ByteArray.append_assoc])
      have g4 : ((-off) % 60 != 0) = true := by simpa using h4
      clear h4 HT
      go_enter Tryz.func72, Tryz.ntmps72
      go_wp2_with fail
      refine (H1.out _).mono ?_
      rintro e w1 ⟨rfl, hb1⟩
      go_wp2_with fail
      refine (H2.out _).mono ?_
      rintro e w2 ⟨rfl, hb2⟩
      go_wp2_with fail
      refine (H3.out _).mono ?_
      rintro e w3 ⟨rfl, hb3⟩
      go_wp2_with fail
      go_ret
      exact ⟨by rw [HV.out]; rfl, (hb1.trans (hb2.mono hb1.size)).trans (hb3.mono (Nat.le_trans hb1.size hb2.size))⟩
  · have hd3 : decide (off < 0) = false := decide_eq_false hn
    have e3 : (off).tdiv 3600 = (off) / 3600 := by rw [Int.tdiv_eq_ediv_of_nonneg (by omega)]
    have e4 : (off).tdiv 60 = (off) / 60 := by rw [Int.tdiv_eq_ediv_of_nonneg (by omega)]
    have e5 : (off) / 60 - 60 * ((off) / 3600) = (off) % 3600 / 60 := by omega
    have e6 : (off) - 3600 * ((off) / 3600) - 60 * ((off) % 3600 / 60) = (off) % 60 := by omega
    have H1 := Lib.hid (HT.out ((off) / 3600) (by omega) (by omega))
    have H2 := Lib.hid (HT.out ((off) % 3600 / 60) (by omega) (by omega))
    have H3 := Lib.hid (HT.out ((off) % 60) (by omega) (by omega))
    have s1 : (twoB ((off) / 3600)).size = 2 := rfl
    have s2 : (twoB ((off) % 3600 / 60)).size = 2 := rfl
    have s3 : (twoB ((off) % 60)).size = 2 := rfl
    have b1 : 0 ≤ (off) / 3600 ∧ (off) / 3600 < 100 := by omega
    have b2 : 0 ≤ (off) % 3600 / 60 ∧ (off) % 3600 / 60 < 60 := by omega
    have b3 : 0 ≤ (off) % 60 ∧ (off) % 60 < 60 := by omega
    have b4 : 0 ≤ (off) / 60 ∧ (off) / 60 < 6000 := by omega
    have b5 : 0 ≤ 60 * ((off) / 3600) ∧ 60 * ((off) / 3600) < 6000 := by omega
    have b6 : 0 ≤ 3600 * ((off) / 3600) ∧ 3600 * ((off) / 3600) ≤ (off) := by omega
    have b7 : 0 ≤ 60 * ((off) % 3600 / 60) ∧ 60 * ((off) % 3600 / 60) < 3600 := by omega
    by_cases h4 : (off) % 60 = 0
    · have g4 : ((off) % 60 != 0) = false := by rw [h4]; rfl
      by_cases h3 : (off) % 3600 / 60 = 0
      · have HV := Lib.hid (show offB off = ⟨#[43]⟩ ++ twoB ((off) / 3600) by unfold offB offN; rw [if_neg hn, if_neg (by omega), if_neg (by omega), show (⟨#[]⟩ : ByteArray) = ByteArray.empty from rfl, ByteArray.append_empty, ByteArray.append_empty])
        have g3 : ((off) % 3600 / 60 != 0) = false := by rw [h3]; rfl
        clear h3 h4 HT H2 H3
        go_enter Tryz.func72, Tryz.ntmps72
        go_wp2_with fail
        refine (H1.out _).mono ?_
        rintro e w1 ⟨rfl, hb1⟩
        go_wp2_with fail
        go_ret
        exact ⟨by rw [HV.out]; rfl, hb1⟩
      · have HV := Lib.hid (show offB off = ⟨#[43]⟩ ++ twoB ((off) / 3600) ++ twoB ((off) % 3600 / 60) by unfold offB offN; rw [if_neg hn, if_pos (by omega), if_neg (by omega), ← ByteArray.append_assoc, ← ByteArray.append_assoc]; exact ByteArray.append_empty)
        have g3 : ((off) % 3600 / 60 != 0) = true := by simpa using h3
        clear h3 h4 HT H3
        go_enter Tryz.func72, Tryz.ntmps72
        go_wp2_with fail
        refine (H1.out _).mono ?_
        rintro e w1 ⟨rfl, hb1⟩
        go_wp2_with fail
        refine (H2.out _).mono ?_
        rintro e w2 ⟨rfl, hb2⟩
        go_wp2_with fail
        go_ret
        exact ⟨by rw [HV.out]; rfl, hb1.trans (hb2.mono hb1.size)⟩
    · have HV := Lib.hid (show offB off = ⟨#[43]⟩ ++ twoB ((off) / 3600) ++ twoB ((off) % 3600 / 60) ++ twoB ((off) % 60) by unfold offB offN; rw [if_neg hn, if_pos (by omega), if_pos (by omega), ← ByteArray.append_assoc, ← ByteArray.append_assoc])
      have g4 : ((off) % 60 != 0) = true := by simpa using h4
      clear h4 HT
      go_enter Tryz.func72, Tryz.ntmps72
      go_wp2_with fail
      refine (H1.out _).mono ?_
      rintro e w1 ⟨rfl, hb1⟩
      go_wp2_with fail
      refine (H2.out _).mono ?_
      rintro e w2 ⟨rfl, hb2⟩
      go_wp2_with fail
      refine (H3.out _).mono ?_
      rintro e w3 ⟨rfl, hb3⟩
      go_wp2_with fail
      go_ret
      exact ⟨by rw [HV.out]; rfl, (hb1.trans (hb2.mono hb1.size)).trans (hb3.mono (Nat.le_trans hb1.size hb2.size))⟩
end Go.Proofs.YtonmmgcibpjahaaGreatDoor
end

section
/- ARefU: Layer 12's reference walked: how a time is called. -/
namespace Go.Proofs.YtonmmgcibpjahaaGreatDoor
open Go Go.RowKit Go.Shelf
set_option maxRecDepth 100000

theorem bytes_ext {a b : ByteArray} (h : a.data.toList = b.data.toList) : a = b := by
  obtain ⟨⟨x⟩⟩ := a
  obtain ⟨⟨y⟩⟩ := b
  simp at h
  rw [h]
/-- What a mark is replaced by. -/
theorem repB_at {f m new : ByteArray} {i : Nat} (hi : Lib.index f.data.toList m.data.toList = i) (hf : f.data.toList = f.data.toList.take i ++ m.data.toList ++ f.data.toList.drop (i + m.data.toList.length)) :
    repB f m new = f.extract 0 i ++ new ++ f.extract (i + m.data.toList.length) f.size := by
  apply bytes_ext
  unfold repB
  rw [Go.Joins.data_append, Go.Joins.data_append, Go.Lib.Pa.extract_upto_list, Lib.extract_to_end]
  show Lib.replace _ _ _ 1 = _
  by_cases hm : m.data.toList = new.data.toList
  · unfold Lib.replace
    rw [if_pos (by simpa using hm), ← hm]
    exact hf
  · exact rep_at hm hi
theorem cut_at {f : ByteArray} {i : Nat} (hi : Lib.index f.data.toList [47] = i) : (⟨(Lib.cut f.data.toList [47]).1.toArray⟩ : ByteArray) = f.extract 0 i ∧ (⟨(Lib.cut f.data.toList [47]).2.1.toArray⟩ : ByteArray) = f.extract (i + 1) f.size := by
  unfold Lib.cut
  rw [if_pos (by rw [hi]; omega), hi]
  constructor
  · apply bytes_ext
    rw [Go.Lib.Pa.extract_upto_list]
    rfl
  · apply bytes_ext
    rw [Lib.extract_to_end]
    rfl
set_option maxHeartbeats 4000000 in
theorem rshow_any (f : ByteArray) (off : Int) (dst : Bool) (letter : ByteArray) (w : World) (hs : f.size < 4294967281) (hl : letter.size ≤ 140737488351232) :
    Calls Tryz.prog 50 #[.string f, .int .i64 off, .bool dst, .string letter] w fun o w' => o = .returned (.tuple #[.string (showV f off dst letter).1, .bool (decide ((showV f off dst letter).2 = 0))]) ∧ Below w.heap.size w w' := by
  have HK := Lib.hid (rkind_any f w hs)
  have hlen : f.data.toList.length = f.size := Array.length_toList
  rcases refK_of f.data.toList with ⟨h1, h2⟩ | ⟨k, at_, h1, h2, h3⟩
  · have e : showV f off dst letter = (⟨#[]⟩, 12) := by unfold showV; rw [h1, if_neg (by decide)]
    rw [e]
    rw [h2] at HK
    clear h1 h2 e
    go_enter Tryz.func50, Tryz.ntmps50
    go_wp2_with fail
    refine HK.out.mono ?_
    rintro e w1 ⟨rfl, rfl⟩
    go_wp2_with fail
    go_ret2
    exact ⟨rfl, Below.refl _ _⟩
  · rw [h2] at HK
    rcases h3 with ⟨rfl, rfl⟩ | ⟨k1, k3, hf, hi, hle⟩
    · have e : showV f off dst letter = (f, 0) := by unfold showV; rw [h1]; rfl
      rw [e]
      clear h1 h2 e
      go_enter Tryz.func50, Tryz.ntmps50
      go_wp2_with fail
      refine HK.out.mono ?_
      rintro e w1 ⟨rfl, rfl⟩
      go_wp2_with fail
      go_ret2
      exact ⟨rfl, Below.refl _ _⟩
    · rcases (show k = 1 ∨ k = 2 ∨ k = 3 by omega) with rfl | rfl | rfl
      · have hle2 : at_ + 2 ≤ f.size := by rw [← hlen]; exact hle
        have e : showV f off dst letter = (f.extract 0 at_ ++ letter ++ f.extract (at_ + 2) f.size, 0) := by
          unfold showV; rw [h1]
          exact congrArg (fun x => (x, (0 : Int))) (repB_at (m := ⟨#[37, 115]⟩) hi hf)
        rw [e]
        have z1 : (f.extract 0 at_).size ≤ 4294967281 := by rw [ByteArray.size_extract]; omega
        have z2 : (f.extract (at_ + 2) f.size).size ≤ 4294967281 := by rw [ByteArray.size_extract]; omega
        clear h1 h2 e hf hi hle
        go_enter Tryz.func50, Tryz.ntmps50
        go_wp2_with fail
        refine HK.out.mono ?_
        rintro e w1 ⟨rfl, rfl⟩
        go_wp2_with fail
        have e2 : ((at_ : Int) + 2).toNat = at_ + 2 := by omega
        refine wp_env (fin := ?fna) (by kernel_rfl) [23, 24, 25, 26, 27, 28, 29, 30, 31, 32, 8, 9]
          [.string f, .int .i64 at_, .string (f.extract 0 at_), .string letter, .string (f.extract 0 at_ ++ letter), .string f, .int .i64 at_, .int .i64 ((at_ : Int) + 2), .string (f.extract (at_ + 2) f.size), .string (f.extract 0 at_ ++ letter ++ f.extract (at_ + 2) f.size), .string (f.extract 0 at_ ++ letter ++ f.extract (at_ + 2) f.size), .bool true] (by kernel_rfl) ?fina ?stepsa ?nexta
        case fina =>
          simp only [putAll, Act.put, List.setIfInBounds_toArray, List.set_cons_succ, List.set_cons_zero]
          rfl
        case stepsa =>
          refine ⟨.inr ⟨by kernel_rfl, fun w1_ hB_ => ?_⟩, .inr ⟨by kernel_rfl, fun w1_ hB_ => ?_⟩, .inr ⟨by kernel_rfl, fun w1_ hB_ => ?_⟩, .inr ⟨by kernel_rfl, fun w1_ hB_ => ?_⟩, .inr ⟨by kernel_rfl, fun w1_ hB_ => ?_⟩, .inr ⟨by kernel_rfl, fun w1_ hB_ => ?_⟩, .inr ⟨by kernel_rfl, fun w1_ hB_ => ?_⟩, .inr ⟨by kernel_rfl, fun w1_ hB_ => ?_⟩, .inr ⟨by kernel_rfl, fun w1_ hB_ => ?_⟩, .inr ⟨by kernel_rfl, fun w1_ hB_ => ?_⟩, .inr ⟨by kernel_rfl, fun w1_ hB_ => ?_⟩, .inr ⟨by kernel_rfl, fun w1_ hB_ => ?_⟩, trivial⟩
          all_goals
            skip
            go_simp
            first
              | exact ⟨rfl, Below.refl _ _⟩
              | (rw [if_neg (by omega)]; exact ⟨rfl, Below.refl _ _⟩)
              | (rw [decide_eq_true (by omega)]; exact ⟨rfl, Below.refl _ _⟩)
              | (rw [decide_eq_false (by omega)]; exact ⟨rfl, Below.refl _ _⟩)
              | (rw [if_pos (by omega)]; exact ⟨rfl, Below.refl _ _⟩)
              | (rw [IntWalk.i64_in _ (by omega)]; exact ⟨rfl, Below.refl _ _⟩)
              | done
        case nexta =>
        intro w2 hb2
        go_wp2_with fail
        go_ret2
        exact ⟨rfl, hb2⟩
      · have hle2 : at_ + 2 ≤ f.size := by rw [← hlen]; exact hle
        by_cases hr : -360000 < off ∧ off < 360000
        · have e : showV f off dst letter = (f.extract 0 at_ ++ offB off ++ f.extract (at_ + 2) f.size, 0) := by
            unfold showV; simp only [h1]; rw [if_pos trivial, if_neg (by decide), if_pos trivial, if_pos hr]
            exact congrArg (fun x => (x, (0 : Int))) (repB_at (m := ⟨#[37, 122]⟩) hi hf)
          rw [e]
          have z1 : (f.extract 0 at_).size ≤ 4294967281 := by rw [ByteArray.size_extract]; omega
          have z2 : (f.extract (at_ + 2) f.size).size ≤ 4294967281 := by rw [ByteArray.size_extract]; omega
          have z3 := offB_size off
          have HO := Lib.hid (fun W => roff_any off hr W)
          have d1 : decide (off ≤ -360000) = false := decide_eq_false (by omega)
          have d2 : decide (360000 ≤ off) = false := decide_eq_false (by omega)
          clear h1 h2 e hf hi hle
          generalize offB off = ob at *
          go_enter Tryz.func50, Tryz.ntmps50
          go_wp2_with fail
          refine HK.out.mono ?_
          rintro e w1 ⟨rfl, rfl⟩
          go_wp2_with fail
          have e2 : ((at_ : Int) + 2).toNat = at_ + 2 := by omega
          refine wp_env (fin := ?fnb) (by kernel_rfl) [41, 42, 43, 44, 45, 46, 47, 48, 49, 50, 51, 8, 9]
            [.string f, .int .i64 at_, .string (f.extract 0 at_), .int .i64 off, .string ob, .string (f.extract 0 at_ ++ ob), .string f, .int .i64 at_, .int .i64 ((at_ : Int) + 2), .string (f.extract (at_ + 2) f.size), .string (f.extract 0 at_ ++ ob ++ f.extract (at_ + 2) f.size), .string (f.extract 0 at_ ++ ob ++ f.extract (at_ + 2) f.size), .bool true] (by kernel_rfl) ?finb ?stepsb ?nextb
          case finb =>
            simp only [putAll, Act.put, List.setIfInBounds_toArray, List.set_cons_succ, List.set_cons_zero]
            rfl
          case stepsb =>
            refine ⟨.inr ⟨by kernel_rfl, fun w1_ hB_ => ?_⟩, .inr ⟨by kernel_rfl, fun w1_ hB_ => ?_⟩, .inr ⟨by kernel_rfl, fun w1_ hB_ => ?_⟩, .inr ⟨by kernel_rfl, fun w1_ hB_ => ?_⟩, .inr ⟨by kernel_rfl, fun w1_ hB_ => ?_⟩, .inr ⟨by kernel_rfl, fun w1_ hB_ => ?_⟩, .inr ⟨by kernel_rfl, fun w1_ hB_ => ?_⟩, .inr ⟨by kernel_rfl, fun w1_ hB_ => ?_⟩, .inr ⟨by kernel_rfl, fun w1_ hB_ => ?_⟩, .inr ⟨by kernel_rfl, fun w1_ hB_ => ?_⟩, .inr ⟨by kernel_rfl, fun w1_ hB_ => ?_⟩, .inr ⟨by kernel_rfl, fun w1_ hB_ => ?_⟩, .inr ⟨by kernel_rfl, fun w1_ hB_ => ?_⟩, trivial⟩
            all_goals
              skip
              go_simp
              first
                | exact ⟨rfl, Below.refl _ _⟩
                | (rw [if_neg (by omega)]; exact ⟨rfl, Below.refl _ _⟩)
                | exact ⟨rfl, HO.out w1_⟩
                | (rw [decide_eq_true (by omega)]; exact ⟨rfl, Below.refl _ _⟩)
                | (rw [decide_eq_false (by omega)]; exact ⟨rfl, Below.refl _ _⟩)
                | (rw [if_pos (by omega)]; exact ⟨rfl, Below.refl _ _⟩)
                | (rw [IntWalk.i64_in _ (by omega)]; exact ⟨rfl, Below.refl _ _⟩)
                | done
          case nextb =>
          intro w2 hb2
          go_wp2_with fail
          go_ret2
          exact ⟨rfl, hb2⟩
        · have e : showV f off dst letter = (⟨#[]⟩, 10) := by
            unfold showV; simp only [h1]; rw [if_pos trivial, if_neg (by decide), if_pos trivial, if_neg hr]
          rw [e]
          clear h1 h2 e hf hi hle
          by_cases hr1 : off ≤ -360000
          · have d1 : decide (off ≤ -360000) = true := decide_eq_true hr1
            have d2 : decide (360000 ≤ off) = false := decide_eq_false (by omega)
            go_enter Tryz.func50, Tryz.ntmps50
            go_wp2_with fail
            refine HK.out.mono ?_
            rintro e w1 ⟨rfl, rfl⟩
            go_wp2_with fail
            go_ret2
            exact ⟨rfl, Below.refl _ _⟩
          · have d1 : decide (off ≤ -360000) = false := decide_eq_false hr1
            have d2 : decide (360000 ≤ off) = true := decide_eq_true (by omega)
            go_enter Tryz.func50, Tryz.ntmps50
            go_wp2_with fail
            refine HK.out.mono ?_
            rintro e w1 ⟨rfl, rfl⟩
            go_wp2_with fail
            go_ret2
            exact ⟨rfl, Below.refl _ _⟩
      · have hle2 : at_ + 1 ≤ f.size := by rw [← hlen]; exact hle
        have e2 : ((at_ : Int) + 1).toNat = at_ + 1 := by omega
        obtain ⟨q1, q2⟩ := cut_at (f := f) hi
        cases dst with
        | true =>
          have e : showV f off true letter = (f.extract (at_ + 1) f.size, 0) := by
            unfold showV; simp only [h1]; rw [if_pos trivial, if_neg (by decide), if_neg (by decide), if_pos trivial, if_pos trivial, q2]
          rw [e]
          clear h1 h2 e hf hi hle q1 q2
          go_enter Tryz.func50, Tryz.ntmps50
          go_wp2_with fail
          refine HK.out.mono ?_
          rintro e w1 ⟨rfl, rfl⟩
          go_wp2_with fail
          go_ret2
          exact ⟨rfl, Below.refl _ _⟩
        | false =>
          have e : showV f off false letter = (f.extract 0 at_, 0) := by
            unfold showV; simp only [h1]; rw [if_pos trivial, if_neg (by decide), if_neg (by decide), if_pos trivial, if_neg (by decide), q1]
          rw [e]
          clear h1 h2 e hf hi hle q1 q2
          go_enter Tryz.func50, Tryz.ntmps50
          go_wp2_with fail
          refine HK.out.mono ?_
          rintro e w1 ⟨rfl, rfl⟩
          go_wp2_with fail
          go_ret2
          exact ⟨rfl, Below.refl _ _⟩
end Go.Proofs.YtonmmgcibpjahaaGreatDoor
end

section
/- FSmall: Layer 11's law: are rules small? The chapter's example. -/
namespace Go.Proofs.YtonmmgcibpjahaaGreatDoor
open Go Go.RowKit Go.Shelf
set_option maxRecDepth 100000

def smallR (r : Rul) : Bool := decide (1900 ≤ r.from_ ∧ r.from_ ≤ 2100 ∧ r.from_ ≤ r.to_ ∧ 1 ≤ r.month ∧ r.month ≤ 12 ∧ -172800 ≤ r.sec ∧ r.sec ≤ 259200 ∧ 0 ≤ r.kind ∧ r.kind ≤ 2) && dayOkB r.dk r.dw r.dn
def smallB (l : List Rul) : Bool := l.all smallR && decide (l.length ≤ 6)
theorem small_no {l : List Rul} {k : Nat} (hk : k < l.length) (h : smallR l[k] = false) : smallB l = false := by
  unfold smallB
  rw [Bool.and_eq_false_iff]
  left
  rw [List.all_eq_false]
  exact ⟨l[k], List.getElem_mem hk, by rw [h]; decide⟩
theorem small_yes {l : List Rul} (h : ∀ k (hk : k < l.length), smallR l[k] = true) : smallB l = decide (l.length ≤ 6) := by
  unfold smallB
  rw [List.all_eq_true.2 (fun r hr => by obtain ⟨k, hk, rfl⟩ := List.getElem_of_mem hr; exact h k hk), Bool.true_and]
set_option maxHeartbeats 4000000 in
theorem small_any (w : World) (B : Nat) (v : Value) (l : List Rul) (hv : Ruls w B v l) (hB : B ≤ w.heap.size) :
    Calls Tryz.prog 67 #[v] w fun e w' => e = .returned (.bool (smallB l)) ∧ Below w.heap.size w w' := by
  obtain ⟨A, c, rfl, hlc, hcm⟩ := hv.form
  unfold maxLen at hcm
  have HV := Lib.hid hv
  clear hv
  go_enter Tryz.func67, Tryz.ntmps67
  go_wp2_with fail
  go_loopw [3] (fun iv wr => ∃ k : Nat, k ≤ l.length ∧ iv = .int .i64 k ∧ (∀ j (hj : j < l.length), j < k → smallR l[j] = true) ∧ Below w.heap.size w wr) (fun iv _ => l.length - (intOf iv).toNat)
  case atStart => exact ⟨0, Nat.zero_le _, rfl, fun j _ h => by omega, Below.refl _ _⟩
  case round =>
    obtain ⟨k, hk, rfl, hsm, hbw⟩ := hrel
    have HSM := Lib.hid hsm
    have HBW := Lib.hid hbw
    have hws := hbw.size
    clear hsm hbw
    by_cases hlt : k < l.length
    · have hd : decide ((k : Int) < (l.length : Int)) = true := decide_eq_true (by omega)
      obtain ⟨bb, o, c', e, hbb, hc⟩ := (HV.out.below (HBW.out.mono hB)).cells (by omega)
      cases e
      obtain ⟨c0, c1, c2, c3, c4, c5, c6, c7, c8, c9, c10⟩ := hc k hlt
      have HNO := Lib.hid (small_no hlt)
      have HYES := Lib.hid (fun (h : smallR l[k] = true) => show ∀ j (hj : j < l.length), j < k + 1 → smallR l[j] = true from fun j hj hjk => by
        rcases Nat.lt_or_ge j k with h1 | h1
        · exact HSM.out j hj h1
        · have : j = k := by omega
          subst this
          exact h)
      obtain ⟨r, hr⟩ : ∃ r, l[k] = r := ⟨_, rfl⟩
      rw [hr] at c0 c1 c2 c3 c4 c5 c6 c7 c8 c9 c10 HNO HYES
      have HDF := Lib.hid (dfcheck_any r.dk r.dw r.dn (wr.alloc (.cells #[.string r.name, .int .i64 r.from_, .int .i64 r.to_, .int .i64 r.month, .int .i64 r.dk, .int .i64 r.dw, .int .i64 r.dn, .int .i64 r.sec, .int .i64 r.kind, .int .i64 r.save, .string r.letter] 72)))
      unfold dayA at HDF
      clear hr hc
      have hc : True := trivial
      by_cases h1 : r.from_ < 1900
      ·
        have HS := Lib.hid (HNO.out (by unfold smallR; simp only [Bool.and_eq_false_iff, decide_eq_false_iff_not]; left; omega))
        clear hc
        go_wp2_with fail
        go_ret
        exact ⟨by rw [HS.out]; rfl, HBW.out.alloc hws _⟩
      · by_cases h2 : 2100 < r.from_
        ·
          have HS := Lib.hid (HNO.out (by unfold smallR; simp only [Bool.and_eq_false_iff, decide_eq_false_iff_not]; left; omega))
          clear hc
          go_wp2_with fail
          go_ret
          exact ⟨by rw [HS.out]; rfl, HBW.out.alloc hws _⟩
        · by_cases h3 : r.to_ < r.from_
          ·
            have HS := Lib.hid (HNO.out (by unfold smallR; simp only [Bool.and_eq_false_iff, decide_eq_false_iff_not]; left; omega))
            clear hc
            go_wp2_with fail
            go_ret
            exact ⟨by rw [HS.out]; rfl, HBW.out.alloc hws _⟩
          · by_cases h4 : r.month < 1
            ·
              have HS := Lib.hid (HNO.out (by unfold smallR; simp only [Bool.and_eq_false_iff, decide_eq_false_iff_not]; left; omega))
              clear hc
              go_wp2_with fail
              go_ret
              exact ⟨by rw [HS.out]; rfl, HBW.out.alloc hws _⟩
            · by_cases h5 : 12 < r.month
              ·
                have HS := Lib.hid (HNO.out (by unfold smallR; simp only [Bool.and_eq_false_iff, decide_eq_false_iff_not]; left; omega))
                clear hc
                go_wp2_with fail
                go_ret
                exact ⟨by rw [HS.out]; rfl, HBW.out.alloc hws _⟩
              · by_cases h6 : r.sec < -172800
                ·
                  have HS := Lib.hid (HNO.out (by unfold smallR; simp only [Bool.and_eq_false_iff, decide_eq_false_iff_not]; left; omega))
                  clear hc
                  go_wp2_with fail
                  go_ret
                  exact ⟨by rw [HS.out]; rfl, HBW.out.alloc hws _⟩
                · by_cases h7 : 259200 < r.sec
                  ·
                    have HS := Lib.hid (HNO.out (by unfold smallR; simp only [Bool.and_eq_false_iff, decide_eq_false_iff_not]; left; omega))
                    clear hc
                    go_wp2_with fail
                    go_ret
                    exact ⟨by rw [HS.out]; rfl, HBW.out.alloc hws _⟩
                  · by_cases h8 : r.kind < 0
                    ·
                      have HS := Lib.hid (HNO.out (by unfold smallR; simp only [Bool.and_eq_false_iff, decide_eq_false_iff_not]; left; omega))
                      clear hc
                      go_wp2_with fail
                      go_ret
                      exact ⟨by rw [HS.out]; rfl, HBW.out.alloc hws _⟩
                    · by_cases h9 : 2 < r.kind
                      ·
                        have HS := Lib.hid (HNO.out (by unfold smallR; simp only [Bool.and_eq_false_iff, decide_eq_false_iff_not]; left; omega))
                        clear hc
                        go_wp2_with fail
                        go_ret
                        exact ⟨by rw [HS.out]; rfl, HBW.out.alloc hws _⟩
                      · have HR0 := Lib.hid (show decide (1900 ≤ r.from_ ∧ r.from_ ≤ 2100 ∧ r.from_ ≤ r.to_ ∧ 1 ≤ r.month ∧ r.month ≤ 12 ∧ -172800 ≤ r.sec ∧ r.sec ≤ 259200 ∧ 0 ≤ r.kind ∧ r.kind ≤ 2) = true by rw [decide_eq_true_eq]; omega)
                        cases hok : dayOkB r.dk r.dw r.dn with
                        | false =>
                          have HS := Lib.hid (HNO.out (by unfold smallR; rw [hok, Bool.and_false]))
                          rw [hok] at HDF
                          simp only [Bool.false_eq_true, if_false] at HDF
                          clear hok
                          go_wp2_with fail
                          refine HDF.out.mono ?_
                          rintro e w2 ⟨rfl, hb⟩
                          have HB2 := Lib.hid ((HBW.out.alloc hws _).trans (hb.mono (by simp; omega)))
                          clear hb
                          go_wp2_with fail
                          go_ret
                          exact ⟨by rw [HS.out]; rfl, HB2.out⟩
                        | true =>
                          have HS := Lib.hid (HYES.out (by unfold smallR; rw [hok, HR0.out]; rfl))
                          rw [hok] at HDF
                          simp only [if_true] at HDF
                          clear hok
                          go_wp2_with fail
                          refine HDF.out.mono ?_
                          rintro e w2 ⟨rfl, hb⟩
                          have HB2 := Lib.hid ((HBW.out.alloc hws _).trans (hb.mono (by simp; omega)))
                          clear hb
                          go_wp2_with fail
                          go_roundw
                          case rel => exact ⟨k + 1, by omega, by go_num, HS.out, HB2.out⟩
                          case measure => first | (simp [intOf]; done) | (simp [intOf]; omega)
    · obtain rfl : k = l.length := by omega
      have HS := Lib.hid (small_yes (fun k hk => HSM.out k hk hk))
      by_cases h6 : l.length ≤ 6
      · rw [decide_eq_true h6] at HS
        go_wp2_with fail
        go_ret
        exact ⟨by rw [HS.out]; simp; omega, HBW.out⟩
      · rw [decide_eq_false h6] at HS
        go_wp2_with fail
        go_ret
        exact ⟨by rw [HS.out]; simp; omega, HBW.out⟩
end Go.Proofs.YtonmmgcibpjahaaGreatDoor
end
