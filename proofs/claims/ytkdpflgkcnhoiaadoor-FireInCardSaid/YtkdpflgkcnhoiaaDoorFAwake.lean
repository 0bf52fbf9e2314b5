/-
  Layer 11's law: the chapter's example.
-/
import Derived.Test.YtkdpflgkcnhoiaaDoorFireIn
namespace Go.Proofs.YtkdpflgkcnhoiaaDoor
open Go Go.RowKit Go.Shelf
set_option maxRecDepth 100000

def exR : Rul := ⟨⟨#[69, 85]⟩, 2000, 1048576, 3, 1, 0, 0, 3600, 2, 3600, ⟨#[83]⟩⟩
theorem exR_2000 : ofB exR 2000 = true ∧ (firOf exR 2000).nominal = 954032400 := by constructor <;> decide
theorem exR_1999 : ofB exR 1999 = false := by decide
set_option maxHeartbeats 2000000 in
theorem awake_any (w : World) (ha : Ahead w) :
    Calls Tryd.prog 6 #[] w fun e w' => e = .returned (.bool true) ∧ Below w.heap.size w w' := by
  have hb0 : Below w.heap.size w (w.alloc (.cells (rulV exR).toArray 46)) := (Below.refl _ _).alloc (Nat.le_refl _) _
  have hr0 : RulB (w.alloc (.cells (rulV exR).toArray 46)) w.heap.size exR := Blk.new w _ _
  have h1 := fof_any exR 2000 (w.alloc (.cells (rulV exR).toArray 46)) (ha.below hb0 (Nat.le_refl _))
  have h2 := fun W h => fof_any exR 1999 W h
  unfold ofV at h1 h2
  rw [exR_2000.1] at h1
  rw [exR_1999] at h2
  simp only [if_true, Bool.false_eq_true, if_false] at h1 h2
  unfold firA at h1 h2
  unfold Fir.zero at h2
  rw [exR_2000.2] at h1
  have HB0 := Lib.hid (And.intro hb0 hr0)
  have q0 := Blk.cell hr0 0 (v := .string ⟨#[69, 85]⟩) rfl
  have q1 := Blk.cell hr0 1 (v := .int .i64 2000) rfl
  have q2 := Blk.cell hr0 2 (v := .int .i64 1048576) rfl
  have q3 := Blk.cell hr0 3 (v := .int .i64 3) rfl
  have q4 := Blk.cell hr0 4 (v := .int .i64 1) rfl
  have q5 := Blk.cell hr0 5 (v := .int .i64 0) rfl
  have q6 := Blk.cell hr0 6 (v := .int .i64 0) rfl
  have q7 := Blk.cell hr0 7 (v := .int .i64 3600) rfl
  have q8 := Blk.cell hr0 8 (v := .int .i64 2) rfl
  have q9 := Blk.cell hr0 9 (v := .int .i64 3600) rfl
  have q10 := Blk.cell hr0 10 (v := .string ⟨#[83]⟩) rfl
  have H1 := Lib.hid h1
  have H2 := Lib.hid h2
  clear h1 h2 hb0 hr0
  simp only [rulA, rulV, firOf, exR] at H1 H2 HB0 q0 q1 q2 q3 q4 q5 q6 q7 q8 q9 q10
  go_enter Tryd.func6, Tryd.ntmps6
  go_wp2_with fail
  refine H1.out.mono ?_
  rintro e w1 ⟨rfl, hb1⟩
  have hr1 := Blk.below HB0.out.2 hb1 (Blk.lt HB0.out.2)
  have HBW := Lib.hid (show Below w.heap.size w (w1.alloc (.cells #[.int .i64 954032400, .int .i64 2, .int .i64 3600, .string ⟨#[83]⟩] 31)) from (HB0.out.1.trans (hb1.mono HB0.out.1.size)).alloc (by have := (HB0.out.1.trans (hb1.mono HB0.out.1.size)).size; exact this) _)
  have hr2 := Blk.alloc hr1 (.cells #[.int .i64 954032400, .int .i64 2, .int .i64 3600, .string ⟨#[83]⟩] 31)
  have hf2 := Blk.new w1 31 #[.int .i64 954032400, .int .i64 2, .int .i64 3600, .string ⟨#[83]⟩]
  have q0 := Blk.cell hr2 0 (v := .string ⟨#[69, 85]⟩) rfl
  have q1 := Blk.cell hr2 1 (v := .int .i64 2000) rfl
  have q2 := Blk.cell hr2 2 (v := .int .i64 1048576) rfl
  have q3 := Blk.cell hr2 3 (v := .int .i64 3) rfl
  have q4 := Blk.cell hr2 4 (v := .int .i64 1) rfl
  have q5 := Blk.cell hr2 5 (v := .int .i64 0) rfl
  have q6 := Blk.cell hr2 6 (v := .int .i64 0) rfl
  have q7 := Blk.cell hr2 7 (v := .int .i64 3600) rfl
  have q8 := Blk.cell hr2 8 (v := .int .i64 2) rfl
  have q9 := Blk.cell hr2 9 (v := .int .i64 3600) rfl
  have q10 := Blk.cell hr2 10 (v := .string ⟨#[83]⟩) rfl
  have H3 := Lib.hid (H2.out (w1.alloc (.cells #[.int .i64 954032400, .int .i64 2, .int .i64 3600, .string ⟨#[83]⟩] 31)) (ha.below HBW.out (Nat.le_refl _)))
  have HF2 := Lib.hid hf2
  clear hr1 hr2 hf2 hb1 H1 H2 HB0
  go_wp2_with fail
  refine H3.out.mono ?_
  rintro e w2 ⟨rfl, hb2⟩
  have HB2 := Lib.hid ((HBW.out.trans (hb2.mono HBW.out.size)).alloc (by have := (HBW.out.trans (hb2.mono HBW.out.size)).size; exact this) (.cells #[.int .i64 0, .int .i64 0, .int .i64 0, .string ⟨#[]⟩] 31))
  have hf3 := (HF2.out.below hb2 HF2.out.lt).alloc (.cells #[.int .i64 0, .int .i64 0, .int .i64 0, .string ⟨#[]⟩] 31)
  have x0 := hf3.cell 0 (v := .int .i64 954032400) rfl
  have x1 := hf3.cell 1 (v := .int .i64 2) rfl
  have x2 := hf3.cell 2 (v := .int .i64 3600) rfl
  have x3 := hf3.cell 3 (v := .string ⟨#[83]⟩) rfl
  clear hb2 hf3 H3 q0 q1 q2 q3 q4 q5 q6 q7 q8 q9 q10
  go_wp2_with fail
  go_ret
  exact ⟨rfl, HB2.out⟩
end Go.Proofs.YtkdpflgkcnhoiaaDoor
