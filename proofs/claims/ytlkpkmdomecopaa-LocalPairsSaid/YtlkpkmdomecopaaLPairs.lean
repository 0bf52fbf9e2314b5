/-
  Layer 20: the law LocalPairs, walked.
-/
import Derived.Test.YtlkpkmdomecopaaSerialC
import Derived.Test.YtlkpkmdomecopaaLAwake
import Derived.Test.YtlkpkmdomecopaaLFacts
namespace Go.Proofs.Ytlkpkmdomecopaa
open Go Go.RowKit Go.Shelf
set_option maxRecDepth 100000

set_option maxHeartbeats 4000000 in
theorem pairs_walk (w : World) (v : Value) (l : List Chg) (s : Int) (hv : Chgs w w.heap.size v l) (_ : -9223372036854775808 ≤ s ∧ s ≤ 9223372036854775807) :
    Calls Try.prog 8 #[v, .int .i64 s] w fun e w' => e = .returned (.bool true) ∧ Below w.heap.size w w' := by
  have HV := Lib.hid hv
  have HR := Lib.hid (right_any w _ v l hv)
  obtain ⟨A, c, rfl, hlc, hcm⟩ := hv.form
  unfold maxLen at hcm
  clear hv
  cases hrb : rightB l with
  | false =>
    rw [hrb] at HR
    clear hrb
    go_enter Try.func8, Try.ntmps8
    go_wp2_with fail
    refine HR.out.mono ?_
    rintro e w1 ⟨rfl, hb1⟩
    go_wp2_with fail
    refine (awake_any _).mono ?_
    rintro e wz ⟨rfl, hbz⟩
    go_wp2_with fail
    go_ret
    exact ⟨rfl, (hb1).trans (hbz.mono (hb1).size)⟩
  | true =>
    have hrow := (rightB_iff l).1 hrb
    rw [hrb] at HR
    clear hrb
    by_cases g1 : s < -1099511627776
    · go_enter Try.func8, Try.ntmps8
      go_wp2_with fail
      refine HR.out.mono ?_
      rintro e w1 ⟨rfl, hb1⟩
      go_wp2_with fail
      refine (awake_any _).mono ?_
      rintro e wz ⟨rfl, hbz⟩
      go_wp2_with fail
      go_ret
      exact ⟨rfl, (hb1).trans (hbz.mono (hb1).size)⟩
    · by_cases g2 : 1099511627776 < s
      · go_enter Try.func8, Try.ntmps8
        go_wp2_with fail
        refine HR.out.mono ?_
        rintro e w1 ⟨rfl, hb1⟩
        go_wp2_with fail
        refine (awake_any _).mono ?_
        rintro e wz ⟨rfl, hbz⟩
        go_wp2_with fail
        go_ret
        exact ⟨rfl, (hb1).trans (hbz.mono (hb1).size)⟩
      · have HFI := fun W late (hb : Below w.heap.size w W) => Lib.hid (find_yes W w.heap.size (.slice A l.length c) l s late (HV.out.below hb) hb.size hrow (by omega) (by omega))
        have HSH := fun W i (hb : Below w.heap.size w W) (h1 : -2199023255552 ≤ i) (h2 : i ≤ 2199023255552) => Lib.hid (show_yes W w.heap.size (.slice A l.length c) l i (HV.out.below hb) hb.size hrow h1 h2)
        by_cases hn : allL l s = []
        · go_enter Try.func8, Try.ntmps8
          go_wp2_with fail
          refine HR.out.mono ?_
          rintro e w1 ⟨rfl, hb1⟩
          have HN := Lib.hid hn
          clear hn
          go_wp2_with fail
          have BL1 := hb1.alloc hb1.size (.cells #[.slice A l.length c] 26)
          have hrb := (Blk.new w1 26 #[.slice A l.length c])
          obtain ⟨W1, hW1⟩ : ∃ W1, w1.alloc (.cells #[.slice A l.length c] 26) = W1 := ⟨_, rfl⟩
          have RL1 : w1.heap.size < W1.heap.size := by rw [← hW1]; simp
          rw [hW1] at BL1 hrb ⊢
          have RB1 := Lib.hid hrb
          clear hW1 hrb
          refine (HFI _ false BL1).out.mono ?_
          rintro e w2 ⟨⟨f2, rfl, hf2⟩, hb2⟩
          have HF2 := Lib.hid hf2
          have hz2 := hb2.size
          have hrb2 := Blk.below (RB1).out hb2 RL1
          have q2 : w2.cell? ⟨w1.heap.size, 0, none⟩ = some (.slice A l.length c) := hrb2.cell 0 rfl
          have l2 : w1.heap.size < w2.heap.size := by omega
          have BL2 := below_box BL1 hb2 (Nat.le_refl _) (.cells #[.int .i64 f2.kind, .int .i64 f2.at_, .int .i64 f2.chg.at_, .int .i64 f2.chg.loc.off, .bool f2.chg.loc.dst, .string f2.chg.loc.abbr] 36)
          have hfb := Blk.new w2 36 #[.int .i64 f2.kind, .int .i64 f2.at_, .int .i64 f2.chg.at_, .int .i64 f2.chg.loc.off, .bool f2.chg.loc.dst, .string f2.chg.loc.abbr]
          have hrb := hrb2.alloc (.cells #[.int .i64 f2.kind, .int .i64 f2.at_, .int .i64 f2.chg.at_, .int .i64 f2.chg.loc.off, .bool f2.chg.loc.dst, .string f2.chg.loc.abbr] 36)
          have ST2 := hb2.alloc hb2.size (.cells #[.int .i64 f2.kind, .int .i64 f2.at_, .int .i64 f2.chg.at_, .int .i64 f2.chg.loc.off, .bool f2.chg.loc.dst, .string f2.chg.loc.abbr] 36)
          clear hf2
          unfold fndA
          go_wp2_with fail
          obtain ⟨W2, hW2⟩ : ∃ W, w2.alloc (.cells #[.int .i64 f2.kind, .int .i64 f2.at_, .int .i64 f2.chg.at_, .int .i64 f2.chg.loc.off, .bool f2.chg.loc.dst, .string f2.chg.loc.abbr] 36) = W := ⟨_, rfl⟩
          have FL2 : w2.heap.size < W2.heap.size := by rw [← hW2]; simp
          rw [hW2] at BL2 hfb hrb ST2 ⊢
          have FB2 : Hid (FndB W2 w2.heap.size f2) := Lib.hid hfb
          have RB2 := Lib.hid hrb
          have RL2 : w1.heap.size < W2.heap.size := by omega
          clear hfb hrb hW2 q2 hrb2
          refine (HFI _ true BL2).out.mono ?_
          rintro e w3 ⟨⟨f3, rfl, hf3⟩, hb3⟩
          have HE := Lib.hid (skip_eq HF2.out hf3 HN.out)
          have HSK := Lib.hid (skip_of HF2.out HN.out)
          obtain ⟨rg1, rg2⟩ := skip_range hrow HSK.out
          have rg3 : -2199023255552 < f3.at_ ∧ f3.at_ ≤ 2199023255552 := by rw [HE.out]; exact ⟨rg1, rg2⟩
          have a21 : w3.cell? ⟨w2.heap.size, 1, none⟩ = some (.int .i64 f2.at_) := (FB2.out.below hb3 FL2).cell 1 rfl
          have n23 : w2.heap.size < w3.heap.size := (FB2.out.below hb3 FL2).lt
          have hz3 := hb3.size
          have hrb3 := Blk.below (RB2).out hb3 RL2
          have q3 : w3.cell? ⟨w1.heap.size, 0, none⟩ = some (.slice A l.length c) := hrb3.cell 0 rfl
          have l3 : w1.heap.size < w3.heap.size := by omega
          have BL3 := below_box BL2 hb3 (Nat.le_refl _) (.cells #[.int .i64 f3.kind, .int .i64 f3.at_, .int .i64 f3.chg.at_, .int .i64 f3.chg.loc.off, .bool f3.chg.loc.dst, .string f3.chg.loc.abbr] 36)
          have hfb := Blk.new w3 36 #[.int .i64 f3.kind, .int .i64 f3.at_, .int .i64 f3.chg.at_, .int .i64 f3.chg.loc.off, .bool f3.chg.loc.dst, .string f3.chg.loc.abbr]
          have hrb := hrb3.alloc (.cells #[.int .i64 f3.kind, .int .i64 f3.at_, .int .i64 f3.chg.at_, .int .i64 f3.chg.loc.off, .bool f3.chg.loc.dst, .string f3.chg.loc.abbr] 36)
          have ST3 := hb3.alloc hb3.size (.cells #[.int .i64 f3.kind, .int .i64 f3.at_, .int .i64 f3.chg.at_, .int .i64 f3.chg.loc.off, .bool f3.chg.loc.dst, .string f3.chg.loc.abbr] 36)
          clear hf3
          unfold fndA
          go_wp2_with fail
          obtain ⟨W3, hW3⟩ : ∃ W, w3.alloc (.cells #[.int .i64 f3.kind, .int .i64 f3.at_, .int .i64 f3.chg.at_, .int .i64 f3.chg.loc.off, .bool f3.chg.loc.dst, .string f3.chg.loc.abbr] 36) = W := ⟨_, rfl⟩
          have FL3 : w3.heap.size < W3.heap.size := by rw [← hW3]; simp
          rw [hW3] at BL3 hfb hrb ST3 ⊢
          have FB3 : Hid (FndB W3 w3.heap.size f3) := Lib.hid hfb
          have RB3 := Lib.hid hrb
          have RL3 : w1.heap.size < W3.heap.size := by omega
          clear hfb hrb hW3 q3 hrb3
          clear a21
          refine (HSH _ _ BL3 (by omega) (by omega)).out.mono ?_
          rintro e w4 ⟨⟨x4, rfl, hx4⟩, hb4⟩
          have HX4 := Lib.hid hx4
          have T24 := ST3.trans (hb4.mono ST3.size)
          have a31 : w4.cell? ⟨w3.heap.size, 1, none⟩ = some (.int .i64 f3.at_) := (FB3.out.below hb4 FL3).cell 1 rfl
          have n34 : w3.heap.size < w4.heap.size := (FB3.out.below hb4 FL3).lt
          have hz4 := hb4.size
          have hrb4 := Blk.below (RB3).out hb4 RL3
          have q4 : w4.cell? ⟨w1.heap.size, 0, none⟩ = some (.slice A l.length c) := hrb4.cell 0 rfl
          have l4 : w1.heap.size < w4.heap.size := by omega
          have BL4 := below_box BL3 hb4 (Nat.le_refl _) (.cells #[.int .i64 x4.off, .bool x4.dst, .string x4.abbr] 32)
          have hfb := Blk.new w4 32 #[.int .i64 x4.off, .bool x4.dst, .string x4.abbr]
          have hrb := hrb4.alloc (.cells #[.int .i64 x4.off, .bool x4.dst, .string x4.abbr] 32)
          have ST4 := hb4.alloc hb4.size (.cells #[.int .i64 x4.off, .bool x4.dst, .string x4.abbr] 32)
          clear hx4
          unfold locA
          go_wp2_with fail
          obtain ⟨W4, hW4⟩ : ∃ W, w4.alloc (.cells #[.int .i64 x4.off, .bool x4.dst, .string x4.abbr] 32) = W := ⟨_, rfl⟩
          have FL4 : w4.heap.size < W4.heap.size := by rw [← hW4]; simp
          rw [hW4] at BL4 hfb hrb ST4 ⊢
          have LB4 : Hid (LocB W4 w4.heap.size x4) := Lib.hid hfb
          have RB4 := Lib.hid hrb
          have RL4 : w1.heap.size < W4.heap.size := by omega
          clear hfb hrb hW4 q4 hrb4
          clear a31
          refine (HSH _ _ BL4 (by omega) (by omega)).out.mono ?_
          rintro e w5 ⟨⟨x5, rfl, hx5⟩, hb5⟩
          have HX5 := Lib.hid hx5
          have hz5 := hb5.size
          have T35 := ST4.trans (hb5.mono ST4.size)
          have T25 := (ST3.trans (ST4.mono ST3.size)).trans (hb5.mono (by have := ST3.size; have := ST4.size; omega))
          have F25 := FB2.out.below T25 FL2
          have F35 := FB3.out.below T35 FL3
          have L45 := Blk.below LB4.out hb5 FL4
          have n25 : w2.heap.size < w5.heap.size := F25.lt
          have n35 : w3.heap.size < w5.heap.size := F35.lt
          have n45 : w4.heap.size < w5.heap.size := L45.lt
          have hkd : ((f2.kind : Int) != 3) = false := by obtain ⟨j, hj, h0, e, -⟩ := HSK.out; rw [e]; rfl
          obtain ⟨a0, a1, a2, a3, a4, a5⟩ := FndB.cells F25
          clear F25 F35 L45
          have hz5 := hb5.size
          have hrb5 := Blk.below (RB4).out hb5 RL4
          have q5 : w5.cell? ⟨w1.heap.size, 0, none⟩ = some (.slice A l.length c) := hrb5.cell 0 rfl
          have l5 : w1.heap.size < w5.heap.size := by omega
          have BL5 := below_box BL4 hb5 (Nat.le_refl _) (.cells #[.int .i64 x5.off, .bool x5.dst, .string x5.abbr] 32)
          have hfb := Blk.new w5 32 #[.int .i64 x5.off, .bool x5.dst, .string x5.abbr]
          have hrb := hrb5.alloc (.cells #[.int .i64 x5.off, .bool x5.dst, .string x5.abbr] 32)
          have ST5 := hb5.alloc hb5.size (.cells #[.int .i64 x5.off, .bool x5.dst, .string x5.abbr] 32)
          clear hx5
          unfold locA
          go_wp2_with fail
          obtain ⟨W5, hW5⟩ : ∃ W, w5.alloc (.cells #[.int .i64 x5.off, .bool x5.dst, .string x5.abbr] 32) = W := ⟨_, rfl⟩
          have FL5 : w5.heap.size < W5.heap.size := by rw [← hW5]; simp
          rw [hW5] at BL5 hfb hrb ST5 ⊢
          have LB5 : Hid (LocB W5 w5.heap.size x5) := Lib.hid hfb
          have RB5 := Lib.hid hrb
          have RL5 : w1.heap.size < W5.heap.size := by omega
          clear hfb hrb hW5 q5 hrb5
          clear a0 a1 a2 a3 a4 a5
          refine (HSH _ _ BL5 (by omega) (by omega)).out.mono ?_
          rintro e w6 ⟨⟨x6, rfl, hx6⟩, hb6⟩
          have HX6 := Lib.hid hx6
          obtain ⟨q1, q2, q3, q4⟩ := skip_shown hrow HSK.out HX4.out HX6.out
          have hz6 := hb6.size
          have T26 := ((ST3.trans (ST4.mono ST3.size)).trans (ST5.mono (by have := ST3.size; have := ST4.size; omega))).trans (hb6.mono (by have := ST3.size; have := ST4.size; have := ST5.size; omega))
          have F26 := FB2.out.below T26 FL2
          have L46 := Blk.below LB4.out (ST5.trans (hb6.mono ST5.size)) FL4
          have n26 : w2.heap.size < w6.heap.size := F26.lt
          have n46 : w4.heap.size < w6.heap.size := L46.lt
          obtain ⟨a0, a1, a2, a3, a4, a5⟩ := FndB.cells F26
          rw [q1] at a3 a4 a5
          obtain ⟨b0, b1, b2⟩ := LocB.cells L46
          have ho4 : -180000 < x4.off ∧ x4.off < 180000 := by obtain ⟨m, hm, rfl, -⟩ := HX4.out; have := hrow.off m hm; omega
          have ho6 : -180000 < x6.off ∧ x6.off < 180000 := by obtain ⟨m, hm, rfl, -⟩ := HX6.out; have := hrow.off m hm; omega
          have t1 : x6.off < x4.off := by omega
          have t2 : s - (f2.at_ + x6.off) < x4.off - x6.off := by omega
          have BL6 := below_box BL5 hb6 (Nat.le_refl _) (.cells #[.int .i64 x6.off, .bool x6.dst, .string x6.abbr] 32)
          clear q1 F26 L46 hx6
          unfold locA
          go_wp2_with fail
          refine (awake_any _).mono ?_
          rintro e wz ⟨rfl, hbz⟩
          go_wp2_with fail
          go_ret
          exact ⟨rfl, (BL6).trans (hbz.mono (BL6).size)⟩
        · go_enter Try.func8, Try.ntmps8
          go_wp2_with fail
          refine HR.out.mono ?_
          rintro e w1 ⟨rfl, hb1⟩
          have HN := Lib.hid hn
          clear hn
          go_wp2_with fail
          have BL1 := hb1.alloc hb1.size (.cells #[.slice A l.length c] 26)
          have hrb := (Blk.new w1 26 #[.slice A l.length c])
          obtain ⟨W1, hW1⟩ : ∃ W1, w1.alloc (.cells #[.slice A l.length c] 26) = W1 := ⟨_, rfl⟩
          have RL1 : w1.heap.size < W1.heap.size := by rw [← hW1]; simp
          rw [hW1] at BL1 hrb ⊢
          have RB1 := Lib.hid hrb
          clear hW1 hrb
          refine (HFI _ false BL1).out.mono ?_
          rintro e w2 ⟨⟨f2, rfl, hf2⟩, hb2⟩
          have HF2 := Lib.hid hf2
          have hz2 := hb2.size
          have hrb2 := Blk.below (RB1).out hb2 RL1
          have q2 : w2.cell? ⟨w1.heap.size, 0, none⟩ = some (.slice A l.length c) := hrb2.cell 0 rfl
          have l2 : w1.heap.size < w2.heap.size := by omega
          have BL2 := below_box BL1 hb2 (Nat.le_refl _) (.cells #[.int .i64 f2.kind, .int .i64 f2.at_, .int .i64 f2.chg.at_, .int .i64 f2.chg.loc.off, .bool f2.chg.loc.dst, .string f2.chg.loc.abbr] 36)
          have hfb := Blk.new w2 36 #[.int .i64 f2.kind, .int .i64 f2.at_, .int .i64 f2.chg.at_, .int .i64 f2.chg.loc.off, .bool f2.chg.loc.dst, .string f2.chg.loc.abbr]
          have hrb := hrb2.alloc (.cells #[.int .i64 f2.kind, .int .i64 f2.at_, .int .i64 f2.chg.at_, .int .i64 f2.chg.loc.off, .bool f2.chg.loc.dst, .string f2.chg.loc.abbr] 36)
          have ST2 := hb2.alloc hb2.size (.cells #[.int .i64 f2.kind, .int .i64 f2.at_, .int .i64 f2.chg.at_, .int .i64 f2.chg.loc.off, .bool f2.chg.loc.dst, .string f2.chg.loc.abbr] 36)
          clear hf2
          unfold fndA
          go_wp2_with fail
          obtain ⟨W2, hW2⟩ : ∃ W, w2.alloc (.cells #[.int .i64 f2.kind, .int .i64 f2.at_, .int .i64 f2.chg.at_, .int .i64 f2.chg.loc.off, .bool f2.chg.loc.dst, .string f2.chg.loc.abbr] 36) = W := ⟨_, rfl⟩
          have FL2 : w2.heap.size < W2.heap.size := by rw [← hW2]; simp
          rw [hW2] at BL2 hfb hrb ST2 ⊢
          have FB2 : Hid (FndB W2 w2.heap.size f2) := Lib.hid hfb
          have RB2 := Lib.hid hrb
          have RL2 : w1.heap.size < W2.heap.size := by omega
          clear hfb hrb hW2 q2 hrb2
          refine (HFI _ true BL2).out.mono ?_
          rintro e w3 ⟨⟨f3, rfl, hf3⟩, hb3⟩
          have HEN := Lib.hid (ends_of hrow.rise HF2.out hf3 HN.out)
          obtain ⟨-, -, -, m2, m3, -, -⟩ := HEN.out
          have rg2 := allL_range hrow (by omega) (by omega) m2
          have rg3 := allL_range hrow (by omega) (by omega) m3
          clear m2 m3
          have a21 : w3.cell? ⟨w2.heap.size, 1, none⟩ = some (.int .i64 f2.at_) := (FB2.out.below hb3 FL2).cell 1 rfl
          have n23 : w2.heap.size < w3.heap.size := (FB2.out.below hb3 FL2).lt
          have hz3 := hb3.size
          have hrb3 := Blk.below (RB2).out hb3 RL2
          have q3 : w3.cell? ⟨w1.heap.size, 0, none⟩ = some (.slice A l.length c) := hrb3.cell 0 rfl
          have l3 : w1.heap.size < w3.heap.size := by omega
          have BL3 := below_box BL2 hb3 (Nat.le_refl _) (.cells #[.int .i64 f3.kind, .int .i64 f3.at_, .int .i64 f3.chg.at_, .int .i64 f3.chg.loc.off, .bool f3.chg.loc.dst, .string f3.chg.loc.abbr] 36)
          have hfb := Blk.new w3 36 #[.int .i64 f3.kind, .int .i64 f3.at_, .int .i64 f3.chg.at_, .int .i64 f3.chg.loc.off, .bool f3.chg.loc.dst, .string f3.chg.loc.abbr]
          have hrb := hrb3.alloc (.cells #[.int .i64 f3.kind, .int .i64 f3.at_, .int .i64 f3.chg.at_, .int .i64 f3.chg.loc.off, .bool f3.chg.loc.dst, .string f3.chg.loc.abbr] 36)
          have ST3 := hb3.alloc hb3.size (.cells #[.int .i64 f3.kind, .int .i64 f3.at_, .int .i64 f3.chg.at_, .int .i64 f3.chg.loc.off, .bool f3.chg.loc.dst, .string f3.chg.loc.abbr] 36)
          clear hf3
          unfold fndA
          go_wp2_with fail
          obtain ⟨W3, hW3⟩ : ∃ W, w3.alloc (.cells #[.int .i64 f3.kind, .int .i64 f3.at_, .int .i64 f3.chg.at_, .int .i64 f3.chg.loc.off, .bool f3.chg.loc.dst, .string f3.chg.loc.abbr] 36) = W := ⟨_, rfl⟩
          have FL3 : w3.heap.size < W3.heap.size := by rw [← hW3]; simp
          rw [hW3] at BL3 hfb hrb ST3 ⊢
          have FB3 : Hid (FndB W3 w3.heap.size f3) := Lib.hid hfb
          have RB3 := Lib.hid hrb
          have RL3 : w1.heap.size < W3.heap.size := by omega
          clear hfb hrb hW3 q3 hrb3
          clear a21
          refine (HSH _ _ BL3 (by omega) (by omega)).out.mono ?_
          rintro e w4 ⟨⟨x4, rfl, hx4⟩, hb4⟩
          have HX4 := Lib.hid hx4
          have T24 := ST3.trans (hb4.mono ST3.size)
          have a31 : w4.cell? ⟨w3.heap.size, 1, none⟩ = some (.int .i64 f3.at_) := (FB3.out.below hb4 FL3).cell 1 rfl
          have n34 : w3.heap.size < w4.heap.size := (FB3.out.below hb4 FL3).lt
          have hz4 := hb4.size
          have hrb4 := Blk.below (RB3).out hb4 RL3
          have q4 : w4.cell? ⟨w1.heap.size, 0, none⟩ = some (.slice A l.length c) := hrb4.cell 0 rfl
          have l4 : w1.heap.size < w4.heap.size := by omega
          have BL4 := below_box BL3 hb4 (Nat.le_refl _) (.cells #[.int .i64 x4.off, .bool x4.dst, .string x4.abbr] 32)
          have hfb := Blk.new w4 32 #[.int .i64 x4.off, .bool x4.dst, .string x4.abbr]
          have hrb := hrb4.alloc (.cells #[.int .i64 x4.off, .bool x4.dst, .string x4.abbr] 32)
          have ST4 := hb4.alloc hb4.size (.cells #[.int .i64 x4.off, .bool x4.dst, .string x4.abbr] 32)
          clear hx4
          unfold locA
          go_wp2_with fail
          obtain ⟨W4, hW4⟩ : ∃ W, w4.alloc (.cells #[.int .i64 x4.off, .bool x4.dst, .string x4.abbr] 32) = W := ⟨_, rfl⟩
          have FL4 : w4.heap.size < W4.heap.size := by rw [← hW4]; simp
          rw [hW4] at BL4 hfb hrb ST4 ⊢
          have LB4 : Hid (LocB W4 w4.heap.size x4) := Lib.hid hfb
          have RB4 := Lib.hid hrb
          have RL4 : w1.heap.size < W4.heap.size := by omega
          clear hfb hrb hW4 q4 hrb4
          clear a31
          refine (HSH _ _ BL4 (by omega) (by omega)).out.mono ?_
          rintro e w5 ⟨⟨x5, rfl, hx5⟩, hb5⟩
          have HX5 := Lib.hid hx5
          have hz5 := hb5.size
          have T35 := ST4.trans (hb5.mono ST4.size)
          have T25 := (ST3.trans (ST4.mono ST3.size)).trans (hb5.mono (by have := ST3.size; have := ST4.size; omega))
          have F25 := FB2.out.below T25 FL2
          have F35 := FB3.out.below T35 FL3
          have L45 := Blk.below LB4.out hb5 FL4
          have n25 : w2.heap.size < w5.heap.size := F25.lt
          have n35 : w3.heap.size < w5.heap.size := F35.lt
          have n45 : w4.heap.size < w5.heap.size := L45.lt
          obtain ⟨k1, -, -, m2, m3, -, m4⟩ := HEN.out
          have hkd : ((f2.kind : Int) != 3) = true := by rw [bne_iff_ne]; omega
          have s4 := shown_all hrow.rise m2 HX4.out
          have s5 := shown_all hrow.rise m3 HX5.out
          have ho4 : -180000 < x4.off ∧ x4.off < 180000 := by obtain ⟨m, hm, rfl, -⟩ := HX4.out; have := hrow.off m hm; omega
          have ho5 : -180000 < x5.off ∧ x5.off < 180000 := by obtain ⟨m, hm, rfl, -⟩ := HX5.out; have := hrow.off m hm; omega
          have hd : ((f3.at_ - f2.at_ : Int) == x4.off - x5.off) = true := by rw [beq_iff_eq]; omega
          obtain ⟨a0, a1, a2, a3, a4, a5⟩ := FndB.cells F25
          rw [k1] at a2 a3 a4 a5
          simp only [Chg.zero, Loc.zero] at a2 a3 a4 a5
          obtain ⟨b0, b1, b2, b3, b4, b5⟩ := FndB.cells F35
          obtain ⟨d0, d1, d2⟩ := LocB.cells L45
          have BL5 := below_box BL4 hb5 (Nat.le_refl _) (.cells #[.int .i64 x5.off, .bool x5.dst, .string x5.abbr] 32)
          clear k1 m2 m3 m4 s4 s5 F25 F35 L45 hx5
          unfold locA
          go_wp2_with fail
          refine (awake_any _).mono ?_
          rintro e wz ⟨rfl, hbz⟩
          go_wp2_with fail
          go_ret
          exact ⟨rfl, (BL5).trans (hbz.mono (BL5).size)⟩
end Go.Proofs.Ytlkpkmdomecopaa
