/-
  Layer 20: the law LocalBack, walked.
-/
import Derived.Test.YtlkpkmdomecopaaSerialC
import Derived.Test.YtlkpkmdomecopaaLAwake
import Derived.Test.YtlkpkmdomecopaaLFacts
namespace Go.Proofs.Ytlkpkmdomecopaa
open Go Go.RowKit Go.Shelf
set_option maxRecDepth 100000

theorem kind_skip {l : List Chg} {s : Int} {f : Fnd} (h : Skip l s f) : f.kind = 3 := by
  obtain ⟨j, hj, h0, rfl, -⟩ := h
  rfl
theorem kind_found {l : List Chg} {s : Int} {late : Bool} {f : Fnd} (h : found l s late f) : (allL l s = [] ∧ f.kind = 3) ∨ (allL l s ≠ [] ∧ (f.kind = 1 ∨ f.kind = 2)) := by
  unfold found at h
  rcases hL : allL l s with _ | ⟨t, _ | ⟨t2, m⟩⟩
  · rw [hL] at h
    obtain ⟨k0, j, hj, _, _, _, _, rfl⟩ := h
    exact .inl ⟨rfl, rfl⟩
  · rw [hL] at h
    dsimp only at h
    rw [h]
    exact .inr ⟨by simp, .inl rfl⟩
  · rw [hL] at h
    dsimp only at h
    rw [h]
    exact .inr ⟨by simp, .inr rfl⟩
set_option maxHeartbeats 4000000 in
theorem back_walk (w : World) (v : Value) (l : List Chg) (i s : Int) (hv : Chgs w w.heap.size v l) (_ : -9223372036854775808 ≤ i ∧ i ≤ 9223372036854775807) (hs64 : -9223372036854775808 ≤ s ∧ s ≤ 9223372036854775807) :
    Calls Try.prog 6 #[v, .int .i64 i, .int .i64 s] w fun e w' => e = .returned (.bool true) ∧ Below w.heap.size w w' := by
  have HV := Lib.hid hv
  have HR := Lib.hid (right_any w _ v l hv)
  obtain ⟨A, c, rfl, hlc, hcm⟩ := hv.form
  unfold maxLen at hcm
  clear hv
  cases hrb : rightB l with
  | false =>
    rw [hrb] at HR
    clear hrb
    go_enter Try.func6, Try.ntmps6
    go_wp2_with fail
    refine HR.out.mono ?_
    rintro e w1 ⟨rfl, hb1⟩
    go_wp2_with fail
    refine (awake_any _).mono ?_
    rintro e wz ⟨rfl, hbz⟩
    go_wp2_with fail
    go_ret
    exact ⟨rfl, (hb1).trans (hbz.mono (hb1).size)⟩
  | true =>
    have hrow := (rightB_iff l).1 hrb
    rw [hrb] at HR
    clear hrb
    by_cases g1 : i < -1099511627776
    · go_enter Try.func6, Try.ntmps6
      go_wp2_with fail
      refine HR.out.mono ?_
      rintro e w1 ⟨rfl, hb1⟩
      go_wp2_with fail
      refine (awake_any _).mono ?_
      rintro e wz ⟨rfl, hbz⟩
      go_wp2_with fail
      go_ret
      exact ⟨rfl, (hb1).trans (hbz.mono (hb1).size)⟩
    · by_cases g2 : 1099511627776 < i
      · go_enter Try.func6, Try.ntmps6
        go_wp2_with fail
        refine HR.out.mono ?_
        rintro e w1 ⟨rfl, hb1⟩
        go_wp2_with fail
        refine (awake_any _).mono ?_
        rintro e wz ⟨rfl, hbz⟩
        go_wp2_with fail
        go_ret
        exact ⟨rfl, (hb1).trans (hbz.mono (hb1).size)⟩
      · have HFI := fun W s late (hb : Below w.heap.size w W) h1 h2 => Lib.hid (find_yes W w.heap.size (.slice A l.length c) l s late (HV.out.below hb) hb.size hrow h1 h2)
        have HAL := fun W s (hb : Below w.heap.size w W) h1 h2 => Lib.hid (all_yes W w.heap.size (.slice A l.length c) l s (HV.out.below hb) hb.size hrow h1 h2)
        have HSH := fun W i (hb : Below w.heap.size w W) (h1 : -2199023255552 ≤ i) (h2 : i ≤ 2199023255552) => Lib.hid (show_yes W w.heap.size (.slice A l.length c) l i (HV.out.below hb) hb.size hrow h1 h2)
        go_enter Try.func6, Try.ntmps6
        go_wp2_with fail
        refine HR.out.mono ?_
        rintro e w1 ⟨rfl, hb1⟩
        go_wp2_with fail
        have BL1 := hb1.alloc hb1.size (.cells #[.slice A l.length c] 26)
        have hrb := (Blk.new w1 26 #[.slice A l.length c])
        obtain ⟨W1, hW1⟩ : ∃ W1, w1.alloc (.cells #[.slice A l.length c] 26) = W1 := ⟨_, rfl⟩
        have RL1 : w1.heap.size < W1.heap.size := by rw [← hW1]; simp
        rw [hW1] at BL1 hrb ⊢
        have RB1 := Lib.hid hrb
        clear hW1 hrb
        refine (HSH _ _ BL1 (by omega) (by omega)).out.mono ?_
        rintro e w2 ⟨⟨x2, rfl, hx2⟩, hb2⟩
        have HX2 := Lib.hid hx2
        clear hx2
        have ho2 : -180000 < x2.off ∧ x2.off < 180000 := by obtain ⟨m, hm, rfl, -⟩ := HX2.out; have := hrow.off m hm; omega
        have hz2 := hb2.size
        have hrb2 := Blk.below (RB1).out hb2 RL1
        have q2 : w2.cell? ⟨w1.heap.size, 0, none⟩ = some (.slice A l.length c) := hrb2.cell 0 rfl
        have l2 : w1.heap.size < w2.heap.size := by omega
        have BL2 := below_box BL1 hb2 (Nat.le_refl _) (.cells #[.int .i64 x2.off, .bool x2.dst, .string x2.abbr] 32)
        have hfb := Blk.new w2 32 #[.int .i64 x2.off, .bool x2.dst, .string x2.abbr]
        have hrb := hrb2.alloc (.cells #[.int .i64 x2.off, .bool x2.dst, .string x2.abbr] 32)
        have ST2 := hb2.alloc hb2.size (.cells #[.int .i64 x2.off, .bool x2.dst, .string x2.abbr] 32)
        skip
        unfold locA
        go_wp2_with fail
        obtain ⟨W2, hW2⟩ : ∃ W, w2.alloc (.cells #[.int .i64 x2.off, .bool x2.dst, .string x2.abbr] 32) = W := ⟨_, rfl⟩
        have FL2 : w2.heap.size < W2.heap.size := by rw [← hW2]; simp
        rw [hW2] at BL2 hfb hrb ST2 ⊢
        have LB2 : Hid (LocB W2 w2.heap.size x2) := Lib.hid hfb
        have RB2 := Lib.hid hrb
        have RL2 : w1.heap.size < W2.heap.size := by omega
        clear hfb hrb hW2 q2 hrb2
        refine (HFI _ _ false BL2 (by omega) (by omega)).out.mono ?_
        rintro e w3 ⟨⟨f3, rfl, hf3⟩, hb3⟩
        have HF3 := Lib.hid hf3
        clear hf3
        have hz3 := hb3.size
        have hrb3 := Blk.below (RB2).out hb3 RL2
        have q3 : w3.cell? ⟨w1.heap.size, 0, none⟩ = some (.slice A l.length c) := hrb3.cell 0 rfl
        have l3 : w1.heap.size < w3.heap.size := by omega
        have BL3 := below_box BL2 hb3 (Nat.le_refl _) (.cells #[.int .i64 f3.kind, .int .i64 f3.at_, .int .i64 f3.chg.at_, .int .i64 f3.chg.loc.off, .bool f3.chg.loc.dst, .string f3.chg.loc.abbr] 36)
        have hfb := Blk.new w3 36 #[.int .i64 f3.kind, .int .i64 f3.at_, .int .i64 f3.chg.at_, .int .i64 f3.chg.loc.off, .bool f3.chg.loc.dst, .string f3.chg.loc.abbr]
        have hrb := hrb3.alloc (.cells #[.int .i64 f3.kind, .int .i64 f3.at_, .int .i64 f3.chg.at_, .int .i64 f3.chg.loc.off, .bool f3.chg.loc.dst, .string f3.chg.loc.abbr] 36)
        have ST3 := hb3.alloc hb3.size (.cells #[.int .i64 f3.kind, .int .i64 f3.at_, .int .i64 f3.chg.at_, .int .i64 f3.chg.loc.off, .bool f3.chg.loc.dst, .string f3.chg.loc.abbr] 36)
        skip
        unfold fndA
        go_wp2_with fail
        obtain ⟨W3, hW3⟩ : ∃ W, w3.alloc (.cells #[.int .i64 f3.kind, .int .i64 f3.at_, .int .i64 f3.chg.at_, .int .i64 f3.chg.loc.off, .bool f3.chg.loc.dst, .string f3.chg.loc.abbr] 36) = W := ⟨_, rfl⟩
        have FL3 : w3.heap.size < W3.heap.size := by rw [← hW3]; simp
        rw [hW3] at BL3 hfb hrb ST3 ⊢
        have FB3 : Hid (FndB W3 w3.heap.size f3) := Lib.hid hfb
        have RB3 := Lib.hid hrb
        have RL3 : w1.heap.size < W3.heap.size := by omega
        clear hfb hrb hW3 q3 hrb3
        have U2_3 := ST3
        refine (HFI _ _ true BL3 (by omega) (by omega)).out.mono ?_
        rintro e w4 ⟨⟨f4, rfl, hf4⟩, hb4⟩
        have HF4 := Lib.hid hf4
        clear hf4
        obtain ⟨k2, hk2⟩ := hrow.some (show -2199023255552 ≤ i by omega)
        have hmem : i ∈ allL l (i + x2.off) := (mem_allL hrow.rise).2 ⟨k2, hk2.1, hk2, by rw [shownTo_at HX2.out hk2]⟩
        have HEN := Lib.hid (ends_of hrow.rise HF3.out HF4.out (fun h => by rw [h] at hmem; cases hmem))
        obtain ⟨-, -, kk, m3, m4, hall, hkind⟩ := HEN.out
        have rg3 := allL_range hrow (by omega) (by omega) m3
        have rg4 := allL_range hrow (by omega) (by omega) m4
        have hi := hall i hmem
        have c1 : ((f3.kind : Int) != f4.kind) = false := by rw [kk]; simp
        have c2 : ((f3.kind : Int) == 3) = false := by rw [beq_eq_false_iff_ne]; omega
        clear m3 m4 hall hmem hk2 kk
        have pF := Blk.below LB2.out (U2_3.trans (hb4.mono U2_3.size)) FL2
        have pn : w2.heap.size < w4.heap.size := Blk.lt pF
        obtain ⟨p0, p1, p2⟩ := LocB.cells (x := x2) pF
        clear pF
        have qF := Blk.below FB3.out hb4 FL3
        have qn : w3.heap.size < w4.heap.size := Blk.lt qF
        obtain ⟨q0, q1, q2, q3, q4, q5⟩ := FndB.cells (f := f3) qF
        clear qF
        rcases hkind with ⟨kd, ke⟩ | ⟨kd, ke⟩
        ·
            have e3 : f3.at_ = i := by omega
            have e4 : f4.at_ = i := by omega
            have d1 : ((f3.kind : Int) == 1) = true := by rw [beq_iff_eq]; exact kd
            have d2 : ((f3.at_ : Int) != i) = false := by rw [e3]; simp
            have d3 : ((f4.at_ : Int) != i) = false := by rw [e4]; simp
            have d4 : ((f3.kind : Int) == 2) = false := by rw [beq_eq_false_iff_ne]; omega
            clear e3 e4 kd ke
            have hz4 := hb4.size
            have hrb4 := Blk.below (RB3).out hb4 RL3
            have q4 : w4.cell? ⟨w1.heap.size, 0, none⟩ = some (.slice A l.length c) := hrb4.cell 0 rfl
            have l4 : w1.heap.size < w4.heap.size := by omega
            have BL4 := below_box BL3 hb4 (Nat.le_refl _) (.cells #[.int .i64 f4.kind, .int .i64 f4.at_, .int .i64 f4.chg.at_, .int .i64 f4.chg.loc.off, .bool f4.chg.loc.dst, .string f4.chg.loc.abbr] 36)
            have hfb := Blk.new w4 36 #[.int .i64 f4.kind, .int .i64 f4.at_, .int .i64 f4.chg.at_, .int .i64 f4.chg.loc.off, .bool f4.chg.loc.dst, .string f4.chg.loc.abbr]
            have hrb := hrb4.alloc (.cells #[.int .i64 f4.kind, .int .i64 f4.at_, .int .i64 f4.chg.at_, .int .i64 f4.chg.loc.off, .bool f4.chg.loc.dst, .string f4.chg.loc.abbr] 36)
            have ST4 := hb4.alloc hb4.size (.cells #[.int .i64 f4.kind, .int .i64 f4.at_, .int .i64 f4.chg.at_, .int .i64 f4.chg.loc.off, .bool f4.chg.loc.dst, .string f4.chg.loc.abbr] 36)
            skip
            unfold fndA
            go_wp2_with fail
            obtain ⟨W4, hW4⟩ : ∃ W, w4.alloc (.cells #[.int .i64 f4.kind, .int .i64 f4.at_, .int .i64 f4.chg.at_, .int .i64 f4.chg.loc.off, .bool f4.chg.loc.dst, .string f4.chg.loc.abbr] 36) = W := ⟨_, rfl⟩
            have FL4 : w4.heap.size < W4.heap.size := by rw [← hW4]; simp
            rw [hW4] at BL4 hfb hrb ST4 ⊢
            have FB4 : Hid (FndB W4 w4.heap.size f4) := Lib.hid hfb
            have RB4 := Lib.hid hrb
            have RL4 : w1.heap.size < W4.heap.size := by omega
            clear hfb hrb hW4 q4 hrb4
            have U2_4 := U2_3.trans (ST4.mono U2_3.size)
            have U3_4 := ST4
            have d9 := HEN.out
            refine (HSH _ _ BL4 (by omega) (by omega)).out.mono ?_
            rintro e w5 ⟨⟨x5, rfl, hx5⟩, hb5⟩
            have HX5 := Lib.hid hx5
            clear hx5
            have ho5 : -180000 < x5.off ∧ x5.off < 180000 := by obtain ⟨m, hm, rfl, -⟩ := HX5.out; have := hrow.off m hm; omega
            have s5 : ((f3.at_ + x5.off : Int) != i + x2.off) = false := by rw [bne_eq_false_iff_eq]; exact shown_all hrow.rise d9.2.2.2.1 HX5.out
            have rF := Blk.below FB4.out hb5 FL4
            have rn : w4.heap.size < w5.heap.size := Blk.lt rF
            obtain ⟨r0, r1, r2, r3, r4, r5⟩ := FndB.cells (f := f4) rF
            clear rF
            have hz5 := hb5.size
            have hrb5 := Blk.below (RB4).out hb5 RL4
            have q5 : w5.cell? ⟨w1.heap.size, 0, none⟩ = some (.slice A l.length c) := hrb5.cell 0 rfl
            have l5 : w1.heap.size < w5.heap.size := by omega
            have BL5 := below_box BL4 hb5 (Nat.le_refl _) (.cells #[.int .i64 x5.off, .bool x5.dst, .string x5.abbr] 32)
            have hfb := Blk.new w5 32 #[.int .i64 x5.off, .bool x5.dst, .string x5.abbr]
            have hrb := hrb5.alloc (.cells #[.int .i64 x5.off, .bool x5.dst, .string x5.abbr] 32)
            have ST5 := hb5.alloc hb5.size (.cells #[.int .i64 x5.off, .bool x5.dst, .string x5.abbr] 32)
            skip
            unfold locA
            go_wp2_with fail
            obtain ⟨W5, hW5⟩ : ∃ W, w5.alloc (.cells #[.int .i64 x5.off, .bool x5.dst, .string x5.abbr] 32) = W := ⟨_, rfl⟩
            have FL5 : w5.heap.size < W5.heap.size := by rw [← hW5]; simp
            rw [hW5] at BL5 hfb hrb ST5 ⊢
            have LB5 : Hid (LocB W5 w5.heap.size x5) := Lib.hid hfb
            have RB5 := Lib.hid hrb
            have RL5 : w1.heap.size < W5.heap.size := by omega
            clear hfb hrb hW5 q5 hrb5
            have U2_5 := U2_4.trans (ST5.mono U2_4.size)
            have U3_5 := U3_4.trans (ST5.mono U3_4.size)
            have U4_5 := ST5
            clear r0 r1 r2 r3 r4 r5
            refine (HSH _ _ BL5 (by omega) (by omega)).out.mono ?_
            rintro e w6 ⟨⟨x6, rfl, hx6⟩, hb6⟩
            have HX6 := Lib.hid hx6
            clear hx6
            have ho6 : -180000 < x6.off ∧ x6.off < 180000 := by obtain ⟨m, hm, rfl, -⟩ := HX6.out; have := hrow.off m hm; omega
            have s6 : ((f4.at_ + x6.off : Int) != i + x2.off) = false := by rw [bne_eq_false_iff_eq]; exact shown_all hrow.rise d9.2.2.2.2.1 HX6.out
            clear d9
            have hz6 := hb6.size
            have hrb6 := Blk.below (RB5).out hb6 RL5
            have q6 : w6.cell? ⟨w1.heap.size, 0, none⟩ = some (.slice A l.length c) := hrb6.cell 0 rfl
            have l6 : w1.heap.size < w6.heap.size := by omega
            have BL6 := below_box BL5 hb6 (Nat.le_refl _) (.cells #[.int .i64 x6.off, .bool x6.dst, .string x6.abbr] 32)
            have hfb := Blk.new w6 32 #[.int .i64 x6.off, .bool x6.dst, .string x6.abbr]
            have hrb := hrb6.alloc (.cells #[.int .i64 x6.off, .bool x6.dst, .string x6.abbr] 32)
            have ST6 := hb6.alloc hb6.size (.cells #[.int .i64 x6.off, .bool x6.dst, .string x6.abbr] 32)
            skip
            unfold locA
            go_wp2_with fail
            obtain ⟨W6, hW6⟩ : ∃ W, w6.alloc (.cells #[.int .i64 x6.off, .bool x6.dst, .string x6.abbr] 32) = W := ⟨_, rfl⟩
            have FL6 : w6.heap.size < W6.heap.size := by rw [← hW6]; simp
            rw [hW6] at BL6 hfb hrb ST6 ⊢
            have LB6 : Hid (LocB W6 w6.heap.size x6) := Lib.hid hfb
            have RB6 := Lib.hid hrb
            have RL6 : w1.heap.size < W6.heap.size := by omega
            clear hfb hrb hW6 q6 hrb6
            have U2_6 := U2_5.trans (ST6.mono U2_5.size)
            have U3_6 := U3_5.trans (ST6.mono U3_5.size)
            have U4_6 := U4_5.trans (ST6.mono U4_5.size)
            have U5_6 := ST6
            by_cases hin : -2199022895552 < s ∧ s < 2199022895552
            · obtain ⟨hin1, hin2⟩ := hin
              refine (HFI _ _ false BL6 hin1 hin2).out.mono ?_
              rintro e w7 ⟨⟨f7, rfl, hf7⟩, hb7⟩
              have HF7 := Lib.hid hf7
              clear hf7
              rcases kind_found HF7.out with ⟨hn, kd⟩ | ⟨hn, kd⟩
              · have HN := Lib.hid hn
                have HSK := Lib.hid (skip_of HF7.out hn)
                obtain ⟨rg1, rg2⟩ := skip_range hrow HSK.out
                have k7 : ((f7.kind : Int) != 3) = false := by rw [kd]; rfl
                clear hn kd
                have hz7 := hb7.size
                have hrb7 := Blk.below (RB6).out hb7 RL6
                have q7 : w7.cell? ⟨w1.heap.size, 0, none⟩ = some (.slice A l.length c) := hrb7.cell 0 rfl
                have l7 : w1.heap.size < w7.heap.size := by omega
                have BL7 := below_box BL6 hb7 (Nat.le_refl _) (.cells #[.int .i64 f7.kind, .int .i64 f7.at_, .int .i64 f7.chg.at_, .int .i64 f7.chg.loc.off, .bool f7.chg.loc.dst, .string f7.chg.loc.abbr] 36)
                have hfb := Blk.new w7 36 #[.int .i64 f7.kind, .int .i64 f7.at_, .int .i64 f7.chg.at_, .int .i64 f7.chg.loc.off, .bool f7.chg.loc.dst, .string f7.chg.loc.abbr]
                have hrb := hrb7.alloc (.cells #[.int .i64 f7.kind, .int .i64 f7.at_, .int .i64 f7.chg.at_, .int .i64 f7.chg.loc.off, .bool f7.chg.loc.dst, .string f7.chg.loc.abbr] 36)
                have ST7 := hb7.alloc hb7.size (.cells #[.int .i64 f7.kind, .int .i64 f7.at_, .int .i64 f7.chg.at_, .int .i64 f7.chg.loc.off, .bool f7.chg.loc.dst, .string f7.chg.loc.abbr] 36)
                skip
                unfold fndA
                go_wp2_with fail
                obtain ⟨W7, hW7⟩ : ∃ W, w7.alloc (.cells #[.int .i64 f7.kind, .int .i64 f7.at_, .int .i64 f7.chg.at_, .int .i64 f7.chg.loc.off, .bool f7.chg.loc.dst, .string f7.chg.loc.abbr] 36) = W := ⟨_, rfl⟩
                have FL7 : w7.heap.size < W7.heap.size := by rw [← hW7]; simp
                rw [hW7] at BL7 hfb hrb ST7 ⊢
                have FB7 : Hid (FndB W7 w7.heap.size f7) := Lib.hid hfb
                have RB7 := Lib.hid hrb
                have RL7 : w1.heap.size < W7.heap.size := by omega
                clear hfb hrb hW7 q7 hrb7
                have U2_7 := U2_6.trans (ST7.mono U2_6.size)
                have U3_7 := U3_6.trans (ST7.mono U3_6.size)
                have U4_7 := U4_6.trans (ST7.mono U4_6.size)
                have U5_7 := U5_6.trans (ST7.mono U5_6.size)
                have U6_7 := ST7
                refine (HSH _ _ BL7 (by omega) (by omega)).out.mono ?_
                rintro e w8 ⟨⟨x8, rfl, hx8⟩, hb8⟩
                have HX8 := Lib.hid hx8
                clear hx8
                have ho8 : -180000 < x8.off ∧ x8.off < 180000 := by obtain ⟨m, hm, rfl, -⟩ := HX8.out; have := hrow.off m hm; omega
                have uF := Blk.below FB7.out hb8 FL7
                have un : w7.heap.size < w8.heap.size := Blk.lt uF
                obtain ⟨u0, u1, u2, u3, u4, u5⟩ := FndB.cells (f := f7) uF
                clear uF
                have hz8 := hb8.size
                have hrb8 := Blk.below (RB7).out hb8 RL7
                have q8 : w8.cell? ⟨w1.heap.size, 0, none⟩ = some (.slice A l.length c) := hrb8.cell 0 rfl
                have l8 : w1.heap.size < w8.heap.size := by omega
                have BL8 := below_box BL7 hb8 (Nat.le_refl _) (.cells #[.int .i64 x8.off, .bool x8.dst, .string x8.abbr] 32)
                have hfb := Blk.new w8 32 #[.int .i64 x8.off, .bool x8.dst, .string x8.abbr]
                have hrb := hrb8.alloc (.cells #[.int .i64 x8.off, .bool x8.dst, .string x8.abbr] 32)
                have ST8 := hb8.alloc hb8.size (.cells #[.int .i64 x8.off, .bool x8.dst, .string x8.abbr] 32)
                skip
                unfold locA
                go_wp2_with fail
                obtain ⟨W8, hW8⟩ : ∃ W, w8.alloc (.cells #[.int .i64 x8.off, .bool x8.dst, .string x8.abbr] 32) = W := ⟨_, rfl⟩
                have FL8 : w8.heap.size < W8.heap.size := by rw [← hW8]; simp
                rw [hW8] at BL8 hfb hrb ST8 ⊢
                have LB8 : Hid (LocB W8 w8.heap.size x8) := Lib.hid hfb
                have RB8 := Lib.hid hrb
                have RL8 : w1.heap.size < W8.heap.size := by omega
                clear hfb hrb hW8 q8 hrb8
                have U2_8 := U2_7.trans (ST8.mono U2_7.size)
                have U3_8 := U3_7.trans (ST8.mono U3_7.size)
                have U4_8 := U4_7.trans (ST8.mono U4_7.size)
                have U5_8 := U5_7.trans (ST8.mono U5_7.size)
                have U6_8 := U6_7.trans (ST8.mono U6_7.size)
                have U7_8 := ST8
                clear u0 u1 u2 u3 u4 u5
                refine (HSH _ _ BL8 (by omega) (by omega)).out.mono ?_
                rintro e w9 ⟨⟨x9, rfl, hx9⟩, hb9⟩
                have HX9 := Lib.hid hx9
                clear hx9
                have ho9 : -180000 < x9.off ∧ x9.off < 180000 := by obtain ⟨m, hm, rfl, -⟩ := HX9.out; have := hrow.off m hm; omega
                have hz9 := hb9.size
                have hrb9 := Blk.below (RB8).out hb9 RL8
                have q9 : w9.cell? ⟨w1.heap.size, 0, none⟩ = some (.slice A l.length c) := hrb9.cell 0 rfl
                have l9 : w1.heap.size < w9.heap.size := by omega
                have BL9 := below_box BL8 hb9 (Nat.le_refl _) (.cells #[.int .i64 x9.off, .bool x9.dst, .string x9.abbr] 32)
                have hfb := Blk.new w9 32 #[.int .i64 x9.off, .bool x9.dst, .string x9.abbr]
                have hrb := hrb9.alloc (.cells #[.int .i64 x9.off, .bool x9.dst, .string x9.abbr] 32)
                have ST9 := hb9.alloc hb9.size (.cells #[.int .i64 x9.off, .bool x9.dst, .string x9.abbr] 32)
                skip
                unfold locA
                go_wp2_with fail
                obtain ⟨W9, hW9⟩ : ∃ W, w9.alloc (.cells #[.int .i64 x9.off, .bool x9.dst, .string x9.abbr] 32) = W := ⟨_, rfl⟩
                have FL9 : w9.heap.size < W9.heap.size := by rw [← hW9]; simp
                rw [hW9] at BL9 hfb hrb ST9 ⊢
                have LB9 : Hid (LocB W9 w9.heap.size x9) := Lib.hid hfb
                have RB9 := Lib.hid hrb
                have RL9 : w1.heap.size < W9.heap.size := by omega
                clear hfb hrb hW9 q9 hrb9
                have U2_9 := U2_8.trans (ST9.mono U2_8.size)
                have U3_9 := U3_8.trans (ST9.mono U3_8.size)
                have U4_9 := U4_8.trans (ST9.mono U4_8.size)
                have U5_9 := U5_8.trans (ST9.mono U5_8.size)
                have U6_9 := U6_8.trans (ST9.mono U6_8.size)
                have U7_9 := U7_8.trans (ST9.mono U7_8.size)
                have U8_9 := ST9
                obtain ⟨q1, q2, q3, q4⟩ := skip_shown hrow HSK.out HX8.out HX9.out
                refine (HAL _ _ BL9 hin1 hin2).out.mono ?_
                rintro e w10 ⟨⟨u10, rfl, hu10⟩, hb10⟩
                rw [HN.out] at hu10
                obtain ⟨A10, c10, rfl⟩ := Sl.form hu10
                have BL10 := BL9.trans (hb10.mono BL9.size)
                have v1 : s < f7.at_ + x8.off := by omega
                have v2 : f7.at_ - 1 + x9.off < s := by omega
                rw [show ([] : List Int).length = 0 from rfl]
                clear q1 q2 q3 q4 hu10
                go_wp2_with fail
                refine (awake_any _).mono ?_
                rintro e wz ⟨rfl, hbz⟩
                go_wp2_with fail
                go_ret
                exact ⟨rfl, (BL10).trans (hbz.mono (BL10).size)⟩
              · have k7 : ((f7.kind : Int) != 3) = true := by rw [bne_iff_ne]; omega
                clear hn
                have BL7 := below_box BL6 hb7 (Nat.le_refl _) (.cells #[.int .i64 f7.kind, .int .i64 f7.at_, .int .i64 f7.chg.at_, .int .i64 f7.chg.loc.off, .bool f7.chg.loc.dst, .string f7.chg.loc.abbr] 36)
                unfold fndA
                go_wp2_with fail
                refine (awake_any _).mono ?_
                rintro e wz ⟨rfl, hbz⟩
                go_wp2_with fail
                go_ret
                exact ⟨rfl, (BL7).trans (hbz.mono (BL7).size)⟩
            · refine (find_no _ (.slice A l.length c) s false (by omega)).mono ?_
              rintro e w7 ⟨rfl, hb7⟩
              have BL7 := below_box BL6 hb7 (Nat.le_refl _) (.cells #[.int .i64 0, .int .i64 0, .int .i64 0, .int .i64 0, .bool false, .string ⟨#[]⟩] 36)
              simp only [fndA, Fnd.zero, Chg.zero, Loc.zero]
              go_wp2_with fail
              refine (awake_any _).mono ?_
              rintro e wz ⟨rfl, hbz⟩
              go_wp2_with fail
              go_ret
              exact ⟨rfl, (BL7).trans (hbz.mono (BL7).size)⟩
        ·
            have d1 : ((f3.kind : Int) == 1) = false := by rw [beq_eq_false_iff_ne]; omega
            have d2 : ((f3.kind : Int) == 2) = true := by rw [beq_iff_eq]; exact kd
            have d3 : decide (i < f3.at_) = false := by rw [decide_eq_false_iff_not]; omega
            have d4 : decide (f4.at_ < i) = false := by rw [decide_eq_false_iff_not]; omega
            have d5 : decide (f4.at_ ≤ f3.at_) = false := by rw [decide_eq_false_iff_not]; omega
            clear kd
            have hz4 := hb4.size
            have hrb4 := Blk.below (RB3).out hb4 RL3
            have q4 : w4.cell? ⟨w1.heap.size, 0, none⟩ = some (.slice A l.length c) := hrb4.cell 0 rfl
            have l4 : w1.heap.size < w4.heap.size := by omega
            have BL4 := below_box BL3 hb4 (Nat.le_refl _) (.cells #[.int .i64 f4.kind, .int .i64 f4.at_, .int .i64 f4.chg.at_, .int .i64 f4.chg.loc.off, .bool f4.chg.loc.dst, .string f4.chg.loc.abbr] 36)
            have hfb := Blk.new w4 36 #[.int .i64 f4.kind, .int .i64 f4.at_, .int .i64 f4.chg.at_, .int .i64 f4.chg.loc.off, .bool f4.chg.loc.dst, .string f4.chg.loc.abbr]
            have hrb := hrb4.alloc (.cells #[.int .i64 f4.kind, .int .i64 f4.at_, .int .i64 f4.chg.at_, .int .i64 f4.chg.loc.off, .bool f4.chg.loc.dst, .string f4.chg.loc.abbr] 36)
            have ST4 := hb4.alloc hb4.size (.cells #[.int .i64 f4.kind, .int .i64 f4.at_, .int .i64 f4.chg.at_, .int .i64 f4.chg.loc.off, .bool f4.chg.loc.dst, .string f4.chg.loc.abbr] 36)
            skip
            unfold fndA
            go_wp2_with fail
            obtain ⟨W4, hW4⟩ : ∃ W, w4.alloc (.cells #[.int .i64 f4.kind, .int .i64 f4.at_, .int .i64 f4.chg.at_, .int .i64 f4.chg.loc.off, .bool f4.chg.loc.dst, .string f4.chg.loc.abbr] 36) = W := ⟨_, rfl⟩
            have FL4 : w4.heap.size < W4.heap.size := by rw [← hW4]; simp
            rw [hW4] at BL4 hfb hrb ST4 ⊢
            have FB4 : Hid (FndB W4 w4.heap.size f4) := Lib.hid hfb
            have RB4 := Lib.hid hrb
            have RL4 : w1.heap.size < W4.heap.size := by omega
            clear hfb hrb hW4 q4 hrb4
            have U2_4 := U2_3.trans (ST4.mono U2_3.size)
            have U3_4 := ST4
            have d9 := HEN.out
            refine (HSH _ _ BL4 (by omega) (by omega)).out.mono ?_
            rintro e w5 ⟨⟨x5, rfl, hx5⟩, hb5⟩
            have HX5 := Lib.hid hx5
            clear hx5
            have ho5 : -180000 < x5.off ∧ x5.off < 180000 := by obtain ⟨m, hm, rfl, -⟩ := HX5.out; have := hrow.off m hm; omega
            have s5 : ((f3.at_ + x5.off : Int) != i + x2.off) = false := by rw [bne_eq_false_iff_eq]; exact shown_all hrow.rise d9.2.2.2.1 HX5.out
            have rF := Blk.below FB4.out hb5 FL4
            have rn : w4.heap.size < w5.heap.size := Blk.lt rF
            obtain ⟨r0, r1, r2, r3, r4, r5⟩ := FndB.cells (f := f4) rF
            clear rF
            have hz5 := hb5.size
            have hrb5 := Blk.below (RB4).out hb5 RL4
            have q5 : w5.cell? ⟨w1.heap.size, 0, none⟩ = some (.slice A l.length c) := hrb5.cell 0 rfl
            have l5 : w1.heap.size < w5.heap.size := by omega
            have BL5 := below_box BL4 hb5 (Nat.le_refl _) (.cells #[.int .i64 x5.off, .bool x5.dst, .string x5.abbr] 32)
            have hfb := Blk.new w5 32 #[.int .i64 x5.off, .bool x5.dst, .string x5.abbr]
            have hrb := hrb5.alloc (.cells #[.int .i64 x5.off, .bool x5.dst, .string x5.abbr] 32)
            have ST5 := hb5.alloc hb5.size (.cells #[.int .i64 x5.off, .bool x5.dst, .string x5.abbr] 32)
            skip
            unfold locA
            go_wp2_with fail
            obtain ⟨W5, hW5⟩ : ∃ W, w5.alloc (.cells #[.int .i64 x5.off, .bool x5.dst, .string x5.abbr] 32) = W := ⟨_, rfl⟩
            have FL5 : w5.heap.size < W5.heap.size := by rw [← hW5]; simp
            rw [hW5] at BL5 hfb hrb ST5 ⊢
            have LB5 : Hid (LocB W5 w5.heap.size x5) := Lib.hid hfb
            have RB5 := Lib.hid hrb
            have RL5 : w1.heap.size < W5.heap.size := by omega
            clear hfb hrb hW5 q5 hrb5
            have U2_5 := U2_4.trans (ST5.mono U2_4.size)
            have U3_5 := U3_4.trans (ST5.mono U3_4.size)
            have U4_5 := ST5
            clear r0 r1 r2 r3 r4 r5
            refine (HSH _ _ BL5 (by omega) (by omega)).out.mono ?_
            rintro e w6 ⟨⟨x6, rfl, hx6⟩, hb6⟩
            have HX6 := Lib.hid hx6
            clear hx6
            have ho6 : -180000 < x6.off ∧ x6.off < 180000 := by obtain ⟨m, hm, rfl, -⟩ := HX6.out; have := hrow.off m hm; omega
            have s6 : ((f4.at_ + x6.off : Int) != i + x2.off) = false := by rw [bne_eq_false_iff_eq]; exact shown_all hrow.rise d9.2.2.2.2.1 HX6.out
            clear d9
            have hz6 := hb6.size
            have hrb6 := Blk.below (RB5).out hb6 RL5
            have q6 : w6.cell? ⟨w1.heap.size, 0, none⟩ = some (.slice A l.length c) := hrb6.cell 0 rfl
            have l6 : w1.heap.size < w6.heap.size := by omega
            have BL6 := below_box BL5 hb6 (Nat.le_refl _) (.cells #[.int .i64 x6.off, .bool x6.dst, .string x6.abbr] 32)
            have hfb := Blk.new w6 32 #[.int .i64 x6.off, .bool x6.dst, .string x6.abbr]
            have hrb := hrb6.alloc (.cells #[.int .i64 x6.off, .bool x6.dst, .string x6.abbr] 32)
            have ST6 := hb6.alloc hb6.size (.cells #[.int .i64 x6.off, .bool x6.dst, .string x6.abbr] 32)
            skip
            unfold locA
            go_wp2_with fail
            obtain ⟨W6, hW6⟩ : ∃ W, w6.alloc (.cells #[.int .i64 x6.off, .bool x6.dst, .string x6.abbr] 32) = W := ⟨_, rfl⟩
            have FL6 : w6.heap.size < W6.heap.size := by rw [← hW6]; simp
            rw [hW6] at BL6 hfb hrb ST6 ⊢
            have LB6 : Hid (LocB W6 w6.heap.size x6) := Lib.hid hfb
            have RB6 := Lib.hid hrb
            have RL6 : w1.heap.size < W6.heap.size := by omega
            clear hfb hrb hW6 q6 hrb6
            have U2_6 := U2_5.trans (ST6.mono U2_5.size)
            have U3_6 := U3_5.trans (ST6.mono U3_5.size)
            have U4_6 := U4_5.trans (ST6.mono U4_5.size)
            have U5_6 := ST6
            by_cases hin : -2199022895552 < s ∧ s < 2199022895552
            · obtain ⟨hin1, hin2⟩ := hin
              refine (HFI _ _ false BL6 hin1 hin2).out.mono ?_
              rintro e w7 ⟨⟨f7, rfl, hf7⟩, hb7⟩
              have HF7 := Lib.hid hf7
              clear hf7
              rcases kind_found HF7.out with ⟨hn, kd⟩ | ⟨hn, kd⟩
              · have HN := Lib.hid hn
                have HSK := Lib.hid (skip_of HF7.out hn)
                obtain ⟨rg1, rg2⟩ := skip_range hrow HSK.out
                have k7 : ((f7.kind : Int) != 3) = false := by rw [kd]; rfl
                clear hn kd
                have hz7 := hb7.size
                have hrb7 := Blk.below (RB6).out hb7 RL6
                have q7 : w7.cell? ⟨w1.heap.size, 0, none⟩ = some (.slice A l.length c) := hrb7.cell 0 rfl
                have l7 : w1.heap.size < w7.heap.size := by omega
                have BL7 := below_box BL6 hb7 (Nat.le_refl _) (.cells #[.int .i64 f7.kind, .int .i64 f7.at_, .int .i64 f7.chg.at_, .int .i64 f7.chg.loc.off, .bool f7.chg.loc.dst, .string f7.chg.loc.abbr] 36)
                have hfb := Blk.new w7 36 #[.int .i64 f7.kind, .int .i64 f7.at_, .int .i64 f7.chg.at_, .int .i64 f7.chg.loc.off, .bool f7.chg.loc.dst, .string f7.chg.loc.abbr]
                have hrb := hrb7.alloc (.cells #[.int .i64 f7.kind, .int .i64 f7.at_, .int .i64 f7.chg.at_, .int .i64 f7.chg.loc.off, .bool f7.chg.loc.dst, .string f7.chg.loc.abbr] 36)
                have ST7 := hb7.alloc hb7.size (.cells #[.int .i64 f7.kind, .int .i64 f7.at_, .int .i64 f7.chg.at_, .int .i64 f7.chg.loc.off, .bool f7.chg.loc.dst, .string f7.chg.loc.abbr] 36)
                skip
                unfold fndA
                go_wp2_with fail
                obtain ⟨W7, hW7⟩ : ∃ W, w7.alloc (.cells #[.int .i64 f7.kind, .int .i64 f7.at_, .int .i64 f7.chg.at_, .int .i64 f7.chg.loc.off, .bool f7.chg.loc.dst, .string f7.chg.loc.abbr] 36) = W := ⟨_, rfl⟩
                have FL7 : w7.heap.size < W7.heap.size := by rw [← hW7]; simp
                rw [hW7] at BL7 hfb hrb ST7 ⊢
                have FB7 : Hid (FndB W7 w7.heap.size f7) := Lib.hid hfb
                have RB7 := Lib.hid hrb
                have RL7 : w1.heap.size < W7.heap.size := by omega
                clear hfb hrb hW7 q7 hrb7
                have U2_7 := U2_6.trans (ST7.mono U2_6.size)
                have U3_7 := U3_6.trans (ST7.mono U3_6.size)
                have U4_7 := U4_6.trans (ST7.mono U4_6.size)
                have U5_7 := U5_6.trans (ST7.mono U5_6.size)
                have U6_7 := ST7
                refine (HSH _ _ BL7 (by omega) (by omega)).out.mono ?_
                rintro e w8 ⟨⟨x8, rfl, hx8⟩, hb8⟩
                have HX8 := Lib.hid hx8
                clear hx8
                have ho8 : -180000 < x8.off ∧ x8.off < 180000 := by obtain ⟨m, hm, rfl, -⟩ := HX8.out; have := hrow.off m hm; omega
                have uF := Blk.below FB7.out hb8 FL7
                have un : w7.heap.size < w8.heap.size := Blk.lt uF
                obtain ⟨u0, u1, u2, u3, u4, u5⟩ := FndB.cells (f := f7) uF
                clear uF
                have hz8 := hb8.size
                have hrb8 := Blk.below (RB7).out hb8 RL7
                have q8 : w8.cell? ⟨w1.heap.size, 0, none⟩ = some (.slice A l.length c) := hrb8.cell 0 rfl
                have l8 : w1.heap.size < w8.heap.size := by omega
                have BL8 := below_box BL7 hb8 (Nat.le_refl _) (.cells #[.int .i64 x8.off, .bool x8.dst, .string x8.abbr] 32)
                have hfb := Blk.new w8 32 #[.int .i64 x8.off, .bool x8.dst, .string x8.abbr]
                have hrb := hrb8.alloc (.cells #[.int .i64 x8.off, .bool x8.dst, .string x8.abbr] 32)
                have ST8 := hb8.alloc hb8.size (.cells #[.int .i64 x8.off, .bool x8.dst, .string x8.abbr] 32)
                skip
                unfold locA
                go_wp2_with fail
                obtain ⟨W8, hW8⟩ : ∃ W, w8.alloc (.cells #[.int .i64 x8.off, .bool x8.dst, .string x8.abbr] 32) = W := ⟨_, rfl⟩
                have FL8 : w8.heap.size < W8.heap.size := by rw [← hW8]; simp
                rw [hW8] at BL8 hfb hrb ST8 ⊢
                have LB8 : Hid (LocB W8 w8.heap.size x8) := Lib.hid hfb
                have RB8 := Lib.hid hrb
                have RL8 : w1.heap.size < W8.heap.size := by omega
                clear hfb hrb hW8 q8 hrb8
                have U2_8 := U2_7.trans (ST8.mono U2_7.size)
                have U3_8 := U3_7.trans (ST8.mono U3_7.size)
                have U4_8 := U4_7.trans (ST8.mono U4_7.size)
                have U5_8 := U5_7.trans (ST8.mono U5_7.size)
                have U6_8 := U6_7.trans (ST8.mono U6_7.size)
                have U7_8 := ST8
                clear u0 u1 u2 u3 u4 u5
                refine (HSH _ _ BL8 (by omega) (by omega)).out.mono ?_
                rintro e w9 ⟨⟨x9, rfl, hx9⟩, hb9⟩
                have HX9 := Lib.hid hx9
                clear hx9
                have ho9 : -180000 < x9.off ∧ x9.off < 180000 := by obtain ⟨m, hm, rfl, -⟩ := HX9.out; have := hrow.off m hm; omega
                have hz9 := hb9.size
                have hrb9 := Blk.below (RB8).out hb9 RL8
                have q9 : w9.cell? ⟨w1.heap.size, 0, none⟩ = some (.slice A l.length c) := hrb9.cell 0 rfl
                have l9 : w1.heap.size < w9.heap.size := by omega
                have BL9 := below_box BL8 hb9 (Nat.le_refl _) (.cells #[.int .i64 x9.off, .bool x9.dst, .string x9.abbr] 32)
                have hfb := Blk.new w9 32 #[.int .i64 x9.off, .bool x9.dst, .string x9.abbr]
                have hrb := hrb9.alloc (.cells #[.int .i64 x9.off, .bool x9.dst, .string x9.abbr] 32)
                have ST9 := hb9.alloc hb9.size (.cells #[.int .i64 x9.off, .bool x9.dst, .string x9.abbr] 32)
                skip
                unfold locA
                go_wp2_with fail
                obtain ⟨W9, hW9⟩ : ∃ W, w9.alloc (.cells #[.int .i64 x9.off, .bool x9.dst, .string x9.abbr] 32) = W := ⟨_, rfl⟩
                have FL9 : w9.heap.size < W9.heap.size := by rw [← hW9]; simp
                rw [hW9] at BL9 hfb hrb ST9 ⊢
                have LB9 : Hid (LocB W9 w9.heap.size x9) := Lib.hid hfb
                have RB9 := Lib.hid hrb
                have RL9 : w1.heap.size < W9.heap.size := by omega
                clear hfb hrb hW9 q9 hrb9
                have U2_9 := U2_8.trans (ST9.mono U2_8.size)
                have U3_9 := U3_8.trans (ST9.mono U3_8.size)
                have U4_9 := U4_8.trans (ST9.mono U4_8.size)
                have U5_9 := U5_8.trans (ST9.mono U5_8.size)
                have U6_9 := U6_8.trans (ST9.mono U6_8.size)
                have U7_9 := U7_8.trans (ST9.mono U7_8.size)
                have U8_9 := ST9
                obtain ⟨q1, q2, q3, q4⟩ := skip_shown hrow HSK.out HX8.out HX9.out
                refine (HAL _ _ BL9 hin1 hin2).out.mono ?_
                rintro e w10 ⟨⟨u10, rfl, hu10⟩, hb10⟩
                rw [HN.out] at hu10
                obtain ⟨A10, c10, rfl⟩ := Sl.form hu10
                have BL10 := BL9.trans (hb10.mono BL9.size)
                have v1 : s < f7.at_ + x8.off := by omega
                have v2 : f7.at_ - 1 + x9.off < s := by omega
                rw [show ([] : List Int).length = 0 from rfl]
                clear q1 q2 q3 q4 hu10
                go_wp2_with fail
                refine (awake_any _).mono ?_
                rintro e wz ⟨rfl, hbz⟩
                go_wp2_with fail
                go_ret
                exact ⟨rfl, (BL10).trans (hbz.mono (BL10).size)⟩
              · have k7 : ((f7.kind : Int) != 3) = true := by rw [bne_iff_ne]; omega
                clear hn
                have BL7 := below_box BL6 hb7 (Nat.le_refl _) (.cells #[.int .i64 f7.kind, .int .i64 f7.at_, .int .i64 f7.chg.at_, .int .i64 f7.chg.loc.off, .bool f7.chg.loc.dst, .string f7.chg.loc.abbr] 36)
                unfold fndA
                go_wp2_with fail
                refine (awake_any _).mono ?_
                rintro e wz ⟨rfl, hbz⟩
                go_wp2_with fail
                go_ret
                exact ⟨rfl, (BL7).trans (hbz.mono (BL7).size)⟩
            · refine (find_no _ (.slice A l.length c) s false (by omega)).mono ?_
              rintro e w7 ⟨rfl, hb7⟩
              have BL7 := below_box BL6 hb7 (Nat.le_refl _) (.cells #[.int .i64 0, .int .i64 0, .int .i64 0, .int .i64 0, .bool false, .string ⟨#[]⟩] 36)
              simp only [fndA, Fnd.zero, Chg.zero, Loc.zero]
              go_wp2_with fail
              refine (awake_any _).mono ?_
              rintro e wz ⟨rfl, hbz⟩
              go_wp2_with fail
              go_ret
              exact ⟨rfl, (BL7).trans (hbz.mono (BL7).size)⟩
end Go.Proofs.Ytlkpkmdomecopaa
