/-
  Layer 20: the law LocalFinds, walked.
-/
import Derived.Test.YtlkpkmdomecopaaSerialC
import Derived.Test.YtlkpkmdomecopaaLAwake
namespace Go.Proofs.Ytlkpkmdomecopaa
open Go Go.RowKit Go.Shelf
set_option maxRecDepth 100000

theorem below_at {B q k : Nat} {w W wz : World} (h : Below B w W) (hb : Below q (W.drewN k) wz) (hq : B ≤ q) : Below B w wz := (below_drewN h k).trans (hb.mono hq)
theorem isInts {w : World} {B : Nat} {A : Option Addr} {c : Nat} {L : List Int} (h : Sl w B 1 (.slice A L.length c) L.length (intsV L)) {k : Nat} (hk : k < L.length) : ∃ b o, A = some ⟨b, o, none⟩ ∧ b < B ∧ w.cell? ⟨b, o + k, none⟩ = some (.int .i64 L[k]) := by
  obtain ⟨b, o, c', e, hb, hc⟩ := h.at_ (by omega)
  cases e
  exact ⟨b, o, rfl, hb, hc k _ (intsV_at L k hk)⟩
set_option maxHeartbeats 4000000 in
theorem finds_walk (w : World) (v : Value) (l : List Chg) (s : Int) (hv : Chgs w w.heap.size v l) (_ : -9223372036854775808 ≤ s ∧ s ≤ 9223372036854775807) :
    Calls Try.prog 3 #[v, .int .i64 s] w fun e w' => e = .returned (.bool true) ∧ Below w.heap.size w w' := by
  have HV := Lib.hid hv
  have HR := Lib.hid (right_any w _ v l hv)
  obtain ⟨A, c, rfl, hlc, hcm⟩ := hv.form
  unfold maxLen at hcm
  clear hv
  cases hrb : rightB l with
  | false =>
    rw [hrb] at HR
    clear hrb
    go_enter Try.func3, Try.ntmps3
    go_wp2_with fail
    refine HR.out.mono ?_
    rintro e w1 ⟨rfl, hb1⟩
    go_wp2_with fail
    refine (awake_any _).mono ?_
    rintro e wz ⟨rfl, hbz⟩
    go_wp2_with fail
    go_ret
    exact ⟨rfl, (hb1).trans (hbz.mono (hb1).size)⟩
  | true =>
    have hrow := (rightB_iff l).1 hrb
    rw [hrb] at HR
    clear hrb
    by_cases hin : -2199022895552 < s ∧ s < 2199022895552
    · obtain ⟨hin1, hin2⟩ := hin
      have HAL := fun W (hb : Below w.heap.size w W) => Lib.hid (all_yes W w.heap.size (.slice A l.length c) l s (HV.out.below hb) hb.size hrow hin1 hin2)
      have HFI := fun W late (hb : Below w.heap.size w W) => Lib.hid (find_yes W w.heap.size (.slice A l.length c) l s late (HV.out.below hb) hb.size hrow hin1 hin2)
      have HRA := fun W (hb : Below w.heap.size w W) => Lib.hid (rall_any W w.heap.size (.slice A l.length c) l s (HV.out.below hb) hb.size hrow (by omega) (by omega))
      have hal60 : (allL l s).length ≤ 60 := by have := allOf_le l s 0 l.length; have := hrow.few; unfold allL; omega
      go_enter Try.func3, Try.ntmps3
      go_wp2_with fail
      refine HR.out.mono ?_
      rintro e w1 ⟨rfl, hb1⟩
      go_wp2_with fail
      have BL1 := hb1.alloc hb1.size (.cells #[.slice A l.length c] 26)
      have hrb := (Blk.new w1 26 #[.slice A l.length c])
      obtain ⟨W1, hW1⟩ : ∃ W1, w1.alloc (.cells #[.slice A l.length c] 26) = W1 := ⟨_, rfl⟩
      have RL1 : w1.heap.size < W1.heap.size := by rw [← hW1]; simp
      rw [hW1] at BL1 hrb ⊢
      have RB1 := Lib.hid hrb
      clear hW1 hrb
      refine (HAL W1 BL1).out.mono ?_
      rintro e w2 ⟨⟨u2, rfl, hu2⟩, hb2⟩
      obtain ⟨A2, c2, rfl⟩ := hu2.form
      have HU2 := Lib.hid hu2
      clear hu2
      have hz2 := hb2.size
      have hrb2 := Blk.below (RB1).out hb2 RL1
      have q2 : w2.cell? ⟨w1.heap.size, 0, none⟩ = some (.slice A l.length c) := hrb2.cell 0 rfl
      have l2 : w1.heap.size < w2.heap.size := by omega
      have BL2 := BL1.trans (hb2.mono BL1.size)
      have RB2 := Lib.hid hrb2
      have RL2 := l2
      have ST2 := hb2
      clear hrb2
      go_wp2_with fail
      refine (HFI _ false BL2).out.mono ?_
      rintro e w3 ⟨⟨f3, rfl, hf3⟩, hb3⟩
      have HF3 := Lib.hid hf3
      have hz3 := hb3.size
      have hrb3 := Blk.below (RB2).out hb3 RL2
      have q3 : w3.cell? ⟨w1.heap.size, 0, none⟩ = some (.slice A l.length c) := hrb3.cell 0 rfl
      have l3 : w1.heap.size < w3.heap.size := by omega
      have BL3 := below_box BL2 hb3 (Nat.le_refl _) (.cells #[.int .i64 f3.kind, .int .i64 f3.at_, .int .i64 f3.chg.at_, .int .i64 f3.chg.loc.off, .bool f3.chg.loc.dst, .string f3.chg.loc.abbr] 36)
      have hfb := Blk.new w3 36 #[.int .i64 f3.kind, .int .i64 f3.at_, .int .i64 f3.chg.at_, .int .i64 f3.chg.loc.off, .bool f3.chg.loc.dst, .string f3.chg.loc.abbr]
      have hrb := hrb3.alloc (.cells #[.int .i64 f3.kind, .int .i64 f3.at_, .int .i64 f3.chg.at_, .int .i64 f3.chg.loc.off, .bool f3.chg.loc.dst, .string f3.chg.loc.abbr] 36)
      have ST3 := hb3.alloc hb3.size (.cells #[.int .i64 f3.kind, .int .i64 f3.at_, .int .i64 f3.chg.at_, .int .i64 f3.chg.loc.off, .bool f3.chg.loc.dst, .string f3.chg.loc.abbr] 36)
      clear hf3 q2
      unfold fndA
      go_wp2_with fail
      obtain ⟨W3, hW3⟩ : ∃ W, w3.alloc (.cells #[.int .i64 f3.kind, .int .i64 f3.at_, .int .i64 f3.chg.at_, .int .i64 f3.chg.loc.off, .bool f3.chg.loc.dst, .string f3.chg.loc.abbr] 36) = W := ⟨_, rfl⟩
      have FL3 : w3.heap.size < W3.heap.size := by rw [← hW3]; simp
      rw [hW3] at BL3 hfb hrb ST3 ⊢
      have FB3 : Hid (FndB W3 w3.heap.size f3) := Lib.hid hfb
      have RB3 := Lib.hid hrb
      have RL3 : w1.heap.size < W3.heap.size := by omega
      clear hfb hrb hW3 q3 hrb3
      refine (HFI _ true BL3).out.mono ?_
      rintro e w4 ⟨⟨f4, rfl, hf4⟩, hb4⟩
      have HF4 := Lib.hid hf4
      have hz4 := hb4.size
      have hrb4 := Blk.below (RB3).out hb4 RL3
      have q4 : w4.cell? ⟨w1.heap.size, 0, none⟩ = some (.slice A l.length c) := hrb4.cell 0 rfl
      have l4 : w1.heap.size < w4.heap.size := by omega
      have BL4 := below_box BL3 hb4 (Nat.le_refl _) (.cells #[.int .i64 f4.kind, .int .i64 f4.at_, .int .i64 f4.chg.at_, .int .i64 f4.chg.loc.off, .bool f4.chg.loc.dst, .string f4.chg.loc.abbr] 36)
      have hfb := Blk.new w4 36 #[.int .i64 f4.kind, .int .i64 f4.at_, .int .i64 f4.chg.at_, .int .i64 f4.chg.loc.off, .bool f4.chg.loc.dst, .string f4.chg.loc.abbr]
      have hrb := hrb4.alloc (.cells #[.int .i64 f4.kind, .int .i64 f4.at_, .int .i64 f4.chg.at_, .int .i64 f4.chg.loc.off, .bool f4.chg.loc.dst, .string f4.chg.loc.abbr] 36)
      have ST4 := hb4.alloc hb4.size (.cells #[.int .i64 f4.kind, .int .i64 f4.at_, .int .i64 f4.chg.at_, .int .i64 f4.chg.loc.off, .bool f4.chg.loc.dst, .string f4.chg.loc.abbr] 36)
      clear hf4
      unfold fndA
      go_wp2_with fail
      obtain ⟨W4, hW4⟩ : ∃ W, w4.alloc (.cells #[.int .i64 f4.kind, .int .i64 f4.at_, .int .i64 f4.chg.at_, .int .i64 f4.chg.loc.off, .bool f4.chg.loc.dst, .string f4.chg.loc.abbr] 36) = W := ⟨_, rfl⟩
      have FL4 : w4.heap.size < W4.heap.size := by rw [← hW4]; simp
      rw [hW4] at BL4 hfb hrb ST4 ⊢
      have FB4 : Hid (FndB W4 w4.heap.size f4) := Lib.hid hfb
      have RB4 := Lib.hid hrb
      have RL4 : w1.heap.size < W4.heap.size := by omega
      clear hfb hrb hW4 q4 hrb4
      refine (HRA _ BL4).out.mono ?_
      rintro e w5 ⟨⟨u5, rfl, hu5⟩, hb5⟩
      obtain ⟨A5, c5, rfl⟩ := hu5.form
      have BL5 := BL4.trans (hb5.mono BL4.size)
      have FB5 := Lib.hid (FB4.out.below hb5 FL4)
      have FB35 := Lib.hid ((FB3.out.below ST4 FL3).below hb5 (by have := ST4.size; omega))
      have HU25 := Lib.hid ((HU2.out.below ((ST3.trans (ST4.mono ST3.size)).trans (hb5.mono (by have := ST3.size; have := ST4.size; omega)))))
      have HU5 := Lib.hid hu5
      clear hu5 hb2 hb3 hb4 HU2 FB3 FB4 ST2 ST3 ST4 RB1 RB2 RB3 RB4
      generalize hL : allL l s = L at *
      have HL := Lib.hid hL
      clear hL
      go_wp2_with fail
      go_loopw [14] (fun i wr => ∃ k : Nat, k ≤ L.length ∧ i = .int .i64 k ∧ ∃ n, wr = w5.drewN n) (fun i _ => L.length - (intOf i).toNat)
      case atStart => exact ⟨0, by omega, rfl, 0, rfl⟩
      case round =>
        obtain ⟨k, hk, rfl, n, rfl⟩ := hrel
        by_cases hlt : k < L.length
        · obtain ⟨b2, o2, rfl, -, d2⟩ := isInts HU25.out hlt
          obtain ⟨b5, o5, rfl, -, d5⟩ := isInts HU5.out hlt
          generalize L[k] = t at *
          go_wp2_with fail
          go_quiet (fail)
          go_wp2_with fail
          go_roundw
          case rel => exact ⟨k + 1, by omega, by go_num, _, rfl⟩
          case measure => first | (simp [intOf]; done) | (simp [intOf]; omega)
        · obtain rfl : k = L.length := by omega
          rcases L with _ | ⟨t, _ | ⟨t2, m⟩⟩
          · have g3 := HF3.out
            have g4 := HF4.out
            unfold found at g3 g4
            rw [HL.out] at g3 g4
            obtain ⟨k0, j, hj, hk0, h1, h2, h3, e3⟩ := g3
            obtain ⟨k0', j', hj', hk0', h1', h2', h3', e4⟩ := g4
            obtain rfl := isAt_unique hk0 hk0'
            obtain rfl : j = j' := by
              rcases Nat.lt_trichotomy j j' with h | h | h
              · have := h3' j h1 h; rw [h2] at this; cases this
              · exact h
              · have := h3 j' h1' h; rw [h2'] at this; cases this
            have HG := fun W (hb : Below w.heap.size w W) => Lib.hid (rgap_any W w.heap.size _ l s (HV.out.below hb) hrow hin1 hin2 k0 j hk0 hj h1 h2 h3)
            have hF3 := FB35.out
            have hF4 := FB5.out
            rw [e3] at hF3
            rw [e4] at hF4
            obtain ⟨b, o, c', ee, hb, hc⟩ := HV.out.cells (by omega)
            cases ee
            obtain ⟨c0, c1, cc2, c3⟩ := hc j hj
            have d0 := (BL5.cell (p := ⟨b, o + j * 4, none⟩) hb).trans c0
            have d1 := (BL5.cell (p := ⟨b, o + j * 4 + 1, none⟩) hb).trans c1
            have d2 := (BL5.cell (p := ⟨b, o + j * 4 + 2, none⟩) hb).trans cc2
            have d3 := (BL5.cell (p := ⟨b, o + j * 4 + 3, none⟩) hb).trans c3
            have hj0 : 0 < j := by omega
            generalize l[j] = x at *
            obtain ⟨a0, a1, a2, a3, a4, a5⟩ := FndB.cells hF3
            obtain ⟨b0, b1, b2, b3, b4, b5⟩ := FndB.cells hF4
            have hd : decide (0 < j) = true := by simpa using hj0
            have hl60 := hrow.few
            clear hF3 hF4 e3 e4 h3 h3' h2 h2' h1 h1' hk0 hk0' hc c0 c1 cc2 c3 hk
            go_wp2_with fail
            refine (HG _ (below_drewN BL5 n)).out.mono ?_
            rintro e w6 ⟨rfl, n6, rfl⟩
            have BL6 := below_drewN (below_drewN BL5 n) n6
            go_wp2_with fail
            refine wp_text (by kernel_rfl) (by kernel_rfl) ?_
            intro R hR
            go_wp2_with fail
            refine (awake_any _).mono ?_
            rintro e wz ⟨rfl, hbz⟩
            have BLz := below_at BL5 hbz BL5.size
            go_wp2_with fail
            refine ⟨by simp [goodB, fits, plainPair, scalarV, isSeqV, quiet, Act.eval], ?_⟩
            go_wp2_with fail
            go_ret
            exact ⟨rfl, BLz⟩
          · have g3 := HF3.out
            have g4 := HF4.out
            unfold found at g3 g4
            rw [HL.out] at g3 g4
            have hF3 := FB35.out
            have hF4 := FB5.out
            rw [g3] at hF3
            rw [g4] at hF4
            obtain ⟨b5, o5, rfl, -, d5⟩ := isInts HU5.out (k := 0) Nat.zero_lt_one
            rw [show [t].length = 1 from rfl] at *
            rw [show [t][0] = t from rfl, Nat.add_zero] at d5
            obtain ⟨a0, a1, a2, a3, a4, a5⟩ := FndB.cells hF3
            obtain ⟨b0, b1, b2, b3, b4, b5⟩ := FndB.cells hF4
            simp only [Chg.zero, Loc.zero] at a0 a1 a2 a3 a4 a5 b0 b1 b2 b3 b4 b5
            clear hF3 hF4 g3 g4 hk hlt
            go_wp2_with fail
            refine wp_text (by kernel_rfl) (by kernel_rfl) ?_
            intro R hR
            go_wp2_with fail
            refine (awake_any _).mono ?_
            rintro e wz ⟨rfl, hbz⟩
            have BLz := below_at BL5 hbz BL5.size
            go_wp2_with fail
            refine ⟨by simp [goodB, fits, plainPair, scalarV, isSeqV, quiet, Act.eval], ?_⟩
            go_wp2_with fail
            go_ret
            exact ⟨rfl, BLz⟩
          · have g3 := HF3.out
            have g4 := HF4.out
            unfold found at g3 g4
            rw [HL.out] at g3 g4
            simp only [Bool.false_eq_true, if_false, if_true] at g3 g4
            have hF3 := FB35.out
            have hF4 := FB5.out
            rw [g3] at hF3
            rw [g4] at hF4
            obtain ⟨b5, o5, rfl, -, d5⟩ := isInts HU5.out (k := 0) (by simp)
            obtain ⟨b6, o6, e6, -, d6⟩ := isInts HU5.out (k := m.length + 1) (by simp)
            cases e6
            have hlast : (t :: t2 :: m)[m.length + 1] = (t :: t2 :: m).getLast (by simp) := by rw [List.getLast_eq_getElem]; rfl
            rw [hlast] at d6
            rw [show (t :: t2 :: m).length = m.length + 2 from rfl] at *
            rw [show (t :: t2 :: m)[0] = t from rfl, Nat.add_zero] at d5
            obtain ⟨a0, a1, a2, a3, a4, a5⟩ := FndB.cells hF3
            obtain ⟨b0, b1, b2, b3, b4, b5⟩ := FndB.cells hF4
            simp only [Chg.zero, Loc.zero] at a0 a1 a2 a3 a4 a5 b0 b1 b2 b3 b4 b5
            have hll : m.length + 2 ≤ 60 := hal60
            generalize (t :: t2 :: m).getLast (by simp) = z at *
            clear hF3 hF4 g3 g4 hk hlt hlast HU5 HU25 HL
            generalize m.length = q at *
            go_wp2_with fail
            refine wp_text (by kernel_rfl) (by kernel_rfl) ?_
            intro R hR
            go_wp2_with fail
            refine (awake_any _).mono ?_
            rintro e wz ⟨rfl, hbz⟩
            have BLz := below_at BL5 hbz BL5.size
            go_wp2_with fail
            refine ⟨by simp [goodB, fits, plainPair, scalarV, isSeqV, quiet, Act.eval], ?_⟩
            go_wp2_with fail
            go_ret
            exact ⟨rfl, BLz⟩
    · have hin' : s ≤ -2199022895552 ∨ 2199022895552 ≤ s := by omega
      have HAL := fun W => Lib.hid (all_no W (.slice A l.length c) s hin')
      have HFI := fun W late => Lib.hid (find_no W (.slice A l.length c) s late hin')
      clear hin
      go_enter Try.func3, Try.ntmps3
      go_wp2_with fail
      refine HR.out.mono ?_
      rintro e w1 ⟨rfl, hb1⟩
      go_wp2_with fail
      have BL1 := hb1.alloc hb1.size (.cells #[.slice A l.length c] 26)
      have hrb := (Blk.new w1 26 #[.slice A l.length c])
      obtain ⟨W1, hW1⟩ : ∃ W1, w1.alloc (.cells #[.slice A l.length c] 26) = W1 := ⟨_, rfl⟩
      have RL1 : w1.heap.size < W1.heap.size := by rw [← hW1]; simp
      rw [hW1] at BL1 hrb ⊢
      have RB1 := Lib.hid hrb
      clear hW1 hrb
      refine (HAL W1).out.mono ?_
      rintro e w2 ⟨rfl, hb2⟩
      have hz2 := hb2.size
      have hrb2 := Blk.below (RB1).out hb2 RL1
      have q2 : w2.cell? ⟨w1.heap.size, 0, none⟩ = some (.slice A l.length c) := hrb2.cell 0 rfl
      have l2 : w1.heap.size < w2.heap.size := by omega
      have BL2 := BL1.trans (hb2.mono BL1.size)
      have RB2 := Lib.hid hrb2
      have RL2 := l2
      have ST2 := hb2
      clear hrb2
      go_wp2_with fail
      refine (HFI _ false).out.mono ?_
      rintro e w3 ⟨rfl, hb3⟩
      obtain ⟨f3, hf3⟩ : ∃ f, Fnd.zero = f := ⟨_, rfl⟩
      rw [hf3]
      have HF3 := Lib.hid hf3
      have hz3 := hb3.size
      have hrb3 := Blk.below (RB2).out hb3 RL2
      have q3 : w3.cell? ⟨w1.heap.size, 0, none⟩ = some (.slice A l.length c) := hrb3.cell 0 rfl
      have l3 : w1.heap.size < w3.heap.size := by omega
      have BL3 := below_box BL2 hb3 (Nat.le_refl _) (.cells #[.int .i64 f3.kind, .int .i64 f3.at_, .int .i64 f3.chg.at_, .int .i64 f3.chg.loc.off, .bool f3.chg.loc.dst, .string f3.chg.loc.abbr] 36)
      have hfb := Blk.new w3 36 #[.int .i64 f3.kind, .int .i64 f3.at_, .int .i64 f3.chg.at_, .int .i64 f3.chg.loc.off, .bool f3.chg.loc.dst, .string f3.chg.loc.abbr]
      have hrb := hrb3.alloc (.cells #[.int .i64 f3.kind, .int .i64 f3.at_, .int .i64 f3.chg.at_, .int .i64 f3.chg.loc.off, .bool f3.chg.loc.dst, .string f3.chg.loc.abbr] 36)
      have ST3 := hb3.alloc hb3.size (.cells #[.int .i64 f3.kind, .int .i64 f3.at_, .int .i64 f3.chg.at_, .int .i64 f3.chg.loc.off, .bool f3.chg.loc.dst, .string f3.chg.loc.abbr] 36)
      clear hf3 q2
      unfold fndA
      go_wp2_with fail
      obtain ⟨W3, hW3⟩ : ∃ W, w3.alloc (.cells #[.int .i64 f3.kind, .int .i64 f3.at_, .int .i64 f3.chg.at_, .int .i64 f3.chg.loc.off, .bool f3.chg.loc.dst, .string f3.chg.loc.abbr] 36) = W := ⟨_, rfl⟩
      have FL3 : w3.heap.size < W3.heap.size := by rw [← hW3]; simp
      rw [hW3] at BL3 hfb hrb ST3 ⊢
      have FB3 : Hid (FndB W3 w3.heap.size f3) := Lib.hid hfb
      have RB3 := Lib.hid hrb
      have RL3 : w1.heap.size < W3.heap.size := by omega
      clear hfb hrb hW3 q3 hrb3
      refine (HFI _ true).out.mono ?_
      rintro e w4 ⟨rfl, hb4⟩
      have FB34 := FB3.out.below hb4 FL3
      rw [← HF3.out] at FB34
      have n34 : w3.heap.size < w4.heap.size := FB34.lt
      obtain ⟨a0, a1, a2, a3, a4, a5⟩ := FndB.cells FB34
      clear FB34
      simp only [Fnd.zero, Chg.zero, Loc.zero] at a0 a1 a2 a3 a4 a5
      have BL4 := below_box BL3 hb4 (Nat.le_refl _) (.cells #[.int .i64 0, .int .i64 0, .int .i64 0, .int .i64 0, .bool false, .string ⟨#[]⟩] 36)
      simp only [fndA, Fnd.zero, Chg.zero, Loc.zero]
      rcases hin' with g1 | g1
      ·
        go_wp2_with fail
        refine (awake_any _).mono ?_
        rintro e wz ⟨rfl, hbz⟩
        go_wp2_with fail
        go_ret
        exact ⟨rfl, (BL4).trans (hbz.mono (BL4).size)⟩
      · have g2 : ¬ s ≤ -2199022895552 := by omega
        go_wp2_with fail
        refine (awake_any _).mono ?_
        rintro e wz ⟨rfl, hbz⟩
        go_wp2_with fail
        go_ret
        exact ⟨rfl, (BL4).trans (hbz.mono (BL4).size)⟩
end Go.Proofs.Ytlkpkmdomecopaa
