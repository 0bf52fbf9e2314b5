/-
  The law FireCounts, walked.
-/
import Derived.Test.YtkdpflgkcnhoiaaDoorFSmall
import Derived.Test.YtkdpflgkcnhoiaaDoorFAwake
import Derived.Test.YtkdpflgkcnhoiaaDoorSerialC
namespace Go.Proofs.YtkdpflgkcnhoiaaDoor
open Go Go.RowKit Go.Shelf
set_option maxRecDepth 100000

theorem genL_len_take (l : List Rul) (a b : Int) {k : Nat} (hk : k < l.length) : (genL (l.take (k + 1)) a b).length = (genL (l.take k) a b).length + (genL [l[k]] a b).length := by
  have h := genK_next l a b hk
  unfold genK at h
  rw [h, List.length_append, genL_one]
set_option maxHeartbeats 4000000 in
theorem counts_walk (w : World) (v : Value) (l : List Rul) (a b c : Int) (hv : Ruls w w.heap.size v l) (_ : -9223372036854775808 ≤ a ∧ a ≤ 9223372036854775807) (_ : -9223372036854775808 ≤ b ∧ b ≤ 9223372036854775807) (_ : -9223372036854775808 ≤ c ∧ c ≤ 9223372036854775807) (ha : Ahead w) :
    Calls Tryd.prog 3 #[v, .agg #[.int .i64 a, .int .i64 b, .int .i64 c]] w fun e w' => e = .returned (.bool true) ∧ Below w.heap.size w w' := by
  have HV := Lib.hid hv
  have HA := Lib.hid ha
  have hb0 : Below w.heap.size w (w.alloc (.cells #[.int .i64 a, .int .i64 b, .int .i64 c] 23)) := (Below.refl _ _).alloc (Nat.le_refl _) _
  have HB0 := Lib.hid hb0
  have HQ0 := Lib.hid (Blk.new w 23 #[.int .i64 a, .int .i64 b, .int .i64 c])
  have HS := Lib.hid (small_any (w.alloc (.cells #[.int .i64 a, .int .i64 b, .int .i64 c] 23)) w.heap.size v l (hv.below hb0) hb0.size)
  obtain ⟨A, cp, rfl, hlc, hcm⟩ := hv.form
  unfold maxLen at hcm
  clear hv ha hb0
  cases hsm : smallB l with
  | false =>
    rw [hsm] at HS
    clear hsm
    go_enter Tryd.func3, Tryd.ntmps3
    go_wp2_with fail
    refine HS.out.mono ?_
    rintro e w1 ⟨rfl, hb⟩
    have HB1 := Lib.hid (HB0.out.trans (hb.mono HB0.out.size))
    clear hb
    go_wp2_with fail
    refine (awake_any _ (HA.out.below (HB1.out) (Nat.le_refl _))).mono ?_
    rintro e wz ⟨rfl, hbz⟩
    have hb9 := (HB1.out).trans (hbz.mono (HB1.out).size)
    clear hbz
    go_wp2_with fail
    go_ret
    exact ⟨rfl, hb9⟩
  | true =>
    rw [hsm] at HS
    have hl6 : l.length ≤ 6 := by
      unfold smallB at hsm
      rw [Bool.and_eq_true, decide_eq_true_eq] at hsm
      exact hsm.2
    clear hsm
    go_enter Tryd.func3, Tryd.ntmps3
    go_wp2_with fail
    refine HS.out.mono ?_
    rintro e w1 ⟨rfl, hb⟩
    have HB1 := Lib.hid (HB0.out.trans (hb.mono HB0.out.size))
    have hq1 := HQ0.out.below hb HQ0.out.lt
    have q0 := hq1.cell 0 (v := .int .i64 a) rfl
    have q1 := hq1.cell 1 (v := .int .i64 b) rfl
    have q2 := hq1.cell 2 (v := .int .i64 c) rfl
    have HQ1 := Lib.hid hq1
    have hws := HB1.out.size
    clear hb hq1 HS
    by_cases g1 : a < 1880
    · go_wp2_with fail
      refine (awake_any _ (HA.out.below (HB1.out) (Nat.le_refl _))).mono ?_
      rintro e wz ⟨rfl, hbz⟩
      have hb9 := (HB1.out).trans (hbz.mono (HB1.out).size)
      clear hbz
      go_wp2_with fail
      go_ret
      exact ⟨rfl, hb9⟩
    · by_cases g2 : 2110 < c
      · go_wp2_with fail
        refine (awake_any _ (HA.out.below (HB1.out) (Nat.le_refl _))).mono ?_
        rintro e wz ⟨rfl, hbz⟩
        have hb9 := (HB1.out).trans (hbz.mono (HB1.out).size)
        clear hbz
        go_wp2_with fail
        go_ret
        exact ⟨rfl, hb9⟩
      · by_cases g3 : b < a
        · go_wp2_with fail
          refine (awake_any _ (HA.out.below (HB1.out) (Nat.le_refl _))).mono ?_
          rintro e wz ⟨rfl, hbz⟩
          have hb9 := (HB1.out).trans (hbz.mono (HB1.out).size)
          clear hbz
          go_wp2_with fail
          go_ret
          exact ⟨rfl, hb9⟩
        · by_cases g4 : c ≤ b
          · go_wp2_with fail
            refine (awake_any _ (HA.out.below (HB1.out) (Nat.le_refl _))).mono ?_
            rintro e wz ⟨rfl, hbz⟩
            have hb9 := (HB1.out).trans (hbz.mono (HB1.out).size)
            clear hbz
            go_wp2_with fail
            go_ret
            exact ⟨rfl, hb9⟩
          · have HIN := Lib.hid (fun (W : World) (x y : Int) (hbW : Below w.heap.size w W) h1 h2 h3 h4 => fin_any W w.heap.size _ l x y (HA.out.below hbW (Nat.le_refl _)) (HV.out.below hbW) hbW.size (by omega) h1 h2 h3 h4)
            have HI1 := Lib.hid (HIN.out w1 a c HB1.out (by omega) (by omega) (by omega) (by omega))
            go_wp2_with fail
            refine HI1.out.mono ?_
            rintro e w2 ⟨u1, M1, rfl, hst1, hown1, hb⟩
            have HB2 := Lib.hid (HB1.out.trans (hb.mono hws))
            have hq2 := HQ1.out.below hb HQ1.out.lt
            have H1 := Lib.hid (And.intro hst1 hown1)
            have HL1 := Lib.hid hst1.len
            have hM1 : M1.length ≤ 24000 := by
              have h5 := genL_len l a c
              have h6 : l.length * (c + 1 - a).toNat ≤ 6 * 4000 := Nat.mul_le_mul hl6 (by omega)
              have := hst1.len
              omega
            have q0 := hq2.cell 0 (v := .int .i64 a) rfl
            have q1 := hq2.cell 1 (v := .int .i64 b) rfl
            have q2 := hq2.cell 2 (v := .int .i64 c) rfl
            have HQ2 := Lib.hid hq2
            have hws2 := HB2.out.size
            have hs12 := hb.size
            have HI2 := Lib.hid (HIN.out w2 a b HB2.out (by omega) (by omega) (by omega) (by omega))
            obtain ⟨A1, p1, rfl, -⟩ : ∃ A1 p1, u1 = .slice A1 M1.length p1 ∧ True := by
              rcases hown1.2 with ⟨rfl, h0⟩ | ⟨g, cap, cur, rfl, -⟩
              · exact ⟨none, 0, by rw [h0], trivial⟩
              · exact ⟨_, _, rfl, trivial⟩
            clear hb hq2 hst1 hown1 HI1 HQ1
            go_wp2_with fail
            refine HI2.out.mono ?_
            rintro e w3 ⟨u2, M2, rfl, hst2, hown2, hb⟩
            have HB3 := Lib.hid (HB2.out.trans (hb.mono hws2))
            have hq3 := HQ2.out.below hb HQ2.out.lt
            have H1 := Lib.hid (And.intro H1.out.1 (ownsRow_below H1.out.2 hb))
            have HL2 := Lib.hid hst2.len
            have q0 := hq3.cell 0 (v := .int .i64 a) rfl
            have q1 := hq3.cell 1 (v := .int .i64 b) rfl
            have q2 := hq3.cell 2 (v := .int .i64 c) rfl
            have HQ3 := Lib.hid hq3
            have hws3 := HB3.out.size
            have HI3 := Lib.hid (HIN.out w3 (b + 1) c HB3.out (by omega) (by omega) (by omega) (by omega))
            obtain ⟨A2, p2, rfl, -⟩ : ∃ A2 p2, u2 = .slice A2 M2.length p2 ∧ True := by
              rcases hown2.2 with ⟨rfl, h0⟩ | ⟨g, cap, cur, rfl, -⟩
              · exact ⟨none, 0, by rw [h0], trivial⟩
              · exact ⟨_, _, rfl, trivial⟩
            clear hb hq3 hst2 hown2 HI2 HQ2
            go_wp2_with fail
            refine HI3.out.mono ?_
            rintro e w4 ⟨u3, M3, rfl, hst3, hown3, hb⟩
            have HB4 := Lib.hid (HB3.out.trans (hb.mono hws3))
            have hq4 := HQ3.out.below hb HQ3.out.lt
            have H1 := Lib.hid (And.intro H1.out.1 (ownsRow_below H1.out.2 hb))
            have HL3 := Lib.hid hst3.len
            have HQ4 := Lib.hid hq4
            have hws4 := HB4.out.size
            obtain ⟨A3, p3, rfl, -⟩ : ∃ A3 p3, u3 = .slice A3 M3.length p3 ∧ True := by
              rcases hown3.2 with ⟨rfl, h0⟩ | ⟨g, cap, cur, rfl, -⟩
              · exact ⟨none, 0, by rw [h0], trivial⟩
              · exact ⟨_, _, rfl, trivial⟩
            have hsum : M1.length = M2.length + M3.length := by rw [HL1.out, HL2.out, HL3.out]; exact genL_len_split l (by omega) (by omega)
            have es : (M2.length : Int) + (M3.length : Int) = (M1.length : Int) := by omega
            have hne : ((M1.length : Int) != (M2.length : Int) + (M3.length : Int)) = false := by rw [es]; simp
            clear hb hq4 hst3 hown3 HI3 HQ3 hsum HL2 HL3
            go_wp2_with fail
            go_loopw [11, 12] (fun nv iv wr => ∃ k : Nat, k ≤ l.length ∧ iv = .int .i64 k ∧ nv = .int .i64 ((genL (l.take k) a c).length : Nat) ∧ Below w4.heap.size w4 wr) (fun _ iv _ => l.length - (intOf iv).toNat)
            case atStart => exact ⟨0, Nat.zero_le _, rfl, rfl, Below.refl _ _⟩
            case round =>
              obtain ⟨k, hk, rfl, rfl, hbr⟩ := hrel
              have HBR := Lib.hid hbr
              have HBW := Lib.hid (HB4.out.trans (hbr.mono hws4))
              have hqr := HQ4.out.below hbr HQ4.out.lt
              have hler := hbr.size
              clear hbr
              by_cases hlt : k < l.length
              · have hd : decide ((k : Int) < (l.length : Int)) = true := decide_eq_true (by omega)
                obtain ⟨bb, o, c', e, hbb, -⟩ := (HV.out.below HBW.out).cells (by omega)
                cases e
                have q0 := hqr.cell 0 (v := .int .i64 a) rfl
                have q2 := hqr.cell 2 (v := .int .i64 c) rfl
                have HON := Lib.hid (fun (W : World) (hbW : Below w.heap.size w W) => fin_any W w.heap.size _ [l[k]] a c (HA.out.below hbW (Nat.le_refl _)) ((HV.out.below hbW).one hlt) hbW.size (by simp) (by omega) (by omega) (by omega) (by omega))
                have HTK := Lib.hid (genL_len_take l a c hlt)
                obtain ⟨s, hs⟩ : ∃ s, (genL (l.take k) a c).length = s := ⟨_, rfl⟩
                rw [hs] at HTK ⊢
                have hsb : s ≤ 24000 := by
                  have h5 := genL_len (l.take k) a c
                  have h6 : (l.take k).length * (c + 1 - a).toNat ≤ 6 * 4000 := Nat.mul_le_mul (by rw [List.length_take]; omega) (by omega)
                  omega
                have e1 : (k : Int) + 1 - (k : Int) = 1 := by omega
                clear hqr hs
                go_wp2_with fail
                refine wp_text (by kernel_rfl) (by kernel_rfl) ?_
                intro R hR
                go_wp2_with fail
                refine (HON.out _ (below_drewN HBW.out 1)).mono ?_
                rintro e w5 ⟨u4, M4, rfl, hst4, hown4, hb⟩
                obtain ⟨s2, hs2⟩ : ∃ s2, s + M4.length = s2 := ⟨_, rfl⟩
                have HL4 := Lib.hid (show (genL (l.take (k + 1)) a c).length = s2 by rw [HTK.out, ← hst4.len, hs2])
                have HB5 := Lib.hid (HBR.out.trans ((below_drewN (Below.refl wr.heap.size wr) 1).trans (hb.mono (Nat.le_refl _)) |>.mono hler))
                obtain ⟨A4, p4, rfl, -⟩ : ∃ A4 p4, u4 = .slice A4 M4.length p4 ∧ True := by
                  rcases hown4.2 with ⟨rfl, h0⟩ | ⟨g, cap, cur, rfl, -⟩
                  · exact ⟨none, 0, by rw [h0], trivial⟩
                  · exact ⟨_, _, rfl, trivial⟩
                have hm4 : M4.length ≤ 24000 := by
                  have h5 := genL_len [l[k]] a c
                  have h6 : [l[k]].length * (c + 1 - a).toNat ≤ 1 * 4000 := Nat.mul_le_mul (by simp) (by omega)
                  have := hst4.len
                  omega
                have e4 : (s : Int) + (M4.length : Int) = (s2 : Int) := by omega
                clear hs2 hb hst4 hown4 HON HTK
                go_wp2_with fail
                refine ⟨by simp [goodB, fits, plainPair, scalarV, isSeqV, quiet, Act.eval], ?_⟩
                go_wp2_with fail
                go_roundw
                case rel => exact ⟨k + 1, by omega, by go_num, by rw [HL4.out], HB5.out⟩
                case measure => first | (simp [intOf]; done) | (simp [intOf]; omega)
              · obtain rfl : k = l.length := by omega
                have hd : decide ((l.length : Int) < (l.length : Int)) = false := decide_eq_false (by omega)
                have hn0 : (genL (l.take l.length) a c).length = M1.length := by rw [List.take_length, HL1.out]
                rw [hn0]
                have HSO := Lib.hid H1.out.1.2.1
                have HO1 := Lib.hid (ownsRow_below (ownsRow_below H1.out.2 (Below.refl _ _)) (Below.refl _ _))
                go_wp2_with fail
                go_loopw [15] (fun iv wi => ∃ i : Nat, 1 ≤ i ∧ (i ≤ M1.length ∨ i = 1) ∧ iv = .int .i64 i ∧ Below w4.heap.size w4 wi) (fun iv _ => M1.length + 1 - (intOf iv).toNat)
                case atStart => exact ⟨1, by omega, .inr rfl, rfl, HBR.out⟩
                case round =>
                  obtain ⟨i, hi1, hi2, rfl, hbi⟩ := hrel
                  have HBI := Lib.hid hbi
                  clear hbi
                  by_cases hlt2 : i < M1.length
                  · have hd2 : decide ((i : Int) < (M1.length : Int)) = true := decide_eq_true (by omega)
                    obtain ⟨j, hj⟩ : ∃ j, i = j + 1 := ⟨i - 1, by omega⟩
                    have hown := ownsRow_below H1.out.2 HBI.out
                    rcases hown.2 with ⟨-, h0⟩ | ⟨g, cap, cur, h0, -⟩
                    · omega
                    · injection h0 with h01 h02 h03
                      subst h01 h03
                      have hrw : RwF wr w1.heap.size g p1 M1.length M1 := ⟨rfl, hown⟩
                      have e1 : M1 = M1.take j ++ M1[j] :: ([] ++ M1[i] :: M1.drop (i + 1)) := by
                        subst hj
                        rw [List.nil_append, ← List.drop_eq_getElem_cons hlt2, ← List.drop_eq_getElem_cons (by omega), List.take_append_drop]
                      have hle : ¬ (M1[i]).nominal < (M1[j]).nominal := by
                        have := List.pairwise_iff_getElem.1 HSO.out j i (by omega) hlt2 (by omega)
                        omega
                      have hl : j < M1.length := by omega
                      have hrw3 : RwF wr w1.heap.size g p1 M1.length ((M1.take j) ++ M1[j] :: ([] ++ M1[i] :: M1.drop (i + 1))) := ⟨by rw [← e1], by rw [← e1]; exact hown⟩
                      have lT : (M1.take j).length = j := by rw [List.length_take]; omega
                      have d0 := hrw3.at_.1
                      have c0 := hrw3.at2.1
                      rw [lT] at d0 c0
                      rw [List.length_nil, Nat.add_zero, ← hj] at c0
                      have e5 : (i : Int) - 1 = (j : Int) := by omega
                      generalize (M1[i]).nominal = zi at *
                      generalize (M1[j]).nominal = zj at *
                      have hdz : decide (zi < zj) = false := decide_eq_false hle
                      have HJ := Lib.hid hj
                      clear hrw hrw3 hown e1 lT hj
                      go_wp2_with fail
                      go_quiet (fail)
                      go_wp2_with fail
                      go_roundw
                      case rel => exact ⟨i + 1, by omega, by omega, by go_num, below_drewN HBI.out _⟩
                      case measure => first | (simp [intOf]; done) | (simp [intOf]; omega)
                  · have hd2 : decide ((i : Int) < (M1.length : Int)) = false := decide_eq_false (by omega)
                    go_wp2_with fail
                    refine (awake_any _ (HA.out.below (HB4.out.trans (HBI.out.mono hws4)) (Nat.le_refl _))).mono ?_
                    rintro e wz ⟨rfl, hbz⟩
                    have hb9 := (HB4.out.trans (HBI.out.mono hws4)).trans (hbz.mono (HB4.out.trans (HBI.out.mono hws4)).size)
                    clear hbz
                    go_wp2_with fail
                    go_ret
                    exact ⟨rfl, hb9⟩
end Go.Proofs.YtkdpflgkcnhoiaaDoor
