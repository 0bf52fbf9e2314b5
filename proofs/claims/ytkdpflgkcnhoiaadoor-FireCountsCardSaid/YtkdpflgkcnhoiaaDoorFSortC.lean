/-
  Sorting rows of firings, walked: merging in place.
-/
import Derived.Test.YtkdpflgkcnhoiaaDoorFSortB
namespace Go.Proofs.YtkdpflgkcnhoiaaDoor
open Go Go.RowKit Go.Shelf
set_option maxRecDepth 100000

set_option maxHeartbeats 8000000 in
theorem symC_F (sz : Nat) (W0 : World) (base g cap n a m b : Nat) (P L R S : List Fir) (ha : P.length = a) (hm : a + L.length = m) (hL1 : 1 < L.length) (hb : m + R.length = b) (hR1 : 1 < R.length) (hL0 : FSorted L) (hR0 : FSorted R) (hn : n ≤ 1000000000) (hR : RwF W0 base g cap n (P ++ (L ++ (R ++ S))))
    (hsz : b ≤ a + sz) (hih : ∀ (W : World) (a m b : Nat) (P L R S : List Fir), P.length = a → a + L.length = m → m + R.length = b → 0 < L.length → 0 < R.length → b < a + sz → FSorted L → FSorted R → RwF W base g cap n (P ++ (L ++ (R ++ S))) →
      Calls Tryd.prog 41 #[.slice (some ⟨g, 0, none⟩) n cap, .int .i64 a, .int .i64 m, .int .i64 b, .func (.func 15) #[] #[]] W fun e w' => e = .returned (.tuple #[]) ∧ ∃ M, Stab Fir.nominal (L ++ R) M ∧ RwF w' base g cap n (P ++ (M ++ S)) ∧ Fr (fun k => k = g) W w') :
    Calls Tryd.prog 41 #[.slice (some ⟨g, 0, none⟩) n cap, .int .i64 a, .int .i64 m, .int .i64 b, .func (.func 15) #[] #[]] W0 fun e w' => e = .returned (.tuple #[]) ∧ ∃ M, Stab Fir.nominal (L ++ R) M ∧ RwF w' base g cap n (P ++ (M ++ S)) ∧ Fr (fun k => k = g) W0 w' := by
  have hlen := hR.len
  simp only [List.length_append] at hlen
  rw [ha] at hlen
  have HR := Lib.hid hR
  have HIH := Lib.hid hih
  have HAL := Lib.hid (And.intro ha (And.intro hm hb))
  have HSO := Lib.hid (And.intro hL0 hR0)
  have hbn : b ≤ n := by omega
  have ham : a + 2 ≤ m := by omega
  have hmb : m + 2 ≤ b := by omega
  have e1 : (((m : Int) - (a : Int)) == 1) = false := by simp; omega
  have e2 : (((b : Int) - (m : Int)) == 1) = false := by simp; omega
  obtain ⟨mid, hmid⟩ : ∃ mid, (a + b) / 2 = mid := ⟨_, rfl⟩
  have e3 : ((a : Int) + (b : Int)) / 2 = (mid : Int) := by omega
  have hmd : 2 * mid ≤ a + b ∧ a + b < 2 * mid + 2 := by omega
  obtain ⟨pp, hpp⟩ : ∃ pp, mid + m = pp + 1 := ⟨mid + m - 1, by omega⟩
  have e4 : (mid : Int) + (m : Int) - 1 = (pp : Int) := by omega
  clear hR ha hm hb hlen hL0 hR0 hL1 hR1 hih hmid
  by_cases hmm : mid < m
  · have hd0 : decide ((mid : Int) < (m : Int)) = true := decide_eq_true (by omega)
    obtain ⟨s0, hs0⟩ : ∃ s0, mid + m = b + s0 := ⟨mid + m - b, by omega⟩
    have e5 : (mid : Int) + (m : Int) - (b : Int) = (s0 : Int) := by omega
    go_enter Tryd.func41, Tryd.ntmps41
    go_wp2_with fail
    go_loopw [20, 21] (fun iv jv wr => ∃ (s r : Nat), iv = .int .i64 s ∧ jv = .int .i64 r ∧ s0 ≤ s ∧ s ≤ r ∧ r ≤ mid ∧ (∀ c (hl : c < L.length) q (hq : q < R.length), s0 ≤ a + c → a + c + 1 = s → m + q + (a + c) = pp → L[c].nominal ≤ R[q].nominal) ∧ (∀ c (hl : c < L.length) q (hq : q < R.length), a + c < mid → a + c = r → m + q + (a + c) = pp → R[q].nominal < L[c].nominal) ∧ RwF wr base g cap n (P ++ (L ++ (R ++ S))) ∧ Fr (fun k => k = g) W0 wr) (fun iv jv _ => (intOf jv).toNat - (intOf iv).toNat)
    case atStart => exact ⟨s0, mid, rfl, rfl, Nat.le_refl _, by omega, Nat.le_refl _, fun c hl q hq h1 h2 h3 => by omega, fun c hl q hq h1 h2 h3 => by omega, HR.out, Fr.refl _ _⟩
    case round =>
      obtain ⟨s, r, rfl, rfl, hsl, hsr, hrl, hlo, hhi, hrw, hfr⟩ := hrel
      have HLO := Lib.hid hlo
      have HHI := Lib.hid hhi
      have HRW := Lib.hid hrw
      have HFR := Lib.hid hfr
      clear hlo hhi hrw hfr
      by_cases hlt : s < r
      · have hd : decide ((s : Int) < (r : Int)) = true := decide_eq_true (by omega)
        obtain ⟨c, hh⟩ : ∃ c, (s + r) / 2 = c := ⟨_, rfl⟩
        have eh : ((s : Int) + (r : Int)) / 2 = (c : Int) := by omega
        have hsc : s ≤ c := by omega
        have hcr : c < r := by omega
        obtain ⟨i, hi⟩ : ∃ i, c = a + i := ⟨c - a, by omega⟩
        obtain ⟨j, hj⟩ : ∃ j, pp = m + j + c := ⟨pp - c - m, by omega⟩
        have hiL : i < L.length := by have := HAL.out; omega
        have hjR : j < R.length := by have := HAL.out; omega
        obtain ⟨y, hy⟩ : ∃ y, L[i] = y := ⟨_, rfl⟩
        obtain ⟨x, hx⟩ : ∃ x, R[j] = x := ⟨_, rfl⟩
        have eL : L = L.take i ++ y :: L.drop (i + 1) := by rw [← hy, ← List.drop_eq_getElem_cons hiL, List.take_append_drop]
        have eR : R = R.take j ++ x :: R.drop (j + 1) := by rw [← hx, ← List.drop_eq_getElem_cons hjR, List.take_append_drop]
        have lT : (L.take i).length = i := by rw [List.length_take]; omega
        have lT2 : (R.take j).length = j := by rw [List.length_take]; omega
        have HX := Lib.hid (show ∀ c' (hl : c' < L.length) q (hq : q < R.length), a + c' = c → m + q + (a + c') = pp → L[c'] = y ∧ R[q] = x from fun c' hl q hq h1 h2 => by
          have e1 : c' = i := by omega
          have e2 : q = j := by omega
          subst e1 e2
          exact ⟨hy, hx⟩)
        have h1 := HRW.out
        rw [eL, eR] at h1
        obtain ⟨q, hq⟩ : ∃ q, m + j = q := ⟨_, rfl⟩
        have e6 : (pp : Int) - (c : Int) = (q : Int) := by omega
        have HW := Lib.hid (show RwF wr base g cap n ((P ++ L.take i) ++ y :: ((L.drop (i + 1) ++ R.take j) ++ x :: (R.drop (j + 1) ++ S))) by simpa using h1)
        have HLP := Lib.hid (show (P ++ L.take i).length = c by rw [List.length_append, HAL.out.1, lT]; omega)
        have HLQ := Lib.hid (show (P ++ L.take i).length + 1 + (L.drop (i + 1) ++ R.take j).length = q by rw [HLP.out, List.length_append, List.length_drop, lT2]; have := HAL.out; omega)
        have hcn : c < n := by omega
        have hqn : q < n := by have := HAL.out; omega
        clear h1 eL eR lT lT2 hy hx hh hq hi hj
        have HCMP := Lib.hid (fun W => order_any x y W)
        unfold firA at HCMP
        have HCZ := Lib.hid (cmpZ_lt x.nominal y.nominal)
        obtain ⟨z, hz⟩ : ∃ z, cmpZ x.nominal y.nominal = z := ⟨_, rfl⟩
        rw [hz] at HCMP HCZ
        clear hz
        have HK := Lib.hid (fun (W : World) (hb : Below wr.heap.size wr W) => show (_ ∧ _ ∧ _ ∧ _) ∧ (_ ∧ _ ∧ _ ∧ _) from ⟨HLQ.out ▸ (HW.out.below hb).at2, HLP.out ▸ (HW.out.below hb).at_⟩)
        by_cases hxy : x.nominal < y.nominal
        · have hz : z < 0 := by rw [HCZ.out]; exact hxy
          go_wp2_with fail
          refine wp_env (fin := ?fnAt) (by kernel_rfl) [158, 159, 160, 161, 162, 163, 164, 165, 166, 167, 168, 169, 170, 171]
            [.func (.func 15) #[] #[], .slice (some ⟨g, 0, none⟩) n cap, .int .i64 pp, .int .i64 c, .int .i64 q, .pointer (some ⟨g, q * 4, none⟩), firA x, .slice (some ⟨g, 0, none⟩) n cap, .int .i64 c, .pointer (some ⟨g, c * 4, none⟩), firA y, .int .i64 z, .bool true, .bool false] (by kernel_rfl) ?finAt ?stepsAt ?nextAt
          case finAt =>
            simp only [putAll, Act.put, List.setIfInBounds_toArray, List.set_cons_succ, List.set_cons_zero]
            rfl
          case stepsAt =>
            unfold firA
            refine ⟨.inr ⟨by kernel_rfl, fun w1_ hB_ => ?_⟩, .inr ⟨by kernel_rfl, fun w1_ hB_ => ?_⟩, .inr ⟨by kernel_rfl, fun w1_ hB_ => ?_⟩, .inr ⟨by kernel_rfl, fun w1_ hB_ => ?_⟩, .inr ⟨by kernel_rfl, fun w1_ hB_ => ?_⟩, .inr ⟨by kernel_rfl, fun w1_ hB_ => ?_⟩, .inr ⟨by kernel_rfl, fun w1_ hB_ => ?_⟩, .inr ⟨by kernel_rfl, fun w1_ hB_ => ?_⟩, .inr ⟨by kernel_rfl, fun w1_ hB_ => ?_⟩, .inr ⟨by kernel_rfl, fun w1_ hB_ => ?_⟩, .inr ⟨by kernel_rfl, fun w1_ hB_ => ?_⟩, .inr ⟨by kernel_rfl, fun w1_ hB_ => ?_⟩, .inr ⟨by kernel_rfl, fun w1_ hB_ => ?_⟩, .inr ⟨by kernel_rfl, fun w1_ hB_ => ?_⟩, trivial⟩
            all_goals
              obtain ⟨⟨c0, c1, c2, c3⟩, ⟨d0, d1, d2, d3⟩⟩ := HK.out w1_ hB_
              clear hB_
              go_simp
              first
                | exact ⟨rfl, Below.refl _ _⟩
                | exact ⟨rfl, HCMP.out w1_⟩
                | (rw [IntWalk.i64_in _ (by omega)]; exact ⟨rfl, Below.refl _ _⟩)
                | (rw [decide_eq_true (by omega)]; exact ⟨rfl, Below.refl _ _⟩)
                | (rw [decide_eq_false (by omega)]; exact ⟨rfl, Below.refl _ _⟩)
                | (rw [if_pos (by omega)]; exact ⟨rfl, Below.refl _ _⟩)
                | done
          case nextAt =>
          intro w7 hb7
          have HB7 := Lib.hid hb7
          clear hb7
          go_wp2_with fail
          go_roundw
          case rel => exact ⟨s, c, rfl, rfl, hsl, by omega, by omega, HLO.out, fun c' hl q' hq' h1 h2 h3 => by rw [(HX.out c' hl q' hq' h2 h3).1, (HX.out c' hl q' hq' h2 h3).2]; exact hxy, HRW.out.below HB7.out, HFR.out.then (Fr.of_below HB7.out (Nat.le_refl _))⟩
          case measure => simp [intOf]; omega
        · have hz : ¬ z < 0 := by rw [HCZ.out]; exact hxy
          go_wp2_with fail
          refine wp_env (fin := ?fnAf) (by kernel_rfl) [158, 159, 160, 161, 162, 163, 164, 165, 166, 167, 168, 169, 170, 171]
            [.func (.func 15) #[] #[], .slice (some ⟨g, 0, none⟩) n cap, .int .i64 pp, .int .i64 c, .int .i64 q, .pointer (some ⟨g, q * 4, none⟩), firA x, .slice (some ⟨g, 0, none⟩) n cap, .int .i64 c, .pointer (some ⟨g, c * 4, none⟩), firA y, .int .i64 z, .bool false, .bool true] (by kernel_rfl) ?finAf ?stepsAf ?nextAf
          case finAf =>
            simp only [putAll, Act.put, List.setIfInBounds_toArray, List.set_cons_succ, List.set_cons_zero]
            rfl
          case stepsAf =>
            unfold firA
            refine ⟨.inr ⟨by kernel_rfl, fun w1_ hB_ => ?_⟩, .inr ⟨by kernel_rfl, fun w1_ hB_ => ?_⟩, .inr ⟨by kernel_rfl, fun w1_ hB_ => ?_⟩, .inr ⟨by kernel_rfl, fun w1_ hB_ => ?_⟩, .inr ⟨by kernel_rfl, fun w1_ hB_ => ?_⟩, .inr ⟨by kernel_rfl, fun w1_ hB_ => ?_⟩, .inr ⟨by kernel_rfl, fun w1_ hB_ => ?_⟩, .inr ⟨by kernel_rfl, fun w1_ hB_ => ?_⟩, .inr ⟨by kernel_rfl, fun w1_ hB_ => ?_⟩, .inr ⟨by kernel_rfl, fun w1_ hB_ => ?_⟩, .inr ⟨by kernel_rfl, fun w1_ hB_ => ?_⟩, .inr ⟨by kernel_rfl, fun w1_ hB_ => ?_⟩, .inr ⟨by kernel_rfl, fun w1_ hB_ => ?_⟩, .inr ⟨by kernel_rfl, fun w1_ hB_ => ?_⟩, trivial⟩
            all_goals
              obtain ⟨⟨c0, c1, c2, c3⟩, ⟨d0, d1, d2, d3⟩⟩ := HK.out w1_ hB_
              clear hB_
              go_simp
              first
                | exact ⟨rfl, Below.refl _ _⟩
                | exact ⟨rfl, HCMP.out w1_⟩
                | (rw [IntWalk.i64_in _ (by omega)]; exact ⟨rfl, Below.refl _ _⟩)
                | (rw [decide_eq_true (by omega)]; exact ⟨rfl, Below.refl _ _⟩)
                | (rw [decide_eq_false (by omega)]; exact ⟨rfl, Below.refl _ _⟩)
                | (rw [if_pos (by omega)]; exact ⟨rfl, Below.refl _ _⟩)
                | done
          case nextAf =>
          intro w7 hb7
          have HB7 := Lib.hid hb7
          clear hb7
          go_wp2_with fail
          go_roundw
          case rel => exact ⟨c + 1, r, by go_num, rfl, by omega, by omega, hrl, fun c' hl q' hq' h1 h2 h3 => by
            have e := HX.out c' hl q' hq' (by omega) h3
            rw [e.1, e.2]
            omega, HHI.out, HRW.out.below HB7.out, HFR.out.then (Fr.of_below HB7.out (Nat.le_refl _))⟩
          case measure => simp [intOf]; omega
      · obtain rfl : s = r := by omega
        have hd : decide ((s : Int) < (s : Int)) = false := decide_eq_false (by omega)
        obtain ⟨en, hen⟩ : ∃ en, mid + m - s = en := ⟨_, rfl⟩
        have e7 : (mid : Int) + (m : Int) - (s : Int) = (en : Int) := by omega
        have hal := HAL.out
        have hsm : a ≤ s ∧ s ≤ m ∧ m ≤ en ∧ en ≤ b := by omega
        obtain ⟨L1, L2, rfl, l1⟩ : ∃ L1 L2, L = L1 ++ L2 ∧ L1.length = s - a := ⟨L.take (s - a), L.drop (s - a), (List.take_append_drop _ L).symm, by rw [List.length_take]; omega⟩
        obtain ⟨R1, R2, rfl, r1⟩ : ∃ R1 R2, R = R1 ++ R2 ∧ R1.length = en - m := ⟨R.take (en - m), R.drop (en - m), (List.take_append_drop _ R).symm, by rw [List.length_take]; omega⟩
        have hsL := List.pairwise_append.1 HSO.out.1
        have hsR := List.pairwise_append.1 HSO.out.2
        have HSS := Lib.hid (show FSorted L1 ∧ FSorted L2 ∧ FSorted R1 ∧ FSorted R2 from ⟨hsL.1, hsL.2.1, hsR.1, hsR.2.1⟩)
        have HLEN := Lib.hid (show P.length = a ∧ L1.length + a = s ∧ L2.length + s = m ∧ R1.length + m = en ∧ R2.length + en = b by simp only [List.length_append] at hal; omega)
        have H1 : ∀ l ∈ L1, ∀ r ∈ R2, l.nominal ≤ r.nominal := fun l hl r hr => by
          have p1 : 0 < L1.length := List.length_pos_of_mem hl
          have p2 : 0 < R2.length := List.length_pos_of_mem hr
          have h1 := HLO.out (L1.length - 1) (by rw [List.length_append]; omega) R1.length (by rw [List.length_append]; omega) (by have := HLEN.out; omega) (by have := HLEN.out; omega) (by have := HLEN.out; omega)
          rw [List.getElem_append_left (by omega), List.getElem_append_right (Nat.le_refl _)] at h1
          simp only [Nat.sub_self] at h1
          have h2 := take_le (key := Fir.nominal) HSS.out.1 (s := L1.length - 1) (by omega) l (by rw [List.take_of_length_le (by omega)]; exact hl)
          have h3 := drop_ge (key := Fir.nominal) HSS.out.2.2.2 (s := 0) p2 r (by simpa using hr)
          omega
        have H2 : ∀ r ∈ R1, ∀ l ∈ L2, r.nominal < l.nominal := fun r hr l hl => by
          have p1 : 0 < R1.length := List.length_pos_of_mem hr
          have p2 : 0 < L2.length := List.length_pos_of_mem hl
          have h1 := HHI.out L1.length (by rw [List.length_append]; omega) (R1.length - 1) (by rw [List.length_append]; omega) (by have := HLEN.out; omega) (by have := HLEN.out; omega) (by have := HLEN.out; omega)
          rw [List.getElem_append_left (by omega), List.getElem_append_right (Nat.le_refl _)] at h1
          simp only [Nat.sub_self] at h1
          have h2 := take_le (key := Fir.nominal) HSS.out.2.2.1 (s := R1.length - 1) (by omega) r (by rw [List.take_of_length_le (by omega)]; exact hr)
          have h3 := drop_ge (key := Fir.nominal) HSS.out.2.1 (s := 0) p2 l (by simpa using hl)
          omega
        have HSY := Lib.hid (fun M1 M2 (m1 : Stab Fir.nominal (L1 ++ R1) M1) (m2 : Stab Fir.nominal (L2 ++ R2) M2) => Stab.sym H1 H2 HSO.out.1 HSO.out.2 m1 m2)
        have HRW2 := Lib.hid (show RwF wr base g cap n ((P ++ L1) ++ (L2 ++ (R1 ++ (R2 ++ S)))) by have h := HRW.out; simpa using h)
        have HEN := Lib.hid hen
        have hmid2 : s ≤ mid ∧ mid ≤ en := by omega
        clear H1 H2 HRW hsL hsR l1 r1 hal hen HLO HHI
        by_cases h1 : s < m ∧ m < en
        · have hc1 : (decide ((s : Int) < (m : Int)) && decide ((m : Int) < (en : Int))) = true := by simp; omega
          have HC1 := Lib.hid (rotate_F wr base g cap n s m en (P ++ L1) L2 R1 (R2 ++ S) (.func (.func 15) #[] #[]) (by rw [List.length_append]; have := HLEN.out; omega) (by have := HLEN.out; omega) (by have := HLEN.out; omega) (by have := HLEN.out; omega) (by have := HLEN.out; omega) hn HRW2.out)
          go_wp2_with fail
          refine HC1.out.mono ?_
          rintro e w3 ⟨rfl, hrw3, hfr3⟩
          have H3 := Lib.hid (show RwF w3 base g cap n (P ++ (L1 ++ (R1 ++ (L2 ++ (R2 ++ S))))) ∧ Fr (fun k => k = g) W0 w3 from ⟨by simpa using hrw3, HFR.out.then hfr3⟩)
          clear hrw3 hfr3 HC1
          by_cases h2 : a < s ∧ s < mid
          · have hc2 : (decide ((a : Int) < (s : Int)) && decide ((s : Int) < (mid : Int))) = true := by simp; omega
            have HC2 := Lib.hid (HIH.out _ a s mid P L1 R1 (L2 ++ (R2 ++ S)) (by have := HLEN.out; omega) (by have := HLEN.out; omega) (by have := HLEN.out; omega) (by have := HLEN.out; omega) (by have := HLEN.out; omega) (by omega) HSS.out.1 HSS.out.2.2.1 H3.out.1)
            go_wp2_with fail
            all_goals
              refine HC2.out.mono ?_
              rintro e w4 ⟨rfl, M1, hm1, hrw4, hfr4⟩
              have HM1 := Lib.hid hm1
              have H4 := Lib.hid (And.intro hrw4 (H3.out.2.then hfr4))
              clear hm1 hrw4 hfr4 HC2
              by_cases h3 : mid < en ∧ en < b
              · have hc3 : (decide ((mid : Int) < (en : Int)) && decide ((en : Int) < (b : Int))) = true := by simp; omega
                have HC3 := Lib.hid (HIH.out _ mid en b (P ++ M1) L2 R2 S (by rw [List.length_append, HM1.out.len, List.length_append]; have := HLEN.out; omega) (by have := HLEN.out; omega) (by have := HLEN.out; omega) (by have := HLEN.out; omega) (by have := HLEN.out; omega) (by omega) HSS.out.2.1 HSS.out.2.2.2 (by have h := H4.out.1; simpa using h))
                go_wp2_with fail
                all_goals
                  refine HC3.out.mono ?_
                  rintro e w5 ⟨rfl, M2, hm2, hrw5, hfr5⟩
                  have H5 := Lib.hid (show RwF w5 base g cap n (P ++ (M1 ++ (M2 ++ S))) ∧ Fr (fun k => k = g) W0 w5 from ⟨by simpa using hrw5, H4.out.2.then hfr5⟩)
                  have HM := Lib.hid (HSY.out M1 M2 HM1.out hm2)
                  clear hm2 hrw5 hfr5 HC3
                  go_wp2_with fail
                  all_goals
                    go_end0
                    exact ⟨rfl, M1 ++ M2, HM.out, by have h := H5.out.1; simpa using h, H5.out.2⟩
              · have hc3 : (decide ((mid : Int) < (en : Int)) && decide ((en : Int) < (b : Int))) = false := by
                  rw [Bool.and_eq_false_iff]
                  rcases Nat.lt_or_ge mid en with h4 | h4
                  · exact .inr (decide_eq_false (by omega))
                  · exact .inl (decide_eq_false (by omega))
                obtain ⟨M2, hM2⟩ : ∃ M2, L2 ++ R2 = M2 := ⟨_, rfl⟩
                have hm2 : Stab Fir.nominal (L2 ++ R2) M2 := by
                  rw [← hM2]
                  rcases (by have := HLEN.out; omega : L2.length = 0 ∨ R2.length = 0) with h | h
                  · rw [List.eq_nil_of_length_eq_zero h, List.nil_append]
                    exact stab_left HSS.out.2.2.2
                  · rw [List.eq_nil_of_length_eq_zero h, List.append_nil]
                    exact stab_left HSS.out.2.1
                have HM := Lib.hid (HSY.out M1 M2 HM1.out hm2)
                have H5 := Lib.hid (show RwF _ base g cap n (P ++ (M1 ++ (M2 ++ S))) ∧ Fr (fun k => k = g) W0 _ from ⟨by have h := H4.out.1; rw [← hM2]; simpa using h, H4.out.2⟩)
                clear hm2 hM2
                go_wp2_with fail
                all_goals
                  go_end0
                  exact ⟨rfl, M1 ++ M2, HM.out, by have h := H5.out.1; simpa using h, H5.out.2⟩
          · have hc2 : (decide ((a : Int) < (s : Int)) && decide ((s : Int) < (mid : Int))) = false := by
              rw [Bool.and_eq_false_iff]
              rcases Nat.lt_or_ge a s with h4 | h4
              · exact .inr (decide_eq_false (by omega))
              · exact .inl (decide_eq_false (by omega))
            obtain ⟨M1, hM1⟩ : ∃ M1, L1 ++ R1 = M1 := ⟨_, rfl⟩
            have HM1 := Lib.hid (show Stab Fir.nominal (L1 ++ R1) M1 by
              rw [← hM1]
              rcases (by have := HLEN.out; omega : L1.length = 0 ∨ R1.length = 0) with h | h
              · rw [List.eq_nil_of_length_eq_zero h, List.nil_append]
                exact stab_left HSS.out.2.2.1
              · rw [List.eq_nil_of_length_eq_zero h, List.append_nil]
                exact stab_left HSS.out.1)
            have H4 := Lib.hid (show RwF _ base g cap n (P ++ (M1 ++ (L2 ++ (R2 ++ S)))) ∧ Fr (fun k => k = g) W0 _ from ⟨by have h := H3.out.1; rw [← hM1]; simpa using h, H3.out.2⟩)
            clear hM1
            by_cases h3 : mid < en ∧ en < b
            · have hc3 : (decide ((mid : Int) < (en : Int)) && decide ((en : Int) < (b : Int))) = true := by simp; omega
              have HC3 := Lib.hid (HIH.out _ mid en b (P ++ M1) L2 R2 S (by rw [List.length_append, HM1.out.len, List.length_append]; have := HLEN.out; omega) (by have := HLEN.out; omega) (by have := HLEN.out; omega) (by have := HLEN.out; omega) (by have := HLEN.out; omega) (by omega) HSS.out.2.1 HSS.out.2.2.2 (by have h := H4.out.1; simpa using h))
              go_wp2_with fail
              all_goals
                refine HC3.out.mono ?_
                rintro e w5 ⟨rfl, M2, hm2, hrw5, hfr5⟩
                have H5 := Lib.hid (show RwF w5 base g cap n (P ++ (M1 ++ (M2 ++ S))) ∧ Fr (fun k => k = g) W0 w5 from ⟨by simpa using hrw5, H4.out.2.then hfr5⟩)
                have HM := Lib.hid (HSY.out M1 M2 HM1.out hm2)
                clear hm2 hrw5 hfr5 HC3
                go_wp2_with fail
                all_goals
                  go_end0
                  exact ⟨rfl, M1 ++ M2, HM.out, by have h := H5.out.1; simpa using h, H5.out.2⟩
            · have hc3 : (decide ((mid : Int) < (en : Int)) && decide ((en : Int) < (b : Int))) = false := by
                rw [Bool.and_eq_false_iff]
                rcases Nat.lt_or_ge mid en with h4 | h4
                · exact .inr (decide_eq_false (by omega))
                · exact .inl (decide_eq_false (by omega))
              obtain ⟨M2, hM2⟩ : ∃ M2, L2 ++ R2 = M2 := ⟨_, rfl⟩
              have hm2 : Stab Fir.nominal (L2 ++ R2) M2 := by
                rw [← hM2]
                rcases (by have := HLEN.out; omega : L2.length = 0 ∨ R2.length = 0) with h | h
                · rw [List.eq_nil_of_length_eq_zero h, List.nil_append]
                  exact stab_left HSS.out.2.2.2
                · rw [List.eq_nil_of_length_eq_zero h, List.append_nil]
                  exact stab_left HSS.out.2.1
              have HM := Lib.hid (HSY.out M1 M2 HM1.out hm2)
              have H5 := Lib.hid (show RwF _ base g cap n (P ++ (M1 ++ (M2 ++ S))) ∧ Fr (fun k => k = g) W0 _ from ⟨by have h := H4.out.1; rw [← hM2]; simpa using h, H4.out.2⟩)
              clear hm2 hM2
              go_wp2_with fail
              all_goals
                go_end0
                exact ⟨rfl, M1 ++ M2, HM.out, by have h := H5.out.1; simpa using h, H5.out.2⟩
        · have hc1 : (decide ((s : Int) < (m : Int)) && decide ((m : Int) < (en : Int))) = false := by
            rw [Bool.and_eq_false_iff]
            rcases Nat.lt_or_ge s m with h4 | h4
            · exact .inr (decide_eq_false (by omega))
            · exact .inl (decide_eq_false (by omega))
          have H3 := Lib.hid (show RwF wr base g cap n (P ++ (L1 ++ (R1 ++ (L2 ++ (R2 ++ S))))) ∧ Fr (fun k => k = g) W0 wr from ⟨by
            have h := HRW2.out
            rcases (by have := HLEN.out; omega : L2.length = 0 ∨ R1.length = 0) with h5 | h5
            · obtain rfl := List.eq_nil_of_length_eq_zero h5
              first | (simpa using h) | exact h
            · obtain rfl := List.eq_nil_of_length_eq_zero h5
              first | (simpa using h) | exact h, HFR.out⟩)
          by_cases h2 : a < s ∧ s < mid
          · have hc2 : (decide ((a : Int) < (s : Int)) && decide ((s : Int) < (mid : Int))) = true := by simp; omega
            have HC2 := Lib.hid (HIH.out _ a s mid P L1 R1 (L2 ++ (R2 ++ S)) (by have := HLEN.out; omega) (by have := HLEN.out; omega) (by have := HLEN.out; omega) (by have := HLEN.out; omega) (by have := HLEN.out; omega) (by omega) HSS.out.1 HSS.out.2.2.1 H3.out.1)
            go_wp2_with fail
            all_goals
              refine HC2.out.mono ?_
              rintro e w4 ⟨rfl, M1, hm1, hrw4, hfr4⟩
              have HM1 := Lib.hid hm1
              have H4 := Lib.hid (And.intro hrw4 (H3.out.2.then hfr4))
              clear hm1 hrw4 hfr4 HC2
              by_cases h3 : mid < en ∧ en < b
              · have hc3 : (decide ((mid : Int) < (en : Int)) && decide ((en : Int) < (b : Int))) = true := by simp; omega
                have HC3 := Lib.hid (HIH.out _ mid en b (P ++ M1) L2 R2 S (by rw [List.length_append, HM1.out.len, List.length_append]; have := HLEN.out; omega) (by have := HLEN.out; omega) (by have := HLEN.out; omega) (by have := HLEN.out; omega) (by have := HLEN.out; omega) (by omega) HSS.out.2.1 HSS.out.2.2.2 (by have h := H4.out.1; simpa using h))
                go_wp2_with fail
                all_goals
                  refine HC3.out.mono ?_
                  rintro e w5 ⟨rfl, M2, hm2, hrw5, hfr5⟩
                  have H5 := Lib.hid (show RwF w5 base g cap n (P ++ (M1 ++ (M2 ++ S))) ∧ Fr (fun k => k = g) W0 w5 from ⟨by simpa using hrw5, H4.out.2.then hfr5⟩)
                  have HM := Lib.hid (HSY.out M1 M2 HM1.out hm2)
                  clear hm2 hrw5 hfr5 HC3
                  go_wp2_with fail
                  all_goals
                    go_end0
                    exact ⟨rfl, M1 ++ M2, HM.out, by have h := H5.out.1; simpa using h, H5.out.2⟩
              · have hc3 : (decide ((mid : Int) < (en : Int)) && decide ((en : Int) < (b : Int))) = false := by
                  rw [Bool.and_eq_false_iff]
                  rcases Nat.lt_or_ge mid en with h4 | h4
                  · exact .inr (decide_eq_false (by omega))
                  · exact .inl (decide_eq_false (by omega))
                obtain ⟨M2, hM2⟩ : ∃ M2, L2 ++ R2 = M2 := ⟨_, rfl⟩
                have hm2 : Stab Fir.nominal (L2 ++ R2) M2 := by
                  rw [← hM2]
                  rcases (by have := HLEN.out; omega : L2.length = 0 ∨ R2.length = 0) with h | h
                  · rw [List.eq_nil_of_length_eq_zero h, List.nil_append]
                    exact stab_left HSS.out.2.2.2
                  · rw [List.eq_nil_of_length_eq_zero h, List.append_nil]
                    exact stab_left HSS.out.2.1
                have HM := Lib.hid (HSY.out M1 M2 HM1.out hm2)
                have H5 := Lib.hid (show RwF _ base g cap n (P ++ (M1 ++ (M2 ++ S))) ∧ Fr (fun k => k = g) W0 _ from ⟨by have h := H4.out.1; rw [← hM2]; simpa using h, H4.out.2⟩)
                clear hm2 hM2
                go_wp2_with fail
                all_goals
                  go_end0
                  exact ⟨rfl, M1 ++ M2, HM.out, by have h := H5.out.1; simpa using h, H5.out.2⟩
          · have hc2 : (decide ((a : Int) < (s : Int)) && decide ((s : Int) < (mid : Int))) = false := by
              rw [Bool.and_eq_false_iff]
              rcases Nat.lt_or_ge a s with h4 | h4
              · exact .inr (decide_eq_false (by omega))
              · exact .inl (decide_eq_false (by omega))
            obtain ⟨M1, hM1⟩ : ∃ M1, L1 ++ R1 = M1 := ⟨_, rfl⟩
            have HM1 := Lib.hid (show Stab Fir.nominal (L1 ++ R1) M1 by
              rw [← hM1]
              rcases (by have := HLEN.out; omega : L1.length = 0 ∨ R1.length = 0) with h | h
              · rw [List.eq_nil_of_length_eq_zero h, List.nil_append]
                exact stab_left HSS.out.2.2.1
              · rw [List.eq_nil_of_length_eq_zero h, List.append_nil]
                exact stab_left HSS.out.1)
            have H4 := Lib.hid (show RwF _ base g cap n (P ++ (M1 ++ (L2 ++ (R2 ++ S)))) ∧ Fr (fun k => k = g) W0 _ from ⟨by have h := H3.out.1; rw [← hM1]; simpa using h, H3.out.2⟩)
            clear hM1
            by_cases h3 : mid < en ∧ en < b
            · have hc3 : (decide ((mid : Int) < (en : Int)) && decide ((en : Int) < (b : Int))) = true := by simp; omega
              have HC3 := Lib.hid (HIH.out _ mid en b (P ++ M1) L2 R2 S (by rw [List.length_append, HM1.out.len, List.length_append]; have := HLEN.out; omega) (by have := HLEN.out; omega) (by have := HLEN.out; omega) (by have := HLEN.out; omega) (by have := HLEN.out; omega) (by omega) HSS.out.2.1 HSS.out.2.2.2 (by have h := H4.out.1; simpa using h))
              go_wp2_with fail
              all_goals
                refine HC3.out.mono ?_
                rintro e w5 ⟨rfl, M2, hm2, hrw5, hfr5⟩
                have H5 := Lib.hid (show RwF w5 base g cap n (P ++ (M1 ++ (M2 ++ S))) ∧ Fr (fun k => k = g) W0 w5 from ⟨by simpa using hrw5, H4.out.2.then hfr5⟩)
                have HM := Lib.hid (HSY.out M1 M2 HM1.out hm2)
                clear hm2 hrw5 hfr5 HC3
                go_wp2_with fail
                all_goals
                  go_end0
                  exact ⟨rfl, M1 ++ M2, HM.out, by have h := H5.out.1; simpa using h, H5.out.2⟩
            · have hc3 : (decide ((mid : Int) < (en : Int)) && decide ((en : Int) < (b : Int))) = false := by
                rw [Bool.and_eq_false_iff]
                rcases Nat.lt_or_ge mid en with h4 | h4
                · exact .inr (decide_eq_false (by omega))
                · exact .inl (decide_eq_false (by omega))
              obtain ⟨M2, hM2⟩ : ∃ M2, L2 ++ R2 = M2 := ⟨_, rfl⟩
              have hm2 : Stab Fir.nominal (L2 ++ R2) M2 := by
                rw [← hM2]
                rcases (by have := HLEN.out; omega : L2.length = 0 ∨ R2.length = 0) with h | h
                · rw [List.eq_nil_of_length_eq_zero h, List.nil_append]
                  exact stab_left HSS.out.2.2.2
                · rw [List.eq_nil_of_length_eq_zero h, List.append_nil]
                  exact stab_left HSS.out.2.1
              have HM := Lib.hid (HSY.out M1 M2 HM1.out hm2)
              have H5 := Lib.hid (show RwF _ base g cap n (P ++ (M1 ++ (M2 ++ S))) ∧ Fr (fun k => k = g) W0 _ from ⟨by have h := H4.out.1; rw [← hM2]; simpa using h, H4.out.2⟩)
              clear hm2 hM2
              go_wp2_with fail
              all_goals
                go_end0
                exact ⟨rfl, M1 ++ M2, HM.out, by have h := H5.out.1; simpa using h, H5.out.2⟩
  · have hd0 : decide ((mid : Int) < (m : Int)) = false := decide_eq_false (by omega)
    go_enter Tryd.func41, Tryd.ntmps41
    go_wp2_with fail
    go_loopw [20, 21] (fun iv jv wr => ∃ (s r : Nat), iv = .int .i64 s ∧ jv = .int .i64 r ∧ a ≤ s ∧ s ≤ r ∧ r ≤ m ∧ (∀ c (hl : c < L.length) q (hq : q < R.length), a ≤ a + c → a + c + 1 = s → m + q + (a + c) = pp → L[c].nominal ≤ R[q].nominal) ∧ (∀ c (hl : c < L.length) q (hq : q < R.length), a + c < m → a + c = r → m + q + (a + c) = pp → R[q].nominal < L[c].nominal) ∧ RwF wr base g cap n (P ++ (L ++ (R ++ S))) ∧ Fr (fun k => k = g) W0 wr) (fun iv jv _ => (intOf jv).toNat - (intOf iv).toNat)
    case atStart => exact ⟨a, m, rfl, rfl, Nat.le_refl _, by omega, Nat.le_refl _, fun c hl q hq h1 h2 h3 => by omega, fun c hl q hq h1 h2 h3 => by omega, HR.out, Fr.refl _ _⟩
    case round =>
      obtain ⟨s, r, rfl, rfl, hsl, hsr, hrl, hlo, hhi, hrw, hfr⟩ := hrel
      have HLO := Lib.hid hlo
      have HHI := Lib.hid hhi
      have HRW := Lib.hid hrw
      have HFR := Lib.hid hfr
      clear hlo hhi hrw hfr
      by_cases hlt : s < r
      · have hd : decide ((s : Int) < (r : Int)) = true := decide_eq_true (by omega)
        obtain ⟨c, hh⟩ : ∃ c, (s + r) / 2 = c := ⟨_, rfl⟩
        have eh : ((s : Int) + (r : Int)) / 2 = (c : Int) := by omega
        have hsc : s ≤ c := by omega
        have hcr : c < r := by omega
        obtain ⟨i, hi⟩ : ∃ i, c = a + i := ⟨c - a, by omega⟩
        obtain ⟨j, hj⟩ : ∃ j, pp = m + j + c := ⟨pp - c - m, by omega⟩
        have hiL : i < L.length := by have := HAL.out; omega
        have hjR : j < R.length := by have := HAL.out; omega
        obtain ⟨y, hy⟩ : ∃ y, L[i] = y := ⟨_, rfl⟩
        obtain ⟨x, hx⟩ : ∃ x, R[j] = x := ⟨_, rfl⟩
        have eL : L = L.take i ++ y :: L.drop (i + 1) := by rw [← hy, ← List.drop_eq_getElem_cons hiL, List.take_append_drop]
        have eR : R = R.take j ++ x :: R.drop (j + 1) := by rw [← hx, ← List.drop_eq_getElem_cons hjR, List.take_append_drop]
        have lT : (L.take i).length = i := by rw [List.length_take]; omega
        have lT2 : (R.take j).length = j := by rw [List.length_take]; omega
        have HX := Lib.hid (show ∀ c' (hl : c' < L.length) q (hq : q < R.length), a + c' = c → m + q + (a + c') = pp → L[c'] = y ∧ R[q] = x from fun c' hl q hq h1 h2 => by
          have e1 : c' = i := by omega
          have e2 : q = j := by omega
          subst e1 e2
          exact ⟨hy, hx⟩)
        have h1 := HRW.out
        rw [eL, eR] at h1
        obtain ⟨q, hq⟩ : ∃ q, m + j = q := ⟨_, rfl⟩
        have e6 : (pp : Int) - (c : Int) = (q : Int) := by omega
        have HW := Lib.hid (show RwF wr base g cap n ((P ++ L.take i) ++ y :: ((L.drop (i + 1) ++ R.take j) ++ x :: (R.drop (j + 1) ++ S))) by simpa using h1)
        have HLP := Lib.hid (show (P ++ L.take i).length = c by rw [List.length_append, HAL.out.1, lT]; omega)
        have HLQ := Lib.hid (show (P ++ L.take i).length + 1 + (L.drop (i + 1) ++ R.take j).length = q by rw [HLP.out, List.length_append, List.length_drop, lT2]; have := HAL.out; omega)
        have hcn : c < n := by omega
        have hqn : q < n := by have := HAL.out; omega
        clear h1 eL eR lT lT2 hy hx hh hq hi hj
        have HCMP := Lib.hid (fun W => order_any x y W)
        unfold firA at HCMP
        have HCZ := Lib.hid (cmpZ_lt x.nominal y.nominal)
        obtain ⟨z, hz⟩ : ∃ z, cmpZ x.nominal y.nominal = z := ⟨_, rfl⟩
        rw [hz] at HCMP HCZ
        clear hz
        have HK := Lib.hid (fun (W : World) (hb : Below wr.heap.size wr W) => show (_ ∧ _ ∧ _ ∧ _) ∧ (_ ∧ _ ∧ _ ∧ _) from ⟨HLQ.out ▸ (HW.out.below hb).at2, HLP.out ▸ (HW.out.below hb).at_⟩)
        by_cases hxy : x.nominal < y.nominal
        · have hz : z < 0 := by rw [HCZ.out]; exact hxy
          go_wp2_with fail
          refine wp_env (fin := ?fnBt) (by kernel_rfl) [158, 159, 160, 161, 162, 163, 164, 165, 166, 167, 168, 169, 170, 171]
            [.func (.func 15) #[] #[], .slice (some ⟨g, 0, none⟩) n cap, .int .i64 pp, .int .i64 c, .int .i64 q, .pointer (some ⟨g, q * 4, none⟩), firA x, .slice (some ⟨g, 0, none⟩) n cap, .int .i64 c, .pointer (some ⟨g, c * 4, none⟩), firA y, .int .i64 z, .bool true, .bool false] (by kernel_rfl) ?finBt ?stepsBt ?nextBt
          case finBt =>
            simp only [putAll, Act.put, List.setIfInBounds_toArray, List.set_cons_succ, List.set_cons_zero]
            rfl
          case stepsBt =>
            unfold firA
            refine ⟨.inr ⟨by kernel_rfl, fun w1_ hB_ => ?_⟩, .inr ⟨by kernel_rfl, fun w1_ hB_ => ?_⟩, .inr ⟨by kernel_rfl, fun w1_ hB_ => ?_⟩, .inr ⟨by kernel_rfl, fun w1_ hB_ => ?_⟩, .inr ⟨by kernel_rfl, fun w1_ hB_ => ?_⟩, .inr ⟨by kernel_rfl, fun w1_ hB_ => ?_⟩, .inr ⟨by kernel_rfl, fun w1_ hB_ => ?_⟩, .inr ⟨by kernel_rfl, fun w1_ hB_ => ?_⟩, .inr ⟨by kernel_rfl, fun w1_ hB_ => ?_⟩, .inr ⟨by kernel_rfl, fun w1_ hB_ => ?_⟩, .inr ⟨by kernel_rfl, fun w1_ hB_ => ?_⟩, .inr ⟨by kernel_rfl, fun w1_ hB_ => ?_⟩, .inr ⟨by kernel_rfl, fun w1_ hB_ => ?_⟩, .inr ⟨by kernel_rfl, fun w1_ hB_ => ?_⟩, trivial⟩
            all_goals
              obtain ⟨⟨c0, c1, c2, c3⟩, ⟨d0, d1, d2, d3⟩⟩ := HK.out w1_ hB_
              clear hB_
              go_simp
              first
                | exact ⟨rfl, Below.refl _ _⟩
                | exact ⟨rfl, HCMP.out w1_⟩
                | (rw [IntWalk.i64_in _ (by omega)]; exact ⟨rfl, Below.refl _ _⟩)
                | (rw [decide_eq_true (by omega)]; exact ⟨rfl, Below.refl _ _⟩)
                | (rw [decide_eq_false (by omega)]; exact ⟨rfl, Below.refl _ _⟩)
                | (rw [if_pos (by omega)]; exact ⟨rfl, Below.refl _ _⟩)
                | done
          case nextBt =>
          intro w7 hb7
          have HB7 := Lib.hid hb7
          clear hb7
          go_wp2_with fail
          go_roundw
          case rel => exact ⟨s, c, rfl, rfl, hsl, by omega, by omega, HLO.out, fun c' hl q' hq' h1 h2 h3 => by rw [(HX.out c' hl q' hq' h2 h3).1, (HX.out c' hl q' hq' h2 h3).2]; exact hxy, HRW.out.below HB7.out, HFR.out.then (Fr.of_below HB7.out (Nat.le_refl _))⟩
          case measure => simp [intOf]; omega
        · have hz : ¬ z < 0 := by rw [HCZ.out]; exact hxy
          go_wp2_with fail
          refine wp_env (fin := ?fnBf) (by kernel_rfl) [158, 159, 160, 161, 162, 163, 164, 165, 166, 167, 168, 169, 170, 171]
            [.func (.func 15) #[] #[], .slice (some ⟨g, 0, none⟩) n cap, .int .i64 pp, .int .i64 c, .int .i64 q, .pointer (some ⟨g, q * 4, none⟩), firA x, .slice (some ⟨g, 0, none⟩) n cap, .int .i64 c, .pointer (some ⟨g, c * 4, none⟩), firA y, .int .i64 z, .bool false, .bool true] (by kernel_rfl) ?finBf ?stepsBf ?nextBf
          case finBf =>
            simp only [putAll, Act.put, List.setIfInBounds_toArray, List.set_cons_succ, List.set_cons_zero]
            rfl
          case stepsBf =>
            unfold firA
            refine ⟨.inr ⟨by kernel_rfl, fun w1_ hB_ => ?_⟩, .inr ⟨by kernel_rfl, fun w1_ hB_ => ?_⟩, .inr ⟨by kernel_rfl, fun w1_ hB_ => ?_⟩, .inr ⟨by kernel_rfl, fun w1_ hB_ => ?_⟩, .inr ⟨by kernel_rfl, fun w1_ hB_ => ?_⟩, .inr ⟨by kernel_rfl, fun w1_ hB_ => ?_⟩, .inr ⟨by kernel_rfl, fun w1_ hB_ => ?_⟩, .inr ⟨by kernel_rfl, fun w1_ hB_ => ?_⟩, .inr ⟨by kernel_rfl, fun w1_ hB_ => ?_⟩, .inr ⟨by kernel_rfl, fun w1_ hB_ => ?_⟩, .inr ⟨by kernel_rfl, fun w1_ hB_ => ?_⟩, .inr ⟨by kernel_rfl, fun w1_ hB_ => ?_⟩, .inr ⟨by kernel_rfl, fun w1_ hB_ => ?_⟩, .inr ⟨by kernel_rfl, fun w1_ hB_ => ?_⟩, trivial⟩
            all_goals
              obtain ⟨⟨c0, c1, c2, c3⟩, ⟨d0, d1, d2, d3⟩⟩ := HK.out w1_ hB_
              clear hB_
              go_simp
              first
                | exact ⟨rfl, Below.refl _ _⟩
                | exact ⟨rfl, HCMP.out w1_⟩
                | (rw [IntWalk.i64_in _ (by omega)]; exact ⟨rfl, Below.refl _ _⟩)
                | (rw [decide_eq_true (by omega)]; exact ⟨rfl, Below.refl _ _⟩)
                | (rw [decide_eq_false (by omega)]; exact ⟨rfl, Below.refl _ _⟩)
                | (rw [if_pos (by omega)]; exact ⟨rfl, Below.refl _ _⟩)
                | done
          case nextBf =>
          intro w7 hb7
          have HB7 := Lib.hid hb7
          clear hb7
          go_wp2_with fail
          go_roundw
          case rel => exact ⟨c + 1, r, by go_num, rfl, by omega, by omega, hrl, fun c' hl q' hq' h1 h2 h3 => by
            have e := HX.out c' hl q' hq' (by omega) h3
            rw [e.1, e.2]
            omega, HHI.out, HRW.out.below HB7.out, HFR.out.then (Fr.of_below HB7.out (Nat.le_refl _))⟩
          case measure => simp [intOf]; omega
      · obtain rfl : s = r := by omega
        have hd : decide ((s : Int) < (s : Int)) = false := decide_eq_false (by omega)
        obtain ⟨en, hen⟩ : ∃ en, mid + m - s = en := ⟨_, rfl⟩
        have e7 : (mid : Int) + (m : Int) - (s : Int) = (en : Int) := by omega
        have hal := HAL.out
        have hsm : a ≤ s ∧ s ≤ m ∧ m ≤ en ∧ en ≤ b := by omega
        obtain ⟨L1, L2, rfl, l1⟩ : ∃ L1 L2, L = L1 ++ L2 ∧ L1.length = s - a := ⟨L.take (s - a), L.drop (s - a), (List.take_append_drop _ L).symm, by rw [List.length_take]; omega⟩
        obtain ⟨R1, R2, rfl, r1⟩ : ∃ R1 R2, R = R1 ++ R2 ∧ R1.length = en - m := ⟨R.take (en - m), R.drop (en - m), (List.take_append_drop _ R).symm, by rw [List.length_take]; omega⟩
        have hsL := List.pairwise_append.1 HSO.out.1
        have hsR := List.pairwise_append.1 HSO.out.2
        have HSS := Lib.hid (show FSorted L1 ∧ FSorted L2 ∧ FSorted R1 ∧ FSorted R2 from ⟨hsL.1, hsL.2.1, hsR.1, hsR.2.1⟩)
        have HLEN := Lib.hid (show P.length = a ∧ L1.length + a = s ∧ L2.length + s = m ∧ R1.length + m = en ∧ R2.length + en = b by simp only [List.length_append] at hal; omega)
        have H1 : ∀ l ∈ L1, ∀ r ∈ R2, l.nominal ≤ r.nominal := fun l hl r hr => by
          have p1 : 0 < L1.length := List.length_pos_of_mem hl
          have p2 : 0 < R2.length := List.length_pos_of_mem hr
          have h1 := HLO.out (L1.length - 1) (by rw [List.length_append]; omega) R1.length (by rw [List.length_append]; omega) (by have := HLEN.out; omega) (by have := HLEN.out; omega) (by have := HLEN.out; omega)
          rw [List.getElem_append_left (by omega), List.getElem_append_right (Nat.le_refl _)] at h1
          simp only [Nat.sub_self] at h1
          have h2 := take_le (key := Fir.nominal) HSS.out.1 (s := L1.length - 1) (by omega) l (by rw [List.take_of_length_le (by omega)]; exact hl)
          have h3 := drop_ge (key := Fir.nominal) HSS.out.2.2.2 (s := 0) p2 r (by simpa using hr)
          omega
        have H2 : ∀ r ∈ R1, ∀ l ∈ L2, r.nominal < l.nominal := fun r hr l hl => by
          have p1 : 0 < R1.length := List.length_pos_of_mem hr
          have p2 : 0 < L2.length := List.length_pos_of_mem hl
          have h1 := HHI.out L1.length (by rw [List.length_append]; omega) (R1.length - 1) (by rw [List.length_append]; omega) (by have := HLEN.out; omega) (by have := HLEN.out; omega) (by have := HLEN.out; omega)
          rw [List.getElem_append_left (by omega), List.getElem_append_right (Nat.le_refl _)] at h1
          simp only [Nat.sub_self] at h1
          have h2 := take_le (key := Fir.nominal) HSS.out.2.2.1 (s := R1.length - 1) (by omega) r (by rw [List.take_of_length_le (by omega)]; exact hr)
          have h3 := drop_ge (key := Fir.nominal) HSS.out.2.1 (s := 0) p2 l (by simpa using hl)
          omega
        have HSY := Lib.hid (fun M1 M2 (m1 : Stab Fir.nominal (L1 ++ R1) M1) (m2 : Stab Fir.nominal (L2 ++ R2) M2) => Stab.sym H1 H2 HSO.out.1 HSO.out.2 m1 m2)
        have HRW2 := Lib.hid (show RwF wr base g cap n ((P ++ L1) ++ (L2 ++ (R1 ++ (R2 ++ S)))) by have h := HRW.out; simpa using h)
        have HEN := Lib.hid hen
        have hmid2 : s ≤ mid ∧ mid ≤ en := by omega
        clear H1 H2 HRW hsL hsR l1 r1 hal hen HLO HHI
        by_cases h1 : s < m ∧ m < en
        · have hc1 : (decide ((s : Int) < (m : Int)) && decide ((m : Int) < (en : Int))) = true := by simp; omega
          have HC1 := Lib.hid (rotate_F wr base g cap n s m en (P ++ L1) L2 R1 (R2 ++ S) (.func (.func 15) #[] #[]) (by rw [List.length_append]; have := HLEN.out; omega) (by have := HLEN.out; omega) (by have := HLEN.out; omega) (by have := HLEN.out; omega) (by have := HLEN.out; omega) hn HRW2.out)
          go_wp2_with fail
          refine HC1.out.mono ?_
          rintro e w3 ⟨rfl, hrw3, hfr3⟩
          have H3 := Lib.hid (show RwF w3 base g cap n (P ++ (L1 ++ (R1 ++ (L2 ++ (R2 ++ S))))) ∧ Fr (fun k => k = g) W0 w3 from ⟨by simpa using hrw3, HFR.out.then hfr3⟩)
          clear hrw3 hfr3 HC1
          by_cases h2 : a < s ∧ s < mid
          · have hc2 : (decide ((a : Int) < (s : Int)) && decide ((s : Int) < (mid : Int))) = true := by simp; omega
            have HC2 := Lib.hid (HIH.out _ a s mid P L1 R1 (L2 ++ (R2 ++ S)) (by have := HLEN.out; omega) (by have := HLEN.out; omega) (by have := HLEN.out; omega) (by have := HLEN.out; omega) (by have := HLEN.out; omega) (by omega) HSS.out.1 HSS.out.2.2.1 H3.out.1)
            go_wp2_with fail
            all_goals
              refine HC2.out.mono ?_
              rintro e w4 ⟨rfl, M1, hm1, hrw4, hfr4⟩
              have HM1 := Lib.hid hm1
              have H4 := Lib.hid (And.intro hrw4 (H3.out.2.then hfr4))
              clear hm1 hrw4 hfr4 HC2
              by_cases h3 : mid < en ∧ en < b
              · have hc3 : (decide ((mid : Int) < (en : Int)) && decide ((en : Int) < (b : Int))) = true := by simp; omega
                have HC3 := Lib.hid (HIH.out _ mid en b (P ++ M1) L2 R2 S (by rw [List.length_append, HM1.out.len, List.length_append]; have := HLEN.out; omega) (by have := HLEN.out; omega) (by have := HLEN.out; omega) (by have := HLEN.out; omega) (by have := HLEN.out; omega) (by omega) HSS.out.2.1 HSS.out.2.2.2 (by have h := H4.out.1; simpa using h))
                go_wp2_with fail
                all_goals
                  refine HC3.out.mono ?_
                  rintro e w5 ⟨rfl, M2, hm2, hrw5, hfr5⟩
                  have H5 := Lib.hid (show RwF w5 base g cap n (P ++ (M1 ++ (M2 ++ S))) ∧ Fr (fun k => k = g) W0 w5 from ⟨by simpa using hrw5, H4.out.2.then hfr5⟩)
                  have HM := Lib.hid (HSY.out M1 M2 HM1.out hm2)
                  clear hm2 hrw5 hfr5 HC3
                  go_wp2_with fail
                  all_goals
                    go_end0
                    exact ⟨rfl, M1 ++ M2, HM.out, by have h := H5.out.1; simpa using h, H5.out.2⟩
              · have hc3 : (decide ((mid : Int) < (en : Int)) && decide ((en : Int) < (b : Int))) = false := by
                  rw [Bool.and_eq_false_iff]
                  rcases Nat.lt_or_ge mid en with h4 | h4
                  · exact .inr (decide_eq_false (by omega))
                  · exact .inl (decide_eq_false (by omega))
                obtain ⟨M2, hM2⟩ : ∃ M2, L2 ++ R2 = M2 := ⟨_, rfl⟩
                have hm2 : Stab Fir.nominal (L2 ++ R2) M2 := by
                  rw [← hM2]
                  rcases (by have := HLEN.out; omega : L2.length = 0 ∨ R2.length = 0) with h | h
                  · rw [List.eq_nil_of_length_eq_zero h, List.nil_append]
                    exact stab_left HSS.out.2.2.2
                  · rw [List.eq_nil_of_length_eq_zero h, List.append_nil]
                    exact stab_left HSS.out.2.1
                have HM := Lib.hid (HSY.out M1 M2 HM1.out hm2)
                have H5 := Lib.hid (show RwF _ base g cap n (P ++ (M1 ++ (M2 ++ S))) ∧ Fr (fun k => k = g) W0 _ from ⟨by have h := H4.out.1; rw [← hM2]; simpa using h, H4.out.2⟩)
                clear hm2 hM2
                go_wp2_with fail
                all_goals
                  go_end0
                  exact ⟨rfl, M1 ++ M2, HM.out, by have h := H5.out.1; simpa using h, H5.out.2⟩
          · have hc2 : (decide ((a : Int) < (s : Int)) && decide ((s : Int) < (mid : Int))) = false := by
              rw [Bool.and_eq_false_iff]
              rcases Nat.lt_or_ge a s with h4 | h4
              · exact .inr (decide_eq_false (by omega))
              · exact .inl (decide_eq_false (by omega))
            obtain ⟨M1, hM1⟩ : ∃ M1, L1 ++ R1 = M1 := ⟨_, rfl⟩
            have HM1 := Lib.hid (show Stab Fir.nominal (L1 ++ R1) M1 by
              rw [← hM1]
              rcases (by have := HLEN.out; omega : L1.length = 0 ∨ R1.length = 0) with h | h
              · rw [List.eq_nil_of_length_eq_zero h, List.nil_append]
                exact stab_left HSS.out.2.2.1
              · rw [List.eq_nil_of_length_eq_zero h, List.append_nil]
                exact stab_left HSS.out.1)
            have H4 := Lib.hid (show RwF _ base g cap n (P ++ (M1 ++ (L2 ++ (R2 ++ S)))) ∧ Fr (fun k => k = g) W0 _ from ⟨by have h := H3.out.1; rw [← hM1]; simpa using h, H3.out.2⟩)
            clear hM1
            by_cases h3 : mid < en ∧ en < b
            · have hc3 : (decide ((mid : Int) < (en : Int)) && decide ((en : Int) < (b : Int))) = true := by simp; omega
              have HC3 := Lib.hid (HIH.out _ mid en b (P ++ M1) L2 R2 S (by rw [List.length_append, HM1.out.len, List.length_append]; have := HLEN.out; omega) (by have := HLEN.out; omega) (by have := HLEN.out; omega) (by have := HLEN.out; omega) (by have := HLEN.out; omega) (by omega) HSS.out.2.1 HSS.out.2.2.2 (by have h := H4.out.1; simpa using h))
              go_wp2_with fail
              all_goals
                refine HC3.out.mono ?_
                rintro e w5 ⟨rfl, M2, hm2, hrw5, hfr5⟩
                have H5 := Lib.hid (show RwF w5 base g cap n (P ++ (M1 ++ (M2 ++ S))) ∧ Fr (fun k => k = g) W0 w5 from ⟨by simpa using hrw5, H4.out.2.then hfr5⟩)
                have HM := Lib.hid (HSY.out M1 M2 HM1.out hm2)
                clear hm2 hrw5 hfr5 HC3
                go_wp2_with fail
                all_goals
                  go_end0
                  exact ⟨rfl, M1 ++ M2, HM.out, by have h := H5.out.1; simpa using h, H5.out.2⟩
            · have hc3 : (decide ((mid : Int) < (en : Int)) && decide ((en : Int) < (b : Int))) = false := by
                rw [Bool.and_eq_false_iff]
                rcases Nat.lt_or_ge mid en with h4 | h4
                · exact .inr (decide_eq_false (by omega))
                · exact .inl (decide_eq_false (by omega))
              obtain ⟨M2, hM2⟩ : ∃ M2, L2 ++ R2 = M2 := ⟨_, rfl⟩
              have hm2 : Stab Fir.nominal (L2 ++ R2) M2 := by
                rw [← hM2]
                rcases (by have := HLEN.out; omega : L2.length = 0 ∨ R2.length = 0) with h | h
                · rw [List.eq_nil_of_length_eq_zero h, List.nil_append]
                  exact stab_left HSS.out.2.2.2
                · rw [List.eq_nil_of_length_eq_zero h, List.append_nil]
                  exact stab_left HSS.out.2.1
              have HM := Lib.hid (HSY.out M1 M2 HM1.out hm2)
              have H5 := Lib.hid (show RwF _ base g cap n (P ++ (M1 ++ (M2 ++ S))) ∧ Fr (fun k => k = g) W0 _ from ⟨by have h := H4.out.1; rw [← hM2]; simpa using h, H4.out.2⟩)
              clear hm2 hM2
              go_wp2_with fail
              all_goals
                go_end0
                exact ⟨rfl, M1 ++ M2, HM.out, by have h := H5.out.1; simpa using h, H5.out.2⟩
        · have hc1 : (decide ((s : Int) < (m : Int)) && decide ((m : Int) < (en : Int))) = false := by
            rw [Bool.and_eq_false_iff]
            rcases Nat.lt_or_ge s m with h4 | h4
            · exact .inr (decide_eq_false (by omega))
            · exact .inl (decide_eq_false (by omega))
          have H3 := Lib.hid (show RwF wr base g cap n (P ++ (L1 ++ (R1 ++ (L2 ++ (R2 ++ S))))) ∧ Fr (fun k => k = g) W0 wr from ⟨by
            have h := HRW2.out
            rcases (by have := HLEN.out; omega : L2.length = 0 ∨ R1.length = 0) with h5 | h5
            · obtain rfl := List.eq_nil_of_length_eq_zero h5
              first | (simpa using h) | exact h
            · obtain rfl := List.eq_nil_of_length_eq_zero h5
              first | (simpa using h) | exact h, HFR.out⟩)
          by_cases h2 : a < s ∧ s < mid
          · have hc2 : (decide ((a : Int) < (s : Int)) && decide ((s : Int) < (mid : Int))) = true := by simp; omega
            have HC2 := Lib.hid (HIH.out _ a s mid P L1 R1 (L2 ++ (R2 ++ S)) (by have := HLEN.out; omega) (by have := HLEN.out; omega) (by have := HLEN.out; omega) (by have := HLEN.out; omega) (by have := HLEN.out; omega) (by omega) HSS.out.1 HSS.out.2.2.1 H3.out.1)
            go_wp2_with fail
            all_goals
              refine HC2.out.mono ?_
              rintro e w4 ⟨rfl, M1, hm1, hrw4, hfr4⟩
              have HM1 := Lib.hid hm1
              have H4 := Lib.hid (And.intro hrw4 (H3.out.2.then hfr4))
              clear hm1 hrw4 hfr4 HC2
              by_cases h3 : mid < en ∧ en < b
              · have hc3 : (decide ((mid : Int) < (en : Int)) && decide ((en : Int) < (b : Int))) = true := by simp; omega
                have HC3 := Lib.hid (HIH.out _ mid en b (P ++ M1) L2 R2 S (by rw [List.length_append, HM1.out.len, List.length_append]; have := HLEN.out; omega) (by have := HLEN.out; omega) (by have := HLEN.out; omega) (by have := HLEN.out; omega) (by have := HLEN.out; omega) (by omega) HSS.out.2.1 HSS.out.2.2.2 (by have h := H4.out.1; simpa using h))
                go_wp2_with fail
                all_goals
                  refine HC3.out.mono ?_
                  rintro e w5 ⟨rfl, M2, hm2, hrw5, hfr5⟩
                  have H5 := Lib.hid (show RwF w5 base g cap n (P ++ (M1 ++ (M2 ++ S))) ∧ Fr (fun k => k = g) W0 w5 from ⟨by simpa using hrw5, H4.out.2.then hfr5⟩)
                  have HM := Lib.hid (HSY.out M1 M2 HM1.out hm2)
                  clear hm2 hrw5 hfr5 HC3
                  go_wp2_with fail
                  all_goals
                    go_end0
                    exact ⟨rfl, M1 ++ M2, HM.out, by have h := H5.out.1; simpa using h, H5.out.2⟩
              · have hc3 : (decide ((mid : Int) < (en : Int)) && decide ((en : Int) < (b : Int))) = false := by
                  rw [Bool.and_eq_false_iff]
                  rcases Nat.lt_or_ge mid en with h4 | h4
                  · exact .inr (decide_eq_false (by omega))
                  · exact .inl (decide_eq_false (by omega))
                obtain ⟨M2, hM2⟩ : ∃ M2, L2 ++ R2 = M2 := ⟨_, rfl⟩
                have hm2 : Stab Fir.nominal (L2 ++ R2) M2 := by
                  rw [← hM2]
                  rcases (by have := HLEN.out; omega : L2.length = 0 ∨ R2.length = 0) with h | h
                  · rw [List.eq_nil_of_length_eq_zero h, List.nil_append]
                    exact stab_left HSS.out.2.2.2
                  · rw [List.eq_nil_of_length_eq_zero h, List.append_nil]
                    exact stab_left HSS.out.2.1
                have HM := Lib.hid (HSY.out M1 M2 HM1.out hm2)
                have H5 := Lib.hid (show RwF _ base g cap n (P ++ (M1 ++ (M2 ++ S))) ∧ Fr (fun k => k = g) W0 _ from ⟨by have h := H4.out.1; rw [← hM2]; simpa using h, H4.out.2⟩)
                clear hm2 hM2
                go_wp2_with fail
                all_goals
                  go_end0
                  exact ⟨rfl, M1 ++ M2, HM.out, by have h := H5.out.1; simpa using h, H5.out.2⟩
          · have hc2 : (decide ((a : Int) < (s : Int)) && decide ((s : Int) < (mid : Int))) = false := by
              rw [Bool.and_eq_false_iff]
              rcases Nat.lt_or_ge a s with h4 | h4
              · exact .inr (decide_eq_false (by omega))
              · exact .inl (decide_eq_false (by omega))
            obtain ⟨M1, hM1⟩ : ∃ M1, L1 ++ R1 = M1 := ⟨_, rfl⟩
            have HM1 := Lib.hid (show Stab Fir.nominal (L1 ++ R1) M1 by
              rw [← hM1]
              rcases (by have := HLEN.out; omega : L1.length = 0 ∨ R1.length = 0) with h | h
              · rw [List.eq_nil_of_length_eq_zero h, List.nil_append]
                exact stab_left HSS.out.2.2.1
              · rw [List.eq_nil_of_length_eq_zero h, List.append_nil]
                exact stab_left HSS.out.1)
            have H4 := Lib.hid (show RwF _ base g cap n (P ++ (M1 ++ (L2 ++ (R2 ++ S)))) ∧ Fr (fun k => k = g) W0 _ from ⟨by have h := H3.out.1; rw [← hM1]; simpa using h, H3.out.2⟩)
            clear hM1
            by_cases h3 : mid < en ∧ en < b
            · have hc3 : (decide ((mid : Int) < (en : Int)) && decide ((en : Int) < (b : Int))) = true := by simp; omega
              have HC3 := Lib.hid (HIH.out _ mid en b (P ++ M1) L2 R2 S (by rw [List.length_append, HM1.out.len, List.length_append]; have := HLEN.out; omega) (by have := HLEN.out; omega) (by have := HLEN.out; omega) (by have := HLEN.out; omega) (by have := HLEN.out; omega) (by omega) HSS.out.2.1 HSS.out.2.2.2 (by have h := H4.out.1; simpa using h))
              go_wp2_with fail
              all_goals
                refine HC3.out.mono ?_
                rintro e w5 ⟨rfl, M2, hm2, hrw5, hfr5⟩
                have H5 := Lib.hid (show RwF w5 base g cap n (P ++ (M1 ++ (M2 ++ S))) ∧ Fr (fun k => k = g) W0 w5 from ⟨by simpa using hrw5, H4.out.2.then hfr5⟩)
                have HM := Lib.hid (HSY.out M1 M2 HM1.out hm2)
                clear hm2 hrw5 hfr5 HC3
                go_wp2_with fail
                all_goals
                  go_end0
                  exact ⟨rfl, M1 ++ M2, HM.out, by have h := H5.out.1; simpa using h, H5.out.2⟩
            · have hc3 : (decide ((mid : Int) < (en : Int)) && decide ((en : Int) < (b : Int))) = false := by
                rw [Bool.and_eq_false_iff]
                rcases Nat.lt_or_ge mid en with h4 | h4
                · exact .inr (decide_eq_false (by omega))
                · exact .inl (decide_eq_false (by omega))
              obtain ⟨M2, hM2⟩ : ∃ M2, L2 ++ R2 = M2 := ⟨_, rfl⟩
              have hm2 : Stab Fir.nominal (L2 ++ R2) M2 := by
                rw [← hM2]
                rcases (by have := HLEN.out; omega : L2.length = 0 ∨ R2.length = 0) with h | h
                · rw [List.eq_nil_of_length_eq_zero h, List.nil_append]
                  exact stab_left HSS.out.2.2.2
                · rw [List.eq_nil_of_length_eq_zero h, List.append_nil]
                  exact stab_left HSS.out.2.1
              have HM := Lib.hid (HSY.out M1 M2 HM1.out hm2)
              have H5 := Lib.hid (show RwF _ base g cap n (P ++ (M1 ++ (M2 ++ S))) ∧ Fr (fun k => k = g) W0 _ from ⟨by have h := H4.out.1; rw [← hM2]; simpa using h, H4.out.2⟩)
              clear hm2 hM2
              go_wp2_with fail
              all_goals
                go_end0
                exact ⟨rfl, M1 ++ M2, HM.out, by have h := H5.out.1; simpa using h, H5.out.2⟩
theorem symMerge_F (base g cap n : Nat) (hn : n ≤ 1000000000) : ∀ (sz : Nat), ∀ (W : World) (a m b : Nat) (P L R S : List Fir), P.length = a → a + L.length = m → m + R.length = b → 0 < L.length → 0 < R.length → b < a + sz → FSorted L → FSorted R → RwF W base g cap n (P ++ (L ++ (R ++ S))) →
      Calls Tryd.prog 41 #[.slice (some ⟨g, 0, none⟩) n cap, .int .i64 a, .int .i64 m, .int .i64 b, .func (.func 15) #[] #[]] W fun e w' => e = .returned (.tuple #[]) ∧ ∃ M, Stab Fir.nominal (L ++ R) M ∧ RwF w' base g cap n (P ++ (M ++ S)) ∧ Fr (fun k => k = g) W w'
  | 0, W, a, m, b, P, L, R, S, ha, hm, hb, h1, h2, h3, hL, hR, hr => by omega
  | sz + 1, W, a, m, b, P, L, R, S, ha, hm, hb, h1, h2, h3, hL, hR, hr => by
    rcases L with _ | ⟨y, L⟩
    · simp at h1
    · rcases R with _ | ⟨x, R⟩
      · simp at h2
      · rcases L with _ | ⟨y2, L⟩
        · exact symA_F W base g cap n a m b y P (x :: R) S ha (by simpa using hm) hb hR hn hr
        · rcases R with _ | ⟨x2, R⟩
          · exact symB_F W base g cap n a m b x P (y :: y2 :: L) S ha hm (by simp) (by simpa using hb) hL hn hr
          · exact symC_F sz W base g cap n a m b P (y :: y2 :: L) (x :: x2 :: R) S ha hm (by simp) hb (by simp) hL hR hn hr (by omega) (symMerge_F base g cap n hn sz)
end Go.Proofs.YtkdpflgkcnhoiaaDoor
