/-
  Sorting rows of firings, walked: merging in place, one element against many.
-/
import Derived.Test.YtkdpflgkcnhoiaaDoorFSortA
namespace Go.Proofs.YtkdpflgkcnhoiaaDoor
open Go Go.RowKit Go.Shelf
set_option maxRecDepth 100000

def FSorted (l : List Fir) : Prop := l.Pairwise (fun a b => a.nominal ≤ b.nominal)

set_option maxHeartbeats 4000000 in
theorem symA_F (W0 : World) (base g cap n a m b : Nat) (y : Fir) (P R S : List Fir) (ha : P.length = a) (hm : a + 1 = m) (hb : m + R.length = b) (hR0 : FSorted R) (hn : n ≤ 1000000000) (hR : RwF W0 base g cap n (P ++ (y :: (R ++ S)))) :
    Calls Tryd.prog 41 #[.slice (some ⟨g, 0, none⟩) n cap, .int .i64 a, .int .i64 m, .int .i64 b, .func (.func 15) #[] #[]] W0 fun e w' => e = .returned (.tuple #[]) ∧ ∃ M, Stab Fir.nominal (y :: R) M ∧ RwF w' base g cap n (P ++ (M ++ S)) ∧ Fr (fun k => k = g) W0 w' := by
  have hlen := hR.len
  simp only [List.length_append, List.length_cons] at hlen
  rw [ha] at hlen
  have HR := Lib.hid hR
  have HAL := Lib.hid (And.intro ha hb)
  have HRS := Lib.hid hR0
  have hbn : b ≤ n := by omega
  have hmb : m ≤ b := by omega
  have e1 : (m : Int) - (a : Int) = 1 := by omega
  have han : a < n := by omega
  clear hR ha hb hlen hR0
  go_enter Tryd.func41, Tryd.ntmps41
  go_wp2_with fail
  go_loopw [10, 11] (fun iv jv wr => ∃ (i j : Nat), iv = .int .i64 i ∧ jv = .int .i64 j ∧ m ≤ i ∧ i ≤ j ∧ j ≤ b ∧ (∀ q (h : q < R.length), m + q + 1 = i → R[q].nominal < y.nominal) ∧ (∀ q (h : q < R.length), m + q = j → y.nominal ≤ R[q].nominal) ∧ RwF wr base g cap n (P ++ (y :: (R ++ S))) ∧ Fr (fun k => k = g) W0 wr) (fun iv jv _ => (intOf jv).toNat - (intOf iv).toNat)
  case atStart => exact ⟨m, b, rfl, rfl, Nat.le_refl _, hmb, Nat.le_refl _, fun q h e => by omega, fun q h e => by have := HAL.out.2; omega, HR.out, Fr.refl _ _⟩
  case round =>
    obtain ⟨i, j, rfl, rfl, him, hij, hjb, hlo, hhi, hrw, hfr⟩ := hrel
    have HLO := Lib.hid hlo
    have HHI := Lib.hid hhi
    have HRW := Lib.hid hrw
    have HFR := Lib.hid hfr
    clear hlo hhi hrw hfr
    by_cases hlt : i < j
    · have hd : decide ((i : Int) < (j : Int)) = true := decide_eq_true (by omega)
      obtain ⟨h, hh⟩ : ∃ h, (i + j) / 2 = h := ⟨_, rfl⟩
      have eh : ((i : Int) + (j : Int)) / 2 = (h : Int) := by omega
      have hih : i ≤ h := by omega
      have hhj : h < j := by omega
      obtain ⟨q, hq⟩ : ∃ q, h = m + q := ⟨h - m, by omega⟩
      have hqR : q < R.length := by have := HAL.out.2; omega
      obtain ⟨x, hx⟩ : ∃ x, R[q] = x := ⟨_, rfl⟩
      have eR : R = R.take q ++ x :: R.drop (q + 1) := by rw [← hx, ← List.drop_eq_getElem_cons hqR, List.take_append_drop]
      have lT : (R.take q).length = q := by rw [List.length_take]; omega
      have HX := Lib.hid (And.intro hq (show ∀ q' (h' : q' < R.length), m + q' = h → R[q'] = x from fun q' h' e => by
        have : q' = q := by omega
        subst this
        exact hx))
      have h1 := HRW.out
      rw [eR] at h1
      have HW := Lib.hid (show RwF wr base g cap n (P ++ y :: (R.take q ++ x :: (R.drop (q + 1) ++ S))) by simpa using h1)
      have HLP := Lib.hid HAL.out.1
      have HLQ := Lib.hid (show P.length + 1 + (R.take q).length = h by rw [HAL.out.1, lT]; omega)
      have hhn : h < n := by omega
      clear h1 eR lT hx hh hq
      have HCMP := Lib.hid (fun W => order_any x y W)
      unfold firA at HCMP
      have HCZ := Lib.hid (cmpZ_lt x.nominal y.nominal)
      obtain ⟨z, hz⟩ : ∃ z, cmpZ x.nominal y.nominal = z := ⟨_, rfl⟩
      rw [hz] at HCMP HCZ
      clear hz
      have HK := Lib.hid (fun (W : World) (hb : Below wr.heap.size wr W) => show (_ ∧ _ ∧ _ ∧ _) ∧ (_ ∧ _ ∧ _ ∧ _) from ⟨HLQ.out ▸ (HW.out.below hb).at2, HLP.out ▸ (HW.out.below hb).at_⟩)
      by_cases hxy : x.nominal < y.nominal
      · have hz : z < 0 := by rw [HCZ.out]; exact hxy
        go_wp2_with fail
        refine wp_env (fin := ?fnt) (by kernel_rfl) [40, 41, 42, 43, 44, 45, 46, 47, 48, 49, 50]
          [.func (.func 15) #[] #[], .slice (some ⟨g, 0, none⟩) n cap, .int .i64 h, .pointer (some ⟨g, h * 4, none⟩), firA x, .slice (some ⟨g, 0, none⟩) n cap, .int .i64 a, .pointer (some ⟨g, a * 4, none⟩), firA y, .int .i64 z, .bool true] (by kernel_rfl) ?fint ?stepst ?nextt
        case fint =>
          simp only [putAll, Act.put, List.setIfInBounds_toArray, List.set_cons_succ, List.set_cons_zero]
          rfl
        case stepst =>
          unfold firA
          refine ⟨.inr ⟨by kernel_rfl, fun w1_ hB_ => ?_⟩, .inr ⟨by kernel_rfl, fun w1_ hB_ => ?_⟩, .inr ⟨by kernel_rfl, fun w1_ hB_ => ?_⟩, .inr ⟨by kernel_rfl, fun w1_ hB_ => ?_⟩, .inr ⟨by kernel_rfl, fun w1_ hB_ => ?_⟩, .inr ⟨by kernel_rfl, fun w1_ hB_ => ?_⟩, .inr ⟨by kernel_rfl, fun w1_ hB_ => ?_⟩, .inr ⟨by kernel_rfl, fun w1_ hB_ => ?_⟩, .inr ⟨by kernel_rfl, fun w1_ hB_ => ?_⟩, .inr ⟨by kernel_rfl, fun w1_ hB_ => ?_⟩, .inr ⟨by kernel_rfl, fun w1_ hB_ => ?_⟩, trivial⟩
          all_goals
            obtain ⟨⟨c0, c1, c2, c3⟩, ⟨d0, d1, d2, d3⟩⟩ := HK.out w1_ hB_
            clear hB_
            go_simp
            first
              | exact ⟨rfl, Below.refl _ _⟩
              | exact ⟨rfl, HCMP.out w1_⟩
              | (rw [IntWalk.i64_in _ (by omega)]; exact ⟨rfl, Below.refl _ _⟩)
              | (rw [decide_eq_true (by omega)]; exact ⟨rfl, Below.refl _ _⟩)
              | (rw [decide_eq_false (by omega)]; exact ⟨rfl, Below.refl _ _⟩)
              | (rw [if_pos (by omega)]; exact ⟨rfl, Below.refl _ _⟩)
              | done
        case nextt =>
        intro w7 hb7
        have HB7 := Lib.hid hb7
        clear hb7
        go_wp2_with fail
        go_roundw
        case rel => exact ⟨h + 1, j, by go_num, rfl, by omega, by omega, hjb, fun q' h' e => by rw [HX.out.2 q' h' (by omega)]; exact hxy, HHI.out, HRW.out.below HB7.out, HFR.out.then (Fr.of_below HB7.out (Nat.le_refl _))⟩
        case measure => simp [intOf]; omega
      · have hz : ¬ z < 0 := by rw [HCZ.out]; exact hxy
        go_wp2_with fail
        refine wp_env (fin := ?fnf) (by kernel_rfl) [40, 41, 42, 43, 44, 45, 46, 47, 48, 49, 50]
          [.func (.func 15) #[] #[], .slice (some ⟨g, 0, none⟩) n cap, .int .i64 h, .pointer (some ⟨g, h * 4, none⟩), firA x, .slice (some ⟨g, 0, none⟩) n cap, .int .i64 a, .pointer (some ⟨g, a * 4, none⟩), firA y, .int .i64 z, .bool false] (by kernel_rfl) ?finf ?stepsf ?nextf
        case finf =>
          simp only [putAll, Act.put, List.setIfInBounds_toArray, List.set_cons_succ, List.set_cons_zero]
          rfl
        case stepsf =>
          unfold firA
          refine ⟨.inr ⟨by kernel_rfl, fun w1_ hB_ => ?_⟩, .inr ⟨by kernel_rfl, fun w1_ hB_ => ?_⟩, .inr ⟨by kernel_rfl, fun w1_ hB_ => ?_⟩, .inr ⟨by kernel_rfl, fun w1_ hB_ => ?_⟩, .inr ⟨by kernel_rfl, fun w1_ hB_ => ?_⟩, .inr ⟨by kernel_rfl, fun w1_ hB_ => ?_⟩, .inr ⟨by kernel_rfl, fun w1_ hB_ => ?_⟩, .inr ⟨by kernel_rfl, fun w1_ hB_ => ?_⟩, .inr ⟨by kernel_rfl, fun w1_ hB_ => ?_⟩, .inr ⟨by kernel_rfl, fun w1_ hB_ => ?_⟩, .inr ⟨by kernel_rfl, fun w1_ hB_ => ?_⟩, trivial⟩
          all_goals
            obtain ⟨⟨c0, c1, c2, c3⟩, ⟨d0, d1, d2, d3⟩⟩ := HK.out w1_ hB_
            clear hB_
            go_simp
            first
              | exact ⟨rfl, Below.refl _ _⟩
              | exact ⟨rfl, HCMP.out w1_⟩
              | (rw [IntWalk.i64_in _ (by omega)]; exact ⟨rfl, Below.refl _ _⟩)
              | (rw [decide_eq_true (by omega)]; exact ⟨rfl, Below.refl _ _⟩)
              | (rw [decide_eq_false (by omega)]; exact ⟨rfl, Below.refl _ _⟩)
              | (rw [if_pos (by omega)]; exact ⟨rfl, Below.refl _ _⟩)
              | done
        case nextf =>
        intro w7 hb7
        have HB7 := Lib.hid hb7
        clear hb7
        go_wp2_with fail
        go_roundw
        case rel => exact ⟨i, h, rfl, rfl, by omega, by omega, by omega, HLO.out, fun q' h' e => by rw [HX.out.2 q' h' (by omega)]; omega, HRW.out.below HB7.out, HFR.out.then (Fr.of_below HB7.out (Nat.le_refl _))⟩
        case measure => simp [intOf]; omega
    · obtain rfl : i = j := by omega
      obtain ⟨i1, hi1⟩ : ∃ i1, i = i1 + 1 := ⟨i - 1, by omega⟩
      have e2 : (i : Int) - 1 = (i1 : Int) := by omega
      have hd : decide ((i : Int) < (i : Int)) = false := decide_eq_false (by omega)
      have hRm : m + R.length = b := HAL.out.2
      obtain ⟨R1, R2, rfl, l1⟩ : ∃ R1 R2, R = R1 ++ R2 ∧ R1.length = i - m := ⟨R.take (i - m), R.drop (i - m), (List.take_append_drop _ R).symm, by rw [List.length_take]; omega⟩
      have HST := Lib.hid (show Stab Fir.nominal (y :: (R1 ++ R2)) (R1 ++ y :: R2) from Stab.sym (L1 := []) (L2 := [y]) (M1 := R1) (M2 := y :: R2) (fun l hl => by simp at hl) (fun r hr l hl => by
        rw [List.mem_singleton.1 hl]
        have hpos : 0 < R1.length := List.length_pos_of_mem hr
        have h1 := HLO.out (R1.length - 1) (by rw [List.length_append]; omega) (by omega)
        rw [List.getElem_append_left (by omega)] at h1
        have h2 := take_le (key := Fir.nominal) (List.pairwise_append.1 HRS.out).1 (s := R1.length - 1) (by omega) r (by rw [List.take_of_length_le (by omega)]; exact hr)
        omega) (by simp) HRS.out (by simpa using stab_left (List.pairwise_append.1 HRS.out).1) (by
        refine stab_left (List.pairwise_cons.2 ⟨fun r hr => ?_, (List.pairwise_append.1 HRS.out).2.1⟩)
        have hpos : 0 < R2.length := List.length_pos_of_mem hr
        have h1 := HHI.out R1.length (by rw [List.length_append]; omega) (by omega)
        rw [List.getElem_append_right (Nat.le_refl _)] at h1
        simp only [Nat.sub_self] at h1
        have h2 := drop_ge (key := Fir.nominal) (List.pairwise_append.1 HRS.out).2.1 (s := 0) hpos r (by simpa using hr)
        omega))
      have HL1 := Lib.hid (show R1.length + a = i1 by omega)
      have h0 := HRW.out
      rw [List.append_assoc R1] at h0
      have HRW2 := Lib.hid h0
      clear h0 HRW HLO HHI HRS l1 hRm hij hjb
      have HI1 := Lib.hid hi1
      clear hi1
      have hin : i1 + 1 ≤ n := by have := HRW2.out.len; simp only [List.length_append, List.length_cons] at this; have := HAL.out.1; have := HL1.out; omega
      have hai : a ≤ i1 := by omega
      go_wp2_with fail
      go_loopw [13] (fun kv wi => ∃ k : Nat, kv = .int .i64 k ∧ a ≤ k ∧ k ≤ i1 ∧ RwF wi base g cap n (P ++ (R1.take (k - a) ++ y :: (R1.drop (k - a) ++ (R2 ++ S)))) ∧ Fr (fun k => k = g) W0 wi) (fun kv _ => i1 - (intOf kv).toNat)
      case atStart => exact ⟨a, rfl, Nat.le_refl _, hai, by rw [Nat.sub_self]; exact HRW2.out, HFR.out⟩
      case round =>
        obtain ⟨k, rfl, hak, hki, hrw, hfr⟩ := hrel
        have HRI := Lib.hid hrw
        have HFI := Lib.hid hfr
        clear hrw hfr
        by_cases hlt : k < i1
        · have hd2 : decide ((k : Int) < (i1 : Int)) = true := decide_eq_true (by omega)
          have hkR : k - a < R1.length := by have := HL1.out; omega
          obtain ⟨x, hx⟩ : ∃ x, R1[k - a] = x := ⟨_, rfl⟩
          have eD : R1.drop (k - a) = x :: R1.drop (k - a + 1) := by rw [List.drop_eq_getElem_cons hkR, hx]
          have eT : R1.take (k - a + 1) = R1.take (k - a) ++ [x] := by rw [List.take_succ_eq_append_getElem hkR, hx]
          have lT : (R1.take (k - a)).length = k - a := by rw [List.length_take]; omega
          have h1 := HRI.out
          rw [eD] at h1
          have HTD := Lib.hid (And.intro eT (show k + 1 - a = k - a + 1 by omega))
          have HW := Lib.hid (show RwF wr base g cap n ((P ++ R1.take (k - a)) ++ y :: ([] ++ x :: (R1.drop (k - a + 1) ++ (R2 ++ S)))) by simpa using h1)
          have HLP := Lib.hid (show (P ++ R1.take (k - a)).length = k by rw [List.length_append, lT, HAL.out.1]; omega)
          have HLQ := Lib.hid (show (P ++ R1.take (k - a)).length + 1 + ([] : List Fir).length = k + 1 by rw [HLP.out]; rfl)
          have hkn : k + 1 < n := by omega
          clear h1 eD eT lT hx
          go_wp2_with fail
          have ⟨d0, d1, d2, d3⟩ := HLP.out ▸ HW.out.at_
          have ⟨c0, c1, c2, c3⟩ := HLQ.out ▸ HW.out.at2
          have fz := HW.out.frozen
          have HSW := Lib.hid (RwF.swap HW.out)
          obtain ⟨wa, hwa⟩ : ∃ W, putF wr.drew g ((k + 1) * 4) y = W := ⟨_, rfl⟩
          obtain ⟨wb, hwb⟩ : ∃ W, putF wr.drew g (k * 4) x = W := ⟨_, rfl⟩
          obtain ⟨wc, hwc⟩ : ∃ W, putF wa g (k * 4) x = W := ⟨_, rfl⟩
          obtain ⟨wd, hwd⟩ : ∃ W, putF wb g ((k + 1) * 4) y = W := ⟨_, rfl⟩
          have HSX := HSW.out
          rw [HLQ.out, HLP.out] at HSX
          rw [hwa, hwb, hwc, hwd] at HSX
          obtain ⟨sA, sB, sC, sD, fC, fD⟩ := HSX
          have HSA := Lib.hid (show ((_ ∧ _ ∧ _ ∧ _) ∧ ∀ j, _) from ⟨HLP.out ▸ sA.at_, fun j => sA.frozen j⟩)
          have HSB := Lib.hid (show ((_ ∧ _ ∧ _ ∧ _) ∧ ∀ j, _) from ⟨HLQ.out ▸ sB.at2, fun j => sB.frozen j⟩)
          have HSE := Lib.hid (fun w8 (h8 : w8 = wc ∨ w8 = wd) => show RwF w8 base g cap n _ ∧ Fr (fun k => k = g) wr w8 by rcases h8 with rfl | rfl; exact ⟨sC, fC⟩; exact ⟨sD, fD⟩)
          clear sA sB sC sD fC fD
          refine wp_envW (fin := ?fns) (by kernel_rfl) [61, 62, 63, 64, 65, 66, 67, 68, 69, 70, 71, 72, 73, 74, 75, 901, 76, 900]
            [.slice (some ⟨g, 0, none⟩) n cap, .int .i64 k, .slice (some ⟨g, 0, none⟩) n cap, .int .i64 k, .int .i64 ((k : Int) + 1), .slice (some ⟨g, 0, none⟩) n cap, .int .i64 k, .int .i64 ((k : Int) + 1), .pointer (some ⟨g, (k + 1) * 4, none⟩), firA x, .slice (some ⟨g, 0, none⟩) n cap, .int .i64 k, .pointer (some ⟨g, k * 4, none⟩), firA y, .pointer (some ⟨g, k * 4, none⟩), undef, .pointer (some ⟨g, (k + 1) * 4, none⟩), undef] 17 15 _ _ wa wb wc wd (by kernel_rfl) rfl rfl (by simp) (by simp) (by decide) ?fins ?stepss ?sas ?sbs ?scs ?sds ?nexts
          case fins =>
            simp only [putAll, Act.put, List.setIfInBounds_toArray, List.set_cons_succ, List.set_cons_zero]
            rfl
          case stepss =>
            unfold firA
            refine ⟨.inr (.inr ⟨by kernel_rfl, fun w1_ hB_ => ?_⟩), .inr (.inr ⟨by kernel_rfl, fun w1_ hB_ => ?_⟩), .inr (.inr ⟨by kernel_rfl, fun w1_ hB_ => ?_⟩), .inr (.inr ⟨by kernel_rfl, fun w1_ hB_ => ?_⟩), .inr (.inr ⟨by kernel_rfl, fun w1_ hB_ => ?_⟩), .inr (.inr ⟨by kernel_rfl, fun w1_ hB_ => ?_⟩), .inr (.inr ⟨by kernel_rfl, fun w1_ hB_ => ?_⟩), .inr (.inr ⟨by kernel_rfl, fun w1_ hB_ => ?_⟩), .inr (.inr ⟨by kernel_rfl, fun w1_ hB_ => ?_⟩), .inr (.inr ⟨by kernel_rfl, fun w1_ hB_ => ?_⟩), .inr (.inr ⟨by kernel_rfl, fun w1_ hB_ => ?_⟩), .inr (.inr ⟨by kernel_rfl, fun w1_ hB_ => ?_⟩), .inr (.inr ⟨by kernel_rfl, fun w1_ hB_ => ?_⟩), .inr (.inr ⟨by kernel_rfl, fun w1_ hB_ => ?_⟩), .inr (.inr ⟨by kernel_rfl, fun w1_ hB_ => ?_⟩), .inl rfl, .inr (.inr ⟨by kernel_rfl, fun w1_ hB_ => ?_⟩), .inl rfl, trivial⟩
            all_goals
              first
                | (go_simp; done)
                | (go_simp; rfl)
                | (obtain rfl := hB_ (by kernel_rfl); go_simp; done)
                | (obtain rfl := hB_ (by kernel_rfl); go_simp; rfl)
                | (go_simp; intro hh_; exfalso; omega)
                | (go_simp; intro hh_; exfalso; have := hh_ (by omega); omega)
                | (go_simp; rw [IntWalk.i64_in _ (by omega)] <;> rfl)
                | (go_simp; rw [if_pos (by omega)] <;> rfl)
                | (go_simp; done)
          case sas =>
            rw [← hwa]
            unfold putF firA
            go_simp
            first | done | rfl | done
          case sbs =>
            rw [← hwb]
            unfold putF firA
            go_simp
            first | done | rfl | done
          case scs =>
            obtain ⟨⟨e0, e1, e2, e3⟩, ef⟩ := HSA.out
            rw [← hwc]
            unfold putF firA
            go_simp
            first | done | rfl | done
          case sds =>
            obtain ⟨⟨e0, e1, e2, e3⟩, ef⟩ := HSB.out
            rw [← hwd]
            unfold putF firA
            go_simp
            first | done | rfl | done
          case nexts =>
          rintro w8 h8
          have H8 := Lib.hid (HSE.out w8 h8)
          clear h8
          go_wp2_with fail
          go_roundw
          case rel => exact ⟨k + 1, by go_num, by omega, by omega, by rw [HTD.out.2, HTD.out.1]; have h := H8.out.1; simpa using h, HFI.out.then H8.out.2⟩
          case measure => first | (simp [intOf]; done) | (simp [intOf]; omega)
        · obtain rfl : k = i1 := by omega
          have hd2 : decide ((k : Int) < (k : Int)) = false := decide_eq_false (by omega)
          have hl1 : R1.length = k - a := by have := HL1.out; omega
          have h1 := HRI.out
          have f1 : R1.take (k - a) = R1 := List.take_of_length_le (by omega)
          have f2 : R1.drop (k - a) = [] := List.drop_eq_nil_of_le (by omega)
          rw [f1, f2] at h1
          clear f1 f2 hl1
          go_wp2_with fail
          refine bodyPost_ret (v := .tuple #[]) ?_ rfl ⟨rfl, _, HST.out, by simpa using h1, HFI.out⟩
          simp [results, Tryd.f41, go_sem]
set_option maxHeartbeats 4000000 in
theorem symB_F (W0 : World) (base g cap n a m b : Nat) (x : Fir) (P L S : List Fir) (ha : P.length = a) (hm : a + L.length = m) (hL1 : 1 < L.length) (hb : m + 1 = b) (hL0 : FSorted L) (hn : n ≤ 1000000000) (hR : RwF W0 base g cap n (P ++ (L ++ x :: S))) :
    Calls Tryd.prog 41 #[.slice (some ⟨g, 0, none⟩) n cap, .int .i64 a, .int .i64 m, .int .i64 b, .func (.func 15) #[] #[]] W0 fun e w' => e = .returned (.tuple #[]) ∧ ∃ M, Stab Fir.nominal (L ++ [x]) M ∧ RwF w' base g cap n (P ++ (M ++ S)) ∧ Fr (fun k => k = g) W0 w' := by
  have hlen := hR.len
  simp only [List.length_append, List.length_cons] at hlen
  rw [ha] at hlen
  have HR := Lib.hid hR
  have HAL := Lib.hid (And.intro ha hm)
  have HLS := Lib.hid hL0
  have hbn : b ≤ n := by omega
  have ham : a + 2 ≤ m := by omega
  have e1 : (((m : Int) - (a : Int)) == 1) = false := by simp; omega
  have e2 : (b : Int) - (m : Int) = 1 := by omega
  clear hR ha hm hlen hL0 hL1
  go_enter Tryd.func41, Tryd.ntmps41
  go_wp2_with fail
  go_loopw [14, 15] (fun iv jv wr => ∃ (i j : Nat), iv = .int .i64 i ∧ jv = .int .i64 j ∧ a ≤ i ∧ i ≤ j ∧ j ≤ m ∧ (∀ q (h : q < L.length), a + q + 1 = i → L[q].nominal ≤ x.nominal) ∧ (∀ q (h : q < L.length), a + q = j → x.nominal < L[q].nominal) ∧ RwF wr base g cap n (P ++ (L ++ x :: S)) ∧ Fr (fun k => k = g) W0 wr) (fun iv jv _ => (intOf jv).toNat - (intOf iv).toNat)
  case atStart => exact ⟨a, m, rfl, rfl, Nat.le_refl _, by omega, Nat.le_refl _, fun q h e => by omega, fun q h e => by have := HAL.out.2; omega, HR.out, Fr.refl _ _⟩
  case round =>
    obtain ⟨i, j, rfl, rfl, him, hij, hjb, hlo, hhi, hrw, hfr⟩ := hrel
    have HLO := Lib.hid hlo
    have HHI := Lib.hid hhi
    have HRW := Lib.hid hrw
    have HFR := Lib.hid hfr
    clear hlo hhi hrw hfr
    by_cases hlt : i < j
    · have hd : decide ((i : Int) < (j : Int)) = true := decide_eq_true (by omega)
      obtain ⟨h, hh⟩ : ∃ h, (i + j) / 2 = h := ⟨_, rfl⟩
      have eh : ((i : Int) + (j : Int)) / 2 = (h : Int) := by omega
      have hih : i ≤ h := by omega
      have hhj : h < j := by omega
      obtain ⟨q, hq⟩ : ∃ q, h = a + q := ⟨h - a, by omega⟩
      have hqL : q < L.length := by have := HAL.out.2; omega
      obtain ⟨y, hy⟩ : ∃ y, L[q] = y := ⟨_, rfl⟩
      have eL : L = L.take q ++ y :: L.drop (q + 1) := by rw [← hy, ← List.drop_eq_getElem_cons hqL, List.take_append_drop]
      have lT : (L.take q).length = q := by rw [List.length_take]; omega
      have HX := Lib.hid (And.intro hq (show ∀ q' (h' : q' < L.length), a + q' = h → L[q'] = y from fun q' h' e => by
        have : q' = q := by omega
        subst this
        exact hy))
      have h1 := HRW.out
      rw [eL] at h1
      have HW := Lib.hid (show RwF wr base g cap n ((P ++ L.take q) ++ y :: (L.drop (q + 1) ++ x :: S)) by simpa using h1)
      have HLP := Lib.hid (show (P ++ L.take q).length = h by rw [List.length_append, HAL.out.1, lT]; omega)
      have HLQ := Lib.hid (show (P ++ L.take q).length + 1 + (L.drop (q + 1)).length = m by rw [HLP.out, List.length_drop]; have := HAL.out.2; omega)
      have hhn : h < n := by omega
      have hmn : m < n := by omega
      clear h1 eL lT hy hh hq
      have HCMP := Lib.hid (fun W => order_any x y W)
      unfold firA at HCMP
      have HCZ := Lib.hid (cmpZ_lt x.nominal y.nominal)
      obtain ⟨z, hz⟩ : ∃ z, cmpZ x.nominal y.nominal = z := ⟨_, rfl⟩
      rw [hz] at HCMP HCZ
      clear hz
      have HK := Lib.hid (fun (W : World) (hb : Below wr.heap.size wr W) => show (_ ∧ _ ∧ _ ∧ _) ∧ (_ ∧ _ ∧ _ ∧ _) from ⟨HLQ.out ▸ (HW.out.below hb).at2, HLP.out ▸ (HW.out.below hb).at_⟩)
      by_cases hxy : x.nominal < y.nominal
      · have hz : z < 0 := by rw [HCZ.out]; exact hxy
        go_wp2_with fail
        refine wp_env (fin := ?fnt) (by kernel_rfl) [92, 93, 94, 95, 96, 97, 98, 99, 100, 101, 102, 103]
          [.func (.func 15) #[] #[], .slice (some ⟨g, 0, none⟩) n cap, .int .i64 m, .pointer (some ⟨g, m * 4, none⟩), firA x, .slice (some ⟨g, 0, none⟩) n cap, .int .i64 h, .pointer (some ⟨g, h * 4, none⟩), firA y, .int .i64 z, .bool true, .bool false] (by kernel_rfl) ?fint ?stepst ?nextt
        case fint =>
          simp only [putAll, Act.put, List.setIfInBounds_toArray, List.set_cons_succ, List.set_cons_zero]
          rfl
        case stepst =>
          unfold firA
          refine ⟨.inr ⟨by kernel_rfl, fun w1_ hB_ => ?_⟩, .inr ⟨by kernel_rfl, fun w1_ hB_ => ?_⟩, .inr ⟨by kernel_rfl, fun w1_ hB_ => ?_⟩, .inr ⟨by kernel_rfl, fun w1_ hB_ => ?_⟩, .inr ⟨by kernel_rfl, fun w1_ hB_ => ?_⟩, .inr ⟨by kernel_rfl, fun w1_ hB_ => ?_⟩, .inr ⟨by kernel_rfl, fun w1_ hB_ => ?_⟩, .inr ⟨by kernel_rfl, fun w1_ hB_ => ?_⟩, .inr ⟨by kernel_rfl, fun w1_ hB_ => ?_⟩, .inr ⟨by kernel_rfl, fun w1_ hB_ => ?_⟩, .inr ⟨by kernel_rfl, fun w1_ hB_ => ?_⟩, .inr ⟨by kernel_rfl, fun w1_ hB_ => ?_⟩, trivial⟩
          all_goals
            obtain ⟨⟨c0, c1, c2, c3⟩, ⟨d0, d1, d2, d3⟩⟩ := HK.out w1_ hB_
            clear hB_
            go_simp
            first
              | exact ⟨rfl, Below.refl _ _⟩
              | exact ⟨rfl, HCMP.out w1_⟩
              | (rw [IntWalk.i64_in _ (by omega)]; exact ⟨rfl, Below.refl _ _⟩)
              | (rw [decide_eq_true (by omega)]; exact ⟨rfl, Below.refl _ _⟩)
              | (rw [decide_eq_false (by omega)]; exact ⟨rfl, Below.refl _ _⟩)
              | (rw [if_pos (by omega)]; exact ⟨rfl, Below.refl _ _⟩)
              | done
        case nextt =>
        intro w7 hb7
        have HB7 := Lib.hid hb7
        clear hb7
        go_wp2_with fail
        go_roundw
        case rel => exact ⟨i, h, rfl, rfl, by omega, by omega, by omega, HLO.out, fun q' h' e => by rw [HX.out.2 q' h' (by omega)]; exact hxy, HRW.out.below HB7.out, HFR.out.then (Fr.of_below HB7.out (Nat.le_refl _))⟩
        case measure => simp [intOf]; omega
      · have hz : ¬ z < 0 := by rw [HCZ.out]; exact hxy
        go_wp2_with fail
        refine wp_env (fin := ?fnf) (by kernel_rfl) [92, 93, 94, 95, 96, 97, 98, 99, 100, 101, 102, 103]
          [.func (.func 15) #[] #[], .slice (some ⟨g, 0, none⟩) n cap, .int .i64 m, .pointer (some ⟨g, m * 4, none⟩), firA x, .slice (some ⟨g, 0, none⟩) n cap, .int .i64 h, .pointer (some ⟨g, h * 4, none⟩), firA y, .int .i64 z, .bool false, .bool true] (by kernel_rfl) ?finf ?stepsf ?nextf
        case finf =>
          simp only [putAll, Act.put, List.setIfInBounds_toArray, List.set_cons_succ, List.set_cons_zero]
          rfl
        case stepsf =>
          unfold firA
          refine ⟨.inr ⟨by kernel_rfl, fun w1_ hB_ => ?_⟩, .inr ⟨by kernel_rfl, fun w1_ hB_ => ?_⟩, .inr ⟨by kernel_rfl, fun w1_ hB_ => ?_⟩, .inr ⟨by kernel_rfl, fun w1_ hB_ => ?_⟩, .inr ⟨by kernel_rfl, fun w1_ hB_ => ?_⟩, .inr ⟨by kernel_rfl, fun w1_ hB_ => ?_⟩, .inr ⟨by kernel_rfl, fun w1_ hB_ => ?_⟩, .inr ⟨by kernel_rfl, fun w1_ hB_ => ?_⟩, .inr ⟨by kernel_rfl, fun w1_ hB_ => ?_⟩, .inr ⟨by kernel_rfl, fun w1_ hB_ => ?_⟩, .inr ⟨by kernel_rfl, fun w1_ hB_ => ?_⟩, .inr ⟨by kernel_rfl, fun w1_ hB_ => ?_⟩, trivial⟩
          all_goals
            obtain ⟨⟨c0, c1, c2, c3⟩, ⟨d0, d1, d2, d3⟩⟩ := HK.out w1_ hB_
            clear hB_
            go_simp
            first
              | exact ⟨rfl, Below.refl _ _⟩
              | exact ⟨rfl, HCMP.out w1_⟩
              | (rw [IntWalk.i64_in _ (by omega)]; exact ⟨rfl, Below.refl _ _⟩)
              | (rw [decide_eq_true (by omega)]; exact ⟨rfl, Below.refl _ _⟩)
              | (rw [decide_eq_false (by omega)]; exact ⟨rfl, Below.refl _ _⟩)
              | (rw [if_pos (by omega)]; exact ⟨rfl, Below.refl _ _⟩)
              | done
        case nextf =>
        intro w7 hb7
        have HB7 := Lib.hid hb7
        clear hb7
        go_wp2_with fail
        go_roundw
        case rel => exact ⟨h + 1, j, by go_num, rfl, by omega, by omega, hjb, fun q' h' e => by rw [HX.out.2 q' h' (by omega)]; omega, HHI.out, HRW.out.below HB7.out, HFR.out.then (Fr.of_below HB7.out (Nat.le_refl _))⟩
        case measure => simp [intOf]; omega
    · obtain rfl : i = j := by omega
      have hd : decide ((i : Int) < (i : Int)) = false := decide_eq_false (by omega)
      have hLm : a + L.length = m := HAL.out.2
      obtain ⟨L1, L2, rfl, l1⟩ : ∃ L1 L2, L = L1 ++ L2 ∧ L1.length = i - a := ⟨L.take (i - a), L.drop (i - a), (List.take_append_drop _ L).symm, by rw [List.length_take]; omega⟩
      have hs1 := List.pairwise_append.1 HLS.out
      have HST := Lib.hid (show Stab Fir.nominal ((L1 ++ L2) ++ [x]) ((L1 ++ [x]) ++ L2) from Stab.sym (L1 := L1) (L2 := L2) (R1 := [x]) (R2 := []) (M1 := L1 ++ [x]) (M2 := L2) (fun l hl r hr => by simp at hr) (fun r hr l hl => by
        rw [List.mem_singleton.1 hr]
        have hpos : 0 < L2.length := List.length_pos_of_mem hl
        have h1 := HHI.out L1.length (by rw [List.length_append]; omega) (by omega)
        rw [List.getElem_append_right (Nat.le_refl _)] at h1
        simp only [Nat.sub_self] at h1
        have h2 := drop_ge (key := Fir.nominal) hs1.2.1 (s := 0) hpos l (by simpa using hl)
        omega) HLS.out (by simp) (stab_left (List.pairwise_append.2 ⟨hs1.1, by simp, fun l hl r hr => by
        rw [List.mem_singleton.1 hr]
        have hpos : 0 < L1.length := List.length_pos_of_mem hl
        have h1 := HLO.out (L1.length - 1) (by rw [List.length_append]; omega) (by omega)
        rw [List.getElem_append_left (by omega)] at h1
        have h2 := take_le (key := Fir.nominal) hs1.1 (s := L1.length - 1) (by omega) l (by rw [List.take_of_length_le (by omega)]; exact hl)
        omega⟩)) (by simpa using stab_left hs1.2.1))
      have HL2 := Lib.hid (show L1.length + a = i ∧ L2.length + i = m by rw [List.length_append] at hLm; omega)
      have h0 := HRW.out
      rw [List.append_assoc L1] at h0
      have HRW2 := Lib.hid h0
      clear h0 HRW HLO HHI HLS l1 hLm hij hs1
      go_wp2_with fail
      go_loopw [17] (fun kv wi => ∃ k : Nat, kv = .int .i64 k ∧ i ≤ k ∧ k ≤ m ∧ RwF wi base g cap n (P ++ (L1 ++ (L2.take (k - i) ++ x :: (L2.drop (k - i) ++ S)))) ∧ Fr (fun k => k = g) W0 wi) (fun kv _ => (intOf kv).toNat)
      case atStart => exact ⟨m, rfl, by omega, Nat.le_refl _, by
        have f1 : L2.take (m - i) = L2 := List.take_of_length_le (by have := HL2.out.2; omega)
        have f2 : L2.drop (m - i) = [] := List.drop_eq_nil_of_le (by have := HL2.out.2; omega)
        rw [f1, f2]
        exact HRW2.out, HFR.out⟩
      case round =>
        obtain ⟨k, rfl, hik, hkm, hrw, hfr⟩ := hrel
        have HRI := Lib.hid hrw
        have HFI := Lib.hid hfr
        clear hrw hfr
        by_cases hlt : i < k
        · have hd2 : decide ((i : Int) < (k : Int)) = true := decide_eq_true (by omega)
          obtain ⟨p, hp⟩ : ∃ p, k = p + 1 := ⟨k - 1, by omega⟩
          have e5 : (k : Int) - 1 = (p : Int) := by omega
          have hpL : p - i < L2.length := by have := HL2.out.2; omega
          obtain ⟨y, hy⟩ : ∃ y, L2[p - i] = y := ⟨_, rfl⟩
          have eT : L2.take (k - i) = L2.take (p - i) ++ [y] := by rw [show k - i = p - i + 1 by omega, List.take_succ_eq_append_getElem hpL, hy]
          have eD : L2.drop (p - i) = y :: L2.drop (k - i) := by rw [List.drop_eq_getElem_cons hpL, hy, show k - i = p - i + 1 by omega]
          have lT : (L2.take (p - i)).length = p - i := by rw [List.length_take]; omega
          have h1 := HRI.out
          rw [eT] at h1
          have HTD := Lib.hid eD
          have HW := Lib.hid (show RwF wr base g cap n ((P ++ (L1 ++ L2.take (p - i))) ++ y :: ([] ++ x :: (L2.drop (k - i) ++ S))) by simpa using h1)
          have HLP := Lib.hid (show (P ++ (L1 ++ L2.take (p - i))).length = p by rw [List.length_append, List.length_append, lT, HAL.out.1]; have := HL2.out.1; omega)
          have HLQ := Lib.hid (show (P ++ (L1 ++ L2.take (p - i))).length + 1 + ([] : List Fir).length = k by rw [HLP.out]; simp; omega)
          have hkn : k < n := by omega
          have hpk : p < k := by omega
          have HPI := Lib.hid (show i ≤ p ∧ p ≤ m by omega)
          clear h1 eD eT lT hy hp
          go_wp2_with fail
          have ⟨d0, d1, d2, d3⟩ := HLP.out ▸ HW.out.at_
          have ⟨c0, c1, c2, c3⟩ := HLQ.out ▸ HW.out.at2
          have fz := HW.out.frozen
          have HSW := Lib.hid (RwF.swap HW.out)
          obtain ⟨wa, hwa⟩ : ∃ W, putF wr.drew g (k * 4) y = W := ⟨_, rfl⟩
          obtain ⟨wb, hwb⟩ : ∃ W, putF wr.drew g (p * 4) x = W := ⟨_, rfl⟩
          obtain ⟨wc, hwc⟩ : ∃ W, putF wa g (p * 4) x = W := ⟨_, rfl⟩
          obtain ⟨wd, hwd⟩ : ∃ W, putF wb g (k * 4) y = W := ⟨_, rfl⟩
          have HSX := HSW.out
          rw [HLQ.out, HLP.out] at HSX
          rw [hwa, hwb, hwc, hwd] at HSX
          obtain ⟨sA, sB, sC, sD, fC, fD⟩ := HSX
          have HSA := Lib.hid (show ((_ ∧ _ ∧ _ ∧ _) ∧ ∀ j, _) from ⟨HLP.out ▸ sA.at_, fun j => sA.frozen j⟩)
          have HSB := Lib.hid (show ((_ ∧ _ ∧ _ ∧ _) ∧ ∀ j, _) from ⟨HLQ.out ▸ sB.at2, fun j => sB.frozen j⟩)
          have HSE := Lib.hid (fun w8 (h8 : w8 = wc ∨ w8 = wd) => show RwF w8 base g cap n _ ∧ Fr (fun k => k = g) wr w8 by rcases h8 with rfl | rfl; exact ⟨sC, fC⟩; exact ⟨sD, fD⟩)
          clear sA sB sC sD fC fD
          refine wp_envW (fin := ?fns) (by kernel_rfl) [113, 114, 115, 116, 117, 118, 119, 120, 121, 122, 123, 124, 125, 126, 127, 900, 128, 901]
            [.slice (some ⟨g, 0, none⟩) n cap, .int .i64 k, .slice (some ⟨g, 0, none⟩) n cap, .int .i64 k, .int .i64 p, .slice (some ⟨g, 0, none⟩) n cap, .int .i64 k, .int .i64 p, .pointer (some ⟨g, p * 4, none⟩), firA y, .slice (some ⟨g, 0, none⟩) n cap, .int .i64 k, .pointer (some ⟨g, k * 4, none⟩), firA x, .pointer (some ⟨g, k * 4, none⟩), undef, .pointer (some ⟨g, p * 4, none⟩), undef] 15 17 _ _ wa wb wc wd (by kernel_rfl) rfl rfl (by simp) (by simp) (by decide) ?fins ?stepss ?sas ?sbs ?scs ?sds ?nexts
          case fins =>
            simp only [putAll, Act.put, List.setIfInBounds_toArray, List.set_cons_succ, List.set_cons_zero]
            rfl
          case stepss =>
            unfold firA
            refine ⟨.inr (.inr ⟨by kernel_rfl, fun w1_ hB_ => ?_⟩), .inr (.inr ⟨by kernel_rfl, fun w1_ hB_ => ?_⟩), .inr (.inr ⟨by kernel_rfl, fun w1_ hB_ => ?_⟩), .inr (.inr ⟨by kernel_rfl, fun w1_ hB_ => ?_⟩), .inr (.inr ⟨by kernel_rfl, fun w1_ hB_ => ?_⟩), .inr (.inr ⟨by kernel_rfl, fun w1_ hB_ => ?_⟩), .inr (.inr ⟨by kernel_rfl, fun w1_ hB_ => ?_⟩), .inr (.inr ⟨by kernel_rfl, fun w1_ hB_ => ?_⟩), .inr (.inr ⟨by kernel_rfl, fun w1_ hB_ => ?_⟩), .inr (.inr ⟨by kernel_rfl, fun w1_ hB_ => ?_⟩), .inr (.inr ⟨by kernel_rfl, fun w1_ hB_ => ?_⟩), .inr (.inr ⟨by kernel_rfl, fun w1_ hB_ => ?_⟩), .inr (.inr ⟨by kernel_rfl, fun w1_ hB_ => ?_⟩), .inr (.inr ⟨by kernel_rfl, fun w1_ hB_ => ?_⟩), .inr (.inr ⟨by kernel_rfl, fun w1_ hB_ => ?_⟩), .inl rfl, .inr (.inr ⟨by kernel_rfl, fun w1_ hB_ => ?_⟩), .inl rfl, trivial⟩
            all_goals
              first
                | (go_simp; done)
                | (go_simp; rfl)
                | (obtain rfl := hB_ (by kernel_rfl); go_simp; done)
                | (obtain rfl := hB_ (by kernel_rfl); go_simp; rfl)
                | (go_simp; intro hh_; exfalso; omega)
                | (go_simp; intro hh_; exfalso; have := hh_ (by omega); omega)
                | (go_simp; rw [IntWalk.i64_in _ (by omega)] <;> rfl)
                | (go_simp; rw [if_pos (by omega)] <;> rfl)
                | (go_simp; done)
          case sas =>
            rw [← hwa]
            unfold putF firA
            go_simp
            first | done | rfl | done
          case sbs =>
            rw [← hwb]
            unfold putF firA
            go_simp
            first | done | rfl | done
          case scs =>
            obtain ⟨⟨e0, e1, e2, e3⟩, ef⟩ := HSA.out
            rw [← hwc]
            unfold putF firA
            go_simp
            first | done | rfl | done
          case sds =>
            obtain ⟨⟨e0, e1, e2, e3⟩, ef⟩ := HSB.out
            rw [← hwd]
            unfold putF firA
            go_simp
            first | done | rfl | done
          case nexts =>
          rintro w8 h8
          have H8 := Lib.hid (HSE.out w8 h8)
          clear h8
          go_wp2_with fail
          go_roundw
          case rel => exact ⟨p, by first | rfl | go_num, HPI.out.1, HPI.out.2, by rw [HTD.out]; have h := H8.out.1; simpa using h, HFI.out.then H8.out.2⟩
          case measure => first | (simp [intOf]; done) | (simp [intOf]; omega)
        · obtain rfl : k = i := by omega
          have hd2 : decide ((k : Int) < (k : Int)) = false := decide_eq_false (by omega)
          have h1 := HRI.out
          rw [Nat.sub_self] at h1
          go_wp2_with fail
          refine bodyPost_ret (v := .tuple #[]) ?_ rfl ⟨rfl, _, HST.out, by simpa using h1, HFI.out⟩
          simp [results, Tryd.f41, go_sem]
end Go.Proofs.YtkdpflgkcnhoiaaDoor
