/-
  The law ZoneShows, walked.
-/
import Derived.Test.YtonmmgcibpjahaaGreatDoorSh12
section
/- GShows: The law ZoneShows, walked. -/
namespace Go.Proofs.YtonmmgcibpjahaaGreatDoor
open Go Go.RowKit Go.Shelf
set_option maxRecDepth 100000

theorem few_ok {l : List EraF} {S : List SetF} (h : fewB l S = true) : ZOk l S where
  fm := fun x hx => by have := eraFew_fm ((fewB_iff.1 h).1 x hx); omega
  rul := fun s hs => right_ok ((fewB_iff.1 h).2.1 s hs)
  len := by have := (fewB_iff.1 h).2.2.1; omega
set_option maxHeartbeats 16000000 in
theorem shows_walk (w : World) (zn : ByteArray) (ev sv : Value) (l : List EraF) (S : List SetF) (vl : Value) (L : List Int) (he : ErasR w w.heap.size ev l) (hs : SetsR w w.heap.size sv S) (hfm : ∀ x ∈ l, x.fm.size < 1152921504606846976) (hlet : ∀ s ∈ S, letOk s.l)
    (hL : Nums w w.heap.size vl L) (ha : Ahead w) (htab : 0 < w.heap.size) (hm : Tryz.MaxL w) :
    Calls Tryz.prog 3 #[worldA zn ev sv, vl] w fun o w' => o = .returned (.bool true) ∧ Below w.heap.size w w' := by
  obtain ⟨A, cA, rfl, hlc, hcm⟩ := he.form
  obtain ⟨A2, cS, rfl, hlc2, hcm2⟩ := hs.form
  obtain ⟨A3, cL, rfl, hlc3, hcm3⟩ := hL.form
  unfold maxLen at hcm hcm2 hcm3
  have hb0 : Below w.heap.size w (w.alloc (.cells #[.string zn, .slice A l.length cA, .slice A2 S.length cS] 27)) := (Below.refl w.heap.size w).alloc (Nat.le_refl _) _
  have HF := Lib.hid (few_any _ zn _ _ w.heap.size l S (he.below hb0) (hs.below hb0) hb0.size hfm)
  have HXX := Lib.hid (Blk.new w 27 #[.string zn, .slice A l.length cA, .slice A2 S.length cS])
  have HZ0 := Lib.hid (ZW.mk (he.below hb0) (hs.below hb0) (ha.below hb0 (Nat.le_refl _)) htab (hm.below hb0 (Nat.le_refl _)) hb0.size)
  have HL0 := Lib.hid (hL.below hb0)
  have HB0 := Lib.hid hb0
  have HLET := Lib.hid hlet
  clear hb0 he hs hm hlet hfm ha hL
  unfold worldA at HF ⊢
  go_enter Tryz.func3, Tryz.ntmps3
  go_wp2_with fail
  obtain ⟨W0, hW0⟩ : ∃ W, w.alloc (.cells #[.string zn, .slice A l.length cA, .slice A2 S.length cS] 27) = W := ⟨_, rfl⟩
  rw [hW0] at HF HXX HZ0 HB0 HL0
  try simp only [hW0]
  clear hW0
  cases hf : fewB l S with
  | false =>
    rw [hf] at HF
    clear hf
    refine HF.out.mono ?_
    rintro o w1 ⟨rfl, hb⟩
    have HB1 := Lib.hid hb
    clear hb
    go_wp2_with fail
    refine (awake_any _ ((HZ0.out.below (HB1.out)).maxl)).mono ?_
    rintro o wz ⟨rfl, hbz⟩
    have hb9 := HB0.out.trans (((HB1.out).trans (hbz.mono (HB1.out).size)).mono HB0.out.size)
    clear hbz
    go_wp2_with fail
    go_ret
    exact ⟨rfl, hb9⟩
  | true =>
    rw [hf] at HF
    have HFEW := Lib.hid hf
    clear hf
    obtain ⟨E, hE⟩ : ∃ e, errZ S l = e := ⟨_, rfl⟩
    obtain ⟨EL, hEL⟩ : ∃ e, endsZ S l = e := ⟨_, rfl⟩
    refine HF.out.mono ?_
    rintro o w1 ⟨rfl, hb⟩
    have HB1 := Lib.hid hb
    clear hb HF
    have HWR := Lib.hid (wrong_any zn _ _ w.heap.size l S w1 (HZ0.out.below HB1.out) HFEW.out)
    unfold worldA WrongPost at HWR
    simp only [hE, hEL] at HWR
    have HE := Lib.hid hE
    have HEL := Lib.hid hEL
    clear hE hEL
    by_cases h10 : 10 < L.length
    · have hd : decide ((10 : Int) < (L.length : Int)) = true := decide_eq_true (by omega)
      clear h10 HWR
      go_wp2_with fail
      refine (awake_any _ ((HZ0.out.below (HB1.out)).maxl)).mono ?_
      rintro o wz ⟨rfl, hbz⟩
      have hb9 := HB0.out.trans (((HB1.out).trans (hbz.mono (HB1.out).size)).mono HB0.out.size)
      clear hbz
      go_wp2_with fail
      go_ret
      exact ⟨rfl, hb9⟩
    · have hd : decide ((10 : Int) < (L.length : Int)) = false := decide_eq_false (by omega)
      have hL10 : L.length ≤ 10 := by omega
      clear h10
      have hxb := HXX.out.below (HB1.out) HXX.out.lt
      have x0 := hxb.cell 0 (v := .string zn) rfl
      have x1 := hxb.cell 1 (v := .slice A l.length cA) rfl
      have x2 := hxb.cell 2 (v := .slice A2 S.length cS) rfl
      have hxl := hxb.lt
      clear hxb
      go_wp2_with fail
      refine HWR.out.mono ?_
      rintro o w2 ⟨⟨u, rfl, hu⟩, hb⟩
      have HB2 := Lib.hid (HB1.out.trans (hb.mono HB1.out.size))
      have HU := Lib.hid hu
      obtain ⟨A4, c4, rfl, hlc4, hcm4⟩ := hu.form
      unfold maxLen at hcm4
      clear hb hu x0 x1 x2 hxl HWR
      have hxb := HXX.out.below (HB2.out) HXX.out.lt
      have x0 := hxb.cell 0 (v := .string zn) rfl
      have x1 := hxb.cell 1 (v := .slice A l.length cA) rfl
      have x2 := hxb.cell 2 (v := .slice A2 S.length cS) rfl
      have hxl := hxb.lt
      clear hxb
      have HCK := Lib.hid (zcheckZ_any zn _ _ w.heap.size l S w2 (HZ0.out.below HB2.out) (few_ok HFEW.out))
      unfold setsV zoneA worldA at HCK
      rw [HE.out] at HCK
      go_wp2_with fail
      refine HCK.out.mono ?_
      rintro o w3 ⟨rfl, hb⟩
      have HB3 := Lib.hid (HB2.out.trans (hb.mono HB2.out.size))
      have HU3 := Lib.hid ((Nums.below HU.out hb).more hb.size)
      clear hb x0 x1 x2 hxl HCK HU
      have hxb := HXX.out.below (HB3.out) HXX.out.lt
      have x0 := hxb.cell 0 (v := .string zn) rfl
      have x1 := hxb.cell 1 (v := .slice A l.length cA) rfl
      have x2 := hxb.cell 2 (v := .slice A2 S.length cS) rfl
      have hxl := hxb.lt
      clear hxb
      have HEN := Lib.hid (zends_any zn _ _ w.heap.size l S w3 (HZ0.out.below HB3.out) (few_ok HFEW.out))
      unfold setsV zoneA worldA at HEN
      go_wp2_with fail
      refine HEN.out.mono ?_
      rintro o w4 hpost
      obtain ⟨v, rfl, hv, hb⟩ := hpost.nums
      rw [HE.out]
      rw [HEL.out] at hv
      have HB4 := Lib.hid (HB3.out.trans (hb.mono HB3.out.size))
      have HU4 := Lib.hid ((Nums.below HU3.out hb).more hb.size)
      have HV := Lib.hid hv
      obtain ⟨A5, c5, rfl, hlc5, hcm5⟩ := hv.form
      unfold maxLen at hcm5
      clear hb hv hpost x0 x1 x2 hxl HEN HU3
      go_wp2_with fail
      go_loopw [9] (fun iv wr => ∃ k : Nat, k ≤ EL.length ∧ iv = .int .i64 k ∧ Below w4.heap.size w4 wr) (fun iv _ => EL.length - (intOf iv).toNat)
      case atStart => exact ⟨0, Nat.zero_le _, rfl, Below.refl _ _⟩
      case round =>
        obtain ⟨k, hk, rfl, hbi⟩ := hrel
        have HBI := Lib.hid hbi
        have hws := hbi.size
        clear hbi
        by_cases hlt : k < EL.length
        · have hd : decide ((k : Int) < (EL.length : Int)) = true := decide_eq_true (by omega)
          obtain ⟨b4, o4, c4', e, hb4, hc4⟩ := (Nums.below HU4.out HBI.out).cells (by omega)
          cases e
          obtain ⟨b5, o5, c5', e, hb5, hc5⟩ := (Nums.below HV.out HBI.out).cells (by omega)
          cases e
          have e4 := hc4 k hlt
          have e5 := hc5 k hlt
          obtain ⟨n, hn⟩ : ∃ n, EL[k] = n := ⟨_, rfl⟩
          rw [hn] at e4 e5
          have hbl4 : b4 < wr.heap.size := by omega
          have hbl5 : b5 < wr.heap.size := by omega
          clear hc4 hc5 hn
          go_wp2_with fail
          go_quiet (fail)
          go_wp2_with fail
          go_roundw
          case rel => exact ⟨k + 1, by omega, by go_num, below_drewN HBI.out _⟩
          case measure => first | (simp [intOf]; done) | (simp [intOf]; omega)
        · obtain rfl : k = EL.length := by omega
          have hd : decide ((EL.length : Int) < (EL.length : Int)) = false := decide_eq_false (by omega)
          obtain ⟨w5, hw5⟩ : ∃ x, x = wr := ⟨_, rfl⟩
          subst hw5
          have HB5 := Lib.hid (HB4.out.trans (HBI.out.mono HB4.out.size))
          have HU5 := Lib.hid ((Nums.below HU4.out HBI.out).more hws)
          have HRW := Lib.hid (rows_any zn _ _ w.heap.size l S w5 (HZ0.out.below HB5.out) (fewB_iff.1 HFEW.out).2.1 (by have := (fewB_iff.1 HFEW.out).2.2.1; omega))
          unfold worldA RowsPost at HRW
          have hxb := HXX.out.below (HB5.out) HXX.out.lt
          have x0 := hxb.cell 0 (v := .string zn) rfl
          have x1 := hxb.cell 1 (v := .slice A l.length cA) rfl
          have x2 := hxb.cell 2 (v := .slice A2 S.length cS) rfl
          have hxl := hxb.lt
          clear hxb
          clear hk HBI HU4 HV
          go_wp2_with fail
          refine HRW.out.mono ?_
          rintro o w6 ⟨⟨u, R, rfl, hRl, hRok, hRm⟩, hb⟩
          have HB6 := Lib.hid (HB5.out.trans (hb.mono HB5.out.size))
          have HU6 := Lib.hid ((Nums.below HU5.out hb).more hb.size)
          have HRL := Lib.hid hRl
          have HRO := Lib.hid hRok
          have HRM := Lib.hid hRm
          obtain ⟨A6, c6, rfl, hlc6, hcm6⟩ := hRm.form
          unfold maxLen at hcm6
          clear hb hRl hRok hRm x0 x1 x2 hxl HRW HU5
          go_wp2_with fail
          go_loopw [11] (fun iv wr => ∃ k : Nat, k ≤ L.length ∧ iv = .int .i64 k ∧ Below w6.heap.size w6 wr) (fun iv _ => L.length - (intOf iv).toNat)
          case atStart => exact ⟨0, Nat.zero_le _, rfl, Below.refl _ _⟩
          case round =>
            obtain ⟨k, hk, rfl, hbi⟩ := hrel
            have HBI := Lib.hid hbi
            have HB7 := Lib.hid (HB6.out.trans (hbi.mono HB6.out.size))
            have hws7 := hbi.size
            clear hbi
            by_cases hlt : k < L.length
            · have hd : decide ((k : Int) < (L.length : Int)) = true := decide_eq_true (by omega)
              have hxb := HXX.out.below (HB7.out) HXX.out.lt
              have x0 := hxb.cell 0 (v := .string zn) rfl
              have x1 := hxb.cell 1 (v := .slice A l.length cA) rfl
              have x2 := hxb.cell 2 (v := .slice A2 S.length cS) rfl
              have hxl := hxb.lt
              clear hxb
              obtain ⟨bl, ol, cl', e, hbl, hcl⟩ := (HL0.out.below (HB7.out.mono HB0.out.size)).cells (by omega)
              cases e
              have lc := hcl k hlt
              obtain ⟨i, hi⟩ : ∃ i, L[k] = i := ⟨_, rfl⟩
              rw [hi] at lc
              have hblw : bl < wr.heap.size := by have := HB7.out.size; have := HB0.out.size; omega
              obtain ⟨a, d, s, er, hat⟩ := atZ_form S l i
              have HZA := Lib.hid hat
              have HAT := Lib.hid (fun (W : World) (h : Below W0.heap.size W0 W) => zat_any zn (.slice A l.length cA) (.slice A2 S.length cS) w.heap.size l S i W (HZ0.out.below h) (few_ok HFEW.out) HLET.out)
              rw [hat] at HAT
              unfold setsV zoneA worldA at HAT
              have HBL := Lib.hid (fun (W : World) (h : Below wr.heap.size wr W) => (h.cell (p := ⟨bl, ol + k, none⟩) hblw).trans lc)
              clear hcl hi hat
              go_wp2_with fail
              refine wp_envA (fin := ?fnv) (by kernel_rfl) [80, 81, 82, 83, 84, 85, 86, 87, 88, 79, 89, 90, 12, 999, 13]
                [.pointer (some ⟨w.heap.size, 0, none⟩), .agg #[.string zn, .slice A l.length cA], .agg #[.string zn, .slice A l.length cA, .slice A2 S.length cS], .func (.func 17) #[.agg #[.string zn, .slice A l.length cA, .slice A2 S.length cS]] #[], .slice (some ⟨bl, ol, none⟩) L.length cL, .int .i64 k, .pointer (some ⟨bl, ol + k, none⟩), .int .i64 i, .tuple #[.agg #[.int .i64 a, .bool d, .string s], .int .i64 er], .tuple #[.agg #[.int .i64 a, .bool d, .string s], .int .i64 er], .agg #[.int .i64 a, .bool d, .string s], .int .i64 er, undef, undef, .int .i64 er] 12 13 41 #[.int .i64 0, .bool false, .string ⟨#[]⟩] #[.int .i64 a, .bool d, .string s] (by kernel_rfl) (by simp) (by decide) ?finv ?stepsv ?nextv
              case finv =>
                intro p_
                simp only [List.set_cons_succ, List.set_cons_zero, putAll, Act.put, List.setIfInBounds_toArray, List.set_nil]
                rfl
              case stepsv =>
                refine ⟨?_, ?_, ?_, ?_, ?_, ?_, ?_, ?_, ?_, ?_, ?_, ?_, ?_, ?_, ?_, trivial⟩
                · intro p_
                  refine .inr ⟨by kernel_rfl, fun w1_ hB_ => ?_⟩
                  have hB0_ := HB7.out.trans (hB_.mono HB7.out.size)
                  have hxb_ := HXX.out.below hB0_ HXX.out.lt
                  have x0_ := hxb_.cell 0 (v := .string zn) rfl
                  have x1_ := hxb_.cell 1 (v := .slice A l.length cA) rfl
                  have x2_ := hxb_.cell 2 (v := .slice A2 S.length cS) rfl
                  have lc_ := HBL.out _ hB_
                  go_simp
                  first
                    | exact ⟨rfl, Below.refl _ _⟩
                    | exact ⟨rfl, HAT.out _ hB0_⟩
                    | (rw [decide_eq_true (by omega)]; exact ⟨rfl, Below.refl _ _⟩)
                    | (rw [decide_eq_false (by omega)]; exact ⟨rfl, Below.refl _ _⟩)
                    | (rw [if_pos (by omega)]; exact ⟨rfl, Below.refl _ _⟩)
                    | (rw [IntWalk.i64_in _ (by omega)]; exact ⟨rfl, Below.refl _ _⟩)
                    | done
                · intro p_
                  refine .inr ⟨by kernel_rfl, fun w1_ hB_ => ?_⟩
                  have hB0_ := HB7.out.trans (hB_.mono HB7.out.size)
                  have hxb_ := HXX.out.below hB0_ HXX.out.lt
                  have x0_ := hxb_.cell 0 (v := .string zn) rfl
                  have x1_ := hxb_.cell 1 (v := .slice A l.length cA) rfl
                  have x2_ := hxb_.cell 2 (v := .slice A2 S.length cS) rfl
                  have lc_ := HBL.out _ hB_
                  go_simp
                  first
                    | exact ⟨rfl, Below.refl _ _⟩
                    | exact ⟨rfl, HAT.out _ hB0_⟩
                    | (rw [decide_eq_true (by omega)]; exact ⟨rfl, Below.refl _ _⟩)
                    | (rw [decide_eq_false (by omega)]; exact ⟨rfl, Below.refl _ _⟩)
                    | (rw [if_pos (by omega)]; exact ⟨rfl, Below.refl _ _⟩)
                    | (rw [IntWalk.i64_in _ (by omega)]; exact ⟨rfl, Below.refl _ _⟩)
                    | done
                · intro p_
                  refine .inr ⟨by kernel_rfl, fun w1_ hB_ => ?_⟩
                  have hB0_ := HB7.out.trans (hB_.mono HB7.out.size)
                  have hxb_ := HXX.out.below hB0_ HXX.out.lt
                  have x0_ := hxb_.cell 0 (v := .string zn) rfl
                  have x1_ := hxb_.cell 1 (v := .slice A l.length cA) rfl
                  have x2_ := hxb_.cell 2 (v := .slice A2 S.length cS) rfl
                  have lc_ := HBL.out _ hB_
                  go_simp
                  first
                    | exact ⟨rfl, Below.refl _ _⟩
                    | exact ⟨rfl, HAT.out _ hB0_⟩
                    | (rw [decide_eq_true (by omega)]; exact ⟨rfl, Below.refl _ _⟩)
                    | (rw [decide_eq_false (by omega)]; exact ⟨rfl, Below.refl _ _⟩)
                    | (rw [if_pos (by omega)]; exact ⟨rfl, Below.refl _ _⟩)
                    | (rw [IntWalk.i64_in _ (by omega)]; exact ⟨rfl, Below.refl _ _⟩)
                    | done
                · intro p_
                  refine .inr ⟨by kernel_rfl, fun w1_ hB_ => ?_⟩
                  have hB0_ := HB7.out.trans (hB_.mono HB7.out.size)
                  have hxb_ := HXX.out.below hB0_ HXX.out.lt
                  have x0_ := hxb_.cell 0 (v := .string zn) rfl
                  have x1_ := hxb_.cell 1 (v := .slice A l.length cA) rfl
                  have x2_ := hxb_.cell 2 (v := .slice A2 S.length cS) rfl
                  have lc_ := HBL.out _ hB_
                  go_simp
                  first
                    | exact ⟨rfl, Below.refl _ _⟩
                    | exact ⟨rfl, HAT.out _ hB0_⟩
                    | (rw [decide_eq_true (by omega)]; exact ⟨rfl, Below.refl _ _⟩)
                    | (rw [decide_eq_false (by omega)]; exact ⟨rfl, Below.refl _ _⟩)
                    | (rw [if_pos (by omega)]; exact ⟨rfl, Below.refl _ _⟩)
                    | (rw [IntWalk.i64_in _ (by omega)]; exact ⟨rfl, Below.refl _ _⟩)
                    | done
                · intro p_
                  refine .inr ⟨by kernel_rfl, fun w1_ hB_ => ?_⟩
                  have hB0_ := HB7.out.trans (hB_.mono HB7.out.size)
                  have hxb_ := HXX.out.below hB0_ HXX.out.lt
                  have x0_ := hxb_.cell 0 (v := .string zn) rfl
                  have x1_ := hxb_.cell 1 (v := .slice A l.length cA) rfl
                  have x2_ := hxb_.cell 2 (v := .slice A2 S.length cS) rfl
                  have lc_ := HBL.out _ hB_
                  go_simp
                  first
                    | exact ⟨rfl, Below.refl _ _⟩
                    | exact ⟨rfl, HAT.out _ hB0_⟩
                    | (rw [decide_eq_true (by omega)]; exact ⟨rfl, Below.refl _ _⟩)
                    | (rw [decide_eq_false (by omega)]; exact ⟨rfl, Below.refl _ _⟩)
                    | (rw [if_pos (by omega)]; exact ⟨rfl, Below.refl _ _⟩)
                    | (rw [IntWalk.i64_in _ (by omega)]; exact ⟨rfl, Below.refl _ _⟩)
                    | done
                · intro p_
                  refine .inr ⟨by kernel_rfl, fun w1_ hB_ => ?_⟩
                  have hB0_ := HB7.out.trans (hB_.mono HB7.out.size)
                  have hxb_ := HXX.out.below hB0_ HXX.out.lt
                  have x0_ := hxb_.cell 0 (v := .string zn) rfl
                  have x1_ := hxb_.cell 1 (v := .slice A l.length cA) rfl
                  have x2_ := hxb_.cell 2 (v := .slice A2 S.length cS) rfl
                  have lc_ := HBL.out _ hB_
                  go_simp
                  first
                    | exact ⟨rfl, Below.refl _ _⟩
                    | exact ⟨rfl, HAT.out _ hB0_⟩
                    | (rw [decide_eq_true (by omega)]; exact ⟨rfl, Below.refl _ _⟩)
                    | (rw [decide_eq_false (by omega)]; exact ⟨rfl, Below.refl _ _⟩)
                    | (rw [if_pos (by omega)]; exact ⟨rfl, Below.refl _ _⟩)
                    | (rw [IntWalk.i64_in _ (by omega)]; exact ⟨rfl, Below.refl _ _⟩)
                    | done
                · intro p_
                  refine .inr ⟨by kernel_rfl, fun w1_ hB_ => ?_⟩
                  have hB0_ := HB7.out.trans (hB_.mono HB7.out.size)
                  have hxb_ := HXX.out.below hB0_ HXX.out.lt
                  have x0_ := hxb_.cell 0 (v := .string zn) rfl
                  have x1_ := hxb_.cell 1 (v := .slice A l.length cA) rfl
                  have x2_ := hxb_.cell 2 (v := .slice A2 S.length cS) rfl
                  have lc_ := HBL.out _ hB_
                  go_simp
                  first
                    | exact ⟨rfl, Below.refl _ _⟩
                    | exact ⟨rfl, HAT.out _ hB0_⟩
                    | (rw [decide_eq_true (by omega)]; exact ⟨rfl, Below.refl _ _⟩)
                    | (rw [decide_eq_false (by omega)]; exact ⟨rfl, Below.refl _ _⟩)
                    | (rw [if_pos (by omega)]; exact ⟨rfl, Below.refl _ _⟩)
                    | (rw [IntWalk.i64_in _ (by omega)]; exact ⟨rfl, Below.refl _ _⟩)
                    | done
                · intro p_
                  refine .inr ⟨by kernel_rfl, fun w1_ hB_ => ?_⟩
                  have hB0_ := HB7.out.trans (hB_.mono HB7.out.size)
                  have hxb_ := HXX.out.below hB0_ HXX.out.lt
                  have x0_ := hxb_.cell 0 (v := .string zn) rfl
                  have x1_ := hxb_.cell 1 (v := .slice A l.length cA) rfl
                  have x2_ := hxb_.cell 2 (v := .slice A2 S.length cS) rfl
                  have lc_ := HBL.out _ hB_
                  go_simp
                  first
                    | exact ⟨rfl, Below.refl _ _⟩
                    | exact ⟨rfl, HAT.out _ hB0_⟩
                    | (rw [decide_eq_true (by omega)]; exact ⟨rfl, Below.refl _ _⟩)
                    | (rw [decide_eq_false (by omega)]; exact ⟨rfl, Below.refl _ _⟩)
                    | (rw [if_pos (by omega)]; exact ⟨rfl, Below.refl _ _⟩)
                    | (rw [IntWalk.i64_in _ (by omega)]; exact ⟨rfl, Below.refl _ _⟩)
                    | done
                · intro p_
                  refine .inr ⟨by kernel_rfl, fun w1_ hB_ => ?_⟩
                  have hB0_ := HB7.out.trans (hB_.mono HB7.out.size)
                  have hxb_ := HXX.out.below hB0_ HXX.out.lt
                  have x0_ := hxb_.cell 0 (v := .string zn) rfl
                  have x1_ := hxb_.cell 1 (v := .slice A l.length cA) rfl
                  have x2_ := hxb_.cell 2 (v := .slice A2 S.length cS) rfl
                  have lc_ := HBL.out _ hB_
                  go_simp
                  first
                    | exact ⟨rfl, Below.refl _ _⟩
                    | exact ⟨rfl, HAT.out _ hB0_⟩
                    | (rw [decide_eq_true (by omega)]; exact ⟨rfl, Below.refl _ _⟩)
                    | (rw [decide_eq_false (by omega)]; exact ⟨rfl, Below.refl _ _⟩)
                    | (rw [if_pos (by omega)]; exact ⟨rfl, Below.refl _ _⟩)
                    | (rw [IntWalk.i64_in _ (by omega)]; exact ⟨rfl, Below.refl _ _⟩)
                    | done
                · intro p_
                  refine .inr ⟨by kernel_rfl, fun w1_ hB_ => ?_⟩
                  have hB0_ := HB7.out.trans (hB_.mono HB7.out.size)
                  have hxb_ := HXX.out.below hB0_ HXX.out.lt
                  have x0_ := hxb_.cell 0 (v := .string zn) rfl
                  have x1_ := hxb_.cell 1 (v := .slice A l.length cA) rfl
                  have x2_ := hxb_.cell 2 (v := .slice A2 S.length cS) rfl
                  have lc_ := HBL.out _ hB_
                  go_simp
                  first
                    | exact ⟨rfl, Below.refl _ _⟩
                    | exact ⟨rfl, HAT.out _ hB0_⟩
                    | (rw [decide_eq_true (by omega)]; exact ⟨rfl, Below.refl _ _⟩)
                    | (rw [decide_eq_false (by omega)]; exact ⟨rfl, Below.refl _ _⟩)
                    | (rw [if_pos (by omega)]; exact ⟨rfl, Below.refl _ _⟩)
                    | (rw [IntWalk.i64_in _ (by omega)]; exact ⟨rfl, Below.refl _ _⟩)
                    | done
                · intro p_
                  refine .inr ⟨by kernel_rfl, fun w1_ hB_ => ?_⟩
                  have hB0_ := HB7.out.trans (hB_.mono HB7.out.size)
                  have hxb_ := HXX.out.below hB0_ HXX.out.lt
                  have x0_ := hxb_.cell 0 (v := .string zn) rfl
                  have x1_ := hxb_.cell 1 (v := .slice A l.length cA) rfl
                  have x2_ := hxb_.cell 2 (v := .slice A2 S.length cS) rfl
                  have lc_ := HBL.out _ hB_
                  go_simp
                  first
                    | exact ⟨rfl, Below.refl _ _⟩
                    | exact ⟨rfl, HAT.out _ hB0_⟩
                    | (rw [decide_eq_true (by omega)]; exact ⟨rfl, Below.refl _ _⟩)
                    | (rw [decide_eq_false (by omega)]; exact ⟨rfl, Below.refl _ _⟩)
                    | (rw [if_pos (by omega)]; exact ⟨rfl, Below.refl _ _⟩)
                    | (rw [IntWalk.i64_in _ (by omega)]; exact ⟨rfl, Below.refl _ _⟩)
                    | done
                · intro p_
                  refine .inr ⟨by kernel_rfl, fun w1_ hB_ => ?_⟩
                  have hB0_ := HB7.out.trans (hB_.mono HB7.out.size)
                  have hxb_ := HXX.out.below hB0_ HXX.out.lt
                  have x0_ := hxb_.cell 0 (v := .string zn) rfl
                  have x1_ := hxb_.cell 1 (v := .slice A l.length cA) rfl
                  have x2_ := hxb_.cell 2 (v := .slice A2 S.length cS) rfl
                  have lc_ := HBL.out _ hB_
                  go_simp
                  first
                    | exact ⟨rfl, Below.refl _ _⟩
                    | exact ⟨rfl, HAT.out _ hB0_⟩
                    | (rw [decide_eq_true (by omega)]; exact ⟨rfl, Below.refl _ _⟩)
                    | (rw [decide_eq_false (by omega)]; exact ⟨rfl, Below.refl _ _⟩)
                    | (rw [if_pos (by omega)]; exact ⟨rfl, Below.refl _ _⟩)
                    | (rw [IntWalk.i64_in _ (by omega)]; exact ⟨rfl, Below.refl _ _⟩)
                    | done
                · refine ⟨fun p_ => by kernel_rfl, fun p_ w1_ hB_ => ?_⟩
                  first | rfl | (go_simp; done) | (go_simp; rfl)
                · refine ⟨fun p_ => by kernel_rfl, fun b_ w1_ hb_ => ⟨(((w1_.setCell ⟨b_, 0, none⟩ (.int .i64 a)).setCell ⟨b_, 1, none⟩ (.bool d)).setCell ⟨b_, 2, none⟩ (.string s)), ?_, ((Fr.setCell (T := fun k => k = b_) w1_ 0 (.int .i64 a) rfl).then (Fr.setCell _ 1 _ rfl)).then (Fr.setCell _ 2 _ rfl), (((hb_.set 0 (.int .i64 a)).set 1 (.bool d)).set 2 (.string s))⟩⟩
                  have f0_ := Blk.frozen hb_ 0
                  have f1_ := Blk.frozen hb_ 1
                  have f2_ := Blk.frozen hb_ 2
                  have z0_ := Blk.cell hb_ 0 (v := .int .i64 0) rfl
                  have z1_ := Blk.cell hb_ 1 (v := .bool false) rfl
                  have z2_ := Blk.cell hb_ 2 (v := .string ⟨#[]⟩) rfl
                  go_simp
                  try rfl
                · intro p_
                  refine .inr ⟨by kernel_rfl, fun w1_ hB_ => ?_⟩
                  have hB0_ := HB7.out.trans (hB_.mono HB7.out.size)
                  have hxb_ := HXX.out.below hB0_ HXX.out.lt
                  have x0_ := hxb_.cell 0 (v := .string zn) rfl
                  have x1_ := hxb_.cell 1 (v := .slice A l.length cA) rfl
                  have x2_ := hxb_.cell 2 (v := .slice A2 S.length cS) rfl
                  have lc_ := HBL.out _ hB_
                  go_simp
                  first
                    | exact ⟨rfl, Below.refl _ _⟩
                    | exact ⟨rfl, HAT.out _ hB0_⟩
                    | (rw [decide_eq_true (by omega)]; exact ⟨rfl, Below.refl _ _⟩)
                    | (rw [decide_eq_false (by omega)]; exact ⟨rfl, Below.refl _ _⟩)
                    | (rw [if_pos (by omega)]; exact ⟨rfl, Below.refl _ _⟩)
                    | (rw [IntWalk.i64_in _ (by omega)]; exact ⟨rfl, Below.refl _ _⟩)
                    | done
              case nextv =>
              intro xb w8 hb8 hxb8 hX8
              have HB8 := Lib.hid (HBI.out.trans (hb8.mono HBI.out.size))
              have HX8 := Lib.hid hX8
              have lc := HBL.out _ hb8
              have hblw8 : bl < w8.heap.size := Nat.lt_of_lt_of_le hblw hb8.size
              have LC8 := Lib.hid lc
              clear hb8 hxb8 hX8 x0 x1 x2 hxl HAT HBL
              by_cases hE0 : E = 0
              · subst hE0
                by_cases hi : i < -2199023255552 ∨ 2199023255552 < i
                · have hbad : atZ S l i = badL 10 := by unfold atZ; rw [if_neg (fun h => h HE.out), if_pos hi]
                  unfold badL at hbad
                  rw [HZA.out] at hbad
                  obtain ⟨rfl, rfl, rfl, rfl⟩ := locV_inj hbad
                  obtain ⟨d1, d2, hd1, hd2, hdd⟩ : ∃ p q, decide (i < -2199023255552) = p ∧ decide (2199023255552 < i) = q ∧ (p = true ∨ p = false ∧ q = true) := by
                    refine ⟨_, _, rfl, rfl, ?_⟩
                    by_cases h : i < -2199023255552
                    · exact .inl (decide_eq_true h)
                    · exact .inr ⟨decide_eq_false h, decide_eq_true (by omega)⟩
                  clear hi hbad
                  rcases hdd with rfl | ⟨rfl, rfl⟩
                  ·
                    have l0 := HX8.out.cell 0 (v := .int .i64 0) rfl
                    have l1 := HX8.out.cell 1 (v := .bool false) rfl
                    have l2 := HX8.out.cell 2 (v := .string ⟨#[]⟩) rfl
                    have hxl8 := HX8.out.lt
                    go_wp2_with fail
                    go_roundw
                    case rel => exact ⟨k + 1, by omega, by go_num, HB8.out⟩
                    case measure => simp [intOf]; omega
                  ·
                    have l0 := HX8.out.cell 0 (v := .int .i64 0) rfl
                    have l1 := HX8.out.cell 1 (v := .bool false) rfl
                    have l2 := HX8.out.cell 2 (v := .string ⟨#[]⟩) rfl
                    have hxl8 := HX8.out.lt
                    go_wp2_with fail
                    go_roundw
                    case rel => exact ⟨k + 1, by omega, by go_num, HB8.out⟩
                    case measure => simp [intOf]; omega
                · have hd1 : decide (i < -2199023255552) = false := decide_eq_false (by omega)
                  have hd2 : decide (2199023255552 < i) = false := decide_eq_false (by omega)
                  clear hi
                  have HN := Lib.hid (near_any i)
                  cases hn : nearB i with
                  | false =>
                    rw [hn] at HN
                    clear hn
                    go_wp2_with fail
                    refine (HN.out _).mono ?_
                    rintro o w9 ⟨rfl, rfl⟩
                    go_wp2_with fail
                    go_roundw
                    case rel => exact ⟨k + 1, by omega, by go_num, HB8.out⟩
                    case measure => simp [intOf]; omega
                  | true =>
                    rw [hn] at HN
                    have HNB := Lib.hid hn
                    have HELL := Lib.hid (show EL = endL S l from HEL.out.symm.trans (endsZ_zero HE.out))
                    have HELEN := Lib.hid (show EL.length + 1 = l.length by have := (errZ_zero HE.out).1; rw [HELL.out, length_endL]; omega)
                    clear hn
                    go_wp2_with fail
                    refine (HN.out _).mono ?_
                    rintro o w9 ⟨rfl, rfl⟩
                    clear lc
                    go_wp2_with fail
                    obtain ⟨w7, hw7⟩ : ∃ x, x = wr := ⟨_, rfl⟩
                    subst hw7
                    go_loopw [14] (fun iv wr => ∃ m : Nat, m ≤ EL.length ∧ iv = .int .i64 m ∧ (∀ j (h : j < EL.length), j < m → EL[j] ≤ i) ∧ Below w9.heap.size w9 wr) (fun iv _ => EL.length - (intOf iv).toNat)
                    case atStart => exact ⟨0, Nat.zero_le _, rfl, fun j _ h => absurd h (by omega), Below.refl _ _⟩
                    case round =>
                      obtain ⟨m, hm, rfl, hno, hbq⟩ := hrel
                      have HNO := Lib.hid hno
                      have HBQ := Lib.hid hbq
                      have HBQ6 := Lib.hid (HB8.out.trans (hbq.mono HB8.out.size))
                      have HBQ0 := Lib.hid (HB6.out.trans (HBQ6.out.mono HB6.out.size))
                      have hwsq := hbq.size
                      have lc := (hbq.cell (p := ⟨bl, ol + k, none⟩) hblw8).trans LC8.out
                      have hblq : bl < wr.heap.size := by omega
                      clear hno hbq
                      by_cases hlt2 : m < EL.length
                      · have hd3 : decide ((m : Int) < (EL.length : Int)) = true := decide_eq_true (by omega)
                        obtain ⟨b4, o4, c4', e, hb4, hc4⟩ := (Nums.below HU6.out HBQ6.out).cells (by omega)
                        cases e
                        have e4 := hc4 m hlt2
                        have hb4q : b4 < wr.heap.size := by have := HBQ6.out.size; omega
                        obtain ⟨n, hn⟩ : ∃ n : Int, EL[m]'hlt2 = n := ⟨_, rfl⟩
                        rw [hn] at e4
                        have HNN := Lib.hid (fun (_ : m < EL.length) => hn)
                        clear hc4 hn
                        by_cases hle : n ≤ i
                        · have hdl2 : decide (n ≤ i) = true := decide_eq_true hle
                          have HLE := Lib.hid hle
                          clear hle
                          go_wp2_with fail
                          go_quiet (fail)
                          go_wp2_with fail
                          go_roundw
                          case rel =>
                            refine ⟨m + 1, by omega, by go_num, fun j h hjm => ?_, below_drewN HBQ.out _⟩
                            rcases Nat.lt_or_ge j m with g | g
                            · exact HNO.out j h g
                            · obtain rfl : j = m := by omega
                              rw [HNN.out h]; exact HLE.out
                          case measure => first | (simp [intOf]; done) | (simp [intOf]; omega)
                        · have hdl2 : decide (n ≤ i) = false := decide_eq_false hle
                          have HKI := Lib.hid (show eraI (endL S l) i = m by rw [← HELL.out]; exact eraI_loop (by omega) HNO.out (fun h => by rw [HNN.out h]; exact hle))
                          clear hle
                          obtain ⟨hl0, -, hat, -⟩ := errZ_zero HE.out
                          have hml : m < l.length := by have := HELEN.out; omega
                          have hmR : m < R.length := by rw [HRL.out]; exact hml
                          have HROK := HRO.out m hmR hml
                          have hrm : FrisN w6 R[m].v R[m].D := HRM.out.2 _ (List.getElem_mem hmR)
                          have hzn := atZ_near HE.out (nearB_iff.1 HNB.out).1 (nearB_iff.1 HNB.out).2 hml HKI.out
                          have her := hat m hml
                          rw [errAt_eq hml] at her
                          obtain ⟨cut, hcut, hsv⟩ := near_eq HE.out (nearB_iff.1 HNB.out).1 (nearB_iff.1 HNB.out).2 hml HROK
                          have hfx := (fewB_iff.1 HFEW.out).1 _ (List.getElem_mem hml)
                          have hcQ := HB0.out.trans (HBQ0.out.mono HB0.out.size)
                          obtain ⟨bb, o, c', e, hbb, hc⟩ := ((HZ0.out.below HBQ0.out).eras).cells (by omega)
                          cases e
                          have hx := hc m hml
                          obtain ⟨br, orr, cr', e, hbr, hcr⟩ := (HRM.out.below HBQ6.out).cells (by omega)
                          cases e
                          obtain ⟨rc0, rc1⟩ := hcr m hmR
                          obtain ⟨x, hxk⟩ : ∃ x, l[m] = x := ⟨_, rfl⟩
                          obtain ⟨r, hrk⟩ : ∃ r, R[m] = r := ⟨_, rfl⟩
                          rw [hxk] at hx hzn her hsv HROK hcut hfx
                          rw [hrk] at rc0 rc1 HROK hrm hcut hsv
                          obtain ⟨hkd, hof, hsf, -, -, -⟩ := errE_zero her
                          have hsum := sum_ok (e := x.n) (ru := x.ru) (i := i) (ZOk.rule (few_ok HFEW.out) x) (ZOk.ruleL HLET.out x) hsf
                          unfold sumOk at hsum
                          rw [HZA.out] at hzn
                          unfold zwithinV at hzn
                          obtain ⟨⟨sv', lt⟩, hsl⟩ : ∃ q, savesV x.n x.ru (ruleE S x) i = q := ⟨_, rfl⟩
                          rw [hsl] at hzn hsv hsum
                          simp only at hzn hsum
                          obtain ⟨A9, c9, hv9, -, -⟩ := hrm.1.form
                          have HRW := Lib.hid (fun (W : World) (h : Below w6.heap.size w6 W) => rwithin_any W x.n x.ru x.fm x.en w6.heap.size r.v r.D r.letter (hrm.1.below h) h.size HROK.len HROK.bd i cut (fun _ => hcut) (by have := eraFew_fm hfx; omega) (by omega) (by rw [← hsv]; exact hsum))
                          rw [← hsv] at HRW
                          simp only at HRW
                          have hse := showV_err (off := x.n.off + sv') (dst := dstB sv') (letter := lt) hkd
                          obtain ⟨⟨s', e'⟩, hsh⟩ : ∃ q, showV x.fm (x.n.off + sv') (dstB sv') lt = q := ⟨_, rfl⟩
                          rw [hsh] at hzn HRW hse
                          simp only at hzn HRW hse
                          rw [hv9] at HRW rc0
                          unfold eraA at HRW
                          obtain ⟨c0, c1, c2, c3, c4_, c5_, c6_, c7, c8, c9_, c10, c11⟩ := hx
                          have hbbq : bb < wr.heap.size := by have := HBQ0.out.size; have := HB0.out.size; omega
                          have HCC := Lib.hid (fun (W : World) (h : Below wr.heap.size wr W) => show EraCc W bb (o + m * 12) x from ⟨(h.cell (p := ⟨bb, o + m * 12, none⟩) hbbq).trans c0, (h.cell (p := ⟨bb, o + m * 12 + 1, none⟩) hbbq).trans c1, (h.cell (p := ⟨bb, o + m * 12 + 2, none⟩) hbbq).trans c2, (h.cell (p := ⟨bb, o + m * 12 + 3, none⟩) hbbq).trans c3, (h.cell (p := ⟨bb, o + m * 12 + 4, none⟩) hbbq).trans c4_, (h.cell (p := ⟨bb, o + m * 12 + 5, none⟩) hbbq).trans c5_, (h.cell (p := ⟨bb, o + m * 12 + 6, none⟩) hbbq).trans c6_, (h.cell (p := ⟨bb, o + m * 12 + 7, none⟩) hbbq).trans c7, (h.cell (p := ⟨bb, o + m * 12 + 8, none⟩) hbbq).trans c8, (h.cell (p := ⟨bb, o + m * 12 + 9, none⟩) hbbq).trans c9_, (h.cell (p := ⟨bb, o + m * 12 + 10, none⟩) hbbq).trans c10, (h.cell (p := ⟨bb, o + m * 12 + 11, none⟩) hbbq).trans c11⟩)
                          have HRC := Lib.hid (fun (W : World) (h : Below wr.heap.size wr W) => And.intro ((h.cell (p := ⟨br, orr + m * 2, none⟩) hbr).trans rc0) ((h.cell (p := ⟨br, orr + m * 2 + 1, none⟩) hbr).trans rc1))
                          have HZE := Lib.hid (fun (W : World) (h : Below w6.heap.size w6 W) => zera_any W w6.heap.size _ EL i (Nums.below HU6.out h))
                          rw [HELL.out, HKI.out, ← HELL.out] at HZE
                          have hmc0 : (0 : Int) ≤ (m : Int) := by omega
                          have hmcl : (m : Int) < (l.length : Int) := by omega
                          have hmcR : (m : Int) < (R.length : Int) := by omega
                          have hdl : decide (m < l.length) = true := decide_eq_true hml
                          have hdR : decide (m < R.length) = true := decide_eq_true hmR
                          have hy : ∃ yb : Bool, decide (e' = 0) = yb ∧ (yb = true ∧ a = x.n.off + sv' ∧ d = dstB sv' ∧ s = s' ∧ er = 0 ∨ yb = false ∧ a = 0 ∧ d = false ∧ s = ⟨#[]⟩ ∧ er = 10) := by
                            rcases hse with h0 | h10
                            · refine ⟨true, by rw [h0]; rfl, .inl ⟨rfl, ?_⟩⟩
                              unfold withinR at hzn
                              rw [if_pos h0] at hzn
                              exact locV_inj hzn
                            · injection h10 with h1 h2
                              refine ⟨false, by rw [h2]; rfl, .inr ⟨rfl, ?_⟩⟩
                              unfold withinR at hzn
                              rw [h2, if_neg (by decide)] at hzn
                              exact locV_inj hzn
                          obtain ⟨yb, hyb, hy⟩ := hy
                          rw [hyb] at HRW
                          have HY := Lib.hid hy
                          clear hl0 hat HROK hrm hzn her hcut hsv hfx hcQ hc hcr hxk hrk hkd hof hsf hsum hsl hv9 hse hsh c0 c1 c2 c3 c4_ c5_ c6_ c7 c8 c9_ c10 c11 rc0 rc1 hyb hy
                          have lcq := lc
                          go_wp2_with fail
                          go_quiet (fail)
                          go_wp2_with fail
                          refine wp_envA (fin := ?fnza) (by kernel_rfl) [144, 145, 146, 147, 148, 149, 150, 151, 152, 153, 154, 155, 156, 157, 158, 143, 159, 160, 15, 999, 16]
                            [.pointer (some ⟨w.heap.size, 0, none⟩), .pointer (some ⟨w.heap.size, 1, none⟩), .slice (some ⟨bb, o, none⟩) l.length cA, .int .i64 m, .pointer (some ⟨bb, o + m * 12, none⟩), .agg #[.int .i64 x.n.off, .string x.ru, .int .i64 x.n.save, .string x.fm, .bool x.en, .int .i64 x.n.year, .int .i64 x.n.month, .int .i64 x.n.dk, .int .i64 x.n.dw, .int .i64 x.n.dn, .int .i64 x.n.sec, .int .i64 x.n.ak], .slice (some ⟨br, orr, none⟩) R.length c6, .int .i64 m, .pointer (some ⟨br, orr + m * 2, none⟩), .agg #[.slice A9 r.D.length c9, .string r.letter], .slice (some ⟨bl, ol, none⟩) L.length cL, .int .i64 k, .pointer (some ⟨bl, ol + k, none⟩), .int .i64 i, .tuple #[.agg #[.int .i64 (x.n.off + sv'), .bool (dstB sv'), .string s'], .bool yb], .tuple #[.agg #[.int .i64 (x.n.off + sv'), .bool (dstB sv'), .string s'], .bool yb], .agg #[.int .i64 (x.n.off + sv'), .bool (dstB sv'), .string s'], .bool yb, undef, undef, .bool yb] 18 19 41 #[.int .i64 0, .bool false, .string ⟨#[]⟩] #[.int .i64 (x.n.off + sv'), .bool (dstB sv'), .string s'] (by kernel_rfl) (by simp) (by decide) ?finza ?stepsza ?nextza
                          case finza =>
                            intro p_
                            simp only [List.set_cons_succ, List.set_cons_zero, putAll, Act.put, List.setIfInBounds_toArray, List.set_nil]
                            rfl
                          case stepsza =>
                            refine ⟨?_, ?_, ?_, ?_, ?_, ?_, ?_, ?_, ?_, ?_, ?_, ?_, ?_, ?_, ?_, ?_, ?_, ?_, ?_, ?_, ?_, trivial⟩
                            · intro p_
                              refine .inr ⟨by kernel_rfl, fun w1_ hB_ => ?_⟩
                              have hBq_ := below_thru (Below.refl wr.heap.size wr) hB_
                              have hB0_ := HBQ0.out.trans (hBq_.mono HBQ0.out.size)
                              have hB6_ := HBQ6.out.trans (hBq_.mono HBQ6.out.size)
                              have hxb_ := HXX.out.below hB0_ HXX.out.lt
                              have x0_ := hxb_.cell 0 (v := .string zn) rfl
                              have x1_ := hxb_.cell 1 (v := .slice (some ⟨bb, o, none⟩) l.length cA) rfl
                              have x2_ := hxb_.cell 2 (v := .slice A2 S.length cS) rfl
                              obtain ⟨c0_, c1_, c2_, c3_, c4_, c5_, c6_, c7_, c8_, c9_, c10_, c11_⟩ := HCC.out _ hBq_
                              obtain ⟨rc0_, rc1_⟩ := HRC.out _ hBq_
                              have lc_ := (hBq_.cell (p := ⟨bl, ol + k, none⟩) hblq).trans lcq
                              go_simp
                              first
                                | exact ⟨rfl, Below.refl _ _⟩
                                | exact ⟨rfl, HRW.out _ hB6_⟩
                                | (rw [decide_eq_true (by omega)]; exact ⟨rfl, Below.refl _ _⟩)
                                | (rw [decide_eq_false (by omega)]; exact ⟨rfl, Below.refl _ _⟩)
                                | (rw [if_pos (by omega)]; exact ⟨rfl, Below.refl _ _⟩)
                                | (rw [IntWalk.i64_in _ (by omega)]; exact ⟨rfl, Below.refl _ _⟩)
                                | done
                            · intro p_
                              refine .inr ⟨by kernel_rfl, fun w1_ hB_ => ?_⟩
                              have hBq_ := below_thru (Below.refl wr.heap.size wr) hB_
                              have hB0_ := HBQ0.out.trans (hBq_.mono HBQ0.out.size)
                              have hB6_ := HBQ6.out.trans (hBq_.mono HBQ6.out.size)
                              have hxb_ := HXX.out.below hB0_ HXX.out.lt
                              have x0_ := hxb_.cell 0 (v := .string zn) rfl
                              have x1_ := hxb_.cell 1 (v := .slice (some ⟨bb, o, none⟩) l.length cA) rfl
                              have x2_ := hxb_.cell 2 (v := .slice A2 S.length cS) rfl
                              obtain ⟨c0_, c1_, c2_, c3_, c4_, c5_, c6_, c7_, c8_, c9_, c10_, c11_⟩ := HCC.out _ hBq_
                              obtain ⟨rc0_, rc1_⟩ := HRC.out _ hBq_
                              have lc_ := (hBq_.cell (p := ⟨bl, ol + k, none⟩) hblq).trans lcq
                              go_simp
                              first
                                | exact ⟨rfl, Below.refl _ _⟩
                                | exact ⟨rfl, HRW.out _ hB6_⟩
                                | (rw [decide_eq_true (by omega)]; exact ⟨rfl, Below.refl _ _⟩)
                                | (rw [decide_eq_false (by omega)]; exact ⟨rfl, Below.refl _ _⟩)
                                | (rw [if_pos (by omega)]; exact ⟨rfl, Below.refl _ _⟩)
                                | (rw [IntWalk.i64_in _ (by omega)]; exact ⟨rfl, Below.refl _ _⟩)
                                | done
                            · intro p_
                              refine .inr ⟨by kernel_rfl, fun w1_ hB_ => ?_⟩
                              have hBq_ := below_thru (Below.refl wr.heap.size wr) hB_
                              have hB0_ := HBQ0.out.trans (hBq_.mono HBQ0.out.size)
                              have hB6_ := HBQ6.out.trans (hBq_.mono HBQ6.out.size)
                              have hxb_ := HXX.out.below hB0_ HXX.out.lt
                              have x0_ := hxb_.cell 0 (v := .string zn) rfl
                              have x1_ := hxb_.cell 1 (v := .slice (some ⟨bb, o, none⟩) l.length cA) rfl
                              have x2_ := hxb_.cell 2 (v := .slice A2 S.length cS) rfl
                              obtain ⟨c0_, c1_, c2_, c3_, c4_, c5_, c6_, c7_, c8_, c9_, c10_, c11_⟩ := HCC.out _ hBq_
                              obtain ⟨rc0_, rc1_⟩ := HRC.out _ hBq_
                              have lc_ := (hBq_.cell (p := ⟨bl, ol + k, none⟩) hblq).trans lcq
                              go_simp
                              first
                                | exact ⟨rfl, Below.refl _ _⟩
                                | exact ⟨rfl, HRW.out _ hB6_⟩
                                | (rw [decide_eq_true (by omega)]; exact ⟨rfl, Below.refl _ _⟩)
                                | (rw [decide_eq_false (by omega)]; exact ⟨rfl, Below.refl _ _⟩)
                                | (rw [if_pos (by omega)]; exact ⟨rfl, Below.refl _ _⟩)
                                | (rw [IntWalk.i64_in _ (by omega)]; exact ⟨rfl, Below.refl _ _⟩)
                                | done
                            · intro p_
                              refine .inr ⟨by kernel_rfl, fun w1_ hB_ => ?_⟩
                              have hBq_ := below_thru (Below.refl wr.heap.size wr) hB_
                              have hB0_ := HBQ0.out.trans (hBq_.mono HBQ0.out.size)
                              have hB6_ := HBQ6.out.trans (hBq_.mono HBQ6.out.size)
                              have hxb_ := HXX.out.below hB0_ HXX.out.lt
                              have x0_ := hxb_.cell 0 (v := .string zn) rfl
                              have x1_ := hxb_.cell 1 (v := .slice (some ⟨bb, o, none⟩) l.length cA) rfl
                              have x2_ := hxb_.cell 2 (v := .slice A2 S.length cS) rfl
                              obtain ⟨c0_, c1_, c2_, c3_, c4_, c5_, c6_, c7_, c8_, c9_, c10_, c11_⟩ := HCC.out _ hBq_
                              obtain ⟨rc0_, rc1_⟩ := HRC.out _ hBq_
                              have lc_ := (hBq_.cell (p := ⟨bl, ol + k, none⟩) hblq).trans lcq
                              go_simp
                              first
                                | exact ⟨rfl, Below.refl _ _⟩
                                | exact ⟨rfl, HRW.out _ hB6_⟩
                                | (rw [decide_eq_true (by omega)]; exact ⟨rfl, Below.refl _ _⟩)
                                | (rw [decide_eq_false (by omega)]; exact ⟨rfl, Below.refl _ _⟩)
                                | (rw [if_pos (by omega)]; exact ⟨rfl, Below.refl _ _⟩)
                                | (rw [IntWalk.i64_in _ (by omega)]; exact ⟨rfl, Below.refl _ _⟩)
                                | done
                            · intro p_
                              refine .inr ⟨by kernel_rfl, fun w1_ hB_ => ?_⟩
                              have hBq_ := below_thru (Below.refl wr.heap.size wr) hB_
                              have hB0_ := HBQ0.out.trans (hBq_.mono HBQ0.out.size)
                              have hB6_ := HBQ6.out.trans (hBq_.mono HBQ6.out.size)
                              have hxb_ := HXX.out.below hB0_ HXX.out.lt
                              have x0_ := hxb_.cell 0 (v := .string zn) rfl
                              have x1_ := hxb_.cell 1 (v := .slice (some ⟨bb, o, none⟩) l.length cA) rfl
                              have x2_ := hxb_.cell 2 (v := .slice A2 S.length cS) rfl
                              obtain ⟨c0_, c1_, c2_, c3_, c4_, c5_, c6_, c7_, c8_, c9_, c10_, c11_⟩ := HCC.out _ hBq_
                              obtain ⟨rc0_, rc1_⟩ := HRC.out _ hBq_
                              have lc_ := (hBq_.cell (p := ⟨bl, ol + k, none⟩) hblq).trans lcq
                              go_simp
                              first
                                | exact ⟨rfl, Below.refl _ _⟩
                                | exact ⟨rfl, HRW.out _ hB6_⟩
                                | (rw [decide_eq_true (by omega)]; exact ⟨rfl, Below.refl _ _⟩)
                                | (rw [decide_eq_false (by omega)]; exact ⟨rfl, Below.refl _ _⟩)
                                | (rw [if_pos (by omega)]; exact ⟨rfl, Below.refl _ _⟩)
                                | (rw [IntWalk.i64_in _ (by omega)]; exact ⟨rfl, Below.refl _ _⟩)
                                | done
                            · intro p_
                              refine .inr ⟨by kernel_rfl, fun w1_ hB_ => ?_⟩
                              have hBq_ := below_thru (Below.refl wr.heap.size wr) hB_
                              have hB0_ := HBQ0.out.trans (hBq_.mono HBQ0.out.size)
                              have hB6_ := HBQ6.out.trans (hBq_.mono HBQ6.out.size)
                              have hxb_ := HXX.out.below hB0_ HXX.out.lt
                              have x0_ := hxb_.cell 0 (v := .string zn) rfl
                              have x1_ := hxb_.cell 1 (v := .slice (some ⟨bb, o, none⟩) l.length cA) rfl
                              have x2_ := hxb_.cell 2 (v := .slice A2 S.length cS) rfl
                              obtain ⟨c0_, c1_, c2_, c3_, c4_, c5_, c6_, c7_, c8_, c9_, c10_, c11_⟩ := HCC.out _ hBq_
                              obtain ⟨rc0_, rc1_⟩ := HRC.out _ hBq_
                              have lc_ := (hBq_.cell (p := ⟨bl, ol + k, none⟩) hblq).trans lcq
                              go_simp
                              first
                                | exact ⟨rfl, Below.refl _ _⟩
                                | exact ⟨rfl, HRW.out _ hB6_⟩
                                | (rw [decide_eq_true (by omega)]; exact ⟨rfl, Below.refl _ _⟩)
                                | (rw [decide_eq_false (by omega)]; exact ⟨rfl, Below.refl _ _⟩)
                                | (rw [if_pos (by omega)]; exact ⟨rfl, Below.refl _ _⟩)
                                | (rw [IntWalk.i64_in _ (by omega)]; exact ⟨rfl, Below.refl _ _⟩)
                                | done
                            · intro p_
                              refine .inr ⟨by kernel_rfl, fun w1_ hB_ => ?_⟩
                              have hBq_ := below_thru (Below.refl wr.heap.size wr) hB_
                              have hB0_ := HBQ0.out.trans (hBq_.mono HBQ0.out.size)
                              have hB6_ := HBQ6.out.trans (hBq_.mono HBQ6.out.size)
                              have hxb_ := HXX.out.below hB0_ HXX.out.lt
                              have x0_ := hxb_.cell 0 (v := .string zn) rfl
                              have x1_ := hxb_.cell 1 (v := .slice (some ⟨bb, o, none⟩) l.length cA) rfl
                              have x2_ := hxb_.cell 2 (v := .slice A2 S.length cS) rfl
                              obtain ⟨c0_, c1_, c2_, c3_, c4_, c5_, c6_, c7_, c8_, c9_, c10_, c11_⟩ := HCC.out _ hBq_
                              obtain ⟨rc0_, rc1_⟩ := HRC.out _ hBq_
                              have lc_ := (hBq_.cell (p := ⟨bl, ol + k, none⟩) hblq).trans lcq
                              go_simp
                              first
                                | exact ⟨rfl, Below.refl _ _⟩
                                | exact ⟨rfl, HRW.out _ hB6_⟩
                                | (rw [decide_eq_true (by omega)]; exact ⟨rfl, Below.refl _ _⟩)
                                | (rw [decide_eq_false (by omega)]; exact ⟨rfl, Below.refl _ _⟩)
                                | (rw [if_pos (by omega)]; exact ⟨rfl, Below.refl _ _⟩)
                                | (rw [IntWalk.i64_in _ (by omega)]; exact ⟨rfl, Below.refl _ _⟩)
                                | done
                            · intro p_
                              refine .inr ⟨by kernel_rfl, fun w1_ hB_ => ?_⟩
                              have hBq_ := below_thru (Below.refl wr.heap.size wr) hB_
                              have hB0_ := HBQ0.out.trans (hBq_.mono HBQ0.out.size)
                              have hB6_ := HBQ6.out.trans (hBq_.mono HBQ6.out.size)
                              have hxb_ := HXX.out.below hB0_ HXX.out.lt
                              have x0_ := hxb_.cell 0 (v := .string zn) rfl
                              have x1_ := hxb_.cell 1 (v := .slice (some ⟨bb, o, none⟩) l.length cA) rfl
                              have x2_ := hxb_.cell 2 (v := .slice A2 S.length cS) rfl
                              obtain ⟨c0_, c1_, c2_, c3_, c4_, c5_, c6_, c7_, c8_, c9_, c10_, c11_⟩ := HCC.out _ hBq_
                              obtain ⟨rc0_, rc1_⟩ := HRC.out _ hBq_
                              have lc_ := (hBq_.cell (p := ⟨bl, ol + k, none⟩) hblq).trans lcq
                              go_simp
                              first
                                | exact ⟨rfl, Below.refl _ _⟩
                                | exact ⟨rfl, HRW.out _ hB6_⟩
                                | (rw [decide_eq_true (by omega)]; exact ⟨rfl, Below.refl _ _⟩)
                                | (rw [decide_eq_false (by omega)]; exact ⟨rfl, Below.refl _ _⟩)
                                | (rw [if_pos (by omega)]; exact ⟨rfl, Below.refl _ _⟩)
                                | (rw [IntWalk.i64_in _ (by omega)]; exact ⟨rfl, Below.refl _ _⟩)
                                | done
                            · intro p_
                              refine .inr ⟨by kernel_rfl, fun w1_ hB_ => ?_⟩
                              have hBq_ := below_thru (Below.refl wr.heap.size wr) hB_
                              have hB0_ := HBQ0.out.trans (hBq_.mono HBQ0.out.size)
                              have hB6_ := HBQ6.out.trans (hBq_.mono HBQ6.out.size)
                              have hxb_ := HXX.out.below hB0_ HXX.out.lt
                              have x0_ := hxb_.cell 0 (v := .string zn) rfl
                              have x1_ := hxb_.cell 1 (v := .slice (some ⟨bb, o, none⟩) l.length cA) rfl
                              have x2_ := hxb_.cell 2 (v := .slice A2 S.length cS) rfl
                              obtain ⟨c0_, c1_, c2_, c3_, c4_, c5_, c6_, c7_, c8_, c9_, c10_, c11_⟩ := HCC.out _ hBq_
                              obtain ⟨rc0_, rc1_⟩ := HRC.out _ hBq_
                              have lc_ := (hBq_.cell (p := ⟨bl, ol + k, none⟩) hblq).trans lcq
                              go_simp
                              first
                                | exact ⟨rfl, Below.refl _ _⟩
                                | exact ⟨rfl, HRW.out _ hB6_⟩
                                | (rw [decide_eq_true (by omega)]; exact ⟨rfl, Below.refl _ _⟩)
                                | (rw [decide_eq_false (by omega)]; exact ⟨rfl, Below.refl _ _⟩)
                                | (rw [if_pos (by omega)]; exact ⟨rfl, Below.refl _ _⟩)
                                | (rw [IntWalk.i64_in _ (by omega)]; exact ⟨rfl, Below.refl _ _⟩)
                                | done
                            · intro p_
                              refine .inr ⟨by kernel_rfl, fun w1_ hB_ => ?_⟩
                              have hBq_ := below_thru (Below.refl wr.heap.size wr) hB_
                              have hB0_ := HBQ0.out.trans (hBq_.mono HBQ0.out.size)
                              have hB6_ := HBQ6.out.trans (hBq_.mono HBQ6.out.size)
                              have hxb_ := HXX.out.below hB0_ HXX.out.lt
                              have x0_ := hxb_.cell 0 (v := .string zn) rfl
                              have x1_ := hxb_.cell 1 (v := .slice (some ⟨bb, o, none⟩) l.length cA) rfl
                              have x2_ := hxb_.cell 2 (v := .slice A2 S.length cS) rfl
                              obtain ⟨c0_, c1_, c2_, c3_, c4_, c5_, c6_, c7_, c8_, c9_, c10_, c11_⟩ := HCC.out _ hBq_
                              obtain ⟨rc0_, rc1_⟩ := HRC.out _ hBq_
                              have lc_ := (hBq_.cell (p := ⟨bl, ol + k, none⟩) hblq).trans lcq
                              go_simp
                              first
                                | exact ⟨rfl, Below.refl _ _⟩
                                | exact ⟨rfl, HRW.out _ hB6_⟩
                                | (rw [decide_eq_true (by omega)]; exact ⟨rfl, Below.refl _ _⟩)
                                | (rw [decide_eq_false (by omega)]; exact ⟨rfl, Below.refl _ _⟩)
                                | (rw [if_pos (by omega)]; exact ⟨rfl, Below.refl _ _⟩)
                                | (rw [IntWalk.i64_in _ (by omega)]; exact ⟨rfl, Below.refl _ _⟩)
                                | done
                            · intro p_
                              refine .inr ⟨by kernel_rfl, fun w1_ hB_ => ?_⟩
                              have hBq_ := below_thru (Below.refl wr.heap.size wr) hB_
                              have hB0_ := HBQ0.out.trans (hBq_.mono HBQ0.out.size)
                              have hB6_ := HBQ6.out.trans (hBq_.mono HBQ6.out.size)
                              have hxb_ := HXX.out.below hB0_ HXX.out.lt
                              have x0_ := hxb_.cell 0 (v := .string zn) rfl
                              have x1_ := hxb_.cell 1 (v := .slice (some ⟨bb, o, none⟩) l.length cA) rfl
                              have x2_ := hxb_.cell 2 (v := .slice A2 S.length cS) rfl
                              obtain ⟨c0_, c1_, c2_, c3_, c4_, c5_, c6_, c7_, c8_, c9_, c10_, c11_⟩ := HCC.out _ hBq_
                              obtain ⟨rc0_, rc1_⟩ := HRC.out _ hBq_
                              have lc_ := (hBq_.cell (p := ⟨bl, ol + k, none⟩) hblq).trans lcq
                              go_simp
                              first
                                | exact ⟨rfl, Below.refl _ _⟩
                                | exact ⟨rfl, HRW.out _ hB6_⟩
                                | (rw [decide_eq_true (by omega)]; exact ⟨rfl, Below.refl _ _⟩)
                                | (rw [decide_eq_false (by omega)]; exact ⟨rfl, Below.refl _ _⟩)
                                | (rw [if_pos (by omega)]; exact ⟨rfl, Below.refl _ _⟩)
                                | (rw [IntWalk.i64_in _ (by omega)]; exact ⟨rfl, Below.refl _ _⟩)
                                | done
                            · intro p_
                              refine .inr ⟨by kernel_rfl, fun w1_ hB_ => ?_⟩
                              have hBq_ := below_thru (Below.refl wr.heap.size wr) hB_
                              have hB0_ := HBQ0.out.trans (hBq_.mono HBQ0.out.size)
                              have hB6_ := HBQ6.out.trans (hBq_.mono HBQ6.out.size)
                              have hxb_ := HXX.out.below hB0_ HXX.out.lt
                              have x0_ := hxb_.cell 0 (v := .string zn) rfl
                              have x1_ := hxb_.cell 1 (v := .slice (some ⟨bb, o, none⟩) l.length cA) rfl
                              have x2_ := hxb_.cell 2 (v := .slice A2 S.length cS) rfl
                              obtain ⟨c0_, c1_, c2_, c3_, c4_, c5_, c6_, c7_, c8_, c9_, c10_, c11_⟩ := HCC.out _ hBq_
                              obtain ⟨rc0_, rc1_⟩ := HRC.out _ hBq_
                              have lc_ := (hBq_.cell (p := ⟨bl, ol + k, none⟩) hblq).trans lcq
                              go_simp
                              first
                                | exact ⟨rfl, Below.refl _ _⟩
                                | exact ⟨rfl, HRW.out _ hB6_⟩
                                | (rw [decide_eq_true (by omega)]; exact ⟨rfl, Below.refl _ _⟩)
                                | (rw [decide_eq_false (by omega)]; exact ⟨rfl, Below.refl _ _⟩)
                                | (rw [if_pos (by omega)]; exact ⟨rfl, Below.refl _ _⟩)
                                | (rw [IntWalk.i64_in _ (by omega)]; exact ⟨rfl, Below.refl _ _⟩)
                                | done
                            · intro p_
                              refine .inr ⟨by kernel_rfl, fun w1_ hB_ => ?_⟩
                              have hBq_ := below_thru (Below.refl wr.heap.size wr) hB_
                              have hB0_ := HBQ0.out.trans (hBq_.mono HBQ0.out.size)
                              have hB6_ := HBQ6.out.trans (hBq_.mono HBQ6.out.size)
                              have hxb_ := HXX.out.below hB0_ HXX.out.lt
                              have x0_ := hxb_.cell 0 (v := .string zn) rfl
                              have x1_ := hxb_.cell 1 (v := .slice (some ⟨bb, o, none⟩) l.length cA) rfl
                              have x2_ := hxb_.cell 2 (v := .slice A2 S.length cS) rfl
                              obtain ⟨c0_, c1_, c2_, c3_, c4_, c5_, c6_, c7_, c8_, c9_, c10_, c11_⟩ := HCC.out _ hBq_
                              obtain ⟨rc0_, rc1_⟩ := HRC.out _ hBq_
                              have lc_ := (hBq_.cell (p := ⟨bl, ol + k, none⟩) hblq).trans lcq
                              go_simp
                              first
                                | exact ⟨rfl, Below.refl _ _⟩
                                | exact ⟨rfl, HRW.out _ hB6_⟩
                                | (rw [decide_eq_true (by omega)]; exact ⟨rfl, Below.refl _ _⟩)
                                | (rw [decide_eq_false (by omega)]; exact ⟨rfl, Below.refl _ _⟩)
                                | (rw [if_pos (by omega)]; exact ⟨rfl, Below.refl _ _⟩)
                                | (rw [IntWalk.i64_in _ (by omega)]; exact ⟨rfl, Below.refl _ _⟩)
                                | done
                            · intro p_
                              refine .inr ⟨by kernel_rfl, fun w1_ hB_ => ?_⟩
                              have hBq_ := below_thru (Below.refl wr.heap.size wr) hB_
                              have hB0_ := HBQ0.out.trans (hBq_.mono HBQ0.out.size)
                              have hB6_ := HBQ6.out.trans (hBq_.mono HBQ6.out.size)
                              have hxb_ := HXX.out.below hB0_ HXX.out.lt
                              have x0_ := hxb_.cell 0 (v := .string zn) rfl
                              have x1_ := hxb_.cell 1 (v := .slice (some ⟨bb, o, none⟩) l.length cA) rfl
                              have x2_ := hxb_.cell 2 (v := .slice A2 S.length cS) rfl
                              obtain ⟨c0_, c1_, c2_, c3_, c4_, c5_, c6_, c7_, c8_, c9_, c10_, c11_⟩ := HCC.out _ hBq_
                              obtain ⟨rc0_, rc1_⟩ := HRC.out _ hBq_
                              have lc_ := (hBq_.cell (p := ⟨bl, ol + k, none⟩) hblq).trans lcq
                              go_simp
                              first
                                | exact ⟨rfl, Below.refl _ _⟩
                                | exact ⟨rfl, HRW.out _ hB6_⟩
                                | (rw [decide_eq_true (by omega)]; exact ⟨rfl, Below.refl _ _⟩)
                                | (rw [decide_eq_false (by omega)]; exact ⟨rfl, Below.refl _ _⟩)
                                | (rw [if_pos (by omega)]; exact ⟨rfl, Below.refl _ _⟩)
                                | (rw [IntWalk.i64_in _ (by omega)]; exact ⟨rfl, Below.refl _ _⟩)
                                | done
                            · intro p_
                              refine .inr ⟨by kernel_rfl, fun w1_ hB_ => ?_⟩
                              have hBq_ := below_thru (Below.refl wr.heap.size wr) hB_
                              have hB0_ := HBQ0.out.trans (hBq_.mono HBQ0.out.size)
                              have hB6_ := HBQ6.out.trans (hBq_.mono HBQ6.out.size)
                              have hxb_ := HXX.out.below hB0_ HXX.out.lt
                              have x0_ := hxb_.cell 0 (v := .string zn) rfl
                              have x1_ := hxb_.cell 1 (v := .slice (some ⟨bb, o, none⟩) l.length cA) rfl
                              have x2_ := hxb_.cell 2 (v := .slice A2 S.length cS) rfl
                              obtain ⟨c0_, c1_, c2_, c3_, c4_, c5_, c6_, c7_, c8_, c9_, c10_, c11_⟩ := HCC.out _ hBq_
                              obtain ⟨rc0_, rc1_⟩ := HRC.out _ hBq_
                              have lc_ := (hBq_.cell (p := ⟨bl, ol + k, none⟩) hblq).trans lcq
                              go_simp
                              first
                                | exact ⟨rfl, Below.refl _ _⟩
                                | exact ⟨rfl, HRW.out _ hB6_⟩
                                | (rw [decide_eq_true (by omega)]; exact ⟨rfl, Below.refl _ _⟩)
                                | (rw [decide_eq_false (by omega)]; exact ⟨rfl, Below.refl _ _⟩)
                                | (rw [if_pos (by omega)]; exact ⟨rfl, Below.refl _ _⟩)
                                | (rw [IntWalk.i64_in _ (by omega)]; exact ⟨rfl, Below.refl _ _⟩)
                                | done
                            · intro p_
                              refine .inr ⟨by kernel_rfl, fun w1_ hB_ => ?_⟩
                              have hBq_ := below_thru (Below.refl wr.heap.size wr) hB_
                              have hB0_ := HBQ0.out.trans (hBq_.mono HBQ0.out.size)
                              have hB6_ := HBQ6.out.trans (hBq_.mono HBQ6.out.size)
                              have hxb_ := HXX.out.below hB0_ HXX.out.lt
                              have x0_ := hxb_.cell 0 (v := .string zn) rfl
                              have x1_ := hxb_.cell 1 (v := .slice (some ⟨bb, o, none⟩) l.length cA) rfl
                              have x2_ := hxb_.cell 2 (v := .slice A2 S.length cS) rfl
                              obtain ⟨c0_, c1_, c2_, c3_, c4_, c5_, c6_, c7_, c8_, c9_, c10_, c11_⟩ := HCC.out _ hBq_
                              obtain ⟨rc0_, rc1_⟩ := HRC.out _ hBq_
                              have lc_ := (hBq_.cell (p := ⟨bl, ol + k, none⟩) hblq).trans lcq
                              go_simp
                              first
                                | exact ⟨rfl, Below.refl _ _⟩
                                | exact ⟨rfl, HRW.out _ hB6_⟩
                                | (rw [decide_eq_true (by omega)]; exact ⟨rfl, Below.refl _ _⟩)
                                | (rw [decide_eq_false (by omega)]; exact ⟨rfl, Below.refl _ _⟩)
                                | (rw [if_pos (by omega)]; exact ⟨rfl, Below.refl _ _⟩)
                                | (rw [IntWalk.i64_in _ (by omega)]; exact ⟨rfl, Below.refl _ _⟩)
                                | done
                            · intro p_
                              refine .inr ⟨by kernel_rfl, fun w1_ hB_ => ?_⟩
                              have hBq_ := below_thru (Below.refl wr.heap.size wr) hB_
                              have hB0_ := HBQ0.out.trans (hBq_.mono HBQ0.out.size)
                              have hB6_ := HBQ6.out.trans (hBq_.mono HBQ6.out.size)
                              have hxb_ := HXX.out.below hB0_ HXX.out.lt
                              have x0_ := hxb_.cell 0 (v := .string zn) rfl
                              have x1_ := hxb_.cell 1 (v := .slice (some ⟨bb, o, none⟩) l.length cA) rfl
                              have x2_ := hxb_.cell 2 (v := .slice A2 S.length cS) rfl
                              obtain ⟨c0_, c1_, c2_, c3_, c4_, c5_, c6_, c7_, c8_, c9_, c10_, c11_⟩ := HCC.out _ hBq_
                              obtain ⟨rc0_, rc1_⟩ := HRC.out _ hBq_
                              have lc_ := (hBq_.cell (p := ⟨bl, ol + k, none⟩) hblq).trans lcq
                              go_simp
                              first
                                | exact ⟨rfl, Below.refl _ _⟩
                                | exact ⟨rfl, HRW.out _ hB6_⟩
                                | (rw [decide_eq_true (by omega)]; exact ⟨rfl, Below.refl _ _⟩)
                                | (rw [decide_eq_false (by omega)]; exact ⟨rfl, Below.refl _ _⟩)
                                | (rw [if_pos (by omega)]; exact ⟨rfl, Below.refl _ _⟩)
                                | (rw [IntWalk.i64_in _ (by omega)]; exact ⟨rfl, Below.refl _ _⟩)
                                | done
                            · intro p_
                              refine .inr ⟨by kernel_rfl, fun w1_ hB_ => ?_⟩
                              have hBq_ := below_thru (Below.refl wr.heap.size wr) hB_
                              have hB0_ := HBQ0.out.trans (hBq_.mono HBQ0.out.size)
                              have hB6_ := HBQ6.out.trans (hBq_.mono HBQ6.out.size)
                              have hxb_ := HXX.out.below hB0_ HXX.out.lt
                              have x0_ := hxb_.cell 0 (v := .string zn) rfl
                              have x1_ := hxb_.cell 1 (v := .slice (some ⟨bb, o, none⟩) l.length cA) rfl
                              have x2_ := hxb_.cell 2 (v := .slice A2 S.length cS) rfl
                              obtain ⟨c0_, c1_, c2_, c3_, c4_, c5_, c6_, c7_, c8_, c9_, c10_, c11_⟩ := HCC.out _ hBq_
                              obtain ⟨rc0_, rc1_⟩ := HRC.out _ hBq_
                              have lc_ := (hBq_.cell (p := ⟨bl, ol + k, none⟩) hblq).trans lcq
                              go_simp
                              first
                                | exact ⟨rfl, Below.refl _ _⟩
                                | exact ⟨rfl, HRW.out _ hB6_⟩
                                | (rw [decide_eq_true (by omega)]; exact ⟨rfl, Below.refl _ _⟩)
                                | (rw [decide_eq_false (by omega)]; exact ⟨rfl, Below.refl _ _⟩)
                                | (rw [if_pos (by omega)]; exact ⟨rfl, Below.refl _ _⟩)
                                | (rw [IntWalk.i64_in _ (by omega)]; exact ⟨rfl, Below.refl _ _⟩)
                                | done
                            · refine ⟨fun p_ => by kernel_rfl, fun p_ w1_ hB_ => ?_⟩
                              first | rfl | (go_simp; done) | (go_simp; rfl)
                            · refine ⟨fun p_ => by kernel_rfl, fun b_ w1_ hb_ => ⟨(((w1_.setCell ⟨b_, 0, none⟩ (.int .i64 (x.n.off + sv'))).setCell ⟨b_, 1, none⟩ (.bool (dstB sv'))).setCell ⟨b_, 2, none⟩ (.string s')), ?_, ((Fr.setCell (T := fun k => k = b_) w1_ 0 (.int .i64 (x.n.off + sv')) rfl).then (Fr.setCell _ 1 _ rfl)).then (Fr.setCell _ 2 _ rfl), (((hb_.set 0 (.int .i64 (x.n.off + sv'))).set 1 (.bool (dstB sv'))).set 2 (.string s'))⟩⟩
                              have f0_ := Blk.frozen hb_ 0
                              have f1_ := Blk.frozen hb_ 1
                              have f2_ := Blk.frozen hb_ 2
                              have z0_ := Blk.cell hb_ 0 (v := .int .i64 0) rfl
                              have z1_ := Blk.cell hb_ 1 (v := .bool false) rfl
                              have z2_ := Blk.cell hb_ 2 (v := .string ⟨#[]⟩) rfl
                              go_simp
                              try rfl
                            · intro p_
                              refine .inr ⟨by kernel_rfl, fun w1_ hB_ => ?_⟩
                              have hBq_ := below_thru (Below.refl wr.heap.size wr) hB_
                              have hB0_ := HBQ0.out.trans (hBq_.mono HBQ0.out.size)
                              have hB6_ := HBQ6.out.trans (hBq_.mono HBQ6.out.size)
                              have hxb_ := HXX.out.below hB0_ HXX.out.lt
                              have x0_ := hxb_.cell 0 (v := .string zn) rfl
                              have x1_ := hxb_.cell 1 (v := .slice (some ⟨bb, o, none⟩) l.length cA) rfl
                              have x2_ := hxb_.cell 2 (v := .slice A2 S.length cS) rfl
                              obtain ⟨c0_, c1_, c2_, c3_, c4_, c5_, c6_, c7_, c8_, c9_, c10_, c11_⟩ := HCC.out _ hBq_
                              obtain ⟨rc0_, rc1_⟩ := HRC.out _ hBq_
                              have lc_ := (hBq_.cell (p := ⟨bl, ol + k, none⟩) hblq).trans lcq
                              go_simp
                              first
                                | exact ⟨rfl, Below.refl _ _⟩
                                | exact ⟨rfl, HRW.out _ hB6_⟩
                                | (rw [decide_eq_true (by omega)]; exact ⟨rfl, Below.refl _ _⟩)
                                | (rw [decide_eq_false (by omega)]; exact ⟨rfl, Below.refl _ _⟩)
                                | (rw [if_pos (by omega)]; exact ⟨rfl, Below.refl _ _⟩)
                                | (rw [IntWalk.i64_in _ (by omega)]; exact ⟨rfl, Below.refl _ _⟩)
                                | done
                          case nextza =>
                          intro xc w10 hb10 hxc hX10
                          have HB10 := Lib.hid (below_thru (Below.refl wr.heap.size wr) hb10)
                          have HB11 := Lib.hid (HBQ6.out.trans (HB10.out.mono HBQ6.out.size))
                          have hk8 := HX8.out.below (HBQ.out.trans (HB10.out.mono HBQ.out.size)) HX8.out.lt
                          have HK8 := Lib.hid hk8
                          have HX10 := Lib.hid hX10
                          have lc10 := (HB10.out.cell (p := ⟨bl, ol + k, none⟩) hblq).trans lcq
                          have hbl10 : bl < w10.heap.size := Nat.lt_of_lt_of_le hblq HB10.out.size
                          have hx8l := hk8.lt
                          have hx10l := hX10.lt
                          clear hb10 hxc hk8 hX10 lc lcq
                          rcases HY.out with ⟨rfl, rfl, rfl, rfl, rfl⟩ | ⟨rfl, rfl, rfl, rfl, rfl⟩
                          all_goals
                            have l0 := HK8.out.cell 0 rfl
                            have l1 := HK8.out.cell 1 rfl
                            have l2 := HK8.out.cell 2 rfl
                            have m0 := HX10.out.cell 0 rfl
                            have m1 := HX10.out.cell 1 rfl
                            have m2 := HX10.out.cell 2 rfl
                            go_wp2_with fail
                            refine (HZE.out _ HB11.out).mono ?_
                            rintro o w11 ⟨rfl, rfl⟩
                            go_wp2_with fail
                            go_roundw
                            case rel => exact ⟨k + 1, by omega, by go_num, HB11.out⟩
                            case measure => simp [intOf]; omega
                      · have hd3 : decide ((m : Int) < (EL.length : Int)) = false := decide_eq_false (by omega)
                        have HKI := Lib.hid (show eraI (endL S l) i = m by rw [← HELL.out]; exact eraI_loop (by omega) HNO.out (fun h => absurd h (by omega)))
                        obtain ⟨hl0, -, hat, -⟩ := errZ_zero HE.out
                        have hml : m < l.length := by have := HELEN.out; omega
                        have hmR : m < R.length := by rw [HRL.out]; exact hml
                        have HROK := HRO.out m hmR hml
                        have hrm : FrisN w6 R[m].v R[m].D := HRM.out.2 _ (List.getElem_mem hmR)
                        have hzn := atZ_near HE.out (nearB_iff.1 HNB.out).1 (nearB_iff.1 HNB.out).2 hml HKI.out
                        have her := hat m hml
                        rw [errAt_eq hml] at her
                        obtain ⟨cut, hcut, hsv⟩ := near_eq HE.out (nearB_iff.1 HNB.out).1 (nearB_iff.1 HNB.out).2 hml HROK
                        have hfx := (fewB_iff.1 HFEW.out).1 _ (List.getElem_mem hml)
                        have hcQ := HB0.out.trans (HBQ0.out.mono HB0.out.size)
                        obtain ⟨bb, o, c', e, hbb, hc⟩ := ((HZ0.out.below HBQ0.out).eras).cells (by omega)
                        cases e
                        have hx := hc m hml
                        obtain ⟨br, orr, cr', e, hbr, hcr⟩ := (HRM.out.below HBQ6.out).cells (by omega)
                        cases e
                        obtain ⟨rc0, rc1⟩ := hcr m hmR
                        obtain ⟨x, hxk⟩ : ∃ x, l[m] = x := ⟨_, rfl⟩
                        obtain ⟨r, hrk⟩ : ∃ r, R[m] = r := ⟨_, rfl⟩
                        rw [hxk] at hx hzn her hsv HROK hcut hfx
                        rw [hrk] at rc0 rc1 HROK hrm hcut hsv
                        obtain ⟨hkd, hof, hsf, -, -, -⟩ := errE_zero her
                        have hsum := sum_ok (e := x.n) (ru := x.ru) (i := i) (ZOk.rule (few_ok HFEW.out) x) (ZOk.ruleL HLET.out x) hsf
                        unfold sumOk at hsum
                        rw [HZA.out] at hzn
                        unfold zwithinV at hzn
                        obtain ⟨⟨sv', lt⟩, hsl⟩ : ∃ q, savesV x.n x.ru (ruleE S x) i = q := ⟨_, rfl⟩
                        rw [hsl] at hzn hsv hsum
                        simp only at hzn hsum
                        obtain ⟨A9, c9, hv9, -, -⟩ := hrm.1.form
                        have HRW := Lib.hid (fun (W : World) (h : Below w6.heap.size w6 W) => rwithin_any W x.n x.ru x.fm x.en w6.heap.size r.v r.D r.letter (hrm.1.below h) h.size HROK.len HROK.bd i cut (fun _ => hcut) (by have := eraFew_fm hfx; omega) (by omega) (by rw [← hsv]; exact hsum))
                        rw [← hsv] at HRW
                        simp only at HRW
                        have hse := showV_err (off := x.n.off + sv') (dst := dstB sv') (letter := lt) hkd
                        obtain ⟨⟨s', e'⟩, hsh⟩ : ∃ q, showV x.fm (x.n.off + sv') (dstB sv') lt = q := ⟨_, rfl⟩
                        rw [hsh] at hzn HRW hse
                        simp only at hzn HRW hse
                        rw [hv9] at HRW rc0
                        unfold eraA at HRW
                        obtain ⟨c0, c1, c2, c3, c4_, c5_, c6_, c7, c8, c9_, c10, c11⟩ := hx
                        have hbbq : bb < wr.heap.size := by have := HBQ0.out.size; have := HB0.out.size; omega
                        have HCC := Lib.hid (fun (W : World) (h : Below wr.heap.size wr W) => show EraCc W bb (o + m * 12) x from ⟨(h.cell (p := ⟨bb, o + m * 12, none⟩) hbbq).trans c0, (h.cell (p := ⟨bb, o + m * 12 + 1, none⟩) hbbq).trans c1, (h.cell (p := ⟨bb, o + m * 12 + 2, none⟩) hbbq).trans c2, (h.cell (p := ⟨bb, o + m * 12 + 3, none⟩) hbbq).trans c3, (h.cell (p := ⟨bb, o + m * 12 + 4, none⟩) hbbq).trans c4_, (h.cell (p := ⟨bb, o + m * 12 + 5, none⟩) hbbq).trans c5_, (h.cell (p := ⟨bb, o + m * 12 + 6, none⟩) hbbq).trans c6_, (h.cell (p := ⟨bb, o + m * 12 + 7, none⟩) hbbq).trans c7, (h.cell (p := ⟨bb, o + m * 12 + 8, none⟩) hbbq).trans c8, (h.cell (p := ⟨bb, o + m * 12 + 9, none⟩) hbbq).trans c9_, (h.cell (p := ⟨bb, o + m * 12 + 10, none⟩) hbbq).trans c10, (h.cell (p := ⟨bb, o + m * 12 + 11, none⟩) hbbq).trans c11⟩)
                        have HRC := Lib.hid (fun (W : World) (h : Below wr.heap.size wr W) => And.intro ((h.cell (p := ⟨br, orr + m * 2, none⟩) hbr).trans rc0) ((h.cell (p := ⟨br, orr + m * 2 + 1, none⟩) hbr).trans rc1))
                        have HZE := Lib.hid (fun (W : World) (h : Below w6.heap.size w6 W) => zera_any W w6.heap.size _ EL i (Nums.below HU6.out h))
                        rw [HELL.out, HKI.out, ← HELL.out] at HZE
                        have hmc0 : (0 : Int) ≤ (m : Int) := by omega
                        have hmcl : (m : Int) < (l.length : Int) := by omega
                        have hmcR : (m : Int) < (R.length : Int) := by omega
                        have hdl : decide (m < l.length) = true := decide_eq_true hml
                        have hdR : decide (m < R.length) = true := decide_eq_true hmR
                        have hy : ∃ yb : Bool, decide (e' = 0) = yb ∧ (yb = true ∧ a = x.n.off + sv' ∧ d = dstB sv' ∧ s = s' ∧ er = 0 ∨ yb = false ∧ a = 0 ∧ d = false ∧ s = ⟨#[]⟩ ∧ er = 10) := by
                          rcases hse with h0 | h10
                          · refine ⟨true, by rw [h0]; rfl, .inl ⟨rfl, ?_⟩⟩
                            unfold withinR at hzn
                            rw [if_pos h0] at hzn
                            exact locV_inj hzn
                          · injection h10 with h1 h2
                            refine ⟨false, by rw [h2]; rfl, .inr ⟨rfl, ?_⟩⟩
                            unfold withinR at hzn
                            rw [h2, if_neg (by decide)] at hzn
                            exact locV_inj hzn
                        obtain ⟨yb, hyb, hy⟩ := hy
                        rw [hyb] at HRW
                        have HY := Lib.hid hy
                        clear hl0 hat HROK hrm hzn her hcut hsv hfx hcQ hc hcr hxk hrk hkd hof hsf hsum hsl hv9 hse hsh c0 c1 c2 c3 c4_ c5_ c6_ c7 c8 c9_ c10 c11 rc0 rc1 hyb hy
                        have lcq := lc
                        go_wp2_with fail
                        go_quiet (fail)
                        go_wp2_with fail
                        refine wp_envA (fin := ?fnzb) (by kernel_rfl) [144, 145, 146, 147, 148, 149, 150, 151, 152, 153, 154, 155, 156, 157, 158, 143, 159, 160, 15, 999, 16]
                          [.pointer (some ⟨w.heap.size, 0, none⟩), .pointer (some ⟨w.heap.size, 1, none⟩), .slice (some ⟨bb, o, none⟩) l.length cA, .int .i64 m, .pointer (some ⟨bb, o + m * 12, none⟩), .agg #[.int .i64 x.n.off, .string x.ru, .int .i64 x.n.save, .string x.fm, .bool x.en, .int .i64 x.n.year, .int .i64 x.n.month, .int .i64 x.n.dk, .int .i64 x.n.dw, .int .i64 x.n.dn, .int .i64 x.n.sec, .int .i64 x.n.ak], .slice (some ⟨br, orr, none⟩) R.length c6, .int .i64 m, .pointer (some ⟨br, orr + m * 2, none⟩), .agg #[.slice A9 r.D.length c9, .string r.letter], .slice (some ⟨bl, ol, none⟩) L.length cL, .int .i64 k, .pointer (some ⟨bl, ol + k, none⟩), .int .i64 i, .tuple #[.agg #[.int .i64 (x.n.off + sv'), .bool (dstB sv'), .string s'], .bool yb], .tuple #[.agg #[.int .i64 (x.n.off + sv'), .bool (dstB sv'), .string s'], .bool yb], .agg #[.int .i64 (x.n.off + sv'), .bool (dstB sv'), .string s'], .bool yb, undef, undef, .bool yb] 18 19 41 #[.int .i64 0, .bool false, .string ⟨#[]⟩] #[.int .i64 (x.n.off + sv'), .bool (dstB sv'), .string s'] (by kernel_rfl) (by simp) (by decide) ?finzb ?stepszb ?nextzb
                        case finzb =>
                          intro p_
                          simp only [List.set_cons_succ, List.set_cons_zero, putAll, Act.put, List.setIfInBounds_toArray, List.set_nil]
                          rfl
                        case stepszb =>
                          refine ⟨?_, ?_, ?_, ?_, ?_, ?_, ?_, ?_, ?_, ?_, ?_, ?_, ?_, ?_, ?_, ?_, ?_, ?_, ?_, ?_, ?_, trivial⟩
                          · intro p_
                            refine .inr ⟨by kernel_rfl, fun w1_ hB_ => ?_⟩
                            have hBq_ := below_thru (Below.refl wr.heap.size wr) hB_
                            have hB0_ := HBQ0.out.trans (hBq_.mono HBQ0.out.size)
                            have hB6_ := HBQ6.out.trans (hBq_.mono HBQ6.out.size)
                            have hxb_ := HXX.out.below hB0_ HXX.out.lt
                            have x0_ := hxb_.cell 0 (v := .string zn) rfl
                            have x1_ := hxb_.cell 1 (v := .slice (some ⟨bb, o, none⟩) l.length cA) rfl
                            have x2_ := hxb_.cell 2 (v := .slice A2 S.length cS) rfl
                            obtain ⟨c0_, c1_, c2_, c3_, c4_, c5_, c6_, c7_, c8_, c9_, c10_, c11_⟩ := HCC.out _ hBq_
                            obtain ⟨rc0_, rc1_⟩ := HRC.out _ hBq_
                            have lc_ := (hBq_.cell (p := ⟨bl, ol + k, none⟩) hblq).trans lcq
                            go_simp
                            first
                              | exact ⟨rfl, Below.refl _ _⟩
                              | exact ⟨rfl, HRW.out _ hB6_⟩
                              | (rw [decide_eq_true (by omega)]; exact ⟨rfl, Below.refl _ _⟩)
                              | (rw [decide_eq_false (by omega)]; exact ⟨rfl, Below.refl _ _⟩)
                              | (rw [if_pos (by omega)]; exact ⟨rfl, Below.refl _ _⟩)
                              | (rw [IntWalk.i64_in _ (by omega)]; exact ⟨rfl, Below.refl _ _⟩)
                              | done
                          · intro p_
                            refine .inr ⟨by kernel_rfl, fun w1_ hB_ => ?_⟩
                            have hBq_ := below_thru (Below.refl wr.heap.size wr) hB_
                            have hB0_ := HBQ0.out.trans (hBq_.mono HBQ0.out.size)
                            have hB6_ := HBQ6.out.trans (hBq_.mono HBQ6.out.size)
                            have hxb_ := HXX.out.below hB0_ HXX.out.lt
                            have x0_ := hxb_.cell 0 (v := .string zn) rfl
                            have x1_ := hxb_.cell 1 (v := .slice (some ⟨bb, o, none⟩) l.length cA) rfl
                            have x2_ := hxb_.cell 2 (v := .slice A2 S.length cS) rfl
                            obtain ⟨c0_, c1_, c2_, c3_, c4_, c5_, c6_, c7_, c8_, c9_, c10_, c11_⟩ := HCC.out _ hBq_
                            obtain ⟨rc0_, rc1_⟩ := HRC.out _ hBq_
                            have lc_ := (hBq_.cell (p := ⟨bl, ol + k, none⟩) hblq).trans lcq
                            go_simp
                            first
                              | exact ⟨rfl, Below.refl _ _⟩
                              | exact ⟨rfl, HRW.out _ hB6_⟩
                              | (rw [decide_eq_true (by omega)]; exact ⟨rfl, Below.refl _ _⟩)
                              | (rw [decide_eq_false (by omega)]; exact ⟨rfl, Below.refl _ _⟩)
                              | (rw [if_pos (by omega)]; exact ⟨rfl, Below.refl _ _⟩)
                              | (rw [IntWalk.i64_in _ (by omega)]; exact ⟨rfl, Below.refl _ _⟩)
                              | done
                          · intro p_
                            refine .inr ⟨by kernel_rfl, fun w1_ hB_ => ?_⟩
                            have hBq_ := below_thru (Below.refl wr.heap.size wr) hB_
                            have hB0_ := HBQ0.out.trans (hBq_.mono HBQ0.out.size)
                            have hB6_ := HBQ6.out.trans (hBq_.mono HBQ6.out.size)
                            have hxb_ := HXX.out.below hB0_ HXX.out.lt
                            have x0_ := hxb_.cell 0 (v := .string zn) rfl
                            have x1_ := hxb_.cell 1 (v := .slice (some ⟨bb, o, none⟩) l.length cA) rfl
                            have x2_ := hxb_.cell 2 (v := .slice A2 S.length cS) rfl
                            obtain ⟨c0_, c1_, c2_, c3_, c4_, c5_, c6_, c7_, c8_, c9_, c10_, c11_⟩ := HCC.out _ hBq_
                            obtain ⟨rc0_, rc1_⟩ := HRC.out _ hBq_
                            have lc_ := (hBq_.cell (p := ⟨bl, ol + k, none⟩) hblq).trans lcq
                            go_simp
                            first
                              | exact ⟨rfl, Below.refl _ _⟩
                              | exact ⟨rfl, HRW.out _ hB6_⟩
                              | (rw [decide_eq_true (by omega)]; exact ⟨rfl, Below.refl _ _⟩)
                              | (rw [decide_eq_false (by omega)]; exact ⟨rfl, Below.refl _ _⟩)
                              | (rw [if_pos (by omega)]; exact ⟨rfl, Below.refl _ _⟩)
                              | (rw [IntWalk.i64_in _ (by omega)]; exact ⟨rfl, Below.refl _ _⟩)
                              | done
                          · intro p_
                            refine .inr ⟨by kernel_rfl, fun w1_ hB_ => ?_⟩
                            have hBq_ := below_thru (Below.refl wr.heap.size wr) hB_
                            have hB0_ := HBQ0.out.trans (hBq_.mono HBQ0.out.size)
                            have hB6_ := HBQ6.out.trans (hBq_.mono HBQ6.out.size)
                            have hxb_ := HXX.out.below hB0_ HXX.out.lt
                            have x0_ := hxb_.cell 0 (v := .string zn) rfl
                            have x1_ := hxb_.cell 1 (v := .slice (some ⟨bb, o, none⟩) l.length cA) rfl
                            have x2_ := hxb_.cell 2 (v := .slice A2 S.length cS) rfl
                            obtain ⟨c0_, c1_, c2_, c3_, c4_, c5_, c6_, c7_, c8_, c9_, c10_, c11_⟩ := HCC.out _ hBq_
                            obtain ⟨rc0_, rc1_⟩ := HRC.out _ hBq_
                            have lc_ := (hBq_.cell (p := ⟨bl, ol + k, none⟩) hblq).trans lcq
                            go_simp
                            first
                              | exact ⟨rfl, Below.refl _ _⟩
                              | exact ⟨rfl, HRW.out _ hB6_⟩
                              | (rw [decide_eq_true (by omega)]; exact ⟨rfl, Below.refl _ _⟩)
                              | (rw [decide_eq_false (by omega)]; exact ⟨rfl, Below.refl _ _⟩)
                              | (rw [if_pos (by omega)]; exact ⟨rfl, Below.refl _ _⟩)
                              | (rw [IntWalk.i64_in _ (by omega)]; exact ⟨rfl, Below.refl _ _⟩)
                              | done
                          · intro p_
                            refine .inr ⟨by kernel_rfl, fun w1_ hB_ => ?_⟩
                            have hBq_ := below_thru (Below.refl wr.heap.size wr) hB_
                            have hB0_ := HBQ0.out.trans (hBq_.mono HBQ0.out.size)
                            have hB6_ := HBQ6.out.trans (hBq_.mono HBQ6.out.size)
                            have hxb_ := HXX.out.below hB0_ HXX.out.lt
                            have x0_ := hxb_.cell 0 (v := .string zn) rfl
                            have x1_ := hxb_.cell 1 (v := .slice (some ⟨bb, o, none⟩) l.length cA) rfl
                            have x2_ := hxb_.cell 2 (v := .slice A2 S.length cS) rfl
                            obtain ⟨c0_, c1_, c2_, c3_, c4_, c5_, c6_, c7_, c8_, c9_, c10_, c11_⟩ := HCC.out _ hBq_
                            obtain ⟨rc0_, rc1_⟩ := HRC.out _ hBq_
                            have lc_ := (hBq_.cell (p := ⟨bl, ol + k, none⟩) hblq).trans lcq
                            go_simp
                            first
                              | exact ⟨rfl, Below.refl _ _⟩
                              | exact ⟨rfl, HRW.out _ hB6_⟩
                              | (rw [decide_eq_true (by omega)]; exact ⟨rfl, Below.refl _ _⟩)
                              | (rw [decide_eq_false (by omega)]; exact ⟨rfl, Below.refl _ _⟩)
                              | (rw [if_pos (by omega)]; exact ⟨rfl, Below.refl _ _⟩)
                              | (rw [IntWalk.i64_in _ (by omega)]; exact ⟨rfl, Below.refl _ _⟩)
                              | done
                          · intro p_
                            refine .inr ⟨by kernel_rfl, fun w1_ hB_ => ?_⟩
                            have hBq_ := below_thru (Below.refl wr.heap.size wr) hB_
                            have hB0_ := HBQ0.out.trans (hBq_.mono HBQ0.out.size)
                            have hB6_ := HBQ6.out.trans (hBq_.mono HBQ6.out.size)
                            have hxb_ := HXX.out.below hB0_ HXX.out.lt
                            have x0_ := hxb_.cell 0 (v := .string zn) rfl
                            have x1_ := hxb_.cell 1 (v := .slice (some ⟨bb, o, none⟩) l.length cA) rfl
                            have x2_ := hxb_.cell 2 (v := .slice A2 S.length cS) rfl
                            obtain ⟨c0_, c1_, c2_, c3_, c4_, c5_, c6_, c7_, c8_, c9_, c10_, c11_⟩ := HCC.out _ hBq_
                            obtain ⟨rc0_, rc1_⟩ := HRC.out _ hBq_
                            have lc_ := (hBq_.cell (p := ⟨bl, ol + k, none⟩) hblq).trans lcq
                            go_simp
                            first
                              | exact ⟨rfl, Below.refl _ _⟩
                              | exact ⟨rfl, HRW.out _ hB6_⟩
                              | (rw [decide_eq_true (by omega)]; exact ⟨rfl, Below.refl _ _⟩)
                              | (rw [decide_eq_false (by omega)]; exact ⟨rfl, Below.refl _ _⟩)
                              | (rw [if_pos (by omega)]; exact ⟨rfl, Below.refl _ _⟩)
                              | (rw [IntWalk.i64_in _ (by omega)]; exact ⟨rfl, Below.refl _ _⟩)
                              | done
                          · intro p_
                            refine .inr ⟨by kernel_rfl, fun w1_ hB_ => ?_⟩
                            have hBq_ := below_thru (Below.refl wr.heap.size wr) hB_
                            have hB0_ := HBQ0.out.trans (hBq_.mono HBQ0.out.size)
                            have hB6_ := HBQ6.out.trans (hBq_.mono HBQ6.out.size)
                            have hxb_ := HXX.out.below hB0_ HXX.out.lt
                            have x0_ := hxb_.cell 0 (v := .string zn) rfl
                            have x1_ := hxb_.cell 1 (v := .slice (some ⟨bb, o, none⟩) l.length cA) rfl
                            have x2_ := hxb_.cell 2 (v := .slice A2 S.length cS) rfl
                            obtain ⟨c0_, c1_, c2_, c3_, c4_, c5_, c6_, c7_, c8_, c9_, c10_, c11_⟩ := HCC.out _ hBq_
                            obtain ⟨rc0_, rc1_⟩ := HRC.out _ hBq_
                            have lc_ := (hBq_.cell (p := ⟨bl, ol + k, none⟩) hblq).trans lcq
                            go_simp
                            first
                              | exact ⟨rfl, Below.refl _ _⟩
                              | exact ⟨rfl, HRW.out _ hB6_⟩
                              | (rw [decide_eq_true (by omega)]; exact ⟨rfl, Below.refl _ _⟩)
                              | (rw [decide_eq_false (by omega)]; exact ⟨rfl, Below.refl _ _⟩)
                              | (rw [if_pos (by omega)]; exact ⟨rfl, Below.refl _ _⟩)
                              | (rw [IntWalk.i64_in _ (by omega)]; exact ⟨rfl, Below.refl _ _⟩)
                              | done
                          · intro p_
                            refine .inr ⟨by kernel_rfl, fun w1_ hB_ => ?_⟩
                            have hBq_ := below_thru (Below.refl wr.heap.size wr) hB_
                            have hB0_ := HBQ0.out.trans (hBq_.mono HBQ0.out.size)
                            have hB6_ := HBQ6.out.trans (hBq_.mono HBQ6.out.size)
                            have hxb_ := HXX.out.below hB0_ HXX.out.lt
                            have x0_ := hxb_.cell 0 (v := .string zn) rfl
                            have x1_ := hxb_.cell 1 (v := .slice (some ⟨bb, o, none⟩) l.length cA) rfl
                            have x2_ := hxb_.cell 2 (v := .slice A2 S.length cS) rfl
                            obtain ⟨c0_, c1_, c2_, c3_, c4_, c5_, c6_, c7_, c8_, c9_, c10_, c11_⟩ := HCC.out _ hBq_
                            obtain ⟨rc0_, rc1_⟩ := HRC.out _ hBq_
                            have lc_ := (hBq_.cell (p := ⟨bl, ol + k, none⟩) hblq).trans lcq
                            go_simp
                            first
                              | exact ⟨rfl, Below.refl _ _⟩
                              | exact ⟨rfl, HRW.out _ hB6_⟩
                              | (rw [decide_eq_true (by omega)]; exact ⟨rfl, Below.refl _ _⟩)
                              | (rw [decide_eq_false (by omega)]; exact ⟨rfl, Below.refl _ _⟩)
                              | (rw [if_pos (by omega)]; exact ⟨rfl, Below.refl _ _⟩)
                              | (rw [IntWalk.i64_in _ (by omega)]; exact ⟨rfl, Below.refl _ _⟩)
                              | done
                          · intro p_
                            refine .inr ⟨by kernel_rfl, fun w1_ hB_ => ?_⟩
                            have hBq_ := below_thru (Below.refl wr.heap.size wr) hB_
                            have hB0_ := HBQ0.out.trans (hBq_.mono HBQ0.out.size)
                            have hB6_ := HBQ6.out.trans (hBq_.mono HBQ6.out.size)
                            have hxb_ := HXX.out.below hB0_ HXX.out.lt
                            have x0_ := hxb_.cell 0 (v := .string zn) rfl
                            have x1_ := hxb_.cell 1 (v := .slice (some ⟨bb, o, none⟩) l.length cA) rfl
                            have x2_ := hxb_.cell 2 (v := .slice A2 S.length cS) rfl
                            obtain ⟨c0_, c1_, c2_, c3_, c4_, c5_, c6_, c7_, c8_, c9_, c10_, c11_⟩ := HCC.out _ hBq_
                            obtain ⟨rc0_, rc1_⟩ := HRC.out _ hBq_
                            have lc_ := (hBq_.cell (p := ⟨bl, ol + k, none⟩) hblq).trans lcq
                            go_simp
                            first
                              | exact ⟨rfl, Below.refl _ _⟩
                              | exact ⟨rfl, HRW.out _ hB6_⟩
                              | (rw [decide_eq_true (by omega)]; exact ⟨rfl, Below.refl _ _⟩)
                              | (rw [decide_eq_false (by omega)]; exact ⟨rfl, Below.refl _ _⟩)
                              | (rw [if_pos (by omega)]; exact ⟨rfl, Below.refl _ _⟩)
                              | (rw [IntWalk.i64_in _ (by omega)]; exact ⟨rfl, Below.refl _ _⟩)
                              | done
                          · intro p_
                            refine .inr ⟨by kernel_rfl, fun w1_ hB_ => ?_⟩
                            have hBq_ := below_thru (Below.refl wr.heap.size wr) hB_
                            have hB0_ := HBQ0.out.trans (hBq_.mono HBQ0.out.size)
                            have hB6_ := HBQ6.out.trans (hBq_.mono HBQ6.out.size)
                            have hxb_ := HXX.out.below hB0_ HXX.out.lt
                            have x0_ := hxb_.cell 0 (v := .string zn) rfl
                            have x1_ := hxb_.cell 1 (v := .slice (some ⟨bb, o, none⟩) l.length cA) rfl
                            have x2_ := hxb_.cell 2 (v := .slice A2 S.length cS) rfl
                            obtain ⟨c0_, c1_, c2_, c3_, c4_, c5_, c6_, c7_, c8_, c9_, c10_, c11_⟩ := HCC.out _ hBq_
                            obtain ⟨rc0_, rc1_⟩ := HRC.out _ hBq_
                            have lc_ := (hBq_.cell (p := ⟨bl, ol + k, none⟩) hblq).trans lcq
                            go_simp
                            first
                              | exact ⟨rfl, Below.refl _ _⟩
                              | exact ⟨rfl, HRW.out _ hB6_⟩
                              | (rw [decide_eq_true (by omega)]; exact ⟨rfl, Below.refl _ _⟩)
                              | (rw [decide_eq_false (by omega)]; exact ⟨rfl, Below.refl _ _⟩)
                              | (rw [if_pos (by omega)]; exact ⟨rfl, Below.refl _ _⟩)
                              | (rw [IntWalk.i64_in _ (by omega)]; exact ⟨rfl, Below.refl _ _⟩)
                              | done
                          · intro p_
                            refine .inr ⟨by kernel_rfl, fun w1_ hB_ => ?_⟩
                            have hBq_ := below_thru (Below.refl wr.heap.size wr) hB_
                            have hB0_ := HBQ0.out.trans (hBq_.mono HBQ0.out.size)
                            have hB6_ := HBQ6.out.trans (hBq_.mono HBQ6.out.size)
                            have hxb_ := HXX.out.below hB0_ HXX.out.lt
                            have x0_ := hxb_.cell 0 (v := .string zn) rfl
                            have x1_ := hxb_.cell 1 (v := .slice (some ⟨bb, o, none⟩) l.length cA) rfl
                            have x2_ := hxb_.cell 2 (v := .slice A2 S.length cS) rfl
                            obtain ⟨c0_, c1_, c2_, c3_, c4_, c5_, c6_, c7_, c8_, c9_, c10_, c11_⟩ := HCC.out _ hBq_
                            obtain ⟨rc0_, rc1_⟩ := HRC.out _ hBq_
                            have lc_ := (hBq_.cell (p := ⟨bl, ol + k, none⟩) hblq).trans lcq
                            go_simp
                            first
                              | exact ⟨rfl, Below.refl _ _⟩
                              | exact ⟨rfl, HRW.out _ hB6_⟩
                              | (rw [decide_eq_true (by omega)]; exact ⟨rfl, Below.refl _ _⟩)
                              | (rw [decide_eq_false (by omega)]; exact ⟨rfl, Below.refl _ _⟩)
                              | (rw [if_pos (by omega)]; exact ⟨rfl, Below.refl _ _⟩)
                              | (rw [IntWalk.i64_in _ (by omega)]; exact ⟨rfl, Below.refl _ _⟩)
                              | done
                          · intro p_
                            refine .inr ⟨by kernel_rfl, fun w1_ hB_ => ?_⟩
                            have hBq_ := below_thru (Below.refl wr.heap.size wr) hB_
                            have hB0_ := HBQ0.out.trans (hBq_.mono HBQ0.out.size)
                            have hB6_ := HBQ6.out.trans (hBq_.mono HBQ6.out.size)
                            have hxb_ := HXX.out.below hB0_ HXX.out.lt
                            have x0_ := hxb_.cell 0 (v := .string zn) rfl
                            have x1_ := hxb_.cell 1 (v := .slice (some ⟨bb, o, none⟩) l.length cA) rfl
                            have x2_ := hxb_.cell 2 (v := .slice A2 S.length cS) rfl
                            obtain ⟨c0_, c1_, c2_, c3_, c4_, c5_, c6_, c7_, c8_, c9_, c10_, c11_⟩ := HCC.out _ hBq_
                            obtain ⟨rc0_, rc1_⟩ := HRC.out _ hBq_
                            have lc_ := (hBq_.cell (p := ⟨bl, ol + k, none⟩) hblq).trans lcq
                            go_simp
                            first
                              | exact ⟨rfl, Below.refl _ _⟩
                              | exact ⟨rfl, HRW.out _ hB6_⟩
                              | (rw [decide_eq_true (by omega)]; exact ⟨rfl, Below.refl _ _⟩)
                              | (rw [decide_eq_false (by omega)]; exact ⟨rfl, Below.refl _ _⟩)
                              | (rw [if_pos (by omega)]; exact ⟨rfl, Below.refl _ _⟩)
                              | (rw [IntWalk.i64_in _ (by omega)]; exact ⟨rfl, Below.refl _ _⟩)
                              | done
                          · intro p_
                            refine .inr ⟨by kernel_rfl, fun w1_ hB_ => ?_⟩
                            have hBq_ := below_thru (Below.refl wr.heap.size wr) hB_
                            have hB0_ := HBQ0.out.trans (hBq_.mono HBQ0.out.size)
                            have hB6_ := HBQ6.out.trans (hBq_.mono HBQ6.out.size)
                            have hxb_ := HXX.out.below hB0_ HXX.out.lt
                            have x0_ := hxb_.cell 0 (v := .string zn) rfl
                            have x1_ := hxb_.cell 1 (v := .slice (some ⟨bb, o, none⟩) l.length cA) rfl
                            have x2_ := hxb_.cell 2 (v := .slice A2 S.length cS) rfl
                            obtain ⟨c0_, c1_, c2_, c3_, c4_, c5_, c6_, c7_, c8_, c9_, c10_, c11_⟩ := HCC.out _ hBq_
                            obtain ⟨rc0_, rc1_⟩ := HRC.out _ hBq_
                            have lc_ := (hBq_.cell (p := ⟨bl, ol + k, none⟩) hblq).trans lcq
                            go_simp
                            first
                              | exact ⟨rfl, Below.refl _ _⟩
                              | exact ⟨rfl, HRW.out _ hB6_⟩
                              | (rw [decide_eq_true (by omega)]; exact ⟨rfl, Below.refl _ _⟩)
                              | (rw [decide_eq_false (by omega)]; exact ⟨rfl, Below.refl _ _⟩)
                              | (rw [if_pos (by omega)]; exact ⟨rfl, Below.refl _ _⟩)
                              | (rw [IntWalk.i64_in _ (by omega)]; exact ⟨rfl, Below.refl _ _⟩)
                              | done
                          · intro p_
                            refine .inr ⟨by kernel_rfl, fun w1_ hB_ => ?_⟩
                            have hBq_ := below_thru (Below.refl wr.heap.size wr) hB_
                            have hB0_ := HBQ0.out.trans (hBq_.mono HBQ0.out.size)
                            have hB6_ := HBQ6.out.trans (hBq_.mono HBQ6.out.size)
                            have hxb_ := HXX.out.below hB0_ HXX.out.lt
                            have x0_ := hxb_.cell 0 (v := .string zn) rfl
                            have x1_ := hxb_.cell 1 (v := .slice (some ⟨bb, o, none⟩) l.length cA) rfl
                            have x2_ := hxb_.cell 2 (v := .slice A2 S.length cS) rfl
                            obtain ⟨c0_, c1_, c2_, c3_, c4_, c5_, c6_, c7_, c8_, c9_, c10_, c11_⟩ := HCC.out _ hBq_
                            obtain ⟨rc0_, rc1_⟩ := HRC.out _ hBq_
                            have lc_ := (hBq_.cell (p := ⟨bl, ol + k, none⟩) hblq).trans lcq
                            go_simp
                            first
                              | exact ⟨rfl, Below.refl _ _⟩
                              | exact ⟨rfl, HRW.out _ hB6_⟩
                              | (rw [decide_eq_true (by omega)]; exact ⟨rfl, Below.refl _ _⟩)
                              | (rw [decide_eq_false (by omega)]; exact ⟨rfl, Below.refl _ _⟩)
                              | (rw [if_pos (by omega)]; exact ⟨rfl, Below.refl _ _⟩)
                              | (rw [IntWalk.i64_in _ (by omega)]; exact ⟨rfl, Below.refl _ _⟩)
                              | done
                          · intro p_
                            refine .inr ⟨by kernel_rfl, fun w1_ hB_ => ?_⟩
                            have hBq_ := below_thru (Below.refl wr.heap.size wr) hB_
                            have hB0_ := HBQ0.out.trans (hBq_.mono HBQ0.out.size)
                            have hB6_ := HBQ6.out.trans (hBq_.mono HBQ6.out.size)
                            have hxb_ := HXX.out.below hB0_ HXX.out.lt
                            have x0_ := hxb_.cell 0 (v := .string zn) rfl
                            have x1_ := hxb_.cell 1 (v := .slice (some ⟨bb, o, none⟩) l.length cA) rfl
                            have x2_ := hxb_.cell 2 (v := .slice A2 S.length cS) rfl
                            obtain ⟨c0_, c1_, c2_, c3_, c4_, c5_, c6_, c7_, c8_, c9_, c10_, c11_⟩ := HCC.out _ hBq_
                            obtain ⟨rc0_, rc1_⟩ := HRC.out _ hBq_
                            have lc_ := (hBq_.cell (p := ⟨bl, ol + k, none⟩) hblq).trans lcq
                            go_simp
                            first
                              | exact ⟨rfl, Below.refl _ _⟩
                              | exact ⟨rfl, HRW.out _ hB6_⟩
                              | (rw [decide_eq_true (by omega)]; exact ⟨rfl, Below.refl _ _⟩)
                              | (rw [decide_eq_false (by omega)]; exact ⟨rfl, Below.refl _ _⟩)
                              | (rw [if_pos (by omega)]; exact ⟨rfl, Below.refl _ _⟩)
                              | (rw [IntWalk.i64_in _ (by omega)]; exact ⟨rfl, Below.refl _ _⟩)
                              | done
                          · intro p_
                            refine .inr ⟨by kernel_rfl, fun w1_ hB_ => ?_⟩
                            have hBq_ := below_thru (Below.refl wr.heap.size wr) hB_
                            have hB0_ := HBQ0.out.trans (hBq_.mono HBQ0.out.size)
                            have hB6_ := HBQ6.out.trans (hBq_.mono HBQ6.out.size)
                            have hxb_ := HXX.out.below hB0_ HXX.out.lt
                            have x0_ := hxb_.cell 0 (v := .string zn) rfl
                            have x1_ := hxb_.cell 1 (v := .slice (some ⟨bb, o, none⟩) l.length cA) rfl
                            have x2_ := hxb_.cell 2 (v := .slice A2 S.length cS) rfl
                            obtain ⟨c0_, c1_, c2_, c3_, c4_, c5_, c6_, c7_, c8_, c9_, c10_, c11_⟩ := HCC.out _ hBq_
                            obtain ⟨rc0_, rc1_⟩ := HRC.out _ hBq_
                            have lc_ := (hBq_.cell (p := ⟨bl, ol + k, none⟩) hblq).trans lcq
                            go_simp
                            first
                              | exact ⟨rfl, Below.refl _ _⟩
                              | exact ⟨rfl, HRW.out _ hB6_⟩
                              | (rw [decide_eq_true (by omega)]; exact ⟨rfl, Below.refl _ _⟩)
                              | (rw [decide_eq_false (by omega)]; exact ⟨rfl, Below.refl _ _⟩)
                              | (rw [if_pos (by omega)]; exact ⟨rfl, Below.refl _ _⟩)
                              | (rw [IntWalk.i64_in _ (by omega)]; exact ⟨rfl, Below.refl _ _⟩)
                              | done
                          · intro p_
                            refine .inr ⟨by kernel_rfl, fun w1_ hB_ => ?_⟩
                            have hBq_ := below_thru (Below.refl wr.heap.size wr) hB_
                            have hB0_ := HBQ0.out.trans (hBq_.mono HBQ0.out.size)
                            have hB6_ := HBQ6.out.trans (hBq_.mono HBQ6.out.size)
                            have hxb_ := HXX.out.below hB0_ HXX.out.lt
                            have x0_ := hxb_.cell 0 (v := .string zn) rfl
                            have x1_ := hxb_.cell 1 (v := .slice (some ⟨bb, o, none⟩) l.length cA) rfl
                            have x2_ := hxb_.cell 2 (v := .slice A2 S.length cS) rfl
                            obtain ⟨c0_, c1_, c2_, c3_, c4_, c5_, c6_, c7_, c8_, c9_, c10_, c11_⟩ := HCC.out _ hBq_
                            obtain ⟨rc0_, rc1_⟩ := HRC.out _ hBq_
                            have lc_ := (hBq_.cell (p := ⟨bl, ol + k, none⟩) hblq).trans lcq
                            go_simp
                            first
                              | exact ⟨rfl, Below.refl _ _⟩
                              | exact ⟨rfl, HRW.out _ hB6_⟩
                              | (rw [decide_eq_true (by omega)]; exact ⟨rfl, Below.refl _ _⟩)
                              | (rw [decide_eq_false (by omega)]; exact ⟨rfl, Below.refl _ _⟩)
                              | (rw [if_pos (by omega)]; exact ⟨rfl, Below.refl _ _⟩)
                              | (rw [IntWalk.i64_in _ (by omega)]; exact ⟨rfl, Below.refl _ _⟩)
                              | done
                          · intro p_
                            refine .inr ⟨by kernel_rfl, fun w1_ hB_ => ?_⟩
                            have hBq_ := below_thru (Below.refl wr.heap.size wr) hB_
                            have hB0_ := HBQ0.out.trans (hBq_.mono HBQ0.out.size)
                            have hB6_ := HBQ6.out.trans (hBq_.mono HBQ6.out.size)
                            have hxb_ := HXX.out.below hB0_ HXX.out.lt
                            have x0_ := hxb_.cell 0 (v := .string zn) rfl
                            have x1_ := hxb_.cell 1 (v := .slice (some ⟨bb, o, none⟩) l.length cA) rfl
                            have x2_ := hxb_.cell 2 (v := .slice A2 S.length cS) rfl
                            obtain ⟨c0_, c1_, c2_, c3_, c4_, c5_, c6_, c7_, c8_, c9_, c10_, c11_⟩ := HCC.out _ hBq_
                            obtain ⟨rc0_, rc1_⟩ := HRC.out _ hBq_
                            have lc_ := (hBq_.cell (p := ⟨bl, ol + k, none⟩) hblq).trans lcq
                            go_simp
                            first
                              | exact ⟨rfl, Below.refl _ _⟩
                              | exact ⟨rfl, HRW.out _ hB6_⟩
                              | (rw [decide_eq_true (by omega)]; exact ⟨rfl, Below.refl _ _⟩)
                              | (rw [decide_eq_false (by omega)]; exact ⟨rfl, Below.refl _ _⟩)
                              | (rw [if_pos (by omega)]; exact ⟨rfl, Below.refl _ _⟩)
                              | (rw [IntWalk.i64_in _ (by omega)]; exact ⟨rfl, Below.refl _ _⟩)
                              | done
                          · refine ⟨fun p_ => by kernel_rfl, fun p_ w1_ hB_ => ?_⟩
                            first | rfl | (go_simp; done) | (go_simp; rfl)
                          · refine ⟨fun p_ => by kernel_rfl, fun b_ w1_ hb_ => ⟨(((w1_.setCell ⟨b_, 0, none⟩ (.int .i64 (x.n.off + sv'))).setCell ⟨b_, 1, none⟩ (.bool (dstB sv'))).setCell ⟨b_, 2, none⟩ (.string s')), ?_, ((Fr.setCell (T := fun k => k = b_) w1_ 0 (.int .i64 (x.n.off + sv')) rfl).then (Fr.setCell _ 1 _ rfl)).then (Fr.setCell _ 2 _ rfl), (((hb_.set 0 (.int .i64 (x.n.off + sv'))).set 1 (.bool (dstB sv'))).set 2 (.string s'))⟩⟩
                            have f0_ := Blk.frozen hb_ 0
                            have f1_ := Blk.frozen hb_ 1
                            have f2_ := Blk.frozen hb_ 2
                            have z0_ := Blk.cell hb_ 0 (v := .int .i64 0) rfl
                            have z1_ := Blk.cell hb_ 1 (v := .bool false) rfl
                            have z2_ := Blk.cell hb_ 2 (v := .string ⟨#[]⟩) rfl
                            go_simp
                            try rfl
                          · intro p_
                            refine .inr ⟨by kernel_rfl, fun w1_ hB_ => ?_⟩
                            have hBq_ := below_thru (Below.refl wr.heap.size wr) hB_
                            have hB0_ := HBQ0.out.trans (hBq_.mono HBQ0.out.size)
                            have hB6_ := HBQ6.out.trans (hBq_.mono HBQ6.out.size)
                            have hxb_ := HXX.out.below hB0_ HXX.out.lt
                            have x0_ := hxb_.cell 0 (v := .string zn) rfl
                            have x1_ := hxb_.cell 1 (v := .slice (some ⟨bb, o, none⟩) l.length cA) rfl
                            have x2_ := hxb_.cell 2 (v := .slice A2 S.length cS) rfl
                            obtain ⟨c0_, c1_, c2_, c3_, c4_, c5_, c6_, c7_, c8_, c9_, c10_, c11_⟩ := HCC.out _ hBq_
                            obtain ⟨rc0_, rc1_⟩ := HRC.out _ hBq_
                            have lc_ := (hBq_.cell (p := ⟨bl, ol + k, none⟩) hblq).trans lcq
                            go_simp
                            first
                              | exact ⟨rfl, Below.refl _ _⟩
                              | exact ⟨rfl, HRW.out _ hB6_⟩
                              | (rw [decide_eq_true (by omega)]; exact ⟨rfl, Below.refl _ _⟩)
                              | (rw [decide_eq_false (by omega)]; exact ⟨rfl, Below.refl _ _⟩)
                              | (rw [if_pos (by omega)]; exact ⟨rfl, Below.refl _ _⟩)
                              | (rw [IntWalk.i64_in _ (by omega)]; exact ⟨rfl, Below.refl _ _⟩)
                              | done
                        case nextzb =>
                        intro xc w10 hb10 hxc hX10
                        have HB10 := Lib.hid (below_thru (Below.refl wr.heap.size wr) hb10)
                        have HB11 := Lib.hid (HBQ6.out.trans (HB10.out.mono HBQ6.out.size))
                        have hk8 := HX8.out.below (HBQ.out.trans (HB10.out.mono HBQ.out.size)) HX8.out.lt
                        have HK8 := Lib.hid hk8
                        have HX10 := Lib.hid hX10
                        have lc10 := (HB10.out.cell (p := ⟨bl, ol + k, none⟩) hblq).trans lcq
                        have hbl10 : bl < w10.heap.size := Nat.lt_of_lt_of_le hblq HB10.out.size
                        have hx8l := hk8.lt
                        have hx10l := hX10.lt
                        clear hb10 hxc hk8 hX10 lc lcq
                        rcases HY.out with ⟨rfl, rfl, rfl, rfl, rfl⟩ | ⟨rfl, rfl, rfl, rfl, rfl⟩
                        all_goals
                          have l0 := HK8.out.cell 0 rfl
                          have l1 := HK8.out.cell 1 rfl
                          have l2 := HK8.out.cell 2 rfl
                          have m0 := HX10.out.cell 0 rfl
                          have m1 := HX10.out.cell 1 rfl
                          have m2 := HX10.out.cell 2 rfl
                          go_wp2_with fail
                          refine (HZE.out _ HB11.out).mono ?_
                          rintro o w11 ⟨rfl, rfl⟩
                          go_wp2_with fail
                          go_roundw
                          case rel => exact ⟨k + 1, by omega, by go_num, HB11.out⟩
                          case measure => simp [intOf]; omega
              · have he0 : (E != 0) = true := by simpa using hE0
                have hbad : atZ S l i = badL E := by unfold atZ; rw [if_pos (by rw [HE.out]; exact hE0), HE.out]
                unfold badL at hbad
                rw [HZA.out] at hbad
                obtain ⟨rfl, rfl, rfl, he⟩ := locV_inj hbad
                subst er
                clear hE0 hbad
                have l0 := HX8.out.cell 0 (v := .int .i64 0) rfl
                have l1 := HX8.out.cell 1 (v := .bool false) rfl
                have l2 := HX8.out.cell 2 (v := .string ⟨#[]⟩) rfl
                have hxl8 := HX8.out.lt
                go_wp2_with fail
                go_roundw
                case rel => exact ⟨k + 1, by omega, by go_num, HB8.out⟩
                case measure => simp [intOf]; omega
            · obtain rfl : k = L.length := by omega
              have hd : decide ((L.length : Int) < (L.length : Int)) = false := decide_eq_false (by omega)
              go_wp2_with fail
              refine (awake_any _ ((HZ0.out.below (HB7.out)).maxl)).mono ?_
              rintro o wz ⟨rfl, hbz⟩
              have hb9 := HB0.out.trans (((HB7.out).trans (hbz.mono (HB7.out).size)).mono HB0.out.size)
              clear hbz
              go_wp2_with fail
              go_ret
              exact ⟨rfl, hb9⟩
end Go.Proofs.YtonmmgcibpjahaaGreatDoor
end
