/-
  A region that draws its order, with one block made in it (a variable of its own) and one operation that fills the block: each other operation's value is known ahead.
-/
import Derived.Test.YtonmmgcibpjahaaGreatDoorPt11
section
/- GWrong: Layer 13's law: what is wrong with a world's zone, walked. -/
namespace Go.Proofs.YtonmmgcibpjahaaGreatDoor
open Go Go.RowKit Go.Shelf
set_option maxRecDepth 100000

theorem getD_at {E : List Int} {j : Nat} (hj : j < E.length) : E.getD j 0 = E[j] := by
  rw [List.getD_eq_getElem?_getD, List.getElem?_eq_getElem hj]; rfl
/-- The ends that are told. -/
def endsZ (S : List SetF) (l : List EraF) : List Int := if errZ S l = 0 then endL S l else []
theorem endsZ_of {S : List SetF} {l : List EraF} {E : Int} (h : errZ S l = E) (hE : E ≠ 0) : endsZ S l = [] := by unfold endsZ; rw [if_neg (by rw [h]; exact hE)]
theorem endsZ_zero {S : List SetF} {l : List EraF} (h : errZ S l = 0) : endsZ S l = endL S l := by unfold endsZ; rw [if_pos h]
theorem EndsPost.nums {w w' : World} {S : List SetF} {l : List EraF} {o : Ending} (h : EndsPost w S l o w') : ∃ v, o = .returned (.tuple #[v, .int .i64 (errZ S l)]) ∧ Nums w' w'.heap.size v (endsZ S l) ∧ Below w.heap.size w w' := by
  obtain ⟨⟨v, e, h1, h2⟩, hb⟩ := h
  refine ⟨v, e, ?_, hb⟩
  by_cases hE : errZ S l = 0
  · rw [endsZ_zero hE]; exact Sl.of_own (h1 hE)
  · rw [endsZ_of rfl hE, h2 hE]; exact Sl.nil _ _ _
/-- What wrong answers. -/
def WrongPost (w : World) (S : List SetF) (l : List EraF) (o : Ending) (w' : World) : Prop :=
  (∃ v, o = .returned (.tuple #[.int .i64 (errZ S l), v]) ∧ Nums w' w'.heap.size v (endsZ S l)) ∧ Below w.heap.size w w'
theorem errZ_first {S : List SetF} {l : List EraF} {k : Nat} {E : Int} (hth : errZ S l = if errsF l ≠ 0 then errsF l else if riseB (endL S l) then 0 else 17) (hk : k < l.length) (hno : ∀ i, i < k → errAt l i = 0) (h : errAt l k = E) (hE : E ≠ 0) : errZ S l = E := by
  have h2 := errsF_at hk hno (by rw [h]; exact hE)
  rw [hth, if_pos (by rw [h2, h]; exact hE), h2, h]
theorem kind_ref (f : List UInt8) : ((kindR f).2 = 12 ∧ (refK f).1 = -1) ∨ ((kindR f).2 = 0 ∧ 0 ≤ (refK f).1) := by
  rcases refK_of f with ⟨h1, h2⟩ | ⟨k, a, h1, h2, h3⟩
  · exact .inl ⟨by rw [h1], by rw [h2]⟩
  · refine .inr ⟨by rw [h1], ?_⟩
    rw [h2]
    rcases h3 with ⟨h, _⟩ | ⟨h, _⟩
    · exact Int.le_of_eq h.symm
    · exact Int.le_trans (by decide) h
section
variable {x : EraF} {la : Bool}
theorem errE_kind (h : (kindR x.fm.data.toList).2 = 12) : errE x la = 12 := by unfold errE; rw [h]; rfl
theorem errE_range (h : (kindR x.fm.data.toList).2 = 0) (h2 : ¬ ((-90000 < x.n.off ∧ x.n.off < 90000) ∧ -90000 < x.n.save ∧ x.n.save < 90000)) : errE x la = 10 := by
  unfold errE
  rw [if_pos h, if_neg]
  intro h3
  rw [Bool.and_eq_true] at h3
  exact h2 ⟨withinB_iff.1 h3.1, withinB_iff.1 h3.2⟩
theorem errE_in (h : (kindR x.fm.data.toList).2 = 0) (h2 : (-90000 < x.n.off ∧ x.n.off < 90000) ∧ -90000 < x.n.save ∧ x.n.save < 90000) : errE x la = if (decide (x.ru.size ≠ 0) && decide (x.n.save ≠ 0)) || (x.en == la) then 12 else if x.en then (nomR x.n).2 else 0 := by
  unfold errE
  rw [if_pos h, if_pos (by rw [withinB_iff.2 h2.1, withinB_iff.2 h2.2]; rfl)]
end
theorem four_of {p q r s : Prop} [Decidable p] [Decidable q] [Decidable r] [Decidable s] (h : p ∨ q ∨ r ∨ s) : decide p = true ∨ (decide p = false ∧ decide q = true) ∨ (decide p = false ∧ decide q = false ∧ decide r = true) ∨ (decide p = false ∧ decide q = false ∧ decide r = false ∧ decide s = true) := by
  by_cases hp : p
  · exact .inl (decide_eq_true hp)
  · by_cases hq : q
    · exact .inr (.inl ⟨decide_eq_false hp, decide_eq_true hq⟩)
    · by_cases hr : r
      · exact .inr (.inr (.inl ⟨decide_eq_false hp, decide_eq_false hq, decide_eq_true hr⟩))
      · exact .inr (.inr (.inr ⟨decide_eq_false hp, decide_eq_false hq, decide_eq_false hr, decide_eq_true (h.resolve_left hp |>.resolve_left hq |>.resolve_left hr)⟩))
theorem nomR_no {e : EraN} (h : rnomB e = false) (he : EndOk e) (hk : 0 ≤ e.ak ∧ e.ak ≤ 2) : (nomR e).2 = 10 := by unfold nomR; rw [he.nomB_eq hk, h]; rfl
theorem nomR_yes {e : EraN} (h : rnomB e = true) (he : EndOk e) (hk : 0 ≤ e.ak ∧ e.ak ≤ 2) : (nomR e).2 = 0 := by unfold nomR; rw [he.nomB_eq hk, h]; rfl
theorem nomR_kind {e : EraN} (hk : ¬ (0 ≤ e.ak ∧ e.ak ≤ 2)) : (nomR e).2 = 10 := by
  have : nomB e = false := by unfold nomB; rw [decide_eq_false hk, Bool.and_false, Bool.false_and]
  unfold nomR
  rw [this]
  rfl
set_option maxHeartbeats 16000000 in
theorem wrong_any (zn : ByteArray) (ev sv : Value) (B : Nat) (l : List EraF) (S : List SetF) (w : World) (hz : ZW w B ev sv l S) (hf : fewB l S = true) :
    Calls Tryz.prog 15 #[worldA zn ev sv] w (WrongPost w S l) := by
  obtain ⟨A, cA, rfl, hlc, hcm⟩ := hz.eras.form
  obtain ⟨A2, cS, rfl, -, -⟩ := hz.sets.form
  unfold maxLen at hcm
  have hb0 : Below w.heap.size w (w.alloc (.cells #[.string zn, .slice A l.length cA, .slice A2 S.length cS] 27)) := (Below.refl w.heap.size w).alloc (Nat.le_refl _) _
  have HX := Lib.hid (Blk.new w 27 #[.string zn, .slice A l.length cA, .slice A2 S.length cS])
  have HZ := Lib.hid (hz.below hb0)
  have HB := Lib.hid hb0
  have HFW := Lib.hid (fewB_iff.1 hf)
  obtain ⟨i0, hi, hz0, hz1, hz2⟩ := info_parts infoInt
  clear hz hb0 hf
  unfold worldA
  by_cases hl0 : l.length = 0
  · have HV := Lib.hid (errZ_none (S := S) hl0)
    have hd0 : ((l.length : Int) == 0) = true := by simpa using hl0
    clear hl0
    go_enter Tryz.func15, Tryz.ntmps15
    go_wp2_with fail
    go_ret2
    exact ⟨⟨_, by rw [HV.out]; rfl, by rw [endsZ_of HV.out (by decide)]; exact Sl.nil _ _ _⟩, HB.out⟩
  · have hd0 : ((l.length : Int) == 0) = false := by simpa using hl0
    have HL0 := Lib.hid hl0
    clear hl0
    go_enter Tryz.func15, Tryz.ntmps15
    go_wp2_with fail
    obtain ⟨W0, hW0⟩ : ∃ W, w.alloc (.cells #[.string zn, .slice A l.length cA, .slice A2 S.length cS] 27) = W := ⟨_, rfl⟩
    rw [hW0] at HX HZ HB
    try simp only [hW0]
    clear hW0
    go_loopw [5] (fun iv wr => ∃ k : Nat, k ≤ l.length ∧ iv = .int .i64 k ∧ (∀ i (h : i < l.length), i < k → missB S l[i] = false) ∧ Below W0.heap.size W0 wr) (fun iv _ => l.length - (intOf iv).toNat)
    case atStart => exact ⟨0, Nat.zero_le _, rfl, fun i _ h => absurd h (by omega), Below.refl _ _⟩
    case round =>
      obtain ⟨k, hk, rfl, hno, hbi⟩ := hrel
      have HNO := Lib.hid hno
      have HBI := Lib.hid hbi
      have HXW := Lib.hid (HX.out.below hbi HX.out.lt)
      have HBW := Lib.hid (HB.out.trans (hbi.mono HB.out.size))
      have hws := HBW.out.size
      have hxl := HXW.out.lt
      have x0 := HXW.out.cell 0 (v := .string zn) rfl
      have x1 := HXW.out.cell 1 (v := .slice A l.length cA) rfl
      have x2 := HXW.out.cell 2 (v := .slice A2 S.length cS) rfl
      have HZW := Lib.hid (HZ.out.below hbi)
      clear hno hbi
      by_cases hlt : k < l.length
      · have hd : decide ((k : Int) < (l.length : Int)) = true := decide_eq_true (by omega)
        obtain ⟨bb, o, c', e, hbb, hc⟩ := HZW.out.eras.cells (by omega)
        cases e
        have hx := hc k hlt
        obtain ⟨x, hxk⟩ : ∃ x, l[k] = x := ⟨_, rfl⟩
        rw [hxk] at hx
        have HXK := Lib.hid hxk
        obtain ⟨-, c1, -, -, -, -, -, -, -, -, -, -⟩ := hx
        have HBD := Lib.hid (below_drewN HBI.out 1)
        have HZD := Lib.hid (HZ.out.below HBD.out)
        clear hc hxk
        by_cases hru : x.ru.size = 0
        · have hem : (x.ru.toList == []) = true := by rw [emp_size, decide_eq_true hru]
          have HM := Lib.hid (show missB S x = false by unfold missB; rw [decide_eq_false (by simpa using hru)]; rfl)
          clear hru
          go_wp2_with fail
          go_quiet (fail)
          go_wp2_with fail
          go_roundw
          case rel =>
            refine ⟨k + 1, by omega, by go_num, fun i h hik => ?_, below_drewN HBI.out _⟩
            rcases Nat.lt_or_ge i k with g | g
            · exact HNO.out i h g
            · obtain rfl : i = k := by omega
              rw [HXK.out]; exact HM.out
          case measure => simp [intOf]; omega
        · have hem : (x.ru.toList == []) = false := by rw [emp_size, decide_eq_false hru]
          obtain ⟨A3, c3', e3⟩ := ofVal_form HZD.out.sets x.ru
          have HOF := Lib.hid (wof_any _ zn (.slice (some ⟨bb, o, none⟩) l.length cA) (.slice A2 S.length cS) B S HZD.out.sets HZD.out.le x.ru)
          rw [e3] at HOF
          unfold worldA at HOF
          have HM := Lib.hid (show missB S x = decide ((ofRul S x.ru).length = 0) by unfold missB; rw [decide_eq_true hru]; rfl)
          clear hru e3
          generalize ofRul S x.ru = R at *
          by_cases hR : R.length = 0
          · have hd3 : ((R.length : Int) == 0) = true := by simpa using hR
            have HV := Lib.hid (errZ_miss hlt (show missB S l[k] = true by rw [HXK.out, HM.out, decide_eq_true hR]))
            clear hR
            go_wp2_with fail
            refine wp_text (by kernel_rfl) (by kernel_rfl) ?_
            intro K hK
            go_wp2_with fail
            refine HOF.out.mono ?_
            rintro o w2 ⟨rfl, hb⟩
            have HB3 := Lib.hid ((HB.out.trans (HBD.out.mono HB.out.size)).trans (hb.mono (by have := HBD.out.size; have := HB.out.size; omega)))
            clear hb
            go_wp2_with fail
            refine ⟨by simp [goodB, fits, plainPair, isSeqV, quiet, Act.eval], ?_⟩
            go_wp2_with fail
            go_ret2
            exact ⟨⟨_, by rw [HV.out]; rfl, by rw [endsZ_of HV.out (by decide)]; exact Sl.nil _ _ _⟩, HB3.out⟩
          · have hd3 : ((R.length : Int) == 0) = false := by simpa using hR
            rw [decide_eq_false hR] at HM
            clear hR
            go_wp2_with fail
            refine wp_text (by kernel_rfl) (by kernel_rfl) ?_
            intro K hK
            go_wp2_with fail
            refine HOF.out.mono ?_
            rintro o w2 ⟨rfl, hb⟩
            have HBI3 := Lib.hid (HBD.out.trans (hb.mono HBD.out.size))
            clear hb
            go_wp2_with fail
            refine ⟨by simp [goodB, fits, plainPair, isSeqV, quiet, Act.eval], ?_⟩
            go_wp2_with fail
            go_roundw
            case rel =>
              refine ⟨k + 1, by omega, by go_num, fun i h hik => ?_, HBI3.out⟩
              rcases Nat.lt_or_ge i k with g | g
              · exact HNO.out i h g
              · obtain rfl : i = k := by omega
                rw [HXK.out]; exact HM.out
            case measure => simp [intOf]; omega
      · obtain rfl : k = l.length := by omega
        have hd : decide ((l.length : Int) < (l.length : Int)) = false := decide_eq_false (by omega)
        obtain ⟨w1, hw1⟩ : ∃ x, x = wr := ⟨_, rfl⟩
        subst hw1
        have HTH := Lib.hid (errZ_there HL0.out (fun i hi => HNO.out i hi hi))
        clear HNO hk
        go_wp2_with fail
        go_loopw [6] (fun iv W2 => ∃ k : Nat, k ≤ l.length ∧ iv = .int .i64 k ∧ (∀ i, i < k → errAt l i = 0) ∧ Below w1.heap.size w1 W2) (fun iv _ => l.length - (intOf iv).toNat)
        case atStart => exact ⟨0, Nat.zero_le _, rfl, fun i h => absurd h (by omega), Below.refl _ _⟩
        case round =>
          obtain ⟨k, hk, rfl, hno, hbi⟩ := hrel
          have HNO := Lib.hid hno
          have HBI := Lib.hid hbi
          have HX2 := Lib.hid (HXW.out.below hbi HXW.out.lt)
          have HBW2 := Lib.hid (HBW.out.trans (hbi.mono hws))
          have HZ2 := Lib.hid (HZW.out.below hbi)
          have hws2 := HBW2.out.size
          have hxl2 := HX2.out.lt
          clear x0 x1 x2
          have x0 := HX2.out.cell 0 (v := .string zn) rfl
          have x1 := HX2.out.cell 1 (v := .slice A l.length cA) rfl
          have x2 := HX2.out.cell 2 (v := .slice A2 S.length cS) rfl
          clear hno hbi
          by_cases hlt : k < l.length
          · have hd : decide ((k : Int) < (l.length : Int)) = true := decide_eq_true (by omega)
            obtain ⟨bb, o, c', e, hbb, hc⟩ := HZ2.out.eras.cells (by omega)
            cases e
            have hx := hc k hlt
            have hfx := HFW.out.1 _ (List.getElem_mem hlt)
            have hat := errAt_eq hlt
            obtain ⟨x, hxk⟩ : ∃ x, l[k] = x := ⟨_, rfl⟩
            rw [hxk] at hx hfx hat
            obtain ⟨c0, c1, c2, c3, c4, c5, c6, c7, c8, c9, c10, c11⟩ := hx
            obtain ⟨la, hla⟩ : ∃ b, decide (k + 1 = l.length) = b := ⟨_, rfl⟩
            have hlast : decide ((k : Int) + 1 < (l.length : Int)) = !la := by
              rw [← hla]
              by_cases h : k + 1 = l.length
              · rw [decide_eq_true h, decide_eq_false (by omega)]; rfl
              · rw [decide_eq_false h, decide_eq_true (by omega)]; rfl
            rw [hla] at hat
            have HAT := Lib.hid hat
            have HFX := Lib.hid hfx
            have HB3 := Lib.hid (HBW2.out.alloc hws2 (.cells #[.int .i64 x.n.off, .string x.ru, .int .i64 x.n.save, .string x.fm, .bool x.en, .int .i64 x.n.year, .int .i64 x.n.month, .int .i64 x.n.dk, .int .i64 x.n.dw, .int .i64 x.n.dn, .int .i64 x.n.sec, .int .i64 x.n.ak] 54))
            have HBI3 := Lib.hid (HBI.out.alloc HBI.out.size (.cells #[.int .i64 x.n.off, .string x.ru, .int .i64 x.n.save, .string x.fm, .bool x.en, .int .i64 x.n.year, .int .i64 x.n.month, .int .i64 x.n.dk, .int .i64 x.n.dw, .int .i64 x.n.dn, .int .i64 x.n.sec, .int .i64 x.n.ak] 54))
            have HE3 := Lib.hid (Blk.new wr 54 #[.int .i64 x.n.off, .string x.ru, .int .i64 x.n.save, .string x.fm, .bool x.en, .int .i64 x.n.year, .int .i64 x.n.month, .int .i64 x.n.dk, .int .i64 x.n.dw, .int .i64 x.n.dn, .int .i64 x.n.sec, .int .i64 x.n.ak])
            have HK := Lib.hid (fun W => rkind_any x.fm W (by have := eraFew_fm HFX.out; omega))
            have HEZ := Lib.hid (fun (E : Int) (h : errAt l k = E) (hE : E ≠ 0) => errZ_first HTH.out hlt HNO.out h hE)
            clear hc hxk hla hat hfx
            rcases kind_ref x.fm.data.toList with ⟨h1, h2⟩ | ⟨h1, h2⟩
            · have HV := Lib.hid (HEZ.out 12 (by rw [HAT.out, errE_kind h1]) (by decide))
              rw [h2] at HK
              generalize (refK x.fm.data.toList).2 = aa at HK
              clear h1 h2
              go_wp2_with fail
              refine (HK.out _).mono ?_
              rintro o w2 ⟨rfl, rfl⟩
              go_wp2_with fail
              go_ret2
              exact ⟨⟨_, by rw [HV.out]; rfl, by rw [endsZ_of HV.out (by decide)]; exact Sl.nil _ _ _⟩, HB3.out⟩
            · have hdk : decide ((refK x.fm.data.toList).1 < 0) = false := decide_eq_false (by omega)
              generalize (refK x.fm.data.toList).1 = kk at *
              generalize (refK x.fm.data.toList).2 = aa at *
              clear h2
              by_cases hin : (-90000 < x.n.off ∧ x.n.off < 90000) ∧ -90000 < x.n.save ∧ x.n.save < 90000
              · have d1 : decide (x.n.off ≤ -90000) = false := decide_eq_false (by omega)
                have d2 : decide (90000 ≤ x.n.off) = false := decide_eq_false (by omega)
                have d3 : decide (x.n.save ≤ -90000) = false := decide_eq_false (by omega)
                have d4 : decide (90000 ≤ x.n.save) = false := decide_eq_false (by omega)
                have HIN := Lib.hid (errE_in (la := la) h1 hin)
                clear hin h1
                obtain ⟨bad, hbad⟩ : ∃ b, (decide (x.ru.size ≠ 0) && decide (x.n.save ≠ 0)) = b := ⟨_, rfl⟩
                rw [hbad] at HIN
                cases bad with
                | true =>
                  rw [Bool.and_eq_true, decide_eq_true_eq, decide_eq_true_eq] at hbad
                  have hem : (x.ru.toList == []) = false := by rw [emp_size, decide_eq_false hbad.1]
                  have hsv : (x.n.save != 0) = true := by simpa using hbad.2
                  have HV := Lib.hid (HEZ.out 12 (by rw [HAT.out, HIN.out]; rfl) (by decide))
                  clear hbad
                  go_wp2_with fail
                  refine (HK.out _).mono ?_
                  rintro o w2 ⟨rfl, rfl⟩
                  go_wp2_with fail
                  go_ret2
                  exact ⟨⟨_, by rw [HV.out]; rfl, by rw [endsZ_of HV.out (by decide)]; exact Sl.nil _ _ _⟩, HB3.out⟩
                | false =>
                  have hcase : (x.ru.toList == []) = true ∨ ((x.ru.toList == []) = false ∧ (x.n.save != 0) = false) := by
                    by_cases hr0 : x.ru.size = 0
                    · exact .inl (by rw [emp_size, decide_eq_true hr0])
                    · refine .inr ⟨by rw [emp_size, decide_eq_false hr0], ?_⟩
                      rw [decide_eq_true hr0, Bool.true_and, decide_eq_false_iff_not] at hbad
                      have : x.n.save = 0 := by omega
                      simpa using this
                  obtain ⟨ee, hee⟩ : ∃ b, x.en = b := ⟨_, rfl⟩
                  have HEE := Lib.hid hee
                  rw [hee] at c4 HB3 HBI3 HE3 HIN
                  clear hbad hee
                  cases ee <;> cases la
                  · have HV := Lib.hid (HEZ.out 12 (by rw [HAT.out, HIN.out]; rfl) (by decide))
                    rcases hcase with hem | ⟨hem, hsv⟩
                    all_goals
                      go_wp2_with fail
                      refine (HK.out _).mono ?_
                      rintro o w2 ⟨rfl, rfl⟩
                      go_wp2_with fail
                      go_ret2
                      exact ⟨⟨_, by rw [HV.out]; rfl, by rw [endsZ_of HV.out (by decide)]; exact Sl.nil _ _ _⟩, HB3.out⟩
                  · have HAT0 := Lib.hid (show errAt l k = 0 by rw [HAT.out, HIN.out]; rfl)
                    rcases hcase with hem | ⟨hem, hsv⟩
                    all_goals
                      go_wp2_with fail
                      refine (HK.out _).mono ?_
                      rintro o w2 ⟨rfl, rfl⟩
                      go_wp2_with fail
                      go_roundw
                      case rel =>
                        refine ⟨k + 1, by omega, by go_num, fun i hik => ?_, HBI3.out⟩
                        rcases Nat.lt_or_ge i k with g | g
                        · exact HNO.out i g
                        · obtain rfl : i = k := by omega
                          exact HAT0.out
                      case measure => simp [intOf]; omega
                  · have hek := eraFew_end HFX.out HEE.out
                    have HEK := Lib.hid hek
                    have HNO2 := Lib.hid (fun W => rnominal_any W x.n HEK.out)
                    unfold untilA at HNO2
                    have HNR := Lib.hid (show errAt l k = (nomR x.n).2 by rw [HAT.out, HIN.out]; rfl)
                    obtain ⟨rb, hrb⟩ : ∃ b, rnomB x.n = b := ⟨_, rfl⟩
                    obtain ⟨nv, hnv⟩ : ∃ b, rnomV x.n = b := ⟨_, rfl⟩
                    rw [hrb, hnv] at HNO2
                    have HRB := Lib.hid hrb
                    clear hek hrb hnv
                    cases rb with
                    | false =>
                      have HV := Lib.hid (HEZ.out 10 (by
                        rw [HNR.out]
                        by_cases hk : 0 ≤ x.n.ak ∧ x.n.ak ≤ 2
                        · exact nomR_no HRB.out HEK.out hk
                        · exact nomR_kind hk) (by decide))
                      rcases hcase with hem | ⟨hem, hsv⟩
                      all_goals
                        go_wp2_with fail
                        refine (HK.out _).mono ?_
                        rintro o w2 ⟨rfl, rfl⟩
                        go_wp2_with fail
                        refine (HNO2.out _).mono ?_
                        rintro o w3 ⟨rfl, hb⟩
                        have HB4 := Lib.hid (HB3.out.trans (hb.mono HB3.out.size))
                        clear hb
                        go_wp2_with fail
                        go_ret2
                        exact ⟨⟨_, by rw [HV.out]; rfl, by rw [endsZ_of HV.out (by decide)]; exact Sl.nil _ _ _⟩, HB4.out⟩
                    | true =>
                      by_cases hk : 0 ≤ x.n.ak ∧ x.n.ak ≤ 2
                      · have dk1 : decide (x.n.ak < 0) = false := decide_eq_false (by omega)
                        have dk2 : decide (2 < x.n.ak) = false := decide_eq_false (by omega)
                        have HAT0 := Lib.hid (show errAt l k = 0 by rw [HNR.out, nomR_yes HRB.out HEK.out hk])
                        clear hk
                        rcases hcase with hem | ⟨hem, hsv⟩
                        all_goals
                          go_wp2_with fail
                          refine (HK.out _).mono ?_
                          rintro o w2 ⟨rfl, rfl⟩
                          go_wp2_with fail
                          refine (HNO2.out _).mono ?_
                          rintro o w3 ⟨rfl, hb⟩
                          have HBI4 := Lib.hid (HBI3.out.trans (hb.mono HBI3.out.size))
                          have hE4 := HE3.out.below hb HE3.out.lt
                          have e11 := hE4.cell 11 (v := .int .i64 x.n.ak) rfl
                          have hel := hE4.lt
                          clear hb hE4
                          go_wp2_with fail
                          go_roundw
                          case rel =>
                            refine ⟨k + 1, by omega, by go_num, fun i hik => ?_, HBI4.out⟩
                            rcases Nat.lt_or_ge i k with g | g
                            · exact HNO.out i g
                            · obtain rfl : i = k := by omega
                              exact HAT0.out
                          case measure => simp [intOf]; omega
                      · have HV := Lib.hid (HEZ.out 10 (by rw [HNR.out]; exact nomR_kind hk) (by decide))
                        have hkk : decide (x.n.ak < 0) = true ∨ (decide (x.n.ak < 0) = false ∧ decide (2 < x.n.ak) = true) := by
                          by_cases h : x.n.ak < 0
                          · exact .inl (decide_eq_true h)
                          · exact .inr ⟨decide_eq_false h, decide_eq_true (by omega)⟩
                        clear hk
                        rcases hcase with hem | ⟨hem, hsv⟩ <;> rcases hkk with dk1 | ⟨dk1, dk2⟩
                        all_goals
                          go_wp2_with fail
                          refine (HK.out _).mono ?_
                          rintro o w2 ⟨rfl, rfl⟩
                          go_wp2_with fail
                          refine (HNO2.out _).mono ?_
                          rintro o w3 ⟨rfl, hb⟩
                          have HB4 := Lib.hid (HB3.out.trans (hb.mono HB3.out.size))
                          have hE4 := HE3.out.below hb HE3.out.lt
                          have e11 := hE4.cell 11 (v := .int .i64 x.n.ak) rfl
                          have hel := hE4.lt
                          clear hb hE4
                          go_wp2_with fail
                          go_ret2
                          exact ⟨⟨_, by rw [HV.out]; rfl, by rw [endsZ_of HV.out (by decide)]; exact Sl.nil _ _ _⟩, HB4.out⟩
                  · have HV := Lib.hid (HEZ.out 12 (by rw [HAT.out, HIN.out]; rfl) (by decide))
                    rcases hcase with hem | ⟨hem, hsv⟩
                    all_goals
                      go_wp2_with fail
                      refine (HK.out _).mono ?_
                      rintro o w2 ⟨rfl, rfl⟩
                      go_wp2_with fail
                      go_ret2
                      exact ⟨⟨_, by rw [HV.out]; rfl, by rw [endsZ_of HV.out (by decide)]; exact Sl.nil _ _ _⟩, HB3.out⟩
              · have HV := Lib.hid (HEZ.out 10 (by rw [HAT.out, errE_range h1 hin]) (by decide))
                rcases four_of (p := x.n.off ≤ -90000) (q := 90000 ≤ x.n.off) (r := x.n.save ≤ -90000) (s := 90000 ≤ x.n.save) (by omega) with d1 | ⟨d1, d2⟩ | ⟨d1, d2, d3⟩ | ⟨d1, d2, d3, d4⟩
                all_goals
                  clear hin h1
                  go_wp2_with fail
                  refine (HK.out _).mono ?_
                  rintro o w2 ⟨rfl, rfl⟩
                  go_wp2_with fail
                  go_ret2
                  exact ⟨⟨_, by rw [HV.out]; rfl, by rw [endsZ_of HV.out (by decide)]; exact Sl.nil _ _ _⟩, HB3.out⟩
          · obtain rfl : k = l.length := by omega
            have hd : decide ((l.length : Int) < (l.length : Int)) = false := decide_eq_false (by omega)
            obtain ⟨w2, hw2⟩ : ∃ x, x = wr := ⟨_, rfl⟩
            subst hw2
            have HERR := Lib.hid (show ∀ i, i < l.length → errAt l i = 0 from fun i hi => HNO.out i hi)
            have HTH2 := Lib.hid (show errZ S l = if riseB (endL S l) then 0 else 17 by rw [HTH.out, errsF_none HERR.out]; rfl)
            have hl1 : 0 < l.length := by have := HL0.out; omega
            have hl4 : l.length ≤ 4 := HFW.out.2.2.1
            clear HNO hk HTH
            have HRW := Lib.hid (rows_any zn _ _ B l S w2 HZ2.out HFW.out.2.1 (by omega))
            unfold worldA RowsPost at HRW
            go_wp2_with fail
            refine HRW.out.mono ?_
            rintro o w3 ⟨⟨u, R, rfl, hRl, hRok, hRm⟩, hb⟩
            have HB3 := Lib.hid (HBW2.out.trans (hb.mono HBW2.out.size))
            have HX3 := Lib.hid (HX2.out.below hb HX2.out.lt)
            have HZ3 := Lib.hid (HZ2.out.below hb)
            have HRL := Lib.hid hRl
            have HRO := Lib.hid hRok
            have HRM := Lib.hid hRm
            obtain ⟨A3, c3, rfl, -, -⟩ := hRm.form
            clear hb hRl hRok hRm x0 x1 x2 HRW HX2 HZ2
            go_wp2_with fail
            go_loopw [13, 14] (fun u iv wr => ∃ k : Nat, k ≤ l.length - 1 ∧ iv = .int .i64 k ∧ wr.ownsRow w3.heap.size 3 1 u k (intsV ((endL S l).take k)) ∧ Below w3.heap.size w3 wr) (fun _ iv _ => l.length - (intOf iv).toNat)
            case atStart => exact ⟨0, Nat.zero_le _, rfl, World.ownsRow_nil _ _ _ _, Below.refl _ _⟩
            case round =>
              obtain ⟨k, hk, rfl, hown, hbw⟩ := hrel
              have HOW := Lib.hid hown
              have HBW3 := Lib.hid hbw
              have HX4 := Lib.hid (HX3.out.below hbw HX3.out.lt)
              have hxl4 := HX4.out.lt
              have x1 := HX4.out.cell 1 (v := .slice A l.length cA) rfl
              have HZ4 := Lib.hid (HZ3.out.below hbw)
              have HRM4 := Lib.hid (HRM.out.below hbw)
              obtain ⟨A5, c5, hu, -, -⟩ := Sl.of_own hown
              subst hu
              clear hown hbw
              by_cases hlt : k + 1 < l.length
              · have hd : decide ((k : Int) + 1 < (l.length : Int)) = true := decide_eq_true (by omega)
                have hlk : k < l.length := by omega
                have hRlk : k < R.length := by rw [HRL.out]; exact hlk
                obtain ⟨bb, o, c', e, hbb, hc⟩ := HZ4.out.eras.cells (by omega)
                cases e
                have hx := hc k hlk
                obtain ⟨br, orr, cr', e, hbr, hcr⟩ := HRM4.out.cells (by omega)
                cases e
                obtain ⟨rc0, rc1⟩ := hcr k hRlk
                have hdr : decide (k < R.length) = true := decide_eq_true hRlk
                have hrok := HRO.out k hRlk hlk
                have hrm : FrisN w3 R[k].v R[k].D := HRM.out.2 _ (List.getElem_mem hRlk)
                have her := HERR.out k hlk
                rw [errAt_eq hlk, decide_eq_false (by omega)] at her
                have hen := endL_get (S := S) (l := l) (i := k) hlt
                have hfx := HFW.out.1 _ (List.getElem_mem hlk)
                have htk : (endL S l).take (k + 1) = (endL S l).take k ++ [(endL S l).getD k 0] := by
                  have h9 : k < (endL S l).length := by rw [length_endL]; omega
                  rw [List.take_succ_eq_append_getElem h9, List.getD_eq_getElem?_getD, List.getElem?_eq_getElem h9]
                  rfl
                obtain ⟨x, hxk⟩ : ∃ x, l[k] = x := ⟨_, rfl⟩
                obtain ⟨r, hrk⟩ : ∃ r, R[k] = r := ⟨_, rfl⟩
                rw [hxk] at hx her hen hfx hrok
                rw [hrk] at rc0 rc1 hrok hrm
                obtain ⟨-, hof, hsf, hee, -, hnb⟩ := errE_zero her
                have hee2 : x.en = true := hee
                have hek := eraFew_end hfx hee2
                have hkin : 0 ≤ x.n.ak ∧ x.n.ak ≤ 2 := by have := nomV_in (hnb hee2); omega
                have hrb : rnomB x.n = true := by rw [← hek.nomB_eq hkin]; exact hnb hee2
                have hEQ := end_eq (ru := x.ru) hrok.right hof hek hrb
                rw [hEQ] at hen
                have hbd4 := below_drewN HBW3.out 1
                have HRD := Lib.hid (rend_any (wr.drewN 1) x.n x.ru x.fm true w3.heap.size r.v r.D r.letter (hrm.1.below hbd4) hbd4.size hrok.len hrok.bd hek (by omega) (by omega))
                obtain ⟨A9, c9, hv9, -, -⟩ := hrm.1.form
                rw [hv9] at HRD rc0
                rw [← hen] at HRD
                unfold eraA at HRD
                obtain ⟨ek, hekv⟩ : ∃ z, (endL S l).getD k 0 = z := ⟨_, rfl⟩
                rw [hekv] at HRD htk
                have HTK := Lib.hid htk
                have HBD4 := Lib.hid hbd4
                obtain ⟨c0, c1, c2, c3, c4, c5, c6, c7, c8, c9, c10, c11⟩ := hx
                rw [hee2] at c4
                have hul := HOW.out.lt
                clear hc hcr hxk hrk hrok hrm her hen hfx hof hsf hee hee2 hnb hek hrb hEQ hbd4 hekv htk hv9
                go_wp2_with fail
                refine wp_text (by kernel_rfl) (by kernel_rfl) ?_
                intro K hK
                go_wp2_with fail
                refine HRD.out.mono ?_
                rintro o w5 ⟨rfl, hb⟩
                have HB5 := Lib.hid (HBD4.out.trans (hb.mono HBD4.out.size))
                have HOW5 := Lib.hid (ownsRow_below HOW.out ((below_drewN (Below.refl wr.heap.size wr) 1).trans hb))
                clear hb
                go_wp2_with ((at_builtin; refine wpList_append_own _ rfl _ _ 28 rfl (w3.heap.size) 3 i0 (.int .i64 0) 1 8 Tryz.underlying28 hi hz0 hz1 hz2 rfl (by decide) _ _ _ rfl (HOW5.out.alloc _) ⟨w5.heap.size, 0, none⟩ 1 1 [.int .i64 ek] rfl rfl (cell_one_new _ _ _) (by simp [Value.oneCell']) (by unfold maxLen; omega) (by omega) (by have := HB5.out.size; simp <;> omega) ?_; intro v' w1 hown' hgrow _))
                refine ⟨by simp [goodB, fits, plainPair, isSeqV, quiet, Act.eval], ?_⟩
                go_wp2_with fail
                go_roundw
                case rel =>
                  refine ⟨k + 1, by omega, by go_num, ?_, below_push HB5.out HOW5.out hgrow⟩
                  rw [HTK.out, intsV_append]
                  exact hown'
                case measure => first | (simp [intOf]; done) | (simp [intOf]; omega)
              · obtain rfl : k = l.length - 1 := by omega
                have hd : decide (((l.length - 1 : Nat) : Int) + 1 < (l.length : Int)) = false := decide_eq_false (by omega)
                have HOE := Lib.hid (show Nums wr wr.heap.size (.slice A5 (l.length - 1) c5) (endL S l) by
                  have h := Sl.of_own HOW.out
                  rw [List.take_of_length_le (by rw [length_endL]; exact Nat.le_refl _)] at h
                  unfold Nums
                  rw [length_endL]
                  exact h)
                have HB4 := Lib.hid (HB3.out.trans (HBW3.out.mono HB3.out.size))
                obtain ⟨w4, hw4⟩ : ∃ x, x = wr := ⟨_, rfl⟩
                subst hw4
                have hEl : (endL S l).length = l.length - 1 := length_endL S l
                have HEL := Lib.hid hEl
                clear HOW HBW3 HX4 HZ4 HRM4 hxl4 x1 hEl hk hlt
                go_wp2_with fail
                go_loopw [15] (fun iv W2 => ∃ q : Nat, q + 1 ≤ l.length ∧ iv = .int .i64 ((q : Int) + 1) ∧ (∀ i, i < q → (endL S l).getD i 0 < (endL S l).getD (i + 1) 0) ∧ Below w4.heap.size w4 W2) (fun iv _ => l.length + 1 - (intOf iv).toNat)
                case atStart => exact ⟨0, by omega, rfl, fun i h => absurd h (by omega), Below.refl _ _⟩
                case round =>
                  obtain ⟨q, hq, rfl, hno, hbi⟩ := hrel
                  have HNO := Lib.hid hno
                  have HBI := Lib.hid hbi
                  have HN5 := Lib.hid (HOE.out.below hbi)
                  have hws5 := hbi.size
                  clear hno hbi
                  by_cases hlt : q + 1 < l.length - 1
                  · have hd : decide ((q : Int) + 1 < ((l.length - 1 : Nat) : Int)) = true := decide_eq_true (by omega)
                    obtain ⟨be, oe, ce, e, hbe, hce⟩ := HN5.out.cells (by have := HEL.out; omega)
                    injection e with eA eL eC
                    subst eA eC
                    clear eL
                    have e1 := hce (q + 1) (by have := HEL.out; omega)
                    have e0 := hce q (by have := HEL.out; omega)
                    have g1 := getD_at (E := endL S l) (j := q + 1) (by have := HEL.out; omega)
                    have g0 := getD_at (E := endL S l) (j := q) (by have := HEL.out; omega)
                    rw [← g1] at e1
                    rw [← g0] at e0
                    obtain ⟨n1, hn1⟩ : ∃ z, (endL S l).getD (q + 1) 0 = z := ⟨_, rfl⟩
                    obtain ⟨n0, hn0⟩ : ∃ z, (endL S l).getD q 0 = z := ⟨_, rfl⟩
                    rw [hn1] at e1
                    rw [hn0] at e0
                    have HN1 := Lib.hid hn1
                    have HN0 := Lib.hid hn0
                    have hbe5 : be < wr.heap.size := by omega
                    have hsub : wrap64 ((q : Int) + 1 - 1) = (q : Int) := by rw [Int.add_sub_cancel]; exact IntWalk.wrap64_in _ (by omega)
                    have ht1 : ((q : Int) + 1).toNat = q + 1 := by omega
                    clear hce g1 g0 hn1 hn0
                    by_cases hle : n1 ≤ n0
                    · have hdl : decide (n1 ≤ n0) = true := decide_eq_true hle
                      have HV := Lib.hid (show errZ S l = 17 by
                        rw [HTH2.out, riseB_no (i := q) (by rw [HEL.out]; omega) (by rw [HN1.out, HN0.out]; exact hle)]
                        rfl)
                      have HB5 := Lib.hid (HB4.out.trans (HBI.out.mono HB4.out.size))
                      clear hle
                      go_wp2_with fail
                      go_quiet (fail)
                      go_wp2_with fail
                      go_ret2
                      exact ⟨⟨_, by rw [HV.out]; rfl, by rw [endsZ_of HV.out (by decide)]; exact Sl.nil _ _ _⟩, (below_drewN HB5.out _)⟩
                    · have hdl : decide (n1 ≤ n0) = false := decide_eq_false hle
                      have HLT := Lib.hid (show (endL S l).getD q 0 < (endL S l).getD (q + 1) 0 by rw [HN1.out, HN0.out]; omega)
                      clear hle
                      go_wp2_with fail
                      go_quiet (fail)
                      go_wp2_with fail
                      go_roundw
                      case rel =>
                        refine ⟨q + 1, by omega, by go_num, fun i hi => ?_, below_drewN HBI.out _⟩
                        rcases Nat.lt_or_ge i q with g | g
                        · exact HNO.out i g
                        · obtain rfl : i = q := by omega
                          exact HLT.out
                      case measure => first | (simp [intOf]; done) | (simp [intOf]; omega)
                  · have hd : decide ((q : Int) + 1 < ((l.length - 1 : Nat) : Int)) = false := decide_eq_false (by omega)
                    have HV := Lib.hid (show errZ S l = 0 by
                      rw [HTH2.out, riseB_iff.2 (fun i hi => HNO.out i (by rw [HEL.out] at hi; omega))]
                      rfl)
                    have HB5 := Lib.hid (HB4.out.trans (HBI.out.mono HB4.out.size))
                    go_wp2_with fail
                    go_ret2
                    exact ⟨⟨_, by rw [HV.out]; rfl, by rw [endsZ_zero HV.out]; exact Sl.more HN5.out hws5⟩, HB5.out⟩
end Go.Proofs.YtonmmgcibpjahaaGreatDoor
end

section
/- GPartM: Layer 13: a zone whose last era is parted in two that are alike but for their ends shows the same (plain). -/
namespace Go.Proofs.YtonmmgcibpjahaaGreatDoor
open Go Go.RowKit Go.Shelf

theorem eraI_lt {E : List Int} {i : Int} (h : eraI E i < E.length) : i < E[eraI E i] := of_decide_eq_true (List.findIdx_getElem (w := h))
theorem eraI_no {E : List Int} {i : Int} {j : Nat} (h : j < eraI E i) (hj : j < E.length) : ¬ i < E[j] := by
  have h2 := List.not_of_lt_findIdx h
  simpa using h2
/-- An era with an end. -/
def EraF.cut (x : EraF) (u : EraN) : EraF := ⟨{ u with off := x.n.off, save := x.n.save }, x.ru, x.fm, true⟩
def lastE (l : List EraF) : EraF := l.getD (l.length - 1) default
def partL (l : List EraF) (u : EraN) : List EraF := l.take (l.length - 1) ++ [(lastE l).cut u, lastE l]
theorem zwithinV_same {e e' : EraN} (h1 : e.off = e'.off) (h2 : e.save = e'.save) (ru f : ByteArray) (l : List Rul) (i : Int) : zwithinV e ru f l i = zwithinV e' ru f l i := by
  have h3 : savesV e ru l i = savesV e' ru l i := by unfold savesV; rw [h1, h2]
  unfold zwithinV
  rw [h3, h1]
section
variable {S : List SetF} {l : List EraF} {u : EraN}
theorem partL_len (h : l.length ≠ 0) : (partL l u).length = l.length + 1 := by
  unfold partL
  rw [List.length_append, List.length_take]
  simp only [List.length_cons, List.length_nil]
  omega
theorem partL_at {j : Nat} (h : j + 1 < l.length) : (partL l u)[j]? = l[j]? := by
  unfold partL
  rw [List.getElem?_append_left (by rw [List.length_take]; omega), List.getElem?_take_of_lt (by omega)]
theorem partL_cut (_ : l.length ≠ 0) : (partL l u)[l.length - 1]? = some ((lastE l).cut u) := by
  unfold partL
  rw [List.getElem?_append_right (by rw [List.length_take]; omega), List.length_take, show l.length - 1 - min (l.length - 1) l.length = 0 by omega]
  rfl
theorem partL_last (h : l.length ≠ 0) : (partL l u)[l.length]? = some (lastE l) := by
  unfold partL
  rw [List.getElem?_append_right (by rw [List.length_take]; omega), List.length_take, show l.length - min (l.length - 1) l.length = 1 by omega]
  rfl
theorem endL_part (h : l.length ≠ 0) {j : Nat} (hj : j + 1 < l.length) : (endL S (partL l u)).getD j 0 = (endL S l).getD j 0 := by
  have h1 := partL_at (u := u) hj
  have hp := partL_len (u := u) h
  rw [List.getElem?_eq_getElem (by omega), List.getElem?_eq_getElem (by omega)] at h1
  have h2 := Option.some.inj h1
  rw [endL_get hj, endL_get (by omega), h2]
/-- What it shows is what the zone shows. -/
theorem parts_at (h : errZ S l = 0) (h' : errZ S (partL l u) = 0) (i : Int) : atZ S (partL l u) i = atZ S l i := by
  have h0 := (errZ_zero h).1
  have hp := partL_len (u := u) h0
  have hE : (endL S l).length = l.length - 1 := length_endL S l
  have hE' : (endL S (partL l u)).length = l.length := by rw [length_endL, hp]; omega
  have same : ∀ j (hj : j < (endL S l).length) (hj' : j < (endL S (partL l u)).length), (endL S (partL l u))[j] = (endL S l)[j] := fun j hj hj' => by
    have := endL_part (S := S) (u := u) h0 (j := j) (by omega)
    rwa [getD_at hj, getD_at hj'] at this
  have key : zwithinV (atX S (partL l u) i).n (atX S (partL l u) i).ru (atX S (partL l u) i).fm (ruleE S (atX S (partL l u) i)) i = zwithinV (atX S l i).n (atX S l i).ru (atX S l i).fm (ruleE S (atX S l i)) i := by
    have hk := eraI_le (endL S l) i
    by_cases hlt : eraI (endL S l) i < (endL S l).length
    · have e1 : eraI (endL S (partL l u)) i = eraI (endL S l) i := by
        refine eraI_at (by omega) (fun j hj hjk => ?_) ?_
        · rw [same j (by omega) hj]; exact eraI_no hjk (by omega)
        · rw [same _ hlt (by omega)]; exact eraI_lt hlt
      have e2 : atX S (partL l u) i = atX S l i := by
        unfold atX
        rw [e1, List.getD_eq_getElem?_getD, List.getD_eq_getElem?_getD, partL_at (by omega)]
      rw [e2]
    · have hkn : eraI (endL S l) i = l.length - 1 := by omega
      have e2 : atX S l i = lastE l := by unfold atX lastE; rw [hkn]
      rw [e2]
      by_cases hz : i < (endL S (partL l u))[l.length - 1]'(by omega)
      · have e1 : eraI (endL S (partL l u)) i = l.length - 1 := by
          refine eraI_at (by omega) (fun j hj hjk => ?_) hz
          rw [same j (by omega) hj]; exact eraI_no (by omega) (by omega)
        have e3 : atX S (partL l u) i = (lastE l).cut u := by
          unfold atX
          rw [e1, List.getD_eq_getElem?_getD, partL_cut h0]
          rfl
        rw [e3]
        exact zwithinV_same rfl rfl _ _ _ _
      · have e1 : eraI (endL S (partL l u)) i = l.length := by
          rw [eraI_none, hE']
          intro j hj
          by_cases hjn : j = l.length - 1
          · subst hjn; exact hz
          · rw [same j (by omega) hj]; exact eraI_no (by omega) (by omega)
        have e3 : atX S (partL l u) i = lastE l := by
          unfold atX
          rw [e1, List.getD_eq_getElem?_getD, partL_last h0]
          rfl
        rw [e3]
  unfold atZ
  simp only [h, h', ne_eq, not_true_eq_false, if_false]
  rw [key]
end
end Go.Proofs.YtonmmgcibpjahaaGreatDoor
end

section
/- ANear: Layer 13's law walked: which instants are near; an index that goes round. -/
namespace Go.Proofs.YtonmmgcibpjahaaGreatDoor
open Go Go.RowKit Go.Shelf
set_option maxRecDepth 100000

def nearB (i : Int) : Bool := decide (-2366841600 < i ∧ i < 3944678400)
theorem nearB_iff {i : Int} : nearB i = true ↔ -2366841600 < i ∧ i < 3944678400 := by unfold nearB; exact decide_eq_true_iff
theorem near_any (i : Int) (w : World) : Calls Tryz.prog 21 #[.int .i64 i] w fun o w' => o = .returned (.bool (nearB i)) ∧ w' = w := by
  by_cases h1 : -2366841600 < i
  · have d1 : decide (-2366841600 < i) = true := decide_eq_true h1
    by_cases h2 : i < 3944678400
    · have HV := Lib.hid (show nearB i = true by unfold nearB; rw [decide_eq_true_eq]; omega)
      have d2 : decide (i < 3944678400) = true := decide_eq_true h2
      go_enter Tryz.func21, Tryz.ntmps21
      go_wp2_with fail
      go_ret
      exact ⟨by rw [HV.out]; rfl, rfl⟩
    · have HV := Lib.hid (show nearB i = false by unfold nearB; rw [decide_eq_false_iff_not]; omega)
      have d2 : decide (i < 3944678400) = false := decide_eq_false h2
      go_enter Tryz.func21, Tryz.ntmps21
      go_wp2_with fail
      go_ret
      exact ⟨by rw [HV.out]; rfl, rfl⟩
  · have HV := Lib.hid (show nearB i = false by unfold nearB; rw [decide_eq_false_iff_not]; omega)
    have d1 : decide (-2366841600 < i) = false := decide_eq_false h1
    go_enter Tryz.func21, Tryz.ntmps21
    go_wp2_with fail
    go_ret
    exact ⟨by rw [HV.out]; rfl, rfl⟩
theorem wrap_in {a n : Int} (hn : 0 < n) : ∃ k : Nat, (a.tmod n + n).tmod n = k ∧ (k : Int) < n := by
  have h1 := Int.lt_tmod_of_pos a hn
  have h2 : 0 ≤ (a.tmod n + n).tmod n := Int.tmod_nonneg _ (by omega)
  have h3 := Int.tmod_lt_of_pos (a.tmod n + n) hn
  exact ⟨((a.tmod n + n).tmod n).toNat, by omega, by omega⟩
end Go.Proofs.YtonmmgcibpjahaaGreatDoor
end

section
/- GShowM: Layer 13: what a zone shows at an instant that is near, by the reference's way (plain). -/
namespace Go.Proofs.YtonmmgcibpjahaaGreatDoor
open Go Go.RowKit Go.Shelf

theorem Nums.more {w : World} {B B' : Nat} {v : Value} {l : List Int} (h : Nums w B v l) (hB : B ≤ B') : Nums w B' v l := Sl.more h hB
theorem below_thru {n : Nat} {w W W' : World} (h : Below w.heap.size w W) (h' : Below (W.drewN n).heap.size (W.drewN n) W') : Below w.heap.size w W' := (below_drewN h n).trans (h'.mono h.size)
theorem atZ_form (S : List SetF) (l : List EraF) (i : Int) : ∃ a d s err, atZ S l i = .tuple #[.agg #[.int .i64 a, .bool d, .string s], .int .i64 err] := by
  unfold atZ
  split
  · exact ⟨_, _, _, _, rfl⟩
  · split
    · exact ⟨_, _, _, _, rfl⟩
    · exact zwithinV_form _ _ _ _ _
theorem locV_inj {a a' : Int} {d d' : Bool} {s s' : ByteArray} {e e' : Int} (h : (Value.tuple #[.agg #[.int .i64 a, .bool d, .string s], .int .i64 e]) = .tuple #[.agg #[.int .i64 a', .bool d', .string s'], .int .i64 e']) : a = a' ∧ d = d' ∧ s = s' ∧ e = e' := by
  simp at h
  obtain ⟨⟨h1, h2, h3⟩, h4⟩ := h
  exact ⟨h1, h2, h3, h4⟩
/-- Of a format that may be nothing else is wrong than its number. -/
theorem showV_err {f : ByteArray} {off : Int} {dst : Bool} {letter : ByteArray} (h : (kindR f.data.toList).2 = 0) : (showV f off dst letter).2 = 0 ∨ showV f off dst letter = (⟨#[]⟩, 10) := by
  unfold showV
  rw [if_pos h]
  split
  · exact .inl rfl
  · split
    · split
      · exact .inl rfl
      · exact .inr rfl
    · split
      · exact .inl rfl
      · exact .inl rfl
/-- What is found at a near instant: the era k, what it saves, how it is called. -/
theorem atZ_near {S : List SetF} {l : List EraF} {i : Int} (h : errZ S l = 0) (h1 : -2366841600 < i) (h2 : i < 3944678400) {k : Nat} (hk : k < l.length) (hki : eraI (endL S l) i = k) :
    atZ S l i = zwithinV l[k].n l[k].ru l[k].fm (ruleE S l[k]) i := by
  have hax : atX S l i = l[k] := by unfold atX; rw [hki, List.getD_eq_getElem?_getD, List.getElem?_eq_getElem hk]; rfl
  unfold atZ
  rw [if_neg (fun e => e h), if_neg (by omega), hax]
/-- The loop that looks for the era has found it. -/
theorem eraI_loop {E : List Int} {i : Int} {k : Nat} (hk : k ≤ E.length) (hno : ∀ j (h : j < E.length), j < k → E[j] ≤ i) (hend : ∀ h : k < E.length, ¬ E[k] ≤ i) : eraI E i = k := by
  by_cases hlt : k < E.length
  · exact eraI_at hlt (fun j hj hjk => by have := hno j hj hjk; omega) (by have := hend hlt; omega)
  · have : k = E.length := by omega
    subst this
    exact eraI_none (fun j hj => by have := hno j hj hj; omega)
/-- What the reference's way says at the era. -/
theorem near_eq {S : List SetF} {l : List EraF} {i : Int} (h : errZ S l = 0) (h1 : -2366841600 < i) (h2 : i < 3944678400) {k : Nat} (hk : k < l.length) {r : RowF} (hr : RowOk S l[k] r) :
    ∃ cut, Cut (r.D.map FrI.f) (instA (r.D.map FrI.f) l[k].n.off) (i + 1) cut ∧ savesV l[k].n l[k].ru (ruleE S l[k]) i = rsavesV l[k].n l[k].ru (r.D.map FrI.f) r.letter cut := by
  obtain ⟨-, -, hat, -⟩ := errZ_zero h
  have her := hat k hk
  rw [errAt_eq hk] at her
  obtain ⟨-, hof, -⟩ := errE_zero her
  obtain ⟨cut, hc⟩ := hr.right.icut hof (i + 1)
  exact ⟨cut, hc, by rw [hr.letter]; exact saves_eq hr.right hof h1 h2 hc⟩
end Go.Proofs.YtonmmgcibpjahaaGreatDoor
end

section
/- EnvA: A region that draws its order, with one block made in it (a variable of its own) and one operation that fills the block: each other operation's value is known ahead. -/
namespace Go.Proofs.YtonmmgcibpjahaaGreatDoor
open Go Go.RowKit

section
variable {P : Program} {n : Nat} {ops : Array Oper}
/-- What is asked of the region itself. al: the operation that makes the block; st: the one that fills it. -/
def envAB (ops : Array Oper) (D : List Nat) (al st : Nat) : Bool :=
  envSB ops D st && decide (al < ops.size) && decide (al ≠ st) && (match ops[st]? with | some o => o.after.any fun e => Region.binds .any e && e.on == al | none => false)
/-- What one operation does: the one that makes the block, the one that fills it (cells cs, of type t, zs ahead), any other one. -/
def EnvAStep (P : Program) (ops : Array Oper) (fin : Value → Act) (w0 : World) (t : TypeId) (zs cs : Array Value) (o : Oper) (v : Value) : Bool → Bool → Prop
  | true, _ => (∀ p, Region.wanted o (yielded ops (fin p).tmps) = true) ∧ ∀ p w, Below w0.heap.size w0 w → (execOp (fin p).eval o).run P w = .ok (.value (.pointer (some ⟨w.heap.size, 0, none⟩))) (w.alloc (.cells zs t))
  | false, true => (∀ p, Region.wanted o (yielded ops (fin p).tmps) = true) ∧ ∀ b w, Blk w b t zs → ∃ w', (execOp (fin (.pointer (some ⟨b, 0, none⟩))).eval o).run P w = .ok .skip w' ∧ Fr (fun k => k = b) w w' ∧ Blk w' b t cs
  | false, false => ∀ p, EnvStep P ops (fin p) w0 o v
def EnvASteps (P : Program) (ops : Array Oper) (fin : Value → Act) (w0 : World) (t : TypeId) (zs cs : Array Value) (al st : Nat) : Nat → List Oper → List Value → Prop
  | k, o :: l, v :: V => EnvAStep P ops fin w0 t zs cs o v (k == al) (k == st) ∧ EnvASteps P ops fin w0 t zs cs al st (k + 1) l V
  | _, [], [] => True
  | _, _, _ => False
theorem envASteps_at {fin : Value → Act} {w0 : World} {t : TypeId} {zs cs : Array Value} {al st : Nat} : ∀ {l : List Oper} {V : List Value} {k : Nat}, EnvASteps P ops fin w0 t zs cs al st k l V → ∀ {j : Nat} {o : Oper}, l[j]? = some o → EnvAStep P ops fin w0 t zs cs o (V.getD j undef) (k + j == al) (k + j == st)
  | [], _, _, _, _, _, h => by simp at h
  | _ :: _, [], _, hs, _, _, _ => hs.elim
  | x :: l, v :: V, k, hs, 0, o, h => by
    simp only [List.getElem?_cons_zero, Option.some.injEq] at h
    subst h
    exact hs.1
  | x :: l, v :: V, k, hs, j + 1, o, h => by
    rw [List.getElem?_cons_succ] at h
    have := envASteps_at hs.2 h
    rw [show k + 1 + j = k + (j + 1) by omega] at this
    simpa using this
theorem envASteps_len {fin : Value → Act} {w0 : World} {t : TypeId} {zs cs : Array Value} {al st : Nat} : ∀ {l : List Oper} {V : List Value} {k : Nat}, EnvASteps P ops fin w0 t zs cs al st k l V → V.length = l.length
  | [], [], _, _ => rfl
  | [], _ :: _, _, h => h.elim
  | _ :: _, [], _, h => h.elim
  | _ :: l, _ :: V, _, h => by simp [envASteps_len h.2]
theorem getD_setU {V : List Value} {al i : Nat} (p : Value) (h : al < V.length) : (V.set al p).getD i undef = if al = i then p else V.getD i undef := by
  rw [List.getD_eq_getElem?_getD, List.getElem?_set, List.getD_eq_getElem?_getD]
  split
  · rename_i e
    subst e
    rfl
  · rfl
/-- What holds while the region goes on. -/
def EnvAI (w : World) (D : List Nat) (V : List Value) (t : TypeId) (zs cs : Array Value) (al st : Nat) (L : Nat → Bool) (x : Nat → Value) (w' : World) : Prop :=
  Below w.heap.size w w' ∧ ∃ p, (∀ i, i < D.length → L i = true → x (D.getD i 0) = (V.set al p).getD i undef) ∧ (L al = true → ∃ b, p = .pointer (some ⟨b, 0, none⟩) ∧ w.heap.size ≤ b ∧ Blk w' b t (if L st = true then cs else zs)) ∧ (L al = false → L st = false)
/-- A REGION THAT DRAWS ITS ORDER, WITH ONE BLOCK OF ITS OWN, WITHIN A FENCE. D: each operation's slot (the filling one's: one that the frame has not); V: what it yields (at al: anything); fin p: the frame in the end, if the block's address is p. -/
theorem wpIn_envA {F : Fence} (hF : Wide F) {id : Nat} {l : List Oper} {Q : Exit → Act → World → Prop} {a : Act} {w : World} (hm : P.follows .mixedOrders = true) (D : List Nat) (V : List Value) (al st : Nat) (t : TypeId) (zs cs : Array Value)
    (hb : envAB l.toArray D al st = true) (hsz : a.tmps.size ≤ D.getD st 0) (hstD : st < D.length) {fin : Value → Act} (hfin : ∀ p, putAll a D (V.set al p) = fin p)
    (hstep : EnvASteps P l.toArray fin w t zs cs al st 0 l V) (hend : ∀ b w', Below w.heap.size w w' → w.heap.size ≤ b → Blk w' b t cs → Q .normal (fin (.pointer (some ⟨b, 0, none⟩))) w') : (Code.region id l.toArray true).wpIn F n P Q a w := by
  unfold envAB at hb
  simp only [Bool.and_eq_true, decide_eq_true_eq] at hb
  obtain ⟨⟨⟨hb, hal⟩, hne⟩, hedge⟩ := hb
  unfold envSB at hb
  rw [Bool.and_eq_true] at hb
  obtain ⟨hi, hb⟩ := hb
  have hi' := hi
  simp only [invB, Bool.and_eq_true, decide_eq_true_eq] at hi'
  obtain ⟨⟨-, hlen⟩, hnd⟩ := hi'
  have hV : V.length = D.length := by rw [envASteps_len hstep, hlen]; simp
  have halV : al < V.length := by rw [hV, hlen]; exact hal
  have hfinp : ∀ p, frameOf a D (valOf D (V.set al p)) = fin p := fun p => by
    rw [← hfin]
    exact putAll_eq D _ a _ (by rw [List.length_set]; exact hV) fun i hi => by unfold valOf; rw [idxOf_getD hnd hi]
  refine wpIn_inv hm D (EnvAI w D V t zs cs al st) hi (fun x => ⟨(Below.refl _ _).drew, undef, (fun i _ h => by cases h), (fun h => by cases h), fun _ => rfl⟩) ?_ ?_
  · have main : ∀ (i : Nat) (o : Oper), l[i]? = some o → StepI F n P l.toArray a D (EnvAI w D V t zs cs al st) i o := by
      intro k o hlk L x w1 R hI hsh hLk hr hR
      obtain ⟨hbw, p, hx, hblk, hord⟩ := hI
      have hkl : k < l.length := (List.getElem?_eq_some_iff.1 hlk).1
      have ho : l.toArray[k]? = some o := by simpa using hlk
      have hkD : k < D.length := by rw [hlen]; simpa using hkl
      have hst1 := envASteps_at hstep hlk
      rw [Nat.zero_add] at hst1
      have hb1 := List.all_eq_true.1 hb k (List.mem_range.2 (by simpa using hkl))
      rw [ho] at hb1
      simp only [Bool.and_eq_true] at hb1
      obtain ⟨⟨hop, hdst⟩, hlook⟩ := hb1
      have hndf : ∀ c, o.op ≠ .defer c := fun c hc => by rw [hc] at hop; cases hop
      have hnsl : ∀ cs b, o.op ≠ .select cs b := fun c b hc => by rw [hc] at hop; cases hop
      have hsame : ∀ s, s ∈ o.looksAt l.toArray → (frameOf a D x).tmps[s]? = (fin p).tmps[s]? := by
        intro s hs
        rw [← hfinp, frameOf_tmps, frameOf_tmps]
        by_cases hD : s ∈ D
        · have := List.all_eq_true.1 hlook s hs
          rw [Bool.or_eq_true] at this
          rcases this with h | h
          · simp [hD] at h
          · obtain ⟨j, hj, hj2⟩ := List.any_eq_true.1 h
            rw [Bool.and_eq_true] at hj2
            obtain ⟨hjs, hje⟩ := hj2
            have hjs : D.getD j 0 = s := by simpa using hjs
            have hjk := List.mem_range.1 hj
            have h1 := hx j (by omega) (hr j hje)
            rw [hjs] at h1
            have h2 : x s = valOf D (V.set al p) s := by
              have e : D.idxOf s = j := by rw [← hjs]; exact idxOf_getD hnd (by omega)
              unfold valOf
              rw [e]
              exact h1
            rw [h2]
        · simp [hD]
      have hev : ∀ y ∈ o.op.operands, (frameOf a D x).eval y = (fin p).eval y := by
        intro y hy
        cases y with
        | tmp s =>
          have h1 := hsame s (List.mem_append_left _ (List.mem_filterMap.2 ⟨.tmp s, by simpa using hy, rfl⟩))
          show (frameOf a D x).tmps.getD s undef = (fin p).tmps.getD s undef
          simp only [Array.getD_eq_getD_getElem?, h1]
        | _ => rfl
      have hex := execOp_congr (ρ := (frameOf a D x).eval) (ρ' := (fin p).eval) o hnsl hev
      have hwa : Region.wanted o (yielded l.toArray (frameOf a D x).tmps) = Region.wanted o (yielded l.toArray (fin p).tmps) := by
        unfold Region.wanted
        cases hg : o.guard with
        | none => rfl
        | some g =>
          obtain ⟨g, b⟩ := g
          dsimp only
          unfold yielded
          cases hd : (l.toArray[g]?).bind (·.dst) with
          | none => rfl
          | some d =>
            have h1 := hsame d (List.mem_append_right _ (by rw [hg]; show d ∈ ((l.toArray[g]?).bind (·.dst)).toList; rw [hd]; simp))
            simp only [Option.bind_some, h1]
      have hmem : D.getD k 0 ∈ D := by rw [List.getD_eq_getElem?_getD, List.getElem?_eq_getElem hkD]; exact List.getElem_mem hkD
      have hslot : ∀ i, i < D.length → i ≠ k → D.getD i 0 ≠ D.getD k 0 := fun i hiD hik e => by
        rw [List.getD_eq_getElem?_getD, List.getD_eq_getElem?_getD, List.getElem?_eq_getElem hiD, List.getElem?_eq_getElem hkD] at e
        simp only [Option.getD_some] at e
        have hpw := List.pairwise_iff_getElem.1 hnd
        rcases Nat.lt_or_ge i k with h | h
        · exact hpw i k hiD hkD h e
        · exact hpw k i hkD hiD (by omega) e.symm
      have hmore : ∀ i, i ≠ k → more L k i = L i := fun i hik => by unfold more; rw [decide_eq_false hik]; rfl
      have hmk : more L k k = true := by unfold more; simp
      unfold wpListIn
      rw [hwa]
      by_cases hka : k = al
      · subst hka
        rw [beq_self_eq_true] at hst1
        obtain ⟨h1, h2⟩ := hst1
        rw [if_pos (h1 p)]
        refine ⟨fun f _ => hF.fn f, ?_⟩
        rw [Oper.semAt_plain F _ o hndf, hex, h2 p w1 hbw, Oper.uponIn_value]
        rw [if_neg hne] at hdst
        have hdst : o.dst = some (D.getD k 0) := by simpa using hdst
        rw [hdst, frameOf_put D x a _ hmem]
        have hLs : L st = false := hord hLk
        refine hR _ _ ⟨hbw.alloc hbw.size _, .pointer (some ⟨w1.heap.size, 0, none⟩), fun i hiD hm => ?_, fun _ => ⟨_, rfl, hbw.size, ?_⟩, fun h => ?_⟩
        · rw [getD_setU _ halV]
          by_cases hik : i = k
          · subst hik; rw [upd_same, if_pos rfl]
          · rw [hmore i hik] at hm
            have h3 := hx i hiD hm
            rw [getD_setU _ halV, if_neg (fun e => hik e.symm)] at h3
            rw [upd_other x _ (hslot i hiD hik), if_neg (fun e => hik e.symm), h3]
        · rw [hmore st (fun e => hne e.symm), hLs, if_neg (by decide)]
          exact Blk.new w1 t zs
        · rw [hmk] at h; cases h
      · rw [show (k == al) = false by simpa using hka] at hst1
        have hma : more L k al = L al := hmore al (fun e => hka e.symm)
        by_cases hks : k = st
        · subst hks
          rw [beq_self_eq_true] at hst1
          obtain ⟨h1, h2⟩ := hst1
          have hLa : L al = true := by
            rw [ho] at hedge
            exact hr al hedge
          obtain ⟨b, rfl, hbb, hB⟩ := hblk hLa
          rw [hLk, if_neg (by decide)] at hB
          rw [if_pos (h1 _)]
          refine ⟨fun f _ => hF.fn f, ?_⟩
          obtain ⟨w', hrun, hfr, hB'⟩ := h2 b w1 hB
          rw [Oper.semAt_plain F _ o hndf, hex, hrun]
          rw [if_pos rfl] at hdst
          have hdn : o.dst = none := by simpa using hdst
          rw [Oper.uponIn_skip, hdn]
          have e : (frameOf a D x).put none undef = frameOf a D (upd x (D.getD k 0) (V.getD k undef)) := by
            show frameOf a D x = _
            have h1 : (frameOf a D x).tmps = (frameOf a D (upd x (D.getD k 0) (V.getD k undef))).tmps := by
              apply Array.ext_getElem?
              intro s
              rw [frameOf_tmps, frameOf_tmps]
              by_cases hs : s < a.tmps.size
              · rw [upd_other x _ (show s ≠ D.getD k 0 by omega)]
              · simp [hs]
            have h2 : (frameOf a D x).defers = (frameOf a D (upd x (D.getD k 0) (V.getD k undef))).defers := by rw [frameOf_defers, frameOf_defers]
            generalize frameOf a D x = p1 at h1 h2
            generalize frameOf a D (upd x (D.getD k 0) (V.getD k undef)) = q1 at h1 h2
            cases p1
            cases q1
            simp only at h1 h2
            subst h1 h2
            rfl
          rw [e]
          refine hR _ _ ⟨hbw.trans (hfr.below hbw.size (fun j hj e => by omega)), .pointer (some ⟨b, 0, none⟩), fun i hiD hm => ?_, fun _ => ⟨b, rfl, hbb, ?_⟩, fun h => ?_⟩
          · by_cases hik : i = k
            · subst hik; rw [upd_same, getD_setU _ halV, if_neg (fun e => hka e.symm)]
            · rw [hmore i hik] at hm
              rw [upd_other x _ (hslot i hiD hik)]
              exact hx i hiD hm
          · rw [hmk, if_pos rfl]; exact hB'
          · rw [hma, hLa] at h; cases h
        · rw [show (k == st) = false by simpa using hks] at hst1
          have hms : more L k st = L st := hmore st (fun e => hks e.symm)
          rw [if_neg hks] at hdst
          have hdst : o.dst = some (D.getD k 0) := by simpa using hdst
          have hput : ∀ v, (frameOf a D x).put o.dst v = frameOf a D (upd x (D.getD k 0) v) := fun v => by
            rw [hdst]
            exact frameOf_put D x a _ hmem v
          have hvk : (V.set al p).getD k undef = V.getD k undef := by rw [getD_setU _ halV, if_neg (fun e => hka e.symm)]
          have hnew : ∀ w', Below w1.heap.size w1 w' → EnvAI w D V t zs cs al st (more L k) (upd x (D.getD k 0) (V.getD k undef)) w' := fun w' hb' => by
            refine ⟨hbw.trans (hb'.mono hbw.size), p, fun i hiD hm => ?_, fun h => ?_, fun h => ?_⟩
            · by_cases hik : i = k
              · subst hik; rw [upd_same, hvk]
              · rw [hmore i hik] at hm
                rw [upd_other x _ (hslot i hiD hik)]
                exact hx i hiD hm
            · rw [hma] at h
              obtain ⟨b, hp, hbb, hB⟩ := hblk h
              refine ⟨b, hp, hbb, ?_⟩
              rw [hms]
              exact hB.below hb' hB.lt
            · rw [hma] at h; rw [hms]; exact hord h
          rcases hst1 p with ⟨h1, h2⟩ | ⟨h1, h2⟩
          · rw [if_neg (by rw [h1]; simp)]
            refine ⟨fun f _ => hF.fn f, ?_⟩
            rw [hput, ← h2]
            exact hR _ _ (hnew w1 (Below.refl _ _))
          · rw [if_pos h1]
            refine ⟨fun f _ => hF.fn f, ?_⟩
            rw [Oper.semAt_plain F _ o hndf, hex]
            have h3 := h2 w1 hbw
            generalize (execOp (fin p).eval o).run P w1 = r at h3
            cases r with
            | halt hh w' => exact h3.elim
            | ok nx w' =>
              cases nx with
              | value u =>
                obtain ⟨rfl, hb'⟩ := h3
                rw [Oper.uponIn_value, hput]
                exact hR _ _ (hnew w' hb')
              | enter f args =>
                obtain ⟨rfl, hc⟩ := h3
                rw [Oper.uponIn_enter]
                refine ⟨(fun h => by rw [hF.depth] at h; cases h), (hF.calls hc).mono ?_⟩
                rintro e w'' ⟨rfl, hb'⟩
                show wpListIn F n P l.toArray _ [] ((frameOf a D x).put o.dst (V.getD k undef)) w''
                rw [hput]
                exact hR _ _ (hnew w'' hb')
              | _ => exact h3.elim
    have all : ∀ (m : List Oper) (k : Nat), (∀ j, m[j]? = l[k + j]?) → StepsI F n P l.toArray a D (EnvAI w D V t zs cs al st) k m := by
      intro m
      induction m with
      | nil => intro k _; trivial
      | cons o m ih =>
        intro k hk
        exact ⟨main k o (by simpa using (hk 0).symm), ih (k + 1) fun j => by have := hk (j + 1); simpa [Nat.add_assoc, Nat.add_comm 1 j] using this⟩
    exact all l 0 fun j => by simp
  · rintro x w' L hL ⟨h1, p, h2, h3, -⟩
    obtain ⟨b, rfl, hbb, hB⟩ := h3 (hL al (by simpa using hal))
    rw [hL st (by omega), if_pos rfl] at hB
    have e : frameOf a D x = fin (.pointer (some ⟨b, 0, none⟩)) := by
      rw [← hfinp]
      refine frameOf_congr D _ _ a fun s hs => ?_
      obtain ⟨j, hj, rfl⟩ := List.getElem_of_mem hs
      have h4 := h2 j hj (hL j (by omega))
      rw [List.getD_eq_getElem?_getD, List.getElem?_eq_getElem hj] at h4
      have h4 : x D[j] = (V.set al (.pointer (some ⟨b, 0, none⟩))).getD j undef := h4
      unfold valOf
      rw [List.Nodup.idxOf_getElem hnd j hj]
      exact h4
    rw [e]
    exact hend b w' h1 hbb hB
/-- The same, in no fence. -/
theorem wp_envA {id : Nat} {l : List Oper} {Q : Exit → Act → World → Prop} {a : Act} {w : World} (hm : P.follows .mixedOrders = true) (D : List Nat) (V : List Value) (al st : Nat) (t : TypeId) (zs cs : Array Value)
    (hb : envAB l.toArray D al st = true) (hsz : a.tmps.size ≤ D.getD st 0) (hstD : st < D.length) {fin : Value → Act} (hfin : ∀ p, putAll a D (V.set al p) = fin p)
    (hstep : EnvASteps P l.toArray fin w t zs cs al st 0 l V) (hend : ∀ b w', Below w.heap.size w w' → w.heap.size ≤ b → Blk w' b t cs → Q .normal (fin (.pointer (some ⟨b, 0, none⟩))) w') : (Code.region id l.toArray true).wp P Q a w :=
  (wpIn_wide (n := 8)).1 (wpIn_envA wide0 hm D V al st t zs cs hb hsz hstD hfin hstep hend)
end
end Go.Proofs.YtonmmgcibpjahaaGreatDoor
end
