/-
  Layer 13's law: Rows, the firings of each era's rules, walked.
-/
import Derived.RangeFuncNested
import Derived.RangeFuncBound
import Derived.RangeFuncCalls
import Derived.RangeFuncLeaves
import Derived.RangeFuncFrom
import Derived.OwnWalkIn
import Derived.TacticsInMore
import Derived.LoopNIn
import Derived.LoopIn
import Derived.Test.YtonmmgcibpjahaaGreatDoorPt10
section
/- GZone: Layer 13's Check of any zone, walked. -/
namespace Go.Proofs.YtonmmgcibpjahaaGreatDoor
open Go Go.RowKit Go.Shelf
set_option maxRecDepth 100000

/-- What a walk of a zone's functions leans on. -/
structure ZW (W : World) (B : Nat) (ev sv : Value) (l : List EraF) (S : List SetF) : Prop where
  eras : ErasR W B ev l
  sets : SetsR W B sv S
  ahead : Ahead W
  tab : 0 < B
  maxl : Tryz.MaxL W
  le : B ≤ W.heap.size
theorem ZW.below {W W' : World} {B : Nat} {ev sv : Value} {l : List EraF} {S : List SetF} (h : ZW W B ev sv l S) (hb : Below W.heap.size W W') : ZW W' B ev sv l S :=
  ⟨h.eras.below (hb.mono h.le), h.sets.below (hb.mono h.le), h.ahead.below hb (Nat.le_refl _), h.tab, h.maxl.below hb (Nat.le_refl _), Nat.le_trans h.le hb.size⟩
/-- What is asked of a world's numbers (few gives it). -/
structure ZOk (l : List EraF) (S : List SetF) : Prop where
  fm : ∀ x ∈ l, x.fm.size < 4294967281
  rul : ∀ s ∈ S, RuOk s.l
  len : l.length ≤ 1000000
theorem ruok_nil : RuOk [] where
  yr := fun r hr => (by cases hr)
  sv := fun f hf => (by obtain ⟨r, hr, _⟩ := hf; cases hr)
  len := by decide
  mon := fun z hz => (by cases hz)
theorem ZOk.rule {l : List EraF} {S : List SetF} (h : ZOk l S) (x : EraF) : RuOk (ruleE S x) := by
  unfold ruleE ofRul
  split
  · exact ruok_nil
  · cases hs : ofS S x.ru with
    | none => exact ruok_nil
    | some s => exact h.rul s (List.mem_of_find?_eq_some hs)
def zoneA (zn : ByteArray) (ev : Value) : Value := .agg #[.string zn, ev]
set_option maxHeartbeats 4000000 in
theorem zcheckZ_any (zn : ByteArray) (ev sv : Value) (B : Nat) (l : List EraF) (S : List SetF) (w : World) (hz : ZW w B ev sv l S) (ho : ZOk l S) :
    Calls Tryz.prog 16 #[zoneA zn ev, setsV zn ev sv] w fun o w' => o = .returned (.int .i64 (errZ S l)) ∧ Below w.heap.size w w' := by
  obtain ⟨A, cA, rfl, hlc, hcm⟩ := hz.eras.form
  unfold maxLen at hcm
  have heq := fun (w : World) => run_eql_func_nil w 111 (.func 17) #[worldA zn (.slice A l.length cA) sv] #[] Tryz.underlying111
  have hb0 : Below w.heap.size w (w.alloc (.cells #[.string zn, .slice A l.length cA] 24)) := (Below.refl w.heap.size w).alloc (Nat.le_refl _) _
  have HX := Lib.hid (Blk.new w 24 #[.string zn, .slice A l.length cA])
  have HZ := Lib.hid (hz.below hb0)
  have HB := Lib.hid hb0
  have HO := Lib.hid ho
  clear hz hb0 ho
  unfold setsV zoneA
  unfold worldA at heq ⊢
  by_cases hl0 : l.length = 0
  · have HV := Lib.hid (errZ_none (S := S) hl0)
    have hd0 : ((l.length : Int) == 0) = true := by simpa using hl0
    clear hl0
    go_enter Tryz.func16, Tryz.ntmps16
    go_wp2_with fail
    go_ret
    exact ⟨by rw [HV.out]; rfl, HB.out⟩
  · have hd0 : ((l.length : Int) == 0) = false := by simpa using hl0
    have HL0 := Lib.hid hl0
    clear hl0
    go_enter Tryz.func16, Tryz.ntmps16
    go_wp2_with fail
    obtain ⟨W0, hW0⟩ : ∃ W, w.alloc (.cells #[.string zn, .slice A l.length cA] 24) = W := ⟨_, rfl⟩
    rw [hW0] at HX HZ HB
    try simp only [hW0]
    clear hW0
    go_loopw [27] (fun iv wr => ∃ k : Nat, k ≤ l.length ∧ iv = .int .i64 k ∧ (∀ i (h : i < l.length), i < k → missB S l[i] = false) ∧ Below w.heap.size w wr ∧ Below W0.heap.size W0 wr) (fun iv _ => l.length - (intOf iv).toNat)
    case atStart => exact ⟨0, Nat.zero_le _, rfl, fun i _ h => absurd h (by omega), HB.out, Below.refl _ _⟩
    case round =>
      obtain ⟨k, hk, rfl, hno, hbw, hbi⟩ := hrel
      have HNO := Lib.hid hno
      have HBW := Lib.hid hbw
      have HBI := Lib.hid hbi
      have HXW := Lib.hid (HX.out.below hbi HX.out.lt)
      have hws := hbw.size
      have hxl := HXW.out.lt
      have x1 := HXW.out.cell 1 (v := .slice A l.length cA) rfl
      have HZW := Lib.hid (HZ.out.below hbi)
      clear hno hbw hbi
      by_cases hlt : k < l.length
      · have hd : decide ((k : Int) < (l.length : Int)) = true := decide_eq_true (by omega)
        obtain ⟨bb, o, c', e, hbb, hc⟩ := HZW.out.eras.cells (by omega)
        cases e
        have hx := hc k hlt
        obtain ⟨x, hxk⟩ : ∃ x, l[k] = x := ⟨_, rfl⟩
        rw [hxk] at hx
        have HXK := Lib.hid hxk
        obtain ⟨c0, c1, c2, c3, c4, c5, c6, c7, c8, c9, c10, c11⟩ := hx
        have hb2 := HBW.out.alloc hws (.cells (eraC x.n x.ru x.fm x.en) 54)
        have hbi2 := HBI.out.alloc HBI.out.size (.cells (eraC x.n x.ru x.fm x.en) 54)
        have HZ2 := Lib.hid (HZ.out.below hbi2)
        unfold eraC at hb2 hbi2 HZ2
        have HB2 := Lib.hid hb2
        have HBI2 := Lib.hid hbi2
        clear hc hxk hb2 hbi2
        by_cases hru : x.ru.size = 0
        · have hem : (x.ru.toList == []) = true := by rw [emp_size, decide_eq_true hru]
          have HM := Lib.hid (show missB S x = false by unfold missB; rw [decide_eq_false (by simpa using hru)]; rfl)
          clear hru
          go_wp2_with fail
          go_roundw
          case rel =>
            refine ⟨k + 1, by omega, by go_num, fun i h hik => ?_, HB2.out, HBI2.out⟩
            rcases Nat.lt_or_ge i k with g | g
            · exact HNO.out i h g
            · obtain rfl : i = k := by omega
              rw [HXK.out]; exact HM.out
          case measure => simp [intOf]; omega
        · have hem : (x.ru.toList == []) = false := by rw [emp_size, decide_eq_false hru]
          obtain ⟨A3, c3', e3⟩ := ofVal_form HZ2.out.sets x.ru
          have HOF := Lib.hid (wof_any _ zn (.slice (some ⟨bb, o, none⟩) l.length cA) sv B S HZ2.out.sets HZ2.out.le x.ru)
          rw [e3] at HOF
          unfold worldA at HOF
          have HM := Lib.hid (show missB S x = decide ((ofRul S x.ru).length = 0) by unfold missB; rw [decide_eq_true hru]; rfl)
          clear hru e3
          generalize ofRul S x.ru = R at *
          by_cases hR : R.length = 0
          · have hd3 : ((R.length : Int) == 0) = true := by simpa using hR
            have HV := Lib.hid (errZ_miss hlt (show missB S l[k] = true by rw [HXK.out, HM.out, decide_eq_true hR]))
            clear hR
            go_wp2_with fail
            refine HOF.out.mono ?_
            rintro o w2 ⟨rfl, hb⟩
            have HB3 := Lib.hid (HB2.out.trans (hb.mono HB2.out.size))
            clear hb
            go_wp2_with fail
            go_ret
            exact ⟨by rw [HV.out]; rfl, HB3.out⟩
          · have hd3 : ((R.length : Int) == 0) = false := by simpa using hR
            rw [decide_eq_false hR] at HM
            clear hR
            go_wp2_with fail
            refine HOF.out.mono ?_
            rintro o w2 ⟨rfl, hb⟩
            have HB3 := Lib.hid (HB2.out.trans (hb.mono HB2.out.size))
            have HBI3 := Lib.hid (HBI2.out.trans (hb.mono HBI2.out.size))
            clear hb
            go_wp2_with fail
            go_roundw
            case rel =>
              refine ⟨k + 1, by omega, by go_num, fun i h hik => ?_, HB3.out, HBI3.out⟩
              rcases Nat.lt_or_ge i k with g | g
              · exact HNO.out i h g
              · obtain rfl : i = k := by omega
                rw [HXK.out]; exact HM.out
            case measure => simp [intOf]; omega
      · obtain rfl : k = l.length := by omega
        have hd : decide ((l.length : Int) < (l.length : Int)) = false := decide_eq_false (by omega)
        obtain ⟨w1, hw1⟩ : ∃ x, x = wr := ⟨_, rfl⟩
        subst hw1
        have HTH := Lib.hid (errZ_there HL0.out (fun i hi => HNO.out i hi hi))
        clear HNO hk
        go_wp2_with fail
        go_loopw [46] (fun iv W2 => ∃ k : Nat, k ≤ l.length ∧ iv = .int .i64 k ∧ (∀ i, i < k → errAt l i = 0) ∧ Below w1.heap.size w1 W2) (fun iv _ => l.length - (intOf iv).toNat)
        case atStart => exact ⟨0, Nat.zero_le _, rfl, fun i h => absurd h (by omega), Below.refl _ _⟩
        case round =>
          obtain ⟨k, hk, rfl, hno, hbi⟩ := hrel
          have HNO := Lib.hid hno
          have HBI := Lib.hid hbi
          have HX2 := Lib.hid (HXW.out.below hbi HXW.out.lt)
          have hws2 := hbi.size
          have hxl2 := HX2.out.lt
          have x1 := HX2.out.cell 1 (v := .slice A l.length cA) rfl
          have HZ2 := Lib.hid (HZW.out.below hbi)
          have HBW2 := Lib.hid (HBW.out.trans (hbi.mono hws))
          clear hno hbi
          by_cases hlt : k < l.length
          · have hd : decide ((k : Int) < (l.length : Int)) = true := decide_eq_true (by omega)
            obtain ⟨bb, o, c', e, hbb, hc⟩ := HZ2.out.eras.cells (by omega)
            cases e
            have hx := hc k hlt
            have hfm := HO.out.fm _ (List.getElem_mem hlt)
            have hat := errAt_eq hlt
            obtain ⟨x, hxk⟩ : ∃ x, l[k] = x := ⟨_, rfl⟩
            rw [hxk] at hx hfm hat
            obtain ⟨c0, c1, c2, c3, c4, c5, c6, c7, c8, c9, c10, c11⟩ := hx
            obtain ⟨la, hla⟩ : ∃ b, decide (k + 1 = l.length) = b := ⟨_, rfl⟩
            have hlast : ((k : Int) == (l.length : Int) - 1) = la := by
              rw [← hla]
              by_cases h : k + 1 = l.length
              · rw [decide_eq_true h]; exact beq_iff_eq.2 (by omega)
              · rw [decide_eq_false h]; exact beq_eq_false_iff_ne.2 (by omega)
            rw [hla] at hat
            have HAT := Lib.hid hat
            have hb2 := HBW2.out.alloc HBW2.out.size (.cells (eraC x.n x.ru x.fm x.en) 54)
            have hbi2 := HBI.out.alloc hws2 (.cells (eraC x.n x.ru x.fm x.en) 54)
            have HZ3 := Lib.hid (HZ2.out.below ((Below.refl wr.heap.size wr).alloc (Nat.le_refl _) (.cells (eraC x.n x.ru x.fm x.en) 54)))
            have HC := Lib.hid (zcheck_any x la _ hfm HZ3.out.maxl HZ3.out.ahead)
            unfold eraC at hb2 hbi2 HZ3 HC
            unfold eraA at HC
            have HB3 := Lib.hid hb2
            have HBI3 := Lib.hid hbi2
            clear hc hxk hla hat hb2 hbi2 hfm
            obtain ⟨E, hE⟩ : ∃ e, errE x la = e := ⟨_, rfl⟩
            rw [hE] at HC HAT
            clear hE
            by_cases hE0 : E = 0
            · subst hE0
              go_wp2_with fail
              refine HC.out.mono ?_
              rintro o w3 ⟨rfl, hb⟩
              have HBI4 := Lib.hid (HBI3.out.trans (hb.mono HBI3.out.size))
              clear hb
              go_wp2_with fail
              go_roundw
              case rel =>
                refine ⟨k + 1, by omega, by go_num, fun i hik => ?_, HBI4.out⟩
                rcases Nat.lt_or_ge i k with g | g
                · exact HNO.out i g
                · obtain rfl : i = k := by omega
                  exact HAT.out
              case measure => simp [intOf]; omega
            · have he0 : (E != 0) = true := by simpa using hE0
              have HV := Lib.hid (show errZ S l = E by
                have h := errsF_at hlt (fun i hi => HNO.out i hi) (by rw [HAT.out]; exact hE0)
                rw [HTH.out, if_pos (by rw [h, HAT.out]; exact hE0), h, HAT.out])
              clear hE0
              go_wp2_with fail
              refine HC.out.mono ?_
              rintro o w3 ⟨rfl, hb⟩
              have HB4 := Lib.hid (HB3.out.trans (hb.mono HB3.out.size))
              clear hb
              go_wp2_with fail
              go_ret
              exact ⟨by rw [HV.out]; rfl, HB4.out⟩
          · obtain rfl : k = l.length := by omega
            obtain ⟨w2, hw2⟩ : ∃ x, x = wr := ⟨_, rfl⟩
            subst hw2
            have HERR := Lib.hid (show ∀ i, i < l.length → errAt l i = 0 from fun i hi => HNO.out i hi)
            have HTH2 := Lib.hid (show errZ S l = if riseB (endL S l) then 0 else 17 by rw [HTH.out, errsF_none HERR.out]; rfl)
            clear HNO hk HTH
            have hl1 : 0 < l.length := by have := HL0.out; omega
            have hsub : wrap64 ((l.length : Int) - 1) = (l.length : Int) - 1 := IntWalk.wrap64_in _ (by omega)
            go_wp2_with fail
            go_loopw [10, 11, 71] (fun lv fv iv W3 => ∃ k : Nat, k ≤ l.length - 1 ∧ iv = .int .i64 k ∧ (k = 0 ∧ lv = .int .i64 0 ∧ fv = .bool true ∨ ∃ q, k = q + 1 ∧ lv = .int .i64 ((endL S l).getD q 0) ∧ fv = .bool false) ∧ (∀ i, i + 1 < k → (endL S l).getD i 0 < (endL S l).getD (i + 1) 0) ∧ Below w2.heap.size w2 W3) (fun _ _ iv _ => l.length - (intOf iv).toNat)
            case atStart => exact ⟨0, Nat.zero_le _, rfl, .inl ⟨rfl, rfl, rfl⟩, fun i h => absurd h (by omega), Below.refl _ _⟩
            case round =>
              obtain ⟨k, hk, rfl, hlf, hno, hbi⟩ := hrel
              have HNO := Lib.hid hno
              have HBI3 := Lib.hid hbi
              have HX3 := Lib.hid (HX2.out.below hbi HX2.out.lt)
              have hws3 := hbi.size
              have HZ3 := Lib.hid (HZ2.out.below hbi)
              have HBW3 := Lib.hid (HBW2.out.trans (hbi.mono HBW2.out.size))
              clear hno hbi
              by_cases hlt : k < l.length - 1
              · have hd : decide ((k : Int) < ((l.length - 1 : Nat) : Int)) = true := decide_eq_true (by omega)
                have hlk : k < l.length := by omega
                obtain ⟨bb, o, c', e, hbb, hc⟩ := HZ3.out.eras.cells (by omega)
                cases e
                have hx := hc k hlk
                have her := HERR.out k hlk
                rw [errAt_eq hlk, decide_eq_false (by omega)] at her
                have hen := endL_get (S := S) (l := l) (i := k) (by omega)
                obtain ⟨x, hxk⟩ : ∃ x, l[k] = x := ⟨_, rfl⟩
                rw [hxk] at hx her hen
                obtain ⟨-, hof, hsf, hee, -, hnb⟩ := errE_zero her
                have hee2 : x.en = true := hee
                have hV : endV x.n x.ru x.en (ruleE S x) = ((endL S l).getD k 0, 0) := by
                  unfold endV
                  rw [hee2, hnb hee2, hen]
                  rfl
                obtain ⟨c0, c1, c2, c3, c4, c5, c6, c7, c8, c9, c10, c11⟩ := hx
                have hb3 := HBW3.out.alloc HBW3.out.size (.cells (eraC x.n x.ru x.fm x.en) 54)
                have hbi3 := HBI3.out.alloc hws3 (.cells (eraC x.n x.ru x.fm x.en) 54)
                have HZ4 := Lib.hid (HZ3.out.below ((Below.refl wr.heap.size wr).alloc (Nat.le_refl _) (.cells (eraC x.n x.ru x.fm x.en) 54)))
                have HE4 := Lib.hid (Blk.new wr 54 (eraC x.n x.ru x.fm x.en))
                have HOF := Lib.hid (fun (W : World) (h : ZW W B (.slice (some ⟨bb, o, none⟩) l.length cA) sv l S) => zof_any W zn (.slice (some ⟨bb, o, none⟩) l.length cA) sv B S h.sets h.le x)
                have HEN := Lib.hid (fun (W : World) (h : ZW W B (.slice (some ⟨bb, o, none⟩) l.length cA) sv l S) => zend_any W x.n x.ru x.fm x.en B (rvalE S x) (ruleE S x) ⟨h.sets.rule x, h.ahead, h.tab, h.le⟩ (HO.out.rule x) (by omega) (by omega))
                obtain ⟨ek, hek⟩ : ∃ z, (endL S l).getD k 0 = z := ⟨_, rfl⟩
                have HEK := Lib.hid hek
                rw [hek] at hV
                rw [hV] at HEN
                obtain ⟨A3, c3', e3⟩ := rvalE_form HZ4.out.sets x
                rw [e3] at HOF HEN
                unfold setsV worldA eraA at HOF
                unfold eraA at HEN
                unfold eraC at hb3 hbi3 HZ4 HE4
                have HB4 := Lib.hid hb3
                have HBI4 := Lib.hid hbi3
                clear hc hxk hb3 hbi3 her hen hV hek hof hsf hee hee2 hnb
                have hfl : ∃ (f : Bool) (n : Int), u11 = .bool f ∧ u10 = .int .i64 n ∧ (f = true ∧ k = 0 ∨ f = false ∧ ∃ q, k = q + 1 ∧ n = (endL S l).getD q 0) := by
                  rcases hlf with ⟨h0, h1, h2⟩ | ⟨q, h0, h1, h2⟩
                  · exact ⟨_, _, h2, h1, .inl ⟨rfl, h0⟩⟩
                  · exact ⟨_, _, h2, h1, .inr ⟨rfl, q, h0, rfl⟩⟩
                obtain ⟨fv, lv, rfl, rfl, hfk⟩ := hfl
                have HFK := Lib.hid hfk
                clear hlf hfk
                go_wp2_with fail
                obtain ⟨W3, hW3⟩ : ∃ W, wr.alloc (.cells #[.int .i64 x.n.off, .string x.ru, .int .i64 x.n.save, .string x.fm, .bool x.en, .int .i64 x.n.year, .int .i64 x.n.month, .int .i64 x.n.dk, .int .i64 x.n.dw, .int .i64 x.n.dn, .int .i64 x.n.sec, .int .i64 x.n.ak] 54) = W := ⟨_, rfl⟩
                rw [hW3] at HB4 HBI4 HZ4 HE4
                try simp only [hW3]
                clear hW3
                refine wp_env (fin := ?fna) (by kernel_rfl) [76, 77, 78, 79, 80, 75, 81, 82, 14, 15]
                  [.agg #[.int .i64 x.n.off, .string x.ru, .int .i64 x.n.save, .string x.fm, .bool x.en, .int .i64 x.n.year, .int .i64 x.n.month, .int .i64 x.n.dk, .int .i64 x.n.dw, .int .i64 x.n.dn, .int .i64 x.n.sec, .int .i64 x.n.ak], .func (.func 17) #[.agg #[.string zn, .slice (some ⟨bb, o, none⟩) l.length cA, sv]] #[], .agg #[.int .i64 x.n.off, .string x.ru, .int .i64 x.n.save, .string x.fm, .bool x.en, .int .i64 x.n.year, .int .i64 x.n.month, .int .i64 x.n.dk, .int .i64 x.n.dw, .int .i64 x.n.dn, .int .i64 x.n.sec, .int .i64 x.n.ak], .slice A3 (ruleE S x).length c3', .tuple #[.int .i64 ek, .int .i64 0], .tuple #[.int .i64 ek, .int .i64 0], .int .i64 ek, .int .i64 0, .int .i64 ek, .int .i64 0] (by kernel_rfl) ?fina ?stepsa ?nexta
                case fina =>
                  simp only [putAll, Act.put, List.setIfInBounds_toArray, List.set_cons_succ, List.set_cons_zero]
                  rfl
                case stepsa =>
                  refine ⟨.inr ⟨by kernel_rfl, fun w1_ hB_ => ?_⟩, .inr ⟨by kernel_rfl, fun w1_ hB_ => ?_⟩, .inr ⟨by kernel_rfl, fun w1_ hB_ => ?_⟩, .inr ⟨by kernel_rfl, fun w1_ hB_ => ?_⟩, .inr ⟨by kernel_rfl, fun w1_ hB_ => ?_⟩, .inr ⟨by kernel_rfl, fun w1_ hB_ => ?_⟩, .inr ⟨by kernel_rfl, fun w1_ hB_ => ?_⟩, .inr ⟨by kernel_rfl, fun w1_ hB_ => ?_⟩, .inr ⟨by kernel_rfl, fun w1_ hB_ => ?_⟩, .inr ⟨by kernel_rfl, fun w1_ hB_ => ?_⟩, trivial⟩
                  all_goals
                    have hc := HE4.out.below hB_ HE4.out.lt
                    have hz := HZ4.out.below hB_
                    have c0 := hc.cell 0 (v := .int .i64 x.n.off) rfl
                    have c1 := hc.cell 1 (v := .string x.ru) rfl
                    have c2 := hc.cell 2 (v := .int .i64 x.n.save) rfl
                    have c3 := hc.cell 3 (v := .string x.fm) rfl
                    have c4 := hc.cell 4 (v := .bool x.en) rfl
                    have c5 := hc.cell 5 (v := .int .i64 x.n.year) rfl
                    have c6 := hc.cell 6 (v := .int .i64 x.n.month) rfl
                    have c7 := hc.cell 7 (v := .int .i64 x.n.dk) rfl
                    have c8 := hc.cell 8 (v := .int .i64 x.n.dw) rfl
                    have c9 := hc.cell 9 (v := .int .i64 x.n.dn) rfl
                    have c10 := hc.cell 10 (v := .int .i64 x.n.sec) rfl
                    have c11 := hc.cell 11 (v := .int .i64 x.n.ak) rfl
                    go_simp
                    first
                      | exact ⟨rfl, Below.refl _ _⟩
                      | exact ⟨rfl, HOF.out w1_ hz⟩
                      | exact ⟨rfl, HEN.out w1_ hz⟩
                      | (rw [decide_eq_true (by omega)]; exact ⟨rfl, Below.refl _ _⟩)
                      | (rw [decide_eq_false (by omega)]; exact ⟨rfl, Below.refl _ _⟩)
                      | (rw [if_pos (by omega)]; exact ⟨rfl, Below.refl _ _⟩)
                      | (rw [IntWalk.i64_in _ (by omega)]; exact ⟨rfl, Below.refl _ _⟩)
                      | done
                case nexta =>
                intro w4 hb4
                have HB5 := Lib.hid (HB4.out.trans (hb4.mono HB4.out.size))
                have HBI5 := Lib.hid (HBI4.out.trans (hb4.mono HBI4.out.size))
                clear hb4
                rcases HFK.out with ⟨rfl, hk0⟩ | ⟨rfl, q, hkq, hlv⟩
                · go_wp2_with fail
                  go_roundw
                  case rel => exact ⟨k + 1, by omega, by go_num, .inr ⟨k, rfl, by rw [HEK.out], rfl⟩, fun i hi => absurd hi (by omega), HBI5.out⟩
                  case measure => simp [intOf]; omega
                · have HKQ := Lib.hid hkq
                  have HLV := Lib.hid hlv
                  clear hkq hlv
                  by_cases hle : ek ≤ lv
                  · have hdl : decide (ek ≤ lv) = true := decide_eq_true hle
                    have HV := Lib.hid (show errZ S l = 17 by
                      rw [HTH2.out, riseB_no (i := q) (by rw [length_endL]; have := HKQ.out; omega) (by rw [← HKQ.out, HEK.out, ← HLV.out]; exact hle)]
                      rfl)
                    clear hle
                    go_wp2_with fail
                    go_ret
                    exact ⟨by rw [HV.out]; rfl, HB5.out⟩
                  · have hdl : decide (ek ≤ lv) = false := decide_eq_false hle
                    have HLT := Lib.hid (show (endL S l).getD q 0 < (endL S l).getD k 0 by rw [HEK.out, ← HLV.out]; omega)
                    clear hle
                    go_wp2_with fail
                    go_roundw
                    case rel =>
                      refine ⟨k + 1, by omega, by go_num, .inr ⟨k, rfl, by rw [HEK.out], rfl⟩, fun i hi => ?_, HBI5.out⟩
                      rcases Nat.lt_or_ge (i + 1) k with g | g
                      · exact HNO.out i g
                      · have := HKQ.out
                        obtain rfl : i = q := by omega
                        rw [← HKQ.out]; exact HLT.out
                    case measure => simp [intOf]; omega
              · obtain rfl : k = l.length - 1 := by omega
                have hd : decide (((l.length - 1 : Nat) : Int) < ((l.length - 1 : Nat) : Int)) = false := decide_eq_false (by omega)
                have HV := Lib.hid (show errZ S l = 0 by
                  rw [HTH2.out, riseB_iff.2 (fun i hi => HNO.out i (by rw [length_endL] at hi; omega))]
                  rfl)
                have hlf2 : ∃ a b, u10 = a ∧ u11 = b := ⟨_, _, rfl, rfl⟩
                clear hlf hlt hk
                go_wp2_with fail
                go_ret
                exact ⟨by rw [HV.out]; rfl, HBW3.out⟩
end Go.Proofs.YtonmmgcibpjahaaGreatDoor
end

section
/- GEnds: Layer 13's Ends and Era of any zone, walked. -/
namespace Go.Proofs.YtonmmgcibpjahaaGreatDoor
open Go Go.RowKit Go.Shelf
set_option maxRecDepth 100000

def intsV (l : List Int) : List Value := l.map fun n => .int .i64 n
theorem intsV_append (l m : List Int) : intsV (l ++ m) = intsV l ++ intsV m := by simp [intsV]
theorem intsV_at (l : List Int) (j : Nat) (h : j < l.length) : (intsV l)[j]? = some (.int .i64 l[j]) := by simp [intsV, h]
theorem infoInt : (Tryz.prog.info? 3).map (fun i => (i.zero, i.size, i.bytes)) = some (some (.int .i64 0), 1, 8) := by kernel_rfl
/-- A slice of numbers. -/
def Nums (w : World) (B : Nat) (v : Value) (l : List Int) : Prop := Sl w B 1 v l.length (intsV l)
theorem Nums.below {w w' : World} {B : Nat} {v : Value} {l : List Int} (h : Nums w B v l) (hb : Below B w w') : Nums w' B v l := Sl.below h hb
theorem Nums.form {w : World} {B : Nat} {v : Value} {l : List Int} (h : Nums w B v l) : ∃ A c, v = .slice A l.length c ∧ l.length ≤ c ∧ c ≤ maxLen := by obtain ⟨A, c, e, h1, h2, _⟩ := h; exact ⟨A, c, e, h1, h2⟩
theorem Nums.cells {w : World} {B : Nat} {v : Value} {l : List Int} (h : Nums w B v l) (hl : 0 < l.length) : ∃ b o c, v = .slice (some ⟨b, o, none⟩) l.length c ∧ b < B ∧ ∀ i (hi : i < l.length), w.cell? ⟨b, o + i, none⟩ = some (.int .i64 l[i]) := by
  obtain ⟨b, o, c, e, hb, hc⟩ := Sl.at_ h hl
  exact ⟨b, o, c, e, hb, fun i hi => hc i _ (intsV_at l i hi)⟩
/-- What Ends answers. -/
def EndsPost (w : World) (S : List SetF) (l : List EraF) (o : Ending) (w' : World) : Prop :=
  (∃ v, o = .returned (.tuple #[v, .int .i64 (errZ S l)]) ∧ (errZ S l = 0 → w'.ownsRow w.heap.size 3 1 v (endL S l).length (intsV (endL S l))) ∧ (errZ S l ≠ 0 → v = .slice none 0 0)) ∧ Below w.heap.size w w'
set_option maxHeartbeats 4000000 in
theorem zends_any (zn : ByteArray) (ev sv : Value) (B : Nat) (l : List EraF) (S : List SetF) (w : World) (hz : ZW w B ev sv l S) (ho : ZOk l S) :
    Calls Tryz.prog 18 #[zoneA zn ev, setsV zn ev sv] w (EndsPost w S l) := by
  obtain ⟨A, cA, rfl, hlc, hcm⟩ := hz.eras.form
  unfold maxLen at hcm
  have hb0 : Below w.heap.size w (w.alloc (.cells #[.string zn, .slice A l.length cA] 24)) := (Below.refl w.heap.size w).alloc (Nat.le_refl _) _
  have HX := Lib.hid (Blk.new w 24 #[.string zn, .slice A l.length cA])
  have HZ := Lib.hid (hz.below hb0)
  have HB := Lib.hid hb0
  have HO := Lib.hid ho
  have HZ0 := Lib.hid hz
  have HC := Lib.hid (zcheckZ_any zn (.slice A l.length cA) sv B l S _ HZ.out ho)
  obtain ⟨i0, hi, hz0, hz1, hz2⟩ := info_parts infoInt
  clear hz hb0 ho
  obtain ⟨E, hE⟩ : ∃ e, errZ S l = e := ⟨_, rfl⟩
  rw [hE] at HC
  have HE := Lib.hid hE
  unfold setsV zoneA worldA at HC ⊢
  clear hE
  by_cases hE0 : E = 0
  · subst hE0
    obtain ⟨hl0, -, hat, -⟩ := errZ_zero HE.out
    have HERR := Lib.hid hat
    have hl1 : 0 < l.length := by omega
    have hsub : wrap64 ((l.length : Int) - 1) = (l.length : Int) - 1 := IntWalk.wrap64_in _ (by omega)
    clear hat hl0
    go_enter Tryz.func18, Tryz.ntmps18
    go_wp2_with fail
    refine HC.out.mono ?_
    rintro o w1 ⟨rfl, hb⟩
    have HX1 := Lib.hid (HX.out.below hb HX.out.lt)
    have HB1 := Lib.hid (HB.out.trans (hb.mono HB.out.size))
    have x1 := HX1.out.cell 1 (v := .slice A l.length cA) rfl
    have hxl := HX1.out.lt
    clear hb HC HX HB HZ
    go_wp2_with fail
    go_loopw [7, 26] (fun u iv wr => ∃ k : Nat, k ≤ l.length - 1 ∧ iv = .int .i64 k ∧ wr.ownsRow w.heap.size 3 1 u ((endL S l).take k).length (intsV ((endL S l).take k)) ∧ Below w.heap.size w wr) (fun _ iv _ => l.length - (intOf iv).toNat)
    case atStart => exact ⟨0, Nat.zero_le _, rfl, World.ownsRow_nil _ _ _ _, HB1.out⟩
    case round =>
      obtain ⟨k, hk, rfl, hown, hbw⟩ := hrel
      have HOW := Lib.hid hown
      have HBW := Lib.hid hbw
      have HZ2 := Lib.hid (HZ0.out.below hbw)
      obtain ⟨A5, c5, hu⟩ := (Sl.of_own hown).form
      have hlen : ((endL S l).take k).length = k := by rw [List.length_take, length_endL]; omega
      rw [hlen] at HOW hu
      subst hu
      have HLEN := Lib.hid hlen
      clear hown hbw hlen
      by_cases hlt : k < l.length - 1
      · have hd : decide ((k : Int) < ((l.length - 1 : Nat) : Int)) = true := decide_eq_true (by omega)
        have hlk : k < l.length := by omega
        obtain ⟨bb, o, c', e, hbb, hc⟩ := HZ2.out.eras.cells (by omega)
        cases e
        have hx := hc k hlk
        have her := HERR.out k hlk
        rw [errAt_eq hlk, decide_eq_false (by omega)] at her
        have hen := endL_get (S := S) (l := l) (i := k) (by omega)
        have htk : (endL S l).take (k + 1) = (endL S l).take k ++ [(endL S l).getD k 0] := by
          have h9 : k < (endL S l).length := by rw [length_endL]; omega
          rw [List.take_succ_eq_append_getElem h9, List.getD_eq_getElem?_getD, List.getElem?_eq_getElem h9]
          rfl
        obtain ⟨x, hxk⟩ : ∃ x, l[k] = x := ⟨_, rfl⟩
        rw [hxk] at hx her hen
        obtain ⟨-, hof, hsf, hee, -, hnb⟩ := errE_zero her
        have hee2 : x.en = true := hee
        have hV : endV x.n x.ru x.en (ruleE S x) = ((endL S l).getD k 0, 0) := by
          unfold endV
          rw [hee2, hnb hee2, hen]
          rfl
        obtain ⟨c0, c1, c2, c3, c4, c5, c6, c7, c8, c9, c10, c11⟩ := hx
        have hb3 := HBW.out.alloc HBW.out.size (.cells (eraC x.n x.ru x.fm x.en) 54)
        have HZ4 := Lib.hid (HZ0.out.below hb3)
        have HE4 := Lib.hid (Blk.new wr 54 (eraC x.n x.ru x.fm x.en))
        have HOW4 := Lib.hid (HOW.out.alloc (.cells (eraC x.n x.ru x.fm x.en) 54))
        have HOF := Lib.hid (fun (W : World) (h : ZW W B (.slice (some ⟨bb, o, none⟩) l.length cA) sv l S) => zof_any W zn (.slice (some ⟨bb, o, none⟩) l.length cA) sv B S h.sets h.le x)
        have HEN := Lib.hid (fun (W : World) (h : ZW W B (.slice (some ⟨bb, o, none⟩) l.length cA) sv l S) => zend_any W x.n x.ru x.fm x.en B (rvalE S x) (ruleE S x) ⟨h.sets.rule x, h.ahead, h.tab, h.le⟩ (HO.out.rule x) (by omega) (by omega))
        obtain ⟨ek, hek⟩ : ∃ z, (endL S l).getD k 0 = z := ⟨_, rfl⟩
        rw [hek] at hV htk
        rw [hV] at HEN
        have HTK := Lib.hid htk
        obtain ⟨A3, c3', e3⟩ := rvalE_form HZ4.out.sets x
        rw [e3] at HOF HEN
        unfold setsV worldA eraA at HOF
        unfold eraA at HEN
        unfold eraC at hb3 HZ4 HE4 HOW4
        have HB4 := Lib.hid hb3
        have hul := HOW.out.lt
        clear hc hxk hb3 her hen hV hek hof hsf hee hee2 hnb htk
        go_wp2_with fail
        obtain ⟨W3, hW3⟩ : ∃ W, wr.alloc (.cells #[.int .i64 x.n.off, .string x.ru, .int .i64 x.n.save, .string x.fm, .bool x.en, .int .i64 x.n.year, .int .i64 x.n.month, .int .i64 x.n.dk, .int .i64 x.n.dw, .int .i64 x.n.dn, .int .i64 x.n.sec, .int .i64 x.n.ak] 54) = W := ⟨_, rfl⟩
        rw [hW3] at HB4 HZ4 HE4 HOW4
        try simp only [hW3]
        clear hW3
        refine wp_env (fin := ?fna) (by kernel_rfl) [31, 32, 33, 34, 35, 30, 36, 37, 10, 11]
          [.agg #[.int .i64 x.n.off, .string x.ru, .int .i64 x.n.save, .string x.fm, .bool x.en, .int .i64 x.n.year, .int .i64 x.n.month, .int .i64 x.n.dk, .int .i64 x.n.dw, .int .i64 x.n.dn, .int .i64 x.n.sec, .int .i64 x.n.ak], .func (.func 17) #[.agg #[.string zn, .slice (some ⟨bb, o, none⟩) l.length cA, sv]] #[], .agg #[.int .i64 x.n.off, .string x.ru, .int .i64 x.n.save, .string x.fm, .bool x.en, .int .i64 x.n.year, .int .i64 x.n.month, .int .i64 x.n.dk, .int .i64 x.n.dw, .int .i64 x.n.dn, .int .i64 x.n.sec, .int .i64 x.n.ak], .slice A3 (ruleE S x).length c3', .tuple #[.int .i64 ek, .int .i64 0], .tuple #[.int .i64 ek, .int .i64 0], .int .i64 ek, .int .i64 0, .int .i64 ek, .int .i64 0] (by kernel_rfl) ?fina ?stepsa ?nexta
        case fina =>
          simp only [putAll, Act.put, List.setIfInBounds_toArray, List.set_cons_succ, List.set_cons_zero]
          rfl
        case stepsa =>
          refine ⟨.inr ⟨by kernel_rfl, fun w1_ hB_ => ?_⟩, .inr ⟨by kernel_rfl, fun w1_ hB_ => ?_⟩, .inr ⟨by kernel_rfl, fun w1_ hB_ => ?_⟩, .inr ⟨by kernel_rfl, fun w1_ hB_ => ?_⟩, .inr ⟨by kernel_rfl, fun w1_ hB_ => ?_⟩, .inr ⟨by kernel_rfl, fun w1_ hB_ => ?_⟩, .inr ⟨by kernel_rfl, fun w1_ hB_ => ?_⟩, .inr ⟨by kernel_rfl, fun w1_ hB_ => ?_⟩, .inr ⟨by kernel_rfl, fun w1_ hB_ => ?_⟩, .inr ⟨by kernel_rfl, fun w1_ hB_ => ?_⟩, trivial⟩
          all_goals
            have hc := HE4.out.below hB_ HE4.out.lt
            have hz := HZ4.out.below hB_
            have c0 := hc.cell 0 (v := .int .i64 x.n.off) rfl
            have c1 := hc.cell 1 (v := .string x.ru) rfl
            have c2 := hc.cell 2 (v := .int .i64 x.n.save) rfl
            have c3 := hc.cell 3 (v := .string x.fm) rfl
            have c4 := hc.cell 4 (v := .bool x.en) rfl
            have c5 := hc.cell 5 (v := .int .i64 x.n.year) rfl
            have c6 := hc.cell 6 (v := .int .i64 x.n.month) rfl
            have c7 := hc.cell 7 (v := .int .i64 x.n.dk) rfl
            have c8 := hc.cell 8 (v := .int .i64 x.n.dw) rfl
            have c9 := hc.cell 9 (v := .int .i64 x.n.dn) rfl
            have c10 := hc.cell 10 (v := .int .i64 x.n.sec) rfl
            have c11 := hc.cell 11 (v := .int .i64 x.n.ak) rfl
            go_simp
            first
              | exact ⟨rfl, Below.refl _ _⟩
              | exact ⟨rfl, HOF.out w1_ hz⟩
              | exact ⟨rfl, HEN.out w1_ hz⟩
              | (rw [decide_eq_true (by omega)]; exact ⟨rfl, Below.refl _ _⟩)
              | (rw [decide_eq_false (by omega)]; exact ⟨rfl, Below.refl _ _⟩)
              | (rw [if_pos (by omega)]; exact ⟨rfl, Below.refl _ _⟩)
              | (rw [IntWalk.i64_in _ (by omega)]; exact ⟨rfl, Below.refl _ _⟩)
              | done
        case nexta =>
        intro w4 hb4
        have hb5 := HB4.out.trans (hb4.mono HB4.out.size)
        have HOW5 := Lib.hid (ownsRow_below HOW4.out hb4)
        clear hb4
        have hkb : k ≤ 1000000 := by have := HO.out.len; omega
        go_wp2_with ((at_builtin; refine wpList_append_own _ rfl _ _ 28 rfl (w.heap.size) 3 i0 (.int .i64 0) 1 8 Tryz.underlying28 hi hz0 hz1 hz2 rfl (by decide) _ _ _ rfl (HOW5.out.alloc _) ⟨w4.heap.size, 0, none⟩ 1 1 [.int .i64 ek] rfl rfl (cell_one_new _ _ _) (by simp [Value.oneCell']) (by unfold maxLen; omega) (by omega) (by have := hb5.size; simp <;> omega) ?_; intro v' w1 hown' hgrow _))
        go_roundw
        case rel =>
          refine ⟨k + 1, by omega, by go_num, ?_, below_push hb5 HOW5.out hgrow⟩
          rw [HTK.out, intsV_append, List.length_append, HLEN.out]
          exact hown'
        case measure => first | (simp [intOf]; done) | (simp [intOf]; omega)
      · obtain rfl : k = l.length - 1 := by omega
        have hd : decide (((l.length - 1 : Nat) : Int) < ((l.length - 1 : Nat) : Int)) = false := decide_eq_false (by omega)
        have HOE := Lib.hid (show wr.ownsRow w.heap.size 3 1 (.slice A5 (l.length - 1) c5) (endL S l).length (intsV (endL S l)) by
          have h := HOW.out
          rw [List.take_of_length_le (by rw [length_endL]; exact Nat.le_refl _)] at h
          rw [length_endL]
          exact h)
        go_wp2_with fail
        go_ret2
        exact ⟨⟨_, by rw [HE.out]; rfl, fun _ => HOE.out, fun h => absurd HE.out h⟩, HBW.out⟩
  · have he0 : (E != 0) = true := by simpa using hE0
    have HN := Lib.hid hE0
    clear hE0
    go_enter Tryz.func18, Tryz.ntmps18
    go_wp2_with fail
    refine HC.out.mono ?_
    rintro o w1 ⟨rfl, hb⟩
    have HB1 := Lib.hid (HB.out.trans (hb.mono HB.out.size))
    clear hb HC HX HB HZ
    go_wp2_with fail
    go_ret2
    exact ⟨⟨_, by rw [HE.out]; rfl, fun h => absurd (HE.out.symm.trans h) HN.out, fun _ => rfl⟩, HB1.out⟩
theorem zera_any (w : World) (B : Nat) (v : Value) (l : List Int) (i : Int) (hv : Nums w B v l) :
    Calls Tryz.prog 23 #[v, .int .i64 i] w fun o w' => o = .returned (.int .i64 (eraI l i : Nat)) ∧ w = w' := by
  obtain ⟨A, c, rfl, hlc, hcm⟩ := hv.form
  unfold maxLen at hcm
  have HV := Lib.hid hv
  clear hv
  go_enter Tryz.func23, Tryz.ntmps23
  go_wp2_with fail
  go_loopw [9] (fun iv wr => ∃ k : Nat, k ≤ l.length ∧ iv = .int .i64 k ∧ (∀ j (h : j < l.length), j < k → ¬ i < l[j]) ∧ wr = w) (fun iv _ => l.length - (intOf iv).toNat)
  case atStart => exact ⟨0, Nat.zero_le _, rfl, fun j _ h => absurd h (by omega), rfl⟩
  case round =>
    obtain ⟨k, hk, rfl, hno, rfl⟩ := hrel
    have HNO := Lib.hid hno
    clear hno
    by_cases hlt : k < l.length
    · have hd : decide ((k : Int) < (l.length : Int)) = true := decide_eq_true (by omega)
      obtain ⟨bb, o, c', e, hbb, hc⟩ := HV.out.cells (by omega)
      cases e
      have HLT := Lib.hid hlt
      obtain ⟨n, hn⟩ : ∃ n : Int, l[k]'hlt = n := ⟨_, rfl⟩
      have HN := Lib.hid hn
      have c0 : wr.cell? ⟨bb, o + k, none⟩ = some (.int .i64 n) := by rw [← hn]; exact hc k hlt
      clear hc hn
      by_cases h : i < n
      · have hdi : decide (i < n) = true := decide_eq_true h
        have HE := Lib.hid (eraI_at HLT.out HNO.out (by rw [HN.out]; exact h))
        clear h
        go_wp2_with fail
        go_ret
        exact ⟨by rw [HE.out]; rfl, rfl⟩
      · have hdi : decide (i < n) = false := decide_eq_false h
        have HH := Lib.hid h
        clear h
        go_wp2_with fail
        go_roundw
        case rel =>
          refine ⟨k + 1, by omega, by go_num, fun j h hjk => ?_, by trivial⟩
          rcases Nat.lt_or_ge j k with g | g
          · exact HNO.out j h g
          · obtain rfl : j = k := by omega
            rw [HN.out]; exact HH.out
        case measure => simp [intOf]; omega
    · obtain rfl : k = l.length := by omega
      have hd : decide ((l.length : Int) < (l.length : Int)) = false := decide_eq_false (by omega)
      have HE := Lib.hid (eraI_none (i := i) (fun j h => HNO.out j h h))
      go_wp2_with fail
      go_ret
      exact ⟨by rw [HE.out]; rfl, rfl⟩
end Go.Proofs.YtonmmgcibpjahaaGreatDoor
end

section
/- NSpans: Layer 13's Spans at a zone of one era without rules, walked. -/
namespace Go.Proofs.YtonmmgcibpjahaaGreatDoor
open Go Go.RowKit Go.Shelf
attribute [local go_sem] Oper.semAt_some
set_option maxRecDepth 100000

theorem span_last (eb fb : Nat) (a : Int) (w : World) (he : Blk w eb 28 #[.slice none 0 0]) (hf : Blk w fb 3 #[.int .i64 a]) :
    Calls Tryz.prog 61 #[.int .i64 0, .pointer (some ⟨eb, 0, none⟩), .pointer (some ⟨fb, 0, none⟩)] w fun o w' => o = .returned (.agg #[.int .i64 a, .int .i64 2199023255553]) ∧ Below w.heap.size w w' := by
  have c0 := he.cell 0 (v := .slice none 0 0) rfl
  have c1 := hf.cell 0 (v := .int .i64 a) rfl
  have h0 := he.lt
  have h1 := hf.lt
  have hn0 : eb ≠ w.heap.size := by omega
  have hn1 : fb ≠ w.heap.size := by omega
  clear he hf
  go_enter Tryz.func61, Tryz.ntmps61
  go_wp2_with fail
  refine bodyPost_ret (v := .agg #[.int .i64 a, .int .i64 2199023255553]) ?_ rfl ⟨rfl, (Below.refl _ _).alloc (Nat.le_refl _) _⟩
  have hB := Blk.new w 80 #[.int .i64 a, .int .i64 2199023255553]
  have d0 := hB.cell 0 (v := .int .i64 a) rfl
  have d1 := hB.cell 1 (v := .int .i64 2199023255553) rfl
  simp [results, Tryz.f61, go_sem, d0, d1]
set_option maxHeartbeats 2000000 in
theorem spans1_one (n : Nat) (hn : 2 ≤ n) (zb sb b : Nat) (nm : ByteArray) (g : Fn) (ts cs : Array Value) (e : EraN) (f : ByteArray) (W : World) (hs : f.size < 4294967281) (hm : Tryz.MaxL W) (h0 : errP e f.data.toList = 0)
    (hz : Blk W zb 24 #[.string nm, .slice (some ⟨b, 0, none⟩) 1 1]) (hsb : Blk W sb 111 #[.func g ts cs]) (he : OneE W b e f) :
    Iter Fence.wide n Tryz.prog 60 #[.pointer (some ⟨zb, 0, none⟩), .pointer (some ⟨sb, 0, none⟩)] (fun _ : Unit => #[eraPA e f, .agg #[.int .i64 (-2199023255553), .int .i64 2199023255553]]) (fun pre _ D _ => pre = [] ∧ ∀ j, ¬ D j) (fun xs => xs.length = 1) (fun _ => True) (fun _ => False) (fun _ => False) W := by
  intro lp J Jx fJ fx hY O hJ hO _
  have HEN := Lib.hid (callsIn_wide (n := n - 1).2 (ends_one nm b g ts cs e f W hs hm he))
  rw [h0] at HEN
  unfold oneZ at HEN
  have z0 := hz.cell 0 (v := .string nm) rfl
  have z1 := hz.cell 1 (v := .slice (some ⟨b, 0, none⟩) 1 1) rfl
  have s0 := hsb.cell 0 (v := .func g ts cs) rfl
  have hzl := hz.lt
  show CallsIn Fence.wide n Tryz.prog 60 #[.func (.yield lp) #[] #[], .pointer (some ⟨zb, 0, none⟩), .pointer (some ⟨sb, 0, none⟩)] W _
  refine callsIn_of_wp Tryz.func60 rfl trivial ?_ rfl
  simp only [Tryz.ntmps60, List.size_toArray, List.length_cons, List.length_nil, Nat.reduceAdd, Nat.reduceSub, Array.replicate_succ, Array.replicate_zero, List.push_toArray, List.append_toArray, List.nil_append, List.cons_append]
  gi_wp2
  refine ⟨trivial, fun _ => by omega, HEN.out.mono ?_⟩
  rintro o w1 ⟨rfl, hb1⟩
  have z11 := (hb1.cell (p := ⟨zb, 1, none⟩) hzl).trans z1
  have hzl1 : zb < w1.heap.size := Nat.lt_of_lt_of_le hzl hb1.size
  have he1 : OneE w1 b e f := Blk.below he hb1 (Blk.lt he)
  obtain ⟨c0, c1, c2, c3, c4, c5, c6, c7, c8, c9, c10, c11⟩ := he1.cells
  have hbl1 : b < w1.heap.size := Blk.lt he1
  have HW1 := Lib.hid hb1
  clear HEN z0 z1 s0 hb1 he1
  gi_wp2
  refine wpIn_loop_rounds 2 ?_
  rw [roundsIn_succ]
  gi_wp2
  have hE1 := Blk.new w1 28 #[.slice none 0 0]
  have hF1 := Blk.new (w1.alloc (.cells #[.slice none 0 0] 28)) 3 #[.int .i64 (-2199023255553)]
  have hA1 := Blk.new ((w1.alloc (.cells #[.slice none 0 0] 28)).alloc (.cells #[.int .i64 (-2199023255553)] 3)) 54 (eraP e f).toArray
  simp only [World.size_alloc] at hF1 hA1
  have hE2 := (hE1.alloc (.cells #[.int .i64 (-2199023255553)] 3)).alloc (.cells (eraP e f).toArray 54)
  have hF2 := hF1.alloc (.cells (eraP e f).toArray 54)
  have hb2 : Below W.heap.size W (((w1.alloc (.cells #[.slice none 0 0] 28)).alloc (.cells #[.int .i64 (-2199023255553)] 3)).alloc (.cells (eraP e f).toArray 54)) :=
    ((HW1.out.alloc HW1.out.size _).alloc (by have := HW1.out.size; simp; omega) _).alloc (by have := HW1.out.size; simp; omega) _
  clear hE1 hF1
  unfold eraP at hE2 hF2 hA1 hb2
  refine ⟨trivial, fun _ => by omega, (callsIn_wide.2 (span_last _ _ _ _ hE2 hF2)).mono ?_⟩
  rintro o w3 ⟨rfl, hb3⟩
  have hF3 := hF2.below hb3 hF2.lt
  have hA3 : OneE w3 (w1.heap.size + 1 + 1) e f := hA1.below hb3 hA1.lt
  have hb4 := hb2.trans (hb3.mono hb2.size)
  have hs1 := HW1.out.size
  have hl3 : w1.heap.size + 1 + 1 < w3.heap.size := Blk.lt hA3
  clear hE2 hF2 hA1 hb2 hb3 c0 c1 c2 c3 c4 c5 c6 c7 c8 c9 c10 c11
  obtain ⟨c0, c1, c2, c3, c4, c5, c6, c7, c8, c9, c10, c11⟩ := hA3.cells
  have HF3 := Lib.hid hF3
  have HB4 := Lib.hid hb4
  clear hF3 hA3 hb4
  gi_wp2
  have hT := Blk.new w3 80 #[.int .i64 (-2199023255553), .int .i64 2199023255553]
  have hF4 := HF3.out.alloc (.cells #[.int .i64 (-2199023255553), .int .i64 2199023255553] 80)
  have hb5 : Below W.heap.size W (w3.alloc (.cells #[.int .i64 (-2199023255553), .int .i64 2199023255553] 80)) := HB4.out.alloc HB4.out.size _
  obtain ⟨w4, hw4⟩ : ∃ w4, w3.alloc (.cells #[.int .i64 (-2199023255553), .int .i64 2199023255553] 80) = w4 := ⟨_, rfl⟩
  rw [hw4] at hT hF4 hb5 ⊢
  clear hw4 HF3 HB4 c0 c1 c2 c3 c4 c5 c6 c7 c8 c9 c10 c11
  obtain ⟨fn, tmps, assign, body, hyd, hR⟩ := hY [] () (fun _ => False) O w4 (fJ _ _ _ _ hJ (Fr.of_below hb5 (Nat.le_refl _))) (hO.fr (Fr.of_below (T := fun _ => True) hb5 (Nat.le_refl _))) (fun _ h => h.elim) (fun _ h => h.elim) ⟨rfl, fun _ h => h⟩
  unfold eraPA eraP at hyd
  rw [hyd]
  gi_wp2
  refine ⟨fun _ => by omega, hR.mono ?_⟩
  rintro o W5 ⟨O5, hx5, hbd5, hf5, (⟨rfl, hJ5⟩ | ⟨rfl, hJx5⟩)⟩
  · have hw4s : w3.heap.size < w4.heap.size := hT.lt
    have hO1 : ∀ k, W.heap.size ≤ k → ¬ (O k ∨ False) := fun k hk h => by
      rcases h with h | h
      · have := hO k h; omega
      · exact h
    have hT5 := hT.fr hf5 (hO1 _ (by omega))
    have hF5 := hF4.fr hf5 (hO1 _ (by omega))
    have d1 := hT5.cell 1 (v := .int .i64 2199023255553) rfl
    have f0 := hF5.cell 0 (v := .int .i64 (-2199023255553)) rfl
    have ff := hF5.frozen 0
    clear hT5 hF5 hT hF4 hyd hR
    gi_wp2
    rw [roundsIn_succ]
    gi_wp2
    refine bodyPost_end (results_none rfl _ _ _) rfl ?_
    refine ⟨⟨_, rfl⟩, O5, fun k h => ?_, hbd5.fr (Fr.setCell (T := fun _ => True) _ 0 _ trivial), ?_, .inl ⟨[()], rfl, fJ _ _ _ _ hJ5 (Fr.setCell _ 0 _ ?_)⟩⟩
    · rcases hx5 k h with h | h | h
      · exact .inl h
      · exact h.elim
      · exact .inr (by omega)
    · have h1 : Fr (fun k => k = w1.heap.size + 1) W5 (W5.setCell ⟨w1.heap.size + 1, 0, none⟩ (.int .i64 2199023255553)) := Fr.setCell _ 0 _ rfl
      exact ((Fr.of_below hb5 (Nat.le_refl _)).then hf5).trans h1 (fun k hk => .inr (by omega))
    · intro h
      rcases hx5 _ h with h | h | h
      · exact hO1 _ (by omega) (.inl h)
      · exact h
      · omega
  · gi_wp2
    refine bodyPost_end (results_none rfl _ _ _) rfl ?_
    refine ⟨⟨_, rfl⟩, O5, fun k h => ?_, hbd5, (Fr.of_below hb5 (Nat.le_refl _)).then hf5, .inr ⟨[()], trivial, hJx5⟩⟩
    have hw4s := hT.lt
    rcases hx5 k h with h | h | h
    · exact .inl h
    · exact h.elim
    · exact .inr (by omega)
theorem spans_any (z sv : Value) (nm : ByteArray) (b : Nat) (g : Fn) (ts cs : Array Value) (w : World) (hz : z = oneZ nm b) (hsv : sv = .func g ts cs) :
    Calls Tryz.prog 30 #[z, sv] w fun o w' => o = .returned (.func (.func 60) #[] #[.pointer (some ⟨w.heap.size, 0, none⟩), .pointer (some ⟨w.heap.size + 1, 0, none⟩)]) ∧ Below w.heap.size w w' ∧
      Blk w' w.heap.size 24 #[.string nm, .slice (some ⟨b, 0, none⟩) 1 1] ∧ Blk w' (w.heap.size + 1) 111 #[.func g ts cs] := by
  subst hz hsv
  have hz0 := (Blk.new w 24 #[.string nm, .slice (some ⟨b, 0, none⟩) 1 1]).alloc (.cells #[.func g ts cs] 111)
  have hs0 := Blk.new (w.alloc (.cells #[.string nm, .slice (some ⟨b, 0, none⟩) 1 1] 24)) 111 #[.func g ts cs]
  rw [World.size_alloc] at hs0
  unfold oneZ
  go_enter Tryz.func30, Tryz.ntmps30
  go_wp2_with fail
  go_ret
  exact ⟨rfl, ((Below.refl _ _).alloc (Nat.le_refl _) _).alloc (by simp) _, hz0, hs0⟩
end Go.Proofs.YtonmmgcibpjahaaGreatDoor
end

section
/- GSpans: Layer 13's Spans at any zone, walked. -/
namespace Go.Proofs.YtonmmgcibpjahaaGreatDoor
open Go Go.RowKit Go.Shelf
attribute [local go_sem] Oper.semAt_some
set_option maxRecDepth 100000

/-- Where era k ends, and where it begins. -/
def toV (E : List Int) (k : Nat) : Int := E.getD k 2199023255553
def fromV (E : List Int) (k : Nat) : Int := if k = 0 then -2199023255553 else toV E (k - 1)
theorem toV_at {E : List Int} {k : Nat} (h : k < E.length) : toV E k = E[k] := by unfold toV; rw [List.getD_eq_getElem?_getD, List.getElem?_eq_getElem h]; rfl
theorem toV_out {E : List Int} {k : Nat} (h : E.length ≤ k) : toV E k = 2199023255553 := by unfold toV; rw [List.getD_eq_getElem?_getD, List.getElem?_eq_none h]; rfl
theorem fromV_succ (E : List Int) (k : Nat) : fromV E (k + 1) = toV E k := by unfold fromV; rw [if_neg (by omega)]; rfl
theorem span_at (eb fb i : Nat) (a : Int) (E : List Int) (v : Value) (B : Nat) (w : World) (he : Blk w eb 28 #[v]) (hf : Blk w fb 3 #[.int .i64 a]) (hv : Nums w B v E) (hB : B ≤ w.heap.size) :
    Calls Tryz.prog 61 #[.int .i64 i, .pointer (some ⟨eb, 0, none⟩), .pointer (some ⟨fb, 0, none⟩)] w fun o w' => o = .returned (.agg #[.int .i64 a, .int .i64 (toV E i)]) ∧ Below w.heap.size w w' := by
  obtain ⟨A, c, rfl, hlc, hcm⟩ := hv.form
  unfold maxLen at hcm
  have c0 := he.cell 0 (v := .slice A E.length c) rfl
  have c1 := hf.cell 0 (v := .int .i64 a) rfl
  have h0 := he.lt
  have h1 := hf.lt
  have hn0 : eb ≠ w.heap.size := by omega
  have hn1 : fb ≠ w.heap.size := by omega
  clear he hf
  by_cases hlt : i < E.length
  · have hd : decide ((i : Int) < (E.length : Int)) = true := decide_eq_true (by omega)
    obtain ⟨bb, o, c', e, hbb, hc⟩ := hv.cells (by omega)
    cases e
    have k0 := hc i hlt
    have hbw : bb < w.heap.size := by omega
    have HT := Lib.hid (toV_at hlt)
    obtain ⟨n, hn⟩ : ∃ n, E[i] = n := ⟨_, rfl⟩
    rw [hn] at k0 HT
    rw [HT.out]
    clear hc hn hv
    go_enter Tryz.func61, Tryz.ntmps61
    go_wp2_with fail
    refine bodyPost_ret (v := .agg #[.int .i64 a, .int .i64 n]) ?_ rfl ⟨rfl, (Below.refl _ _).alloc (Nat.le_refl _) _⟩
    have hB := Blk.new w 80 #[.int .i64 a, .int .i64 n]
    have d0 := hB.cell 0 (v := .int .i64 a) rfl
    have d1 := hB.cell 1 (v := .int .i64 n) rfl
    simp [results, Tryz.f61, go_sem, d0, d1]
  · have hd : decide ((i : Int) < (E.length : Int)) = false := decide_eq_false (by omega)
    rw [toV_out (by omega)]
    clear hv
    go_enter Tryz.func61, Tryz.ntmps61
    go_wp2_with fail
    refine bodyPost_ret (v := .agg #[.int .i64 a, .int .i64 2199023255553]) ?_ rfl ⟨rfl, (Below.refl _ _).alloc (Nat.le_refl _) _⟩
    have hB := Blk.new w 80 #[.int .i64 a, .int .i64 2199023255553]
    have d0 := hB.cell 0 (v := .int .i64 a) rfl
    have d1 := hB.cell 1 (v := .int .i64 2199023255553) rfl
    simp [results, Tryz.f61, go_sem, d0, d1]
/-- What is given for era k. -/
def encS (l : List EraF) (E : List Int) (k : Nat) : Array Value := #[(l.getD k default).val, .agg #[.int .i64 (fromV E k), .int .i64 (toV E k)]]
/-- What a round finds. -/
structure SpanAt (l : List EraF) (E : List Int) (fb : Nat) (J : List Nat → (Nat → Prop) → World → Prop) (O0 : Nat → Prop) (W2 : World) (pre : List Nat) (O : Nat → Prop) (wr : World) : Prop where
  j : J pre O wr
  bd : Bd O wr
  ext : ∀ k, O k → O0 k ∨ W2.heap.size ≤ k
  frm : Fr (fun k => O0 k ∨ k = fb) W2 wr
  fr : Blk wr fb 3 #[.int .i64 (fromV E pre.length)]
  len : pre.length ≤ l.length
/-- What is told of era k: it is the next one, and what was there ahead of the loop is as it was. -/
def RS (l : List EraF) (B2 : Nat) (Wb : World) (pre : List Nat) (x : Nat) (D : Nat → Prop) (W : World) : Prop := (∀ j, ¬ D j) ∧ x = pre.length ∧ x < l.length ∧ ∀ k, k < B2 → W.heap[k]? = Wb.heap[k]?
set_option maxHeartbeats 4000000 in
theorem spansZ_in (n : Nat) (hn : 2 ≤ n) (lp zb sb B B2 : Nat) (Wb : World) (zn : ByteArray) (ev sv : Value) (l : List EraF) (S : List SetF) (W : World)
    (hzb : Blk W zb 24 #[.string zn, ev]) (hsb : Blk W sb 111 #[setsV zn ev sv]) (hz : ZW W B ev sv l S) (ho : ZOk l S) (h0 : errZ S l = 0) (hBB : B ≤ B2) (hB2 : B2 ≤ W.heap.size) (hWb : ∀ k, k < B2 → W.heap[k]? = Wb.heap[k]?)
    (J Jx : List Nat → (Nat → Prop) → World → Prop) (fJ : Feet J) (hY : RoundsIn Fence.wide (n - 1) Tryz.prog lp (encS l (endL S l)) (RS l B2 Wb) J Jx)
    (O0 : Nat → Prop) (hJ0 : J [] O0 W) (hO0 : Bd O0 W) (hK : ∀ k, k < B2 → ¬ O0 k) :
    CallsIn Fence.wide n Tryz.prog 60 #[.func (.yield lp) #[] #[], .pointer (some ⟨zb, 0, none⟩), .pointer (some ⟨sb, 0, none⟩)] W (IterEnd (fun xs => xs.length = l.length) (fun pre => pre.length ≤ l.length) J Jx O0 (fun _ => False) W) := by
  obtain ⟨A, cA, rfl, hlc, hcm⟩ := hz.eras.form
  unfold maxLen at hcm
  have HEN := Lib.hid (callsIn_wide (n := n - 1).2 (zends_any zn (.slice A l.length cA) sv B l S W hz ho))
  unfold EndsPost at HEN
  rw [h0] at HEN
  have z0 := hzb.cell 0 (v := .string zn) rfl
  have z1 := hzb.cell 1 (v := .slice A l.length cA) rfl
  have s0 := hsb.cell 0 (v := setsV zn (.slice A l.length cA) sv) rfl
  unfold setsV zoneA worldA at HEN
  unfold setsV worldA at s0
  have hzl := hzb.lt
  have hsl := hsb.lt
  have HZ := Lib.hid hz
  obtain ⟨E, hE⟩ : ∃ E, endL S l = E := ⟨_, rfl⟩
  rw [hE] at HEN hY
  clear hE h0 hz ho
  refine callsIn_of_wp Tryz.func60 rfl trivial ?_ rfl
  simp only [Tryz.ntmps60, List.size_toArray, List.length_cons, List.length_nil, Nat.reduceAdd, Nat.reduceSub, Array.replicate_succ, Array.replicate_zero, List.push_toArray, List.append_toArray, List.nil_append, List.cons_append]
  gi_wp2
  refine ⟨trivial, fun _ => by omega, HEN.out.mono ?_⟩
  rintro o w1 ⟨⟨v, rfl, hown, -⟩, hb1⟩
  have hown1 := hown (by trivial)
  obtain ⟨A5, c5, rfl, -, -⟩ := Sl.of_own hown1
  have z11 := (hb1.cell (p := ⟨zb, 1, none⟩) hzl).trans z1
  have hzl1 : zb < w1.heap.size := Nat.lt_of_lt_of_le hzl hb1.size
  have HB1 := Lib.hid hb1
  have HOWN := Lib.hid hown1
  clear HEN z0 z1 s0 hb1 hown hown1
  gi_wp2
  obtain ⟨W2, hW2⟩ : ∃ W2, (w1.alloc (.cells #[.slice A5 E.length c5] 28)).alloc (.cells #[.int .i64 (-2199023255553)] 3) = W2 := ⟨_, rfl⟩
  obtain ⟨b0, b1, hb2, hs2⟩ := blks2 w1 _ _ _ _ W2 hW2
  rw [hW2]
  have hb02 := HB1.out.trans (hb2.mono HB1.out.size)
  have HE2 := Lib.hid b0
  have HZ2 := Lib.hid (HZ.out.below hb02)
  have HO2 := Lib.hid (ownsRow_below HOWN.out hb2)
  have hs1 := HB1.out.size
  have HS0 := Lib.hid (show SpanAt l E (w1.heap.size + 1) J O0 W2 [] O0 W2 from
    ⟨fJ _ _ _ _ hJ0 (Fr.of_below hb02 (Nat.le_refl _)), hO0.fr (Fr.of_below (T := fun _ => True) hb02 (Nat.le_refl _)), fun k h => .inl h, Fr.refl _ _, b1, Nat.zero_le _⟩)
  have HB02 := Lib.hid hb02
  clear hW2 b0 b1 hb2 hb02 z11
  gi_loopw [23] (fun iv wr => ∃ pre O, iv = .int .i64 (pre.length : Nat) ∧ SpanAt l E (w1.heap.size + 1) J O0 W2 pre O wr) (fun iv _ => l.length - (intOf iv).toNat)
  case atStart => exact ⟨[], O0, rfl, HS0.out⟩
  case round =>
    clear HS0
    obtain ⟨pre, O, rfl, hS⟩ := hrel
    have HS := Lib.hid hS
    have hcz : ∀ k, k < B → ¬ (O0 k ∨ k = w1.heap.size + 1) := fun k hk e => by
      rcases e with e | e
      · exact hK k (by omega) e
      · have := HZ.out.le; omega
    have her : ErasR wr B (.slice A l.length cA) l := hS.frm.sl HZ2.out.eras HZ2.out.le hcz
    have how := hS.frm.own HO2.out (fun g hg e => by
      have h5 := HOWN.out.lt g hg
      rcases e with e | e
      · have := hO0 _ e; omega
      · omega)
    have heb : Blk wr w1.heap.size 28 #[.slice A5 E.length c5] := HE2.out.fr hS.frm (fun e => by
      rcases e with e | e
      · have := hO0 _ e; omega
      · omega)
    have hfb := hS.fr
    have hws := hS.frm.size
    have hlen := hS.len
    by_cases hlt : pre.length < l.length
    · have hd : decide ((pre.length : Int) < (l.length : Int)) = true := decide_eq_true (by omega)
      obtain ⟨bb, o, c', e, hbb, hc⟩ := her.cells (by omega)
      cases e
      have hx := hc pre.length hlt
      have hgx : l.getD pre.length default = l[pre.length] := by rw [List.getD_eq_getElem?_getD, List.getElem?_eq_getElem hlt]; rfl
      obtain ⟨x, hxk⟩ : ∃ x, l[pre.length] = x := ⟨_, rfl⟩
      rw [hxk] at hx hgx
      obtain ⟨c0, c1, c2, c3, c4, c5, c6, c7, c8, c9, c10, c11⟩ := hx
      have hbw : bb < wr.heap.size := by have := HZ2.out.le; omega
      have hA3 := Blk.new wr 54 #[.int .i64 x.n.off, .string x.ru, .int .i64 x.n.save, .string x.fm, .bool x.en, .int .i64 x.n.year, .int .i64 x.n.month, .int .i64 x.n.dk, .int .i64 x.n.dw, .int .i64 x.n.dn, .int .i64 x.n.sec, .int .i64 x.n.ak]
      have hb3 : Below wr.heap.size wr (wr.alloc (.cells #[.int .i64 x.n.off, .string x.ru, .int .i64 x.n.save, .string x.fm, .bool x.en, .int .i64 x.n.year, .int .i64 x.n.month, .int .i64 x.n.dk, .int .i64 x.n.dw, .int .i64 x.n.dn, .int .i64 x.n.sec, .int .i64 x.n.ak] 54)) := (Below.refl _ _).alloc (Nat.le_refl _) _
      have HSP := Lib.hid (callsIn_wide (n := n - 1).2 (span_at w1.heap.size (w1.heap.size + 1) pre.length (fromV E pre.length) E _ wr.heap.size (wr.alloc (.cells #[.int .i64 x.n.off, .string x.ru, .int .i64 x.n.save, .string x.fm, .bool x.en, .int .i64 x.n.year, .int .i64 x.n.month, .int .i64 x.n.dk, .int .i64 x.n.dw, .int .i64 x.n.dn, .int .i64 x.n.sec, .int .i64 x.n.ak] 54)) (heb.alloc _) (hfb.alloc _) ((Sl.of_own how).below hb3) hb3.size))
      obtain ⟨fv, hfv⟩ : ∃ f, fromV E pre.length = f := ⟨_, rfl⟩
      obtain ⟨tv, htv⟩ : ∃ f, toV E pre.length = f := ⟨_, rfl⟩
      rw [hfv, htv] at HSP
      have HFB := Lib.hid hfb
      have HGX := Lib.hid hgx
      have HFV := Lib.hid hfv
      have HTV := Lib.hid htv
      have hfl := hfb.lt
      clear hc hxk hgx her how heb hfb hfv htv hS
      gi_wp2
      refine ⟨trivial, fun _ => by omega, HSP.out.mono ?_⟩
      rintro o w4 ⟨rfl, hb4⟩
      have hA4 := hA3.below hb4 hA3.lt
      have HB4 := Lib.hid (hb3.trans (hb4.mono hb3.size))
      have hl4 := hA4.lt
      clear hb3 hb4 hA3 HSP c0 c1 c2 c3 c4 c5 c6 c7 c8 c9 c10 c11
      have hT := Blk.new w4 80 #[.int .i64 fv, .int .i64 tv]
      have HB5 := Lib.hid (HB4.out.alloc HB4.out.size (.cells #[.int .i64 fv, .int .i64 tv] 80))
      have hF5 := HFB.out.below HB5.out HFB.out.lt
      obtain ⟨w5, hw5⟩ : ∃ w5, w4.alloc (.cells #[.int .i64 fv, .int .i64 tv] 80) = w5 := ⟨_, rfl⟩
      have hA5 := hA4.alloc (.cells #[.int .i64 fv, .int .i64 tv] 80)
      rw [hw5] at hT HB5 hF5 hA5
      have e0 := hA5.cell 0 (v := .int .i64 x.n.off) rfl
      have e1 := hA5.cell 1 (v := .string x.ru) rfl
      have e2 := hA5.cell 2 (v := .int .i64 x.n.save) rfl
      have e3 := hA5.cell 3 (v := .string x.fm) rfl
      have e4 := hA5.cell 4 (v := .bool x.en) rfl
      have e5 := hA5.cell 5 (v := .int .i64 x.n.year) rfl
      have e6 := hA5.cell 6 (v := .int .i64 x.n.month) rfl
      have e7 := hA5.cell 7 (v := .int .i64 x.n.dk) rfl
      have e8 := hA5.cell 8 (v := .int .i64 x.n.dw) rfl
      have e9 := hA5.cell 9 (v := .int .i64 x.n.dn) rfl
      have e10 := hA5.cell 10 (v := .int .i64 x.n.sec) rfl
      have e11 := hA5.cell 11 (v := .int .i64 x.n.ak) rfl
      have t0 := hT.cell 0 (v := .int .i64 fv) rfl
      have t1 := hT.cell 1 (v := .int .i64 tv) rfl
      have ht5 := hT.lt
      have hsame : ∀ k, k < B2 → w5.heap[k]? = Wb.heap[k]? := fun k hk => by
        have h1 := HB02.out.block k (by omega)
        have h2 := HS.out.frm.block k (by have := HB02.out.size; omega) (fun e => by
          rcases e with e | e
          · exact hK k hk e
          · omega)
        have h3 := HB5.out.block k (by have := HB02.out.size; have := HS.out.frm.size; omega)
        rw [h3, h2, h1]
        exact hWb k hk
      obtain ⟨fn, tmps, assign, body, hyd, hR⟩ := hY pre pre.length (fun _ => False) O w5 (fJ _ _ _ _ HS.out.j (Fr.of_below HB5.out (Nat.le_refl _))) (HS.out.bd.fr (Fr.of_below (T := fun _ => True) HB5.out (Nat.le_refl _))) (fun _ h => h.elim) (fun _ h => h.elim) ⟨fun _ h => h, rfl, hlt, hsame⟩
      unfold encS at hyd
      rw [HGX.out, HFV.out, HTV.out] at hyd
      unfold EraF.val eraA at hyd
      gi_wp2
      refine ⟨fun _ => by omega, hR.mono ?_⟩
      rintro o W5 ⟨O5, hx5, hbd5, hf5, hend⟩
      clear hyd hR e0 e1 e2 e3 e4 e5 e6 e7 e8 e9 e10 e11 t0 t1 hA4 hA5 hw5
      have hs5 := HB5.out.size
      have hOw : ∀ k, O k → k < wr.heap.size := HS.out.bd
      have hnfb : ¬ O (w1.heap.size + 1) := fun e => by
        rcases HS.out.ext _ e with e | e
        · have := hO0 _ e; omega
        · omega
      have hext : ∀ k, O5 k → O0 k ∨ W2.heap.size ≤ k := fun k h => by
        rcases hx5 k h with h | h | h
        · exact HS.out.ext k h
        · exact h.elim
        · exact .inr (by omega)
      have hfr5 : Fr (fun k => O0 k ∨ k = w1.heap.size + 1) W2 W5 := ((HS.out.frm.then (Fr.of_below HB5.out (Nat.le_refl _))).trans hf5 fun k hk => by
        rcases hk with hk | hk
        · rcases HS.out.ext k hk with h | h
          · exact .inl (.inl h)
          · exact .inr h
        · exact hk.elim)
      rcases hend with ⟨rfl, hJ5⟩ | ⟨rfl, hJx5⟩
      · have hT5 := hT.fr hf5 (fun e => by
          rcases e with e | e
          · have := hOw _ e; omega
          · exact e)
        have hF6 := hF5.fr hf5 (fun e => by
          rcases e with e | e
          · exact hnfb e
          · exact e)
        have t1 := hT5.cell 1 (v := .int .i64 tv) rfl
        have f0 := hF6.frozen 0
        have g0 := hF6.cell 0 (v := .int .i64 (fromV E pre.length)) rfl
        have HF6 := Lib.hid hF6
        have HJ5 := Lib.hid hJ5
        clear hT hF5 hT5 hF6 hJ5
        gi_wp2
        refine ⟨⟨pre ++ [pre.length], O5, ?_, ?_⟩, ?_⟩
        · rw [List.length_append]; rfl
        · refine ⟨fJ _ _ _ _ HJ5.out (Fr.setCell _ 0 _ fun e => ?_), hbd5.fr (Fr.setCell (T := fun _ => True) _ 0 _ trivial), hext, hfr5.then (Fr.setCell _ 0 _ (.inr rfl)), ?_, ?_⟩
          · rcases hx5 _ e with h | h | h
            · exact hnfb h
            · exact h
            · omega
          · have h := HF6.out.set 0 (.int .i64 tv)
            rw [List.length_append, List.length_singleton, fromV_succ, HTV.out]
            exact h
          · rw [List.length_append]
            exact hlt
        · show l.length - _ < l.length - _
          simp [intOf]
          omega
      · gi_wp2
        refine bodyPost_end (results_none rfl _ _ _) rfl ?_
        refine ⟨⟨_, rfl⟩, O5, fun k h => ?_, hbd5, ((Fr.of_below (T := fun k => O0 k ∨ False) HB02.out (Nat.le_refl _)).trans hfr5 fun k hk => ?_), .inr ⟨pre ++ [pre.length], ?_, hJx5⟩⟩
        · rcases hext k h with h | h
          · exact .inl h
          · exact .inr (by omega)
        · rcases hk with hk | hk
          · exact .inl (.inl hk)
          · exact .inr (by omega)
        · show (pre ++ [pre.length]).length ≤ l.length
          rw [List.length_append]
          exact hlt
    · have he : pre.length = l.length := by omega
      have hd : decide ((pre.length : Int) < (l.length : Int)) = false := decide_eq_false (by omega)
      clear her how heb hfb hS
      have HEQ := Lib.hid he
      clear he
      gi_wp2
      refine bodyPost_end (results_none rfl _ _ _) rfl ?_
      refine ⟨⟨_, rfl⟩, O, fun k h => ?_, HS.out.bd, ((Fr.of_below (T := fun k => O0 k ∨ False) HB02.out (Nat.le_refl _)).trans HS.out.frm fun k hk => ?_), .inl ⟨pre, HEQ.out, HS.out.j⟩⟩
      · rcases HS.out.ext k h with h | h
        · exact .inl h
        · exact .inr (by omega)
      · rcases hk with hk | hk
        · exact .inl (.inl hk)
        · exact .inr (by omega)
theorem spansZ_iter (n : Nat) (hn : 2 ≤ n) (zb sb B B2 : Nat) (Wb : World) (zn : ByteArray) (ev sv : Value) (l : List EraF) (S : List SetF) (W : World)
    (hzb : Blk W zb 24 #[.string zn, ev]) (hsb : Blk W sb 111 #[setsV zn ev sv]) (hz : ZW W B ev sv l S) (ho : ZOk l S) (h0 : errZ S l = 0) (hBB : B ≤ B2) (hB2 : B2 ≤ W.heap.size) (hWb : ∀ k, k < B2 → W.heap[k]? = Wb.heap[k]?) :
    Iter Fence.wide n Tryz.prog 60 #[.pointer (some ⟨zb, 0, none⟩), .pointer (some ⟨sb, 0, none⟩)] (encS l (endL S l)) (RS l B2 Wb) (fun xs => xs.length = l.length) (fun pre => pre.length ≤ l.length) (fun k => k < B2) (fun _ => False) W :=
  fun lp J Jx fJ _ hY O hJ hO hK => spansZ_in n hn lp zb sb B B2 Wb zn ev sv l S W hzb hsb hz ho h0 hBB hB2 hWb J Jx fJ hY O hJ hO hK
/-- Spans itself. -/
theorem spansZ_any (w : World) (zn : ByteArray) (ev sv : Value) :
    Calls Tryz.prog 30 #[zoneA zn ev, setsV zn ev sv] w fun o w' => o = .returned (.func (.func 60) #[] #[.pointer (some ⟨w.heap.size, 0, none⟩), .pointer (some ⟨w.heap.size + 1, 0, none⟩)]) ∧ Below w.heap.size w w' ∧
      Blk w' w.heap.size 24 #[.string zn, ev] ∧ Blk w' (w.heap.size + 1) 111 #[setsV zn ev sv] ∧ w'.heap.size = w.heap.size + 2 := by
  have hz0 := (Blk.new w 24 #[.string zn, ev]).alloc (.cells #[setsV zn ev sv] 111)
  have hs0 := Blk.new (w.alloc (.cells #[.string zn, ev] 24)) 111 #[setsV zn ev sv]
  rw [World.size_alloc] at hs0
  have HB := Lib.hid (((Below.refl w.heap.size w).alloc (Nat.le_refl _) (.cells #[.string zn, ev] 24)).alloc (by simp) (.cells #[setsV zn ev sv] 111))
  have HH := Lib.hid (And.intro hz0 hs0)
  clear hz0 hs0
  unfold setsV zoneA worldA at *
  go_enter Tryz.func30, Tryz.ntmps30
  go_wp2_with fail
  go_ret
  exact ⟨rfl, HB.out, HH.out.1, HH.out.2, by simp⟩
end Go.Proofs.YtonmmgcibpjahaaGreatDoor
end

section
/- GAt: Layer 13's At of any zone, walked. -/
namespace Go.Proofs.YtonmmgcibpjahaaGreatDoor
open Go Go.RowKit Go.Shelf
set_option maxRecDepth 100000

theorem sum_ok {e : EraN} {ru : ByteArray} {l : List Rul} {i : Int} (hr : RuOk l) (hl : letOk l) (hs : -90000 < e.save ∧ e.save < 90000) : sumOk e ru l i := by
  unfold sumOk savesV
  split
  · show (-1000000000000000 ≤ e.save ∧ e.save ≤ 1000000000000000) ∧ (⟨#[]⟩ : ByteArray).size ≤ 140737488351232
    exact ⟨⟨by omega, by omega⟩, by decide⟩
  · cases ho : latestF l e.off i with
    | none => exact (show (-1000000000000000 ≤ (0 : Int) ∧ (0 : Int) ≤ 1000000000000000) ∧ (letV l).size ≤ 140737488351232 from ⟨⟨by decide, by decide⟩, letV_in hl⟩)
    | some f => exact ⟨hr.sv f (latestF_mem ho), fires_let hl (latestF_mem ho)⟩
theorem ZOk.ruleL {S : List SetF} (hlt : ∀ s ∈ S, letOk s.l) (x : EraF) : letOk (ruleE S x) := by
  unfold ruleE ofRul
  split
  · exact fun r hr => (by cases hr)
  · cases hs : ofS S x.ru with
    | none => exact fun r hr => (by cases hr)
    | some s => exact hlt s (List.mem_of_find?_eq_some hs)
/-- The era of an instant. -/
def atX (S : List SetF) (l : List EraF) (i : Int) : EraF := l.getD (eraI (endL S l) i) default
/-- What At answers. -/
def atZ (S : List SetF) (l : List EraF) (i : Int) : Value :=
  if errZ S l ≠ 0 then badL (errZ S l) else if i < -2199023255552 ∨ 2199023255552 < i then badL 10 else zwithinV (atX S l i).n (atX S l i).ru (atX S l i).fm (ruleE S (atX S l i)) i
theorem zwithinV_form (e : EraN) (ru f : ByteArray) (l : List Rul) (i : Int) : ∃ a d s err, zwithinV e ru f l i = .tuple #[.agg #[.int .i64 a, .bool d, .string s], .int .i64 err] := by
  unfold zwithinV withinR
  split
  · exact ⟨_, _, _, _, rfl⟩
  · exact ⟨_, _, _, _, rfl⟩
set_option maxHeartbeats 4000000 in
theorem zat_any (zn : ByteArray) (ev sv : Value) (B : Nat) (l : List EraF) (S : List SetF) (i : Int) (w : World) (hz : ZW w B ev sv l S) (ho : ZOk l S) (hlt : ∀ s ∈ S, letOk s.l) :
    Calls Tryz.prog 20 #[zoneA zn ev, setsV zn ev sv, .int .i64 i] w fun o w' => o = .returned (atZ S l i) ∧ Below w.heap.size w w' := by
  obtain ⟨A, cA, rfl, hlc, hcm⟩ := hz.eras.form
  unfold maxLen at hcm
  have hb0 : Below w.heap.size w ((w.alloc (.cells #[.string zn, .slice A l.length cA] 24)).alloc (.cells #[.int .i64 0, .bool false, .string ⟨#[]⟩] 41)) := ((Below.refl w.heap.size w).alloc (Nat.le_refl _) _).alloc (by simp) _
  have HX := Lib.hid ((Blk.new w 24 #[.string zn, .slice A l.length cA]).alloc (.cells #[.int .i64 0, .bool false, .string ⟨#[]⟩] 41))
  have hr0 := Blk.new (w.alloc (.cells #[.string zn, .slice A l.length cA] 24)) 41 #[.int .i64 0, .bool false, .string ⟨#[]⟩]
  rw [World.size_alloc] at hr0
  have HR := Lib.hid hr0
  have HB := Lib.hid hb0
  have HZ0 := Lib.hid hz
  have HO := Lib.hid ho
  have HLT := Lib.hid hlt
  have HC := Lib.hid (zends_any zn (.slice A l.length cA) sv B l S _ (hz.below hb0) ho)
  unfold EndsPost at HC
  clear hb0 hr0 hz ho hlt
  obtain ⟨E, hE⟩ : ∃ e, errZ S l = e := ⟨_, rfl⟩
  rw [hE] at HC
  have HE := Lib.hid hE
  unfold setsV zoneA worldA at HC ⊢
  clear hE
  go_enter Tryz.func20, Tryz.ntmps20
  go_wp2_with fail
  refine HC.out.mono ?_
  rintro o w1 ⟨⟨v, rfl, hv0, hvn⟩, hb⟩
  have HX1 := Lib.hid (HX.out.below hb HX.out.lt)
  have HR1 := Lib.hid (HR.out.below hb HR.out.lt)
  have HB1 := Lib.hid (HB.out.trans (hb.mono HB.out.size))
  have HZ1 := Lib.hid (HZ0.out.below HB1.out)
  have hrl := HR1.out.lt
  clear hb HC HX HR HB
  by_cases hE0 : E = 0
  · have HV0 := Lib.hid (show Nums w1 w1.heap.size v (endL S l) from Sl.of_own (hv0 hE0))
    subst hE0
    clear hv0 hvn
    by_cases hi : i < -2199023255552 ∨ 2199023255552 < i
    · have HV := Lib.hid (show atZ S l i = badL 10 by unfold atZ; rw [if_neg (fun h => h HE.out), if_pos hi])
      unfold badL at HV
      have r0 := HR1.out.cell 0 (v := .int .i64 0) rfl
      have r1 := HR1.out.cell 1 (v := .bool false) rfl
      have r2 := HR1.out.cell 2 (v := .string ⟨#[]⟩) rfl
      have f0 := HR1.out.frozen 0
      have f1 := HR1.out.frozen 1
      have f2 := HR1.out.frozen 2
      obtain ⟨d1, d2, hd1, hd2, hdd⟩ : ∃ a b, decide (i < -2199023255552) = a ∧ decide (2199023255552 < i) = b ∧ (a = true ∨ a = false ∧ b = true) := by
        refine ⟨_, _, rfl, rfl, ?_⟩
        by_cases h : i < -2199023255552
        · exact .inl (decide_eq_true h)
        · exact .inr ⟨decide_eq_false h, decide_eq_true (by omega)⟩
      clear hi
      rcases hdd with rfl | ⟨rfl, rfl⟩
      · go_wp2_with fail
        have HW := Lib.hid (((HR1.out.set 0 (.int .i64 0)).set 1 (.bool false)).set 2 (.string ⟨#[]⟩))
        refine bodyPost_ret (v := .tuple #[.agg #[.int .i64 0, .bool false, .string ⟨#[]⟩], .int .i64 10]) ?_ rfl ⟨by rw [HV.out], below_set3 HB1.out (by omega) _ _ _⟩
        have c0 := HW.out.cell 0 (v := .int .i64 0) rfl
        have c1 := HW.out.cell 1 (v := .bool false) rfl
        have c2 := HW.out.cell 2 (v := .string ⟨#[]⟩) rfl
        simp [results, Tryz.f20, go_sem, c0, c1, c2]
      · go_wp2_with fail
        have HW := Lib.hid (((HR1.out.set 0 (.int .i64 0)).set 1 (.bool false)).set 2 (.string ⟨#[]⟩))
        refine bodyPost_ret (v := .tuple #[.agg #[.int .i64 0, .bool false, .string ⟨#[]⟩], .int .i64 10]) ?_ rfl ⟨by rw [HV.out], below_set3 HB1.out (by omega) _ _ _⟩
        have c0 := HW.out.cell 0 (v := .int .i64 0) rfl
        have c1 := HW.out.cell 1 (v := .bool false) rfl
        have c2 := HW.out.cell 2 (v := .string ⟨#[]⟩) rfl
        simp [results, Tryz.f20, go_sem, c0, c1, c2]
    · have hd1 : decide (i < -2199023255552) = false := decide_eq_false (by omega)
      have hd2 : decide (2199023255552 < i) = false := decide_eq_false (by omega)
      have HIN := Lib.hid hi
      obtain ⟨hl0, -, hat, -⟩ := errZ_zero HE.out
      have hkle := eraI_le (endL S l) i
      rw [length_endL] at hkle
      obtain ⟨k, hk⟩ : ∃ k, eraI (endL S l) i = k := ⟨_, rfl⟩
      rw [hk] at hkle
      have hlk : k < l.length := by omega
      have hk0 : (0 : Int) ≤ (k : Int) := by omega
      have hkl : (k : Int) < (l.length : Int) := by omega
      obtain ⟨bb, o, c', e, hbb, hc⟩ := HZ1.out.eras.cells (by omega)
      cases e
      have hx := hc k hlk
      have her := hat k hlk
      rw [errAt_eq hlk] at her
      obtain ⟨x, hxk⟩ : ∃ x, l[k] = x := ⟨_, rfl⟩
      rw [hxk] at hx her
      obtain ⟨-, hof, hsf, -, -, -⟩ := errE_zero her
      have hax : atX S l i = x := by unfold atX; rw [hk, List.getD_eq_getElem?_getD, List.getElem?_eq_getElem hlk, hxk]; rfl
      have HV := Lib.hid (show atZ S l i = zwithinV x.n x.ru x.fm (ruleE S x) i by unfold atZ; rw [if_neg (fun h => h HE.out), if_neg hi, hax])
      obtain ⟨a, d, s, err, hzw⟩ := zwithinV_form x.n x.ru x.fm (ruleE S x) i
      have hfm : x.fm.size < 4294967281 := by rw [← hxk]; exact HO.out.fm _ (List.getElem_mem hlk)
      have HOF := Lib.hid (fun (W : World) (h : ZW W B (.slice (some ⟨bb, o, none⟩) l.length cA) sv l S) => zof_any W zn (.slice (some ⟨bb, o, none⟩) l.length cA) sv B S h.sets h.le x)
      have HWI := Lib.hid (fun (W : World) (h : ZW W B (.slice (some ⟨bb, o, none⟩) l.length cA) sv l S) => zwithin_any W x.n x.ru x.fm x.en B (rvalE S x) (ruleE S x) h.maxl hfm ⟨h.sets.rule x, h.ahead, h.tab, h.le⟩ (HO.out.rule x) i (by omega) (by omega) (by omega) (sum_ok (HO.out.rule x) (ZOk.ruleL HLT.out x) hsf))
      rw [hzw] at HV HWI
      obtain ⟨A3, c3', e3⟩ := rvalE_form HZ1.out.sets x
      rw [e3] at HOF HWI
      unfold setsV worldA eraA at HOF
      unfold eraA at HWI
      obtain ⟨c0, c1, c2, c3, c4, c5, c6, c7, c8, c9, c10, c11⟩ := hx
      have HERA := Lib.hid (fun (W : World) (h : Below w1.heap.size w1 W) => zera_any W w1.heap.size v (endL S l) i (HV0.out.below h))
      rw [hk] at HERA
      have x1 := HX1.out.cell 1 (v := .slice (some ⟨bb, o, none⟩) l.length cA) rfl
      have hzl1 : w.heap.size < w1.heap.size := HX1.out.lt
      have hbl1 : bb < w1.heap.size := by have := HZ1.out.le; omega
      clear hi hl0 hat hkle hk hc her hof hsf hax hzw hfm e3 hxk
      obtain ⟨A6, c6', hv6, -, -⟩ := HV0.out.form
      rw [hv6] at HERA ⊢
      clear hv6
      go_wp2_with fail
      go_region_held3 (fun w' => w'.cell? ⟨w.heap.size, 1, none⟩ = some (.slice (some ⟨bb, o, none⟩) l.length cA) ∧ w'.cell? ⟨bb, o + k * 12, none⟩ = some (.int .i64 x.n.off) ∧ w'.cell? ⟨bb, o + k * 12 + 1, none⟩ = some (.string x.ru) ∧ w'.cell? ⟨bb, o + k * 12 + 2, none⟩ = some (.int .i64 x.n.save) ∧ w'.cell? ⟨bb, o + k * 12 + 3, none⟩ = some (.string x.fm) ∧ w'.cell? ⟨bb, o + k * 12 + 4, none⟩ = some (.bool x.en) ∧ w'.cell? ⟨bb, o + k * 12 + 5, none⟩ = some (.int .i64 x.n.year) ∧ w'.cell? ⟨bb, o + k * 12 + 6, none⟩ = some (.int .i64 x.n.month) ∧ w'.cell? ⟨bb, o + k * 12 + 7, none⟩ = some (.int .i64 x.n.dk) ∧ w'.cell? ⟨bb, o + k * 12 + 8, none⟩ = some (.int .i64 x.n.dw) ∧ w'.cell? ⟨bb, o + k * 12 + 9, none⟩ = some (.int .i64 x.n.dn) ∧ w'.cell? ⟨bb, o + k * 12 + 10, none⟩ = some (.int .i64 x.n.sec) ∧ w'.cell? ⟨bb, o + k * 12 + 11, none⟩ = some (.int .i64 x.n.ak)) (first | exact ⟨x1, c0, c1, c2, c3, c4, c5, c6, c7, c8, c9, c10, c11⟩ | go_keep)
        (first | (go_at_call 23; refine (HERA.out _ (by first | exact Below.refl _ _ | exact (Below.refl _ _).drew | exact ((Below.refl _ _).alloc (Nat.le_refl _) _).drew)).mono ?_; rintro o w' ⟨rfl, rfl⟩))
      all_goals
        rename_i K0 hK0 hh
        clear hh
        refine hK0 _ _ ?_
        clear hK0
        go_wp2_with fail
        have hb6 : Below w.heap.size w (w1.alloc (.cells #[.int .i64 x.n.off, .string x.ru, .int .i64 x.n.save, .string x.fm, .bool x.en, .int .i64 x.n.year, .int .i64 x.n.month, .int .i64 x.n.dk, .int .i64 x.n.dw, .int .i64 x.n.dn, .int .i64 x.n.sec, .int .i64 x.n.ak] 54)).drew := (HB1.out.alloc HB1.out.size _).drew
        have he6 : Blk (w1.alloc (.cells #[.int .i64 x.n.off, .string x.ru, .int .i64 x.n.save, .string x.fm, .bool x.en, .int .i64 x.n.year, .int .i64 x.n.month, .int .i64 x.n.dk, .int .i64 x.n.dw, .int .i64 x.n.dn, .int .i64 x.n.sec, .int .i64 x.n.ak] 54)).drew w1.heap.size 54 #[.int .i64 x.n.off, .string x.ru, .int .i64 x.n.save, .string x.fm, .bool x.en, .int .i64 x.n.year, .int .i64 x.n.month, .int .i64 x.n.dk, .int .i64 x.n.dw, .int .i64 x.n.dn, .int .i64 x.n.sec, .int .i64 x.n.ak] := Blk.new w1 54 _
        have hr6 : Blk (w1.alloc (.cells #[.int .i64 x.n.off, .string x.ru, .int .i64 x.n.save, .string x.fm, .bool x.en, .int .i64 x.n.year, .int .i64 x.n.month, .int .i64 x.n.dk, .int .i64 x.n.dw, .int .i64 x.n.dn, .int .i64 x.n.sec, .int .i64 x.n.ak] 54)).drew (w.heap.size + 1) 41 #[.int .i64 0, .bool false, .string ⟨#[]⟩] := HR1.out.alloc (.cells #[.int .i64 x.n.off, .string x.ru, .int .i64 x.n.save, .string x.fm, .bool x.en, .int .i64 x.n.year, .int .i64 x.n.month, .int .i64 x.n.dk, .int .i64 x.n.dw, .int .i64 x.n.dn, .int .i64 x.n.sec, .int .i64 x.n.ak] 54)
        obtain ⟨W6, hW6⟩ : ∃ W, (w1.alloc (.cells #[.int .i64 x.n.off, .string x.ru, .int .i64 x.n.save, .string x.fm, .bool x.en, .int .i64 x.n.year, .int .i64 x.n.month, .int .i64 x.n.dk, .int .i64 x.n.dw, .int .i64 x.n.dn, .int .i64 x.n.sec, .int .i64 x.n.ak] 54)).drew = W := ⟨_, rfl⟩
        rw [hW6] at hb6 he6 hr6 ⊢
        clear hW6 c0 c1 c2 c3 c4 c5 c6 c7 c8 c9 c10 c11 x1
        have HB6 := Lib.hid hb6
        have HE6 := Lib.hid he6
        have HR6 := Lib.hid hr6
        clear hb6 he6 hr6
        refine wp_envS (fin := ?fnA) (by kernel_rfl) [35, 36, 37, 38, 39, 40, 41, 42, 99, 7]
          [.agg #[.int .i64 x.n.off, .string x.ru, .int .i64 x.n.save, .string x.fm, .bool x.en, .int .i64 x.n.year, .int .i64 x.n.month, .int .i64 x.n.dk, .int .i64 x.n.dw, .int .i64 x.n.dn, .int .i64 x.n.sec, .int .i64 x.n.ak], .func (.func 17) #[.agg #[.string zn, .slice (some ⟨bb, o, none⟩) l.length cA, sv]] #[], .agg #[.int .i64 x.n.off, .string x.ru, .int .i64 x.n.save, .string x.fm, .bool x.en, .int .i64 x.n.year, .int .i64 x.n.month, .int .i64 x.n.dk, .int .i64 x.n.dw, .int .i64 x.n.dn, .int .i64 x.n.sec, .int .i64 x.n.ak], .slice A3 (ruleE S x).length c3', .int .i64 i, .tuple #[.agg #[.int .i64 a, .bool d, .string s], .int .i64 err], .agg #[.int .i64 a, .bool d, .string s], .int .i64 err, undef, .int .i64 err] 8 (fun k => k = w.heap.size + 1) (fun W => Blk W (w.heap.size + 1) 41 #[.int .i64 a, .bool d, .string s]) (fun W W' h hb => Blk.below h hb (Blk.lt h)) (by kernel_rfl) (by decide) (by simp) ?finA ?stepsA ?nextA
        case finA =>
          simp only [putAll, Act.put, List.setIfInBounds_toArray, List.set_cons_succ, List.set_cons_zero, List.set_nil]
          try rfl
        case stepsA =>
          refine ⟨?_, ?_, ?_, ?_, ?_, ?_, ?_, ?_, ?_, ?_, trivial⟩
          all_goals
            refine .inr ⟨by kernel_rfl, fun w1_ hB_ hF_ => ?_⟩
            have he7 : Blk w1_ w1.heap.size 54 #[.int .i64 x.n.off, .string x.ru, .int .i64 x.n.save, .string x.fm, .bool x.en, .int .i64 x.n.year, .int .i64 x.n.month, .int .i64 x.n.dk, .int .i64 x.n.dw, .int .i64 x.n.dn, .int .i64 x.n.sec, .int .i64 x.n.ak] := Blk.fr HE6.out hF_ (by omega)
            have hz7 := HZ0.out.below (HB6.out.trans (hF_.below HB6.out.size (fun k hk => by omega)))
            have c0 := he7.cell 0 (v := .int .i64 x.n.off) rfl
            have c1 := he7.cell 1 (v := .string x.ru) rfl
            have c2 := he7.cell 2 (v := .int .i64 x.n.save) rfl
            have c3 := he7.cell 3 (v := .string x.fm) rfl
            have c4 := he7.cell 4 (v := .bool x.en) rfl
            have c5 := he7.cell 5 (v := .int .i64 x.n.year) rfl
            have c6 := he7.cell 6 (v := .int .i64 x.n.month) rfl
            have c7 := he7.cell 7 (v := .int .i64 x.n.dk) rfl
            have c8 := he7.cell 8 (v := .int .i64 x.n.dw) rfl
            have c9 := he7.cell 9 (v := .int .i64 x.n.dn) rfl
            have c10 := he7.cell 10 (v := .int .i64 x.n.sec) rfl
            have c11 := he7.cell 11 (v := .int .i64 x.n.ak) rfl
            first
              | (go_simp; first | exact ⟨rfl, rfl, Below.refl _ _⟩ | exact ⟨rfl, rfl, HOF.out _ hz7⟩ | exact ⟨rfl, rfl, HWI.out _ hz7⟩)
              | (have hr7 := HR6.out.below (hB_ rfl) HR6.out.lt; have f0 := hr7.frozen 0; have f1 := hr7.frozen 1; have f2 := hr7.frozen 2; have r0 := hr7.cell 0 (v := .int .i64 0) rfl; have r1 := hr7.cell 1 (v := .bool false) rfl; have r2 := hr7.cell 2 (v := .string ⟨#[]⟩) rfl; go_simp; exact ⟨rfl, rfl, fr_set3 (T := fun k => k = w.heap.size + 1) _ rfl _ _ _, ((hr7.set 0 _).set 1 _).set 2 _⟩)
        case nextA =>
          intro W8 hF8 hR8
          have hb8 := HB6.out.trans (hF8.below HB6.out.size (fun k hk => by omega))
          go_wp2_with fail
          refine bodyPost_ret (v := .tuple #[.agg #[.int .i64 a, .bool d, .string s], .int .i64 err]) ?_ rfl ⟨by rw [HV.out], hb8⟩
          have c0 := hR8.cell 0 (v := .int .i64 a) rfl
          have c1 := hR8.cell 1 (v := .bool d) rfl
          have c2 := hR8.cell 2 (v := .string s) rfl
          simp [results, Tryz.f20, go_sem, c0, c1, c2]
  · have HV := Lib.hid (show atZ S l i = badL E by unfold atZ; rw [if_pos (by rw [HE.out]; exact hE0), HE.out])
    unfold badL at HV
    have he0 : (E != 0) = true := by simpa using hE0
    have hvv := hvn hE0
    subst hvv
    have r0 := HR1.out.cell 0 (v := .int .i64 0) rfl
    have r1 := HR1.out.cell 1 (v := .bool false) rfl
    have r2 := HR1.out.cell 2 (v := .string ⟨#[]⟩) rfl
    have f0 := HR1.out.frozen 0
    have f1 := HR1.out.frozen 1
    have f2 := HR1.out.frozen 2
    clear hv0 hvn hE0
    go_wp2_with fail
    have HW := Lib.hid (((HR1.out.set 0 (.int .i64 0)).set 1 (.bool false)).set 2 (.string ⟨#[]⟩))
    refine bodyPost_ret (v := .tuple #[.agg #[.int .i64 0, .bool false, .string ⟨#[]⟩], .int .i64 E]) ?_ rfl ⟨by rw [HV.out], below_set3 HB1.out (by omega) _ _ _⟩
    have c0 := HW.out.cell 0 (v := .int .i64 0) rfl
    have c1 := HW.out.cell 1 (v := .bool false) rfl
    have c2 := HW.out.cell 2 (v := .string ⟨#[]⟩) rfl
    simp [results, Tryz.f20, go_sem, c0, c1, c2]
end Go.Proofs.YtonmmgcibpjahaaGreatDoor
end

section
/- GRows: Layer 13's law: Rows, the firings of each era's rules, walked. -/
namespace Go.Proofs.YtonmmgcibpjahaaGreatDoor
open Go Go.RowKit Go.Shelf
set_option maxRecDepth 100000

/-- A row of firings, with its letter. -/
structure RowF where
  v : Value
  D : List FrI
  letter : ByteArray
instance : Inhabited RowF := ⟨⟨.slice none 0 0, [], ⟨#[]⟩⟩⟩
def RowF.cells (r : RowF) : List Value := [r.v, .string r.letter]
def RowF.val (r : RowF) : Value := .agg #[r.v, .string r.letter]
theorem infoRow : (Tryz.prog.info? 57).map (fun i => (i.zero, i.size, i.bytes)) = some (some (.agg #[.slice none 0 0, .string ⟨#[]⟩]), 2, 40) := by kernel_rfl
theorem rule_right {S : List SetF} (h : ∀ s ∈ S, rightB s.l = true) (x : EraF) : rightB (ruleE S x) = true := by
  unfold ruleE
  split
  · exact right_nil
  · exact set_right h x.ru
/-- What a row is of an era. -/
structure RowOk (S : List SetF) (x : EraF) (r : RowF) : Prop where
  right : RightR (ruleE S x) (r.D.map FrI.f)
  letter : r.letter = letV (ruleE S x)
  len : r.D.length ≤ 100000
  bd : ∀ y ∈ r.D, (-1000000000000000 ≤ y.f.nominal ∧ y.f.nominal ≤ 1000000000000000) ∧ -1000000000000000 ≤ y.f.save ∧ y.f.save ≤ 1000000000000000
theorem rowOk_of {S : List SetF} (hS : ∀ s ∈ S, rightB s.l = true) {x : EraF} {r : RowF} (hst : Stab Fir.nominal (genL (ruleE S x) 1890 2110) (r.D.map FrI.f)) (hl : r.letter = letV (ruleE S x)) : RowOk S x r := by
  obtain ⟨A, hA, hs, -⟩ := right_yes (rule_right hS x)
  have e := hst.unique hs
  obtain ⟨h1, h2⟩ := D_ok (rule_right hS x) hst
  exact ⟨by rw [e]; exact hA, hl, h1, h2⟩
theorem rowOk_nil {S : List SetF} (hS : ∀ s ∈ S, rightB s.l = true) {x : EraF} (h0 : x.ru.size = 0) : RowOk S x ⟨.slice none 0 0, [], ⟨#[]⟩⟩ := by
  have e : ruleE S x = [] := by unfold ruleE; rw [if_pos h0]
  refine rowOk_of hS ?_ ?_
  · rw [e]; exact Stab.nil
  · rw [e]; rfl
theorem own_ne {W : World} {X : Nat} {t e : TypeId} {cs : Array Value} {base sz n : Nat} {u : Value} {xs : List Value} (hx : Blk W X t cs) (ho : W.ownsRow base e sz u n xs) (hte : t ≠ e) : u.ownBlock ≠ some X := fun h => by
  rcases ho.2 with ⟨rfl, _⟩ | ⟨g, cap, cur, rfl, hb, hg, -⟩
  · cases h
  · have h1 : g = X := by injection h
    subst h1
    unfold Blk at hx
    rw [hx] at hg
    injection hg with hg
    injection hg with _ hg
    exact hte hg
theorem frisN_grown {W W' : World} {v u : Value} {D : List FrI} {base sz n : Nat} {xs : List Value} (h : FrisN W v D) (ho : W.ownsRow base 57 sz u n xs) (hg : W.grownBy W' u.ownBlock) : FrisN W' v D := by
  have hne : ∀ (b : Nat) (cs : Array Value) (fr : Nat × Nat), W.heap[b]? = some (Obj.cells cs 117 fr) → W'.heap[b]? = W.heap[b]? := fun b cs fr hb => by
    refine hg.block b (Array.getElem?_eq_some_iff.1 hb).1 fun e => ?_
    rcases ho.2 with ⟨rfl, _⟩ | ⟨g, cap, cur, rfl, hb2, hg2, -⟩
    · cases e
    · have h1 : b = g := by injection e
      subst h1
      rw [hb] at hg2
      injection hg2 with hg2
      injection hg2 with _ hg2
      revert hg2
      decide
  obtain ⟨⟨A, c, rfl, h1, h2, hl, hc⟩, hty⟩ := h
  refine ⟨⟨A, c, rfl, h1, h2, hl, fun hn => ?_⟩, hty.kept hne⟩
  obtain ⟨b, o, rfl, hb, hcc⟩ := hc hn
  obtain ⟨cs, fr, hbt⟩ := hty b o _ _ rfl
  exact ⟨b, o, rfl, Nat.lt_of_lt_of_le hb hg.size, fun j y hy => (World.cell?_of_block (hne b cs fr hbt)).trans (hcc j y hy)⟩
/-- Rows in memory. -/
def RowsM (W : World) (u : Value) (R : List RowF) : Prop := Sl W W.heap.size 2 u R.length (R.flatMap RowF.cells) ∧ ∀ r ∈ R, FrisN W r.v r.D
theorem RowsM.below {W W' : World} {u : Value} {R : List RowF} (h : RowsM W u R) (hb : Below W.heap.size W W') : RowsM W' u R := ⟨Sl.more (Sl.below h.1 hb) hb.size, fun r hr => (h.2 r hr).below hb⟩
theorem RowsM.form {W : World} {u : Value} {R : List RowF} (h : RowsM W u R) : ∃ A c, u = .slice A R.length c ∧ R.length ≤ c ∧ c ≤ maxLen := by obtain ⟨A, c, e, h1, h2, _⟩ := h.1; exact ⟨A, c, e, h1, h2⟩
theorem RowsM.cells {W : World} {u : Value} {R : List RowF} (h : RowsM W u R) (hl : 0 < R.length) : ∃ b o c, u = .slice (some ⟨b, o, none⟩) R.length c ∧ b < W.heap.size ∧ ∀ i (hi : i < R.length), W.cell? ⟨b, o + i * 2, none⟩ = some R[i].v ∧ W.cell? ⟨b, o + i * 2 + 1, none⟩ = some (.string R[i].letter) := by
  obtain ⟨b, o, c, e, hb, hc⟩ := Sl.at_ h.1 hl
  refine ⟨b, o, c, e, hb, fun i hi => ?_⟩
  have hk : ∀ k u, k < 2 → (RowF.cells R[i])[k]? = some u → W.cell? ⟨b, o + i * 2 + k, none⟩ = some u := fun k u hk hu => by
    rw [Nat.add_assoc]
    exact hc _ u (by rw [flat_at RowF.cells 2 R (fun a _ => rfl) i k hi hk]; exact hu)
  exact ⟨hk 0 _ (by omega) rfl, hk 1 _ (by omega) rfl⟩
def RowsPost (w : World) (S : List SetF) (l : List EraF) (o : Ending) (w' : World) : Prop :=
  (∃ u R, o = .returned u ∧ R.length = l.length ∧ (∀ i (h : i < R.length) (h2 : i < l.length), RowOk S l[i] R[i]) ∧ RowsM w' u R) ∧ Below w.heap.size w w'
set_option maxHeartbeats 4000000 in
theorem rows_any (zn : ByteArray) (ev sv : Value) (B : Nat) (l : List EraF) (S : List SetF) (w : World) (hz : ZW w B ev sv l S) (hS : ∀ s ∈ S, rightB s.l = true) (hl : l.length ≤ 1000000) :
    Calls Tryz.prog 19 #[worldA zn ev sv] w (RowsPost w S l) := by
  obtain ⟨A, cA, rfl, hlc, hcm⟩ := hz.eras.form
  obtain ⟨A2, cS, rfl, -, -⟩ := hz.sets.form
  unfold maxLen at hcm
  have hb0 : Below w.heap.size w (w.alloc (.cells #[.string zn, .slice A l.length cA, .slice A2 S.length cS] 27)) := (Below.refl w.heap.size w).alloc (Nat.le_refl _) _
  have HX := Lib.hid (Blk.new w 27 #[.string zn, .slice A l.length cA, .slice A2 S.length cS])
  have HB := Lib.hid hb0
  have HZ0 := Lib.hid hz
  have HS := Lib.hid hS
  obtain ⟨i0, hi0, hz0, hz1, hz2⟩ := info_parts infoRow
  clear hz hb0 hS
  unfold worldA
  go_enter Tryz.func19, Tryz.ntmps19
  go_wp2_with fail
  obtain ⟨W0, hW0⟩ : ∃ W, w.alloc (.cells #[.string zn, .slice A l.length cA, .slice A2 S.length cS] 27) = W := ⟨_, rfl⟩
  rw [hW0] at HX HB
  try simp only [hW0]
  clear hW0
  go_loopw [3, 4] (fun u iv wr => ∃ R : List RowF, R.length ≤ l.length ∧ iv = .int .i64 R.length ∧ wr.ownsRow w.heap.size 57 2 u R.length (R.flatMap RowF.cells) ∧ (∀ r ∈ R, FrisN wr r.v r.D) ∧ (∀ i (h : i < R.length) (h2 : i < l.length), RowOk S l[i] R[i]) ∧ Blk wr w.heap.size 27 #[.string zn, .slice A l.length cA, .slice A2 S.length cS] ∧ Below w.heap.size w wr) (fun _ iv _ => l.length - (intOf iv).toNat)
  case atStart => exact ⟨[], Nat.zero_le _, rfl, World.ownsRow_nil _ _ _ _, fun _ h => absurd h List.not_mem_nil, fun i h => absurd h (Nat.not_lt_zero i), HX.out, HB.out⟩
  case round =>
    obtain ⟨R, hR, rfl, hown, hfs, hro, hxb, hbw⟩ := hrel
    have HOW := Lib.hid hown
    have HFS := Lib.hid hfs
    have HRO := Lib.hid hro
    have HXW := Lib.hid hxb
    have HBW := Lib.hid hbw
    have HZW := Lib.hid (HZ0.out.below hbw)
    obtain ⟨A5, c5, hu⟩ := (Sl.of_own hown).form
    subst hu
    have hws := hbw.size
    have hxl := HXW.out.lt
    have x0 := HXW.out.cell 0 (v := .string zn) rfl
    have x1 := HXW.out.cell 1 (v := .slice A l.length cA) rfl
    have x2 := HXW.out.cell 2 (v := .slice A2 S.length cS) rfl
    clear hown hfs hro hxb hbw
    by_cases hlt : R.length < l.length
    · have hd : decide ((R.length : Int) < (l.length : Int)) = true := decide_eq_true (by omega)
      obtain ⟨bb, o, c', e, hbb, hc⟩ := HZW.out.eras.cells (by omega)
      cases e
      have hx := hc _ hlt
      have hbbl : bb < wr.heap.size := by have := HZW.out.le; omega
      obtain ⟨x, hxk⟩ : ∃ x, l[R.length] = x := ⟨_, rfl⟩
      rw [hxk] at hx
      have HXK := Lib.hid hxk
      obtain ⟨c0, c1, c2, c3, c4, c5, c6, c7, c8, c9, c10, c11⟩ := hx
      have HBI2 := Lib.hid ((Below.refl wr.heap.size wr).alloc (Nat.le_refl _) (.cells #[.slice none 0 0, .string ⟨#[]⟩] 57))
      have HR2 := Lib.hid (Blk.new wr 57 #[.slice none 0 0, .string ⟨#[]⟩])
      have HRL := Lib.hid (show R.length ≤ 1000000 by omega)
      clear hc hxk c0 c2 c3 c4 c5 c6 c7 c8 c9 c10 c11
      by_cases hru : x.ru.size = 0
      · have hem : (x.ru.toList == []) = true := by rw [emp_size, decide_eq_true hru]
        have HROK := Lib.hid (rowOk_nil HS.out hru)
        obtain ⟨rr, hrr⟩ : ∃ r : RowF, (⟨.slice none 0 0, [], ⟨#[]⟩⟩ : RowF) = r := ⟨_, rfl⟩
        have HRR := Lib.hid (show FrisN (wr.alloc (.cells #[.slice none 0 0, .string ⟨#[]⟩] 57)) rr.v rr.D by rw [← hrr]; exact ⟨Sl.nil _ _ _, TyF.nil _ _ _⟩)
        have HRV := Lib.hid (show rr.v = .slice none 0 0 ∧ rr.letter = ⟨#[]⟩ by rw [← hrr]; exact ⟨rfl, rfl⟩)
        rw [hrr] at HROK
        have HBI5 := HBI2
        clear hru hrr
        have HOW5 := Lib.hid (ownsRow_below HOW.out HBI5.out)
        have HB5 := Lib.hid (HBW.out.trans (HBI5.out.mono HBW.out.size))
        have HX5 := Lib.hid (HXW.out.below HBI5.out HXW.out.lt)
        have hsz5 := HB5.out.size
        go_wp2_with (at_builtin; go_loud (refine wpList_append_own _ rfl _ _ 38 rfl w.heap.size 57 i0 (.agg #[.slice none 0 0, .string ⟨#[]⟩]) 2 40 Tryz.underlying38 hi0 hz0 hz1 hz2 rfl (by decide) _ R.length _ rfl (HOW5.out.alloc _) ⟨wr.heap.size + 1, 0, none⟩ 1 1 [.slice none 0 0, .string ⟨#[]⟩] rfl rfl (fun j y hy => by rw [Addr.add_lit, Nat.zero_add]; first | exact (cell_new2 _ _ _ _ _ j).trans (by simpa using hy) | exact (cell_new _ _ _ _ j).trans (by simpa using hy)) (by simp [Value.oneCell']) (by unfold maxLen; omega) (by omega) (by simp; omega) ?_); intro v' w1 hown' hgrow _)
        go_roundw
        case rel =>
          refine ⟨R ++ [rr], ?_, by rw [List.length_append]; go_num, ?_, ?_, ?_, ?_, below_push HB5.out HOW5.out hgrow⟩
          · rw [List.length_append]; exact hlt
          · rw [List.length_append, List.flatMap_append]
            simpa [RowF.cells, HRV.out] using hown'
          · intro r hr
            have ho := HOW5.out.alloc (.cells #[.slice none 0 0, .string ⟨#[]⟩] 57)
            have hab : Below (wr.alloc (.cells #[.slice none 0 0, .string ⟨#[]⟩] 57)).heap.size (wr.alloc (.cells #[.slice none 0 0, .string ⟨#[]⟩] 57)) ((wr.alloc (.cells #[.slice none 0 0, .string ⟨#[]⟩] 57)).alloc (.cells #[.slice none 0 0, .string ⟨#[]⟩] 57)) := (Below.refl _ _).alloc (Nat.le_refl _) _
            rcases List.mem_append.1 hr with hr | hr
            · exact frisN_grown (((HFS.out r hr).below HBI5.out).below hab) ho hgrow
            · obtain rfl : r = rr := by simpa using hr
              exact frisN_grown (HRR.out.below hab) ho hgrow
          · intro i h h2
            rcases Nat.lt_or_ge i R.length with g | g
            · rw [List.getElem_append_left g]; exact HRO.out i g h2
            · have : i = R.length := by rw [List.length_append] at h; simp at h; omega
              subst this
              rw [List.getElem_append_right (Nat.le_refl _)]
              simp only [Nat.sub_self, List.getElem_cons_zero]
              rw [HXK.out]; exact HROK.out
          · exact (HX5.out.alloc (.cells #[.slice none 0 0, .string ⟨#[]⟩] 57)).grown hgrow (own_ne (HX5.out.alloc (.cells #[.slice none 0 0, .string ⟨#[]⟩] 57)) (HOW5.out.alloc (.cells #[.slice none 0 0, .string ⟨#[]⟩] 57)) (by decide))
        case measure => first | (simp [intOf]; done) | (simp [intOf]; omega)
      · have hem : (x.ru.toList == []) = false := by rw [emp_size, decide_eq_false hru]
        have HRE := Lib.hid (show ruleE S x = ofRul S x.ru by unfold ruleE; rw [if_neg hru])
        clear hru
        go_wp2_with fail
        obtain ⟨W5, hW5⟩ : ∃ W, wr.alloc (.cells #[.slice none 0 0, .string ⟨#[]⟩] 57) = W := ⟨_, rfl⟩
        rw [hW5] at HBI2 HR2
        try simp only [hW5]
        clear hW5
        have HZ5 := Lib.hid (HZW.out.below (below_drewN HBI2.out 1))
        have HX5_ := Lib.hid (HXW.out.below HBI2.out HXW.out.lt)
        have hx5l := HX5_.out.lt
        have x0 := HX5_.out.cell 0 (v := .string zn) rfl
        have x1 := HX5_.out.cell 1 (v := .slice (some ⟨bb, o, none⟩) l.length cA) rfl
        have x2 := HX5_.out.cell 2 (v := .slice A2 S.length cS) rfl
        have c1 := (HBI2.out.cell (p := ⟨bb, o + R.length * 12 + 1, none⟩) (by show bb < _; have := HZW.out.le; omega)).trans c1
        have HOF := Lib.hid (wof_any _ zn (.slice (some ⟨bb, o, none⟩) l.length cA) (.slice A2 S.length cS) B S HZ5.out.sets HZ5.out.le x.ru)
        obtain ⟨A3, c3', e3⟩ := ofVal_form HZ5.out.sets x.ru
        have HRU := Lib.hid (HZ5.out.sets.of_ruls x.ru)
        rw [e3] at HOF HRU
        unfold worldA at HOF
        refine wp_text (by kernel_rfl) (by kernel_rfl) ?_
        intro K hK
        go_wp2_with fail
        refine HOF.out.mono ?_
        rintro e w6 ⟨rfl, hb⟩
        have HB6 := Lib.hid ((below_drewN (Below.refl W5.heap.size W5) 1).trans hb)
        have HR6 := Lib.hid (HRU.out.below (hb.mono HZ5.out.le))
        have hs6 := HB6.out.size
        clear hb x0 x1 x2 c1 HOF HZ5 HRU
        go_wp2_with fail
        refine (rof_any w6 B _ (ofRul S x.ru) HR6.out (by have := HZW.out.le; have := HBI2.out.size; omega) (right_small (set_right HS.out x.ru))).mono ?_
        rintro e w7 ⟨u, D, rfl, hst, hfr, hb⟩
        have HB7 := Lib.hid (HB6.out.trans (hb.mono hs6))
        have hr7 := (HR2.out.below HB6.out HR2.out.lt).below hb (Nat.lt_of_lt_of_le HR2.out.lt hs6)
        have HR7 := Lib.hid hr7
        have HFR := Lib.hid hfr
        have hr7l := hr7.lt
        have r0 := hr7.cell 0 (v := .slice none 0 0) rfl
        have r1 := hr7.cell 1 (v := .string ⟨#[]⟩) rfl
        have f0 := hr7.frozen 0
        have f1 := hr7.frozen 1
        have HROK := Lib.hid (show RowOk S x ⟨u, D, letV (ofRul S x.ru)⟩ from rowOk_of HS.out (by rw [HRE.out]; exact hst) (by rw [HRE.out]))
        obtain ⟨A6, c6', rfl, -, -⟩ := hfr.1.form
        clear hb hr7 hst hfr
        go_wp2_with fail
        refine ⟨by simp [goodB, fits, plainPair, isSeqV, quiet, Act.eval], ?_⟩
        obtain ⟨rr, hrr⟩ : ∃ r : RowF, (⟨.slice A6 D.length c6', D, letV (ofRul S x.ru)⟩ : RowF) = r := ⟨_, rfl⟩
        have hf8 := (Fr.setCell (T := fun k => k = wr.heap.size) w7 0 (.slice A6 D.length c6') rfl).then (Fr.setCell (b := wr.heap.size) _ 1 (.string (letV (ofRul S x.ru))) rfl)
        have hn8 : FrisN ((w7.setCell ⟨wr.heap.size, 0, none⟩ (.slice A6 D.length c6')).setCell ⟨wr.heap.size, 1, none⟩ (.string (letV (ofRul S x.ru)))) (.slice A6 D.length c6') D :=
          ⟨fris_other HFR.out.1 HR7.out rfl rfl hf8 (by simp), HFR.out.2.kept fun b cs fr h1 => hf8.block b (Array.getElem?_eq_some_iff.1 h1).1 (fun e => by have h2 := HR7.out; subst e; unfold Blk at h2; rw [h1] at h2; injection h2 with h2; injection h2 with _ h2; revert h2; decide)⟩
        have hb8 : Below wr.heap.size wr ((w7.setCell ⟨wr.heap.size, 0, none⟩ (.slice A6 D.length c6')).setCell ⟨wr.heap.size, 1, none⟩ (.string (letV (ofRul S x.ru)))) := ((HBI2.out.trans (HB7.out.mono HBI2.out.size)).setCell (Nat.le_refl _) _).setCell (Nat.le_refl _) _
        have hr8 := (HR7.out.set 0 (.slice A6 D.length c6')).set 1 (.string (letV (ofRul S x.ru)))
        obtain ⟨w8, hw8⟩ : ∃ W, (w7.setCell ⟨wr.heap.size, 0, none⟩ (.slice A6 D.length c6')).setCell ⟨wr.heap.size, 1, none⟩ (.string (letV (ofRul S x.ru))) = W := ⟨_, rfl⟩
        rw [hw8] at hn8 hb8 hr8 ⊢
        have HRR := Lib.hid (show FrisN w8 rr.v rr.D by rw [← hrr]; exact hn8)
        have HRV := Lib.hid (show rr.v = .slice A6 D.length c6' ∧ rr.letter = letV (ofRul S x.ru) by rw [← hrr]; exact ⟨rfl, rfl⟩)
        rw [hrr] at HROK
        have HBI5 := Lib.hid hb8
        have r0 := hr8.cell 0 (v := .slice A6 D.length c6') rfl
        have r1 := hr8.cell 1 (v := .string (letV (ofRul S x.ru))) rfl
        have hr8l := hr8.lt
        clear hrr hf8 hn8 hb8 hr8 hw8 f0 f1 hr7l
        have HOW5 := Lib.hid (ownsRow_below HOW.out HBI5.out)
        have HB5 := Lib.hid (HBW.out.trans (HBI5.out.mono HBW.out.size))
        have HX5 := Lib.hid (HXW.out.below HBI5.out HXW.out.lt)
        have hsz5 := HB5.out.size
        go_wp2_with (at_builtin; go_loud (refine wpList_append_own _ rfl _ _ 38 rfl w.heap.size 57 i0 (.agg #[.slice none 0 0, .string ⟨#[]⟩]) 2 40 Tryz.underlying38 hi0 hz0 hz1 hz2 rfl (by decide) _ R.length _ rfl (HOW5.out.alloc _) ⟨w8.heap.size, 0, none⟩ 1 1 [.slice A6 D.length c6', .string (letV (ofRul S x.ru))] rfl rfl (fun j y hy => by rw [Addr.add_lit, Nat.zero_add]; first | exact (cell_new2 _ _ _ _ _ j).trans (by simpa using hy) | exact (cell_new _ _ _ _ j).trans (by simpa using hy)) (by simp [Value.oneCell']) (by unfold maxLen; omega) (by omega) (by simp; omega) ?_); intro v' w1 hown' hgrow _)
        go_roundw
        case rel =>
          refine ⟨R ++ [rr], ?_, by rw [List.length_append]; go_num, ?_, ?_, ?_, ?_, below_push HB5.out HOW5.out hgrow⟩
          · rw [List.length_append]; exact hlt
          · rw [List.length_append, List.flatMap_append]
            simpa [RowF.cells, HRV.out] using hown'
          · intro r hr
            have ho := HOW5.out.alloc (.cells #[.slice A6 D.length c6', .string (letV (ofRul S x.ru))] 57)
            have hab : Below (w8).heap.size (w8) ((w8).alloc (.cells #[.slice A6 D.length c6', .string (letV (ofRul S x.ru))] 57)) := (Below.refl _ _).alloc (Nat.le_refl _) _
            rcases List.mem_append.1 hr with hr | hr
            · exact frisN_grown (((HFS.out r hr).below HBI5.out).below hab) ho hgrow
            · obtain rfl : r = rr := by simpa using hr
              exact frisN_grown (HRR.out.below hab) ho hgrow
          · intro i h h2
            rcases Nat.lt_or_ge i R.length with g | g
            · rw [List.getElem_append_left g]; exact HRO.out i g h2
            · have : i = R.length := by rw [List.length_append] at h; simp at h; omega
              subst this
              rw [List.getElem_append_right (Nat.le_refl _)]
              simp only [Nat.sub_self, List.getElem_cons_zero]
              rw [HXK.out]; exact HROK.out
          · exact (HX5.out.alloc (.cells #[.slice A6 D.length c6', .string (letV (ofRul S x.ru))] 57)).grown hgrow (own_ne (HX5.out.alloc (.cells #[.slice A6 D.length c6', .string (letV (ofRul S x.ru))] 57)) (HOW5.out.alloc (.cells #[.slice A6 D.length c6', .string (letV (ofRul S x.ru))] 57)) (by decide))
        case measure => first | (simp [intOf]; done) | (simp [intOf]; omega)
    · obtain he : R.length = l.length := by omega
      have hd : decide ((R.length : Int) < (l.length : Int)) = false := decide_eq_false (by omega)
      have HLE := Lib.hid he
      clear he
      go_wp2_with fail
      go_ret
      exact ⟨⟨_, R, rfl, HLE.out, HRO.out, Sl.of_own HOW.out, HFS.out⟩, HBW.out⟩
end Go.Proofs.YtonmmgcibpjahaaGreatDoor
end
