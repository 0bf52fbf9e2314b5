/-
  From the rows' readings of eras to the words of the walks.
-/
import Derived.Maps.AppendAt
import Derived.Test.YtonmmgcibpjahaaGreatDoorChecked
import Derived.Test.YtonmmgcibpjahaaGreatDoorRows
import Derived.Lib.LaidTab
import Derived.Test.YtonmmgcibpjahaaGreatDoorZs10
section
/- GZone: Layer 13's Check of any zone, walked. -/
namespace Go.Proofs.YtonmmgcibpjahaaGreatDoor
open Go Go.RowKit Go.Shelf
set_option maxRecDepth 100000

/-- What a walk of a zone's functions leans on. -/
structure ZW (W : World) (B : Nat) (ev sv : Value) (l : List EraF) (S : List SetF) : Prop where
  eras : ErasR W B ev l
  sets : SetsR W B sv S
  ahead : Ahead W
  tab : 0 < B
  maxl : Tryz.MaxL W
  le : B ≤ W.heap.size
theorem ZW.below {W W' : World} {B : Nat} {ev sv : Value} {l : List EraF} {S : List SetF} (h : ZW W B ev sv l S) (hb : Below W.heap.size W W') : ZW W' B ev sv l S :=
  ⟨h.eras.below (hb.mono h.le), h.sets.below (hb.mono h.le), h.ahead.below hb (Nat.le_refl _), h.tab, h.maxl.below hb (Nat.le_refl _), Nat.le_trans h.le hb.size⟩
/-- What is asked of a world's numbers (few gives it). -/
structure ZOk (l : List EraF) (S : List SetF) : Prop where
  fm : ∀ x ∈ l, x.fm.size < 4294967281
  rul : ∀ s ∈ S, RuOk s.l
  len : l.length ≤ 1000000
theorem ruok_nil : RuOk [] where
  yr := fun r hr => (by cases hr)
  sv := fun f hf => (by obtain ⟨r, hr, _⟩ := hf; cases hr)
  len := by decide
  mon := fun z hz => (by cases hz)
theorem ZOk.rule {l : List EraF} {S : List SetF} (h : ZOk l S) (x : EraF) : RuOk (ruleE S x) := by
  unfold ruleE ofRul
  split
  · exact ruok_nil
  · cases hs : ofS S x.ru with
    | none => exact ruok_nil
    | some s => exact h.rul s (List.mem_of_find?_eq_some hs)
def zoneA (zn : ByteArray) (ev : Value) : Value := .agg #[.string zn, ev]
set_option maxHeartbeats 4000000 in
theorem zcheckZ_any (zn : ByteArray) (ev sv : Value) (B : Nat) (l : List EraF) (S : List SetF) (w : World) (hz : ZW w B ev sv l S) (ho : ZOk l S) :
    Calls Tryz.prog 16 #[zoneA zn ev, setsV zn ev sv] w fun o w' => o = .returned (.int .i64 (errZ S l)) ∧ Below w.heap.size w w' := by
  obtain ⟨A, cA, rfl, hlc, hcm⟩ := hz.eras.form
  unfold maxLen at hcm
  have heq := fun (w : World) => run_eql_func_nil w 111 (.func 17) #[worldA zn (.slice A l.length cA) sv] #[] Tryz.underlying111
  have hb0 : Below w.heap.size w (w.alloc (.cells #[.string zn, .slice A l.length cA] 24)) := (Below.refl w.heap.size w).alloc (Nat.le_refl _) _
  have HX := Lib.hid (Blk.new w 24 #[.string zn, .slice A l.length cA])
  have HZ := Lib.hid (hz.below hb0)
  have HB := Lib.hid hb0
  have HO := Lib.hid ho
  clear hz hb0 ho
  unfold setsV zoneA
  unfold worldA at heq ⊢
  by_cases hl0 : l.length = 0
  · have HV := Lib.hid (errZ_none (S := S) hl0)
    have hd0 : ((l.length : Int) == 0) = true := by simpa using hl0
    clear hl0
    go_enter Tryz.func16, Tryz.ntmps16
    go_wp2_with fail
    go_ret
    exact ⟨by rw [HV.out]; rfl, HB.out⟩
  · have hd0 : ((l.length : Int) == 0) = false := by simpa using hl0
    have HL0 := Lib.hid hl0
    clear hl0
    go_enter Tryz.func16, Tryz.ntmps16
    go_wp2_with fail
    obtain ⟨W0, hW0⟩ : ∃ W, w.alloc (.cells #[.string zn, .slice A l.length cA] 24) = W := ⟨_, rfl⟩
    rw [hW0] at HX HZ HB
    try simp only [hW0]
    clear hW0
    go_loopw [27] (fun iv wr => ∃ k : Nat, k ≤ l.length ∧ iv = .int .i64 k ∧ (∀ i (h : i < l.length), i < k → missB S l[i] = false) ∧ Below w.heap.size w wr ∧ Below W0.heap.size W0 wr) (fun iv _ => l.length - (intOf iv).toNat)
    case atStart => exact ⟨0, Nat.zero_le _, rfl, fun i _ h => absurd h (by omega), HB.out, Below.refl _ _⟩
    case round =>
      obtain ⟨k, hk, rfl, hno, hbw, hbi⟩ := hrel
      have HNO := Lib.hid hno
      have HBW := Lib.hid hbw
      have HBI := Lib.hid hbi
      have HXW := Lib.hid (HX.out.below hbi HX.out.lt)
      have hws := hbw.size
      have hxl := HXW.out.lt
      have x1 := HXW.out.cell 1 (v := .slice A l.length cA) rfl
      have HZW := Lib.hid (HZ.out.below hbi)
      clear hno hbw hbi
      by_cases hlt : k < l.length
      · have hd : decide ((k : Int) < (l.length : Int)) = true := decide_eq_true (by omega)
        obtain ⟨bb, o, c', e, hbb, hc⟩ := HZW.out.eras.cells (by omega)
        cases e
        have hx := hc k hlt
        obtain ⟨x, hxk⟩ : ∃ x, l[k] = x := ⟨_, rfl⟩
        rw [hxk] at hx
        have HXK := Lib.hid hxk
        obtain ⟨c0, c1, c2, c3, c4, c5, c6, c7, c8, c9, c10, c11⟩ := hx
        have hb2 := HBW.out.alloc hws (.cells (eraC x.n x.ru x.fm x.en) 54)
        have hbi2 := HBI.out.alloc HBI.out.size (.cells (eraC x.n x.ru x.fm x.en) 54)
        have HZ2 := Lib.hid (HZ.out.below hbi2)
        unfold eraC at hb2 hbi2 HZ2
        have HB2 := Lib.hid hb2
        have HBI2 := Lib.hid hbi2
        clear hc hxk hb2 hbi2
        by_cases hru : x.ru.size = 0
        · have hem : (x.ru.toList == []) = true := by rw [emp_size, decide_eq_true hru]
          have HM := Lib.hid (show missB S x = false by unfold missB; rw [decide_eq_false (by simpa using hru)]; rfl)
          clear hru
          go_wp2_with fail
          go_roundw
          case rel =>
            refine ⟨k + 1, by omega, by go_num, fun i h hik => ?_, HB2.out, HBI2.out⟩
            rcases Nat.lt_or_ge i k with g | g
            · exact HNO.out i h g
            · obtain rfl : i = k := by omega
              rw [HXK.out]; exact HM.out
          case measure => simp [intOf]; omega
        · have hem : (x.ru.toList == []) = false := by rw [emp_size, decide_eq_false hru]
          obtain ⟨A3, c3', e3⟩ := ofVal_form HZ2.out.sets x.ru
          have HOF := Lib.hid (wof_any _ zn (.slice (some ⟨bb, o, none⟩) l.length cA) sv B S HZ2.out.sets HZ2.out.le x.ru)
          rw [e3] at HOF
          unfold worldA at HOF
          have HM := Lib.hid (show missB S x = decide ((ofRul S x.ru).length = 0) by unfold missB; rw [decide_eq_true hru]; rfl)
          clear hru e3
          generalize ofRul S x.ru = R at *
          by_cases hR : R.length = 0
          · have hd3 : ((R.length : Int) == 0) = true := by simpa using hR
            have HV := Lib.hid (errZ_miss hlt (show missB S l[k] = true by rw [HXK.out, HM.out, decide_eq_true hR]))
            clear hR
            go_wp2_with fail
            refine HOF.out.mono ?_
            rintro o w2 ⟨rfl, hb⟩
            have HB3 := Lib.hid (HB2.out.trans (hb.mono HB2.out.size))
            clear hb
            go_wp2_with fail
            go_ret
            exact ⟨by rw [HV.out]; rfl, HB3.out⟩
          · have hd3 : ((R.length : Int) == 0) = false := by simpa using hR
            rw [decide_eq_false hR] at HM
            clear hR
            go_wp2_with fail
            refine HOF.out.mono ?_
            rintro o w2 ⟨rfl, hb⟩
            have HB3 := Lib.hid (HB2.out.trans (hb.mono HB2.out.size))
            have HBI3 := Lib.hid (HBI2.out.trans (hb.mono HBI2.out.size))
            clear hb
            go_wp2_with fail
            go_roundw
            case rel =>
              refine ⟨k + 1, by omega, by go_num, fun i h hik => ?_, HB3.out, HBI3.out⟩
              rcases Nat.lt_or_ge i k with g | g
              · exact HNO.out i h g
              · obtain rfl : i = k := by omega
                rw [HXK.out]; exact HM.out
            case measure => simp [intOf]; omega
      · obtain rfl : k = l.length := by omega
        have hd : decide ((l.length : Int) < (l.length : Int)) = false := decide_eq_false (by omega)
        obtain ⟨w1, hw1⟩ : ∃ x, x = wr := ⟨_, rfl⟩
        subst hw1
        have HTH := Lib.hid (errZ_there HL0.out (fun i hi => HNO.out i hi hi))
        clear HNO hk
        go_wp2_with fail
        go_loopw [46] (fun iv W2 => ∃ k : Nat, k ≤ l.length ∧ iv = .int .i64 k ∧ (∀ i, i < k → errAt l i = 0) ∧ Below w1.heap.size w1 W2) (fun iv _ => l.length - (intOf iv).toNat)
        case atStart => exact ⟨0, Nat.zero_le _, rfl, fun i h => absurd h (by omega), Below.refl _ _⟩
        case round =>
          obtain ⟨k, hk, rfl, hno, hbi⟩ := hrel
          have HNO := Lib.hid hno
          have HBI := Lib.hid hbi
          have HX2 := Lib.hid (HXW.out.below hbi HXW.out.lt)
          have hws2 := hbi.size
          have hxl2 := HX2.out.lt
          have x1 := HX2.out.cell 1 (v := .slice A l.length cA) rfl
          have HZ2 := Lib.hid (HZW.out.below hbi)
          have HBW2 := Lib.hid (HBW.out.trans (hbi.mono hws))
          clear hno hbi
          by_cases hlt : k < l.length
          · have hd : decide ((k : Int) < (l.length : Int)) = true := decide_eq_true (by omega)
            obtain ⟨bb, o, c', e, hbb, hc⟩ := HZ2.out.eras.cells (by omega)
            cases e
            have hx := hc k hlt
            have hfm := HO.out.fm _ (List.getElem_mem hlt)
            have hat := errAt_eq hlt
            obtain ⟨x, hxk⟩ : ∃ x, l[k] = x := ⟨_, rfl⟩
            rw [hxk] at hx hfm hat
            obtain ⟨c0, c1, c2, c3, c4, c5, c6, c7, c8, c9, c10, c11⟩ := hx
            obtain ⟨la, hla⟩ : ∃ b, decide (k + 1 = l.length) = b := ⟨_, rfl⟩
            have hlast : ((k : Int) == (l.length : Int) - 1) = la := by
              rw [← hla]
              by_cases h : k + 1 = l.length
              · rw [decide_eq_true h]; exact beq_iff_eq.2 (by omega)
              · rw [decide_eq_false h]; exact beq_eq_false_iff_ne.2 (by omega)
            rw [hla] at hat
            have HAT := Lib.hid hat
            have hb2 := HBW2.out.alloc HBW2.out.size (.cells (eraC x.n x.ru x.fm x.en) 54)
            have hbi2 := HBI.out.alloc hws2 (.cells (eraC x.n x.ru x.fm x.en) 54)
            have HZ3 := Lib.hid (HZ2.out.below ((Below.refl wr.heap.size wr).alloc (Nat.le_refl _) (.cells (eraC x.n x.ru x.fm x.en) 54)))
            have HC := Lib.hid (zcheck_any x la _ hfm HZ3.out.maxl HZ3.out.ahead)
            unfold eraC at hb2 hbi2 HZ3 HC
            unfold eraA at HC
            have HB3 := Lib.hid hb2
            have HBI3 := Lib.hid hbi2
            clear hc hxk hla hat hb2 hbi2 hfm
            obtain ⟨E, hE⟩ : ∃ e, errE x la = e := ⟨_, rfl⟩
            rw [hE] at HC HAT
            clear hE
            by_cases hE0 : E = 0
            · subst hE0
              go_wp2_with fail
              refine HC.out.mono ?_
              rintro o w3 ⟨rfl, hb⟩
              have HBI4 := Lib.hid (HBI3.out.trans (hb.mono HBI3.out.size))
              clear hb
              go_wp2_with fail
              go_roundw
              case rel =>
                refine ⟨k + 1, by omega, by go_num, fun i hik => ?_, HBI4.out⟩
                rcases Nat.lt_or_ge i k with g | g
                · exact HNO.out i g
                · obtain rfl : i = k := by omega
                  exact HAT.out
              case measure => simp [intOf]; omega
            · have he0 : (E != 0) = true := by simpa using hE0
              have HV := Lib.hid (show errZ S l = E by
                have h := errsF_at hlt (fun i hi => HNO.out i hi) (by rw [HAT.out]; exact hE0)
                rw [HTH.out, if_pos (by rw [h, HAT.out]; exact hE0), h, HAT.out])
              clear hE0
              go_wp2_with fail
              refine HC.out.mono ?_
              rintro o w3 ⟨rfl, hb⟩
              have HB4 := Lib.hid (HB3.out.trans (hb.mono HB3.out.size))
              clear hb
              go_wp2_with fail
              go_ret
              exact ⟨by rw [HV.out]; rfl, HB4.out⟩
          · obtain rfl : k = l.length := by omega
            obtain ⟨w2, hw2⟩ : ∃ x, x = wr := ⟨_, rfl⟩
            subst hw2
            have HERR := Lib.hid (show ∀ i, i < l.length → errAt l i = 0 from fun i hi => HNO.out i hi)
            have HTH2 := Lib.hid (show errZ S l = if riseB (endL S l) then 0 else 17 by rw [HTH.out, errsF_none HERR.out]; rfl)
            clear HNO hk HTH
            have hl1 : 0 < l.length := by have := HL0.out; omega
            have hsub : wrap64 ((l.length : Int) - 1) = (l.length : Int) - 1 := IntWalk.wrap64_in _ (by omega)
            go_wp2_with fail
            go_loopw [10, 11, 71] (fun lv fv iv W3 => ∃ k : Nat, k ≤ l.length - 1 ∧ iv = .int .i64 k ∧ (k = 0 ∧ lv = .int .i64 0 ∧ fv = .bool true ∨ ∃ q, k = q + 1 ∧ lv = .int .i64 ((endL S l).getD q 0) ∧ fv = .bool false) ∧ (∀ i, i + 1 < k → (endL S l).getD i 0 < (endL S l).getD (i + 1) 0) ∧ Below w2.heap.size w2 W3) (fun _ _ iv _ => l.length - (intOf iv).toNat)
            case atStart => exact ⟨0, Nat.zero_le _, rfl, .inl ⟨rfl, rfl, rfl⟩, fun i h => absurd h (by omega), Below.refl _ _⟩
            case round =>
              obtain ⟨k, hk, rfl, hlf, hno, hbi⟩ := hrel
              have HNO := Lib.hid hno
              have HBI3 := Lib.hid hbi
              have HX3 := Lib.hid (HX2.out.below hbi HX2.out.lt)
              have hws3 := hbi.size
              have HZ3 := Lib.hid (HZ2.out.below hbi)
              have HBW3 := Lib.hid (HBW2.out.trans (hbi.mono HBW2.out.size))
              clear hno hbi
              by_cases hlt : k < l.length - 1
              · have hd : decide ((k : Int) < ((l.length - 1 : Nat) : Int)) = true := decide_eq_true (by omega)
                have hlk : k < l.length := by omega
                obtain ⟨bb, o, c', e, hbb, hc⟩ := HZ3.out.eras.cells (by omega)
                cases e
                have hx := hc k hlk
                have her := HERR.out k hlk
                rw [errAt_eq hlk, decide_eq_false (by omega)] at her
                have hen := endL_get (S := S) (l := l) (i := k) (by omega)
                obtain ⟨x, hxk⟩ : ∃ x, l[k] = x := ⟨_, rfl⟩
                rw [hxk] at hx her hen
                obtain ⟨-, hof, hsf, hee, -, hnb⟩ := errE_zero her
                have hee2 : x.en = true := hee
                have hV : endV x.n x.ru x.en (ruleE S x) = ((endL S l).getD k 0, 0) := by
                  unfold endV
                  rw [hee2, hnb hee2, hen]
                  rfl
                obtain ⟨c0, c1, c2, c3, c4, c5, c6, c7, c8, c9, c10, c11⟩ := hx
                have hb3 := HBW3.out.alloc HBW3.out.size (.cells (eraC x.n x.ru x.fm x.en) 54)
                have hbi3 := HBI3.out.alloc hws3 (.cells (eraC x.n x.ru x.fm x.en) 54)
                have HZ4 := Lib.hid (HZ3.out.below ((Below.refl wr.heap.size wr).alloc (Nat.le_refl _) (.cells (eraC x.n x.ru x.fm x.en) 54)))
                have HE4 := Lib.hid (Blk.new wr 54 (eraC x.n x.ru x.fm x.en))
                have HOF := Lib.hid (fun (W : World) (h : ZW W B (.slice (some ⟨bb, o, none⟩) l.length cA) sv l S) => zof_any W zn (.slice (some ⟨bb, o, none⟩) l.length cA) sv B S h.sets h.le x)
                have HEN := Lib.hid (fun (W : World) (h : ZW W B (.slice (some ⟨bb, o, none⟩) l.length cA) sv l S) => zend_any W x.n x.ru x.fm x.en B (rvalE S x) (ruleE S x) ⟨h.sets.rule x, h.ahead, h.tab, h.le⟩ (HO.out.rule x) (by omega) (by omega))
                obtain ⟨ek, hek⟩ : ∃ z, (endL S l).getD k 0 = z := ⟨_, rfl⟩
                have HEK := Lib.hid hek
                rw [hek] at hV
                rw [hV] at HEN
                obtain ⟨A3, c3', e3⟩ := rvalE_form HZ4.out.sets x
                rw [e3] at HOF HEN
                unfold setsV worldA eraA at HOF
                unfold eraA at HEN
                unfold eraC at hb3 hbi3 HZ4 HE4
                have HB4 := Lib.hid hb3
                have HBI4 := Lib.hid hbi3
                clear hc hxk hb3 hbi3 her hen hV hek hof hsf hee hee2 hnb
                have hfl : ∃ (f : Bool) (n : Int), u11 = .bool f ∧ u10 = .int .i64 n ∧ (f = true ∧ k = 0 ∨ f = false ∧ ∃ q, k = q + 1 ∧ n = (endL S l).getD q 0) := by
                  rcases hlf with ⟨h0, h1, h2⟩ | ⟨q, h0, h1, h2⟩
                  · exact ⟨_, _, h2, h1, .inl ⟨rfl, h0⟩⟩
                  · exact ⟨_, _, h2, h1, .inr ⟨rfl, q, h0, rfl⟩⟩
                obtain ⟨fv, lv, rfl, rfl, hfk⟩ := hfl
                have HFK := Lib.hid hfk
                clear hlf hfk
                go_wp2_with fail
                obtain ⟨W3, hW3⟩ : ∃ W, wr.alloc (.cells #[.int .i64 x.n.off, .string x.ru, .int .i64 x.n.save, .string x.fm, .bool x.en, .int .i64 x.n.year, .int .i64 x.n.month, .int .i64 x.n.dk, .int .i64 x.n.dw, .int .i64 x.n.dn, .int .i64 x.n.sec, .int .i64 x.n.ak] 54) = W := ⟨_, rfl⟩
                rw [hW3] at HB4 HBI4 HZ4 HE4
                try simp only [hW3]
                clear hW3
                refine wp_env (fin := ?fna) (by kernel_rfl) [76, 77, 78, 79, 80, 75, 81, 82, 14, 15]
                  [.agg #[.int .i64 x.n.off, .string x.ru, .int .i64 x.n.save, .string x.fm, .bool x.en, .int .i64 x.n.year, .int .i64 x.n.month, .int .i64 x.n.dk, .int .i64 x.n.dw, .int .i64 x.n.dn, .int .i64 x.n.sec, .int .i64 x.n.ak], .func (.func 17) #[.agg #[.string zn, .slice (some ⟨bb, o, none⟩) l.length cA, sv]] #[], .agg #[.int .i64 x.n.off, .string x.ru, .int .i64 x.n.save, .string x.fm, .bool x.en, .int .i64 x.n.year, .int .i64 x.n.month, .int .i64 x.n.dk, .int .i64 x.n.dw, .int .i64 x.n.dn, .int .i64 x.n.sec, .int .i64 x.n.ak], .slice A3 (ruleE S x).length c3', .tuple #[.int .i64 ek, .int .i64 0], .tuple #[.int .i64 ek, .int .i64 0], .int .i64 ek, .int .i64 0, .int .i64 ek, .int .i64 0] (by kernel_rfl) ?fina ?stepsa ?nexta
                case fina =>
                  simp only [putAll, Act.put, List.setIfInBounds_toArray, List.set_cons_succ, List.set_cons_zero]
                  rfl
                case stepsa =>
                  refine ⟨.inr ⟨by kernel_rfl, fun w1_ hB_ => ?_⟩, .inr ⟨by kernel_rfl, fun w1_ hB_ => ?_⟩, .inr ⟨by kernel_rfl, fun w1_ hB_ => ?_⟩, .inr ⟨by kernel_rfl, fun w1_ hB_ => ?_⟩, .inr ⟨by kernel_rfl, fun w1_ hB_ => ?_⟩, .inr ⟨by kernel_rfl, fun w1_ hB_ => ?_⟩, .inr ⟨by kernel_rfl, fun w1_ hB_ => ?_⟩, .inr ⟨by kernel_rfl, fun w1_ hB_ => ?_⟩, .inr ⟨by kernel_rfl, fun w1_ hB_ => ?_⟩, .inr ⟨by kernel_rfl, fun w1_ hB_ => ?_⟩, trivial⟩
                  all_goals
                    have hc := HE4.out.below hB_ HE4.out.lt
                    have hz := HZ4.out.below hB_
                    have c0 := hc.cell 0 (v := .int .i64 x.n.off) rfl
                    have c1 := hc.cell 1 (v := .string x.ru) rfl
                    have c2 := hc.cell 2 (v := .int .i64 x.n.save) rfl
                    have c3 := hc.cell 3 (v := .string x.fm) rfl
                    have c4 := hc.cell 4 (v := .bool x.en) rfl
                    have c5 := hc.cell 5 (v := .int .i64 x.n.year) rfl
                    have c6 := hc.cell 6 (v := .int .i64 x.n.month) rfl
                    have c7 := hc.cell 7 (v := .int .i64 x.n.dk) rfl
                    have c8 := hc.cell 8 (v := .int .i64 x.n.dw) rfl
                    have c9 := hc.cell 9 (v := .int .i64 x.n.dn) rfl
                    have c10 := hc.cell 10 (v := .int .i64 x.n.sec) rfl
                    have c11 := hc.cell 11 (v := .int .i64 x.n.ak) rfl
                    go_simp
                    first
                      | exact ⟨rfl, Below.refl _ _⟩
                      | exact ⟨rfl, HOF.out w1_ hz⟩
                      | exact ⟨rfl, HEN.out w1_ hz⟩
                      | (rw [decide_eq_true (by omega)]; exact ⟨rfl, Below.refl _ _⟩)
                      | (rw [decide_eq_false (by omega)]; exact ⟨rfl, Below.refl _ _⟩)
                      | (rw [if_pos (by omega)]; exact ⟨rfl, Below.refl _ _⟩)
                      | (rw [IntWalk.i64_in _ (by omega)]; exact ⟨rfl, Below.refl _ _⟩)
                      | done
                case nexta =>
                intro w4 hb4
                have HB5 := Lib.hid (HB4.out.trans (hb4.mono HB4.out.size))
                have HBI5 := Lib.hid (HBI4.out.trans (hb4.mono HBI4.out.size))
                clear hb4
                rcases HFK.out with ⟨rfl, hk0⟩ | ⟨rfl, q, hkq, hlv⟩
                · go_wp2_with fail
                  go_roundw
                  case rel => exact ⟨k + 1, by omega, by go_num, .inr ⟨k, rfl, by rw [HEK.out], rfl⟩, fun i hi => absurd hi (by omega), HBI5.out⟩
                  case measure => simp [intOf]; omega
                · have HKQ := Lib.hid hkq
                  have HLV := Lib.hid hlv
                  clear hkq hlv
                  by_cases hle : ek ≤ lv
                  · have hdl : decide (ek ≤ lv) = true := decide_eq_true hle
                    have HV := Lib.hid (show errZ S l = 17 by
                      rw [HTH2.out, riseB_no (i := q) (by rw [length_endL]; have := HKQ.out; omega) (by rw [← HKQ.out, HEK.out, ← HLV.out]; exact hle)]
                      rfl)
                    clear hle
                    go_wp2_with fail
                    go_ret
                    exact ⟨by rw [HV.out]; rfl, HB5.out⟩
                  · have hdl : decide (ek ≤ lv) = false := decide_eq_false hle
                    have HLT := Lib.hid (show (endL S l).getD q 0 < (endL S l).getD k 0 by rw [HEK.out, ← HLV.out]; omega)
                    clear hle
                    go_wp2_with fail
                    go_roundw
                    case rel =>
                      refine ⟨k + 1, by omega, by go_num, .inr ⟨k, rfl, by rw [HEK.out], rfl⟩, fun i hi => ?_, HBI5.out⟩
                      rcases Nat.lt_or_ge (i + 1) k with g | g
                      · exact HNO.out i g
                      · have := HKQ.out
                        obtain rfl : i = q := by omega
                        rw [← HKQ.out]; exact HLT.out
                    case measure => simp [intOf]; omega
              · obtain rfl : k = l.length - 1 := by omega
                have hd : decide (((l.length - 1 : Nat) : Int) < ((l.length - 1 : Nat) : Int)) = false := decide_eq_false (by omega)
                have HV := Lib.hid (show errZ S l = 0 by
                  rw [HTH2.out, riseB_iff.2 (fun i hi => HNO.out i (by rw [length_endL] at hi; omega))]
                  rfl)
                have hlf2 : ∃ a b, u10 = a ∧ u11 = b := ⟨_, _, rfl, rfl⟩
                clear hlf hlt hk
                go_wp2_with fail
                go_ret
                exact ⟨by rw [HV.out]; rfl, HBW3.out⟩
end Go.Proofs.YtonmmgcibpjahaaGreatDoor
end

section
/- GEnds: Layer 13's Ends and Era of any zone, walked. -/
namespace Go.Proofs.YtonmmgcibpjahaaGreatDoor
open Go Go.RowKit Go.Shelf
set_option maxRecDepth 100000

def intsV (l : List Int) : List Value := l.map fun n => .int .i64 n
theorem intsV_append (l m : List Int) : intsV (l ++ m) = intsV l ++ intsV m := by simp [intsV]
theorem intsV_at (l : List Int) (j : Nat) (h : j < l.length) : (intsV l)[j]? = some (.int .i64 l[j]) := by simp [intsV, h]
theorem infoInt : (Tryz.prog.info? 3).map (fun i => (i.zero, i.size, i.bytes)) = some (some (.int .i64 0), 1, 8) := by kernel_rfl
/-- A slice of numbers. -/
def Nums (w : World) (B : Nat) (v : Value) (l : List Int) : Prop := Sl w B 1 v l.length (intsV l)
theorem Nums.below {w w' : World} {B : Nat} {v : Value} {l : List Int} (h : Nums w B v l) (hb : Below B w w') : Nums w' B v l := Sl.below h hb
theorem Nums.form {w : World} {B : Nat} {v : Value} {l : List Int} (h : Nums w B v l) : ∃ A c, v = .slice A l.length c ∧ l.length ≤ c ∧ c ≤ maxLen := by obtain ⟨A, c, e, h1, h2, _⟩ := h; exact ⟨A, c, e, h1, h2⟩
theorem Nums.cells {w : World} {B : Nat} {v : Value} {l : List Int} (h : Nums w B v l) (hl : 0 < l.length) : ∃ b o c, v = .slice (some ⟨b, o, none⟩) l.length c ∧ b < B ∧ ∀ i (hi : i < l.length), w.cell? ⟨b, o + i, none⟩ = some (.int .i64 l[i]) := by
  obtain ⟨b, o, c, e, hb, hc⟩ := Sl.at_ h hl
  exact ⟨b, o, c, e, hb, fun i hi => hc i _ (intsV_at l i hi)⟩
/-- What Ends answers. -/
def EndsPost (w : World) (S : List SetF) (l : List EraF) (o : Ending) (w' : World) : Prop :=
  (∃ v, o = .returned (.tuple #[v, .int .i64 (errZ S l)]) ∧ (errZ S l = 0 → Nums w' w'.heap.size v (endL S l)) ∧ (errZ S l ≠ 0 → v = .slice none 0 0)) ∧ Below w.heap.size w w'
set_option maxHeartbeats 4000000 in
theorem zends_any (zn : ByteArray) (ev sv : Value) (B : Nat) (l : List EraF) (S : List SetF) (w : World) (hz : ZW w B ev sv l S) (ho : ZOk l S) :
    Calls Tryz.prog 18 #[zoneA zn ev, setsV zn ev sv] w (EndsPost w S l) := by
  obtain ⟨A, cA, rfl, hlc, hcm⟩ := hz.eras.form
  unfold maxLen at hcm
  have hb0 : Below w.heap.size w (w.alloc (.cells #[.string zn, .slice A l.length cA] 24)) := (Below.refl w.heap.size w).alloc (Nat.le_refl _) _
  have HX := Lib.hid (Blk.new w 24 #[.string zn, .slice A l.length cA])
  have HZ := Lib.hid (hz.below hb0)
  have HB := Lib.hid hb0
  have HO := Lib.hid ho
  have HZ0 := Lib.hid hz
  have HC := Lib.hid (zcheckZ_any zn (.slice A l.length cA) sv B l S _ HZ.out ho)
  obtain ⟨i0, hi, hz0, hz1, hz2⟩ := info_parts infoInt
  clear hz hb0 ho
  obtain ⟨E, hE⟩ : ∃ e, errZ S l = e := ⟨_, rfl⟩
  rw [hE] at HC
  have HE := Lib.hid hE
  unfold setsV zoneA worldA at HC ⊢
  clear hE
  by_cases hE0 : E = 0
  · subst hE0
    obtain ⟨hl0, -, hat, -⟩ := errZ_zero HE.out
    have HERR := Lib.hid hat
    have hl1 : 0 < l.length := by omega
    have hsub : wrap64 ((l.length : Int) - 1) = (l.length : Int) - 1 := IntWalk.wrap64_in _ (by omega)
    clear hat hl0
    go_enter Tryz.func18, Tryz.ntmps18
    go_wp2_with fail
    refine HC.out.mono ?_
    rintro o w1 ⟨rfl, hb⟩
    have HX1 := Lib.hid (HX.out.below hb HX.out.lt)
    have HB1 := Lib.hid (HB.out.trans (hb.mono HB.out.size))
    have x1 := HX1.out.cell 1 (v := .slice A l.length cA) rfl
    have hxl := HX1.out.lt
    clear hb HC HX HB HZ
    go_wp2_with fail
    go_loopw [7, 26] (fun u iv wr => ∃ k : Nat, k ≤ l.length - 1 ∧ iv = .int .i64 k ∧ wr.ownsRow w.heap.size 3 1 u ((endL S l).take k).length (intsV ((endL S l).take k)) ∧ Below w.heap.size w wr) (fun _ iv _ => l.length - (intOf iv).toNat)
    case atStart => exact ⟨0, Nat.zero_le _, rfl, World.ownsRow_nil _ _ _ _, HB1.out⟩
    case round =>
      obtain ⟨k, hk, rfl, hown, hbw⟩ := hrel
      have HOW := Lib.hid hown
      have HBW := Lib.hid hbw
      have HZ2 := Lib.hid (HZ0.out.below hbw)
      obtain ⟨A5, c5, hu⟩ := (Sl.of_own hown).form
      have hlen : ((endL S l).take k).length = k := by rw [List.length_take, length_endL]; omega
      rw [hlen] at HOW hu
      subst hu
      have HLEN := Lib.hid hlen
      clear hown hbw hlen
      by_cases hlt : k < l.length - 1
      · have hd : decide ((k : Int) < ((l.length - 1 : Nat) : Int)) = true := decide_eq_true (by omega)
        have hlk : k < l.length := by omega
        obtain ⟨bb, o, c', e, hbb, hc⟩ := HZ2.out.eras.cells (by omega)
        cases e
        have hx := hc k hlk
        have her := HERR.out k hlk
        rw [errAt_eq hlk, decide_eq_false (by omega)] at her
        have hen := endL_get (S := S) (l := l) (i := k) (by omega)
        have htk : (endL S l).take (k + 1) = (endL S l).take k ++ [(endL S l).getD k 0] := by
          have h9 : k < (endL S l).length := by rw [length_endL]; omega
          rw [List.take_succ_eq_append_getElem h9, List.getD_eq_getElem?_getD, List.getElem?_eq_getElem h9]
          rfl
        obtain ⟨x, hxk⟩ : ∃ x, l[k] = x := ⟨_, rfl⟩
        rw [hxk] at hx her hen
        obtain ⟨-, hof, hsf, hee, -, hnb⟩ := errE_zero her
        have hee2 : x.en = true := hee
        have hV : endV x.n x.ru x.en (ruleE S x) = ((endL S l).getD k 0, 0) := by
          unfold endV
          rw [hee2, hnb hee2, hen]
          rfl
        obtain ⟨c0, c1, c2, c3, c4, c5, c6, c7, c8, c9, c10, c11⟩ := hx
        have hb3 := HBW.out.alloc HBW.out.size (.cells (eraC x.n x.ru x.fm x.en) 54)
        have HZ4 := Lib.hid (HZ0.out.below hb3)
        have HE4 := Lib.hid (Blk.new wr 54 (eraC x.n x.ru x.fm x.en))
        have HOW4 := Lib.hid (HOW.out.alloc (.cells (eraC x.n x.ru x.fm x.en) 54))
        have HOF := Lib.hid (fun (W : World) (h : ZW W B (.slice (some ⟨bb, o, none⟩) l.length cA) sv l S) => zof_any W zn (.slice (some ⟨bb, o, none⟩) l.length cA) sv B S h.sets h.le x)
        have HEN := Lib.hid (fun (W : World) (h : ZW W B (.slice (some ⟨bb, o, none⟩) l.length cA) sv l S) => zend_any W x.n x.ru x.fm x.en B (rvalE S x) (ruleE S x) ⟨h.sets.rule x, h.ahead, h.tab, h.le⟩ (HO.out.rule x) (by omega) (by omega))
        obtain ⟨ek, hek⟩ : ∃ z, (endL S l).getD k 0 = z := ⟨_, rfl⟩
        rw [hek] at hV htk
        rw [hV] at HEN
        have HTK := Lib.hid htk
        obtain ⟨A3, c3', e3⟩ := rvalE_form HZ4.out.sets x
        rw [e3] at HOF HEN
        unfold setsV worldA eraA at HOF
        unfold eraA at HEN
        unfold eraC at hb3 HZ4 HE4 HOW4
        have HB4 := Lib.hid hb3
        have hul := HOW.out.lt
        clear hc hxk hb3 her hen hV hek hof hsf hee hee2 hnb htk
        go_wp2_with fail
        obtain ⟨W3, hW3⟩ : ∃ W, wr.alloc (.cells #[.int .i64 x.n.off, .string x.ru, .int .i64 x.n.save, .string x.fm, .bool x.en, .int .i64 x.n.year, .int .i64 x.n.month, .int .i64 x.n.dk, .int .i64 x.n.dw, .int .i64 x.n.dn, .int .i64 x.n.sec, .int .i64 x.n.ak] 54) = W := ⟨_, rfl⟩
        rw [hW3] at HB4 HZ4 HE4 HOW4
        try simp only [hW3]
        clear hW3
        refine wp_env (fin := ?fna) (by kernel_rfl) [31, 32, 33, 34, 35, 30, 36, 37, 10, 11]
          [.agg #[.int .i64 x.n.off, .string x.ru, .int .i64 x.n.save, .string x.fm, .bool x.en, .int .i64 x.n.year, .int .i64 x.n.month, .int .i64 x.n.dk, .int .i64 x.n.dw, .int .i64 x.n.dn, .int .i64 x.n.sec, .int .i64 x.n.ak], .func (.func 17) #[.agg #[.string zn, .slice (some ⟨bb, o, none⟩) l.length cA, sv]] #[], .agg #[.int .i64 x.n.off, .string x.ru, .int .i64 x.n.save, .string x.fm, .bool x.en, .int .i64 x.n.year, .int .i64 x.n.month, .int .i64 x.n.dk, .int .i64 x.n.dw, .int .i64 x.n.dn, .int .i64 x.n.sec, .int .i64 x.n.ak], .slice A3 (ruleE S x).length c3', .tuple #[.int .i64 ek, .int .i64 0], .tuple #[.int .i64 ek, .int .i64 0], .int .i64 ek, .int .i64 0, .int .i64 ek, .int .i64 0] (by kernel_rfl) ?fina ?stepsa ?nexta
        case fina =>
          simp only [putAll, Act.put, List.setIfInBounds_toArray, List.set_cons_succ, List.set_cons_zero]
          rfl
        case stepsa =>
          refine ⟨.inr ⟨by kernel_rfl, fun w1_ hB_ => ?_⟩, .inr ⟨by kernel_rfl, fun w1_ hB_ => ?_⟩, .inr ⟨by kernel_rfl, fun w1_ hB_ => ?_⟩, .inr ⟨by kernel_rfl, fun w1_ hB_ => ?_⟩, .inr ⟨by kernel_rfl, fun w1_ hB_ => ?_⟩, .inr ⟨by kernel_rfl, fun w1_ hB_ => ?_⟩, .inr ⟨by kernel_rfl, fun w1_ hB_ => ?_⟩, .inr ⟨by kernel_rfl, fun w1_ hB_ => ?_⟩, .inr ⟨by kernel_rfl, fun w1_ hB_ => ?_⟩, .inr ⟨by kernel_rfl, fun w1_ hB_ => ?_⟩, trivial⟩
          all_goals
            have hc := HE4.out.below hB_ HE4.out.lt
            have hz := HZ4.out.below hB_
            have c0 := hc.cell 0 (v := .int .i64 x.n.off) rfl
            have c1 := hc.cell 1 (v := .string x.ru) rfl
            have c2 := hc.cell 2 (v := .int .i64 x.n.save) rfl
            have c3 := hc.cell 3 (v := .string x.fm) rfl
            have c4 := hc.cell 4 (v := .bool x.en) rfl
            have c5 := hc.cell 5 (v := .int .i64 x.n.year) rfl
            have c6 := hc.cell 6 (v := .int .i64 x.n.month) rfl
            have c7 := hc.cell 7 (v := .int .i64 x.n.dk) rfl
            have c8 := hc.cell 8 (v := .int .i64 x.n.dw) rfl
            have c9 := hc.cell 9 (v := .int .i64 x.n.dn) rfl
            have c10 := hc.cell 10 (v := .int .i64 x.n.sec) rfl
            have c11 := hc.cell 11 (v := .int .i64 x.n.ak) rfl
            go_simp
            first
              | exact ⟨rfl, Below.refl _ _⟩
              | exact ⟨rfl, HOF.out w1_ hz⟩
              | exact ⟨rfl, HEN.out w1_ hz⟩
              | (rw [decide_eq_true (by omega)]; exact ⟨rfl, Below.refl _ _⟩)
              | (rw [decide_eq_false (by omega)]; exact ⟨rfl, Below.refl _ _⟩)
              | (rw [if_pos (by omega)]; exact ⟨rfl, Below.refl _ _⟩)
              | (rw [IntWalk.i64_in _ (by omega)]; exact ⟨rfl, Below.refl _ _⟩)
              | done
        case nexta =>
        intro w4 hb4
        have hb5 := HB4.out.trans (hb4.mono HB4.out.size)
        have HOW5 := Lib.hid (ownsRow_below HOW4.out hb4)
        clear hb4
        have hkb : k ≤ 1000000 := by have := HO.out.len; omega
        go_wp2_with ((at_builtin; refine wpList_append_own _ rfl _ _ 28 rfl (w.heap.size) 3 i0 (.int .i64 0) 1 8 Tryz.underlying28 hi hz0 hz1 hz2 rfl (by decide) _ _ _ rfl (HOW5.out.alloc _) ⟨w4.heap.size, 0, none⟩ 1 1 [.int .i64 ek] rfl rfl (cell_one_new _ _ _) (by simp [Value.oneCell']) (by unfold maxLen; omega) (by omega) (by have := hb5.size; simp <;> omega) ?_; intro v' w1 hown' hgrow _))
        go_roundw
        case rel =>
          refine ⟨k + 1, by omega, by go_num, ?_, below_push hb5 HOW5.out hgrow⟩
          rw [HTK.out, intsV_append, List.length_append, HLEN.out]
          exact hown'
        case measure => first | (simp [intOf]; done) | (simp [intOf]; omega)
      · obtain rfl : k = l.length - 1 := by omega
        have hd : decide (((l.length - 1 : Nat) : Int) < ((l.length - 1 : Nat) : Int)) = false := decide_eq_false (by omega)
        have HOE := Lib.hid (show wr.ownsRow w.heap.size 3 1 (.slice A5 (l.length - 1) c5) (endL S l).length (intsV (endL S l)) by
          have h := HOW.out
          rw [List.take_of_length_le (by rw [length_endL]; exact Nat.le_refl _)] at h
          rw [length_endL]
          exact h)
        go_wp2_with fail
        go_ret2
        exact ⟨⟨_, by rw [HE.out]; rfl, fun _ => Sl.of_own HOE.out, fun h => absurd HE.out h⟩, HBW.out⟩
  · have he0 : (E != 0) = true := by simpa using hE0
    have HN := Lib.hid hE0
    clear hE0
    go_enter Tryz.func18, Tryz.ntmps18
    go_wp2_with fail
    refine HC.out.mono ?_
    rintro o w1 ⟨rfl, hb⟩
    have HB1 := Lib.hid (HB.out.trans (hb.mono HB.out.size))
    clear hb HC HX HB HZ
    go_wp2_with fail
    go_ret2
    exact ⟨⟨_, by rw [HE.out]; rfl, fun h => absurd (HE.out.symm.trans h) HN.out, fun _ => rfl⟩, HB1.out⟩
theorem zera_any (w : World) (B : Nat) (v : Value) (l : List Int) (i : Int) (hv : Nums w B v l) :
    Calls Tryz.prog 23 #[v, .int .i64 i] w fun o w' => o = .returned (.int .i64 (eraI l i : Nat)) ∧ w = w' := by
  obtain ⟨A, c, rfl, hlc, hcm⟩ := hv.form
  unfold maxLen at hcm
  have HV := Lib.hid hv
  clear hv
  go_enter Tryz.func23, Tryz.ntmps23
  go_wp2_with fail
  go_loopw [9] (fun iv wr => ∃ k : Nat, k ≤ l.length ∧ iv = .int .i64 k ∧ (∀ j (h : j < l.length), j < k → ¬ i < l[j]) ∧ wr = w) (fun iv _ => l.length - (intOf iv).toNat)
  case atStart => exact ⟨0, Nat.zero_le _, rfl, fun j _ h => absurd h (by omega), rfl⟩
  case round =>
    obtain ⟨k, hk, rfl, hno, rfl⟩ := hrel
    have HNO := Lib.hid hno
    clear hno
    by_cases hlt : k < l.length
    · have hd : decide ((k : Int) < (l.length : Int)) = true := decide_eq_true (by omega)
      obtain ⟨bb, o, c', e, hbb, hc⟩ := HV.out.cells (by omega)
      cases e
      have HLT := Lib.hid hlt
      obtain ⟨n, hn⟩ : ∃ n : Int, l[k]'hlt = n := ⟨_, rfl⟩
      have HN := Lib.hid hn
      have c0 : wr.cell? ⟨bb, o + k, none⟩ = some (.int .i64 n) := by rw [← hn]; exact hc k hlt
      clear hc hn
      by_cases h : i < n
      · have hdi : decide (i < n) = true := decide_eq_true h
        have HE := Lib.hid (eraI_at HLT.out HNO.out (by rw [HN.out]; exact h))
        clear h
        go_wp2_with fail
        go_ret
        exact ⟨by rw [HE.out]; rfl, rfl⟩
      · have hdi : decide (i < n) = false := decide_eq_false h
        have HH := Lib.hid h
        clear h
        go_wp2_with fail
        go_roundw
        case rel =>
          refine ⟨k + 1, by omega, by go_num, fun j h hjk => ?_, by trivial⟩
          rcases Nat.lt_or_ge j k with g | g
          · exact HNO.out j h g
          · obtain rfl : j = k := by omega
            rw [HN.out]; exact HH.out
        case measure => simp [intOf]; omega
    · obtain rfl : k = l.length := by omega
      have hd : decide ((l.length : Int) < (l.length : Int)) = false := decide_eq_false (by omega)
      have HE := Lib.hid (eraI_none (i := i) (fun j h => HNO.out j h h))
      go_wp2_with fail
      go_ret
      exact ⟨by rw [HE.out]; rfl, rfl⟩
end Go.Proofs.YtonmmgcibpjahaaGreatDoor
end

section
/- GAt: Layer 13's At of any zone, walked. -/
namespace Go.Proofs.YtonmmgcibpjahaaGreatDoor
open Go Go.RowKit Go.Shelf
set_option maxRecDepth 100000

theorem sum_ok {e : EraN} {ru : ByteArray} {l : List Rul} {i : Int} (hr : RuOk l) (hl : letOk l) (hs : -90000 < e.save ∧ e.save < 90000) : sumOk e ru l i := by
  unfold sumOk savesV
  split
  · show (-1000000000000000 ≤ e.save ∧ e.save ≤ 1000000000000000) ∧ (⟨#[]⟩ : ByteArray).size ≤ 140737488351232
    exact ⟨⟨by omega, by omega⟩, by decide⟩
  · cases ho : latestF l e.off i with
    | none => exact (show (-1000000000000000 ≤ (0 : Int) ∧ (0 : Int) ≤ 1000000000000000) ∧ (letV l).size ≤ 140737488351232 from ⟨⟨by decide, by decide⟩, letV_in hl⟩)
    | some f => exact ⟨hr.sv f (latestF_mem ho), fires_let hl (latestF_mem ho)⟩
theorem ZOk.ruleL {S : List SetF} (hlt : ∀ s ∈ S, letOk s.l) (x : EraF) : letOk (ruleE S x) := by
  unfold ruleE ofRul
  split
  · exact fun r hr => (by cases hr)
  · cases hs : ofS S x.ru with
    | none => exact fun r hr => (by cases hr)
    | some s => exact hlt s (List.mem_of_find?_eq_some hs)
/-- The era of an instant. -/
def atX (S : List SetF) (l : List EraF) (i : Int) : EraF := l.getD (eraI (endL S l) i) default
/-- What At answers. -/
def atZ (S : List SetF) (l : List EraF) (i : Int) : Value :=
  if errZ S l ≠ 0 then badL (errZ S l) else if i < -2199023255552 ∨ 2199023255552 < i then badL 10 else zwithinV (atX S l i).n (atX S l i).ru (atX S l i).fm (ruleE S (atX S l i)) i
theorem zwithinV_form (e : EraN) (ru f : ByteArray) (l : List Rul) (i : Int) : ∃ a d s err, zwithinV e ru f l i = .tuple #[.agg #[.int .i64 a, .bool d, .string s], .int .i64 err] := by
  unfold zwithinV withinR
  split
  · exact ⟨_, _, _, _, rfl⟩
  · exact ⟨_, _, _, _, rfl⟩
set_option maxHeartbeats 4000000 in
theorem zat_any (zn : ByteArray) (ev sv : Value) (B : Nat) (l : List EraF) (S : List SetF) (i : Int) (w : World) (hz : ZW w B ev sv l S) (ho : ZOk l S) (hlt : ∀ s ∈ S, letOk s.l) :
    Calls Tryz.prog 20 #[zoneA zn ev, setsV zn ev sv, .int .i64 i] w fun o w' => o = .returned (atZ S l i) ∧ Below w.heap.size w w' := by
  obtain ⟨A, cA, rfl, hlc, hcm⟩ := hz.eras.form
  unfold maxLen at hcm
  have hb0 : Below w.heap.size w ((w.alloc (.cells #[.string zn, .slice A l.length cA] 24)).alloc (.cells #[.int .i64 0, .bool false, .string ⟨#[]⟩] 41)) := ((Below.refl w.heap.size w).alloc (Nat.le_refl _) _).alloc (by simp) _
  have HX := Lib.hid ((Blk.new w 24 #[.string zn, .slice A l.length cA]).alloc (.cells #[.int .i64 0, .bool false, .string ⟨#[]⟩] 41))
  have hr0 := Blk.new (w.alloc (.cells #[.string zn, .slice A l.length cA] 24)) 41 #[.int .i64 0, .bool false, .string ⟨#[]⟩]
  rw [World.size_alloc] at hr0
  have HR := Lib.hid hr0
  have HB := Lib.hid hb0
  have HZ0 := Lib.hid hz
  have HO := Lib.hid ho
  have HLT := Lib.hid hlt
  have HC := Lib.hid (zends_any zn (.slice A l.length cA) sv B l S _ (hz.below hb0) ho)
  unfold EndsPost at HC
  clear hb0 hr0 hz ho hlt
  obtain ⟨E, hE⟩ : ∃ e, errZ S l = e := ⟨_, rfl⟩
  rw [hE] at HC
  have HE := Lib.hid hE
  unfold setsV zoneA worldA at HC ⊢
  clear hE
  go_enter Tryz.func20, Tryz.ntmps20
  go_wp2_with fail
  refine HC.out.mono ?_
  rintro o w1 ⟨⟨v, rfl, hv0, hvn⟩, hb⟩
  have HX1 := Lib.hid (HX.out.below hb HX.out.lt)
  have HR1 := Lib.hid (HR.out.below hb HR.out.lt)
  have HB1 := Lib.hid (HB.out.trans (hb.mono HB.out.size))
  have HZ1 := Lib.hid (HZ0.out.below HB1.out)
  have hrl := HR1.out.lt
  clear hb HC HX HR HB
  by_cases hE0 : E = 0
  · have HV0 := Lib.hid (hv0 hE0)
    subst hE0
    clear hv0 hvn
    by_cases hi : i < -2199023255552 ∨ 2199023255552 < i
    · have HV := Lib.hid (show atZ S l i = badL 10 by unfold atZ; rw [if_neg (fun h => h HE.out), if_pos hi])
      unfold badL at HV
      have r0 := HR1.out.cell 0 (v := .int .i64 0) rfl
      have r1 := HR1.out.cell 1 (v := .bool false) rfl
      have r2 := HR1.out.cell 2 (v := .string ⟨#[]⟩) rfl
      have f0 := HR1.out.frozen 0
      have f1 := HR1.out.frozen 1
      have f2 := HR1.out.frozen 2
      obtain ⟨d1, d2, hd1, hd2, hdd⟩ : ∃ a b, decide (i < -2199023255552) = a ∧ decide (2199023255552 < i) = b ∧ (a = true ∨ a = false ∧ b = true) := by
        refine ⟨_, _, rfl, rfl, ?_⟩
        by_cases h : i < -2199023255552
        · exact .inl (decide_eq_true h)
        · exact .inr ⟨decide_eq_false h, decide_eq_true (by omega)⟩
      clear hi
      rcases hdd with rfl | ⟨rfl, rfl⟩
      · go_wp2_with fail
        have HW := Lib.hid (((HR1.out.set 0 (.int .i64 0)).set 1 (.bool false)).set 2 (.string ⟨#[]⟩))
        refine bodyPost_ret (v := .tuple #[.agg #[.int .i64 0, .bool false, .string ⟨#[]⟩], .int .i64 10]) ?_ rfl ⟨by rw [HV.out], below_set3 HB1.out (by omega) _ _ _⟩
        have c0 := HW.out.cell 0 (v := .int .i64 0) rfl
        have c1 := HW.out.cell 1 (v := .bool false) rfl
        have c2 := HW.out.cell 2 (v := .string ⟨#[]⟩) rfl
        simp [results, Tryz.f20, go_sem, c0, c1, c2]
      · go_wp2_with fail
        have HW := Lib.hid (((HR1.out.set 0 (.int .i64 0)).set 1 (.bool false)).set 2 (.string ⟨#[]⟩))
        refine bodyPost_ret (v := .tuple #[.agg #[.int .i64 0, .bool false, .string ⟨#[]⟩], .int .i64 10]) ?_ rfl ⟨by rw [HV.out], below_set3 HB1.out (by omega) _ _ _⟩
        have c0 := HW.out.cell 0 (v := .int .i64 0) rfl
        have c1 := HW.out.cell 1 (v := .bool false) rfl
        have c2 := HW.out.cell 2 (v := .string ⟨#[]⟩) rfl
        simp [results, Tryz.f20, go_sem, c0, c1, c2]
    · have hd1 : decide (i < -2199023255552) = false := decide_eq_false (by omega)
      have hd2 : decide (2199023255552 < i) = false := decide_eq_false (by omega)
      have HIN := Lib.hid hi
      obtain ⟨hl0, -, hat, -⟩ := errZ_zero HE.out
      have hkle := eraI_le (endL S l) i
      rw [length_endL] at hkle
      obtain ⟨k, hk⟩ : ∃ k, eraI (endL S l) i = k := ⟨_, rfl⟩
      rw [hk] at hkle
      have hlk : k < l.length := by omega
      have hk0 : (0 : Int) ≤ (k : Int) := by omega
      have hkl : (k : Int) < (l.length : Int) := by omega
      obtain ⟨bb, o, c', e, hbb, hc⟩ := HZ1.out.eras.cells (by omega)
      cases e
      have hx := hc k hlk
      have her := hat k hlk
      rw [errAt_eq hlk] at her
      obtain ⟨x, hxk⟩ : ∃ x, l[k] = x := ⟨_, rfl⟩
      rw [hxk] at hx her
      obtain ⟨-, hof, hsf, -, -, -⟩ := errE_zero her
      have hax : atX S l i = x := by unfold atX; rw [hk, List.getD_eq_getElem?_getD, List.getElem?_eq_getElem hlk, hxk]; rfl
      have HV := Lib.hid (show atZ S l i = zwithinV x.n x.ru x.fm (ruleE S x) i by unfold atZ; rw [if_neg (fun h => h HE.out), if_neg hi, hax])
      obtain ⟨a, d, s, err, hzw⟩ := zwithinV_form x.n x.ru x.fm (ruleE S x) i
      have hfm : x.fm.size < 4294967281 := by rw [← hxk]; exact HO.out.fm _ (List.getElem_mem hlk)
      have HOF := Lib.hid (fun (W : World) (h : ZW W B (.slice (some ⟨bb, o, none⟩) l.length cA) sv l S) => zof_any W zn (.slice (some ⟨bb, o, none⟩) l.length cA) sv B S h.sets h.le x)
      have HWI := Lib.hid (fun (W : World) (h : ZW W B (.slice (some ⟨bb, o, none⟩) l.length cA) sv l S) => zwithin_any W x.n x.ru x.fm x.en B (rvalE S x) (ruleE S x) h.maxl hfm ⟨h.sets.rule x, h.ahead, h.tab, h.le⟩ (HO.out.rule x) i (by omega) (by omega) (by omega) (sum_ok (HO.out.rule x) (ZOk.ruleL HLT.out x) hsf))
      rw [hzw] at HV HWI
      obtain ⟨A3, c3', e3⟩ := rvalE_form HZ1.out.sets x
      rw [e3] at HOF HWI
      unfold setsV worldA eraA at HOF
      unfold eraA at HWI
      obtain ⟨c0, c1, c2, c3, c4, c5, c6, c7, c8, c9, c10, c11⟩ := hx
      have HERA := Lib.hid (fun (W : World) (h : Below w1.heap.size w1 W) => zera_any W w1.heap.size v (endL S l) i (HV0.out.below h))
      rw [hk] at HERA
      have x1 := HX1.out.cell 1 (v := .slice (some ⟨bb, o, none⟩) l.length cA) rfl
      have hzl1 : w.heap.size < w1.heap.size := HX1.out.lt
      have hbl1 : bb < w1.heap.size := by have := HZ1.out.le; omega
      clear hi hl0 hat hkle hk hc her hof hsf hax hzw hfm e3 hxk
      obtain ⟨A6, c6', hv6, -, -⟩ := HV0.out.form
      rw [hv6] at HERA ⊢
      clear hv6
      go_wp2_with fail
      go_region_held3 (fun w' => w'.cell? ⟨w.heap.size, 1, none⟩ = some (.slice (some ⟨bb, o, none⟩) l.length cA) ∧ w'.cell? ⟨bb, o + k * 12, none⟩ = some (.int .i64 x.n.off) ∧ w'.cell? ⟨bb, o + k * 12 + 1, none⟩ = some (.string x.ru) ∧ w'.cell? ⟨bb, o + k * 12 + 2, none⟩ = some (.int .i64 x.n.save) ∧ w'.cell? ⟨bb, o + k * 12 + 3, none⟩ = some (.string x.fm) ∧ w'.cell? ⟨bb, o + k * 12 + 4, none⟩ = some (.bool x.en) ∧ w'.cell? ⟨bb, o + k * 12 + 5, none⟩ = some (.int .i64 x.n.year) ∧ w'.cell? ⟨bb, o + k * 12 + 6, none⟩ = some (.int .i64 x.n.month) ∧ w'.cell? ⟨bb, o + k * 12 + 7, none⟩ = some (.int .i64 x.n.dk) ∧ w'.cell? ⟨bb, o + k * 12 + 8, none⟩ = some (.int .i64 x.n.dw) ∧ w'.cell? ⟨bb, o + k * 12 + 9, none⟩ = some (.int .i64 x.n.dn) ∧ w'.cell? ⟨bb, o + k * 12 + 10, none⟩ = some (.int .i64 x.n.sec) ∧ w'.cell? ⟨bb, o + k * 12 + 11, none⟩ = some (.int .i64 x.n.ak)) (first | exact ⟨x1, c0, c1, c2, c3, c4, c5, c6, c7, c8, c9, c10, c11⟩ | go_keep)
        (first | (go_at_call 23; refine (HERA.out _ (by first | exact Below.refl _ _ | exact (Below.refl _ _).drew | exact ((Below.refl _ _).alloc (Nat.le_refl _) _).drew)).mono ?_; rintro o w' ⟨rfl, rfl⟩))
      all_goals
        rename_i K0 hK0 hh
        clear hh
        refine hK0 _ _ ?_
        clear hK0
        go_wp2_with fail
        have hb6 : Below w.heap.size w (w1.alloc (.cells #[.int .i64 x.n.off, .string x.ru, .int .i64 x.n.save, .string x.fm, .bool x.en, .int .i64 x.n.year, .int .i64 x.n.month, .int .i64 x.n.dk, .int .i64 x.n.dw, .int .i64 x.n.dn, .int .i64 x.n.sec, .int .i64 x.n.ak] 54)).drew := (HB1.out.alloc HB1.out.size _).drew
        have he6 : Blk (w1.alloc (.cells #[.int .i64 x.n.off, .string x.ru, .int .i64 x.n.save, .string x.fm, .bool x.en, .int .i64 x.n.year, .int .i64 x.n.month, .int .i64 x.n.dk, .int .i64 x.n.dw, .int .i64 x.n.dn, .int .i64 x.n.sec, .int .i64 x.n.ak] 54)).drew w1.heap.size 54 #[.int .i64 x.n.off, .string x.ru, .int .i64 x.n.save, .string x.fm, .bool x.en, .int .i64 x.n.year, .int .i64 x.n.month, .int .i64 x.n.dk, .int .i64 x.n.dw, .int .i64 x.n.dn, .int .i64 x.n.sec, .int .i64 x.n.ak] := Blk.new w1 54 _
        have hr6 : Blk (w1.alloc (.cells #[.int .i64 x.n.off, .string x.ru, .int .i64 x.n.save, .string x.fm, .bool x.en, .int .i64 x.n.year, .int .i64 x.n.month, .int .i64 x.n.dk, .int .i64 x.n.dw, .int .i64 x.n.dn, .int .i64 x.n.sec, .int .i64 x.n.ak] 54)).drew (w.heap.size + 1) 41 #[.int .i64 0, .bool false, .string ⟨#[]⟩] := HR1.out.alloc (.cells #[.int .i64 x.n.off, .string x.ru, .int .i64 x.n.save, .string x.fm, .bool x.en, .int .i64 x.n.year, .int .i64 x.n.month, .int .i64 x.n.dk, .int .i64 x.n.dw, .int .i64 x.n.dn, .int .i64 x.n.sec, .int .i64 x.n.ak] 54)
        obtain ⟨W6, hW6⟩ : ∃ W, (w1.alloc (.cells #[.int .i64 x.n.off, .string x.ru, .int .i64 x.n.save, .string x.fm, .bool x.en, .int .i64 x.n.year, .int .i64 x.n.month, .int .i64 x.n.dk, .int .i64 x.n.dw, .int .i64 x.n.dn, .int .i64 x.n.sec, .int .i64 x.n.ak] 54)).drew = W := ⟨_, rfl⟩
        rw [hW6] at hb6 he6 hr6 ⊢
        clear hW6 c0 c1 c2 c3 c4 c5 c6 c7 c8 c9 c10 c11 x1
        have HB6 := Lib.hid hb6
        have HE6 := Lib.hid he6
        have HR6 := Lib.hid hr6
        clear hb6 he6 hr6
        refine wp_envS (fin := ?fnA) (by kernel_rfl) [35, 36, 37, 38, 39, 40, 41, 42, 99, 7]
          [.agg #[.int .i64 x.n.off, .string x.ru, .int .i64 x.n.save, .string x.fm, .bool x.en, .int .i64 x.n.year, .int .i64 x.n.month, .int .i64 x.n.dk, .int .i64 x.n.dw, .int .i64 x.n.dn, .int .i64 x.n.sec, .int .i64 x.n.ak], .func (.func 17) #[.agg #[.string zn, .slice (some ⟨bb, o, none⟩) l.length cA, sv]] #[], .agg #[.int .i64 x.n.off, .string x.ru, .int .i64 x.n.save, .string x.fm, .bool x.en, .int .i64 x.n.year, .int .i64 x.n.month, .int .i64 x.n.dk, .int .i64 x.n.dw, .int .i64 x.n.dn, .int .i64 x.n.sec, .int .i64 x.n.ak], .slice A3 (ruleE S x).length c3', .int .i64 i, .tuple #[.agg #[.int .i64 a, .bool d, .string s], .int .i64 err], .agg #[.int .i64 a, .bool d, .string s], .int .i64 err, undef, .int .i64 err] 8 (fun k => k = w.heap.size + 1) (fun W => Blk W (w.heap.size + 1) 41 #[.int .i64 a, .bool d, .string s]) (fun W W' h hb => Blk.below h hb (Blk.lt h)) (by kernel_rfl) (by decide) (by simp) ?finA ?stepsA ?nextA
        case finA =>
          simp only [putAll, Act.put, List.setIfInBounds_toArray, List.set_cons_succ, List.set_cons_zero, List.set_nil]
          try rfl
        case stepsA =>
          refine ⟨?_, ?_, ?_, ?_, ?_, ?_, ?_, ?_, ?_, ?_, trivial⟩
          all_goals
            refine .inr ⟨by kernel_rfl, fun w1_ hB_ hF_ => ?_⟩
            have he7 : Blk w1_ w1.heap.size 54 #[.int .i64 x.n.off, .string x.ru, .int .i64 x.n.save, .string x.fm, .bool x.en, .int .i64 x.n.year, .int .i64 x.n.month, .int .i64 x.n.dk, .int .i64 x.n.dw, .int .i64 x.n.dn, .int .i64 x.n.sec, .int .i64 x.n.ak] := Blk.fr HE6.out hF_ (by omega)
            have hz7 := HZ0.out.below (HB6.out.trans (hF_.below HB6.out.size (fun k hk => by omega)))
            have c0 := he7.cell 0 (v := .int .i64 x.n.off) rfl
            have c1 := he7.cell 1 (v := .string x.ru) rfl
            have c2 := he7.cell 2 (v := .int .i64 x.n.save) rfl
            have c3 := he7.cell 3 (v := .string x.fm) rfl
            have c4 := he7.cell 4 (v := .bool x.en) rfl
            have c5 := he7.cell 5 (v := .int .i64 x.n.year) rfl
            have c6 := he7.cell 6 (v := .int .i64 x.n.month) rfl
            have c7 := he7.cell 7 (v := .int .i64 x.n.dk) rfl
            have c8 := he7.cell 8 (v := .int .i64 x.n.dw) rfl
            have c9 := he7.cell 9 (v := .int .i64 x.n.dn) rfl
            have c10 := he7.cell 10 (v := .int .i64 x.n.sec) rfl
            have c11 := he7.cell 11 (v := .int .i64 x.n.ak) rfl
            first
              | (go_simp; first | exact ⟨rfl, rfl, Below.refl _ _⟩ | exact ⟨rfl, rfl, HOF.out _ hz7⟩ | exact ⟨rfl, rfl, HWI.out _ hz7⟩)
              | (have hr7 := HR6.out.below (hB_ rfl) HR6.out.lt; have f0 := hr7.frozen 0; have f1 := hr7.frozen 1; have f2 := hr7.frozen 2; have r0 := hr7.cell 0 (v := .int .i64 0) rfl; have r1 := hr7.cell 1 (v := .bool false) rfl; have r2 := hr7.cell 2 (v := .string ⟨#[]⟩) rfl; go_simp; exact ⟨rfl, rfl, fr_set3 (T := fun k => k = w.heap.size + 1) _ rfl _ _ _, ((hr7.set 0 _).set 1 _).set 2 _⟩)
        case nextA =>
          intro W8 hF8 hR8
          have hb8 := HB6.out.trans (hF8.below HB6.out.size (fun k hk => by omega))
          go_wp2_with fail
          refine bodyPost_ret (v := .tuple #[.agg #[.int .i64 a, .bool d, .string s], .int .i64 err]) ?_ rfl ⟨by rw [HV.out], hb8⟩
          have c0 := hR8.cell 0 (v := .int .i64 a) rfl
          have c1 := hR8.cell 1 (v := .bool d) rfl
          have c2 := hR8.cell 2 (v := .string s) rfl
          simp [results, Tryz.f20, go_sem, c0, c1, c2]
  · have HV := Lib.hid (show atZ S l i = badL E by unfold atZ; rw [if_pos (by rw [HE.out]; exact hE0), HE.out])
    unfold badL at HV
    have he0 : (E != 0) = true := by simpa using hE0
    have hvv := hvn hE0
    subst hvv
    have r0 := HR1.out.cell 0 (v := .int .i64 0) rfl
    have r1 := HR1.out.cell 1 (v := .bool false) rfl
    have r2 := HR1.out.cell 2 (v := .string ⟨#[]⟩) rfl
    have f0 := HR1.out.frozen 0
    have f1 := HR1.out.frozen 1
    have f2 := HR1.out.frozen 2
    clear hv0 hvn hE0
    go_wp2_with fail
    have HW := Lib.hid (((HR1.out.set 0 (.int .i64 0)).set 1 (.bool false)).set 2 (.string ⟨#[]⟩))
    refine bodyPost_ret (v := .tuple #[.agg #[.int .i64 0, .bool false, .string ⟨#[]⟩], .int .i64 E]) ?_ rfl ⟨by rw [HV.out], below_set3 HB1.out (by omega) _ _ _⟩
    have c0 := HW.out.cell 0 (v := .int .i64 0) rfl
    have c1 := HW.out.cell 1 (v := .bool false) rfl
    have c2 := HW.out.cell 2 (v := .string ⟨#[]⟩) rfl
    simp [results, Tryz.f20, go_sem, c0, c1, c2]
end Go.Proofs.YtonmmgcibpjahaaGreatDoor
end

section
/- ANear: Layer 13's law walked: which instants are near; an index that goes round. -/
namespace Go.Proofs.YtonmmgcibpjahaaGreatDoor
open Go Go.RowKit Go.Shelf
set_option maxRecDepth 100000

def nearB (i : Int) : Bool := decide (-2366841600 < i ∧ i < 3944678400)
theorem nearB_iff {i : Int} : nearB i = true ↔ -2366841600 < i ∧ i < 3944678400 := by unfold nearB; exact decide_eq_true_iff
theorem near_any (i : Int) (w : World) : Calls Tryz.prog 21 #[.int .i64 i] w fun o w' => o = .returned (.bool (nearB i)) ∧ w' = w := by
  by_cases h1 : -2366841600 < i
  · have d1 : decide (-2366841600 < i) = true := decide_eq_true h1
    by_cases h2 : i < 3944678400
    · have HV := Lib.hid (show nearB i = true by unfold nearB; rw [decide_eq_true_eq]; omega)
      have d2 : decide (i < 3944678400) = true := decide_eq_true h2
      go_enter Tryz.func21, Tryz.ntmps21
      go_wp2_with fail
      go_ret
      exact ⟨by rw [HV.out]; rfl, rfl⟩
    · have HV := Lib.hid (show nearB i = false by unfold nearB; rw [decide_eq_false_iff_not]; omega)
      have d2 : decide (i < 3944678400) = false := decide_eq_false h2
      go_enter Tryz.func21, Tryz.ntmps21
      go_wp2_with fail
      go_ret
      exact ⟨by rw [HV.out]; rfl, rfl⟩
  · have HV := Lib.hid (show nearB i = false by unfold nearB; rw [decide_eq_false_iff_not]; omega)
    have d1 : decide (-2366841600 < i) = false := decide_eq_false h1
    go_enter Tryz.func21, Tryz.ntmps21
    go_wp2_with fail
    go_ret
    exact ⟨by rw [HV.out]; rfl, rfl⟩
theorem wrap_in {a n : Int} (hn : 0 < n) : ∃ k : Nat, (a.tmod n + n).tmod n = k ∧ (k : Int) < n := by
  have h1 := Int.lt_tmod_of_pos a hn
  have h2 : 0 ≤ (a.tmod n + n).tmod n := Int.tmod_nonneg _ (by omega)
  have h3 := Int.tmod_lt_of_pos (a.tmod n + n) hn
  exact ⟨((a.tmod n + n).tmod n).toNat, by omega, by omega⟩
end Go.Proofs.YtonmmgcibpjahaaGreatDoor
end

section
/- GShift: The law ZoneShifts, walked. -/
namespace Go.Proofs.YtonmmgcibpjahaaGreatDoor
open Go Go.RowKit Go.Shelf
set_option maxRecDepth 100000

/-- Two rows of the call's own lie in two blocks. -/
def Asunder (v u : Value) : Prop := ∀ g, v.ownBlock = some g → u.ownBlock ≠ some g
theorem Asunder.symm {v u : Value} (h : Asunder v u) : Asunder u v := fun g hg hv => h g hv hg
theorem Asunder.nil_left (u : Value) : Asunder (.slice none 0 0) u := fun g h => by cases h
theorem Asunder.kept {w w' : World} {base : Nat} {e : TypeId} {sz n : Nat} {v u : Value} {xs : List Value} (h : Asunder v u) (ho : w.ownsRow base e sz u n xs) (hg : w.grownBy w' v.ownBlock) : w'.ownsRow base e sz u n xs := by
  refine ho.kept hg ?_
  rcases hu : u.ownBlock with _ | g
  · exact .inl rfl
  · exact .inr fun e => h g e.symm hu
theorem Asunder.moved {w : World} {base : Nat} {e : TypeId} {sz n : Nat} {v v' u : Value} {xs : List Value} (h : Asunder v u) (ho : w.ownsRow base e sz u n xs) (hl : v'.ownBlock = v.ownBlock ∨ v'.ownBlock = some w.heap.size) : Asunder v' u := by
  rcases hl with hl | hl
  · intro g hg; rw [hl] at hg; exact h g hg
  · intro g hg hu
    rw [hl] at hg
    cases hg
    have := (ho.lt _ hu).2
    omega
theorem ruls_take {R : List Rul} {k : Nat} {r : Rul} (h : ∀ hk : k < R.length, R[k] = r) (hk : k < R.length) (t : Int) : rulsV ((R.take (k + 1)).map (tellR t)) = rulsV ((R.take k).map (tellR t)) ++ rulV (tellR t r) := by
  rw [List.take_succ_eq_append_getElem hk, h hk, List.map_append]
  unfold rulsV
  simp
theorem withinX (W : World) (e : EraN) (en : Bool) (B : Nat) (v : Value) (l : List Rul) (i p : Int) (d : Bool) (h : zwithinV e rnm xfm l i = valX p d) (hm : Tryz.MaxL W) (hrw : RW W B v l) (hok : RuOk l) (hlt : letOk l) (hs : e.save = 0) (ho : -1000000000000000 ≤ e.off ∧ e.off ≤ 1000000000000000) (hi : -4500000000000 ≤ i) (hi2 : i ≤ 9000000000000000000) :
    Calls Tryz.prog 25 #[.agg #[.int .i64 e.off, .string ⟨#[82]⟩, .int .i64 e.save, .string ⟨#[88]⟩, .bool en, .int .i64 e.year, .int .i64 e.month, .int .i64 e.dk, .int .i64 e.dw, .int .i64 e.dn, .int .i64 e.sec, .int .i64 e.ak], v, .int .i64 i] W fun o w' => o = .returned (.tuple #[.agg #[.int .i64 p, .bool d, .string ⟨#[88]⟩], .int .i64 0]) ∧ Below W.heap.size W w' := by
  have H := zwithin_any W e rnm xfm en B v l hm (by decide) hrw hok i ho hi hi2 (sum_ok hok hlt (by omega))
  rw [h] at H
  exact H
set_option maxHeartbeats 16000000 in
theorem shifts_walk (w : World) (zn : ByteArray) (ev sv : Value) (l : List EraF) (S : List SetF) (i m : Int) (he : ErasR w w.heap.size ev l) (hs : SetsR w w.heap.size sv S) (hfm : ∀ x ∈ l, x.fm.size < 1152921504606846976) (hlet : ∀ s ∈ S, letOk s.l)
    (_ : -9223372036854775808 ≤ i ∧ i ≤ 9223372036854775807) (_ : -9223372036854775808 ≤ m ∧ m ≤ 9223372036854775807) (ha : Ahead w) (_ : 0 < w.heap.size) (hm : Tryz.MaxL w) :
    Calls Tryz.prog 5 #[worldA zn ev sv, .int .i64 i, .int .i64 m] w fun o w' => o = .returned (.bool true) ∧ Below w.heap.size w w' := by
  obtain ⟨A, cA, rfl, hlc, hcm⟩ := he.form
  obtain ⟨A2, cS, rfl, hlc2, hcm2⟩ := hs.form
  unfold maxLen at hcm hcm2
  have hb0 : Below w.heap.size w (w.alloc (.cells #[.string zn, .slice A l.length cA, .slice A2 S.length cS] 27)) := (Below.refl w.heap.size w).alloc (Nat.le_refl _) _
  have HF := Lib.hid (few_any _ zn _ _ w.heap.size l S (he.below hb0) (hs.below hb0) hb0.size hfm)
  have HX := Lib.hid (Blk.new w 27 #[.string zn, .slice A l.length cA, .slice A2 S.length cS])
  have HB := Lib.hid hb0
  have HM := Lib.hid hm
  have HE := Lib.hid he
  have HS := Lib.hid hs
  have HLET := Lib.hid hlet
  have HA := Lib.hid ha
  clear hb0 he hs hm hlet hfm ha
  unfold worldA at HF ⊢
  cases hf : fewB l S with
  | false =>
    rw [hf] at HF
    clear hf
    go_enter Tryz.func5, Tryz.ntmps5
    go_wp2_with fail
    refine HF.out.mono ?_
    rintro o w1 ⟨rfl, hb⟩
    have HX1 := Lib.hid (HX.out.below hb HX.out.lt)
    have HB1 := Lib.hid (HB.out.trans (hb.mono HB.out.size))
    have x0 := HX1.out.cell 0 (v := .string zn) rfl
    have x1 := HX1.out.cell 1 (v := .slice A l.length cA) rfl
    have x2 := HX1.out.cell 2 (v := .slice A2 S.length cS) rfl
    have hs1 := HB1.out.size
    have hl1 := HX1.out.lt
    clear hb HX HF
    go_wp2_with fail
    refine (awake_any _ (HM.out.below (HB1.out) (Nat.le_refl _))).mono ?_
    rintro o wz ⟨rfl, hbz⟩
    have hb9 := (HB1.out).trans (hbz.mono (HB1.out).size)
    clear hbz
    go_wp2_with fail
    go_ret
    exact ⟨rfl, hb9⟩
  | true =>
    rw [hf] at HF
    have HFEW := Lib.hid (fewB_iff.1 hf)
    clear hf
    by_cases hl0 : l.length = 0
    · have d0 : ((l.length : Int) == 0) = true := by simpa using hl0
      clear hl0
      go_enter Tryz.func5, Tryz.ntmps5
      go_wp2_with fail
      refine HF.out.mono ?_
      rintro o w1 ⟨rfl, hb⟩
      have HX1 := Lib.hid (HX.out.below hb HX.out.lt)
      have HB1 := Lib.hid (HB.out.trans (hb.mono HB.out.size))
      have x0 := HX1.out.cell 0 (v := .string zn) rfl
      have x1 := HX1.out.cell 1 (v := .slice A l.length cA) rfl
      have x2 := HX1.out.cell 2 (v := .slice A2 S.length cS) rfl
      have hs1 := HB1.out.size
      have hl1 := HX1.out.lt
      clear hb HX HF
      go_wp2_with fail
      refine (awake_any _ (HM.out.below (HB1.out) (Nat.le_refl _))).mono ?_
      rintro o wz ⟨rfl, hbz⟩
      have hb9 := (HB1.out).trans (hbz.mono (HB1.out).size)
      clear hbz
      go_wp2_with fail
      go_ret
      exact ⟨rfl, hb9⟩
    · have d0 : ((l.length : Int) == 0) = false := by simpa using hl0
      have hlp : 0 < l.length := by omega
      clear hl0
      cases hn : nearB i with
      | false =>
        have HN := Lib.hid (near_any i)
        rw [hn] at HN
        clear hn
        go_enter Tryz.func5, Tryz.ntmps5
        go_wp2_with fail
        refine HF.out.mono ?_
        rintro o w1 ⟨rfl, hb⟩
        have HX1 := Lib.hid (HX.out.below hb HX.out.lt)
        have HB1 := Lib.hid (HB.out.trans (hb.mono HB.out.size))
        have x0 := HX1.out.cell 0 (v := .string zn) rfl
        have x1 := HX1.out.cell 1 (v := .slice A l.length cA) rfl
        have x2 := HX1.out.cell 2 (v := .slice A2 S.length cS) rfl
        have hs1 := HB1.out.size
        have hl1 := HX1.out.lt
        clear hb HX HF
        go_wp2_with fail
        refine (HN.out _).mono ?_
        rintro o w1' ⟨rfl, rfl⟩
        go_wp2_with fail
        refine (awake_any _ (HM.out.below (HB1.out) (Nat.le_refl _))).mono ?_
        rintro o wz ⟨rfl, hbz⟩
        have hb9 := (HB1.out).trans (hbz.mono (HB1.out).size)
        clear hbz
        go_wp2_with fail
        go_ret
        exact ⟨rfl, hb9⟩
      | true =>
        have HN := Lib.hid (near_any i)
        rw [hn] at HN
        obtain ⟨n1, n2⟩ := nearB_iff.1 hn
        clear hn
        by_cases hm1 : m < -40000
        · have dm1 : decide (m < -40000) = true := decide_eq_true hm1
          clear hm1
          go_enter Tryz.func5, Tryz.ntmps5
          go_wp2_with fail
          refine HF.out.mono ?_
          rintro o w1 ⟨rfl, hb⟩
          have HX1 := Lib.hid (HX.out.below hb HX.out.lt)
          have HB1 := Lib.hid (HB.out.trans (hb.mono HB.out.size))
          have x0 := HX1.out.cell 0 (v := .string zn) rfl
          have x1 := HX1.out.cell 1 (v := .slice A l.length cA) rfl
          have x2 := HX1.out.cell 2 (v := .slice A2 S.length cS) rfl
          have hs1 := HB1.out.size
          have hl1 := HX1.out.lt
          clear hb HX HF
          go_wp2_with fail
          refine (HN.out _).mono ?_
          rintro o w1' ⟨rfl, rfl⟩
          go_wp2_with fail
          refine (awake_any _ (HM.out.below (HB1.out) (Nat.le_refl _))).mono ?_
          rintro o wz ⟨rfl, hbz⟩
          have hb9 := (HB1.out).trans (hbz.mono (HB1.out).size)
          clear hbz
          go_wp2_with fail
          go_ret
          exact ⟨rfl, hb9⟩
        · have dm1 : decide (m < -40000) = false := decide_eq_false hm1
          by_cases hm2 : 40000 < m
          · have dm2 : decide (40000 < m) = true := decide_eq_true hm2
            go_enter Tryz.func5, Tryz.ntmps5
            go_wp2_with fail
            refine HF.out.mono ?_
            rintro o w1 ⟨rfl, hb⟩
            have HX1 := Lib.hid (HX.out.below hb HX.out.lt)
            have HB1 := Lib.hid (HB.out.trans (hb.mono HB.out.size))
            have x0 := HX1.out.cell 0 (v := .string zn) rfl
            have x1 := HX1.out.cell 1 (v := .slice A l.length cA) rfl
            have x2 := HX1.out.cell 2 (v := .slice A2 S.length cS) rfl
            have hs1 := HB1.out.size
            have hl1 := HX1.out.lt
            clear hb HX HF
            go_wp2_with fail
            refine (HN.out _).mono ?_
            rintro o w1' ⟨rfl, rfl⟩
            go_wp2_with fail
            refine (awake_any _ (HM.out.below (HB1.out) (Nat.le_refl _))).mono ?_
            rintro o wz ⟨rfl, hbz⟩
            have hb9 := (HB1.out).trans (hbz.mono (HB1.out).size)
            clear hbz
            go_wp2_with fail
            go_ret
            exact ⟨rfl, hb9⟩
          · have dm2 : decide (40000 < m) = false := decide_eq_false hm2
            have hmb : -40000 ≤ m ∧ m ≤ 40000 := by omega
            have hwr : wrap64 (i - m) = i - m := IntWalk.wrap64_in _ (by omega)
            cases hnn : nearB (i - m) with
            | false =>
              have HN2 := Lib.hid (near_any (i - m))
              rw [hnn] at HN2
              clear hnn
              go_enter Tryz.func5, Tryz.ntmps5
              go_wp2_with fail
              refine HF.out.mono ?_
              rintro o w1 ⟨rfl, hb⟩
              have HX1 := Lib.hid (HX.out.below hb HX.out.lt)
              have HB1 := Lib.hid (HB.out.trans (hb.mono HB.out.size))
              have x0 := HX1.out.cell 0 (v := .string zn) rfl
              have x1 := HX1.out.cell 1 (v := .slice A l.length cA) rfl
              have x2 := HX1.out.cell 2 (v := .slice A2 S.length cS) rfl
              have hs1 := HB1.out.size
              have hl1 := HX1.out.lt
              clear hb HX HF
              go_wp2_with fail
              refine (HN.out _).mono ?_
              rintro o w1' ⟨rfl, rfl⟩
              go_wp2_with fail
              refine (HN2.out _).mono ?_
              rintro o w1'' ⟨rfl, rfl⟩
              go_wp2_with fail
              refine (awake_any _ (HM.out.below (HB1.out) (Nat.le_refl _))).mono ?_
              rintro o wz ⟨rfl, hbz⟩
              have hb9 := (HB1.out).trans (hbz.mono (HB1.out).size)
              clear hbz
              go_wp2_with fail
              go_ret
              exact ⟨rfl, hb9⟩
            | true =>
              have HN2 := Lib.hid (near_any (i - m))
              rw [hnn] at HN2
              obtain ⟨n3, n4⟩ := nearB_iff.1 hnn
              clear hnn
              go_enter Tryz.func5, Tryz.ntmps5
              go_wp2_with fail
              refine HF.out.mono ?_
              rintro o w1 ⟨rfl, hb⟩
              have HX1 := Lib.hid (HX.out.below hb HX.out.lt)
              have HB1 := Lib.hid (HB.out.trans (hb.mono HB.out.size))
              have x0 := HX1.out.cell 0 (v := .string zn) rfl
              have x1 := HX1.out.cell 1 (v := .slice A l.length cA) rfl
              have x2 := HX1.out.cell 2 (v := .slice A2 S.length cS) rfl
              have hs1 := HB1.out.size
              have hl1 := HX1.out.lt
              clear hb HX HF
              go_wp2_with fail
              refine (HN.out _).mono ?_
              rintro o w1' ⟨rfl, rfl⟩
              go_wp2_with fail
              refine (HN2.out _).mono ?_
              rintro o w1'' ⟨rfl, rfl⟩
              obtain ⟨bb, o, c', e, hbb, hc⟩ := (HE.out.below HB1.out).cells hlp
              cases e
              have hx := hc 0 hlp
              obtain ⟨x, hxk⟩ : ∃ x, l[0] = x := ⟨_, rfl⟩
              rw [hxk] at hx
              rw [Nat.zero_mul, Nat.add_zero] at hx
              obtain ⟨c0, c1, c2, c3, c4, c5, c6, c7, c8, c9, c10, c11⟩ := hx
              clear hc hxk
              by_cases ho1 : x.n.off < -40000
              · have do1 : decide (x.n.off < -40000) = true := decide_eq_true ho1
                clear ho1
                go_wp2_with fail
                refine (awake_any _ (HM.out.below ((HB1.out.alloc hs1 _)) (Nat.le_refl _))).mono ?_
                rintro o wz ⟨rfl, hbz⟩
                have hb9 := ((HB1.out.alloc hs1 _)).trans (hbz.mono ((HB1.out.alloc hs1 _)).size)
                clear hbz
                go_wp2_with fail
                go_ret
                exact ⟨rfl, hb9⟩
              · have do1 : decide (x.n.off < -40000) = false := decide_eq_false ho1
                by_cases ho2 : 40000 < x.n.off
                · have do2 : decide (40000 < x.n.off) = true := decide_eq_true ho2
                  clear ho1 ho2
                  go_wp2_with fail
                  refine (awake_any _ (HM.out.below ((HB1.out.alloc hs1 _)) (Nat.le_refl _))).mono ?_
                  rintro o wz ⟨rfl, hbz⟩
                  have hb9 := ((HB1.out.alloc hs1 _)).trans (hbz.mono ((HB1.out.alloc hs1 _)).size)
                  clear hbz
                  go_wp2_with fail
                  go_ret
                  exact ⟨rfl, hb9⟩
                · have do2 : decide (40000 < x.n.off) = false := decide_eq_false ho2
                  by_cases hS0 : S.length = 0
                  · have dS : ((S.length : Int) == 0) = true := by simpa using hS0
                    clear ho1 ho2 hS0
                    go_wp2_with fail
                    refine (awake_any _ (HM.out.below ((HB1.out.alloc hs1 _)) (Nat.le_refl _))).mono ?_
                    rintro o wz ⟨rfl, hbz⟩
                    have hb9 := ((HB1.out.alloc hs1 _)).trans (hbz.mono ((HB1.out.alloc hs1 _)).size)
                    clear hbz
                    go_wp2_with fail
                    go_ret
                    exact ⟨rfl, hb9⟩
                  · have dS : ((S.length : Int) == 0) = false := by simpa using hS0
                    have hSp : 0 < S.length := by omega
                    have hob : -40000 ≤ x.n.off ∧ x.n.off ≤ 40000 := by omega
                    clear ho1 ho2 hS0
                    obtain ⟨i0, hi, hz0, hz1, hz2⟩ := info_parts infoRul
                    have hb2 := HB1.out.alloc hs1 (.cells #[.int .i64 x.n.off, .string ⟨#[82]⟩, .int .i64 0, .string ⟨#[88]⟩, .bool x.en, .int .i64 x.n.year, .int .i64 x.n.month, .int .i64 x.n.dk, .int .i64 x.n.dw, .int .i64 x.n.dn, .int .i64 x.n.sec, .int .i64 x.n.ak] 54)
                    have HX2 := Lib.hid (HX1.out.alloc (.cells #[.int .i64 x.n.off, .string ⟨#[82]⟩, .int .i64 0, .string ⟨#[88]⟩, .bool x.en, .int .i64 x.n.year, .int .i64 x.n.month, .int .i64 x.n.dk, .int .i64 x.n.dw, .int .i64 x.n.dn, .int .i64 x.n.sec, .int .i64 x.n.ak] 54))
                    have HE2 := Lib.hid (Blk.new w1'' 54 #[.int .i64 x.n.off, .string ⟨#[82]⟩, .int .i64 0, .string ⟨#[88]⟩, .bool x.en, .int .i64 x.n.year, .int .i64 x.n.month, .int .i64 x.n.dk, .int .i64 x.n.dw, .int .i64 x.n.dn, .int .i64 x.n.sec, .int .i64 x.n.ak])
                    have HB2 := Lib.hid hb2
                    clear hb2
                    go_wp2_with fail
                    obtain ⟨w2, hw2⟩ : ∃ W, w1''.alloc (.cells #[.int .i64 x.n.off, .string ⟨#[82]⟩, .int .i64 0, .string ⟨#[88]⟩, .bool x.en, .int .i64 x.n.year, .int .i64 x.n.month, .int .i64 x.n.dk, .int .i64 x.n.dw, .int .i64 x.n.dn, .int .i64 x.n.sec, .int .i64 x.n.ak] 54) = W := ⟨_, rfl⟩
                    rw [hw2] at HB2 HX2 HE2
                    try simp only [hw2]
                    clear hw2 x0 x1 x2 c0 c1 c2 c3 c4 c5 c6 c7 c8 c9 c10 c11 HX1
                    obtain ⟨bs, os, c'', e, hbs, hcS⟩ := HS.out.cells hSp
                    cases e
                    obtain ⟨-, hs1v⟩ := hcS 0 hSp
                    obtain ⟨s, hsk⟩ : ∃ s, S[0] = s := ⟨_, rfl⟩
                    have hsm : s ∈ S := by rw [← hsk]; exact List.getElem_mem hSp
                    have HRT := Lib.hid (HFEW.out.2.1 s hsm)
                    have HLT := Lib.hid (HLET.out s hsm)
                    have HRU := Lib.hid (HS.out.2 s hsm)
                    rw [hsk, Nat.zero_mul, Nat.add_zero] at hs1v
                    obtain ⟨A6, c6, hsv, hlc6, hcm6⟩ := HRU.out.form
                    unfold maxLen at hcm6
                    rw [hsv] at hs1v
                    have HSV := Lib.hid hsv
                    have hR6 := (small_all (right_small HRT.out)).2
                    obtain ⟨R, hR⟩ : ∃ R, s.l = R := ⟨_, rfl⟩
                    rw [hR] at hs1v HRT HLT HRU HSV hR6 hlc6
                    rw [HSV.out] at HRU
                    have HS1 := Lib.hid hs1v
                    clear hsv hs1v hcS hsk hsm hR
                    go_loopw [8, 9, 10] (fun u8 u9 iv wr => ∃ k : Nat, k ≤ R.length ∧ iv = .int .i64 k ∧ wr.ownsRow w2.heap.size 72 11 u8 k (rulsV ((R.take k).map (tellR 1))) ∧ wr.ownsRow w2.heap.size 72 11 u9 k (rulsV ((R.take k).map (tellR 2))) ∧ Asunder u8 u9 ∧ Below w2.heap.size w2 wr) (fun _ _ iv _ => R.length - (intOf iv).toNat)
                    case atStart => exact ⟨0, Nat.zero_le _, rfl, World.ownsRow_nil _ _ _ _, World.ownsRow_nil _ _ _ _, Asunder.nil_left _, Below.refl _ _⟩
                    case round =>
                      obtain ⟨k, hk, rfl, hown8, hown9, hap, hbw⟩ := hrel
                      have HO8 := Lib.hid hown8
                      have HO9 := Lib.hid hown9
                      have HAP := Lib.hid hap
                      have HBW := Lib.hid hbw
                      have HXW := Lib.hid (HX2.out.below hbw HX2.out.lt)
                      have hws := hbw.size
                      have hxl := HXW.out.lt
                      have x2 := HXW.out.cell 2 (v := .slice (some ⟨bs, os, none⟩) S.length cS) rfl
                      have hbsw : bs < wr.heap.size := by omega
                      have s1 : wr.cell? ⟨bs, os + 1, none⟩ = some (.slice A6 R.length c6) := ((HB2.out.trans (hbw.mono HB2.out.size)).cell (p := ⟨bs, os + 1, none⟩) hbs).trans HS1.out
                      obtain ⟨A8, c8, hu8, -, -⟩ := (Sl.of_own hown8)
                      obtain ⟨A9, c9, hu9, -, -⟩ := (Sl.of_own hown9)
                      subst hu8 hu9
                      clear hown8 hown9 hap hbw
                      by_cases hlt : k < R.length
                      · have hd : decide ((k : Int) < (R.length : Int)) = true := decide_eq_true (by omega)
                        obtain ⟨br, orr, c0', e, hbr, hcr⟩ := (HRU.out.below (HB2.out.trans (HBW.out.mono HB2.out.size))).cells (by omega)
                        cases e
                        have hr := hcr k hlt
                        obtain ⟨r, hrk⟩ : ∃ r, R[k] = r := ⟨_, rfl⟩
                        have HRK := Lib.hid (fun (_ : k < R.length) => hrk)
                        rw [hrk] at hr
                        obtain ⟨q0, q1, q2, q3, q4, q5, q6, q7, q8, q9, q10⟩ := hr
                        have hbrw : br < wr.heap.size := by have := HB2.out.size; omega
                        clear hcr hrk
                        go_wp2_with (first
                          | (at_builtin; go_loud (refine wpList_append_own_at _ rfl _ _ 60 rfl w2.heap.size 72 i0 (.agg #[.string ⟨#[]⟩, .int .i64 0, .int .i64 0, .int .i64 0, .int .i64 0, .int .i64 0, .int .i64 0, .int .i64 0, .int .i64 0, .int .i64 0, .string ⟨#[]⟩]) 11 104 Tryz.underlying60 hi hz0 hz1 hz2 rfl (by decide) _ k _ rfl (HO9b.out.alloc _) ⟨w3.heap.size, 0, none⟩ 1 1 (rulV (tellR 2 r)) rfl rfl (fun j y hy => by rw [Addr.add_lit, Nat.zero_add]; first | exact (cell_new _ _ _ _ j).trans (by simpa [rulV, tellR] using hy) | (rw [← hsz4.out]; exact (cell_new _ _ _ _ j).trans (by simpa [rulV, tellR] using hy))) (by simp [rulV, tellR, Value.oneCell']) (by unfold maxLen; omega) (by omega) (by simp; omega) ?_); intro v9 w5 hown9 hgrow9 _ hloc9)
                          | (at_builtin; go_loud (refine wpList_append_own_at _ rfl _ _ 60 rfl w2.heap.size 72 i0 (.agg #[.string ⟨#[]⟩, .int .i64 0, .int .i64 0, .int .i64 0, .int .i64 0, .int .i64 0, .int .i64 0, .int .i64 0, .int .i64 0, .int .i64 0, .string ⟨#[]⟩]) 11 104 Tryz.underlying60 hi hz0 hz1 hz2 rfl (by decide) _ k _ rfl ((HO8.out.alloc _).alloc _) ⟨wr.heap.size + 1, 0, none⟩ 1 1 (rulV (tellR 1 r)) rfl rfl (fun j y hy => by rw [Addr.add_lit, Nat.zero_add]; exact (cell_new2 _ _ _ _ _ j).trans (by simpa [rulV, tellR] using hy)) (by simp [rulV, tellR, Value.oneCell']) (by unfold maxLen; omega) (by omega) (by simp; omega) ?_); intro v8 w3 hown8 hgrow8 _ hloc8
                             have hr3 : Blk w3 wr.heap.size 72 #[.string r.name, .int .i64 r.from_, .int .i64 r.to_, .int .i64 r.month, .int .i64 r.dk, .int .i64 r.dw, .int .i64 r.dn, .int .i64 r.sec, .int .i64 1, .int .i64 r.save, .string r.letter] := ((Blk.new wr 72 #[.string r.name, .int .i64 r.from_, .int .i64 r.to_, .int .i64 r.month, .int .i64 r.dk, .int .i64 r.dw, .int .i64 r.dn, .int .i64 r.sec, .int .i64 1, .int .i64 r.save, .string r.letter]).alloc (.cells #[.string r.name, .int .i64 r.from_, .int .i64 r.to_, .int .i64 r.month, .int .i64 r.dk, .int .i64 r.dw, .int .i64 r.dn, .int .i64 r.sec, .int .i64 1, .int .i64 r.save, .string r.letter] 72)).grown hgrow8 (fun e => by have := (HO8.out.lt _ e).2; omega)
                             have HB3 := Lib.hid (below_push (HBW.out.alloc hws (.cells #[.string r.name, .int .i64 r.from_, .int .i64 r.to_, .int .i64 r.month, .int .i64 r.dk, .int .i64 r.dw, .int .i64 r.dn, .int .i64 r.sec, .int .i64 1, .int .i64 r.save, .string r.letter] 72)) (HO8.out.alloc _) hgrow8)
                             have HAP2 := Lib.hid (HAP.out.moved ((HO9.out.alloc (.cells #[.string r.name, .int .i64 r.from_, .int .i64 r.to_, .int .i64 r.month, .int .i64 r.dk, .int .i64 r.dw, .int .i64 r.dn, .int .i64 r.sec, .int .i64 1, .int .i64 r.save, .string r.letter] 72)).alloc (.cells #[.string r.name, .int .i64 r.from_, .int .i64 r.to_, .int .i64 r.month, .int .i64 r.dk, .int .i64 r.dw, .int .i64 r.dn, .int .i64 r.sec, .int .i64 1, .int .i64 r.save, .string r.letter] 72)) hloc8)
                             have hlt3 := hr3.lt
                             have HO9b := Lib.hid ((Fr.setCell (T := fun k => k = wr.heap.size) w3 8 (.int .i64 2) rfl).own (HAP.out.kept ((HO9.out.alloc (.cells #[.string r.name, .int .i64 r.from_, .int .i64 r.to_, .int .i64 r.month, .int .i64 r.dk, .int .i64 r.dw, .int .i64 r.dn, .int .i64 r.sec, .int .i64 1, .int .i64 r.save, .string r.letter] 72)).alloc (.cells #[.string r.name, .int .i64 r.from_, .int .i64 r.to_, .int .i64 r.month, .int .i64 r.dk, .int .i64 r.dw, .int .i64 r.dn, .int .i64 r.sec, .int .i64 1, .int .i64 r.save, .string r.letter] 72)) hgrow8) (fun q hq e => by have := (HO9.out.lt _ hq).2; omega))
                             have HO8c := Lib.hid ((Fr.setCell (T := fun k => k = wr.heap.size) w3 8 (.int .i64 2) rfl).own hown8 (fun q hq e => by
                               rcases hloc8 with h | h
                               · rw [h] at hq; have := (HO8.out.lt _ hq).2; omega
                               · rw [h] at hq; injection hq with hq; simp only [World.size_alloc] at hq; omega))
                             have hf8 := hr3.frozen 8
                             have hsz4 := Lib.hid (show (w3.setCell ⟨wr.heap.size, 8, none⟩ (.int .i64 2)).heap.size = w3.heap.size by simp)
                             have r0 := hr3.cell 0 (v := .string r.name) rfl
                             have r1 := hr3.cell 1 (v := .int .i64 r.from_) rfl
                             have r2 := hr3.cell 2 (v := .int .i64 r.to_) rfl
                             have r3 := hr3.cell 3 (v := .int .i64 r.month) rfl
                             have r4 := hr3.cell 4 (v := .int .i64 r.dk) rfl
                             have r5 := hr3.cell 5 (v := .int .i64 r.dw) rfl
                             have r6 := hr3.cell 6 (v := .int .i64 r.dn) rfl
                             have r7 := hr3.cell 7 (v := .int .i64 r.sec) rfl
                             have r8 := hr3.cell 8 (v := .int .i64 1) rfl
                             have r9 := hr3.cell 9 (v := .int .i64 r.save) rfl
                             have r10 := hr3.cell 10 (v := .string r.letter) rfl
                             clear hr3 hown8 hgrow8))
                        go_roundw
                        case rel =>
                          refine ⟨k + 1, by omega, by go_num, ?_, ?_, ?_, below_push (HB3.out.setCell (by omega) _) HO9b.out hgrow9⟩
                          · rw [ruls_take HRK.out hlt 1]
                            exact HAP2.out.symm.kept (HO8c.out.alloc _) hgrow9
                          · rw [ruls_take HRK.out hlt 2]
                            exact hown9
                          · exact (HAP2.out.symm.moved (HO8c.out.alloc _) hloc9).symm
                        case measure => first | (simp [intOf]; done) | (simp [intOf]; omega)
                      · obtain rfl : k = R.length := by omega
                        have hd : decide ((R.length : Int) < (R.length : Int)) = false := decide_eq_false (by omega)
                        have h8 : Ruls wr wr.heap.size (.slice A8 R.length c8) (R.map (tellR 1)) := by
                          have h := Sl.of_own HO8.out
                          rw [List.take_length] at h
                          unfold Ruls
                          rw [List.length_map]
                          exact h
                        have h9 : Ruls wr wr.heap.size (.slice A9 R.length c9) (R.map (tellR 2)) := by
                          have h := Sl.of_own HO9.out
                          rw [List.take_length] at h
                          unfold Ruls
                          rw [List.length_map]
                          exact h
                        have HB7 := Lib.hid (HB2.out.trans (HBW.out.mono HB2.out.size))
                        have hE7 := HE2.out.below HBW.out HE2.out.lt
                        have hF8 := Blk.new wr 54 #[.int .i64 (x.n.off + m), .string ⟨#[82]⟩, .int .i64 0, .string ⟨#[88]⟩, .bool x.en, .int .i64 x.n.year, .int .i64 x.n.month, .int .i64 x.n.dk, .int .i64 x.n.dw, .int .i64 x.n.dn, .int .i64 x.n.sec, .int .i64 x.n.ak]
                        have hE8 := hE7.alloc (.cells #[.int .i64 (x.n.off + m), .string ⟨#[82]⟩, .int .i64 0, .string ⟨#[88]⟩, .bool x.en, .int .i64 x.n.year, .int .i64 x.n.month, .int .i64 x.n.dk, .int .i64 x.n.dw, .int .i64 x.n.dn, .int .i64 x.n.sec, .int .i64 x.n.ak] 54)
                        have hBW8 : Below wr.heap.size wr (wr.alloc (.cells #[.int .i64 (x.n.off + m), .string ⟨#[82]⟩, .int .i64 0, .string ⟨#[88]⟩, .bool x.en, .int .i64 x.n.year, .int .i64 x.n.month, .int .i64 x.n.dk, .int .i64 x.n.dw, .int .i64 x.n.dn, .int .i64 x.n.sec, .int .i64 x.n.ak] 54)) := (Below.refl _ _).alloc (Nat.le_refl _) _
                        have HB8 := Lib.hid (HB7.out.alloc (by have := HB7.out.size; omega) (.cells #[.int .i64 (x.n.off + m), .string ⟨#[82]⟩, .int .i64 0, .string ⟨#[88]⟩, .bool x.en, .int .i64 x.n.year, .int .i64 x.n.month, .int .i64 x.n.dk, .int .i64 x.n.dw, .int .i64 x.n.dn, .int .i64 x.n.sec, .int .i64 x.n.ak] 54))
                        have hwl : w.heap.size ≤ wr.heap.size := HB7.out.size
                        obtain ⟨p1, hp1⟩ : ∃ p, offX { x.n with save := 0 } (R.map (tellR 1)) i = p := ⟨_, rfl⟩
                        obtain ⟨q1, hq1⟩ : ∃ p, dstX { x.n with save := 0 } (R.map (tellR 1)) i = p := ⟨_, rfl⟩
                        obtain ⟨p2, hp2⟩ : ∃ p, offX { x.n with save := 0 } (R.map (tellR 2)) i = p := ⟨_, rfl⟩
                        obtain ⟨q2, hq2⟩ : ∃ p, dstX { x.n with save := 0 } (R.map (tellR 2)) i = p := ⟨_, rfl⟩
                        have g1 := shiftS_in (tell_ok (k := 1) HRT.out) x.n.off i
                        have g2 := shiftS_in (tell_ok (k := 2) HRT.out) x.n.off i
                        have hp1' : x.n.off + shiftS (R.map (tellR 1)) x.n.off i = p1 := hp1
                        have hp2' : x.n.off + shiftS (R.map (tellR 2)) x.n.off i = p2 := hp2
                        have b1 : -2000000000000000 ≤ p1 := by omega
                        have b2 : p1 ≤ 2000000000000000 := by omega
                        have b3 : -2000000000000000 ≤ p2 := by omega
                        have b4 : p2 ≤ 2000000000000000 := by omega
                        have V1 : zwithinV { x.n with save := 0 } rnm xfm (R.map (tellR 1)) i = valX p1 q1 := by rw [zwithin_x, hp1, hq1]
                        have V3 : zwithinV { x.n with save := 0 } rnm xfm (R.map (tellR 2)) i = valX p2 q2 := by rw [zwithin_x, hp2, hq2]
                        have V2 : zwithinV (offE { x.n with save := 0 } m) rnm xfm (R.map (tellR 1)) (i - m) = valX (p1 + m) q1 := by
                          rw [within_std (e := { x.n with save := 0 }) HRT.out (by show _ ∧ _; constructor <;> (show _ < _) <;> simp only <;> omega) (by constructor <;> simp only <;> omega) n1 n2 n3 n4, hp1, hq1]
                        have V4 : zwithinV (offE { x.n with save := 0 } m) rnm xfm (R.map (tellR 2)) i = valX (p2 + m) q2 := by
                          rw [within_univ (e := { x.n with save := 0 }) HRT.out (by constructor <;> simp only <;> omega) (by constructor <;> simp only <;> omega) n1 n2, hp2, hq2]
                        clear hp1 hp2 hq1 hq2 hp1' hp2' g1 g2
                        obtain ⟨W8, hW8⟩ : ∃ W, wr.alloc (.cells #[.int .i64 (x.n.off + m), .string ⟨#[82]⟩, .int .i64 0, .string ⟨#[88]⟩, .bool x.en, .int .i64 x.n.year, .int .i64 x.n.month, .int .i64 x.n.dk, .int .i64 x.n.dw, .int .i64 x.n.dn, .int .i64 x.n.sec, .int .i64 x.n.ak] 54) = W := ⟨_, rfl⟩
                        rw [hW8] at hF8 hE8 hBW8 HB8
                        have hA8 : Ahead W8 := HA.out.below HB8.out (Nat.le_refl _)
                        have hM8 : Tryz.MaxL W8 := HM.out.below HB8.out (Nat.le_refl _)
                        have r8 : RW W8 wr.heap.size (.slice A8 R.length c8) (R.map (tellR 1)) := ⟨h8.below hBW8, hA8, by omega, hBW8.size⟩
                        have r9 : RW W8 wr.heap.size (.slice A9 R.length c9) (R.map (tellR 2)) := ⟨h9.below hBW8, hA8, by omega, hBW8.size⟩
                        have HW1 : Hid (∀ W, Below W8.heap.size W8 W → Calls Tryz.prog 25 #[.agg #[.int .i64 x.n.off, .string ⟨#[82]⟩, .int .i64 0, .string ⟨#[88]⟩, .bool x.en, .int .i64 x.n.year, .int .i64 x.n.month, .int .i64 x.n.dk, .int .i64 x.n.dw, .int .i64 x.n.dn, .int .i64 x.n.sec, .int .i64 x.n.ak], .slice A8 R.length c8, .int .i64 i] W fun o w' => o = .returned (.tuple #[.agg #[.int .i64 p1, .bool q1, .string ⟨#[88]⟩], .int .i64 0]) ∧ Below W.heap.size W w') :=
                          Lib.hid fun W hb => withinX W { x.n with save := 0 } x.en wr.heap.size _ _ i p1 q1 V1 (hM8.below hb (Nat.le_refl _)) (r8.below hb) (tell_ok HRT.out) (tell_let HLT.out) rfl (by constructor <;> simp only <;> omega) (by omega) (by omega)
                        have HW2 : Hid (∀ W, Below W8.heap.size W8 W → Calls Tryz.prog 25 #[.agg #[.int .i64 (x.n.off + m), .string ⟨#[82]⟩, .int .i64 0, .string ⟨#[88]⟩, .bool x.en, .int .i64 x.n.year, .int .i64 x.n.month, .int .i64 x.n.dk, .int .i64 x.n.dw, .int .i64 x.n.dn, .int .i64 x.n.sec, .int .i64 x.n.ak], .slice A8 R.length c8, .int .i64 (i - m)] W fun o w' => o = .returned (.tuple #[.agg #[.int .i64 (p1 + m), .bool q1, .string ⟨#[88]⟩], .int .i64 0]) ∧ Below W.heap.size W w') :=
                          Lib.hid fun W hb => withinX W (offE { x.n with save := 0 } m) x.en wr.heap.size _ _ (i - m) (p1 + m) q1 V2 (hM8.below hb (Nat.le_refl _)) (r8.below hb) (tell_ok HRT.out) (tell_let HLT.out) rfl (by unfold offE; constructor <;> simp only <;> omega) (by omega) (by omega)
                        have HW3 : Hid (∀ W, Below W8.heap.size W8 W → Calls Tryz.prog 25 #[.agg #[.int .i64 x.n.off, .string ⟨#[82]⟩, .int .i64 0, .string ⟨#[88]⟩, .bool x.en, .int .i64 x.n.year, .int .i64 x.n.month, .int .i64 x.n.dk, .int .i64 x.n.dw, .int .i64 x.n.dn, .int .i64 x.n.sec, .int .i64 x.n.ak], .slice A9 R.length c9, .int .i64 i] W fun o w' => o = .returned (.tuple #[.agg #[.int .i64 p2, .bool q2, .string ⟨#[88]⟩], .int .i64 0]) ∧ Below W.heap.size W w') :=
                          Lib.hid fun W hb => withinX W { x.n with save := 0 } x.en wr.heap.size _ _ i p2 q2 V3 (hM8.below hb (Nat.le_refl _)) (r9.below hb) (tell_ok HRT.out) (tell_let HLT.out) rfl (by constructor <;> simp only <;> omega) (by omega) (by omega)
                        have HW4 : Hid (∀ W, Below W8.heap.size W8 W → Calls Tryz.prog 25 #[.agg #[.int .i64 (x.n.off + m), .string ⟨#[82]⟩, .int .i64 0, .string ⟨#[88]⟩, .bool x.en, .int .i64 x.n.year, .int .i64 x.n.month, .int .i64 x.n.dk, .int .i64 x.n.dw, .int .i64 x.n.dn, .int .i64 x.n.sec, .int .i64 x.n.ak], .slice A9 R.length c9, .int .i64 i] W fun o w' => o = .returned (.tuple #[.agg #[.int .i64 (p2 + m), .bool q2, .string ⟨#[88]⟩], .int .i64 0]) ∧ Below W.heap.size W w') :=
                          Lib.hid fun W hb => withinX W (offE { x.n with save := 0 } m) x.en wr.heap.size _ _ i (p2 + m) q2 V4 (hM8.below hb (Nat.le_refl _)) (r9.below hb) (tell_ok HRT.out) (tell_let HLT.out) rfl (by unfold offE; constructor <;> simp only <;> omega) (by omega) (by omega)
                        have HE7 := Lib.hid hE7
                        have HE8 := Lib.hid hE8
                        have HF8 := Lib.hid hF8
                        have HC8 := Lib.hid (Below.refl W8.heap.size W8)
                        have d0 := hE7.cell 0 (v := .int .i64 x.n.off) rfl
                        have d1 := hE7.cell 1 (v := .string ⟨#[82]⟩) rfl
                        have d2 := hE7.cell 2 (v := .int .i64 0) rfl
                        have d3 := hE7.cell 3 (v := .string ⟨#[88]⟩) rfl
                        have d4 := hE7.cell 4 (v := .bool x.en) rfl
                        have d5 := hE7.cell 5 (v := .int .i64 x.n.year) rfl
                        have d6 := hE7.cell 6 (v := .int .i64 x.n.month) rfl
                        have d7 := hE7.cell 7 (v := .int .i64 x.n.dk) rfl
                        have d8 := hE7.cell 8 (v := .int .i64 x.n.dw) rfl
                        have d9 := hE7.cell 9 (v := .int .i64 x.n.dn) rfl
                        have d10 := hE7.cell 10 (v := .int .i64 x.n.sec) rfl
                        have d11 := hE7.cell 11 (v := .int .i64 x.n.ak) rfl
                        have e0 := hE8.cell 0 (v := .int .i64 x.n.off) rfl
                        have e1 := hE8.cell 1 (v := .string ⟨#[82]⟩) rfl
                        have e2 := hE8.cell 2 (v := .int .i64 0) rfl
                        have e3 := hE8.cell 3 (v := .string ⟨#[88]⟩) rfl
                        have e4 := hE8.cell 4 (v := .bool x.en) rfl
                        have e5 := hE8.cell 5 (v := .int .i64 x.n.year) rfl
                        have e6 := hE8.cell 6 (v := .int .i64 x.n.month) rfl
                        have e7 := hE8.cell 7 (v := .int .i64 x.n.dk) rfl
                        have e8 := hE8.cell 8 (v := .int .i64 x.n.dw) rfl
                        have e9 := hE8.cell 9 (v := .int .i64 x.n.dn) rfl
                        have e10 := hE8.cell 10 (v := .int .i64 x.n.sec) rfl
                        have e11 := hE8.cell 11 (v := .int .i64 x.n.ak) rfl
                        have f0 := hF8.cell 0 (v := .int .i64 (x.n.off + m)) rfl
                        have f1 := hF8.cell 1 (v := .string ⟨#[82]⟩) rfl
                        have f2 := hF8.cell 2 (v := .int .i64 0) rfl
                        have f3 := hF8.cell 3 (v := .string ⟨#[88]⟩) rfl
                        have f4 := hF8.cell 4 (v := .bool x.en) rfl
                        have f5 := hF8.cell 5 (v := .int .i64 x.n.year) rfl
                        have f6 := hF8.cell 6 (v := .int .i64 x.n.month) rfl
                        have f7 := hF8.cell 7 (v := .int .i64 x.n.dk) rfl
                        have f8 := hF8.cell 8 (v := .int .i64 x.n.dw) rfl
                        have f9 := hF8.cell 9 (v := .int .i64 x.n.dn) rfl
                        have f10 := hF8.cell 10 (v := .int .i64 x.n.sec) rfl
                        have f11 := hF8.cell 11 (v := .int .i64 x.n.ak) rfl
                        have hel8 := hE8.lt
                        have hfl8 := hF8.lt
                        have hel := hE7.lt
                        clear h8 h9 hF8 hE7 hE8 hBW8 V1 V2 V3 V4 hA8 hM8 r8 r9 HO8 HO9
                        go_wp2_with fail
                        refine (HW1.out _ HC8.out).mono ?_
                        rintro o w9 ⟨rfl, hb⟩
                        clear e0 e1 e2 e3 e4 e5 e6 e7 e8 e9 e10 e11 f0 f1 f2 f3 f4 f5 f6 f7 f8 f9 f10 f11
                        have HC9 := Lib.hid ((HC8.out.trans (hb.mono HC8.out.size)).alloc (by have := HC8.out.size; have := hb.size; omega) (.cells #[.int .i64 p1, .bool q1, .string ⟨#[88]⟩] 41))
                        have HL9 := Lib.hid (Blk.new w9 41 #[.int .i64 p1, .bool q1, .string ⟨#[88]⟩])
                        have HD9 := Lib.hid (hb.alloc hb.size (.cells #[.int .i64 p1, .bool q1, .string ⟨#[88]⟩] 41))
                        have hE9 := HE8.out.below HC9.out HE8.out.lt
                        have hF9 := HF8.out.below HC9.out HF8.out.lt
                        have e0 := hE9.cell 0 (v := .int .i64 x.n.off) rfl
                        have e1 := hE9.cell 1 (v := .string ⟨#[82]⟩) rfl
                        have e2 := hE9.cell 2 (v := .int .i64 0) rfl
                        have e3 := hE9.cell 3 (v := .string ⟨#[88]⟩) rfl
                        have e4 := hE9.cell 4 (v := .bool x.en) rfl
                        have e5 := hE9.cell 5 (v := .int .i64 x.n.year) rfl
                        have e6 := hE9.cell 6 (v := .int .i64 x.n.month) rfl
                        have e7 := hE9.cell 7 (v := .int .i64 x.n.dk) rfl
                        have e8 := hE9.cell 8 (v := .int .i64 x.n.dw) rfl
                        have e9 := hE9.cell 9 (v := .int .i64 x.n.dn) rfl
                        have e10 := hE9.cell 10 (v := .int .i64 x.n.sec) rfl
                        have e11 := hE9.cell 11 (v := .int .i64 x.n.ak) rfl
                        have f0 := hF9.cell 0 (v := .int .i64 (x.n.off + m)) rfl
                        have f1 := hF9.cell 1 (v := .string ⟨#[82]⟩) rfl
                        have f2 := hF9.cell 2 (v := .int .i64 0) rfl
                        have f3 := hF9.cell 3 (v := .string ⟨#[88]⟩) rfl
                        have f4 := hF9.cell 4 (v := .bool x.en) rfl
                        have f5 := hF9.cell 5 (v := .int .i64 x.n.year) rfl
                        have f6 := hF9.cell 6 (v := .int .i64 x.n.month) rfl
                        have f7 := hF9.cell 7 (v := .int .i64 x.n.dk) rfl
                        have f8 := hF9.cell 8 (v := .int .i64 x.n.dw) rfl
                        have f9 := hF9.cell 9 (v := .int .i64 x.n.dn) rfl
                        have f10 := hF9.cell 10 (v := .int .i64 x.n.sec) rfl
                        have f11 := hF9.cell 11 (v := .int .i64 x.n.ak) rfl
                        have hel9 := hE9.lt
                        have hfl9 := hF9.lt
                        clear hb hE9 hF9
                        clear hW8 d0 d1 d2 d3 d4 d5 d6 d7 d8 d9 d10 d11
                        go_wp2_with fail
                        refine (HW2.out _ HC9.out).mono ?_
                        rintro o w10 ⟨rfl, hb⟩
                        clear e0 e1 e2 e3 e4 e5 e6 e7 e8 e9 e10 e11 f0 f1 f2 f3 f4 f5 f6 f7 f8 f9 f10 f11
                        have HC10 := Lib.hid ((HC9.out.trans (hb.mono HC9.out.size)).alloc (by have := HC9.out.size; have := hb.size; omega) (.cells #[.int .i64 (p1 + m), .bool q1, .string ⟨#[88]⟩] 41))
                        have HL10 := Lib.hid (Blk.new w10 41 #[.int .i64 (p1 + m), .bool q1, .string ⟨#[88]⟩])
                        have HD10 := Lib.hid (hb.alloc hb.size (.cells #[.int .i64 (p1 + m), .bool q1, .string ⟨#[88]⟩] 41))
                        have hE10 := HE8.out.below HC10.out HE8.out.lt
                        have hF10 := HF8.out.below HC10.out HF8.out.lt
                        have e0 := hE10.cell 0 (v := .int .i64 x.n.off) rfl
                        have e1 := hE10.cell 1 (v := .string ⟨#[82]⟩) rfl
                        have e2 := hE10.cell 2 (v := .int .i64 0) rfl
                        have e3 := hE10.cell 3 (v := .string ⟨#[88]⟩) rfl
                        have e4 := hE10.cell 4 (v := .bool x.en) rfl
                        have e5 := hE10.cell 5 (v := .int .i64 x.n.year) rfl
                        have e6 := hE10.cell 6 (v := .int .i64 x.n.month) rfl
                        have e7 := hE10.cell 7 (v := .int .i64 x.n.dk) rfl
                        have e8 := hE10.cell 8 (v := .int .i64 x.n.dw) rfl
                        have e9 := hE10.cell 9 (v := .int .i64 x.n.dn) rfl
                        have e10 := hE10.cell 10 (v := .int .i64 x.n.sec) rfl
                        have e11 := hE10.cell 11 (v := .int .i64 x.n.ak) rfl
                        have f0 := hF10.cell 0 (v := .int .i64 (x.n.off + m)) rfl
                        have f1 := hF10.cell 1 (v := .string ⟨#[82]⟩) rfl
                        have f2 := hF10.cell 2 (v := .int .i64 0) rfl
                        have f3 := hF10.cell 3 (v := .string ⟨#[88]⟩) rfl
                        have f4 := hF10.cell 4 (v := .bool x.en) rfl
                        have f5 := hF10.cell 5 (v := .int .i64 x.n.year) rfl
                        have f6 := hF10.cell 6 (v := .int .i64 x.n.month) rfl
                        have f7 := hF10.cell 7 (v := .int .i64 x.n.dk) rfl
                        have f8 := hF10.cell 8 (v := .int .i64 x.n.dw) rfl
                        have f9 := hF10.cell 9 (v := .int .i64 x.n.dn) rfl
                        have f10 := hF10.cell 10 (v := .int .i64 x.n.sec) rfl
                        have f11 := hF10.cell 11 (v := .int .i64 x.n.ak) rfl
                        have hel10 := hE10.lt
                        have hfl10 := hF10.lt
                        clear hb hE10 hF10
                        go_wp2_with fail
                        refine (HW3.out _ HC10.out).mono ?_
                        rintro o w11 ⟨rfl, hb⟩
                        clear e0 e1 e2 e3 e4 e5 e6 e7 e8 e9 e10 e11 f0 f1 f2 f3 f4 f5 f6 f7 f8 f9 f10 f11
                        have HC11 := Lib.hid ((HC10.out.trans (hb.mono HC10.out.size)).alloc (by have := HC10.out.size; have := hb.size; omega) (.cells #[.int .i64 p2, .bool q2, .string ⟨#[88]⟩] 41))
                        have HL11 := Lib.hid (Blk.new w11 41 #[.int .i64 p2, .bool q2, .string ⟨#[88]⟩])
                        have HD11 := Lib.hid (hb.alloc hb.size (.cells #[.int .i64 p2, .bool q2, .string ⟨#[88]⟩] 41))
                        have hE11 := HE8.out.below HC11.out HE8.out.lt
                        have hF11 := HF8.out.below HC11.out HF8.out.lt
                        have e0 := hE11.cell 0 (v := .int .i64 x.n.off) rfl
                        have e1 := hE11.cell 1 (v := .string ⟨#[82]⟩) rfl
                        have e2 := hE11.cell 2 (v := .int .i64 0) rfl
                        have e3 := hE11.cell 3 (v := .string ⟨#[88]⟩) rfl
                        have e4 := hE11.cell 4 (v := .bool x.en) rfl
                        have e5 := hE11.cell 5 (v := .int .i64 x.n.year) rfl
                        have e6 := hE11.cell 6 (v := .int .i64 x.n.month) rfl
                        have e7 := hE11.cell 7 (v := .int .i64 x.n.dk) rfl
                        have e8 := hE11.cell 8 (v := .int .i64 x.n.dw) rfl
                        have e9 := hE11.cell 9 (v := .int .i64 x.n.dn) rfl
                        have e10 := hE11.cell 10 (v := .int .i64 x.n.sec) rfl
                        have e11 := hE11.cell 11 (v := .int .i64 x.n.ak) rfl
                        have f0 := hF11.cell 0 (v := .int .i64 (x.n.off + m)) rfl
                        have f1 := hF11.cell 1 (v := .string ⟨#[82]⟩) rfl
                        have f2 := hF11.cell 2 (v := .int .i64 0) rfl
                        have f3 := hF11.cell 3 (v := .string ⟨#[88]⟩) rfl
                        have f4 := hF11.cell 4 (v := .bool x.en) rfl
                        have f5 := hF11.cell 5 (v := .int .i64 x.n.year) rfl
                        have f6 := hF11.cell 6 (v := .int .i64 x.n.month) rfl
                        have f7 := hF11.cell 7 (v := .int .i64 x.n.dk) rfl
                        have f8 := hF11.cell 8 (v := .int .i64 x.n.dw) rfl
                        have f9 := hF11.cell 9 (v := .int .i64 x.n.dn) rfl
                        have f10 := hF11.cell 10 (v := .int .i64 x.n.sec) rfl
                        have f11 := hF11.cell 11 (v := .int .i64 x.n.ak) rfl
                        have hel11 := hE11.lt
                        have hfl11 := hF11.lt
                        clear hb hE11 hF11
                        go_wp2_with fail
                        refine (HW4.out _ HC11.out).mono ?_
                        rintro o w12 ⟨rfl, hb⟩
                        clear e0 e1 e2 e3 e4 e5 e6 e7 e8 e9 e10 e11 f0 f1 f2 f3 f4 f5 f6 f7 f8 f9 f10 f11
                        have HC12 := Lib.hid ((HC11.out.trans (hb.mono HC11.out.size)).alloc (by have := HC11.out.size; have := hb.size; omega) (.cells #[.int .i64 (p2 + m), .bool q2, .string ⟨#[88]⟩] 41))
                        have HL12 := Lib.hid (Blk.new w12 41 #[.int .i64 (p2 + m), .bool q2, .string ⟨#[88]⟩])
                        have HD12 := Lib.hid (hb.alloc hb.size (.cells #[.int .i64 (p2 + m), .bool q2, .string ⟨#[88]⟩] 41))
                        have hE12 := HE8.out.below HC12.out HE8.out.lt
                        have hF12 := HF8.out.below HC12.out HF8.out.lt
                        have e0 := hE12.cell 0 (v := .int .i64 x.n.off) rfl
                        have e1 := hE12.cell 1 (v := .string ⟨#[82]⟩) rfl
                        have e2 := hE12.cell 2 (v := .int .i64 0) rfl
                        have e3 := hE12.cell 3 (v := .string ⟨#[88]⟩) rfl
                        have e4 := hE12.cell 4 (v := .bool x.en) rfl
                        have e5 := hE12.cell 5 (v := .int .i64 x.n.year) rfl
                        have e6 := hE12.cell 6 (v := .int .i64 x.n.month) rfl
                        have e7 := hE12.cell 7 (v := .int .i64 x.n.dk) rfl
                        have e8 := hE12.cell 8 (v := .int .i64 x.n.dw) rfl
                        have e9 := hE12.cell 9 (v := .int .i64 x.n.dn) rfl
                        have e10 := hE12.cell 10 (v := .int .i64 x.n.sec) rfl
                        have e11 := hE12.cell 11 (v := .int .i64 x.n.ak) rfl
                        have f0 := hF12.cell 0 (v := .int .i64 (x.n.off + m)) rfl
                        have f1 := hF12.cell 1 (v := .string ⟨#[82]⟩) rfl
                        have f2 := hF12.cell 2 (v := .int .i64 0) rfl
                        have f3 := hF12.cell 3 (v := .string ⟨#[88]⟩) rfl
                        have f4 := hF12.cell 4 (v := .bool x.en) rfl
                        have f5 := hF12.cell 5 (v := .int .i64 x.n.year) rfl
                        have f6 := hF12.cell 6 (v := .int .i64 x.n.month) rfl
                        have f7 := hF12.cell 7 (v := .int .i64 x.n.dk) rfl
                        have f8 := hF12.cell 8 (v := .int .i64 x.n.dw) rfl
                        have f9 := hF12.cell 9 (v := .int .i64 x.n.dn) rfl
                        have f10 := hF12.cell 10 (v := .int .i64 x.n.sec) rfl
                        have f11 := hF12.cell 11 (v := .int .i64 x.n.ak) rfl
                        have hel12 := hE12.lt
                        have hfl12 := hF12.lt
                        clear hb hE12 hF12
                        have hs9 := HL9.out.lt
                        have hs10 := HL10.out.lt
                        have hs11 := HL11.out.lt
                        have k9 := ((HL9.out.below HD10.out (by have := HD10.out.size; (simp at *) <;> omega)).below HD11.out (by have := HD10.out.size; have := HD11.out.size; (simp at *) <;> omega)).below HD12.out (by have := HD10.out.size; have := HD11.out.size; have := HD12.out.size; (simp at *) <;> omega)
                        have k10 := (HL10.out.below HD11.out (by have := HD11.out.size; (simp at *) <;> omega)).below HD12.out (by have := HD11.out.size; have := HD12.out.size; (simp at *) <;> omega)
                        have k11 := HL11.out.below HD12.out (by have := HD12.out.size; (simp at *) <;> omega)
                        have k12 := HL12.out
                        have a0 := k9.cell 0 (v := .int .i64 p1) rfl
                        have a1 := k9.cell 1 (v := .bool q1) rfl
                        have b0 := k10.cell 0 (v := .int .i64 (p1 + m)) rfl
                        have b1' := k10.cell 1 (v := .bool q1) rfl
                        have c0 := k11.cell 0 (v := .int .i64 p2) rfl
                        have c1 := k11.cell 1 (v := .bool q2) rfl
                        have d0 := k12.cell 0 (v := .int .i64 (p2 + m)) rfl
                        have d1 := k12.cell 1 (v := .bool q2) rfl
                        have ka := k9.lt
                        have kb := k10.lt
                        have kc := k11.lt
                        have kd := k12.lt
                        have HBZ := Lib.hid (HB8.out.trans (HC12.out.mono HB8.out.size))
                        clear k9 k10 k11 k12 e0 e1 e2 e3 e4 e5 e6 e7 e8 e9 e10 e11 f0 f1 f2 f3 f4 f5 f6 f7 f8 f9 f10 f11
                        go_wp2_with fail
                        refine (awake_any _ (HM.out.below (HBZ.out) (Nat.le_refl _))).mono ?_
                        rintro o wz ⟨rfl, hbz⟩
                        have hb9 := (HBZ.out).trans (hbz.mono (HBZ.out).size)
                        clear hbz
                        go_wp2_with fail
                        go_ret
                        exact ⟨rfl, hb9⟩
end Go.Proofs.YtonmmgcibpjahaaGreatDoor
end

section
/- FOpen: From the rows' readings of rules to the words of the walks; the table of days. -/
namespace Go.Proofs.YtonmmgcibpjahaaGreatDoor
open Go Go.ChangeShapes Go.WideShapes Go.ChangeAt Go.RowKit Go.Deep

set_option maxRecDepth 100000
def aheadI : List Int := [0, 31, 59, 90, 120, 151, 181, 212, 243, 273, 304, 334, 365]
/-- What the rows' list gives. -/
theorem ahead_of {W : World} (h : laidMetH Tryz.prog [("meridian/civil.ahead", Rows.laid_meridian_civil_ahead)] W) : Ahead W := fun i hi => by
  have ht : Lib.TabIs Tryz.prog W "meridian/civil.ahead" .i64 aheadI := Lib.tabIs_of_head (rest := []) (g := 0) (by kernel_rfl) (by kernel_rfl) Tryz.underlying193 Tryz.underlying3 (by kernel_rfl) (by kernel_rfl) h
  have hc := ht.cell (g := 0) (by kernel_rfl) i (by simpa [aheadI] using hi)
  rw [hc]
  have : i = 0 ∨ i = 1 ∨ i = 2 ∨ i = 3 ∨ i = 4 ∨ i = 5 ∨ i = 6 ∨ i = 7 ∨ i = 8 ∨ i = 9 ∨ i = 10 ∨ i = 11 ∨ i = 12 := by omega
  rcases this with h | h | h | h | h | h | h | h | h | h | h | h | h <;> subst h <;> rfl
theorem open_int3 {H : Type} {enc : TypeId × Value → H} {P : Program} {W : World} {T E : TypeId} {r : Reach} {base : Nat} {v : Value} {d : DataW H} {p : List MemPlace} (hT : P.underlying T = some (.array 3 E)) (hE : P.underlying E = some (.int .i64)) (hC : P.cellsOf E = 1) (hCT : P.cellsOf T = 3)
    (hok : Value.okWide P W r base T v) (h : DataW.Trod enc P W 0 (fun _ => true) true T v d p) :
    ∃ a b c : Int, v = .agg #[.int .i64 a, .int .i64 b, .int .i64 c] ∧ (-9223372036854775808 ≤ a ∧ a ≤ 9223372036854775807) ∧ (-9223372036854775808 ≤ b ∧ b ≤ 9223372036854775807) ∧ (-9223372036854775808 ≤ c ∧ c ≤ 9223372036854775807) := by
  simp only [Value.okWide, hT] at hok
  obtain ⟨cs, rfl, hsz, _⟩ := hok
  obtain ⟨fuel, hf⟩ := h
  obtain ⟨xs, m, _, _, _, hl, hel⟩ := DataW.trod_array hT hf
  rw [hCT] at hsz
  obtain ⟨l⟩ := cs
  match l, hsz with
  | [c0, c1, c2], _ =>
    match xs, hl with
    | [x0, x1, x2], _ =>
      have h0 := hel 0 (by omega)
      have h1 := hel 1 (by omega)
      have h2 := hel 2 (by omega)
      simp [hC, Value.cells] at h0 h1 h2
      obtain ⟨a, e0, _, w0⟩ := DataW.trod_int hE h0
      obtain ⟨b, e1, _, w1⟩ := DataW.trod_int hE h1
      obtain ⟨c, e2, _, w2⟩ := DataW.trod_int hE h2
      simp at e0 e1 e2
      subst e0 e1 e2
      exact ⟨a, b, c, rfl, wf_i64 w0, wf_i64 w1, wf_i64 w2⟩
section
variable {H : Type} {enc : TypeId × Value → H} {P : Program} {W : World} {base : Nat} {spare : MemPlace → Bool} {held : Bool}
theorem trod_struct8 {t : TypeId} {f0 f1 f2 f3 f4 f5 f6 f7 : Field} {fuel : Nat} {cs : List Value} {x : DataW H × List MemPlace} (ht : P.underlying t = some (.struct #[f0, f1, f2, f3, f4, f5, f6, f7])) (h : DataW.trod enc P W 0 (fun _ => true) true fuel t cs = some x) :
    ∃ y0 y1 y2 y3 y4 y5 y6 y7 n, cs.length = P.cellsOf t ∧ DataW.trod enc P W 0 (fun _ => true) true n f0.type ((cs.drop f0.offset).take (P.cellsOf f0.type)) = some y0 ∧ DataW.trod enc P W 0 (fun _ => true) true n f1.type ((cs.drop f1.offset).take (P.cellsOf f1.type)) = some y1 ∧
      DataW.trod enc P W 0 (fun _ => true) true n f2.type ((cs.drop f2.offset).take (P.cellsOf f2.type)) = some y2 ∧ DataW.trod enc P W 0 (fun _ => true) true n f3.type ((cs.drop f3.offset).take (P.cellsOf f3.type)) = some y3 ∧ DataW.trod enc P W 0 (fun _ => true) true n f4.type ((cs.drop f4.offset).take (P.cellsOf f4.type)) = some y4 ∧
      DataW.trod enc P W 0 (fun _ => true) true n f5.type ((cs.drop f5.offset).take (P.cellsOf f5.type)) = some y5 ∧ DataW.trod enc P W 0 (fun _ => true) true n f6.type ((cs.drop f6.offset).take (P.cellsOf f6.type)) = some y6 ∧ DataW.trod enc P W 0 (fun _ => true) true n f7.type ((cs.drop f7.offset).take (P.cellsOf f7.type)) = some y7 := by
  obtain ⟨xs, n, _, rfl, hl, hlen, hf⟩ := DataW.trod_struct ht h
  match xs, hlen with
  | [y0, y1, y2, y3, y4, y5, y6, y7], _ => exact ⟨y0, y1, y2, y3, y4, y5, y6, y7, n, hl, by simpa using hf 0 f0 rfl, by simpa using hf 1 f1 rfl, by simpa using hf 2 f2 rfl, by simpa using hf 3 f3 rfl, by simpa using hf 4 f4 rfl, by simpa using hf 5 f5 rfl, by simpa using hf 6 f6 rfl, by simpa using hf 7 f7 rfl⟩
end
section
variable {H : Type} {enc : TypeId × Value → H} {W : World}
theorem trod_day {n : Nat} {cs : List Value} {y : DataW H × List MemPlace} (h : DataW.trod enc Tryz.prog W 0 (fun _ => true) true n 48 cs = some y) : ∃ a b c : Int, cs = [.int .i64 a, .int .i64 b, .int .i64 c] := by
  obtain ⟨y0, y1, y2, k, -, hl, h0, h1, h2⟩ := trod_struct3 Tryz.underlying48 h
  rw [show Tryz.prog.cellsOf 48 = 3 by kernel_rfl] at hl
  obtain ⟨a, e0, _, _⟩ := DataW.trod_int Tryz.underlying3 h0
  obtain ⟨b, e1, _, _⟩ := DataW.trod_int Tryz.underlying3 h1
  obtain ⟨c, e2, _, _⟩ := DataW.trod_int Tryz.underlying3 h2
  match cs, hl with
  | [v0, v1, v2], _ =>
    rw [show Tryz.prog.cellsOf 3 = 1 by kernel_rfl] at e0 e1 e2
    simp at e0 e1 e2
    subst e0 e1 e2
    exact ⟨a, b, c, rfl⟩
theorem trod_clock {n : Nat} {cs : List Value} {y : DataW H × List MemPlace} (h : DataW.trod enc Tryz.prog W 0 (fun _ => true) true n 50 cs = some y) : ∃ a b : Int, cs = [.int .i64 a, .int .i64 b] := by
  obtain ⟨y0, y1, k, -, hl, h0, h1⟩ := trod_struct2 Tryz.underlying50 h
  rw [show Tryz.prog.cellsOf 50 = 2 by kernel_rfl] at hl
  obtain ⟨a, e0, _, _⟩ := DataW.trod_int Tryz.underlying3 h0
  obtain ⟨b, e1, _, _⟩ := DataW.trod_int Tryz.underlying3 h1
  match cs, hl with
  | [v0, v1], _ =>
    rw [show Tryz.prog.cellsOf 3 = 1 by kernel_rfl] at e0 e1
    simp at e0 e1
    subst e0 e1
    exact ⟨a, b, rfl⟩
theorem trod_rul {n : Nat} {cs : List Value} {y : DataW H × List MemPlace} (h : DataW.trod enc Tryz.prog W 0 (fun _ => true) true n 72 cs = some y) : ∃ r : Rul, cs = rulV r ∧ True := by
  obtain ⟨y0, y1, y2, y3, y4, y5, y6, y7, k, hl, h0, h1, h2, h3, h4, h5, h6, h7⟩ := trod_struct8 Tryz.underlying72 h
  rw [show Tryz.prog.cellsOf 72 = 11 by kernel_rfl] at hl
  obtain ⟨nm, e0, _, _⟩ := DataW.trod_string Tryz.underlying9 h0
  obtain ⟨fr, e1, _, _⟩ := DataW.trod_int Tryz.underlying3 h1
  obtain ⟨to, e2, _, _⟩ := DataW.trod_int Tryz.underlying3 h2
  obtain ⟨mo, e3, _, _⟩ := DataW.trod_int Tryz.underlying3 h3
  obtain ⟨dk, dw, dn, e4⟩ := trod_day h4
  obtain ⟨sc, kd, e5⟩ := trod_clock h5
  obtain ⟨sv, e6, _, _⟩ := DataW.trod_int Tryz.underlying3 h6
  obtain ⟨lt, e7, _, _⟩ := DataW.trod_string Tryz.underlying9 h7
  match cs, hl with
  | [v0, v1, v2, v3, v4, v5, v6, v7, v8, v9, v10], _ =>
    rw [show Tryz.prog.cellsOf 3 = 1 by kernel_rfl] at e1 e2 e3 e6
    rw [show Tryz.prog.cellsOf 9 = 1 by kernel_rfl] at e0 e7
    rw [show Tryz.prog.cellsOf 48 = 3 by kernel_rfl] at e4
    rw [show Tryz.prog.cellsOf 50 = 2 by kernel_rfl] at e5
    simp at e0 e1 e2 e3 e4 e5 e6 e7
    obtain ⟨rfl, rfl, rfl⟩ := e4
    obtain ⟨rfl, rfl⟩ := e5
    subst e0 e1 e2 e3 e6 e7
    exact ⟨⟨nm, fr, to, mo, dk, dw, dn, sc, kd, sv, lt⟩, rfl, trivial⟩
instance : Inhabited Rul := ⟨⟨⟨#[]⟩, 0, 0, 0, 0, 0, 0, 0, 0, 0, ⟨#[]⟩⟩⟩
/-- Rules that came in. -/
theorem open_rules {r : Reach} {base : Nat} {v : Value} {d : DataW H} {p : List MemPlace} (hok : Value.okWide Tryz.prog W r base 60 v) (h : DataW.Trod enc Tryz.prog W 0 (fun _ => true) true 60 v d p) :
    ∃ l : List Rul, Ruls W W.heap.size v l := by
  obtain ⟨a, len, cap, rfl⟩ := okWide_slice Tryz.underlying60 hok
  obtain ⟨fuel, hf⟩ := h
  obtain ⟨v, l, e, hs, hl⟩ := open_list (C := 11) rulV (fun _ => True) Tryz.underlying60 (by kernel_rfl) (by decide) (fun n cs y _ hy => trod_rul hy) hf
  simp only [Value.cells, List.cons.injEq, and_true] at e
  subst e
  exact ⟨l, hs⟩
end
end Go.Proofs.YtonmmgcibpjahaaGreatDoor
end

section
/- AOpen: From the rows' readings of eras to the words of the walks. -/
namespace Go.Proofs.YtonmmgcibpjahaaGreatDoor
open Go Go.ChangeShapes Go.WideShapes Go.ChangeAt Go.RowKit Go.Deep

set_option maxRecDepth 100000
section
variable {H : Type} {enc : TypeId × Value → H} {P : Program} {W : World}
theorem trod_struct4 {t : TypeId} {f0 f1 f2 f3 : Field} {fuel : Nat} {cs : List Value} {x : DataW H × List MemPlace} (ht : P.underlying t = some (.struct #[f0, f1, f2, f3])) (h : DataW.trod enc P W 0 (fun _ => true) true fuel t cs = some x) :
    ∃ y0 y1 y2 y3 n, cs.length = P.cellsOf t ∧ DataW.trod enc P W 0 (fun _ => true) true n f0.type ((cs.drop f0.offset).take (P.cellsOf f0.type)) = some y0 ∧ DataW.trod enc P W 0 (fun _ => true) true n f1.type ((cs.drop f1.offset).take (P.cellsOf f1.type)) = some y1 ∧
      DataW.trod enc P W 0 (fun _ => true) true n f2.type ((cs.drop f2.offset).take (P.cellsOf f2.type)) = some y2 ∧ DataW.trod enc P W 0 (fun _ => true) true n f3.type ((cs.drop f3.offset).take (P.cellsOf f3.type)) = some y3 := by
  obtain ⟨xs, n, _, rfl, hl, hlen, hf⟩ := DataW.trod_struct ht h
  match xs, hlen with
  | [y0, y1, y2, y3], _ => exact ⟨y0, y1, y2, y3, n, hl, by simpa using hf 0 f0 rfl, by simpa using hf 1 f1 rfl, by simpa using hf 2 f2 rfl, by simpa using hf 3 f3 rfl⟩
theorem trod_struct6 {t : TypeId} {f0 f1 f2 f3 f4 f5 : Field} {fuel : Nat} {cs : List Value} {x : DataW H × List MemPlace} (ht : P.underlying t = some (.struct #[f0, f1, f2, f3, f4, f5])) (h : DataW.trod enc P W 0 (fun _ => true) true fuel t cs = some x) :
    ∃ y0 y1 y2 y3 y4 y5 n, cs.length = P.cellsOf t ∧ DataW.trod enc P W 0 (fun _ => true) true n f0.type ((cs.drop f0.offset).take (P.cellsOf f0.type)) = some y0 ∧ DataW.trod enc P W 0 (fun _ => true) true n f1.type ((cs.drop f1.offset).take (P.cellsOf f1.type)) = some y1 ∧
      DataW.trod enc P W 0 (fun _ => true) true n f2.type ((cs.drop f2.offset).take (P.cellsOf f2.type)) = some y2 ∧ DataW.trod enc P W 0 (fun _ => true) true n f3.type ((cs.drop f3.offset).take (P.cellsOf f3.type)) = some y3 ∧
      DataW.trod enc P W 0 (fun _ => true) true n f4.type ((cs.drop f4.offset).take (P.cellsOf f4.type)) = some y4 ∧ DataW.trod enc P W 0 (fun _ => true) true n f5.type ((cs.drop f5.offset).take (P.cellsOf f5.type)) = some y5 := by
  obtain ⟨xs, n, _, rfl, hl, hlen, hf⟩ := DataW.trod_struct ht h
  match xs, hlen with
  | [y0, y1, y2, y3, y4, y5], _ => exact ⟨y0, y1, y2, y3, y4, y5, n, hl, by simpa using hf 0 f0 rfl, by simpa using hf 1 f1 rfl, by simpa using hf 2 f2 rfl, by simpa using hf 3 f3 rfl, by simpa using hf 4 f4 rfl, by simpa using hf 5 f5 rfl⟩
end
section
variable {H : Type} {enc : TypeId × Value → H} {W : World}
theorem trod_until {n : Nat} {cs : List Value} {y : DataW H × List MemPlace} (h : DataW.trod enc Tryz.prog W 0 (fun _ => true) true n 52 cs = some y) : ∃ a b c d e f g : Int, cs = [.int .i64 a, .int .i64 b, .int .i64 c, .int .i64 d, .int .i64 e, .int .i64 f, .int .i64 g] := by
  obtain ⟨y0, y1, y2, y3, k, hl, h0, h1, h2, h3⟩ := trod_struct4 Tryz.underlying52 h
  rw [show Tryz.prog.cellsOf 52 = 7 by kernel_rfl] at hl
  obtain ⟨a, e0, _, _⟩ := DataW.trod_int Tryz.underlying3 h0
  obtain ⟨b, e1, _, _⟩ := DataW.trod_int Tryz.underlying3 h1
  obtain ⟨dk, dw, dn, e2⟩ := trod_day h2
  obtain ⟨sc, kd, e3⟩ := trod_clock h3
  match cs, hl with
  | [v0, v1, v2, v3, v4, v5, v6], _ =>
    rw [show Tryz.prog.cellsOf 3 = 1 by kernel_rfl] at e0 e1
    rw [show Tryz.prog.cellsOf 48 = 3 by kernel_rfl] at e2
    rw [show Tryz.prog.cellsOf 50 = 2 by kernel_rfl] at e3
    simp at e0 e1 e2 e3
    obtain ⟨rfl, rfl, rfl⟩ := e2
    obtain ⟨rfl, rfl⟩ := e3
    subst e0 e1
    exact ⟨a, b, dk, dw, dn, sc, kd, rfl⟩
theorem trod_era {n : Nat} {cs : List Value} {y : DataW H × List MemPlace} (h : DataW.trod enc Tryz.prog W 0 (fun _ => true) true n 54 cs = some y) :
    ∃ (e : EraN) (ru f : ByteArray) (en : Bool), cs = [.int .i64 e.off, .string ru, .int .i64 e.save, .string f, .bool en, .int .i64 e.year, .int .i64 e.month, .int .i64 e.dk, .int .i64 e.dw, .int .i64 e.dn, .int .i64 e.sec, .int .i64 e.ak] ∧
      (-9223372036854775808 ≤ e.off ∧ e.off ≤ 9223372036854775807) ∧ (-9223372036854775808 ≤ e.save ∧ e.save ≤ 9223372036854775807) := by
  obtain ⟨y0, y1, y2, y3, y4, y5, k, hl, h0, h1, h2, h3, h4, h5⟩ := trod_struct6 Tryz.underlying54 h
  rw [show Tryz.prog.cellsOf 54 = 12 by kernel_rfl] at hl
  obtain ⟨off, e0, _, w0⟩ := DataW.trod_int Tryz.underlying3 h0
  obtain ⟨ru, e1, _, _⟩ := DataW.trod_string Tryz.underlying9 h1
  obtain ⟨sv, e2, _, w2⟩ := DataW.trod_int Tryz.underlying3 h2
  obtain ⟨f, e3, _, _⟩ := DataW.trod_string Tryz.underlying9 h3
  obtain ⟨en, e4, _⟩ := DataW.trod_bool Tryz.underlying4 h4
  obtain ⟨yr, mo, dk, dw, dn, sc, kd, e5⟩ := trod_until h5
  match cs, hl with
  | [v0, v1, v2, v3, v4, v5, v6, v7, v8, v9, v10, v11], _ =>
    rw [show Tryz.prog.cellsOf 3 = 1 by kernel_rfl] at e0 e2
    rw [show Tryz.prog.cellsOf 9 = 1 by kernel_rfl] at e1 e3
    rw [show Tryz.prog.cellsOf 4 = 1 by kernel_rfl] at e4
    rw [show Tryz.prog.cellsOf 52 = 7 by kernel_rfl] at e5
    simp at e0 e1 e2 e3 e4 e5
    obtain ⟨rfl, rfl, rfl, rfl, rfl, rfl, rfl⟩ := e5
    subst e0 e1 e2 e3 e4
    exact ⟨⟨off, sv, yr, mo, dk, dw, dn, sc, kd⟩, ru, f, en, rfl, wf_i64 w0, wf_i64 w2⟩
/-- An era that came in. -/
theorem open_era {r : Reach} {base : Nat} {v : Value} {d : DataW H} {p : List MemPlace} (hok : Value.okWide Tryz.prog W r base 54 v) (h : DataW.Trod enc Tryz.prog W 0 (fun _ => true) true 54 v d p) :
    ∃ (e : EraN) (ru f : ByteArray) (en : Bool), v = eraA e ru f en ∧ (-9223372036854775808 ≤ e.off ∧ e.off ≤ 9223372036854775807) ∧ (-9223372036854775808 ≤ e.save ∧ e.save ≤ 9223372036854775807) := by
  have hu : Tryz.prog.underlying 54 = _ := Tryz.underlying54
  simp only [Value.okWide, hu] at hok
  obtain ⟨cs, rfl, hsz, _⟩ := hok
  obtain ⟨fuel, hf⟩ := h
  obtain ⟨e, ru, f, en, hcs, h1, h2⟩ := trod_era hf
  refine ⟨e, ru, f, en, ?_, h1, h2⟩
  simp only [Value.cells] at hcs
  obtain ⟨l⟩ := cs
  simp only at hcs
  subst hcs
  rfl
end
end Go.Proofs.YtonmmgcibpjahaaGreatDoor
end
