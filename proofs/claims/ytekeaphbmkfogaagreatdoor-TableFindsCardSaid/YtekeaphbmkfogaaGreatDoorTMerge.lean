/-
  Layer 14's Merge, walked.
-/
import Derived.Test.YtekeaphbmkfogaaGreatDoorTCut
import Derived.Test.YtekeaphbmkfogaaGreatDoorTSame
namespace Go.Proofs.YtekeaphbmkfogaaGreatDoor
open Go Go.RowKit Go.Shelf
set_option maxRecDepth 100000

def locEq (x y : Loc) : Bool := decide (x.off = y.off ∧ x.dst = y.dst ∧ x.abbr.toList = y.abbr.toList)
theorem locEq_iff {x y : Loc} : locEq x y = true ↔ x = y := by
  have h := chgEq_iff (c := ⟨0, x⟩) (d := ⟨0, y⟩)
  unfold chgEq at h
  unfold locEq
  simp only [true_and] at h
  rw [h]
  exact ⟨fun h => by cases h; rfl, fun h => by rw [h]⟩
/-- What is left of the first k changes. -/
def mg (l : List Chg) : Nat → List Chg
  | 0 => []
  | k + 1 => if (mg l k).length = 0 then mg l k ++ [l.getD k .zero] else bif locEq ((mg l k).getD ((mg l k).length - 1) .zero).loc (l.getD k .zero).loc then mg l k else mg l k ++ [l.getD k .zero]
theorem mg_len (l : List Chg) (k : Nat) : (mg l k).length ≤ k ∧ (0 < k → 0 < (mg l k).length) := by
  induction k with
  | zero => exact ⟨Nat.le_refl _, fun h => by omega⟩
  | succ k ih =>
    unfold mg
    split
    · simp; omega
    · cases locEq ((mg l k).getD ((mg l k).length - 1) .zero).loc (l.getD k .zero).loc
      · simp; omega
      · simp; omega
/-- What Merge makes, and its answer. -/
def mergeT (l : List Chg) : List Chg := if riseB l then mg l l.length else []
def mergeE (l : List Chg) : Int := if riseB l then 0 else 17
def MergePost (w : World) (l : List Chg) (e : Ending) (w' : World) : Prop := ∃ v, e = .returned (.tuple #[v, .int .i64 (mergeE l)]) ∧ Chgs w' w'.heap.size v (mergeT l) ∧ Below w.heap.size w w'
theorem own_drewN {w : World} {base : Nat} {e : TypeId} {sz n : Nat} {v : Value} {xs : List Value} (h : w.ownsRow base e sz v n xs) (q : Nat) : (w.drewN q).ownsRow base e sz v n xs := h
theorem cell_newN2 (w : World) (o : Obj) (q : Nat) (C : Array Value) (t : TypeId) (fr : Nat × Nat) (i : Nat) : (((w.alloc o).drewN q).alloc (.cells C t fr)).cell? ((⟨w.heap.size + 1, 0, none⟩ : Addr).add i) = C[i]? := by
  rw [Addr.add_lit, Nat.zero_add]
  have := cell_new ((w.alloc o).drewN q) C t fr i
  rwa [show ((w.alloc o).drewN q).heap.size = w.heap.size + 1 from World.size_alloc ..] at this
set_option maxHeartbeats 2000000 in
theorem merge_any (w : World) (B : Nat) (v : Value) (l : List Chg) (hv : Chgs w B v l) (hB : B ≤ w.heap.size) (hl : l.length ≤ 60) :
    Calls Tryz.prog 24 #[v] w (MergePost w l) := by
  obtain ⟨i0, hi, hz0, hz1, hz2⟩ := info_parts infoChg
  obtain ⟨A, c, rfl, hlc, hcm⟩ := hv.form
  unfold maxLen at hcm
  have HV := Lib.hid hv
  clear hv
  go_enter Tryz.func24, Tryz.ntmps24
  go_wp2_with fail
  go_loopw [4, 10] (fun u i wr => ∃ k : Nat, k ≤ l.length ∧ i = .int .i64 k ∧ RiseTo l k ∧ wr.ownsRow w.heap.size 45 4 u (mg l k).length (chgsV (mg l k)) ∧ Below w.heap.size w wr) (fun _ i _ => l.length - (intOf i).toNat)
  case atStart => exact ⟨0, by omega, rfl, fun i _ h => by omega, World.ownsRow_nil _ _ _ _, Below.refl _ _⟩
  case round =>
    obtain ⟨k, hk, rfl, hr, hown, hbw⟩ := hrel
    have HR := Lib.hid hr
    have HOW := Lib.hid hown
    have HB := Lib.hid hbw
    have hws := hbw.size
    clear hr hown
    by_cases hlt : k < l.length
    · obtain ⟨b, o, c', e, hb, hc⟩ := HV.out.cells (by omega)
      cases e
      have HC := Lib.hid (fun i (hi : i < l.length) => show _ ∧ _ ∧ _ ∧ _ from ⟨(hbw.cell (p := ⟨b, o + i * 4, none⟩) (by show b < w.heap.size; omega)).trans (hc i hi).1, (hbw.cell (p := ⟨b, o + i * 4 + 1, none⟩) (by show b < w.heap.size; omega)).trans (hc i hi).2.1, (hbw.cell (p := ⟨b, o + i * 4 + 2, none⟩) (by show b < w.heap.size; omega)).trans (hc i hi).2.2.1, (hbw.cell (p := ⟨b, o + i * 4 + 3, none⟩) (by show b < w.heap.size; omega)).trans (hc i hi).2.2.2⟩)
      have hbl : b < wr.heap.size := by omega
      clear hc hbw
      obtain ⟨x, hx⟩ : ∃ x, l[k] = x := ⟨_, rfl⟩
      obtain ⟨d0, d1, d2, d3⟩ := HC.out k hlt
      rw [hx] at d0 d1 d2 d3
      have HX := Lib.hid (show l.getD k .zero = x by rw [getD_at hlt, hx])
      have HX2 := Lib.hid hx
      clear hx
      rcases k with _ | j
      · have HT := Lib.hid (show mg l 1 = [x] by unfold mg; rw [if_pos (show (mg l 0).length = 0 from rfl), HX.out]; rfl)
        have hown : wr.ownsRow w.heap.size 45 4 _ 0 [] := HOW.out
        obtain ⟨A2, c2, rfl, -, -, -, -⟩ := Sl.of_own hown
        have HO := Lib.hid hown
        clear hown HOW
        rw [Nat.zero_mul, Nat.add_zero] at d0 d1 d2 d3
        go_wp2_with fail
        go_quiet (fail)
        go_wp2_with fail
        go_quiet (fail)
        go_wp2_with (at_builtin; refine wpList_append_own _ rfl _ _ 36 rfl w.heap.size 45 i0 (.agg #[.int .i64 0, .int .i64 0, .bool false, .string ⟨#[]⟩]) 4 40 Tryz.underlying36 hi hz0 hz1 hz2 rfl (by decide) _ 0 _ rfl ((own_drewN (HO.out.alloc _) _).alloc _) ⟨wr.heap.size + 1, 0, none⟩ 1 1 (chgV x) rfl rfl (fun j y hy => (cell_newN2 wr _ _ _ _ _ j).trans (by simpa [chgV] using hy)) (by simp [chgV, Value.oneCell']) (by unfold maxLen; omega) (by omega) (by simp; omega) ?_; intro v2 w2 hown2 hgrow2 hnil2)
        go_roundw
        case rel => exact ⟨1, by omega, by go_num, fun i _ h => by omega, by rw [HT.out]; exact hown2, ((below_drewN (HB.out.alloc hws _) _).alloc (by simp; omega) _).grown hgrow2 (by simp; omega) (fun g e => (HO.out.lt g e).1)⟩
        case measure => first | (simp [intOf]; done) | (simp [intOf]; omega)
      · have d := (HC.out j (by omega)).1
        have HNO := Lib.hid (riseB_no hlt)
        have HRN := Lib.hid (show ∀ h : (l[j]).at_ < x.at_, RiseTo l (j + 1 + 1) from fun h i hi h2 => by
          rcases Nat.lt_or_ge (i + 1) (j + 1) with h3 | h3
          · exact HR.out i hi h3
          · obtain rfl : i = j := by omega
            rw [HX2.out]; exact h)
        rw [HX2.out] at HNO
        generalize (l[j]).at_ = p at *
        have hm0 := (mg_len l (j + 1)).2 (by omega)
        have hm1 := (mg_len l (j + 1)).1
        obtain ⟨M, hM⟩ : ∃ M, mg l (j + 1) = M := ⟨_, rfl⟩
        have HMG := Lib.hid (show mg l (j + 1 + 1) = bif locEq (M.getD (M.length - 1) .zero).loc x.loc then M else M ++ [x] by
          rw [show mg l (j + 1 + 1) = if (mg l (j + 1)).length = 0 then mg l (j + 1) ++ [l.getD (j + 1) .zero] else bif locEq ((mg l (j + 1)).getD ((mg l (j + 1)).length - 1) .zero).loc (l.getD (j + 1) .zero).loc then mg l (j + 1) else mg l (j + 1) ++ [l.getD (j + 1) .zero] from rfl, if_neg (by omega), HX.out, hM])
        rw [hM] at HOW hm0 hm1
        clear hM
        obtain ⟨q, hq⟩ : ∃ q, M.length = q + 1 := ⟨M.length - 1, by omega⟩
        obtain ⟨b2, o2, c2, e, hb2, hc2⟩ := (show Chgs wr wr.heap.size _ M from Sl.of_own HOW.out).cells hm0
        cases e
        have HC2 := Lib.hid (hc2 q (by omega))
        clear hc2
        have HY := Lib.hid (show (M.getD (M.length - 1) .zero) = M[q] by rw [show M.length - 1 = q by omega, getD_at (by omega)])
        obtain ⟨y, hy⟩ : ∃ y, M[q] = y := ⟨_, rfl⟩
        rw [hy] at HY HC2
        rw [HY.out] at HMG
        clear hy
        rw [hq]
        have e1 : ((j + 1 : Nat) : Int) - 1 = (j : Nat) := by omega
        rw [show (((j + 1 : Nat)) : Int) = (j : Int) + 1 from by omega] at *
        by_cases hcmp : p < x.at_
        · go_wp2_with fail
          go_quiet (fail)
          go_wp2_with fail
          obtain ⟨W1, hW1⟩ : ∃ W, (wr.alloc (.cells #[.int .i64 x.at_, .int .i64 x.loc.off, .bool x.loc.dst, .string x.loc.abbr] 45)).drewN nq = W := ⟨_, rfl⟩
          have HB1 := Lib.hid (below_drewN (HB.out.alloc hws (.cells #[.int .i64 x.at_, .int .i64 x.loc.off, .bool x.loc.dst, .string x.loc.abbr] 45)) nq)
          have HA1 := Lib.hid (below_drewN ((Below.refl wr.heap.size wr).alloc (Nat.le_refl _) (.cells #[.int .i64 x.at_, .int .i64 x.loc.off, .bool x.loc.dst, .string x.loc.abbr] 45)) nq)
          have HX1 := Lib.hid ((Blk.new wr 45 #[.int .i64 x.at_, .int .i64 x.loc.off, .bool x.loc.dst, .string x.loc.abbr]).drewN nq)
          have HO1 := Lib.hid (own_drewN (HOW.out.alloc (.cells #[.int .i64 x.at_, .int .i64 x.loc.off, .bool x.loc.dst, .string x.loc.abbr] 45)) nq)
          rw [hW1] at HB1 HA1 HX1 HO1 ⊢
          clear hW1
          have HC8 := Lib.hid (fun (W : World) (h : Below W1.heap.size W1 W) => show (_ ∧ _ ∧ _) ∧ (_ ∧ _ ∧ _) by
            have hX : ChgB W wr.heap.size x := HX1.out.below h HX1.out.lt
            have hbW := HA1.out.trans (h.mono HA1.out.size)
            exact ⟨⟨(hbW.cell (p := ⟨b2, o2 + q * 4 + 1, none⟩) hb2).trans HC2.out.2.1, (hbW.cell (p := ⟨b2, o2 + q * 4 + 2, none⟩) hb2).trans HC2.out.2.2.1, (hbW.cell (p := ⟨b2, o2 + q * 4 + 3, none⟩) hb2).trans HC2.out.2.2.2⟩, hX.cells.2⟩)
          cases hqq : locEq y.loc x.loc
          · have HQ := Lib.hid hqq
            clear hqq
            refine wp_env (fin := ?fnA) (by kernel_rfl) [30, 31, 32, 33, 34, 35, 36, 37, 38, 39, 40, 41, 42]
              [.int .i64 (q + 1), .bool false, .bool false, .slice (some ⟨b2, o2, none⟩) (q + 1) c2, .int .i64 (q + 1), .int .i64 q, .pointer (some ⟨b2, o2 + q * 4, none⟩), .pointer (some ⟨b2, o2 + q * 4 + 1, none⟩), locA y.loc, .pointer (some ⟨wr.heap.size, 1, none⟩), locA x.loc, .bool true, .bool true] (by kernel_rfl) ?finA ?stepsA ?nextA
            case finA =>
              simp only [putAll, Act.put, List.setIfInBounds_toArray, List.set_cons_succ, List.set_cons_zero]
              rfl
            case stepsA =>
              unfold locA
              refine ⟨?_, ?_, ?_, ?_, ?_, ?_, ?_, ?_, ?_, ?_, ?_, ?_, ?_, trivial⟩
              all_goals
                refine .inr ⟨by kernel_rfl, fun w1_ hB_ => ?_⟩
                obtain ⟨⟨c1, c2_, c3⟩, ⟨g1, g2, g3⟩⟩ := HC8.out w1_ hB_
                go_simp
                first
                  | exact ⟨rfl, Below.refl _ _⟩
                  | (have hq := HQ.out
                     unfold locEq at hq
                     simp only [decide_eq_true_eq, decide_eq_false_iff_not] at hq
                     repeat' split
                     all_goals first | exact ⟨rfl, Below.refl _ _⟩ | (exfalso; simp_all; done))
                  | (rw [IntWalk.i64_in _ (by omega)]; exact ⟨rfl, Below.refl _ _⟩)
                  | (rw [if_pos (by omega)]; exact ⟨rfl, Below.refl _ _⟩)
            case nextA =>
            intro w2 hbb
            have HB2 := Lib.hid (HB1.out.trans (hbb.mono HB1.out.size))
            have HO2 := Lib.hid (ownsRow_below HO1.out hbb)
            have HX2' := Lib.hid (HX1.out.below hbb HX1.out.lt)
            have hws2 := HB2.out.size
            obtain ⟨d0', d1', d2', d3'⟩ := ChgB.cells HX2'.out
            have HT := Lib.hid (show mg l (j + 1 + 1) = M ++ [x] by rw [HMG.out, HQ.out]; rfl)
            go_wp2_with (at_builtin; refine wpList_append_own _ rfl _ _ 36 rfl w.heap.size 45 i0 (.agg #[.int .i64 0, .int .i64 0, .bool false, .string ⟨#[]⟩]) 4 40 Tryz.underlying36 hi hz0 hz1 hz2 rfl (by decide) _ M.length _ (by rw [hq]; rfl) (HO2.out.alloc _) ⟨w2.heap.size, 0, none⟩ 1 1 (chgV x) rfl rfl (fun j y hy => by rw [Addr.add_lit, Nat.zero_add]; exact (cell_new w2 _ _ _ j).trans (by simpa [chgV] using hy)) (by simp [chgV, Value.oneCell']) (by unfold maxLen; omega) (by omega) (by simp; omega) ?_; intro v2 w3 hown2 hgrow2 hnil2)
            go_roundw
            case rel => exact ⟨j + 1 + 1, by omega, by go_num, HRN.out hcmp, by rw [HT.out, List.length_append, chgsV_append]; exact hown2, (HB2.out.alloc hws2 _).grown hgrow2 (by simp; omega) (fun g e => (HO2.out.lt g e).1)⟩
            case measure => first | (simp [intOf]; done) | (simp [intOf]; omega)
          · have HQ := Lib.hid hqq
            clear hqq
            refine wp_env (fin := ?fnB) (by kernel_rfl) [30, 31, 32, 33, 34, 35, 36, 37, 38, 39, 40, 41, 42]
              [.int .i64 (q + 1), .bool false, .bool false, .slice (some ⟨b2, o2, none⟩) (q + 1) c2, .int .i64 (q + 1), .int .i64 q, .pointer (some ⟨b2, o2 + q * 4, none⟩), .pointer (some ⟨b2, o2 + q * 4 + 1, none⟩), locA y.loc, .pointer (some ⟨wr.heap.size, 1, none⟩), locA x.loc, .bool false, .bool false] (by kernel_rfl) ?finB ?stepsB ?nextB
            case finB =>
              simp only [putAll, Act.put, List.setIfInBounds_toArray, List.set_cons_succ, List.set_cons_zero]
              rfl
            case stepsB =>
              unfold locA
              refine ⟨?_, ?_, ?_, ?_, ?_, ?_, ?_, ?_, ?_, ?_, ?_, ?_, ?_, trivial⟩
              all_goals
                refine .inr ⟨by kernel_rfl, fun w1_ hB_ => ?_⟩
                obtain ⟨⟨c1, c2_, c3⟩, ⟨g1, g2, g3⟩⟩ := HC8.out w1_ hB_
                go_simp
                first
                  | exact ⟨rfl, Below.refl _ _⟩
                  | (have hq := HQ.out
                     unfold locEq at hq
                     simp only [decide_eq_true_eq, decide_eq_false_iff_not] at hq
                     repeat' split
                     all_goals first | exact ⟨rfl, Below.refl _ _⟩ | (exfalso; simp_all; done))
                  | (rw [IntWalk.i64_in _ (by omega)]; exact ⟨rfl, Below.refl _ _⟩)
                  | (rw [if_pos (by omega)]; exact ⟨rfl, Below.refl _ _⟩)
            case nextB =>
            intro w2 hbb
            have HB2 := Lib.hid (HB1.out.trans (hbb.mono HB1.out.size))
            have HO2 := Lib.hid (ownsRow_below HO1.out hbb)
            have HT := Lib.hid (show mg l (j + 1 + 1) = M by rw [HMG.out, HQ.out]; rfl)
            go_wp2_with fail
            go_roundw
            case rel => exact ⟨j + 1 + 1, by omega, by go_num, HRN.out hcmp, by rw [HT.out]; exact hq ▸ HO2.out, HB2.out⟩
            case measure => first | (simp [intOf]; done) | (simp [intOf]; omega)
        · have HB5 := Lib.hid (HNO.out hcmp)
          go_wp2_with fail
          go_quiet (fail)
          go_wp2_with fail
          refine bodyPost_ret (v := .tuple #[.slice none 0 0, .int .i64 17]) ?_ rfl ⟨_, by unfold mergeE; rw [if_neg (by rw [HB5.out]; decide)], by unfold mergeT; rw [if_neg (by rw [HB5.out]; decide)]; exact Sl.nil _ _ _, below_drewN (HB.out.alloc hws _) _⟩
          simp [results, Tryz.f24, go_sem]
    · obtain rfl : k = l.length := by omega
      have HBR := Lib.hid (riseB_yes (l := l) (fun i hi => HR.out i hi (by omega)))
      have HW := Lib.hid (Sl.of_own HOW.out)
      obtain ⟨A2, c2, rfl, -⟩ := HW.out
      go_wp2_with fail
      refine bodyPost_ret (v := .tuple #[.slice A2 (mg l l.length).length c2, .int .i64 0]) ?_ rfl ⟨_, by unfold mergeE; rw [if_pos HBR.out], by unfold mergeT; rw [if_pos HBR.out]; exact HW.out, HB.out⟩
      simp [results, Tryz.f24, go_sem]
end Go.Proofs.YtekeaphbmkfogaaGreatDoor
