/-
  An array of four numbers that came in by value.
-/
import Derived.ProofKit
import Derived.OpenShut
import Derived.ShutString
import Derived.ChangeOld
import Derived.Below
import Derived.Deep.Slices
import Derived.Deep.Strs
import Derived.ChangeSame
import Derived.Lib.SmallJoins
import Derived.Test.YtonmmgcibpjahaaGreatDoorChecked
import Derived.Test.YtonmmgcibpjahaaGreatDoorTf4
section
/- TFindsLaw: The law TableFinds, walked. -/
namespace Go.Proofs.YtonmmgcibpjahaaGreatDoor
open Go Go.RowKit
set_option maxRecDepth 100000

def LocC (W : World) (b : Nat) (x : Loc) : Prop := W.cell? ⟨b, 0, none⟩ = some (.int .i64 x.off) ∧ W.cell? ⟨b, 1, none⟩ = some (.bool x.dst) ∧ W.cell? ⟨b, 2, none⟩ = some (.string x.abbr)
def ChgC (W : World) (b : Nat) (c : Chg) : Prop := W.cell? ⟨b, 0, none⟩ = some (.int .i64 c.at_) ∧ W.cell? ⟨b, 1, none⟩ = some (.int .i64 c.loc.off) ∧ W.cell? ⟨b, 2, none⟩ = some (.bool c.loc.dst) ∧ W.cell? ⟨b, 3, none⟩ = some (.string c.loc.abbr)
set_option maxHeartbeats 8000000 in
theorem finds_walk (w : World) (v : Value) (l : List Chg) (a b0 : Int) (hv : Chgs w w.heap.size v l) (_ : -9223372036854775808 ≤ a ∧ a ≤ 9223372036854775807) (_ : -9223372036854775808 ≤ b0 ∧ b0 ≤ 9223372036854775807) (hm : Tryz.MaxL w) :
    Calls Tryz.prog 12 #[v, .agg #[.int .i64 a, .int .i64 b0]] w fun e w' => e = .returned (.bool true) ∧ Below w.heap.size w w' := by
  obtain ⟨i0, hi, hz0, hz1, hz2⟩ := info_parts infoChg
  have HM := Lib.hid hm
  have HV := Lib.hid hv
  have hb0 : Below w.heap.size w (w.alloc (.cells #[.int .i64 a, .int .i64 b0] 80)) := (Below.refl _ _).alloc (Nat.le_refl _) _
  have HB0 := Lib.hid hb0
  have HQ0 := Lib.hid (Blk.new w 80 #[.int .i64 a, .int .i64 b0])
  have HRI := Lib.hid (rise_any _ _ v l (hv.below hb0))
  obtain ⟨A, c, rfl, hlc, hcm⟩ := hv.form
  unfold maxLen at hcm
  clear hv hm hb0
  by_cases hl : 60 < (l.length : Int)
  · go_enter Tryz.func12, Tryz.ntmps12
    go_wp2_with fail
    refine (awake_any _ (HM.out.below HB0.out (Nat.le_refl _))).mono ?_
    rintro e wz ⟨rfl, hbz⟩
    have hb9 := (HB0.out).trans (hbz.mono (HB0.out).size)
    clear hbz
    go_wp2_with fail
    go_ret
    exact ⟨rfl, hb9⟩
  · cases hr : riseB l with
    | false =>
      rw [hr] at HRI
      clear hr
      go_enter Tryz.func12, Tryz.ntmps12
      go_wp2_with fail
      refine HRI.out.mono ?_
      rintro e w1 ⟨rfl, n, rfl⟩
      have HB1 := Lib.hid (below_drewN HB0.out n)
      go_wp2_with fail
      refine (awake_any _ (HM.out.below HB1.out (Nat.le_refl _))).mono ?_
      rintro e wz ⟨rfl, hbz⟩
      have hb9 := (HB1.out).trans (hbz.mono (HB1.out).size)
      clear hbz
      go_wp2_with fail
      go_ret
      exact ⟨rfl, hb9⟩
    | true =>
      have hris := (riseB_iff l).1 hr
      rw [hr] at HRI
      clear hr
      go_enter Tryz.func12, Tryz.ntmps12
      go_wp2_with fail
      refine HRI.out.mono ?_
      rintro e w1 ⟨rfl, n, rfl⟩
      have HB1 := Lib.hid (below_drewN HB0.out n)
      have HQ1 := Lib.hid (HQ0.out.drewN n)
      obtain ⟨W1, hW1⟩ : ∃ W, (w.alloc (.cells #[.int .i64 a, .int .i64 b0] 80)).drewN n = W := ⟨_, rfl⟩
      rw [hW1] at HB1 HQ1 ⊢
      clear hW1 HB0 HQ0 HRI
      have hQlt := HQ1.out.lt
      go_wp2_with fail
      go_loopw [6] (fun iv wr => ∃ k : Nat, k ≤ 2 ∧ iv = .int .i64 k ∧ Below W1.heap.size W1 wr) (fun iv _ => 2 - (intOf iv).toNat)
      case atStart => exact ⟨0, by omega, rfl, Below.refl _ _⟩
      case round =>
        obtain ⟨k, hk, rfl, hbr⟩ := hrel
        have HBR := Lib.hid hbr
        have HBW := Lib.hid (HB1.out.trans (hbr.mono HB1.out.size))
        have HQR := Lib.hid (HQ1.out.below hbr HQ1.out.lt)
        have hler := hbr.size
        have HB0_ := Lib.hid (Below.refl wr.heap.size wr)
        clear hbr
        by_cases hlt : k < 2
        · obtain ⟨z, HZ⟩ : ∃ z : Int, Hid (∀ W, Below wr.heap.size wr W → W.cell? ⟨w.heap.size, k, none⟩ = some (.int .i64 z)) := by
            by_cases h0 : k = 0
            · subst h0
              exact ⟨a, Lib.hid fun W h => (HQR.out.below h HQR.out.lt).cell 0 rfl⟩
            · obtain rfl : k = 1 := by omega
              exact ⟨b0, Lib.hid fun W h => (HQR.out.below h HQR.out.lt).cell 1 rfl⟩
          have z0 := HZ.out _ HB0_.out
          have HLA := Lib.hid (fun (W : World) (hb : Below w.heap.size w W) => last_any W w.heap.size _ l z (HV.out.below hb) hris)
          have HAT := Lib.hid (fun (W : World) (hb : Below w.heap.size w W) => tat_any W w.heap.size _ l z (HV.out.below hb) hb.size (by omega) hris)
          have HNX := Lib.hid (fun (W : World) (hb : Below w.heap.size w W) => tnext_any W w.heap.size _ l z (HV.out.below hb) hb.size (by omega) hris)
          have HPV := Lib.hid (fun (W : World) (hb : Below w.heap.size w W) => tprev_any W w.heap.size _ l z (HV.out.below hb) hb.size (by omega) hris)
          have hle := bh_le l z
          obtain ⟨n, hn⟩ : ∃ n, bh l z = n := ⟨_, rfl⟩
          have ne := fun (hl0 : 0 < l.length) => HV.out.cells hl0
          rcases n with _ | j
          · by_cases hnl : 0 < l.length
            · have HJJ := Lib.hid hnl
              obtain ⟨b, o, c', e, -, -⟩ := ne hnl
              cases e
              clear ne
              have HC := Lib.hid (fun j (hj : j < l.length) (W : World) (h : Below wr.heap.size wr W) => show _ ∧ _ ∧ _ ∧ _ by
                have hbW := HBW.out.trans (h.mono HBW.out.size)
                obtain ⟨_, _, _, e1, -, h1⟩ := (HV.out.below hbW).cells (by omega)
                cases e1
                exact h1 j hj)
              obtain ⟨x, hx⟩ : ∃ x, Loc.zero = x := ⟨_, rfl⟩
              have eA : atV l z = (x, 16) := by unfold atV; rw [if_pos hn, hx]
              have hr1 : ((0 : Nat) : Int) - 1 = -1 := rfl
              obtain ⟨y, hy⟩ : ∃ y, l[(0 : Nat)]'hnl = y := ⟨_, rfl⟩
              have eN : nextV l z = (y, true) := by unfold nextV; rw [hn, if_neg (by omega), getD_at hnl, hy]
              have HCN := Lib.hid hy
              obtain ⟨p, hp⟩ : ∃ p, Chg.zero = p := ⟨_, rfl⟩
              have eP : prevV l z = (p, false) := by unfold prevV; rw [hn, if_pos (by have := HJJ.out; omega), hp]
              have HPE := Lib.hid hp.symm
              have HXE := Lib.hid hx.symm
              rw [hn, hr1] at HLA
              rw [eA] at HAT
              rw [eN] at HNX
              rw [eP] at HPV
              unfold locA at HAT
              unfold chgA at HNX HPV
              clear hx hy hp eA eN eP hr1 hn
              go_wp2_with fail
              refine (HLA.out _ HBW.out).mono ?_
              rintro e w1 ⟨rfl, rfl⟩
              go_wp2_with fail
              refine (HAT.out _ (HBW.out.trans (HB0_.out.mono HBW.out.size))).mono ?_
              rintro e u1 ⟨rfl, hb⟩
              have HK1 := Lib.hid (Blk.new u1 41 #[.int .i64 x.off, .bool x.dst, .string x.abbr])
              have HB1_ := Lib.hid (HB0_.out.trans ((hb.alloc hb.size (.cells #[.int .i64 x.off, .bool x.dst, .string x.abbr] 41)).mono HB0_.out.size))
              obtain ⟨V1, hV1⟩ : ∃ W, u1.alloc (.cells #[.int .i64 x.off, .bool x.dst, .string x.abbr] 41) = W := ⟨_, rfl⟩
              have hl1 : u1.heap.size < V1.heap.size := by rw [← hV1]; simp
              rw [hV1] at HK1 HB1_
              have z1 := HZ.out _ HB1_.out
              clear hb
              go_wp2_with fail
              clear hV1
              refine (HNX.out _ (HBW.out.trans (HB1_.out.mono HBW.out.size))).mono ?_
              rintro e u2 ⟨rfl, hb⟩
              have HK2 := Lib.hid (Blk.new u2 90 #[.int .i64 y.at_, .int .i64 y.loc.off, .bool y.loc.dst, .string y.loc.abbr])
              have HB2_ := Lib.hid (HB1_.out.trans ((hb.alloc hb.size (.cells #[.int .i64 y.at_, .int .i64 y.loc.off, .bool y.loc.dst, .string y.loc.abbr] 90)).mono HB1_.out.size))
              have HK1 := Lib.hid (HK1.out.below (hb.alloc hb.size (.cells #[.int .i64 y.at_, .int .i64 y.loc.off, .bool y.loc.dst, .string y.loc.abbr] 90)) HK1.out.lt)
              obtain ⟨V2, hV2⟩ : ∃ W, u2.alloc (.cells #[.int .i64 y.at_, .int .i64 y.loc.off, .bool y.loc.dst, .string y.loc.abbr] 90) = W := ⟨_, rfl⟩
              have hl2 : u2.heap.size < V2.heap.size := by rw [← hV2]; simp
              rw [hV2] at HK1 HK2 HB2_
              have z2 := HZ.out _ HB2_.out
              clear hb
              go_wp2_with fail
              clear hV2
              refine (HPV.out _ (HBW.out.trans (HB2_.out.mono HBW.out.size))).mono ?_
              rintro e u3 ⟨rfl, hb⟩
              have HK3 := Lib.hid (Blk.new u3 90 #[.int .i64 p.at_, .int .i64 p.loc.off, .bool p.loc.dst, .string p.loc.abbr])
              have HB3_ := Lib.hid (HB2_.out.trans ((hb.alloc hb.size (.cells #[.int .i64 p.at_, .int .i64 p.loc.off, .bool p.loc.dst, .string p.loc.abbr] 90)).mono HB2_.out.size))
              have HK1 := Lib.hid (HK1.out.below (hb.alloc hb.size (.cells #[.int .i64 p.at_, .int .i64 p.loc.off, .bool p.loc.dst, .string p.loc.abbr] 90)) HK1.out.lt)
              have HK2 := Lib.hid (HK2.out.below (hb.alloc hb.size (.cells #[.int .i64 p.at_, .int .i64 p.loc.off, .bool p.loc.dst, .string p.loc.abbr] 90)) HK2.out.lt)
              obtain ⟨V3, hV3⟩ : ∃ W, u3.alloc (.cells #[.int .i64 p.at_, .int .i64 p.loc.off, .bool p.loc.dst, .string p.loc.abbr] 90) = W := ⟨_, rfl⟩
              have hl3 : u3.heap.size < V3.heap.size := by rw [← hV3]; simp
              rw [hV3] at HK1 HK2 HK3 HB3_
              have z3 := HZ.out _ HB3_.out
              clear hb
              go_wp2_with fail
              clear hV3
              have HF := Lib.hid (fun (W : World) (h : Below V3.heap.size V3 W) => show LocC W u1.heap.size x ∧ ChgC W u2.heap.size y ∧ ChgC W u3.heap.size p ∧ _ from ⟨LocB.cells (HK1.out.below h HK1.out.lt), ChgB.cells (HK2.out.below h HK2.out.lt), ChgB.cells (HK3.out.below h HK3.out.lt), fun (j : Nat) (hj : j < l.length) => HC.out j hj W (HB3_.out.trans (h.mono HB3_.out.size))⟩)
              clear z1 z2 z3
              refine wp_env (fin := ?fnaNY) (by kernel_rfl) [60, 61, 62, 63, 64, 65, 66, 67, 68, 69, 70, 71, 72, 73, 74, 75, 76, 77, 78, 79, 80, 81, 82, 83, 84, 85, 86, 87]
                [.int .i64 (-1), .bool true, .bool true, .agg #[.int .i64 0, .bool false, .string ⟨#[]⟩], .agg #[.int .i64 0, .bool false, .string ⟨#[]⟩], .bool false, .bool false, .int .i64 16, .bool false, .bool false, .bool false, .bool false, .int .i64 (-1), .bool false, .bool false, undef, undef, undef, undef, undef, undef, undef, undef, undef, undef, undef, .bool false, .bool false] (by kernel_rfl) ?finaNY ?stepsaNY ?nextaNY
              case finaNY =>
                simp only [putAll, Act.put, List.setIfInBounds_toArray, List.set_cons_succ, List.set_cons_zero]
                rfl
              case stepsaNY =>
                refine ⟨.inr ⟨by kernel_rfl, fun w1_ hB_ => ?_⟩, .inr ⟨by kernel_rfl, fun w1_ hB_ => ?_⟩, .inr ⟨by kernel_rfl, fun w1_ hB_ => ?_⟩, .inr ⟨by kernel_rfl, fun w1_ hB_ => ?_⟩, .inr ⟨by kernel_rfl, fun w1_ hB_ => ?_⟩, .inr ⟨by kernel_rfl, fun w1_ hB_ => ?_⟩, .inr ⟨by kernel_rfl, fun w1_ hB_ => ?_⟩, .inr ⟨by kernel_rfl, fun w1_ hB_ => ?_⟩, .inr ⟨by kernel_rfl, fun w1_ hB_ => ?_⟩, .inr ⟨by kernel_rfl, fun w1_ hB_ => ?_⟩, .inr ⟨by kernel_rfl, fun w1_ hB_ => ?_⟩, .inr ⟨by kernel_rfl, fun w1_ hB_ => ?_⟩, .inr ⟨by kernel_rfl, fun w1_ hB_ => ?_⟩, .inr ⟨by kernel_rfl, fun w1_ hB_ => ?_⟩, .inr ⟨by kernel_rfl, fun w1_ hB_ => ?_⟩, .inl ⟨by kernel_rfl, rfl⟩, .inl ⟨by kernel_rfl, rfl⟩, .inl ⟨by kernel_rfl, rfl⟩, .inl ⟨by kernel_rfl, rfl⟩, .inl ⟨by kernel_rfl, rfl⟩, .inl ⟨by kernel_rfl, rfl⟩, .inl ⟨by kernel_rfl, rfl⟩, .inl ⟨by kernel_rfl, rfl⟩, .inl ⟨by kernel_rfl, rfl⟩, .inl ⟨by kernel_rfl, rfl⟩, .inl ⟨by kernel_rfl, rfl⟩, .inr ⟨by kernel_rfl, fun w1_ hB_ => ?_⟩, .inr ⟨by kernel_rfl, fun w1_ hB_ => ?_⟩, trivial⟩
                all_goals
                  obtain ⟨⟨x0, x1, x2⟩, ⟨y0, y1, y2, y3⟩, ⟨p0, p1, p2, p3⟩, hcl⟩ := HF.out w1_ hB_
                  rw [HXE.out] at x0 x1 x2
                  simp only [Loc.zero] at x0 x1 x2
                  clear hcl
                  go_simp
                  first
                    | exact ⟨rfl, Below.refl _ _⟩
                    | (have hjj := HJJ.out; rw [decide_eq_true (by omega)]; exact ⟨rfl, Below.refl _ _⟩)
                    | (have hjj := HJJ.out; rw [decide_eq_false (by omega)]; exact ⟨rfl, Below.refl _ _⟩)
                    | (have hjj := HJJ.out; rw [if_pos (by omega)]; exact ⟨rfl, Below.refl _ _⟩)
                    | (rw [IntWalk.i64_in _ (by omega)]; exact ⟨rfl, Below.refl _ _⟩)
                    | done
              case nextaNY =>
              intro w8 hb8
              have HF := Lib.hid (fun W h => HF.out W (hb8.trans (Below.mono h hb8.size)))
              have HB8 := Lib.hid (HB3_.out.trans (hb8.mono HB3_.out.size))
              clear hb8
              go_wp2_with fail
              refine wp_env (fin := ?fnbNY) (by kernel_rfl) [88, 89, 90, 91, 92, 93, 94, 95, 96, 97, 98, 99, 100, 101, 102, 103, 104, 105, 106, 107, 108, 109, 110, 111, 112, 113, 114, 115]
                [.bool true, .int .i64 (-1), .int .i64 0, .slice (some ⟨b, o, none⟩) l.length c, .int .i64 l.length, .bool true, .bool false, .bool false, .bool true, .bool true, chgA y, .slice (some ⟨b, o, none⟩) l.length c, .int .i64 (-1), .int .i64 0, .pointer (some ⟨b, o, none⟩), chgA y, .bool false, .bool false, .bool false, .bool false, .bool true, .bool false, .bool false, undef, undef, undef, .bool false, .bool false] (by kernel_rfl) ?finbNY ?stepsbNY ?nextbNY
              case finbNY =>
                simp only [putAll, Act.put, List.setIfInBounds_toArray, List.set_cons_succ, List.set_cons_zero]
                rfl
              case stepsbNY =>
                unfold chgA
                refine ⟨.inr ⟨by kernel_rfl, fun w1_ hB_ => ?_⟩, .inr ⟨by kernel_rfl, fun w1_ hB_ => ?_⟩, .inr ⟨by kernel_rfl, fun w1_ hB_ => ?_⟩, .inr ⟨by kernel_rfl, fun w1_ hB_ => ?_⟩, .inr ⟨by kernel_rfl, fun w1_ hB_ => ?_⟩, .inr ⟨by kernel_rfl, fun w1_ hB_ => ?_⟩, .inr ⟨by kernel_rfl, fun w1_ hB_ => ?_⟩, .inr ⟨by kernel_rfl, fun w1_ hB_ => ?_⟩, .inr ⟨by kernel_rfl, fun w1_ hB_ => ?_⟩, .inr ⟨by kernel_rfl, fun w1_ hB_ => ?_⟩, .inr ⟨by kernel_rfl, fun w1_ hB_ => ?_⟩, .inr ⟨by kernel_rfl, fun w1_ hB_ => ?_⟩, .inr ⟨by kernel_rfl, fun w1_ hB_ => ?_⟩, .inr ⟨by kernel_rfl, fun w1_ hB_ => ?_⟩, .inr ⟨by kernel_rfl, fun w1_ hB_ => ?_⟩, .inr ⟨by kernel_rfl, fun w1_ hB_ => ?_⟩, .inr ⟨by kernel_rfl, fun w1_ hB_ => ?_⟩, .inr ⟨by kernel_rfl, fun w1_ hB_ => ?_⟩, .inr ⟨by kernel_rfl, fun w1_ hB_ => ?_⟩, .inr ⟨by kernel_rfl, fun w1_ hB_ => ?_⟩, .inr ⟨by kernel_rfl, fun w1_ hB_ => ?_⟩, .inr ⟨by kernel_rfl, fun w1_ hB_ => ?_⟩, .inr ⟨by kernel_rfl, fun w1_ hB_ => ?_⟩, .inl ⟨by kernel_rfl, rfl⟩, .inl ⟨by kernel_rfl, rfl⟩, .inl ⟨by kernel_rfl, rfl⟩, .inr ⟨by kernel_rfl, fun w1_ hB_ => ?_⟩, .inr ⟨by kernel_rfl, fun w1_ hB_ => ?_⟩, trivial⟩
                all_goals
                  obtain ⟨⟨x0, x1, x2⟩, ⟨y0, y1, y2, y3⟩, ⟨p0, p1, p2, p3⟩, hcl⟩ := HF.out w1_ hB_
                  obtain ⟨c0, c1, c2_, c3⟩ := hcl 0 hnl
                  rw [Nat.zero_mul, Nat.add_zero] at c0 c1 c2_ c3
                  rw [HCN.out] at c0 c1 c2_ c3
                  clear hcl
                  go_simp
                  first
                    | exact ⟨rfl, Below.refl _ _⟩
                    | (have hjj := HJJ.out; rw [decide_eq_true (by omega)]; exact ⟨rfl, Below.refl _ _⟩)
                    | (have hjj := HJJ.out; rw [decide_eq_false (by omega)]; exact ⟨rfl, Below.refl _ _⟩)
                    | (have hjj := HJJ.out; rw [if_pos (by omega)]; exact ⟨rfl, Below.refl _ _⟩)
                    | (rw [IntWalk.i64_in _ (by omega)]; exact ⟨rfl, Below.refl _ _⟩)
                    | done
              case nextbNY =>
              intro w9 hb9
              have HF := Lib.hid (fun W h => HF.out W (hb9.trans (Below.mono h hb9.size)))
              have HB9 := Lib.hid (HB8.out.trans (hb9.mono HB8.out.size))
              clear hb9
              go_wp2_with fail
              refine wp_env (fin := ?fncNY) (by kernel_rfl) [116, 117, 118, 119, 120, 121, 122, 123, 124, 125, 126, 127, 128, 129, 130, 131, 132, 133, 134, 135, 136, 137, 138, 139]
                [.bool false, .int .i64 (-1), .bool false, .bool false, .bool false, .bool false, .bool false, undef, undef, undef, undef, undef, undef, .bool false, .bool false, .bool false, .bool false, .bool true, .bool true, .agg #[.int .i64 0, .int .i64 0, .bool false, .string ⟨#[]⟩], .agg #[.int .i64 0, .int .i64 0, .bool false, .string ⟨#[]⟩], .bool false, .bool false, .bool false] (by kernel_rfl) ?fincNY ?stepscNY ?nextcNY
              case fincNY =>
                simp only [putAll, Act.put, List.setIfInBounds_toArray, List.set_cons_succ, List.set_cons_zero]
                rfl
              case stepscNY =>
                refine ⟨.inr ⟨by kernel_rfl, fun w1_ hB_ => ?_⟩, .inr ⟨by kernel_rfl, fun w1_ hB_ => ?_⟩, .inr ⟨by kernel_rfl, fun w1_ hB_ => ?_⟩, .inr ⟨by kernel_rfl, fun w1_ hB_ => ?_⟩, .inr ⟨by kernel_rfl, fun w1_ hB_ => ?_⟩, .inr ⟨by kernel_rfl, fun w1_ hB_ => ?_⟩, .inr ⟨by kernel_rfl, fun w1_ hB_ => ?_⟩, .inl ⟨by kernel_rfl, rfl⟩, .inl ⟨by kernel_rfl, rfl⟩, .inl ⟨by kernel_rfl, rfl⟩, .inl ⟨by kernel_rfl, rfl⟩, .inl ⟨by kernel_rfl, rfl⟩, .inl ⟨by kernel_rfl, rfl⟩, .inr ⟨by kernel_rfl, fun w1_ hB_ => ?_⟩, .inr ⟨by kernel_rfl, fun w1_ hB_ => ?_⟩, .inr ⟨by kernel_rfl, fun w1_ hB_ => ?_⟩, .inr ⟨by kernel_rfl, fun w1_ hB_ => ?_⟩, .inr ⟨by kernel_rfl, fun w1_ hB_ => ?_⟩, .inr ⟨by kernel_rfl, fun w1_ hB_ => ?_⟩, .inr ⟨by kernel_rfl, fun w1_ hB_ => ?_⟩, .inr ⟨by kernel_rfl, fun w1_ hB_ => ?_⟩, .inr ⟨by kernel_rfl, fun w1_ hB_ => ?_⟩, .inr ⟨by kernel_rfl, fun w1_ hB_ => ?_⟩, .inr ⟨by kernel_rfl, fun w1_ hB_ => ?_⟩, trivial⟩
                all_goals
                  obtain ⟨⟨x0, x1, x2⟩, ⟨y0, y1, y2, y3⟩, ⟨p0, p1, p2, p3⟩, hcl⟩ := HF.out w1_ hB_
                  rw [HPE.out] at p0 p1 p2 p3
                  simp only [Loc.zero, Chg.zero] at p0 p1 p2 p3
                  clear hcl
                  go_simp
                  first
                    | exact ⟨rfl, Below.refl _ _⟩
                    | (have hjj := HJJ.out; rw [decide_eq_true (by omega)]; exact ⟨rfl, Below.refl _ _⟩)
                    | (have hjj := HJJ.out; rw [decide_eq_false (by omega)]; exact ⟨rfl, Below.refl _ _⟩)
                    | (have hjj := HJJ.out; rw [if_pos (by omega)]; exact ⟨rfl, Below.refl _ _⟩)
                    | (rw [IntWalk.i64_in _ (by omega)]; exact ⟨rfl, Below.refl _ _⟩)
                    | done
              case nextcNY =>
              intro w10 hb10
              have HB10 := Lib.hid (HB9.out.trans (hb10.mono HB9.out.size))
              clear hb10
              go_wp2_with fail
              go_roundw
              case rel => exact ⟨k + 1, by omega, by go_num, HBR.out.trans (HB10.out.mono HBR.out.size)⟩
              case measure => first | (simp [intOf]; done) | (simp [intOf]; omega)
            · have HJJ := Lib.hid (show l.length = 0 by omega)
              clear ne
              have HC := Lib.hid (fun (j : Nat) (hj : j < l.length) (W : World) (h : Below wr.heap.size wr W) => True.intro)
              obtain ⟨x, hx⟩ : ∃ x, Loc.zero = x := ⟨_, rfl⟩
              have eA : atV l z = (x, 16) := by unfold atV; rw [if_pos hn, hx]
              have hr1 : ((0 : Nat) : Int) - 1 = -1 := rfl
              obtain ⟨y, hy⟩ : ∃ y, Chg.zero = y := ⟨_, rfl⟩
              have eN : nextV l z = (y, false) := by unfold nextV; rw [hn, if_pos (by omega), hy]
              have HYE := Lib.hid hy.symm
              obtain ⟨p, hp⟩ : ∃ p, Chg.zero = p := ⟨_, rfl⟩
              have eP : prevV l z = (p, false) := by unfold prevV; rw [hn, if_pos (by have := HJJ.out; omega), hp]
              have HPE := Lib.hid hp.symm
              have HXE := Lib.hid hx.symm
              rw [hn, hr1] at HLA
              rw [eA] at HAT
              rw [eN] at HNX
              rw [eP] at HPV
              unfold locA at HAT
              unfold chgA at HNX HPV
              clear hx hy hp eA eN eP hr1 hn
              go_wp2_with fail
              refine (HLA.out _ HBW.out).mono ?_
              rintro e w1 ⟨rfl, rfl⟩
              go_wp2_with fail
              refine (HAT.out _ (HBW.out.trans (HB0_.out.mono HBW.out.size))).mono ?_
              rintro e u1 ⟨rfl, hb⟩
              have HK1 := Lib.hid (Blk.new u1 41 #[.int .i64 x.off, .bool x.dst, .string x.abbr])
              have HB1_ := Lib.hid (HB0_.out.trans ((hb.alloc hb.size (.cells #[.int .i64 x.off, .bool x.dst, .string x.abbr] 41)).mono HB0_.out.size))
              obtain ⟨V1, hV1⟩ : ∃ W, u1.alloc (.cells #[.int .i64 x.off, .bool x.dst, .string x.abbr] 41) = W := ⟨_, rfl⟩
              have hl1 : u1.heap.size < V1.heap.size := by rw [← hV1]; simp
              rw [hV1] at HK1 HB1_
              have z1 := HZ.out _ HB1_.out
              clear hb
              go_wp2_with fail
              clear hV1
              refine (HNX.out _ (HBW.out.trans (HB1_.out.mono HBW.out.size))).mono ?_
              rintro e u2 ⟨rfl, hb⟩
              have HK2 := Lib.hid (Blk.new u2 90 #[.int .i64 y.at_, .int .i64 y.loc.off, .bool y.loc.dst, .string y.loc.abbr])
              have HB2_ := Lib.hid (HB1_.out.trans ((hb.alloc hb.size (.cells #[.int .i64 y.at_, .int .i64 y.loc.off, .bool y.loc.dst, .string y.loc.abbr] 90)).mono HB1_.out.size))
              have HK1 := Lib.hid (HK1.out.below (hb.alloc hb.size (.cells #[.int .i64 y.at_, .int .i64 y.loc.off, .bool y.loc.dst, .string y.loc.abbr] 90)) HK1.out.lt)
              obtain ⟨V2, hV2⟩ : ∃ W, u2.alloc (.cells #[.int .i64 y.at_, .int .i64 y.loc.off, .bool y.loc.dst, .string y.loc.abbr] 90) = W := ⟨_, rfl⟩
              have hl2 : u2.heap.size < V2.heap.size := by rw [← hV2]; simp
              rw [hV2] at HK1 HK2 HB2_
              have z2 := HZ.out _ HB2_.out
              clear hb
              go_wp2_with fail
              clear hV2
              refine (HPV.out _ (HBW.out.trans (HB2_.out.mono HBW.out.size))).mono ?_
              rintro e u3 ⟨rfl, hb⟩
              have HK3 := Lib.hid (Blk.new u3 90 #[.int .i64 p.at_, .int .i64 p.loc.off, .bool p.loc.dst, .string p.loc.abbr])
              have HB3_ := Lib.hid (HB2_.out.trans ((hb.alloc hb.size (.cells #[.int .i64 p.at_, .int .i64 p.loc.off, .bool p.loc.dst, .string p.loc.abbr] 90)).mono HB2_.out.size))
              have HK1 := Lib.hid (HK1.out.below (hb.alloc hb.size (.cells #[.int .i64 p.at_, .int .i64 p.loc.off, .bool p.loc.dst, .string p.loc.abbr] 90)) HK1.out.lt)
              have HK2 := Lib.hid (HK2.out.below (hb.alloc hb.size (.cells #[.int .i64 p.at_, .int .i64 p.loc.off, .bool p.loc.dst, .string p.loc.abbr] 90)) HK2.out.lt)
              obtain ⟨V3, hV3⟩ : ∃ W, u3.alloc (.cells #[.int .i64 p.at_, .int .i64 p.loc.off, .bool p.loc.dst, .string p.loc.abbr] 90) = W := ⟨_, rfl⟩
              have hl3 : u3.heap.size < V3.heap.size := by rw [← hV3]; simp
              rw [hV3] at HK1 HK2 HK3 HB3_
              have z3 := HZ.out _ HB3_.out
              clear hb
              go_wp2_with fail
              clear hV3
              have HF := Lib.hid (fun (W : World) (h : Below V3.heap.size V3 W) => show LocC W u1.heap.size x ∧ ChgC W u2.heap.size y ∧ ChgC W u3.heap.size p ∧ _ from ⟨LocB.cells (HK1.out.below h HK1.out.lt), ChgB.cells (HK2.out.below h HK2.out.lt), ChgB.cells (HK3.out.below h HK3.out.lt), fun (j : Nat) (hj : j < l.length) => HC.out j hj W (HB3_.out.trans (h.mono HB3_.out.size))⟩)
              clear z1 z2 z3
              refine wp_env (fin := ?fnaNZ) (by kernel_rfl) [60, 61, 62, 63, 64, 65, 66, 67, 68, 69, 70, 71, 72, 73, 74, 75, 76, 77, 78, 79, 80, 81, 82, 83, 84, 85, 86, 87]
                [.int .i64 (-1), .bool true, .bool true, .agg #[.int .i64 0, .bool false, .string ⟨#[]⟩], .agg #[.int .i64 0, .bool false, .string ⟨#[]⟩], .bool false, .bool false, .int .i64 16, .bool false, .bool false, .bool false, .bool false, .int .i64 (-1), .bool false, .bool false, undef, undef, undef, undef, undef, undef, undef, undef, undef, undef, undef, .bool false, .bool false] (by kernel_rfl) ?finaNZ ?stepsaNZ ?nextaNZ
              case finaNZ =>
                simp only [putAll, Act.put, List.setIfInBounds_toArray, List.set_cons_succ, List.set_cons_zero]
                rfl
              case stepsaNZ =>
                refine ⟨.inr ⟨by kernel_rfl, fun w1_ hB_ => ?_⟩, .inr ⟨by kernel_rfl, fun w1_ hB_ => ?_⟩, .inr ⟨by kernel_rfl, fun w1_ hB_ => ?_⟩, .inr ⟨by kernel_rfl, fun w1_ hB_ => ?_⟩, .inr ⟨by kernel_rfl, fun w1_ hB_ => ?_⟩, .inr ⟨by kernel_rfl, fun w1_ hB_ => ?_⟩, .inr ⟨by kernel_rfl, fun w1_ hB_ => ?_⟩, .inr ⟨by kernel_rfl, fun w1_ hB_ => ?_⟩, .inr ⟨by kernel_rfl, fun w1_ hB_ => ?_⟩, .inr ⟨by kernel_rfl, fun w1_ hB_ => ?_⟩, .inr ⟨by kernel_rfl, fun w1_ hB_ => ?_⟩, .inr ⟨by kernel_rfl, fun w1_ hB_ => ?_⟩, .inr ⟨by kernel_rfl, fun w1_ hB_ => ?_⟩, .inr ⟨by kernel_rfl, fun w1_ hB_ => ?_⟩, .inr ⟨by kernel_rfl, fun w1_ hB_ => ?_⟩, .inl ⟨by kernel_rfl, rfl⟩, .inl ⟨by kernel_rfl, rfl⟩, .inl ⟨by kernel_rfl, rfl⟩, .inl ⟨by kernel_rfl, rfl⟩, .inl ⟨by kernel_rfl, rfl⟩, .inl ⟨by kernel_rfl, rfl⟩, .inl ⟨by kernel_rfl, rfl⟩, .inl ⟨by kernel_rfl, rfl⟩, .inl ⟨by kernel_rfl, rfl⟩, .inl ⟨by kernel_rfl, rfl⟩, .inl ⟨by kernel_rfl, rfl⟩, .inr ⟨by kernel_rfl, fun w1_ hB_ => ?_⟩, .inr ⟨by kernel_rfl, fun w1_ hB_ => ?_⟩, trivial⟩
                all_goals
                  obtain ⟨⟨x0, x1, x2⟩, ⟨y0, y1, y2, y3⟩, ⟨p0, p1, p2, p3⟩, hcl⟩ := HF.out w1_ hB_
                  rw [HXE.out] at x0 x1 x2
                  simp only [Loc.zero] at x0 x1 x2
                  clear hcl
                  go_simp
                  first
                    | exact ⟨rfl, Below.refl _ _⟩
                    | (have hjj := HJJ.out; rw [decide_eq_true (by omega)]; exact ⟨rfl, Below.refl _ _⟩)
                    | (have hjj := HJJ.out; rw [decide_eq_false (by omega)]; exact ⟨rfl, Below.refl _ _⟩)
                    | (have hjj := HJJ.out; rw [if_pos (by omega)]; exact ⟨rfl, Below.refl _ _⟩)
                    | (rw [IntWalk.i64_in _ (by omega)]; exact ⟨rfl, Below.refl _ _⟩)
                    | done
              case nextaNZ =>
              intro w8 hb8
              have HF := Lib.hid (fun W h => HF.out W (hb8.trans (Below.mono h hb8.size)))
              have HB8 := Lib.hid (HB3_.out.trans (hb8.mono HB3_.out.size))
              clear hb8
              go_wp2_with fail
              refine wp_env (fin := ?fnbNZ) (by kernel_rfl) [88, 89, 90, 91, 92, 93, 94, 95, 96, 97, 98, 99, 100, 101, 102, 103, 104, 105, 106, 107, 108, 109, 110, 111, 112, 113, 114, 115]
                [.bool false, .int .i64 (-1), .int .i64 0, .slice A l.length c, .int .i64 l.length, .bool false, .bool false, .bool false, .bool false, .bool false, undef, undef, undef, undef, undef, undef, undef, .bool false, .bool false, .bool false, .bool false, .bool true, .bool true, .agg #[.int .i64 0, .int .i64 0, .bool false, .string ⟨#[]⟩], .agg #[.int .i64 0, .int .i64 0, .bool false, .string ⟨#[]⟩], .bool false, .bool false, .bool false] (by kernel_rfl) ?finbNZ ?stepsbNZ ?nextbNZ
              case finbNZ =>
                simp only [putAll, Act.put, List.setIfInBounds_toArray, List.set_cons_succ, List.set_cons_zero]
                rfl
              case stepsbNZ =>
                refine ⟨.inr ⟨by kernel_rfl, fun w1_ hB_ => ?_⟩, .inr ⟨by kernel_rfl, fun w1_ hB_ => ?_⟩, .inr ⟨by kernel_rfl, fun w1_ hB_ => ?_⟩, .inr ⟨by kernel_rfl, fun w1_ hB_ => ?_⟩, .inr ⟨by kernel_rfl, fun w1_ hB_ => ?_⟩, .inr ⟨by kernel_rfl, fun w1_ hB_ => ?_⟩, .inr ⟨by kernel_rfl, fun w1_ hB_ => ?_⟩, .inr ⟨by kernel_rfl, fun w1_ hB_ => ?_⟩, .inr ⟨by kernel_rfl, fun w1_ hB_ => ?_⟩, .inr ⟨by kernel_rfl, fun w1_ hB_ => ?_⟩, .inl ⟨by kernel_rfl, rfl⟩, .inl ⟨by kernel_rfl, rfl⟩, .inl ⟨by kernel_rfl, rfl⟩, .inl ⟨by kernel_rfl, rfl⟩, .inl ⟨by kernel_rfl, rfl⟩, .inl ⟨by kernel_rfl, rfl⟩, .inl ⟨by kernel_rfl, rfl⟩, .inr ⟨by kernel_rfl, fun w1_ hB_ => ?_⟩, .inr ⟨by kernel_rfl, fun w1_ hB_ => ?_⟩, .inr ⟨by kernel_rfl, fun w1_ hB_ => ?_⟩, .inr ⟨by kernel_rfl, fun w1_ hB_ => ?_⟩, .inr ⟨by kernel_rfl, fun w1_ hB_ => ?_⟩, .inr ⟨by kernel_rfl, fun w1_ hB_ => ?_⟩, .inr ⟨by kernel_rfl, fun w1_ hB_ => ?_⟩, .inr ⟨by kernel_rfl, fun w1_ hB_ => ?_⟩, .inr ⟨by kernel_rfl, fun w1_ hB_ => ?_⟩, .inr ⟨by kernel_rfl, fun w1_ hB_ => ?_⟩, .inr ⟨by kernel_rfl, fun w1_ hB_ => ?_⟩, trivial⟩
                all_goals
                  obtain ⟨⟨x0, x1, x2⟩, ⟨y0, y1, y2, y3⟩, ⟨p0, p1, p2, p3⟩, hcl⟩ := HF.out w1_ hB_
                  rw [HYE.out] at y0 y1 y2 y3
                  simp only [Loc.zero, Chg.zero] at y0 y1 y2 y3
                  clear hcl
                  go_simp
                  first
                    | exact ⟨rfl, Below.refl _ _⟩
                    | (have hjj := HJJ.out; rw [decide_eq_true (by omega)]; exact ⟨rfl, Below.refl _ _⟩)
                    | (have hjj := HJJ.out; rw [decide_eq_false (by omega)]; exact ⟨rfl, Below.refl _ _⟩)
                    | (have hjj := HJJ.out; rw [if_pos (by omega)]; exact ⟨rfl, Below.refl _ _⟩)
                    | (rw [IntWalk.i64_in _ (by omega)]; exact ⟨rfl, Below.refl _ _⟩)
                    | done
              case nextbNZ =>
              intro w9 hb9
              have HF := Lib.hid (fun W h => HF.out W (hb9.trans (Below.mono h hb9.size)))
              have HB9 := Lib.hid (HB8.out.trans (hb9.mono HB8.out.size))
              clear hb9
              go_wp2_with fail
              refine wp_env (fin := ?fncNZ) (by kernel_rfl) [116, 117, 118, 119, 120, 121, 122, 123, 124, 125, 126, 127, 128, 129, 130, 131, 132, 133, 134, 135, 136, 137, 138, 139]
                [.bool false, .int .i64 (-1), .bool false, .bool false, .bool false, .bool false, .bool false, undef, undef, undef, undef, undef, undef, .bool false, .bool false, .bool false, .bool false, .bool true, .bool true, .agg #[.int .i64 0, .int .i64 0, .bool false, .string ⟨#[]⟩], .agg #[.int .i64 0, .int .i64 0, .bool false, .string ⟨#[]⟩], .bool false, .bool false, .bool false] (by kernel_rfl) ?fincNZ ?stepscNZ ?nextcNZ
              case fincNZ =>
                simp only [putAll, Act.put, List.setIfInBounds_toArray, List.set_cons_succ, List.set_cons_zero]
                rfl
              case stepscNZ =>
                refine ⟨.inr ⟨by kernel_rfl, fun w1_ hB_ => ?_⟩, .inr ⟨by kernel_rfl, fun w1_ hB_ => ?_⟩, .inr ⟨by kernel_rfl, fun w1_ hB_ => ?_⟩, .inr ⟨by kernel_rfl, fun w1_ hB_ => ?_⟩, .inr ⟨by kernel_rfl, fun w1_ hB_ => ?_⟩, .inr ⟨by kernel_rfl, fun w1_ hB_ => ?_⟩, .inr ⟨by kernel_rfl, fun w1_ hB_ => ?_⟩, .inl ⟨by kernel_rfl, rfl⟩, .inl ⟨by kernel_rfl, rfl⟩, .inl ⟨by kernel_rfl, rfl⟩, .inl ⟨by kernel_rfl, rfl⟩, .inl ⟨by kernel_rfl, rfl⟩, .inl ⟨by kernel_rfl, rfl⟩, .inr ⟨by kernel_rfl, fun w1_ hB_ => ?_⟩, .inr ⟨by kernel_rfl, fun w1_ hB_ => ?_⟩, .inr ⟨by kernel_rfl, fun w1_ hB_ => ?_⟩, .inr ⟨by kernel_rfl, fun w1_ hB_ => ?_⟩, .inr ⟨by kernel_rfl, fun w1_ hB_ => ?_⟩, .inr ⟨by kernel_rfl, fun w1_ hB_ => ?_⟩, .inr ⟨by kernel_rfl, fun w1_ hB_ => ?_⟩, .inr ⟨by kernel_rfl, fun w1_ hB_ => ?_⟩, .inr ⟨by kernel_rfl, fun w1_ hB_ => ?_⟩, .inr ⟨by kernel_rfl, fun w1_ hB_ => ?_⟩, .inr ⟨by kernel_rfl, fun w1_ hB_ => ?_⟩, trivial⟩
                all_goals
                  obtain ⟨⟨x0, x1, x2⟩, ⟨y0, y1, y2, y3⟩, ⟨p0, p1, p2, p3⟩, hcl⟩ := HF.out w1_ hB_
                  rw [HPE.out] at p0 p1 p2 p3
                  simp only [Loc.zero, Chg.zero] at p0 p1 p2 p3
                  clear hcl
                  go_simp
                  first
                    | exact ⟨rfl, Below.refl _ _⟩
                    | (have hjj := HJJ.out; rw [decide_eq_true (by omega)]; exact ⟨rfl, Below.refl _ _⟩)
                    | (have hjj := HJJ.out; rw [decide_eq_false (by omega)]; exact ⟨rfl, Below.refl _ _⟩)
                    | (have hjj := HJJ.out; rw [if_pos (by omega)]; exact ⟨rfl, Below.refl _ _⟩)
                    | (rw [IntWalk.i64_in _ (by omega)]; exact ⟨rfl, Below.refl _ _⟩)
                    | done
              case nextcNZ =>
              intro w10 hb10
              have HB10 := Lib.hid (HB9.out.trans (hb10.mono HB9.out.size))
              clear hb10
              go_wp2_with fail
              go_roundw
              case rel => exact ⟨k + 1, by omega, by go_num, HBR.out.trans (HB10.out.mono HBR.out.size)⟩
              case measure => first | (simp [intOf]; done) | (simp [intOf]; omega)
          · have hjl : j < l.length := by omega
            obtain ⟨b, o, c', e, -, -⟩ := ne (by omega)
            cases e
            clear ne
            have HC := Lib.hid (fun j (hj : j < l.length) (W : World) (h : Below wr.heap.size wr W) => show _ ∧ _ ∧ _ ∧ _ by
              have hbW := HBW.out.trans (h.mono HBW.out.size)
              obtain ⟨_, _, _, e1, -, h1⟩ := (HV.out.below hbW).cells (by omega)
              cases e1
              exact h1 j hj)
            by_cases hj0 : j = 0
            · by_cases hnl : j + 1 < l.length
              · have HJJ := Lib.hid (show j = 0 ∧ j + 1 < l.length from ⟨hj0, hnl⟩)
                clear hj0
                obtain ⟨cj, hcj⟩ : ∃ cj, l[j] = cj := ⟨_, rfl⟩
                obtain ⟨x, hx⟩ : ∃ x, cj.loc = x := ⟨_, rfl⟩
                have eA : atV l z = (x, 0) := by unfold atV; rw [hn, if_neg (by omega), Nat.add_sub_cancel, getD_at hjl, hcj, hx]
                have hr1 : ((j + 1 : Nat) : Int) - 1 = (j : Nat) := by omega
                have HCJ := Lib.hid hcj
                clear hcj
                obtain ⟨y, hy⟩ : ∃ y, l[(j + 1 : Nat)]'hnl = y := ⟨_, rfl⟩
                have eN : nextV l z = (y, true) := by unfold nextV; rw [hn, if_neg (by omega), getD_at hnl, hy]
                have HCN := Lib.hid hy
                obtain ⟨p, hp⟩ : ∃ p, Chg.zero = p := ⟨_, rfl⟩
                have eP : prevV l z = (p, false) := by unfold prevV; rw [hn, if_pos (by have := HJJ.out; omega), hp]
                have HPE := Lib.hid hp.symm
                have HXE := Lib.hid hx
                rw [hn, hr1] at HLA
                rw [eA] at HAT
                rw [eN] at HNX
                rw [eP] at HPV
                unfold locA at HAT
                unfold chgA at HNX HPV
                clear hx hy hp eA eN eP hr1 hn
                go_wp2_with fail
                refine (HLA.out _ HBW.out).mono ?_
                rintro e w1 ⟨rfl, rfl⟩
                go_wp2_with fail
                refine (HAT.out _ (HBW.out.trans (HB0_.out.mono HBW.out.size))).mono ?_
                rintro e u1 ⟨rfl, hb⟩
                have HK1 := Lib.hid (Blk.new u1 41 #[.int .i64 x.off, .bool x.dst, .string x.abbr])
                have HB1_ := Lib.hid (HB0_.out.trans ((hb.alloc hb.size (.cells #[.int .i64 x.off, .bool x.dst, .string x.abbr] 41)).mono HB0_.out.size))
                obtain ⟨V1, hV1⟩ : ∃ W, u1.alloc (.cells #[.int .i64 x.off, .bool x.dst, .string x.abbr] 41) = W := ⟨_, rfl⟩
                have hl1 : u1.heap.size < V1.heap.size := by rw [← hV1]; simp
                rw [hV1] at HK1 HB1_
                have z1 := HZ.out _ HB1_.out
                clear hb
                go_wp2_with fail
                clear hV1
                refine (HNX.out _ (HBW.out.trans (HB1_.out.mono HBW.out.size))).mono ?_
                rintro e u2 ⟨rfl, hb⟩
                have HK2 := Lib.hid (Blk.new u2 90 #[.int .i64 y.at_, .int .i64 y.loc.off, .bool y.loc.dst, .string y.loc.abbr])
                have HB2_ := Lib.hid (HB1_.out.trans ((hb.alloc hb.size (.cells #[.int .i64 y.at_, .int .i64 y.loc.off, .bool y.loc.dst, .string y.loc.abbr] 90)).mono HB1_.out.size))
                have HK1 := Lib.hid (HK1.out.below (hb.alloc hb.size (.cells #[.int .i64 y.at_, .int .i64 y.loc.off, .bool y.loc.dst, .string y.loc.abbr] 90)) HK1.out.lt)
                obtain ⟨V2, hV2⟩ : ∃ W, u2.alloc (.cells #[.int .i64 y.at_, .int .i64 y.loc.off, .bool y.loc.dst, .string y.loc.abbr] 90) = W := ⟨_, rfl⟩
                have hl2 : u2.heap.size < V2.heap.size := by rw [← hV2]; simp
                rw [hV2] at HK1 HK2 HB2_
                have z2 := HZ.out _ HB2_.out
                clear hb
                go_wp2_with fail
                clear hV2
                refine (HPV.out _ (HBW.out.trans (HB2_.out.mono HBW.out.size))).mono ?_
                rintro e u3 ⟨rfl, hb⟩
                have HK3 := Lib.hid (Blk.new u3 90 #[.int .i64 p.at_, .int .i64 p.loc.off, .bool p.loc.dst, .string p.loc.abbr])
                have HB3_ := Lib.hid (HB2_.out.trans ((hb.alloc hb.size (.cells #[.int .i64 p.at_, .int .i64 p.loc.off, .bool p.loc.dst, .string p.loc.abbr] 90)).mono HB2_.out.size))
                have HK1 := Lib.hid (HK1.out.below (hb.alloc hb.size (.cells #[.int .i64 p.at_, .int .i64 p.loc.off, .bool p.loc.dst, .string p.loc.abbr] 90)) HK1.out.lt)
                have HK2 := Lib.hid (HK2.out.below (hb.alloc hb.size (.cells #[.int .i64 p.at_, .int .i64 p.loc.off, .bool p.loc.dst, .string p.loc.abbr] 90)) HK2.out.lt)
                obtain ⟨V3, hV3⟩ : ∃ W, u3.alloc (.cells #[.int .i64 p.at_, .int .i64 p.loc.off, .bool p.loc.dst, .string p.loc.abbr] 90) = W := ⟨_, rfl⟩
                have hl3 : u3.heap.size < V3.heap.size := by rw [← hV3]; simp
                rw [hV3] at HK1 HK2 HK3 HB3_
                have z3 := HZ.out _ HB3_.out
                clear hb
                go_wp2_with fail
                clear hV3
                have HF := Lib.hid (fun (W : World) (h : Below V3.heap.size V3 W) => show LocC W u1.heap.size x ∧ ChgC W u2.heap.size y ∧ ChgC W u3.heap.size p ∧ _ from ⟨LocB.cells (HK1.out.below h HK1.out.lt), ChgB.cells (HK2.out.below h HK2.out.lt), ChgB.cells (HK3.out.below h HK3.out.lt), fun (j : Nat) (hj : j < l.length) => HC.out j hj W (HB3_.out.trans (h.mono HB3_.out.size))⟩)
                clear z1 z2 z3
                refine wp_env (fin := ?fnaPY) (by kernel_rfl) [60, 61, 62, 63, 64, 65, 66, 67, 68, 69, 70, 71, 72, 73, 74, 75, 76, 77, 78, 79, 80, 81, 82, 83, 84, 85, 86, 87]
                  [.int .i64 j, .bool false, .bool false, undef, undef, undef, undef, undef, undef, undef, .bool false, .bool false, .int .i64 j, .bool true, .bool true, locA x, .slice (some ⟨b, o, none⟩) l.length c, .int .i64 j, .pointer (some ⟨b, o + j * 4, none⟩), .pointer (some ⟨b, o + j * 4 + 1, none⟩), locA x, .bool false, .bool false, .int .i64 0, .bool false, .bool false, .bool false, .bool false] (by kernel_rfl) ?finaPY ?stepsaPY ?nextaPY
                case finaPY =>
                  simp only [putAll, Act.put, List.setIfInBounds_toArray, List.set_cons_succ, List.set_cons_zero]
                  rfl
                case stepsaPY =>
                  unfold locA
                  refine ⟨.inr ⟨by kernel_rfl, fun w1_ hB_ => ?_⟩, .inr ⟨by kernel_rfl, fun w1_ hB_ => ?_⟩, .inr ⟨by kernel_rfl, fun w1_ hB_ => ?_⟩, .inl ⟨by kernel_rfl, rfl⟩, .inl ⟨by kernel_rfl, rfl⟩, .inl ⟨by kernel_rfl, rfl⟩, .inl ⟨by kernel_rfl, rfl⟩, .inl ⟨by kernel_rfl, rfl⟩, .inl ⟨by kernel_rfl, rfl⟩, .inl ⟨by kernel_rfl, rfl⟩, .inr ⟨by kernel_rfl, fun w1_ hB_ => ?_⟩, .inr ⟨by kernel_rfl, fun w1_ hB_ => ?_⟩, .inr ⟨by kernel_rfl, fun w1_ hB_ => ?_⟩, .inr ⟨by kernel_rfl, fun w1_ hB_ => ?_⟩, .inr ⟨by kernel_rfl, fun w1_ hB_ => ?_⟩, .inr ⟨by kernel_rfl, fun w1_ hB_ => ?_⟩, .inr ⟨by kernel_rfl, fun w1_ hB_ => ?_⟩, .inr ⟨by kernel_rfl, fun w1_ hB_ => ?_⟩, .inr ⟨by kernel_rfl, fun w1_ hB_ => ?_⟩, .inr ⟨by kernel_rfl, fun w1_ hB_ => ?_⟩, .inr ⟨by kernel_rfl, fun w1_ hB_ => ?_⟩, .inr ⟨by kernel_rfl, fun w1_ hB_ => ?_⟩, .inr ⟨by kernel_rfl, fun w1_ hB_ => ?_⟩, .inr ⟨by kernel_rfl, fun w1_ hB_ => ?_⟩, .inr ⟨by kernel_rfl, fun w1_ hB_ => ?_⟩, .inr ⟨by kernel_rfl, fun w1_ hB_ => ?_⟩, .inr ⟨by kernel_rfl, fun w1_ hB_ => ?_⟩, .inr ⟨by kernel_rfl, fun w1_ hB_ => ?_⟩, trivial⟩
                  all_goals
                    obtain ⟨⟨x0, x1, x2⟩, ⟨y0, y1, y2, y3⟩, ⟨p0, p1, p2, p3⟩, hcl⟩ := HF.out w1_ hB_
                    obtain ⟨c0, c1, c2_, c3⟩ := hcl j hjl
                    rw [HCJ.out] at c0 c1 c2_ c3
                    rw [HXE.out] at c1 c2_ c3
                    clear hcl
                    go_simp
                    first
                      | exact ⟨rfl, Below.refl _ _⟩
                      | (have hjj := HJJ.out; rw [decide_eq_true (by omega)]; exact ⟨rfl, Below.refl _ _⟩)
                      | (have hjj := HJJ.out; rw [decide_eq_false (by omega)]; exact ⟨rfl, Below.refl _ _⟩)
                      | (have hjj := HJJ.out; rw [if_pos (by omega)]; exact ⟨rfl, Below.refl _ _⟩)
                      | (rw [IntWalk.i64_in _ (by omega)]; exact ⟨rfl, Below.refl _ _⟩)
                      | done
                case nextaPY =>
                intro w8 hb8
                have HF := Lib.hid (fun W h => HF.out W (hb8.trans (Below.mono h hb8.size)))
                have HB8 := Lib.hid (HB3_.out.trans (hb8.mono HB3_.out.size))
                clear hb8
                go_wp2_with fail
                refine wp_env (fin := ?fnbPY) (by kernel_rfl) [88, 89, 90, 91, 92, 93, 94, 95, 96, 97, 98, 99, 100, 101, 102, 103, 104, 105, 106, 107, 108, 109, 110, 111, 112, 113, 114, 115]
                  [.bool true, .int .i64 j, .int .i64 (j + 1), .slice (some ⟨b, o, none⟩) l.length c, .int .i64 l.length, .bool true, .bool false, .bool false, .bool true, .bool true, chgA y, .slice (some ⟨b, o, none⟩) l.length c, .int .i64 j, .int .i64 (j + 1), .pointer (some ⟨b, o + (j + 1) * 4, none⟩), chgA y, .bool false, .bool false, .bool false, .bool false, .bool true, .bool false, .bool false, undef, undef, undef, .bool false, .bool false] (by kernel_rfl) ?finbPY ?stepsbPY ?nextbPY
                case finbPY =>
                  simp only [putAll, Act.put, List.setIfInBounds_toArray, List.set_cons_succ, List.set_cons_zero]
                  rfl
                case stepsbPY =>
                  unfold chgA
                  refine ⟨.inr ⟨by kernel_rfl, fun w1_ hB_ => ?_⟩, .inr ⟨by kernel_rfl, fun w1_ hB_ => ?_⟩, .inr ⟨by kernel_rfl, fun w1_ hB_ => ?_⟩, .inr ⟨by kernel_rfl, fun w1_ hB_ => ?_⟩, .inr ⟨by kernel_rfl, fun w1_ hB_ => ?_⟩, .inr ⟨by kernel_rfl, fun w1_ hB_ => ?_⟩, .inr ⟨by kernel_rfl, fun w1_ hB_ => ?_⟩, .inr ⟨by kernel_rfl, fun w1_ hB_ => ?_⟩, .inr ⟨by kernel_rfl, fun w1_ hB_ => ?_⟩, .inr ⟨by kernel_rfl, fun w1_ hB_ => ?_⟩, .inr ⟨by kernel_rfl, fun w1_ hB_ => ?_⟩, .inr ⟨by kernel_rfl, fun w1_ hB_ => ?_⟩, .inr ⟨by kernel_rfl, fun w1_ hB_ => ?_⟩, .inr ⟨by kernel_rfl, fun w1_ hB_ => ?_⟩, .inr ⟨by kernel_rfl, fun w1_ hB_ => ?_⟩, .inr ⟨by kernel_rfl, fun w1_ hB_ => ?_⟩, .inr ⟨by kernel_rfl, fun w1_ hB_ => ?_⟩, .inr ⟨by kernel_rfl, fun w1_ hB_ => ?_⟩, .inr ⟨by kernel_rfl, fun w1_ hB_ => ?_⟩, .inr ⟨by kernel_rfl, fun w1_ hB_ => ?_⟩, .inr ⟨by kernel_rfl, fun w1_ hB_ => ?_⟩, .inr ⟨by kernel_rfl, fun w1_ hB_ => ?_⟩, .inr ⟨by kernel_rfl, fun w1_ hB_ => ?_⟩, .inl ⟨by kernel_rfl, rfl⟩, .inl ⟨by kernel_rfl, rfl⟩, .inl ⟨by kernel_rfl, rfl⟩, .inr ⟨by kernel_rfl, fun w1_ hB_ => ?_⟩, .inr ⟨by kernel_rfl, fun w1_ hB_ => ?_⟩, trivial⟩
                  all_goals
                    obtain ⟨⟨x0, x1, x2⟩, ⟨y0, y1, y2, y3⟩, ⟨p0, p1, p2, p3⟩, hcl⟩ := HF.out w1_ hB_
                    obtain ⟨c0, c1, c2_, c3⟩ := hcl (j + 1) hnl
                    rw [HCN.out] at c0 c1 c2_ c3
                    clear hcl
                    go_simp
                    first
                      | exact ⟨rfl, Below.refl _ _⟩
                      | (have hjj := HJJ.out; rw [decide_eq_true (by omega)]; exact ⟨rfl, Below.refl _ _⟩)
                      | (have hjj := HJJ.out; rw [decide_eq_false (by omega)]; exact ⟨rfl, Below.refl _ _⟩)
                      | (have hjj := HJJ.out; rw [if_pos (by omega)]; exact ⟨rfl, Below.refl _ _⟩)
                      | (rw [IntWalk.i64_in _ (by omega)]; exact ⟨rfl, Below.refl _ _⟩)
                      | done
                case nextbPY =>
                intro w9 hb9
                have HF := Lib.hid (fun W h => HF.out W (hb9.trans (Below.mono h hb9.size)))
                have HB9 := Lib.hid (HB8.out.trans (hb9.mono HB8.out.size))
                clear hb9
                go_wp2_with fail
                refine wp_env (fin := ?fncPY) (by kernel_rfl) [116, 117, 118, 119, 120, 121, 122, 123, 124, 125, 126, 127, 128, 129, 130, 131, 132, 133, 134, 135, 136, 137, 138, 139]
                  [.bool false, .int .i64 j, .bool false, .bool false, .bool false, .bool false, .bool false, undef, undef, undef, undef, undef, undef, .bool false, .bool false, .bool false, .bool false, .bool true, .bool true, .agg #[.int .i64 0, .int .i64 0, .bool false, .string ⟨#[]⟩], .agg #[.int .i64 0, .int .i64 0, .bool false, .string ⟨#[]⟩], .bool false, .bool false, .bool false] (by kernel_rfl) ?fincPY ?stepscPY ?nextcPY
                case fincPY =>
                  simp only [putAll, Act.put, List.setIfInBounds_toArray, List.set_cons_succ, List.set_cons_zero]
                  rfl
                case stepscPY =>
                  refine ⟨.inr ⟨by kernel_rfl, fun w1_ hB_ => ?_⟩, .inr ⟨by kernel_rfl, fun w1_ hB_ => ?_⟩, .inr ⟨by kernel_rfl, fun w1_ hB_ => ?_⟩, .inr ⟨by kernel_rfl, fun w1_ hB_ => ?_⟩, .inr ⟨by kernel_rfl, fun w1_ hB_ => ?_⟩, .inr ⟨by kernel_rfl, fun w1_ hB_ => ?_⟩, .inr ⟨by kernel_rfl, fun w1_ hB_ => ?_⟩, .inl ⟨by kernel_rfl, rfl⟩, .inl ⟨by kernel_rfl, rfl⟩, .inl ⟨by kernel_rfl, rfl⟩, .inl ⟨by kernel_rfl, rfl⟩, .inl ⟨by kernel_rfl, rfl⟩, .inl ⟨by kernel_rfl, rfl⟩, .inr ⟨by kernel_rfl, fun w1_ hB_ => ?_⟩, .inr ⟨by kernel_rfl, fun w1_ hB_ => ?_⟩, .inr ⟨by kernel_rfl, fun w1_ hB_ => ?_⟩, .inr ⟨by kernel_rfl, fun w1_ hB_ => ?_⟩, .inr ⟨by kernel_rfl, fun w1_ hB_ => ?_⟩, .inr ⟨by kernel_rfl, fun w1_ hB_ => ?_⟩, .inr ⟨by kernel_rfl, fun w1_ hB_ => ?_⟩, .inr ⟨by kernel_rfl, fun w1_ hB_ => ?_⟩, .inr ⟨by kernel_rfl, fun w1_ hB_ => ?_⟩, .inr ⟨by kernel_rfl, fun w1_ hB_ => ?_⟩, .inr ⟨by kernel_rfl, fun w1_ hB_ => ?_⟩, trivial⟩
                  all_goals
                    obtain ⟨⟨x0, x1, x2⟩, ⟨y0, y1, y2, y3⟩, ⟨p0, p1, p2, p3⟩, hcl⟩ := HF.out w1_ hB_
                    rw [HPE.out] at p0 p1 p2 p3
                    simp only [Loc.zero, Chg.zero] at p0 p1 p2 p3
                    clear hcl
                    go_simp
                    first
                      | exact ⟨rfl, Below.refl _ _⟩
                      | (have hjj := HJJ.out; rw [decide_eq_true (by omega)]; exact ⟨rfl, Below.refl _ _⟩)
                      | (have hjj := HJJ.out; rw [decide_eq_false (by omega)]; exact ⟨rfl, Below.refl _ _⟩)
                      | (have hjj := HJJ.out; rw [if_pos (by omega)]; exact ⟨rfl, Below.refl _ _⟩)
                      | (rw [IntWalk.i64_in _ (by omega)]; exact ⟨rfl, Below.refl _ _⟩)
                      | done
                case nextcPY =>
                intro w10 hb10
                have HB10 := Lib.hid (HB9.out.trans (hb10.mono HB9.out.size))
                clear hb10
                go_wp2_with fail
                go_roundw
                case rel => exact ⟨k + 1, by omega, by go_num, HBR.out.trans (HB10.out.mono HBR.out.size)⟩
                case measure => first | (simp [intOf]; done) | (simp [intOf]; omega)
              · have HJJ := Lib.hid (show j = 0 ∧ j + 1 = l.length from ⟨hj0, by omega⟩)
                clear hj0
                obtain ⟨cj, hcj⟩ : ∃ cj, l[j] = cj := ⟨_, rfl⟩
                obtain ⟨x, hx⟩ : ∃ x, cj.loc = x := ⟨_, rfl⟩
                have eA : atV l z = (x, 0) := by unfold atV; rw [hn, if_neg (by omega), Nat.add_sub_cancel, getD_at hjl, hcj, hx]
                have hr1 : ((j + 1 : Nat) : Int) - 1 = (j : Nat) := by omega
                have HCJ := Lib.hid hcj
                clear hcj
                obtain ⟨y, hy⟩ : ∃ y, Chg.zero = y := ⟨_, rfl⟩
                have eN : nextV l z = (y, false) := by unfold nextV; rw [hn, if_pos (by omega), hy]
                have HYE := Lib.hid hy.symm
                obtain ⟨p, hp⟩ : ∃ p, Chg.zero = p := ⟨_, rfl⟩
                have eP : prevV l z = (p, false) := by unfold prevV; rw [hn, if_pos (by have := HJJ.out; omega), hp]
                have HPE := Lib.hid hp.symm
                have HXE := Lib.hid hx
                rw [hn, hr1] at HLA
                rw [eA] at HAT
                rw [eN] at HNX
                rw [eP] at HPV
                unfold locA at HAT
                unfold chgA at HNX HPV
                clear hx hy hp eA eN eP hr1 hn
                go_wp2_with fail
                refine (HLA.out _ HBW.out).mono ?_
                rintro e w1 ⟨rfl, rfl⟩
                go_wp2_with fail
                refine (HAT.out _ (HBW.out.trans (HB0_.out.mono HBW.out.size))).mono ?_
                rintro e u1 ⟨rfl, hb⟩
                have HK1 := Lib.hid (Blk.new u1 41 #[.int .i64 x.off, .bool x.dst, .string x.abbr])
                have HB1_ := Lib.hid (HB0_.out.trans ((hb.alloc hb.size (.cells #[.int .i64 x.off, .bool x.dst, .string x.abbr] 41)).mono HB0_.out.size))
                obtain ⟨V1, hV1⟩ : ∃ W, u1.alloc (.cells #[.int .i64 x.off, .bool x.dst, .string x.abbr] 41) = W := ⟨_, rfl⟩
                have hl1 : u1.heap.size < V1.heap.size := by rw [← hV1]; simp
                rw [hV1] at HK1 HB1_
                have z1 := HZ.out _ HB1_.out
                clear hb
                go_wp2_with fail
                clear hV1
                refine (HNX.out _ (HBW.out.trans (HB1_.out.mono HBW.out.size))).mono ?_
                rintro e u2 ⟨rfl, hb⟩
                have HK2 := Lib.hid (Blk.new u2 90 #[.int .i64 y.at_, .int .i64 y.loc.off, .bool y.loc.dst, .string y.loc.abbr])
                have HB2_ := Lib.hid (HB1_.out.trans ((hb.alloc hb.size (.cells #[.int .i64 y.at_, .int .i64 y.loc.off, .bool y.loc.dst, .string y.loc.abbr] 90)).mono HB1_.out.size))
                have HK1 := Lib.hid (HK1.out.below (hb.alloc hb.size (.cells #[.int .i64 y.at_, .int .i64 y.loc.off, .bool y.loc.dst, .string y.loc.abbr] 90)) HK1.out.lt)
                obtain ⟨V2, hV2⟩ : ∃ W, u2.alloc (.cells #[.int .i64 y.at_, .int .i64 y.loc.off, .bool y.loc.dst, .string y.loc.abbr] 90) = W := ⟨_, rfl⟩
                have hl2 : u2.heap.size < V2.heap.size := by rw [← hV2]; simp
                rw [hV2] at HK1 HK2 HB2_
                have z2 := HZ.out _ HB2_.out
                clear hb
                go_wp2_with fail
                clear hV2
                refine (HPV.out _ (HBW.out.trans (HB2_.out.mono HBW.out.size))).mono ?_
                rintro e u3 ⟨rfl, hb⟩
                have HK3 := Lib.hid (Blk.new u3 90 #[.int .i64 p.at_, .int .i64 p.loc.off, .bool p.loc.dst, .string p.loc.abbr])
                have HB3_ := Lib.hid (HB2_.out.trans ((hb.alloc hb.size (.cells #[.int .i64 p.at_, .int .i64 p.loc.off, .bool p.loc.dst, .string p.loc.abbr] 90)).mono HB2_.out.size))
                have HK1 := Lib.hid (HK1.out.below (hb.alloc hb.size (.cells #[.int .i64 p.at_, .int .i64 p.loc.off, .bool p.loc.dst, .string p.loc.abbr] 90)) HK1.out.lt)
                have HK2 := Lib.hid (HK2.out.below (hb.alloc hb.size (.cells #[.int .i64 p.at_, .int .i64 p.loc.off, .bool p.loc.dst, .string p.loc.abbr] 90)) HK2.out.lt)
                obtain ⟨V3, hV3⟩ : ∃ W, u3.alloc (.cells #[.int .i64 p.at_, .int .i64 p.loc.off, .bool p.loc.dst, .string p.loc.abbr] 90) = W := ⟨_, rfl⟩
                have hl3 : u3.heap.size < V3.heap.size := by rw [← hV3]; simp
                rw [hV3] at HK1 HK2 HK3 HB3_
                have z3 := HZ.out _ HB3_.out
                clear hb
                go_wp2_with fail
                clear hV3
                have HF := Lib.hid (fun (W : World) (h : Below V3.heap.size V3 W) => show LocC W u1.heap.size x ∧ ChgC W u2.heap.size y ∧ ChgC W u3.heap.size p ∧ _ from ⟨LocB.cells (HK1.out.below h HK1.out.lt), ChgB.cells (HK2.out.below h HK2.out.lt), ChgB.cells (HK3.out.below h HK3.out.lt), fun (j : Nat) (hj : j < l.length) => HC.out j hj W (HB3_.out.trans (h.mono HB3_.out.size))⟩)
                clear z1 z2 z3
                refine wp_env (fin := ?fnaPZ) (by kernel_rfl) [60, 61, 62, 63, 64, 65, 66, 67, 68, 69, 70, 71, 72, 73, 74, 75, 76, 77, 78, 79, 80, 81, 82, 83, 84, 85, 86, 87]
                  [.int .i64 j, .bool false, .bool false, undef, undef, undef, undef, undef, undef, undef, .bool false, .bool false, .int .i64 j, .bool true, .bool true, locA x, .slice (some ⟨b, o, none⟩) l.length c, .int .i64 j, .pointer (some ⟨b, o + j * 4, none⟩), .pointer (some ⟨b, o + j * 4 + 1, none⟩), locA x, .bool false, .bool false, .int .i64 0, .bool false, .bool false, .bool false, .bool false] (by kernel_rfl) ?finaPZ ?stepsaPZ ?nextaPZ
                case finaPZ =>
                  simp only [putAll, Act.put, List.setIfInBounds_toArray, List.set_cons_succ, List.set_cons_zero]
                  rfl
                case stepsaPZ =>
                  unfold locA
                  refine ⟨.inr ⟨by kernel_rfl, fun w1_ hB_ => ?_⟩, .inr ⟨by kernel_rfl, fun w1_ hB_ => ?_⟩, .inr ⟨by kernel_rfl, fun w1_ hB_ => ?_⟩, .inl ⟨by kernel_rfl, rfl⟩, .inl ⟨by kernel_rfl, rfl⟩, .inl ⟨by kernel_rfl, rfl⟩, .inl ⟨by kernel_rfl, rfl⟩, .inl ⟨by kernel_rfl, rfl⟩, .inl ⟨by kernel_rfl, rfl⟩, .inl ⟨by kernel_rfl, rfl⟩, .inr ⟨by kernel_rfl, fun w1_ hB_ => ?_⟩, .inr ⟨by kernel_rfl, fun w1_ hB_ => ?_⟩, .inr ⟨by kernel_rfl, fun w1_ hB_ => ?_⟩, .inr ⟨by kernel_rfl, fun w1_ hB_ => ?_⟩, .inr ⟨by kernel_rfl, fun w1_ hB_ => ?_⟩, .inr ⟨by kernel_rfl, fun w1_ hB_ => ?_⟩, .inr ⟨by kernel_rfl, fun w1_ hB_ => ?_⟩, .inr ⟨by kernel_rfl, fun w1_ hB_ => ?_⟩, .inr ⟨by kernel_rfl, fun w1_ hB_ => ?_⟩, .inr ⟨by kernel_rfl, fun w1_ hB_ => ?_⟩, .inr ⟨by kernel_rfl, fun w1_ hB_ => ?_⟩, .inr ⟨by kernel_rfl, fun w1_ hB_ => ?_⟩, .inr ⟨by kernel_rfl, fun w1_ hB_ => ?_⟩, .inr ⟨by kernel_rfl, fun w1_ hB_ => ?_⟩, .inr ⟨by kernel_rfl, fun w1_ hB_ => ?_⟩, .inr ⟨by kernel_rfl, fun w1_ hB_ => ?_⟩, .inr ⟨by kernel_rfl, fun w1_ hB_ => ?_⟩, .inr ⟨by kernel_rfl, fun w1_ hB_ => ?_⟩, trivial⟩
                  all_goals
                    obtain ⟨⟨x0, x1, x2⟩, ⟨y0, y1, y2, y3⟩, ⟨p0, p1, p2, p3⟩, hcl⟩ := HF.out w1_ hB_
                    obtain ⟨c0, c1, c2_, c3⟩ := hcl j hjl
                    rw [HCJ.out] at c0 c1 c2_ c3
                    rw [HXE.out] at c1 c2_ c3
                    clear hcl
                    go_simp
                    first
                      | exact ⟨rfl, Below.refl _ _⟩
                      | (have hjj := HJJ.out; rw [decide_eq_true (by omega)]; exact ⟨rfl, Below.refl _ _⟩)
                      | (have hjj := HJJ.out; rw [decide_eq_false (by omega)]; exact ⟨rfl, Below.refl _ _⟩)
                      | (have hjj := HJJ.out; rw [if_pos (by omega)]; exact ⟨rfl, Below.refl _ _⟩)
                      | (rw [IntWalk.i64_in _ (by omega)]; exact ⟨rfl, Below.refl _ _⟩)
                      | done
                case nextaPZ =>
                intro w8 hb8
                have HF := Lib.hid (fun W h => HF.out W (hb8.trans (Below.mono h hb8.size)))
                have HB8 := Lib.hid (HB3_.out.trans (hb8.mono HB3_.out.size))
                clear hb8
                go_wp2_with fail
                refine wp_env (fin := ?fnbPZ) (by kernel_rfl) [88, 89, 90, 91, 92, 93, 94, 95, 96, 97, 98, 99, 100, 101, 102, 103, 104, 105, 106, 107, 108, 109, 110, 111, 112, 113, 114, 115]
                  [.bool false, .int .i64 j, .int .i64 (j + 1), .slice (some ⟨b, o, none⟩) l.length c, .int .i64 l.length, .bool false, .bool false, .bool false, .bool false, .bool false, undef, undef, undef, undef, undef, undef, undef, .bool false, .bool false, .bool false, .bool false, .bool true, .bool true, .agg #[.int .i64 0, .int .i64 0, .bool false, .string ⟨#[]⟩], .agg #[.int .i64 0, .int .i64 0, .bool false, .string ⟨#[]⟩], .bool false, .bool false, .bool false] (by kernel_rfl) ?finbPZ ?stepsbPZ ?nextbPZ
                case finbPZ =>
                  simp only [putAll, Act.put, List.setIfInBounds_toArray, List.set_cons_succ, List.set_cons_zero]
                  rfl
                case stepsbPZ =>
                  refine ⟨.inr ⟨by kernel_rfl, fun w1_ hB_ => ?_⟩, .inr ⟨by kernel_rfl, fun w1_ hB_ => ?_⟩, .inr ⟨by kernel_rfl, fun w1_ hB_ => ?_⟩, .inr ⟨by kernel_rfl, fun w1_ hB_ => ?_⟩, .inr ⟨by kernel_rfl, fun w1_ hB_ => ?_⟩, .inr ⟨by kernel_rfl, fun w1_ hB_ => ?_⟩, .inr ⟨by kernel_rfl, fun w1_ hB_ => ?_⟩, .inr ⟨by kernel_rfl, fun w1_ hB_ => ?_⟩, .inr ⟨by kernel_rfl, fun w1_ hB_ => ?_⟩, .inr ⟨by kernel_rfl, fun w1_ hB_ => ?_⟩, .inl ⟨by kernel_rfl, rfl⟩, .inl ⟨by kernel_rfl, rfl⟩, .inl ⟨by kernel_rfl, rfl⟩, .inl ⟨by kernel_rfl, rfl⟩, .inl ⟨by kernel_rfl, rfl⟩, .inl ⟨by kernel_rfl, rfl⟩, .inl ⟨by kernel_rfl, rfl⟩, .inr ⟨by kernel_rfl, fun w1_ hB_ => ?_⟩, .inr ⟨by kernel_rfl, fun w1_ hB_ => ?_⟩, .inr ⟨by kernel_rfl, fun w1_ hB_ => ?_⟩, .inr ⟨by kernel_rfl, fun w1_ hB_ => ?_⟩, .inr ⟨by kernel_rfl, fun w1_ hB_ => ?_⟩, .inr ⟨by kernel_rfl, fun w1_ hB_ => ?_⟩, .inr ⟨by kernel_rfl, fun w1_ hB_ => ?_⟩, .inr ⟨by kernel_rfl, fun w1_ hB_ => ?_⟩, .inr ⟨by kernel_rfl, fun w1_ hB_ => ?_⟩, .inr ⟨by kernel_rfl, fun w1_ hB_ => ?_⟩, .inr ⟨by kernel_rfl, fun w1_ hB_ => ?_⟩, trivial⟩
                  all_goals
                    obtain ⟨⟨x0, x1, x2⟩, ⟨y0, y1, y2, y3⟩, ⟨p0, p1, p2, p3⟩, hcl⟩ := HF.out w1_ hB_
                    rw [HYE.out] at y0 y1 y2 y3
                    simp only [Loc.zero, Chg.zero] at y0 y1 y2 y3
                    clear hcl
                    go_simp
                    first
                      | exact ⟨rfl, Below.refl _ _⟩
                      | (have hjj := HJJ.out; rw [decide_eq_true (by omega)]; exact ⟨rfl, Below.refl _ _⟩)
                      | (have hjj := HJJ.out; rw [decide_eq_false (by omega)]; exact ⟨rfl, Below.refl _ _⟩)
                      | (have hjj := HJJ.out; rw [if_pos (by omega)]; exact ⟨rfl, Below.refl _ _⟩)
                      | (rw [IntWalk.i64_in _ (by omega)]; exact ⟨rfl, Below.refl _ _⟩)
                      | done
                case nextbPZ =>
                intro w9 hb9
                have HF := Lib.hid (fun W h => HF.out W (hb9.trans (Below.mono h hb9.size)))
                have HB9 := Lib.hid (HB8.out.trans (hb9.mono HB8.out.size))
                clear hb9
                go_wp2_with fail
                refine wp_env (fin := ?fncPZ) (by kernel_rfl) [116, 117, 118, 119, 120, 121, 122, 123, 124, 125, 126, 127, 128, 129, 130, 131, 132, 133, 134, 135, 136, 137, 138, 139]
                  [.bool false, .int .i64 j, .bool false, .bool false, .bool false, .bool false, .bool false, undef, undef, undef, undef, undef, undef, .bool false, .bool false, .bool false, .bool false, .bool true, .bool true, .agg #[.int .i64 0, .int .i64 0, .bool false, .string ⟨#[]⟩], .agg #[.int .i64 0, .int .i64 0, .bool false, .string ⟨#[]⟩], .bool false, .bool false, .bool false] (by kernel_rfl) ?fincPZ ?stepscPZ ?nextcPZ
                case fincPZ =>
                  simp only [putAll, Act.put, List.setIfInBounds_toArray, List.set_cons_succ, List.set_cons_zero]
                  rfl
                case stepscPZ =>
                  refine ⟨.inr ⟨by kernel_rfl, fun w1_ hB_ => ?_⟩, .inr ⟨by kernel_rfl, fun w1_ hB_ => ?_⟩, .inr ⟨by kernel_rfl, fun w1_ hB_ => ?_⟩, .inr ⟨by kernel_rfl, fun w1_ hB_ => ?_⟩, .inr ⟨by kernel_rfl, fun w1_ hB_ => ?_⟩, .inr ⟨by kernel_rfl, fun w1_ hB_ => ?_⟩, .inr ⟨by kernel_rfl, fun w1_ hB_ => ?_⟩, .inl ⟨by kernel_rfl, rfl⟩, .inl ⟨by kernel_rfl, rfl⟩, .inl ⟨by kernel_rfl, rfl⟩, .inl ⟨by kernel_rfl, rfl⟩, .inl ⟨by kernel_rfl, rfl⟩, .inl ⟨by kernel_rfl, rfl⟩, .inr ⟨by kernel_rfl, fun w1_ hB_ => ?_⟩, .inr ⟨by kernel_rfl, fun w1_ hB_ => ?_⟩, .inr ⟨by kernel_rfl, fun w1_ hB_ => ?_⟩, .inr ⟨by kernel_rfl, fun w1_ hB_ => ?_⟩, .inr ⟨by kernel_rfl, fun w1_ hB_ => ?_⟩, .inr ⟨by kernel_rfl, fun w1_ hB_ => ?_⟩, .inr ⟨by kernel_rfl, fun w1_ hB_ => ?_⟩, .inr ⟨by kernel_rfl, fun w1_ hB_ => ?_⟩, .inr ⟨by kernel_rfl, fun w1_ hB_ => ?_⟩, .inr ⟨by kernel_rfl, fun w1_ hB_ => ?_⟩, .inr ⟨by kernel_rfl, fun w1_ hB_ => ?_⟩, trivial⟩
                  all_goals
                    obtain ⟨⟨x0, x1, x2⟩, ⟨y0, y1, y2, y3⟩, ⟨p0, p1, p2, p3⟩, hcl⟩ := HF.out w1_ hB_
                    rw [HPE.out] at p0 p1 p2 p3
                    simp only [Loc.zero, Chg.zero] at p0 p1 p2 p3
                    clear hcl
                    go_simp
                    first
                      | exact ⟨rfl, Below.refl _ _⟩
                      | (have hjj := HJJ.out; rw [decide_eq_true (by omega)]; exact ⟨rfl, Below.refl _ _⟩)
                      | (have hjj := HJJ.out; rw [decide_eq_false (by omega)]; exact ⟨rfl, Below.refl _ _⟩)
                      | (have hjj := HJJ.out; rw [if_pos (by omega)]; exact ⟨rfl, Below.refl _ _⟩)
                      | (rw [IntWalk.i64_in _ (by omega)]; exact ⟨rfl, Below.refl _ _⟩)
                      | done
                case nextcPZ =>
                intro w10 hb10
                have HB10 := Lib.hid (HB9.out.trans (hb10.mono HB9.out.size))
                clear hb10
                go_wp2_with fail
                go_roundw
                case rel => exact ⟨k + 1, by omega, by go_num, HBR.out.trans (HB10.out.mono HBR.out.size)⟩
                case measure => first | (simp [intOf]; done) | (simp [intOf]; omega)
            · by_cases hnl : j + 1 < l.length
              · have HJJ := Lib.hid (show 0 < j ∧ j + 1 < l.length from ⟨by omega, hnl⟩)
                clear hj0
                obtain ⟨cj, hcj⟩ : ∃ cj, l[j] = cj := ⟨_, rfl⟩
                obtain ⟨x, hx⟩ : ∃ x, cj.loc = x := ⟨_, rfl⟩
                have eA : atV l z = (x, 0) := by unfold atV; rw [hn, if_neg (by omega), Nat.add_sub_cancel, getD_at hjl, hcj, hx]
                have hr1 : ((j + 1 : Nat) : Int) - 1 = (j : Nat) := by omega
                have HCJ := Lib.hid hcj
                clear hcj
                obtain ⟨y, hy⟩ : ∃ y, l[(j + 1 : Nat)]'hnl = y := ⟨_, rfl⟩
                have eN : nextV l z = (y, true) := by unfold nextV; rw [hn, if_neg (by omega), getD_at hnl, hy]
                have HCN := Lib.hid hy
                obtain ⟨p, hp⟩ : ∃ p, cj = p := ⟨_, rfl⟩
                have eP : prevV l z = (p, true) := by unfold prevV; rw [hn, if_neg (by have := HJJ.out; omega), Nat.add_sub_cancel, getD_at hjl, HCJ.out, hp]
                have HPE := Lib.hid hp
                have HXE := Lib.hid hx
                rw [hn, hr1] at HLA
                rw [eA] at HAT
                rw [eN] at HNX
                rw [eP] at HPV
                unfold locA at HAT
                unfold chgA at HNX HPV
                clear hx hy hp eA eN eP hr1 hn
                go_wp2_with fail
                refine (HLA.out _ HBW.out).mono ?_
                rintro e w1 ⟨rfl, rfl⟩
                go_wp2_with fail
                refine (HAT.out _ (HBW.out.trans (HB0_.out.mono HBW.out.size))).mono ?_
                rintro e u1 ⟨rfl, hb⟩
                have HK1 := Lib.hid (Blk.new u1 41 #[.int .i64 x.off, .bool x.dst, .string x.abbr])
                have HB1_ := Lib.hid (HB0_.out.trans ((hb.alloc hb.size (.cells #[.int .i64 x.off, .bool x.dst, .string x.abbr] 41)).mono HB0_.out.size))
                obtain ⟨V1, hV1⟩ : ∃ W, u1.alloc (.cells #[.int .i64 x.off, .bool x.dst, .string x.abbr] 41) = W := ⟨_, rfl⟩
                have hl1 : u1.heap.size < V1.heap.size := by rw [← hV1]; simp
                rw [hV1] at HK1 HB1_
                have z1 := HZ.out _ HB1_.out
                clear hb
                go_wp2_with fail
                clear hV1
                refine (HNX.out _ (HBW.out.trans (HB1_.out.mono HBW.out.size))).mono ?_
                rintro e u2 ⟨rfl, hb⟩
                have HK2 := Lib.hid (Blk.new u2 90 #[.int .i64 y.at_, .int .i64 y.loc.off, .bool y.loc.dst, .string y.loc.abbr])
                have HB2_ := Lib.hid (HB1_.out.trans ((hb.alloc hb.size (.cells #[.int .i64 y.at_, .int .i64 y.loc.off, .bool y.loc.dst, .string y.loc.abbr] 90)).mono HB1_.out.size))
                have HK1 := Lib.hid (HK1.out.below (hb.alloc hb.size (.cells #[.int .i64 y.at_, .int .i64 y.loc.off, .bool y.loc.dst, .string y.loc.abbr] 90)) HK1.out.lt)
                obtain ⟨V2, hV2⟩ : ∃ W, u2.alloc (.cells #[.int .i64 y.at_, .int .i64 y.loc.off, .bool y.loc.dst, .string y.loc.abbr] 90) = W := ⟨_, rfl⟩
                have hl2 : u2.heap.size < V2.heap.size := by rw [← hV2]; simp
                rw [hV2] at HK1 HK2 HB2_
                have z2 := HZ.out _ HB2_.out
                clear hb
                go_wp2_with fail
                clear hV2
                refine (HPV.out _ (HBW.out.trans (HB2_.out.mono HBW.out.size))).mono ?_
                rintro e u3 ⟨rfl, hb⟩
                have HK3 := Lib.hid (Blk.new u3 90 #[.int .i64 p.at_, .int .i64 p.loc.off, .bool p.loc.dst, .string p.loc.abbr])
                have HB3_ := Lib.hid (HB2_.out.trans ((hb.alloc hb.size (.cells #[.int .i64 p.at_, .int .i64 p.loc.off, .bool p.loc.dst, .string p.loc.abbr] 90)).mono HB2_.out.size))
                have HK1 := Lib.hid (HK1.out.below (hb.alloc hb.size (.cells #[.int .i64 p.at_, .int .i64 p.loc.off, .bool p.loc.dst, .string p.loc.abbr] 90)) HK1.out.lt)
                have HK2 := Lib.hid (HK2.out.below (hb.alloc hb.size (.cells #[.int .i64 p.at_, .int .i64 p.loc.off, .bool p.loc.dst, .string p.loc.abbr] 90)) HK2.out.lt)
                obtain ⟨V3, hV3⟩ : ∃ W, u3.alloc (.cells #[.int .i64 p.at_, .int .i64 p.loc.off, .bool p.loc.dst, .string p.loc.abbr] 90) = W := ⟨_, rfl⟩
                have hl3 : u3.heap.size < V3.heap.size := by rw [← hV3]; simp
                rw [hV3] at HK1 HK2 HK3 HB3_
                have z3 := HZ.out _ HB3_.out
                clear hb
                go_wp2_with fail
                clear hV3
                have HF := Lib.hid (fun (W : World) (h : Below V3.heap.size V3 W) => show LocC W u1.heap.size x ∧ ChgC W u2.heap.size y ∧ ChgC W u3.heap.size p ∧ _ from ⟨LocB.cells (HK1.out.below h HK1.out.lt), ChgB.cells (HK2.out.below h HK2.out.lt), ChgB.cells (HK3.out.below h HK3.out.lt), fun (j : Nat) (hj : j < l.length) => HC.out j hj W (HB3_.out.trans (h.mono HB3_.out.size))⟩)
                clear z1 z2 z3
                refine wp_env (fin := ?fnaQY) (by kernel_rfl) [60, 61, 62, 63, 64, 65, 66, 67, 68, 69, 70, 71, 72, 73, 74, 75, 76, 77, 78, 79, 80, 81, 82, 83, 84, 85, 86, 87]
                  [.int .i64 j, .bool false, .bool false, undef, undef, undef, undef, undef, undef, undef, .bool false, .bool false, .int .i64 j, .bool true, .bool true, locA x, .slice (some ⟨b, o, none⟩) l.length c, .int .i64 j, .pointer (some ⟨b, o + j * 4, none⟩), .pointer (some ⟨b, o + j * 4 + 1, none⟩), locA x, .bool false, .bool false, .int .i64 0, .bool false, .bool false, .bool false, .bool false] (by kernel_rfl) ?finaQY ?stepsaQY ?nextaQY
                case finaQY =>
                  simp only [putAll, Act.put, List.setIfInBounds_toArray, List.set_cons_succ, List.set_cons_zero]
                  rfl
                case stepsaQY =>
                  unfold locA
                  refine ⟨.inr ⟨by kernel_rfl, fun w1_ hB_ => ?_⟩, .inr ⟨by kernel_rfl, fun w1_ hB_ => ?_⟩, .inr ⟨by kernel_rfl, fun w1_ hB_ => ?_⟩, .inl ⟨by kernel_rfl, rfl⟩, .inl ⟨by kernel_rfl, rfl⟩, .inl ⟨by kernel_rfl, rfl⟩, .inl ⟨by kernel_rfl, rfl⟩, .inl ⟨by kernel_rfl, rfl⟩, .inl ⟨by kernel_rfl, rfl⟩, .inl ⟨by kernel_rfl, rfl⟩, .inr ⟨by kernel_rfl, fun w1_ hB_ => ?_⟩, .inr ⟨by kernel_rfl, fun w1_ hB_ => ?_⟩, .inr ⟨by kernel_rfl, fun w1_ hB_ => ?_⟩, .inr ⟨by kernel_rfl, fun w1_ hB_ => ?_⟩, .inr ⟨by kernel_rfl, fun w1_ hB_ => ?_⟩, .inr ⟨by kernel_rfl, fun w1_ hB_ => ?_⟩, .inr ⟨by kernel_rfl, fun w1_ hB_ => ?_⟩, .inr ⟨by kernel_rfl, fun w1_ hB_ => ?_⟩, .inr ⟨by kernel_rfl, fun w1_ hB_ => ?_⟩, .inr ⟨by kernel_rfl, fun w1_ hB_ => ?_⟩, .inr ⟨by kernel_rfl, fun w1_ hB_ => ?_⟩, .inr ⟨by kernel_rfl, fun w1_ hB_ => ?_⟩, .inr ⟨by kernel_rfl, fun w1_ hB_ => ?_⟩, .inr ⟨by kernel_rfl, fun w1_ hB_ => ?_⟩, .inr ⟨by kernel_rfl, fun w1_ hB_ => ?_⟩, .inr ⟨by kernel_rfl, fun w1_ hB_ => ?_⟩, .inr ⟨by kernel_rfl, fun w1_ hB_ => ?_⟩, .inr ⟨by kernel_rfl, fun w1_ hB_ => ?_⟩, trivial⟩
                  all_goals
                    obtain ⟨⟨x0, x1, x2⟩, ⟨y0, y1, y2, y3⟩, ⟨p0, p1, p2, p3⟩, hcl⟩ := HF.out w1_ hB_
                    obtain ⟨c0, c1, c2_, c3⟩ := hcl j hjl
                    rw [HCJ.out] at c0 c1 c2_ c3
                    rw [HXE.out] at c1 c2_ c3
                    clear hcl
                    go_simp
                    first
                      | exact ⟨rfl, Below.refl _ _⟩
                      | (have hjj := HJJ.out; rw [decide_eq_true (by omega)]; exact ⟨rfl, Below.refl _ _⟩)
                      | (have hjj := HJJ.out; rw [decide_eq_false (by omega)]; exact ⟨rfl, Below.refl _ _⟩)
                      | (have hjj := HJJ.out; rw [if_pos (by omega)]; exact ⟨rfl, Below.refl _ _⟩)
                      | (rw [IntWalk.i64_in _ (by omega)]; exact ⟨rfl, Below.refl _ _⟩)
                      | done
                case nextaQY =>
                intro w8 hb8
                have HF := Lib.hid (fun W h => HF.out W (hb8.trans (Below.mono h hb8.size)))
                have HB8 := Lib.hid (HB3_.out.trans (hb8.mono HB3_.out.size))
                clear hb8
                go_wp2_with fail
                refine wp_env (fin := ?fnbQY) (by kernel_rfl) [88, 89, 90, 91, 92, 93, 94, 95, 96, 97, 98, 99, 100, 101, 102, 103, 104, 105, 106, 107, 108, 109, 110, 111, 112, 113, 114, 115]
                  [.bool true, .int .i64 j, .int .i64 (j + 1), .slice (some ⟨b, o, none⟩) l.length c, .int .i64 l.length, .bool true, .bool false, .bool false, .bool true, .bool true, chgA y, .slice (some ⟨b, o, none⟩) l.length c, .int .i64 j, .int .i64 (j + 1), .pointer (some ⟨b, o + (j + 1) * 4, none⟩), chgA y, .bool false, .bool false, .bool false, .bool false, .bool true, .bool false, .bool false, undef, undef, undef, .bool false, .bool false] (by kernel_rfl) ?finbQY ?stepsbQY ?nextbQY
                case finbQY =>
                  simp only [putAll, Act.put, List.setIfInBounds_toArray, List.set_cons_succ, List.set_cons_zero]
                  rfl
                case stepsbQY =>
                  unfold chgA
                  refine ⟨.inr ⟨by kernel_rfl, fun w1_ hB_ => ?_⟩, .inr ⟨by kernel_rfl, fun w1_ hB_ => ?_⟩, .inr ⟨by kernel_rfl, fun w1_ hB_ => ?_⟩, .inr ⟨by kernel_rfl, fun w1_ hB_ => ?_⟩, .inr ⟨by kernel_rfl, fun w1_ hB_ => ?_⟩, .inr ⟨by kernel_rfl, fun w1_ hB_ => ?_⟩, .inr ⟨by kernel_rfl, fun w1_ hB_ => ?_⟩, .inr ⟨by kernel_rfl, fun w1_ hB_ => ?_⟩, .inr ⟨by kernel_rfl, fun w1_ hB_ => ?_⟩, .inr ⟨by kernel_rfl, fun w1_ hB_ => ?_⟩, .inr ⟨by kernel_rfl, fun w1_ hB_ => ?_⟩, .inr ⟨by kernel_rfl, fun w1_ hB_ => ?_⟩, .inr ⟨by kernel_rfl, fun w1_ hB_ => ?_⟩, .inr ⟨by kernel_rfl, fun w1_ hB_ => ?_⟩, .inr ⟨by kernel_rfl, fun w1_ hB_ => ?_⟩, .inr ⟨by kernel_rfl, fun w1_ hB_ => ?_⟩, .inr ⟨by kernel_rfl, fun w1_ hB_ => ?_⟩, .inr ⟨by kernel_rfl, fun w1_ hB_ => ?_⟩, .inr ⟨by kernel_rfl, fun w1_ hB_ => ?_⟩, .inr ⟨by kernel_rfl, fun w1_ hB_ => ?_⟩, .inr ⟨by kernel_rfl, fun w1_ hB_ => ?_⟩, .inr ⟨by kernel_rfl, fun w1_ hB_ => ?_⟩, .inr ⟨by kernel_rfl, fun w1_ hB_ => ?_⟩, .inl ⟨by kernel_rfl, rfl⟩, .inl ⟨by kernel_rfl, rfl⟩, .inl ⟨by kernel_rfl, rfl⟩, .inr ⟨by kernel_rfl, fun w1_ hB_ => ?_⟩, .inr ⟨by kernel_rfl, fun w1_ hB_ => ?_⟩, trivial⟩
                  all_goals
                    obtain ⟨⟨x0, x1, x2⟩, ⟨y0, y1, y2, y3⟩, ⟨p0, p1, p2, p3⟩, hcl⟩ := HF.out w1_ hB_
                    obtain ⟨c0, c1, c2_, c3⟩ := hcl (j + 1) hnl
                    rw [HCN.out] at c0 c1 c2_ c3
                    clear hcl
                    go_simp
                    first
                      | exact ⟨rfl, Below.refl _ _⟩
                      | (have hjj := HJJ.out; rw [decide_eq_true (by omega)]; exact ⟨rfl, Below.refl _ _⟩)
                      | (have hjj := HJJ.out; rw [decide_eq_false (by omega)]; exact ⟨rfl, Below.refl _ _⟩)
                      | (have hjj := HJJ.out; rw [if_pos (by omega)]; exact ⟨rfl, Below.refl _ _⟩)
                      | (rw [IntWalk.i64_in _ (by omega)]; exact ⟨rfl, Below.refl _ _⟩)
                      | done
                case nextbQY =>
                intro w9 hb9
                have HF := Lib.hid (fun W h => HF.out W (hb9.trans (Below.mono h hb9.size)))
                have HB9 := Lib.hid (HB8.out.trans (hb9.mono HB8.out.size))
                clear hb9
                go_wp2_with fail
                refine wp_env (fin := ?fncQY) (by kernel_rfl) [116, 117, 118, 119, 120, 121, 122, 123, 124, 125, 126, 127, 128, 129, 130, 131, 132, 133, 134, 135, 136, 137, 138, 139]
                  [.bool true, .int .i64 j, .bool true, .bool false, .bool false, .bool true, .bool true, chgA p, .slice (some ⟨b, o, none⟩) l.length c, .int .i64 j, .pointer (some ⟨b, o + j * 4, none⟩), chgA p, .bool false, .bool false, .bool false, .bool false, .bool true, .bool false, .bool false, undef, undef, undef, .bool false, .bool false] (by kernel_rfl) ?fincQY ?stepscQY ?nextcQY
                case fincQY =>
                  simp only [putAll, Act.put, List.setIfInBounds_toArray, List.set_cons_succ, List.set_cons_zero]
                  rfl
                case stepscQY =>
                  unfold chgA
                  refine ⟨.inr ⟨by kernel_rfl, fun w1_ hB_ => ?_⟩, .inr ⟨by kernel_rfl, fun w1_ hB_ => ?_⟩, .inr ⟨by kernel_rfl, fun w1_ hB_ => ?_⟩, .inr ⟨by kernel_rfl, fun w1_ hB_ => ?_⟩, .inr ⟨by kernel_rfl, fun w1_ hB_ => ?_⟩, .inr ⟨by kernel_rfl, fun w1_ hB_ => ?_⟩, .inr ⟨by kernel_rfl, fun w1_ hB_ => ?_⟩, .inr ⟨by kernel_rfl, fun w1_ hB_ => ?_⟩, .inr ⟨by kernel_rfl, fun w1_ hB_ => ?_⟩, .inr ⟨by kernel_rfl, fun w1_ hB_ => ?_⟩, .inr ⟨by kernel_rfl, fun w1_ hB_ => ?_⟩, .inr ⟨by kernel_rfl, fun w1_ hB_ => ?_⟩, .inr ⟨by kernel_rfl, fun w1_ hB_ => ?_⟩, .inr ⟨by kernel_rfl, fun w1_ hB_ => ?_⟩, .inr ⟨by kernel_rfl, fun w1_ hB_ => ?_⟩, .inr ⟨by kernel_rfl, fun w1_ hB_ => ?_⟩, .inr ⟨by kernel_rfl, fun w1_ hB_ => ?_⟩, .inr ⟨by kernel_rfl, fun w1_ hB_ => ?_⟩, .inr ⟨by kernel_rfl, fun w1_ hB_ => ?_⟩, .inl ⟨by kernel_rfl, rfl⟩, .inl ⟨by kernel_rfl, rfl⟩, .inl ⟨by kernel_rfl, rfl⟩, .inr ⟨by kernel_rfl, fun w1_ hB_ => ?_⟩, .inr ⟨by kernel_rfl, fun w1_ hB_ => ?_⟩, trivial⟩
                  all_goals
                    obtain ⟨⟨x0, x1, x2⟩, ⟨y0, y1, y2, y3⟩, ⟨p0, p1, p2, p3⟩, hcl⟩ := HF.out w1_ hB_
                    obtain ⟨c0, c1, c2_, c3⟩ := hcl j hjl
                    rw [HCJ.out, HPE.out] at c0 c1 c2_ c3
                    clear hcl
                    go_simp
                    first
                      | exact ⟨rfl, Below.refl _ _⟩
                      | (have hjj := HJJ.out; rw [decide_eq_true (by omega)]; exact ⟨rfl, Below.refl _ _⟩)
                      | (have hjj := HJJ.out; rw [decide_eq_false (by omega)]; exact ⟨rfl, Below.refl _ _⟩)
                      | (have hjj := HJJ.out; rw [if_pos (by omega)]; exact ⟨rfl, Below.refl _ _⟩)
                      | (rw [IntWalk.i64_in _ (by omega)]; exact ⟨rfl, Below.refl _ _⟩)
                      | done
                case nextcQY =>
                intro w10 hb10
                have HB10 := Lib.hid (HB9.out.trans (hb10.mono HB9.out.size))
                clear hb10
                go_wp2_with fail
                go_roundw
                case rel => exact ⟨k + 1, by omega, by go_num, HBR.out.trans (HB10.out.mono HBR.out.size)⟩
                case measure => first | (simp [intOf]; done) | (simp [intOf]; omega)
              · have HJJ := Lib.hid (show 0 < j ∧ j + 1 = l.length from ⟨by omega, by omega⟩)
                clear hj0
                obtain ⟨cj, hcj⟩ : ∃ cj, l[j] = cj := ⟨_, rfl⟩
                obtain ⟨x, hx⟩ : ∃ x, cj.loc = x := ⟨_, rfl⟩
                have eA : atV l z = (x, 0) := by unfold atV; rw [hn, if_neg (by omega), Nat.add_sub_cancel, getD_at hjl, hcj, hx]
                have hr1 : ((j + 1 : Nat) : Int) - 1 = (j : Nat) := by omega
                have HCJ := Lib.hid hcj
                clear hcj
                obtain ⟨y, hy⟩ : ∃ y, Chg.zero = y := ⟨_, rfl⟩
                have eN : nextV l z = (y, false) := by unfold nextV; rw [hn, if_pos (by omega), hy]
                have HYE := Lib.hid hy.symm
                obtain ⟨p, hp⟩ : ∃ p, cj = p := ⟨_, rfl⟩
                have eP : prevV l z = (p, true) := by unfold prevV; rw [hn, if_neg (by have := HJJ.out; omega), Nat.add_sub_cancel, getD_at hjl, HCJ.out, hp]
                have HPE := Lib.hid hp
                have HXE := Lib.hid hx
                rw [hn, hr1] at HLA
                rw [eA] at HAT
                rw [eN] at HNX
                rw [eP] at HPV
                unfold locA at HAT
                unfold chgA at HNX HPV
                clear hx hy hp eA eN eP hr1 hn
                go_wp2_with fail
                refine (HLA.out _ HBW.out).mono ?_
                rintro e w1 ⟨rfl, rfl⟩
                go_wp2_with fail
                refine (HAT.out _ (HBW.out.trans (HB0_.out.mono HBW.out.size))).mono ?_
                rintro e u1 ⟨rfl, hb⟩
                have HK1 := Lib.hid (Blk.new u1 41 #[.int .i64 x.off, .bool x.dst, .string x.abbr])
                have HB1_ := Lib.hid (HB0_.out.trans ((hb.alloc hb.size (.cells #[.int .i64 x.off, .bool x.dst, .string x.abbr] 41)).mono HB0_.out.size))
                obtain ⟨V1, hV1⟩ : ∃ W, u1.alloc (.cells #[.int .i64 x.off, .bool x.dst, .string x.abbr] 41) = W := ⟨_, rfl⟩
                have hl1 : u1.heap.size < V1.heap.size := by rw [← hV1]; simp
                rw [hV1] at HK1 HB1_
                have z1 := HZ.out _ HB1_.out
                clear hb
                go_wp2_with fail
                clear hV1
                refine (HNX.out _ (HBW.out.trans (HB1_.out.mono HBW.out.size))).mono ?_
                rintro e u2 ⟨rfl, hb⟩
                have HK2 := Lib.hid (Blk.new u2 90 #[.int .i64 y.at_, .int .i64 y.loc.off, .bool y.loc.dst, .string y.loc.abbr])
                have HB2_ := Lib.hid (HB1_.out.trans ((hb.alloc hb.size (.cells #[.int .i64 y.at_, .int .i64 y.loc.off, .bool y.loc.dst, .string y.loc.abbr] 90)).mono HB1_.out.size))
                have HK1 := Lib.hid (HK1.out.below (hb.alloc hb.size (.cells #[.int .i64 y.at_, .int .i64 y.loc.off, .bool y.loc.dst, .string y.loc.abbr] 90)) HK1.out.lt)
                obtain ⟨V2, hV2⟩ : ∃ W, u2.alloc (.cells #[.int .i64 y.at_, .int .i64 y.loc.off, .bool y.loc.dst, .string y.loc.abbr] 90) = W := ⟨_, rfl⟩
                have hl2 : u2.heap.size < V2.heap.size := by rw [← hV2]; simp
                rw [hV2] at HK1 HK2 HB2_
                have z2 := HZ.out _ HB2_.out
                clear hb
                go_wp2_with fail
                clear hV2
                refine (HPV.out _ (HBW.out.trans (HB2_.out.mono HBW.out.size))).mono ?_
                rintro e u3 ⟨rfl, hb⟩
                have HK3 := Lib.hid (Blk.new u3 90 #[.int .i64 p.at_, .int .i64 p.loc.off, .bool p.loc.dst, .string p.loc.abbr])
                have HB3_ := Lib.hid (HB2_.out.trans ((hb.alloc hb.size (.cells #[.int .i64 p.at_, .int .i64 p.loc.off, .bool p.loc.dst, .string p.loc.abbr] 90)).mono HB2_.out.size))
                have HK1 := Lib.hid (HK1.out.below (hb.alloc hb.size (.cells #[.int .i64 p.at_, .int .i64 p.loc.off, .bool p.loc.dst, .string p.loc.abbr] 90)) HK1.out.lt)
                have HK2 := Lib.hid (HK2.out.below (hb.alloc hb.size (.cells #[.int .i64 p.at_, .int .i64 p.loc.off, .bool p.loc.dst, .string p.loc.abbr] 90)) HK2.out.lt)
                obtain ⟨V3, hV3⟩ : ∃ W, u3.alloc (.cells #[.int .i64 p.at_, .int .i64 p.loc.off, .bool p.loc.dst, .string p.loc.abbr] 90) = W := ⟨_, rfl⟩
                have hl3 : u3.heap.size < V3.heap.size := by rw [← hV3]; simp
                rw [hV3] at HK1 HK2 HK3 HB3_
                have z3 := HZ.out _ HB3_.out
                clear hb
                go_wp2_with fail
                clear hV3
                have HF := Lib.hid (fun (W : World) (h : Below V3.heap.size V3 W) => show LocC W u1.heap.size x ∧ ChgC W u2.heap.size y ∧ ChgC W u3.heap.size p ∧ _ from ⟨LocB.cells (HK1.out.below h HK1.out.lt), ChgB.cells (HK2.out.below h HK2.out.lt), ChgB.cells (HK3.out.below h HK3.out.lt), fun (j : Nat) (hj : j < l.length) => HC.out j hj W (HB3_.out.trans (h.mono HB3_.out.size))⟩)
                clear z1 z2 z3
                refine wp_env (fin := ?fnaQZ) (by kernel_rfl) [60, 61, 62, 63, 64, 65, 66, 67, 68, 69, 70, 71, 72, 73, 74, 75, 76, 77, 78, 79, 80, 81, 82, 83, 84, 85, 86, 87]
                  [.int .i64 j, .bool false, .bool false, undef, undef, undef, undef, undef, undef, undef, .bool false, .bool false, .int .i64 j, .bool true, .bool true, locA x, .slice (some ⟨b, o, none⟩) l.length c, .int .i64 j, .pointer (some ⟨b, o + j * 4, none⟩), .pointer (some ⟨b, o + j * 4 + 1, none⟩), locA x, .bool false, .bool false, .int .i64 0, .bool false, .bool false, .bool false, .bool false] (by kernel_rfl) ?finaQZ ?stepsaQZ ?nextaQZ
                case finaQZ =>
                  simp only [putAll, Act.put, List.setIfInBounds_toArray, List.set_cons_succ, List.set_cons_zero]
                  rfl
                case stepsaQZ =>
                  unfold locA
                  refine ⟨.inr ⟨by kernel_rfl, fun w1_ hB_ => ?_⟩, .inr ⟨by kernel_rfl, fun w1_ hB_ => ?_⟩, .inr ⟨by kernel_rfl, fun w1_ hB_ => ?_⟩, .inl ⟨by kernel_rfl, rfl⟩, .inl ⟨by kernel_rfl, rfl⟩, .inl ⟨by kernel_rfl, rfl⟩, .inl ⟨by kernel_rfl, rfl⟩, .inl ⟨by kernel_rfl, rfl⟩, .inl ⟨by kernel_rfl, rfl⟩, .inl ⟨by kernel_rfl, rfl⟩, .inr ⟨by kernel_rfl, fun w1_ hB_ => ?_⟩, .inr ⟨by kernel_rfl, fun w1_ hB_ => ?_⟩, .inr ⟨by kernel_rfl, fun w1_ hB_ => ?_⟩, .inr ⟨by kernel_rfl, fun w1_ hB_ => ?_⟩, .inr ⟨by kernel_rfl, fun w1_ hB_ => ?_⟩, .inr ⟨by kernel_rfl, fun w1_ hB_ => ?_⟩, .inr ⟨by kernel_rfl, fun w1_ hB_ => ?_⟩, .inr ⟨by kernel_rfl, fun w1_ hB_ => ?_⟩, .inr ⟨by kernel_rfl, fun w1_ hB_ => ?_⟩, .inr ⟨by kernel_rfl, fun w1_ hB_ => ?_⟩, .inr ⟨by kernel_rfl, fun w1_ hB_ => ?_⟩, .inr ⟨by kernel_rfl, fun w1_ hB_ => ?_⟩, .inr ⟨by kernel_rfl, fun w1_ hB_ => ?_⟩, .inr ⟨by kernel_rfl, fun w1_ hB_ => ?_⟩, .inr ⟨by kernel_rfl, fun w1_ hB_ => ?_⟩, .inr ⟨by kernel_rfl, fun w1_ hB_ => ?_⟩, .inr ⟨by kernel_rfl, fun w1_ hB_ => ?_⟩, .inr ⟨by kernel_rfl, fun w1_ hB_ => ?_⟩, trivial⟩
                  all_goals
                    obtain ⟨⟨x0, x1, x2⟩, ⟨y0, y1, y2, y3⟩, ⟨p0, p1, p2, p3⟩, hcl⟩ := HF.out w1_ hB_
                    obtain ⟨c0, c1, c2_, c3⟩ := hcl j hjl
                    rw [HCJ.out] at c0 c1 c2_ c3
                    rw [HXE.out] at c1 c2_ c3
                    clear hcl
                    go_simp
                    first
                      | exact ⟨rfl, Below.refl _ _⟩
                      | (have hjj := HJJ.out; rw [decide_eq_true (by omega)]; exact ⟨rfl, Below.refl _ _⟩)
                      | (have hjj := HJJ.out; rw [decide_eq_false (by omega)]; exact ⟨rfl, Below.refl _ _⟩)
                      | (have hjj := HJJ.out; rw [if_pos (by omega)]; exact ⟨rfl, Below.refl _ _⟩)
                      | (rw [IntWalk.i64_in _ (by omega)]; exact ⟨rfl, Below.refl _ _⟩)
                      | done
                case nextaQZ =>
                intro w8 hb8
                have HF := Lib.hid (fun W h => HF.out W (hb8.trans (Below.mono h hb8.size)))
                have HB8 := Lib.hid (HB3_.out.trans (hb8.mono HB3_.out.size))
                clear hb8
                go_wp2_with fail
                refine wp_env (fin := ?fnbQZ) (by kernel_rfl) [88, 89, 90, 91, 92, 93, 94, 95, 96, 97, 98, 99, 100, 101, 102, 103, 104, 105, 106, 107, 108, 109, 110, 111, 112, 113, 114, 115]
                  [.bool false, .int .i64 j, .int .i64 (j + 1), .slice (some ⟨b, o, none⟩) l.length c, .int .i64 l.length, .bool false, .bool false, .bool false, .bool false, .bool false, undef, undef, undef, undef, undef, undef, undef, .bool false, .bool false, .bool false, .bool false, .bool true, .bool true, .agg #[.int .i64 0, .int .i64 0, .bool false, .string ⟨#[]⟩], .agg #[.int .i64 0, .int .i64 0, .bool false, .string ⟨#[]⟩], .bool false, .bool false, .bool false] (by kernel_rfl) ?finbQZ ?stepsbQZ ?nextbQZ
                case finbQZ =>
                  simp only [putAll, Act.put, List.setIfInBounds_toArray, List.set_cons_succ, List.set_cons_zero]
                  rfl
                case stepsbQZ =>
                  refine ⟨.inr ⟨by kernel_rfl, fun w1_ hB_ => ?_⟩, .inr ⟨by kernel_rfl, fun w1_ hB_ => ?_⟩, .inr ⟨by kernel_rfl, fun w1_ hB_ => ?_⟩, .inr ⟨by kernel_rfl, fun w1_ hB_ => ?_⟩, .inr ⟨by kernel_rfl, fun w1_ hB_ => ?_⟩, .inr ⟨by kernel_rfl, fun w1_ hB_ => ?_⟩, .inr ⟨by kernel_rfl, fun w1_ hB_ => ?_⟩, .inr ⟨by kernel_rfl, fun w1_ hB_ => ?_⟩, .inr ⟨by kernel_rfl, fun w1_ hB_ => ?_⟩, .inr ⟨by kernel_rfl, fun w1_ hB_ => ?_⟩, .inl ⟨by kernel_rfl, rfl⟩, .inl ⟨by kernel_rfl, rfl⟩, .inl ⟨by kernel_rfl, rfl⟩, .inl ⟨by kernel_rfl, rfl⟩, .inl ⟨by kernel_rfl, rfl⟩, .inl ⟨by kernel_rfl, rfl⟩, .inl ⟨by kernel_rfl, rfl⟩, .inr ⟨by kernel_rfl, fun w1_ hB_ => ?_⟩, .inr ⟨by kernel_rfl, fun w1_ hB_ => ?_⟩, .inr ⟨by kernel_rfl, fun w1_ hB_ => ?_⟩, .inr ⟨by kernel_rfl, fun w1_ hB_ => ?_⟩, .inr ⟨by kernel_rfl, fun w1_ hB_ => ?_⟩, .inr ⟨by kernel_rfl, fun w1_ hB_ => ?_⟩, .inr ⟨by kernel_rfl, fun w1_ hB_ => ?_⟩, .inr ⟨by kernel_rfl, fun w1_ hB_ => ?_⟩, .inr ⟨by kernel_rfl, fun w1_ hB_ => ?_⟩, .inr ⟨by kernel_rfl, fun w1_ hB_ => ?_⟩, .inr ⟨by kernel_rfl, fun w1_ hB_ => ?_⟩, trivial⟩
                  all_goals
                    obtain ⟨⟨x0, x1, x2⟩, ⟨y0, y1, y2, y3⟩, ⟨p0, p1, p2, p3⟩, hcl⟩ := HF.out w1_ hB_
                    rw [HYE.out] at y0 y1 y2 y3
                    simp only [Loc.zero, Chg.zero] at y0 y1 y2 y3
                    clear hcl
                    go_simp
                    first
                      | exact ⟨rfl, Below.refl _ _⟩
                      | (have hjj := HJJ.out; rw [decide_eq_true (by omega)]; exact ⟨rfl, Below.refl _ _⟩)
                      | (have hjj := HJJ.out; rw [decide_eq_false (by omega)]; exact ⟨rfl, Below.refl _ _⟩)
                      | (have hjj := HJJ.out; rw [if_pos (by omega)]; exact ⟨rfl, Below.refl _ _⟩)
                      | (rw [IntWalk.i64_in _ (by omega)]; exact ⟨rfl, Below.refl _ _⟩)
                      | done
                case nextbQZ =>
                intro w9 hb9
                have HF := Lib.hid (fun W h => HF.out W (hb9.trans (Below.mono h hb9.size)))
                have HB9 := Lib.hid (HB8.out.trans (hb9.mono HB8.out.size))
                clear hb9
                go_wp2_with fail
                refine wp_env (fin := ?fncQZ) (by kernel_rfl) [116, 117, 118, 119, 120, 121, 122, 123, 124, 125, 126, 127, 128, 129, 130, 131, 132, 133, 134, 135, 136, 137, 138, 139]
                  [.bool true, .int .i64 j, .bool true, .bool false, .bool false, .bool true, .bool true, chgA p, .slice (some ⟨b, o, none⟩) l.length c, .int .i64 j, .pointer (some ⟨b, o + j * 4, none⟩), chgA p, .bool false, .bool false, .bool false, .bool false, .bool true, .bool false, .bool false, undef, undef, undef, .bool false, .bool false] (by kernel_rfl) ?fincQZ ?stepscQZ ?nextcQZ
                case fincQZ =>
                  simp only [putAll, Act.put, List.setIfInBounds_toArray, List.set_cons_succ, List.set_cons_zero]
                  rfl
                case stepscQZ =>
                  unfold chgA
                  refine ⟨.inr ⟨by kernel_rfl, fun w1_ hB_ => ?_⟩, .inr ⟨by kernel_rfl, fun w1_ hB_ => ?_⟩, .inr ⟨by kernel_rfl, fun w1_ hB_ => ?_⟩, .inr ⟨by kernel_rfl, fun w1_ hB_ => ?_⟩, .inr ⟨by kernel_rfl, fun w1_ hB_ => ?_⟩, .inr ⟨by kernel_rfl, fun w1_ hB_ => ?_⟩, .inr ⟨by kernel_rfl, fun w1_ hB_ => ?_⟩, .inr ⟨by kernel_rfl, fun w1_ hB_ => ?_⟩, .inr ⟨by kernel_rfl, fun w1_ hB_ => ?_⟩, .inr ⟨by kernel_rfl, fun w1_ hB_ => ?_⟩, .inr ⟨by kernel_rfl, fun w1_ hB_ => ?_⟩, .inr ⟨by kernel_rfl, fun w1_ hB_ => ?_⟩, .inr ⟨by kernel_rfl, fun w1_ hB_ => ?_⟩, .inr ⟨by kernel_rfl, fun w1_ hB_ => ?_⟩, .inr ⟨by kernel_rfl, fun w1_ hB_ => ?_⟩, .inr ⟨by kernel_rfl, fun w1_ hB_ => ?_⟩, .inr ⟨by kernel_rfl, fun w1_ hB_ => ?_⟩, .inr ⟨by kernel_rfl, fun w1_ hB_ => ?_⟩, .inr ⟨by kernel_rfl, fun w1_ hB_ => ?_⟩, .inl ⟨by kernel_rfl, rfl⟩, .inl ⟨by kernel_rfl, rfl⟩, .inl ⟨by kernel_rfl, rfl⟩, .inr ⟨by kernel_rfl, fun w1_ hB_ => ?_⟩, .inr ⟨by kernel_rfl, fun w1_ hB_ => ?_⟩, trivial⟩
                  all_goals
                    obtain ⟨⟨x0, x1, x2⟩, ⟨y0, y1, y2, y3⟩, ⟨p0, p1, p2, p3⟩, hcl⟩ := HF.out w1_ hB_
                    obtain ⟨c0, c1, c2_, c3⟩ := hcl j hjl
                    rw [HCJ.out, HPE.out] at c0 c1 c2_ c3
                    clear hcl
                    go_simp
                    first
                      | exact ⟨rfl, Below.refl _ _⟩
                      | (have hjj := HJJ.out; rw [decide_eq_true (by omega)]; exact ⟨rfl, Below.refl _ _⟩)
                      | (have hjj := HJJ.out; rw [decide_eq_false (by omega)]; exact ⟨rfl, Below.refl _ _⟩)
                      | (have hjj := HJJ.out; rw [if_pos (by omega)]; exact ⟨rfl, Below.refl _ _⟩)
                      | (rw [IntWalk.i64_in _ (by omega)]; exact ⟨rfl, Below.refl _ _⟩)
                      | done
                case nextcQZ =>
                intro w10 hb10
                have HB10 := Lib.hid (HB9.out.trans (hb10.mono HB9.out.size))
                clear hb10
                go_wp2_with fail
                go_roundw
                case rel => exact ⟨k + 1, by omega, by go_num, HBR.out.trans (HB10.out.mono HBR.out.size)⟩
                case measure => first | (simp [intOf]; done) | (simp [intOf]; omega)
        · obtain rfl : k = 2 := by omega
          have q0 := HQR.out.cell 0 (v := .int .i64 a) rfl
          have HLA := Lib.hid (last_any wr w.heap.size _ l a (HV.out.below HBW.out) hris)
          have hle := bh_le l a
          obtain ⟨n, hn⟩ : ∃ n, bh l a = n := ⟨_, rfl⟩
          rw [hn] at HLA hle
          have HN := Lib.hid hn
          clear hn
          go_wp2_with fail
          refine HLA.out.mono ?_
          rintro e w2 ⟨rfl, rfl⟩
          rename World => V0
          rcases n with _ | j
          · have HW0 := Lib.hid (show wantH l a = [] by unfold wantH; rw [if_pos HN.out])
            rw [show ((0 : Nat) : Int) - 1 = -1 from rfl]
            go_wp2_with fail
            go_wp2_with fail
            go_loopw [14, 16] (fun u iv W => ∃ k : Nat, k ≤ l.length ∧ iv = .int .i64 k ∧ W.ownsRow V0.heap.size 90 4 u (wantL l a b0 k).length (chgsV (wantL l a b0 k)) ∧ Below V0.heap.size V0 W) (fun _ iv _ => l.length - (intOf iv).toNat)
            case atStart => exact ⟨0, Nat.zero_le _, rfl, by rw [want_zero]; rw [HW0.out]; exact World.ownsRow_nil _ _ _ _, Below.refl _ _⟩
            case round =>
              obtain ⟨k, hk, rfl, hown, hbw⟩ := hrel
              have HOW := Lib.hid hown
              have HBC := Lib.hid hbw
              have hws := hbw.size
              have HQC := Lib.hid (HQR.out.below hbw HQR.out.lt)
              have q0 := HQC.out.cell 0 (v := .int .i64 a) rfl
              have q1 := HQC.out.cell 1 (v := .int .i64 b0) rfl
              have HVC := Lib.hid (HV.out.below (HBW.out.trans (hbw.mono HBW.out.size)))
              clear hown hbw
              by_cases hlt : k < l.length
              · have HWY := Lib.hid (fun h1 h2 => want_yes (a := a) (b := b0) hris hlt h1 h2)
                have HWN := Lib.hid (fun h => want_no (a := a) (b := b0) hris hlt h)
                have hwl := want_len l a b0 k
                obtain ⟨b, o, c', e, hb, hc⟩ := HVC.out.cells (by omega)
                cases e
                obtain ⟨d0, d1, d2, d3⟩ := hc k hlt
                clear hc
                obtain ⟨x, hx⟩ : ∃ x, l[k] = x := ⟨_, rfl⟩
                rw [hx] at d0 d1 d2 d3 HWY HWN
                clear hx
                obtain ⟨A2, c2, rfl, -, -⟩ := (show Chgs wr wr.heap.size _ (wantL l a b0 k) from Sl.of_own HOW.out).form
                by_cases h1 : a < x.at_
                · by_cases h2 : x.at_ ≤ b0
                  · have HT := Lib.hid (HWY.out h1 h2)
                    clear HWY HWN
                    go_wp2_with fail
                    go_quiet (fail)
                    go_wp2_with (at_builtin; refine wpList_append_own _ rfl _ _ 84 rfl V0.heap.size 90 i0 (.agg #[.int .i64 0, .int .i64 0, .bool false, .string ⟨#[]⟩]) 4 40 Tryz.underlying84 hi hz0 hz1 hz2 rfl (by decide) _ (wantL l a b0 k).length _ rfl ((own_drewN HOW.out _).alloc _) ⟨wr.heap.size, 0, none⟩ 1 1 (chgV x) rfl rfl (fun j y hy => by rw [Addr.add_lit, Nat.zero_add]; exact (cell_new (wr.drewN _) _ _ _ j).trans (by simpa [chgV] using hy)) (by simp [chgV, Value.oneCell']) (by unfold maxLen; omega) (by omega) (by simp; omega) ?_; intro v2 w3 hown2 hgrow2 hnil2)
                    go_roundw
                    case rel => exact ⟨k + 1, by omega, by go_num, by rw [HT.out, List.length_append, chgsV_append]; exact hown2, ((below_drewN HBC.out _).alloc hws _).grown hgrow2 (by simp; omega) (fun g e => (HOW.out.lt g e).1)⟩
                    case measure => first | (simp [intOf]; done) | (simp [intOf]; omega)
                  · have HT := Lib.hid (HWN.out (fun h => h2 h.2))
                    have hd : decide (x.at_ ≤ b0) = false := decide_eq_false h2
                    clear HWY HWN
                    go_wp2_with fail
                    go_quiet (fail)
                    go_wp2_with fail
                    go_roundw
                    case rel => exact ⟨k + 1, by omega, by go_num, by rw [HT.out]; exact own_drewN HOW.out _, below_drewN HBC.out _⟩
                    case measure => first | (simp [intOf]; done) | (simp [intOf]; omega)
                · have HT := Lib.hid (HWN.out (fun h => h1 h.1))
                  have hd : decide (a < x.at_) = false := decide_eq_false h1
                  clear HWY HWN
                  go_wp2_with fail
                  go_quiet (fail)
                  go_wp2_with fail
                  go_roundw
                  case rel => exact ⟨k + 1, by omega, by go_num, by rw [HT.out]; exact own_drewN HOW.out _, below_drewN HBC.out _⟩
                  case measure => first | (simp [intOf]; done) | (simp [intOf]; omega)
              · obtain rfl : k = l.length := by omega
                rw [want_end] at HOW
                obtain ⟨A2, c2, e, -, -⟩ := (show Chgs wr wr.heap.size _ (cutL l a b0) from Sl.of_own HOW.out).form
                subst e
                have HCU := Lib.hid (cut_any wr w.heap.size _ l a b0 HVC.out (Nat.le_trans HBW.out.size hws) (by omega) hris)
                go_wp2_with fail
                refine HCU.out.mono ?_
                rintro e w6 ⟨v6, rfl, hv6, hb6⟩
                have HSA := Lib.hid (same_any w6 w6.heap.size _ _ _ _ hv6 (((show Chgs wr wr.heap.size _ (cutL l a b0) from Sl.of_own HOW.out).below hb6).more hb6.size) (Nat.le_refl _))
                rw [sameB_iff.2 rfl] at HSA
                have HB6 := Lib.hid (HBW.out.trans ((HBC.out.trans (hb6.mono hws)).mono HBW.out.size))
                clear hv6 hb6 HCU
                go_wp2_with fail
                refine HSA.out.mono ?_
                rintro e w7 ⟨rfl, hb7⟩
                have HB7 := Lib.hid (HB6.out.trans (hb7.mono HB6.out.size))
                clear hb7 HSA
                go_wp2_with fail
                refine (awake_any _ (HM.out.below HB7.out (Nat.le_refl _))).mono ?_
                rintro e wz ⟨rfl, hbz⟩
                have hb9 := (HB7.out).trans (hbz.mono (HB7.out).size)
                clear hbz
                go_wp2_with fail
                go_ret
                exact ⟨rfl, hb9⟩
          · have hjl : j < l.length := by omega
            have HW0 := Lib.hid (show wantH l a = [⟨a, (l[j]).loc⟩] by unfold wantH; rw [if_neg (by rw [HN.out]; omega), HN.out, Nat.add_sub_cancel, getD_at hjl])
            rw [show ((j + 1 : Nat) : Int) - 1 = (j : Nat) by omega]
            obtain ⟨b, o, c', e, hb, hc⟩ := (HV.out.below HBW.out).cells (by omega)
            cases e
            obtain ⟨-, d1, d2, d3⟩ := hc j hjl
            clear hc
            obtain ⟨x, hx⟩ : ∃ x, (l[j]).loc = x := ⟨_, rfl⟩
            rw [hx] at d1 d2 d3 HW0
            clear hx
            go_wp2_with fail
            refine wp_text (by kernel_rfl) (by kernel_rfl) ?_
            intro R hR
            go_wp2_with (at_builtin; refine wpList_append_own _ rfl _ _ 84 rfl V0.heap.size 90 i0 (.agg #[.int .i64 0, .int .i64 0, .bool false, .string ⟨#[]⟩]) 4 40 Tryz.underlying84 hi hz0 hz1 hz2 rfl (by decide) (.slice none 0 0) 0 [] rfl (World.ownsRow_nil _ _ _ _) ⟨V0.heap.size, 0, none⟩ 1 1 (chgV ⟨a, x⟩) rfl rfl (fun j y hy => by rw [Addr.add_lit, Nat.zero_add]; exact (cell_new V0 _ _ _ j).trans (by simpa [chgV] using hy)) (by simp [chgV, Value.oneCell']) (by unfold maxLen; omega) (by omega) (by show V0.heap.size ≤ (V0.alloc _).heap.size; simp) ?_; intro v2 w3 hown2 hgrow2 hnil2)
            refine ⟨by simp [goodB, fits, plainPair, scalarV, isSeqV, quiet, Act.eval], ?_⟩
            go_wp2_with fail
            go_loopw [14, 16] (fun u iv W => ∃ k : Nat, k ≤ l.length ∧ iv = .int .i64 k ∧ W.ownsRow V0.heap.size 90 4 u (wantL l a b0 k).length (chgsV (wantL l a b0 k)) ∧ Below V0.heap.size V0 W) (fun _ iv _ => l.length - (intOf iv).toNat)
            case atStart => exact ⟨0, Nat.zero_le _, rfl, by rw [want_zero]; rw [HW0.out]; exact hown2, (below_drewN ((Below.refl _ _).alloc (Nat.le_refl _) _) 1).grown hgrow2 (by show _ ≤ (V0.alloc _).heap.size; simp) (fun g e => by simp [Value.ownBlock] at e)⟩
            case round =>
              obtain ⟨k, hk, rfl, hown, hbw⟩ := hrel
              have HOW := Lib.hid hown
              have HBC := Lib.hid hbw
              have hws := hbw.size
              have HQC := Lib.hid (HQR.out.below hbw HQR.out.lt)
              have q0 := HQC.out.cell 0 (v := .int .i64 a) rfl
              have q1 := HQC.out.cell 1 (v := .int .i64 b0) rfl
              have HVC := Lib.hid (HV.out.below (HBW.out.trans (hbw.mono HBW.out.size)))
              clear hown hbw
              by_cases hlt : k < l.length
              · have HWY := Lib.hid (fun h1 h2 => want_yes (a := a) (b := b0) hris hlt h1 h2)
                have HWN := Lib.hid (fun h => want_no (a := a) (b := b0) hris hlt h)
                have hwl := want_len l a b0 k
                obtain ⟨b, o, c', e, hb, hc⟩ := HVC.out.cells (by omega)
                cases e
                obtain ⟨d0, d1, d2, d3⟩ := hc k hlt
                clear hc
                obtain ⟨x, hx⟩ : ∃ x, l[k] = x := ⟨_, rfl⟩
                rw [hx] at d0 d1 d2 d3 HWY HWN
                clear hx
                obtain ⟨A2, c2, rfl, -, -⟩ := (show Chgs wr wr.heap.size _ (wantL l a b0 k) from Sl.of_own HOW.out).form
                by_cases h1 : a < x.at_
                · by_cases h2 : x.at_ ≤ b0
                  · have HT := Lib.hid (HWY.out h1 h2)
                    clear HWY HWN
                    go_wp2_with fail
                    go_quiet (fail)
                    go_wp2_with (at_builtin; refine wpList_append_own _ rfl _ _ 84 rfl V0.heap.size 90 i0 (.agg #[.int .i64 0, .int .i64 0, .bool false, .string ⟨#[]⟩]) 4 40 Tryz.underlying84 hi hz0 hz1 hz2 rfl (by decide) _ (wantL l a b0 k).length _ rfl ((own_drewN HOW.out _).alloc _) ⟨wr.heap.size, 0, none⟩ 1 1 (chgV x) rfl rfl (fun j y hy => by rw [Addr.add_lit, Nat.zero_add]; exact (cell_new (wr.drewN _) _ _ _ j).trans (by simpa [chgV] using hy)) (by simp [chgV, Value.oneCell']) (by unfold maxLen; omega) (by omega) (by simp; omega) ?_; intro v2 w3 hown2 hgrow2 hnil2)
                    go_roundw
                    case rel => exact ⟨k + 1, by omega, by go_num, by rw [HT.out, List.length_append, chgsV_append]; exact hown2, ((below_drewN HBC.out _).alloc hws _).grown hgrow2 (by simp; omega) (fun g e => (HOW.out.lt g e).1)⟩
                    case measure => first | (simp [intOf]; done) | (simp [intOf]; omega)
                  · have HT := Lib.hid (HWN.out (fun h => h2 h.2))
                    have hd : decide (x.at_ ≤ b0) = false := decide_eq_false h2
                    clear HWY HWN
                    go_wp2_with fail
                    go_quiet (fail)
                    go_wp2_with fail
                    go_roundw
                    case rel => exact ⟨k + 1, by omega, by go_num, by rw [HT.out]; exact own_drewN HOW.out _, below_drewN HBC.out _⟩
                    case measure => first | (simp [intOf]; done) | (simp [intOf]; omega)
                · have HT := Lib.hid (HWN.out (fun h => h1 h.1))
                  have hd : decide (a < x.at_) = false := decide_eq_false h1
                  clear HWY HWN
                  go_wp2_with fail
                  go_quiet (fail)
                  go_wp2_with fail
                  go_roundw
                  case rel => exact ⟨k + 1, by omega, by go_num, by rw [HT.out]; exact own_drewN HOW.out _, below_drewN HBC.out _⟩
                  case measure => first | (simp [intOf]; done) | (simp [intOf]; omega)
              · obtain rfl : k = l.length := by omega
                rw [want_end] at HOW
                obtain ⟨A2, c2, e, -, -⟩ := (show Chgs wr wr.heap.size _ (cutL l a b0) from Sl.of_own HOW.out).form
                subst e
                have HCU := Lib.hid (cut_any wr w.heap.size _ l a b0 HVC.out (Nat.le_trans HBW.out.size hws) (by omega) hris)
                go_wp2_with fail
                refine HCU.out.mono ?_
                rintro e w6 ⟨v6, rfl, hv6, hb6⟩
                have HSA := Lib.hid (same_any w6 w6.heap.size _ _ _ _ hv6 (((show Chgs wr wr.heap.size _ (cutL l a b0) from Sl.of_own HOW.out).below hb6).more hb6.size) (Nat.le_refl _))
                rw [sameB_iff.2 rfl] at HSA
                have HB6 := Lib.hid (HBW.out.trans ((HBC.out.trans (hb6.mono hws)).mono HBW.out.size))
                clear hv6 hb6 HCU
                go_wp2_with fail
                refine HSA.out.mono ?_
                rintro e w7 ⟨rfl, hb7⟩
                have HB7 := Lib.hid (HB6.out.trans (hb7.mono HB6.out.size))
                clear hb7 HSA
                go_wp2_with fail
                refine (awake_any _ (HM.out.below HB7.out (Nat.le_refl _))).mono ?_
                rintro e wz ⟨rfl, hbz⟩
                have hb9 := (HB7.out).trans (hbz.mono (HB7.out).size)
                clear hbz
                go_wp2_with fail
                go_ret
                exact ⟨rfl, hb9⟩
end Go.Proofs.YtonmmgcibpjahaaGreatDoor
end

section
/- Open: From the rows' readings of arguments to the words of the walks. -/
namespace Go.Proofs.YtonmmgcibpjahaaGreatDoor
open Go Go.ChangeShapes Go.WideShapes Go.ChangeAt Go.RowKit

/-- A slice of bytes that came in reads as bytes. -/
theorem open_bytes {H : Type} {enc : TypeId × Value → H} {P : Program} {W : World} {T E : TypeId} {r : Reach} {base : Nat} {v : Value} {d : DataW H} {p : List MemPlace} (hT : P.underlying T = some (.slice E)) (hE : P.underlying E = some (.int .u8)) (hC : P.cellsOf E = 1)
    (hok : Value.okWide P W r base T v) (h : DataW.Trod enc P W 0 (fun _ => true) true T v d p) : ∃ l : List UInt8, Bytes W W.heap.size v l := by
  obtain ⟨a, len, cap, rfl⟩ := okWide_slice hT hok
  obtain ⟨fuel, hf⟩ := h
  rcases open_ints hT hE hC hf with ⟨hcs, _⟩ | ⟨x, l, c, zs, hcs, _, hl, hm, hz, _, hcell, hwz⟩
  · simp [Value.cells] at hcs
    obtain ⟨rfl, rfl, rfl⟩ := hcs
    exact ⟨[], Bytes.nil _ _⟩
  · simp [Value.cells] at hcs
    obtain ⟨rfl, rfl, rfl⟩ := hcs
    have hz' : zs.length = cap := by simpa using hz
    refine ⟨(zs.take len).map fun z => UInt8.ofNat z.toNat, ?_⟩
    have hlen : ((zs.take len).map fun z => UInt8.ofNat z.toNat).length = len := by simp; omega
    unfold Bytes
    rw [hlen]
    refine ⟨_, _, rfl, hl, hm, by rw [length_bytesV, hlen]; omega, fun hp => ?_⟩
    obtain ⟨b, o, spot⟩ := x
    have h0 := hcell 0 (by omega)
    have hspot : spot = none := by simpa [Addr.add] using World.cell?_spot h0
    subst hspot
    refine ⟨b, o, rfl, ?_, fun j u hu => ?_⟩
    · have := World.block_lt_of_cell? W _ h0
      simpa [Addr.add_lit] using this
    · have hj : j < len := by
        have := (List.getElem?_eq_some_iff.1 hu).1
        rw [length_bytesV, hlen] at this
        exact this
      have hc := hcell j (by omega)
      rw [Addr.add_lit] at hc
      rw [hc]
      have hjz : j < zs.length := by omega
      have hw := hwz zs[j] (List.getElem_mem hjz)
      have hb : 0 ≤ zs[j] ∧ zs[j] ≤ 255 := by simpa [Lit.wf, IntKind.min, IntKind.max, IntKind.signed, IntKind.bits] using hw
      have : (bytesV ((zs.take len).map fun z => UInt8.ofNat z.toNat))[j]? = some (.int .u8 ((UInt8.ofNat zs[j].toNat).toNat : Int)) := by
        rw [bytesV_at _ _ (by rw [hlen]; exact hj)]
        simp
      rw [this] at hu
      rw [← Option.some.inj hu, List.getD_eq_getElem?_getD, List.getElem?_eq_getElem hjz, Option.getD_some, UInt8.toNat_ofNat']
      congr 2
      rw [Nat.mod_eq_of_lt (by omega)]
      omega
theorem wf_i64 {a : Int} (h : (Lit.int .i64 a).wf = true) : -9223372036854775808 ≤ a ∧ a ≤ 9223372036854775807 := by
  simpa [Lit.wf, IntKind.min, IntKind.max, IntKind.signed, IntKind.bits] using h
/-- An array of two numbers that came in by value. -/
theorem open_int2 {H : Type} {enc : TypeId × Value → H} {P : Program} {W : World} {T E : TypeId} {r : Reach} {base : Nat} {v : Value} {d : DataW H} {p : List MemPlace} (hT : P.underlying T = some (.array 2 E)) (hE : P.underlying E = some (.int .i64)) (hC : P.cellsOf E = 1) (hCT : P.cellsOf T = 2)
    (hok : Value.okWide P W r base T v) (h : DataW.Trod enc P W 0 (fun _ => true) true T v d p) :
    ∃ a b : Int, v = .agg #[.int .i64 a, .int .i64 b] ∧ (-9223372036854775808 ≤ a ∧ a ≤ 9223372036854775807) ∧ (-9223372036854775808 ≤ b ∧ b ≤ 9223372036854775807) := by
  simp only [Value.okWide, hT] at hok
  obtain ⟨cs, rfl, hsz, _⟩ := hok
  obtain ⟨fuel, hf⟩ := h
  obtain ⟨xs, m, _, _, _, hl, hel⟩ := DataW.trod_array hT hf
  rw [hCT] at hsz
  obtain ⟨l⟩ := cs
  match l, hsz with
  | [c0, c1], _ =>
    match xs, hl with
    | [x0, x1], _ =>
      have h0 := hel 0 (by omega)
      have h1 := hel 1 (by omega)
      simp [hC, Value.cells] at h0 h1
      obtain ⟨a, e0, _, w0⟩ := DataW.trod_int hE h0
      obtain ⟨b, e1, _, w1⟩ := DataW.trod_int hE h1
      simp at e0 e1
      subst e0 e1
      exact ⟨a, b, rfl, wf_i64 w0, wf_i64 w1⟩
end Go.Proofs.YtonmmgcibpjahaaGreatDoor
end

section
/- OpenS: Slices of whatever that came in: a list of what each element is. -/
namespace Go.Proofs.YtonmmgcibpjahaaGreatDoor
open Go Go.ChangeShapes Go.WideShapes Go.ChangeAt Go.RowKit Go.Deep

section
variable {H : Type} {enc : TypeId × Value → H} {P : Program} {W : World}
theorem flat_len {α : Type} (f : α → List Value) (C : Nat) (l : List α) (h : ∀ a ∈ l, (f a).length = C) : (l.flatMap f).length = l.length * C := by
  induction l with
  | nil => simp
  | cons a l ih =>
    rw [List.flatMap_cons, List.length_append, h a (by simp), ih (fun b hb => h b (by simp [hb])), List.length_cons, Nat.add_mul]
    omega
theorem flat_at {α : Type} (f : α → List Value) (C : Nat) (l : List α) (h : ∀ a ∈ l, (f a).length = C) (i k : Nat) (hi : i < l.length) (hk : k < C) : (l.flatMap f)[i * C + k]? = (f l[i])[k]? := by
  induction l generalizing i with
  | nil => exact absurd hi (by simp)
  | cons a l ih =>
    have ha := h a (by simp)
    rw [List.flatMap_cons]
    rcases i with _ | i
    · rw [Nat.zero_mul, Nat.zero_add, List.getElem?_append_left (by omega)]
      rfl
    · rw [List.getElem?_append_right (by rw [ha, Nat.add_mul]; omega), ha, show (i + 1) * C + k - C = i * C + k by rw [Nat.add_mul]; omega, ih (fun b hb => h b (by simp [hb])) i (by simpa using hi)]
      rfl
/-- A slice, of elements each of which is an a whose cells are f a. -/
theorem open_list {α : Type} [Inhabited α] (f : α → List Value) (Pr : α → Prop) {T E : TypeId} {C : Nat} (hT : P.underlying T = some (.slice E)) (hC : P.cellsOf E = C) (h0 : 0 < C)
    (hel : ∀ (n : Nat) (cs : List Value) (y : DataW H × List MemPlace), cs.length = C → DataW.trod enc P W 0 (fun _ => true) true n E cs = some y → ∃ a, cs = f a ∧ Pr a)
    {n : Nat} {cs : List Value} {x : DataW H × List MemPlace} (h : DataW.trod enc P W 0 (fun _ => true) true n T cs = some x) : ∃ (v : Value) (l : List α), cs = [v] ∧ Sl W W.heap.size C v l.length (l.flatMap f) ∧ ∀ a ∈ l, Pr a ∧ (f a).length = C := by
  rcases open_slice hT h with ⟨rfl, _⟩ | ⟨a, len, cap, m, k, D, Pl, rfl, _, hl, hm, hmm, _, hx⟩
  · exact ⟨_, [], rfl, Sl.nil _ _ _, fun a h => by cases h⟩
  · simp only [if_true] at hmm
    subst hmm
    have each : ∀ i, ∃ q : α, i < len → W.cells? 0 (a.add (i * C)) C = some (f q) ∧ Pr q ∧ (f q).length = C := fun i => by
      by_cases hi : i < len
      · obtain ⟨cs', h1, h2⟩ := hx i (by omega)
        rw [hC] at h1
        obtain ⟨_, hlen, _⟩ := World.cells?_some h1
        obtain ⟨q, rfl, hq⟩ := hel _ _ _ hlen h2
        exact ⟨q, fun _ => ⟨h1, hq, hlen⟩⟩
      · exact ⟨default, fun h => absurd h hi⟩
    obtain ⟨Q, hQ⟩ := Classical.axiomOfChoice each
    have hlen : ((List.range len).map Q).length = len := by simp
    have hfl : ∀ b ∈ (List.range len).map Q, Pr b ∧ (f b).length = C := fun b hb => by
      obtain ⟨i, hi, rfl⟩ := List.mem_map.1 hb
      exact ⟨(hQ i (List.mem_range.1 hi)).2.1, (hQ i (List.mem_range.1 hi)).2.2⟩
    refine ⟨_, (List.range len).map Q, rfl, ?_, hfl⟩
    have hfl2 := flat_len f C _ (fun b hb => (hfl b hb).2)
    rw [hlen] at hfl2 ⊢
    refine ⟨_, _, rfl, hl, hm, hfl2, fun hp => ?_⟩
    obtain ⟨b, o, spot⟩ := a
    obtain ⟨_, _, hc0⟩ := World.cells?_some (hQ 0 hp).1
    have h00 := hc0 0 h0
    rw [List.getElem?_eq_getElem (by rw [(hQ 0 hp).2.2]; exact h0)] at h00
    have hspot : spot = none := by simpa [Addr.add] using World.cell?_spot h00
    subst hspot
    refine ⟨b, o, rfl, ?_, fun j u hu => ?_⟩
    · have := World.block_lt_of_cell? W _ h00
      simpa [Addr.add_lit] using this
    · have hj : j < len * C := by
        have := (List.getElem?_eq_some_iff.1 hu).1
        rwa [hfl2] at this
      have hd : j / C < len := Nat.div_lt_of_lt_mul (by rw [Nat.mul_comm]; exact hj)
      have hr : j % C < C := Nat.mod_lt _ h0
      have he : j = j / C * C + j % C := by rw [Nat.mul_comm]; exact (Nat.div_add_mod j C).symm
      obtain ⟨_, hll, hcc⟩ := World.cells?_some (hQ (j / C) hd).1
      have hc := hcc (j % C) hr
      rw [he, flat_at f C _ (fun b hb => (hfl b hb).2) _ _ (by rw [hlen]; exact hd) hr] at hu
      simp only [List.getElem_map, List.getElem_range] at hu
      rw [he]
      have e2 : (some u : Option Value) = some ((f (Q (j / C)))[j % C]'(by omega)) := by rw [← hu]; exact List.getElem?_eq_getElem _
      rw [Option.some.inj e2, ← List.getElem?_eq_getElem]
      simpa [Addr.add_lit, Nat.add_assoc] using hc
end
end Go.Proofs.YtonmmgcibpjahaaGreatDoor
end

section
/- TOpen: From the rows' readings of changes to the words of the walks. -/
namespace Go.Proofs.YtonmmgcibpjahaaGreatDoor
open Go Go.ChangeShapes Go.WideShapes Go.ChangeAt Go.RowKit Go.Deep

set_option maxRecDepth 100000
section
variable {H : Type} {enc : TypeId × Value → H} {W : World}
theorem trod_loc {n : Nat} {cs : List Value} {y : DataW H × List MemPlace} (h : DataW.trod enc Tryz.prog W 0 (fun _ => true) true n 41 cs = some y) : ∃ x : Loc, cs = locV x ∧ (-9223372036854775808 ≤ x.off ∧ x.off ≤ 9223372036854775807) := by
  obtain ⟨y0, y1, y2, k, -, hl, h0, h1, h2⟩ := trod_struct3 Tryz.underlying41 h
  rw [show Tryz.prog.cellsOf 41 = 3 by kernel_rfl] at hl
  obtain ⟨a, e0, _, w0⟩ := DataW.trod_int Tryz.underlying3 h0
  obtain ⟨b, e1, _⟩ := DataW.trod_bool Tryz.underlying4 h1
  obtain ⟨s, e2, _, _⟩ := DataW.trod_string Tryz.underlying9 h2
  match cs, hl with
  | [v0, v1, v2], _ =>
    rw [show Tryz.prog.cellsOf 3 = 1 by kernel_rfl] at e0
    rw [show Tryz.prog.cellsOf 4 = 1 by kernel_rfl] at e1
    rw [show Tryz.prog.cellsOf 9 = 1 by kernel_rfl] at e2
    simp at e0 e1 e2
    subst e0 e1 e2
    exact ⟨⟨a, b, s⟩, rfl, wf_i64 w0⟩
theorem trod_chg {n : Nat} {cs : List Value} {y : DataW H × List MemPlace} (h : DataW.trod enc Tryz.prog W 0 (fun _ => true) true n 90 cs = some y) : ∃ c : Chg, cs = chgV c ∧ (-9223372036854775808 ≤ c.at_ ∧ c.at_ ≤ 9223372036854775807) ∧ (-9223372036854775808 ≤ c.loc.off ∧ c.loc.off ≤ 9223372036854775807) := by
  obtain ⟨y0, y1, k, -, hl, h0, h1⟩ := trod_struct2 Tryz.underlying90 h
  rw [show Tryz.prog.cellsOf 90 = 4 by kernel_rfl] at hl
  obtain ⟨a, e0, _, w0⟩ := DataW.trod_int Tryz.underlying3 h0
  obtain ⟨x, e1, w1⟩ := trod_loc h1
  match cs, hl with
  | [v0, v1, v2, v3], _ =>
    rw [show Tryz.prog.cellsOf 3 = 1 by kernel_rfl] at e0
    rw [show Tryz.prog.cellsOf 41 = 3 by kernel_rfl] at e1
    simp [locV] at e0 e1
    obtain ⟨rfl, rfl, rfl⟩ := e1
    subst e0
    exact ⟨⟨a, x⟩, rfl, wf_i64 w0, w1⟩
/-- Changes that came in. -/
theorem open_chgs {r : Reach} {base : Nat} {v : Value} {d : DataW H} {p : List MemPlace} (hok : Value.okWide Tryz.prog W r base 84 v) (h : DataW.Trod enc Tryz.prog W 0 (fun _ => true) true 84 v d p) :
    ∃ l : List Chg, Chgs W W.heap.size v l ∧ ∀ c ∈ l, (-9223372036854775808 ≤ c.at_ ∧ c.at_ ≤ 9223372036854775807) ∧ (-9223372036854775808 ≤ c.loc.off ∧ c.loc.off ≤ 9223372036854775807) := by
  obtain ⟨a, len, cap, rfl⟩ := okWide_slice Tryz.underlying84 hok
  obtain ⟨fuel, hf⟩ := h
  obtain ⟨v, l, e, hs, hl⟩ := open_list (C := 4) chgV (fun c => (-9223372036854775808 ≤ c.at_ ∧ c.at_ ≤ 9223372036854775807) ∧ (-9223372036854775808 ≤ c.loc.off ∧ c.loc.off ≤ 9223372036854775807)) Tryz.underlying84 (by kernel_rfl) (by decide) (fun n cs y _ hy => trod_chg hy) hf
  simp only [Value.cells, List.cons.injEq, and_true] at e
  subst e
  exact ⟨l, hs, fun c hc => (hl c hc).1⟩
end
end Go.Proofs.YtonmmgcibpjahaaGreatDoor
end

section
/- TOpen4: An array of four numbers that came in by value. -/
namespace Go.Proofs.YtonmmgcibpjahaaGreatDoor
open Go Go.ChangeShapes Go.WideShapes Go.ChangeAt Go.RowKit

theorem open_int4 {H : Type} {enc : TypeId × Value → H} {P : Program} {W : World} {T E : TypeId} {r : Reach} {base : Nat} {v : Value} {d : DataW H} {p : List MemPlace} (hT : P.underlying T = some (.array 4 E)) (hE : P.underlying E = some (.int .i64)) (hC : P.cellsOf E = 1) (hCT : P.cellsOf T = 4)
    (hok : Value.okWide P W r base T v) (h : DataW.Trod enc P W 0 (fun _ => true) true T v d p) :
    ∃ a b c e : Int, v = .agg #[.int .i64 a, .int .i64 b, .int .i64 c, .int .i64 e] ∧ (-9223372036854775808 ≤ a ∧ a ≤ 9223372036854775807) ∧ (-9223372036854775808 ≤ b ∧ b ≤ 9223372036854775807) ∧ (-9223372036854775808 ≤ c ∧ c ≤ 9223372036854775807) ∧ (-9223372036854775808 ≤ e ∧ e ≤ 9223372036854775807) := by
  simp only [Value.okWide, hT] at hok
  obtain ⟨cs, rfl, hsz, _⟩ := hok
  obtain ⟨fuel, hf⟩ := h
  obtain ⟨xs, m, _, _, _, hl, hel⟩ := DataW.trod_array hT hf
  rw [hCT] at hsz
  obtain ⟨l⟩ := cs
  match l, hsz with
  | [c0, c1, c2, c3], _ =>
    match xs, hl with
    | [x0, x1, x2, x3], _ =>
      have h0 := hel 0 (by omega)
      have h1 := hel 1 (by omega)
      have h2 := hel 2 (by omega)
      have h3 := hel 3 (by omega)
      simp [hC, Value.cells] at h0 h1 h2 h3
      obtain ⟨a, e0, _, w0⟩ := DataW.trod_int hE h0
      obtain ⟨b, e1, _, w1⟩ := DataW.trod_int hE h1
      obtain ⟨c, e2, _, w2⟩ := DataW.trod_int hE h2
      obtain ⟨e, e3, _, w3⟩ := DataW.trod_int hE h3
      simp at e0 e1 e2 e3
      subst e0 e1 e2 e3
      exact ⟨a, b, c, e, rfl, wf_i64 w0, wf_i64 w1, wf_i64 w2, wf_i64 w3⟩
end Go.Proofs.YtonmmgcibpjahaaGreatDoor
end
