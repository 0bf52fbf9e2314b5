/-
  The law ZonePlain, walked.
-/
import Derived.Test.YtfbkkhfmboaknaaGreatDoorAAwake
namespace Go.Proofs.YtfbkkhfmboaknaaGreatDoor
open Go Go.RowKit Go.Shelf
set_option maxRecDepth 100000

/-- An era as it comes in. -/
def eraA (e : EraN) (ru f : ByteArray) (en : Bool) : Value := .agg #[.int .i64 e.off, .string ru, .int .i64 e.save, .string f, .bool en, .int .i64 e.year, .int .i64 e.month, .int .i64 e.dk, .int .i64 e.dw, .int .i64 e.dn, .int .i64 e.sec, .int .i64 e.ak]
set_option maxHeartbeats 1000000 in
theorem check_nil (z : Value) (nm : ByteArray) (b : Nat) (w : World) (hz : z = oneZ nm b) :
    Calls Tryz.prog 12 #[z, .nilFunc] w fun o w' => o = .returned (.int .i64 1) ∧ Below w.heap.size w w' := by
  subst hz
  unfold oneZ
  have hb := (Below.refl w.heap.size w).alloc (Nat.le_refl _) (.cells #[.string nm, .slice (some ⟨b, 0, none⟩) 1 1] 24)
  have heq := fun (w : World) => run_eql_nilFunc w 91 Tryz.underlying91
  go_enter Tryz.func12, Tryz.ntmps12
  go_wp2_with fail
  go_ret
  exact ⟨rfl, hb⟩
set_option maxHeartbeats 4000000 in
theorem plain_walk (w : World) (e : EraN) (ru f : ByteArray) (en : Bool) (i : Int) (_ : -9223372036854775808 ≤ i ∧ i ≤ 9223372036854775807) (hm : Tryz.MaxL w) :
    Calls Tryz.prog 5 #[eraA e ru f en, .int .i64 i] w fun o w' => o = .returned (.bool true) ∧ Below w.heap.size w w' := by
  have HM := Lib.hid hm
  clear hm
  unfold eraA
  by_cases hs : 100 < f.size
  · have hd : decide (100 < f.size) = true := decide_eq_true hs
    have hd2 : decide ((100 : Int) < (f.size : Int)) = true := decide_eq_true (by omega)
    have HB0 := Lib.hid ((Below.refl w.heap.size w).alloc (Nat.le_refl _) (.cells #[.int .i64 e.off, .string ru, .int .i64 e.save, .string f, .bool en, .int .i64 e.year, .int .i64 e.month, .int .i64 e.dk, .int .i64 e.dw, .int .i64 e.dn, .int .i64 e.sec, .int .i64 e.ak] 54))
    go_enter Tryz.func5, Tryz.ntmps5
    go_wp2_with fail
    refine (awake_any _ (HM.out.below (HB0.out) (Nat.le_refl _))).mono ?_
    rintro o wz ⟨rfl, hbz⟩
    have hb9 := (HB0.out).trans (hbz.mono (HB0.out).size)
    clear hbz
    go_wp2_with fail
    go_ret
    exact ⟨rfl, hb9⟩
  · have hd : decide (100 < f.size) = false := decide_eq_false hs
    have hd2 : decide ((100 : Int) < (f.size : Int)) = false := decide_eq_false (by omega)
    have hb0 : Below w.heap.size w (((w.alloc (.cells (eraP e f).toArray 54)).alloc (.cells (eraP e f).toArray 54)).alloc (.cells #[.string ⟨#[88]⟩, .slice (some ⟨w.heap.size + 1, 0, none⟩) 1 1, .slice none 0 0] 27)) := (((Below.refl w.heap.size w).alloc (Nat.le_refl _) _).alloc (by simp) _).alloc (by simp; omega) _
    have hx0 := ((Blk.new w 54 (eraP e f).toArray).alloc (.cells (eraP e f).toArray 54)).alloc (.cells #[.string ⟨#[88]⟩, .slice (some ⟨w.heap.size + 1, 0, none⟩) 1 1, .slice none 0 0] 27)
    have hy0 := (Blk.new (w.alloc (.cells (eraP e f).toArray 54)) 54 (eraP e f).toArray).alloc (.cells #[.string ⟨#[88]⟩, .slice (some ⟨w.heap.size + 1, 0, none⟩) 1 1, .slice none 0 0] 27)
    have hw0 := Blk.new ((w.alloc (.cells (eraP e f).toArray 54)).alloc (.cells (eraP e f).toArray 54)) 27 #[.string ⟨#[88]⟩, .slice (some ⟨w.heap.size + 1, 0, none⟩) 1 1, .slice none 0 0]
    simp only [World.size_alloc] at hy0 hw0
    have HA := Lib.hid (fun (W : World) (hb : Below w.heap.size w W) (he : OneE W (w.heap.size + 1) e f) => at_all ⟨#[88]⟩ (w.heap.size + 1) (.func 13) #[.agg #[.string ⟨#[88]⟩, .slice (some ⟨w.heap.size + 1, 0, none⟩) 1 1, .slice none 0 0]] #[] e f i W (by omega) (HM.out.below hb (Nat.le_refl _)) he)
    have HK := Lib.hid (fun (W : World) (hb : Below w.heap.size w W) => kind_any f W (by omega) (HM.out.below hb (Nat.le_refl _)))
    have HE := Lib.hid (show OneE _ (w.heap.size + 1) e f from hy0)
    have HX := Lib.hid hx0
    have HW := Lib.hid hw0
    have HB := Lib.hid hb0
    clear hb0 hx0 hy0 hw0
    unfold oneZ at HA
    unfold eraP at HX HW HB HE
    rcases kindR_cases f.data.toList with hk | hk
    · have h0 : kindR f.data.toList = ((kindR f.data.toList).1, 0) := by rw [← hk]
      by_cases hr : withinB e.off = true ∧ withinB e.save = true ∧ -2199023255552 ≤ i ∧ i ≤ 2199023255552
      · obtain ⟨g1, g2, g3, g4⟩ := hr
        obtain ⟨b1, b2⟩ := withinB_iff.1 g1
        obtain ⟨b3, b4⟩ := withinB_iff.1 g2
        have d1 : decide (e.off ≤ -90000) = false := decide_eq_false (by omega)
        have d2 : decide (90000 ≤ e.off) = false := decide_eq_false (by omega)
        have d3 : decide (e.save ≤ -90000) = false := decide_eq_false (by omega)
        have d4 : decide (90000 ≤ e.save) = false := decide_eq_false (by omega)
        have d5 : decide (i < -2199023255552) = false := decide_eq_false (by omega)
        have d6 : decide (2199023255552 < i) = false := decide_eq_false (by omega)
        have HS := Lib.hid (fun (W : World) (hb : Below w.heap.size w W) => show_any f (e.off + e.save) (dstB e.save) ⟨#[]⟩ W (by omega) (by decide) (HM.out.below hb (Nat.le_refl _)))
        have hat : atV e f i = withinR (e.off + e.save) (dstB e.save) (showV f (e.off + e.save) (dstB e.save) ⟨#[]⟩).1 (showV f (e.off + e.save) (dstB e.save) ⟨#[]⟩).2 := by
          unfold atV
          rw [errP_ok hk g1 g2, if_neg (by decide), if_pos ⟨g3, g4⟩]
        obtain ⟨⟨s, q⟩, hq⟩ : ∃ x, showV f (e.off + e.save) (dstB e.save) ⟨#[]⟩ = x := ⟨_, rfl⟩
        rw [hq] at hat HS
        unfold withinR at hat
        simp only at hat HS
        clear hq g1 g2 hk
        generalize (kindR f.data.toList).1 = kd at h0
        unfold dstB at HS hat
        by_cases hq0 : q = 0
        · subst hq0
          rw [if_pos rfl] at hat
          rw [hat] at HA
          rw [h0] at HK
          clear h0 hat
          go_enter Tryz.func5, Tryz.ntmps5
          go_wp2_with fail
          refine (HA.out _ HB.out HE.out).mono ?_
          rintro o w1 ⟨rfl, hb⟩
          have HX1 := Lib.hid (HX.out.below hb HX.out.lt)
          have HW1 := Lib.hid (HW.out.below hb HW.out.lt)
          have HB1 := Lib.hid (HB.out.trans (hb.mono HB.out.size))
          have HE1 := Lib.hid (show OneE w1 (w.heap.size + 1) e f from Blk.below HE.out hb (Blk.lt HE.out))
          have hs1 := HB1.out.size
          have x3 := HX1.out.cell 3 (v := .string f) rfl
          have hl1 := HX1.out.lt
          have HB2 := Lib.hid (HB1.out.alloc hs1 (.cells #[.int .i64 (e.off + e.save), .bool (e.save != 0), .string s] 41))
          have HX2 := Lib.hid (HX1.out.alloc (.cells #[.int .i64 (e.off + e.save), .bool (e.save != 0), .string s] 41))
          have HW2 := Lib.hid (HW1.out.alloc (.cells #[.int .i64 (e.off + e.save), .bool (e.save != 0), .string s] 41))
          have HE2 := Lib.hid (show OneE (w1.alloc (.cells #[.int .i64 (e.off + e.save), .bool (e.save != 0), .string s] 41)) (w.heap.size + 1) e f from Blk.alloc HE1.out _)
          have HL2 := Lib.hid (Blk.new w1 41 #[.int .i64 (e.off + e.save), .bool (e.save != 0), .string s])
          clear hb HX HW HB HE HA HX1 HW1 HE1
          go_wp2_with fail
          refine (HK.out _ HB2.out).mono ?_
          rintro o w2 ⟨rfl, hb⟩
          have hx2 := HL2.out.below hb HL2.out.lt
          have hx3 := HX2.out.below hb HX2.out.lt
          have HW3 := Lib.hid (HW2.out.below hb HW2.out.lt)
          have HB3 := Lib.hid (HB2.out.trans (hb.mono HB2.out.size))
          have HE3 := Lib.hid (show OneE w2 (w.heap.size + 1) e f from Blk.below HE2.out hb (Blk.lt HE2.out))
          have HX3 := Lib.hid hx3
          have HL3 := Lib.hid hx2
          have hl2 := hx2.lt
          have hl3 := hx3.lt
          have hl4 := HW3.out.lt
          have x0 := hx2.cell 0 (v := .int .i64 (e.off + e.save)) rfl
          have x1 := hx2.cell 1 (v := .bool (e.save != 0)) rfl
          have x2 := hx2.cell 2 (v := .string s) rfl
          have y0 := hx3.cell 0 (v := .int .i64 e.off) rfl
          have y2 := hx3.cell 2 (v := .int .i64 e.save) rfl
          have y3 := hx3.cell 3 (v := .string f) rfl
          clear hb hx2 hx3 HL2 HX2 HW2 HE2 HK x3
          go_wp2_with fail
          refine (HS.out _ HB3.out).mono ?_
          rintro o w3 ⟨rfl, hb⟩
          have hx4 := HL3.out.below hb HL3.out.lt
          have hx5 := HX3.out.below hb HX3.out.lt
          have hx6 := HW3.out.below hb HW3.out.lt
          have HB4 := Lib.hid (HB3.out.trans (hb.mono HB3.out.size))
          have x0 := hx4.cell 0 (v := .int .i64 (e.off + e.save)) rfl
          have x1 := hx4.cell 1 (v := .bool (e.save != 0)) rfl
          have x2 := hx4.cell 2 (v := .string s) rfl
          have y0 := hx5.cell 0 (v := .int .i64 e.off) rfl
          have y2 := hx5.cell 2 (v := .int .i64 e.save) rfl
          have z0 := hx6.cell 0 (v := .string ⟨#[88]⟩) rfl
          have z1 := hx6.cell 1 (v := .slice (some ⟨w.heap.size + 1, 0, none⟩) 1 1) rfl
          have l4 := hx4.lt
          have l5 := hx5.lt
          have l6 := hx6.lt
          have HN := Lib.hid (fun (W : World) => check_nil (.agg #[.string ⟨#[88]⟩, .slice (some ⟨w.heap.size + 1, 0, none⟩) 1 1]) ⟨#[88]⟩ (w.heap.size + 1) W rfl)
          clear hb hx4 hx5 hx6 HS HL3 HX3 HW3 HE3
          go_wp2_with fail
          refine (HN.out _).mono ?_
          rintro o w4 ⟨rfl, hb⟩
          have HB5 := Lib.hid (HB4.out.trans (hb.mono HB4.out.size))
          clear hb
          go_wp2_with fail
          refine (awake_any _ (HM.out.below (HB5.out) (Nat.le_refl _))).mono ?_
          rintro o wz ⟨rfl, hbz⟩
          have hb9 := (HB5.out).trans (hbz.mono (HB5.out).size)
          clear hbz
          go_wp2_with fail
          go_ret
          exact ⟨rfl, hb9⟩
        · rw [if_neg hq0] at hat
          have hq1 : (q != 0) = true := by simpa using hq0
          rw [hat] at HA
          rw [h0] at HK
          clear h0 hat
          go_enter Tryz.func5, Tryz.ntmps5
          go_wp2_with fail
          refine (HA.out _ HB.out HE.out).mono ?_
          rintro o w1 ⟨rfl, hb⟩
          have HX1 := Lib.hid (HX.out.below hb HX.out.lt)
          have HW1 := Lib.hid (HW.out.below hb HW.out.lt)
          have HB1 := Lib.hid (HB.out.trans (hb.mono HB.out.size))
          have HE1 := Lib.hid (show OneE w1 (w.heap.size + 1) e f from Blk.below HE.out hb (Blk.lt HE.out))
          have hs1 := HB1.out.size
          have x3 := HX1.out.cell 3 (v := .string f) rfl
          have hl1 := HX1.out.lt
          have HB2 := Lib.hid (HB1.out.alloc hs1 (.cells #[.int .i64 0, .bool false, .string ⟨#[]⟩] 41))
          have HX2 := Lib.hid (HX1.out.alloc (.cells #[.int .i64 0, .bool false, .string ⟨#[]⟩] 41))
          have HW2 := Lib.hid (HW1.out.alloc (.cells #[.int .i64 0, .bool false, .string ⟨#[]⟩] 41))
          have HE2 := Lib.hid (show OneE (w1.alloc (.cells #[.int .i64 0, .bool false, .string ⟨#[]⟩] 41)) (w.heap.size + 1) e f from Blk.alloc HE1.out _)
          have HL2 := Lib.hid (Blk.new w1 41 #[.int .i64 0, .bool false, .string ⟨#[]⟩])
          clear hb HX HW HB HE HA HX1 HW1 HE1
          go_wp2_with fail
          refine (HK.out _ HB2.out).mono ?_
          rintro o w2 ⟨rfl, hb⟩
          have hx2 := HL2.out.below hb HL2.out.lt
          have hx3 := HX2.out.below hb HX2.out.lt
          have HW3 := Lib.hid (HW2.out.below hb HW2.out.lt)
          have HB3 := Lib.hid (HB2.out.trans (hb.mono HB2.out.size))
          have HE3 := Lib.hid (show OneE w2 (w.heap.size + 1) e f from Blk.below HE2.out hb (Blk.lt HE2.out))
          have HX3 := Lib.hid hx3
          have HL3 := Lib.hid hx2
          have hl2 := hx2.lt
          have hl3 := hx3.lt
          have hl4 := HW3.out.lt
          have x0 := hx2.cell 0 (v := .int .i64 0) rfl
          have x1 := hx2.cell 1 (v := .bool false) rfl
          have x2 := hx2.cell 2 (v := .string ⟨#[]⟩) rfl
          have y0 := hx3.cell 0 (v := .int .i64 e.off) rfl
          have y2 := hx3.cell 2 (v := .int .i64 e.save) rfl
          have y3 := hx3.cell 3 (v := .string f) rfl
          clear hb hx2 hx3 HL2 HX2 HW2 HE2 HK x3
          go_wp2_with fail
          refine (HS.out _ HB3.out).mono ?_
          rintro o w3 ⟨rfl, hb⟩
          have hx4 := HL3.out.below hb HL3.out.lt
          have hx5 := HX3.out.below hb HX3.out.lt
          have hx6 := HW3.out.below hb HW3.out.lt
          have HB4 := Lib.hid (HB3.out.trans (hb.mono HB3.out.size))
          have x0 := hx4.cell 0 (v := .int .i64 0) rfl
          have x1 := hx4.cell 1 (v := .bool false) rfl
          have x2 := hx4.cell 2 (v := .string ⟨#[]⟩) rfl
          have l4 := hx4.lt
          clear hb hx4 hx5 hx6 HS HL3 HX3 HW3 HE3
          go_wp2_with fail
          refine (awake_any _ (HM.out.below (HB4.out) (Nat.le_refl _))).mono ?_
          rintro o wz ⟨rfl, hbz⟩
          have hb9 := (HB4.out).trans (hbz.mono (HB4.out).size)
          clear hbz
          go_wp2_with fail
          go_ret
          exact ⟨rfl, hb9⟩
      · have HV := Lib.hid (show atV e f i = .tuple #[.agg #[.int .i64 0, .bool false, .string ⟨#[]⟩], .int .i64 10] by
          unfold atV
          by_cases g : withinB e.off = true ∧ withinB e.save = true
          · rw [errP_ok hk g.1 g.2, if_neg (by decide), if_neg (fun h => hr ⟨g.1, g.2, h⟩)]; rfl
          · have : errP e f.data.toList = 10 := by
              cases g1 : withinB e.off
              · exact errP_off hk g1
              · exact errP_save hk (by cases g2 : withinB e.save; rfl; exact absurd ⟨g1, g2⟩ g)
            rw [this, if_pos (by decide)]; rfl)
        have hwi : ∀ n, withinB n = true ↔ -90000 < n ∧ n < 90000 := fun n => withinB_iff
        rw [hwi, hwi] at hr
        clear hk hwi
        generalize (kindR f.data.toList).1 = kd at h0
        by_cases c1 : e.off ≤ -90000
        · have d1 : decide (e.off ≤ -90000) = true := decide_eq_true c1
          rw [HV.out] at HA
          rw [h0] at HK
          clear h0 HV
          go_enter Tryz.func5, Tryz.ntmps5
          go_wp2_with fail
          refine (HA.out _ HB.out HE.out).mono ?_
          rintro o w1 ⟨rfl, hb⟩
          have HX1 := Lib.hid (HX.out.below hb HX.out.lt)
          have HW1 := Lib.hid (HW.out.below hb HW.out.lt)
          have HB1 := Lib.hid (HB.out.trans (hb.mono HB.out.size))
          have HE1 := Lib.hid (show OneE w1 (w.heap.size + 1) e f from Blk.below HE.out hb (Blk.lt HE.out))
          have hs1 := HB1.out.size
          have x3 := HX1.out.cell 3 (v := .string f) rfl
          have hl1 := HX1.out.lt
          have HB2 := Lib.hid (HB1.out.alloc hs1 (.cells #[.int .i64 0, .bool false, .string ⟨#[]⟩] 41))
          have HX2 := Lib.hid (HX1.out.alloc (.cells #[.int .i64 0, .bool false, .string ⟨#[]⟩] 41))
          have HW2 := Lib.hid (HW1.out.alloc (.cells #[.int .i64 0, .bool false, .string ⟨#[]⟩] 41))
          have HE2 := Lib.hid (show OneE (w1.alloc (.cells #[.int .i64 0, .bool false, .string ⟨#[]⟩] 41)) (w.heap.size + 1) e f from Blk.alloc HE1.out _)
          have HL2 := Lib.hid (Blk.new w1 41 #[.int .i64 0, .bool false, .string ⟨#[]⟩])
          clear hb HX HW HB HE HA HX1 HW1 HE1
          go_wp2_with fail
          refine (HK.out _ HB2.out).mono ?_
          rintro o w2 ⟨rfl, hb⟩
          have hx2 := HL2.out.below hb HL2.out.lt
          have hx3 := HX2.out.below hb HX2.out.lt
          have HW3 := Lib.hid (HW2.out.below hb HW2.out.lt)
          have HB3 := Lib.hid (HB2.out.trans (hb.mono HB2.out.size))
          have HE3 := Lib.hid (show OneE w2 (w.heap.size + 1) e f from Blk.below HE2.out hb (Blk.lt HE2.out))
          have HX3 := Lib.hid hx3
          have HL3 := Lib.hid hx2
          have hl2 := hx2.lt
          have hl3 := hx3.lt
          have hl4 := HW3.out.lt
          have x0 := hx2.cell 0 (v := .int .i64 0) rfl
          have x1 := hx2.cell 1 (v := .bool false) rfl
          have x2 := hx2.cell 2 (v := .string ⟨#[]⟩) rfl
          have y0 := hx3.cell 0 (v := .int .i64 e.off) rfl
          have y2 := hx3.cell 2 (v := .int .i64 e.save) rfl
          have y3 := hx3.cell 3 (v := .string f) rfl
          clear hb hx2 hx3 HL2 HX2 HW2 HE2 HK x3
          go_wp2_with fail
          refine (awake_any _ (HM.out.below (HB3.out) (Nat.le_refl _))).mono ?_
          rintro o wz ⟨rfl, hbz⟩
          have hb9 := (HB3.out).trans (hbz.mono (HB3.out).size)
          clear hbz
          go_wp2_with fail
          go_ret
          exact ⟨rfl, hb9⟩
        · have d1 : decide (e.off ≤ -90000) = false := decide_eq_false c1
          by_cases c2 : 90000 ≤ e.off
          · have d2 : decide (90000 ≤ e.off) = true := decide_eq_true c2
            rw [HV.out] at HA
            rw [h0] at HK
            clear h0 HV
            go_enter Tryz.func5, Tryz.ntmps5
            go_wp2_with fail
            refine (HA.out _ HB.out HE.out).mono ?_
            rintro o w1 ⟨rfl, hb⟩
            have HX1 := Lib.hid (HX.out.below hb HX.out.lt)
            have HW1 := Lib.hid (HW.out.below hb HW.out.lt)
            have HB1 := Lib.hid (HB.out.trans (hb.mono HB.out.size))
            have HE1 := Lib.hid (show OneE w1 (w.heap.size + 1) e f from Blk.below HE.out hb (Blk.lt HE.out))
            have hs1 := HB1.out.size
            have x3 := HX1.out.cell 3 (v := .string f) rfl
            have hl1 := HX1.out.lt
            have HB2 := Lib.hid (HB1.out.alloc hs1 (.cells #[.int .i64 0, .bool false, .string ⟨#[]⟩] 41))
            have HX2 := Lib.hid (HX1.out.alloc (.cells #[.int .i64 0, .bool false, .string ⟨#[]⟩] 41))
            have HW2 := Lib.hid (HW1.out.alloc (.cells #[.int .i64 0, .bool false, .string ⟨#[]⟩] 41))
            have HE2 := Lib.hid (show OneE (w1.alloc (.cells #[.int .i64 0, .bool false, .string ⟨#[]⟩] 41)) (w.heap.size + 1) e f from Blk.alloc HE1.out _)
            have HL2 := Lib.hid (Blk.new w1 41 #[.int .i64 0, .bool false, .string ⟨#[]⟩])
            clear hb HX HW HB HE HA HX1 HW1 HE1
            go_wp2_with fail
            refine (HK.out _ HB2.out).mono ?_
            rintro o w2 ⟨rfl, hb⟩
            have hx2 := HL2.out.below hb HL2.out.lt
            have hx3 := HX2.out.below hb HX2.out.lt
            have HW3 := Lib.hid (HW2.out.below hb HW2.out.lt)
            have HB3 := Lib.hid (HB2.out.trans (hb.mono HB2.out.size))
            have HE3 := Lib.hid (show OneE w2 (w.heap.size + 1) e f from Blk.below HE2.out hb (Blk.lt HE2.out))
            have HX3 := Lib.hid hx3
            have HL3 := Lib.hid hx2
            have hl2 := hx2.lt
            have hl3 := hx3.lt
            have hl4 := HW3.out.lt
            have x0 := hx2.cell 0 (v := .int .i64 0) rfl
            have x1 := hx2.cell 1 (v := .bool false) rfl
            have x2 := hx2.cell 2 (v := .string ⟨#[]⟩) rfl
            have y0 := hx3.cell 0 (v := .int .i64 e.off) rfl
            have y2 := hx3.cell 2 (v := .int .i64 e.save) rfl
            have y3 := hx3.cell 3 (v := .string f) rfl
            clear hb hx2 hx3 HL2 HX2 HW2 HE2 HK x3
            go_wp2_with fail
            refine (awake_any _ (HM.out.below (HB3.out) (Nat.le_refl _))).mono ?_
            rintro o wz ⟨rfl, hbz⟩
            have hb9 := (HB3.out).trans (hbz.mono (HB3.out).size)
            clear hbz
            go_wp2_with fail
            go_ret
            exact ⟨rfl, hb9⟩
          · have d2 : decide (90000 ≤ e.off) = false := decide_eq_false c2
            by_cases c3 : e.save ≤ -90000
            · have d3 : decide (e.save ≤ -90000) = true := decide_eq_true c3
              rw [HV.out] at HA
              rw [h0] at HK
              clear h0 HV
              go_enter Tryz.func5, Tryz.ntmps5
              go_wp2_with fail
              refine (HA.out _ HB.out HE.out).mono ?_
              rintro o w1 ⟨rfl, hb⟩
              have HX1 := Lib.hid (HX.out.below hb HX.out.lt)
              have HW1 := Lib.hid (HW.out.below hb HW.out.lt)
              have HB1 := Lib.hid (HB.out.trans (hb.mono HB.out.size))
              have HE1 := Lib.hid (show OneE w1 (w.heap.size + 1) e f from Blk.below HE.out hb (Blk.lt HE.out))
              have hs1 := HB1.out.size
              have x3 := HX1.out.cell 3 (v := .string f) rfl
              have hl1 := HX1.out.lt
              have HB2 := Lib.hid (HB1.out.alloc hs1 (.cells #[.int .i64 0, .bool false, .string ⟨#[]⟩] 41))
              have HX2 := Lib.hid (HX1.out.alloc (.cells #[.int .i64 0, .bool false, .string ⟨#[]⟩] 41))
              have HW2 := Lib.hid (HW1.out.alloc (.cells #[.int .i64 0, .bool false, .string ⟨#[]⟩] 41))
              have HE2 := Lib.hid (show OneE (w1.alloc (.cells #[.int .i64 0, .bool false, .string ⟨#[]⟩] 41)) (w.heap.size + 1) e f from Blk.alloc HE1.out _)
              have HL2 := Lib.hid (Blk.new w1 41 #[.int .i64 0, .bool false, .string ⟨#[]⟩])
              clear hb HX HW HB HE HA HX1 HW1 HE1
              go_wp2_with fail
              refine (HK.out _ HB2.out).mono ?_
              rintro o w2 ⟨rfl, hb⟩
              have hx2 := HL2.out.below hb HL2.out.lt
              have hx3 := HX2.out.below hb HX2.out.lt
              have HW3 := Lib.hid (HW2.out.below hb HW2.out.lt)
              have HB3 := Lib.hid (HB2.out.trans (hb.mono HB2.out.size))
              have HE3 := Lib.hid (show OneE w2 (w.heap.size + 1) e f from Blk.below HE2.out hb (Blk.lt HE2.out))
              have HX3 := Lib.hid hx3
              have HL3 := Lib.hid hx2
              have hl2 := hx2.lt
              have hl3 := hx3.lt
              have hl4 := HW3.out.lt
              have x0 := hx2.cell 0 (v := .int .i64 0) rfl
              have x1 := hx2.cell 1 (v := .bool false) rfl
              have x2 := hx2.cell 2 (v := .string ⟨#[]⟩) rfl
              have y0 := hx3.cell 0 (v := .int .i64 e.off) rfl
              have y2 := hx3.cell 2 (v := .int .i64 e.save) rfl
              have y3 := hx3.cell 3 (v := .string f) rfl
              clear hb hx2 hx3 HL2 HX2 HW2 HE2 HK x3
              go_wp2_with fail
              refine (awake_any _ (HM.out.below (HB3.out) (Nat.le_refl _))).mono ?_
              rintro o wz ⟨rfl, hbz⟩
              have hb9 := (HB3.out).trans (hbz.mono (HB3.out).size)
              clear hbz
              go_wp2_with fail
              go_ret
              exact ⟨rfl, hb9⟩
            · have d3 : decide (e.save ≤ -90000) = false := decide_eq_false c3
              by_cases c4 : 90000 ≤ e.save
              · have d4 : decide (90000 ≤ e.save) = true := decide_eq_true c4
                rw [HV.out] at HA
                rw [h0] at HK
                clear h0 HV
                go_enter Tryz.func5, Tryz.ntmps5
                go_wp2_with fail
                refine (HA.out _ HB.out HE.out).mono ?_
                rintro o w1 ⟨rfl, hb⟩
                have HX1 := Lib.hid (HX.out.below hb HX.out.lt)
                have HW1 := Lib.hid (HW.out.below hb HW.out.lt)
                have HB1 := Lib.hid (HB.out.trans (hb.mono HB.out.size))
                have HE1 := Lib.hid (show OneE w1 (w.heap.size + 1) e f from Blk.below HE.out hb (Blk.lt HE.out))
                have hs1 := HB1.out.size
                have x3 := HX1.out.cell 3 (v := .string f) rfl
                have hl1 := HX1.out.lt
                have HB2 := Lib.hid (HB1.out.alloc hs1 (.cells #[.int .i64 0, .bool false, .string ⟨#[]⟩] 41))
                have HX2 := Lib.hid (HX1.out.alloc (.cells #[.int .i64 0, .bool false, .string ⟨#[]⟩] 41))
                have HW2 := Lib.hid (HW1.out.alloc (.cells #[.int .i64 0, .bool false, .string ⟨#[]⟩] 41))
                have HE2 := Lib.hid (show OneE (w1.alloc (.cells #[.int .i64 0, .bool false, .string ⟨#[]⟩] 41)) (w.heap.size + 1) e f from Blk.alloc HE1.out _)
                have HL2 := Lib.hid (Blk.new w1 41 #[.int .i64 0, .bool false, .string ⟨#[]⟩])
                clear hb HX HW HB HE HA HX1 HW1 HE1
                go_wp2_with fail
                refine (HK.out _ HB2.out).mono ?_
                rintro o w2 ⟨rfl, hb⟩
                have hx2 := HL2.out.below hb HL2.out.lt
                have hx3 := HX2.out.below hb HX2.out.lt
                have HW3 := Lib.hid (HW2.out.below hb HW2.out.lt)
                have HB3 := Lib.hid (HB2.out.trans (hb.mono HB2.out.size))
                have HE3 := Lib.hid (show OneE w2 (w.heap.size + 1) e f from Blk.below HE2.out hb (Blk.lt HE2.out))
                have HX3 := Lib.hid hx3
                have HL3 := Lib.hid hx2
                have hl2 := hx2.lt
                have hl3 := hx3.lt
                have hl4 := HW3.out.lt
                have x0 := hx2.cell 0 (v := .int .i64 0) rfl
                have x1 := hx2.cell 1 (v := .bool false) rfl
                have x2 := hx2.cell 2 (v := .string ⟨#[]⟩) rfl
                have y0 := hx3.cell 0 (v := .int .i64 e.off) rfl
                have y2 := hx3.cell 2 (v := .int .i64 e.save) rfl
                have y3 := hx3.cell 3 (v := .string f) rfl
                clear hb hx2 hx3 HL2 HX2 HW2 HE2 HK x3
                go_wp2_with fail
                refine (awake_any _ (HM.out.below (HB3.out) (Nat.le_refl _))).mono ?_
                rintro o wz ⟨rfl, hbz⟩
                have hb9 := (HB3.out).trans (hbz.mono (HB3.out).size)
                clear hbz
                go_wp2_with fail
                go_ret
                exact ⟨rfl, hb9⟩
              · have d4 : decide (90000 ≤ e.save) = false := decide_eq_false c4
                by_cases c5 : i < -2199023255552
                · have d5 : decide (i < -2199023255552) = true := decide_eq_true c5
                  rw [HV.out] at HA
                  rw [h0] at HK
                  clear h0 HV
                  go_enter Tryz.func5, Tryz.ntmps5
                  go_wp2_with fail
                  refine (HA.out _ HB.out HE.out).mono ?_
                  rintro o w1 ⟨rfl, hb⟩
                  have HX1 := Lib.hid (HX.out.below hb HX.out.lt)
                  have HW1 := Lib.hid (HW.out.below hb HW.out.lt)
                  have HB1 := Lib.hid (HB.out.trans (hb.mono HB.out.size))
                  have HE1 := Lib.hid (show OneE w1 (w.heap.size + 1) e f from Blk.below HE.out hb (Blk.lt HE.out))
                  have hs1 := HB1.out.size
                  have x3 := HX1.out.cell 3 (v := .string f) rfl
                  have hl1 := HX1.out.lt
                  have HB2 := Lib.hid (HB1.out.alloc hs1 (.cells #[.int .i64 0, .bool false, .string ⟨#[]⟩] 41))
                  have HX2 := Lib.hid (HX1.out.alloc (.cells #[.int .i64 0, .bool false, .string ⟨#[]⟩] 41))
                  have HW2 := Lib.hid (HW1.out.alloc (.cells #[.int .i64 0, .bool false, .string ⟨#[]⟩] 41))
                  have HE2 := Lib.hid (show OneE (w1.alloc (.cells #[.int .i64 0, .bool false, .string ⟨#[]⟩] 41)) (w.heap.size + 1) e f from Blk.alloc HE1.out _)
                  have HL2 := Lib.hid (Blk.new w1 41 #[.int .i64 0, .bool false, .string ⟨#[]⟩])
                  clear hb HX HW HB HE HA HX1 HW1 HE1
                  go_wp2_with fail
                  refine (HK.out _ HB2.out).mono ?_
                  rintro o w2 ⟨rfl, hb⟩
                  have hx2 := HL2.out.below hb HL2.out.lt
                  have hx3 := HX2.out.below hb HX2.out.lt
                  have HW3 := Lib.hid (HW2.out.below hb HW2.out.lt)
                  have HB3 := Lib.hid (HB2.out.trans (hb.mono HB2.out.size))
                  have HE3 := Lib.hid (show OneE w2 (w.heap.size + 1) e f from Blk.below HE2.out hb (Blk.lt HE2.out))
                  have HX3 := Lib.hid hx3
                  have HL3 := Lib.hid hx2
                  have hl2 := hx2.lt
                  have hl3 := hx3.lt
                  have hl4 := HW3.out.lt
                  have x0 := hx2.cell 0 (v := .int .i64 0) rfl
                  have x1 := hx2.cell 1 (v := .bool false) rfl
                  have x2 := hx2.cell 2 (v := .string ⟨#[]⟩) rfl
                  have y0 := hx3.cell 0 (v := .int .i64 e.off) rfl
                  have y2 := hx3.cell 2 (v := .int .i64 e.save) rfl
                  have y3 := hx3.cell 3 (v := .string f) rfl
                  clear hb hx2 hx3 HL2 HX2 HW2 HE2 HK x3
                  go_wp2_with fail
                  refine (awake_any _ (HM.out.below (HB3.out) (Nat.le_refl _))).mono ?_
                  rintro o wz ⟨rfl, hbz⟩
                  have hb9 := (HB3.out).trans (hbz.mono (HB3.out).size)
                  clear hbz
                  go_wp2_with fail
                  go_ret
                  exact ⟨rfl, hb9⟩
                · have d5 : decide (i < -2199023255552) = false := decide_eq_false c5
                  have d6 : decide (2199023255552 < i) = true := decide_eq_true (by omega)
                  rw [HV.out] at HA
                  rw [h0] at HK
                  clear h0 HV
                  go_enter Tryz.func5, Tryz.ntmps5
                  go_wp2_with fail
                  refine (HA.out _ HB.out HE.out).mono ?_
                  rintro o w1 ⟨rfl, hb⟩
                  have HX1 := Lib.hid (HX.out.below hb HX.out.lt)
                  have HW1 := Lib.hid (HW.out.below hb HW.out.lt)
                  have HB1 := Lib.hid (HB.out.trans (hb.mono HB.out.size))
                  have HE1 := Lib.hid (show OneE w1 (w.heap.size + 1) e f from Blk.below HE.out hb (Blk.lt HE.out))
                  have hs1 := HB1.out.size
                  have x3 := HX1.out.cell 3 (v := .string f) rfl
                  have hl1 := HX1.out.lt
                  have HB2 := Lib.hid (HB1.out.alloc hs1 (.cells #[.int .i64 0, .bool false, .string ⟨#[]⟩] 41))
                  have HX2 := Lib.hid (HX1.out.alloc (.cells #[.int .i64 0, .bool false, .string ⟨#[]⟩] 41))
                  have HW2 := Lib.hid (HW1.out.alloc (.cells #[.int .i64 0, .bool false, .string ⟨#[]⟩] 41))
                  have HE2 := Lib.hid (show OneE (w1.alloc (.cells #[.int .i64 0, .bool false, .string ⟨#[]⟩] 41)) (w.heap.size + 1) e f from Blk.alloc HE1.out _)
                  have HL2 := Lib.hid (Blk.new w1 41 #[.int .i64 0, .bool false, .string ⟨#[]⟩])
                  clear hb HX HW HB HE HA HX1 HW1 HE1
                  go_wp2_with fail
                  refine (HK.out _ HB2.out).mono ?_
                  rintro o w2 ⟨rfl, hb⟩
                  have hx2 := HL2.out.below hb HL2.out.lt
                  have hx3 := HX2.out.below hb HX2.out.lt
                  have HW3 := Lib.hid (HW2.out.below hb HW2.out.lt)
                  have HB3 := Lib.hid (HB2.out.trans (hb.mono HB2.out.size))
                  have HE3 := Lib.hid (show OneE w2 (w.heap.size + 1) e f from Blk.below HE2.out hb (Blk.lt HE2.out))
                  have HX3 := Lib.hid hx3
                  have HL3 := Lib.hid hx2
                  have hl2 := hx2.lt
                  have hl3 := hx3.lt
                  have hl4 := HW3.out.lt
                  have x0 := hx2.cell 0 (v := .int .i64 0) rfl
                  have x1 := hx2.cell 1 (v := .bool false) rfl
                  have x2 := hx2.cell 2 (v := .string ⟨#[]⟩) rfl
                  have y0 := hx3.cell 0 (v := .int .i64 e.off) rfl
                  have y2 := hx3.cell 2 (v := .int .i64 e.save) rfl
                  have y3 := hx3.cell 3 (v := .string f) rfl
                  clear hb hx2 hx3 HL2 HX2 HW2 HE2 HK x3
                  go_wp2_with fail
                  refine (awake_any _ (HM.out.below (HB3.out) (Nat.le_refl _))).mono ?_
                  rintro o wz ⟨rfl, hbz⟩
                  have hb9 := (HB3.out).trans (hbz.mono (HB3.out).size)
                  clear hbz
                  go_wp2_with fail
                  go_ret
                  exact ⟨rfl, hb9⟩
    · have HV := Lib.hid (show atV e f i = .tuple #[.agg #[.int .i64 0, .bool false, .string ⟨#[]⟩], .int .i64 12] by unfold atV; rw [errP_form hk, if_pos (by decide)]; rfl)
      rw [HV.out] at HA
      rw [hk] at HK
      clear hk HV
      go_enter Tryz.func5, Tryz.ntmps5
      go_wp2_with fail
      refine (HA.out _ HB.out HE.out).mono ?_
      rintro o w1 ⟨rfl, hb⟩
      have hx1 := HX.out.below hb HX.out.lt
      have HB1 := Lib.hid (HB.out.trans (hb.mono HB.out.size))
      have hs1 := HB1.out.size
      have x3 := hx1.cell 3 (v := .string f) rfl
      have hl1 := hx1.lt
      have HB2 := Lib.hid (HB1.out.alloc hs1 (.cells #[.int .i64 0, .bool false, .string ⟨#[]⟩] 41))
      have HX2 := Lib.hid (Blk.new w1 41 #[.int .i64 0, .bool false, .string ⟨#[]⟩])
      clear hb hx1 HX HW HB HE HA
      go_wp2_with fail
      refine (HK.out _ HB2.out).mono ?_
      rintro o w2 ⟨rfl, hb⟩
      have hx2 := HX2.out.below hb HX2.out.lt
      have HB3 := Lib.hid (HB2.out.trans (hb.mono HB2.out.size))
      have x0 := hx2.cell 0 (v := .int .i64 0) rfl
      have x1 := hx2.cell 1 (v := .bool false) rfl
      have x2 := hx2.cell 2 (v := .string ⟨#[]⟩) rfl
      clear hb hx2 HX2 HK x3
      go_wp2_with fail
      refine (awake_any _ (HM.out.below (HB3.out) (Nat.le_refl _))).mono ?_
      rintro o wz ⟨rfl, hbz⟩
      have hb9 := (HB3.out).trans (hbz.mono (HB3.out).size)
      clear hbz
      go_wp2_with fail
      go_ret
      exact ⟨rfl, hb9⟩
end Go.Proofs.YtfbkkhfmboaknaaGreatDoor
