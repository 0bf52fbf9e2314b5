/-
  Layer 17: the law PoolTurns, walked.
-/
import Derived.Test.YtlkoddohplcmnaaSerialC
import Derived.Test.YtlkoddohplcmnaaPoolM
namespace Go.Proofs.Ytlkoddohplcmnaa
open Go Go.RowKit Go.Maps Go.WideMaps

theorem each_any {w : World} {T : Nat → Prop} {pb : Nat} {row : Row} (h : PoolAt w T pb row) (hrl : row.length ≤ 1000) :
    Calls Try.prog 24 #[.pointer (some ⟨pb, 0, none⟩), .func (.func 25) #[] #[]] w (EachPost row w) :=
  each_of _ row h.lens hrl fun _ hb => all_any (h.later hb)
theorem run_equalIn_nilFunc {P : Program} (w : World) (d : Nat) (t : TypeId) {ps rs : Array TypeId} {b : Bool} (h : P.underlying t = some (.func ps rs b)) : (Op.equalIn (d + 1) t .nilFunc .nilFunc).run P w = .ok true w := by
  simp [Op.equalIn, run_underlying h]
theorem run_eql_nilFunc {P : Program} (w : World) (t : TypeId) {ps rs : Array TypeId} {b : Bool} (h : P.underlying t = some (.func ps rs b)) : (binOp .eql t .nilFunc .nilFunc).run P w = .ok (.bool true) w := by
  simp only [binOp]
  simp [show Op.equal t .nilFunc .nilFunc = Op.equalIn (9999 + 1) t .nilFunc .nilFunc from rfl, run_equalIn_nilFunc w 9999 t h]
set_option maxHeartbeats 400000 in
theorem each_nilF (w : World) (p : Option Addr) :
    Calls Try.prog 24 #[.pointer p, .nilFunc] w fun e w' => e = .returned (.tuple #[.pointer none, .slice none 0 0, .int .i64 2]) ∧ Below w.heap.size w w' := by
  have heq := fun (w : World) => run_eql_nilFunc w 50 Try.underlying50
  have q0 := cell_new1 w .nilFunc 50
  have hB0 : Below w.heap.size w (w.alloc (.cells #[.nilFunc] 50)) := (Below.refl _ _).alloc (Nat.le_refl _) _
  obtain ⟨q1, -⟩ := q0
  go_enter Try.func24, Try.ntmps24
  go_wp2_with fail
  go_step3
  go_wp2_with fail
  try rw [Exit.noGoto_ret]
  go_ret3
  exact ⟨rfl, hB0⟩
theorem half_val (x : List UInt8) : str (halfL x) = .string (ByteArray.extract ⟨x.toArray⟩ 0 (x.length / 2)) := by
  rw [show ByteArray.extract ⟨x.toArray⟩ 0 (x.length / 2) = ⟨(halfL x).toArray⟩ by
    apply ByteArray.ext
    simp [halfL]]

theorem below_drew_l {B : Nat} {w w' : World} (h : Below B w.drew w') : Below B w w' := ⟨h.os, h.tape, h.output, h.size, h.block⟩

set_option maxRecDepth 10000 in
set_option maxHeartbeats 2000000 in
theorem turns_walk (w : World) (v : Value) (l : Row) (hv : Strs w w.heap.size v l) (hxs : ∀ y ∈ l, y.length ≤ maxLen) :
    Calls Try.prog 7 #[v] w fun e w' => e = .returned (.bool true) ∧ Below w.heap.size w w' := by
  have HV := Lib.hid hv
  have HXS := Lib.hid hxs
  obtain ⟨A, c, rfl, hlc, hcm⟩ := strs_len hv
  unfold maxLen at hcm
  clear hv hxs
  rcases Bool.eq_false_or_eq_true (fewB l) with hf | hf
  · have HFEW := Lib.hid (few_is HV.out HXS.out hf)
    have hl60 := (fewB_spec hf).1
    obtain ⟨row, hrow⟩ : ∃ row, ofL l = row := ⟨_, rfl⟩
    have hr60 : row.length ≤ 60 := by have := ofL_len l; rw [hrow] at this; omega
    have HROW := Lib.hid hrow
    clear hrow hf
    go_enter Try.func7, Try.ntmps7
    go_wp2_with fail
    refine HFEW.out.mono ?_
    rintro e w1 ⟨rfl, hb1⟩
    go_wp2_with fail
    refine (new_any ((HV.out.below hb1).more hb1.size) HXS.out (by omega)).mono ?_
    rintro e w2 ⟨pb, rfl, hp2, hb2⟩
    rw [HROW.out] at hp2
    have HP2 := Lib.hid hp2
    have HRX := Lib.hid hp2.lens
    have hbel2 := hb1.trans (hb2.mono hb1.size)
    clear hp2 hb1 hb2
    go_wp2_with fail
    refine (each_any HP2.out (by omega)).mono ?_
    rintro e w3 ⟨hres, hb3⟩
    have hbel3 := hbel2.trans (hb3.mono hbel2.size)
    have HOF := Lib.hid (of_ref ((HV.out.below hbel3).more hbel3.size) (by omega))
    rw [HROW.out] at HOF
    rcases hres with ⟨hm33, rfl⟩ | ⟨hm33, sb, pv, rfl, hp3, hpv3⟩
    · obtain ⟨z, hz, hz0, hzl⟩ := refI_mem hm33
      clear hm33
      go_wp2_with fail
      refine HOF.out.mono ?_
      rintro e w4 ⟨u4, rfl, hu4, hb4⟩
      have hbel4 := hbel3.trans (hb4.mono hbel3.size)
      have HU4 := Lib.hid hu4
      obtain ⟨UA, uc, rfl, -, -⟩ := strs_len hu4
      clear hu4
      go_wp2_with fail
      refine (ref_is HU4.out (by omega) hz).mono ?_
      rintro e w5 ⟨rfl, hb5⟩
      have hbel5 := hbel4.trans (hb5.mono hbel4.size)
      clear hz
      go_wp2_with fail
      refine (awake_walk _).mono ?_
      rintro e w6 ⟨rfl, hb6⟩
      go_wp2_with fail
      go_ret
      exact ⟨rfl, hbel5.trans (hb6.mono hbel5.size)⟩
    · have hz : refI row [33] = -1 := by unfold refI; rw [if_neg hm33]
      have HQ3 := Lib.hid hp3
      have HPV3 := Lib.hid hpv3
      obtain ⟨PA, pc, rfl⟩ := hpv3.form
      clear hp3 hpv3 hm33
      go_wp2_with fail
      refine HOF.out.mono ?_
      rintro e w4 ⟨u4, rfl, hu4, hb4⟩
      have hbel4 := hbel3.trans (hb4.mono hbel3.size)
      have HU4 := Lib.hid hu4
      obtain ⟨UA, uc, rfl, -, -⟩ := strs_len hu4
      clear hu4
      go_wp2_with fail
      refine (ref_is HU4.out (by omega) hz).mono ?_
      rintro e w5 ⟨rfl, hb5⟩
      have hbel5 := hbel4.trans (hb5.mono hbel4.size)
      have h35 := hb4.trans (hb5.mono hb4.size)
      have HU5 := Lib.hid ((HU4.out.below hb5).more hb5.size)
      have HPV5 := Lib.hid ((HPV3.out.below h35).more h35.size)
      have HQ5 := Lib.hid (HQ3.out.later h35)
      have HP5 := Lib.hid ((HP2.out.later hb3).later h35)
      clear hz HU4 HPV3 HQ3 HP2 h35 hb3 hb4 hb5
      go_wp2_with fail
      go_loopw [8, 9] (fun u i wr => ∃ j : Nat, j ≤ row.length ∧ i = .int .i64 j ∧ Strs wr wr.heap.size u (ofL ((row.take j).map halfL)) ∧ Below w5.heap.size w5 wr) (fun _ i _ => row.length - (intOf i).toNat)
      case atStart => exact ⟨0, by omega, rfl, Sl.nil _ _ _, Below.refl _ _⟩
      case round =>
        obtain ⟨j, hj, rfl, hu, hbk⟩ := hrel
        have HU := Lib.hid hu
        have hlen := ofL_len ((row.take j).map halfL)
        rw [List.length_map, List.length_take, Nat.min_eq_left hj] at hlen
        rcases (show j = row.length ∨ j < row.length by omega) with hje | hjl
        · subst hje
          rw [List.take_length] at hu hlen
          obtain ⟨want, hwant⟩ : ∃ want, ofL (row.map halfL) = want := ⟨_, rfl⟩
          have HWANT := Lib.hid hwant
          rw [hwant] at hu HQ5 HPV5 hlen
          have HW := Lib.hid hu
          obtain ⟨WA, wc, rfl, -, -⟩ := strs_len hu
          clear hu HU
          have HXI := Lib.hid (show ∀ x ∈ row, halfL x ∈ want from fun x hx => hwant ▸ mem_ofL (List.mem_map.2 ⟨x, hx, rfl⟩))
          clear hwant
          go_wp2_with fail
          refine (same_is (HQ5.out.later hbk) HW.out).mono ?_
          rintro e w6 ⟨rfl, hb6⟩
          have hbk6 := hbk.trans (hb6.mono hbk.size)
          have HW6 := Lib.hid ((HW.out.below hb6).more hb6.size)
          go_wp2_with fail
          go_loopw [10] (fun i wr => ∃ k : Nat, k ≤ row.length ∧ i = .int .i64 k ∧ Below w6.heap.size w6 wr) (fun i _ => row.length - (intOf i).toNat)
          case atStart => exact ⟨0, by omega, rfl, Below.refl _ _⟩
          case round =>
            obtain ⟨k, hk, rfl, hbm⟩ := hrel
            have hbkm := hbk6.trans (hbm.mono hbk6.size)
            rcases (show k = row.length ∨ k < row.length by omega) with hke | hkl
            · have hbel7 := hbel5.trans (hbkm.mono hbel5.size)
              subst hke
              go_wp2_with fail
              refine (each_nilF _ _).mono ?_
              rintro e w8 ⟨rfl, hb8⟩
              have hbel8 := hbel7.trans (hb8.mono hbel7.size)
              go_wp2_with fail
              refine (awake_walk _).mono ?_
              rintro e w9 ⟨rfl, hb9⟩
              go_wp2_with fail
              go_ret
              exact ⟨rfl, hbel8.trans (hb9.mono hbel8.size)⟩
            · obtain ⟨bb, o, c', e1, hbB, hc⟩ := HU5.out.at_ (by omega)
              cases e1
              have hcu := (hbkm.cell (p := ⟨bb, o + k, none⟩) hbB).trans (hc k _ (strsV_at row k hkl))
              obtain ⟨pbk, po, c', e1, hpB, hpc⟩ := HPV5.out.at_ (by omega)
              cases e1
              have hcp := (hbkm.cell (p := ⟨pbk, po + k, none⟩) hpB).trans (hpc k (.int .i64 (idx want (halfL row[k]) : Nat)) (by simp [hkl]))
              have hmem := HXI.out row[k] (List.getElem_mem hkl)
              have hidx := idx_lt hmem
              have hxm := HRX.out _ (List.getElem_mem hkl)
              unfold maxLen at hxm
              have HF : ∀ q, Hid (Calls Try.prog 14 #[.slice WA want.length wc, .string (ByteArray.extract ⟨row[k].toArray⟩ 0 (row[k].length / 2))] (wr.drewN q) fun e w' => e = .returned (.int .i64 (idx want (halfL row[k]) : Nat)) ∧ w' = wr.drewN q) := fun q => by
                have h1 := (HW6.out.below (below_drewN hbm q)).more (below_drewN hbm q).size
                have h2 := find_ref0 h1 (by omega) (halfL row[k])
                rw [refI_is hmem, half_val] at h2
                exact h2
              clear hc hpc hmem
              generalize idx want (halfL row[k]) = z at *
              generalize row[k] = x at *
              go_wp2_with fail
              go_quiet (exact ((HF _).out).mono fun _ _ h => ⟨h.1, _, h.2⟩)
              go_wp2_with fail
              go_roundw
              case rel => exact ⟨k + 1, by omega, by go_num, below_drewN hbm _⟩
              case measure => first | (simp [intOf]; done) | (simp [intOf]; omega)
        · obtain ⟨bb, o, c', e1, hbB, hc⟩ := HU5.out.at_ (by omega)
          cases e1
          have hcu := (hbk.cell (p := ⟨bb, o + j, none⟩) hbB).trans (hc j _ (strsV_at row j hjl))
          have HS := Lib.hid (show ofL ((row.take (j + 1)).map halfL) = putL (ofL ((row.take j).map halfL)) (halfL row[j]) by rw [List.take_succ_eq_append_getElem hjl, List.map_append, List.map_singleton, ofL_snoc])
          have hxl := HRX.out _ (List.getElem_mem hjl)
          have hxm := hxl
          unfold maxLen at hxm
          have HPUT := Lib.hid (put_ref (w := wr.drew) HU.out (by omega) (halfL row[j]))
          rw [← HS.out, half_val] at HPUT
          clear hc hu
          generalize row[j] = x at *
          go_wp2_with fail
          refine wp_text (by kernel_rfl) (by kernel_rfl) ?_
          intro R hR
          go_wp2_with fail
          refine HPUT.out.mono ?_
          rintro e w6 ⟨v6, rfl, hv6, hb6⟩
          have hbk6 := hbk.trans ((below_drew_l hb6).mono hbk.size)
          have HV6 := Lib.hid hv6
          clear hv6
          go_wp2_with fail
          refine ⟨by simp [goodB, fits, plainPair, isSeqV, quiet, Act.eval], ?_⟩
          go_wp2_with fail
          go_roundw
          case rel => exact ⟨j + 1, by omega, by go_num, HV6.out, hbk6⟩
          case measure => first | (simp [intOf]; done) | (simp [intOf]; omega)
  · have HFEW := Lib.hid (few_is HV.out HXS.out hf)
    go_enter Try.func7, Try.ntmps7
    go_wp2_with fail
    refine HFEW.out.mono ?_
    rintro e w1 ⟨rfl, hb1⟩
    go_wp2_with fail
    refine (awake_walk _).mono ?_
    rintro e w2 ⟨rfl, hb2⟩
    go_wp2_with fail
    go_ret
    exact ⟨rfl, hb1.trans (hb2.mono hb1.size)⟩
end Go.Proofs.Ytlkoddohplcmnaa
