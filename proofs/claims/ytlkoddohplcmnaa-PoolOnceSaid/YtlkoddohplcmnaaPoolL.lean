/-
  Layer 17: the law PoolSorts, walked.
-/
import Derived.Test.YtlkoddohplcmnaaPoolK
namespace Go.Proofs.Ytlkoddohplcmnaa
open Go Go.RowKit Go.Maps Go.WideMaps

theorem refI_is {row : Row} {x : List UInt8} (h : x ∈ row) : refI row x = (idx row x : Nat) := by unfold refI; rw [if_pos h]

set_option maxRecDepth 10000 in
set_option maxHeartbeats 2000000 in
theorem sorts_walk (w : World) (v : Value) (l : Row) (hv : Strs w w.heap.size v l) (hxs : ∀ y ∈ l, y.length ≤ maxLen) :
    Calls Try.prog 4 #[v] w fun e w' => e = .returned (.bool true) ∧ Below w.heap.size w w' := by
  have HV := Lib.hid hv
  have HXS := Lib.hid hxs
  obtain ⟨A, c, rfl, hlc, hcm⟩ := strs_len hv
  unfold maxLen at hcm
  clear hv hxs
  rcases Bool.eq_false_or_eq_true (fewB l) with hf | hf
  · have HFEW := Lib.hid (few_is HV.out HXS.out hf)
    have hl60 := (fewB_spec hf).1
    obtain ⟨row, hrow⟩ : ∃ row, ofL l = row := ⟨_, rfl⟩
    have hr60 : row.length ≤ 60 := by have := ofL_len l; rw [hrow] at this; omega
    have HROW := Lib.hid hrow
    clear hrow hf
    go_enter Try.func4, Try.ntmps4
    go_wp2_with fail
    refine HFEW.out.mono ?_
    rintro e w1 ⟨rfl, hb1⟩
    go_wp2_with fail
    refine (new_any ((HV.out.below hb1).more hb1.size) HXS.out (by omega)).mono ?_
    rintro e w2 ⟨pb, rfl, hp2, hb2⟩
    rw [HROW.out] at hp2
    have HP2 := Lib.hid hp2
    have hbel2 := hb1.trans (hb2.mono hb1.size)
    clear hp2 hb1 hb2
    go_wp2_with fail
    refine (sorted_any HP2.out (by omega)).mono ?_
    rintro e w3 ⟨⟨sb, pv, rfl, hp3, hpv3⟩, hb3⟩
    have HS3 := Lib.hid hp3
    have HPV3 := Lib.hid hpv3
    obtain ⟨PA, pc, rfl⟩ := hpv3.form
    have hbel3 := hbel2.trans (hb3.mono hbel2.size)
    clear hp3 hpv3
    go_wp2_with fail
    refine (of_ref ((HV.out.below hbel3).more hbel3.size) (by omega)).mono ?_
    rintro e w4 ⟨u4, rfl, hu4, hb4⟩
    rw [HROW.out] at hu4
    have HU4 := Lib.hid hu4
    have hbel4 := hbel3.trans (hb4.mono hbel3.size)
    obtain ⟨UA, uc, rfl, -, -⟩ := strs_len hu4
    clear hu4
    go_wp2_with fail
    refine (sorted_ref HU4.out (by omega)).mono ?_
    rintro e w5 ⟨u5, rfl, hu5, hb5⟩
    rw [refSort_sort] at hu5
    have HU5 := Lib.hid hu5
    have hbel5 := hbel4.trans (hb5.mono hbel4.size)
    obtain ⟨WA, wc, hwe, -, -⟩ := strs_len hu5
    rw [sortL_len] at hwe
    subst hwe
    have h35 := hb4.trans (hb5.mono hb4.size)
    clear hu5
    go_wp2_with fail
    refine (same_is (HS3.out.later h35) HU5.out).mono ?_
    rintro e w6 ⟨rfl, hb6⟩
    have hbel6 := hbel5.trans (hb6.mono hbel5.size)
    have h36 := h35.trans (hb6.mono h35.size)
    have h46 := hb5.trans (hb6.mono hb5.size)
    go_wp2_with fail
    refine (same_is ((HP2.out.later hb3).later h36) ((HU4.out.below h46).more h46.size)).mono ?_
    rintro e w7 ⟨rfl, hb7⟩
    have hbel7 := hbel6.trans (hb7.mono hbel6.size)
    have h37 := h36.trans (hb7.mono h36.size)
    have h47 := h46.trans (hb7.mono h46.size)
    have h57 := hb6.trans (hb7.mono hb6.size)
    have HPV7 := Lib.hid ((HPV3.out.below h37).more h37.size)
    have HU7 := Lib.hid ((HU4.out.below h47).more h47.size)
    have HW7 := Lib.hid ((HU5.out.below h57).more h57.size)
    clear h35 h36 h37 h46 h47 h57 hb3 hb4 hb5 hb6 hb7 HPV3 HU4 HU5 HS3 HP2
    go_wp2_with fail
    go_loopw [8] (fun i wr => ∃ k : Nat, k ≤ row.length ∧ i = .int .i64 k ∧ Below w7.heap.size w7 wr) (fun i _ => row.length - (intOf i).toNat)
    case atStart => exact ⟨0, by omega, rfl, Below.refl _ _⟩
    case round =>
      obtain ⟨k, hk, rfl, hbk⟩ := hrel
      rcases (show k = row.length ∨ k < row.length by omega) with hke | hkl
      · subst hke
        go_wp2_with fail
        refine (awake_walk _).mono ?_
        rintro e w8 ⟨rfl, hb8⟩
        go_wp2_with fail
        go_ret
        have hbel8 := hbel7.trans (hbk.mono hbel7.size)
        exact ⟨rfl, hbel8.trans (hb8.mono hbel8.size)⟩
      · obtain ⟨bb, o, c', e1, hbB, hc⟩ := HU7.out.at_ (by omega)
        cases e1
        have hcu := (hbk.cell (p := ⟨bb, o + k, none⟩) hbB).trans (hc k _ (strsV_at row k hkl))
        obtain ⟨pbk, po, c', e1, hpB, hpc⟩ := HPV7.out.at_ (by omega)
        cases e1
        have hcp := (hbk.cell (p := ⟨pbk, po + k, none⟩) hpB).trans (hpc k (.int .i64 (idx (sortL row) row[k] : Nat)) (by simp [hkl]))
        have hmem : row[k] ∈ sortL row := mem_sortL.2 (List.getElem_mem hkl)
        have hidx := idx_lt hmem
        rw [sortL_len] at hidx
        have HF : ∀ q, Hid (Calls Try.prog 14 #[.slice WA row.length wc, str row[k]] (wr.drewN q) fun e w' => e = .returned (.int .i64 (idx (sortL row) row[k] : Nat)) ∧ w' = wr.drewN q) := fun q => by
          have h1 := (HW7.out.below (below_drewN hbk q)).more (below_drewN hbk q).size
          have h2 := find_ref0 h1 (by rw [sortL_len]; omega) row[k]
          rw [refI_is hmem] at h2
          exact h2
        clear hc hpc hmem
        generalize idx (sortL row) row[k] = z at *
        generalize row[k] = x at *
        go_wp2_with fail
        go_quiet (exact ((HF _).out).mono fun _ _ h => ⟨h.1, _, h.2⟩)
        go_wp2_with fail
        go_roundw
        case rel => exact ⟨k + 1, by omega, by go_num, below_drewN hbk _⟩
        case measure => first | (simp [intOf]; done) | (simp [intOf]; omega)
  · have HFEW := Lib.hid (few_is HV.out HXS.out hf)
    go_enter Try.func4, Try.ntmps4
    go_wp2_with fail
    refine HFEW.out.mono ?_
    rintro e w1 ⟨rfl, hb1⟩
    go_wp2_with fail
    refine (awake_walk _).mono ?_
    rintro e w2 ⟨rfl, hb2⟩
    go_wp2_with fail
    go_ret
    exact ⟨rfl, hb1.trans (hb2.mono hb1.size)⟩
end Go.Proofs.Ytlkoddohplcmnaa
