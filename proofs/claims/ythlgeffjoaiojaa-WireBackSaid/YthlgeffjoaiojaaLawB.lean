/-
  Layer 5: the law WireBack, walked.
-/
import Derived.Test.YthlgeffjoaiojaaLawN
import Derived.Test.YthlgeffjoaiojaaWMathB
namespace Go.Proofs.Ythlgeffjoaiojaa
open Go Go.RowKit

theorem own_more {w : World} {base : Nat} {e : TypeId} {v : Value} {a p : List UInt8} (h : w.ownsRow base e 1 v (a.length + p.length) (bytesV a ++ bytesV p)) : w.ownsRow base e 1 v (a ++ p).length (bytesV (a ++ p)) := by
  rw [bytesV_append, List.length_append]
  exact h
theorem drop_more {B p q : List UInt8} {k : Nat} (h : B.drop k = p ++ q) : B.drop (k + p.length) = q := by
  rw [← List.drop_drop, h, List.drop_left]
theorem wrote_int {j : Nat} {x : Int} (h : j % 3 = 0) : wrote j x = pcs (zig x) := by unfold wrote; rw [if_pos h]
theorem wrote_uint {j : Nat} {x : Int} (h : j % 3 = 1) : wrote j x = uintL x := by unfold wrote; rw [if_neg (by omega), if_pos h]
theorem wrote_fixed {j : Nat} {x : Int} (h : j % 3 = 2) : wrote j x = fixedB x 8 := by unfold wrote; rw [if_neg (by omega), if_neg (by omega)]
theorem wrote_neg {j : Nat} {x : Int} (h : j % 3 ≠ 0) (hx : x < 0) : wrote j x = [] := by
  rcases (show j % 3 = 1 ∨ j % 3 = 2 by omega) with h1 | h1
  · rw [wrote_uint h1, uintL_neg hx]
  · rw [wrote_fixed h1, fixedB_none]; unfold fixedOk; simp; omega

set_option maxRecDepth 4000 in
set_option maxHeartbeats 1000000 in
theorem back_walk (w : World) (v : Value) (l : List Int) (u : Value) (more : List UInt8) (hv : Ints w w.heap.size v l) (hz : ∀ q ∈ l, Wide q) (hu : Bytes w w.heap.size u more) :
    Calls Try.prog 6 #[v, u] w fun e w' => e = .returned (.bool true) ∧ Below w.heap.size w w' := by
  obtain ⟨i0, hi, hz0, hz1, hz2⟩ := info_parts infoByte
  obtain ⟨A, c, rfl, hlc, hcm, -, hA⟩ := hv
  obtain ⟨A2, c2, rfl, hlc2, hcm2⟩ := hu.form
  unfold maxLen at hcm hcm2
  have HU := Lib.hid hu
  have HA := Lib.hid hA
  have HZ := Lib.hid hz
  clear hu hA hz
  by_cases hbig : l.length ≤ 40 ∧ more.length ≤ 100
  · obtain ⟨h40, h100⟩ := hbig
    go_enter Try.func6, Try.ntmps6
    go_wp2_with fail
    go_loopw [5, 6] (fun vv i wr => ∃ (j : Nat) (acc : List UInt8), j ≤ l.length ∧ i = .int .i64 j ∧ acc ++ wroteAll j (l.drop j) = wroteAll 0 l ∧ acc.length ≤ 10 * j ∧ wr.ownsRow w.heap.size 5 1 vv acc.length (bytesV acc) ∧ Below w.heap.size w wr) (fun _ i _ => l.length - (intOf i).toNat)
    case atStart => exact ⟨0, [], by omega, rfl, rfl, by simp, World.ownsRow_nil _ _ _ _, Below.refl _ _⟩
    case round =>
      obtain ⟨j, acc, hj, rfl, hacc, hal, hown, hbel⟩ := hrel
      have HAcc := Lib.hid hacc
      clear hacc
      rcases (show j = l.length ∨ j < l.length by omega) with hje | hjl
      · subst hje
        have hacc' : acc = wroteAll 0 l := by
          have h := HAcc.out
          rw [List.drop_length] at h
          simpa [wroteAll] using h
        have HAC := Lib.hid hacc'
        clear hacc'
        have hs := hbel.size
        have hUB := HU.out.below hbel
        have hvb : Bytes wr wr.heap.size u5 acc := bytes_of_own hown rfl
        obtain ⟨A5, c5, rfl, -, -⟩ := hvb.form
        clear hvb
        go_wp2_with (at_builtin; refine wpList_append_sl rfl _ _ 22 rfl w.heap.size 5 i0 (.int .u8 0) 1 1 Try.underlying22 hi hz0 hz1 hz2 rfl (by decide) (.slice A5 acc.length c5) acc.length (bytesV acc) rfl hown (.slice A2 more.length c2) w.heap.size more.length (bytesV more) rfl hUB (bytesV_one' _) (by unfold maxLen; omega) (by omega) hs ?_; intro v6 w6 hown6 hgrow6)
        have hbel6 : Below w.heap.size w w6 := hbel.grown hgrow6 hs (fun g hg => (hown.lt g hg).1)
        have hvb6 : Bytes w6 w6.heap.size v6 (acc ++ more) := bytes_of_own (own_more hown6) rfl
        obtain ⟨A6, c6, rfl, -, -⟩ := hvb6.form
        clear hown6 hgrow6 hown hUB
        go_wp2_with fail
        refine (new_any hvb6).mono ?_
        rintro e w7 ⟨rfl, hc7, hb7⟩
        have hbel7 := hbel6.trans (hb7.mono hbel6.size)
        have HC7 := Lib.hid hc7
        have hs6 := hbel6.size
        clear hvb6 hc7 hb7
        obtain ⟨B, hB⟩ : ∃ B, acc ++ more = B := ⟨_, rfl⟩
        have HBE := Lib.hid hB
        have hBl : B.length = acc.length + more.length := by rw [← hB, List.length_append]
        rw [hB] at HC7
        clear hB
        go_wp2_with fail
        go_loopw [9] (fun i wr => ∃ j k : Nat, j ≤ l.length ∧ i = .int .i64 j ∧ Cur wr w6.heap.size B k 0 ∧ B.drop k = wroteAll j (l.drop j) ++ more ∧ Below w.heap.size w wr) (fun i _ => l.length - (intOf i).toNat)
        case atStart => exact ⟨0, 0, by omega, rfl, HC7.out, by rw [List.drop_zero, ← HBE.out, HAC.out]; rfl, hbel7⟩
        case round =>
          obtain ⟨j, k, hj, rfl, hcur, hdrop, hbel⟩ := hrel
          have HDR := Lib.hid hdrop
          have HCUR := Lib.hid hcur
          have hkB : k ≤ B.length := by obtain ⟨_, _, _, _, h⟩ := hcur; exact h
          clear hdrop hcur
          rcases (show j = l.length ∨ j < l.length by omega) with hje | hjl
          · subst hje
            have hd : B.drop k = more := by
              have h := HDR.out
              rw [List.drop_length] at h
              simpa [wroteAll] using h
            have hkl : k = acc.length := by
              have h := congrArg List.length hd
              rw [List.length_drop] at h
              omega
            subst hkl
            have HB2 := Lib.hid (curBytes_any HCUR.out (by omega) (more.length : Int) (by omega))
            have hans : ansBytes (more.length : Int) (B.drop acc.length) = (0, more.length, 0) := by
              unfold ansBytes
              rw [hd, if_neg (by omega), if_neg (by omega)]
              rfl
            have hcut : cutN (more.length : Int) 0 (B.drop acc.length) = more := by
              unfold cutN
              rw [hans, hd, if_pos ⟨rfl, rfl⟩]
              simp
            have hsk : stepK 0 (0, more.length, 0) acc.length = B.length := by unfold stepK; rw [if_pos ⟨rfl, rfl⟩, hBl]
            rw [hans, hcut, hsk] at HB2
            clear hd hans hcut hsk
            go_wp2_with fail
            refine (cur_at HCUR.out).mono ?_
            rintro e w8 ⟨rfl, rfl⟩
            go_wp2_with fail
            refine (cur_err HCUR.out).mono ?_
            rintro e w8 ⟨rfl, rfl⟩
            go_wp2_with fail
            refine HB2.out.mono ?_
            rintro e w8 ⟨⟨A8, N8, rfl, hX8⟩, hc8, hb8⟩
            have hbel8 := hbel.trans (hb8.mono hbel6.size)
            have HC8 := Lib.hid hc8
            have HX8 := Lib.hid (hX8.more (Nat.le_of_lt (cur_size hc8)))
            have HM8 := Lib.hid ((HU.out.below hbel8).more hbel8.size)
            clear hX8 hc8
            go_wp2_with fail
            refine (bytes_same _ _ _ _ HX8.out HM8.out).mono ?_
            rintro e w9 ⟨rfl, hb9⟩
            have hbel9 := hbel8.trans (hb9.mono hbel8.size)
            have HC9 := Lib.hid (HC8.out.belowC hb9 (cur_size HC8.out))
            go_wp2_with fail
            refine (cur_left HC9.out (by omega)).mono ?_
            rintro e w10 ⟨rfl, nq, rfl⟩
            have hbel10 := below_drewN hbel9 nq
            have hzz : ((B.length : Int) - (B.length : Int) == 0) = true := by rw [beq_iff_eq]; omega
            rw [show ((B.length : Int) - (B.length : Int)) = 0 by omega]
            go_wp2_with fail
            refine (awake_walk _).mono ?_
            rintro e w12 ⟨rfl, hb12⟩
            go_wp2_with fail
            go_ret
            exact ⟨rfl, hbel10.trans (hb12.mono hbel10.size)⟩
          · obtain ⟨bb, oo, hAe, hbB, hc⟩ := HA.out (by omega)
            subst hAe
            have hcx := (hbel.cell (p := ⟨bb, oo + j, none⟩) hbB).trans (hc j _ (intsV_at l j hjl))
            have hdr := HDR.out
            rw [wroteAll_drop hjl, List.append_assoc] at hdr
            obtain ⟨x, hx⟩ : ∃ x, l[j] = x := ⟨_, rfl⟩
            have hwx : Wide x := by rw [← hx]; exact HZ.out _ (List.getElem_mem hjl)
            rw [hx] at hcx hdr
            have hnext := drop_more hdr
            unfold Wide at hwx
            clear hc hx
            rcases (show j % 3 = 0 ∨ (j % 3 ≠ 0 ∧ x < 0) ∨ (j % 3 = 1 ∧ 0 ≤ x) ∨ (j % 3 = 2 ∧ 0 ≤ x) by omega) with h3 | ⟨h3, hx0⟩ | ⟨h3, hx0⟩ | ⟨h3, hx0⟩
            · have h3i : (j : Int) % 3 = 0 := by omega
              rw [wrote_int h3] at hdr hnext
              have HG := Lib.hid (curInt_any HCUR.out (by omega))
              have hans := ans_int x hwx (wroteAll (j + 1) (l.drop (j + 1)) ++ more)
              rw [← hdr] at hans
              generalize pcs (zig x) = p at *
              have hsn : stepN 0 (0, p.length, x) = x := rfl
              have hsk : stepK 0 (0, p.length, x) k = k + p.length := by unfold stepK; rw [if_pos ⟨rfl, rfl⟩]
              have hse : stepE 0 (0, p.length, x) = 0 := rfl
              rw [hans, hsn, hsk, hse] at HG
              have HNX := Lib.hid hnext
              clear hsn hsk hse hans hdr hnext h3
              go_wp2_with fail
              refine HG.out.mono ?_
              rintro e w8 ⟨rfl, hc8, hb8⟩
              have hbel8 := hbel.trans (hb8.mono hbel6.size)
              have hcx8 := (hbel8.cell (p := ⟨bb, oo + j, none⟩) hbB).trans ((hbel.cell (p := ⟨bb, oo + j, none⟩) hbB).symm.trans hcx)
              have HC8 := Lib.hid hc8
              clear hc8
              go_wp2_with fail
              go_roundw
              case rel => exact ⟨j + 1, k + p.length, by omega, by go_num, HC8.out, HNX.out, hbel8⟩
              case measure => first | (simp [intOf]; done) | (simp [intOf]; omega)
            · have h3i : ((j : Int) % 3 != 0) = true := by rw [bne_iff_ne]; omega
              rw [wrote_neg h3 hx0, List.length_nil, Nat.add_zero] at hnext
              have HNX := Lib.hid hnext
              clear hnext hdr
              go_wp2_with fail
              go_roundw
              case rel => exact ⟨j + 1, k, by omega, by go_num, HCUR.out, HNX.out, hbel⟩
              case measure => first | (simp [intOf]; done) | (simp [intOf]; omega)
            · have h3i : (j : Int) % 3 = 1 := by omega
              rw [wrote_uint h3] at hdr hnext
              have HG := Lib.hid (curUint_any HCUR.out (by omega))
              have hans := ans_uint x ⟨hx0, hwx.2⟩ (wroteAll (j + 1) (l.drop (j + 1)) ++ more)
              rw [← hdr] at hans
              generalize uintL x = p at *
              have hsn : stepN 0 (0, p.length, x) = x := rfl
              have hsk : stepK 0 (0, p.length, x) k = k + p.length := by unfold stepK; rw [if_pos ⟨rfl, rfl⟩]
              have hse : stepE 0 (0, p.length, x) = 0 := rfl
              rw [hans, hsn, hsk, hse] at HG
              have HNX := Lib.hid hnext
              clear hsn hsk hse hans hdr hnext h3
              go_wp2_with fail
              refine HG.out.mono ?_
              rintro e w8 ⟨rfl, hc8, hb8⟩
              have hbel8 := hbel.trans (hb8.mono hbel6.size)
              have hcx8 := (hbel8.cell (p := ⟨bb, oo + j, none⟩) hbB).trans ((hbel.cell (p := ⟨bb, oo + j, none⟩) hbB).symm.trans hcx)
              have HC8 := Lib.hid hc8
              clear hc8
              go_wp2_with fail
              go_roundw
              case rel => exact ⟨j + 1, k + p.length, by omega, by go_num, HC8.out, HNX.out, hbel8⟩
              case measure => first | (simp [intOf]; done) | (simp [intOf]; omega)
            · have h3i : (j : Int) % 3 = 2 := by omega
              rw [wrote_fixed h3] at hdr hnext
              have HG := Lib.hid (curFixed_any HCUR.out (by omega) 8 (by decide))
              have hans := ans_fixed x ⟨hx0, hwx.2⟩ (wroteAll (j + 1) (l.drop (j + 1)) ++ more)
              rw [← hdr] at hans
              generalize fixedB x 8 = p at *
              have hsn : stepN 0 (0, p.length, x) = x := rfl
              have hsk : stepK 0 (0, p.length, x) k = k + p.length := by unfold stepK; rw [if_pos ⟨rfl, rfl⟩]
              have hse : stepE 0 (0, p.length, x) = 0 := rfl
              rw [hans, hsn, hsk, hse] at HG
              have HNX := Lib.hid hnext
              clear hsn hsk hse hans hdr hnext h3
              go_wp2_with fail
              refine HG.out.mono ?_
              rintro e w8 ⟨rfl, hc8, hb8⟩
              have hbel8 := hbel.trans (hb8.mono hbel6.size)
              have hcx8 := (hbel8.cell (p := ⟨bb, oo + j, none⟩) hbB).trans ((hbel.cell (p := ⟨bb, oo + j, none⟩) hbB).symm.trans hcx)
              have HC8 := Lib.hid hc8
              clear hc8
              go_wp2_with fail
              go_roundw
              case rel => exact ⟨j + 1, k + p.length, by omega, by go_num, HC8.out, HNX.out, hbel8⟩
              case measure => first | (simp [intOf]; done) | (simp [intOf]; omega)
      · obtain ⟨bb, oo, hAe, hbB, hc⟩ := HA.out (by omega)
        subst hAe
        have hcx := (hbel.cell (p := ⟨bb, oo + j, none⟩) hbB).trans (hc j _ (intsV_at l j hjl))
        obtain ⟨x, hx⟩ : ∃ x, l[j] = x := ⟨_, rfl⟩
        have hwx : Wide x := by rw [← hx]; exact HZ.out _ (List.getElem_mem hjl)
        rw [hx] at hcx
        have HX := Lib.hid hx
        have HWX := Lib.hid hwx
        clear hc hx hwx
        rcases (show j % 3 = 0 ∨ j % 3 = 1 ∨ j % 3 = 2 by omega) with h3 | h3 | h3
        · have h3i : (j : Int) % 3 = 0 := by omega
          have HWR : Hid (wrote j l[j] = pcs (zig x)) := by show _ = _; rw [HX.out, wrote_int h3]
          have HCL := fun ww => Lib.hid (int_any x HWX.out ww)
          clear h3
          go_wp2_with fail
          refine (HCL _).out.mono ?_
          rintro e w4 ⟨v4, rfl, hv4, hb4⟩
          rw [← HWR.out] at hv4
          have hown4 := own_below hown (hb4.mono (Nat.le_refl _))
          have hbel4 := hbel.trans (hb4.mono hbel.size)
          have hs4 := hbel4.size
          have hpl := wrote_len j l[j] (HZ.out _ (List.getElem_mem hjl))
          go_wp2_with (at_builtin; refine wpList_append_sl rfl _ _ 22 rfl w.heap.size 5 i0 (.int .u8 0) 1 1 Try.underlying22 hi hz0 hz1 hz2 rfl (by decide) u5 acc.length (bytesV acc) rfl hown4 v4 w4.heap.size (wrote j l[j]).length (bytesV (wrote j l[j])) rfl hv4 (bytesV_one' _) (by unfold maxLen; omega) (by omega) hs4 ?_; intro v5 w5 hown5 hgrow5)
          go_roundw
          case rel =>
            refine ⟨j + 1, acc ++ wrote j l[j], by omega, by go_num, ?_, by rw [List.length_append]; omega, own_more hown5, ?_⟩
            · rw [List.append_assoc, ← wroteAll_drop hjl]; exact HAcc.out
            · exact hbel4.grown hgrow5 hs4 (fun g hg => (hown4.lt g hg).1)
          case measure => first | (simp [intOf]; done) | (simp [intOf]; omega)
        · have h3i : (j : Int) % 3 = 1 := by omega
          have HWR : Hid (wrote j l[j] = uintL x) := by show _ = _; rw [HX.out, wrote_uint h3]
          have HCL := fun ww => Lib.hid (uint_any x HWX.out ww)
          clear h3
          go_wp2_with fail
          refine (HCL _).out.mono ?_
          rintro e w4 ⟨v4, rfl, hv4, hb4⟩
          rw [← HWR.out] at hv4
          have hown4 := own_below hown (hb4.mono (Nat.le_refl _))
          have hbel4 := hbel.trans (hb4.mono hbel.size)
          have hs4 := hbel4.size
          have hpl := wrote_len j l[j] (HZ.out _ (List.getElem_mem hjl))
          go_wp2_with (at_builtin; refine wpList_append_sl rfl _ _ 22 rfl w.heap.size 5 i0 (.int .u8 0) 1 1 Try.underlying22 hi hz0 hz1 hz2 rfl (by decide) u5 acc.length (bytesV acc) rfl hown4 v4 w4.heap.size (wrote j l[j]).length (bytesV (wrote j l[j])) rfl hv4 (bytesV_one' _) (by unfold maxLen; omega) (by omega) hs4 ?_; intro v5 w5 hown5 hgrow5)
          go_roundw
          case rel =>
            refine ⟨j + 1, acc ++ wrote j l[j], by omega, by go_num, ?_, by rw [List.length_append]; omega, own_more hown5, ?_⟩
            · rw [List.append_assoc, ← wroteAll_drop hjl]; exact HAcc.out
            · exact hbel4.grown hgrow5 hs4 (fun g hg => (hown4.lt g hg).1)
          case measure => first | (simp [intOf]; done) | (simp [intOf]; omega)
        · have h3i : (j : Int) % 3 = 2 := by omega
          have HWR : Hid (wrote j l[j] = fixedB x 8) := by show _ = _; rw [HX.out, wrote_fixed h3]
          have HCL := fun ww => Lib.hid (fixed_any x 8 HWX.out (by decide) ww)
          clear h3
          go_wp2_with fail
          refine (HCL _).out.mono ?_
          rintro e w4 ⟨v4, rfl, hv4, hb4⟩
          rw [← HWR.out] at hv4
          have hown4 := own_below hown (hb4.mono (Nat.le_refl _))
          have hbel4 := hbel.trans (hb4.mono hbel.size)
          have hs4 := hbel4.size
          have hpl := wrote_len j l[j] (HZ.out _ (List.getElem_mem hjl))
          go_wp2_with (at_builtin; refine wpList_append_sl rfl _ _ 22 rfl w.heap.size 5 i0 (.int .u8 0) 1 1 Try.underlying22 hi hz0 hz1 hz2 rfl (by decide) u5 acc.length (bytesV acc) rfl hown4 v4 w4.heap.size (wrote j l[j]).length (bytesV (wrote j l[j])) rfl hv4 (bytesV_one' _) (by unfold maxLen; omega) (by omega) hs4 ?_; intro v5 w5 hown5 hgrow5)
          go_roundw
          case rel =>
            refine ⟨j + 1, acc ++ wrote j l[j], by omega, by go_num, ?_, by rw [List.length_append]; omega, own_more hown5, ?_⟩
            · rw [List.append_assoc, ← wroteAll_drop hjl]; exact HAcc.out
            · exact hbel4.grown hgrow5 hs4 (fun g hg => (hown4.lt g hg).1)
          case measure => first | (simp [intOf]; done) | (simp [intOf]; omega)
  · have hbig' : 40 < l.length ∨ l.length ≤ 40 ∧ 100 < more.length := by omega
    clear hbig
    rcases hbig' with h1 | ⟨h1, h2⟩ <;> (
      go_enter Try.func6, Try.ntmps6
      go_wp2_with fail
      refine (awake_walk _).mono ?_
      rintro e w12 ⟨rfl, hb12⟩
      go_wp2_with fail
      go_ret
      exact ⟨rfl, hb12⟩)
end Go.Proofs.Ythlgeffjoaiojaa
