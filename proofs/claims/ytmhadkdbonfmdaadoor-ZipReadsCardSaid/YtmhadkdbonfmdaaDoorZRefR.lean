/-
  The answers of layer 16's reference: Read, walked.
-/
import Derived.Test.YtmhadkdbonfmdaaDoorZRefP
namespace Go.Proofs.YtmhadkdbonfmdaaDoor
open Go Go.RowKit Go.Shelf
set_option maxRecDepth 100000

theorem results_tmp4 {fn : Func} {t u v x : Tmp} (h : fn.results = #[.tmp t, .tmp u, .tmp v, .tmp x]) (tmps : Array Value) (P : Program) (w : World) :
    (results fn tmps).run P w = .ok (.tuple #[tmps.getD t undef, tmps.getD u undef, tmps.getD v undef, tmps.getD x undef]) w := by
  simp [results, h]

set_option maxHeartbeats 1000000 in
theorem rnumber_any (w : World) (v : Value) (l : List UInt8) (hv : Bytes w w.heap.size v l) (at' size : Nat) (h : at' + size ≤ l.length) (hs : size ≤ 4) (hl : l.length ≤ 100000) :
    Calls Tryd.prog 37 #[v, .int .i64 at', .int .i64 size] w fun e w' => e = .returned (.int .i64 (fv l at' size : Nat)) ∧ w = w' := by
  obtain ⟨A, c, rfl, hlc, hcm, -, hA⟩ := hv
  have hA := Lib.hid hA
  unfold maxLen at hcm
  have HZ : Hid (num (cut l (at' + size) (size - size)) = 0) := by
    show _ = _
    rw [Nat.sub_self]
    rfl
  go_enter Tryd.func37, Tryd.ntmps37
  go_wp2_with fail
  go_loopw [7, 8] (fun n i wr => ∃ j : Nat, j ≤ size ∧ i = .int .i64 ((j : Int) - 1) ∧ n = .int .i64 (num (cut l (at' + j) (size - j)) : Nat) ∧ w = wr) (fun _ i _ => (intOf i + 1).toNat)
  case atStart => exact ⟨size, Nat.le_refl _, rfl, by rw [HZ.out]; rfl, rfl⟩
  case round =>
    obtain ⟨j, hj, rfl, rfl, rfl⟩ := hrel
    rcases Nat.eq_zero_or_pos j with h0 | h0
    · subst h0
      have HE : Hid (num (cut l (at' + 0) (size - 0)) = fv l at' size) := rfl
      go_wp2_with fail
      go_ret
      exact ⟨ret_int (by rw [HE.out]), rfl⟩
    · obtain ⟨i, rfl⟩ : ∃ i, j = i + 1 := ⟨j - 1, by omega⟩
      obtain ⟨b, o, rfl, hbB, hc⟩ := hA.out (by omega)
      have hin : at' + i < l.length := by omega
      have hcell := hc (at' + i) _ (bytesV_at l _ hin)
      have HST : Hid (num (cut l (at' + i) (size - i)) = (l[at' + i]).toNat + 256 * num (cut l (at' + (i + 1)) (size - (i + 1)))) := by
        have e : size - i = size - (i + 1) + 1 := by omega
        show _ = _
        rw [e]
        exact num_step l (at' + i) (size - (i + 1)) (by omega)
      have hnl : num (cut l (at' + (i + 1)) (size - (i + 1))) < 256 ^ 3 := Nat.lt_of_lt_of_le (fv_lt l (at' + (i + 1)) (size - (i + 1))) (Nat.pow_le_pow_right (by decide) (by omega))
      have hx := (l[at' + i]).toNat_lt
      clear hc
      generalize num (cut l (at' + (i + 1)) (size - (i + 1))) = n at *
      generalize (l[at' + i]).toNat = x at *
      have e1 : ((i + 1 : Nat) : Int) - 1 = (i : Int) := by omega
      rw [e1]
      go_wp2_with fail
      go_roundw
      case rel => exact ⟨i, by omega, by go_num, by rw [HST.out]; go_num, trivial⟩
      case measure => first | (simp [intOf]; done) | (simp [intOf]; omega)

theorem window_at {w : World} {B b o c k n : Nat} {l : List UInt8} (h : Bytes w B (.slice (some ⟨b, o, none⟩) l.length c) l) (hkn : k + n ≤ l.length) (hlc : l.length ≤ c) (hm : c ≤ maxLen) :
    ∃ ad : Addr, (if c = k then some (⟨b, o, none⟩ : Addr) else some ⟨b, o + k, none⟩) = some ad ∧ Bytes w B (.slice (some ad) n (c - k)) (cut l k n) := by
  have h1 := bytes_window' (k := k) (n := n) (c' := c - k) h hkn (by omega) (by omega)
  by_cases hc : c = k
  · obtain rfl : n = 0 := by omega
    have : cut l k 0 = [] := by simp [cut]
    rw [this]
    exact ⟨⟨b, o, none⟩, if_pos hc, bytes_empty (by omega)⟩
  · exact ⟨⟨b, o + k, none⟩, if_neg hc, h1⟩

set_option maxHeartbeats 4000000 in
theorem rread_any (w : World) (v : Value) (l : List UInt8) (hv : Bytes w w.heap.size v l) (hl : l.length ≤ 2000) :
    Calls Tryd.prog 18 #[v] w fun e w' => (∃ a b c is, e = .returned (.tuple #[a, b, c, .bool is]) ∧ (is = false → ¬ IsFile l) ∧
      (is = true → ∃ ts, Good ts ∧ l = fileL ts ∧ Sl w' w'.heap.size 1 a ts.length (strsV (ts.map (·.1))) ∧ Datas w' w'.heap.size b (ts.map (·.2.1)) ∧ Sl w' w'.heap.size 1 c ts.length (natsV (ts.map (·.2.2))))) ∧ Below w.heap.size w w' := by
  obtain ⟨i1, hi1, hz1, hs1, hb1⟩ := info_parts infoStr
  obtain ⟨i2, hi2, hz2, hs2, hb2⟩ := info_parts infoInt
  obtain ⟨i3, hi3, hz3, hs3, hb3⟩ := info_parts infoBs
  obtain ⟨A, c, rfl, hlc, hcm⟩ := hv.form
  have hcM := hcm
  unfold maxLen at hcm
  have HV := Lib.hid hv
  have HNUM : ∀ W, Below w.heap.size w W → ∀ a s : Nat, a + s ≤ l.length → s ≤ 4 → Hid (Calls Tryd.prog 37 #[.slice A l.length c, .int .i64 a, .int .i64 s] W fun e w' => e = .returned (.int .i64 (fv l a s : Nat)) ∧ W = w') := fun W hW a s h1 h2 =>
    rnumber_any W _ l ((hv.below hW).more hW.size) a s h1 h2 (by omega)
  clear hv
  go_enter Tryd.func18, Tryd.ntmps18
  go_wp2_with fail
  go_loopw [6, 7, 8, 9, 10] (fun x y z u at' wr => ∃ (ts : List Tri) (dvs : List Value), RdI l ts ∧ at' = .int .i64 (tot ts : Nat) ∧ wr.ownsRow w.heap.size 9 1 x ts.length (strsV (ts.map (·.1))) ∧ wr.ownsRow w.heap.size 32 1 y ts.length dvs ∧ wr.ownsRow w.heap.size 3 1 z ts.length (natsV (ts.map (·.2.2))) ∧ wr.ownsRow w.heap.size 3 1 u ts.length (natsV (ts.map fun t => t.2.1.length))
    ∧ (∀ (i : Nat) (h : i < ts.length), ∃ dv, dvs[i]? = some dv ∧ Bytes w w.heap.size dv (ts[i]).2.1) ∧ Apart x y ∧ Apart x z ∧ Apart x u ∧ Apart y z ∧ Apart y u ∧ Apart z u ∧ Below w.heap.size w wr) (fun _ _ _ _ at' _ => l.length - (intOf at').toNat)
  case atStart => exact ⟨[], [], rdI_nil l, rfl, World.ownsRow_nil _ _ _ _, World.ownsRow_nil _ _ _ _, World.ownsRow_nil _ _ _ _, World.ownsRow_nil _ _ _ _, fun i h => absurd h (by simp), Apart.nil_left _, Apart.nil_left _, Apart.nil_left _, Apart.nil_left _, Apart.nil_left _, Apart.nil_left _, Below.refl _ _⟩
  case round =>
    obtain ⟨ts, dvs, hrd, rfl, hox, hoy, hoz, hou, hdv, apxy, apxz, apxu, apyz, apyu, apzu, hbel⟩ := hrel
    have hs := hbel.size
    have hle := hrd.le
    have hdr := hdAt_drop l (tot ts) hle
    obtain ⟨h66, hshort⟩ := hrd.short hl
    have HRD := Lib.hid hrd
    have HDV := Lib.hid hdv
    clear hrd hdv
    by_cases h30 : tot ts + 30 ≤ l.length ∧ fv l (tot ts) 4 = 67324752
    · obtain ⟨h30, hmark⟩ := h30
      obtain ⟨b, o, c', hve, hbB, -⟩ := Sl.at_ HV.out (by omega)
      cases hve
      have HPM := Lib.hid (pre_mark HRD.out.pre)
      have HST := Lib.hid (fun t => HRD.out.step (t := t))
      have hdr := Lib.hid hdr
      simp only [hmark, true_and, h30] at hdr
      generalize hkk : tot ts = k at *
      have HKK := Lib.hid hkk
      clear hkk
      have d30 : decide ((k : Int) + 30 ≤ (l.length : Int)) = true := by rw [decide_eq_true_eq]; omega
      have N0 := HNUM wr hbel k 4 (by omega) (by decide)
      have N1 : Hid (Calls Tryd.prog 37 #[.slice (some ⟨b, o, none⟩) l.length c, .int .i64 ((k : Int) + 14), .int .i64 4] wr fun e w' => e = .returned (.int .i64 (fv l (k + 14) 4 : Nat)) ∧ wr = w') := HNUM wr hbel (k + 14) 4 (by omega) (by decide)
      have N2 : Hid (Calls Tryd.prog 37 #[.slice (some ⟨b, o, none⟩) l.length c, .int .i64 ((k : Int) + 18), .int .i64 4] wr fun e w' => e = .returned (.int .i64 (fv l (k + 18) 4 : Nat)) ∧ wr = w') := HNUM wr hbel (k + 18) 4 (by omega) (by decide)
      have N3 : Hid (Calls Tryd.prog 37 #[.slice (some ⟨b, o, none⟩) l.length c, .int .i64 ((k : Int) + 26), .int .i64 2] wr fun e w' => e = .returned (.int .i64 (fv l (k + 26) 2 : Nat)) ∧ wr = w') := HNUM wr hbel (k + 26) 2 (by omega) (by decide)
      have l1 := fv_lt l (k + 14) 4
      have l2 := fv_lt l (k + 18) 4
      have l3 := fv_lt l (k + 26) 2
      rw [hmark] at N0
      have hmk := Lib.hid hmark
      clear hmark HNUM
      generalize fv l (k + 14) 4 = sum at *
      generalize fv l (k + 18) 4 = n at *
      generalize fv l (k + 26) 2 = m at *
      go_wp2_with fail
      refine N0.out.mono ?_
      rintro e ww ⟨rfl, rfl⟩
      go_wp2_with fail
      refine N1.out.mono ?_
      rintro e ww ⟨rfl, rfl⟩
      go_wp2_with fail
      refine N2.out.mono ?_
      rintro e ww ⟨rfl, rfl⟩
      go_wp2_with fail
      refine N3.out.mono ?_
      rintro e ww ⟨rfl, rfl⟩
      rcases Nat.lt_or_ge l.length (k + 30 + m + n) with hov | hin
      · go_wp2_with fail
        try simp only [Exit.inBlock, Exit.then]
        refine bodyPost_ret (results_tmp4 rfl _ _ _) rfl ?_
        exact ⟨⟨_, _, _, false, rfl, fun _ => HPM.out (by rw [hdr.out, if_neg (by omega)]) hmk.out, fun h => by cases h⟩, hbel⟩
      · have hT := hdr.out
        rw [if_pos (by omega)] at hT
        have HN := Lib.hid (HST.out _ hT)
        obtain ⟨ad, had, wn⟩ := window_at (k := k + 30) (n := m) (HV.out.below hbel) (by omega) hlc hcM
        have hrun := conv_string wn
        obtain ⟨ad2, had2, wd⟩ := window_at (k := k + 30 + m) (n := n) HV.out (by omega) hlc hcM
        have hln := cut_length (r := l) (a := k + 30) (n := m) (by omega)
        have hld := cut_length (r := l) (a := k + 30 + m) (n := n) (by omega)
        have hdl : dvs.length = ts.length := by have := hoy.1; omega
        clear hdr hT HPM HST N0 N1 N2 N3 wn
        generalize cut l (k + 30) m = nm at *
        generalize cut l (k + 30 + m) n = dt at *
        have tok1 : True := trivial
        have tok2 : True := trivial
        have tok3 : True := trivial
        go_wp2_with (first | (at_builtin; have _t := tok1; go_loud (refine wpList_append_sl_at rfl _ _ 25 rfl w.heap.size 9 i1 (.string ⟨#[]⟩) 1 16 Tryd.underlying25 hi1 hz1 hs1 hb1 rfl (by decide) u6 ts.length (strsV (ts.map (·.1))) rfl (hox.alloc _) (.slice (some ⟨wr.heap.size, 0, none⟩) 1 1) (wr.heap.size + 1) 1 [str nm] rfl (one_new _ _ _ _) (by simp [Value.oneCell']) (by unfold maxLen; omega) (by omega) (by simp; omega) ?_); intro v1 w1 hx1 grow1 loc1; clear tok1; have hoy1 := apxy.kept (hoy.alloc _) grow1; have hoz1 := apxz.kept (hoz.alloc _) grow1; have hou1 := apxu.kept (hou.alloc _) grow1; have a1y : Apart v1 u7 := apxy.moved (hoy.alloc _) loc1; have a1z : Apart v1 u8 := apxz.moved (hoz.alloc _) loc1; have a1u : Apart v1 u9 := apxu.moved (hou.alloc _) loc1; have hbel1 := (hbel.alloc hs _).grown grow1 (by simp; omega) (fun g hg => (hox.lt g hg).1); have s1 := hbel1.size; clear hox hoy hoz hou grow1 loc1) | (at_builtin; have _t := tok2; go_loud (refine wpList_append_sl_at rfl _ _ 27 rfl w.heap.size 32 i3 (.slice none 0 0) 1 24 Tryd.underlying27 hi3 hz3 hs3 hb3 rfl (by decide) u7 ts.length dvs rfl (hoy1.alloc _) (.slice (some ⟨w1.heap.size, 0, none⟩) 1 1) (w1.heap.size + 1) 1 [.slice (some ad2) n (c - (k + 30 + m))] rfl (one_new _ _ _ _) (by simp [Value.oneCell']) (by unfold maxLen; omega) (by omega) (by simp; omega) ?_); intro v2 w2 hy2 grow2 loc2; clear tok2; have hx2 := a1y.symm.kept (hx1.alloc _) grow2; have hoz2 := apyz.kept (hoz1.alloc _) grow2; have hou2 := apyu.kept (hou1.alloc _) grow2; have a21 : Apart v2 v1 := a1y.symm.moved (hx1.alloc _) loc2; have a2z : Apart v2 u8 := apyz.moved (hoz1.alloc _) loc2; have a2u : Apart v2 u9 := apyu.moved (hou1.alloc _) loc2; have hbel2 := (hbel1.alloc s1 _).grown grow2 (by simp; omega) (fun g hg => (hoy1.lt g hg).1); have s2 := hbel2.size; clear hx1 hoy1 hoz1 hou1 grow2 loc2) | (at_builtin; have _t := tok3; go_loud (refine wpList_append_sl_at rfl _ _ 26 rfl w.heap.size 3 i2 (.int .i64 0) 1 8 Tryd.underlying26 hi2 hz2 hs2 hb2 rfl (by decide) u8 ts.length (natsV (ts.map (·.2.2))) rfl (hoz2.alloc _) (.slice (some ⟨w2.heap.size, 0, none⟩) 1 1) (w2.heap.size + 1) 1 [.int .i64 sum] rfl (one_new _ _ _ _) (by simp [Value.oneCell']) (by unfold maxLen; omega) (by omega) (by simp; omega) ?_); intro v3 w3 hz3' grow3 loc3; clear tok3; have hx3 := a1z.symm.kept (hx2.alloc _) grow3; have hy3 := a2z.symm.kept (hy2.alloc _) grow3; have hou3 := apzu.kept (hou2.alloc _) grow3; have a31 : Apart v3 v1 := a1z.symm.moved (hx2.alloc _) loc3; have a32 : Apart v3 v2 := a2z.symm.moved (hy2.alloc _) loc3; have a3u : Apart v3 u9 := apzu.moved (hou2.alloc _) loc3; have hbel3 := (hbel2.alloc s2 _).grown grow3 (by simp; omega) (fun g hg => (hoz2.lt g hg).1); have s3 := hbel3.size; clear hx2 hy2 hoz2 hou2 grow3 loc3) | (at_builtin; go_loud (refine wpList_append_sl_at rfl _ _ 26 rfl w.heap.size 3 i2 (.int .i64 0) 1 8 Tryd.underlying26 hi2 hz2 hs2 hb2 rfl (by decide) u9 ts.length (natsV (ts.map fun t => t.2.1.length)) rfl (hou3.alloc _) (.slice (some ⟨w3.heap.size, 0, none⟩) 1 1) (w3.heap.size + 1) 1 [.int .i64 n] rfl (one_new _ _ _ _) (by simp [Value.oneCell']) (by unfold maxLen; omega) (by omega) (by simp; omega) ?_); intro v4 w4 hu4 grow4 loc4))
        have hx4 := a1u.symm.kept (hx3.alloc _) grow4
        have hy4 := a2u.symm.kept (hy3.alloc _) grow4
        have hz4 := a3u.symm.kept (hz3'.alloc _) grow4
        have a41 : Apart v4 v1 := a1u.symm.moved (hx3.alloc _) loc4
        have a42 : Apart v4 v2 := a2u.symm.moved (hy3.alloc _) loc4
        have a43 : Apart v4 v3 := a3u.symm.moved (hz3'.alloc _) loc4
        have hbel4 := (hbel3.alloc s3 _).grown grow4 (by simp; omega) (fun g hg => (hou3.lt g hg).1)
        go_roundw
        case rel =>
          refine ⟨ts ++ [(nm, dt, sum)], dvs ++ [.slice (some ad2) n (c - (k + 30 + m))], HN.out, ?_, ?_, ?_, ?_, ?_, fun i hi => ?_, a21.symm, a31.symm, a41.symm, a32.symm, a42.symm, a43.symm, hbel4⟩
          · rw [tot_snoc, HKK.out]
            simp only [sizeT, hln, hld]
            go_num
          · rw [List.length_append, List.map_append, strsV_append]; exact hx4
          · rw [List.length_append]; exact hy4
          · rw [List.length_append, List.map_append, natsV_append]; exact hz4
          · rw [List.length_append, List.map_append, natsV_append]; simpa [natsV, hld] using hu4
          · rw [List.length_append, List.length_singleton] at hi
            rcases Nat.lt_or_ge i ts.length with hc | hc
            · obtain ⟨dv, e1, e2⟩ := HDV.out i hc
              rw [List.getElem_append_left hc]
              exact ⟨dv, by rw [List.getElem?_append_left (by omega)]; exact e1, e2⟩
            · obtain rfl : i = ts.length := by omega
              refine ⟨_, by rw [List.getElem?_append_right (by omega), hdl, Nat.sub_self]; rfl, ?_⟩
              rw [List.getElem_append_right (Nat.le_refl _)]
              simpa using wd
        case measure => first | (simp [intOf]; done) | (simp [intOf]; omega)
    · have hn : hdAt (l.drop (tot ts)) = none := by rw [hdr, if_neg (fun h => h30 ⟨h.1, h.2.1⟩)]
      obtain ⟨hnot, hok⟩ := rd_end HRD.out hn
      have HX := Lib.hid (Sl.of_own hox)
      have HY : Hid (Datas wr wr.heap.size u7 (ts.map (·.2.1))) := ⟨dvs, by rw [List.length_map]; exact Sl.of_own hoy, fun i hi => by
        have hi' : i < ts.length := by simpa using hi
        obtain ⟨dv, e1, e2⟩ := HDV.out i hi'
        simp only [List.getElem_map]
        exact ⟨dv, e1, bytes_below e2 hbel⟩⟩
      have HZ := Lib.hid (Sl.of_own hoz)
      have HU := Sl.of_own hou
      have hfits := HRD.out.fits
      have HCHK : Hid (Calls Tryd.prog 11 #[u6, u9] wr fun e w' => e = .returned (.int .i64 (checkL (ts.map fun t => (t.1, t.2.1.length)) : Nat)) ∧ Below wr.heap.size wr w') :=
        Lib.hid (rcheck_any wr u6 u9 (ts.map fun (t : Tri) => (t.1, t.2.1.length)) (by rw [List.length_map, List.map_map]; exact HX.out) (by rw [List.length_map, List.map_map]; exact HU) (by rw [List.length_map]; omega)
          (fun x hx => by
            rw [List.map_map] at hx
            obtain ⟨t, ht, rfl⟩ := List.mem_map.1 hx
            have := (hfits t ht).2.2
            unfold maxLen
            simp only [Function.comp_apply]
            omega)
          (fun x hx => by
            rw [List.map_map] at hx
            obtain ⟨t, ht, rfl⟩ := List.mem_map.1 hx
            have := (hfits t ht).2.1
            simp only [Function.comp_apply]
            omega))
      have HFILE : ∀ W, Below wr.heap.size wr W → Hid (Calls Tryd.prog 15 #[u6, u7, u8] W (Rets fun v' w' => Bytes w' w'.heap.size v' (fileL ts) ∧ Below W.heap.size W w')) := fun W hW =>
        rfile_any W u6 u7 u8 ts ((HX.out.below hW).more hW.size) ((HY.out.below hW).more hW.size) ((HZ.out.below hW).more hW.size) hfits (by omega) (by omega)
      have HNOT := Lib.hid hnot
      have HOK := Lib.hid hok
      have h30' : decide ((tot ts : Int) + 30 ≤ (l.length : Int)) = false ∨ (tot ts + 30 ≤ l.length ∧ fv l (tot ts) 4 ≠ 67324752) := by
        by_cases h : tot ts + 30 ≤ l.length
        · exact .inr ⟨h, fun e => h30 ⟨h, e⟩⟩
        · left
          rw [decide_eq_false_iff_not]
          omega
      clear hnot hok hdr hn h30 hox hoy hoz hou HU HDV apxy apxz apxu apyz apyu apzu HRD
      obtain ⟨f, hf⟩ : ∃ f, fileL ts = f := ⟨_, rfl⟩
      rw [hf] at HOK hshort
      simp only [hf] at HFILE
      have HF := Lib.hid hf
      clear hf
      generalize checkL (ts.map fun t => (t.1, t.2.1.length)) = ck at *
      generalize hkk : tot ts = k at *
      clear hkk
      rcases h30' with d30 | ⟨d30, hmk⟩
      ·
        go_wp2_with fail
        refine HCHK.out.mono ?_
        rintro e w1 ⟨rfl, hb1⟩
        have hbel1 := hbel.trans (hb1.mono hs)
        by_cases hck : ck = 0
        rotate_left
        · have hne : ((ck : Int) != 0) = true := by rw [bne_iff_ne]; omega
          go_wp2_with fail
          try simp only [Exit.inBlock, Exit.then]
          refine bodyPost_ret (results_tmp4 rfl _ _ _) rfl ?_
          exact ⟨⟨_, _, _, false, rfl, fun _ => (HNOT.out hck), fun h => by cases h⟩, hbel1⟩
        · obtain ⟨hiff, hgood⟩ := HOK.out hck
          have HIFF := Lib.hid hiff
          have HG := Lib.hid hgood
          subst hck
          clear hiff hgood
          go_wp2_with fail
          refine (HFILE w1 hb1).out.mono ?_
          rintro e w2 ⟨v2, rfl, hv2, hb2⟩
          have hbel2 := hbel1.trans (hb2.mono hbel1.size)
          have hb12 := hb1.trans (hb2.mono hb1.size)
          obtain ⟨A2, c2, rfl, hf2, hf2m⟩ := hv2.form
          unfold maxLen at hf2m
          have HV2 := Lib.hid hv2
          clear hv2
          by_cases hlen : f.length = l.length
          rotate_left
          · have hne : ((f.length : Int) != (l.length : Int)) = true := by rw [bne_iff_ne]; omega
            go_wp2_with fail
            try simp only [Exit.inBlock, Exit.then]
            refine bodyPost_ret (results_tmp4 rfl _ _ _) rfl ?_
            exact ⟨⟨_, _, _, false, rfl, fun _ => (fun h => hlen (by rw [HIFF.out.1 h])), fun h => by cases h⟩, hbel2⟩
          · go_wp2_with fail
            obtain ⟨wo, rfl⟩ : ∃ wo : World, wo = w2 := ⟨_, rfl⟩
            go_loopw [15] (fun i wr' => ∃ j : Nat, j ≤ l.length ∧ i = .int .i64 j ∧ f.take j = l.take j ∧ Below wo.heap.size wo wr') (fun i _ => l.length - (intOf i).toNat)
            case atStart => exact ⟨0, by omega, rfl, rfl, Below.refl _ _⟩
            case round =>
              obtain ⟨j, hj, rfl, htk, hbw⟩ := hrel
              have hbelw := hbel2.trans (hbw.mono hbel2.size)
              have HTK := Lib.hid htk
              clear htk
              by_cases hjl : j < l.length
              · obtain ⟨b1, o1, c1', e1, hB1, hc1⟩ := Sl.at_ HV.out (by omega)
                cases e1
                obtain ⟨b2, o2, c2', e2, hB2, hc2⟩ := Sl.at_ HV2.out (by omega)
                cases e2
                have hjf : j < f.length := by omega
                have d1 := (hbelw.cell (p := ⟨b1, o1 + j, none⟩) hB1).trans (hc1 j _ (bytesV_at l j hjl))
                have d2 := (hbw.cell (p := ⟨b2, o2 + j, none⟩) hB2).trans (hc2 j _ (bytesV_at f j hjf))
                clear hc1 hc2
                have HTS := Lib.hid (fun h => take_eq_succ hjf hjl HTK.out h)
                have HNE : Hid (f[j].toNat ≠ l[j].toNat → f ≠ l) := fun h e => h (by simp only [e])
                have HEQ : Hid (f[j].toNat = l[j].toNat → f[j] = l[j]) := fun h => UInt8.toNat_inj.1 h
                have hx1 := (f[j]).toNat_lt
                have hx2 := (l[j]).toNat_lt
                generalize f[j] = x1 at *
                generalize l[j] = x2 at *
                generalize x1.toNat = y1 at *
                generalize x2.toNat = y2 at *
                by_cases hsame : y1 = y2
                · have hne : ((y1 : Int) != (y2 : Int)) = false := by rw [bne_eq_false_iff_eq]; omega
                  go_wp2_with fail
                  go_quiet (fail)
                  go_wp2_with fail
                  go_roundw
                  case rel => exact ⟨j + 1, by omega, by go_num, HTS.out (HEQ.out hsame), below_drewN hbw _⟩
                  case measure => first | (simp [intOf]; done) | (simp [intOf]; omega)
                · have hne : ((y1 : Int) != (y2 : Int)) = true := by rw [bne_iff_ne]; omega
                  go_wp2_with fail
                  go_quiet (fail)
                  go_wp2_with fail
                  try simp only [Exit.inBlock, Exit.then]
                  refine bodyPost_ret (results_tmp4 rfl _ _ _) rfl ?_
                  exact ⟨⟨_, _, _, false, rfl, fun _ => (fun h => HNE.out hsame (HIFF.out.1 h)), fun h => by cases h⟩, (below_drewN hbelw _)⟩
              · obtain rfl : j = l.length := by omega
                have hfl : f = l := by
                  have := HTK.out
                  rwa [List.take_length, ← hlen, List.take_length] at this
                have HFL := Lib.hid hfl
                clear hfl
                have hbz := hb12.trans (hbw.mono hb12.size)
                go_wp2_with fail
                try simp only [Exit.inBlock, Exit.then]
                refine bodyPost_ret (results_tmp4 rfl _ _ _) rfl ?_
                exact ⟨⟨_, _, _, true, rfl, fun h => (by cases h), fun _ => ⟨ts, HG.out, HF.out.trans HFL.out |>.symm, (HX.out.below hbz).more hbz.size, (HY.out.below hbz).more hbz.size, (HZ.out.below hbz).more hbz.size⟩⟩, hbelw⟩
      · have N0 := HNUM wr hbel k 4 (by omega) (by decide)
        have hne4 : (((fv l k 4 : Nat) : Int) == 67324752) = false := by rw [beq_eq_false_iff_ne]; omega
        have dt : decide ((k : Int) + 30 ≤ (l.length : Int)) = true := by rw [decide_eq_true_eq]; omega
        clear HNUM hmk
        generalize fv l k 4 = mk at *
        go_wp2_with fail
        refine N0.out.mono ?_
        rintro e ww ⟨rfl, rfl⟩
        go_wp2_with fail
        refine HCHK.out.mono ?_
        rintro e w1 ⟨rfl, hb1⟩
        have hbel1 := hbel.trans (hb1.mono hs)
        by_cases hck : ck = 0
        rotate_left
        · have hne : ((ck : Int) != 0) = true := by rw [bne_iff_ne]; omega
          go_wp2_with fail
          try simp only [Exit.inBlock, Exit.then]
          refine bodyPost_ret (results_tmp4 rfl _ _ _) rfl ?_
          exact ⟨⟨_, _, _, false, rfl, fun _ => (HNOT.out hck), fun h => by cases h⟩, hbel1⟩
        · obtain ⟨hiff, hgood⟩ := HOK.out hck
          have HIFF := Lib.hid hiff
          have HG := Lib.hid hgood
          subst hck
          clear hiff hgood
          go_wp2_with fail
          refine (HFILE w1 hb1).out.mono ?_
          rintro e w2 ⟨v2, rfl, hv2, hb2⟩
          have hbel2 := hbel1.trans (hb2.mono hbel1.size)
          have hb12 := hb1.trans (hb2.mono hb1.size)
          obtain ⟨A2, c2, rfl, hf2, hf2m⟩ := hv2.form
          unfold maxLen at hf2m
          have HV2 := Lib.hid hv2
          clear hv2
          by_cases hlen : f.length = l.length
          rotate_left
          · have hne : ((f.length : Int) != (l.length : Int)) = true := by rw [bne_iff_ne]; omega
            go_wp2_with fail
            try simp only [Exit.inBlock, Exit.then]
            refine bodyPost_ret (results_tmp4 rfl _ _ _) rfl ?_
            exact ⟨⟨_, _, _, false, rfl, fun _ => (fun h => hlen (by rw [HIFF.out.1 h])), fun h => by cases h⟩, hbel2⟩
          · go_wp2_with fail
            obtain ⟨wo, rfl⟩ : ∃ wo : World, wo = w2 := ⟨_, rfl⟩
            go_loopw [15] (fun i wr' => ∃ j : Nat, j ≤ l.length ∧ i = .int .i64 j ∧ f.take j = l.take j ∧ Below wo.heap.size wo wr') (fun i _ => l.length - (intOf i).toNat)
            case atStart => exact ⟨0, by omega, rfl, rfl, Below.refl _ _⟩
            case round =>
              obtain ⟨j, hj, rfl, htk, hbw⟩ := hrel
              have hbelw := hbel2.trans (hbw.mono hbel2.size)
              have HTK := Lib.hid htk
              clear htk
              by_cases hjl : j < l.length
              · obtain ⟨b1, o1, c1', e1, hB1, hc1⟩ := Sl.at_ HV.out (by omega)
                cases e1
                obtain ⟨b2, o2, c2', e2, hB2, hc2⟩ := Sl.at_ HV2.out (by omega)
                cases e2
                have hjf : j < f.length := by omega
                have d1 := (hbelw.cell (p := ⟨b1, o1 + j, none⟩) hB1).trans (hc1 j _ (bytesV_at l j hjl))
                have d2 := (hbw.cell (p := ⟨b2, o2 + j, none⟩) hB2).trans (hc2 j _ (bytesV_at f j hjf))
                clear hc1 hc2
                have HTS := Lib.hid (fun h => take_eq_succ hjf hjl HTK.out h)
                have HNE : Hid (f[j].toNat ≠ l[j].toNat → f ≠ l) := fun h e => h (by simp only [e])
                have HEQ : Hid (f[j].toNat = l[j].toNat → f[j] = l[j]) := fun h => UInt8.toNat_inj.1 h
                have hx1 := (f[j]).toNat_lt
                have hx2 := (l[j]).toNat_lt
                generalize f[j] = x1 at *
                generalize l[j] = x2 at *
                generalize x1.toNat = y1 at *
                generalize x2.toNat = y2 at *
                by_cases hsame : y1 = y2
                · have hne : ((y1 : Int) != (y2 : Int)) = false := by rw [bne_eq_false_iff_eq]; omega
                  go_wp2_with fail
                  go_quiet (fail)
                  go_wp2_with fail
                  go_roundw
                  case rel => exact ⟨j + 1, by omega, by go_num, HTS.out (HEQ.out hsame), below_drewN hbw _⟩
                  case measure => first | (simp [intOf]; done) | (simp [intOf]; omega)
                · have hne : ((y1 : Int) != (y2 : Int)) = true := by rw [bne_iff_ne]; omega
                  go_wp2_with fail
                  go_quiet (fail)
                  go_wp2_with fail
                  try simp only [Exit.inBlock, Exit.then]
                  refine bodyPost_ret (results_tmp4 rfl _ _ _) rfl ?_
                  exact ⟨⟨_, _, _, false, rfl, fun _ => (fun h => HNE.out hsame (HIFF.out.1 h)), fun h => by cases h⟩, (below_drewN hbelw _)⟩
              · obtain rfl : j = l.length := by omega
                have hfl : f = l := by
                  have := HTK.out
                  rwa [List.take_length, ← hlen, List.take_length] at this
                have HFL := Lib.hid hfl
                clear hfl
                have hbz := hb12.trans (hbw.mono hb12.size)
                go_wp2_with fail
                try simp only [Exit.inBlock, Exit.then]
                refine bodyPost_ret (results_tmp4 rfl _ _ _) rfl ?_
                exact ⟨⟨_, _, _, true, rfl, fun h => (by cases h), fun _ => ⟨ts, HG.out, HF.out.trans HFL.out |>.symm, (HX.out.below hbz).more hbz.size, (HY.out.below hbz).more hbz.size, (HZ.out.below hbz).more hbz.size⟩⟩, hbelw⟩
end Go.Proofs.YtmhadkdbonfmdaaDoor
