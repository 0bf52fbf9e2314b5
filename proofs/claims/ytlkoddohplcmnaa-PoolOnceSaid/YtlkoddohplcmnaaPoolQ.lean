/-
  Layer 17: the law PoolOnce, walked.
-/
import Derived.Test.YtlkoddohplcmnaaPoolP
namespace Go.Proofs.Ytlkoddohplcmnaa
open Go Go.RowKit Go.Maps Go.WideMaps Go.Shelf
attribute [local go_sem] Oper.semAt_some

theorem put_same {w : World} {T : Nat → Prop} {pb : Nat} {row : Row} (h : PoolAt w T pb row) {x : List UInt8} {i : Nat} (hx : x.length ≤ maxLen) (hm : x ∈ row) (hi : idx row x = i) :
    Calls Try.prog 13 #[.pointer (some ⟨pb, 0, none⟩), str x] w fun e w' => e = .returned (.tuple #[.int .i64 i, .int .i64 0]) ∧ w' = w := by
  obtain ⟨mb, vl, D, c0, c1, f0, hrow, hmap, hag, hne, hg, tp, tm, hnd, hxs, hl⟩ := h
  have hkey := keyOf_str hx
  subst hi
  have HR : Hid (Maps.has D (.string x) = true ∧ D.atKey (.string x) (.lit (.int .i64 0)) = .lit (.int .i64 (idx row x))) := by
    refine ⟨by rw [hag.2.1 x]; simpa using hm, ?_⟩
    have := hag.2.2 _ (idx_lt hm)
    rwa [idx_at hm] at this
  have hh := HR.out.1
  clear hag hm hg hrow hxs
  go_enter Try.func13, Try.ntmps13
  go_wp2_with (at_lookup; refine wpList_lookup_own_ok_int _ rfl _ _ 52 rfl 9 3 .i64 keyStr Try.underlying52 Try.underlying3 (zeroE _) mb row.length D rfl hmap _ _ rfl hkey ?_; intro c hat hwc; rw [hh])
  go_ret2
  have h2 := HR.out.2
  rw [hat] at h2
  simp only [DataW.lit.injEq, Lit.int.injEq, true_and] at h2
  rw [h2]
  exact ⟨rfl, rfl⟩

set_option maxRecDepth 100000 in
set_option maxHeartbeats 4000000 in
theorem once_walk (w : World) (v : Value) (l : Row) (x : List UInt8) (hv : Strs w w.heap.size v l) (hxs : ∀ y ∈ l, y.length ≤ maxLen) (hx : x.length ≤ maxLen) :
    Calls Try.prog 6 #[v, str x] w fun e w' => e = .returned (.bool true) ∧ Below w.heap.size w w' := by
  have HV := Lib.hid hv
  have HXS := Lib.hid hxs
  obtain ⟨A, c, rfl, hlc, hcm⟩ := strs_len hv
  unfold maxLen at hcm
  clear hv hxs
  rcases Bool.eq_false_or_eq_true (fewB l) with hf | hf
  · have HFEW := Lib.hid (few_is HV.out HXS.out hf)
    have hl60 := (fewB_spec hf).1
    obtain ⟨row, hrow⟩ : ∃ row, ofL l = row := ⟨_, rfl⟩
    have hr60 : row.length ≤ 60 := by have := ofL_len l; rw [hrow] at this; omega
    obtain ⟨n, hn⟩ : ∃ n, row.length = n := ⟨_, rfl⟩
    have HN := Lib.hid hn
    rw [hn] at hr60
    have HROW := Lib.hid hrow
    clear hrow hf hn
    refine (callsIn_wide (n := 8)).1 ?_
    refine callsIn_of_wp_marks Try.func6 rfl trivial ?_ rfl
    simp only [Try.ntmps6, List.size_toArray, List.length_cons, List.length_nil, Nat.reduceAdd, Nat.reduceSub, Array.replicate_succ, Array.replicate_zero, List.push_toArray, List.append_toArray, List.nil_append, List.cons_append]
    gi_wp2
    refine ⟨trivial, ?_⟩
    refine (callsIn_wide.2 HFEW.out).mono ?_
    rintro e w1 ⟨rfl, hb1⟩
    gi_wp2
    refine ⟨trivial, ?_⟩
    refine (callsIn_wide.2 (new_any ((HV.out.below hb1).more hb1.size) HXS.out (by omega))).mono ?_
    rintro e w2 ⟨pb, rfl, hp2, hb2⟩
    rw [HROW.out] at hp2
    have hbel2 := hb1.trans (hb2.mono hb1.size)
    have HP2 := Lib.hid hp2.bound
    have HND := Lib.hid hp2.nodup
    have HRX := Lib.hid hp2.lens
    have hs12 := hb2.size
    clear hp2
    gi_wp2
    refine ⟨trivial, ?_⟩
    refine (callsIn_wide.2 (len_is HP2.out HN.out)).mono ?_
    rintro e wx ⟨rfl, hwx⟩
    rw [hwx]
    clear hwx wx
    gi_wp2
    gi_loopw [7] (fun i wr => ∃ j : Nat, j ≤ n ∧ i = .int .i64 j ∧ wr = w2) (fun i _ => n - (intOf i).toNat)
    case atStart => exact ⟨0, by omega, rfl, rfl⟩
    case round =>
      obtain ⟨j, hj, rfl, hwr⟩ := hrel
      rw [hwr]
      clear hwr wr
      rcases (show j = n ∨ j < n by omega) with hje | hjl
      · have HCP := Lib.hid (copy_any HP2.out)
        subst hje
        gi_wp2
        refine ⟨trivial, ?_⟩
        refine (callsIn_wide.2 HCP.out).mono ?_
        rintro e w3 ⟨cb, rfl, hc3, hb3⟩
        have hs23 := hb3.size
        have HC3 := Lib.hid hc3.bound
        have HP3 := Lib.hid (HP2.out.later hb3)
        clear hc3
        gi_wp2
        refine ⟨trivial, ?_⟩
        refine (callsIn_wide.2 (all_any HP3.out)).mono ?_
        rintro e w4 ⟨B, vs, rfl, hcB, ⟨hvs, hvB⟩, hB1, hB4, hb4⟩
        have hs34 := hb4.size
        have HC4 := Lib.hid (HC3.out.later hb4)
        have HP4 := Lib.hid (HP3.out.later hb4)
        have HFP4 := Lib.hid (find_any HP4.out x hx)
        have heq := fun (w : World) (f : Fn) (ts cs : Array Value) => run_eql_func_nil w 46 f ts cs Try.underlying46
        have HPUTC := Lib.hid (put_any HC4.out x hx (by rw [HN.out]; omega))
        obtain ⟨row2, hrow2⟩ : ∃ row2, putL row x = row2 := ⟨_, rfl⟩
        have HROW2 := Lib.hid hrow2
        have hm2 : x ∈ row2 := hrow2 ▸ mem_putL row x
        have hlen2 : row2.length ≤ j + 1 := by have := putL_len row x; rw [hrow2, HN.out] at this; exact this
        rw [hrow2] at HPUTC
        generalize hz1 : findI row x = z1 at *
        generalize hz2 : findB row x = z2 at *
        have HZ1 := Lib.hid hz1
        have HZ2 := Lib.hid hz2
        clear hz1 hz2 hrow2
        gi_wp2
        refine ⟨trivial, ?_⟩
        refine (callsIn_wide.2 HFP4.out).mono ?_
        rintro e wx ⟨rfl, hwx⟩
        rw [hwx]
        clear hwx wx
        gi_wp2
        refine ⟨trivial, ?_⟩
        refine (callsIn_wide.2 HPUTC.out).mono ?_
        rintro e w5 ⟨rfl, hc5, ht5⟩
        have hs45 := ht5.size
        have HC5 := Lib.hid hc5.bound
        have hfin : findB row2 x = true := decide_eq_true hm2
        have hidx := idx_lt hm2
        have HFC := Lib.hid (find_is hc5 hx (show findI row2 x = (idx row2 x : Nat) by unfold findI; rw [if_pos hm2]) hfin)
        have hp5 : PoolAt w5 (fun k => From w1.heap.size k ∧ k < w2.heap.size) pb row := HP4.out.keep (fun k hk hTk => ht5.block k hk (fun h => by have h1 : w2.heap.size ≤ k := h.1; omega))
        have HFP5 := Lib.hid (find_any hp5 x hx)
        have HPUTP := Lib.hid (put_any hp5 x hx (by rw [HN.out]; omega))
        rw [HROW2.out] at HPUTP
        have hown5 := own_turned hvs ht5 (fun g e h => by have := (hvs.lt g e).1; have h2 := h.2; omega)
        have hcB5 := (World.cell?_of_block (a := ⟨B, 0, none⟩) (ht5.block B hB4 (fun h => by have h2 := h.2; omega))).trans hcB
        rw [HZ1.out, HZ2.out] at HFP5
        generalize idx row2 x = zc at *
        have hsw1 := hb1.size
        have hbel4 := hbel2.trans ((hb3.trans (hb4.mono hs23)).mono hbel2.size)
        have hbel5 := hbel4.trans ((ht5.mono (T' := From w.heap.size) (fun k hk => by have h1 : w2.heap.size ≤ k := hk.1; show w.heap.size ≤ k; omega)).below hbel4.size)
        clear hc5 hp5 hvs hcB hb4 hb3
        gi_wp2
        refine ⟨trivial, ?_⟩
        refine (callsIn_wide.2 HFC.out).mono ?_
        rintro e wx ⟨rfl, hwx⟩
        rw [hwx]
        clear hwx wx
        gi_wp2
        refine ⟨trivial, ?_⟩
        refine (callsIn_wide.2 HFP5.out).mono ?_
        rintro e wx ⟨rfl, hwx⟩
        rw [hwx]
        clear hwx wx
        gi_wp2
        refine ⟨trivial, ?_⟩
        refine (callsIn_wide.2 HPUTP.out).mono ?_
        rintro e w6 ⟨rfl, hp6, ht6⟩
        have hs56 := ht6.size
        have hbel6 := hbel5.trans ((ht6.mono (T' := From w.heap.size) (fun k hk => by have h1 : w1.heap.size ≤ k := hk.1; show w.heap.size ≤ k; omega)).below hbel5.size)
        have HP6 := Lib.hid hp6
        have HC6 := Lib.hid (HC5.out.keep (w' := w6) (fun k hk hTk => ht6.block k hk (fun h => by
          have h2 := h.2
          rcases hTk.1 with h3 | h3
          · have h4 : w2.heap.size ≤ k := h3.1
            omega
          · have h4 : w4.heap.size ≤ k := h3
            omega)))
        have hown6 := own_turned hown5 ht6 (fun g e h => by have := (hown5.lt g e).1; have h2 := h.2; omega)
        have hcB6 := (World.cell?_of_block (a := ⟨B, 0, none⟩) (ht6.block B (by omega) (fun h => by have h2 := h.2; omega))).trans hcB5
        clear hp6 hown5 hcB5 HC5
        gi_wp2
        have qm := cell_new1 w6 (.int .i64 0) 3
        obtain ⟨w7, hw7⟩ : ∃ w7, w6.alloc (.cells #[.int .i64 0] 3) = w7 := ⟨_, rfl⟩
        have hB7 : Below w6.heap.size w6 w7 := by rw [← hw7]; exact (Below.refl _ _).alloc (Nat.le_refl _) _
        have hs7 : w7.heap.size = w6.heap.size + 1 := by rw [← hw7]; simp
        have hown7 : w7.ownsRow w3.heap.size 9 1 vs row.length (strsV row) := by rw [← hw7]; exact hown6.alloc _
        obtain ⟨N, hN⟩ : ∃ N, w6.heap.size = N := ⟨_, rfl⟩
        rw [hw7] at qm ⊢
        rw [hN] at qm ⊢
        clear hw7 hown6
        have hseq := all1_stops 7 (by omega) B (From N) vs row (by rw [HN.out]; omega) w7 (by omega) ((hB7.cell (p := ⟨B, 0, none⟩) (by show B < _; omega)).trans hcB6) (stays hown7 hvB (by omega) (fun k h1 h2 h3 => by have h4 : N ≤ k := h3; omega))
        clear hown7 hcB6
        gi_wp2
        refine wpIn_rangeFunc_ownF rfl (by omega) (gf := 33) (lb := #[.pointer (some ⟨B, 0, none⟩)]) rfl trivial (enters_of Try.func33 (by kernel_rfl) rfl)
          hseq Turned.trans1 (turnedK_b (fun k hk => by show N ≤ k; omega)) (Below.refl _ _) (fun _ => rfl)
          (fun pre W => (W.cell? ⟨N, 0, none⟩ = some (.int .i64 (pre.length : Int)) ∧ W.frozen? ⟨N, 0, none⟩ = false) ∧ Below N w7 W)
          (fun c pre W => False)
          ?hI ?hIx ⟨qm, Below.refl _ _⟩
          (fun y => { tmps := #[.slice A l.length c, str x, undef, undef, u4, .pointer (some ⟨pb, 0, none⟩), .int .i64 j, .int .i64 j, u8, u9, u10, u11, u12, u13, u14, .pointer (some ⟨cb, 0, none⟩), .func (.func 33) #[] #[.pointer (some ⟨B, 0, none⟩)], .int .i64 z1, .bool z2, .int .i64 zc, .bool true, .int .i64 z1, .bool z2, .pointer (some ⟨N, 0, none⟩), .slice A l.length c, .bool true, .bool false, undef, .slice A l.length c, .pointer (some ⟨pb, 0, none⟩), .pointer (some ⟨pb, 0, none⟩), .bool false, .pointer (some ⟨pb, 0, none⟩), .int .i64 j, .int .i64 j, .int .i64 j, .bool false, u37, u38, u39, u40, u41, u42, u43, u44, u45, u46, u47, u48, u49, u50, u51, u52, u53, u54, u55, u56, u57, u58, u59, u60, u61, u62, u63, u64, u65, u66, u67, u68, u69, u70, u71, u72, u73, u74, u75, u76, u77, u78, u79, u80, u81, u82, u83, u84, u85,
            .pointer (some ⟨pb, 0, none⟩), .pointer (some ⟨cb, 0, none⟩), .pointer (some ⟨pb, 0, none⟩), .func (.func 33) #[] #[.pointer (some ⟨B, 0, none⟩)], .pointer (some ⟨cb, 0, none⟩), .bool false, .bool false, .func (.func 33) #[] #[.pointer (some ⟨B, 0, none⟩)], .bool false, .bool false, .tuple #[.int .i64 z1, .bool z2], .pointer (some ⟨pb, 0, none⟩), str x, .tuple #[.int .i64 z1, .bool z2], .int .i64 z1, .bool z2, .pointer (some ⟨cb, 0, none⟩), str x,
            .tuple #[.int .i64 zc, .int .i64 0], .tuple #[.int .i64 zc, .bool true], .pointer (some ⟨cb, 0, none⟩), str x, .tuple #[.int .i64 zc, .bool true], .int .i64 zc, .bool true, .tuple #[.int .i64 z1, .bool z2], .pointer (some ⟨pb, 0, none⟩), str x, .tuple #[.int .i64 z1, .bool z2], .int .i64 z1, .bool z2, .pointer (some ⟨pb, 0, none⟩), str x, .tuple #[.int .i64 zc, .int .i64 0], .func (.func 33) #[] #[.pointer (some ⟨B, 0, none⟩)], .int .i64 (y.1 : Int), str row[y.1], undef, undef, undef, undef, undef, undef, undef, undef, undef, undef, undef, undef, undef, undef, undef, undef, undef, undef, undef, undef, undef, undef, undef, undef, undef, undef, undef, undef, undef, undef, undef, undef], defers := [] }) ?assign ?body ?done ?stop
        case hI =>
          exact OwnFrom.and (Own.from (fun s A B row hs hg hr => ⟨cell_kept hs.1 hg hr, (frozen_kept hs.1 hg hr).trans hs.2⟩) _) (ownFrom_below (by omega) (by omega))
        case hIx =>
          exact fun c => Own.from (fun s A B row hs hg hr => hs) _
        case assign =>
          intro lp y W K hK
          unfold encS
          gi_wp2
          exact hK
        case body =>
          rintro lp pre y W ⟨⟨hn, fn⟩, hB⟩ hlt
          have hlt2 : pre.length < j := by have := HN.out; omega
          clear hseq
          dsimp only
          gi_wp2
          have hlen : (((pre ++ [y]).length : Nat) : Int) = (pre.length : Int) + 1 := by simp
          refine ⟨KeepsOthers.setCell _ _ _, Turned.setCell W 0 _ (Nat.le_refl N), ⟨⟨?_, by rw [World.frozen?_setCell]; exact fn⟩, hB.setCell (p := ⟨N, 0, none⟩) (Nat.le_refl _) _⟩⟩
          rw [hlen]
          exact World.cell?_setCell_same' _ _ _ (by rw [hn]; rfl)
        case done =>
          rintro D ys W hD rfl ⟨⟨hn, fn⟩, hB⟩ hK
          rw [List.length_finRange, HN.out] at hn
          have hBW : Below w6.heap.size w6 W := by rw [hN] at hB7 ⊢; exact hB7.trans hB
          have HL1 := Lib.hid (len_any (HP6.out.later hBW))
          have HL2 := Lib.hid (len_any (HC6.out.later hBW))
          have hsW := hBW.size
          clear hseq
          gi_wp2
          refine ⟨trivial, ?_⟩
          refine (callsIn_wide.2 HL1.out).mono ?_
          rintro e wx ⟨rfl, hwx⟩
          rw [hwx]
          clear hwx wx
          gi_wp2
          refine ⟨trivial, ?_⟩
          refine (callsIn_wide.2 HL2.out).mono ?_
          rintro e wx ⟨rfl, hwx⟩
          rw [hwx]
          clear hwx wx
          gi_wp2
          refine ⟨trivial, ?_⟩
          refine (callsIn_wide.2 (awake_walk W)).mono ?_
          rintro e w8 ⟨rfl, hb8⟩
          have hDl : D < W.heap.size := (Array.getElem?_eq_some_iff.1 hK).1
          have hK8 := (hb8.block D hDl).trans hK
          have hs8 := hb8.size
          gi_wp2
          have hbel8 := hbel6.trans ((hBW.trans (hb8.mono hsW)).mono hbel6.size)
          refine ⟨by simp, .inl ⟨_, _, rfl, run_takeDeferred hK8, ?_⟩⟩
          refine ⟨.bool true, ?_, rfl, hbel8.trans (belowK_b (w := w) (Nat.le_refl _) _ D _ _ (by have := hbel6.size; omega) hK8 rfl rfl)⟩
          simp [results, Try.f6, go_sem]
        case stop =>
          rintro D c pre W hD hSp hNG hK
          exact hNG.elim
      · have hjr : j < row.length := by rw [HN.out]; exact hjl
        obtain ⟨a, ha⟩ : ∃ a, row[j] = a := ⟨_, rfl⟩
        have HAT := Lib.hid (at_is HP2.out hjr ha)
        have HPUT := Lib.hid (put_same HP2.out (x := a) (i := j) (HRX.out _ (ha ▸ List.getElem_mem hjr)) (ha ▸ List.getElem_mem hjr) (by rw [← ha]; exact idx_unique HND.out hjr))
        have HLEN := Lib.hid (len_is HP2.out HN.out)
        have HA := Lib.hid ha
        clear ha
        gi_wp2
        refine ⟨trivial, ?_⟩
        refine (callsIn_wide.2 HAT.out).mono ?_
        rintro e wx ⟨rfl, hwx⟩
        rw [hwx]
        clear hwx wx
        gi_wp2
        gi_loopw [10] (fun i wr => ∃ k : Nat, k ≤ j ∧ i = .int .i64 k ∧ wr = w2) (fun i _ => j - (intOf i).toNat)
        case atStart => exact ⟨0, by omega, rfl, rfl⟩
        case round =>
          obtain ⟨k, hk, rfl, hwr⟩ := hrel
          rw [hwr]
          clear hwr wr
          rcases (show k = j ∨ k < j by omega) with hke | hkl
          · subst hke
            gi_wp2
            refine ⟨trivial, ?_⟩
            refine (callsIn_wide.2 HPUT.out).mono ?_
            rintro e wx ⟨rfl, hwx⟩
            rw [hwx]
            clear hwx wx
            gi_wp2
            refine ⟨trivial, ?_⟩
            refine (callsIn_wide.2 HLEN.out).mono ?_
            rintro e wx ⟨rfl, hwx⟩
            rw [hwx]
            clear hwx wx
            gi_wp2
            go_roundw
            case rel => exact ⟨k + 1, by omega, by go_num, trivial⟩
            case measure => first | (simp [intOf]; done) | (simp [intOf]; omega)
          · have hkr : k < row.length := by rw [HN.out]; omega
            obtain ⟨b, hb⟩ : ∃ b, row[k] = b := ⟨_, rfl⟩
            have HATK := Lib.hid (at_is HP2.out hkr hb)
            have hne : (a == b) = false := by
              rw [beq_eq_false_iff_ne]
              intro e
              have := nodup_inj HND.out hjr hkr (by rw [HA.out, hb]; exact e)
              omega
            clear hb
            gi_wp2
            refine ⟨trivial, ?_⟩
            refine (callsIn_wide.2 HATK.out).mono ?_
            rintro e wx ⟨rfl, hwx⟩
            rw [hwx]
            clear hwx wx
            gi_wp2
            go_roundw
            case rel => exact ⟨k + 1, by omega, by go_num, trivial⟩
            case measure => first | (simp [intOf]; done) | (simp [intOf]; omega)
  · have HFEW := Lib.hid (few_is HV.out HXS.out hf)
    go_enter Try.func6, Try.ntmps6
    go_wp2_with fail
    refine HFEW.out.mono ?_
    rintro e w1 ⟨rfl, hb1⟩
    go_wp2_with fail
    refine (awake_walk _).mono ?_
    rintro e w2 ⟨rfl, hb2⟩
    go_wp2_with fail
    go_ret
    exact ⟨rfl, hb1.trans (hb2.mono hb1.size)⟩
end Go.Proofs.Ytlkoddohplcmnaa
