/-
  Layer 16: the law ZipReads, walked.
-/
import Derived.BigQuiet
import Derived.Test.YtmhadkdbonfmdaaDoorZRefR
import Derived.Test.YtmhadkdbonfmdaaDoorZBack
namespace Go.Proofs.YtmhadkdbonfmdaaDoor
open Go Go.RowKit Go.Shelf
set_option maxRecDepth 100000

theorem readP_no {l : List UInt8} {er : Nat} {ms : List Mem} (h : ReadP l er ms) (hn : ¬ IsFile l) : er = 12 ∧ ms = [] := by
  rcases h with ⟨ts, g, e, hs, h1, h2⟩ | ⟨ts, g, e, hs, h1, h2⟩ | ⟨-, h1, h2⟩
  · exact absurd ⟨ts, g, e⟩ hn
  · exact absurd ⟨ts, g, e⟩ hn
  · exact ⟨h1, h2⟩
theorem readP_file {l : List UInt8} {er : Nat} {ms : List Mem} {ts : List Tri} (h : ReadP l er ms) (hg : Good ts) (he : l = fileL ts) : (SumsOk ts → er = 0 ∧ ms = memT ts) ∧ (¬ SumsOk ts → er = 21 ∧ ms = []) := by
  rcases h with ⟨ts', g, e, hs, h1, h2⟩ | ⟨ts', g, e, hs, h1, h2⟩ | ⟨hn, -⟩
  · obtain rfl := file_inj hg.1 g.1 (he.symm.trans e)
    exact ⟨fun _ => ⟨h1, h2⟩, fun h => absurd hs h⟩
  · obtain rfl := file_inj hg.1 g.1 (he.symm.trans e)
    exact ⟨fun h => absurd h hs, fun _ => ⟨h1, h2⟩⟩
  · exact absurd ⟨ts, hg, he⟩ hn
theorem sumsOk_take {ts : List Tri} {k : Nat} (h : k < ts.length) : SumsOk (ts.take (k + 1)) ↔ SumsOk (ts.take k) ∧ (ts[k]).2.2 = crcOf (ts[k]).2.1 := by
  rw [List.take_succ_eq_append_getElem h, sums_snoc]
theorem sums_bad {ts : List Tri} {k : Nat} (h : k < ts.length) (hn : (ts[k]).2.2 ≠ crcOf (ts[k]).2.1) : ¬ SumsOk ts := fun hs => hn (hs _ (List.getElem_mem h))

set_option maxHeartbeats 4000000 in
theorem reads_walk (w : World) (v : Value) (l : List UInt8) (hv : Bytes w w.heap.size v l) (hF : Fours w) :
    Calls Tryd.prog 4 #[v] w fun e w' => e = .returned (.bool true) ∧ Below w.heap.size w w' := by
  obtain ⟨A, c, rfl, hlc, hcm⟩ := hv.form
  unfold maxLen at hcm
  have HV := Lib.hid hv
  have HF := Lib.hid hF
  have HAW : ∀ W, Below w.heap.size w W → Hid (Calls Tryd.prog 9 #[] W fun e w' => e = .returned (.bool true) ∧ Below W.heap.size W w') := fun W hW => awake_any W (HF.out.below hW)
  clear hF
  rcases Nat.lt_or_ge 2000 l.length with hbig | hbig
  · clear hv
    go_enter Tryd.func4, Tryd.ntmps4
    go_wp2_with fail
    refine (HAW _ (Below.refl w.heap.size w)).out.mono ?_
    rintro e wz ⟨rfl, hbz⟩
    go_wp2_with fail
    go_ret
    exact ⟨rfl, ((Below.refl w.heap.size w)).trans (hbz.mono ((Below.refl w.heap.size w)).size)⟩
  · have HRD := Lib.hid (readz_any w _ l hv (by omega) HF.out)
    have HRR := fun W (hW : Below w.heap.size w W) => Lib.hid (rread_any W _ l ((HV.out.below hW).more hW.size) hbig)
    clear hv
    go_enter Tryd.func4, Tryd.ntmps4
    go_wp2_with fail
    refine HRD.out.mono ?_
    rintro e w1 ⟨⟨v1, er, ms, rfl, hm1, hr1⟩, hb1⟩
    obtain ⟨A1, c1, rfl, hmc1, hmm1⟩ := hm1.form
    unfold maxLen at hmm1
    have HM1 := Lib.hid hm1
    clear hm1
    go_wp2_with fail
    refine (HRR w1 hb1).out.mono ?_
    rintro e w2 ⟨⟨na, da, su, is, rfl, hno, hyes⟩, hb2⟩
    have hbel2 := hb1.trans (hb2.mono hb1.size)
    cases is with
    | false =>
      obtain ⟨rfl, rfl⟩ := readP_no hr1 (hno rfl)
      clear hyes
      go_wp2_with fail
      refine (HAW _ hbel2).out.mono ?_
      rintro e wz ⟨rfl, hbz⟩
      go_wp2_with fail
      go_ret
      exact ⟨rfl, (hbel2).trans (hbz.mono (hbel2).size)⟩
    | true =>
      obtain ⟨ts, hg, hlf, hna, hda, hsu⟩ := hyes rfl
      obtain ⟨hok, hbad⟩ := readP_file hr1 hg hlf
      have h64 := good_len hg
      have HOK := Lib.hid hok
      have HBAD := Lib.hid hbad
      have hdl : ∀ (i : Nat) (h : i < ts.length), (ts[i]).2.1.length ≤ 2000 := fun i h => by
        have h1 := length_le_out (List.getElem_mem h)
        have h2 := length_fileL ts
        rw [← hlf] at h2
        unfold sizeT at h1
        omega
      have HDL := Lib.hid hdl
      obtain ⟨An, cn, rfl, hnc, hncm, -, hN⟩ := hna
      obtain ⟨Ad, cd, rfl, hdc, hdcm⟩ := hda.form
      obtain ⟨As, cs, rfl, hsc, hscm, -, hS⟩ := hsu
      rw [List.length_map] at hda hdc ⊢
      unfold maxLen at hncm hdcm hscm
      have HN := Lib.hid hN
      have HD := Lib.hid hda
      have HS := Lib.hid hS
      clear hno hyes hr1 hok hbad hdl hN hda hS hg hlf HV HRD HRR
      go_wp2_with fail
      obtain ⟨wo, rfl⟩ : ∃ wo : World, wo = w2 := ⟨_, rfl⟩
      go_loopw [9] (fun i wr => ∃ k : Nat, k ≤ ts.length ∧ i = .int .i64 k ∧ SumsOk (ts.take k) ∧ Below wo.heap.size wo wr) (fun i _ => ts.length - (intOf i).toNat)
      case atStart => exact ⟨0, by omega, rfl, fun t h => (by cases h), Below.refl _ _⟩
      case round =>
        obtain ⟨k, hk, rfl, hsum, hbw⟩ := hrel
        have hbelw := hbel2.trans (hbw.mono hbel2.size)
        have HSUM := Lib.hid hsum
        clear hsum
        by_cases hlt : k < ts.length
        · obtain ⟨bd, od, dv, rfl, hbd, hcd, hyd⟩ := HD.out.at_ (i := k) (by simpa using hlt)
          obtain ⟨bs, os, rfl, hbs, hcs⟩ := HS.out (by omega)
          have hcs := hcs k _ (natsV_at _ k (by simpa using hlt))
          simp only [List.getElem_map] at hcs hyd
          have f1 := (hbw.cell (p := ⟨bd, od + k, none⟩) hbd).trans hcd
          have f2 := (hbw.cell (p := ⟨bs, os + k, none⟩) hbs).trans hcs
          have HT := Lib.hid (sumsOk_take hlt)
          have HB := Lib.hid (sums_bad hlt)
          have hd2 := HDL.out k hlt
          have HSU : ∀ W, Below wr.heap.size wr W → Hid (Calls Tryd.prog 19 #[dv] W fun e w' => e = .returned (.int .i64 (crcOf (ts[k]).2.1 : Nat)) ∧ Below W.heap.size W w') := fun W hW =>
            rsum_any W W.heap.size dv _ (bytes_below ((hyd.below hbw).more hbw.size) hW) (Nat.le_refl _) (by omega)
          have hcl := crcOf_lt (ts[k]).2.1
          clear hcd hcs hyd
          generalize crcOf (ts[k]).2.1 = cr at *
          generalize (ts[k]).2.2 = sm at *
          go_wp2_with fail
          refine wp_inv (by kernel_rfl) [45, 46, 47, 48, 49, 50, 51, 52, 53, 54]
            [.is (.slice (some ⟨bd, od, none⟩) ts.length cd), .is (.int .i64 k), .is (.pointer (some ⟨bd, od + k, none⟩)), .is dv, .is (.int .i64 (cr : Nat)), .is (.slice (some ⟨bs, os, none⟩) ts.length cs), .is (.int .i64 k), .is (.pointer (some ⟨bs, os + k, none⟩)), .is (.int .i64 (sm : Nat)), .is (.bool ((cr : Int) != (sm : Int)))]
            (by kernel_rfl) ⟨?_, ?_, ?_, ?_, ?_, ?_, ?_, ?_, ?_, ?_, trivial⟩ ?_
          · intro x w1 R hB hf hR
            simp only [frameOf, upd, List.foldl_cons, List.foldl_nil, Act.put, List.setIfInBounds_toArray, List.set_cons_succ, List.set_cons_zero] at hR ⊢
            go_wp2_with fail
            exact hR _ _ rfl (Below.refl _ _)
          · intro x w1 R hB hf hR
            simp only [frameOf, upd, List.foldl_cons, List.foldl_nil, Act.put, List.setIfInBounds_toArray, List.set_cons_succ, List.set_cons_zero] at hR ⊢
            go_wp2_with fail
            exact hR _ _ rfl (Below.refl _ _)
          · intro x w1 R hB hf hR
            have h0 : x 45 = .slice (some ⟨bd, od, none⟩) ts.length cd := hf 0 (by kernel_rfl); have h1 : x 46 = .int .i64 k := hf 1 (by kernel_rfl)
            simp only [frameOf, upd, List.foldl_cons, List.foldl_nil, Act.put, List.setIfInBounds_toArray, List.set_cons_succ, List.set_cons_zero] at hR ⊢
            simp only [h0, h1] at hR ⊢; go_wp2_with fail; exact hR _ _ rfl (Below.refl _ _)
          · intro x w1 R hB hf hR
            have h0 : x 47 = .pointer (some ⟨bd, od + k, none⟩) := hf 2 (by kernel_rfl); have g1 := (hB.cell (p := ⟨bd, od + k, none⟩) (World.block_lt_of_cell? _ _ f1)).trans f1
            simp only [frameOf, upd, List.foldl_cons, List.foldl_nil, Act.put, List.setIfInBounds_toArray, List.set_cons_succ, List.set_cons_zero] at hR ⊢
            simp only [h0] at hR ⊢; go_wp2_with fail; exact hR _ _ rfl (Below.refl _ _)
          · intro x w1 R hB hf hR
            have h0 : x 48 = dv := hf 3 (by kernel_rfl)
            simp only [frameOf, upd, List.foldl_cons, List.foldl_nil, Act.put, List.setIfInBounds_toArray, List.set_cons_succ, List.set_cons_zero] at hR ⊢
            simp only [h0] at hR ⊢; go_wp2_with fail; refine (HSU w1 hB).out.mono ?_; rintro e w4 ⟨rfl, hb4⟩; go_wp2_with fail; exact hR _ _ rfl hb4
          · intro x w1 R hB hf hR
            simp only [frameOf, upd, List.foldl_cons, List.foldl_nil, Act.put, List.setIfInBounds_toArray, List.set_cons_succ, List.set_cons_zero] at hR ⊢
            go_wp2_with fail
            exact hR _ _ rfl (Below.refl _ _)
          · intro x w1 R hB hf hR
            simp only [frameOf, upd, List.foldl_cons, List.foldl_nil, Act.put, List.setIfInBounds_toArray, List.set_cons_succ, List.set_cons_zero] at hR ⊢
            go_wp2_with fail
            exact hR _ _ rfl (Below.refl _ _)
          · intro x w1 R hB hf hR
            have h0 : x 50 = .slice (some ⟨bs, os, none⟩) ts.length cs := hf 5 (by kernel_rfl); have h1 : x 51 = .int .i64 k := hf 6 (by kernel_rfl)
            simp only [frameOf, upd, List.foldl_cons, List.foldl_nil, Act.put, List.setIfInBounds_toArray, List.set_cons_succ, List.set_cons_zero] at hR ⊢
            simp only [h0, h1] at hR ⊢; go_wp2_with fail; exact hR _ _ rfl (Below.refl _ _)
          · intro x w1 R hB hf hR
            have h0 : x 52 = .pointer (some ⟨bs, os + k, none⟩) := hf 7 (by kernel_rfl); have g1 := (hB.cell (p := ⟨bs, os + k, none⟩) (World.block_lt_of_cell? _ _ f2)).trans f2
            simp only [frameOf, upd, List.foldl_cons, List.foldl_nil, Act.put, List.setIfInBounds_toArray, List.set_cons_succ, List.set_cons_zero] at hR ⊢
            simp only [h0] at hR ⊢; go_wp2_with fail; exact hR _ _ rfl (Below.refl _ _)
          · intro x w1 R hB hf hR
            have h0 : x 49 = .int .i64 (cr : Nat) := hf 4 (by kernel_rfl); have h1 : x 53 = .int .i64 (sm : Nat) := hf 8 (by kernel_rfl)
            simp only [frameOf, upd, List.foldl_cons, List.foldl_nil, Act.put, List.setIfInBounds_toArray, List.set_cons_succ, List.set_cons_zero] at hR ⊢
            simp only [h0, h1] at hR ⊢; go_wp2_with fail; exact hR _ _ rfl (Below.refl _ _)
          intro x w4 hB4 hf4
          have h54 : x 54 = .bool ((cr : Int) != (sm : Int)) := hf4 9 (by decide)
          simp only [frameOf, upd, List.foldl_cons, List.foldl_nil, Act.put, List.setIfInBounds_toArray, List.set_cons_succ, List.set_cons_zero]
          rw [h54]
          have hbw4 := hbw.trans (hB4.mono hbw.size)
          have hbel4 := hbelw.trans (hB4.mono hbelw.size)
          by_cases heq : cr = sm
          · have hb' : ((cr : Int) != (sm : Int)) = false := by rw [bne_eq_false_iff_eq]; omega
            go_wp2_with fail
            go_roundw
            case rel => exact ⟨k + 1, by omega, by go_num, HT.out.2 ⟨HSUM.out, heq.symm⟩, hbw4⟩
            case measure => first | (simp [intOf]; done) | (simp [intOf]; omega)
          · have hb' : ((cr : Int) != (sm : Int)) = true := by rw [bne_iff_ne]; omega
            obtain ⟨rfl, rfl⟩ := HBAD.out (HB.out fun h => heq h.symm)
            go_wp2_with fail
            refine (HAW _ hbel4).out.mono ?_
            rintro e wz ⟨rfl, hbz⟩
            go_wp2_with fail
            go_ret
            exact ⟨rfl, (hbel4).trans (hbz.mono (hbel4).size)⟩
        · obtain rfl : k = ts.length := by omega
          rw [List.take_length] at HSUM
          obtain ⟨rfl, rfl⟩ := HOK.out HSUM.out
          have hml : (memT ts).length = ts.length := by simp [memT]
          rw [hml] at HM1 hmc1 ⊢
          rw [show ((0 : Nat) : Int) = 0 from rfl]
          clear HSUM HOK HBAD HS HDL
          go_wp2_with fail
          obtain ⟨wq, rfl⟩ : ∃ wq : World, wq = wr := ⟨_, rfl⟩
          go_loopw [10] (fun i wr => ∃ k : Nat, k ≤ ts.length ∧ i = .int .i64 k ∧ Below wq.heap.size wq wr) (fun i _ => ts.length - (intOf i).toNat)
          case atStart => exact ⟨0, by omega, rfl, Below.refl _ _⟩
          case round =>
            obtain ⟨k, hk, rfl, hbr⟩ := hrel
            have hbz := hbw.trans (hbr.mono hbw.size)
            have hbelz := hbelw.trans (hbr.mono hbelw.size)
            have hb1z : Below w1.heap.size w1 wr := hb2.trans (hbz.mono hb2.size)
            by_cases hlt : k < ts.length
            · obtain ⟨bm, om, rfl, hbm, hc0, hn0, dm, hc1, hym⟩ := HM1.out.at_ (i := k) (by omega)
              obtain ⟨bd, od, dv, rfl, hbd, hcd, hyd⟩ := HD.out.at_ (i := k) (by simpa using hlt)
              obtain ⟨bn, on, rfl, hbn, hcn⟩ := HN.out (by omega)
              have hcn := hcn k _ (strsV_at _ k (by simpa using hlt))
              simp only [List.getElem_map, memT] at hcn hyd hc0 hym hn0
              have f0 := (hb1z.cell (p := ⟨bm, om + k * 2, none⟩) hbm).trans hc0
              have f1 := (hb1z.cell (p := ⟨bm, om + k * 2 + 1, none⟩) hbm).trans hc1
              have f2 := (hbz.cell (p := ⟨bd, od + k, none⟩) hbd).trans hcd
              have f3 := (hbz.cell (p := ⟨bn, on + k, none⟩) hbn).trans hcn
              have HBS := Lib.hid (bytes_same wr.drew dm dv (ts[k]).2.1 ((hym.below hb1z).more hb1z.size) ((hyd.below hbz).more hbz.size))
              clear hc0 hc1 hcd hcn hym hyd hn0
              generalize (ts[k]).1 = name at *
              generalize (ts[k]).2.1 = data at *
              go_wp2_with fail
              refine wp_text (by kernel_rfl) (by kernel_rfl) ?_
              intro R hR
              go_wp2_with fail
              refine HBS.out.mono ?_
              rintro e w6 ⟨rfl, hb6⟩
              have hbr6 : Below wq.heap.size wq w6 := hbr.drew.trans (hb6.mono hbr.size)
              go_wp2_with fail
              refine ⟨by simp [goodB, fits, plainPair, isSeqV, quiet, Act.eval], ?_⟩
              go_wp2_with fail
              go_roundw
              case rel => exact ⟨k + 1, by omega, by go_num, hbr6⟩
              case measure => first | (simp [intOf]; done) | (simp [intOf]; omega)
            · obtain rfl : k = ts.length := by omega
              go_wp2_with fail
              refine (HAW _ hbelz).out.mono ?_
              rintro e wz ⟨rfl, hbz⟩
              go_wp2_with fail
              go_ret
              exact ⟨rfl, (hbelz).trans (hbz.mono (hbelz).size)⟩
end Go.Proofs.YtmhadkdbonfmdaaDoor
