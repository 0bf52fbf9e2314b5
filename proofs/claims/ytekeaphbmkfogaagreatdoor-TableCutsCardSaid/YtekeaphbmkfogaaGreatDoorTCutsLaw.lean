/-
  Layer 14: the law TableCuts, walked.
-/
import Derived.Test.YtekeaphbmkfogaaGreatDoorTCutMath
import Derived.Test.YtekeaphbmkfogaaGreatDoorInv
namespace Go.Proofs.YtekeaphbmkfogaaGreatDoor
open Go Go.RowKit Go.Shelf
set_option maxRecDepth 100000

def Fact.chgs (l : List Chg) : Fact := ⟨fun v w => Chgs w w.heap.size v l, fun _ _ _ h hb => (h.below hb).more hb.size⟩
set_option maxHeartbeats 4000000 in
theorem cuts_walk (w : World) (v : Value) (l : List Chg) (a b c d i : Int) (hv : Chgs w w.heap.size v l) (_ : (-9223372036854775808 ≤ a ∧ a ≤ 9223372036854775807) ∧ (-9223372036854775808 ≤ b ∧ b ≤ 9223372036854775807) ∧ (-9223372036854775808 ≤ c ∧ c ≤ 9223372036854775807) ∧ (-9223372036854775808 ≤ d ∧ d ≤ 9223372036854775807)) (_ : -9223372036854775808 ≤ i ∧ i ≤ 9223372036854775807) (hm : Tryz.MaxL w) :
    Calls Tryz.prog 6 #[v, .agg #[.int .i64 a, .int .i64 b, .int .i64 c, .int .i64 d], .int .i64 i] w fun e w' => e = .returned (.bool true) ∧ Below w.heap.size w w' := by
  have HM := Lib.hid hm
  have HV := Lib.hid hv
  have hb0 : Below w.heap.size w (w.alloc (.cells #[.int .i64 a, .int .i64 b, .int .i64 c, .int .i64 d] 55)) := (Below.refl _ _).alloc (Nat.le_refl _) _
  have HB0 := Lib.hid hb0
  have HQ0 := Lib.hid (Blk.new w 55 #[.int .i64 a, .int .i64 b, .int .i64 c, .int .i64 d])
  have HRI := Lib.hid (rise_any _ _ v l (hv.below hb0))
  obtain ⟨A, cc, rfl, hlc, hcm⟩ := hv.form
  unfold maxLen at hcm
  clear hv hm hb0
  by_cases hl : 60 < (l.length : Int)
  · go_enter Tryz.func6, Tryz.ntmps6
    go_wp2_with fail
    refine (awake_any _ (HM.out.below HB0.out (Nat.le_refl _))).mono ?_
    rintro e wz ⟨rfl, hbz⟩
    have hb9 := (HB0.out).trans (hbz.mono (HB0.out).size)
    clear hbz
    go_wp2_with fail
    go_ret
    exact ⟨rfl, hb9⟩
  · cases hr : riseB l with
    | false =>
      rw [hr] at HRI
      clear hr
      go_enter Tryz.func6, Tryz.ntmps6
      go_wp2_with fail
      refine HRI.out.mono ?_
      rintro e w1 ⟨rfl, n, rfl⟩
      have HB1 := Lib.hid (below_drewN HB0.out n)
      go_wp2_with fail
      refine (awake_any _ (HM.out.below HB1.out (Nat.le_refl _))).mono ?_
      rintro e wz ⟨rfl, hbz⟩
      have hb9 := (HB1.out).trans (hbz.mono (HB1.out).size)
      clear hbz
      go_wp2_with fail
      go_ret
      exact ⟨rfl, hb9⟩
    | true =>
      have hris := (riseB_iff l).1 hr
      rw [hr] at HRI
      clear hr
      go_enter Tryz.func6, Tryz.ntmps6
      go_wp2_with fail
      refine HRI.out.mono ?_
      rintro e w1 ⟨rfl, n, rfl⟩
      have HB1 := Lib.hid (below_drewN HB0.out n)
      have HQ1 := Lib.hid (HQ0.out.drewN n)
      obtain ⟨W1, hW1⟩ : ∃ W, (w.alloc (.cells #[.int .i64 a, .int .i64 b, .int .i64 c, .int .i64 d] 55)).drewN n = W := ⟨_, rfl⟩
      rw [hW1] at HB1 HQ1 ⊢
      clear hW1 HB0 HQ0 HRI
      have q0 := HQ1.out.cell 0 (v := .int .i64 a) rfl
      have q1 := HQ1.out.cell 1 (v := .int .i64 b) rfl
      have q2 := HQ1.out.cell 2 (v := .int .i64 c) rfl
      have q3 := HQ1.out.cell 3 (v := .int .i64 d) rfl
      by_cases g1 : b < a
      · go_wp2_with fail
        refine (awake_any _ (HM.out.below HB1.out (Nat.le_refl _))).mono ?_
        rintro e wz ⟨rfl, hbz⟩
        have hb9 := (HB1.out).trans (hbz.mono (HB1.out).size)
        clear hbz
        go_wp2_with fail
        go_ret
        exact ⟨rfl, hb9⟩
      · by_cases g2 : c < a
        · go_wp2_with fail
          refine (awake_any _ (HM.out.below HB1.out (Nat.le_refl _))).mono ?_
          rintro e wz ⟨rfl, hbz⟩
          have hb9 := (HB1.out).trans (hbz.mono (HB1.out).size)
          clear hbz
          go_wp2_with fail
          go_ret
          exact ⟨rfl, hb9⟩
        · by_cases g3 : b < d
          · go_wp2_with fail
            refine (awake_any _ (HM.out.below HB1.out (Nat.le_refl _))).mono ?_
            rintro e wz ⟨rfl, hbz⟩
            have hb9 := (HB1.out).trans (hbz.mono (HB1.out).size)
            clear hbz
            go_wp2_with fail
            go_ret
            exact ⟨rfl, hb9⟩
          · by_cases g4 : d < c
            · go_wp2_with fail
              refine (awake_any _ (HM.out.below HB1.out (Nat.le_refl _))).mono ?_
              rintro e wz ⟨rfl, hbz⟩
              have hb9 := (HB1.out).trans (hbz.mono (HB1.out).size)
              clear hbz
              go_wp2_with fail
              go_ret
              exact ⟨rfl, hb9⟩
            · have hab : a ≤ b := by omega
              obtain ⟨n2, m2, hd2, hcu⟩ := cut_of hris hab
              have hris2 := hcu.rising hris
              have hl2 := cut_len hris hab
              have HCC := Lib.hid (hcu.cuts hris (a' := c) (b' := d) (by omega) (by omega) (by omega))
              have HAC := Lib.hid (fun h1 h2 => hcu.atC hris (i := i) h1 h2)
              have HL2 := Lib.hid (show cutL l a b = cutL l a b from rfl)
              generalize hL2 : cutL l a b = L2 at HCC HAC hris2 hl2
              have hs1 := HB1.out.size
              go_wp2_with fail
              refine (cut_any W1 w.heap.size _ l a b (HV.out.below HB1.out) hs1 (by omega) hris).mono ?_
              rintro e w2 ⟨v2, rfl, hv2, hb2⟩
              rw [hL2] at hv2
              obtain ⟨A2, cc2, rfl, hlc2, hcm2⟩ := hv2.form
              unfold maxLen at hcm2
              have HV2 := Lib.hid hv2
              have HB2 := Lib.hid (HB1.out.trans (hb2.mono hs1))
              have HQ2 := Lib.hid (HQ1.out.below hb2 HQ1.out.lt)
              clear hv2 hb2 q0 q1 q2 q3 hcu hL2 HL2 HQ1
              have q0 := HQ2.out.cell 0 (v := .int .i64 a) rfl
              have q1 := HQ2.out.cell 1 (v := .int .i64 b) rfl
              by_cases k1 : i < a
              · go_wp2_with fail
                have HB25 := Lib.hid (Below.refl w2.heap.size w2)
                have HB5 := HB2
                have HQ5 := HQ2
                clear q0 q1 HB1 HAC
                refine wp_inv (by kernel_rfl) [87, 88, 89, 90, 91, 92, 93, 94, 95, 96, 97, 98, 99, 100, 101, 102, 6]
                  [.is (.slice A2 L2.length cc2), .is (.pointer (some ⟨w.heap.size, 2, none⟩)), .is (.int .i64 c), .is (.pointer (some ⟨w.heap.size, 3, none⟩)), .is (.int .i64 d), Fact.chgs (cutL L2 c d), .is (.slice A l.length cc), .is (.pointer (some ⟨w.heap.size, 2, none⟩)), .is (.int .i64 c), .is (.pointer (some ⟨w.heap.size, 3, none⟩)), .is (.int .i64 d), Fact.chgs (cutL l c d), .is (.bool true), .is (.bool true), .is (.bool true), .is (.bool true), .is (.bool true)] (by kernel_rfl) ⟨?_, ?_, ?_, ?_, ?_, ?_, ?_, ?_, ?_, ?_, ?_, ?_, ?_, ?_, ?_, ?_, ?_, trivial⟩ ?_
                · intro x_ w1_ R hB_ hf hR
                  clear hB_ hf
                  simp only [frameOf, upd, List.foldl_cons, List.foldl_nil, Act.put, List.setIfInBounds_toArray, List.set_cons_succ, List.set_cons_zero] at hR ⊢
                  go_wp2_with fail
                  exact hR _ _ rfl (Below.refl _ _)
                · intro x_ w1_ R hB_ hf hR
                  clear hB_ hf
                  simp only [frameOf, upd, List.foldl_cons, List.foldl_nil, Act.put, List.setIfInBounds_toArray, List.set_cons_succ, List.set_cons_zero] at hR ⊢
                  go_wp2_with fail
                  exact hR _ _ rfl (Below.refl _ _)
                · intro x_ w1_ R hB_ hf hR
                  have h0 : x_ 88 = .pointer (some ⟨w.heap.size, 2, none⟩) := hf 1 (by kernel_rfl)
                  have q2 := (HQ5.out.below hB_ HQ5.out.lt).cell 2 (v := .int .i64 c) rfl
                  clear hB_ hf
                  simp only [frameOf, upd, List.foldl_cons, List.foldl_nil, Act.put, List.setIfInBounds_toArray, List.set_cons_succ, List.set_cons_zero] at hR ⊢
                  simp only [h0] at hR ⊢
                  go_wp2_with fail
                  exact hR _ _ rfl (Below.refl _ _)
                · intro x_ w1_ R hB_ hf hR
                  clear hB_ hf
                  simp only [frameOf, upd, List.foldl_cons, List.foldl_nil, Act.put, List.setIfInBounds_toArray, List.set_cons_succ, List.set_cons_zero] at hR ⊢
                  go_wp2_with fail
                  exact hR _ _ rfl (Below.refl _ _)
                · intro x_ w1_ R hB_ hf hR
                  have h0 : x_ 90 = .pointer (some ⟨w.heap.size, 3, none⟩) := hf 3 (by kernel_rfl)
                  have q3 := (HQ5.out.below hB_ HQ5.out.lt).cell 3 (v := .int .i64 d) rfl
                  clear hB_ hf
                  simp only [frameOf, upd, List.foldl_cons, List.foldl_nil, Act.put, List.setIfInBounds_toArray, List.set_cons_succ, List.set_cons_zero] at hR ⊢
                  simp only [h0] at hR ⊢
                  go_wp2_with fail
                  exact hR _ _ rfl (Below.refl _ _)
                · intro x_ w1_ R hB_ hf hR
                  have h0 : x_ 87 = .slice A2 L2.length cc2 := hf 0 (by kernel_rfl)
                  have h1 : x_ 89 = .int .i64 c := hf 2 (by kernel_rfl)
                  have h2 : x_ 91 = .int .i64 d := hf 4 (by kernel_rfl)
                  have HC := Lib.hid (cut_any w1_ w2.heap.size _ L2 c d (HV2.out.below (HB25.out.trans (hB_.mono HB25.out.size))) (Nat.le_trans HB25.out.size hB_.size) (by omega) hris2)
                  clear hB_ hf
                  simp only [frameOf, upd, List.foldl_cons, List.foldl_nil, Act.put, List.setIfInBounds_toArray, List.set_cons_succ, List.set_cons_zero] at hR ⊢
                  simp only [h0, h1, h2] at hR ⊢
                  go_wp2_with fail
                  refine HC.out.mono ?_
                  rintro e w2_ ⟨v_, rfl, hv_, hb_⟩
                  clear HC
                  go_wp2_with fail
                  exact hR _ _ hv_ hb_
                · intro x_ w1_ R hB_ hf hR
                  clear hB_ hf
                  simp only [frameOf, upd, List.foldl_cons, List.foldl_nil, Act.put, List.setIfInBounds_toArray, List.set_cons_succ, List.set_cons_zero] at hR ⊢
                  go_wp2_with fail
                  exact hR _ _ rfl (Below.refl _ _)
                · intro x_ w1_ R hB_ hf hR
                  clear hB_ hf
                  simp only [frameOf, upd, List.foldl_cons, List.foldl_nil, Act.put, List.setIfInBounds_toArray, List.set_cons_succ, List.set_cons_zero] at hR ⊢
                  go_wp2_with fail
                  exact hR _ _ rfl (Below.refl _ _)
                · intro x_ w1_ R hB_ hf hR
                  have h0 : x_ 94 = .pointer (some ⟨w.heap.size, 2, none⟩) := hf 7 (by kernel_rfl)
                  have q2 := (HQ5.out.below hB_ HQ5.out.lt).cell 2 (v := .int .i64 c) rfl
                  clear hB_ hf
                  simp only [frameOf, upd, List.foldl_cons, List.foldl_nil, Act.put, List.setIfInBounds_toArray, List.set_cons_succ, List.set_cons_zero] at hR ⊢
                  simp only [h0] at hR ⊢
                  go_wp2_with fail
                  exact hR _ _ rfl (Below.refl _ _)
                · intro x_ w1_ R hB_ hf hR
                  clear hB_ hf
                  simp only [frameOf, upd, List.foldl_cons, List.foldl_nil, Act.put, List.setIfInBounds_toArray, List.set_cons_succ, List.set_cons_zero] at hR ⊢
                  go_wp2_with fail
                  exact hR _ _ rfl (Below.refl _ _)
                · intro x_ w1_ R hB_ hf hR
                  have h0 : x_ 96 = .pointer (some ⟨w.heap.size, 3, none⟩) := hf 9 (by kernel_rfl)
                  have q3 := (HQ5.out.below hB_ HQ5.out.lt).cell 3 (v := .int .i64 d) rfl
                  clear hB_ hf
                  simp only [frameOf, upd, List.foldl_cons, List.foldl_nil, Act.put, List.setIfInBounds_toArray, List.set_cons_succ, List.set_cons_zero] at hR ⊢
                  simp only [h0] at hR ⊢
                  go_wp2_with fail
                  exact hR _ _ rfl (Below.refl _ _)
                · intro x_ w1_ R hB_ hf hR
                  have h0 : x_ 93 = .slice A l.length cc := hf 6 (by kernel_rfl)
                  have h1 : x_ 95 = .int .i64 c := hf 8 (by kernel_rfl)
                  have h2 : x_ 97 = .int .i64 d := hf 10 (by kernel_rfl)
                  have HC := Lib.hid (cut_any w1_ w.heap.size _ l c d (HV.out.below (HB5.out.trans (hB_.mono HB5.out.size))) (Nat.le_trans HB5.out.size hB_.size) (by omega) hris)
                  clear hB_ hf
                  simp only [frameOf, upd, List.foldl_cons, List.foldl_nil, Act.put, List.setIfInBounds_toArray, List.set_cons_succ, List.set_cons_zero] at hR ⊢
                  simp only [h0, h1, h2] at hR ⊢
                  go_wp2_with fail
                  refine HC.out.mono ?_
                  rintro e w2_ ⟨v_, rfl, hv_, hb_⟩
                  clear HC
                  go_wp2_with fail
                  exact hR _ _ hv_ hb_
                · intro x_ w1_ R hB_ hf hR
                  have hA := Lib.hid (show Chgs w1_ w1_.heap.size (x_ 92) (cutL L2 c d) from hf 5 (by kernel_rfl))
                  have hC := Lib.hid (show Chgs w1_ w1_.heap.size (x_ 98) (cutL l c d) from hf 11 (by kernel_rfl))
                  have HC := Lib.hid (same_any w1_ w1_.heap.size _ _ _ _ hA.out hC.out (Nat.le_refl _))
                  rw [sameB_iff.2 HCC.out] at HC
                  clear hB_ hf
                  simp only [frameOf, upd, List.foldl_cons, List.foldl_nil, Act.put, List.setIfInBounds_toArray, List.set_cons_succ, List.set_cons_zero] at hR ⊢
                  go_wp2_with fail
                  refine HC.out.mono ?_
                  rintro e w2_ ⟨rfl, hb_⟩
                  clear HC
                  go_wp2_with fail
                  exact hR _ _ rfl hb_
                · intro x_ w1_ R hB_ hf hR
                  have h0 : x_ 99 = .bool true := hf 12 (by kernel_rfl)
                  clear hB_ hf
                  simp only [frameOf, upd, List.foldl_cons, List.foldl_nil, Act.put, List.setIfInBounds_toArray, List.set_cons_succ, List.set_cons_zero] at hR ⊢
                  simp only [h0] at hR ⊢
                  go_wp2_with fail
                  exact hR _ _ rfl (Below.refl _ _)
                · intro x_ w1_ R hB_ hf hR
                  have h0 : x_ 100 = .bool true := hf 13 (by kernel_rfl)
                  have HC := Lib.hid (awake_any w1_ (HM.out.below (HB5.out.trans (hB_.mono HB5.out.size)) (Nat.le_refl _)))
                  clear hB_ hf
                  simp only [frameOf, upd, List.foldl_cons, List.foldl_nil, Act.put, List.setIfInBounds_toArray, List.set_cons_succ, List.set_cons_zero] at hR ⊢
                  simp only [h0] at hR ⊢
                  go_wp2_with fail
                  refine HC.out.mono ?_
                  rintro e w2_ ⟨rfl, hb_⟩
                  clear HC
                  go_wp2_with fail
                  exact hR _ _ rfl hb_
                · intro x_ w1_ R hB_ hf hR
                  have h0 : x_ 100 = .bool true := hf 13 (by kernel_rfl)
                  have h1 : x_ 101 = .bool true := hf 14 (by kernel_rfl)
                  clear hB_ hf
                  simp only [frameOf, upd, List.foldl_cons, List.foldl_nil, Act.put, List.setIfInBounds_toArray, List.set_cons_succ, List.set_cons_zero] at hR ⊢
                  simp only [h0, h1] at hR ⊢
                  go_wp2_with fail
                  exact hR _ _ rfl (Below.refl _ _)
                · intro x_ w1_ R hB_ hf hR
                  have h0 : x_ 102 = .bool true := hf 15 (by kernel_rfl)
                  clear hB_ hf
                  simp only [frameOf, upd, List.foldl_cons, List.foldl_nil, Act.put, List.setIfInBounds_toArray, List.set_cons_succ, List.set_cons_zero] at hR ⊢
                  simp only [h0] at hR ⊢
                  go_wp2_with fail
                  exact hR _ _ rfl (Below.refl _ _)
                intro x_ w8 hB8 hf8
                have h6 : x_ 6 = .bool true := hf8 16 (by decide)
                simp only [frameOf, upd, List.foldl_cons, List.foldl_nil, Act.put, List.setIfInBounds_toArray, List.set_cons_succ, List.set_cons_zero]
                rw [h6]
                have hb8 := HB5.out.trans (hB8.mono HB5.out.size)
                clear hB8 hf8
                go_wp2_with fail
                go_ret
                exact ⟨rfl, hb8⟩
              · by_cases k2 : b < i
                · go_wp2_with fail
                  have HB25 := Lib.hid (Below.refl w2.heap.size w2)
                  have HB5 := HB2
                  have HQ5 := HQ2
                  clear q0 q1 HB1 HAC
                  refine wp_inv (by kernel_rfl) [87, 88, 89, 90, 91, 92, 93, 94, 95, 96, 97, 98, 99, 100, 101, 102, 6]
                    [.is (.slice A2 L2.length cc2), .is (.pointer (some ⟨w.heap.size, 2, none⟩)), .is (.int .i64 c), .is (.pointer (some ⟨w.heap.size, 3, none⟩)), .is (.int .i64 d), Fact.chgs (cutL L2 c d), .is (.slice A l.length cc), .is (.pointer (some ⟨w.heap.size, 2, none⟩)), .is (.int .i64 c), .is (.pointer (some ⟨w.heap.size, 3, none⟩)), .is (.int .i64 d), Fact.chgs (cutL l c d), .is (.bool true), .is (.bool true), .is (.bool true), .is (.bool true), .is (.bool true)] (by kernel_rfl) ⟨?_, ?_, ?_, ?_, ?_, ?_, ?_, ?_, ?_, ?_, ?_, ?_, ?_, ?_, ?_, ?_, ?_, trivial⟩ ?_
                  · intro x_ w1_ R hB_ hf hR
                    clear hB_ hf
                    simp only [frameOf, upd, List.foldl_cons, List.foldl_nil, Act.put, List.setIfInBounds_toArray, List.set_cons_succ, List.set_cons_zero] at hR ⊢
                    go_wp2_with fail
                    exact hR _ _ rfl (Below.refl _ _)
                  · intro x_ w1_ R hB_ hf hR
                    clear hB_ hf
                    simp only [frameOf, upd, List.foldl_cons, List.foldl_nil, Act.put, List.setIfInBounds_toArray, List.set_cons_succ, List.set_cons_zero] at hR ⊢
                    go_wp2_with fail
                    exact hR _ _ rfl (Below.refl _ _)
                  · intro x_ w1_ R hB_ hf hR
                    have h0 : x_ 88 = .pointer (some ⟨w.heap.size, 2, none⟩) := hf 1 (by kernel_rfl)
                    have q2 := (HQ5.out.below hB_ HQ5.out.lt).cell 2 (v := .int .i64 c) rfl
                    clear hB_ hf
                    simp only [frameOf, upd, List.foldl_cons, List.foldl_nil, Act.put, List.setIfInBounds_toArray, List.set_cons_succ, List.set_cons_zero] at hR ⊢
                    simp only [h0] at hR ⊢
                    go_wp2_with fail
                    exact hR _ _ rfl (Below.refl _ _)
                  · intro x_ w1_ R hB_ hf hR
                    clear hB_ hf
                    simp only [frameOf, upd, List.foldl_cons, List.foldl_nil, Act.put, List.setIfInBounds_toArray, List.set_cons_succ, List.set_cons_zero] at hR ⊢
                    go_wp2_with fail
                    exact hR _ _ rfl (Below.refl _ _)
                  · intro x_ w1_ R hB_ hf hR
                    have h0 : x_ 90 = .pointer (some ⟨w.heap.size, 3, none⟩) := hf 3 (by kernel_rfl)
                    have q3 := (HQ5.out.below hB_ HQ5.out.lt).cell 3 (v := .int .i64 d) rfl
                    clear hB_ hf
                    simp only [frameOf, upd, List.foldl_cons, List.foldl_nil, Act.put, List.setIfInBounds_toArray, List.set_cons_succ, List.set_cons_zero] at hR ⊢
                    simp only [h0] at hR ⊢
                    go_wp2_with fail
                    exact hR _ _ rfl (Below.refl _ _)
                  · intro x_ w1_ R hB_ hf hR
                    have h0 : x_ 87 = .slice A2 L2.length cc2 := hf 0 (by kernel_rfl)
                    have h1 : x_ 89 = .int .i64 c := hf 2 (by kernel_rfl)
                    have h2 : x_ 91 = .int .i64 d := hf 4 (by kernel_rfl)
                    have HC := Lib.hid (cut_any w1_ w2.heap.size _ L2 c d (HV2.out.below (HB25.out.trans (hB_.mono HB25.out.size))) (Nat.le_trans HB25.out.size hB_.size) (by omega) hris2)
                    clear hB_ hf
                    simp only [frameOf, upd, List.foldl_cons, List.foldl_nil, Act.put, List.setIfInBounds_toArray, List.set_cons_succ, List.set_cons_zero] at hR ⊢
                    simp only [h0, h1, h2] at hR ⊢
                    go_wp2_with fail
                    refine HC.out.mono ?_
                    rintro e w2_ ⟨v_, rfl, hv_, hb_⟩
                    clear HC
                    go_wp2_with fail
                    exact hR _ _ hv_ hb_
                  · intro x_ w1_ R hB_ hf hR
                    clear hB_ hf
                    simp only [frameOf, upd, List.foldl_cons, List.foldl_nil, Act.put, List.setIfInBounds_toArray, List.set_cons_succ, List.set_cons_zero] at hR ⊢
                    go_wp2_with fail
                    exact hR _ _ rfl (Below.refl _ _)
                  · intro x_ w1_ R hB_ hf hR
                    clear hB_ hf
                    simp only [frameOf, upd, List.foldl_cons, List.foldl_nil, Act.put, List.setIfInBounds_toArray, List.set_cons_succ, List.set_cons_zero] at hR ⊢
                    go_wp2_with fail
                    exact hR _ _ rfl (Below.refl _ _)
                  · intro x_ w1_ R hB_ hf hR
                    have h0 : x_ 94 = .pointer (some ⟨w.heap.size, 2, none⟩) := hf 7 (by kernel_rfl)
                    have q2 := (HQ5.out.below hB_ HQ5.out.lt).cell 2 (v := .int .i64 c) rfl
                    clear hB_ hf
                    simp only [frameOf, upd, List.foldl_cons, List.foldl_nil, Act.put, List.setIfInBounds_toArray, List.set_cons_succ, List.set_cons_zero] at hR ⊢
                    simp only [h0] at hR ⊢
                    go_wp2_with fail
                    exact hR _ _ rfl (Below.refl _ _)
                  · intro x_ w1_ R hB_ hf hR
                    clear hB_ hf
                    simp only [frameOf, upd, List.foldl_cons, List.foldl_nil, Act.put, List.setIfInBounds_toArray, List.set_cons_succ, List.set_cons_zero] at hR ⊢
                    go_wp2_with fail
                    exact hR _ _ rfl (Below.refl _ _)
                  · intro x_ w1_ R hB_ hf hR
                    have h0 : x_ 96 = .pointer (some ⟨w.heap.size, 3, none⟩) := hf 9 (by kernel_rfl)
                    have q3 := (HQ5.out.below hB_ HQ5.out.lt).cell 3 (v := .int .i64 d) rfl
                    clear hB_ hf
                    simp only [frameOf, upd, List.foldl_cons, List.foldl_nil, Act.put, List.setIfInBounds_toArray, List.set_cons_succ, List.set_cons_zero] at hR ⊢
                    simp only [h0] at hR ⊢
                    go_wp2_with fail
                    exact hR _ _ rfl (Below.refl _ _)
                  · intro x_ w1_ R hB_ hf hR
                    have h0 : x_ 93 = .slice A l.length cc := hf 6 (by kernel_rfl)
                    have h1 : x_ 95 = .int .i64 c := hf 8 (by kernel_rfl)
                    have h2 : x_ 97 = .int .i64 d := hf 10 (by kernel_rfl)
                    have HC := Lib.hid (cut_any w1_ w.heap.size _ l c d (HV.out.below (HB5.out.trans (hB_.mono HB5.out.size))) (Nat.le_trans HB5.out.size hB_.size) (by omega) hris)
                    clear hB_ hf
                    simp only [frameOf, upd, List.foldl_cons, List.foldl_nil, Act.put, List.setIfInBounds_toArray, List.set_cons_succ, List.set_cons_zero] at hR ⊢
                    simp only [h0, h1, h2] at hR ⊢
                    go_wp2_with fail
                    refine HC.out.mono ?_
                    rintro e w2_ ⟨v_, rfl, hv_, hb_⟩
                    clear HC
                    go_wp2_with fail
                    exact hR _ _ hv_ hb_
                  · intro x_ w1_ R hB_ hf hR
                    have hA := Lib.hid (show Chgs w1_ w1_.heap.size (x_ 92) (cutL L2 c d) from hf 5 (by kernel_rfl))
                    have hC := Lib.hid (show Chgs w1_ w1_.heap.size (x_ 98) (cutL l c d) from hf 11 (by kernel_rfl))
                    have HC := Lib.hid (same_any w1_ w1_.heap.size _ _ _ _ hA.out hC.out (Nat.le_refl _))
                    rw [sameB_iff.2 HCC.out] at HC
                    clear hB_ hf
                    simp only [frameOf, upd, List.foldl_cons, List.foldl_nil, Act.put, List.setIfInBounds_toArray, List.set_cons_succ, List.set_cons_zero] at hR ⊢
                    go_wp2_with fail
                    refine HC.out.mono ?_
                    rintro e w2_ ⟨rfl, hb_⟩
                    clear HC
                    go_wp2_with fail
                    exact hR _ _ rfl hb_
                  · intro x_ w1_ R hB_ hf hR
                    have h0 : x_ 99 = .bool true := hf 12 (by kernel_rfl)
                    clear hB_ hf
                    simp only [frameOf, upd, List.foldl_cons, List.foldl_nil, Act.put, List.setIfInBounds_toArray, List.set_cons_succ, List.set_cons_zero] at hR ⊢
                    simp only [h0] at hR ⊢
                    go_wp2_with fail
                    exact hR _ _ rfl (Below.refl _ _)
                  · intro x_ w1_ R hB_ hf hR
                    have h0 : x_ 100 = .bool true := hf 13 (by kernel_rfl)
                    have HC := Lib.hid (awake_any w1_ (HM.out.below (HB5.out.trans (hB_.mono HB5.out.size)) (Nat.le_refl _)))
                    clear hB_ hf
                    simp only [frameOf, upd, List.foldl_cons, List.foldl_nil, Act.put, List.setIfInBounds_toArray, List.set_cons_succ, List.set_cons_zero] at hR ⊢
                    simp only [h0] at hR ⊢
                    go_wp2_with fail
                    refine HC.out.mono ?_
                    rintro e w2_ ⟨rfl, hb_⟩
                    clear HC
                    go_wp2_with fail
                    exact hR _ _ rfl hb_
                  · intro x_ w1_ R hB_ hf hR
                    have h0 : x_ 100 = .bool true := hf 13 (by kernel_rfl)
                    have h1 : x_ 101 = .bool true := hf 14 (by kernel_rfl)
                    clear hB_ hf
                    simp only [frameOf, upd, List.foldl_cons, List.foldl_nil, Act.put, List.setIfInBounds_toArray, List.set_cons_succ, List.set_cons_zero] at hR ⊢
                    simp only [h0, h1] at hR ⊢
                    go_wp2_with fail
                    exact hR _ _ rfl (Below.refl _ _)
                  · intro x_ w1_ R hB_ hf hR
                    have h0 : x_ 102 = .bool true := hf 15 (by kernel_rfl)
                    clear hB_ hf
                    simp only [frameOf, upd, List.foldl_cons, List.foldl_nil, Act.put, List.setIfInBounds_toArray, List.set_cons_succ, List.set_cons_zero] at hR ⊢
                    simp only [h0] at hR ⊢
                    go_wp2_with fail
                    exact hR _ _ rfl (Below.refl _ _)
                  intro x_ w8 hB8 hf8
                  have h6 : x_ 6 = .bool true := hf8 16 (by decide)
                  simp only [frameOf, upd, List.foldl_cons, List.foldl_nil, Act.put, List.setIfInBounds_toArray, List.set_cons_succ, List.set_cons_zero]
                  rw [h6]
                  have hb8 := HB5.out.trans (hB8.mono HB5.out.size)
                  clear hB8 hf8
                  go_wp2_with fail
                  go_ret
                  exact ⟨rfl, hb8⟩
                · have HAT1 := Lib.hid (fun (W : World) (hb : Below w.heap.size w W) => tat_any W w.heap.size _ l i (HV.out.below hb) hb.size (by omega) hris)
                  have HAT2 := Lib.hid (fun (W : World) (hb : Below w2.heap.size w2 W) => tat_any W w2.heap.size _ L2 i (HV2.out.below hb) hb.size (by omega) hris2)
                  rw [HAC.out (by omega) (by omega)] at HAT2
                  generalize atV l i = xe at HAT1 HAT2
                  obtain ⟨x, er⟩ := xe
                  unfold locA at HAT1 HAT2
                  go_wp2_with fail
                  refine (HAT1.out _ HB2.out).mono ?_
                  rintro e w3 ⟨rfl, hb3⟩
                  have hx3 := Blk.new w3 42 #[.int .i64 x.off, .bool x.dst, .string x.abbr]
                  have hb3' := hb3.alloc hb3.size (.cells #[.int .i64 x.off, .bool x.dst, .string x.abbr] 42)
                  obtain ⟨W3, hW3⟩ : ∃ W, w3.alloc (.cells #[.int .i64 x.off, .bool x.dst, .string x.abbr] 42) = W := ⟨_, rfl⟩
                  have hl3 : w3.heap.size < W3.heap.size := by rw [← hW3]; simp
                  rw [hW3] at hx3 hb3'
                  go_wp2_with fail
                  clear hW3
                  refine (HAT2.out _ hb3').mono ?_
                  rintro e w4 ⟨rfl, hb4⟩
                  have hx4 := hx3.below hb4 hx3.lt
                  have hb24 := hb3'.trans (hb4.mono hb3'.size)
                  have x0 := hx4.cell 0 (v := .int .i64 x.off) rfl
                  have x1 := hx4.cell 1 (v := .bool x.dst) rfl
                  have x2 := hx4.cell 2 (v := .string x.abbr) rfl
                  have hl4 := hx4.lt
                  have hb5 := hb24.alloc hb24.size (.cells #[.int .i64 x.off, .bool x.dst, .string x.abbr] 42)
                  have HB24 := Lib.hid hb5
                  clear hb3 hb3' hb4 hx3 hx4 HAT1 HAT2 q0 q1 hb24 hb5
                  go_wp2_with fail
                  obtain ⟨W5, hW5⟩ : ∃ W, w4.alloc (.cells #[.int .i64 x.off, .bool x.dst, .string x.abbr] 42) = W := ⟨_, rfl⟩
                  rw [hW5] at HB24 ⊢
                  clear hW5 x0 x1 x2
                  have HB25 := HB24
                  have HB5 := Lib.hid (HB2.out.trans (HB24.out.mono HB2.out.size))
                  have HQ5 := Lib.hid (HQ2.out.below HB24.out HQ2.out.lt)
                  clear HB1 HAC
                  refine wp_inv (by kernel_rfl) [87, 88, 89, 90, 91, 92, 93, 94, 95, 96, 97, 98, 99, 100, 101, 102, 6]
                    [.is (.slice A2 L2.length cc2), .is (.pointer (some ⟨w.heap.size, 2, none⟩)), .is (.int .i64 c), .is (.pointer (some ⟨w.heap.size, 3, none⟩)), .is (.int .i64 d), Fact.chgs (cutL L2 c d), .is (.slice A l.length cc), .is (.pointer (some ⟨w.heap.size, 2, none⟩)), .is (.int .i64 c), .is (.pointer (some ⟨w.heap.size, 3, none⟩)), .is (.int .i64 d), Fact.chgs (cutL l c d), .is (.bool true), .is (.bool true), .is (.bool true), .is (.bool true), .is (.bool true)] (by kernel_rfl) ⟨?_, ?_, ?_, ?_, ?_, ?_, ?_, ?_, ?_, ?_, ?_, ?_, ?_, ?_, ?_, ?_, ?_, trivial⟩ ?_
                  · intro x_ w1_ R hB_ hf hR
                    clear hB_ hf
                    simp only [frameOf, upd, List.foldl_cons, List.foldl_nil, Act.put, List.setIfInBounds_toArray, List.set_cons_succ, List.set_cons_zero] at hR ⊢
                    go_wp2_with fail
                    exact hR _ _ rfl (Below.refl _ _)
                  · intro x_ w1_ R hB_ hf hR
                    clear hB_ hf
                    simp only [frameOf, upd, List.foldl_cons, List.foldl_nil, Act.put, List.setIfInBounds_toArray, List.set_cons_succ, List.set_cons_zero] at hR ⊢
                    go_wp2_with fail
                    exact hR _ _ rfl (Below.refl _ _)
                  · intro x_ w1_ R hB_ hf hR
                    have h0 : x_ 88 = .pointer (some ⟨w.heap.size, 2, none⟩) := hf 1 (by kernel_rfl)
                    have q2 := (HQ5.out.below hB_ HQ5.out.lt).cell 2 (v := .int .i64 c) rfl
                    clear hB_ hf
                    simp only [frameOf, upd, List.foldl_cons, List.foldl_nil, Act.put, List.setIfInBounds_toArray, List.set_cons_succ, List.set_cons_zero] at hR ⊢
                    simp only [h0] at hR ⊢
                    go_wp2_with fail
                    exact hR _ _ rfl (Below.refl _ _)
                  · intro x_ w1_ R hB_ hf hR
                    clear hB_ hf
                    simp only [frameOf, upd, List.foldl_cons, List.foldl_nil, Act.put, List.setIfInBounds_toArray, List.set_cons_succ, List.set_cons_zero] at hR ⊢
                    go_wp2_with fail
                    exact hR _ _ rfl (Below.refl _ _)
                  · intro x_ w1_ R hB_ hf hR
                    have h0 : x_ 90 = .pointer (some ⟨w.heap.size, 3, none⟩) := hf 3 (by kernel_rfl)
                    have q3 := (HQ5.out.below hB_ HQ5.out.lt).cell 3 (v := .int .i64 d) rfl
                    clear hB_ hf
                    simp only [frameOf, upd, List.foldl_cons, List.foldl_nil, Act.put, List.setIfInBounds_toArray, List.set_cons_succ, List.set_cons_zero] at hR ⊢
                    simp only [h0] at hR ⊢
                    go_wp2_with fail
                    exact hR _ _ rfl (Below.refl _ _)
                  · intro x_ w1_ R hB_ hf hR
                    have h0 : x_ 87 = .slice A2 L2.length cc2 := hf 0 (by kernel_rfl)
                    have h1 : x_ 89 = .int .i64 c := hf 2 (by kernel_rfl)
                    have h2 : x_ 91 = .int .i64 d := hf 4 (by kernel_rfl)
                    have HC := Lib.hid (cut_any w1_ w2.heap.size _ L2 c d (HV2.out.below (HB25.out.trans (hB_.mono HB25.out.size))) (Nat.le_trans HB25.out.size hB_.size) (by omega) hris2)
                    clear hB_ hf
                    simp only [frameOf, upd, List.foldl_cons, List.foldl_nil, Act.put, List.setIfInBounds_toArray, List.set_cons_succ, List.set_cons_zero] at hR ⊢
                    simp only [h0, h1, h2] at hR ⊢
                    go_wp2_with fail
                    refine HC.out.mono ?_
                    rintro e w2_ ⟨v_, rfl, hv_, hb_⟩
                    clear HC
                    go_wp2_with fail
                    exact hR _ _ hv_ hb_
                  · intro x_ w1_ R hB_ hf hR
                    clear hB_ hf
                    simp only [frameOf, upd, List.foldl_cons, List.foldl_nil, Act.put, List.setIfInBounds_toArray, List.set_cons_succ, List.set_cons_zero] at hR ⊢
                    go_wp2_with fail
                    exact hR _ _ rfl (Below.refl _ _)
                  · intro x_ w1_ R hB_ hf hR
                    clear hB_ hf
                    simp only [frameOf, upd, List.foldl_cons, List.foldl_nil, Act.put, List.setIfInBounds_toArray, List.set_cons_succ, List.set_cons_zero] at hR ⊢
                    go_wp2_with fail
                    exact hR _ _ rfl (Below.refl _ _)
                  · intro x_ w1_ R hB_ hf hR
                    have h0 : x_ 94 = .pointer (some ⟨w.heap.size, 2, none⟩) := hf 7 (by kernel_rfl)
                    have q2 := (HQ5.out.below hB_ HQ5.out.lt).cell 2 (v := .int .i64 c) rfl
                    clear hB_ hf
                    simp only [frameOf, upd, List.foldl_cons, List.foldl_nil, Act.put, List.setIfInBounds_toArray, List.set_cons_succ, List.set_cons_zero] at hR ⊢
                    simp only [h0] at hR ⊢
                    go_wp2_with fail
                    exact hR _ _ rfl (Below.refl _ _)
                  · intro x_ w1_ R hB_ hf hR
                    clear hB_ hf
                    simp only [frameOf, upd, List.foldl_cons, List.foldl_nil, Act.put, List.setIfInBounds_toArray, List.set_cons_succ, List.set_cons_zero] at hR ⊢
                    go_wp2_with fail
                    exact hR _ _ rfl (Below.refl _ _)
                  · intro x_ w1_ R hB_ hf hR
                    have h0 : x_ 96 = .pointer (some ⟨w.heap.size, 3, none⟩) := hf 9 (by kernel_rfl)
                    have q3 := (HQ5.out.below hB_ HQ5.out.lt).cell 3 (v := .int .i64 d) rfl
                    clear hB_ hf
                    simp only [frameOf, upd, List.foldl_cons, List.foldl_nil, Act.put, List.setIfInBounds_toArray, List.set_cons_succ, List.set_cons_zero] at hR ⊢
                    simp only [h0] at hR ⊢
                    go_wp2_with fail
                    exact hR _ _ rfl (Below.refl _ _)
                  · intro x_ w1_ R hB_ hf hR
                    have h0 : x_ 93 = .slice A l.length cc := hf 6 (by kernel_rfl)
                    have h1 : x_ 95 = .int .i64 c := hf 8 (by kernel_rfl)
                    have h2 : x_ 97 = .int .i64 d := hf 10 (by kernel_rfl)
                    have HC := Lib.hid (cut_any w1_ w.heap.size _ l c d (HV.out.below (HB5.out.trans (hB_.mono HB5.out.size))) (Nat.le_trans HB5.out.size hB_.size) (by omega) hris)
                    clear hB_ hf
                    simp only [frameOf, upd, List.foldl_cons, List.foldl_nil, Act.put, List.setIfInBounds_toArray, List.set_cons_succ, List.set_cons_zero] at hR ⊢
                    simp only [h0, h1, h2] at hR ⊢
                    go_wp2_with fail
                    refine HC.out.mono ?_
                    rintro e w2_ ⟨v_, rfl, hv_, hb_⟩
                    clear HC
                    go_wp2_with fail
                    exact hR _ _ hv_ hb_
                  · intro x_ w1_ R hB_ hf hR
                    have hA := Lib.hid (show Chgs w1_ w1_.heap.size (x_ 92) (cutL L2 c d) from hf 5 (by kernel_rfl))
                    have hC := Lib.hid (show Chgs w1_ w1_.heap.size (x_ 98) (cutL l c d) from hf 11 (by kernel_rfl))
                    have HC := Lib.hid (same_any w1_ w1_.heap.size _ _ _ _ hA.out hC.out (Nat.le_refl _))
                    rw [sameB_iff.2 HCC.out] at HC
                    clear hB_ hf
                    simp only [frameOf, upd, List.foldl_cons, List.foldl_nil, Act.put, List.setIfInBounds_toArray, List.set_cons_succ, List.set_cons_zero] at hR ⊢
                    go_wp2_with fail
                    refine HC.out.mono ?_
                    rintro e w2_ ⟨rfl, hb_⟩
                    clear HC
                    go_wp2_with fail
                    exact hR _ _ rfl hb_
                  · intro x_ w1_ R hB_ hf hR
                    have h0 : x_ 99 = .bool true := hf 12 (by kernel_rfl)
                    clear hB_ hf
                    simp only [frameOf, upd, List.foldl_cons, List.foldl_nil, Act.put, List.setIfInBounds_toArray, List.set_cons_succ, List.set_cons_zero] at hR ⊢
                    simp only [h0] at hR ⊢
                    go_wp2_with fail
                    exact hR _ _ rfl (Below.refl _ _)
                  · intro x_ w1_ R hB_ hf hR
                    have h0 : x_ 100 = .bool true := hf 13 (by kernel_rfl)
                    have HC := Lib.hid (awake_any w1_ (HM.out.below (HB5.out.trans (hB_.mono HB5.out.size)) (Nat.le_refl _)))
                    clear hB_ hf
                    simp only [frameOf, upd, List.foldl_cons, List.foldl_nil, Act.put, List.setIfInBounds_toArray, List.set_cons_succ, List.set_cons_zero] at hR ⊢
                    simp only [h0] at hR ⊢
                    go_wp2_with fail
                    refine HC.out.mono ?_
                    rintro e w2_ ⟨rfl, hb_⟩
                    clear HC
                    go_wp2_with fail
                    exact hR _ _ rfl hb_
                  · intro x_ w1_ R hB_ hf hR
                    have h0 : x_ 100 = .bool true := hf 13 (by kernel_rfl)
                    have h1 : x_ 101 = .bool true := hf 14 (by kernel_rfl)
                    clear hB_ hf
                    simp only [frameOf, upd, List.foldl_cons, List.foldl_nil, Act.put, List.setIfInBounds_toArray, List.set_cons_succ, List.set_cons_zero] at hR ⊢
                    simp only [h0, h1] at hR ⊢
                    go_wp2_with fail
                    exact hR _ _ rfl (Below.refl _ _)
                  · intro x_ w1_ R hB_ hf hR
                    have h0 : x_ 102 = .bool true := hf 15 (by kernel_rfl)
                    clear hB_ hf
                    simp only [frameOf, upd, List.foldl_cons, List.foldl_nil, Act.put, List.setIfInBounds_toArray, List.set_cons_succ, List.set_cons_zero] at hR ⊢
                    simp only [h0] at hR ⊢
                    go_wp2_with fail
                    exact hR _ _ rfl (Below.refl _ _)
                  intro x_ w8 hB8 hf8
                  have h6 : x_ 6 = .bool true := hf8 16 (by decide)
                  simp only [frameOf, upd, List.foldl_cons, List.foldl_nil, Act.put, List.setIfInBounds_toArray, List.set_cons_succ, List.set_cons_zero]
                  rw [h6]
                  have hb8 := HB5.out.trans (hB8.mono HB5.out.size)
                  clear hB8 hf8
                  go_wp2_with fail
                  go_ret
                  exact ⟨rfl, hb8⟩
end Go.Proofs.YtekeaphbmkfogaaGreatDoor
