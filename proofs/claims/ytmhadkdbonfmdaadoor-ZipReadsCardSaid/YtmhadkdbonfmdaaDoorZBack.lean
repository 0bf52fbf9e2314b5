/-
  Layer 16: the law ZipBack, walked.
-/
import Derived.Test.YtmhadkdbonfmdaaDoorZLawA
namespace Go.Proofs.YtmhadkdbonfmdaaDoor
open Go Go.RowKit Go.Shelf
set_option maxRecDepth 100000

/-- The file of few members is not long. -/
theorem file_few {l : List Mem} (h : fewL l = true) : (fileL (tris l)).length ≤ 100000 := by
  simp only [fewL, Bool.and_eq_true, decide_eq_true_eq, List.all_eq_true] at h
  obtain ⟨h1, h2⟩ := h
  rw [length_fileL, length_outL, length_listL]
  have key : ∀ l : List Mem, (∀ m ∈ l, m.1.length ≤ 80 ∧ m.2.length ≤ 200) → ((tris l).map sizeT).sum ≤ 310 * l.length ∧ ((tris l).map fun t => 46 + t.1.length).sum ≤ 126 * l.length := by
    intro l
    induction l with
    | nil => intro _; exact ⟨Nat.le_refl _, Nat.le_refl _⟩
    | cons m l ih =>
      intro h
      obtain ⟨a, b⟩ := ih fun m hm => h m (by simp [hm])
      obtain ⟨c, d⟩ := h m (by simp)
      simp only [tris, List.map_cons, List.sum_cons, sizeT, List.length_cons] at a b ⊢
      omega
  obtain ⟨a, b⟩ := key l h1
  omega
theorem tris_fits {l : List Mem} (h : checkL (sizes l) = 0) : ∀ t ∈ tris l, Fits t := by
  intro t ht
  obtain ⟨m, hm, rfl⟩ := List.mem_map.1 ht
  obtain ⟨h1, h2⟩ := (check_ok h).2.1 m hm
  have := nameOk_len h1
  exact ⟨crcOf_lt _, by dsimp only; omega, by dsimp only; omega⟩
theorem memT_tris (l : List Mem) : memT (tris l) = l := by
  unfold memT tris
  rw [List.map_map]
  conv => rhs; rw [← List.map_id l]
  apply List.map_congr_left
  intro m _
  rfl
theorem tris_sums (l : List Mem) : SumsOk (tris l) := by
  intro t ht
  obtain ⟨m, _, rfl⟩ := List.mem_map.1 ht
  rfl
theorem tris_good {l : List Mem} (h : checkL (sizes l) = 0) : Good (tris l) := ⟨tris_fits h, by rw [memT_tris]; exact h⟩
/-- What is written is read. -/
theorem read_write {l : List Mem} (h : checkL (sizes l) = 0) {er : Nat} {ms : List Mem} (hr : ReadP (fileL (tris l)) er ms) : er = 0 ∧ ms = l := by
  rcases hr with ⟨ts, g, e, hs, h1, h2⟩ | ⟨ts, g, e, hs, h1, h2⟩ | ⟨hn, -⟩
  · have := file_inj (tris_fits h) g.1 e
    subst this
    exact ⟨h1, by rw [h2, memT_tris]⟩
  · have := file_inj (tris_fits h) g.1 e
    subst this
    exact absurd (tris_sums l) hs
  · exact absurd ⟨_, tris_good h, rfl⟩ hn
/-- What is read is written. -/
theorem write_read {b : List UInt8} {ms : List Mem} (hr : ReadP b 0 ms) : checkL (sizes ms) = 0 ∧ fileL (tris ms) = b := by
  rcases hr with ⟨ts, g, e, hs, -, rfl⟩ | ⟨ts, g, e, hs, h1, h2⟩ | ⟨hn, h, -⟩
  · have : tris (memT ts) = ts := by
      unfold tris memT
      rw [List.map_map]
      conv => rhs; rw [← List.map_id ts]
      apply List.map_congr_left
      intro t ht
      simp only [Function.comp_apply, id_eq, ← hs t ht]
    exact ⟨g.2, by rw [this, e]⟩
  · cases h1
  · cases h
theorem read_err {b : List UInt8} {er : Nat} {ms : List Mem} (hr : ReadP b er ms) (h : er ≠ 0) : ms = [] ∧ (er = 12 ∨ er = 21) := by
  rcases hr with ⟨ts, g, e, hs, h1, h2⟩ | ⟨ts, g, e, hs, h1, h2⟩ | ⟨hn, h1, h2⟩
  · exact absurd h1 h
  · exact ⟨h2, .inr h1⟩
  · exact ⟨h2, .inl h1⟩

set_option maxHeartbeats 2000000 in
theorem back_walk (w : World) (v : Value) (l : List Mem) (u : Value) (b : List UInt8) (hv : Mems w w.heap.size v l) (hu : Bytes w w.heap.size u b) (hF : Fours w) :
    Calls Tryd.prog 5 #[v, u] w fun e w' => e = .returned (.bool true) ∧ Below w.heap.size w w' := by
  obtain ⟨A, c, rfl, hlc, hcm⟩ := hv.form
  obtain ⟨A', c', rfl, hbc, hbm⟩ := hu.form
  unfold maxLen at hcm hbm
  have HV := Lib.hid hv
  have HB := Lib.hid hu
  have HF := Lib.hid hF
  have HFEW := Lib.hid (few_any w _ l hv)
  clear hv hu hF
  have HAW : ∀ W, Below w.heap.size w W → Hid (Calls Tryd.prog 9 #[] W fun e w' => e = .returned (.bool true) ∧ Below W.heap.size W w') := fun W hW => awake_any W (HF.out.below hW)
  cases hf : fewL l with
  | false =>
    rw [hf] at HFEW
    go_enter Tryd.func5, Tryd.ntmps5
    go_wp2_with fail
    refine HFEW.out.mono ?_
    rintro e ww ⟨rfl, rfl⟩
    go_wp2_with fail
    refine (HAW w (Below.refl _ _)).out.mono ?_
    rintro e w2 ⟨rfl, hb2⟩
    go_wp2_with fail
    go_ret
    exact ⟨rfl, hb2⟩
  | true =>
    rw [hf] at HFEW
    have hfl := file_few hf
    have hl70 : l.length ≤ 70 := by simp only [fewL, Bool.and_eq_true, decide_eq_true_eq] at hf; exact hf.2
    rcases Nat.lt_or_ge 2000 b.length with hbig | hbig
    · go_enter Tryd.func5, Tryd.ntmps5
      go_wp2_with fail
      refine HFEW.out.mono ?_
      rintro e ww ⟨rfl, rfl⟩
      go_wp2_with fail
      refine (HAW w (Below.refl _ _)).out.mono ?_
      rintro e w2 ⟨rfl, hb2⟩
      go_wp2_with fail
      go_ret
      exact ⟨rfl, hb2⟩
    · have HW := Lib.hid (write_any w _ l HV.out (by omega) (by omega) HF.out)
      by_cases hck : checkL (sizes l) = 0
      · rw [hck, if_pos rfl] at HW
        go_enter Tryd.func5, Tryd.ntmps5
        go_wp2_with fail
        refine HFEW.out.mono ?_
        rintro e ww ⟨rfl, rfl⟩
        go_wp2_with fail
        refine HW.out.mono ?_
        rintro e w2 ⟨⟨v2, rfl, hv2⟩, hb2⟩
        have HRD := Lib.hid (readz_any w2 v2 _ hv2 hfl (HF.out.below hb2))
        go_wp2_with fail
        refine HRD.out.mono ?_
        rintro e w3 ⟨⟨v3, er3, ms3, rfl, hm3, hr3⟩, hb3⟩
        obtain ⟨rfl, rfl⟩ := read_write hck hr3
        have hbel3 := hb2.trans (hb3.mono hb2.size)
        have HSM := Lib.hid (same_any w3 v3 _ ms3 hm3 ((HV.out.below hbel3).more hbel3.size))
        clear HRD HW
        go_wp2_with fail
        refine HSM.out.mono ?_
        rintro e w4 ⟨rfl, hb4⟩
        have hbel4 := hbel3.trans (hb4.mono hbel3.size)
        have HRB := Lib.hid (readz_any w4 _ b (HB.out.below hbel4 |>.more (hbel4).size) (by omega) (HF.out.below hbel4))
        go_wp2_with fail
        refine HRB.out.mono ?_
        rintro e w5 ⟨⟨v5, er5, ms5, rfl, hm5, hr5⟩, hb5⟩
        have hbel5 := (hbel4).trans (hb5.mono (hbel4).size)
        obtain ⟨A5, c5, rfl, -, -⟩ := hm5.form
        by_cases he5 : er5 = 0
        · subst he5
          obtain ⟨hck, hfl⟩ := write_read hr5
          have hl5 : ms5.length ≤ 64 := (check_ok hck).1
          have hww := write_any w5 _ ms5 hm5 (by omega) (by rw [hfl]; omega) (HF.out.below hbel5)
          rw [hck, if_pos rfl, hfl] at hww
          have HWW := Lib.hid hww
          clear hww hr5 hck hfl HRB
          go_wp2_with fail
          refine HWW.out.mono ?_
          rintro e w6 ⟨⟨v6, rfl, hv6⟩, hb6⟩
          have hbel6 := hbel5.trans (hb6.mono hbel5.size)
          have HBS := Lib.hid (bytes_same w6 v6 _ b hv6 (HB.out.below hbel6 |>.more hbel6.size))
          go_wp2_with fail
          refine HBS.out.mono ?_
          rintro e w7 ⟨rfl, hb7⟩
          have hbel7 := hbel6.trans (hb7.mono hbel6.size)
          go_wp2_with fail
          refine (HAW w7 hbel7).out.mono ?_
          rintro e w8 ⟨rfl, hb8⟩
          go_wp2_with fail
          go_ret
          exact ⟨rfl, hbel7.trans (hb8.mono hbel7.size)⟩
        · obtain ⟨rfl, her⟩ := read_err hr5 he5
          have hne : ((er5 : Int) != 0) = true := by rw [bne_iff_ne]; omega
          clear he5 hr5 HRB
          rcases her with rfl | rfl
          all_goals
            go_wp2_with fail
            refine (HAW w5 hbel5).out.mono ?_
            rintro e w8 ⟨rfl, hb8⟩
            go_wp2_with fail
            go_ret
            exact ⟨rfl, hbel5.trans (hb8.mono hbel5.size)⟩
      · have hne : (((checkL (sizes l) : Nat) : Int) == 0) = false := by rw [beq_eq_false_iff_ne]; omega
        rw [if_neg hck] at HW
        generalize checkL (sizes l) = ck at *
        go_enter Tryd.func5, Tryd.ntmps5
        go_wp2_with fail
        refine HFEW.out.mono ?_
        rintro e ww ⟨rfl, rfl⟩
        go_wp2_with fail
        refine HW.out.mono ?_
        rintro e w4 ⟨⟨v2, rfl, hv2⟩, hb4⟩
        have HRB := Lib.hid (readz_any w4 _ b (HB.out.below hb4 |>.more (hb4).size) (by omega) (HF.out.below hb4))
        go_wp2_with fail
        refine HRB.out.mono ?_
        rintro e w5 ⟨⟨v5, er5, ms5, rfl, hm5, hr5⟩, hb5⟩
        have hbel5 := (hb4).trans (hb5.mono (hb4).size)
        obtain ⟨A5, c5, rfl, -, -⟩ := hm5.form
        by_cases he5 : er5 = 0
        · subst he5
          obtain ⟨hck, hfl⟩ := write_read hr5
          have hl5 : ms5.length ≤ 64 := (check_ok hck).1
          have hww := write_any w5 _ ms5 hm5 (by omega) (by rw [hfl]; omega) (HF.out.below hbel5)
          rw [hck, if_pos rfl, hfl] at hww
          have HWW := Lib.hid hww
          clear hww hr5 hck hfl HRB
          go_wp2_with fail
          refine HWW.out.mono ?_
          rintro e w6 ⟨⟨v6, rfl, hv6⟩, hb6⟩
          have hbel6 := hbel5.trans (hb6.mono hbel5.size)
          have HBS := Lib.hid (bytes_same w6 v6 _ b hv6 (HB.out.below hbel6 |>.more hbel6.size))
          go_wp2_with fail
          refine HBS.out.mono ?_
          rintro e w7 ⟨rfl, hb7⟩
          have hbel7 := hbel6.trans (hb7.mono hbel6.size)
          go_wp2_with fail
          refine (HAW w7 hbel7).out.mono ?_
          rintro e w8 ⟨rfl, hb8⟩
          go_wp2_with fail
          go_ret
          exact ⟨rfl, hbel7.trans (hb8.mono hbel7.size)⟩
        · obtain ⟨rfl, her⟩ := read_err hr5 he5
          have hne : ((er5 : Int) != 0) = true := by rw [bne_iff_ne]; omega
          clear he5 hr5 HRB
          rcases her with rfl | rfl
          all_goals
            go_wp2_with fail
            refine (HAW w5 hbel5).out.mono ?_
            rintro e w8 ⟨rfl, hb8⟩
            go_wp2_with fail
            go_ret
            exact ⟨rfl, hbel5.trans (hb8.mono hbel5.size)⟩
end Go.Proofs.YtmhadkdbonfmdaaDoor
