/-
  Layer 16's laws: Few, awake, same.
-/
import Derived.Test.YtmhadkdbonfmdaaDoorZRead
namespace Go.Proofs.YtmhadkdbonfmdaaDoor
open Go Go.RowKit Go.Shelf
set_option maxRecDepth 100000

def fewL (l : List Mem) : Bool := l.all (fun m => decide (m.1.length ≤ 80) && decide (m.2.length ≤ 200)) && decide (l.length ≤ 70)
set_option maxHeartbeats 1000000 in
theorem few_any (w : World) (v : Value) (l : List Mem) (hv : Mems w w.heap.size v l) :
    Calls Tryd.prog 8 #[v] w fun e w' => e = .returned (.bool (fewL l)) ∧ w = w' := by
  obtain ⟨A, c, rfl, hlc, hcm⟩ := hv.form
  unfold maxLen at hcm
  have HV := Lib.hid hv
  clear hv
  go_enter Tryd.func8, Tryd.ntmps8
  go_wp2_with fail
  go_loopw [3] (fun i wr => ∃ k : Nat, k ≤ l.length ∧ i = .int .i64 k ∧ (l.take k).all (fun m => decide (m.1.length ≤ 80) && decide (m.2.length ≤ 200)) = true ∧ w = wr) (fun i _ => l.length - (intOf i).toNat)
  case atStart => exact ⟨0, by omega, rfl, rfl, rfl⟩
  case round =>
    obtain ⟨k, hk, rfl, hall, rfl⟩ := hrel
    by_cases hlt : k < l.length
    · obtain ⟨b, o, rfl, hbB, hc0, hn, dv, hc1, hy⟩ := HV.out.at_ hlt
      obtain ⟨A2, c2, rfl, -, -⟩ := hy.form
      have hs := str_size (l[k]).1
      have HT : Hid ((l.take (k + 1)).all (fun m => decide (m.1.length ≤ 80) && decide (m.2.length ≤ 200)) = ((l.take k).all (fun m => decide (m.1.length ≤ 80) && decide (m.2.length ≤ 200)) && (decide ((l[k]).1.length ≤ 80) && decide ((l[k]).2.length ≤ 200)))) := by
        show _ = _
        rw [List.take_succ_eq_append_getElem hlt, List.all_append]
        simp
      have HNO : Hid (¬ ((l[k]).1.length ≤ 80 ∧ (l[k]).2.length ≤ 200) → fewL l = false) := fun h => by
        unfold fewL
        rw [Bool.and_eq_false_iff]
        left
        rw [List.all_eq_false]
        exact ⟨l[k], List.getElem_mem hlt, by simpa using h⟩
      clear hy
      generalize (l[k]).1 = name at *
      generalize (l[k]).2 = data at *
      have HA := Lib.hid hall
      clear hall
      rcases Nat.lt_or_ge 80 name.length with h1 | h1
      · go_wp2_with fail
        go_ret
        exact ⟨by rw [HNO.out (by omega)]; rfl, rfl⟩
      · rcases Nat.lt_or_ge 200 data.length with h2 | h2
        · go_wp2_with fail
          go_ret
          exact ⟨by rw [HNO.out (by omega)]; rfl, rfl⟩
        · go_wp2_with fail
          go_roundw
          case rel => exact ⟨k + 1, by omega, by go_num, by rw [HT.out, HA.out]; simp [h1, h2], trivial⟩
          case measure => first | (simp [intOf]; done) | (simp [intOf]; omega)
    · obtain rfl : k = l.length := by omega
      rw [List.take_length] at hall
      have HE : Hid (fewL l = decide ((l.length : Int) ≤ 70)) := by
        show _ = _
        unfold fewL
        rw [hall, Bool.true_and, decide_eq_decide]
        omega
      go_wp2_with fail
      go_ret
      exact ⟨ret_bool HE.out.symm, rfl⟩

def emptyFile : List UInt8 := [80, 75, 5, 6, 0, 0, 0, 0, 0, 0, 0, 0, 0, 0, 0, 0, 0, 0, 0, 0, 0, 0]
theorem file_nil : fileL (tris []) = emptyFile := by decide
theorem read_nil {er : Nat} {ms : List Mem} (h : ReadP emptyFile er ms) : er = 0 ∧ ms = [] := by
  have hg : Good [] := ⟨fun t h => (by cases h), (by decide)⟩
  have hf : emptyFile = fileL [] := file_nil.symm
  rcases h with ⟨ts, g, e, hs, h1, h2⟩ | ⟨ts, g, e, hs, h1, h2⟩ | ⟨h, -⟩
  · have := file_inj hg.1 g.1 (hf.symm.trans e)
    subst this
    exact ⟨h1, h2⟩
  · have := file_inj hg.1 g.1 (hf.symm.trans e)
    subst this
    exact absurd (fun t h => (by cases h)) hs
  · exact absurd ⟨[], hg, hf⟩ h

set_option maxHeartbeats 1000000 in
theorem awake_any (w : World) (hF : Fours w) : Calls Tryd.prog 9 #[] w fun e w' => e = .returned (.bool true) ∧ Below w.heap.size w w' := by
  have hwr := write_any w (.slice none 0 0) [] (mems_nil _ _) (by decide) (by rw [file_nil]; decide) hF
  have hck : checkL (sizes []) = 0 := by decide
  rw [hck, if_pos rfl, file_nil] at hwr
  have HW := Lib.hid hwr
  clear hwr hck
  go_enter Tryd.func9, Tryd.ntmps9
  go_wp2_with fail
  refine HW.out.mono ?_
  rintro e w1 ⟨⟨v1, rfl, hv1⟩, hb1⟩
  have hF1 := hF.below hb1
  have HRD := Lib.hid (readz_any w1 v1 emptyFile hv1 (by decide) hF1)
  have HV1 := Lib.hid hv1
  go_wp2_with fail
  refine HRD.out.mono ?_
  rintro e w2 ⟨⟨v2, er, ms, rfl, hm2, hr2⟩, hb2⟩
  obtain ⟨rfl, rfl⟩ := read_nil hr2
  obtain ⟨A2, c2, rfl, -, -⟩ := hm2.form
  have hv12 := bytes_below HV1.out hb2
  go_wp2_with fail
  have hb3 := bump w2 (.cells #[.int .u8 80, .int .u8 75, .int .u8 5, .int .u8 6, .int .u8 0, .int .u8 0, .int .u8 0, .int .u8 0, .int .u8 0, .int .u8 0, .int .u8 0, .int .u8 0, .int .u8 0, .int .u8 0, .int .u8 0, .int .u8 0, .int .u8 0, .int .u8 0, .int .u8 0, .int .u8 0, .int .u8 0, .int .u8 0] 5)
  refine (bytes_same _ _ _ emptyFile (bytes_below hv12 hb3) (new_bytes w2 _ _ _ emptyFile 22 rfl rfl (by decide))).mono ?_
  rintro e w4 ⟨rfl, hb4⟩
  go_wp2_with fail
  go_ret
  exact ⟨rfl, hb1.trans ((hb2.trans ((hb3.trans (hb4.mono hb3.size)).mono hb2.size)).mono hb1.size)⟩

set_option maxHeartbeats 1000000 in
theorem same_any (w : World) (va vb : Value) (l : List Mem) (ha : Mems w w.heap.size va l) (hb : Mems w w.heap.size vb l) :
    Calls Tryd.prog 20 #[va, vb] w fun e w' => e = .returned (.bool true) ∧ Below w.heap.size w w' := by
  obtain ⟨A, c, rfl, hlc, hcm⟩ := ha.form
  obtain ⟨A', c', rfl, hlc', hcm'⟩ := hb.form
  unfold maxLen at hcm hcm'
  have HA := Lib.hid ha
  have HB := Lib.hid hb
  clear ha hb
  go_enter Tryd.func20, Tryd.ntmps20
  go_wp2_with fail
  go_loopw [5] (fun i wr => ∃ k : Nat, k ≤ l.length ∧ i = .int .i64 k ∧ Below w.heap.size w wr) (fun i _ => l.length - (intOf i).toNat)
  case atStart => exact ⟨0, by omega, rfl, Below.refl _ _⟩
  case round =>
    obtain ⟨k, hk, rfl, hbel⟩ := hrel
    by_cases hlt : k < l.length
    · obtain ⟨b, o, rfl, hbB, hc0, hn, dv, hc1, hy⟩ := HA.out.at_ hlt
      obtain ⟨b', o', rfl, hbB', hc0', -, dv', hc1', hy'⟩ := HB.out.at_ hlt
      have hd0 := (hbel.cell (p := ⟨b, o + k * 2, none⟩) hbB).trans hc0
      have hd1 := (hbel.cell (p := ⟨b, o + k * 2 + 1, none⟩) hbB).trans hc1
      have hd0' := (hbel.cell (p := ⟨b', o' + k * 2, none⟩) hbB').trans hc0'
      have hd1' := (hbel.cell (p := ⟨b', o' + k * 2 + 1, none⟩) hbB').trans hc1'
      have HBS := Lib.hid (bytes_same wr.drew dv dv' (l[k]).2 ((hy.below hbel).more hbel.size) ((hy'.below hbel).more hbel.size))
      clear hc0 hc1 hc0' hc1' hy hy' hn
      generalize (l[k]).1 = name at *
      generalize (l[k]).2 = data at *
      go_wp2_with fail
      refine wp_text (by kernel_rfl) (by kernel_rfl) ?_
      intro R hR
      go_wp2_with fail
      refine HBS.out.mono ?_
      rintro e w2 ⟨rfl, hb2⟩
      have hbel2 : Below w.heap.size w w2 := hbel.drew.trans (hb2.mono hbel.size)
      go_wp2_with fail
      refine ⟨by simp [goodB, fits, plainPair, isSeqV, quiet, Act.eval], ?_⟩
      go_wp2_with fail
      go_roundw
      case rel => exact ⟨k + 1, by omega, by go_num, hbel2⟩
      case measure => first | (simp [intOf]; done) | (simp [intOf]; omega)
    · obtain rfl : k = l.length := by omega
      go_wp2_with fail
      go_ret
      exact ⟨rfl, hbel⟩
end Go.Proofs.YtmhadkdbonfmdaaDoor
