import Derived.Test.YthlgeffjoaiojaaDoorWalkF
import Derived.Test.YthlgeffjoaiojaaDoorSerialC
import Derived.Deep.RegionWith
import Derived.Outline
namespace Go.Proofs.YthlgeffjoaiojaaDoor
open Go.RowKit

/-- The sum of one slice of bytes, handed over in a new row. -/
theorem sum1 (W : World) (g B : Nat) (u : Value) (l : List UInt8) (hc : W.cell? ⟨g, 0, none⟩ = some u) (hu : Bytes W B u l) (hF : Fours W) :
    Calls Tryd.prog 11 #[.slice (some ⟨g, 0, none⟩) 1 1] W fun e w' => e = .returned (.int .i64 (sums 4294967295 l ^^^ 4294967295 : Nat)) ∧ W = w' := by
  have hg : g < W.heap.size := World.block_lt_of_cell? W _ hc
  have hs : Sl W W.heap.size 1 (.slice (some ⟨g, 0, none⟩) 1 1) 1 [u] := Sl.mk_ (Nat.le_refl _) (by decide) rfl hg fun j x hx => by
    rcases j with _ | j
    · simp only [List.getElem?_cons_zero, Option.some.injEq] at hx; subst hx; exact hc
    · simp at hx
  have h := sum_any W (max B W.heap.size) (.slice (some ⟨g, 0, none⟩) 1 1) [u] [l] (hs.more (by omega)) (fun i hi => by
    obtain rfl : i = 0 := by simpa using hi
    exact ⟨u, rfl, hu.more (by omega)⟩) (by simp [maxLen]) (by simpa using hu.le) hF
  simpa using h
theorem sum2 (W : World) (g B : Nat) (u1 u2 : Value) (l1 l2 : List UInt8) (hc1 : W.cell? ⟨g, 0, none⟩ = some u1) (hc2 : W.cell? ⟨g, 1, none⟩ = some u2) (hu1 : Bytes W B u1 l1) (hu2 : Bytes W B u2 l2) (hF : Fours W) :
    Calls Tryd.prog 11 #[.slice (some ⟨g, 0, none⟩) 2 2] W fun e w' => e = .returned (.int .i64 (sums 4294967295 (l1 ++ l2) ^^^ 4294967295 : Nat)) ∧ W = w' := by
  have hg : g < W.heap.size := World.block_lt_of_cell? W _ hc1
  have hs : Sl W W.heap.size 1 (.slice (some ⟨g, 0, none⟩) 2 2) 2 [u1, u2] := Sl.mk_ (Nat.le_refl _) (by decide) rfl hg fun j x hx => by
    rcases j with _ | j
    · simp only [List.getElem?_cons_zero, Option.some.injEq] at hx; subst hx; exact hc1
    · rcases j with _ | j
      · simp only [List.getElem?_cons_succ, List.getElem?_cons_zero, Option.some.injEq] at hx; subst hx; exact hc2
      · simp at hx
  have h := sum_any W (max B W.heap.size) (.slice (some ⟨g, 0, none⟩) 2 2) [u1, u2] [l1, l2] (hs.more (by omega)) (fun i hi => by
    have : i = 0 ∨ i = 1 := by have : i < 2 := hi; omega
    rcases this with rfl | rfl
    · exact ⟨u1, rfl, hu1.more (by omega)⟩
    · exact ⟨u2, rfl, hu2.more (by omega)⟩) (by simp [maxLen]) (by simpa using ⟨hu1.le, hu2.le⟩) hF
  simpa using h

set_option maxHeartbeats 1000000 in
theorem sums_walk (w : World) (v : Value) (l : List UInt8) (a : Int) (hv : Bytes w w.heap.size v l) (_ : -9223372036854775808 ≤ a ∧ a ≤ 9223372036854775807) (hF : Fours w) :
    Calls Tryd.prog 3 #[v, .int .i64 a] w fun e w' => e = .returned (.bool true) ∧ Below w.heap.size w w' := by
  have hl := hv.le
  unfold maxLen at hl
  by_cases hbig : 600 < l.length ∨ a < 0 ∨ l.length < a
  · obtain ⟨A, c, rfl, -, -⟩ := hv.form
    have h' : 600 < l.length ∨ (l.length ≤ 600 ∧ a < 0) ∨ (l.length ≤ 600 ∧ 0 ≤ a ∧ l.length < a) := by omega
    clear hbig
    rcases h' with h | ⟨h1, h⟩ | ⟨h1, h2, h⟩
    all_goals
      go_enter Tryd.func3, Tryd.ntmps3
      go_wp2_with (go_at_call 9; refine (awake_any _ hF).mono ?_; rintro e w' ⟨rfl, hb⟩)
      go_ret
      exact ⟨rfl, hb⟩
  have h1 : l.length ≤ 600 := by omega
  obtain ⟨n, rfl⟩ := Int.eq_ofNat_of_zero_le (show 0 ≤ a by omega)
  have h2 : n ≤ l.length := by omega
  clear hbig
  have HV := Lib.hid hv
  have HT := Lib.hid (List.take_append_drop n l)
  obtain ⟨A, c, rfl, hlc, hcm⟩ := hv.form
  have H1 := Lib.hid (hv.take h2)
  have h3 := hv.drop h2
  clear hv
  unfold maxLen at hcm
  by_cases hcn : n < c
  · rw [if_neg (by omega)] at h3
    have H2 := Lib.hid h3
    clear h3
    go_enter Tryd.func3, Tryd.ntmps3
    go_wp2_with (go_at_call 10; refine (rsum_any _ _ _ l HV.out (Nat.le_refl _) (by omega)).mono ?_; rintro e w' ⟨rfl, hb⟩)
    have HF := Lib.hid (hF.below hb)
    have HB1 := Lib.hid (HV.out.below hb)
    have hsz := hb.size
    refine wp_text (by kernel_rfl) (by kernel_rfl) ?_
    intro R hR
    go_wp2_with fail
    refine (sum1 _ _ w.heap.size (.slice A l.length c) l ?_ ?_ ?_).mono ?_
    · go_simp
    · exact (HB1.out.alloc hsz _).drew
    · exact (HF.out.alloc _).drew
    rintro e w'' ⟨rfl, rfl⟩
    go_wp2_with fail
    refine (sum2 _ _ w.heap.size (.slice A n c) (.slice (Option.map (fun x => x.add n) A) (l.length - n) (c - n)) (l.take n) (l.drop n) ?_ ?_ ?_ ?_ ?_).mono ?_
    · go_simp
    · go_simp
    · exact (((H1.out.below hb).alloc hsz _).alloc (by simp; omega) _).drew
    · exact (((H2.out.below hb).alloc hsz _).alloc (by simp; omega) _).drew
    · exact ((HF.out.alloc _).alloc _).drew
    rw [HT.out]
    rintro e w'' ⟨rfl, rfl⟩
    go_wp2_with fail
    refine (sum2 _ _ w.heap.size (.slice none 0 0) (.slice A l.length c) [] l ?_ ?_ ?_ ?_ ?_).mono ?_
    · go_simp
    · go_simp
    · exact Bytes.nil _ _
    · exact (((HB1.out.alloc hsz _).alloc (by simp; omega) _).alloc (by simp; omega) _).drew
    · exact (((HF.out.alloc _).alloc _).alloc _).drew
    rw [List.nil_append]
    rintro e w'' ⟨rfl, rfl⟩
    go_wp2_with fail
    refine (awake_any _ ?_).mono ?_
    · exact (((HF.out.alloc _).alloc _).alloc _).drew
    rintro e w'' ⟨rfl, hb2⟩
    go_wp2
    refine ⟨by simp [goodB, fits, plainPair, isSeqV, quiet, Act.eval], ?_⟩
    go_wp2
    go_ret
    exact ⟨rfl, ((((hb.alloc hsz _).alloc (by simp; omega) _).alloc (by simp; omega) _).drew).trans (hb2.mono (by simp; omega))⟩
  · obtain rfl : n = l.length := by omega
    obtain rfl : c = l.length := by omega
    rw [if_pos rfl] at h3
    rw [Nat.sub_self] at h3
    have H2 := Lib.hid h3
    clear h3 hcn hcm hlc h2
    go_enter Tryd.func3, Tryd.ntmps3
    go_wp2_with (go_at_call 10; refine (rsum_any _ _ _ l HV.out (Nat.le_refl _) (by omega)).mono ?_; rintro e w' ⟨rfl, hb⟩)
    have HF := Lib.hid (hF.below hb)
    have HB1 := Lib.hid (HV.out.below hb)
    have hsz := hb.size
    refine wp_text (by kernel_rfl) (by kernel_rfl) ?_
    intro R hR
    go_wp2_with fail
    refine (sum1 _ _ w.heap.size (.slice A l.length l.length) l ?_ ?_ ?_).mono ?_
    · go_simp
    · exact (HB1.out.alloc hsz _).drew
    · exact (HF.out.alloc _).drew
    rintro e w'' ⟨rfl, rfl⟩
    go_wp2_with fail
    refine (sum2 _ _ w.heap.size (.slice A l.length l.length) (.slice A 0 0) (l.take l.length) (l.drop l.length) ?_ ?_ ?_ ?_ ?_).mono ?_
    · go_simp
    · go_simp
    · exact (((H1.out.below hb).alloc hsz _).alloc (by simp; omega) _).drew
    · exact (((H2.out.below hb).alloc hsz _).alloc (by simp; omega) _).drew
    · exact ((HF.out.alloc _).alloc _).drew
    rw [HT.out]
    rintro e w'' ⟨rfl, rfl⟩
    go_wp2_with fail
    refine (sum2 _ _ w.heap.size (.slice none 0 0) (.slice A l.length l.length) [] l ?_ ?_ ?_ ?_ ?_).mono ?_
    · go_simp
    · go_simp
    · exact Bytes.nil _ _
    · exact (((HB1.out.alloc hsz _).alloc (by simp; omega) _).alloc (by simp; omega) _).drew
    · exact (((HF.out.alloc _).alloc _).alloc _).drew
    rw [List.nil_append]
    rintro e w'' ⟨rfl, rfl⟩
    go_wp2_with fail
    refine (awake_any _ ?_).mono ?_
    · exact (((HF.out.alloc _).alloc _).alloc _).drew
    rintro e w'' ⟨rfl, hb2⟩
    go_wp2
    refine ⟨by simp [goodB, fits, plainPair, isSeqV, quiet, Act.eval], ?_⟩
    go_wp2
    go_ret
    exact ⟨rfl, ((((hb.alloc hsz _).alloc (by simp; omega) _).alloc (by simp; omega) _).drew).trans (hb2.mono (by simp; omega))⟩
end Go.Proofs.YthlgeffjoaiojaaDoor
