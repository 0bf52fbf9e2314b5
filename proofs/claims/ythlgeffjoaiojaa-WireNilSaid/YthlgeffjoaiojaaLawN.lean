/-
  Layer 5: the law WireNil, walked.
-/
import Derived.Test.YthlgeffjoaiojaaLawR
import Derived.Test.YthlgeffjoaiojaaAppend
namespace Go.Proofs.Ythlgeffjoaiojaa
open Go Go.RowKit

theorem bytesV_one' (l : List UInt8) : ∀ u ∈ bytesV l, u.oneCell' = true := by
  intro u hu
  simp only [bytesV, List.mem_map] at hu
  obtain ⟨x, _, rfl⟩ := hu
  rfl
theorem grown_below {w w' : World} {B : Nat} (h : w.grownBy w' none) (hB : B ≤ w.heap.size) : Below B w w' := (Below.refl B w).grown h hB (fun g hg => by cases hg)

set_option maxRecDepth 4000 in
set_option maxHeartbeats 400000 in
theorem nil_walk (w : World) (ask n0 : Int) (v : Value) (l : List UInt8) (n : Int) (ha : Wide ask) (_ : Wide n0) (hv : Bytes w w.heap.size v l) (hn : -9223372036854775808 ≤ n ∧ n ≤ 9223372036854775807) :
    Calls Try.prog 8 #[.agg #[.int .i64 ask, .int .i64 n0], v, .int .i64 n] w fun e w' => e = .returned (.bool true) ∧ Below w.heap.size w w' := by
  obtain ⟨i0, hi, hz0, hz1, hz2⟩ := info_parts infoByte
  obtain ⟨A, c, rfl, hlc, hcm⟩ := hv.form
  unfold maxLen at hcm
  have HV := Lib.hid hv; clear hv
  have HD := fun ww => Lib.hid (does_nil ww ask n0 ha)
  have hw1 : Below w.heap.size w (w.alloc (.cells #[.int .i64 ask, .int .i64 n0] 38)) := (Below.refl _ _).alloc (Nat.le_refl _) _
  have HW := Lib.hid hw1
  have c0 : (w.alloc (.cells #[.int .i64 ask, .int .i64 n0] 38)).cell? ⟨w.heap.size, 0, none⟩ = some (.int .i64 ask) := by rw [cell_new]; rfl
  have c1 : (w.alloc (.cells #[.int .i64 ask, .int .i64 n0] 38)).cell? ⟨w.heap.size, 1, none⟩ = some (.int .i64 n0) := by rw [cell_new]; rfl
  clear hw1 ha
  rcases (show (60 < l.length) ∨ (l.length ≤ 60 ∧ n < 0) ∨ (l.length ≤ 60 ∧ 0 ≤ n ∧ (l.length : Int) < n) ∨ (l.length ≤ 60 ∧ 0 ≤ n ∧ n ≤ l.length) by omega) with h1 | h1 | h1 | h1
  all_goals (
    go_enter Try.func8, Try.ntmps8
    go_wp2_with fail
    refine (HD _).out.mono ?_
    rintro e w2 ⟨rfl, hb2⟩
    have hbel2 := HW.out.trans (hb2.mono HW.out.size)
    go_wp2_with fail
    refine (err_nil _).mono ?_
    rintro e w3 ⟨rfl, rfl⟩
    go_wp2_with fail
    refine (at_nil _).mono ?_
    rintro e w3 ⟨rfl, rfl⟩
    go_wp2_with fail
    refine (left_nil _).mono ?_
    rintro e w3 ⟨rfl, rfl⟩)
  · go_wp2_with fail
    refine (awake_walk _).mono ?_
    rintro e w12 ⟨rfl, hb12⟩
    go_wp2_with fail
    go_ret
    exact ⟨rfl, hbel2.trans (hb12.mono hbel2.size)⟩
  · go_wp2_with fail
    refine (awake_walk _).mono ?_
    rintro e w12 ⟨rfl, hb12⟩
    go_wp2_with fail
    go_ret
    exact ⟨rfl, hbel2.trans (hb12.mono hbel2.size)⟩
  · go_wp2_with fail
    refine (awake_walk _).mono ?_
    rintro e w12 ⟨rfl, hb12⟩
    go_wp2_with fail
    go_ret
    exact ⟨rfl, hbel2.trans (hb12.mono hbel2.size)⟩
  · obtain ⟨h60, hn1, hn2⟩ := h1
    have hB2 := HV.out.below hbel2
    have hs2 := hbel2.size
    obtain ⟨m, rfl⟩ := Int.eq_ofNat_of_zero_le hn1
    go_wp2_with (at_builtin; refine wpList_append_sl rfl _ _ 22 rfl w2.heap.size 5 i0 (.int .u8 0) 1 1 Try.underlying22 hi hz0 hz1 hz2 rfl (by decide) (.slice none 0 0) 0 [] rfl (World.ownsRow_nil _ _ _ _) (.slice A l.length c) w.heap.size l.length (bytesV l) rfl hB2 (bytesV_one' l) (by unfold maxLen; omega) (by omega) (Nat.le_refl _) ?_; intro v3 w3 hown hgrow)
    rw [Nat.zero_add, List.nil_append] at hown
    have hbel3 := hbel2.trans (grown_below hgrow hs2)
    have hown3 : Bytes w3 w3.heap.size v3 l := bytes_of_own hown rfl
    obtain ⟨A3, c3, rfl, -, -⟩ := hown3.form
    clear hown hgrow hB2
    have HO := Lib.hid hown3
    refine (new_any hown3).mono ?_
    rintro e w4 ⟨rfl, hc4, hb4⟩
    have hO4 := HO.out.below hb4
    have hbel4 := hbel3.trans (hb4.mono hbel3.size)
    have hans : ansBytes m (l.drop 0) = (0, m, 0) := by
      unfold ansBytes
      rw [if_neg (by omega), if_neg (by rw [List.drop_zero]; omega)]
      rfl
    have hcut : cutN m 0 (l.drop 0) = l.take m := by
      unfold cutN
      rw [hans, if_pos ⟨rfl, rfl⟩]
      rfl
    have HB := Lib.hid (curBytes_any hc4 (by omega) m hn)
    rw [hans, hcut] at HB
    clear hans hcut
    have HC4 := Lib.hid hc4
    clear hown3 hc4 hO4
    go_wp2_with fail
    refine HB.out.mono ?_
    rintro e w5 ⟨⟨A5, N5, rfl, hX⟩, hc5, hb5⟩
    have hN : N5 = m := by
      obtain ⟨_, _, e, -⟩ := hX.form
      cases e
      rw [List.length_take]
      omega
    subst hN
    have hO5 := (HO.out.below hb4).below hb5
    have hs3 := hbel3.size
    have hs45 := hb4.size
    have hbel5 := hbel4.trans (hb5.mono hbel3.size)
    have HX := Lib.hid hX
    have HC5 := Lib.hid hc5
    have HO5 := Lib.hid hO5
    clear hX hc5 hO5
    have hXs : Sl w5 w3.heap.size 1 (.slice A5 N5 N5) N5 (bytesV (l.take N5)) := by
      have h := HX.out
      unfold Bytes at h
      rwa [List.length_take, Nat.min_eq_left (by omega)] at h
    have hs5 := hb5.size
    go_wp2_with (at_builtin; refine wpList_append_full rfl _ _ 22 rfl 5 i0 (.int .u8 0) 1 1 Try.underlying22 hi hz0 hz1 hz2 rfl (by decide) A5 w3.heap.size N5 (bytesV (l.take N5)) rfl (hXs.alloc (by omega) _) ⟨w5.heap.size, 0, none⟩ 2 2 [.int .u8 77, .int .u8 78] rfl rfl (fun j u hu => by rw [Addr.add_lit, Nat.zero_add, cell_new]; simpa using hu) (by simp [Value.oneCell']) (by decide) (by unfold maxLen; omega) (by omega) ?_; intro v6 w6 hown6 hgrow6)
    obtain ⟨g6, c6, rfl, -, -⟩ := own_at hown6 (by omega)
    have hb6 : Below w5.heap.size w5 w6 := ((Below.refl w5.heap.size w5).alloc (Nat.le_refl _) _).trans (grown_below hgrow6 (by simp))
    have hbel6 := hbel5.trans (hb6.mono (by omega))
    have hs6 := hb6.size
    have HC6 := Lib.hid (HC5.out.belowC hb6 (cur_size HC5.out))
    have HO6 := Lib.hid (HO5.out.below (hb6.mono (by omega)))
    have HV6 := Lib.hid (HV.out.below hbel6)
    clear hown6 hgrow6 hXs
    generalize hM : N5 + 2 = M
    have hMe : ((M : Int) == (N5 : Int) + 2) = true := by rw [beq_iff_eq]; omega
    have hM2 : M ≤ 1000 := by omega
    have HM := Lib.hid hM
    clear hM
    go_wp2_with fail
    go_simp
    go_wp2_with fail
    refine (bytes_same _ _ _ l (HO6.out.more (by omega)) (HV6.out.more (by omega))).mono ?_
    rintro e w7 ⟨rfl, hb7⟩
    have hbel7 := hbel6.trans (hb7.mono (by omega))
    have HC7 := Lib.hid (HC6.out.belowC hb7 (cur_size HC6.out))
    go_wp2_with fail
    refine (cur_err HC7.out).mono ?_
    rintro e w8 ⟨rfl, rfl⟩
    go_wp2_with fail
    refine (awake_walk _).mono ?_
    rintro e w12 ⟨rfl, hb12⟩
    go_wp2_with fail
    go_ret
    exact ⟨rfl, hbel7.trans (hb12.mono hbel7.size)⟩
end Go.Proofs.Ythlgeffjoaiojaa
