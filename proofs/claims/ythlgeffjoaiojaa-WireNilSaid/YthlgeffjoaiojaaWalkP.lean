/-
  The reference of layer 5, walked: Pieces.
-/
import Derived.Test.YthlgeffjoaiojaaWalkZ
namespace Go.Proofs.Ythlgeffjoaiojaa
open Go Go.RowKit

/-- The bits of m from i+k on, up to i+7. -/
def piece (m i k : Nat) : Nat := m / 2 ^ (i + k) % 2 ^ (7 - k)
theorem piece_seven (m i : Nat) : piece m i 7 = 0 := by simp [piece, Nat.mod_one]
theorem piece_zero (m i : Nat) : piece m i 0 = m / 2 ^ i % 128 := rfl
theorem piece_step (m i k : Nat) (hk : k ≤ 6) : piece m i k = 2 * piece m i (k + 1) + m / 2 ^ (i + k) % 2 := by
  unfold piece
  have e : 7 - k = (7 - (k + 1)) + 1 := by omega
  rw [← Nat.add_assoc, Nat.pow_succ 2 (i + k), ← Nat.div_div_eq_div_mul, e, Nat.pow_succ', Nat.mod_mul, Nat.add_comm]
theorem piece_lt (m i k : Nat) (h : k ≤ 7) : piece m i k < 128 := by
  unfold piece
  exact Nat.lt_of_lt_of_le (Nat.mod_lt _ (Nat.pow_pos (by decide))) (Nat.pow_le_pow_right (i := 7 - k) (j := 7) (by decide) (by omega))
/-- Behind the highest bit there is nothing. -/
theorem bit_zero {m n j : Nat} (h : m < 2 ^ n) (hj : n ≤ j) : m / 2 ^ j % 2 = 0 := by
  rw [Nat.div_eq_of_lt (Nat.lt_of_lt_of_le h (Nat.pow_le_pow_right (by decide) hj))]
theorem strip_step {m j : Nat} (h : m < 2 ^ (j + 1)) (hb : m / 2 ^ j % 2 = 0) : m < 2 ^ j := by
  have h1 : m / 2 ^ j < 2 := Nat.div_lt_of_lt_mul (by rw [Nat.pow_succ] at h; omega)
  have h2 : m / 2 ^ j = 0 := by clear h; generalize m / 2 ^ j = q at *; omega
  rcases Nat.div_eq_zero_iff.1 h2 with h | h
  · exact absurd h (Nat.ne_of_gt (Nat.pow_pos (by decide)))
  · exact h
theorem strip_end {m j : Nat} (hb : m / 2 ^ j % 2 = 1) : 2 ^ j ≤ m := by
  rcases Nat.lt_or_ge m (2 ^ j) with h | h
  · rw [Nat.div_eq_of_lt h] at hb; omega
  · exact h
theorem seven_more (m i : Nat) : m / 2 ^ i / 128 = m / 2 ^ (i + 7) := by rw [Nat.pow_add, Nat.div_div_eq_div_mul]
theorem high_big {m n i : Nat} (h : 2 ^ (n - 1) ≤ m) (hi : i + 7 < n) : 127 < m / 2 ^ i := by
  have h1 : 2 ^ (i + 7) ≤ m := Nat.le_trans (Nat.pow_le_pow_right (by decide) (by omega)) h
  have h2 : 128 ≤ m / 2 ^ i := (Nat.le_div_iff_mul_le (Nat.pow_pos (by decide))).2 (by rw [Nat.mul_comm]; rw [Nat.pow_add] at h1; exact h1)
  omega
theorem low_small {m n i : Nat} (h : m < 2 ^ n) (hi : n ≤ i + 7) : m / 2 ^ i ≤ 127 := by
  have h1 : m < 2 ^ (i + 7) := Nat.lt_of_lt_of_le h (Nat.pow_le_pow_right (by decide) hi)
  have h2 : m / 2 ^ i < 128 := Nat.div_lt_of_lt_mul (by rw [Nat.pow_add] at h1; exact h1)
  omega

/-- What the outer loop keeps. -/
def PiecesAt (m n i : Nat) (l : List UInt8) : Prop := (i = 0 ∨ i < n) ∧ l ++ pcs (m / 2 ^ i) = pcs m ∨ (0 < i ∧ n ≤ i) ∧ l = pcs m

set_option maxHeartbeats 4000000 in
theorem rpieces_any (K m : Nat) (hK : K ≤ 64) (hm : m < 2 ^ K) (w : World) (v : Value) (hv : Sl w w.heap.size 1 v K (natsV (bitsL K m))) :
    Calls Try.prog 9 #[v] w (Rets fun v' w' => Bytes w' w'.heap.size v' (pcs m) ∧ Below w.heap.size w w') := by
  obtain ⟨i0, hi, hz0, hz1, hz2⟩ := info_parts infoByte
  obtain ⟨A, c, rfl, hKc, hcm, -, hA⟩ := hv
  unfold maxLen at hcm
  have HA := Lib.hid hA; clear hA
  have HM0 := Lib.hid hm; clear hm
  go_enter Try.func9, Try.ntmps9
  go_wp2_with fail
  go_loop [3] (fun x => ∃ j : Nat, j ≤ K ∧ x = .int .i64 j ∧ m < 2 ^ j) (fun x => (intOf x).toNat)
  case atStart => exact ⟨K, Nat.le_refl _, rfl, HM0.out⟩
  case round =>
    obtain ⟨j, hj, rfl, hmj⟩ := hrel
    rcases Nat.eq_zero_or_pos j with rfl | hj0
    · have HLm := Lib.hid hmj; clear hmj
      have HLb : Hid (0 = 0 ∨ 2 ^ (0 - 1) ≤ m) := .inl rfl
      go_wp2_with fail
      go_loopw [4, 5] (fun v i wr => ∃ (k : Nat) (l : List UInt8), k ≤ 70 ∧ i = .int .i64 k ∧ l.length ≤ k ∧ wr.ownsRow w.heap.size 5 1 v l.length (bytesV l) ∧ Below w.heap.size w wr ∧ PiecesAt m (0) k l) (fun _ i _ => 71 - (intOf i).toNat)
      case atStart => exact ⟨0, [], by omega, rfl, by simp, World.ownsRow_nil _ _ _ _, Below.refl _ _, .inl ⟨.inl rfl, by simp⟩⟩
      case round =>
        obtain ⟨k, l, hk, rfl, hll, hown, hbel, hp⟩ := hrel
        obtain ⟨wo, rfl⟩ : ∃ wo : World, wo = wr := ⟨wr, rfl⟩
        rcases hp with ⟨hgo, hp⟩ | ⟨⟨h1, h2⟩, hp⟩
        · have HP := Lib.hid hp; clear hp
          have hk63 : k ≤ 63 := by omega
          rcases (show ((k : Int) == 0) = true ∨ 0 < k ∧ k < 0 by rw [beq_iff_eq]; omega) with hgo2 | hgo2 <;> first | (exfalso; omega) | (
            clear hgo
            go_wp2_with fail
            go_loop [6, 7] (fun x y => ∃ p : Nat, x = .int .i64 p ∧ p < 128 ∧ ((∃ t : Nat, t ≤ 6 ∧ y = .int .i64 t ∧ p = piece m k (t + 1)) ∨ (y = .int .i64 (-1) ∧ p = piece m k 0))) (fun _ y => (intOf y + 1).toNat)
            case atStart => exact ⟨0, rfl, by omega, .inl ⟨6, by omega, rfl, (piece_seven m k).symm⟩⟩
            case round =>
              obtain ⟨p, rfl, hp128, ⟨t, ht, rfl, hpe⟩ | ⟨rfl, hpe⟩⟩ := hrel
              · have hst := piece_step m k t ht
                have hlt := piece_lt m k t (by omega)
                have hq2 : m / 2 ^ (k + t) % 2 < 2 := Nat.mod_lt _ (by decide)
                rw [← hpe] at hst
                clear hpe
                by_cases hin : k + t < 0
                · first | (exfalso; omega) | (
                      obtain ⟨b', o', hAe, hbB', hc⟩ := HA.out (by omega)
                      cases hAe
                      have hcell2 := (hbel.cell hbB').trans (hc (k + t) _ (bitsL_at (show k + t < K by omega)))
                      clear hc
                      generalize m / 2 ^ (k + t) % 2 = q at *
                      have hb : 2 * p + q < 128 := by omega
                      have HQ := Lib.hid hst.symm
                      clear hst hlt
                      go_wp2_with fail
                      go_round
                      case rel =>
                        refine ⟨2 * p + q, by go_num, hb, ?_⟩
                        rcases Nat.eq_zero_or_pos t with rfl | h0
                        · exact .inr ⟨by go_num, HQ.out⟩
                        · exact .inl ⟨t - 1, by omega, by go_num, by rw [show t - 1 + 1 = t by omega]; exact HQ.out⟩
                      case measure => first | (simp [intOf]; done) | (simp [intOf]; omega)
                    )
                · rw [bit_zero HLm.out (by omega)] at hst
                  have hb : 2 * p < 128 := by omega
                  have HQ := Lib.hid hst.symm
                  clear hst hlt hq2
                  go_wp2_with fail
                  go_round
                  case rel =>
                    refine ⟨2 * p, by go_num, hb, ?_⟩
                    rcases Nat.eq_zero_or_pos t with rfl | h0
                    · exact .inr ⟨by go_num, HQ.out⟩
                    · exact .inl ⟨t - 1, by omega, by go_num, by rw [show t - 1 + 1 = t by omega]; exact HQ.out⟩
                  case measure => first | (simp [intOf]; done) | (simp [intOf]; omega)
              · rw [piece_zero] at hpe
                by_cases hmore : k + 7 < 0
                · first | (exfalso; omega) | (
                      have HE := Lib.hid (pcs_big (high_big (HLb.out.resolve_left (by omega)) hmore))
                      have HU : Hid ((UInt8.ofNat (m / 2 ^ k % 128 + 128)).toNat = p + 128) := by show _ = _; rw [UInt8.toNat_ofNat', ← hpe]; omega
                      have HS := Lib.hid (seven_more m k)
                      generalize UInt8.ofNat (m / 2 ^ k % 128 + 128) = y at *
                      clear hpe
                      go_wp2_with (at_builtin; refine wpList_append_own _ rfl _ _ 22 rfl (w.heap.size) 5 i0 (.int .u8 0) 1 1 Try.underlying22 hi hz0 hz1 hz2 rfl (by decide) _ _ _ rfl (hown.alloc _) ⟨wo.heap.size, 0, none⟩ 1 1 [.int .u8 ((p : Int) + 128)] rfl rfl (cell_one_new _ _ _) (by simp [Value.oneCell']) (by unfold maxLen; omega) (by omega) (by have := hbel.size; simp <;> omega) ?_; intro v' w1 hown' hgrow _)
                      go_roundw
                      case rel =>
                        refine ⟨k + 7, l ++ [y], by omega, by go_num, by simp; omega, own_byte (x := p + 128) hown' HU.out, ?_, .inl ⟨.inr (by omega), ?_⟩⟩
                        · exact (hbel.alloc hbel.size _).grown hgrow (by have := hbel.size; simp <;> omega) (fun g hg => (hown.lt g hg).1)
                        · rw [List.append_assoc, ← HP.out, HE.out, ← HS.out]; rfl
                      case measure => first | (simp [intOf]; done) | (simp [intOf]; omega)
                    )
                · have hsm := low_small HLm.out (show 0 ≤ k + 7 by omega)
                  have HE := Lib.hid (pcs_small hsm)
                  generalize m / 2 ^ k = r at *
                  have HU : Hid ((UInt8.ofNat r).toNat = p) := by show _ = _; rw [UInt8.toNat_ofNat', hpe]; omega
                  generalize UInt8.ofNat r = y at *
                  clear hpe hsm
                  go_wp2_with (at_builtin; refine wpList_append_own _ rfl _ _ 22 rfl (w.heap.size) 5 i0 (.int .u8 0) 1 1 Try.underlying22 hi hz0 hz1 hz2 rfl (by decide) _ _ _ rfl (hown.alloc _) ⟨wo.heap.size, 0, none⟩ 1 1 [.int .u8 (p : Int)] rfl rfl (cell_one_new _ _ _) (by simp [Value.oneCell']) (by unfold maxLen; omega) (by omega) (by have := hbel.size; simp <;> omega) ?_; intro v' w1 hown' hgrow _)
                  go_roundw
                  case rel =>
                    refine ⟨k + 7, l ++ [y], by omega, by go_num, by simp; omega, own_byte (x := p) hown' HU.out, ?_, .inr ⟨⟨by omega, by omega⟩, ?_⟩⟩
                    · exact (hbel.alloc hbel.size _).grown hgrow (by have := hbel.size; simp <;> omega) (fun g hg => (hown.lt g hg).1)
                    · rw [← HP.out, HE.out]
                  case measure => first | (simp [intOf]; done) | (simp [intOf]; omega)
            )
        · have HP := Lib.hid hp; clear hp
          have hk0 : ((k : Int) == 0) = false := by rw [beq_eq_false_iff_ne]; omega
          go_wp2_with fail
          go_ret
          exact ⟨_, rfl, by rw [← HP.out]; exact bytes_of_own hown rfl, hbel⟩
    · obtain ⟨j, rfl⟩ : ∃ j', j = j' + 1 := ⟨j - 1, by omega⟩
      obtain ⟨b, o, rfl, hbB, hc⟩ := HA.out (by omega)
      have hcell := hc j _ (bitsL_at (show j < K by omega))
      have hb : m / 2 ^ j % 2 < 2 := Nat.mod_lt _ (by decide)
      have hs0 : Hid (m / 2 ^ j % 2 = 0 → m < 2 ^ j) := fun h => strip_step hmj h
      have hs1 : Hid (m / 2 ^ j % 2 = 1 → 2 ^ j ≤ m) := fun h => strip_end h
      have HLm := Lib.hid hmj; clear hmj hc
      generalize m / 2 ^ j % 2 = x at *
      rcases (show x = 0 ∨ x = 1 by omega) with rfl | rfl
      · go_wp2_with fail
        go_round
        case rel => exact ⟨j, by omega, rfl, hs0.out rfl⟩
        case measure => simp [intOf]
      · have HLb : Hid (j + 1 = 0 ∨ 2 ^ (j + 1 - 1) ≤ m) := .inr (hs1.out rfl)
        clear hs0 hs1
        go_wp2_with fail
        go_loopw [4, 5] (fun v i wr => ∃ (k : Nat) (l : List UInt8), k ≤ 70 ∧ i = .int .i64 k ∧ l.length ≤ k ∧ wr.ownsRow w.heap.size 5 1 v l.length (bytesV l) ∧ Below w.heap.size w wr ∧ PiecesAt m (j + 1) k l) (fun _ i _ => 71 - (intOf i).toNat)
        case atStart => exact ⟨0, [], by omega, rfl, by simp, World.ownsRow_nil _ _ _ _, Below.refl _ _, .inl ⟨.inl rfl, by simp⟩⟩
        case round =>
          obtain ⟨k, l, hk, rfl, hll, hown, hbel, hp⟩ := hrel
          obtain ⟨wo, rfl⟩ : ∃ wo : World, wo = wr := ⟨wr, rfl⟩
          rcases hp with ⟨hgo, hp⟩ | ⟨⟨h1, h2⟩, hp⟩
          · have HP := Lib.hid hp; clear hp
            have hk63 : k ≤ 63 := by omega
            rcases (show ((k : Int) == 0) = true ∨ 0 < k ∧ k < j + 1 by rw [beq_iff_eq]; omega) with hgo2 | hgo2 <;> first | (exfalso; omega) | (
              clear hgo
              go_wp2_with fail
              go_loop [6, 7] (fun x y => ∃ p : Nat, x = .int .i64 p ∧ p < 128 ∧ ((∃ t : Nat, t ≤ 6 ∧ y = .int .i64 t ∧ p = piece m k (t + 1)) ∨ (y = .int .i64 (-1) ∧ p = piece m k 0))) (fun _ y => (intOf y + 1).toNat)
              case atStart => exact ⟨0, rfl, by omega, .inl ⟨6, by omega, rfl, (piece_seven m k).symm⟩⟩
              case round =>
                obtain ⟨p, rfl, hp128, ⟨t, ht, rfl, hpe⟩ | ⟨rfl, hpe⟩⟩ := hrel
                · have hst := piece_step m k t ht
                  have hlt := piece_lt m k t (by omega)
                  have hq2 : m / 2 ^ (k + t) % 2 < 2 := Nat.mod_lt _ (by decide)
                  rw [← hpe] at hst
                  clear hpe
                  by_cases hin : k + t < j + 1
                  · first | (exfalso; omega) | (
                        obtain ⟨b', o', hAe, hbB', hc⟩ := HA.out (by omega)
                        cases hAe
                        have hcell2 := (hbel.cell hbB').trans (hc (k + t) _ (bitsL_at (show k + t < K by omega)))
                        clear hc
                        generalize m / 2 ^ (k + t) % 2 = q at *
                        have hb : 2 * p + q < 128 := by omega
                        have HQ := Lib.hid hst.symm
                        clear hst hlt
                        go_wp2_with fail
                        go_round
                        case rel =>
                          refine ⟨2 * p + q, by go_num, hb, ?_⟩
                          rcases Nat.eq_zero_or_pos t with rfl | h0
                          · exact .inr ⟨by go_num, HQ.out⟩
                          · exact .inl ⟨t - 1, by omega, by go_num, by rw [show t - 1 + 1 = t by omega]; exact HQ.out⟩
                        case measure => first | (simp [intOf]; done) | (simp [intOf]; omega)
                      )
                  · rw [bit_zero HLm.out (by omega)] at hst
                    have hb : 2 * p < 128 := by omega
                    have HQ := Lib.hid hst.symm
                    clear hst hlt hq2
                    go_wp2_with fail
                    go_round
                    case rel =>
                      refine ⟨2 * p, by go_num, hb, ?_⟩
                      rcases Nat.eq_zero_or_pos t with rfl | h0
                      · exact .inr ⟨by go_num, HQ.out⟩
                      · exact .inl ⟨t - 1, by omega, by go_num, by rw [show t - 1 + 1 = t by omega]; exact HQ.out⟩
                    case measure => first | (simp [intOf]; done) | (simp [intOf]; omega)
                · rw [piece_zero] at hpe
                  by_cases hmore : k + 7 < j + 1
                  · first | (exfalso; omega) | (
                        have HE := Lib.hid (pcs_big (high_big (HLb.out.resolve_left (by omega)) hmore))
                        have HU : Hid ((UInt8.ofNat (m / 2 ^ k % 128 + 128)).toNat = p + 128) := by show _ = _; rw [UInt8.toNat_ofNat', ← hpe]; omega
                        have HS := Lib.hid (seven_more m k)
                        generalize UInt8.ofNat (m / 2 ^ k % 128 + 128) = y at *
                        clear hpe
                        go_wp2_with (at_builtin; refine wpList_append_own _ rfl _ _ 22 rfl (w.heap.size) 5 i0 (.int .u8 0) 1 1 Try.underlying22 hi hz0 hz1 hz2 rfl (by decide) _ _ _ rfl (hown.alloc _) ⟨wo.heap.size, 0, none⟩ 1 1 [.int .u8 ((p : Int) + 128)] rfl rfl (cell_one_new _ _ _) (by simp [Value.oneCell']) (by unfold maxLen; omega) (by omega) (by have := hbel.size; simp <;> omega) ?_; intro v' w1 hown' hgrow _)
                        go_roundw
                        case rel =>
                          refine ⟨k + 7, l ++ [y], by omega, by go_num, by simp; omega, own_byte (x := p + 128) hown' HU.out, ?_, .inl ⟨.inr (by omega), ?_⟩⟩
                          · exact (hbel.alloc hbel.size _).grown hgrow (by have := hbel.size; simp <;> omega) (fun g hg => (hown.lt g hg).1)
                          · rw [List.append_assoc, ← HP.out, HE.out, ← HS.out]; rfl
                        case measure => first | (simp [intOf]; done) | (simp [intOf]; omega)
                      )
                  · have hsm := low_small HLm.out (show j + 1 ≤ k + 7 by omega)
                    have HE := Lib.hid (pcs_small hsm)
                    generalize m / 2 ^ k = r at *
                    have HU : Hid ((UInt8.ofNat r).toNat = p) := by show _ = _; rw [UInt8.toNat_ofNat', hpe]; omega
                    generalize UInt8.ofNat r = y at *
                    clear hpe hsm
                    go_wp2_with (at_builtin; refine wpList_append_own _ rfl _ _ 22 rfl (w.heap.size) 5 i0 (.int .u8 0) 1 1 Try.underlying22 hi hz0 hz1 hz2 rfl (by decide) _ _ _ rfl (hown.alloc _) ⟨wo.heap.size, 0, none⟩ 1 1 [.int .u8 (p : Int)] rfl rfl (cell_one_new _ _ _) (by simp [Value.oneCell']) (by unfold maxLen; omega) (by omega) (by have := hbel.size; simp <;> omega) ?_; intro v' w1 hown' hgrow _)
                    go_roundw
                    case rel =>
                      refine ⟨k + 7, l ++ [y], by omega, by go_num, by simp; omega, own_byte (x := p) hown' HU.out, ?_, .inr ⟨⟨by omega, by omega⟩, ?_⟩⟩
                      · exact (hbel.alloc hbel.size _).grown hgrow (by have := hbel.size; simp <;> omega) (fun g hg => (hown.lt g hg).1)
                      · rw [← HP.out, HE.out]
                    case measure => first | (simp [intOf]; done) | (simp [intOf]; omega)
              )
          · have HP := Lib.hid hp; clear hp
            have hk0 : ((k : Int) == 0) = false := by rw [beq_eq_false_iff_ne]; omega
            go_wp2_with fail
            go_ret
            exact ⟨_, rfl, by rw [← HP.out]; exact bytes_of_own hown rfl, hbel⟩

end Go.Proofs.Ythlgeffjoaiojaa
