import Derived.Test.YthlgeffjoaiojaaDoorWalkD
import Derived.Lib.SlBytesConst
namespace Go.Proofs.YthlgeffjoaiojaaDoor
open Go.RowKit

set_option maxHeartbeats 1000000 in
theorem turn_bad (n : Nat) (at_ row : Int) (hn : n ≤ 1048576) (hat : at_ ≤ 9223372036854775807)
    (h : row < 1 ∨ 4294967295 < row ∨ at_ < 0 ∨ (8 * n : Int) - bitLen row.toNat < at_) (w : World) :
    Calls Tryd.prog 14 #[.int .i64 n, .int .i64 at_, .int .i64 row] w fun e w' => e = .returned (.tuple #[.int .i64 0, .int .i64 1]) ∧ w = w' := by
  have h' : row < 1 ∨ (1 ≤ row ∧ 4294967295 < row) ∨ (1 ≤ row ∧ row ≤ 4294967295 ∧ at_ < 0) ∨ (1 ≤ row ∧ row ≤ 4294967295 ∧ 0 ≤ at_ ∧ (8 * n : Int) - bitLen row.toNat < at_) := by omega
  clear h
  rcases h' with h | ⟨h1, h⟩ | ⟨h1, h2, h⟩ | ⟨h1, h2, h3, h⟩
  case inr.inr.inr =>
    obtain ⟨r, rfl⟩ := Int.eq_ofNat_of_zero_le (show 0 ≤ row by omega)
    have hb := bitLen_le r (by omega)
    rw [Int.toNat_natCast] at h
    generalize hB : bitLen r = b at *
    have HB := Lib.hid hB; clear hB
    go_enter Tryd.func14, Tryd.ntmps14
    go_wp2_with (go_at_call 20; refine (long_any r (by omega) _).mono ?_; rintro e w' ⟨rfl, rfl⟩; rw [HB.out])
    go_ret2
    exact ⟨rfl, rfl⟩
  all_goals
    go_enter Tryd.func14, Tryd.ntmps14
    go_wp2_with fail
    go_ret2
    exact ⟨rfl, rfl⟩

set_option maxHeartbeats 1000000 in
theorem turn_any (n a r : Nat) (hn : n ≤ 1048576) (hr : 1 ≤ r) (hr' : r ≤ 4294967295) (ha : a + bitLen r ≤ 8 * n) (w : World) (hF : Fours w) :
    Calls Tryd.prog 14 #[.int .i64 n, .int .i64 a, .int .i64 r] w fun e w' => e = .returned (.tuple #[.int .i64 (Ls (8 * n - a) r : Nat), .int .i64 0]) ∧ w = w' := by
  have hb := bitLen_le r (by omega)
  have HT := Lib.hid (lt_bitLen r)
  generalize hB : bitLen r = b at *
  have HB := Lib.hid hB; clear hB
  go_enter Tryd.func14, Tryd.ntmps14
  go_wp2_with (go_at_call 20; refine (long_any r (by omega) _).mono ?_; rintro e w' ⟨rfl, rfl⟩; rw [HB.out])
  have hk : a % 8 < 8 := Nat.mod_lt _ (by decide)
  have HP : Hid (2 ^ (a % 8) * r = r * 2 ^ (a % 8)) := Nat.mul_comm _ _
  have HR : Hid (r * 2 ^ (a % 8) < 2 ^ (a % 8 + b)) := by
    show _ < _
    rw [Nat.pow_add, Nat.mul_comm]; exact Nat.mul_lt_mul_of_pos_left HT.out (Nat.pow_pos (by decide))
  have HR2 : Hid (r * 2 ^ (a % 8) ≤ 4294967295 * 128) := by
    show _ ≤ _
    refine Nat.mul_le_mul hr' ?_
    exact Nat.pow_le_pow_right (by decide) (show a % 8 ≤ 7 by omega)
  have HE : Hid (wrap64 ((r : Int) * 2 ^ (a % 8)) = ((r * 2 ^ (a % 8) : Nat) : Int)) := by
    show _ = _
    have h1 : ((r : Int) * 2 ^ (a % 8)) = ((r * 2 ^ (a % 8) : Nat) : Int) := by simp
    rw [h1, wrap64]; have := HR2.out; omega
  rw [HE.out]
  have hR2 := HR2.out
  generalize hRR : r * 2 ^ (a % 8) = R at *
  have HRR := Lib.hid hRR; clear hRR
  have HA := Lib.hid (Nat.div_add_mod a 8)
  go_loop [2, 8, 9] (fun x c f => ∃ j m q : Nat, q < 4294967296 ∧ m ≤ R ∧ m = R / 2 ^ (8 * j) ∧ Ls (8 * j) R = q ^^^ m ∧ a / 8 + j ≤ n ∧ x = .int .i64 m ∧ c = .int .i64 q ∧ f = .int .i64 (a / 8 + j : Nat)) (fun x _ _ => (intOf x).toNat)
  case atStart => exact ⟨0, R, 0, by omega, by omega, by simp, by simp [Ls], by omega, rfl, rfl, by go_num⟩
  case round =>
    obtain ⟨j, m, q, hq, hm, hmj, hL, hj, rfl, rfl, rfl⟩ := hrel
    have HM := Lib.hid hmj; clear hmj
    have HL := Lib.hid hL; clear hL
    rcases Nat.lt_or_ge 0 m with h | h
    · have hj2 : a / 8 + j < n := by
        have h1 : 2 ^ (8 * j) ≤ R := by
          rcases Nat.lt_or_ge R (2 ^ (8 * j)) with h2 | h2
          · have := HM.out; rw [Nat.div_eq_of_lt h2] at this; omega
          · exact h2
        have h3 : 2 ^ (8 * j) < 2 ^ (a % 8 + b) := Nat.lt_of_le_of_lt h1 HR.out
        have h4 := (Nat.pow_lt_pow_iff_right (show 1 < 2 by decide)).1 h3
        omega
      have hx : m % 256 < 256 := Nat.mod_lt _ (by decide)
      have H8 : Hid (Ls 8 (q ^^^ m) = put8 q (m % 256) ^^^ m / 256) := by
        show _ = _
        rw [put8_eq]
        conv => lhs; rw [xor_split 8 m]
        rw [Nat.xor_comm (2 ^ 8 * _), ← Nat.xor_assoc, Ls_xor _ (q ^^^ _), Ls_shift]
      have H9 := Lib.hid (Ls_add (8 * j) 8 R)
      have H10 := Lib.hid (put8_lt q (m % 256) hq hx)
      go_wp2_with fail
      refine (put_any q (m % 256) hq hx w hF).mono ?_
      rintro e w' ⟨rfl, rfl⟩
      go_wp2
      go_round
      case rel =>
        refine ⟨j + 1, m / 256, put8 q (m % 256), H10.out, by omega, ?_, ?_, by omega, by go_num, rfl, by go_num⟩
        · rw [HM.out, Nat.mul_succ, Nat.pow_add, Nat.div_div_eq_div_mul]
        · rw [Nat.mul_succ, H9.out, HL.out, H8.out]
      case measure => simp [intOf]; omega
    · obtain rfl : m = 0 := by omega
      have HF : Hid (Ls (8 * (n - (a / 8 + j))) q = Ls (8 * n - a) r) := by
        show _ = _
        have h1 := HL.out
        rw [Nat.xor_zero] at h1
        rw [← h1, ← Ls_add, show 8 * j + 8 * (n - (a / 8 + j)) = a % 8 + (8 * n - a) by have := HA.out; omega, Ls_add, ← HP.out, Ls_shift]
      have hle : n - (a / 8 + j) ≤ 1048576 := by omega
      have hsub : ((n : Int) - (((a / 8 + j : Nat)) : Int)) = ((n - (a / 8 + j) : Nat) : Int) := by omega
      generalize a / 8 + j = f at *
      go_wp2_with fail
      refine (shift_any q (n - f) (by omega) hle w hF).mono ?_
      rintro e w' ⟨rfl, rfl⟩
      rw [HF.out]
      clear hsub
      go_wp2
      go_ret2
      exact ⟨rfl, rfl⟩

set_option maxHeartbeats 1000000 in
theorem rsum_any (w : World) (B : Nat) (v : Value) (l : List UInt8) (hv : Bytes w B v l) (hB : B ≤ w.heap.size) (hl : l.length ≤ 100000) :
    Calls Tryd.prog 10 #[v] w fun e w' => e = .returned (.int .i64 (sums 4294967295 l ^^^ 4294967295 : Nat)) ∧ Below w.heap.size w w' := by
  have HF : Hid (4294967295 - sums 4294967295 l = sums 4294967295 l ^^^ 4294967295) := (xor_all _ (sums_lt _ l (by decide))).symm
  have HF2 := Lib.hid (sums_lt 4294967295 l (by decide))
  have HB := Lib.hid (length_bitsOf l)
  have HS := Lib.hid (sumBits_bytes l 4294967295)
  have HL := Lib.hid (bitsOf_le l)
  go_enter Tryd.func10, Tryd.ntmps10
  go_wp2_with fail
  refine (rbits_any w B v l hv hB hl).mono ?_
  rintro e w' ⟨v', rfl, hv', hbel⟩
  obtain ⟨A, c, rfl, -, -, -, hA⟩ := hv'
  generalize bitsOf l = bs at *
  have HA := Lib.hid hA; clear hA
  go_wp2
  go_loop [4, 5] (fun s i => ∃ k : Nat, k ≤ 8 * l.length ∧ i = .int .i64 k ∧ s = .int .i64 (sumBits 4294967295 (bs.take k) : Nat)) (fun _ i => 8 * l.length - (intOf i).toNat)
  case atStart => exact ⟨0, by omega, rfl, rfl⟩
  case round =>
    obtain ⟨k, hk, rfl, rfl⟩ := hrel
    by_cases hlt : k < 8 * l.length
    · have hkl : k < bs.length := by rw [HB.out]; exact hlt
      obtain ⟨b, o, rfl, -, hc⟩ := HA.out (by omega)
      have hcell := hc k _ (natsV_at bs k hkl)
      clear hc
      have hb1 := HL.out _ (List.getElem_mem hkl)
      have HT := Lib.hid (sumBits_take 4294967295 bs k hkl)
      have HT1 := Lib.hid (sumBits_lt 4294967295 (bs.take k) (by decide) fun x hx => HL.out x (List.mem_of_mem_take hx))
      generalize bs[k] = bit at *
      generalize sumBits 4294967295 (bs.take k) = s1 at *
      clear hkl
      go_wp2_with fail
      refine (rstep_any s1 bit HT1.out hb1 _).mono ?_
      rintro e w'' ⟨rfl, rfl⟩
      go_wp2
      go_round
      case rel => exact ⟨k + 1, by omega, by go_num, by rw [HT.out]⟩
      case measure => simp [intOf]; omega
    · have he : bs.take k = bs := List.take_of_length_le (by have := HB.out; omega)
      rw [he, HS.out]
      clear he
      have hs := HF2.out
      go_wp2
      go_ret
      exact ⟨ret_int (by rw [← HF.out]; omega), hbel⟩

set_option maxHeartbeats 1000000 in
theorem awake_any (w : World) (hF : Fours w) :
    Calls Tryd.prog 9 #[] w fun e w' => e = .returned (.bool true) ∧ Below w.heap.size w w' := by
  have kc := fun (w : World) (C : Array Value) (n c : Nat) => Lib.run_convert_bytes_const (P := Tryd.prog) w 22 5 C n c Tryd.underlying22 Tryd.underlying5
  have HV : Hid (sums 4294967295 [[49, 50, 51, 52, 53, 54, 55, 56, 57]].flatten ^^^ 4294967295 = 3421780262) := by show _ = _; decide +kernel
  go_enter Tryd.func9, Tryd.ntmps9
  go_wp2_with fail
  have h1 := Sl.new w [.int .u8 49, .int .u8 50, .int .u8 51, .int .u8 52, .int .u8 53, .int .u8 54, .int .u8 55, .int .u8 56, .int .u8 57] 5 (9, 10) 9 1 rfl (by decide)
  have h2 := Sl.new (w.alloc (.cells #[.int .u8 49, .int .u8 50, .int .u8 51, .int .u8 52, .int .u8 53, .int .u8 54, .int .u8 55, .int .u8 56, .int .u8 57] 5 (9, 10))) [.slice (some ⟨w.heap.size, 0, none⟩) 9 9] 22 (0, 0) 1 1 rfl (by decide)
  rw [World.size_alloc] at h2
  refine (sum_any _ _ _ _ [[49, 50, 51, 52, 53, 54, 55, 56, 57]] h2 (fun i hi => ?_) (by decide) (by simp [maxLen]) ((hF.alloc _).alloc _)).mono ?_
  · obtain rfl : i = 0 := by simpa using hi
    exact ⟨_, rfl, (h1.alloc (by simp) _).more (by simp)⟩
  rintro e w' ⟨rfl, rfl⟩
  rw [HV.out]
  go_wp2_with fail
  refine (sum_any _ 0 _ [] [] (Sl.nil _ _ _) (fun i hi => absurd hi (by simp)) (by decide) (by simp) ((hF.alloc _).alloc _)).mono ?_
  rintro e w' ⟨rfl, rfl⟩
  go_wp2
  go_ret
  exact ⟨rfl, ((Below.refl _ _).alloc (Nat.le_refl _) _).alloc (by simp) _⟩
end Go.Proofs.YthlgeffjoaiojaaDoor
