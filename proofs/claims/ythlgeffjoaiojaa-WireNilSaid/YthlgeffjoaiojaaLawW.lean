/-
  Layer 5: the laws WireWrites and WireOrder, walked.
-/
import Derived.Test.YthlgeffjoaiojaaWalkP
namespace Go.Proofs.Ythlgeffjoaiojaa
open Go Go.RowKit

theorem bytes_same (w : World) (va vb : Value) (l : List UInt8) (ha : Bytes w w.heap.size va l) (hb : Bytes w w.heap.size vb l) :
    Calls Try.prog 11 #[va, vb] w fun e w' => e = .returned (.bool true) ∧ Below w.heap.size w w' :=
  (bytes_any w va vb l l ha hb).mono fun _ _ ⟨h1, h2⟩ => ⟨h1.trans (ret_bool (beq_self_eq_true l)), h2⟩
/-- A literal of bytes. -/
theorem new_bytes (w : World) (cs : Array Value) (t : TypeId) (fr : Nat × Nat) (l : List UInt8) (n : Nat) (h : cs.toList = bytesV l) (hn : n = l.length) (hm : n ≤ maxLen) :
    Bytes (w.alloc (.cells cs t fr)) (w.alloc (.cells cs t fr)).heap.size (.slice (some ⟨w.heap.size, 0, none⟩) n n) l := by
  subst hn
  have := Sl.new w (bytesV l) t fr l.length 1 (by rw [length_bytesV, Nat.mul_one]) hm
  obtain rfl : cs = (bytesV l).toArray := by rw [← h]
  simpa [Bytes] using this
theorem uint_300 : uintL 300 = [172, 2] := by
  rw [show (300 : Int) = ((300 : Nat) : Int) from rfl, uintL_nat, pcs_big (by decide), pcs_small (by decide)]; rfl
theorem int_2 : pcs (zig (-2)) = [3] := by
  rw [show zig (-2) = 3 from rfl, pcs_small (by decide)]; rfl
theorem fixed_258 : fixedB 258 4 = [2, 1, 0, 0] := by decide

set_option maxHeartbeats 1000000 in
theorem awake_walk (w : World) : Calls Try.prog 17 #[] w fun e w' => e = .returned (.bool true) ∧ Below w.heap.size w w' := by
  go_enter Try.func17, Try.ntmps17
  go_wp2_with fail
  refine (uint_any 300 (by omega) _).mono ?_
  rintro e w1 ⟨v1, rfl, hv1, hb1⟩
  rw [uint_300] at hv1
  go_wp2_with fail
  refine (bytes_same _ _ _ [172, 2] ((hv1.alloc (Nat.le_refl _) _).more (by simp)) (new_bytes _ _ _ _ _ _ rfl rfl (by decide))).mono ?_
  rintro e w2 ⟨rfl, hb2⟩
  go_wp2_with fail
  refine (int_any (-2) (by omega) _).mono ?_
  rintro e w3 ⟨v3, rfl, hv3, hb3⟩
  rw [int_2] at hv3
  go_wp2_with fail
  refine (bytes_same _ _ _ [3] ((hv3.alloc (Nat.le_refl _) _).more (by simp)) (new_bytes _ _ _ _ _ _ rfl rfl (by decide))).mono ?_
  rintro e w4 ⟨rfl, hb4⟩
  go_wp2_with fail
  refine (fixed_any 258 4 (by omega) (by omega) _).mono ?_
  rintro e w5 ⟨v5, rfl, hv5, hb5⟩
  rw [fixed_258] at hv5
  go_wp2_with fail
  refine (bytes_same _ _ _ [2, 1, 0, 0] ((hv5.alloc (Nat.le_refl _) _).more (by simp)) (new_bytes _ _ _ _ _ _ rfl rfl (by decide))).mono ?_
  rintro e w6 ⟨rfl, hb6⟩
  go_wp2_with fail
  go_ret
  refine ⟨rfl, ?_⟩
  have s1 := hb1.size; have s2 := hb2.size; have s3 := hb3.size; have s4 := hb4.size; have s5 := hb5.size
  simp only [World.size_alloc] at s2 s4
  refine ((hb1.alloc (by omega) _).trans (hb2.mono (by simp; omega))).trans ?_
  refine (hb3.mono (by omega)).trans ?_
  refine (((Below.refl w.heap.size _).alloc (by omega) _).trans (hb4.mono (by simp; omega))).trans ?_
  refine (hb5.mono (by omega)).trans ?_
  exact ((Below.refl w.heap.size _).alloc (by omega) _).trans (hb6.mono (by simp; omega))

theorem two63 : (9223372036854775808 : Nat) = 2 ^ 63 := rfl
theorem two64 : (18446744073709551616 : Nat) = 2 ^ 64 := rfl
set_option maxHeartbeats 1000000 in
theorem writes_walk (w : World) (n size : Int) (hn : -9223372036854775808 ≤ n ∧ n ≤ 9223372036854775807) (hs : -9223372036854775808 ≤ size ∧ size ≤ 9223372036854775807) :
    Calls Try.prog 3 #[.int .i64 n, .int .i64 size] w fun e w' => e = .returned (.bool true) ∧ Below w.heap.size w w' := by
  have HN := Lib.hid hn
  have HS := Lib.hid hs
  clear hs
  rcases Int.lt_or_le n 0 with h | h
  · go_enter Try.func3, Try.ntmps3
    go_wp2_with fail
    have hv0 : Bytes w w.heap.size (.slice none 0 0) (uintL n) := by rw [uintL_neg h]; exact Bytes.nil _ _
    have hb0 := Below.refl w.heap.size w
    refine (uint_any _ HN.out _).mono ?_
    rintro e w3 ⟨v3, rfl, hv3, hb3⟩
    have h3 := hb0.trans (hb3.mono hb0.size)
    go_wp2_with fail
    refine (bytes_same _ _ _ _ hv3 ((hv0.below hb3).more hb3.size)).mono ?_
    rintro e w4 ⟨rfl, hb4⟩
    have h4 := h3.trans (hb4.mono h3.size)
    go_wp2_with fail
    refine (int_any _ HN.out _).mono ?_
    rintro e w5 ⟨v5, rfl, hv5, hb5⟩
    have h5 := h4.trans (hb5.mono h4.size)
    go_wp2_with fail
    refine (rturned_any _ HN.out _).mono ?_
    rintro e w6 ⟨v6, rfl, hv6, hb6⟩
    have h6 := h5.trans (hb6.mono h5.size)
    go_wp2_with fail
    refine (rpieces_any 64 _ (by omega) (zig_lt HN.out.1 HN.out.2) _ _ hv6).mono ?_
    rintro e w7 ⟨v7, rfl, hv7, hb7⟩
    have h7 := h6.trans (hb7.mono h6.size)
    have hb67 := hb6.trans (hb7.mono hb6.size)
    go_wp2_with fail
    refine (bytes_same _ _ _ _ ((hv5.below hb67).more hb67.size) hv7).mono ?_
    rintro e w8 ⟨rfl, hb8⟩
    have h8 := h7.trans (hb8.mono h7.size)
    go_wp2_with fail
    refine (fixed_any _ _ HN.out HS.out _).mono ?_
    rintro e w9 ⟨v9, rfl, hv9, hb9⟩
    have h9 := h8.trans (hb9.mono h8.size)
    go_wp2_with fail
    refine (rfixed_any _ _ HN.out HS.out _).mono ?_
    rintro e w10 ⟨v10, rfl, hv10, hb10⟩
    have h10 := h9.trans (hb10.mono h9.size)
    go_wp2_with fail
    refine (bytes_same _ _ _ _ ((hv9.below hb10).more hb10.size) hv10).mono ?_
    rintro e w11 ⟨rfl, hb11⟩
    have h11 := h10.trans (hb11.mono h10.size)
    go_wp2_with fail
    refine (awake_walk _).mono ?_
    rintro e w12 ⟨rfl, hb12⟩
    have h12 := h11.trans (hb12.mono h11.size)
    go_wp2_with fail
    go_ret
    exact ⟨rfl, h12⟩
  · obtain ⟨k, rfl⟩ := Int.eq_ofNat_of_zero_le h
    go_enter Try.func3, Try.ntmps3
    go_wp2_with fail
    refine (rbits_any k (by omega) _).mono ?_
    rintro e w1 ⟨v1, rfl, hv1, hb1⟩
    go_wp2_with fail
    refine (rpieces_any 63 k (by omega) (by omega) _ _ hv1).mono ?_
    rintro e w2 ⟨v2, rfl, hv0, hb2⟩
    rw [← uintL_nat] at hv0
    have hb0 : Below w.heap.size w w2 := hb1.trans (hb2.mono hb1.size)
    go_wp2_with fail
    refine (uint_any _ HN.out _).mono ?_
    rintro e w3 ⟨v3, rfl, hv3, hb3⟩
    have h3 := hb0.trans (hb3.mono hb0.size)
    go_wp2_with fail
    refine (bytes_same _ _ _ _ hv3 ((hv0.below hb3).more hb3.size)).mono ?_
    rintro e w4 ⟨rfl, hb4⟩
    have h4 := h3.trans (hb4.mono h3.size)
    go_wp2_with fail
    refine (int_any _ HN.out _).mono ?_
    rintro e w5 ⟨v5, rfl, hv5, hb5⟩
    have h5 := h4.trans (hb5.mono h4.size)
    go_wp2_with fail
    refine (rturned_any _ HN.out _).mono ?_
    rintro e w6 ⟨v6, rfl, hv6, hb6⟩
    have h6 := h5.trans (hb6.mono h5.size)
    go_wp2_with fail
    refine (rpieces_any 64 _ (by omega) (zig_lt HN.out.1 HN.out.2) _ _ hv6).mono ?_
    rintro e w7 ⟨v7, rfl, hv7, hb7⟩
    have h7 := h6.trans (hb7.mono h6.size)
    have hb67 := hb6.trans (hb7.mono hb6.size)
    go_wp2_with fail
    refine (bytes_same _ _ _ _ ((hv5.below hb67).more hb67.size) hv7).mono ?_
    rintro e w8 ⟨rfl, hb8⟩
    have h8 := h7.trans (hb8.mono h7.size)
    go_wp2_with fail
    refine (fixed_any _ _ HN.out HS.out _).mono ?_
    rintro e w9 ⟨v9, rfl, hv9, hb9⟩
    have h9 := h8.trans (hb9.mono h8.size)
    go_wp2_with fail
    refine (rfixed_any _ _ HN.out HS.out _).mono ?_
    rintro e w10 ⟨v10, rfl, hv10, hb10⟩
    have h10 := h9.trans (hb10.mono h9.size)
    go_wp2_with fail
    refine (bytes_same _ _ _ _ ((hv9.below hb10).more hb10.size) hv10).mono ?_
    rintro e w11 ⟨rfl, hb11⟩
    have h11 := h10.trans (hb11.mono h10.size)
    go_wp2_with fail
    refine (awake_walk _).mono ?_
    rintro e w12 ⟨rfl, hb12⟩
    have h12 := h11.trans (hb12.mono h11.size)
    go_wp2_with fail
    go_ret
    exact ⟨rfl, h12⟩

/-! ### WireOrder -/
theorem len_int {n : Int} (h1 : -9223372036854775808 ≤ n) (h2 : n ≤ 9223372036854775807) : 1 ≤ (pcs (zig n)).length ∧ (pcs (zig n)).length ≤ 10 :=
  ⟨pcs_pos _, pcs_len_le 9 _ (Nat.lt_trans (zig_lt h1 h2) (by decide))⟩
theorem order_eq (n m : Int) : (pcs (zig n) == (pcs (zig m)).take (pcs (zig n)).length) = decide (n = m) := by
  rw [Bool.eq_iff_iff, beq_iff_eq, decide_eq_true_eq]
  constructor
  · intro h; exact zig_inj (pcs_prefix _ _ h.symm)
  · rintro rfl; rw [List.take_length]
theorem len_uint {n : Int} (h : 0 ≤ n) (h2 : n ≤ 9223372036854775807) : 1 ≤ (uintL n).length ∧ (uintL n).length ≤ 9 := by
  obtain ⟨k, rfl⟩ := Int.eq_ofNat_of_zero_le h
  rw [uintL_nat]
  exact ⟨pcs_pos _, pcs_len_le 8 _ (by omega)⟩
theorem len_uint_neg {n : Int} (h : n < 0) : (uintL n).length = 0 := by rw [uintL_neg h]; rfl
theorem len_uint_mono {n m : Int} (h : 0 ≤ m) (h2 : m ≤ n) : (uintL m).length ≤ (uintL n).length := by
  obtain ⟨k, rfl⟩ := Int.eq_ofNat_of_zero_le h
  obtain ⟨j, rfl⟩ := Int.eq_ofNat_of_zero_le (Int.le_trans h h2)
  rw [uintL_nat, uintL_nat]
  exact pcs_len_mono j k (by omega)
theorem eq_bool (n m : Int) : ∃ b, (n == m) = b ∧ (pcs (zig n) == (pcs (zig m)).take (pcs (zig n)).length) = b :=
  ⟨_, rfl, by rw [order_eq, Bool.eq_iff_iff]; simp⟩

set_option maxHeartbeats 1000000 in
theorem order_of (w : World) (n m : Int) (hn : -9223372036854775808 ≤ n ∧ n ≤ 9223372036854775807) (hm : -9223372036854775808 ≤ m ∧ m ≤ 9223372036854775807)
    (hc : (n < 0 ∧ m < 0 ∧ (uintL n).length = 0 ∧ (uintL m).length = 0) ∨ (n < 0 ∧ 0 ≤ m ∧ (uintL n).length = 0) ∨ (0 ≤ n ∧ m < 0 ∧ (uintL m).length = 0) ∨ (0 ≤ n ∧ 0 ≤ m ∧ n < m ∧ 1 ≤ (uintL n).length ∧ (uintL n).length ≤ 9) ∨ (0 ≤ n ∧ 0 ≤ m ∧ m ≤ n ∧ 1 ≤ (uintL n).length ∧ (uintL n).length ≤ 9 ∧ (uintL m).length ≤ (uintL n).length)) :
    Calls Try.prog 4 #[.int .i64 n, .int .i64 m] w fun e w' => e = .returned (.bool true) ∧ Below w.heap.size w w' := by
  have HN := Lib.hid hn
  have HM := Lib.hid hm
  have HC := Lib.hid hc
  obtain ⟨b, hb, hB⟩ := eq_bool n m
  have HB := Lib.hid hB
  obtain ⟨hx1, hx10⟩ := len_int hn.1 hn.2
  clear hB hc
  by_cases hle : (pcs (zig n)).length ≤ (pcs (zig m)).length
  · go_enter Try.func4, Try.ntmps4
    go_wp2_with fail
    refine (int_any _ HN.out _).mono ?_
    rintro e w1 ⟨v1, rfl, hv1, hb1⟩
    go_wp2_with fail
    refine (int_any _ HM.out _).mono ?_
    rintro e w2 ⟨v2, rfl, hv2, hb2⟩
    have h2 := hb1.trans (hb2.mono hb1.size)
    have hv1' := (hv1.below hb2).more hb2.size
    clear hv1
    generalize pcs (zig n) = X at *
    generalize pcs (zig m) = Y at *
    obtain ⟨A1, c1, rfl, hc1, hm1⟩ := hv1'.form
    obtain ⟨A2, c2, rfl, hc2, hm2⟩ := hv2.form
    have HT := Lib.hid (hv2.take hle)
    have HV1 := Lib.hid hv1'
    unfold maxLen at hm1 hm2
    clear hv1' hv2
    go_wp2_with fail
    refine (bytes_any _ _ _ _ _ HV1.out HT.out).mono ?_
    rintro e w4 ⟨rfl, hb4⟩
    have h4 := h2.trans (hb4.mono h2.size)
    rw [HB.out]
    clear hle hx1 hx10
    rcases HC.out with ⟨t1, t2, t3, t4⟩ | ⟨t1, t2, t3⟩ | ⟨t1, t2, t3⟩ | ⟨t1, t2, t3, t4, t5⟩ | ⟨t1, t2, t3, t4, t5, t6⟩
    all_goals (
      go_wp2_with fail
      refine (uint_any _ HN.out _).mono ?_
      rintro e w5 ⟨v5, rfl, hv5, hb5⟩
      have h5 := h4.trans (hb5.mono h4.size)
      obtain ⟨A5, c5, rfl, -, -⟩ := hv5.form
      clear hv5
      go_wp2_with fail
      refine (uint_any _ HM.out _).mono ?_
      rintro e w6 ⟨v6, rfl, hv6, hb6⟩
      have h6 := h5.trans (hb6.mono h5.size)
      obtain ⟨A6, c6, rfl, -, -⟩ := hv6.form
      clear hv6
      generalize (uintL n).length = lx at *
      generalize (uintL m).length = ly at *
      go_wp2_with fail
      refine (awake_walk _).mono ?_
      rintro e w12 ⟨rfl, hb12⟩
      have h12 := h6.trans (hb12.mono h6.size)
      go_wp2_with fail
      go_ret
      exact ⟨rfl, h12⟩
      )
  · go_enter Try.func4, Try.ntmps4
    go_wp2_with fail
    refine (int_any _ HN.out _).mono ?_
    rintro e w1 ⟨v1, rfl, hv1, hb1⟩
    go_wp2_with fail
    refine (int_any _ HM.out _).mono ?_
    rintro e w2 ⟨v2, rfl, hv2, hb2⟩
    have h4 := hb1.trans (hb2.mono hb1.size)
    generalize pcs (zig n) = X at *
    generalize pcs (zig m) = Y at *
    obtain ⟨A1, c1, rfl, hc1, hm1⟩ := hv1.form
    obtain ⟨A2, c2, rfl, hc2, hm2⟩ := hv2.form
    clear hv1 hv2 hb hc1 hc2 hm1 hm2
    rcases HC.out with ⟨t1, t2, t3, t4⟩ | ⟨t1, t2, t3⟩ | ⟨t1, t2, t3⟩ | ⟨t1, t2, t3, t4, t5⟩ | ⟨t1, t2, t3, t4, t5, t6⟩
    all_goals (
      go_wp2_with fail
      refine (uint_any _ HN.out _).mono ?_
      rintro e w5 ⟨v5, rfl, hv5, hb5⟩
      have h5 := h4.trans (hb5.mono h4.size)
      obtain ⟨A5, c5, rfl, -, -⟩ := hv5.form
      clear hv5
      go_wp2_with fail
      refine (uint_any _ HM.out _).mono ?_
      rintro e w6 ⟨v6, rfl, hv6, hb6⟩
      have h6 := h5.trans (hb6.mono h5.size)
      obtain ⟨A6, c6, rfl, -, -⟩ := hv6.form
      clear hv6
      generalize (uintL n).length = lx at *
      generalize (uintL m).length = ly at *
      go_wp2_with fail
      refine (awake_walk _).mono ?_
      rintro e w12 ⟨rfl, hb12⟩
      have h12 := h6.trans (hb12.mono h6.size)
      go_wp2_with fail
      go_ret
      exact ⟨rfl, h12⟩
      )

theorem order_walk (w : World) (n m : Int) (hn : -9223372036854775808 ≤ n ∧ n ≤ 9223372036854775807) (hm : -9223372036854775808 ≤ m ∧ m ≤ 9223372036854775807) :
    Calls Try.prog 4 #[.int .i64 n, .int .i64 m] w fun e w' => e = .returned (.bool true) ∧ Below w.heap.size w w' := by
  refine order_of w n m hn hm ?_
  rcases Int.lt_or_le n 0 with h1 | h1 <;> rcases Int.lt_or_le m 0 with h2 | h2
  · exact .inl ⟨h1, h2, len_uint_neg h1, len_uint_neg h2⟩
  · exact .inr (.inl ⟨h1, h2, len_uint_neg h1⟩)
  · exact .inr (.inr (.inl ⟨h1, h2, len_uint_neg h2⟩))
  · have h3 := len_uint h1 hn.2
    rcases Int.lt_or_le n m with h4 | h4
    · exact .inr (.inr (.inr (.inl ⟨h1, h2, h4, h3.1, h3.2⟩)))
    · exact .inr (.inr (.inr (.inr ⟨h1, h2, h4, h3.1, h3.2, len_uint_mono h2 h4⟩)))
end Go.Proofs.Ythlgeffjoaiojaa
