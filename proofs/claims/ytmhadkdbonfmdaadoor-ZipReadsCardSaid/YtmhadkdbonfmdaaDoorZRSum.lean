/-
  Layer 6's reference: bits, and the sum, walked.
-/
import Derived.Test.YtmhadkdbonfmdaaDoorZRefA
namespace Go.Proofs.YtmhadkdbonfmdaaDoor
open Go Go.RowKit Go.Shelf
set_option maxRecDepth 100000

set_option maxHeartbeats 400000 in
theorem rstep_any (c bit : Nat) (hc : c < 4294967296) (hb : bit ≤ 1) (w : World) :
    Calls Tryd.prog 39 #[.int .i64 c, .int .i64 bit] w fun e w' => e = .returned (.int .i64 (step1 c bit : Nat)) ∧ w = w' := by
  have H1 := Lib.hid (i64_xor_nat ((c ^^^ bit) / 2) 3988292384 (by have : c ^^^ bit < 2 ^ 32 := Nat.xor_lt_two_pow (by omega) (by omega); omega) (by omega))
  have H2 := Lib.hid (xor_bit c bit hb)
  rcases Nat.lt_or_ge 0 bit with h | h
  · obtain rfl : bit = 1 := by omega
    rcases Nat.lt_or_ge 0 (c % 2) with h | h
    · have hd : c % 2 = 1 := by omega
      have Hf : Hid (step1 c 1 = (c - 1) / 2) := by
        show _ = _
        have := H2.out; simp only [if_true, hd] at this
        rw [step1, this, if_neg (by omega)]
      clear hd
      go_enter Tryd.func39, Tryd.ntmps39
      go_wp2
      go_ret
      exact ⟨ret_int (by rw [Hf.out]; omega), rfl⟩
    · have hd : c % 2 = 0 := by omega
      have hx : c ^^^ 1 = c + 1 := by
        have := H2.out; simpa [hd] using this
      have Hf : Hid (step1 c 1 = (c + 1) / 2 ^^^ 3988292384) := by
        show _ = _
        rw [step1, hx, if_pos (by omega)]
      have HX := Lib.hid (show bits .xor .i64 (((c + 1) / 2 : Nat) : Int) 3988292384 = (((c + 1) / 2 ^^^ 3988292384 : Nat) : Int) by have := H1.out; rw [hx] at this; exact this)
      clear hd hx
      go_enter Tryd.func39, Tryd.ntmps39
      go_wp2
      go_ret
      exact ⟨ret_int (by rw [Hf.out, ← HX.out]; congr 1), rfl⟩
  · obtain rfl : bit = 0 := by omega
    rcases Nat.lt_or_ge 0 (c % 2) with h | h
    · have hd : c % 2 = 1 := by omega
      have Hf : Hid (step1 c 0 = c / 2 ^^^ 3988292384) := by
        show _ = _
        rw [step1, Nat.xor_zero, if_pos hd]
      have HX := Lib.hid (show bits .xor .i64 ((c / 2 : Nat) : Int) 3988292384 = ((c / 2 ^^^ 3988292384 : Nat) : Int) by have := H1.out; rw [Nat.xor_zero] at this; exact this)
      clear hd
      go_enter Tryd.func39, Tryd.ntmps39
      go_wp2
      go_ret
      exact ⟨ret_int (by rw [Hf.out, ← HX.out]; congr 1), rfl⟩
    · have Hf : Hid (step1 c 0 = c / 2) := by
        show _ = _
        rw [step1, Nat.xor_zero, if_neg (by omega)]
      go_enter Tryd.func39, Tryd.ntmps39
      go_wp2
      go_ret
      exact ⟨ret_int (by rw [Hf.out]; omega), rfl⟩
set_option maxHeartbeats 1000000 in
theorem rbits_any (w : World) (B : Nat) (v : Value) (l : List UInt8) (hv : Bytes w B v l) (hB : B ≤ w.heap.size) (hl : l.length ≤ 100000) :
    Calls Tryd.prog 38 #[v] w (Rets fun v' w' => Sl w' w'.heap.size 1 v' (8 * l.length) (natsV (bitsOf l)) ∧ Below w.heap.size w w') := by
  obtain ⟨i0, hi, hz0, hz1, hz2⟩ := info_parts infoInt
  obtain ⟨A, c, rfl, -, -, -, hA⟩ := hv
  have HA := Lib.hid hA; clear hA
  go_enter Tryd.func38, Tryd.ntmps38
  go_wp2
  go_loopw [3, 4] (fun v i wr => ∃ k : Nat, k ≤ l.length ∧ i = .int .i64 k ∧ wr.ownsRow w.heap.size 3 1 v (8 * k) (natsV (bitsOf (l.take k))) ∧ Below w.heap.size w wr) (fun _ i _ => l.length - (intOf i).toNat)
  case atStart => exact ⟨0, by omega, rfl, World.ownsRow_nil _ _ _ _, Below.refl _ _⟩
  case round =>
    obtain ⟨k, hk, rfl, hown, hbel⟩ := hrel
    by_cases hlt : k < l.length
    · obtain ⟨b, o, rfl, hbB, hc⟩ := HA.out (by omega)
      have hcell := (hbel.cell (p := ⟨b, o + k, none⟩) (by show b < _; omega)).trans (hc k _ (bytesV_at l k hlt))
      clear hc
      have HO := Lib.hid hown; clear hown
      have HT := Lib.hid (bitsOf_take l k hlt)
      have hx := (l[k]).toNat_lt
      generalize (l[k]).toNat = x at *
      go_wp2
      obtain ⟨wo, rfl⟩ : ∃ wo : World, wo = wr := ⟨_, rfl⟩
      go_loopw [3, 5, 6] (fun v n i wr => ∃ j : Nat, j ≤ 8 ∧ i = .int .i64 j ∧ n = .int .i64 (x / 2 ^ j : Nat) ∧ wr.ownsRow w.heap.size 3 1 v (8 * k + j) (natsV (bitsOf (l.take k) ++ (List.range j).map fun t => x / 2 ^ t % 2)) ∧ Below w.heap.size w wr) (fun _ _ i _ => 8 - (intOf i).toNat)
      case atStart => exact ⟨0, by omega, rfl, by simp, by simpa using HO.out, hbel⟩
      case round =>
        obtain ⟨j, hj, rfl, rfl, hown, hbel⟩ := hrel
        obtain ⟨y, hy⟩ : ∃ y, y = x / 2 ^ j := ⟨_, rfl⟩
        rw [← hy]
        have hyx : y ≤ x := by rw [hy]; exact Nat.div_le_self _ _
        have HY := Lib.hid hy; clear hy
        by_cases hlj : j < 8
        · go_wp2_with (at_builtin; refine wpList_append_own _ rfl _ _ 26 rfl (w.heap.size) 3 i0 (.int .i64 0) 1 8 Tryd.underlying26 hi hz0 hz1 hz2 rfl (by decide) _ _ _ rfl (hown.alloc _) ⟨wr.heap.size, 0, none⟩ 1 1 [.int .i64 ((y : Int) % 2)] rfl rfl (cell_one_new _ _ _) (by simp [Value.oneCell']) (by unfold maxLen; omega) (by omega) (by have := hbel.size; simp; omega) ?_; intro v' w1 hown' hgrow _)
          go_roundw
          case rel =>
            refine ⟨j + 1, by omega, by go_num, by rw [Nat.pow_succ, ← Nat.div_div_eq_div_mul, ← HY.out]; go_num, ?_, ?_⟩
            · rw [List.range_succ, List.map_append, ← List.append_assoc, natsV_append]
              exact by simpa [natsV, ← HY.out, Nat.add_assoc] using hown'
            · exact (hbel.alloc hbel.size _).grown hgrow (by have := hbel.size; simp; omega) (fun g hg => (hown.lt g hg).1)
          case measure => simp [intOf]; omega
        · obtain rfl : j = 8 := by omega
          go_wp2
          go_roundw
          case rel => exact ⟨k + 1, by omega, by go_num, by rw [HT.out]; exact hown, hbel⟩
          case measure => simp [intOf]; omega
    · have he : l.take k = l := List.take_of_length_le (by omega)
      obtain rfl : k = l.length := by omega
      rw [he] at hown
      clear he
      go_wp2
      go_ret
      exact ⟨_, rfl, Sl.of_own hown, hbel⟩
set_option maxHeartbeats 1000000 in
theorem rsum_any (w : World) (B : Nat) (v : Value) (l : List UInt8) (hv : Bytes w B v l) (hB : B ≤ w.heap.size) (hl : l.length ≤ 100000) :
    Calls Tryd.prog 19 #[v] w fun e w' => e = .returned (.int .i64 (sums 4294967295 l ^^^ 4294967295 : Nat)) ∧ Below w.heap.size w w' := by
  have HF : Hid (4294967295 - sums 4294967295 l = sums 4294967295 l ^^^ 4294967295) := (xor_all _ (sums_lt _ l (by decide))).symm
  have HF2 := Lib.hid (sums_lt 4294967295 l (by decide))
  have HB := Lib.hid (length_bitsOf l)
  have HS := Lib.hid (sumBits_bytes l 4294967295)
  have HL := Lib.hid (bitsOf_le l)
  go_enter Tryd.func19, Tryd.ntmps19
  go_wp2_with fail
  refine (rbits_any w B v l hv hB hl).mono ?_
  rintro e w' ⟨v', rfl, hv', hbel⟩
  obtain ⟨A, c, rfl, -, -, -, hA⟩ := hv'
  generalize bitsOf l = bs at *
  have HA := Lib.hid hA; clear hA
  go_wp2
  go_loop [4, 5] (fun s i => ∃ k : Nat, k ≤ 8 * l.length ∧ i = .int .i64 k ∧ s = .int .i64 (sumBits 4294967295 (bs.take k) : Nat)) (fun _ i => 8 * l.length - (intOf i).toNat)
  case atStart => exact ⟨0, by omega, rfl, rfl⟩
  case round =>
    obtain ⟨k, hk, rfl, rfl⟩ := hrel
    by_cases hlt : k < 8 * l.length
    · have hkl : k < bs.length := by rw [HB.out]; exact hlt
      obtain ⟨b, o, rfl, -, hc⟩ := HA.out (by omega)
      have hcell := hc k _ (natsV_at bs k hkl)
      clear hc
      have hb1 := HL.out _ (List.getElem_mem hkl)
      have HT := Lib.hid (sumBits_take 4294967295 bs k hkl)
      have HT1 := Lib.hid (sumBits_lt 4294967295 (bs.take k) (by decide) fun x hx => HL.out x (List.mem_of_mem_take hx))
      generalize bs[k] = bit at *
      generalize sumBits 4294967295 (bs.take k) = s1 at *
      clear hkl
      go_wp2_with fail
      refine (rstep_any s1 bit HT1.out hb1 _).mono ?_
      rintro e w'' ⟨rfl, rfl⟩
      go_wp2
      go_round
      case rel => exact ⟨k + 1, by omega, by go_num, by rw [HT.out]⟩
      case measure => simp [intOf]; omega
    · have he : bs.take k = bs := List.take_of_length_le (by have := HB.out; omega)
      rw [he, HS.out]
      clear he
      have hs := HF2.out
      go_wp2
      go_ret
      exact ⟨ret_int (by rw [← HF.out]; omega), hbel⟩
end Go.Proofs.YtmhadkdbonfmdaaDoor
