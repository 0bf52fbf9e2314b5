import Derived.Test.YthlgeffjoaiojaaDoorWalkE
namespace Go.Proofs.YthlgeffjoaiojaaDoor
open Go.RowKit

theorem infoByte : (Tryd.prog.info? 5).map (fun i => (i.zero, i.size, i.bytes)) = some (some (.int .u8 0), 1, 1) := by kernel_rfl
theorem bytesV_one (l : List UInt8) : ∀ u ∈ bytesV l, u.oneCell' = true := by
  intro u hu
  obtain ⟨x, _, rfl⟩ := List.mem_map.1 hu
  rfl

theorem bytesV_set (l : List UInt8) (i : Nat) (x : UInt8) : bytesV (l.set i x) = (bytesV l).set i (.int .u8 (x.toNat : Int)) := by simp [bytesV, List.map_set]

set_option maxHeartbeats 2000000 in
theorem turned_any (w : World) (B : Nat) (v : Value) (l : List UInt8) (a r : Nat) (hv : Bytes w B v l) (hl : l.length ≤ 100000) (hr : 1 ≤ r) (hr' : r ≤ 4294967295) (ha : a + bitLen r ≤ 8 * l.length) :
    Calls Tryd.prog 16 #[v, .int .i64 a, .int .i64 r] w (Rets fun v' w' => Bytes w' w'.heap.size v' (turnedTo l a r 32) ∧ Below w.heap.size w w') := by
  obtain ⟨i0, hi, hz0, hz1, hz2⟩ := info_parts infoByte
  have HL := Lib.hid (bitLen_pos r hr)
  have HT := Lib.hid (lt_bitLen r)
  have hpos : 0 < l.length := by have := HL.out; omega
  have hb : a + 1 ≤ 8 * l.length := by have := HL.out; omega
  have HA := Lib.hid ha; clear ha
  obtain ⟨b, o, c, rfl, -, hc⟩ := hv.at_ hpos
  have HC := Lib.hid hc; clear hc
  go_enter Tryd.func16, Tryd.ntmps16
  go_wp2_with (at_builtin; refine wpList_append_own _ rfl _ _ 22 rfl (w.heap.size) 5 i0 (.int .u8 0) 1 1 Tryd.underlying22 hi hz0 hz1 hz2 rfl (by decide) (.slice none 0 0) 0 [] rfl (World.ownsRow_nil _ _ _ _) ⟨b, o, none⟩ l.length c (bytesV l) rfl (by rw [length_bytesV]; omega) (fun j u hu => by rw [Addr.add_lit]; exact HC.out j u hu) (bytesV_one l) (by unfold maxLen; omega) (by omega) (Nat.le_refl _) ?_; intro v' w1 hown' hgrow _)
  simp only [Nat.zero_add, List.nil_append] at hown'
  obtain ⟨g, cap, rfl, hg1, hg2⟩ := own_at hown' hpos
  have hbel0 : Below w.heap.size w w1 := (Below.refl _ w).grown hgrow (Nat.le_refl _) (fun k hk => by simp [Value.ownBlock] at hk)
  clear hgrow
  have HO := Lib.hid hown'; clear hown'
  go_wp2
  go_loopw [2, 8] (fun x i wr => ∃ k : Nat, k ≤ 32 ∧ i = .int .i64 k ∧ x = .int .i64 (r / 2 ^ k : Nat) ∧ Below w.heap.size w wr ∧ wr.ownsRow w.heap.size 5 1 (.slice (some ⟨g, 0, none⟩) l.length cap) l.length (bytesV (turnedTo l a r k))) (fun _ i _ => 32 - (intOf i).toNat)
  case atStart => exact ⟨0, by omega, rfl, by simp, hbel0, HO.out⟩
  case round =>
    obtain ⟨k, hk, rfl, rfl, hbel, hown⟩ := hrel
    by_cases hlt : k < 32
    · have hyr : r / 2 ^ k ≤ r := Nat.div_le_self _ _
      have HP : Hid (r / 2 ^ k / 2 = r / 2 ^ (k + 1)) := by show _ = _; rw [Nat.pow_succ, Nat.div_div_eq_div_mul]
      by_cases hbit : r / 2 ^ k % 2 = 1
      · have hin : a + k < 8 * l.length := by
          have h1 : k < bitLen r := by
            rcases Nat.lt_or_ge k (bitLen r) with h1 | h1
            · exact h1
            · have h3 : r < 2 ^ k := Nat.lt_of_lt_of_le HT.out (Nat.pow_le_pow_right (by decide) h1)
              rw [Nat.div_eq_of_lt h3] at hbit
              simp at hbit
          have := HA.out
          omega
        have HN : Hid (turnedTo l a r (k + 1) = flipBit (turnedTo l a r k) (a + k)) := by show _ = _; rw [turnedTo, if_pos hbit]
        have HLen := Lib.hid (length_turnedTo l a r k)
        generalize turnedTo l a r k = m at *
        generalize r / 2 ^ k = y at *
        have hq : (a + k) / 8 < m.length := by rw [HLen.out]; omega
        have hget : m.getD ((a + k) / 8) 0 = m[(a + k) / 8] := by simp [List.getD, hq]
        have hcell := own_cell hown _ _ (bytesV_at m _ hq)
        have hfree := own_free hown ((a + k) / 8)
        have hx := (m[(a + k) / 8]).toNat_lt
        have hp : (a + k) % 8 < 8 := Nat.mod_lt _ (by decide)
        have HF : Hid (flipBit m (a + k) = m.set ((a + k) / 8) (m[(a + k) / 8] ^^^ UInt8.ofNat (2 ^ ((a + k) % 8)))) := by show _ = _; rw [flipBit, hget]
        clear hget
        have HB8 := Lib.hid (bytesV_set m ((a + k) / 8) (m[(a + k) / 8] ^^^ UInt8.ofNat (2 ^ ((a + k) % 8))))
        have HX : Hid ((m[(a + k) / 8] ^^^ UInt8.ofNat (2 ^ ((a + k) % 8))).toNat = (m[(a + k) / 8]).toNat ^^^ 2 ^ ((a + k) % 8)) := by
          show _ = _
          have h1 : 2 ^ ((a + k) % 8) < 2 ^ 8 := Nat.pow_lt_pow_right (by decide) hp
          rw [UInt8.toNat_xor, UInt8.toNat_ofNat', Nat.mod_eq_of_lt h1]
        generalize (m[(a + k) / 8] ^^^ UInt8.ofNat (2 ^ ((a + k) % 8))) = nb at *
        generalize (m[(a + k) / 8]).toNat = x at *
        have HO2 := Lib.hid hown; clear hown
        have hq' := hq
        have hqq : ((a : Int) + (k : Int)) / 8 = (((a + k) / 8 : Nat) : Int) := by omega
        have hq8 : ((a : Int) + (k : Int)) % 8 = (((a + k) % 8 : Nat) : Int) := by omega
        rw [HLen.out] at hq'
        generalize (a + k) / 8 = q at *
        generalize (a + k) % 8 = p at *
        go_wp2
        obtain ⟨wo, rfl⟩ : ∃ wo : World, wo = wr := ⟨_, rfl⟩
        go_loop [10, 11] (fun bt j => ∃ t : Nat, t ≤ p ∧ j = .int .i64 t ∧ bt = .int .i64 (2 ^ t : Nat)) (fun _ j => p - (intOf j).toNat)
        case atStart => exact ⟨0, by omega, rfl, rfl⟩
        case round =>
          obtain ⟨t, ht, rfl, rfl⟩ := hrel
          by_cases hlt2 : t < p
          · have HP2 := Lib.hid (Nat.pow_succ (n := 2) (m := t))
            have hp2 : 2 ^ t ≤ 2 ^ 7 := Nat.pow_le_pow_right (by decide) (by omega)
            generalize 2 ^ t = z at *
            go_wp2
            go_round
            case rel => exact ⟨t + 1, by omega, by go_num, by rw [HP2.out]; go_num⟩
            case measure => simp [intOf]; omega
          · obtain rfl : t = p := by omega
            have hp2 : 2 ^ t ≤ 2 ^ 7 := Nat.pow_le_pow_right (by decide) (by omega)
            generalize 2 ^ t = z at *
            have hxz : bits .xor .i64 (x : Int) (z : Int) = ((x ^^^ z : Nat) : Int) := i64_xor_nat x z (by omega) (by omega)
            have hlt3 : x ^^^ z < 256 := Nat.xor_lt_two_pow (n := 8) hx (by omega)
            generalize hnx : x ^^^ z = nx at *
            clear hnx
            go_wp2
            go_roundw
            case rel =>
              refine ⟨k + 1, by omega, by go_num, by rw [← HP.out]; go_num, hbel.setCell hg1 _, ?_⟩
              have := own_set HO2.out q (.int .u8 nx)
              rw [HN.out, HF.out, HB8.out, HX.out]
              exact this
            case measure => simp [intOf]; omega
      · have HN : Hid (turnedTo l a r (k + 1) = turnedTo l a r k) := by show _ = _; rw [turnedTo, if_neg hbit]
        have hbit' : r / 2 ^ k % 2 = 0 := by omega
        generalize turnedTo l a r k = m at *
        generalize r / 2 ^ k = y at *
        clear hbit
        go_wp2
        go_roundw
        case rel => exact ⟨k + 1, by omega, by go_num, by rw [← HP.out]; go_num, hbel, by rw [HN.out]; exact hown⟩
        case measure => simp [intOf]; omega
    · obtain rfl : k = 32 := by omega
      go_wp2
      go_ret
      exact ⟨_, rfl, by unfold Bytes; rw [length_turnedTo]; exact Sl.of_own hown, hbel⟩
end Go.Proofs.YthlgeffjoaiojaaDoor
