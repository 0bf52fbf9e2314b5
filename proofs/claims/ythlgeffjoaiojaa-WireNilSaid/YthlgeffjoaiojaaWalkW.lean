import Derived.Deep.QuietTactic
import Derived.BigQuiet
import Derived.Test.YthlgeffjoaiojaaRows
import Derived.Test.YthlgeffjoaiojaaWMath
import Derived.Test.YthlgeffjoaiojaaBase
import Derived.Test.YthlgeffjoaiojaaSerialC
import Derived.WalkKit
import Derived.WalkSpells
import Derived.WalkLawsBesides
import Derived.Lib.Hide
import Derived.Maps.AppendAt
namespace Go.Proofs.Ythlgeffjoaiojaa
open Go.RowKit

theorem infoByte : (Try.prog.info? 5).map (fun i => (i.zero, i.size, i.bytes)) = some (some (.int .u8 0), 1, 1) := by kernel_rfl
theorem infoInt : (Try.prog.info? 3).map (fun i => (i.zero, i.size, i.bytes)) = some (some (.int .i64 0), 1, 8) := by kernel_rfl
theorem bytesV_append (l m : List UInt8) : bytesV (l ++ m) = bytesV l ++ bytesV m := by simp [bytesV]
theorem bytes_of_own {w : World} {base : Nat} {e : TypeId} {v : Value} {n : Nat} {l : List UInt8} (h : w.ownsRow base e 1 v n (bytesV l)) (hn : n = l.length) : Bytes w w.heap.size v l := by subst hn; exact Sl.of_own h
/-- A byte more. -/
theorem own_byte {w : World} {base : Nat} {e : TypeId} {v : Value} {l : List UInt8} {x : Nat} {y : UInt8} (h : w.ownsRow base e 1 v (l.length + 1) (bytesV l ++ [.int .u8 (x : Int)])) (hy : y.toNat = x) :
    w.ownsRow base e 1 v (l ++ [y]).length (bytesV (l ++ [y])) := by
  rw [bytesV_append, List.length_append]
  subst hy
  exact h

set_option maxHeartbeats 1000000 in
theorem pieces_any (n : Nat) (hn : n < 18446744073709551616) (w : World) :
    Calls Try.prog 28 #[.int .u64 n] w (Rets fun v' w' => Bytes w' w'.heap.size v' (pcs n) ∧ Below w.heap.size w w') := by
  obtain ⟨i0, hi, hz0, hz1, hz2⟩ := info_parts infoByte
  have HN := Lib.hid (pcs_len_le 9 n (by omega))
  go_enter Try.func28, Try.ntmps28
  go_wp2
  go_loopw [0, 3] (fun x v wr => ∃ (m : Nat) (l : List UInt8), m < 18446744073709551616 ∧ x = .int .u64 m ∧ l ++ pcs m = pcs n ∧ wr.ownsRow w.heap.size 5 1 v l.length (bytesV l) ∧ Below w.heap.size w wr) (fun x _ _ => (intOf x).toNat)
  case atStart => exact ⟨n, [], hn, rfl, rfl, World.ownsRow_nil _ _ _ _, Below.refl _ _⟩
  case round =>
    obtain ⟨m, l, hm, rfl, he, hown, hbel⟩ := hrel
    have hlen : l.length ≤ 9 := by
      have h1 := congrArg List.length he
      have h2 := pcs_pos m
      have h3 := HN.out
      simp only [List.length_append] at h1
      omega
    have HE := Lib.hid he; clear he
    rcases Nat.lt_or_ge 127 m with h | h
    · have HP := Lib.hid (pcs_big h)
      have h1 : bits .and .u64 (m : Int) 127 = ((m % 128 : Nat) : Int) := by
        rw [show (127 : Int) = ((127 : Nat) : Int) from rfl, u64_and_nat m 127 hm (by omega), Nat.and_two_pow_sub_one_eq_mod m 7]
      have h2 : bits .or .u64 ((m % 128 : Nat) : Int) 128 = ((m % 128 + 128 : Nat) : Int) := by
        rw [show (128 : Int) = ((128 : Nat) : Int) from rfl, u64_or_nat (m % 128) 128 (by omega) (by omega)]
        rw [show (m % 128) ||| 128 = m % 128 + 128 from (Nat.or_comm _ _).trans ((Nat.two_pow_add_eq_or_of_lt (i := 7) (Nat.mod_lt _ (by decide)) 1).symm.trans (Nat.add_comm _ _))]
      have hr : m % 128 < 128 := Nat.mod_lt _ (by decide)
      have HU : Hid ((UInt8.ofNat (m % 128 + 128)).toNat = m % 128 + 128) := by show _ = _; rw [UInt8.toNat_ofNat']; omega
      generalize UInt8.ofNat (m % 128 + 128) = y at *
      generalize m % 128 = r at *
      go_wp2_with (at_builtin; refine wpList_append_own _ rfl _ _ 22 rfl (w.heap.size) 5 i0 (.int .u8 0) 1 1 Try.underlying22 hi hz0 hz1 hz2 rfl (by decide) _ _ _ rfl (hown.alloc _) ⟨wr.heap.size, 0, none⟩ 1 1 [.int .u8 ((r : Int) + 128)] rfl rfl (cell_one_new _ _ _) (by simp [Value.oneCell']) (by unfold maxLen; omega) (by omega) (by have := hbel.size; simp <;> omega) ?_; intro v' w1 hown' hgrow _)
      go_roundw
      case rel =>
        refine ⟨m / 128, l ++ [y], by omega, by go_num, ?_, own_byte (x := r + 128) hown' HU.out, ?_⟩
        · rw [List.append_assoc, ← HE.out, HP.out]; rfl
        · exact (hbel.alloc hbel.size _).grown hgrow (by have := hbel.size; simp <;> omega) (fun g hg => (hown.lt g hg).1)
      case measure => simp [intOf]; omega
    · have HP := Lib.hid (pcs_small h)
      have HU : Hid ((UInt8.ofNat m).toNat = m) := by show _ = _; rw [UInt8.toNat_ofNat']; omega
      generalize UInt8.ofNat m = y at *
      go_wp2_with (at_builtin; refine wpList_append_own _ rfl _ _ 22 rfl (w.heap.size) 5 i0 (.int .u8 0) 1 1 Try.underlying22 hi hz0 hz1 hz2 rfl (by decide) _ _ _ rfl (hown.alloc _) ⟨wr.heap.size, 0, none⟩ 1 1 [.int .u8 (m : Int)] rfl rfl (cell_one_new _ _ _) (by simp [Value.oneCell']) (by unfold maxLen; omega) (by omega) (by have := hbel.size; simp <;> omega) ?_; intro v' w1 hown' hgrow _)
      go_ret
      refine ⟨_, rfl, ?_, (hbel.alloc hbel.size _).grown hgrow (by have := hbel.size; simp <;> omega) (fun g hg => (hown.lt g hg).1)⟩
      have := own_byte (x := m) hown' HU.out
      rw [← HE.out, HP.out]
      exact bytes_of_own this rfl

set_option maxHeartbeats 400000 in
theorem uint_any (n : Int) (hn : -9223372036854775808 ≤ n ∧ n ≤ 9223372036854775807) (w : World) :
    Calls Try.prog 12 #[.int .i64 n] w (Rets fun v' w' => Bytes w' w'.heap.size v' (uintL n) ∧ Below w.heap.size w w') := by
  rcases Int.lt_or_le n 0 with h | h
  · go_enter Try.func12, Try.ntmps12
    go_wp2_with fail
    go_ret
    exact ⟨_, rfl, by rw [uintL_neg h]; exact Bytes.nil _ _, Below.refl _ _⟩
  · obtain ⟨k, rfl⟩ := Int.eq_ofNat_of_zero_le h
    have HP := Lib.hid (pieces_any k (by omega))
    have hk : k < 9223372036854775808 := by omega
    clear hn h
    go_enter Try.func12, Try.ntmps12
    go_wp2_with fail
    refine (HP.out _).mono ?_
    rintro e w' ⟨v', rfl, hv, hb⟩
    go_wp2
    go_ret
    exact ⟨_, rfl, by rw [uintL_nat]; exact hv, hb⟩

set_option maxHeartbeats 400000 in
theorem int_any (n : Int) (hn : -9223372036854775808 ≤ n ∧ n ≤ 9223372036854775807) (w : World) :
    Calls Try.prog 13 #[.int .i64 n] w (Rets fun v' w' => Bytes w' w'.heap.size v' (pcs (zig n)) ∧ Below w.heap.size w w') := by
  have HP := Lib.hid (pieces_any (zig n) (zig_lt hn.1 hn.2))
  rcases Int.lt_or_le n 0 with h | h
  · go_enter Try.func13, Try.ntmps13
    go_wp2_with fail
    rw [zig_bits hn.1 h]
    refine (HP.out _).mono ?_
    rintro e w' ⟨v', rfl, hv, hb⟩
    go_wp2
    go_ret
    exact ⟨_, rfl, hv, hb⟩
  · obtain ⟨k, rfl⟩ := Int.eq_ofNat_of_zero_le h
    go_enter Try.func13, Try.ntmps13
    go_wp2_with fail
    rw [zig_bits_nat (by omega)]
    refine (HP.out _).mono ?_
    rintro e w' ⟨v', rfl, hv, hb⟩
    go_wp2
    go_ret
    exact ⟨_, rfl, hv, hb⟩

/-! ### Whether two lists are the same -/
theorem take_eq_succ {la lb : List UInt8} {k : Nat} (h1 : k < la.length) (h2 : k < lb.length) (h : la.take k = lb.take k) (he : la[k] = lb[k]) : la.take (k + 1) = lb.take (k + 1) := by
  rw [List.take_succ_eq_append_getElem h1, List.take_succ_eq_append_getElem h2, h, he]
theorem beq_false_at {la lb : List UInt8} {k : Nat} (h1 : k < la.length) (h2 : k < lb.length) (he : la[k] ≠ lb[k]) : (la == lb) = false := by
  rw [beq_eq_false_iff_ne]
  intro e
  subst e
  exact he rfl

set_option maxHeartbeats 1000000 in
theorem bytes_any (w : World) (va vb : Value) (la lb : List UInt8) (ha : Bytes w w.heap.size va la) (hb : Bytes w w.heap.size vb lb) :
    Calls Try.prog 11 #[va, vb] w fun e w' => e = .returned (.bool (la == lb)) ∧ Below w.heap.size w w' := by
  obtain ⟨A, c, rfl, hac, hcm, -, hA⟩ := ha
  obtain ⟨A', c', rfl, hac', hcm', -, hA'⟩ := hb
  unfold maxLen at hcm hcm'
  by_cases hl : la.length = lb.length
  · have HL := Lib.hid hl
    have hlen : ((la.length : Int) != (lb.length : Int)) = false := by rw [bne_eq_false_iff_eq]; omega
    have hl1 : la.length ≤ lb.length := by omega
    have hl2 : lb.length ≤ la.length := by omega
    have HA := Lib.hid hA; clear hA
    have HA' := Lib.hid hA'; clear hA'
    clear hl
    go_enter Try.func11, Try.ntmps11
    go_wp2
    go_loopw [5] (fun i wr => ∃ k : Nat, k ≤ la.length ∧ i = .int .i64 k ∧ la.take k = lb.take k ∧ Below w.heap.size w wr) (fun i _ => la.length - (intOf i).toNat)
    case atStart => exact ⟨0, by omega, rfl, rfl, Below.refl _ _⟩
    case round =>
      obtain ⟨k, hk, rfl, ht, hbel⟩ := hrel
      have HT := Lib.hid ht; clear ht
      by_cases hlt : k < la.length
      · obtain ⟨b, o, rfl, hbB, hc⟩ := HA.out (by omega)
        obtain ⟨b', o', rfl, hbB', hc'⟩ := HA'.out (by omega)
        have hlt' : k < lb.length := by omega
        have hcell := (hbel.cell (p := ⟨b, o + k, none⟩) hbB).trans (hc k _ (bytesV_at la k hlt))
        have hcell' := (hbel.cell (p := ⟨b', o' + k, none⟩) hbB').trans (hc' k _ (bytesV_at lb k hlt'))
        clear hc hc'
        have hx := (la[k]).toNat_lt
        have hy := (lb[k]).toNat_lt
        by_cases hxy : la[k] = lb[k]
        · have HS := Lib.hid (take_eq_succ hlt hlt' HT.out hxy)
          have hne : (((la[k]).toNat : Int) != ((lb[k]).toNat : Int)) = false := by rw [hxy]; simp
          clear hxy
          generalize (la[k]).toNat = x at *
          generalize (lb[k]).toNat = y at *
          go_wp2
          go_quiet (fail)
          go_wp2
          go_roundw
          case rel => exact ⟨k + 1, by omega, by go_num, HS.out, below_drewN hbel nq⟩
          case measure => simp [intOf]; omega
        · have HS := Lib.hid (beq_false_at hlt hlt' hxy)
          have hne : (((la[k]).toNat : Int) != ((lb[k]).toNat : Int)) = true := by
            rw [bne_iff_ne]
            intro e
            exact hxy (UInt8.toNat_inj.1 (by omega))
          clear hxy
          generalize (la[k]).toNat = x at *
          generalize (lb[k]).toNat = y at *
          go_wp2
          go_quiet (fail)
          go_wp2
          go_ret
          exact ⟨ret_bool HS.out.symm, below_drewN hbel nq⟩
      · have HE : Hid ((la == lb) = true) := by
          show _ = _
          have h1 := HT.out
          rw [List.take_of_length_le (by omega), List.take_of_length_le (by omega)] at h1
          rw [h1, beq_self_eq_true]
        go_wp2
        go_ret
        exact ⟨ret_bool HE.out.symm, hbel⟩
  · have HE : Hid ((la == lb) = false) := by
      show _ = _
      rw [beq_eq_false_iff_ne]
      intro e
      exact hl (by rw [e])
    have hlen : ((la.length : Int) != (lb.length : Int)) = true := by rw [bne_iff_ne]; omega
    clear hl
    go_enter Try.func11, Try.ntmps11
    go_wp2
    go_ret
    exact ⟨ret_bool HE.out.symm, Below.refl _ _⟩
end Go.Proofs.Ythlgeffjoaiojaa
