import Derived.Test.YtmhadkdbonfmdaaDoorWalkA
namespace Go.Proofs.YtmhadkdbonfmdaaDoor
open Go.RowKit

theorem flatten_take (ll : List (List UInt8)) (k : Nat) (h : k < ll.length) : (ll.take (k + 1)).flatten = (ll.take k).flatten ++ ll[k] := by
  rw [List.take_succ_eq_append_getElem h, List.flatten_append, List.flatten_cons, List.flatten_nil, List.append_nil]

set_option maxHeartbeats 1000000 in
theorem sum_any (w : World) (B : Nat) (v : Value) (vs : List Value) (ll : List (List UInt8)) (hv : Sl w B 1 v ll.length vs)
    (hb : ∀ (i : Nat) (h : i < ll.length), ∃ u, vs[i]? = some u ∧ Bytes w B u ll[i]) (hm : ll.length ≤ maxLen) (hm' : ∀ l ∈ ll, l.length ≤ maxLen) (hF : Fours w) :
    Calls Tryd.prog 22 #[v] w fun e w' => e = .returned (.int .i64 (sums 4294967295 ll.flatten ^^^ 4294967295 : Nat)) ∧ w = w' := by
  obtain ⟨A, c, rfl, -, -, -, hA⟩ := hv
  unfold maxLen at hm hm'
  have HB := Lib.hid hb; clear hb
  have HM := Lib.hid hm'; clear hm'
  have HA := Lib.hid hA; clear hA
  go_enter Tryd.func22, Tryd.ntmps22
  go_wp2
  go_loop [3, 10] (fun s i => ∃ k : Nat, k ≤ ll.length ∧ i = .int .i64 k ∧ s = .int .i64 (sums 4294967295 (ll.take k).flatten : Nat)) (fun _ i => ll.length - (intOf i).toNat)
  case atStart => exact ⟨0, by omega, rfl, rfl⟩
  case round =>
    obtain ⟨k, hk, rfl, rfl⟩ := hrel
    by_cases hlt : k < ll.length
    · obtain ⟨b, o, rfl, hbB, hc⟩ := HA.out (by omega)
      obtain ⟨u, hu, A', c', rfl, -, -, -, hbytes⟩ := HB.out k hlt
      have hcell := hc k _ hu
      clear hc hu
      have hmk := HM.out _ (List.getElem_mem hlt)
      have HS := Lib.hid (flatten_take ll k hlt)
      have HS1 := Lib.hid (sums_lt 4294967295 (ll.take k).flatten (by decide))
      generalize ll[k] = l at *
      have HS2 : Hid (sums 4294967295 (ll.take (k + 1)).flatten = sums (sums 4294967295 (ll.take k).flatten) l) := by
        show _ = _
        rw [HS.out, sums_append]
      generalize sums 4294967295 (ll.take k).flatten = s0 at *
      have HBy := Lib.hid hbytes; clear hbytes
      go_wp2
      go_loop [3, 16] (fun s i => ∃ j : Nat, j ≤ l.length ∧ i = .int .i64 j ∧ s = .int .i64 (sums s0 (l.take j) : Nat)) (fun _ i => l.length - (intOf i).toNat)
      case atStart => exact ⟨0, by omega, rfl, rfl⟩
      case round =>
        obtain ⟨j, hj, rfl, rfl⟩ := hrel
        by_cases hlj : j < l.length
        · obtain ⟨b', o', rfl, -, hc⟩ := HBy.out (by omega)
          have hcell' := hc j _ (bytesV_at l j hlj)
          clear hc
          have HT := Lib.hid (sums_take s0 l j hlj)
          have HT1 := Lib.hid (sums_lt s0 (l.take j) HS1.out)
          have hx := (l[j]).toNat_lt
          generalize (l[j]).toNat = x at *
          generalize sums s0 (l.take j) = s1 at *
          go_wp2_with fail
          refine (put_any _ _ HT1.out hx _ hF).mono ?_
          rintro e w' ⟨rfl, rfl⟩
          go_wp2
          go_round
          case rel => exact ⟨j + 1, by omega, by go_num, by rw [HT.out]⟩
          case measure => simp [intOf]; omega
        · have he : l.take j = l := List.take_of_length_le (by omega)
          rw [he]
          clear he
          go_wp2
          go_round
          case rel => exact ⟨k + 1, by omega, by go_num, by rw [HS2.out]⟩
          case measure => simp [intOf]; omega
    · have hx := i64_xor_nat (sums 4294967295 ll.flatten) 4294967295 (by have := sums_lt 4294967295 ll.flatten (by decide); omega) (by decide)
      have he : ll.take k = ll := List.take_of_length_le (by omega)
      rw [he]
      clear he
      go_wp2
      go_ret
      exact ⟨ret_int hx, rfl⟩
end Go.Proofs.YtmhadkdbonfmdaaDoor
