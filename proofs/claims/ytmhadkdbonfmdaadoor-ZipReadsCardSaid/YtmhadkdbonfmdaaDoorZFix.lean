/-
  Layer 5's Fixed, and whether two rows of bytes are one, walked once.
-/
import Derived.Deep.QuietTactic
import Derived.BigQuiet
import Derived.Shelf.RegionOpen
import Derived.Test.YtmhadkdbonfmdaaDoorRows
import Derived.Test.YtmhadkdbonfmdaaDoorWMath
import Derived.Test.YtmhadkdbonfmdaaDoorBase
import Derived.Test.YtmhadkdbonfmdaaDoorSerialC
import Derived.WalkKit
import Derived.WalkSpells
import Derived.WalkLawsBesides
import Derived.Lib.Hide
import Derived.Maps.AppendAt
namespace Go.Proofs.YtmhadkdbonfmdaaDoor
open Go Go.RowKit Go.Shelf
set_option maxRecDepth 100000

open Go.RowKit

theorem infoByte : (Tryd.prog.info? 5).map (fun i => (i.zero, i.size, i.bytes)) = some (some (.int .u8 0), 1, 1) := by kernel_rfl
theorem infoInt : (Tryd.prog.info? 3).map (fun i => (i.zero, i.size, i.bytes)) = some (some (.int .i64 0), 1, 8) := by kernel_rfl
theorem bytesV_append (l m : List UInt8) : bytesV (l ++ m) = bytesV l ++ bytesV m := by simp [bytesV]
theorem bytes_of_own {w : World} {base : Nat} {e : TypeId} {v : Value} {n : Nat} {l : List UInt8} (h : w.ownsRow base e 1 v n (bytesV l)) (hn : n = l.length) : Bytes w w.heap.size v l := by subst hn; exact Sl.of_own h
/-- A byte more. -/
theorem own_byte {w : World} {base : Nat} {e : TypeId} {v : Value} {l : List UInt8} {x : Nat} {y : UInt8} (h : w.ownsRow base e 1 v (l.length + 1) (bytesV l ++ [.int .u8 (x : Int)])) (hy : y.toNat = x) :
    w.ownsRow base e 1 v (l ++ [y]).length (bytesV (l ++ [y])) := by
  rw [bytesV_append, List.length_append]
  subst hy
  exact h
/-! ### Whether two lists are the same -/
theorem take_eq_succ {la lb : List UInt8} {k : Nat} (h1 : k < la.length) (h2 : k < lb.length) (h : la.take k = lb.take k) (he : la[k] = lb[k]) : la.take (k + 1) = lb.take (k + 1) := by
  rw [List.take_succ_eq_append_getElem h1, List.take_succ_eq_append_getElem h2, h, he]
theorem beq_false_at {la lb : List UInt8} {k : Nat} (h1 : k < la.length) (h2 : k < lb.length) (he : la[k] ≠ lb[k]) : (la == lb) = false := by
  rw [beq_eq_false_iff_ne]
  intro e
  subst e
  exact he rfl
set_option maxHeartbeats 1000000 in
theorem bytes_any (w : World) (va vb : Value) (la lb : List UInt8) (ha : Bytes w w.heap.size va la) (hb : Bytes w w.heap.size vb lb) :
    Calls Tryd.prog 14 #[va, vb] w fun e w' => e = .returned (.bool (la == lb)) ∧ Below w.heap.size w w' := by
  obtain ⟨A, c, rfl, hac, hcm, -, hA⟩ := ha
  obtain ⟨A', c', rfl, hac', hcm', -, hA'⟩ := hb
  unfold maxLen at hcm hcm'
  by_cases hl : la.length = lb.length
  · have HL := Lib.hid hl
    have hlen : ((la.length : Int) != (lb.length : Int)) = false := by rw [bne_eq_false_iff_eq]; omega
    have hl1 : la.length ≤ lb.length := by omega
    have hl2 : lb.length ≤ la.length := by omega
    have HA := Lib.hid hA; clear hA
    have HA' := Lib.hid hA'; clear hA'
    clear hl
    go_enter Tryd.func14, Tryd.ntmps14
    go_wp2
    go_loopw [5] (fun i wr => ∃ k : Nat, k ≤ la.length ∧ i = .int .i64 k ∧ la.take k = lb.take k ∧ Below w.heap.size w wr) (fun i _ => la.length - (intOf i).toNat)
    case atStart => exact ⟨0, by omega, rfl, rfl, Below.refl _ _⟩
    case round =>
      obtain ⟨k, hk, rfl, ht, hbel⟩ := hrel
      have HT := Lib.hid ht; clear ht
      by_cases hlt : k < la.length
      · obtain ⟨b, o, rfl, hbB, hc⟩ := HA.out (by omega)
        obtain ⟨b', o', rfl, hbB', hc'⟩ := HA'.out (by omega)
        have hlt' : k < lb.length := by omega
        have hcell := (hbel.cell (p := ⟨b, o + k, none⟩) hbB).trans (hc k _ (bytesV_at la k hlt))
        have hcell' := (hbel.cell (p := ⟨b', o' + k, none⟩) hbB').trans (hc' k _ (bytesV_at lb k hlt'))
        clear hc hc'
        have hx := (la[k]).toNat_lt
        have hy := (lb[k]).toNat_lt
        by_cases hxy : la[k] = lb[k]
        · have HS := Lib.hid (take_eq_succ hlt hlt' HT.out hxy)
          have hne : (((la[k]).toNat : Int) != ((lb[k]).toNat : Int)) = false := by rw [hxy]; simp
          clear hxy
          generalize (la[k]).toNat = x at *
          generalize (lb[k]).toNat = y at *
          go_wp2
          go_quiet (fail)
          go_wp2
          go_roundw
          case rel => exact ⟨k + 1, by omega, by go_num, HS.out, below_drewN hbel nq⟩
          case measure => simp [intOf]; omega
        · have HS := Lib.hid (beq_false_at hlt hlt' hxy)
          have hne : (((la[k]).toNat : Int) != ((lb[k]).toNat : Int)) = true := by
            rw [bne_iff_ne]
            intro e
            exact hxy (UInt8.toNat_inj.1 (by omega))
          clear hxy
          generalize (la[k]).toNat = x at *
          generalize (lb[k]).toNat = y at *
          go_wp2
          go_quiet (fail)
          go_wp2
          go_ret
          exact ⟨ret_bool HS.out.symm, below_drewN hbel nq⟩
      · have HE : Hid ((la == lb) = true) := by
          show _ = _
          have h1 := HT.out
          rw [List.take_of_length_le (by omega), List.take_of_length_le (by omega)] at h1
          rw [h1, beq_self_eq_true]
        go_wp2
        go_ret
        exact ⟨ret_bool HE.out.symm, hbel⟩
  · have HE : Hid ((la == lb) = false) := by
      show _ = _
      rw [beq_eq_false_iff_ne]
      intro e
      exact hl (by rw [e])
    have hlen : ((la.length : Int) != (lb.length : Int)) = true := by rw [bne_iff_ne]; omega
    clear hl
    go_enter Tryd.func14, Tryd.ntmps14
    go_wp2
    go_ret
    exact ⟨ret_bool HE.out.symm, Below.refl _ _⟩
open Go Go.RowKit

theorem pow256 (s : Nat) : ((256 ^ s : Nat) : Int) = 256 ^ s := Int.natCast_pow 256 s
theorem fixedB_none {n size : Int} (h : fixedOk n size = false) : fixedB n size = [] := by simp [fixedB, h]
theorem fixedB_some {n s : Nat} (h1 : 1 ≤ s) (h2 : s ≤ 8) (h3 : n < 256 ^ s) : fixedB n s = fixedL n s := by
  have : fixedOk n s = true := by simp only [fixedOk, decide_eq_true_eq]; refine ⟨by omega, by omega, by omega, ?_⟩; rw [Int.toNat_natCast, ← pow256]; exact Int.ofNat_lt.2 h3
  simp [fixedB, this]
theorem shr8 (n k : Nat) : (n : Int) / 2 ^ (8 * (k : Int)).toNat = ((n / 256 ^ k : Nat) : Int) := by
  have h : (256 : Nat) ^ k = 2 ^ (8 * k) := by rw [Nat.pow_mul]
  rw [show (8 * (k : Int)).toNat = 8 * k by omega, h, Int.natCast_ediv, Int.natCast_pow]
  rfl
theorem fixedL_succ (m k : Nat) : fixedL m (k + 1) = fixedL m k ++ [UInt8.ofNat (m / 256 ^ k % 256)] := by simp [fixedL, List.range_succ]
theorem fixed_step {m s k : Nat} (hk : k < s) : (bytesV (fixedL m k ++ List.replicate (s - k) 0)).set k (.int .u8 ((m / 256 ^ k % 256 : Nat) : Int)) = bytesV (fixedL m (k + 1) ++ List.replicate (s - (k + 1)) 0) := by
  have hu : (UInt8.ofNat (m / 256 ^ k % 256)).toNat = m / 256 ^ k % 256 := by rw [UInt8.toNat_ofNat']; omega
  obtain ⟨d, rfl⟩ : ∃ d, s = k + 1 + d := ⟨s - (k + 1), by omega⟩
  rw [show k + 1 + d - k = d + 1 by omega, show k + 1 + d - (k + 1) = d by omega, fixedL_succ, List.replicate_succ, bytesV_append]
  have hl : (bytesV (fixedL m k)).length = k := by rw [length_bytesV, length_fixedL]
  rw [List.set_append_right _ _ (by omega), hl, Nat.sub_self]
  simp only [bytesV, List.map_cons, List.set_cons_zero, List.append_assoc, List.map_append, List.singleton_append, hu]
theorem fixed_end (m s : Nat) : fixedL m s ++ List.replicate (s - s) 0 = fixedL m s := by simp
set_option maxHeartbeats 1000000 in
theorem fixed_any (n size : Int) (hn : -9223372036854775808 ≤ n ∧ n ≤ 9223372036854775807) (hs : -9223372036854775808 ≤ size ∧ size ≤ 9223372036854775807) (w : World) :
    Calls Tryd.prog 63 #[.int .i64 n, .int .i64 size] w (Rets fun v' w' => Bytes w' w'.heap.size v' (fixedB n size) ∧ Below w.heap.size w w') := by
  obtain ⟨i0, hi, hz0, hz1, hz2⟩ := info_parts infoByte
  by_cases hs1 : size < 1
  · have HB := Lib.hid (fixedB_none (n := n) (size := size) (by simp [fixedOk]; omega))
    go_enter Tryd.func63, Tryd.ntmps63
    go_wp2_with fail
    go_ret
    exact ⟨_, rfl, by rw [HB.out]; exact Bytes.nil _ _, Below.refl _ _⟩
  by_cases hs8 : 8 < size
  · have HB := Lib.hid (fixedB_none (n := n) (size := size) (by simp [fixedOk]; omega))
    go_enter Tryd.func63, Tryd.ntmps63
    go_wp2_with fail
    go_ret
    exact ⟨_, rfl, by rw [HB.out]; exact Bytes.nil _ _, Below.refl _ _⟩
  by_cases hn0 : n < 0
  · have HB := Lib.hid (fixedB_none (n := n) (size := size) (by simp [fixedOk]; omega))
    go_enter Tryd.func63, Tryd.ntmps63
    go_wp2_with fail
    go_ret
    exact ⟨_, rfl, by rw [HB.out]; exact Bytes.nil _ _, Below.refl _ _⟩
  obtain ⟨s, rfl⟩ := Int.eq_ofNat_of_zero_le (show 0 ≤ size by omega)
  obtain ⟨m, rfl⟩ := Int.eq_ofNat_of_zero_le (show 0 ≤ n by omega)
  have hs1' : 1 ≤ s := by omega
  have hs8' : s ≤ 8 := by omega
  have hm : m < 9223372036854775808 := by omega
  clear hs1 hs8 hn0 hn hs
  have hsh := shr8 m s
  by_cases hfit : m < 256 ^ s
  · have HB := Lib.hid (fixedB_some hs1' hs8' hfit)
    have hq : m / 256 ^ s = 0 := Nat.div_eq_of_lt hfit
    rw [hq] at hsh
    clear hq hfit
    rcases Nat.lt_or_ge s 8 with h8 | h8 <;> (
      go_enter Tryd.func63, Tryd.ntmps63
      go_wp2_with (at_make; go_loud (refine wpList_make_full _ rfl _ _ 32 rfl w.heap.size 5 i0 (.int .u8 0) 1 rfl hi hz0 hz1 .i64 .i64 _ _ s rfl rfl rfl rfl (by rw [hz2]; omega) (by unfold maxLen; omega) (Nat.le_refl _) ?_); intro w1 hown hgrow)
      rw [show (madeCells (Value.int .u8 0).cells (s * 1)).toList = bytesV (fixedL m 0 ++ List.replicate (s - 0) 0) by
        rw [Nat.mul_one, show (Value.int .u8 0).cells = #[.int .u8 0] from rfl, toList_madeCells_one]; simp [bytesV, fixedL]] at hown
      go_loopw [32] (fun i wr => ∃ k : Nat, k ≤ s ∧ i = .int .i64 k ∧ wr.ownsRow w.heap.size 5 1 (.slice (some ⟨w.heap.size, 0, none⟩) s s) s (bytesV (fixedL m k ++ List.replicate (s - k) 0)) ∧ Below w.heap.size w wr) (fun i _ => s - (intOf i).toNat)
      case atStart => exact ⟨0, by omega, rfl, hown, (Below.refl w.heap.size w).grown hgrow (by omega) (fun g hg => by cases hg)⟩
      case round =>
        obtain ⟨k, hk, rfl, ho, hbel⟩ := hrel
        by_cases hlt : k < s
        · have hst := Lib.hid (fixed_step (m := m) hlt)
          have hq := shr8 m k
          have hfr := own_free ho k
          have hcell := own_cell ho k (.int .u8 0) (by
            have hl : (bytesV (fixedL m k)).length = k := by rw [length_bytesV, length_fixedL]
            rw [bytesV_append, List.getElem?_append_right (by omega), hl, Nat.sub_self, show s - k = (s - k - 1) + 1 by omega, List.replicate_succ]
            rfl)
          have HO := Lib.hid ho; clear ho
          clear hsh
          generalize m / 256 ^ k = q at *
          go_wp2_with fail
          go_roundw
          case rel =>
            refine ⟨k + 1, by omega, by go_num, ?_, hbel.setCell (by simp) _⟩
            rw [← hst.out]
            exact own_set HO.out k _
          case measure => simp [intOf]; omega
        · obtain rfl : k = s := by omega
          rw [fixed_end] at ho
          have HO := Lib.hid ho; clear ho
          go_wp2_with fail
          go_ret
          exact ⟨_, rfl, by rw [HB.out]; exact bytes_of_own HO.out (length_fixedL _ _).symm, hbel⟩
      )
  · have HB := Lib.hid (fixedB_none (n := m) (size := s) (by simp only [fixedOk, decide_eq_false_iff_not]; intro h; apply hfit; have h5 := h.2.2.2; rw [Int.toNat_natCast, ← pow256] at h5; exact Int.ofNat_lt.1 h5))
    have hq : 0 < m / 256 ^ s := Nat.div_pos (by omega) (Nat.pow_pos (by decide))
    have h8 : s < 8 := by
      rcases Nat.lt_or_ge s 8 with h | h
      · exact h
      · obtain rfl : s = 8 := by omega
        omega
    have hqn : (((m / 256 ^ s : Nat) : Int) != 0) = true := by rw [bne_iff_ne]; omega
    generalize m / 256 ^ s = q at *
    clear hfit
    go_enter Tryd.func63, Tryd.ntmps63
    go_wp2_with fail
    go_ret
    exact ⟨_, rfl, by rw [HB.out]; exact Bytes.nil _ _, Below.refl _ _⟩
open Go Go.RowKit

theorem bytes_same (w : World) (va vb : Value) (l : List UInt8) (ha : Bytes w w.heap.size va l) (hb : Bytes w w.heap.size vb l) :
    Calls Tryd.prog 14 #[va, vb] w fun e w' => e = .returned (.bool true) ∧ Below w.heap.size w w' :=
  (bytes_any w va vb l l ha hb).mono fun _ _ ⟨h1, h2⟩ => ⟨h1.trans (ret_bool (beq_self_eq_true l)), h2⟩
/-- A literal of bytes. -/
theorem new_bytes (w : World) (cs : Array Value) (t : TypeId) (fr : Nat × Nat) (l : List UInt8) (n : Nat) (h : cs.toList = bytesV l) (hn : n = l.length) (hm : n ≤ maxLen) :
    Bytes (w.alloc (.cells cs t fr)) (w.alloc (.cells cs t fr)).heap.size (.slice (some ⟨w.heap.size, 0, none⟩) n n) l := by
  subst hn
  have := Sl.new w (bytesV l) t fr l.length 1 (by rw [length_bytesV, Nat.mul_one]) hm
  obtain rfl : cs = (bytesV l).toArray := by rw [← h]
  simpa [Bytes] using this
set_option maxHeartbeats 1000000 in
theorem rfixed_any (n size : Int) (hn : -9223372036854775808 ≤ n ∧ n ≤ 9223372036854775807) (hs : -9223372036854775808 ≤ size ∧ size ≤ 9223372036854775807) (w : World) :
    Calls Tryd.prog 54 #[.int .i64 n, .int .i64 size] w (Rets fun v' w' => Bytes w' w'.heap.size v' (fixedB n size) ∧ Below w.heap.size w w') := by
  obtain ⟨i0, hi, hz0, hz1, hz2⟩ := info_parts infoByte
  by_cases hs1 : size < 1
  · have HB := Lib.hid (fixedB_none (n := n) (size := size) (by simp [fixedOk]; omega))
    go_enter Tryd.func54, Tryd.ntmps54
    go_wp2_with fail
    go_ret
    exact ⟨_, rfl, by rw [HB.out]; exact Bytes.nil _ _, Below.refl _ _⟩
  by_cases hs8 : 8 < size
  · have HB := Lib.hid (fixedB_none (n := n) (size := size) (by simp [fixedOk]; omega))
    go_enter Tryd.func54, Tryd.ntmps54
    go_wp2_with fail
    go_ret
    exact ⟨_, rfl, by rw [HB.out]; exact Bytes.nil _ _, Below.refl _ _⟩
  by_cases hn0 : n < 0
  · have HB := Lib.hid (fixedB_none (n := n) (size := size) (by simp [fixedOk]; omega))
    go_enter Tryd.func54, Tryd.ntmps54
    go_wp2_with fail
    go_ret
    exact ⟨_, rfl, by rw [HB.out]; exact Bytes.nil _ _, Below.refl _ _⟩
  obtain ⟨s, rfl⟩ := Int.eq_ofNat_of_zero_le (show 0 ≤ size by omega)
  obtain ⟨m, rfl⟩ := Int.eq_ofNat_of_zero_le (show 0 ≤ n by omega)
  have hs1' : 1 ≤ s := by omega
  have hs8' : s ≤ 8 := by omega
  have hm : m < 9223372036854775808 := by omega
  clear hs1 hs8 hn0 hn hs
  go_enter Tryd.func54, Tryd.ntmps54
  go_wp2_with fail
  go_loopw [0, 5, 6] (fun x v i wr => ∃ (k q : Nat) (l : List UInt8), k ≤ s ∧ i = .int .i64 k ∧ q < 9223372036854775808 ∧ x = .int .i64 q ∧ q = m / 256 ^ k ∧ l.length = k ∧ l = fixedL m k ∧ wr.ownsRow w.heap.size 5 1 v l.length (bytesV l) ∧ Below w.heap.size w wr) (fun _ _ i _ => s - (intOf i).toNat)
  case atStart => exact ⟨0, m, [], by omega, rfl, hm, rfl, by simp, rfl, rfl, World.ownsRow_nil _ _ _ _, Below.refl _ _⟩
  case round =>
    obtain ⟨k, q, l, hk, rfl, hq, rfl, hqe, hll, hle, hown, hbel⟩ := hrel
    by_cases hlt : k < s
    · have HN := Lib.hid (show q / 256 = m / 256 ^ (k + 1) by rw [hqe, Nat.pow_succ, Nat.div_div_eq_div_mul])
      have HL := Lib.hid (show l ++ [UInt8.ofNat (q % 256)] = fixedL m (k + 1) by rw [hle, hqe, fixedL_succ])
      have hd2 : q / 256 ≤ q := by omega
      have HU : Hid ((UInt8.ofNat (q % 256)).toNat = q % 256) := by show _ = _; rw [UInt8.toNat_ofNat']; omega
      generalize UInt8.ofNat (q % 256) = y at *
      clear hqe hle
      go_wp2_with (at_builtin; refine wpList_append_own _ rfl _ _ 32 rfl (w.heap.size) 5 i0 (.int .u8 0) 1 1 Tryd.underlying32 hi hz0 hz1 hz2 rfl (by decide) _ _ _ rfl (hown.alloc _) ⟨wr.heap.size, 0, none⟩ 1 1 [.int .u8 ((q : Int) % 256)] rfl rfl (cell_one_new _ _ _) (by simp [Value.oneCell']) (by unfold maxLen; omega) (by omega) (by have := hbel.size; simp <;> omega) ?_; intro v' w1 hown' hgrow _)
      go_roundw
      case rel =>
        refine ⟨k + 1, q / 256, l ++ [y], by omega, by go_num, by omega, by go_num, HN.out, by simp [hll], HL.out, own_byte (x := q % 256) hown' HU.out, ?_⟩
        exact (hbel.alloc hbel.size _).grown hgrow (by have := hbel.size; simp <;> omega) (fun g hg => (hown.lt g hg).1)
      case measure => simp [intOf]; omega
    · obtain rfl : k = s := by omega
      by_cases hq0 : 0 < q
      · have HB := Lib.hid (fixedB_none (n := m) (size := k) (by
          simp only [fixedOk, decide_eq_false_iff_not]; intro h
          have h5 := h.2.2.2; rw [Int.toNat_natCast, ← pow256] at h5
          have := Nat.div_eq_of_lt (Int.ofNat_lt.1 h5)
          omega))
        clear hqe hle
        go_wp2_with fail
        go_ret
        exact ⟨_, rfl, by rw [HB.out]; exact Bytes.nil _ _, hbel⟩
      · have HB := Lib.hid (fixedB_some (n := m) hs1' hs8' (by
          rcases Nat.lt_or_ge m (256 ^ k) with h | h
          · exact h
          · have := Nat.div_pos h (Nat.pow_pos (by decide)); omega))
        have HL := Lib.hid hle
        clear hqe hle
        go_wp2_with fail
        go_ret
        exact ⟨_, rfl, by rw [HB.out, ← HL.out]; exact bytes_of_own hown rfl, hbel⟩
open Go Go.RowKit

theorem own_below {w w' : World} {base : Nat} {e : TypeId} {sz n : Nat} {v : Value} {xs : List Value} (h : w.ownsRow base e sz v n xs) (hb : Below w.heap.size w w') : w'.ownsRow base e sz v n xs := by
  refine ⟨h.1, ?_⟩
  rcases h.2 with ⟨rfl, h0⟩ | ⟨g, cap, cur, hv, hg0, hg, hr⟩
  · exact .inl ⟨rfl, h0⟩
  · exact .inr ⟨g, cap, cur, hv, hg0, (hb.block g (Array.getElem?_eq_some_iff.1 hg).1).trans hg, hr⟩
open Go Go.RowKit

theorem own_more {w : World} {base : Nat} {e : TypeId} {v : Value} {a p : List UInt8} (h : w.ownsRow base e 1 v (a.length + p.length) (bytesV a ++ bytesV p)) : w.ownsRow base e 1 v (a ++ p).length (bytesV (a ++ p)) := by
  rw [bytesV_append, List.length_append]
  exact h
end Go.Proofs.YtmhadkdbonfmdaaDoor
