/-
  Layer 5's cursor: what it is in memory; the iterator over the next bytes.
-/
import Derived.RangeFuncNested
import Derived.RangeFuncBound
import Derived.RangeFuncCalls
import Derived.RangeFuncLeaves
import Derived.RangeFuncFrom
import Derived.Shelf.Abstract
import Derived.Shelf.RegionOpen
import Derived.OwnWalkIn
import Derived.TacticsInMore
import Derived.LoopNIn
import Derived.LoopIn
import Derived.Test.YthlgeffjoaiojaaLawW
namespace Go.Proofs.Ythlgeffjoaiojaa
open Go Go.RowKit Go.Shelf
attribute [local go_sem] Oper.semAt_some

/-- A cursor's cells. -/
structure CurAt (w : World) (cb : Nat) (v : Value) (k e : Nat) : Prop where
  c0 : w.cell? ⟨cb, 0, none⟩ = some v
  c1 : w.cell? ⟨cb, 1, none⟩ = some (.int .i64 k)
  c2 : w.cell? ⟨cb, 2, none⟩ = some (.int .i64 e)
  f0 : w.frozen? ⟨cb, 0, none⟩ = false
  f1 : w.frozen? ⟨cb, 1, none⟩ = false
  f2 : w.frozen? ⟨cb, 2, none⟩ = false
theorem CurAt.below {w w' : World} {cb B : Nat} {v : Value} {k e : Nat} (h : CurAt w cb v k e) (hb : Below B w w') (hB : cb < B) : CurAt w' cb v k e :=
  ⟨(hb.cell hB).trans h.c0, (hb.cell hB).trans h.c1, (hb.cell hB).trans h.c2, (hb.frozen hB).trans h.f0, (hb.frozen hB).trans h.f1, (hb.frozen hB).trans h.f2⟩

theorem cell_new1 (W : World) (v : Value) (t : TypeId) : (W.alloc (.cells #[v] t)).cell? ⟨W.heap.size, 0, none⟩ = some v ∧ (W.alloc (.cells #[v] t)).frozen? ⟨W.heap.size, 0, none⟩ = false := by
  have h : (W.alloc (.cells #[v] t)).heap[W.heap.size]? = some (.cells #[v] t) := heap_alloc_new W _
  exact ⟨by rw [cell_new]; rfl, by unfold World.frozen?; rw [h]; rfl⟩
theorem cell_alloc1 {W : World} {a : Addr} {v : Value} (o : Obj) (h : W.cell? a = some v) : (W.alloc o).cell? a = some v := cell_kept h (World.grownBy_alloc W o none) (fun r e => by cases e)
theorem frozen_alloc1 {W : World} {a : Addr} {v : Value} (o : Obj) (h : W.cell? a = some v) (hf : W.frozen? a = false) : (W.alloc o).frozen? a = false := (frozen_kept h (World.grownBy_alloc W o none) (fun r e => by cases e)).trans hf
theorem take_fin {n k : Nat} (h : k < n) : (List.finRange n).take (k + 1) = (List.finRange n).take k ++ [⟨k, h⟩] := by
  rw [List.take_succ_eq_append_getElem (by simpa using h)]
  simp
theorem grown_drewN (W : World) (n : Nat) (row : Option Nat) : W.grownBy (W.drewN n) row := ⟨rfl, rfl, rfl, Nat.le_refl _, fun _ _ _ => rfl⟩
/-- What a round is handed. -/
def encB (r : List UInt8) (k : _root_.Fin r.length) : Array Value := #[.int .i64 (k.1 : Int), .int .u8 (r[k.1].toNat : Int)]

set_option maxRecDepth 100000 in
set_option maxHeartbeats 2000000 in
theorem next1_in (n : Nat) (hn : 1 ≤ n) (lp Bn n₀ cb k e : Nat) (v : Value) (l : List UInt8) (hcb : cb < n₀) (hk : k ≤ l.length)
    (J Jx : List (_root_.Fin (l.drop k).length) → World → Prop)
    (hY : ∀ pre x W, J pre W → pre.length < (l.drop k).length → YieldAt Fence.wide (n - 1) Try.prog lp (encB (l.drop k) x) W fun e W' =>
      (e = .returned (.bool true) ∧ J (pre ++ [x]) W' ∧ Below n₀ W W') ∨ (e = .returned (.bool false) ∧ Jx (pre ++ [x]) W'))
    (W : World) (hBn : W.cell? ⟨Bn, 0, none⟩ = some (.pointer (some ⟨cb, 0, none⟩))) (hc : CurAt W cb v k e) (hb : Bytes W n₀ v l) (hJ : AbidesFrom W.heap.size J) (h0 : J [] W) :
    CallsIn Fence.wide n Try.prog 39 #[.func (.yield lp) #[] #[], .pointer (some ⟨Bn, 0, none⟩)] W fun e W' => (∃ v, e = .returned v) ∧
      ((∃ ys, ys = List.finRange (l.drop k).length ∧ J ys W') ∨ (∃ pre, pre <+: List.finRange (l.drop k).length ∧ Jx pre W')) := by
  obtain ⟨h0c, h1c, -, -, -, -⟩ := hc
  obtain ⟨A, c, rfl, hlc, hcm, -, hA⟩ := hb
  unfold maxLen at hcm
  have HA := Lib.hid hA; clear hA
  have hrl : (l.drop k).length = l.length - k := List.length_drop
  by_cases hlt : k < l.length
  · obtain ⟨b, o, rfl, hbB, hcell⟩ := HA.out (by omega)
    have hkc : k < c := by omega
    have HC : Hid (∀ j (h : j < (l.drop k).length), W.cell? ⟨b, o + k + j, none⟩ = some (.int .u8 ((l.drop k)[j].toNat : Int))) := by
      intro j h
      rw [Nat.add_assoc]
      refine hcell (k + j) _ ?_
      rw [bytesV_at l (k + j) (by omega)]
      simp
    clear hcell
    refine callsIn_of_wp Try.func39 rfl trivial ?_ rfl
    simp only [Try.ntmps39, List.size_toArray, List.length_cons, List.length_nil, Nat.reduceAdd, Nat.reduceSub, Array.replicate_succ, Array.replicate_zero, List.push_toArray, List.append_toArray, List.nil_append, List.cons_append]
    gi_wp2
    gi_quiet (fail)
    gi_wp2
    gi_loopw [15] (fun i wr => ∃ j : Nat, j ≤ (l.drop k).length ∧ i = .int .i64 j ∧ J ((List.finRange (l.drop k).length).take j) wr ∧ Below n₀ W wr) (fun i _ => (l.drop k).length - (intOf i).toNat)
    case atStart => exact ⟨0, Nat.zero_le _, rfl, hJ _ W _ none h0 (grown_drewN W nq none) (fun r e => by cases e), below_drewN (Below.refl _ _) nq⟩
    case round =>
      obtain ⟨j, hj, rfl, hJs, hnx⟩ := hrel
      by_cases hjl : j < (l.drop k).length
      · obtain ⟨fn, tmps, assign, body, hy, hR⟩ := hY _ ⟨j, hjl⟩ wr hJs (by rw [List.length_take, List.length_finRange]; omega)
        rw [← take_fin hjl] at hR
        unfold encB at hy
        dsimp only at hy
        have hcx := (hnx.cell (p := ⟨b, o + k + j, none⟩) hbB).trans (HC.out j hjl)
        have hx := ((l.drop k)[j]).toNat_lt
        have hjk : j < l.length - k := by omega
        clear hJs
        generalize ((l.drop k)[j]).toNat = x at *
        gi_wp2
        refine hR.mono ?_
        rintro e W3 (⟨rfl, hJ3, hk3⟩ | ⟨rfl, hJx3⟩)
        · gi_wp2
          go_roundw
          case rel => exact ⟨j + 1, by omega, by go_num, hJ3, hnx.trans hk3⟩
          case measure => simp [intOf]; omega
        · gi_wp2
          refine bodyPost_ret (results_none rfl _ _ _) rfl ?_
          exact ⟨⟨_, rfl⟩, .inr ⟨_, List.take_prefix _ _, hJx3⟩⟩
      · obtain rfl : j = (l.drop k).length := by omega
        rw [List.take_of_length_le (by simp)] at hJs
        gi_wp2
        go_end0
        exact ⟨⟨_, rfl⟩, .inl ⟨_, rfl, hJs⟩⟩
  · have hke : k = l.length := by omega
    have hd : (l.drop k).length = 0 := by omega
    have h0' : ∀ m : Nat, J (List.finRange (l.drop k).length) (W.drewN m) := fun m => by
      rw [show List.finRange (l.drop k).length = [] from List.eq_nil_of_length_eq_zero (by simpa using hd)]
      exact hJ _ W _ none h0 (grown_drewN W m none) (fun r e => by cases e)
    have H0 := Lib.hid h0'
    clear h0 h0' hJ hY hd hrl hk
    subst hke
    refine callsIn_of_wp Try.func39 rfl trivial ?_ rfl
    simp only [Try.ntmps39, List.size_toArray, List.length_cons, List.length_nil, Nat.reduceAdd, Nat.reduceSub, Array.replicate_succ, Array.replicate_zero, List.push_toArray, List.append_toArray, List.nil_append, List.cons_append]
    gi_wp2
    gi_quiet (fail)
    gi_wp2
    all_goals (
      gi_loopw [15] (fun i wr => i = .int .i64 0 ∧ J (List.finRange (l.drop l.length).length) wr) (fun _ _ => 0)
      case atStart => exact ⟨rfl, H0.out nq⟩
      case round =>
        obtain ⟨rfl, hJs⟩ := hrel
        gi_wp2
        go_end0
        exact ⟨⟨_, rfl⟩, .inl ⟨_, rfl, hJs⟩⟩
      )

/-- The iterator's contract. -/
theorem next1_stops (n : Nat) (hn : 1 ≤ n) (Bn n₀ cb k e : Nat) (v : Value) (l : List UInt8) (hcb : cb < n₀) (hk : k ≤ l.length) (w : World) (hBn : Bn < w.heap.size) (hn₀ : n₀ ≤ w.heap.size)
    (hc0 : w.cell? ⟨Bn, 0, none⟩ = some (.pointer (some ⟨cb, 0, none⟩))) (hc : CurAt w cb v k e) (hb : Bytes w n₀ v l) :
    SeqStopsK Fence.wide n Try.prog 39 #[.pointer (some ⟨Bn, 0, none⟩)] (encB (l.drop k)) (Below n₀) (fun ys => ys = List.finRange (l.drop k).length) (fun pre => pre <+: List.finRange (l.drop k).length) (l.drop k).length w := fun lp J Jx W hW hJ _ hY h0 =>
  (next1_in n hn lp Bn n₀ cb k e v l hcb hk J Jx hY W ((hW.cell (p := ⟨Bn, 0, none⟩) hBn).trans hc0) (hc.below hW (by omega)) (hb.below (hW.mono hn₀)) hJ h0)
end Go.Proofs.Ythlgeffjoaiojaa
