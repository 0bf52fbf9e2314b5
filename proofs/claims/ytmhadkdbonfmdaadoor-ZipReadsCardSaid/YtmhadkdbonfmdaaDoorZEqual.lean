/-
  slices.Equal and slices.Clone at bytes; heads.
-/
import Derived.Test.YtmhadkdbonfmdaaDoorZWrite
import Derived.Test.YtmhadkdbonfmdaaDoorZCurB
import Derived.Lib.SliceRun
namespace Go.Proofs.YtmhadkdbonfmdaaDoor
open Go Go.RowKit Go.Shelf
set_option maxRecDepth 100000

set_option maxHeartbeats 1000000 in
theorem equal_any (w : World) (va vb : Value) (la lb : List UInt8) (ha : Bytes w w.heap.size va la) (hb : Bytes w w.heap.size vb lb) :
    Calls Tryd.prog 36 #[va, vb] w fun e w' => e = .returned (.bool (la == lb)) ∧ Below w.heap.size w w' := by
  obtain ⟨A, c, rfl, hac, hcm, -, hA⟩ := ha
  obtain ⟨A', c', rfl, hac', hcm', -, hA'⟩ := hb
  unfold maxLen at hcm hcm'
  by_cases hl : la.length = lb.length
  · have HL := Lib.hid hl
    have hlen : ((la.length : Int) != (lb.length : Int)) = false := by rw [bne_eq_false_iff_eq]; omega
    have hl1 : la.length ≤ lb.length := by omega
    have hl2 : lb.length ≤ la.length := by omega
    have HA := Lib.hid hA; clear hA
    have HA' := Lib.hid hA'; clear hA'
    clear hl
    go_enter Tryd.func36, Tryd.ntmps36
    go_wp2
    go_loopw [13] (fun i wr => ∃ k : Nat, k ≤ la.length ∧ i = .int .i64 k ∧ la.take k = lb.take k ∧ Below w.heap.size w wr) (fun i _ => la.length - (intOf i).toNat)
    case atStart => exact ⟨0, by omega, rfl, rfl, Below.refl _ _⟩
    case round =>
      obtain ⟨k, hk, rfl, ht, hbel⟩ := hrel
      have HT := Lib.hid ht; clear ht
      by_cases hlt : k < la.length
      · obtain ⟨b, o, rfl, hbB, hc⟩ := HA.out (by omega)
        obtain ⟨b', o', rfl, hbB', hc'⟩ := HA'.out (by omega)
        have hlt' : k < lb.length := by omega
        have hcell := (hbel.cell (p := ⟨b, o + k, none⟩) hbB).trans (hc k _ (bytesV_at la k hlt))
        have hcell' := (hbel.cell (p := ⟨b', o' + k, none⟩) hbB').trans (hc' k _ (bytesV_at lb k hlt'))
        clear hc hc'
        have hx := (la[k]).toNat_lt
        have hy := (lb[k]).toNat_lt
        by_cases hxy : la[k] = lb[k]
        · have HS := Lib.hid (take_eq_succ hlt hlt' HT.out hxy)
          have hne : (((la[k]).toNat : Int) != ((lb[k]).toNat : Int)) = false := by rw [hxy]; simp
          clear hxy
          generalize (la[k]).toNat = x at *
          generalize (lb[k]).toNat = y at *
          go_wp2
          go_quiet (fail)
          go_wp2
          go_roundw
          case rel => exact ⟨k + 1, by omega, by go_num, HS.out, below_drewN hbel nq⟩
          case measure => simp [intOf]; omega
        · have HS := Lib.hid (beq_false_at hlt hlt' hxy)
          have hne : (((la[k]).toNat : Int) != ((lb[k]).toNat : Int)) = true := by
            rw [bne_iff_ne]
            intro e
            exact hxy (UInt8.toNat_inj.1 (by omega))
          clear hxy
          generalize (la[k]).toNat = x at *
          generalize (lb[k]).toNat = y at *
          go_wp2
          go_quiet (fail)
          go_wp2
          go_ret
          exact ⟨ret_bool HS.out.symm, below_drewN hbel nq⟩
      · have HE : Hid ((la == lb) = true) := by
          show _ = _
          have h1 := HT.out
          rw [List.take_of_length_le (by omega), List.take_of_length_le (by omega)] at h1
          rw [h1, beq_self_eq_true]
        go_wp2
        go_ret
        exact ⟨ret_bool HE.out.symm, hbel⟩
  · have HE : Hid ((la == lb) = false) := by
      show _ = _
      rw [beq_eq_false_iff_ne]
      intro e
      exact hl (by rw [e])
    have hlen : ((la.length : Int) != (lb.length : Int)) = true := by rw [bne_iff_ne]; omega
    clear hl
    go_enter Tryd.func36, Tryd.ntmps36
    go_wp2
    go_ret
    exact ⟨ret_bool HE.out.symm, Below.refl _ _⟩

theorem own_new0 (w : World) (t : TypeId) : (w.alloc (.cells #[] t)).ownsRow w.heap.size t 1 (.slice (some ⟨w.heap.size, 0, none⟩) 0 0) 0 [] :=
  ⟨rfl, .inr ⟨w.heap.size, 0, #[], rfl, Nat.le_refl _, heap_alloc_new w _, Nat.le_refl _, Nat.zero_le _, rfl, rfl⟩⟩
set_option maxHeartbeats 1000000 in
theorem clone_any (w : World) (v : Value) (l : List UInt8) (hv : Bytes w w.heap.size v l) (hl : l.length ≤ 1000000) :
    Calls Tryd.prog 60 #[v] w (Rets fun v' w' => w'.ownsRow w.heap.size 5 1 v' l.length (bytesV l) ∧ Below w.heap.size w w') := by
  obtain ⟨i0, hi, hz0, hz1, hz2⟩ := info_parts infoByte
  obtain ⟨A, c, rfl, hlc, hcm⟩ := hv.form
  have HV := Lib.hid hv
  rcases A with _ | ad
  · have hl0 : l = [] := by
      obtain ⟨A', c', e, -, -, -, hA⟩ := hv
      cases e
      rcases l with _ | ⟨x, l⟩
      · rfl
      · obtain ⟨_, _, e, _⟩ := hA (by simp)
        cases e
    subst hl0
    clear hv
    have heq := Lib.run_eql_slice_nil (P := Tryd.prog) w 32 5 none 0 c 0 0 Tryd.underlying32
    go_enter Tryd.func60, Tryd.ntmps60
    go_wp2_with fail
    go_ret
    exact ⟨_, rfl, World.ownsRow_nil _ _ _ _, Below.refl _ _⟩
  · clear hv
    have heq := Lib.run_eql_slice_nil (P := Tryd.prog) w 32 5 (some ad) l.length c 0 0 Tryd.underlying32
    go_enter Tryd.func60, Tryd.ntmps60
    go_wp2_with (at_builtin; refine wpList_append_sl rfl _ _ 32 rfl w.heap.size 5 i0 (.int .u8 0) 1 1 Tryd.underlying32 hi hz0 hz1 hz2 rfl (by decide) (.slice (some ⟨w.heap.size, 0, none⟩) 0 0) 0 [] rfl (own_new0 w 5) (.slice (some ad) l.length c) w.heap.size l.length (bytesV l) rfl (HV.out.below (bump w _)) (bytesV_one' _) (by unfold maxLen; omega) (by omega) (bump w _).size ?_; intro v5 w5 hown5 hgrow5)
    go_ret
    refine ⟨_, rfl, by simpa using hown5, (bump w _).grown hgrow5 (bump w _).size (fun g hg => by cases hg; exact Nat.le_refl _)⟩
end Go.Proofs.YtmhadkdbonfmdaaDoor
