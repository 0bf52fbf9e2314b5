/-
  Layer 20: the references All and Gap, and which rows are right, walked.
-/
import Derived.Test.YtlkpkmdomecopaaLFind
namespace Go.Proofs.Ytlkpkmdomecopaa
open Go Go.RowKit Go.Shelf
set_option maxRecDepth 100000

def RAllEnd (l : List Chg) (s : Int) (w : World) (e : Ending) (w' : World) : Prop := (∃ u, e = .returned u ∧ Sl w' w'.heap.size 1 u (allL l s).length (intsV (allL l s))) ∧ Below w.heap.size w w'
set_option maxHeartbeats 4000000 in
theorem rall_any (w : World) (B : Nat) (v : Value) (l : List Chg) (s : Int) (hv : Chgs w B v l) (hB : B ≤ w.heap.size) (hrow : Row l) (h1 : -2199023255552 ≤ s) (h2 : s ≤ 2199023255552) :
    Calls Try.prog 13 #[v, .int .i64 s] w (RAllEnd l s w) := by
  obtain ⟨b, o, c, rfl, hb, hc⟩ := hv.cells hrow.pos
  obtain ⟨A, c', e, hlc, hcm⟩ := hv.form
  cases e
  unfold maxLen at hcm
  have HC := Lib.hid hc
  have hl60 := hrow.few
  have hb' : b < w.heap.size := by omega
  obtain ⟨i0, hi, hz0, hz1, hz2⟩ := info_parts infoInt
  clear hc hv
  go_enter Try.func13, Try.ntmps13
  go_wp2_with fail
  go_loopw [5, 6] (fun u i wr => ∃ k : Nat, k ≤ l.length ∧ i = .int .i64 k ∧ wr.ownsRow w.heap.size 3 1 u (allOf l s 0 k).length (intsV (allOf l s 0 k)) ∧ Below w.heap.size w wr) (fun _ i _ => l.length - (intOf i).toNat)
  case atStart => exact ⟨0, by omega, rfl, World.ownsRow_nil _ _ _ _, Below.refl _ _⟩
  case round =>
    obtain ⟨k, hk, rfl, hown, hbw⟩ := hrel
    have HOW := Lib.hid hown
    by_cases hlt : k < l.length
    · obtain ⟨c0, c1, -, -⟩ := HC.out k hlt
      have d0 := (hbw.cell (p := ⟨b, o + k * 4, none⟩) hb').trans c0
      have d1 := (hbw.cell (p := ⟨b, o + k * 4 + 1, none⟩) hb').trans c1
      have hoff := hrow.off k hlt
      have hatl := hrow.at_lo k hlt
      have HSI := Lib.hid (shows_iff (s := s) hlt)
      have HT := Lib.hid (show tAt l s k = s - (l[k]).loc.off by unfold tAt; rw [locAt_in hlt])
      have HSU := Lib.hid (allOf_succ l s 0 k)
      rw [Nat.zero_add] at HSU
      have hal := allOf_le l s 0 k
      have HSKIP := Lib.hid (show shows l s k = false → wr.ownsRow w.heap.size 3 1 u5 (allOf l s 0 (k + 1)).length (intsV (allOf l s 0 (k + 1))) from fun h => by rw [HSU.out, h]; simpa using HOW.out)
      have hc1 : ∀ h : k + 1 < l.length, wr.cell? ⟨b, o + (k + 1) * 4, none⟩ = some (.int .i64 (l[k + 1]).at_) := fun h => (hbw.cell (p := ⟨b, o + (k + 1) * 4, none⟩) hb').trans (HC.out (k + 1) h).1
      obtain ⟨A5, c5, hu⟩ := (Sl.of_own hown).form
      clear c0 c1
      generalize ha : (l[k]).at_ = a at *
      generalize (l[k]).loc.off = f at *
      by_cases g1 : a ≤ s - f
      · by_cases g2 : k + 1 < l.length
        · have d2 := hc1 g2
          have HSJ := Lib.hid (show shows l s k = true ↔ a ≤ s - f ∧ s - f < (l[k + 1]).at_ from ⟨fun h => ⟨(HSI.out.1 h).1, (HSI.out.1 h).2 g2⟩, fun h => HSI.out.2 ⟨h.1, fun _ => h.2⟩⟩)
          generalize (l[k + 1]).at_ = a2 at *
          have n1 : ((k : Int) + 1 == (l.length : Int)) = false := by rw [beq_eq_false_iff_ne]; omega
          clear hc1 ha
          by_cases g3 : s - f < a2
          · have HS := Lib.hid (HSJ.out.2 ⟨g1, g3⟩)
            clear hown
            go_wp2_with ((at_builtin; refine wpList_append_own _ rfl _ _ 27 rfl (w.heap.size) 3 i0 (.int .i64 0) 1 8 Try.underlying27 hi hz0 hz1 hz2 rfl (by decide) _ _ _ rfl (HOW.out.alloc _) ⟨wr.heap.size, 0, none⟩ 1 1 [.int .i64 (s - f)] rfl rfl (cell_one_new _ _ _) (by simp [Value.oneCell']) (by unfold maxLen; omega) (by omega) (by have := hbw.size; simp <;> omega) ?_; intro v' w1 hown' hgrow _))
            go_roundw
            case rel => exact ⟨k + 1, by omega, by go_num, by rw [HSU.out, if_pos HS.out, HT.out, intsV_append, List.length_append, List.length_singleton]; exact hown', below_push hbw HOW.out hgrow⟩
            case measure => first | (simp [intOf]; done) | (simp [intOf]; omega)
          · have HS := Lib.hid (HSKIP.out (by cases h : shows l s k with | false => rfl | true => exact absurd (HSJ.out.1 h).2 g3))
            clear hown
            go_wp2_with fail
            go_roundw
            case rel => exact ⟨k + 1, by omega, by go_num, HS.out, hbw⟩
            case measure => first | (simp [intOf]; done) | (simp [intOf]; omega)
        · have HS := Lib.hid (HSI.out.2 ⟨g1, fun h => absurd h g2⟩)
          have n1 : ((k : Int) + 1 == (l.length : Int)) = true := by rw [beq_iff_eq]; omega
          clear hc1 ha hown
          go_wp2_with ((at_builtin; refine wpList_append_own _ rfl _ _ 27 rfl (w.heap.size) 3 i0 (.int .i64 0) 1 8 Try.underlying27 hi hz0 hz1 hz2 rfl (by decide) _ _ _ rfl (HOW.out.alloc _) ⟨wr.heap.size, 0, none⟩ 1 1 [.int .i64 (s - f)] rfl rfl (cell_one_new _ _ _) (by simp [Value.oneCell']) (by unfold maxLen; omega) (by omega) (by have := hbw.size; simp <;> omega) ?_; intro v' w1 hown' hgrow _))
          go_roundw
          case rel => exact ⟨k + 1, by omega, by go_num, by rw [HSU.out, if_pos HS.out, HT.out, intsV_append, List.length_append, List.length_singleton]; exact hown', below_push hbw HOW.out hgrow⟩
          case measure => first | (simp [intOf]; done) | (simp [intOf]; omega)
      · have HS := Lib.hid (HSKIP.out (by cases h : shows l s k with | false => rfl | true => exact absurd (HSI.out.1 h).1 g1))
        clear hc1 ha hown
        go_wp2_with fail
        go_roundw
        case rel => exact ⟨k + 1, by omega, by go_num, HS.out, hbw⟩
        case measure => first | (simp [intOf]; done) | (simp [intOf]; omega)
    · obtain rfl : k = l.length := by omega
      clear hown
      go_wp2_with fail
      go_ret
      exact ⟨⟨_, rfl, Sl.of_own HOW.out⟩, hbw⟩
end Go.Proofs.Ytlkpkmdomecopaa
