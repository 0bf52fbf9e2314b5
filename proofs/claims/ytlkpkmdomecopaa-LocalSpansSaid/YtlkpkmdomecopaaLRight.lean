/-
  Layer 20: which rows are right, walked.
-/
import Derived.Test.YtlkpkmdomecopaaLRefG
namespace Go.Proofs.Ytlkpkmdomecopaa
open Go Go.RowKit Go.Shelf
set_option maxRecDepth 100000

def rightB (l : List Chg) : Bool := decide (0 < l.length) && (decide (l.length ≤ 60) && ((match l with | c :: _ => decide (c.at_ = -2199023255552) | [] => false) && (riseB l && l.all fun c => decide (-180000 < c.loc.off) && decide (c.loc.off < 180000) && decide (c.at_ ≤ 2199023255552))))
theorem rightB_iff (l : List Chg) : rightB l = true ↔ Row l := by
  unfold rightB
  simp only [Bool.and_eq_true, decide_eq_true_eq, riseB_iff, List.all_eq_true]
  constructor
  · rintro ⟨h1, h2, h3, h4, h5⟩
    refine ⟨h1, h2, fun i hi => ?_, ?_, h4⟩
    · have := h5 _ (List.getElem_mem hi)
      exact ⟨this.1.1, this.1.2, this.2⟩
    · cases l with
      | nil => cases h3
      | cons c l => simpa using h3
  · rintro ⟨h1, h2, h3, h4, h5⟩
    refine ⟨h1, h2, ?_, h5, fun c hc => ?_⟩
    · cases l with
      | nil => exact absurd h1 (by simp)
      | cons c l => simpa using h4
    · obtain ⟨i, hi, rfl⟩ := List.getElem_of_mem hc
      have := h3 i hi
      exact ⟨⟨this.1, this.2.1⟩, this.2.2⟩
theorem rightB_no {l : List Chg} (h : ¬ Row l) : rightB l = false := by
  cases hb : rightB l with
  | false => rfl
  | true => exact absurd ((rightB_iff l).1 hb) h
set_option maxHeartbeats 4000000 in
theorem right_any (w : World) (B : Nat) (v : Value) (l : List Chg) (hv : Chgs w B v l) :
    Calls Try.prog 9 #[v] w fun e w' => e = .returned (.bool (rightB l)) ∧ Below w.heap.size w w' := by
  obtain ⟨A, c, rfl, hlc, hcm⟩ := hv.form
  unfold maxLen at hcm
  have HV := Lib.hid hv
  have HRISE := fun W (hb : Below B w W) => Lib.hid (rise_any W B _ l (hv.below hb))
  clear hv
  go_enter Try.func9, Try.ntmps9
  go_wp2_with fail
  go_loop [3] (fun i => ∃ k : Nat, k ≤ l.length ∧ i = .int .i64 k ∧ ∀ j (h : j < l.length), j < k → -180000 < (l[j]).loc.off ∧ (l[j]).loc.off < 180000 ∧ (l[j]).at_ ≤ 2199023255552) (fun i => l.length - (intOf i).toNat)
  case atStart => exact ⟨0, by omega, rfl, fun j _ h => by omega⟩
  case round =>
    obtain ⟨k, hk, rfl, hs⟩ := hrel
    have HS := Lib.hid hs
    clear hs
    by_cases hlt : k < l.length
    · obtain ⟨b, o, c', e, hb, hc⟩ := HV.out.cells (by omega)
      cases e
      obtain ⟨c0, c1, -, -⟩ := hc k hlt
      clear hc
      have HN := Lib.hid (show -180000 < (l[k]).loc.off → (l[k]).loc.off < 180000 → (l[k]).at_ ≤ 2199023255552 → ∀ j (h : j < l.length), j < k + 1 → -180000 < (l[j]).loc.off ∧ (l[j]).loc.off < 180000 ∧ (l[j]).at_ ≤ 2199023255552 from fun h1 h2 h3 j hj h4 => by
        rcases Nat.lt_or_ge j k with h5 | h5
        · exact HS.out j hj h5
        · obtain rfl : j = k := by omega
          exact ⟨h1, h2, h3⟩)
      have HB := Lib.hid (show ¬ (-180000 < (l[k]).loc.off ∧ (l[k]).loc.off < 180000 ∧ (l[k]).at_ ≤ 2199023255552) → rightB l = false from fun h => rightB_no fun hr => h (hr.off k hlt))
      generalize (l[k]).loc.off = f at *
      generalize (l[k]).at_ = a at *
      by_cases g1 : f ≤ -180000
      · have HBB := Lib.hid (HB.out (by omega))
        go_wp2_with fail
        go_ret
        exact ⟨by rw [HBB.out]; rfl, Below.refl _ _⟩
      · by_cases g2 : 180000 ≤ f
        · have HBB := Lib.hid (HB.out (by omega))
          go_wp2_with fail
          go_ret
          exact ⟨by rw [HBB.out]; rfl, Below.refl _ _⟩
        · by_cases g3 : 2199023255552 < a
          · have HBB := Lib.hid (HB.out (by omega))
            go_wp2_with fail
            go_ret
            exact ⟨by rw [HBB.out]; rfl, Below.refl _ _⟩
          · have HNN := Lib.hid (HN.out (by omega) (by omega) (by omega))
            go_wp2_with fail
            go_round
            case rel => exact ⟨k + 1, by omega, by go_num, HNN.out⟩
            case measure => first | (simp [intOf]; done) | (simp [intOf]; omega)
    · by_cases h1 : 0 < l.length
      · by_cases h2 : l.length ≤ 60
        · obtain ⟨b, o, c', e, hb, hc⟩ := HV.out.cells h1
          cases e
          have c0 := (hc 0 h1).1
          rw [Nat.zero_mul, Nat.add_zero] at c0
          clear hc
          have HRB := Lib.hid (show (l[0]).at_ = -2199023255552 → rightB l = riseB l from fun h => by
            cases hb : riseB l with
            | false => exact rightB_no fun hr => by have := (riseB_iff l).2 hr.rise; rw [hb] at this; cases this
            | true => exact (rightB_iff l).2 ⟨h1, h2, fun i hi => HS.out i hi (by omega), h, (riseB_iff l).1 hb⟩)
          have HRN := Lib.hid (show (l[0]).at_ ≠ -2199023255552 → rightB l = false from fun h => rightB_no fun hr => h hr.first)
          generalize (l[0]).at_ = a at *
          by_cases h3 : a = -2199023255552
          · have HBB := Lib.hid (HRB.out h3)
            have h3' : ((a : Int) == -2199023255552) = true := by rw [beq_iff_eq]; exact h3
            clear h3
            go_wp2_with fail
            refine (HRISE _ (Below.refl _ _)).out.mono ?_
            rintro e w1 ⟨rfl, n, rfl⟩
            go_wp2_with fail
            go_ret
            exact ⟨by rw [HBB.out]; rfl, below_drewN (Below.refl _ _) _⟩
          · have HBB := Lib.hid (HRN.out h3)
            have h3' : ((a : Int) == -2199023255552) = false := by rw [beq_eq_false_iff_ne]; exact h3
            clear h3
            go_wp2_with fail
            go_ret
            exact ⟨by rw [HBB.out]; rfl, Below.refl _ _⟩
        · have HBB := Lib.hid (rightB_no (l := l) fun hr => h2 hr.few)
          have h2' : decide ((l.length : Int) ≤ 60) = false := by rw [decide_eq_false_iff_not]; omega
          go_wp2_with fail
          go_ret
          exact ⟨by rw [HBB.out]; rfl, Below.refl _ _⟩
      · have HBB := Lib.hid (rightB_no (l := l) fun hr => h1 hr.pos)
        have h1' : decide (0 < l.length) = false := by rw [decide_eq_false_iff_not]; omega
        go_wp2_with fail
        go_ret
        exact ⟨by rw [HBB.out]; rfl, Below.refl _ _⟩
end Go.Proofs.Ytlkpkmdomecopaa
