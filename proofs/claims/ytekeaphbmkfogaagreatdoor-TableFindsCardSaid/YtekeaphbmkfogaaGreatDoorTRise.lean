/-
  Layer 20: the references' parts, walked.
-/
import Derived.Deep.QuietTactic
import Derived.BigQuiet
import Derived.WalkKit
import Derived.Test.YtekeaphbmkfogaaGreatDoorChecked
import Derived.Test.YtekeaphbmkfogaaGreatDoorTBase
namespace Go.Proofs.YtekeaphbmkfogaaGreatDoor
open Go Go.RowKit
set_option maxRecDepth 100000

open Go Go.RowKit
set_option maxRecDepth 100000

theorem dn2 (w : World) (n m : Nat) : ∃ q, (w.drewN n).drewN m = w.drewN q := ⟨n + m, World.drewN_drewN ..⟩
/-- Do the first k pairs rise? -/
def RiseTo (l : List Chg) (k : Nat) : Prop := ∀ i (h : i + 1 < l.length), i + 1 < k → (l[i]).at_ < (l[i + 1]).at_
def riseB (l : List Chg) : Bool := decide (∀ i : _root_.Fin l.length, ∀ h : i.1 + 1 < l.length, (l[i.1]).at_ < (l[i.1 + 1]).at_)
theorem riseB_iff (l : List Chg) : riseB l = true ↔ Rising l := by
  unfold riseB
  rw [decide_eq_true_iff]
  exact ⟨fun h i hi => h ⟨i, by omega⟩ hi, fun h i hi => h i.1 hi⟩
theorem riseB_yes {l : List Chg} (h : Rising l) : riseB l = true := (riseB_iff l).2 h
theorem riseB_no {l : List Chg} {i : Nat} (h : i + 1 < l.length) (hn : ¬ (l[i]).at_ < (l[i + 1]).at_) : riseB l = false := by
  cases hb : riseB l with
  | false => rfl
  | true => exact absurd ((riseB_iff l).1 hb i h) hn
set_option maxHeartbeats 1000000 in
theorem rise_any (w : World) (B : Nat) (v : Value) (l : List Chg) (hv : Chgs w B v l) :
    Calls Tryz.prog 21 #[v] w fun e w' => e = .returned (.bool (riseB l)) ∧ ∃ n, w' = w.drewN n := by
  obtain ⟨A, c, rfl, hlc, hcm⟩ := hv.form
  unfold maxLen at hcm
  have HV := Lib.hid hv
  clear hv
  go_enter Tryz.func21, Tryz.ntmps21
  go_wp2_with fail
  go_loopw [3] (fun i wr => ∃ k : Nat, 1 ≤ k ∧ (k ≤ l.length ∨ k = 1) ∧ i = .int .i64 k ∧ RiseTo l k ∧ ∃ n, wr = w.drewN n) (fun i _ => l.length - (intOf i).toNat)
  case atStart => exact ⟨1, by omega, by omega, rfl, fun i _ h => by omega, 0, rfl⟩
  case round =>
    obtain ⟨k, hk1, hk, rfl, hr, n, rfl⟩ := hrel
    have HR := Lib.hid hr
    clear hr
    by_cases hlt : k < l.length
    · obtain ⟨j, rfl⟩ : ∃ j, k = j + 1 := ⟨k - 1, by omega⟩
      obtain ⟨b, o, c', e, -, hc⟩ := HV.out.cells (by omega)
      cases e
      have c1 := (hc (j + 1) hlt).1
      have c0 := (hc j (by omega)).1
      have HNO := Lib.hid (riseB_no hlt)
      clear hc
      have HX := Lib.hid (show ∀ h : (l[j]).at_ < (l[j + 1]).at_, RiseTo l (j + 1 + 1) from fun h i hi h2 => by
        rcases Nat.lt_or_ge (i + 1) (j + 1) with h3 | h3
        · exact HR.out i hi h3
        · obtain rfl : i = j := by omega
          exact h)
      generalize (l[j + 1]).at_ = a1 at *
      generalize (l[j]).at_ = a0 at *
      have e1 : ((j + 1 : Nat) : Int) - 1 = (j : Nat) := by omega
      rw [show (((j + 1 : Nat)) : Int) = (j : Int) + 1 from by omega] at *
      by_cases hcmp : a0 < a1
      · go_wp2_with fail
        go_quiet (fail)
        go_wp2_with fail
        go_roundw
        case rel => exact ⟨j + 1 + 1, by omega, by omega, by go_num, HX.out hcmp, _, rfl⟩
        case measure => first | (simp [intOf]; done) | (simp [intOf]; omega)
      · have HB := Lib.hid (HNO.out hcmp)
        go_wp2_with fail
        go_quiet (fail)
        go_wp2_with fail
        go_ret
        exact ⟨by rw [HB.out]; rfl, dn2 w _ _⟩
    · have HB := Lib.hid (riseB_yes (l := l) (fun i hi => HR.out i hi (by omega)))
      go_wp2_with fail
      go_ret
      exact ⟨by rw [HB.out]; rfl, _, rfl⟩
end Go.Proofs.YtekeaphbmkfogaaGreatDoor
