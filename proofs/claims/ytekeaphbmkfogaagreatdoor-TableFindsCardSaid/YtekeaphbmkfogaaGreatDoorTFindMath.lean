/-
  The last change that is not behind an instant, by the reference; what TableFinds asks for.
-/
import Derived.Test.YtekeaphbmkfogaaGreatDoorTCutMath
namespace Go.Proofs.YtekeaphbmkfogaaGreatDoor
open Go Go.RowKit
set_option maxRecDepth 100000

set_option maxHeartbeats 1000000 in
theorem last_any (w : World) (B : Nat) (v : Value) (l : List Chg) (i : Int) (hv : Chgs w B v l) (hr : Rising l) :
    Calls Tryz.prog 28 #[v, .int .i64 i] w fun e w' => e = .returned (.int .i64 ((bh l i : Nat) - 1)) ∧ w' = w := by
  obtain ⟨A, c, rfl, hlc, hcm⟩ := hv.form
  unfold maxLen at hcm
  have HV := Lib.hid hv
  have HI := Lib.hid (fun (k : Nat) (hk : k < l.length) => bh_iff hr i hk)
  have hle := bh_le l i
  obtain ⟨n, hn⟩ : ∃ n, bh l i = n := ⟨_, rfl⟩
  rw [hn] at HI hle ⊢
  clear hv hn
  go_enter Tryz.func28, Tryz.ntmps28
  go_wp2_with fail
  go_loopw [5, 6] (fun u j wr => ∃ k : Nat, k ≤ l.length ∧ j = .int .i64 k ∧ u = .int .i64 ((min k n : Nat) - 1) ∧ wr = w) (fun _ j _ => l.length - (intOf j).toNat)
  case atStart => exact ⟨0, by omega, rfl, by rw [Nat.zero_min]; rfl, rfl⟩
  case round =>
    obtain ⟨k, hk, rfl, rfl, rfl⟩ := hrel
    by_cases hlt : k < l.length
    · obtain ⟨b, o, c', e, -, hc⟩ := HV.out.cells (by omega)
      cases e
      have c0 := (hc k hlt).1
      have HK := Lib.hid (HI.out k hlt)
      clear hc
      generalize (l[k]).at_ = z at *
      by_cases hz : z ≤ i
      · have HN := Lib.hid (show ((min (k + 1) n : Nat) : Int) - 1 = k by have := HK.out.2 hz; omega)
        go_wp2_with fail
        go_roundw
        case rel => exact ⟨k + 1, by omega, by go_num, by rw [HN.out], by first | rfl | trivial⟩
        case measure => first | (simp [intOf]; done) | (simp [intOf]; omega)
      · have HN := Lib.hid (show min (k + 1) n = min k n by have := HK.out; omega)
        go_wp2_with fail
        go_roundw
        case rel => exact ⟨k + 1, by omega, by go_num, by rw [HN.out], by first | rfl | trivial⟩
        case measure => first | (simp [intOf]; done) | (simp [intOf]; omega)
    · have HN := Lib.hid (show min k n = n by omega)
      go_wp2_with fail
      rw [HN.out]
      go_ret
      exact ⟨rfl, rfl⟩
/-- The head of what is asked for. -/
def wantH (l : List Chg) (a : Int) : List Chg := if bh l a = 0 then [] else [⟨a, (l.getD (bh l a - 1) .zero).loc⟩]
/-- What is asked for, as far as the k-th change. -/
def wantL (l : List Chg) (a b : Int) (k : Nat) : List Chg := wantH l a ++ (l.drop (bh l a)).take (min k (max (bh l a) (bh l b)) - bh l a)
theorem wantH_len (l : List Chg) (a : Int) : (wantH l a).length = if bh l a = 0 then 0 else 1 := by
  unfold wantH
  split <;> rfl
theorem want_zero (l : List Chg) (a b : Int) : wantL l a b 0 = wantH l a := by
  unfold wantL
  rw [show min 0 (max (bh l a) (bh l b)) - bh l a = 0 by omega, List.take_zero, List.append_nil]
theorem want_end (l : List Chg) (a b : Int) : wantL l a b l.length = cutL l a b := by
  have h1 := bh_le l a
  have h2 := bh_le l b
  unfold wantL cutL wantH
  rw [show min l.length (max (bh l a) (bh l b)) = max (bh l a) (bh l b) by omega]
theorem want_yes {l : List Chg} (hr : Rising l) {a b : Int} {k : Nat} (hk : k < l.length) (h1 : a < (l[k]).at_) (h2 : (l[k]).at_ ≤ b) : wantL l a b (k + 1) = wantL l a b k ++ [l[k]] := by
  have g1 := bh_iff hr a hk
  have g2 := bh_iff hr b hk
  have hn : bh l a ≤ k := by omega
  have hm : k < bh l b := g2.2 h2
  unfold wantL
  rw [List.append_assoc]
  congr 1
  rw [show min (k + 1) (max (bh l a) (bh l b)) - bh l a = (k - bh l a) + 1 by omega, show min k (max (bh l a) (bh l b)) - bh l a = k - bh l a by omega]
  rw [List.take_succ_eq_append_getElem (by rw [List.length_drop]; omega), List.getElem_drop]
  congr 2
  simp only [show bh l a + (k - bh l a) = k by omega]
theorem want_no {l : List Chg} (hr : Rising l) {a b : Int} {k : Nat} (hk : k < l.length) (h : ¬ (a < (l[k]).at_ ∧ (l[k]).at_ ≤ b)) : wantL l a b (k + 1) = wantL l a b k := by
  have g1 := bh_iff hr a hk
  have g2 := bh_iff hr b hk
  unfold wantL
  congr 2
  by_cases h3 : a < (l[k]).at_
  · have : bh l b ≤ k := by
      rcases Nat.lt_or_ge k (bh l b) with h4 | h4
      · exact absurd ⟨h3, g2.1 h4⟩ h
      · exact h4
    omega
  · have := g1.2 (by omega)
    omega
theorem want_len (l : List Chg) (a b : Int) (k : Nat) : (wantL l a b k).length ≤ l.length + 1 := by
  unfold wantL
  rw [List.length_append, wantH_len, List.length_take, List.length_drop]
  split <;> omega
end Go.Proofs.YtekeaphbmkfogaaGreatDoor
