/-
  Helps of layer 11's walks: infos of types, rows of firings so far, comparing numbers.
-/
import Derived.Test.YtfbkkhfmboaknaaGreatDoorFRules
import Derived.Test.YtfbkkhfmboaknaaGreatDoorAppend
import Derived.Maps.AppendAt
import Derived.Lib.MinMax
namespace Go.Proofs.YtfbkkhfmboaknaaGreatDoor
open Go Go.RowKit Go.Shelf
set_option maxRecDepth 100000

theorem info_parts {P : Program} {t : TypeId} {z : Value} {a b : Nat} (h : (P.info? t).map (fun i => (i.zero, i.size, i.bytes)) = some (some z, a, b)) : ∃ i, P.info? t = some i ∧ i.zero = some z ∧ i.size = a ∧ i.bytes = b := by
  cases hi : P.info? t with
  | none => rw [hi] at h; simp at h
  | some i =>
    rw [hi] at h
    simp only [Option.map_some, Option.some.injEq, Prod.mk.injEq] at h
    exact ⟨i, rfl, h.1, h.2.1, h.2.2⟩
theorem cell_new2 (w : World) (o : Obj) (C : Array Value) (t : TypeId) (fr : Nat × Nat) (i : Nat) : ((w.alloc o).alloc (.cells C t fr)).cell? ⟨w.heap.size + 1, i, none⟩ = C[i]? := by
  have := cell_new (w.alloc o) C t fr i
  rwa [World.size_alloc] at this
theorem ownsRow_below {w W : World} {base : Nat} {e : TypeId} {sz n : Nat} {v : Value} {xs : List Value} (h : w.ownsRow base e sz v n xs) (hb : Below w.heap.size w W) : W.ownsRow base e sz v n xs := (Fr.of_below (T := fun _ => False) hb (Nat.le_refl _)).own h (fun _ _ h => h)
/-- The firings so far: of the rules ahead, and of the k-th one in the years from a on, ahead of y. -/
def genK (l : List Rul) (a b : Int) (k : Nat) : List Fir := genL (l.take k) a b
theorem genK_next (l : List Rul) (a b : Int) {k : Nat} (hk : k < l.length) : genK l a b (k + 1) = genK l a b k ++ genR l[k] a b := by
  unfold genK genL
  rw [List.take_succ_eq_append_getElem hk, List.flatMap_append]
  simp
theorem genR_next (r : Rul) {a y : Int} (h : a ≤ y) : genR r a y = genR r a (y - 1) ++ if ofB r y then [firOf r y] else [] := by
  rw [genR_split r (show a ≤ y - 1 + 1 by omega) (show y - 1 ≤ y by omega), show y - 1 + 1 = y by omega]
  congr 1
  unfold genR yrs
  rw [show (y + 1 - y).toNat = 1 by omega]
  simp
  split <;> simp_all
/-- What the order of firings answers. -/
def cmpZ (a b : Int) : Int := if a < b then -1 else if a > b then 1 else 0
theorem cmpZ_lt (a b : Int) : (cmpZ a b < 0) = (a < b) := by
  unfold cmpZ
  split
  · simp; assumption
  · split <;> simp <;> omega
theorem isNaN_any (a : Int) (w : World) : Calls Tryz.prog 120 #[.int .i64 a] w fun e w' => e = .returned (.bool false) ∧ w' = w := by
  go_enter Tryz.func120, Tryz.ntmps120
  go_wp2_with fail
  go_ret
  exact ⟨rfl, rfl⟩
set_option maxHeartbeats 1000000 in
theorem cmpInt_any (a b : Int) (w : World) :
    Calls Tryz.prog 94 #[.int .i64 a, .int .i64 b] w fun e w' => e = .returned (.int .i64 (cmpZ a b)) ∧ w' = w := by
  have HN := Lib.hid (fun (a : Int) W => isNaN_any a W)
  by_cases h1 : a < b
  · have HV := Lib.hid (show cmpZ a b = -1 by unfold cmpZ; rw [if_pos h1])
    have hd : decide (a < b) = true := decide_eq_true h1
    go_enter Tryz.func94, Tryz.ntmps94
    go_wp2_with fail
    refine (HN.out _ _).mono ?_
    rintro e w1 ⟨rfl, rfl⟩
    go_wp2_with fail
    refine (HN.out _ _).mono ?_
    rintro e w1 ⟨rfl, rfl⟩
    go_wp2_with fail
    go_ret
    exact ⟨by rw [HV.out]; rfl, rfl⟩
  · have hd : decide (a < b) = false := decide_eq_false h1
    by_cases h2 : b < a
    · have HV := Lib.hid (show cmpZ a b = 1 by unfold cmpZ; rw [if_neg h1, if_pos h2])
      have he : decide (b < a) = true := decide_eq_true h2
      go_enter Tryz.func94, Tryz.ntmps94
      go_wp2_with fail
      refine (HN.out _ _).mono ?_
      rintro e w1 ⟨rfl, rfl⟩
      go_wp2_with fail
      refine (HN.out _ _).mono ?_
      rintro e w1 ⟨rfl, rfl⟩
      go_wp2_with fail
      go_ret
      exact ⟨by rw [HV.out]; rfl, rfl⟩
    · have HV := Lib.hid (show cmpZ a b = 0 by unfold cmpZ; rw [if_neg h1, if_neg h2])
      have he : decide (b < a) = false := decide_eq_false h2
      go_enter Tryz.func94, Tryz.ntmps94
      go_wp2_with fail
      refine (HN.out _ _).mono ?_
      rintro e w1 ⟨rfl, rfl⟩
      go_wp2_with fail
      refine (HN.out _ _).mono ?_
      rintro e w1 ⟨rfl, rfl⟩
      go_wp2_with fail
      go_ret
      exact ⟨by rw [HV.out]; rfl, rfl⟩
end Go.Proofs.YtfbkkhfmboaknaaGreatDoor
