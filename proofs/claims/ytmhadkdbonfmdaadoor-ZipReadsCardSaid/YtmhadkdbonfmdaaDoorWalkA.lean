import Derived.Test.YtmhadkdbonfmdaaDoorRows
import Derived.Test.YtmhadkdbonfmdaaDoorMath
import Derived.Test.YtmhadkdbonfmdaaDoorBase
import Derived.WalkKit
import Derived.WalkSpells
import Derived.WalkLawsBesides
import Derived.Lib.Hide
import Derived.Lib.LaidTab
namespace Go.Proofs.YtmhadkdbonfmdaaDoor
open Go.RowKit

/-- The table of the program lies in the world. -/
def Fours (w : World) : Prop := ∀ i, i < 16 → w.cell? ⟨0, i, none⟩ = some (.int .i64 (tab.getD i 0 : Nat))

/-- What the rows' list gives. -/
theorem fours_of {W : World} (h : laidMetH Tryd.prog [("meridian/crc.fours", Rows.laid_meridian_crc_fours)] W) : Fours W := fun i hi => by
  have ht : Lib.TabIs Tryd.prog W "meridian/crc.fours" .i64 tabI := Lib.tabIs_of_head (rest := []) (g := 0) (by kernel_rfl) (by kernel_rfl) Tryd.underlying97 Tryd.underlying3 (by kernel_rfl) (by kernel_rfl) h
  have hc := ht.cell (g := 0) (by kernel_rfl) i (by simpa [tabI, tab] using hi)
  rw [hc]
  congr 2
  simp only [tabI, List.getD_eq_getElem?_getD, List.getElem?_map]
  cases tab[i]? <;> rfl
theorem Fours.pos {w : World} (h : Fours w) : 0 < w.heap.size := World.block_lt_of_cell? w ⟨0, 0, none⟩ (h 0 (by omega))
theorem Fours.below {w w' : World} (h : Fours w) (hb : Below w.heap.size w w') : Fours w' := fun i hi => (hb.cell (p := ⟨0, i, none⟩) h.pos).trans (h i hi)
theorem Fours.drew {w : World} (h : Fours w) : Fours w.drew := h
theorem Fours.alloc {w : World} (h : Fours w) (o : Obj) : Fours (w.alloc o) := h.below ((Below.refl _ _).alloc (Nat.le_refl _) _)

set_option maxHeartbeats 400000 in
theorem step_any (c : Nat) (hc : c < 4294967296) (w : World) (hF : Fours w) :
    Calls Tryd.prog 62 #[.int .i64 c] w fun e w' => e = .returned (.int .i64 (step4 c : Nat)) ∧ w = w' := by
  have h1 : bits .and .i64 (c : Int) 15 = ((c &&& 15 : Nat) : Int) := i64_and_nat c 15 (by omega) (by omega)
  have h2 : c &&& 15 < 16 := Nat.and_lt_two_pow (n := 4) _ (by omega)
  have h3 := hF _ h2
  have H4 := Lib.hid (tab_lt (c &&& 15))
  go_enter Tryd.func62, Tryd.ntmps62
  go_wp2
  go_ret
  refine ⟨ret_int ?_, rfl⟩
  have h4 := H4.out
  have e : ((c : Int) / 16) = ((c / 16 : Nat) : Int) := by omega
  rw [show (tab[c &&& 15]?.getD 0) = tab.getD (c &&& 15) 0 from (List.getD_eq_getElem?_getD ..).symm]
  rw [e, i64_xor_nat _ _ (by omega) (by omega)]
  simp [step4, Nat.shiftRight_eq_div_pow]

set_option maxHeartbeats 400000 in
theorem put_any (c x : Nat) (hc : c < 4294967296) (hx : x < 256) (w : World) (hF : Fours w) :
    Calls Tryd.prog 40 #[.int .i64 c, .int .u8 x] w fun e w' => e = .returned (.int .i64 (put8 c x : Nat)) ∧ w = w' := by
  have h1 : bits .xor .i64 (c : Int) (x : Int) = ((c ^^^ x : Nat) : Int) := i64_xor_nat c x (by omega) (by omega)
  have h2 : c ^^^ x < 4294967296 := Nat.xor_lt_two_pow (n := 32) (by omega) (by omega)
  have H3 := Lib.hid (step4_lt (c ^^^ x) h2)
  go_enter Tryd.func40, Tryd.ntmps40
  go_wp2_with fail
  refine (step_any _ h2 _ hF).mono ?_
  rintro e w' ⟨rfl, rfl⟩
  go_wp2_with fail
  refine (step_any _ H3.out _ hF).mono ?_
  rintro e w' ⟨rfl, rfl⟩
  go_wp2
  go_ret
  exact ⟨rfl, rfl⟩
end Go.Proofs.YtmhadkdbonfmdaaDoor
