/-
  Layer 12's Show at a format without marks, walked.
-/
import Derived.Test.YtfbkkhfmboaknaaGreatDoorNKind
namespace Go.Proofs.YtfbkkhfmboaknaaGreatDoor
open Go Go.RowKit Go.Shelf
set_option maxRecDepth 100000

theorem kind_at (f : ByteArray) (hs : f.size < 4294967281) (k e : Int) (h : kindR f.data.toList = (k, e)) (w : World) (hm : Tryz.MaxL w) :
    Calls Tryz.prog 25 #[.string f] w fun o w' => o = .returned (.tuple #[.int .i64 k, .int .i64 e]) ∧ Below w.heap.size w w' :=
  (kind_any f w hs hm).mono fun o w' ⟨h1, h2⟩ => ⟨by rw [h1, h], h2⟩
set_option maxHeartbeats 1000000 in
theorem show_plain (f : ByteArray) (off : Int) (dst : Bool) (letter : ByteArray) (w : World) (hs : f.size < 4294967281) (hm : Tryz.MaxL w) (h : kindR f.data.toList = (0, 0)) :
    Calls Tryz.prog 26 #[.string f, .int .i64 off, .bool dst, .string letter] w fun e w' => e = .returned (.tuple #[.string f, .int .i64 0]) ∧ Below w.heap.size w w' := by
  have HK := fun W => kind_at f hs 0 0 h W
  clear h
  go_enter Tryz.func26, Tryz.ntmps26
  go_wp2_with fail
  refine (HK _ hm).mono ?_
  rintro e w1 ⟨rfl, hb⟩
  go_wp2_with fail
  go_ret2
  exact ⟨rfl, hb⟩
set_option maxHeartbeats 1000000 in
theorem show_err (f : ByteArray) (off : Int) (dst : Bool) (letter : ByteArray) (w : World) (hs : f.size < 4294967281) (hm : Tryz.MaxL w) (k e : Int) (h : kindR f.data.toList = (k, e)) (he : e ≠ 0) :
    Calls Tryz.prog 26 #[.string f, .int .i64 off, .bool dst, .string letter] w fun o w' => o = .returned (.tuple #[.string ⟨#[]⟩, .int .i64 e]) ∧ Below w.heap.size w w' := by
  have HK := fun W => kind_at f hs k e h W
  have he2 : (e != 0) = true := by simpa using he
  clear h
  go_enter Tryz.func26, Tryz.ntmps26
  go_wp2_with fail
  refine (HK _ hm).mono ?_
  rintro e w1 ⟨rfl, hb⟩
  go_wp2_with fail
  go_ret2
  exact ⟨rfl, hb⟩
end Go.Proofs.YtfbkkhfmboaknaaGreatDoor
