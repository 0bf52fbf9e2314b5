/-
  Layer 13's At at a zone of one era without rules: what is wrong; and the chapter's example.
-/
import Derived.Test.YtfbkkhfmboaknaaGreatDoorAShow
namespace Go.Proofs.YtfbkkhfmboaknaaGreatDoor
open Go Go.RowKit Go.Shelf
set_option maxRecDepth 100000

def badL (e : Int) : Value := .tuple #[.agg #[.int .i64 0, .bool false, .string ⟨#[]⟩], .int .i64 e]
set_option maxHeartbeats 1000000 in
theorem at_bad (nm : ByteArray) (b : Nat) (g : Fn) (ts cs : Array Value) (e : EraN) (f : ByteArray) (i : Int) (w : World) (hs : f.size < 4294967281) (hm : Tryz.MaxL w) (he : OneE w b e f) (h0 : errP e f.data.toList ≠ 0) :
    Calls Tryz.prog 16 #[oneZ nm b, .func g ts cs, .int .i64 i] w fun o w' => o = .returned (badL (errP e f.data.toList)) ∧ Below w.heap.size w w' := by
  have hb0 : Below w.heap.size w ((w.alloc (.cells #[.string nm, .slice (some ⟨b, 0, none⟩) 1 1] 24)).alloc (.cells #[.int .i64 0, .bool false, .string ⟨#[]⟩] 41)) := ((Below.refl w.heap.size w).alloc (Nat.le_refl _) _).alloc (by simp) _
  have hr0 := Blk.new (w.alloc (.cells #[.string nm, .slice (some ⟨b, 0, none⟩) 1 1] 24)) 41 #[.int .i64 0, .bool false, .string ⟨#[]⟩]
  rw [World.size_alloc] at hr0
  have HC := Lib.hid (ends_one nm b g ts cs e f _ hs (hm.below hb0 (Nat.le_refl _)) (Blk.below he hb0 (Blk.lt he)))
  have hne : (errP e f.data.toList != 0) = true := by simpa using h0
  unfold oneZ badL at *
  clear hm he h0
  generalize errP e f.data.toList = q at *
  go_enter Tryz.func16, Tryz.ntmps16
  go_wp2_with fail
  refine HC.out.mono ?_
  rintro o w1 ⟨rfl, hb⟩
  have HR := Lib.hid (hr0.below hb hr0.lt)
  have HB := Lib.hid (hb0.trans (hb.mono hb0.size))
  clear hb hb0 hr0 HC
  have r0 := HR.out.cell 0 (v := .int .i64 0) rfl
  have r1 := HR.out.cell 1 (v := .bool false) rfl
  have r2 := HR.out.cell 2 (v := .string ⟨#[]⟩) rfl
  have f0 := HR.out.frozen 0
  have f1 := HR.out.frozen 1
  have f2 := HR.out.frozen 2
  go_wp2_with fail
  have HX := Lib.hid (((HR.out.set 0 (.int .i64 0)).set 1 (.bool false)).set 2 (.string ⟨#[]⟩))
  have c0 := HX.out.cell 0 (v := .int .i64 0) rfl
  have c1 := HX.out.cell 1 (v := .bool false) rfl
  have c2 := HX.out.cell 2 (v := .string ⟨#[]⟩) rfl
  refine bodyPost_ret (v := .tuple #[.agg #[.int .i64 0, .bool false, .string ⟨#[]⟩], .int .i64 q]) ?_ rfl ⟨rfl, below_set3 HB.out (by omega) _ _ _⟩
  simp [results, Tryz.f16, go_sem, c0, c1, c2]
set_option maxHeartbeats 1000000 in
theorem at_far (nm : ByteArray) (b : Nat) (g : Fn) (ts cs : Array Value) (e : EraN) (f : ByteArray) (i : Int) (w : World) (hs : f.size < 4294967281) (hm : Tryz.MaxL w) (he : OneE w b e f) (h0 : errP e f.data.toList = 0) (hi : i < -2199023255552 ∨ 2199023255552 < i) :
    Calls Tryz.prog 16 #[oneZ nm b, .func g ts cs, .int .i64 i] w fun o w' => o = .returned (badL 10) ∧ Below w.heap.size w w' := by
  have hb0 : Below w.heap.size w ((w.alloc (.cells #[.string nm, .slice (some ⟨b, 0, none⟩) 1 1] 24)).alloc (.cells #[.int .i64 0, .bool false, .string ⟨#[]⟩] 41)) := ((Below.refl w.heap.size w).alloc (Nat.le_refl _) _).alloc (by simp) _
  have hr0 := Blk.new (w.alloc (.cells #[.string nm, .slice (some ⟨b, 0, none⟩) 1 1] 24)) 41 #[.int .i64 0, .bool false, .string ⟨#[]⟩]
  rw [World.size_alloc] at hr0
  have HC := Lib.hid (ends_one nm b g ts cs e f _ hs (hm.below hb0 (Nat.le_refl _)) (Blk.below he hb0 (Blk.lt he)))
  rw [h0] at HC
  have HI := Lib.hid hi
  unfold oneZ badL at *
  clear hm he h0 hi
  go_enter Tryz.func16, Tryz.ntmps16
  go_wp2_with fail
  refine HC.out.mono ?_
  rintro o w1 ⟨rfl, hb⟩
  have HR := Lib.hid (hr0.below hb hr0.lt)
  have HB := Lib.hid (hb0.trans (hb.mono hb0.size))
  clear hb hb0 hr0 HC
  have r0 := HR.out.cell 0 (v := .int .i64 0) rfl
  have r1 := HR.out.cell 1 (v := .bool false) rfl
  have r2 := HR.out.cell 2 (v := .string ⟨#[]⟩) rfl
  have f0 := HR.out.frozen 0
  have f1 := HR.out.frozen 1
  have f2 := HR.out.frozen 2
  have HX := Lib.hid (((HR.out.set 0 (.int .i64 0)).set 1 (.bool false)).set 2 (.string ⟨#[]⟩))
  by_cases h1 : i < -2199023255552
  · have d1 : decide (i < -2199023255552) = true := decide_eq_true h1
    go_wp2_with fail
    have c0 := HX.out.cell 0 (v := .int .i64 0) rfl
    have c1 := HX.out.cell 1 (v := .bool false) rfl
    have c2 := HX.out.cell 2 (v := .string ⟨#[]⟩) rfl
    refine bodyPost_ret (v := .tuple #[.agg #[.int .i64 0, .bool false, .string ⟨#[]⟩], .int .i64 10]) ?_ rfl ⟨rfl, below_set3 HB.out (by omega) _ _ _⟩
    simp [results, Tryz.f16, go_sem, c0, c1, c2]
  · have d1 : decide (i < -2199023255552) = false := decide_eq_false h1
    have d2 : decide (2199023255552 < i) = true := decide_eq_true (by have := HI.out; omega)
    go_wp2_with fail
    have c0 := HX.out.cell 0 (v := .int .i64 0) rfl
    have c1 := HX.out.cell 1 (v := .bool false) rfl
    have c2 := HX.out.cell 2 (v := .string ⟨#[]⟩) rfl
    refine bodyPost_ret (v := .tuple #[.agg #[.int .i64 0, .bool false, .string ⟨#[]⟩], .int .i64 10]) ?_ rfl ⟨rfl, below_set3 HB.out (by omega) _ _ _⟩
    simp [results, Tryz.f16, go_sem, c0, c1, c2]
/-- What At answers at a zone of one era without rules. -/
def atV (e : EraN) (f : ByteArray) (i : Int) : Value :=
  if errP e f.data.toList ≠ 0 then badL (errP e f.data.toList)
  else if -2199023255552 ≤ i ∧ i ≤ 2199023255552 then withinR (e.off + e.save) (dstB e.save) (showV f (e.off + e.save) (dstB e.save) ⟨#[]⟩).1 (showV f (e.off + e.save) (dstB e.save) ⟨#[]⟩).2
  else badL 10
theorem at_all (nm : ByteArray) (b : Nat) (g : Fn) (ts cs : Array Value) (e : EraN) (f : ByteArray) (i : Int) (w : World) (hs : f.size < 4294967281) (hm : Tryz.MaxL w) (he : OneE w b e f) :
    Calls Tryz.prog 16 #[oneZ nm b, .func g ts cs, .int .i64 i] w fun o w' => o = .returned (atV e f i) ∧ Below w.heap.size w w' := by
  unfold atV
  by_cases h0 : errP e f.data.toList = 0
  · rw [if_neg (by simpa using h0)]
    by_cases hi : -2199023255552 ≤ i ∧ i ≤ 2199023255552
    · rw [if_pos hi]
      exact at_one nm b g ts cs e f i w hs hm he hi.1 hi.2 h0 _ _ (shows_any f _ _ _ hs (by decide))
    · rw [if_neg hi]
      exact at_far nm b g ts cs e f i w hs hm he h0 (by omega)
  · rw [if_pos h0]
    exact at_bad nm b g ts cs e f i w hs hm he h0
end Go.Proofs.YtfbkkhfmboaknaaGreatDoor
