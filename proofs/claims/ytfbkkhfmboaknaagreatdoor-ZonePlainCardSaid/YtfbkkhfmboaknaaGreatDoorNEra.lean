/-
  Eras in memory; what an era without rules that does not end shows, walked.
-/
import Derived.Test.YtfbkkhfmboaknaaGreatDoorNShow
import Derived.Test.YtfbkkhfmboaknaaGreatDoorFuncEq
namespace Go.Proofs.YtfbkkhfmboaknaaGreatDoor
open Go Go.RowKit Go.Shelf
set_option maxRecDepth 100000

/-- An era, but for its rules' name, its format, and when it ends. -/
structure EraN where
  off : Int
  save : Int
  year : Int
  month : Int
  dk : Int
  dw : Int
  dn : Int
  sec : Int
  ak : Int
/-- The cells of an era without rules that does not end. -/
def eraP (e : EraN) (f : ByteArray) : List Value := [.int .i64 e.off, .string ⟨#[]⟩, .int .i64 e.save, .string f, .bool false, .int .i64 e.year, .int .i64 e.month, .int .i64 e.dk, .int .i64 e.dw, .int .i64 e.dn, .int .i64 e.sec, .int .i64 e.ak]
def eraPA (e : EraN) (f : ByteArray) : Value := .agg (eraP e f).toArray
def withinB (n : Int) : Bool := decide (-90000 < n) && decide (n < 90000)
/-- What is wrong with it, as the last one. -/
def errP (e : EraN) (f : List UInt8) : Int := if (kindR f).2 = 0 then (if withinB e.off && withinB e.save then 0 else 10) else (kindR f).2
theorem kindR_cases (f : List UInt8) : (kindR f).2 = 0 ∨ kindR f = (0, 12) := by
  unfold kindR
  split
  · exact .inr rfl
  · exact .inl rfl
theorem errP_off {e : EraN} {f : List UInt8} (h : (kindR f).2 = 0) (g : withinB e.off = false) : errP e f = 10 := by unfold errP; rw [if_pos h, g]; rfl
theorem errP_save {e : EraN} {f : List UInt8} (h : (kindR f).2 = 0) (g : withinB e.save = false) : errP e f = 10 := by unfold errP; rw [if_pos h, g, Bool.and_false]; rfl
theorem errP_ok {e : EraN} {f : List UInt8} (h : (kindR f).2 = 0) (g1 : withinB e.off = true) (g2 : withinB e.save = true) : errP e f = 0 := by unfold errP; rw [if_pos h, g1, g2]; rfl
theorem errP_form {e : EraN} {f : List UInt8} (h : kindR f = (0, 12)) : errP e f = 12 := by unfold errP; rw [h]; rfl
theorem errP_cases (e : EraN) (f : List UInt8) : errP e f = 0 ∨ errP e f = 10 ∨ errP e f = 12 := by
  rcases kindR_cases f with h | h
  · cases g1 : withinB e.off
    · exact .inr (.inl (errP_off h g1))
    · cases g2 : withinB e.save
      · exact .inr (.inl (errP_save h g2))
      · exact .inl (errP_ok h g1 g2)
  · exact .inr (.inr (errP_form h))
theorem errP_zero {e : EraN} {f : List UInt8} (h : errP e f = 0) : (kindR f).2 = 0 ∧ withinB e.off = true ∧ withinB e.save = true := by
  rcases kindR_cases f with h0 | h0
  · cases g1 : withinB e.off
    · rw [errP_off h0 g1] at h; cases h
    · cases g2 : withinB e.save
      · rw [errP_save h0 g2] at h; cases h
      · exact ⟨h0, rfl, rfl⟩
  · rw [errP_form h0] at h; cases h
theorem within_any (n : Int) (w : World) : Calls Tryz.prog 54 #[.int .i64 n] w fun o w' => o = .returned (.bool (withinB n)) ∧ w = w' := by
  unfold withinB
  by_cases h : -90000 < n
  · have h2 : decide (-90000 < n) = true := by simpa using h
    rw [h2]
    clear h2
    go_enter Tryz.func54, Tryz.ntmps54
    go_wp2_with fail
    go_ret
    exact ⟨by simp, rfl⟩
  · have h2 : decide (-90000 < n) = false := by simpa using h
    rw [h2]
    go_enter Tryz.func54, Tryz.ntmps54
    go_wp2_with fail
    go_ret
    exact ⟨rfl, rfl⟩
theorem within_at (n : Int) (b : Bool) (h : withinB n = b) (w : World) : Calls Tryz.prog 54 #[.int .i64 n] w fun o w' => o = .returned (.bool b) ∧ w = w' := by
  subst h; exact within_any n w
set_option maxHeartbeats 1000000 in
theorem saves_plain (e : EraN) (f : ByteArray) (l : Value) (i : Int) (w : World) :
    Calls Tryz.prog 38 #[eraPA e f, l, .int .i64 i] w fun o w' => o = .returned (.tuple #[.int .i64 e.save, .string ⟨#[]⟩]) ∧ Below w.heap.size w w' := by
  unfold eraPA eraP
  go_enter Tryz.func38, Tryz.ntmps38
  go_wp2_with fail
  go_ret2
  exact ⟨rfl, (Below.refl _ _).alloc (Nat.le_refl _) _⟩
theorem of_plain (sv : Value) (e : EraN) (f : ByteArray) (w : World) :
    Calls Tryz.prog 33 #[sv, eraPA e f] w fun o w' => o = .returned (.slice none 0 0) ∧ Below w.heap.size w w' := by
  unfold eraPA eraP
  go_enter Tryz.func33, Tryz.ntmps33
  go_wp2_with fail
  go_ret
  exact ⟨rfl, (Below.refl _ _).alloc (Nat.le_refl _) _⟩
set_option maxHeartbeats 1000000 in
theorem check_plain (e : EraN) (f : ByteArray) (w : World) (hs : f.size < 4294967281) (hm : Tryz.MaxL w) :
    Calls Tryz.prog 32 #[eraPA e f, .bool true] w fun o w' => o = .returned (.int .i64 (errP e f.data.toList)) ∧ Below w.heap.size w w' := by
  unfold eraPA eraP
  have hb0 := (Below.refl w.heap.size w).alloc (Nat.le_refl _) (.cells #[.int .i64 e.off, .string ⟨#[]⟩, .int .i64 e.save, .string f, .bool false, .int .i64 e.year, .int .i64 e.month, .int .i64 e.dk, .int .i64 e.dw, .int .i64 e.dn, .int .i64 e.sec, .int .i64 e.ak] 54)
  have hblk := Blk.new w 54 #[.int .i64 e.off, .string ⟨#[]⟩, .int .i64 e.save, .string f, .bool false, .int .i64 e.year, .int .i64 e.month, .int .i64 e.dk, .int .i64 e.dw, .int .i64 e.dn, .int .i64 e.sec, .int .i64 e.ak]
  rcases kindR_cases f.data.toList with h | h
  · have HK := fun W => kind_at f hs _ _ (show kindR f.data.toList = ((kindR f.data.toList).1, 0) by rw [← h]) W
    have H0 := Lib.hid h
    clear h
    generalize (kindR f.data.toList).1 = k at HK
    go_enter Tryz.func32, Tryz.ntmps32
    go_wp2_with fail
    refine (HK _ (hm.below hb0 (Nat.le_refl _))).mono ?_
    rintro o w1 ⟨rfl, hb⟩
    have hbl := hblk.below hb hblk.lt
    have q0 := hbl.cell 0 (v := .int .i64 e.off) rfl
    have q1 := hbl.cell 1 (v := .string ⟨#[]⟩) rfl
    have q2 := hbl.cell 2 (v := .int .i64 e.save) rfl
    have q4 := hbl.cell 4 (v := .bool false) rfl
    have HB := Lib.hid (hb0.trans (hb.mono hb0.size))
    clear hb hb0 hblk hbl hm
    cases g1 : withinB e.off
    · have H1 := within_at e.off _ g1
      go_wp2_with fail
      refine (H1 _).mono ?_
      rintro o w2 ⟨rfl, rfl⟩
      go_wp2_with fail
      go_ret
      exact ⟨by rw [errP_off H0.out g1]; rfl, HB.out⟩
    · have H1 := within_at e.off _ g1
      go_wp2_with fail
      refine (H1 _).mono ?_
      rintro o w2 ⟨rfl, rfl⟩
      cases g2 : withinB e.save
      · have H2 := within_at e.save _ g2
        go_wp2_with fail
        refine (H2 _).mono ?_
        rintro o w2 ⟨rfl, rfl⟩
        go_wp2_with fail
        go_ret
        exact ⟨by rw [errP_save H0.out g2]; rfl, HB.out⟩
      · have H2 := within_at e.save _ g2
        go_wp2_with fail
        refine (H2 _).mono ?_
        rintro o w2 ⟨rfl, rfl⟩
        go_wp2_with fail
        go_ret
        exact ⟨by rw [errP_ok H0.out g1 g2]; rfl, HB.out⟩
  · have HK := fun W => kind_at f hs _ _ h W
    have H0 := Lib.hid h
    clear h
    go_enter Tryz.func32, Tryz.ntmps32
    go_wp2_with fail
    refine (HK _ (hm.below hb0 (Nat.le_refl _))).mono ?_
    rintro o w1 ⟨rfl, hb⟩
    have HB := Lib.hid (hb0.trans (hb.mono hb0.size))
    clear hb hb0 hblk hm
    go_wp2_with fail
    go_ret
    exact ⟨by rw [errP_form H0.out]; rfl, HB.out⟩
/-- A zone of one such era, in memory. -/
def oneZ (nm : ByteArray) (b : Nat) : Value := .agg #[.string nm, .slice (some ⟨b, 0, none⟩) 1 1]
abbrev OneE (W : World) (b : Nat) (e : EraN) (f : ByteArray) : Prop := Blk W b 54 (eraP e f).toArray
theorem OneE.cells {W : World} {b : Nat} {e : EraN} {f : ByteArray} (h : OneE W b e f) : W.cell? ⟨b, 0, none⟩ = some (.int .i64 e.off) ∧ W.cell? ⟨b, 1, none⟩ = some (.string ⟨#[]⟩) ∧ W.cell? ⟨b, 2, none⟩ = some (.int .i64 e.save) ∧ W.cell? ⟨b, 3, none⟩ = some (.string f) ∧
    W.cell? ⟨b, 4, none⟩ = some (.bool false) ∧ W.cell? ⟨b, 5, none⟩ = some (.int .i64 e.year) ∧ W.cell? ⟨b, 6, none⟩ = some (.int .i64 e.month) ∧ W.cell? ⟨b, 7, none⟩ = some (.int .i64 e.dk) ∧ W.cell? ⟨b, 8, none⟩ = some (.int .i64 e.dw) ∧ W.cell? ⟨b, 9, none⟩ = some (.int .i64 e.dn) ∧ W.cell? ⟨b, 10, none⟩ = some (.int .i64 e.sec) ∧ W.cell? ⟨b, 11, none⟩ = some (.int .i64 e.ak) :=
  ⟨Blk.cell h 0 rfl, Blk.cell h 1 rfl, Blk.cell h 2 rfl, Blk.cell h 3 rfl, Blk.cell h 4 rfl, Blk.cell h 5 rfl, Blk.cell h 6 rfl, Blk.cell h 7 rfl, Blk.cell h 8 rfl, Blk.cell h 9 rfl, Blk.cell h 10 rfl, Blk.cell h 11 rfl⟩
set_option maxHeartbeats 2000000 in
theorem checkZ_one (nm : ByteArray) (b : Nat) (g : Fn) (ts cs : Array Value) (e : EraN) (f : ByteArray) (w : World) (hs : f.size < 4294967281) (hm : Tryz.MaxL w) (he : OneE w b e f) :
    Calls Tryz.prog 12 #[oneZ nm b, .func g ts cs] w fun o w' => o = .returned (.int .i64 (errP e f.data.toList)) ∧ Below w.heap.size w w' := by
  unfold oneZ
  have heq := fun (w : World) => run_eql_func_nil w 91 g ts cs Tryz.underlying91
  have hb0 := Blk.new w 24 #[.string nm, .slice (some ⟨b, 0, none⟩) 1 1]
  go_enter Tryz.func12, Tryz.ntmps12
  go_wp2_with fail
  have hbl : b < w.heap.size := Blk.lt he
  obtain ⟨c0, c1, c2, c3, c4, c5, c6, c7, c8, c9, c10, c11⟩ := he.cells
  have hbz : b ≠ w.heap.size := Nat.ne_of_lt hbl
  refine wp_loop_rounds 2 ?_
  rw [rounds_succ]
  go_wp2_with fail
  rw [rounds_succ]
  go_wp2_with fail
  refine wp_loop_rounds 2 ?_
  rw [rounds_succ]
  go_wp2_with fail
  have hbw : Below w.heap.size w (((w.alloc (.cells #[.string nm, .slice (some ⟨b, 0, none⟩) 1 1] 24)).alloc (.cells (eraP e f).toArray 54)).alloc (.cells (eraP e f).toArray 54)) := (((Below.refl _ _).alloc (Nat.le_refl _) _).alloc (by simp) _).alloc (by simp; omega) _
  have HC := Lib.hid (check_plain e f _ hs (hm.below hbw (Nat.le_refl _)))
  unfold eraPA eraP at HC
  unfold eraP at hbw
  refine HC.out.mono ?_
  rintro o w1 ⟨rfl, hb⟩
  clear HC
  have hz := ((hb0.alloc (.cells (eraP e f).toArray 54)).alloc (.cells (eraP e f).toArray 54))
  unfold eraP at hz
  have hz1 := hz.below hb hz.lt
  have z1 := hz1.cell 1 (v := .slice (some ⟨b, 0, none⟩) 1 1) rfl
  have HB := Lib.hid (hbw.trans (hb.mono hbw.size))
  clear hbw hb hz hz1 c0 c1 c2 c3 c4 c5 c6 c7 c8 c9 c10 c11
  rcases errP_cases e f.data.toList with h | h
  · have H0 := Lib.hid h
    rw [h]
    clear h
    go_wp2_with fail
    rw [rounds_succ]
    go_wp2_with fail
    refine wp_loop_rounds 1 ?_
    rw [rounds_succ]
    go_wp2_with fail
    go_ret
    exact ⟨by rw [H0.out]; rfl, HB.out⟩
  · have he2 : (errP e f.data.toList != 0) = true := by rcases h with h | h <;> rw [h] <;> rfl
    clear h
    go_wp2_with fail
    go_ret
    exact ⟨rfl, HB.out⟩
end Go.Proofs.YtfbkkhfmboaknaaGreatDoor
