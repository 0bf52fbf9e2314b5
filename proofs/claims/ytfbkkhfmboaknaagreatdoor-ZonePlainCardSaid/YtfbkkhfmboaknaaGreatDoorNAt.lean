/-
  Layer 13's At at a zone of one era without rules, walked.
-/
import Derived.Test.YtfbkkhfmboaknaaGreatDoorNEra
import Derived.Test.YtfbkkhfmboaknaaGreatDoorEnvS
import Derived.Deep.RegionHeld3
namespace Go.Proofs.YtfbkkhfmboaknaaGreatDoor
open Go Go.RowKit Go.Shelf
set_option maxRecDepth 100000

set_option maxHeartbeats 1000000 in
theorem ends_one (nm : ByteArray) (b : Nat) (g : Fn) (ts cs : Array Value) (e : EraN) (f : ByteArray) (w : World) (hs : f.size < 4294967281) (hm : Tryz.MaxL w) (he : OneE w b e f) :
    Calls Tryz.prog 14 #[oneZ nm b, .func g ts cs] w fun o w' => o = .returned (.tuple #[.slice none 0 0, .int .i64 (errP e f.data.toList)]) ∧ Below w.heap.size w w' := by
  have hb0 := (Below.refl w.heap.size w).alloc (Nat.le_refl _) (.cells #[.string nm, .slice (some ⟨b, 0, none⟩) 1 1] 24)
  have hz0 := Blk.new w 24 #[.string nm, .slice (some ⟨b, 0, none⟩) 1 1]
  have HC := Lib.hid (checkZ_one nm b g ts cs e f _ hs (hm.below hb0 (Nat.le_refl _)) (Blk.below he hb0 (Blk.lt he)))
  unfold oneZ at HC ⊢
  go_enter Tryz.func14, Tryz.ntmps14
  go_wp2_with fail
  refine HC.out.mono ?_
  rintro o w1 ⟨rfl, hb⟩
  have hz1 := hz0.below hb hz0.lt
  have z1 := hz1.cell 1 (v := .slice (some ⟨b, 0, none⟩) 1 1) rfl
  have HB := Lib.hid (hb0.trans (hb.mono hb0.size))
  clear HC hb hb0 hz0 hz1
  rcases errP_cases e f.data.toList with h | h
  · have H0 := Lib.hid h
    rw [h]
    clear h
    go_wp2_with fail
    refine wp_loop_rounds 1 ?_
    rw [rounds_succ]
    go_wp2_with fail
    go_ret2
    exact ⟨by rw [H0.out]; rfl, HB.out⟩
  · have he2 : (errP e f.data.toList != 0) = true := by rcases h with h | h <;> rw [h] <;> rfl
    clear h
    go_wp2_with fail
    go_ret2
    exact ⟨rfl, HB.out⟩
theorem era_none (i : Int) (w : World) : Calls Tryz.prog 19 #[.slice none 0 0, .int .i64 i] w fun o w' => o = .returned (.int .i64 0) ∧ w = w' := by
  go_enter Tryz.func19, Tryz.ntmps19
  go_wp2_with fail
  refine wp_loop_rounds 1 ?_
  rw [rounds_succ]
  go_wp2_with fail
  go_ret
  exact ⟨rfl, rfl⟩
/-- What Show answers, wherever. -/
def Shows (f : ByteArray) (off : Int) (dst : Bool) (letter s : ByteArray) (err : Int) : Prop := ∀ W, Tryz.MaxL W → Calls Tryz.prog 26 #[.string f, .int .i64 off, .bool dst, .string letter] W fun o w' => o = .returned (.tuple #[.string s, .int .i64 err]) ∧ Below W.heap.size W w'
def dstB (n : Int) : Bool := n != 0
/-- What Within answers. -/
def withinR (off : Int) (dst : Bool) (s : ByteArray) (err : Int) : Value := if err = 0 then .tuple #[.agg #[.int .i64 off, .bool dst, .string s], .int .i64 0] else .tuple #[.agg #[.int .i64 0, .bool false, .string ⟨#[]⟩], .int .i64 err]
theorem withinB_iff {n : Int} : withinB n = true ↔ -90000 < n ∧ n < 90000 := by simp [withinB]
set_option maxHeartbeats 1000000 in
theorem within_plain (e : EraN) (f : ByteArray) (l : Value) (i : Int) (w : World) (hm : Tryz.MaxL w) (h1 : withinB e.off = true) (h2 : withinB e.save = true) (s : ByteArray) (err : Int) (hsh : Shows f (e.off + e.save) (dstB e.save) ⟨#[]⟩ s err) :
    Calls Tryz.prog 21 #[eraPA e f, l, .int .i64 i] w fun o w' => o = .returned (withinR (e.off + e.save) (dstB e.save) s err) ∧ Below w.heap.size w w' := by
  obtain ⟨b1, b2⟩ := withinB_iff.1 h1
  obtain ⟨b3, b4⟩ := withinB_iff.1 h2
  clear h1 h2
  have HS := fun W => saves_plain e f l i W
  have HSH := Lib.hid hsh
  clear hsh
  have hb0 : Below w.heap.size w ((w.alloc (.cells (eraP e f).toArray 54)).alloc (.cells #[.int .i64 0, .bool false, .string ⟨#[]⟩] 41)) := ((Below.refl _ _).alloc (Nat.le_refl _) _).alloc (by simp) _
  have he0 := (Blk.new w 54 (eraP e f).toArray).alloc (.cells #[.int .i64 0, .bool false, .string ⟨#[]⟩] 41)
  have hr0 := Blk.new (w.alloc (.cells (eraP e f).toArray 54)) 41 #[.int .i64 0, .bool false, .string ⟨#[]⟩]
  rw [World.size_alloc] at hr0
  unfold eraPA at HS ⊢
  unfold eraP at HS hb0 he0 hr0 ⊢
  have hm0 := hm.below hb0 (Nat.le_refl _)
  go_enter Tryz.func21, Tryz.ntmps21
  go_wp2_with fail
  refine (HS _).mono ?_
  rintro o w1 ⟨rfl, hb⟩
  have hm1 := hm0.below hb (Nat.le_refl _)
  have he1 := he0.below hb he0.lt
  have hr1 := hr0.below hb hr0.lt
  have hb1 := hb0.trans (hb.mono hb0.size)
  have q0 := he1.cell 0 (v := .int .i64 e.off) rfl
  have q3 := he1.cell 3 (v := .string f) rfl
  clear hb hb0 he0 hr0 hm0 HS hm
  unfold dstB at HSH
  have HM := Lib.hid hm1
  have HE := Lib.hid he1
  have HR := Lib.hid hr1
  have HB := Lib.hid hb1
  clear hm1 he1 hr1 hb1
  go_wp2_with fail
  refine (HSH.out _ HM.out).mono ?_
  rintro o w2 ⟨rfl, hb⟩
  have he2 := HE.out.below hb HE.out.lt
  have hr2 := HR.out.below hb HR.out.lt
  have HB2 := Lib.hid (HB.out.trans (hb.mono HB.out.size))
  have q0' := he2.cell 0 (v := .int .i64 e.off) rfl
  have r0 := hr2.cell 0 (v := .int .i64 0) rfl
  have r1 := hr2.cell 1 (v := .bool false) rfl
  have r2 := hr2.cell 2 (v := .string ⟨#[]⟩) rfl
  have rf0 := hr2.frozen 0
  have rf1 := hr2.frozen 1
  have rf2 := hr2.frozen 2
  have HR2 := Lib.hid hr2
  clear hb he2 hr2 q0 q3 HM HE HR HB HSH
  by_cases h0 : err = 0
  · subst h0
    go_wp2_with fail
    refine bodyPost_ret (v := .tuple #[.agg #[.int .i64 (e.off + e.save), .bool (e.save != 0), .string s], .int .i64 0]) ?_ rfl ⟨rfl, ((HB2.out.setCell (Nat.le_add_right _ _) _).setCell (Nat.le_add_right _ _) _).setCell (Nat.le_add_right _ _) _⟩
    have HW := ((HR2.out.set 0 (.int .i64 (e.off + e.save))).set 1 (.bool (e.save != 0))).set 2 (.string s)
    have c0 := HW.cell 0 (v := .int .i64 (e.off + e.save)) rfl
    have c1 := HW.cell 1 (v := .bool (e.save != 0)) rfl
    have c2 := HW.cell 2 (v := .string s) rfl
    simp [results, Tryz.f21, go_sem, c0, c1, c2]
  · have h1 : (err != 0) = true := by simpa using h0
    have h2 := Lib.hid h0
    clear h0
    go_wp2_with fail
    refine bodyPost_ret (v := .tuple #[.agg #[.int .i64 (0), .bool (false), .string ⟨#[]⟩], .int .i64 err]) ?_ rfl ⟨by unfold withinR; rw [if_neg h2.out], ((HB2.out.setCell (Nat.le_add_right _ _) _).setCell (Nat.le_add_right _ _) _).setCell (Nat.le_add_right _ _) _⟩
    have HW := ((HR2.out.set 0 (.int .i64 (0))).set 1 (.bool (false))).set 2 (.string ⟨#[]⟩)
    have c0 := HW.cell 0 (v := .int .i64 (0)) rfl
    have c1 := HW.cell 1 (v := .bool (false)) rfl
    have c2 := HW.cell 2 (v := .string ⟨#[]⟩) rfl
    simp [results, Tryz.f21, go_sem, c0, c1, c2]

set_option maxHeartbeats 1000000 in
theorem at_one (nm : ByteArray) (b : Nat) (g : Fn) (ts cs : Array Value) (e : EraN) (f : ByteArray) (i : Int) (w : World) (hs : f.size < 4294967281) (hm : Tryz.MaxL w) (he : OneE w b e f) (h1 : -2199023255552 ≤ i) (h2 : i ≤ 2199023255552) (h0 : errP e f.data.toList = 0) (s : ByteArray) (err : Int) (hsh : Shows f (e.off + e.save) (dstB e.save) ⟨#[]⟩ s err) :
    Calls Tryz.prog 16 #[oneZ nm b, .func g ts cs, .int .i64 i] w fun o w' => o = .returned (withinR (e.off + e.save) (dstB e.save) s err) ∧ Below w.heap.size w w' := by
  obtain ⟨-, g1, g2⟩ := errP_zero h0
  have hb0 : Below w.heap.size w ((w.alloc (.cells #[.string nm, .slice (some ⟨b, 0, none⟩) 1 1] 24)).alloc (.cells #[.int .i64 0, .bool false, .string ⟨#[]⟩] 41)) := ((Below.refl _ _).alloc (Nat.le_refl _) _).alloc (by simp) _
  have hz0 := (Blk.new w 24 #[.string nm, .slice (some ⟨b, 0, none⟩) 1 1]).alloc (.cells #[.int .i64 0, .bool false, .string ⟨#[]⟩] 41)
  have hr0 := Blk.new (w.alloc (.cells #[.string nm, .slice (some ⟨b, 0, none⟩) 1 1] 24)) 41 #[.int .i64 0, .bool false, .string ⟨#[]⟩]
  rw [World.size_alloc] at hr0
  have hm0s := hm
  have hm0 := hm.below hb0 (Nat.le_refl _)
  have he0 : OneE _ b e f := Blk.below he hb0 (Blk.lt he)
  have HC := Lib.hid (ends_one nm b g ts cs e f _ hs hm0 he0)
  rw [h0] at HC
  have hbl := Blk.lt he
  unfold oneZ at HC ⊢
  clear h0
  go_enter Tryz.func16, Tryz.ntmps16
  go_wp2_with fail
  refine HC.out.mono ?_
  rintro o w1 ⟨rfl, hb⟩
  have hm1 := hm0.below hb (Nat.le_refl _)
  have hz1 := hz0.below hb hz0.lt
  have hr1 := hr0.below hb hr0.lt
  have hb1 := hb0.trans (hb.mono hb0.size)
  have he1 : OneE _ b e f := Blk.below he0 hb (Blk.lt he0)
  have z1 := hz1.cell 1 (v := .slice (some ⟨b, 0, none⟩) 1 1) rfl
  obtain ⟨c0, c1, c2, c3, c4, c5, c6, c7, c8, c9, c10, c11⟩ := he1.cells
  clear hb hb0 he0 hr0 hm0 hm hz0 hz1 he HC
  have HM := Lib.hid hm1
  have HR := Lib.hid hr1
  have HB := Lib.hid hb1
  clear hm1 he1 hr1 hb1
  go_wp2_with fail
  have HM0 := Lib.hid hm0s
  have hbl1 : b < w1.heap.size := Nat.lt_of_lt_of_le hbl HB.out.size
  have hzl1 : w.heap.size < w1.heap.size := by have := HR.out.lt; omega
  have hzl2 : w.heap.size + 1 < w1.heap.size := HR.out.lt
  go_region_held3 (fun w' => w'.cell? ⟨w.heap.size, 1, none⟩ = some (.slice (some ⟨b, 0, none⟩) 1 1) ∧ w'.cell? ⟨b, 0, none⟩ = some (.int .i64 e.off) ∧ w'.cell? ⟨b, 1, none⟩ = some (.string ⟨#[]⟩) ∧ w'.cell? ⟨b, 2, none⟩ = some (.int .i64 e.save) ∧ w'.cell? ⟨b, 3, none⟩ = some (.string f) ∧ w'.cell? ⟨b, 4, none⟩ = some (.bool false) ∧ w'.cell? ⟨b, 5, none⟩ = some (.int .i64 e.year) ∧ w'.cell? ⟨b, 6, none⟩ = some (.int .i64 e.month) ∧ w'.cell? ⟨b, 7, none⟩ = some (.int .i64 e.dk) ∧ w'.cell? ⟨b, 8, none⟩ = some (.int .i64 e.dw) ∧ w'.cell? ⟨b, 9, none⟩ = some (.int .i64 e.dn) ∧ w'.cell? ⟨b, 10, none⟩ = some (.int .i64 e.sec) ∧ w'.cell? ⟨b, 11, none⟩ = some (.int .i64 e.ak)) (first | exact ⟨z1, c0, c1, c2, c3, c4, c5, c6, c7, c8, c9, c10, c11⟩ | go_keep)
    (first | (go_at_call 19; refine (era_none _ _).mono ?_; rintro o w' ⟨rfl, rfl⟩))
  all_goals
    rename_i K0 hK0 hh
    clear hh
    refine hK0 _ _ ?_
    clear hK0
    go_wp2_with fail
    have hb6 : Below w.heap.size w (w1.alloc (.cells #[.int .i64 e.off, .string ⟨#[]⟩, .int .i64 e.save, .string f, .bool false, .int .i64 e.year, .int .i64 e.month, .int .i64 e.dk, .int .i64 e.dw, .int .i64 e.dn, .int .i64 e.sec, .int .i64 e.ak] 54)).drew := (HB.out.alloc HB.out.size _).drew
    have he6 : OneE (w1.alloc (.cells #[.int .i64 e.off, .string ⟨#[]⟩, .int .i64 e.save, .string f, .bool false, .int .i64 e.year, .int .i64 e.month, .int .i64 e.dk, .int .i64 e.dw, .int .i64 e.dn, .int .i64 e.sec, .int .i64 e.ak] 54)).drew w1.heap.size e f := Blk.new w1 54 (eraP e f).toArray
    have hr6 : Blk (w1.alloc (.cells #[.int .i64 e.off, .string ⟨#[]⟩, .int .i64 e.save, .string f, .bool false, .int .i64 e.year, .int .i64 e.month, .int .i64 e.dk, .int .i64 e.dw, .int .i64 e.dn, .int .i64 e.sec, .int .i64 e.ak] 54)).drew (w.heap.size + 1) 41 #[.int .i64 0, .bool false, .string ⟨#[]⟩] := HR.out.alloc _
    obtain ⟨W6, hW6⟩ : ∃ W, (w1.alloc (.cells #[.int .i64 e.off, .string ⟨#[]⟩, .int .i64 e.save, .string f, .bool false, .int .i64 e.year, .int .i64 e.month, .int .i64 e.dk, .int .i64 e.dw, .int .i64 e.dn, .int .i64 e.sec, .int .i64 e.ak] 54)).drew = W := ⟨_, rfl⟩
    rw [hW6] at hb6 he6 hr6 ⊢
    clear hW6 c0 c1 c2 c3 c4 c5 c6 c7 c8 c9 c10 c11 z1 HM HR HB
    have HB6 := Lib.hid hb6
    have HE6 := Lib.hid he6
    have HR6 := Lib.hid hr6
    clear hb6 he6 hr6
    by_cases h0 : err = 0
    · have OF := fun W => of_plain (.func g ts cs) e f W
      have WI := fun W hm => within_plain e f (.slice none 0 0) i W hm g1 g2 s err hsh
      unfold withinR at WI
      simp only [if_pos h0] at WI
      unfold eraPA eraP dstB at WI
      unfold eraPA eraP at OF
      refine wp_envS (fin := ?fnA) (by kernel_rfl) [35, 36, 37, 38, 39, 40, 41, 42, 99, 7]
        [.agg #[.int .i64 e.off, .string ⟨#[]⟩, .int .i64 e.save, .string f, .bool false, .int .i64 e.year, .int .i64 e.month, .int .i64 e.dk, .int .i64 e.dw, .int .i64 e.dn, .int .i64 e.sec, .int .i64 e.ak], .func g ts cs, .agg #[.int .i64 e.off, .string ⟨#[]⟩, .int .i64 e.save, .string f, .bool false, .int .i64 e.year, .int .i64 e.month, .int .i64 e.dk, .int .i64 e.dw, .int .i64 e.dn, .int .i64 e.sec, .int .i64 e.ak], .slice none 0 0, .int .i64 i, .tuple #[.agg #[.int .i64 (e.off + e.save), .bool (e.save != 0), .string s], .int .i64 0], .agg #[.int .i64 (e.off + e.save), .bool (e.save != 0), .string s], .int .i64 0, undef, .int .i64 0] 8 (fun k => k = w.heap.size + 1) (fun W => Blk W (w.heap.size + 1) 41 #[.int .i64 (e.off + e.save), .bool (e.save != 0), .string s]) (fun W W' h hb => Blk.below h hb (Blk.lt h)) (by kernel_rfl) (by decide) (by simp) ?finA ?stepsA ?nextA
      case finA =>
        simp only [putAll, Act.put, List.setIfInBounds_toArray, List.set_cons_succ, List.set_cons_zero, List.set_nil]
        try rfl
      case stepsA =>
        refine ⟨?_, ?_, ?_, ?_, ?_, ?_, ?_, ?_, ?_, ?_, trivial⟩
        all_goals
          refine .inr ⟨by kernel_rfl, fun w1_ hB_ hF_ => ?_⟩
          have he7 : OneE w1_ w1.heap.size e f := Blk.fr HE6.out hF_ (by omega)
          have hb7 := HB6.out.trans (hF_.below HB6.out.size (fun k hk => by omega))
          have hm7 := HM0.out.below hb7 (Nat.le_refl _)
          obtain ⟨c0, c1, c2, c3, c4, c5, c6, c7, c8, c9, c10, c11⟩ := he7.cells
          first
            | (go_simp; first | exact ⟨rfl, rfl, Below.refl _ _⟩ | exact ⟨rfl, rfl, OF _⟩ | exact ⟨rfl, rfl, WI _ hm7⟩)
            | (have hr7 := HR6.out.below (hB_ rfl) HR6.out.lt; have f0 := hr7.frozen 0; have f1 := hr7.frozen 1; have f2 := hr7.frozen 2; have r0 := hr7.cell 0 (v := .int .i64 0) rfl; have r1 := hr7.cell 1 (v := .bool false) rfl; have r2 := hr7.cell 2 (v := .string ⟨#[]⟩) rfl; go_simp; exact ⟨rfl, rfl, fr_set3 (T := fun k => k = w.heap.size + 1) _ rfl _ _ _, ((hr7.set 0 _).set 1 _).set 2 _⟩)
      case nextA =>
        intro W8 hF8 hR8
        have hb8 := HB6.out.trans (hF8.below HB6.out.size (fun k hk => by omega))
        go_wp2_with fail
        refine bodyPost_ret (v := .tuple #[.agg #[.int .i64 (e.off + e.save), .bool (e.save != 0), .string s], .int .i64 0]) ?_ rfl ⟨by rw [h0]; rfl, hb8⟩
        have c0 := hR8.cell 0 (v := .int .i64 (e.off + e.save)) rfl
        have c1 := hR8.cell 1 (v := .bool (e.save != 0)) rfl
        have c2 := hR8.cell 2 (v := .string s) rfl
        simp [results, Tryz.f16, go_sem, c0, c1, c2]
    · have OF := fun W => of_plain (.func g ts cs) e f W
      have WI := fun W hm => within_plain e f (.slice none 0 0) i W hm g1 g2 s err hsh
      unfold withinR at WI
      simp only [if_neg h0] at WI
      unfold eraPA eraP at WI
      unfold eraPA eraP at OF
      refine wp_envS (fin := ?fnB) (by kernel_rfl) [35, 36, 37, 38, 39, 40, 41, 42, 99, 7]
        [.agg #[.int .i64 e.off, .string ⟨#[]⟩, .int .i64 e.save, .string f, .bool false, .int .i64 e.year, .int .i64 e.month, .int .i64 e.dk, .int .i64 e.dw, .int .i64 e.dn, .int .i64 e.sec, .int .i64 e.ak], .func g ts cs, .agg #[.int .i64 e.off, .string ⟨#[]⟩, .int .i64 e.save, .string f, .bool false, .int .i64 e.year, .int .i64 e.month, .int .i64 e.dk, .int .i64 e.dw, .int .i64 e.dn, .int .i64 e.sec, .int .i64 e.ak], .slice none 0 0, .int .i64 i, .tuple #[.agg #[.int .i64 0, .bool false, .string ⟨#[]⟩], .int .i64 err], .agg #[.int .i64 0, .bool false, .string ⟨#[]⟩], .int .i64 err, undef, .int .i64 err] 8 (fun k => k = w.heap.size + 1) (fun W => Blk W (w.heap.size + 1) 41 #[.int .i64 0, .bool false, .string ⟨#[]⟩]) (fun W W' h hb => Blk.below h hb (Blk.lt h)) (by kernel_rfl) (by decide) (by simp) ?finB ?stepsB ?nextB
      case finB =>
        simp only [putAll, Act.put, List.setIfInBounds_toArray, List.set_cons_succ, List.set_cons_zero, List.set_nil]
        try rfl
      case stepsB =>
        refine ⟨?_, ?_, ?_, ?_, ?_, ?_, ?_, ?_, ?_, ?_, trivial⟩
        all_goals
          refine .inr ⟨by kernel_rfl, fun w1_ hB_ hF_ => ?_⟩
          have he7 : OneE w1_ w1.heap.size e f := Blk.fr HE6.out hF_ (by omega)
          have hb7 := HB6.out.trans (hF_.below HB6.out.size (fun k hk => by omega))
          have hm7 := HM0.out.below hb7 (Nat.le_refl _)
          obtain ⟨c0, c1, c2, c3, c4, c5, c6, c7, c8, c9, c10, c11⟩ := he7.cells
          first
            | (go_simp; first | exact ⟨rfl, rfl, Below.refl _ _⟩ | exact ⟨rfl, rfl, OF _⟩ | exact ⟨rfl, rfl, WI _ hm7⟩)
            | (have hr7 := HR6.out.below (hB_ rfl) HR6.out.lt; have f0 := hr7.frozen 0; have f1 := hr7.frozen 1; have f2 := hr7.frozen 2; have r0 := hr7.cell 0 (v := .int .i64 0) rfl; have r1 := hr7.cell 1 (v := .bool false) rfl; have r2 := hr7.cell 2 (v := .string ⟨#[]⟩) rfl; go_simp; exact ⟨rfl, rfl, fr_set3 (T := fun k => k = w.heap.size + 1) _ rfl _ _ _, ((hr7.set 0 _).set 1 _).set 2 _⟩)
      case nextB =>
        intro W8 hF8 hR8
        have hb8 := HB6.out.trans (hF8.below HB6.out.size (fun k hk => by omega))
        go_wp2_with fail
        refine bodyPost_ret (v := .tuple #[.agg #[.int .i64 (0), .bool (false), .string ⟨#[]⟩], .int .i64 err]) ?_ rfl ⟨by unfold withinR; rw [if_neg h0], hb8⟩
        have c0 := hR8.cell 0 (v := .int .i64 (0)) rfl
        have c1 := hR8.cell 1 (v := .bool (false)) rfl
        have c2 := hR8.cell 2 (v := .string ⟨#[]⟩) rfl
        simp [results, Tryz.f16, go_sem, c0, c1, c2]
end Go.Proofs.YtfbkkhfmboaknaaGreatDoor
