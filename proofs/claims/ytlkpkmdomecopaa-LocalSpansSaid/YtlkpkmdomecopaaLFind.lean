/-
  Layer 20: Find, and Show, walked.
-/
import Derived.RegionTactic
import Derived.BigRegion
import Derived.Test.YtlkpkmdomecopaaLGap
namespace Go.Proofs.Ytlkpkmdomecopaa
open Go Go.RowKit Go.Shelf
set_option maxRecDepth 100000

/-- What Find answers. -/
def found (l : List Chg) (s : Int) (late : Bool) (f : Fnd) : Prop :=
  match allL l s with
  | [] => ∃ k0 j, ∃ h : j < l.length, IsAt l (s - 180000) k0 ∧ k0 < j ∧ skips l s j = true ∧ (∀ i, k0 < i → i < j → skips l s i = false) ∧ f = ⟨3, (l[j]).at_, l[j]⟩
  | [t] => f = ⟨1, t, .zero⟩
  | t :: u :: m => f = ⟨2, if late then (t :: u :: m).getLast (by simp) else t, .zero⟩
def FindEnd (l : List Chg) (s : Int) (late : Bool) (w : World) (e : Ending) (w' : World) : Prop := (∃ f, e = .returned (.tuple #[fndA f, .int .i64 0]) ∧ found l s late f) ∧ Below w.heap.size w w'
theorem allL_nil {l : List Chg} {s : Int} (h : allL l s = []) : ∀ k, k < l.length → shows l s k = false := fun k hk => by
  unfold allL allOf at h
  rw [List.map_eq_nil_iff, List.filter_eq_nil_iff] at h
  have := h k (by rw [List.mem_range'_1]; omega)
  simpa using this
theorem intsV_at (l : List Int) (j : Nat) (h : j < l.length) : (intsV l)[j]? = some (.int .i64 l[j]) := by simp [intsV, h]
set_option maxHeartbeats 4000000 in
theorem find_yes (w : World) (B : Nat) (v : Value) (l : List Chg) (s : Int) (late : Bool) (hv : Chgs w B v l) (hB : B ≤ w.heap.size) (hrow : Row l) (h1 : -2199022895552 < s) (h2 : s < 2199022895552) :
    Calls Try.prog 12 #[clocksV v, .int .i64 s, .bool late] w (FindEnd l s late w) := by
  have HV := Lib.hid hv
  clear hv
  have hr0 := Blk.new w 36 #[.int .i64 0, .int .i64 0, .int .i64 0, .int .i64 0, .bool false, .string ⟨#[]⟩]
  have hb0 : Below w.heap.size w (w.alloc (.cells #[.int .i64 0, .int .i64 0, .int .i64 0, .int .i64 0, .bool false, .string ⟨#[]⟩] 36)) := (Below.refl _ _).alloc (Nat.le_refl _) _
  have HR0 := Lib.hid hr0
  clear hr0
  go_enter Try.func12, Try.ntmps12
  go_wp2_with fail
  obtain ⟨W1, hW1⟩ : ∃ W1, w.alloc (.cells #[.int .i64 0, .int .i64 0, .int .i64 0, .int .i64 0, .bool false, .string ⟨#[]⟩] 36) = W1 := ⟨_, rfl⟩
  have hs1 : w.heap.size + 1 ≤ W1.heap.size := by rw [← hW1]; simp
  rw [hW1] at hb0 HR0 ⊢
  clear hW1
  refine (all_yes W1 B v l s (HV.out.below (hb0.mono hB)) (by omega) hrow h1 h2).mono ?_
  rintro e w2 ⟨⟨u, rfl, hu⟩, hb2⟩
  have hr2 : FndB w2 w.heap.size .zero := HR0.out.below hb2 (by omega)
  have hbel := hb0.trans (hb2.mono hb0.size)
  obtain ⟨A, c, rfl⟩ := Sl.form hu
  have hle := hu.le
  unfold maxLen at hle
  have HU := Lib.hid hu
  have HR2 := Lib.hid hr2
  have hs2 := hb2.size
  have z0 := hr2.frozen 0
  have z1 := hr2.frozen 1
  have z2 := hr2.frozen 2
  have z3 := hr2.frozen 3
  have z4 := hr2.frozen 4
  have z5 := hr2.frozen 5
  obtain ⟨y0, y1, y2, y3, y4, y5⟩ := FndB.cells hr2
  clear hu hr2 HR0
  have hfin : ∀ f, found l s late f → Hid (FindEnd l s late w (.returned (.tuple #[fndA f, .int .i64 0])) (set6 w2 w.heap.size f)) := fun f hf => Lib.hid ⟨⟨f, rfl, hf⟩, hbel.trans ((set6_fr (T := fun k => k = w.heap.size) w2 f rfl).below hbel.size (fun k hk h => by omega))⟩
  have hres : ∀ f, FndB (set6 w2 w.heap.size f) w.heap.size f := fun f => HR2.out.set f
  have HRES := Lib.hid hres
  have HFIN := Lib.hid hfin
  clear hfin hres
  rcases hall : allL l s with _ | ⟨t, _ | ⟨t2, m⟩⟩
  · have HALL := Lib.hid hall
    rw [hall] at HU hle
    clear hall
    obtain ⟨k0, hk0⟩ := hrow.some (show -2199023255552 ≤ s - 180000 by omega)
    have HGAP := Lib.hid (gap_any w2 B v l s (HV.out.below (hbel.mono hB)) (Nat.le_trans hB hbel.size) hrow h1 h2 k0 hk0 (allL_nil HALL.out))
    go_wp2_with fail
    refine HGAP.out.mono ?_
    rintro e w3 ⟨⟨j, hj, h3, h4, h5, rfl⟩, hb3⟩
    have hlt : w.heap.size < w2.heap.size := by omega
    have HF := Lib.hid (show found l s late ⟨3, (l[j]).at_, l[j]⟩ by unfold found; rw [HALL.out]; exact ⟨k0, j, hj, hk0, h3, h4, h5, rfl⟩)
    have hr3 : FndB w3 w.heap.size .zero := HR2.out.below hb3 hlt
    generalize l[j] = c at *
    have HR3 := Lib.hid hr3
    have hbel3 := hbel.trans (hb3.mono hbel.size)
    clear y0 y1 y2 y3 y4 y5 z0 z1 z2 z3 z4 z5
    have z0 := hr3.frozen 0
    have z1 := hr3.frozen 1
    have z2 := hr3.frozen 2
    have z3 := hr3.frozen 3
    have z4 := hr3.frozen 4
    have z5 := hr3.frozen 5
    obtain ⟨y0, y1, y2, y3, y4, y5⟩ := FndB.cells hr3
    clear hr3 h3 h4 h5
    unfold fndA
    go_wp2_with fail
    obtain ⟨e0, e1, e2, e3, e4, e5⟩ := FndB.cells (HR3.out.set ⟨3, c.at_, c⟩)
    unfold set6 at e0 e1 e2 e3 e4 e5
    exact bodyPost_ret (v := .tuple #[fndA ⟨3, c.at_, c⟩, .int .i64 0]) (by simp [results, Try.results12, go_sem, fndA, e0, e1, e2, e3, e4, e5]) rfl ⟨⟨_, rfl, HF.out⟩, hbel3.trans ((set6_fr (T := fun k => k = w.heap.size) w3 ⟨3, c.at_, c⟩ rfl).below hbel3.size (fun k hk h => by omega))⟩
  · have HF := HFIN.out ⟨1, t, .zero⟩ (by unfold found; rw [hall])
    rw [hall] at HU
    clear hall hle
    obtain ⟨b, o, c', e, hb, hc⟩ := Sl.at_ (n := 1) HU.out (by omega)
    cases e
    have hc0 := hc 0 (.int .i64 t) rfl
    clear hc HU
    rw [show [t].length = 1 from rfl]
    rw [Nat.add_zero] at hc0
    go_wp2_with fail
    obtain ⟨e0, e1, e2, e3, e4, e5⟩ := FndB.cells (HRES.out ⟨1, t, .zero⟩)
    simp only [set6, Chg.zero, Loc.zero] at e0 e1 e2 e3 e4 e5
    refine bodyPost_ret (v := .tuple #[fndA ⟨1, t, .zero⟩, .int .i64 0]) ?_ rfl HF.out
    simp [results, Try.results12, go_sem, fndA, Chg.zero, Loc.zero, e0, e1, e2, e3, e4, e5]
  · have HF := fun g (h : g = if late then (t :: t2 :: m).getLast (by simp) else t) => HFIN.out ⟨2, g, .zero⟩ (by unfold found; rw [hall]; rw [h])
    rw [hall] at HU hle
    rw [show (t :: t2 :: m).length = m.length + 2 from rfl] at HU hle ⊢
    obtain ⟨b, o, c', e, hb, hc⟩ := HU.out.at_ (by omega)
    cases e
    have hc0 := hc 0 (.int .i64 t) rfl
    have hc1 := hc (m.length + 1) (.int .i64 ((t :: t2 :: m).getLast (by simp))) (by
      rw [List.getLast_eq_getElem]
      exact intsV_at (t :: t2 :: m) (m.length + 1) (by simp))
    have HF2 := Lib.hid HF
    clear hc hall HU HF
    generalize (t :: t2 :: m).getLast (by simp) = z at *
    rw [Nat.add_zero] at hc0
    have n1 : ((m.length + 2 : Nat) : Int) - 1 = ((m.length + 1 : Nat) : Int) := by omega
    generalize m.length = q at *
    cases late with
    | true =>
      go_wp2_with fail
      obtain ⟨e0, e1, e2, e3, e4, e5⟩ := FndB.cells (HRES.out ⟨2, z, .zero⟩)
      simp only [set6, Chg.zero, Loc.zero] at e0 e1 e2 e3 e4 e5
      refine bodyPost_ret (v := .tuple #[fndA ⟨2, z, .zero⟩, .int .i64 0]) ?_ rfl (HF2.out z (by simp)).out
      simp [results, Try.results12, go_sem, fndA, Chg.zero, Loc.zero, e0, e1, e2, e3, e4, e5]
    | false =>
      go_wp2_with fail
      obtain ⟨e0, e1, e2, e3, e4, e5⟩ := FndB.cells (HRES.out ⟨2, t, .zero⟩)
      simp only [set6, Chg.zero, Loc.zero] at e0 e1 e2 e3 e4 e5
      refine bodyPost_ret (v := .tuple #[fndA ⟨2, t, .zero⟩, .int .i64 0]) ?_ rfl (HF2.out t (by simp)).out
      simp [results, Try.results12, go_sem, fndA, Chg.zero, Loc.zero, e0, e1, e2, e3, e4, e5]

theorem fnd_new (w : World) : FndB (w.alloc (.cells #[.int .i64 0, .int .i64 0, .int .i64 0, .int .i64 0, .bool false, .string ⟨#[]⟩] 36)) w.heap.size .zero ∧ Below w.heap.size w (w.alloc (.cells #[.int .i64 0, .int .i64 0, .int .i64 0, .int .i64 0, .bool false, .string ⟨#[]⟩] 36)) := ⟨Blk.new _ _ _, (Below.refl _ _).alloc (Nat.le_refl _) _⟩
/-- Find, where All tells an error. -/
theorem find_err (w : World) (c : Value) (s : Int) (late : Bool) (er : Int) (her : er = 10 ∨ er = 2) (hall : ∀ W, Calls Try.prog 11 #[c, .int .i64 s] W fun e w' => e = .returned (.tuple #[.slice none 0 0, .int .i64 er]) ∧ Below W.heap.size W w') :
    Calls Try.prog 12 #[c, .int .i64 s, .bool late] w fun e w' => e = .returned (.tuple #[fndA .zero, .int .i64 er]) ∧ Below w.heap.size w w' := by
  have HALL := Lib.hid hall
  clear hall
  obtain ⟨h0, hb0⟩ := fnd_new w
  have HR0 := Lib.hid h0
  clear h0
  have hne : ((er : Int) != 0) = true := by rw [bne_iff_ne]; omega
  go_enter Try.func12, Try.ntmps12
  go_wp2_with fail
  obtain ⟨W1, hW1⟩ : ∃ W1, w.alloc (.cells #[.int .i64 0, .int .i64 0, .int .i64 0, .int .i64 0, .bool false, .string ⟨#[]⟩] 36) = W1 := ⟨_, rfl⟩
  have hs1 : w.heap.size + 1 ≤ W1.heap.size := by rw [← hW1]; simp
  rw [hW1] at hb0 HR0 ⊢
  clear hW1
  refine (HALL.out _).mono ?_
  rintro e w2 ⟨rfl, hb2⟩
  have hr2 : FndB w2 w.heap.size .zero := HR0.out.below hb2 (by omega)
  have hbel := hb0.trans (hb2.mono hb0.size)
  have HR2 := Lib.hid hr2
  have hs2 := hb2.size
  have z0 := hr2.frozen 0
  have z1 := hr2.frozen 1
  have z2 := hr2.frozen 2
  have z3 := hr2.frozen 3
  have z4 := hr2.frozen 4
  have z5 := hr2.frozen 5
  obtain ⟨y0, y1, y2, y3, y4, y5⟩ := FndB.cells hr2
  clear hr2 HR0 HALL
  go_wp2_with fail
  obtain ⟨e0, e1, e2, e3, e4, e5⟩ := FndB.cells (HR2.out.set .zero)
  simp only [set6, Fnd.zero, Chg.zero, Loc.zero] at e0 e1 e2 e3 e4 e5
  refine bodyPost_ret (v := .tuple #[fndA .zero, .int .i64 er]) ?_ rfl ⟨rfl, hbel.trans ((set6_fr (T := fun k => k = w.heap.size) w2 .zero rfl).below hbel.size (fun k hk h => by omega))⟩
  simp [results, Try.results12, go_sem, fndA, Fnd.zero, Chg.zero, Loc.zero, e0, e1, e2, e3, e4, e5]
theorem find_no (w : World) (v : Value) (s : Int) (late : Bool) (h : s ≤ -2199022895552 ∨ 2199022895552 ≤ s) :
    Calls Try.prog 12 #[clocksV v, .int .i64 s, .bool late] w fun e w' => e = .returned (.tuple #[fndA .zero, .int .i64 10]) ∧ Below w.heap.size w w' := find_err w _ s late 10 (.inl rfl) fun W => all_no W v s h
theorem find_nil (w : World) (s : Int) (late : Bool) : Calls Try.prog 12 #[.nilIface, .int .i64 s, .bool late] w fun e w' => e = .returned (.tuple #[fndA .zero, .int .i64 2]) ∧ Below w.heap.size w w' := find_err w _ s late 2 (.inr rfl) fun W => all_nil W s

/-- What Show answers. -/
def ShowEnd (l : List Chg) (i : Int) (w : World) (e : Ending) (w' : World) : Prop := (∃ x, e = .returned (.tuple #[.int .i64 (i + x.off), locA x, .int .i64 0]) ∧ ShownTo l i l.length x) ∧ Below w.heap.size w w'
theorem loc_new (w : World) : LocB (w.alloc noLoc) w.heap.size .zero ∧ Below w.heap.size w (w.alloc noLoc) := ⟨Blk.new _ _ _, (Below.refl _ _).alloc (Nat.le_refl _) _⟩
set_option maxHeartbeats 2000000 in
theorem show_yes (w : World) (B : Nat) (v : Value) (l : List Chg) (i : Int) (hv : Chgs w B v l) (hB : B ≤ w.heap.size) (hrow : Row l) (h1 : -2199023255552 ≤ i) (h2 : i ≤ 2199023255552) :
    Calls Try.prog 17 #[clocksV v, .int .i64 i] w (ShowEnd l i w) := by
  obtain ⟨h0, hb0⟩ := loc_new w
  have HAT := fun W (hb : Below w.heap.size w W) => Lib.hid (at_yes W B v l i (hv.below (hb.mono hB)) (Nat.le_trans hB hb.size) hrow.pos h1 h2)
  have HR0 := Lib.hid h0
  have hm1 := meth_at v
  clear h0 hv
  unfold clocksV
  go_enter Try.func17, Try.ntmps17
  go_wp2_with fail
  refine (HAT _ hb0).out.mono ?_
  rintro e w1 ⟨⟨x, rfl, hx⟩, hb1⟩
  have HX := Lib.hid hx
  have hoff : -180000 < x.off ∧ x.off < 180000 := by
    obtain ⟨m, hm, rfl, -⟩ := hx
    have := hrow.off m hm
    omega
  have hr1 : LocB w1 w.heap.size .zero := HR0.out.below hb1 (by simp)
  have hbel := hb0.trans (hb1.mono hb0.size)
  have hs1 := hb1.size
  rw [World.size_alloc] at hs1
  have hN := Blk.new w1 32 #[.int .i64 x.off, .bool x.dst, .string x.abbr]
  have hr2 := Blk.alloc hr1 (.cells #[.int .i64 x.off, .bool x.dst, .string x.abbr] 32)
  have hb2 := hbel.alloc hbel.size (.cells #[.int .i64 x.off, .bool x.dst, .string x.abbr] 32)
  clear hr1 hx HR0 HAT hb0
  unfold locA
  go_wp2_with fail
  obtain ⟨W2, hW2⟩ : ∃ W2, w1.alloc (.cells #[.int .i64 x.off, .bool x.dst, .string x.abbr] 32) = W2 := ⟨_, rfl⟩
  rw [hW2] at hN hr2 hb2 ⊢
  clear hW2
  obtain ⟨x0, x1, x2⟩ := LocB.cells hN
  obtain ⟨y0, y1, y2⟩ := LocB.cells (x := .zero) hr2
  have z0 := Blk.frozen hr2 0
  have z1 := Blk.frozen hr2 1
  have z2 := Blk.frozen hr2 2
  have HR2 := Lib.hid hr2
  clear hN hr2
  go_region
  go_wp2_with fail
  obtain ⟨e0, e1, e2⟩ := LocB.cells (LocB.set HR2.out x)
  refine bodyPost_ret (v := .tuple #[.int .i64 (i + x.off), locA x, .int .i64 0]) ?_ rfl ⟨⟨x, rfl, HX.out⟩, (below_set3 hb2 (Nat.le_refl _) _ _ _).drew⟩
  simp [results, Try.results17, go_sem, locA, e0, e1, e2]
set_option maxHeartbeats 2000000 in
theorem show_err (w : World) (c : Value) (i : Int) (er : Int) (h : (c = .nilIface ∧ er = 2) ∨ (∃ v, c = clocksV v ∧ er = 10 ∧ (i < -2199023255552 ∨ 2199023255552 < i))) :
    Calls Try.prog 17 #[c, .int .i64 i] w fun e w' => e = .returned (.tuple #[.int .i64 0, locA .zero, .int .i64 er]) ∧ Below w.heap.size w w' := by
  obtain ⟨h0, hb0⟩ := loc_new w
  have HR0 := Lib.hid h0
  obtain ⟨y0, y1, y2⟩ := LocB.cells (x := .zero) h0
  have z0 := Blk.frozen h0 0
  have z1 := Blk.frozen h0 1
  have z2 := Blk.frozen h0 2
  rcases h with ⟨rfl, rfl⟩ | ⟨v, rfl, rfl, hi⟩
  · clear h0
    go_enter Try.func17, Try.ntmps17
    go_wp2_with fail
    refine bodyPost_ret (v := .tuple #[.int .i64 0, locA .zero, .int .i64 2]) ?_ rfl ⟨rfl, hb0⟩
    simp [results, Try.results17, go_sem, locA, Loc.zero]
  · have hm1 := meth_at v
    have HAT := fun W => Lib.hid (at_no W v i hi)
    clear h0 hi y0 y1 y2 z0 z1 z2
    unfold clocksV
    go_enter Try.func17, Try.ntmps17
    go_wp2_with fail
    refine (HAT _).out.mono ?_
    rintro e w1 ⟨rfl, hb1⟩
    have hr1 : LocB w1 w.heap.size .zero := HR0.out.below hb1 (by simp)
    have hbel := hb0.trans (hb1.mono hb0.size)
    have hs1 := hb1.size
    rw [World.size_alloc] at hs1
    have hr2 := Blk.alloc hr1 (.cells #[.int .i64 0, .bool false, .string ⟨#[]⟩] 32)
    have hb2 := hbel.alloc hbel.size (.cells #[.int .i64 0, .bool false, .string ⟨#[]⟩] 32)
    have z0 := Blk.frozen hr2 0
    have z1 := Blk.frozen hr2 1
    have z2 := Blk.frozen hr2 2
    have HR2 := Lib.hid hr2
    obtain ⟨y0, y1, y2⟩ := LocB.cells (x := .zero) hr2
    clear hr1 hr2 HAT hb0 HR0
    unfold locA Loc.zero
    go_wp2_with fail
    obtain ⟨e0, e1, e2⟩ := LocB.cells (LocB.set HR2.out .zero)
    simp only [Loc.zero] at e0 e1 e2
    refine bodyPost_ret (v := .tuple #[.int .i64 0, locA .zero, .int .i64 10]) ?_ rfl ⟨rfl, below_set3 hb2 (Nat.le_refl _) _ _ _⟩
    simp [results, Try.results17, go_sem, locA, Loc.zero, e0, e1, e2]
end Go.Proofs.Ytlkpkmdomecopaa
