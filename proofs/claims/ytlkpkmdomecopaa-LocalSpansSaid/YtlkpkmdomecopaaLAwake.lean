/-
  Layer 20: the chapter's examples, walked.
-/
import Derived.Test.YtlkpkmdomecopaaLRight
namespace Go.Proofs.Ytlkpkmdomecopaa
open Go Go.RowKit Go.Shelf
set_option maxRecDepth 100000

def ten : Loc := ⟨10, false, ⟨#[]⟩⟩
def upL : List Chg := [⟨-2199023255552, .zero⟩, ⟨100, ten⟩]
def downL : List Chg := [⟨-2199023255552, ten⟩, ⟨100, .zero⟩]
theorem up_row : Row upL := (rightB_iff _).1 (by decide)
theorem down_row : Row downL := (rightB_iff _).1 (by decide)
theorem up_105 {f : Fnd} (h : found upL 105 false f) : f = ⟨3, 100, ⟨100, ten⟩⟩ := by
  have e : allL upL 105 = [] := by decide
  unfold found at h
  rw [e] at h
  obtain ⟨k0, j, hj, hk0, h1, h2, h3, rfl⟩ := h
  have : j = 1 := by have : upL.length = 2 := rfl; omega
  subst this
  rfl
theorem up_110 {f : Fnd} (h : found upL 110 false f) : f = ⟨1, 100, .zero⟩ := by
  have e : allL upL 110 = [100] := by decide
  unfold found at h
  rw [e] at h
  exact h
theorem down_105 {f : Fnd} {late : Bool} (h : found downL 105 late f) : f = ⟨2, if late then 105 else 95, .zero⟩ := by
  have e : allL downL 105 = [95, 105] := by decide
  unfold found at h
  rw [e] at h
  rw [h]
  rfl
theorem blks4 (w : World) (c1 c2 c3 c4 : Array Value) (t1 t2 t3 t4 : TypeId) (W : World) (h : (((w.alloc (.cells c1 t1)).alloc (.cells c2 t2)).alloc (.cells c3 t3)).alloc (.cells c4 t4) = W) :
    Blk W w.heap.size t1 c1 ∧ Blk W (w.heap.size + 1) t2 c2 ∧ Blk W (w.heap.size + 2) t3 c3 ∧ Blk W (w.heap.size + 3) t4 c4 ∧ Below w.heap.size w W ∧ W.heap.size = w.heap.size + 4 := by
  subst h
  have b1 := Blk.new w t1 c1
  have b2 := Blk.new (w.alloc (.cells c1 t1)) t2 c2
  have b3 := Blk.new ((w.alloc (.cells c1 t1)).alloc (.cells c2 t2)) t3 c3
  have b4 := Blk.new (((w.alloc (.cells c1 t1)).alloc (.cells c2 t2)).alloc (.cells c3 t3)) t4 c4
  simp only [World.size_alloc] at b2 b3 b4
  exact ⟨((b1.alloc _).alloc _).alloc _, (b2.alloc _).alloc _, b3.alloc _, b4, ((((Below.refl w.heap.size w).alloc (Nat.le_refl _) _).alloc (by simp) _).alloc (by simp; omega) _).alloc (by simp; omega) _, by simp⟩
theorem chgs_of_blk {W : World} {b : Nat} {l : List Chg} {t : TypeId} (h : Blk W b t (chgsV l).toArray) (hl : l.length ≤ maxLen) : Chgs W (b + 1) (.slice (some ⟨b, 0, none⟩) l.length l.length) l :=
  Sl.mk_ (Nat.le_refl _) hl (length_chgsV l) (by omega) fun j u hu => by rw [Nat.zero_add]; exact h.cell j (by simpa using hu)
theorem below_box {w W1 W2 : World} {B : Nat} (h : Below B w W1) (h2 : Below W1.heap.size W1 W2) (hB : B ≤ w.heap.size) (o : Obj) : Below B w (W2.alloc o) := (h.trans (h2.mono (Nat.le_trans hB h.size))).alloc (Nat.le_trans hB (Nat.le_trans h.size h2.size)) o
set_option maxHeartbeats 4000000 in
theorem awake_any (w : World) : Calls Try.prog 10 #[] w fun e w' => e = .returned (.bool true) ∧ Below w.heap.size w w' := by
  go_enter Try.func10, Try.ntmps10
  go_wp2_with fail
  obtain ⟨W, hW⟩ : ∃ W, (((w.alloc (.cells #[.int .i64 (-2199023255552), .int .i64 0, .bool false, .string ⟨#[]⟩, .int .i64 100, .int .i64 10, .bool false, .string ⟨#[]⟩] 34)).alloc (.cells #[.slice (some ⟨w.heap.size, 0, none⟩) 2 2] 26)).alloc (.cells #[.int .i64 (-2199023255552), .int .i64 10, .bool false, .string ⟨#[]⟩, .int .i64 100, .int .i64 0, .bool false, .string ⟨#[]⟩] 34)).alloc (.cells #[.slice (some ⟨w.heap.size + 1 + 1, 0, none⟩) 2 2] 26) = W := ⟨_, rfl⟩
  obtain ⟨hbu, hru, hbd, hrd, hB, hs⟩ := blks4 w _ _ _ _ _ _ _ _ W hW
  rw [hW]
  clear hW
  have hcu : Chgs W (w.heap.size + 4) (.slice (some ⟨w.heap.size, 0, none⟩) 2 2) upL := (chgs_of_blk (l := upL) hbu (by decide)).more (by omega)
  have hcd : Chgs W (w.heap.size + 4) (.slice (some ⟨w.heap.size + 1 + 1, 0, none⟩) 2 2) downL := (chgs_of_blk (l := downL) hbd (by decide)).more (by omega)
  have hs1 : w.heap.size + 4 ≤ W.heap.size := by omega
  have hB0 : Below (w.heap.size + 4) W W := Below.refl _ _
  have hS0 : w.heap.size + 4 ≤ W.heap.size := hs1
  clear hs
  refine (find_yes W (w.heap.size + 4) (.slice (some ⟨w.heap.size, 0, none⟩) 2 2) upL 105 false (hcu.below hB0) hS0 up_row (by decide) (by decide)).mono ?_
  rintro e w1 ⟨⟨f1, rfl, hf1⟩, hb1⟩
  obtain rfl := up_105 hf1
  have hB1 := below_box hB0 hb1 hs1 (.cells #[.int .i64 3, .int .i64 100, .int .i64 100, .int .i64 10, .bool false, .string ⟨#[]⟩] 36)
  have hn1 := Blk.new w1 36 #[.int .i64 3, .int .i64 100, .int .i64 100, .int .i64 10, .bool false, .string ⟨#[]⟩]
  have gu1 : w1.cell? ⟨w.heap.size + 1, 0, none⟩ = some (.slice (some ⟨w.heap.size, 0, none⟩) 2 2) := (hb1.cell (p := ⟨w.heap.size + 1, 0, none⟩) (by show w.heap.size + 1 < _; omega)).trans ((hB0.cell (p := ⟨w.heap.size + 1, 0, none⟩) (by show w.heap.size + 1 < _; omega)).trans (hru.cell 0 rfl))
  have gd1 : w1.cell? ⟨w.heap.size + 1 + 1 + 1, 0, none⟩ = some (.slice (some ⟨w.heap.size + 1 + 1, 0, none⟩) 2 2) := (hb1.cell (p := ⟨w.heap.size + 1 + 1 + 1, 0, none⟩) (by show w.heap.size + 3 < _; omega)).trans ((hB0.cell (p := ⟨w.heap.size + 1 + 1 + 1, 0, none⟩) (by show w.heap.size + 3 < _; omega)).trans (hrd.cell 0 rfl))
  have hz1 := hb1.size
  have lu1 : w.heap.size + 1 < w1.heap.size := by omega
  have ld1 : w.heap.size + 1 + 1 + 1 < w1.heap.size := by omega
  simp only [fndA, ten]
  go_wp2_with fail
  obtain ⟨V1, hV1⟩ : ∃ V1, w1.alloc (.cells #[.int .i64 3, .int .i64 100, .int .i64 100, .int .i64 10, .bool false, .string ⟨#[]⟩] 36) = V1 := ⟨_, rfl⟩
  have hv1 : w1.heap.size + 1 ≤ V1.heap.size := by rw [← hV1]; simp
  have hW1 : Below w1.heap.size w1 V1 := by rw [← hV1]; exact (Below.refl _ _).alloc (Nat.le_refl _) _
  rw [hV1] at hB1 hn1 ⊢
  have hS1 : w.heap.size + 4 ≤ V1.heap.size := by omega
  clear hV1 hf1 gu1 gd1
  refine (find_yes V1 (w.heap.size + 4) (.slice (some ⟨w.heap.size, 0, none⟩) 2 2) upL 110 false (hcu.below hB1) hS1 up_row (by decide) (by decide)).mono ?_
  rintro e w2 ⟨⟨f2, rfl, hf2⟩, hb2⟩
  obtain rfl := up_110 hf2
  have hB2 := below_box hB1 hb2 hs1 (.cells #[.int .i64 1, .int .i64 100, .int .i64 0, .int .i64 0, .bool false, .string ⟨#[]⟩] 36)
  have hn2 := Blk.new w2 36 #[.int .i64 1, .int .i64 100, .int .i64 0, .int .i64 0, .bool false, .string ⟨#[]⟩]
  have gu2 : w2.cell? ⟨w.heap.size + 1, 0, none⟩ = some (.slice (some ⟨w.heap.size, 0, none⟩) 2 2) := (hb2.cell (p := ⟨w.heap.size + 1, 0, none⟩) (by show w.heap.size + 1 < _; omega)).trans ((hB1.cell (p := ⟨w.heap.size + 1, 0, none⟩) (by show w.heap.size + 1 < _; omega)).trans (hru.cell 0 rfl))
  have gd2 : w2.cell? ⟨w.heap.size + 1 + 1 + 1, 0, none⟩ = some (.slice (some ⟨w.heap.size + 1 + 1, 0, none⟩) 2 2) := (hb2.cell (p := ⟨w.heap.size + 1 + 1 + 1, 0, none⟩) (by show w.heap.size + 3 < _; omega)).trans ((hB1.cell (p := ⟨w.heap.size + 1 + 1 + 1, 0, none⟩) (by show w.heap.size + 3 < _; omega)).trans (hrd.cell 0 rfl))
  have hz2 := hb2.size
  have lu2 : w.heap.size + 1 < w2.heap.size := by omega
  have ld2 : w.heap.size + 1 + 1 + 1 < w2.heap.size := by omega
  simp only [fndA, Chg.zero, Loc.zero]
  go_wp2_with fail
  obtain ⟨V2, hV2⟩ : ∃ V2, w2.alloc (.cells #[.int .i64 1, .int .i64 100, .int .i64 0, .int .i64 0, .bool false, .string ⟨#[]⟩] 36) = V2 := ⟨_, rfl⟩
  have hv2 : w2.heap.size + 1 ≤ V2.heap.size := by rw [← hV2]; simp
  have hW2 : Below w2.heap.size w2 V2 := by rw [← hV2]; exact (Below.refl _ _).alloc (Nat.le_refl _) _
  rw [hV2] at hB2 hn2 ⊢
  have hS2 : w.heap.size + 4 ≤ V2.heap.size := by omega
  clear hV2 hf2 gu2 gd2
  refine (find_yes V2 (w.heap.size + 4) (.slice (some ⟨w.heap.size + 1 + 1, 0, none⟩) 2 2) downL 105 false (hcd.below hB2) hS2 down_row (by decide) (by decide)).mono ?_
  rintro e w3 ⟨⟨f3, rfl, hf3⟩, hb3⟩
  obtain rfl := down_105 hf3
  have hB3 := below_box hB2 hb3 hs1 (.cells #[.int .i64 2, .int .i64 95, .int .i64 0, .int .i64 0, .bool false, .string ⟨#[]⟩] 36)
  have hn3 := Blk.new w3 36 #[.int .i64 2, .int .i64 95, .int .i64 0, .int .i64 0, .bool false, .string ⟨#[]⟩]
  have gu3 : w3.cell? ⟨w.heap.size + 1, 0, none⟩ = some (.slice (some ⟨w.heap.size, 0, none⟩) 2 2) := (hb3.cell (p := ⟨w.heap.size + 1, 0, none⟩) (by show w.heap.size + 1 < _; omega)).trans ((hB2.cell (p := ⟨w.heap.size + 1, 0, none⟩) (by show w.heap.size + 1 < _; omega)).trans (hru.cell 0 rfl))
  have gd3 : w3.cell? ⟨w.heap.size + 1 + 1 + 1, 0, none⟩ = some (.slice (some ⟨w.heap.size + 1 + 1, 0, none⟩) 2 2) := (hb3.cell (p := ⟨w.heap.size + 1 + 1 + 1, 0, none⟩) (by show w.heap.size + 3 < _; omega)).trans ((hB2.cell (p := ⟨w.heap.size + 1 + 1 + 1, 0, none⟩) (by show w.heap.size + 3 < _; omega)).trans (hrd.cell 0 rfl))
  have hz3 := hb3.size
  have lu3 : w.heap.size + 1 < w3.heap.size := by omega
  have ld3 : w.heap.size + 1 + 1 + 1 < w3.heap.size := by omega
  simp only [fndA, Chg.zero, Loc.zero, Bool.false_eq_true, if_false]
  go_wp2_with fail
  obtain ⟨V3, hV3⟩ : ∃ V3, w3.alloc (.cells #[.int .i64 2, .int .i64 95, .int .i64 0, .int .i64 0, .bool false, .string ⟨#[]⟩] 36) = V3 := ⟨_, rfl⟩
  have hv3 : w3.heap.size + 1 ≤ V3.heap.size := by rw [← hV3]; simp
  have hW3 : Below w3.heap.size w3 V3 := by rw [← hV3]; exact (Below.refl _ _).alloc (Nat.le_refl _) _
  rw [hV3] at hB3 hn3 ⊢
  have hS3 : w.heap.size + 4 ≤ V3.heap.size := by omega
  clear hV3 hf3 gu3 gd3
  refine (find_yes V3 (w.heap.size + 4) (.slice (some ⟨w.heap.size + 1 + 1, 0, none⟩) 2 2) downL 105 true (hcd.below hB3) hS3 down_row (by decide) (by decide)).mono ?_
  rintro e w4 ⟨⟨f4, rfl, hf4⟩, hb4⟩
  obtain rfl := down_105 hf4
  have hB4 := below_box hB3 hb4 hs1 (.cells #[.int .i64 2, .int .i64 105, .int .i64 0, .int .i64 0, .bool false, .string ⟨#[]⟩] 36)
  have hn4 := Blk.new w4 36 #[.int .i64 2, .int .i64 105, .int .i64 0, .int .i64 0, .bool false, .string ⟨#[]⟩]
  have gu4 : w4.cell? ⟨w.heap.size + 1, 0, none⟩ = some (.slice (some ⟨w.heap.size, 0, none⟩) 2 2) := (hb4.cell (p := ⟨w.heap.size + 1, 0, none⟩) (by show w.heap.size + 1 < _; omega)).trans ((hB3.cell (p := ⟨w.heap.size + 1, 0, none⟩) (by show w.heap.size + 1 < _; omega)).trans (hru.cell 0 rfl))
  have gd4 : w4.cell? ⟨w.heap.size + 1 + 1 + 1, 0, none⟩ = some (.slice (some ⟨w.heap.size + 1 + 1, 0, none⟩) 2 2) := (hb4.cell (p := ⟨w.heap.size + 1 + 1 + 1, 0, none⟩) (by show w.heap.size + 3 < _; omega)).trans ((hB3.cell (p := ⟨w.heap.size + 1 + 1 + 1, 0, none⟩) (by show w.heap.size + 3 < _; omega)).trans (hrd.cell 0 rfl))
  have hz4 := hb4.size
  have lu4 : w.heap.size + 1 < w4.heap.size := by omega
  have ld4 : w.heap.size + 1 + 1 + 1 < w4.heap.size := by omega
  simp only [fndA, Chg.zero, Loc.zero, if_true]
  go_wp2_with fail
  obtain ⟨V4, hV4⟩ : ∃ V4, w4.alloc (.cells #[.int .i64 2, .int .i64 105, .int .i64 0, .int .i64 0, .bool false, .string ⟨#[]⟩] 36) = V4 := ⟨_, rfl⟩
  have hv4 : w4.heap.size + 1 ≤ V4.heap.size := by rw [← hV4]; simp
  have hW4 : Below w4.heap.size w4 V4 := by rw [← hV4]; exact (Below.refl _ _).alloc (Nat.le_refl _) _
  rw [hV4] at hB4 hn4 ⊢
  have hS4 : w.heap.size + 4 ≤ V4.heap.size := by omega
  clear hV4 hf4 gu4 gd4
  have hF1 := ((((((hn1.below hb2 (by omega)).below hW2 (by omega)).below hb3 (by omega)).below hW3 (by omega)).below hb4 (by omega)).below hW4 (by omega))
  have hF2 := ((((hn2.below hb3 (by omega)).below hW3 (by omega)).below hb4 (by omega)).below hW4 (by omega))
  have hF3 := ((hn3.below hb4 (by omega)).below hW4 (by omega))
  have hF4 := hn4
  have hU := hbu.below hB4 (by omega)
  have hR := hru.below hB4 (by omega)
  have hend : Below w.heap.size w V4 := hB.trans (hB4.mono (by omega))
  clear hn1 hn2 hn3 hn4 hbd hrd hcu hcd hB1 hB2 hB3 hB4 hB0 hB hbu hru hb1 hb2 hb3 hb4 hW1 hW2 hW3 hW4
  have a10 : V4.cell? ⟨w1.heap.size, 0, none⟩ = some (.int .i64 3) := hF1.cell 0 rfl
  have a11 : V4.cell? ⟨w1.heap.size, 1, none⟩ = some (.int .i64 100) := hF1.cell 1 rfl
  have a12 : V4.cell? ⟨w1.heap.size, 2, none⟩ = some (.int .i64 100) := hF1.cell 2 rfl
  have a13 : V4.cell? ⟨w1.heap.size, 3, none⟩ = some (.int .i64 10) := hF1.cell 3 rfl
  have a14 : V4.cell? ⟨w1.heap.size, 4, none⟩ = some (.bool false) := hF1.cell 4 rfl
  have a15 : V4.cell? ⟨w1.heap.size, 5, none⟩ = some (.string ⟨#[]⟩) := hF1.cell 5 rfl
  have a20 : V4.cell? ⟨w2.heap.size, 0, none⟩ = some (.int .i64 1) := hF2.cell 0 rfl
  have a21 : V4.cell? ⟨w2.heap.size, 1, none⟩ = some (.int .i64 100) := hF2.cell 1 rfl
  have a22 : V4.cell? ⟨w2.heap.size, 2, none⟩ = some (.int .i64 0) := hF2.cell 2 rfl
  have a23 : V4.cell? ⟨w2.heap.size, 3, none⟩ = some (.int .i64 0) := hF2.cell 3 rfl
  have a24 : V4.cell? ⟨w2.heap.size, 4, none⟩ = some (.bool false) := hF2.cell 4 rfl
  have a25 : V4.cell? ⟨w2.heap.size, 5, none⟩ = some (.string ⟨#[]⟩) := hF2.cell 5 rfl
  have a30 : V4.cell? ⟨w3.heap.size, 0, none⟩ = some (.int .i64 2) := hF3.cell 0 rfl
  have a31 : V4.cell? ⟨w3.heap.size, 1, none⟩ = some (.int .i64 95) := hF3.cell 1 rfl
  have a32 : V4.cell? ⟨w3.heap.size, 2, none⟩ = some (.int .i64 0) := hF3.cell 2 rfl
  have a33 : V4.cell? ⟨w3.heap.size, 3, none⟩ = some (.int .i64 0) := hF3.cell 3 rfl
  have a34 : V4.cell? ⟨w3.heap.size, 4, none⟩ = some (.bool false) := hF3.cell 4 rfl
  have a35 : V4.cell? ⟨w3.heap.size, 5, none⟩ = some (.string ⟨#[]⟩) := hF3.cell 5 rfl
  have a40 : V4.cell? ⟨w4.heap.size, 0, none⟩ = some (.int .i64 2) := hF4.cell 0 rfl
  have a41 : V4.cell? ⟨w4.heap.size, 1, none⟩ = some (.int .i64 105) := hF4.cell 1 rfl
  have a42 : V4.cell? ⟨w4.heap.size, 2, none⟩ = some (.int .i64 0) := hF4.cell 2 rfl
  have a43 : V4.cell? ⟨w4.heap.size, 3, none⟩ = some (.int .i64 0) := hF4.cell 3 rfl
  have a44 : V4.cell? ⟨w4.heap.size, 4, none⟩ = some (.bool false) := hF4.cell 4 rfl
  have a45 : V4.cell? ⟨w4.heap.size, 5, none⟩ = some (.string ⟨#[]⟩) := hF4.cell 5 rfl
  have r0 : V4.cell? ⟨w.heap.size + 1, 0, none⟩ = some (.slice (some ⟨w.heap.size, 0, none⟩) 2 2) := hR.cell 0 rfl
  have r4 : V4.cell? ⟨w.heap.size, 4, none⟩ = some (.int .i64 100) := hU.cell 4 rfl
  have r5 : V4.cell? ⟨w.heap.size, 5, none⟩ = some (.int .i64 10) := hU.cell 5 rfl
  have r6 : V4.cell? ⟨w.heap.size, 6, none⟩ = some (.bool false) := hU.cell 6 rfl
  have r7 : V4.cell? ⟨w.heap.size, 7, none⟩ = some (.string ⟨#[]⟩) := hU.cell 7 rfl
  clear hF1 hF2 hF3 hF4 hU hR
  go_quiet (fail)
  go_wp2_with fail
  go_ret
  exact ⟨rfl, below_drewN hend _⟩
end Go.Proofs.Ytlkpkmdomecopaa
