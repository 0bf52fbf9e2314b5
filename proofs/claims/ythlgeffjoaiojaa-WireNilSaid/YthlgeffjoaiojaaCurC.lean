/-
  Layer 5's cursor: 'number', walked.
-/
import Derived.Test.YthlgeffjoaiojaaCurB
namespace Go.Proofs.Ythlgeffjoaiojaa
open Go Go.RowKit Go.Shelf
attribute [local go_sem] Oper.semAt_some

theorem next_any (cb : Nat) (w : World) :
    CallsIn Fence.wide 7 Try.prog 38 #[.pointer (some ⟨cb, 0, none⟩)] w fun e w' => e = .returned (.func (.func 39) #[] #[.pointer (some ⟨w.heap.size, 0, none⟩)]) ∧ w' = w.alloc (.cells #[.pointer (some ⟨cb, 0, none⟩)] 32) := by
  refine callsIn_of_wp Try.func38 rfl trivial ?_ rfl
  simp only [Try.ntmps38, List.size_toArray, List.length_cons, List.length_nil, Nat.reduceAdd, Nat.reduceSub, Array.replicate_succ, Array.replicate_zero, List.push_toArray, List.append_toArray, List.nil_append, List.cons_append]
  gi_wp2
  go_ret
  exact ⟨rfl, rfl⟩

theorem wpIn_cut {F : Fence} {n : Nat} {P : Program} {c : Code} {Q : Exit → Act → World → Prop} {a : Act} {w : World} (a2 : Act) (w2 : World)
    (h1 : ∀ Q', Q' .normal a2 w2 → c.wpIn F n P Q' a w) (h2 : Q .normal a2 w2) : c.wpIn F n P Q a w := h1 Q h2
/-- The three results' cells. -/
structure Three (W : World) (s : Nat) (a m : Int) (e : Nat) : Prop where
  c1 : W.cell? ⟨s, 0, none⟩ = some (.int .u64 a)
  c2 : W.cell? ⟨s + 1, 0, none⟩ = some (.int .i64 m)
  c3 : W.cell? ⟨s + 1 + 1, 0, none⟩ = some (.int .i64 e)
  f1 : W.frozen? ⟨s, 0, none⟩ = false
  f2 : W.frozen? ⟨s + 1, 0, none⟩ = false
  f3 : W.frozen? ⟨s + 1 + 1, 0, none⟩ = false
theorem addr_ne {a b : Nat} (h : a ≠ b) : (⟨a, 0, none⟩ : Addr) ≠ ⟨b, 0, none⟩ := fun e => h (congrArg Addr.block e)
theorem Three.set1 {W : World} {s : Nat} {a m : Int} {e : Nat} (h : Three W s a m e) (a2 : Int) : Three (W.setCell ⟨s, 0, none⟩ (.int .u64 a2)) s a2 m e :=
  ⟨World.cell?_setCell_same' _ _ _ (by rw [h.c1]; rfl), (World.cell?_setCell_other _ _ _ _ (fun e => by have := congrArg Addr.block e; dsimp only at this; omega)).trans h.c2, (World.cell?_setCell_other _ _ _ _ (fun e => by have := congrArg Addr.block e; dsimp only at this; omega)).trans h.c3,
    by rw [World.frozen?_setCell]; exact h.f1, by rw [World.frozen?_setCell]; exact h.f2, by rw [World.frozen?_setCell]; exact h.f3⟩
theorem Three.set2 {W : World} {s : Nat} {a m : Int} {e : Nat} (h : Three W s a m e) (m2 : Int) : Three (W.setCell ⟨s + 1, 0, none⟩ (.int .i64 m2)) s a m2 e :=
  ⟨(World.cell?_setCell_other _ _ _ _ (fun e => by have := congrArg Addr.block e; dsimp only at this; omega)).trans h.c1, World.cell?_setCell_same' _ _ _ (by rw [h.c2]; rfl), (World.cell?_setCell_other _ _ _ _ (fun e => by have := congrArg Addr.block e; dsimp only at this; omega)).trans h.c3,
    by rw [World.frozen?_setCell]; exact h.f1, by rw [World.frozen?_setCell]; exact h.f2, by rw [World.frozen?_setCell]; exact h.f3⟩
theorem Three.set3 {W : World} {s : Nat} {a m : Int} {e : Nat} (h : Three W s a m e) (e2 : Nat) : Three (W.setCell ⟨s + 1 + 1, 0, none⟩ (.int .i64 e2)) s a m e2 :=
  ⟨(World.cell?_setCell_other _ _ _ _ (fun e => by have := congrArg Addr.block e; dsimp only at this; omega)).trans h.c1, (World.cell?_setCell_other _ _ _ _ (fun e => by have := congrArg Addr.block e; dsimp only at this; omega)).trans h.c2, World.cell?_setCell_same' _ _ _ (by rw [h.c3]; rfl),
    by rw [World.frozen?_setCell]; exact h.f1, by rw [World.frozen?_setCell]; exact h.f2, by rw [World.frozen?_setCell]; exact h.f3⟩
theorem Three.drew {W : World} {s : Nat} {a m : Int} {e : Nat} (h : Three W s a m e) : Three W.drew s a m e := ⟨h.c1, h.c2, h.c3, h.f1, h.f2, h.f3⟩
theorem Three.kept {W W' : World} {s : Nat} {a m : Int} {e : Nat} {row : Option Nat} (h : Three W s a m e) (hg : W.grownBy W' row) (hr : ∀ r, row = some r → ∃ o : Obj, W.heap[r]? = some o ∧ o.isCells = false) : Three W' s a m e :=
  ⟨cell_kept h.c1 hg hr, cell_kept h.c2 hg hr, cell_kept h.c3 hg hr, (frozen_kept h.c1 hg hr).trans h.f1, (frozen_kept h.c2 hg hr).trans h.f2, (frozen_kept h.c3 hg hr).trans h.f3⟩
/-- A round's world. -/
theorem round_world {W : World} {s : Nat} {a m : Int} (h : Three W s a m 20) (a2 m2 : Int) (hs : Below s W W) :
    Three ((W.setCell ⟨s, 0, none⟩ (.int .u64 a2)).drew.setCell ⟨s + 1, 0, none⟩ (.int .i64 m2)) s a2 m2 20 ∧ KeepsOthers W ((W.setCell ⟨s, 0, none⟩ (.int .u64 a2)).drew.setCell ⟨s + 1, 0, none⟩ (.int .i64 m2)) ∧ Below s W ((W.setCell ⟨s, 0, none⟩ (.int .u64 a2)).drew.setCell ⟨s + 1, 0, none⟩ (.int .i64 m2)) :=
  ⟨((h.set1 a2).drew).set2 m2, ((KeepsOthers.setCell _ _ _).trans (KeepsOthers.drew _)).trans (KeepsOthers.setCell _ _ _),
    ((hs.setCell (p := ⟨s, 0, none⟩) (Nat.le_refl _) _).drew).setCell (p := ⟨s + 1, 0, none⟩) (Nat.le_succ _) _⟩

set_option maxRecDepth 100000 in
set_option maxHeartbeats 2000000 in
theorem number_any (cb k e : Nat) (v : Value) (l : List UInt8) (w : World) (hc : CurAt w cb v k e) (hcb : cb < w.heap.size) (hb : Bytes w w.heap.size v l) (hk : k ≤ l.length) (hl : l.length ≤ 1000000) :
    Calls Try.prog 34 #[.pointer (some ⟨cb, 0, none⟩)] w fun e' w' => (∃ (a m : Int) (e2 : Nat), e' = .returned (.tuple #[.int .u64 a, .int .i64 m, .int .i64 e2]) ∧ NumR (l.drop k) a m e2) ∧ Below w.heap.size w w' := by
  refine (callsIn_wide (n := 8)).1 ?_
  refine callsIn_of_wp_marks Try.func34 rfl trivial ?_ rfl
  simp only [Try.ntmps34, List.size_toArray, List.length_cons, List.length_nil, Nat.reduceAdd, Nat.reduceSub, Array.replicate_succ, Array.replicate_zero, List.push_toArray, List.append_toArray, List.nil_append, List.cons_append]
  have HC := Lib.hid hc
  clear hc
  gi_wp2
  refine wpIn_wide.2 (wp_scope_straight ((wpIn_wide (n := 8)).1 ?_))
  gi_wp2
  apply wpIn_label
  gi_wp2
  refine ⟨trivial, ?_⟩
  refine (next_any _ _).mono ?_
  rintro e w' ⟨rfl, rfl⟩
  gi_wp2
  have q1 := cell_new1 w (.int .u64 0) 49
  have q2 := cell_new1 (w.alloc (.cells #[.int .u64 0] 49)) (.int .i64 0) 3
  have q3 := cell_new1 ((w.alloc (.cells #[.int .u64 0] 49)).alloc (.cells #[.int .i64 0] 3)) (.int .i64 20) 34
  simp only [World.size_alloc] at q2 q3
  have p1 := cell_alloc1 (.cells #[.int .i64 20] 34) (cell_alloc1 (.cells #[.int .i64 0] 3) q1.1)
  have g1 := frozen_alloc1 (.cells #[.int .i64 20] 34) (cell_alloc1 (.cells #[.int .i64 0] 3) q1.1) (frozen_alloc1 (.cells #[.int .i64 0] 3) q1.1 q1.2)
  have p2 := cell_alloc1 (.cells #[.int .i64 20] 34) q2.1
  have g2 := frozen_alloc1 (.cells #[.int .i64 20] 34) q2.1 q2.2
  obtain ⟨W0, hW0⟩ : ∃ W0, (((w.alloc (.cells #[.int .u64 0] 49)).alloc (.cells #[.int .i64 0] 3)).alloc (.cells #[.int .i64 20] 34)) = W0 := ⟨_, rfl⟩
  rw [hW0] at p1 g1 p2 g2 q3 ⊢
  have hsz : W0.heap.size = w.heap.size + 3 := by rw [← hW0]; simp
  have hB0 : Below w.heap.size w W0 := by rw [← hW0]; exact (((Below.refl _ w).alloc (Nat.le_refl _) _).alloc (by simp) _).alloc (by simp; omega) _
  obtain ⟨r, hr⟩ : ∃ r, l.drop k = r := ⟨_, rfl⟩
  have hrl : r.length ≤ 1000000 := by rw [← hr, List.length_drop]; omega
  have cn := cell_new1 W0 (.pointer (some ⟨cb, 0, none⟩)) 32
  have hB1 : Below w.heap.size w (W0.alloc (.cells #[.pointer (some ⟨cb, 0, none⟩)] 32)) := hB0.alloc hB0.size _
  have hseq := next1_stops 7 (by omega) (w.heap.size + 1 + 1 + 1) w.heap.size cb k e v l hcb hk (W0.alloc (.cells #[.pointer (some ⟨cb, 0, none⟩)] 32)) (by simp; omega) (by simp; omega)
    (by rw [show w.heap.size + 1 + 1 + 1 = W0.heap.size by omega]; exact cn.1) (HC.out.below hB1 hcb) (hb.below hB1)
  rw [hr] at hseq
  clear hb
  have hcell : ∀ (W : World) (a m : Int) (e2 : Nat) (x : Value), True := fun _ _ _ _ _ => trivial
  clear hcell
  refine wpIn_rangeFunc_ownF rfl (by omega) (gf := 39) (lb := #[.pointer (some ⟨w.heap.size + 1 + 1 + 1, 0, none⟩)]) rfl trivial (enters_of Try.func39 (by kernel_rfl) rfl)
    hseq belowK_t (belowK_b (by simp; omega)) (Below.refl _ _) (fun _ => rfl)
    (fun pre W => (∃ a m : Int, Three W w.heap.size a m 20 ∧ NumI r pre a m) ∧ Below w.heap.size w W)
    (fun c pre W => (c = .exit 0 ∧ ∃ (a m : Int) (e2 : Nat), Three W w.heap.size a m e2 ∧ NumX r pre a m e2) ∧ Below w.heap.size w W)
    (OwnFrom.and (Own.from (fun s A B row hs hg hr => by
      obtain ⟨a, m, h1, h4⟩ := hs
      exact ⟨a, m, h1.kept hg hr, h4⟩) _) (ownFrom_below (Nat.le_refl _) (by simp; omega)))
    (fun c => OwnFrom.and (Own.from (fun s A B row hs hg hr => by
      obtain ⟨hc, a, m, e2, h1, h4⟩ := hs
      exact ⟨hc, a, m, e2, h1.kept hg hr, h4⟩) _) (ownFrom_below (Nat.le_refl _) (by simp; omega)))
    ⟨⟨0, 0, ⟨cell_alloc1 _ p1, cell_alloc1 _ p2, cell_alloc1 _ q3.1, frozen_alloc1 _ p1 g1, frozen_alloc1 _ p2 g2, frozen_alloc1 _ q3.1 q3.2⟩, num_start r⟩, hB1⟩
    (fun x => { tmps := #[.pointer (some ⟨cb, 0, none⟩), undef, .pointer (some ⟨w.heap.size, 0, none⟩), .pointer (some ⟨w.heap.size + 1, 0, none⟩), .pointer (some ⟨w.heap.size + 1 + 1, 0, none⟩), .int .i64 (x.1 : Int), .int .u8 (r[x.1].toNat : Int), .pointer (some ⟨cb, 0, none⟩), .func (.func 39) #[] #[.pointer (some ⟨w.heap.size + 1 + 1 + 1, 0, none⟩)], .int .i64 (x.1 : Int), .int .u8 (r[x.1].toNat : Int), undef, undef, undef, undef, undef, undef, undef, undef, undef, undef, undef, undef, undef, undef, undef, undef, undef, undef, undef, undef, undef, undef, undef, undef, undef, undef, undef, undef, undef, undef, undef, undef, undef, undef, undef, undef, undef, undef], defers := [] }) ?assign ?body ?done ?stop
  case assign =>
    intro lp x W K hK
    unfold encB
    gi_wp2
    exact hK
  case body =>
    rintro lp pre x W ⟨⟨a, m, h3, h4⟩, hB⟩ _
    obtain ⟨j, hj⟩ := x
    have hy := (r[j]).toNat_lt
    have H4 := Lib.hid h4; clear h4
    have hj6 : j < 1000000 := by omega
    clear hseq HC
    dsimp only
    obtain ⟨y, hyr⟩ : ∃ y, (r[j]).toNat = y := ⟨_, rfl⟩
    rw [hyr] at hy ⊢
    have HYR := Lib.hid hyr; clear hyr
    obtain ⟨t, ht⟩ : ∃ t, bits .and .u8 (y : Int) 127 = t := ⟨_, rfl⟩
    have htw : IntKind.u64.wrap t = t := by
      rw [← ht, show (127 : Int) = ((127 : Nat) : Int) from rfl, u8_and_nat y 127 hy (by omega), Nat.and_two_pow_sub_one_eq_mod y 7, IntKind.wrap_u64]
      omega
    have h7 : IntKind.i64.wrap (7 * (j : Int)) = 7 * (j : Int) := by rw [IntKind.wrap_i64]; omega
    obtain ⟨z, hz⟩ : ∃ z, IntKind.u64.wrap (t * 2 ^ min (7 * (j : Int)).toNat 64) = z := ⟨_, rfl⟩
    have hsh : Op.shift .shl .u64 t .i64 (7 * (j : Int)) = pure (.int .u64 z) := by rw [← hz]; exact shift_shl_any .u64 .i64 _ _ (by omega)
    obtain ⟨a2, ha2⟩ : ∃ a2, bits .or .u64 a z = a2 := ⟨_, rfl⟩
    have HT0 := Lib.hid ht
    have HA2 := Lib.hid ha2
    have HZ := Lib.hid hz; clear hz
    obtain ⟨h31, h3K, h3B⟩ := round_world h3 a2 ((j : Int) + 1) (Below.refl _ W)
    have hBW := hB.trans h3B
    obtain ⟨h1, h2, h3c, f1, f2, f3⟩ := h3
    have HT := Lib.hid h31; clear h31
    gi_wp2
    refine wpIn_cut { tmps := #[.pointer (some ⟨cb, 0, none⟩), undef, .pointer (some ⟨w.heap.size, 0, none⟩), .pointer (some ⟨w.heap.size + 1, 0, none⟩), .pointer (some ⟨w.heap.size + 1 + 1, 0, none⟩), .int .i64 (j : Int), .int .u8 (y : Int), .pointer (some ⟨cb, 0, none⟩), .func (.func 39) #[] #[.pointer (some ⟨w.heap.size + 1 + 1 + 1, 0, none⟩)], .int .i64 (j : Int), .int .u8 (y : Int), .int .u64 a, .int .u8 (y : Int), .int .u8 t, .int .u64 t, .int .i64 (j : Int), .int .i64 (7 * (j : Int)), .int .u64 z, .int .u64 a2, undef, undef, undef, undef, undef, undef, undef, undef, undef, undef, undef, undef, undef, undef, undef, undef, undef, undef, undef, undef, undef, undef, undef, undef, undef, undef, undef, undef, undef, undef], defers := [] } ((W.setCell ⟨w.heap.size, 0, none⟩ (.int .u64 a2)).drew) (fun Q' hQ' => ?_) ?_
    · have HQ := Lib.hid hQ'; clear hQ' hBW h3K h3B HT HT0 HA2 HZ HYR
      gi_region
      all_goals exact HQ.out
    · rcases (show (y < 128 ∧ j < 1) ∨ (y < 128 ∧ 0 < j ∧ y < 1) ∨ (y < 128 ∧ 0 < j ∧ 0 < y ∧ 8 < j ∧ j < 10 ∧ 1 < y) ∨ (y < 128 ∧ 0 < j ∧ 0 < y ∧ 8 < j ∧ j < 10 ∧ y < 2) ∨ (y < 128 ∧ 0 < j ∧ 0 < y ∧ j < 9) ∨ (y < 128 ∧ 0 < j ∧ 0 < y ∧ 9 < j) ∨ (128 ≤ y ∧ 8 < j ∧ j < 10) ∨ (128 ≤ y ∧ j < 9) ∨ (128 ≤ y ∧ 9 < j) by omega) with
        c | c | c | c | c | c | c | c | c
      · gi_wp2
        exact ⟨h3K.trans (KeepsOthers.setCell _ _ _), ⟨rfl, a2, (j : Int) + 1, 0, HT.out.set3 0, by have hh := HYR.out; subst hh; exact num_ok H4.out HT0.out HZ.out HA2.out c.1 (by simp [bad]; omega)⟩, hBW.setCell (p := ⟨w.heap.size + 1 + 1, 0, none⟩) (by simp; omega) _⟩
      · gi_wp2
        exact ⟨h3K.trans (KeepsOthers.setCell _ _ _), ⟨rfl, a2, (j : Int) + 1, 12, HT.out.set3 12, by have hh := HYR.out; subst hh; exact num_bad H4.out HT0.out HZ.out HA2.out c.1 (by simp [bad]; omega)⟩, hBW.setCell (p := ⟨w.heap.size + 1 + 1, 0, none⟩) (by simp; omega) _⟩
      · obtain rfl : j = 9 := by omega
        gi_wp2
        exact ⟨h3K.trans (KeepsOthers.setCell _ _ _), ⟨rfl, a2, 10, 12, HT.out.set3 12, by have hh := HYR.out; subst hh; exact num_bad H4.out HT0.out HZ.out HA2.out c.1 (by simp [bad]; omega)⟩, hBW.setCell (p := ⟨w.heap.size + 1 + 1, 0, none⟩) (by simp; omega) _⟩
      · obtain rfl : j = 9 := by omega
        have hy1 : ¬ (1 : Int) < (y : Int) := by omega
        have hy2 : ((y : Int) == 0) = false := by rw [beq_eq_false_iff_ne]; omega
        gi_wp2
        exact ⟨h3K.trans (KeepsOthers.setCell _ _ _), ⟨rfl, a2, 10, 0, HT.out.set3 0, by have hh := HYR.out; subst hh; exact num_ok H4.out HT0.out HZ.out HA2.out c.1 (by simp [bad]; omega)⟩, hBW.setCell (p := ⟨w.heap.size + 1 + 1, 0, none⟩) (by simp; omega) _⟩
      · gi_wp2
        exact ⟨h3K.trans (KeepsOthers.setCell _ _ _), ⟨rfl, a2, (j : Int) + 1, 0, HT.out.set3 0, by have hh := HYR.out; subst hh; exact num_ok H4.out HT0.out HZ.out HA2.out c.1 (by simp [bad]; omega)⟩, hBW.setCell (p := ⟨w.heap.size + 1 + 1, 0, none⟩) (by simp; omega) _⟩
      · gi_wp2
        exact ⟨h3K.trans (KeepsOthers.setCell _ _ _), ⟨rfl, a2, (j : Int) + 1, 0, HT.out.set3 0, by have hh := HYR.out; subst hh; exact num_ok H4.out HT0.out HZ.out HA2.out c.1 (by simp [bad]; omega)⟩, hBW.setCell (p := ⟨w.heap.size + 1 + 1, 0, none⟩) (by simp; omega) _⟩
      · obtain rfl : j = 9 := by omega
        gi_wp2
        exact ⟨h3K.trans (KeepsOthers.setCell _ _ _), ⟨rfl, a2, 10, 12, HT.out.set3 12, by have hh := HYR.out; subst hh; exact num_many H4.out HT0.out HZ.out HA2.out c.1 (by omega)⟩, hBW.setCell (p := ⟨w.heap.size + 1 + 1, 0, none⟩) (by simp; omega) _⟩
      · gi_wp2
        exact ⟨h3K, h3B, ⟨a2, (j : Int) + 1, HT.out, by have hh := HYR.out; subst hh; exact num_go H4.out HT0.out HZ.out HA2.out c.1 (by omega)⟩, hBW⟩
      · gi_wp2
        exact ⟨h3K, h3B, ⟨a2, (j : Int) + 1, HT.out, by have hh := HYR.out; subst hh; exact num_go H4.out HT0.out HZ.out HA2.out c.1 (by omega)⟩, hBW⟩
  case done =>
    rintro D ys W hD rfl ⟨⟨a, m, h3, h4⟩, hB⟩ hK
    obtain ⟨e2, h3, hN⟩ : ∃ e2 : Nat, Three W w.heap.size a m e2 ∧ NumR r a m e2 := ⟨20, h3, num_done h4⟩
    have HN := Lib.hid hN; clear h4 hN
    have H3 := Lib.hid h3
    obtain ⟨h1, h2, h3c, f1, f2, f3⟩ := h3
    gi_wp2
    gi_region
    gi_wp2
    show Exit.noGoto _ Exit.ret _ _
    rw [Exit.noGoto_ret]
    have hK' := (((KeepsOthers.setCell W ⟨w.heap.size, 0, none⟩ (.int .u64 a)).trans (KeepsOthers.setCell _ ⟨w.heap.size + 1, 0, none⟩ (.int .i64 m))).trans (KeepsOthers.setCell _ ⟨w.heap.size + 1 + 1, 0, none⟩ (.int .i64 (e2 : Nat)))).same D _ hK rfl
    have hB4 := (((hB.setCell (p := ⟨w.heap.size, 0, none⟩) (Nat.le_refl _) (.int .u64 a)).setCell (p := ⟨w.heap.size + 1, 0, none⟩) (by simp) (.int .i64 m)).setCell (p := ⟨w.heap.size + 1 + 1, 0, none⟩) (by simp; omega) (.int .i64 (e2 : Nat))).drew
    have T4 := ((((H3.out.set1 a).set2 m).set3 e2).drew).kept (grownBy_putObj' _ D (.deferred none)) (fun r e => by cases e; exact ⟨_, hK', rfl⟩)
    refine ⟨by simp, .inl ⟨_, _, rfl, run_takeDeferred hK', ?_⟩⟩
    refine ⟨.tuple #[.int .u64 a, .int .i64 m, .int .i64 (e2 : Nat)], ?_, ⟨a, m, e2, rfl, by rw [hr]; exact HN.out⟩, hB4.trans ((belowK_b (w := w) (Nat.le_refl _) _ D _ _ (by simp at hD; omega) hK' rfl rfl))⟩
    simp [results, Try.f34, go_sem, T4.c1, T4.c2, T4.c3]
  case stop =>
    rintro D c pre W hD hSp ⟨⟨rfl, a, m, e2, h3, h4⟩, hB⟩ hK
    have HN := Lib.hid (num_stop hSp h4); clear h4 hSp
    have H3 := Lib.hid h3
    obtain ⟨h1, h2, h3c, f1, f2, f3⟩ := h3
    gi_wp2
    gi_region
    gi_wp2
    show Exit.noGoto _ Exit.ret _ _
    rw [Exit.noGoto_ret]
    have hK' := (((KeepsOthers.setCell W ⟨w.heap.size, 0, none⟩ (.int .u64 a)).trans (KeepsOthers.setCell _ ⟨w.heap.size + 1, 0, none⟩ (.int .i64 m))).trans (KeepsOthers.setCell _ ⟨w.heap.size + 1 + 1, 0, none⟩ (.int .i64 (e2 : Nat)))).same D _ hK rfl
    have hB4 := (((hB.setCell (p := ⟨w.heap.size, 0, none⟩) (Nat.le_refl _) (.int .u64 a)).setCell (p := ⟨w.heap.size + 1, 0, none⟩) (by simp) (.int .i64 m)).setCell (p := ⟨w.heap.size + 1 + 1, 0, none⟩) (by simp; omega) (.int .i64 (e2 : Nat))).drew
    have T4 := ((((H3.out.set1 a).set2 m).set3 e2).drew).kept (grownBy_putObj' _ D (.deferred none)) (fun r e => by cases e; exact ⟨_, hK', rfl⟩)
    refine ⟨by simp, .inl ⟨_, _, rfl, run_takeDeferred hK', ?_⟩⟩
    refine ⟨.tuple #[.int .u64 a, .int .i64 m, .int .i64 (e2 : Nat)], ?_, ⟨a, m, e2, rfl, by rw [hr]; exact HN.out⟩, hB4.trans ((belowK_b (w := w) (Nat.le_refl _) _ D _ _ (by simp at hD; omega) hK' rfl rfl))⟩
    simp [results, Try.f34, go_sem, T4.c1, T4.c2, T4.c3]
end Go.Proofs.Ythlgeffjoaiojaa
