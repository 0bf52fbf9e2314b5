/-
  Layer 17: Put.
-/
import Derived.Deep.AppendLies
import Derived.RangeFuncWrites
import Derived.Test.YtlkoddohplcmnaaPoolA
namespace Go.Proofs.Ytlkoddohplcmnaa
open Go Go.RowKit Go.Maps Go.WideMaps

theorem wf_nat (n : Nat) (h : n ≤ 1000000) : (Lit.int .i64 (n : Int)).wf = true := by
  simp [Lit.wf, IntKind.min, IntKind.max, IntKind.signed, IntKind.bits]; omega
theorem Turned.grown {T : Nat → Prop} {w w' : World} {row : Option Nat} (h : w.grownBy w' row) (hr : ∀ g, row = some g → T g) : Turned T w w' :=
  ⟨h.os, h.tape, h.output, h.size, fun k hk hT => h.block k hk (fun e => hT (hr k e.symm))⟩
theorem Turned.trans {T : Nat → Prop} {a b c : World} (h : Turned T a b) (k : Turned (fun j => T j ∨ a.heap.size ≤ j) b c) : Turned T a c :=
  ⟨k.os.trans h.os, k.tape.trans h.tape, k.output.trans h.output, Nat.le_trans h.size k.size, fun j hj hT => (k.block j (Nat.lt_of_lt_of_le hj h.size) (fun h1 => h1.elim hT fun h2 => absurd hj (by omega))).trans (h.block j hj hT)⟩
theorem Turned.setCell {T : Nat → Prop} (w : World) {b : Nat} (i : Nat) (u : Value) (hT : T b) : Turned T w (w.setCell ⟨b, i, none⟩ u) :=
  ⟨rfl, rfl, rfl, by simp, fun k _ hk => Below.heap_setCell w ⟨b, i, none⟩ u k (fun e => hk (by rw [e]; exact hT))⟩
/-- A pool's blocks, and new ones. -/
abbrev Wider (T : Nat → Prop) (w : World) : Nat → Prop := fun k => T k ∨ w.heap.size ≤ k
theorem Turned.mono {T T' : Nat → Prop} {w w' : World} (h : Turned T w w') (hT : ∀ k, T k → T' k) : Turned T' w w' := ⟨h.os, h.tape, h.output, h.size, fun k hk hn => h.block k hk (fun e => hn (hT k e))⟩
theorem PoolAt.wider {w : World} {T T' : Nat → Prop} {pb : Nat} {row : Row} (h : PoolAt w T pb row) (hT : ∀ k, T k → T' k) : PoolAt w T' pb row := by
  obtain ⟨mb, vl, D, c0, c1, f0, hrow, hmap, hag, hne, hg, tp, tm, hnd, hx, hl⟩ := h
  exact ⟨mb, vl, D, c0, c1, f0, hrow, hmap, hag, hne, fun g e => ⟨(hg g e).1, (hg g e).2.1, hT _ (hg g e).2.2⟩, hT _ tp, hT _ tm, hnd, hx, hl⟩
theorem PoolAt.keep {w w' : World} {T : Nat → Prop} {pb : Nat} {row : Row} (h : PoolAt w T pb row) (hk : ∀ k, k < w.heap.size → T k → w'.heap[k]? = w.heap[k]?) : PoolAt w' T pb row := by
  obtain ⟨mb, vl, D, c0, c1, f0, hrow, hmap, hag, hne, hg, tp, tm, hnd, hx, hl⟩ := h
  have hp : pb < w.heap.size := World.block_lt_of_cell? w _ c0
  have hm : mb < w.heap.size := hmap.lt
  have ep := hk pb hp tp
  have em := hk mb hm tm
  refine ⟨mb, vl, D, (World.cell?_of_block (a := ⟨pb, 0, none⟩) ep).trans c0, (World.cell?_of_block (a := ⟨pb, 1, none⟩) ep).trans c1, (World.frozen?_of_block (a := ⟨pb, 0, none⟩) ep).trans f0, ?_, ?_, hag, hne, hg, tp, tm, hnd, hx, hl⟩
  · refine ⟨hrow.1, ?_⟩
    rcases hrow.2 with hn | ⟨g, cap, cur, rfl, hb, hgg, rest⟩
    · exact .inl hn
    · refine .inr ⟨g, cap, cur, rfl, hb, ?_, rest⟩
      rw [hk g (Array.getElem?_eq_some_iff.1 hgg).1 (hg g rfl).2.2]
      exact hgg
  · obtain ⟨es, cl, h1, h2⟩ := hmap
    exact ⟨es, cl, em.trans h1, h2⟩

theorem own_ne {v : Value} {m : Nat} (h : ∀ g, v.ownBlock = some g → g ≠ m) : v.ownBlock = none ∨ v.ownBlock ≠ some m := by
  rcases hv : v.ownBlock with _ | g
  · exact .inl rfl
  · exact .inr (fun e => h g hv (Option.some.inj e))
theorem put_facts {w1 w2 : World} {o : Obj} {ob : Option Nat} {pb : Nat} {vl : Value} (h : (w1.alloc o).grownBy w2 ob) (hp : pb < w1.heap.size) (hne : some pb ≠ ob) (hf : w1.frozen? ⟨pb, 0, none⟩ = false) (hc : w1.cell? ⟨pb, 0, none⟩ = some vl) :
    w2.frozen? ⟨pb, 0, none⟩ = false ∧ w2.cell? ⟨pb, 0, none⟩ = some vl := by
  have hp1 : pb < (w1.alloc o).heap.size := by simp; omega
  exact ⟨(h.frozen_far ⟨pb, 0, none⟩ hp1 hne).trans (((World.grownBy_alloc w1 o none).frozen_far ⟨pb, 0, none⟩ hp (by simp)).trans hf), (h.cell_far ⟨pb, 0, none⟩ hp1 hne).trans (((World.grownBy_alloc w1 o none).cell_far ⟨pb, 0, none⟩ hp (by simp)).trans hc)⟩
theorem own_pb {v : Value} {pb mb : Nat} {T : Nat → Prop} (h : ∀ g, v.ownBlock = some g → g ≠ pb ∧ g ≠ mb ∧ T g) : some pb ≠ v.ownBlock := fun e => (h pb e.symm).1 rfl
theorem own_mem {w : World} {base : Nat} {e : TypeId} {v : Value} {n : Nat} {xs : List Value} (h : w.ownsRow base e 1 v n xs) : ∀ g, v.ownBlock = some g → g < w.heap.size := fun g hg => (h.lt g hg).2
theorem own_cells {w : World} {base : Nat} {e : TypeId} {v : Value} {n : Nat} {xs : List Value} (h : w.ownsRow base e 1 v n xs) : ∀ (j : Nat) (o : Obj), v.ownBlock = some j → w.heap[j]? = some o → o.isCells = true := by
  intro j o hj hjo
  rcases h.2 with ⟨rfl, _⟩ | ⟨g, cap, cur, rfl, hb, hgg, _⟩
  · simp [Value.ownBlock] at hj
  · simp [Value.ownBlock] at hj
    subst hj
    rw [hgg] at hjo
    cases hjo
    rfl
theorem put_end {w w1 w2 : World} {T : Nat → Prop} {pb mb : Nat} {vl v2 : Value} {D : DataW Unit} {row : Row} {x : List UInt8} {t : TypeId} (hp : pb < w.heap.size) (hm : mb < w.heap.size) (hne : mb ≠ pb)
    (hg : ∀ g, vl.ownBlock = some g → g ≠ pb ∧ g ≠ mb ∧ T g) (tp : T pb) (tm : T mb) (hxs : ∀ y ∈ row, y.length ≤ maxLen) (hx : x.length ≤ maxLen) (hl1 : row.length < 100000) (hag : AgreeM (D.put (.string x) (.lit (.int .i64 row.length))) (row ++ [x])) (hnd : (row ++ [x]).Nodup)
    (c1 : w1.cell? ⟨pb, 1, none⟩ = some (.map (some mb))) (g1 : w.grownBy w1 (some mb)) (hown1 : w1.ownsMap Try.prog 9 (plainElem Try.prog 3) mb (row.length + 1) (D.put (.string x) (.lit (.int .i64 row.length))))
    (g2 : (w1.alloc (.cells #[str x] t)).grownBy w2 vl.ownBlock) (hown2 : w2.ownsRow 0 9 1 v2 (row.length + 1) (strsV row ++ [str x])) (hloc : v2.ownBlock = vl.ownBlock ∨ v2.ownBlock = some (w1.alloc (.cells #[str x] t)).heap.size)
    (f0 : w2.frozen? ⟨pb, 0, none⟩ = false) (c0 : w2.cell? ⟨pb, 0, none⟩ = some vl) (hcl : ∀ (j : Nat) (o : Obj), vl.ownBlock = some j → (w1.alloc (.cells #[str x] t)).heap[j]? = some o → o.isCells = true) : (∀ B, mb < B → KeepsFrom B w (w2.setCell ⟨pb, 0, none⟩ v2)) ∧ (w2.setCell ⟨pb, 0, none⟩ v2).cell? ⟨pb, 1, none⟩ = some (.map (some mb)) ∧ PoolAt (w2.setCell ⟨pb, 0, none⟩ v2) (Wider T w) pb (row ++ [x]) ∧ Turned T w (w2.setCell ⟨pb, 0, none⟩ v2) := by
  have s1 := g1.size
  have s2 := g2.size
  have hsz : (w1.alloc (.cells #[str x] t)).heap.size = w1.heap.size + 1 := by simp
  have hn2 : ∀ g, v2.ownBlock = some g → g ≠ pb ∧ g ≠ mb ∧ (T g ∨ w.heap.size ≤ g) := fun g e => by
    rcases hloc with h | h
    · have := hg g (h ▸ e); exact ⟨this.1, this.2.1, .inl this.2.2⟩
    · rw [h] at e
      cases e
      exact ⟨by omega, by omega, .inr (by omega)⟩
  have hm2 : w2.ownsMap Try.prog 9 (plainElem Try.prog 3) mb (row.length + 1) (D.put (.string x) (.lit (.int .i64 row.length))) :=
    (hown1.alloc _).kept g2 (fun e => (hg mb e.symm).2.1 rfl)
  have hc1 : (w2.setCell ⟨pb, 0, none⟩ v2).cell? ⟨pb, 1, none⟩ = some (.map (some mb)) := by
    rw [World.cell?_setCell_other _ _ _ _ (fun e => by have := congrArg Addr.off e; simp at this)]
    refine (g2.cell_far ⟨pb, 1, none⟩ (by rw [hsz]; show pb < _; omega) (fun e => (hg pb e.symm).1 rfl)).trans ?_
    exact ((World.grownBy_alloc w1 _ none).cell_far ⟨pb, 1, none⟩ (by show pb < _; omega) (by simp)).trans c1
  refine ⟨fun B hB => (((KeepsFrom.of_grownBy g1 (fun j e => by cases e; exact hB)).trans ((KeepsOthers.alloc w1 _).from B)).trans ((KeepsOthers.of_grownBy g2 hcl).from B)).trans ((KeepsOthers.setCell _ _ _).from B), hc1, ⟨mb, v2, _, World.cell?_setCell_same' _ _ _ (by rw [c0]; rfl), hc1, by rw [World.frozen?_setCell]; exact f0, ?_, ?_, hag, hne, hn2, .inl tp, .inl tm, hnd, ?_, by simp; omega⟩, ?_⟩
  · have h := hown2.kept (w' := w2.setCell ⟨pb, 0, none⟩ v2) (row := some pb) ⟨rfl, rfl, rfl, by simp, fun j _ hr => Below.heap_setCell w2 ⟨pb, 0, none⟩ v2 j (fun e => hr (by rw [e]))⟩ (own_ne (fun g e => (hn2 g e).1))
    rw [strsV_append, List.length_append]
    exact h
  · have h := hm2.setCell (a := ⟨pb, 0, none⟩) hne v2
    rw [List.length_append]
    exact h
  · intro y hy
    rcases List.mem_append.1 hy with h | h
    · exact hxs y h
    · simp at h; subst h; exact hx
  · refine ⟨?_, ?_, ?_, ?_, fun k hk hT => ?_⟩
    · exact g2.os.trans g1.os
    · exact g2.tape.trans g1.tape
    · exact g2.output.trans g1.output
    · simp; omega
    · have hkp : k ≠ pb := fun e => hT (e ▸ tp)
      have hkm : k ≠ mb := fun e => hT (e ▸ tm)
      refine (Below.heap_setCell w2 ⟨pb, 0, none⟩ v2 k hkp).trans ?_
      refine (g2.block k (by rw [hsz]; omega) (fun e => hT (hg k e.symm).2.2)).trans ?_
      refine ((World.grownBy_alloc w1 (.cells #[str x] t) none).block k (by omega) (by simp)).trans ?_
      exact g1.block k hk (fun e => hkm (Option.some.inj e))
set_option maxHeartbeats 1000000 in
theorem put_any2 {w : World} {T : Nat → Prop} {pb : Nat} {row : Row} (h : PoolAt w T pb row) (x : List UInt8) (hx : x.length ≤ maxLen) (hl1 : row.length < 100000) :
    Calls Try.prog 13 #[.pointer (some ⟨pb, 0, none⟩), str x] w fun e w' =>
      e = .returned (.tuple #[.int .i64 (idx (putL row x) x), .int .i64 0]) ∧ PoolAt w' (Wider T w) pb (putL row x) ∧ Turned T w w' ∧ w'.cell? ⟨pb, 1, none⟩ = w.cell? ⟨pb, 1, none⟩ ∧ ∀ mb, w.cell? ⟨pb, 1, none⟩ = some (.map (some mb)) → ∀ B, mb < B → KeepsFrom B w w' := by
  have hP := h
  obtain ⟨i0, hi, hz0, hz1, hz2⟩ := info_parts infoStr
  obtain ⟨mb, vl, D, c0, c1, f0, hrow, hmap, hag, hne, hg, tp, tm, hnd, hxs, hl⟩ := h
  have hkey := keyOf_str hx
  by_cases hm : x ∈ row
  · have HR : Hid (Maps.has D (.string x) = true ∧ D.atKey (.string x) (.lit (.int .i64 0)) = .lit (.int .i64 (idx row x)) ∧ putL row x = row) := by
      refine ⟨by rw [hag.2.1 x]; simpa using hm, ?_, by unfold putL; rw [if_pos hm]⟩
      have := hag.2.2 _ (idx_lt hm)
      rwa [idx_at hm] at this
    have HP := Lib.hid hP
    have hh := HR.out.1
    clear hag hP hm hg hrow hxs
    go_enter Try.func13, Try.ntmps13
    go_wp2_with (at_lookup; refine wpList_lookup_own_ok_int _ rfl _ _ 52 rfl 9 3 .i64 keyStr Try.underlying52 Try.underlying3 (zeroE _) mb row.length D rfl hmap _ _ rfl hkey ?_; intro c hat hwc; rw [hh])
    go_ret2
    have h2 := HR.out.2.1
    rw [hat] at h2
    simp only [DataW.lit.injEq, Lit.int.injEq, true_and] at h2
    rw [h2, HR.out.2.2]
    exact ⟨rfl, HP.out.wider (fun k hk => .inl hk), Turned.refl _ _, rfl, fun _ _ B _ => KeepsFrom.refl B _⟩
  · have HR : Hid (Maps.has D (.string x) = false ∧ putL row x = row ++ [x] ∧ idx (row ++ [x]) x = row.length) := ⟨by rw [hag.2.1 x]; simpa using hm, by unfold putL; rw [if_neg hm], idx_put hm⟩
    have hh := HR.out.1
    have HAG := Lib.hid (agree_put hag hm)
    have HND := Lib.hid (show (row ++ [x]).Nodup by have h := putL_nodup hnd x; rwa [HR.out.2.1] at h)
    have hp : pb < w.heap.size := World.block_lt_of_cell? w _ c0
    have hvf := (Sl.of_own hrow).form
    obtain ⟨A, c, rfl⟩ := hvf
    have HG := Lib.hid hg
    have HXS := Lib.hid hxs
    have HC1 := Lib.hid c1
    clear hag hP hm hg hxs hnd
    go_enter Try.func13, Try.ntmps13
    go_wp2_with (first
      | (at_lookup; refine wpList_lookup_own_ok_int _ rfl _ _ 52 rfl 9 3 .i64 keyStr Try.underlying52 Try.underlying3 (zeroE _) mb row.length D rfl hmap _ _ rfl hkey ?_; intro cc hat hwc; rw [hh])
      | (at_mapUpdate; refine wpList_mapUpdate_own _ rfl _ _ _ 52 rfl 9 3 keyStr Try.underlying52 _ mb row.length D rfl hmap (by unfold maxLen; omega) _ _ _ rfl rfl hkey _ [] (plainElem_int Try.underlying3 (wf_nat _ (by omega))) ?_; intro w1 hown1 hgrow1; have c0' := (hgrow1.cell_far ⟨pb, 0, none⟩ hp (by simpa using Ne.symm hne)).trans c0; have c1' := (hgrow1.cell_far ⟨pb, 1, none⟩ hp (by simpa using Ne.symm hne)).trans c1; have f0' := (hgrow1.frozen_far ⟨pb, 0, none⟩ hp (by simpa using Ne.symm hne)).trans f0; have hrow1 := hrow.kept hgrow1 (own_ne (fun g e => (HG.out g e).2.1)))
      | (at_builtin; refine wpList_append_own_at _ rfl _ _ 22 rfl 0 9 i0 (.string ⟨#[]⟩) 1 16 Try.underlying22 hi hz0 hz1 hz2 rfl (by decide) (.slice A row.length c) row.length (strsV row) rfl (hrow1.alloc _) ⟨w1.heap.size, 0, none⟩ 1 1 [str x] rfl rfl (cell_one_new _ _ _) (by simp [Value.oneCell']) (by unfold maxLen; omega) (by omega) (Nat.zero_le _) ?_; intro v2 w2 hown2 hgrow2 hnil2 hloc2; obtain ⟨g2, c2, rfl, _, hg2⟩ := own_at hown2 (by omega); obtain ⟨f0'', c0''⟩ := put_facts hgrow2 (Nat.lt_of_lt_of_le hp hgrow1.size) (own_pb HG.out) f0' c0'))
    go_ret2
    have hend := put_end hp hmap.lt hne HG.out tp tm HXS.out hx hl1 HAG.out HND.out c1' hgrow1 hown1 hgrow2 hown2 hloc2 f0'' c0'' (own_cells (hrow1.alloc _))
    rw [HR.out.2.1, HR.out.2.2]
    exact ⟨rfl, hend.2.2.1, hend.2.2.2, hend.2.1.trans HC1.out.symm, fun mb' hm' B hB => hend.1 B (by rw [HC1.out] at hm'; cases hm'; exact hB)⟩
theorem put_any {w : World} {T : Nat → Prop} {pb : Nat} {row : Row} (h : PoolAt w T pb row) (x : List UInt8) (hx : x.length ≤ maxLen) (hl1 : row.length < 100000) :
    Calls Try.prog 13 #[.pointer (some ⟨pb, 0, none⟩), str x] w fun e w' =>
      e = .returned (.tuple #[.int .i64 (idx (putL row x) x), .int .i64 0]) ∧ PoolAt w' (Wider T w) pb (putL row x) ∧ Turned T w w' :=
  (put_any2 h x hx hl1).mono fun _ _ ⟨h1, h2, h3, _⟩ => ⟨h1, h2, h3⟩
end Go.Proofs.Ytlkoddohplcmnaa
