/-
  Layer 17: Sorted.
-/
import Derived.Sort.OwnSorted
import Derived.Test.YtlkoddohplcmnaaPoolE
namespace Go.Proofs.Ytlkoddohplcmnaa
open Go Go.RowKit Go.Maps Go.WideMaps Go.Shelf Go.Sort
attribute [local go_sem] Oper.semAt_some

def sortL (l : Row) : Row := l.mergeSort fun x y => decide (x ≤ y)
theorem sortL_len (l : Row) : (sortL l).length = l.length := List.length_mergeSort _
theorem mem_sortL {l : Row} {x : List UInt8} : x ∈ sortL l ↔ x ∈ l := List.mem_mergeSort
theorem sortL_nodup {l : Row} (h : l.Nodup) : (sortL l).Nodup := (List.mergeSort_perm l _).nodup_iff.2 h
theorem ofL_nodup {l : Row} (h : l.Nodup) : ofL l = l := by
  have key : ∀ (l acc : Row), (acc ++ l).Nodup → l.foldl putL acc = acc ++ l := by
    intro l
    induction l with
    | nil => intro acc _; simp
    | cons x l ih =>
      intro acc hn
      have hx : x ∉ acc := fun hm => by
        rw [List.nodup_append] at hn
        exact hn.2.2 x hm x (by simp) rfl
      have e : putL acc x = acc ++ [x] := by unfold putL; rw [if_neg hx]
      rw [List.foldl_cons, e, ih _ (by simpa using hn)]
      simp
  simpa [ofL] using key l [] (by simpa using h)

/-- slices.Sort of texts. -/
theorem sort_any {w : World} {base : Nat} {v : Value} {l : Row} (h : w.ownsRow base 9 1 v l.length (strsV l)) (hl : l.length ≤ 100000) :
    Calls Try.prog 26 #[v] w fun e w' => e = .returned (.tuple #[]) ∧ w'.ownsRow base 9 1 v l.length (strsV (sortL l)) ∧ w.grownBy w' v.ownBlock := by
  rcases h.2 with ⟨rfl, h0⟩ | ⟨g, cap, cur, rfl, hbase, hb, h1, h2, h3, h4⟩
  · have hl0 : l = [] := List.eq_nil_of_length_eq_zero h0
    subst hl0
    exact (Try.slices_Sort_string_none none 0 w).mono fun e w' ⟨he, hw⟩ => ⟨he, by subst hw; simpa [sortL, strsV] using h, by subst hw; exact ⟨rfl, rfl, rfl, Nat.le_refl _, fun _ _ _ => rfl⟩⟩
  · have hH : Holds encStr w g 0 l.toArray := holds_of_block hb (by simpa [strsV] using h4)
    refine (Try.slices_Sort_string g 0 cap l w hH (Array.getElem?_eq_some_iff.1 hb).1 (by omega)).mono ?_
    rintro e w' ⟨he, n, os, rfl⟩
    refine ⟨he, ?_, grownBy_sorted _⟩
    have := ownsRow_sorted (os := os) (n := n) (ss := l) (ts := sortL l) (sortL_len l) hbase hb h1 h2 h3
    exact this

/-- A round that appends to a captured slice. -/
theorem append_round {W W5 : World} {L M n : Nat} {v v2 y : Value} {xs : List Value} {t e : TypeId} {T : Nat → Prop} (hTL : T L) (hTM : ∀ k, M ≤ k → T k) (hLM : L < M) (ho : W.ownsRow M e 1 v n xs)
    (hg : (W.alloc (.cells #[y] t)).grownBy W5 v.ownBlock) (ho2 : W5.ownsRow M e 1 v2 (n + 1) (xs ++ [y])) (f3 : W5.frozen? ⟨L, 0, none⟩ = false) (c3 : W5.cell? ⟨L, 0, none⟩ = some v) :
    KeepsOthers W (W5.setCell ⟨L, 0, none⟩ v2) ∧ Turned T W (W5.setCell ⟨L, 0, none⟩ v2) ∧ (W5.setCell ⟨L, 0, none⟩ v2).cell? ⟨L, 0, none⟩ = some v2 ∧ (W5.setCell ⟨L, 0, none⟩ v2).frozen? ⟨L, 0, none⟩ = false ∧ (W5.setCell ⟨L, 0, none⟩ v2).ownsRow M e 1 v2 (n + 1) (xs ++ [y]) := by
  refine ⟨?_, ?_, World.cell?_setCell_same' _ _ _ (by rw [c3]; rfl), by rw [World.frozen?_setCell]; exact f3, ?_⟩
  · refine ((KeepsOthers.alloc W _).trans (KeepsOthers.of_grownBy hg ?_)).trans (KeepsOthers.setCell _ _ _)
    intro j o hj hjo
    rcases ho.2 with ⟨rfl, _⟩ | ⟨g, cap, cur, rfl, hb, hgg, _⟩
    · simp [Value.ownBlock] at hj
    · simp [Value.ownBlock] at hj
      subst hj
      have h := (Below.heap_alloc W (.cells #[y] t) g (Array.getElem?_eq_some_iff.1 hgg).1).trans hgg
      rw [h] at hjo
      cases hjo
      rfl
  · refine (Turned.grown (T := T) (World.grownBy_alloc W (.cells #[y] t) none) (fun g e => by cases e)).trans1 ?_
    refine (Turned.grown hg (fun g e => hTM g (ho.lt g e).1)).trans1 (Turned.setCell _ _ _ hTL)
  · exact ho2.kept (row := some L) ⟨rfl, rfl, rfl, by simp, fun j _ hr => Below.heap_setCell W5 ⟨L, 0, none⟩ v2 j (fun e => hr (by rw [e]))⟩ (own_ne (fun g e => by have := (ho2.lt g e).1; omega))

set_option maxRecDepth 100000 in
set_option maxHeartbeats 2000000 in
theorem sorted_of {w : World} (p : Option Addr) (row : Row) (hnd : row.Nodup) (hxs : ∀ x ∈ row, x.length ≤ maxLen) (hrl : row.length ≤ 1000)
    (hAll : ∀ w', Below w.heap.size w w' → Calls Try.prog 23 #[.pointer p] w' (AllPost w'.heap.size w' row)) :
    Calls Try.prog 17 #[.pointer p] w fun e w' => (∃ sb pv, e = .returned (.tuple #[.pointer (some ⟨sb, 0, none⟩), pv]) ∧ PoolAt w' (From w.heap.size) sb (sortL row) ∧
      Sl w' w'.heap.size 1 pv row.length (row.map fun x => .int .i64 (idx (sortL row) x : Nat))) ∧ Below w.heap.size w w' := by
  obtain ⟨i0, hi, hz0, hz1, hz2⟩ := info_parts infoStr
  refine (callsIn_wide (n := 8)).1 ?_
  refine callsIn_of_wp_marks Try.func17 rfl trivial ?_ rfl
  simp only [Try.ntmps17, List.size_toArray, List.length_cons, List.length_nil, Nat.reduceAdd, Nat.reduceSub, Array.replicate_succ, Array.replicate_zero, List.push_toArray, List.append_toArray, List.nil_append, List.cons_append]
  have HALL := Lib.hid hAll
  clear hAll
  gi_wp2
  refine ⟨trivial, ?_⟩
  have q0 := cell_new1 w (.slice none 0 0) 22
  obtain ⟨W0, hW0⟩ : ∃ W0, w.alloc (.cells #[.slice none 0 0] 22) = W0 := ⟨_, rfl⟩
  have hB0 : Below w.heap.size w W0 := by rw [← hW0]; exact (Below.refl _ _).alloc (Nat.le_refl _) _
  have hs0 : W0.heap.size = w.heap.size + 1 := by rw [← hW0]; simp
  rw [hW0] at q0 ⊢
  clear hW0
  refine (callsIn_wide.2 (HALL.out _ hB0)).mono ?_
  rintro e W2 ⟨B, vs, rfl, hcB, ⟨hvs, hvB⟩, hB1, hB2, hb2⟩
  have q1 := (hb2.cell (p := ⟨w.heap.size, 0, none⟩) (by show w.heap.size < _; omega)).trans q0.1
  have q2 := (hb2.frozen (p := ⟨w.heap.size, 0, none⟩) (by show w.heap.size < _; omega)).trans q0.2
  have hB' := hB0.trans (hb2.mono (by omega))
  gi_wp2
  have hs2 : w.heap.size + 2 ≤ W2.heap.size := by have := hb2.size; omega
  have hstay := stays (T := fun k => k = w.heap.size ∨ W2.heap.size ≤ k) hvs hvB (by omega) (fun k h1 h2 h3 => by omega)
  have hseq := all1_stops 7 (by omega) B (fun k => k = w.heap.size ∨ W2.heap.size ≤ k) vs row (by omega) W2 hB2 hcB hstay
  clear hstay hvs hvB q0 hcB
  refine wpIn_rangeFunc_ownF rfl (by omega) (gf := 33) (lb := #[.pointer (some ⟨B, 0, none⟩)]) rfl trivial (enters_of Try.func33 (by kernel_rfl) rfl)
    hseq Turned.trans1 (turnedK_b (fun k hk => .inr hk)) (Below.refl _ _) (fun _ => rfl)
    (fun pre W => (∃ v, W.cell? ⟨w.heap.size, 0, none⟩ = some v ∧ W.frozen? ⟨w.heap.size, 0, none⟩ = false ∧ W.ownsRow W2.heap.size 9 1 v pre.length (strsV (pre.map fun x => row[x.1]))) ∧ Turned (fun k => k = w.heap.size ∨ W2.heap.size ≤ k) W2 W)
    (fun c pre W => False)
    ?hI ?hIx ⟨⟨_, q1, q2, World.ownsRow_nil _ _ _ _⟩, Turned.refl _ _⟩
    (fun x => { tmps := #[.pointer p, undef, .pointer none, .slice none 0 0, .pointer (some ⟨w.heap.size, 0, none⟩), undef, str row[x.1], undef, undef, undef, undef, undef, undef, .pointer p, .func (.func 33) #[] #[.pointer (some ⟨B, 0, none⟩)], .int .i64 (x.1 : Int), str row[x.1], undef, undef, undef, undef, undef, undef, undef, undef, undef, undef, undef, undef, undef, undef, undef, undef, undef, undef, undef, undef, undef, undef, undef, undef], defers := [] }) ?assign ?body ?done ?stop
  case hI =>
    exact OwnFrom.and (Own.from (fun s A B r hs hg hr => by
      obtain ⟨v, h1, h2, h3⟩ := hs
      exact ⟨v, cell_kept h1 hg hr, (frozen_kept h1 hg hr).trans h2, own_kept h3 hg hr⟩) _) (ownFrom_turned (fun k hk => .inr hk))
  case hIx =>
    exact fun c => Own.from (fun s A B r hs hg hr => hs) _
  case assign =>
    intro lp x W K hK
    unfold encS
    gi_wp2
    exact hK
  case body =>
    rintro lp pre x W ⟨⟨v, c1, c2, ho⟩, hT⟩ hlt
    obtain ⟨j, hj⟩ := x
    dsimp only
    obtain ⟨A, c, rfl⟩ : ∃ A c, v = .slice A pre.length c := (Sl.of_own ho).form
    have hsz := hT.size
    have hL : w.heap.size < W.heap.size := by omega
    have hmap : strsV ((pre ++ [(⟨j, hj⟩ : _root_.Fin (List.length row))]).map fun x => row[x.1]) = strsV (pre.map fun x => row[x.1]) ++ [str row[j]] := by simp [strsV]
    have hlen : (pre ++ [(⟨j, hj⟩ : _root_.Fin (List.length row))]).length = pre.length + 1 := by simp
    have HM := Lib.hid hmap
    have HLn := Lib.hid hlen
    clear hmap hlen hseq
    generalize row[j] = y at *
    gi_wp2_with (gi_at_builtin; refine wpListIn_append_own _ rfl _ _ 22 rfl W2.heap.size 9 i0 (.string ⟨#[]⟩) 1 16 Try.underlying22 hi hz0 hz1 hz2 rfl (by decide) (.slice A pre.length c) pre.length _ rfl (ho.alloc _) ⟨W.heap.size, 0, none⟩ 1 1 [str y] rfl rfl (cell_one_new _ _ _) (by simp [Value.oneCell']) (by unfold maxLen; omega) (by omega) (by simp; omega) ?_; intro v2 W5 hown2 hgrow2 hnil2; obtain ⟨g2, c2', rfl, hg2, _⟩ := own_at hown2 (by omega); obtain ⟨f3, c3⟩ := put_facts hgrow2 hL (fun e => by have := (ho.lt _ e.symm).1; omega) c2 c1)
    obtain ⟨r1, r2, r3, r4, r5⟩ := append_round (T := fun k => k = w.heap.size ∨ W2.heap.size ≤ k) (.inl rfl) (fun k hk => .inr hk) (by omega) ho hgrow2 hown2 f3 c3
    refine ⟨r1, r2, ⟨_, r3, r4, ?_⟩, hT.trans1 r2⟩
    rw [HLn.out, HM.out]
    exact r5
  case done =>
    rintro D ys W hD rfl ⟨⟨v, c1, c2, ho⟩, hT⟩ hK
    have hrow : (List.finRange row.length).map (fun x => row[x.1]) = row := by
      apply List.ext_getElem <;> simp
    rw [List.length_finRange, hrow] at ho
    have HK := Lib.hid hK
    have hsz := hT.size
    have hbW : Below w.heap.size w W := hB'.trans (hT.mono (T' := From w.heap.size) (fun k hk => hk.elim (fun h => by subst h; exact Nat.le_refl _) (fun h => by show w.heap.size ≤ k; omega)) |>.below (by omega))
    have HS := Lib.hid (sort_any ho (by omega))
    obtain ⟨A, c, rfl⟩ : ∃ A c, v = .slice A row.length c := (Sl.of_own ho).form
    clear hseq hrow hK
    gi_wp2
    refine ⟨trivial, ?_⟩
    refine (callsIn_wide.2 HS.out).mono ?_
    rintro e W6 ⟨rfl, ho6, hg6⟩
    have hs6 := hg6.size
    have hneL : some w.heap.size ≠ (Value.slice A row.length c).ownBlock := fun e => by have := (ho.lt _ e.symm).1; omega
    have c16 := (hg6.cell_far ⟨w.heap.size, 0, none⟩ (by show w.heap.size < _; omega) hneL).trans c1
    have hbW6 : Below w.heap.size w W6 := hbW.grown hg6 hbW.size (fun g e => by have := (ho.lt g e).1; omega)
    have hK6 : Hid (W6.heap[D]? = some (.deferred (some []))) := (KeepsOthers.of_grownBy hg6 (fun j o hj hjo => by
      rcases ho.2 with ⟨h1, _⟩ | ⟨g, cap, cur, h1, hb, hgg, _⟩
      · rw [h1] at hj; simp [Value.ownBlock] at hj
      · rw [h1] at hj
        simp [Value.ownBlock] at hj
        subst hj
        rw [hgg] at hjo
        cases hjo
        rfl)).same D _ HK.out rfl
    have hSt : Strs W6 W6.heap.size (.slice A row.length c) (sortL row) := strs_of_own (base := W2.heap.size) (e := 9) (by rw [sortL_len]; exact ho6)
    have HN := Lib.hid (new_any hSt (fun x hx => hxs x (mem_sortL.1 hx)) (by rw [sortL_len]; omega))
    rw [ofL_nodup (sortL_nodup hnd)] at HN
    clear ho6 hg6 hSt ho hT c1 c2 hbW hsz HK HS
    gi_wp2
    refine ⟨trivial, ?_⟩
    refine (callsIn_wide.2 HN.out).mono ?_
    rintro e W7 ⟨sb, rfl, hp7, hb7⟩
    have hs7 := hb7.size
    have hD6 : D < W6.heap.size := (Array.getElem?_eq_some_iff.1 hK6.out).1
    have hK7 : Hid (W7.heap[D]? = some (.deferred (some []))) := (hb7.block D hD6).trans hK6.out
    have hbW7 := hbW6.trans (hb7.mono hbW6.size)
    have HP7 := Lib.hid hp7
    have hsb := hp7.size
    clear hp7 hb7 HN hK6 c16
    gi_wp2
    refine ⟨trivial, ?_⟩
    have q7 := cell_new1 W7 (.pointer (some ⟨sb, 0, none⟩)) 25
    have q8 := cell_new1 (W7.alloc (.cells #[.pointer (some ⟨sb, 0, none⟩)] 25)) (.slice none 0 0) 36
    simp only [World.size_alloc] at q8
    have q7' := cell_alloc1 (.cells #[.slice none 0 0] 36) q7.1
    obtain ⟨W8, hW8⟩ : ∃ W8, (W7.alloc (.cells #[.pointer (some ⟨sb, 0, none⟩)] 25)).alloc (.cells #[.slice none 0 0] 36) = W8 := ⟨_, rfl⟩
    have hB8 : Below W7.heap.size W7 W8 := by rw [← hW8]; exact ((Below.refl _ _).alloc (Nat.le_refl _) _).alloc (by simp) _
    have hs8 : W8.heap.size = W7.heap.size + 2 := by rw [← hW8]; simp
    rw [hW8] at q7' q8 ⊢
    clear hW8 q7
    have hbW8 := hbW7.trans (hB8.mono hbW7.size)
    refine (callsIn_wide.2 (HALL.out _ hbW8)).mono ?_
    rintro e W9 ⟨B9, v9, rfl, hcB9, ⟨hvs9, hvB9⟩, hB91, hB92, hb9⟩
    have u7 := (hb9.cell (p := ⟨W7.heap.size, 0, none⟩) (by show W7.heap.size < _; omega)).trans q7'
    have u8 := (hb9.cell (p := ⟨W7.heap.size + 1, 0, none⟩) (by show W7.heap.size + 1 < _; omega)).trans q8.1
    have f8 := (hb9.frozen (p := ⟨W7.heap.size + 1, 0, none⟩) (by show W7.heap.size + 1 < _; omega)).trans q8.2
    have hb79 := hB8.trans (hb9.mono (by omega))
    have hs9 : W7.heap.size + 3 ≤ W9.heap.size := by have := hb9.size; omega
    have hbW9 := hbW7.trans (hb79.mono hbW7.size)
    have hK9 : Hid (W9.heap[D]? = some (.deferred (some []))) := (hb79.block D (by omega)).trans hK7.out
    obtain ⟨i1, hi', hz0', hz1', hz2'⟩ := info_parts infoInt
    clear hK7 q7' q8 hB8 hb9 hbW8
    gi_wp2
    have hseq := all1_stops 7 (by omega) B9 (fun k => k = W7.heap.size + 1 ∨ W9.heap.size ≤ k) v9 row (by omega) W9 hB92 hcB9 (stays (T := fun k => k = W7.heap.size + 1 ∨ W9.heap.size ≤ k) hvs9 hvB9 (by omega) (fun k h1 h2 h3 => by omega))
    clear hvs9 hvB9 hcB9
    refine wpIn_rangeFunc_ownF rfl (by omega) (gf := 33) (lb := #[.pointer (some ⟨B9, 0, none⟩)]) rfl trivial (enters_of Try.func33 (by kernel_rfl) rfl)
      hseq Turned.trans1 (turnedK_b (fun k hk => .inr hk)) (Below.refl _ _) (fun _ => rfl)
      (fun pre W => ((∃ v, W.cell? ⟨W7.heap.size + 1, 0, none⟩ = some v ∧ W.frozen? ⟨W7.heap.size + 1, 0, none⟩ = false ∧ W.ownsRow W9.heap.size 3 1 v pre.length (pre.map fun x => .int .i64 (idx (sortL row) row[x.1] : Nat))) ∧ W.heap[D]? = some (.deferred (some []))) ∧ Turned (fun k => k = W7.heap.size + 1 ∨ W9.heap.size ≤ k) W9 W)
      (fun c pre W => False)
      ?hI2 ?hIx2 ⟨⟨⟨_, u8, f8, World.ownsRow_nil _ _ _ _⟩, hK9.out⟩, Turned.refl _ _⟩
      (fun x => { tmps := #[.pointer p, undef, .pointer none, .slice none 0 0, .pointer (some ⟨w.heap.size, 0, none⟩), undef, undef, .pointer (some ⟨W7.heap.size, 0, none⟩), .pointer (some ⟨W7.heap.size + 1, 0, none⟩), undef, str row[x.1], undef, undef, .pointer p, .func (.func 33) #[] #[.pointer (some ⟨B, 0, none⟩)], undef, undef, undef, undef, undef, undef, .slice A row.length c, .tuple #[], .slice A row.length c, .pointer (some ⟨sb, 0, none⟩), .pointer p, .func (.func 33) #[] #[.pointer (some ⟨B9, 0, none⟩)], .int .i64 (x.1 : Int), str row[x.1], undef, undef, undef, undef, undef, undef, undef, undef, undef, undef, undef, undef], defers := [] }) ?assign2 ?body2 ?done2 ?stop2
    case hI2 =>
      intro s A B r hs hg hr
      obtain ⟨⟨⟨v, h1, h2, h3⟩, h4⟩, h5⟩ := hs
      have hr' : ∀ q, r = some q → ∃ o : Obj, A.heap[q]? = some o ∧ o.isCells = false := fun q e => (hr q e).2
      refine ⟨⟨⟨v, cell_kept h1 hg hr', (frozen_kept h1 hg hr').trans h2, own_kept h3 hg hr'⟩, ?_⟩, h5.trans1 (Turned.grown hg (fun q e => .inr (hr q e).1))⟩
      exact (hg.block D (Array.getElem?_eq_some_iff.1 h4).1 (fun e => by have := (hr D e.symm).1; omega)).trans h4
    case hIx2 =>
      exact fun c => Own.from (fun s A B r hs hg hr => hs) _
    case assign2 =>
      intro lp x W K hK
      unfold encS
      gi_wp2
      exact hK
    case body2 =>
      rintro lp pre x W ⟨⟨⟨v, c1, c2, ho⟩, hKD⟩, hT⟩ hlt
      obtain ⟨j, hj⟩ := x
      dsimp only
      obtain ⟨A2, c2', rfl⟩ : ∃ A c, v = .slice A pre.length c := (Sl.of_own ho).form
      have hsz := hT.size
      have hL : W7.heap.size + 1 < W.heap.size := by omega
      have hy : row[j] ∈ sortL row := mem_sortL.2 (List.getElem_mem hj)
      have HM : Hid (((pre ++ [(⟨j, hj⟩ : _root_.Fin (List.length row))]).map fun x => Value.int .i64 (idx (sortL row) row[x.1] : Nat)) = (pre.map fun x => Value.int .i64 (idx (sortL row) row[x.1] : Nat)) ++ [Value.int .i64 (idx (sortL row) row[j] : Nat)]) := by
        show _ = _
        simp
      have HLn : Hid ((pre ++ [(⟨j, hj⟩ : _root_.Fin (List.length row))]).length = pre.length + 1) := by show _ = _; simp
      have u7W := (World.cell?_of_block (a := ⟨W7.heap.size, 0, none⟩) (hT.block W7.heap.size (by omega) (fun h => by omega))).trans u7
      have hb7W : Below W7.heap.size W7 W := hb79.trans ((hT.mono (T' := From W7.heap.size) (fun k hk => hk.elim (fun h => by show W7.heap.size ≤ k; omega) (fun h => by show W7.heap.size ≤ k; omega))).below (by omega))
      have HF := Lib.hid (find_any (HP7.out.keep (w' := W) (fun k hk _ => hb7W.block k hk)) row[j] (hxs _ (List.getElem_mem hj)))
      have HFI : Hid (findI (sortL row) row[j] = (idx (sortL row) row[j] : Nat)) := by show _ = _; unfold findI; rw [if_pos hy]
      rw [HFI.out] at HF
      have hidx : idx (sortL row) row[j] ≤ 1000 := by have := idx_lt hy; rw [sortL_len] at this; omega
      clear hseq hb79 hy
      generalize idx (sortL row) row[j] = z at *
      generalize findB (sortL row) row[j] = fb at *
      generalize row[j] = y at *
      gi_wp2
      refine ⟨trivial, ?_⟩
      refine (callsIn_wide.2 HF.out).mono ?_
      rintro e W4 ⟨rfl, rfl⟩
      gi_wp2_with (gi_at_builtin; refine wpListIn_append_own _ rfl _ _ 36 rfl W9.heap.size 3 i1 (.int .i64 0) 1 8 Try.underlying36 hi' hz0' hz1' hz2' rfl (by decide) (.slice A2 pre.length c2') pre.length _ rfl (ho.alloc _) ⟨W4.heap.size, 0, none⟩ 1 1 [.int .i64 z] rfl rfl (cell_one_new _ _ _) (by simp [Value.oneCell']) (by unfold maxLen; omega) (by omega) (by simp; omega) ?_; intro v2 W5 hown2 hgrow2 hnil2; obtain ⟨g2, c2'', rfl, hg2, _⟩ := own_at hown2 (by omega); obtain ⟨f3, c3⟩ := put_facts hgrow2 hL (fun e => by have := (ho.lt _ e.symm).1; omega) c2 c1)
      obtain ⟨r1, r2, r3, r4, r5⟩ := append_round (T := fun k => k = W7.heap.size + 1 ∨ W9.heap.size ≤ k) (.inl rfl) (fun k hk => .inr hk) (by omega) ho hgrow2 hown2 f3 c3
      refine ⟨r1, r2, ⟨⟨_, r3, r4, ?_⟩, r1.same D _ hKD rfl⟩, hT.trans1 r2⟩
      rw [HLn.out, HM.out]
      exact r5
    case done2 =>
      rintro D2 ys W hD2 rfl ⟨⟨⟨v, c1, c2, ho⟩, hKD⟩, hT⟩ hK2
      have hrow : (List.finRange row.length).map (fun x => Value.int .i64 (idx (sortL row) row[x.1] : Nat)) = row.map fun x => Value.int .i64 (idx (sortL row) x : Nat) := by
        apply List.ext_getElem <;> simp
      rw [List.length_finRange, hrow] at ho
      have hsz := hT.size
      have u7W := (World.cell?_of_block (a := ⟨W7.heap.size, 0, none⟩) (hT.block W7.heap.size (by omega) (fun h => by omega))).trans u7
      have hb7W : Below W7.heap.size W7 W := hb79.trans ((hT.mono (T' := From W7.heap.size) (fun k hk => hk.elim (fun h => by show W7.heap.size ≤ k; omega) (fun h => by show W7.heap.size ≤ k; omega))).below (by omega))
      have HPW := Lib.hid (HP7.out.keep (w' := W) (fun k hk _ => hb7W.block k hk))
      have hbWW := hbW7.trans (hb7W.mono hbW7.size)
      obtain ⟨A2, c2', rfl⟩ : ∃ A c, v = .slice A row.length c := (Sl.of_own (xs := row.map fun x => Value.int .i64 (idx (sortL row) x : Nat)) ho).form
      clear hseq hrow hb79
      gi_wp2
      refine wpIn_wide.2 ?_
      go_quiet (fail)
      gi_wp2
      have hDD : D < D2 := by omega
      have hKD' : ((W.drewN nq).putObj D2 (.deferred none)).heap[D]? = some (.deferred (some [])) := ((grownBy_putObj' (W.drewN nq) D2 (.deferred none)).block D (Array.getElem?_eq_some_iff.1 hKD).1 (fun e => by cases e; omega)).trans hKD
      refine ⟨by simp, .inl ⟨_, _, rfl, run_takeDeferred hK2, ⟨by simp, .inl ⟨_, _, rfl, run_takeDeferred hKD', ?_⟩⟩⟩⟩
      have g1 := grownBy_putObj' (W.drewN nq) D2 (.deferred none)
      have g2 := grownBy_putObj' ((W.drewN nq).putObj D2 (.deferred none)) D (.deferred none)
      have o1 := own_kept (W := W.drewN nq) ho g1 (fun r e => by cases e; exact ⟨_, hK2, rfl⟩)
      have o2 := own_kept o1 g2 (fun r e => by cases e; exact ⟨_, hKD', rfl⟩)
      have b1 : Below w.heap.size w (W.drewN nq) := below_drewN hbWW nq
      have b2 := b1.grown g1 b1.size (fun g e => by cases e; omega)
      have b3 := b2.grown g2 b2.size (fun g e => by cases e; omega)
      have hl : ∀ k, k < W7.heap.size → From W6.heap.size k → (((W.drewN nq).putObj D2 (.deferred none)).putObj D (.deferred none)).heap[k]? = W7.heap[k]? := fun k hk hk6 => by
        have hk6' : W6.heap.size ≤ k := hk6
        have hkW : k < W.heap.size := by omega
        refine (g2.block k (Nat.lt_of_lt_of_le hkW g1.size) (fun e => by cases e; omega)).trans ?_
        exact (g1.block k hkW (fun e => by cases e; omega)).trans (hb7W.block k hk)
      refine ⟨.tuple #[.pointer (some ⟨sb, 0, none⟩), .slice A2 row.length c2'], ?_, ⟨sb, _, rfl, (HP7.out.keep hl).wider (fun k hk => by have hk' : W6.heap.size ≤ k := hk; show w.heap.size ≤ k; omega), Sl.of_own o2⟩, b3⟩
      simp [results, Try.f17, go_sem]
    case stop2 =>
      rintro D c pre W hD hSp hNG hK
      exact hNG.elim
  case stop =>
    rintro D c pre W hD hSp hNG hK
    exact hNG.elim
end Go.Proofs.Ytlkoddohplcmnaa
