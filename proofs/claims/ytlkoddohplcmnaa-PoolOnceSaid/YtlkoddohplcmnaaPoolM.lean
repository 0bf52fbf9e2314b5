/-
  Layer 17: the law's 'half', and Each.
-/
import Derived.Maps.OwnIn
import Derived.Test.YtlkoddohplcmnaaPoolL
namespace Go.Proofs.Ytlkoddohplcmnaa
open Go Go.RowKit Go.Maps Go.WideMaps Go.Shelf
attribute [local go_sem] Oper.semAt_some

section
variable {P : Program} {F : Fence} {n : Nat} {b : Frame} {a : Act} {k : List Item} {cs : List Frame} {w : World} {Q : Exit → Act → World → Prop}
theorem stepR_scope {c : Code} : step P (lone (b.atR a (.code (.scope c) :: k)) cs w) = .next (lone (b.atR a (.code c :: .inScope c :: k)) cs w) :=
  step_lone_go (by simp [stepG, stepG.exec, Frame.atR])
theorem stepR_inScope {c : Code} : step P (lone (b.atR a (.inScope c :: k)) cs w) = .next (lone (b.atR a k) cs w) :=
  step_lone_go (by simp [stepG, stepG.exec, Frame.atR])
/-- A scope through which the run goes without a goto. -/
theorem wpIn_scope {c : Code} (h : c.wpIn F n P (Exit.noGoto Q) a w) : (Code.scope c).wpIn F n P Q a w := by
  intro b k cs hro hb hr
  have h0 : (lone (b.atR a (.code (.scope c) :: k)) cs w).fenced P F := fenced_calm hb hr rfl
  obtain ⟨e, a₁, w₁, hq, harr⟩ := h b (.inScope c :: k) cs hro hb hr
  cases e with
  | normal => exact ⟨.normal, a₁, w₁, hq, .head h0 stepR_scope (StepsIn.trans harr (.one (fenced_calm hb hr rfl) stepR_inScope))⟩
  | exit id =>
    have hx : exitTo id (.inScope c :: k) = exitTo id k := by simp [exitTo]
    exact ⟨.exit id, a₁, w₁, hq, fun k' hk => .head h0 stepR_scope (harr.1 k' (by rw [hx]; exact hk)),
      fun hr' hk => let ⟨k₁, h1, h2⟩ := harr.2 hr' (by rw [hx]; exact hk); ⟨k₁, h1, .head h0 stepR_scope h2⟩⟩
  | goto l => exact hq.elim
  | ret => exact ⟨_, a₁, w₁, hq, .of_steps (.one h0 stepR_scope) harr⟩
  | panic ch => exact ⟨_, a₁, w₁, hq, .of_steps (.one h0 stepR_scope) harr⟩
  | outgrown => exact ⟨_, a₁, w₁, hq, .of_steps (.one h0 stepR_scope) harr⟩
end

def halfL (x : List UInt8) : List UInt8 := x.take (x.length / 2)
set_option maxHeartbeats 400000 in
theorem half_bad (w : World) : Calls Try.prog 25 #[str [33]] w fun e w' => e = .returned (.tuple #[str [], .int .i64 12]) ∧ w' = w := by
  go_enter Try.func25, Try.ntmps25
  go_wp2_with fail
  go_ret2
  exact ⟨rfl, rfl⟩
set_option maxHeartbeats 400000 in
theorem half_good (w : World) {x : List UInt8} (hx : x.length ≤ maxLen) (hne : x ≠ [33]) : Calls Try.prog 25 #[str x] w fun e w' => e = .returned (.tuple #[str (halfL x), .int .i64 0]) ∧ w' = w := by
  have h1 : (x == [33]) = false := by rw [beq_eq_false_iff_ne]; exact hne
  unfold maxLen at hx
  go_enter Try.func25, Try.ntmps25
  go_wp2_with fail
  go_ret2
  exact ⟨by
    show Ending.returned (.tuple #[.string (ByteArray.extract ⟨x.toArray⟩ 0 (x.length / 2)), .int .i64 0]) = _
    rw [show ByteArray.extract ⟨x.toArray⟩ 0 (x.length / 2) = ⟨(halfL x).toArray⟩ by
      apply ByteArray.ext
      simp [halfL]], rfl⟩
/-- What Each answers. -/
def EachPost (row : Row) (w : World) (e : Ending) (w' : World) : Prop :=
  (([33] ∈ row ∧ e = .returned (.tuple #[.pointer none, .slice none 0 0, .int .i64 12])) ∨
    ([33] ∉ row ∧ ∃ sb pv, e = .returned (.tuple #[.pointer (some ⟨sb, 0, none⟩), pv, .int .i64 0]) ∧ PoolAt w' (From w.heap.size) sb (ofL (row.map halfL)) ∧
      Sl w' w'.heap.size 1 pv row.length (row.map fun x => .int .i64 (idx (ofL (row.map halfL)) (halfL x) : Nat)))) ∧ Below w.heap.size w w'
/-- A round's memory. -/
def EachAt (sb L N0 M n : Nat) (cur : Row) (pl : List Value) (W : World) : Prop :=
  W.cell? ⟨L, 0, none⟩ = some (.pointer (some ⟨sb, 0, none⟩)) ∧ W.frozen? ⟨L + 1, 0, none⟩ = false ∧ (∃ mb, mb < L ∧ W.cell? ⟨sb, 1, none⟩ = some (.map (some mb))) ∧
  ∃ v T, W.cell? ⟨L + 1 + 1, 0, none⟩ = some v ∧ W.frozen? ⟨L + 1 + 1, 0, none⟩ = false ∧ W.ownsRow M 3 1 v n pl ∧ PoolAt W T sb cur ∧ (∀ k, T k → (N0 ≤ k ∧ k < L) ∨ M ≤ k) ∧ ∀ g, v.ownBlock = some g → ¬ T g
theorem PoolAt.kept {A B : World} {T : Nat → Prop} {pb : Nat} {row : Row} {r : Option Nat} {L M : Nat} (h : PoolAt A T pb row) (hm : ∃ mb, mb < L ∧ A.cell? ⟨pb, 1, none⟩ = some (.map (some mb))) (hLM : L ≤ M)
    (hg : A.grownBy B r) (hr : ∀ q, r = some q → M ≤ q ∧ ∃ o : Obj, A.heap[q]? = some o ∧ o.isCells = false) : PoolAt B T pb row := by
  have h' := h
  obtain ⟨mb, vl, D, c0, c1, f0, hrow, hmap, hag, hne, hgg, tp, tm, hnd, hx, hl⟩ := h'
  have hr' : ∀ q, r = some q → ∃ o : Obj, A.heap[q]? = some o ∧ o.isCells = false := fun q e => (hr q e).2
  obtain ⟨mb', hmb', c1'⟩ := hm
  obtain rfl : mb = mb' := by rw [c1] at c1'; simpa using c1'
  refine ⟨mb, vl, D, cell_kept c0 hg hr', cell_kept c1 hg hr', (frozen_kept c0 hg hr').trans f0, own_kept hrow hg hr', ?_, hag, hne, hgg, tp, tm, hnd, hx, hl⟩
  exact hmap.kept hg (fun e => by have := (hr mb e.symm).1; omega)
theorem EachAt.kept {A B : World} {sb L N0 M n : Nat} {cur : Row} {pl : List Value} {r : Option Nat} (h : EachAt sb L N0 M n cur pl A) (hLM : L + 1 + 1 < M)
    (hg : A.grownBy B r) (hr : ∀ q, r = some q → M ≤ q ∧ ∃ o : Obj, A.heap[q]? = some o ∧ o.isCells = false) (hs : L + 1 < A.heap.size) : EachAt sb L N0 M n cur pl B := by
  obtain ⟨h1, h2, h3, v, T, h4, h5, h6, h7, h8, h9⟩ := h
  have hr' : ∀ q, r = some q → ∃ o : Obj, A.heap[q]? = some o ∧ o.isCells = false := fun q e => (hr q e).2
  refine ⟨cell_kept h1 hg hr', ?_, ?_, v, T, cell_kept h4 hg hr', (frozen_kept h4 hg hr').trans h5, own_kept h6 hg hr', h7.kept h3 (by omega) hg hr, h8, h9⟩
  · exact (hg.frozen_far ⟨L + 1, 0, none⟩ hs (fun e => by have h := (hr (L + 1) e.symm).1; omega)).trans h2
  · obtain ⟨mb, hm, hc⟩ := h3
    exact ⟨mb, hm, cell_kept hc hg hr'⟩
theorem idx_putL {row : Row} {x : List UInt8} (h : x ∈ row) (y : List UInt8) : idx (putL row y) x = idx row x := by
  unfold putL
  split
  · rfl
  · have := idx_lt h
    unfold idx at *
    rw [List.findIdx_append, if_pos this]
theorem mem_ofL {l : Row} {x : List UInt8} (h : x ∈ l) : x ∈ ofL l := by
  obtain ⟨r, h1, -, h3⟩ := fold_put l []
  have := h3 x h
  rw [← h1] at this
  exact this
theorem own_turned {W W' : World} {base : Nat} {e : TypeId} {v : Value} {n : Nat} {xs : List Value} {T : Nat → Prop} (h : W.ownsRow base e 1 v n xs) (ht : Turned T W W') (hg : ∀ g, v.ownBlock = some g → ¬ T g) : W'.ownsRow base e 1 v n xs := by
  refine ⟨h.1, ?_⟩
  rcases h.2 with hn | ⟨g, cap, cur, rfl, hb, hgg, rest⟩
  · exact .inl hn
  · refine .inr ⟨g, cap, cur, rfl, hb, ?_, rest⟩
    rw [ht.block g (Array.getElem?_eq_some_iff.1 hgg).1 (hg g rfl)]
    exact hgg
def curOf (row : Row) (pre : List (_root_.Fin row.length)) : Row := ofL (pre.map fun x => halfL row[x.1])
def plOf (row : Row) (pre : List (_root_.Fin row.length)) : List Value := pre.map fun x => .int .i64 (idx (curOf row pre) (halfL row[x.1]) : Nat)
theorem curOf_snoc (row : Row) (pre : List (_root_.Fin row.length)) (x : _root_.Fin row.length) : curOf row (pre ++ [x]) = putL (curOf row pre) (halfL row[x.1]) := by
  unfold curOf
  rw [List.map_append, List.map_singleton, ofL_snoc]
theorem plOf_snoc (row : Row) (pre : List (_root_.Fin row.length)) (x : _root_.Fin row.length) : plOf row (pre ++ [x]) = plOf row pre ++ [.int .i64 (idx (curOf row (pre ++ [x])) (halfL row[x.1]) : Nat)] := by
  unfold plOf
  rw [List.map_append, List.map_singleton]
  congr 1
  apply List.map_congr_left
  intro z hz
  rw [curOf_snoc, idx_putL]
  exact mem_ofL (List.mem_map.2 ⟨z, hz, rfl⟩)
theorem curOf_len (row : Row) (pre : List (_root_.Fin row.length)) : (curOf row pre).length ≤ pre.length := by
  have := ofL_len (pre.map fun x => halfL row[x.1])
  rwa [List.length_map] at this
theorem curOf_all (row : Row) : curOf row (List.finRange row.length) = ofL (row.map halfL) := by
  unfold curOf
  congr 1
  apply List.ext_getElem <;> simp
theorem plOf_all (row : Row) : plOf row (List.finRange row.length) = row.map fun x => .int .i64 (idx (ofL (row.map halfL)) (halfL x) : Nat) := by
  unfold plOf
  rw [curOf_all]
  apply List.ext_getElem <;> simp
theorem halfL_len (x : List UInt8) : (halfL x).length ≤ x.length := by unfold halfL; rw [List.length_take]; omega
theorem cell_other {W : World} {b o L : Nat} {u : Value} (h : ¬ (b = L ∧ o = 0)) : (W.setCell ⟨L, 0, none⟩ u).cell? ⟨b, o, none⟩ = W.cell? ⟨b, o, none⟩ :=
  World.cell?_setCell_other _ _ _ _ (fun e => h (by have h1 := congrArg Addr.block e; have h2 := congrArg Addr.off e; exact ⟨h1.symm, h2.symm⟩))

set_option maxRecDepth 100000 in
set_option maxHeartbeats 2000000 in
theorem each_of {w : World} (p : Option Addr) (row : Row) (hxs : ∀ x ∈ row, x.length ≤ maxLen) (hrl : row.length ≤ 1000)
    (hAll : ∀ w', Below w.heap.size w w' → Calls Try.prog 23 #[.pointer p] w' (AllPost w'.heap.size w' row)) :
    Calls Try.prog 24 #[.pointer p, .func (.func 25) #[] #[]] w (EachPost row w) := by
  obtain ⟨i1, hi', hz0', hz1', hz2'⟩ := info_parts infoInt
  refine (callsIn_wide (n := 8)).1 ?_
  refine callsIn_of_wp_marks Try.func24 rfl trivial ?_ rfl
  simp only [Try.ntmps24, List.size_toArray, List.length_cons, List.length_nil, Nat.reduceAdd, Nat.reduceSub, Array.replicate_succ, Array.replicate_zero, List.push_toArray, List.append_toArray, List.nil_append, List.cons_append]
  have HALL := Lib.hid hAll
  clear hAll
  have heq := fun (w : World) (f : Fn) (ts cs : Array Value) => run_eql_func_nil w 50 f ts cs Try.underlying50
  gi_wp2
  have q0 := cell_new1 w (.func (.func 25) #[] #[]) 50
  obtain ⟨W0, hW0⟩ : ∃ W0, w.alloc (.cells #[.func (.func 25) #[] #[]] 50) = W0 := ⟨_, rfl⟩
  have hB0 : Below w.heap.size w W0 := by rw [← hW0]; exact (Below.refl _ _).alloc (Nat.le_refl _) _
  have hs0 : W0.heap.size = w.heap.size + 1 := by rw [← hW0]; simp
  rw [hW0] at q0 ⊢
  clear hW0
  obtain ⟨q0c, -⟩ := q0
  refine wpIn_scope ?_
  gi_wp2
  refine ⟨trivial, ?_⟩
  refine (callsIn_wide.2 (new_any (w := W0) (l := []) (Sl.nil _ _ _) (by simp) (by simp))).mono ?_
  rintro e W2 ⟨sb, rfl, hp2, hb2⟩
  have q0' := (hb2.cell (p := ⟨w.heap.size, 0, none⟩) (by show w.heap.size < _; omega)).trans q0c
  have HP2 := Lib.hid hp2.bound
  have hbel2 := hB0.trans (hb2.mono (by omega))
  clear hp2 q0c
  gi_wp2
  have q7 := cell_new1 W2 (.pointer (some ⟨sb, 0, none⟩)) 25
  have q8 := cell_new1 (W2.alloc (.cells #[.pointer (some ⟨sb, 0, none⟩)] 25)) (.int .i64 0) 28
  have q9 := cell_new1 ((W2.alloc (.cells #[.pointer (some ⟨sb, 0, none⟩)] 25)).alloc (.cells #[.int .i64 0] 28)) (.slice none 0 0) 36
  simp only [World.size_alloc] at q8 q9
  have q7' := cell_alloc1 (.cells #[.slice none 0 0] 36) (cell_alloc1 (.cells #[.int .i64 0] 28) q7.1)
  have q8' := cell_alloc1 (.cells #[.slice none 0 0] 36) q8.1
  have g8' := frozen_alloc1 (.cells #[.slice none 0 0] 36) q8.1 q8.2
  obtain ⟨L, hL⟩ : ∃ L, W2.heap.size = L := ⟨_, rfl⟩
  obtain ⟨W3, hW3⟩ : ∃ W3, ((W2.alloc (.cells #[.pointer (some ⟨sb, 0, none⟩)] 25)).alloc (.cells #[.int .i64 0] 28)).alloc (.cells #[.slice none 0 0] 36) = W3 := ⟨_, rfl⟩
  have hB3 : Below W2.heap.size W2 W3 := by rw [← hW3]; exact (((Below.refl _ _).alloc (Nat.le_refl _) _).alloc (by simp) _).alloc (by simp; omega) _
  have hs3 : W3.heap.size = L + 3 := by rw [← hW3, ← hL]; simp
  rw [hW3] at q7' q8' g8' q9 ⊢
  rw [hL] at q7' q8' g8' q9 ⊢
  clear hW3 q7 q8
  refine wpIn_label ?_
  have hbel3 := hbel2.trans (hB3.mono hbel2.size)
  have q0'' := (hB3.cell (p := ⟨w.heap.size, 0, none⟩) (by have := hb2.size; show w.heap.size < _; omega)).trans q0'
  gi_wp2
  refine ⟨trivial, ?_⟩
  refine (callsIn_wide.2 (HALL.out _ hbel3)).mono ?_
  rintro e W4 ⟨B, vs, rfl, hcB, ⟨hvs, hvB⟩, hB1, hB4, hb4⟩
  have hs4 := hb4.size
  obtain ⟨N0, hN0⟩ : ∃ N0, W0.heap.size = N0 := ⟨_, rfl⟩
  obtain ⟨M, hM⟩ : ∃ M, W4.heap.size = M := ⟨_, rfl⟩
  have hNL : N0 ≤ L := by have := hb2.size; omega
  have hLM : L + 1 + 1 < M := by omega
  have hT3 : ∀ b, b < W3.heap.size → W4.heap[b]? = W3.heap[b]? := fun b h => hb4.block b h
  have r0 := (hb4.cell (p := ⟨w.heap.size, 0, none⟩) (by show w.heap.size < _; omega)).trans q0''
  have r7 := (hb4.cell (p := ⟨L, 0, none⟩) (by show L < _; omega)).trans q7'
  have r8 := (hb4.cell (p := ⟨L + 1, 0, none⟩) (by show L + 1 < _; omega)).trans q8'
  have f8 := (hb4.frozen (p := ⟨L + 1, 0, none⟩) (by show L + 1 < _; omega)).trans g8'
  have r9 := (hb4.cell (p := ⟨L + 1 + 1, 0, none⟩) (by show L + 1 + 1 < _; omega)).trans q9.1
  have f9 := (hb4.frozen (p := ⟨L + 1 + 1, 0, none⟩) (by show L + 1 + 1 < _; omega)).trans q9.2
  have hbel4 := hbel3.trans (hb4.mono hbel3.size)
  have hp4 := (HP2.out.later hB3).later hb4
  rw [hN0, hL] at hp4
  have hmap : ∃ mb, mb < L ∧ W4.cell? ⟨sb, 1, none⟩ = some (.map (some mb)) := by
    obtain ⟨mb, vl, D, c0, c1, f0, hrow, hmap, hag, hne, hgg, tp, tm, hnd, hx, hl⟩ := hp4
    exact ⟨mb, tm.2, c1⟩
  have HE0 : EachAt sb L N0 M 0 [] [] W4 := ⟨r7, f8, hmap, .slice none 0 0, _, r9, f9, World.ownsRow_nil _ _ _ _, hp4, fun k hk => .inl hk, fun g e => by simp [Value.ownBlock] at e⟩
  have hstay := stays (T := fun k => (N0 ≤ k ∧ k < L + 1 + 1 + 1) ∨ M ≤ k) hvs hvB (by omega) (fun k h1 h2 h3 => by omega)
  have hseq := all1_stops 7 (by omega) B (fun k => (N0 ≤ k ∧ k < L + 1 + 1 + 1) ∨ M ≤ k) vs row (by omega) W4 (by omega) hcB hstay
  have HE := Lib.hid HE0
  have HR8 := Lib.hid r8
  clear hstay hvs hvB hcB r7 r8 f8 r9 f9 q0' q0'' q7' q8' g8' q9 hp4 hmap HP2 hb4 hB3 hT3 HE0
  gi_wp2
  refine wpIn_rangeFunc_ownG rfl (by omega) (gf := 33) (lb := #[.pointer (some ⟨B, 0, none⟩)]) rfl trivial (enters_of Try.func33 (by kernel_rfl) rfl)
    hseq Turned.trans1 (turnedK_b (fun k hk => .inr (by omega))) (Below.refl _ _) (fun _ => rfl)
    (fun pre W => (EachAt sb L N0 M pre.length (curOf row pre) (plOf row pre) W ∧ W.cell? ⟨L + 1, 0, none⟩ = some (.int .i64 0) ∧ ∀ y ∈ pre, row[y.1] ≠ [33]) ∧ Turned (fun k => (N0 ≤ k ∧ k < L + 1 + 1 + 1) ∨ M ≤ k) W4 W)
    (fun c pre W => (c = .exit 0 ∧ [33] ∈ row ∧ W.cell? ⟨L + 1, 0, none⟩ = some (.int .i64 12)) ∧ Turned (fun k => (N0 ≤ k ∧ k < L + 1 + 1 + 1) ∨ M ≤ k) W4 W)
    ?hI ?hIx ⟨⟨HE.out, HR8.out, fun y hy => absurd hy (by simp)⟩, Turned.refl _ _⟩
    (fun x => { tmps := #[.pointer p, .func (.func 25) #[] #[], undef, .pointer (some ⟨w.heap.size, 0, none⟩), .pointer none, .slice none 0 0, .int .i64 0, .pointer (some ⟨L, 0, none⟩), .pointer (some ⟨L + 1, 0, none⟩), .pointer (some ⟨L + 1 + 1, 0, none⟩), undef, str row[x.1], undef, undef, undef, .func (.func 25) #[] #[], .bool false, .pointer (some ⟨sb, 0, none⟩), .pointer p, .func (.func 33) #[] #[.pointer (some ⟨B, 0, none⟩)], .int .i64 (x.1 : Int), str row[x.1], undef, undef, undef, undef, undef, undef, undef, undef, undef, undef, undef, undef, undef, undef, undef, undef, undef, undef, undef, undef, undef, undef, undef], defers := [] }) ?assign ?body ?done ?stop
  case hI =>
    intro pre A B' r hs hg hr
    rw [hM] at hr
    obtain ⟨⟨h1, h2, h3⟩, h4⟩ := hs
    have hsz := h4.size
    exact ⟨⟨h1.kept hLM hg hr (by omega), cell_kept h2 hg (fun q e => (hr q e).2), h3⟩, h4.trans1 (Turned.grown hg (fun q e => .inr (hr q e).1))⟩
  case hIx =>
    intro c pre A B' r hs hg hr
    rw [hM] at hr
    obtain ⟨⟨h1, h2, h3⟩, h4⟩ := hs
    exact ⟨⟨h1, h2, cell_kept h3 hg (fun q e => (hr q e).2)⟩, h4.trans1 (Turned.grown hg (fun q e => .inr (hr q e).1))⟩
  case assign =>
    intro lp x W K hK
    unfold encS
    gi_wp2
    exact hK
  case body =>
    rintro lp pre x W ⟨⟨hE, hz8, hno⟩, hT⟩ hlt
    rw [hM]
    obtain ⟨j, hj⟩ := x
    dsimp only
    have hsz := hT.size
    have hfn := (World.cell?_of_block (a := ⟨w.heap.size, 0, none⟩) (hT.block w.heap.size (by omega) (fun h => by omega))).trans r0
    have hf8 := hE.2.1
    by_cases hbad : row[j] = [33]
    · have HB := Lib.hid hbad
      rw [hbad]
      have hc8 := World.cell?_setCell_same' W ⟨L + 1, 0, none⟩ (.int .i64 12) (by rw [hz8]; rfl)
      clear hseq hE hno
      gi_wp2
      refine ⟨trivial, ?_⟩
      refine (callsIn_wide.2 (half_bad W)).mono ?_
      rintro e W5 ⟨rfl, rfl⟩
      gi_wp2
      exact ⟨(KeepsOthers.setCell _ _ _).from M, ⟨rfl, HB.out ▸ List.getElem_mem hj, hc8⟩, hT.trans1 (Turned.setCell _ 0 _ (.inl ⟨by omega, by omega⟩))⟩
    · obtain ⟨h7, -, ⟨mb, hmb, hc1⟩, v, T, c9, f9, ho, hp, hTT, hvT⟩ := hE
      obtain ⟨A, c, rfl⟩ : ∃ A c, v = .slice A pre.length c := (Sl.of_own ho).form
      have HH := Lib.hid (half_good W (hxs _ (List.getElem_mem hj)) hbad)
      have HCS := Lib.hid (curOf_snoc row pre ⟨j, hj⟩)
      have HPS := Lib.hid (plOf_snoc row pre ⟨j, hj⟩)
      have hlen := curOf_len row pre
      have hyl : (halfL row[j]).length ≤ maxLen := Nat.le_trans (halfL_len _) (hxs _ (List.getElem_mem hj))
      have HNO : Hid (∀ y ∈ pre ++ [(⟨j, hj⟩ : _root_.Fin (List.length row))], row[y.1] ≠ [33]) := fun y hy => by
        rcases List.mem_append.1 hy with hy | hy
        · exact hno y hy
        · rw [List.mem_singleton] at hy; subst hy; exact hbad
      have hTn : ∀ k, L ≤ k → k < M → ¬ T k := fun k h1 h2 h3 => by have := hTT k h3; omega
      have hc8 := World.cell?_setCell_same' W ⟨L + 1, 0, none⟩ (.int .i64 0) (by rw [hz8]; rfl)
      have e7 := (cell_other (W := W) (b := L) (o := 0) (L := L + 1) (u := .int .i64 0) (by omega)).trans h7
      have k9 := (cell_other (W := W) (b := L + 1 + 1) (o := 0) (L := L + 1) (u := .int .i64 0) (by omega)).trans c9
      have g9 : (W.setCell ⟨L + 1, 0, none⟩ (.int .i64 0)).frozen? ⟨L + 1 + 1, 0, none⟩ = false := by rw [World.frozen?_setCell]; exact f9
      have g8 : (W.setCell ⟨L + 1, 0, none⟩ (.int .i64 0)).frozen? ⟨L + 1, 0, none⟩ = false := by rw [World.frozen?_setCell]; exact hf8
      have d1 := (cell_other (W := W) (b := sb) (o := 1) (L := L + 1) (u := .int .i64 0) (by omega)).trans hc1
      have ho5 : (W.setCell ⟨L + 1, 0, none⟩ (.int .i64 0)).ownsRow M 3 1 (.slice A pre.length c) pre.length (plOf row pre) :=
        ho.kept (row := some (L + 1)) ⟨rfl, rfl, rfl, by simp, fun k _ hr => Below.heap_setCell W ⟨L + 1, 0, none⟩ _ k (fun e => hr (by rw [e]))⟩ (own_ne (fun g e => by have := (ho.lt g e).1; omega))
      have hp5 : PoolAt (W.setCell ⟨L + 1, 0, none⟩ (.int .i64 0)) T sb (curOf row pre) :=
        hp.keep (fun k hk hTk => Below.heap_setCell W ⟨L + 1, 0, none⟩ _ k (fun e => by have e' : k = L + 1 := e; subst e'; exact hTn _ (by omega) (by omega) hTk))
      have hs5 : (W.setCell ⟨L + 1, 0, none⟩ (.int .i64 0)).heap.size = W.heap.size := by simp
      have hol := fun g e => (ho.lt g e).2
      have hog := fun g e => (ho.lt g e).1
      have HPUT := Lib.hid (put_any2 hp5 (halfL row[j]) hyl (by omega))
      rw [← HCS.out] at HPUT
      have hidx : idx (curOf row (pre ++ [⟨j, hj⟩])) (halfL row[j]) ≤ 1000000 := by
        have h1 := curOf_len row (pre ++ [⟨j, hj⟩])
        have h2 := idx_lt (show halfL row[j] ∈ curOf row (pre ++ [⟨j, hj⟩]) by rw [curOf_snoc]; exact mem_putL _ _)
        simp at h1
        omega
      have HLn : Hid ((pre ++ [(⟨j, hj⟩ : _root_.Fin (List.length row))]).length = pre.length + 1) := by show _ = _; simp
      clear hseq ho hp hc1 h7 c9 f9 hno hbad
      generalize idx (curOf row (pre ++ [⟨j, hj⟩])) (halfL row[j]) = z at *
      generalize halfL row[j] = y at *
      generalize row[j] = x at *
      generalize hcur : curOf row (pre ++ [⟨j, hj⟩]) = cur2 at *
      gi_wp2
      refine ⟨trivial, ?_⟩
      refine (callsIn_wide.2 HH.out).mono ?_
      rintro e Wx ⟨rfl, hWx⟩
      rw [hWx]
      clear hWx Wx
      gi_wp2
      refine ⟨trivial, ?_⟩
      refine (callsIn_wide.2 HPUT.out).mono ?_
      rintro e W6 ⟨rfl, hp6, ht6, hc6, hkf6⟩
      have hkW5 : KeepsFrom M W (W.setCell ⟨L + 1, 0, none⟩ (.int .i64 0)) := (KeepsOthers.setCell _ _ _).from M
      have htW5 : Turned (fun k => (N0 ≤ k ∧ k < L + 1 + 1 + 1) ∨ M ≤ k) W (W.setCell ⟨L + 1, 0, none⟩ (.int .i64 0)) := Turned.setCell _ 0 _ (.inl ⟨by omega, by omega⟩)
      obtain ⟨W5, hW5⟩ : ∃ W5, W.setCell ⟨L + 1, 0, none⟩ (.int .i64 0) = W5 := ⟨_, rfl⟩
      rw [hW5] at hc8 e7 k9 g9 g8 d1 ho5 hs5 hp6 ht6 hc6 hkf6 hkW5 htW5
      clear hW5 HPUT
      have hs6 := ht6.size
      have e9 := (World.cell?_of_block (a := ⟨L + 1 + 1, 0, none⟩) (ht6.block (L + 1 + 1) (by omega) (hTn _ (by omega) (by omega)))).trans k9
      have i9 := (World.frozen?_of_block (a := ⟨L + 1 + 1, 0, none⟩) (ht6.block (L + 1 + 1) (by omega) (hTn _ (by omega) (by omega)))).trans g9
      have ho6 := own_turned ho5 ht6 hvT
      have hL9 : L + 1 + 1 < W6.heap.size := by omega
      gi_wp2_with (gi_at_builtin; refine wpListIn_append_own_at _ rfl _ _ 36 rfl M 3 i1 (.int .i64 0) 1 8 Try.underlying36 hi' hz0' hz1' hz2' rfl (by decide) (.slice A pre.length c) pre.length _ rfl (ho6.alloc _) ⟨W6.heap.size, 0, none⟩ 1 1 [.int .i64 z] rfl rfl (cell_one_new _ _ _) (by simp [Value.oneCell']) (by unfold maxLen; omega) (by omega) (by simp; omega) ?_; intro v2 W7 hown2 hgrow2 hnil2 hloc2; obtain ⟨g2, c2', rfl, hg2, _⟩ := own_at hown2 (by omega); obtain ⟨f3, c3⟩ := put_facts hgrow2 hL9 (fun e => by have := hog _ e.symm; omega) i9 e9)
      obtain ⟨r1, r2, r3, r4, r5⟩ := append_round (T := fun k => (N0 ≤ k ∧ k < L + 1 + 1 + 1) ∨ M ≤ k) (.inl ⟨by omega, by omega⟩) (fun k hk => .inr hk) (by omega) ho6 hgrow2 hown2 f3 c3
      have hs7 := hgrow2.size
      have hsa : (W6.alloc (.cells #[.int .i64 z] 3)).heap.size = W6.heap.size + 1 := by simp
      obtain ⟨W8, hW8⟩ : ∃ W8, W7.setCell ⟨L + 1 + 1, 0, none⟩ (.slice (some ⟨g2, 0, none⟩) (pre.length + 1) c2') = W8 := ⟨_, rfl⟩
      have hset : ∀ b, b ≠ L + 1 + 1 → W8.heap[b]? = W7.heap[b]? := fun b hb => by rw [← hW8]; exact Below.heap_setCell W7 ⟨L + 1 + 1, 0, none⟩ _ b hb
      rw [hW8] at r1 r2 r3 r4 r5 ⊢
      have hmid : ∀ b, b < W6.heap.size → b ≠ L + 1 + 1 → some b ≠ (Value.slice A pre.length c).ownBlock → W8.heap[b]? = W6.heap[b]? := fun b h1 h2 h3 =>
        (hset b h2).trans ((hgrow2.block b (by rw [hsa]; omega) h3).trans (Below.heap_alloc W6 _ b h1))
      have hfar : ∀ b, b < M → ¬ T b → b ≠ L + 1 + 1 → W8.heap[b]? = W5.heap[b]? := fun b h1 h2 h3 =>
        (hmid b (by omega) h3 (fun e => by have := hog _ e.symm; omega)).trans (ht6.block b (by omega) h2)
      have hsb : T sb := by
        obtain ⟨_, _, _, _, _, _, _, _, _, _, _, tp, _⟩ := hp5
        exact tp
      have hsbl : sb < W6.heap.size := hp6.size
      refine ⟨(hkW5.trans (hkf6 mb d1 M (by omega))).trans (r1.from M), (htW5.trans1 (ht6.mono (fun k hk => by have := hTT k hk; omega))).trans1 r2, ⟨⟨?_, ?_, ⟨mb, hmb, ?_⟩, _, fun k => (Wider T W5 k) ∧ k < W6.heap.size, r3, r4, ?_, ?_, ?_, ?_⟩, ?_, HNO.out⟩, (hT.trans1 htW5).trans1 ((ht6.mono (fun k hk => by have := hTT k hk; omega)).trans1 r2)⟩
      · exact (World.cell?_of_block (a := ⟨L, 0, none⟩) (hfar L (by omega) (hTn _ (by omega) (by omega)) (by omega))).trans e7
      · exact (World.frozen?_of_block (a := ⟨L + 1, 0, none⟩) (hfar (L + 1) (by omega) (hTn _ (by omega) (by omega)) (by omega))).trans g8
      · have h1 : sb ≠ L + 1 + 1 := fun e => hTn _ (by omega) (by omega) (e ▸ hsb)
        exact (World.cell?_of_block (a := ⟨sb, 1, none⟩) (hmid sb hsbl h1 (fun e => hvT _ e.symm hsb))).trans (hc6.trans d1)
      · rw [HLn.out, HPS.out]
        exact r5
      · rw [hcur]
        exact hp6.bound.keep (fun k _ hk => hmid k hk.2 (fun e => by
          have := hk.1
          subst e
          rcases this with h | h
          · exact hTn _ (by omega) (by omega) h
          · have h' : W5.heap.size ≤ L + 1 + 1 := h
            omega) (fun e => by
          rcases hk.1 with h | h
          · exact hvT _ e.symm h
          · have h' : W5.heap.size ≤ k := h
            have := hol _ e.symm
            omega))
      · rintro k ⟨h | h, h2⟩
        · exact hTT k h
        · have h' : W5.heap.size ≤ k := h
          omega
      · intro g e hg
        rcases hloc2 with h | h
        · have e' := h ▸ e
          rcases hg.1 with h3 | h3
          · exact hvT _ e' h3
          · have h' : W5.heap.size ≤ g := h3
            have := hol _ e'
            omega
        · rw [h] at e
          cases e
          have := hg.2
          omega
      · exact (World.cell?_of_block (a := ⟨L + 1, 0, none⟩) (hfar (L + 1) (by omega) (hTn _ (by omega) (by omega)) (by omega))).trans hc8
  case done =>
    rintro D ys W hD rfl ⟨⟨hE, hz8, hno⟩, hT⟩ hK
    rw [hM] at hD
    rw [curOf_all, plOf_all, List.length_finRange] at hE
    obtain ⟨h7, hf8, hmb, v, T, c9, f9, ho, hp, hTT, hvT⟩ := hE
    have hsz := hT.size
    have hn33 : [33] ∉ row := fun hm => by
      obtain ⟨i, hi, he⟩ := List.getElem_of_mem hm
      exact hno ⟨i, hi⟩ (by simp) he
    have hbW : Below w.heap.size w W := hbel4.trans ((hT.mono (T' := From w.heap.size) (fun k hk => by show w.heap.size ≤ k; omega)).below hbel4.size)
    clear hseq hno
    gi_wp2
    refine wpIn_wide.2 ?_
    go_quiet (fail)
    gi_wp2
    try rw [Exit.noGoto_ret]
    refine ⟨by simp, .inl ⟨_, _, rfl, run_takeDeferred hK, ?_⟩⟩
    have g1 := grownBy_putObj' (W.drewN nq) D (.deferred none)
    have b1 := below_drewN hbW nq
    have o1 := own_kept (W := W.drewN nq) ho g1 (fun r e => by cases e; exact ⟨_, hK, rfl⟩)
    have p1 : PoolAt (W.drewN nq) T sb (ofL (row.map halfL)) := hp.keep (fun k _ _ => rfl)
    have p2 := (p1.kept (L := L) (M := M) hmb (by omega) g1 (fun q e => by cases e; exact ⟨hD, _, hK, rfl⟩)).wider (T' := From w.heap.size) (fun k hk => by have := hTT k hk; show w.heap.size ≤ k; omega)
    refine ⟨.tuple #[.pointer (some ⟨sb, 0, none⟩), v, .int .i64 0], ?_, ⟨.inr ⟨hn33, sb, v, rfl, p2, Sl.of_own o1⟩, b1.grown g1 b1.size (fun g e => by cases e; omega)⟩⟩
    simp [results, Try.f24, go_sem]
  case stop =>
    rintro D c pre W hD hSp ⟨⟨rfl, hm33, hz8⟩, hT⟩ hK
    rw [hM] at hD
    have hsz := hT.size
    have hbW : Below w.heap.size w W := hbel4.trans ((hT.mono (T' := From w.heap.size) (fun k hk => by show w.heap.size ≤ k; omega)).below hbel4.size)
    clear hseq
    gi_wp2
    refine wpIn_wide.2 ?_
    go_quiet (fail)
    gi_wp2
    try rw [Exit.noGoto_ret]
    refine ⟨by simp, .inl ⟨_, _, rfl, run_takeDeferred hK, ?_⟩⟩
    have g1 := grownBy_putObj' (W.drewN nq) D (.deferred none)
    have b1 := below_drewN hbW nq
    refine ⟨.tuple #[.pointer none, .slice none 0 0, .int .i64 12], ?_, ⟨.inl ⟨hm33, rfl⟩, b1.grown g1 b1.size (fun g e => by cases e; omega)⟩⟩
    simp [results, Try.f24, go_sem]
end Go.Proofs.Ytlkoddohplcmnaa
