/-
  Layer 16: Read's memory.
-/
import Derived.Test.YtmhadkdbonfmdaaDoorZReadP
namespace Go.Proofs.YtmhadkdbonfmdaaDoor
open Go Go.RowKit Go.Shelf
attribute [local go_sem] Oper.semAt_some
set_option maxRecDepth 100000

theorem infoMem : (Tryd.prog.info? 45).map (fun i => (i.zero, i.size, i.bytes)) = some (some (.agg #[.string ⟨#[]⟩, .slice none 0 0]), 2, 40) := by kernel_rfl
/-- The members that were found, as cells. -/
def fndV (pre : List Fnd) : List Value := pre.flatMap fun x => [str x.1.1, dvF x]

theorem boxes5 (w : World) (v1 v2 v3 v4 v5 : Value) (t1 t2 t3 t4 t5 : TypeId) (W : World) (h : ((((w.alloc (.cells #[v1] t1)).alloc (.cells #[v2] t2)).alloc (.cells #[v3] t3)).alloc (.cells #[v4] t4)).alloc (.cells #[v5] t5) = W) :
    Boxed W w.heap.size t1 v1 ∧ Boxed W (w.heap.size + 1) t2 v2 ∧ Boxed W (w.heap.size + 2) t3 v3 ∧ Boxed W (w.heap.size + 3) t4 v4 ∧ Boxed W (w.heap.size + 4) t5 v5 ∧ Below w.heap.size w W ∧ W.heap.size = w.heap.size + 5 := by
  subst h
  have b1 := Boxed.new w t1 v1
  have b2 := Boxed.new (w.alloc (.cells #[v1] t1)) t2 v2
  have b3 := Boxed.new ((w.alloc (.cells #[v1] t1)).alloc (.cells #[v2] t2)) t3 v3
  have b4 := Boxed.new (((w.alloc (.cells #[v1] t1)).alloc (.cells #[v2] t2)).alloc (.cells #[v3] t3)) t4 v4
  have b5 := Boxed.new ((((w.alloc (.cells #[v1] t1)).alloc (.cells #[v2] t2)).alloc (.cells #[v3] t3)).alloc (.cells #[v4] t4)) t5 v5
  simp only [World.size_alloc] at b2 b3 b4 b5
  exact ⟨(((b1.alloc _).alloc _).alloc _).alloc _, ((b2.alloc _).alloc _).alloc _, (b3.alloc _).alloc _, b4.alloc _, b5, ((((bump w _).alloc (by simp) _).alloc (by simp; omega) _).alloc (by simp; omega) _).alloc (by simp; omega) _, by simp⟩

/-- Read's variables in memory. n: the first block that the call made; ds: the members whose bytes are of concern. -/
structure RM (n : Nat) (w : World) (v vo : Value) (no : Nat) (xo : List Value) (vl : Value) (yl : List UInt8) (at_ er : Nat) (ds : List Fnd) (W : World) : Prop where
  bx : Boxed W n 32 v
  o : Boxed W (n + 1) 22 vo
  li : Boxed W (n + 2) 32 vl
  at_ : Boxed W (n + 3) 3 (.int .i64 (at_ : Nat))
  e : Boxed W (n + 4) 30 (.int .i64 (er : Nat))
  ro : W.ownsRow (n + 9) 45 2 vo no xo
  rl : W.ownsRow (n + 9) 5 1 vl yl.length (bytesV yl)
  ap : Apart vo vl
  da : ∀ x ∈ ds, W.ownsRow (n + 9) 5 1 (dvF x) x.1.2.1.length (bytesV x.1.2.1) ∧ Apart vo (dvF x) ∧ Apart vl (dvF x)
  be : Below n w W
/-- What a round of Read finds. -/
structure RI (n : Nat) (w : World) (l : List UInt8) (v : Value) (pre : List Fnd) (vo vl : Value) (er : Nat) (W : World) : Prop where
  m : RM n w v vo pre.length (fndV pre) vl (listL 0 (trisF pre)) (tot (trisF pre)) er pre W
  hd : l = outL (trisF pre) ++ l.drop (tot (trisF pre))
  ft : ∀ t ∈ trisF pre, Fits t
  ln : pre.length ≤ 64
theorem boxed_grC {c n B : Nat} {W W' : World} {t : TypeId} {v : Value} (h : Boxed W B t v) (hg : GrC c n W W') (hc : B ≠ c) : Boxed W' B t v := hg.cells _ _ h rfl hc
theorem own_grC {c n : Nat} {W W' : World} {b : Nat} {e : TypeId} {sz m : Nat} {v : Value} {xs : List Value} (h : W.ownsRow b e sz v m xs) (hg : GrC c n W W') (hb : c < b) : W'.ownsRow b e sz v m xs := by
  refine ⟨h.1, ?_⟩
  rcases h.2 with h | ⟨g, cap, cur, h1, h2, h3, h4⟩
  · exact .inl h
  · exact .inr ⟨g, cap, cur, h1, h2, hg.cells g _ h3 rfl (by omega), h4⟩
section
variable {n : Nat} {w : World} {l : List UInt8} {v : Value} {pre : List Fnd} {vo vl : Value} {er : Nat} {W W' : World} {no at_ : Nat} {xo : List Value} {yl : List UInt8} {ds : List Fnd}
theorem RM.grC (h : RM n w v vo no xo vl yl at_ er ds W) (hg : GrC (n + 8) (n + 6) W W') (hw : n ≤ w.heap.size) : RM n w v vo no xo vl yl at_ er ds W' :=
  ⟨boxed_grC h.bx hg (by omega), boxed_grC h.o hg (by omega), boxed_grC h.li hg (by omega), boxed_grC h.at_ hg (by omega), boxed_grC h.e hg (by omega), own_grC h.ro hg (by omega), own_grC h.rl hg (by omega), h.ap,
    fun x hx => ⟨own_grC (h.da x hx).1 hg (by omega), (h.da x hx).2⟩,
    h.be.trans ⟨hg.os, hg.tape, hg.output, hg.size, fun k hk => hg.low k (by omega) (by have := h.be.size; omega) (by omega)⟩⟩
theorem RI.grC (h : RI n w l v pre vo vl er W) (hg : GrC (n + 8) (n + 6) W W') (hw : n ≤ w.heap.size) : RI n w l v pre vo vl er W' := ⟨h.m.grC hg hw, h.hd, h.ft, h.ln⟩
theorem RM.made (h : RM n w v vo no xo vl yl at_ er ds W) (hb : Below W.heap.size W W') (hw : n ≤ w.heap.size) : RM n w v vo no xo vl yl at_ er ds W' := h.grC (Gr.of_below hb (Nat.le_refl _)).cells hw
theorem own_setB {W : World} {b f : Nat} {e : TypeId} {sz m : Nat} {v : Value} {xs : List Value} (h : W.ownsRow b e sz v m xs) (hf : f < b) (u : Value) : (W.setCell ⟨f, 0, none⟩ u).ownsRow b e sz v m xs := by
  refine h.kept (row := some f) ⟨rfl, rfl, rfl, by simp, fun j _ hr => Below.heap_setCell W ⟨f, 0, none⟩ u j (fun e => hr (by rw [e]))⟩ ?_
  rcases hv : v.ownBlock with _ | g
  · exact .inl rfl
  · exact .inr fun e => by cases e; have := (h.lt _ hv).1; omega
theorem RM.setE (h : RM n w v vo no xo vl yl at_ er ds W) (er' : Nat) : RM n w v vo no xo vl yl at_ er' ds (W.setCell ⟨n + 4, 0, none⟩ (.int .i64 (er' : Nat))) :=
  ⟨h.bx.other (by omega) _, h.o.other (by omega) _, h.li.other (by omega) _, h.at_.other (by omega) _, h.e.set _, own_setB h.ro (by omega) _, own_setB h.rl (by omega) _, h.ap, fun x hx => ⟨own_setB (h.da x hx).1 (by omega) _, (h.da x hx).2⟩, h.be.setCell (by show n ≤ n + 4; omega) _⟩
theorem RM.setAt (h : RM n w v vo no xo vl yl at_ er ds W) (at' : Nat) : RM n w v vo no xo vl yl at' er ds (W.setCell ⟨n + 3, 0, none⟩ (.int .i64 (at' : Nat))) :=
  ⟨h.bx.other (by omega) _, h.o.other (by omega) _, h.li.other (by omega) _, h.at_.set _, h.e.other (by omega) _, own_setB h.ro (by omega) _, own_setB h.rl (by omega) _, h.ap, fun x hx => ⟨own_setB (h.da x hx).1 (by omega) _, (h.da x hx).2⟩, h.be.setCell (by show n ≤ n + 3; omega) _⟩
/-- A longer list. -/
theorem RM.setL (h : RM n w v vo no xo vl yl at_ er ds W) {W' : World} {vl' : Value} {yl' : List UInt8} (hg : W.grownBy W' vl.ownBlock) (ho : W'.ownsRow (n + 9) 5 1 vl' yl'.length (bytesV yl')) (hl : vl'.ownBlock = vl.ownBlock ∨ vl'.ownBlock = some W.heap.size) (hw : n ≤ w.heap.size) :
    RM n w v vo no xo vl' yl' at_ er ds (W'.setCell ⟨n + 2, 0, none⟩ vl') := by
  have hr : ∀ {B : Nat} {t : TypeId} {u : Value}, Boxed W B t u → B < n + 9 → Boxed W' B t u := fun hb hB => hb.kept hg (fun e => by have := (h.rl.lt _ e.symm).1; omega)
  refine ⟨(hr h.bx (by omega)).other (by omega) _, (hr h.o (by omega)).other (by omega) _, (hr h.li (by omega)).set _, (hr h.at_ (by omega)).other (by omega) _, (hr h.e (by omega)).other (by omega) _, own_setB (h.ap.symm.kept h.ro hg) (by omega) _, own_setB ho (by omega) _, (h.ap.symm.moved h.ro hl).symm, fun x hx => ?_, ?_⟩
  · obtain ⟨d1, d2, d3⟩ := h.da x hx
    exact ⟨own_setB (d3.kept d1 hg) (by omega) _, d2, d3.moved d1 hl⟩
  · refine (h.be.trans ⟨hg.os, hg.tape, hg.output, hg.size, fun k hk => hg.block k (by have := h.be.size; omega) (fun e => by have := (h.rl.lt _ e.symm).1; omega)⟩).setCell (by show n ≤ n + 2; omega) _
/-- A member more. -/
theorem RM.setO (h : RM n w v vo no xo vl yl at_ er ds W) {W' : World} {vo' : Value} {no' : Nat} {xo' : List Value} (hg : W.grownBy W' vo.ownBlock) (ho : W'.ownsRow (n + 9) 45 2 vo' no' xo') (hl : vo'.ownBlock = vo.ownBlock ∨ vo'.ownBlock = some W.heap.size) (hw : n ≤ w.heap.size) :
    RM n w v vo' no' xo' vl yl at_ er ds (W'.setCell ⟨n + 1, 0, none⟩ vo') := by
  have hr : ∀ {B : Nat} {t : TypeId} {u : Value}, Boxed W B t u → B < n + 9 → Boxed W' B t u := fun hb hB => hb.kept hg (fun e => by have := (h.ro.lt _ e.symm).1; omega)
  refine ⟨(hr h.bx (by omega)).other (by omega) _, (hr h.o (by omega)).set _, (hr h.li (by omega)).other (by omega) _, (hr h.at_ (by omega)).other (by omega) _, (hr h.e (by omega)).other (by omega) _, own_setB ho (by omega) _, own_setB (h.ap.kept h.rl hg) (by omega) _, h.ap.moved h.rl hl, fun x hx => ?_, ?_⟩
  · obtain ⟨d1, d2, d3⟩ := h.da x hx
    exact ⟨own_setB (d2.kept d1 hg) (by omega) _, d2.moved d1 hl, d3⟩
  · refine (h.be.trans ⟨hg.os, hg.tape, hg.output, hg.size, fun k hk => hg.block k (by have := h.be.size; omega) (fun e => by have := (h.ro.lt _ e.symm).1; omega)⟩).setCell (by show n ≤ n + 1; omega) _
end
/-- A loop's record turned. -/
theorem grC_of_grown {c n : Nat} {W W' : World} {row : Option Nat} (hg : W.grownBy W' row) (hr : ∀ r, row = some r → n ≤ r ∧ ∃ o : Obj, W.heap[r]? = some o ∧ o.isCells = false) : GrC c n W W' :=
  ⟨hg.os, hg.tape, hg.output, hg.size, fun k hk hs _ => hg.block k hs (fun e => by have := (hr k e.symm).1; omega), fun k o ho hoc _ => by
    refine (hg.block k (Array.getElem?_eq_some_iff.1 ho).1 (fun e => ?_)).trans ho
    obtain ⟨_, o2, ho2, hc2⟩ := hr k e.symm
    rw [ho] at ho2
    cases ho2
    rw [hoc] at hc2
    cases hc2⟩

section
variable {n : Nat} {w : World} {v vo vl : Value} {er : Nat} {W Wk W' : World} {no at_ f : Nat} {xo : List Value} {yl : List UInt8} {ds : List Fnd} {bx : Array Value}
/-- Within a round: Read's variables, the member's own box, and what the round has left as it was. -/
structure BB (n : Nat) (w : World) (v vo : Value) (no : Nat) (xo : List Value) (vl : Value) (yl : List UInt8) (at_ er : Nat) (ds : List Fnd) (f : Nat) (bx : Array Value) (W Wk : World) : Prop where
  m : RM n w v vo no xo vl yl at_ er ds Wk
  b : Wk.heap[f]? = some (.cells bx 68 (0, 0))
  fb : n + 9 ≤ f
  fo : vo.ownBlock ≠ some f
  fl : vl.ownBlock ≠ some f
  ko : KeepsOthers W Wk
  kp : Kept (fun k => k < n ∨ k = n + 8) W Wk
theorem BB.made (h : BB n w v vo no xo vl yl at_ er ds f bx W Wk) (hb : Below Wk.heap.size Wk W') (hw : n ≤ w.heap.size) : BB n w v vo no xo vl yl at_ er ds f bx W W' :=
  ⟨h.m.made hb hw, (hb.block _ (Array.getElem?_eq_some_iff.1 h.b).1).trans h.b, h.fb, h.fo, h.fl, h.ko.trans ⟨hb.size, fun k o ho _ => (hb.block k (Array.getElem?_eq_some_iff.1 ho).1).trans ho⟩,
    h.kp.trans ⟨hb.os, hb.tape, hb.output, hb.size, fun k o _ ho _ => (hb.block k (Array.getElem?_eq_some_iff.1 ho).1).trans ho⟩⟩
theorem set_block {Wk : World} {f j : Nat} {u : Value} {o : Obj} (h : Wk.heap[f]? = some o) (hf : f ≠ j) : (Wk.setCell ⟨j, 0, none⟩ u).heap[f]? = some o := (Below.heap_setCell Wk ⟨j, 0, none⟩ u f (fun e => hf e)).trans h
theorem kept_set {Wk : World} {j : Nat} {u : Value} (h1 : n < j) (h2 : j < n + 8) : Kept (fun k => k < n ∨ k = n + 8) Wk (Wk.setCell ⟨j, 0, none⟩ u) :=
  ⟨rfl, rfl, rfl, by simp, fun k o hk ho _ => set_block ho (by omega)⟩
theorem BB.setE (h : BB n w v vo no xo vl yl at_ er ds f bx W Wk) (er' : Nat) : BB n w v vo no xo vl yl at_ er' ds f bx W (Wk.setCell ⟨n + 4, 0, none⟩ (.int .i64 (er' : Nat))) :=
  ⟨h.m.setE er', set_block h.b (by have := h.fb; omega), h.fb, h.fo, h.fl, h.ko.trans (KeepsOthers.setCell _ _ _), h.kp.trans (kept_set (by omega) (by omega))⟩
theorem BB.setAt (h : BB n w v vo no xo vl yl at_ er ds f bx W Wk) (at' : Nat) : BB n w v vo no xo vl yl at' er ds f bx W (Wk.setCell ⟨n + 3, 0, none⟩ (.int .i64 (at' : Nat))) :=
  ⟨h.m.setAt at', set_block h.b (by have := h.fb; omega), h.fb, h.fo, h.fl, h.ko.trans (KeepsOthers.setCell _ _ _), h.kp.trans (kept_set (by omega) (by omega))⟩
theorem own_cells {Wk : World} {b : Nat} {e : TypeId} {sz m : Nat} {v : Value} {xs : List Value} (h : Wk.ownsRow b e sz v m xs) : ∀ (j : Nat) (o : Obj), v.ownBlock = some j → Wk.heap[j]? = some o → o.isCells = true := by
  intro j o hj ho
  rcases h.2 with ⟨rfl, _⟩ | ⟨g, cap, cur, rfl, _, hg, _⟩
  · cases hj
  · simp [Value.ownBlock] at hj
    subst hj
    rw [hg] at ho
    cases ho
    rfl
theorem kept_grown {b : Nat} {e : TypeId} {sz m : Nat} {u : Value} {xs : List Value} (ho : Wk.ownsRow b e sz u m xs) (hb : n + 9 ≤ b) (hg : Wk.grownBy W' u.ownBlock) : Kept (fun k => k < n ∨ k = n + 8) Wk W' :=
  ⟨hg.os, hg.tape, hg.output, hg.size, fun k o hk h1 _ => (hg.block k (Array.getElem?_eq_some_iff.1 h1).1 (fun e => by have := (ho.lt _ e.symm).1; omega)).trans h1⟩
theorem BB.setL (h : BB n w v vo no xo vl yl at_ er ds f bx W Wk) {vl' : Value} {yl' : List UInt8} (hg : Wk.grownBy W' vl.ownBlock) (ho : W'.ownsRow (n + 9) 5 1 vl' yl'.length (bytesV yl')) (hl : vl'.ownBlock = vl.ownBlock ∨ vl'.ownBlock = some Wk.heap.size) (hw : n ≤ w.heap.size) :
    BB n w v vo no xo vl' yl' at_ er ds f bx W (W'.setCell ⟨n + 2, 0, none⟩ vl') := by
  have hf := (Array.getElem?_eq_some_iff.1 h.b).1
  refine ⟨h.m.setL hg ho hl hw, set_block ((hg.block f hf (fun e => h.fl e.symm)).trans h.b) (by have := h.fb; omega), h.fb, h.fo, ?_, (h.ko.trans (KeepsOthers.of_grownBy hg (own_cells h.m.rl))).trans (KeepsOthers.setCell _ _ _), (h.kp.trans (kept_grown h.m.rl (Nat.le_refl _) hg)).trans (kept_set (by omega) (by omega))⟩
  rcases hl with hl | hl
  · rw [hl]; exact h.fl
  · rw [hl]; intro e; cases e; omega
theorem BB.setO (h : BB n w v vo no xo vl yl at_ er ds f bx W Wk) {vo' : Value} {no' : Nat} {xo' : List Value} (hg : Wk.grownBy W' vo.ownBlock) (ho : W'.ownsRow (n + 9) 45 2 vo' no' xo') (hl : vo'.ownBlock = vo.ownBlock ∨ vo'.ownBlock = some Wk.heap.size) (hw : n ≤ w.heap.size) :
    BB n w v vo' no' xo' vl yl at_ er ds f bx W (W'.setCell ⟨n + 1, 0, none⟩ vo') := by
  have hf := (Array.getElem?_eq_some_iff.1 h.b).1
  refine ⟨h.m.setO hg ho hl hw, set_block ((hg.block f hf (fun e => h.fo e.symm)).trans h.b) (by have := h.fb; omega), h.fb, ?_, h.fl, (h.ko.trans (KeepsOthers.of_grownBy hg (own_cells h.m.ro))).trans (KeepsOthers.setCell _ _ _), (h.kp.trans (kept_grown h.m.ro (Nat.le_refl _) hg)).trans (kept_set (by omega) (by omega))⟩
  rcases hl with hl | hl
  · rw [hl]; exact h.fo
  · rw [hl]; intro e; cases e; omega
end
end Go.Proofs.YtmhadkdbonfmdaaDoor
