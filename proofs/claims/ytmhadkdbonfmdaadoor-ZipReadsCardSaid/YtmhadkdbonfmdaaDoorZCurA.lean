/-
  Layer 5's cursor: what it is in memory; Fixed and Bytes.
-/
import Derived.RangeFuncNested
import Derived.RangeFuncBound
import Derived.RangeFuncCalls
import Derived.RangeFuncLeaves
import Derived.RangeFuncFrom
import Derived.Shelf.Abstract
import Derived.Shelf.RegionOpen
import Derived.OwnWalkIn
import Derived.TacticsInMore
import Derived.LoopNIn
import Derived.LoopIn
import Derived.Test.YtmhadkdbonfmdaaDoorZFix
namespace Go.Proofs.YtmhadkdbonfmdaaDoor
open Go Go.RowKit Go.Shelf
set_option maxRecDepth 100000

attribute [local go_sem] Oper.semAt_some

/-- A cursor's cells. -/
structure CurAt (w : World) (cb : Nat) (v : Value) (k e : Nat) : Prop where
  c0 : w.cell? ⟨cb, 0, none⟩ = some v
  c1 : w.cell? ⟨cb, 1, none⟩ = some (.int .i64 k)
  c2 : w.cell? ⟨cb, 2, none⟩ = some (.int .i64 e)
  f0 : w.frozen? ⟨cb, 0, none⟩ = false
  f1 : w.frozen? ⟨cb, 1, none⟩ = false
  f2 : w.frozen? ⟨cb, 2, none⟩ = false
theorem CurAt.below {w w' : World} {cb B : Nat} {v : Value} {k e : Nat} (h : CurAt w cb v k e) (hb : Below B w w') (hB : cb < B) : CurAt w' cb v k e :=
  ⟨(hb.cell hB).trans h.c0, (hb.cell hB).trans h.c1, (hb.cell hB).trans h.c2, (hb.frozen hB).trans h.f0, (hb.frozen hB).trans h.f1, (hb.frozen hB).trans h.f2⟩
theorem cell_new1 (W : World) (v : Value) (t : TypeId) : (W.alloc (.cells #[v] t)).cell? ⟨W.heap.size, 0, none⟩ = some v ∧ (W.alloc (.cells #[v] t)).frozen? ⟨W.heap.size, 0, none⟩ = false := by
  have h : (W.alloc (.cells #[v] t)).heap[W.heap.size]? = some (.cells #[v] t) := heap_alloc_new W _
  exact ⟨by rw [cell_new]; rfl, by unfold World.frozen?; rw [h]; rfl⟩
theorem cell_alloc1 {W : World} {a : Addr} {v : Value} (o : Obj) (h : W.cell? a = some v) : (W.alloc o).cell? a = some v := cell_kept h (World.grownBy_alloc W o none) (fun r e => by cases e)
theorem frozen_alloc1 {W : World} {a : Addr} {v : Value} (o : Obj) (h : W.cell? a = some v) (hf : W.frozen? a = false) : (W.alloc o).frozen? a = false := (frozen_kept h (World.grownBy_alloc W o none) (fun r e => by cases e)).trans hf
theorem grown_drewN (W : World) (n : Nat) (row : Option Nat) : W.grownBy (W.drewN n) row := ⟨rfl, rfl, rfl, Nat.le_refl _, fun _ _ _ => rfl⟩
theorem addr_ne {a b : Nat} (h : a ≠ b) : (⟨a, 0, none⟩ : Addr) ≠ ⟨b, 0, none⟩ := fun e => h (congrArg Addr.block e)
open Go Go.RowKit

/-- Memory but for one block. -/
theorem below_grown {w w' : World} (h : Below w.heap.size w w') (row : Option Nat) : w.grownBy w' row := ⟨h.os, h.tape, h.output, h.size, fun k hk _ => h.block k hk⟩
theorem grown_trans {a b c : World} {row : Option Nat} (h : a.grownBy b row) (k : b.grownBy c row) : a.grownBy c row :=
  ⟨k.os.trans h.os, k.tape.trans h.tape, k.output.trans h.output, Nat.le_trans h.size k.size, fun j hj hr => (k.block j (Nat.lt_of_lt_of_le hj h.size) hr).trans (h.block j hj hr)⟩
theorem grown_set (w : World) (b i : Nat) (u : Value) : w.grownBy (w.setCell ⟨b, i, none⟩ u) (some b) :=
  ⟨rfl, rfl, rfl, by simp, fun j _ hr => Below.heap_setCell w ⟨b, i, none⟩ u j (fun e => hr (by rw [e]))⟩
theorem CurAt.setE {w : World} {cb : Nat} {v : Value} {k e : Nat} (h : CurAt w cb v k e) (e2 : Nat) : CurAt (w.setCell ⟨cb, 2, none⟩ (.int .i64 e2)) cb v k e2 :=
  ⟨(World.cell?_setCell_other _ _ _ _ (fun e => by have := congrArg Addr.off e; simp at this)).trans h.c0, (World.cell?_setCell_other _ _ _ _ (fun e => by have := congrArg Addr.off e; simp at this)).trans h.c1,
    World.cell?_setCell_same' _ _ _ (by rw [h.c2]; rfl), by rw [World.frozen?_setCell]; exact h.f0, by rw [World.frozen?_setCell]; exact h.f1, by rw [World.frozen?_setCell]; exact h.f2⟩
theorem CurAt.setK {w : World} {cb : Nat} {v : Value} {k e : Nat} (h : CurAt w cb v k e) (k2 : Nat) : CurAt (w.setCell ⟨cb, 1, none⟩ (.int .i64 k2)) cb v k2 e :=
  ⟨(World.cell?_setCell_other _ _ _ _ (fun e => by have := congrArg Addr.off e; simp at this)).trans h.c0, World.cell?_setCell_same' _ _ _ (by rw [h.c1]; rfl),
    (World.cell?_setCell_other _ _ _ _ (fun e => by have := congrArg Addr.off e; simp at this)).trans h.c2, by rw [World.frozen?_setCell]; exact h.f0, by rw [World.frozen?_setCell]; exact h.f1, by rw [World.frozen?_setCell]; exact h.f2⟩
set_option maxHeartbeats 400000 in
theorem err_any {w : World} {cb : Nat} {v : Value} {k e : Nat} (h : CurAt w cb v k e) :
    Calls Tryd.prog 61 #[.pointer (some ⟨cb, 0, none⟩)] w fun r w' => r = .returned (.int .i64 e) ∧ w = w' := by
  obtain ⟨h0, h1, h2, -, -, -⟩ := h
  go_enter Tryd.func61, Tryd.ntmps61
  go_wp2_with fail
  go_ret
  exact ⟨rfl, rfl⟩
set_option maxHeartbeats 400000 in
theorem at_any {w : World} {cb : Nat} {v : Value} {k e : Nat} (h : CurAt w cb v k e) :
    Calls Tryd.prog 57 #[.pointer (some ⟨cb, 0, none⟩)] w fun r w' => r = .returned (.int .i64 k) ∧ w = w' := by
  obtain ⟨h0, h1, h2, -, -, -⟩ := h
  go_enter Tryd.func57, Tryd.ntmps57
  go_wp2_with fail
  go_ret
  exact ⟨rfl, rfl⟩
set_option maxHeartbeats 400000 in
theorem left_any {w : World} {cb : Nat} {A : Option Addr} {len c : Nat} {k e : Nat} (h : CurAt w cb (.slice A len c) k e) (hk : k ≤ len) (hl : len ≤ 9223372036854775807) :
    Calls Tryd.prog 81 #[.pointer (some ⟨cb, 0, none⟩)] w fun r w' => r = .returned (.int .i64 ((len : Int) - k)) ∧ ∃ m, w' = w.drewN m := by
  obtain ⟨h0, h1, h2, -, -, -⟩ := h
  go_enter Tryd.func81, Tryd.ntmps81
  go_wp2_with fail
  go_quiet (fail)
  go_wp2
  go_ret
  exact ⟨rfl, nq, rfl⟩
/-- What a closure hands back: how it went, how many bytes, which number. -/
def Res (A : Nat × Nat × Int) (n m : Int) (e : Nat) : Prop := A.1 = e ∧ (e = 0 → n = A.2.2 ∧ m = A.2.1)
def stepK (e : Nat) (A : Nat × Nat × Int) (k : Nat) : Nat := if e = 0 ∧ A.1 = 0 then k + A.2.1 else k
def stepE (e : Nat) (A : Nat × Nat × Int) : Nat := if e = 0 then A.1 else e
def stepN (e : Nat) (A : Nat × Nat × Int) : Int := if e = 0 ∧ A.1 = 0 then A.2.2 else 0
def GetPost (A : Nat × Nat × Int) (w : World) (r : Ending) (w' : World) : Prop :=
  (∃ (n m : Int) (e : Nat), r = .returned (.tuple #[.int .i64 n, .int .i64 m, .int .i64 e]) ∧ Res A n m e) ∧ Below w.heap.size w w'
/-- A cursor's step. -/
def Stepped (w : World) (cb : Nat) (v : Value) (k e : Nat) (A : Nat × Nat × Int) (r : Ending) (w' : World) : Prop :=
  r = .returned (.int .i64 (stepN e A)) ∧ CurAt w' cb v (stepK e A k) (stepE e A) ∧ w.grownBy w' (some cb)
set_option maxHeartbeats 1000000 in
theorem read_any {w : World} {cb : Nat} {v : Value} {k e : Nat} (h : CurAt w cb v k e) (hcb : cb < w.heap.size) (F : Nat) (hF : F = 80 ∨ F = 82) (caps : Array Value) (A : Nat × Nat × Int) (hk : k + A.2.1 ≤ 1000000000)
    (hcl : e = 0 → Calls Tryd.prog F caps w (GetPost A w)) :
    Calls Tryd.prog 79 #[.pointer (some ⟨cb, 0, none⟩), .func (.func F) #[] caps] w (Stepped w cb v k e A) := by
  have HH := Lib.hid h
  have HE := Lib.hid (err_any h)
  by_cases he : e = 0
  · have HC := Lib.hid (hcl he)
    clear hcl
    subst he
    clear h
    rcases hF with rfl | rfl
    all_goals (
    go_enter Tryd.func79, Tryd.ntmps79
    go_wp2_with fail
    refine HE.out.mono ?_
    rintro r w' ⟨rfl, rfl⟩
    go_wp2_with fail
    refine HC.out.mono ?_
    rintro r w1 ⟨⟨n, m, e2, rfl, hR⟩, hb⟩
    have hc := HH.out.below hb hcb
    have HH1 := Lib.hid hc
    obtain ⟨c0, c1, c2, f0, f1, f2⟩ := hc
    obtain ⟨hR1, hR2⟩ := hR
    by_cases he2 : e2 = 0
    · obtain ⟨rfl, rfl⟩ := hR2 he2
      subst he2
      have hk' : k + A.2.1 ≤ 1000000000 := hk
      have HP : Hid (Stepped w cb v k 0 A (.returned (.int .i64 A.2.2)) ((w1.setCell ⟨cb, 2, none⟩ (.int .i64 0)).setCell ⟨cb, 1, none⟩ (.int .i64 ((k : Int) + (A.2.1 : Int))))) :=
        ⟨by simp [stepN, hR1], by simpa [stepK, stepE, hR1] using (HH1.out.setE 0).setK (k + A.2.1), grown_trans (below_grown hb _) (grown_trans (grown_set _ _ _ _) (grown_set _ _ _ _))⟩
      generalize A.2.1 = q at *
      generalize A.2.2 = p at *
      clear hR1 hk hR2
      go_wp2_with fail
      go_ret
      exact HP.out
    · have hne : ((e2 : Int) != 0) = true := by rw [bne_iff_ne]; omega
      have HP : Hid (Stepped w cb v k 0 A (.returned (.int .i64 0)) (w1.setCell ⟨cb, 2, none⟩ (.int .i64 e2))) :=
        ⟨by simp [stepN, hR1, he2], by simpa [stepK, stepE, hR1, he2] using HH1.out.setE e2, grown_trans (below_grown hb _) (grown_set _ _ _ _)⟩
      clear hR1 hR2 he2
      go_wp2_with fail
      go_ret
      exact HP.out)
  · clear hcl
    have hne : ((e : Int) != 0) = true := by rw [bne_iff_ne]; omega
    have hp : Stepped w cb v k e A (.returned (.int .i64 0)) w := ⟨by simp [stepN, he], by simpa [stepK, stepE, he] using h, ⟨rfl, rfl, rfl, Nat.le_refl _, fun _ _ _ => rfl⟩⟩
    have HP := Lib.hid hp
    clear hp h he
    go_enter Tryd.func79, Tryd.ntmps79
    go_wp2_with fail
    refine HE.out.mono ?_
    rintro r w' ⟨rfl, rfl⟩
    go_wp2_with fail
    go_ret
    exact HP.out
end Go.Proofs.YtmhadkdbonfmdaaDoor
