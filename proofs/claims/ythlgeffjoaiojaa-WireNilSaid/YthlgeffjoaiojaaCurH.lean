/-
  Layer 5's cursor: the law's call of one of its readings; a nil one.
-/
import Derived.Test.YthlgeffjoaiojaaCurG
namespace Go.Proofs.Ythlgeffjoaiojaa
open Go Go.RowKit

theorem cells3 (w : World) (u0 u1 u2 : Value) (t : TypeId) :
    (w.alloc (.cells #[u0, u1, u2] t)).cell? ⟨w.heap.size, 0, none⟩ = some u0 ∧ (w.alloc (.cells #[u0, u1, u2] t)).cell? ⟨w.heap.size, 1, none⟩ = some u1 ∧ (w.alloc (.cells #[u0, u1, u2] t)).cell? ⟨w.heap.size, 2, none⟩ = some u2 :=
  ⟨by rw [cell_new]; rfl, by rw [cell_new]; rfl, by rw [cell_new]; rfl⟩
theorem free3 (w : World) (u0 u1 u2 : Value) (t : TypeId) (i : Nat) : (w.alloc (.cells #[u0, u1, u2] t)).frozen? ⟨w.heap.size, i, none⟩ = false := by
  have h : (w.alloc (.cells #[u0, u1, u2] t)).heap[w.heap.size]? = some (.cells #[u0, u1, u2] t) := heap_alloc_new w _
  unfold World.frozen?; rw [h]; simp
theorem new_cur {w : World} {v : Value} {l : List UInt8} (h : Bytes w w.heap.size v l) (t : TypeId) : Cur (w.alloc (.cells #[v, .int .i64 0, .int .i64 0] t)) w.heap.size l 0 0 :=
  ⟨v, ⟨(cells3 _ _ _ _ _).1, (cells3 _ _ _ _ _).2.1, (cells3 _ _ _ _ _).2.2, free3 _ _ _ _ _ _, free3 _ _ _ _ _ _, free3 _ _ _ _ _ _⟩, h.alloc (Nat.le_refl _) _, by simp, Nat.zero_le _⟩

set_option maxHeartbeats 400000 in
theorem new_any {w : World} {v : Value} {l : List UInt8} (h : Bytes w w.heap.size v l) :
    Calls Try.prog 18 #[v] w fun r w' => r = .returned (.pointer (some ⟨w.heap.size, 0, none⟩)) ∧ Cur w' w.heap.size l 0 0 ∧ Below w.heap.size w w' := by
  obtain ⟨A, c, rfl, -, -⟩ := h.form
  have HC := Lib.hid (new_cur h 52)
  clear h
  go_enter Try.func18, Try.ntmps18
  go_wp2_with fail
  go_ret
  exact ⟨rfl, HC.out, (Below.refl _ _).alloc (Nat.le_refl _) _⟩

/-- The bytes that a call answers. -/
def doesB (ask n : Int) (e : Nat) (r : List UInt8) : List UInt8 := if ask = 0 ∨ ask = 1 ∨ ask = 2 then [] else cutN n e r
def DoesPost (w : World) (cb : Nat) (l : List UInt8) (k e : Nat) (ask n : Int) (r : Ending) (w' : World) : Prop :=
  (∃ A' N, r = .returned (.tuple #[.int .i64 (stepN e (ansOf ask n (l.drop k))), .slice A' N N]) ∧ Bytes w' cb (.slice A' N N) (doesB ask n e (l.drop k))) ∧ Cur w' cb l (stepK e (ansOf ask n (l.drop k)) k) (stepE e (ansOf ask n (l.drop k))) ∧ Below cb w w'
theorem stepN_bytes (n : Int) (e : Nat) (r : List UInt8) : stepN e (ansBytes n r) = 0 := by
  unfold stepN
  split
  · simp only [ansBytes]; split
    · rfl
    · split <;> rfl
  · rfl
theorem low_trans {w w1 w2 : World} {B : Nat} (h : Below w.heap.size w w1) (hB : B ≤ w.heap.size) (k : Below B w1 w2) : Below B w w2 := (below_low h hB).trans k

set_option maxHeartbeats 1000000 in
theorem does_any {w : World} {cb : Nat} {l : List UInt8} {k e : Nat} (h : Cur w cb l k e) (hl : l.length ≤ 1000000) (ask n : Int) (ha : -9223372036854775808 ≤ ask ∧ ask ≤ 9223372036854775807) (hn : -9223372036854775808 ≤ n ∧ n ≤ 9223372036854775807) :
    Calls Try.prog 19 #[.pointer (some ⟨cb, 0, none⟩), .agg #[.int .i64 ask, .int .i64 n]] w (DoesPost w cb l k e ask n) := by
  have hw1 : Below w.heap.size w (w.alloc (.cells #[.int .i64 ask, .int .i64 n] 38)) := (Below.refl _ _).alloc (Nat.le_refl _) _
  have hcb : cb < w.heap.size := by obtain ⟨_, _, _, h3, _⟩ := h; exact h3
  have h1 := h.belowC hw1 hcb
  have HW := Lib.hid hw1
  have c0 : (w.alloc (.cells #[.int .i64 ask, .int .i64 n] 38)).cell? ⟨w.heap.size, 0, none⟩ = some (.int .i64 ask) := by rw [cell_new]; rfl
  have c1 : (w.alloc (.cells #[.int .i64 ask, .int .i64 n] 38)).cell? ⟨w.heap.size, 1, none⟩ = some (.int .i64 n) := by rw [cell_new]; rfl
  clear hw1 h
  by_cases ha0 : ask = 0
  · subst ha0
    have HR := Lib.hid (curUint_any h1 hl)
    clear h1
    go_enter Try.func19, Try.ntmps19
    go_wp2_with fail
    refine HR.out.mono ?_
    rintro r w' ⟨rfl, h2, h3⟩
    go_wp2_with fail
    go_ret2
    exact ⟨⟨none, 0, rfl, Bytes.nil _ _⟩, h2, low_trans HW.out (Nat.le_of_lt hcb) h3⟩
  by_cases ha1 : ask = 1
  · subst ha1
    have HR := Lib.hid (curInt_any h1 hl)
    clear h1
    go_enter Try.func19, Try.ntmps19
    go_wp2_with fail
    refine HR.out.mono ?_
    rintro r w' ⟨rfl, h2, h3⟩
    go_wp2_with fail
    go_ret2
    exact ⟨⟨none, 0, rfl, Bytes.nil _ _⟩, h2, low_trans HW.out (Nat.le_of_lt hcb) h3⟩
  by_cases ha2 : ask = 2
  · subst ha2
    have HR := Lib.hid (curFixed_any h1 hl n hn)
    clear h1
    go_enter Try.func19, Try.ntmps19
    go_wp2_with fail
    refine HR.out.mono ?_
    rintro r w' ⟨rfl, h2, h3⟩
    go_wp2_with fail
    go_ret2
    exact ⟨⟨none, 0, rfl, Bytes.nil _ _⟩, h2, low_trans HW.out (Nat.le_of_lt hcb) h3⟩
  have HR := Lib.hid (curBytes_any h1 hl n hn)
  have e0 : (ask == 0) = false := by rw [beq_eq_false_iff_ne]; exact ha0
  have e1 : (ask == 1) = false := by rw [beq_eq_false_iff_ne]; exact ha1
  have e2 : (ask == 2) = false := by rw [beq_eq_false_iff_ne]; exact ha2
  have HA : Hid (ansOf ask n (l.drop k) = ansBytes n (l.drop k) ∧ doesB ask n e (l.drop k) = cutN n e (l.drop k)) := ⟨by unfold ansOf; rw [if_neg ha0, if_neg ha1, if_neg ha2], by unfold doesB; rw [if_neg (by omega)]⟩
  clear h1 ha0 ha1 ha2
  go_enter Try.func19, Try.ntmps19
  go_wp2_with fail
  refine HR.out.mono ?_
  rintro r w' ⟨⟨A', N, rfl, h2⟩, h3, h4⟩
  go_wp2_with fail
  go_ret2
  refine ⟨⟨A', N, ?_, by rw [HA.out.2]; exact h2⟩, by rw [HA.out.1]; exact h3, low_trans HW.out (Nat.le_of_lt hcb) h4⟩
  rw [HA.out.1, stepN_bytes]
  rfl

/-! ### A nil cursor -/
set_option maxHeartbeats 400000 in
theorem err_nil (w : World) : Calls Try.prog 23 #[.pointer none] w fun r w' => r = .returned (.int .i64 2) ∧ w = w' := by
  go_enter Try.func23, Try.ntmps23
  go_wp2_with fail
  go_ret
  exact ⟨rfl, rfl⟩
set_option maxHeartbeats 400000 in
theorem at_nil (w : World) : Calls Try.prog 21 #[.pointer none] w fun r w' => r = .returned (.int .i64 0) ∧ w = w' := by
  go_enter Try.func21, Try.ntmps21
  go_wp2_with fail
  go_ret
  exact ⟨rfl, rfl⟩
set_option maxHeartbeats 400000 in
theorem left_nil (w : World) : Calls Try.prog 22 #[.pointer none] w fun r w' => r = .returned (.int .i64 0) ∧ w = w' := by
  go_enter Try.func22, Try.ntmps22
  go_wp2_with fail
  go_ret
  exact ⟨rfl, rfl⟩
set_option maxHeartbeats 400000 in
theorem read_nil (w : World) (u : Value) : Calls Try.prog 32 #[.pointer none, u] w fun r w' => r = .returned (.int .i64 0) ∧ w = w' := by
  have HE := Lib.hid (err_nil w)
  go_enter Try.func32, Try.ntmps32
  go_wp2_with fail
  refine HE.out.mono ?_
  rintro r w' ⟨rfl, rfl⟩
  go_wp2_with fail
  go_ret
  exact ⟨rfl, rfl⟩
set_option maxHeartbeats 400000 in
theorem Uint_nil (w : World) : Calls Try.prog 25 #[.pointer none] w fun r w' => r = .returned (.int .i64 0) ∧ Below w.heap.size w w' := by
  go_enter Try.func25, Try.ntmps25
  go_wp2_with fail
  refine (read_nil _ _).mono ?_
  rintro r w' ⟨rfl, rfl⟩
  go_wp2_with fail
  go_ret
  exact ⟨rfl, (Below.refl _ _).alloc (Nat.le_refl _) _⟩
set_option maxHeartbeats 400000 in
theorem Int_nil (w : World) : Calls Try.prog 24 #[.pointer none] w fun r w' => r = .returned (.int .i64 0) ∧ Below w.heap.size w w' := by
  go_enter Try.func24, Try.ntmps24
  go_wp2_with fail
  refine (read_nil _ _).mono ?_
  rintro r w' ⟨rfl, rfl⟩
  go_wp2_with fail
  go_ret
  exact ⟨rfl, (Below.refl _ _).alloc (Nat.le_refl _) _⟩
set_option maxHeartbeats 400000 in
theorem Fixed_nil (w : World) (n : Int) : Calls Try.prog 26 #[.pointer none, .int .i64 n] w fun r w' => r = .returned (.int .i64 0) ∧ Below w.heap.size w w' := by
  go_enter Try.func26, Try.ntmps26
  go_wp2_with fail
  refine (read_nil _ _).mono ?_
  rintro r w' ⟨rfl, rfl⟩
  go_wp2_with fail
  go_ret
  exact ⟨rfl, box2_below _ _ _ _ _⟩
set_option maxHeartbeats 400000 in
theorem Bytes_nil (w : World) (n : Int) : Calls Try.prog 27 #[.pointer none, .int .i64 n] w fun r w' => r = .returned (.slice none 0 0) ∧ Below w.heap.size w w' := by
  go_enter Try.func27, Try.ntmps27
  go_wp2_with fail
  refine (at_nil _).mono ?_
  rintro r w' ⟨rfl, rfl⟩
  go_wp2_with fail
  refine (read_nil _ _).mono ?_
  rintro r w' ⟨rfl, rfl⟩
  go_wp2_with fail
  refine (err_nil _).mono ?_
  rintro r w' ⟨rfl, rfl⟩
  go_wp2_with fail
  go_ret
  exact ⟨rfl, box2_below _ _ _ _ _⟩
set_option maxHeartbeats 1000000 in
theorem does_nil (w : World) (ask n : Int) (ha : -9223372036854775808 ≤ ask ∧ ask ≤ 9223372036854775807) :
    Calls Try.prog 19 #[.pointer none, .agg #[.int .i64 ask, .int .i64 n]] w fun r w' => r = .returned (.tuple #[.int .i64 0, .slice none 0 0]) ∧ Below w.heap.size w w' := by
  have hw1 : Below w.heap.size w (w.alloc (.cells #[.int .i64 ask, .int .i64 n] 38)) := (Below.refl _ _).alloc (Nat.le_refl _) _
  have HW := Lib.hid hw1
  have c0 : (w.alloc (.cells #[.int .i64 ask, .int .i64 n] 38)).cell? ⟨w.heap.size, 0, none⟩ = some (.int .i64 ask) := by rw [cell_new]; rfl
  have c1 : (w.alloc (.cells #[.int .i64 ask, .int .i64 n] 38)).cell? ⟨w.heap.size, 1, none⟩ = some (.int .i64 n) := by rw [cell_new]; rfl
  clear hw1
  by_cases ha0 : ask = 0
  · subst ha0
    go_enter Try.func19, Try.ntmps19
    go_wp2_with fail
    refine (Uint_nil _).mono ?_
    rintro r w' ⟨rfl, h3⟩
    go_wp2_with fail
    go_ret2
    exact ⟨rfl, HW.out.trans (below_low h3 HW.out.size)⟩
  by_cases ha1 : ask = 1
  · subst ha1
    go_enter Try.func19, Try.ntmps19
    go_wp2_with fail
    refine (Int_nil _).mono ?_
    rintro r w' ⟨rfl, h3⟩
    go_wp2_with fail
    go_ret2
    exact ⟨rfl, HW.out.trans (below_low h3 HW.out.size)⟩
  by_cases ha2 : ask = 2
  · subst ha2
    go_enter Try.func19, Try.ntmps19
    go_wp2_with fail
    refine (Fixed_nil _ _).mono ?_
    rintro r w' ⟨rfl, h3⟩
    go_wp2_with fail
    go_ret2
    exact ⟨rfl, HW.out.trans (below_low h3 HW.out.size)⟩
  · have e0 : (ask == 0) = false := by rw [beq_eq_false_iff_ne]; exact ha0
    have e1 : (ask == 1) = false := by rw [beq_eq_false_iff_ne]; exact ha1
    have e2 : (ask == 2) = false := by rw [beq_eq_false_iff_ne]; exact ha2
    clear ha0 ha1 ha2
    go_enter Try.func19, Try.ntmps19
    go_wp2_with fail
    refine (Bytes_nil _ _).mono ?_
    rintro r w' ⟨rfl, h3⟩
    go_wp2_with fail
    go_ret2
    exact ⟨rfl, HW.out.trans (below_low h3 HW.out.size)⟩
end Go.Proofs.Ythlgeffjoaiojaa
