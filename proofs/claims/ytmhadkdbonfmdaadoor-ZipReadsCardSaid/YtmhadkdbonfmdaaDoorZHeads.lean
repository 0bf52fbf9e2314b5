/-
  Layer 16: common, end, walked.
-/
import Derived.Test.YtmhadkdbonfmdaaDoorZFields
namespace Go.Proofs.YtmhadkdbonfmdaaDoor
open Go Go.RowKit Go.Shelf
set_option maxRecDepth 100000

/-- A text. -/
abbrev str (x : List UInt8) : Value := .string ⟨x.toArray⟩
theorem str_inj {x y : List UInt8} (h : str x = str y) : x = y := by
  simp only [str, Value.string.injEq] at h
  have := congrArg ByteArray.data h
  simpa using this
theorem str_size (x : List UInt8) : (ByteArray.mk x.toArray).size = x.length := by simp [ByteArray.size]
theorem new_fld (w : World) (cs : Array Value) (t : TypeId) (fr : Nat × Nat) (l : List (Nat × Nat)) (n k : Nat) (hk : k = w.heap.size) (h : cs.toList = fldV l) (hn : n = l.length) (hm : n ≤ maxLen) :
    Sl (w.alloc (.cells cs t fr)) (w.alloc (.cells cs t fr)).heap.size 2 (.slice (some ⟨k, 0, none⟩) n n) l.length (fldV l) := by
  subst hn
  subst hk
  have := Sl.new w (fldV l) t fr l.length 2 (length_fldV l) hm
  obtain rfl : cs = (fldV l).toArray := by rw [← h]
  simpa using this
theorem fldOk_cons {p : Nat × Nat} {l : List (Nat × Nat)} (h : 1 ≤ p.2 ∧ p.2 ≤ 4 ∧ p.1 < 256 ^ p.2) (hl : FldOk l) : FldOk (p :: l) := fun q hq => by
  rcases List.mem_cons.1 hq with rfl | hq
  · exact h
  · exact hl q hq
theorem fldOk_nil : FldOk [] := fun _ h => by cases h
theorem fld2 {n : Nat} (h : n < 65536) : 1 ≤ ((n, 2) : Nat × Nat).2 ∧ ((n, 2) : Nat × Nat).2 ≤ 4 ∧ ((n, 2) : Nat × Nat).1 < 256 ^ ((n, 2) : Nat × Nat).2 := ⟨show 1 ≤ 2 by decide, show 2 ≤ 4 by decide, h⟩
theorem fld4 {n : Nat} (h : n < 4294967296) : 1 ≤ ((n, 4) : Nat × Nat).2 ∧ ((n, 4) : Nat × Nat).2 ≤ 4 ∧ ((n, 4) : Nat × Nat).1 < 256 ^ ((n, 4) : Nat × Nat).2 := ⟨show 1 ≤ 4 by decide, show 4 ≤ 4 by decide, h⟩
theorem comF_ok {s n m : Nat} (h1 : s < 4294967296) (h2 : n < 4294967296) (h3 : m < 65536) : FldOk (comF s n m) :=
  fldOk_cons (fld2 (by decide)) (fldOk_cons (fld2 (by decide)) (fldOk_cons (fld2 (by decide)) (fldOk_cons (fld2 (by decide)) (fldOk_cons (fld2 (by decide)) (fldOk_cons (fld4 h1) (fldOk_cons (fld4 h2) (fldOk_cons (fld4 h2) (fldOk_cons (fld2 h3) (fldOk_cons (fld2 (by decide)) fldOk_nil)))))))))
theorem endF_ok {m s a : Nat} (h1 : m < 65536) (h2 : s < 4294967296) (h3 : a < 4294967296) : FldOk (endF m s a) :=
  fldOk_cons (fld4 (by decide)) (fldOk_cons (fld2 (by decide)) (fldOk_cons (fld2 (by decide)) (fldOk_cons (fld2 h1) (fldOk_cons (fld2 h1) (fldOk_cons (fld4 h2) (fldOk_cons (fld4 h3) (fldOk_cons (fld2 (by decide)) fldOk_nil)))))))
theorem comV (s n m : Nat) : [.int .i64 20, .int .i64 2, .int .i64 0, .int .i64 2, .int .i64 0, .int .i64 2, .int .i64 0, .int .i64 2, .int .i64 33, .int .i64 2, .int .i64 s, .int .i64 4, .int .i64 n, .int .i64 4, .int .i64 n, .int .i64 4, .int .i64 m, .int .i64 2, .int .i64 0, .int .i64 2] = fldV (comF s n m) := rfl
theorem endV (m s a : Nat) : [.int .i64 101010256, .int .i64 4, .int .i64 0, .int .i64 2, .int .i64 0, .int .i64 2, .int .i64 m, .int .i64 2, .int .i64 m, .int .i64 2, .int .i64 s, .int .i64 4, .int .i64 a, .int .i64 4, .int .i64 0, .int .i64 2] = fldV (endF m s a) := rfl

set_option maxHeartbeats 1000000 in
theorem end_any (w : World) (m s a : Nat) (h1 : m < 65536) (h2 : s < 4294967296) (h3 : a < 4294967296) :
    Calls Tryd.prog 26 #[.int .i64 m, .int .i64 s, .int .i64 a] w (Rets fun v' w' => Bytes w' w'.heap.size v' (endL m s a) ∧ Below w.heap.size w w') := by
  have HF := Lib.hid (endF_ok h1 h2 h3)
  go_enter Tryd.func26, Tryd.ntmps26
  go_wp2_with fail
  refine (fields_any _ _ (endF m s a) (new_fld _ _ _ _ _ 8 _ rfl (endV m s a) rfl (by decide)) (show 8 ≤ 100 by decide) HF.out).mono ?_
  rintro e w2 ⟨v2, rfl, hv2, hb2⟩
  have hb2' : Below w.heap.size w w2 := ((Below.refl _ _).alloc (Nat.le_refl _) _).trans (hb2.mono (by simp))
  go_wp2_with fail
  go_ret
  exact ⟨_, rfl, hv2, hb2'⟩

set_option maxHeartbeats 1000000 in
theorem common_any (w : World) (name data : List UInt8) (dv : Value) (s : Nat) (hd : Bytes w w.heap.size dv data) (h1 : s < 4294967296) (h2 : data.length < 4294967296) (h3 : name.length < 65536) :
    Calls Tryd.prog 42 #[.agg #[str name, dv], .int .i64 s] w (Rets fun v' w' => Bytes w' w'.heap.size v' (fld (comF s data.length name.length)) ∧ Below w.heap.size w w') := by
  have HF := Lib.hid (comF_ok h1 h2 h3)
  obtain ⟨A, c, rfl, hlc, hcm⟩ := hd.form
  unfold maxLen at hcm
  go_enter Tryd.func42, Tryd.ntmps42
  go_wp2_with fail
  refine (fields_any _ _ (comF s data.length name.length) (new_fld _ _ _ _ _ 10 (w.heap.size + 1) (by simp) (comV s data.length name.length) rfl (by decide)) (show 10 ≤ 100 by decide) HF.out).mono ?_
  rintro e w2 ⟨v2, rfl, hv2, hb2⟩
  have hb2' : Below w.heap.size w w2 := (((Below.refl _ _).alloc (Nat.le_refl _) _).alloc (by simp) _).trans (hb2.mono (by simp; omega))
  go_wp2_with fail
  go_ret
  exact ⟨_, rfl, hv2, hb2'⟩
end Go.Proofs.YtmhadkdbonfmdaaDoor
