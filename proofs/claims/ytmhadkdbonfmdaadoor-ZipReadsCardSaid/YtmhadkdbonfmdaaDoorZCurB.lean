/-
  Layer 5's cursor: its readings Fixed and Bytes.
-/
import Derived.Test.YtmhadkdbonfmdaaDoorZCurA
import Derived.Test.YtmhadkdbonfmdaaDoorZGr
namespace Go.Proofs.YtmhadkdbonfmdaaDoor
open Go Go.RowKit Go.Shelf
set_option maxRecDepth 100000

/-- Bytes as a number, the lowest one first. -/
def fval : List UInt8 → Nat
  | [] => 0
  | x :: r => x.toNat + 256 * fval r
theorem fval_append (a : List UInt8) (x : UInt8) : fval (a ++ [x]) = fval a + 256 ^ a.length * x.toNat := by
  induction a with
  | nil => simp [fval]
  | cons y r ih => simp only [List.cons_append, fval, ih, List.length_cons, Nat.pow_succ, Nat.mul_add]; rw [Nat.mul_comm (256 ^ r.length) 256, Nat.mul_assoc]; omega
theorem fval_lt (a : List UInt8) : fval a < 256 ^ a.length := by
  induction a with
  | nil => simp [fval]
  | cons y r ih => simp only [fval, List.length_cons, Nat.pow_succ]; have := y.toNat_lt; omega
def ansFixed (size : Int) (r : List UInt8) : Nat × Nat × Int :=
  if size < 1 ∨ 8 < size then (1, 0, 0) else if (r.length : Int) < size then (20, 0, 0)
  else if 9223372036854775808 ≤ fval (r.take size.toNat) then (11, 0, 0) else (0, size.toNat, (fval (r.take size.toNat) : Int))
def ansBytes (n : Int) (r : List UInt8) : Nat × Nat × Int :=
  if n < 0 then (1, 0, 0) else if (r.length : Int) < n then (20, 0, 0) else (0, n.toNat, 0)
theorem CurAt.drewN {w : World} {cb : Nat} {v : Value} {k e : Nat} (h : CurAt w cb v k e) (m : Nat) : CurAt (w.drewN m) cb v k e := ⟨h.c0, h.c1, h.c2, h.f0, h.f1, h.f2⟩
set_option maxHeartbeats 1000000 in
theorem bytesC_any {w : World} {cb : Nat} {A : Option Addr} {len c : Nat} {k e : Nat} (hc : CurAt w cb (.slice A len c) k e) (hk : k ≤ len) (hl : len ≤ 1000000) (n : Int) (hn : -9223372036854775808 ≤ n ∧ n ≤ 9223372036854775807) (B S : Nat) (r : List UInt8) (hr : r.length = len - k)
    (hB : w.cell? ⟨B, 0, none⟩ = some (.pointer (some ⟨cb, 0, none⟩))) (hS : w.cell? ⟨S, 0, none⟩ = some (.int .i64 n)) :
    Calls Tryd.prog 82 #[.pointer (some ⟨S, 0, none⟩), .pointer (some ⟨B, 0, none⟩)] w (GetPost (ansBytes n r) w) := by
  have HL : ∀ m, Hid (Calls Tryd.prog 81 #[.pointer (some ⟨cb, 0, none⟩)] (w.drewN m) fun r w' => r = .returned (.int .i64 ((len : Int) - k)) ∧ ∃ q, w' = w.drewN q) := fun m => Calls.quiet_of (left_any (hc.drewN m) hk (by omega))
  clear hc
  by_cases h0 : n < 0
  · have HP : Hid (GetPost (ansBytes n r) w (.returned (.tuple #[.int .i64 0, .int .i64 0, .int .i64 1])) w) := ⟨⟨0, 0, 1, rfl, by simp only [ansBytes]; rw [if_pos h0], fun h => absurd h (by decide)⟩, Below.refl _ _⟩
    go_enter Tryd.func82, Tryd.ntmps82
    go_wp2_with fail
    go_ret3
    exact HP.out
  · by_cases h1 : (len : Int) - k < n
    · have HP : ∀ q, Hid (GetPost (ansBytes n r) w (.returned (.tuple #[.int .i64 0, .int .i64 0, .int .i64 20])) (w.drewN q)) := fun q => ⟨⟨0, 0, 20, rfl, by simp only [ansBytes]; rw [if_neg h0, if_pos (by omega)], fun h => absurd h (by decide)⟩, below_drewN (Below.refl _ _) q⟩
      go_enter Tryd.func82, Tryd.ntmps82
      go_wp2_with fail
      go_quiet (exact (HL _).out)
      go_wp2_with fail
      go_ret3
      exact (HP nq).out
    · have HP : ∀ q p, Hid (GetPost (ansBytes n r) w (.returned (.tuple #[.int .i64 0, .int .i64 n, .int .i64 0])) ((w.drewN q).drewN p)) := fun q p => ⟨⟨0, n, 0, rfl, by simp only [ansBytes]; rw [if_neg h0, if_neg (by omega)], fun h => by simp only [ansBytes]; rw [if_neg h0, if_neg (by omega)]; exact ⟨rfl, by show n = ((n.toNat : Nat) : Int); omega⟩⟩, below_drewN (below_drewN (Below.refl _ _) q) p⟩
      go_enter Tryd.func82, Tryd.ntmps82
      go_wp2_with fail
      go_quiet (exact (HL _).out)
      go_wp2_with fail
      go_quiet (fail)
      go_wp2_with fail
      go_ret3
      exact (HP _ nq).out
/-- What a round adds. -/
theorem byte_or {a x k : Nat} (ha : a < 256 ^ k) (hk : k ≤ 7) (hx : x < 256) :
    bits .or .u64 (a : Int) (IntKind.u64.wrap ((x : Int) * 2 ^ (8 * k))) = ((a + 256 ^ k * x : Nat) : Int) := by
  have p1 : 256 ^ k ≤ 256 ^ 7 := Nat.pow_le_pow_right (by decide) (by omega)
  have p2 : 256 ^ k * x ≤ 256 ^ 7 * 255 := Nat.mul_le_mul p1 (by omega)
  have hp : (2 : Nat) ^ (8 * k) = 256 ^ k := by rw [Nat.pow_mul]
  have h2 : (x : Int) * 2 ^ (8 * k) = ((256 ^ k * x : Nat) : Int) := by
    rw [Int.natCast_mul, ← hp, Int.natCast_pow, Int.mul_comm]
    rfl
  rw [h2]
  have h3 : IntKind.u64.wrap ((256 ^ k * x : Nat) : Int) = ((256 ^ k * x : Nat) : Int) := by rw [IntKind.wrap_u64]; omega
  rw [h3, u64_or_nat _ _ (by omega) (by omega)]
  have h4 : a ||| 256 ^ k * x = a + 256 ^ k * x := by
    rw [← hp, Nat.or_comm, ← Nat.two_pow_add_eq_or_of_lt (by rw [hp]; exact ha), Nat.add_comm]
  rw [h4]
set_option maxHeartbeats 1000000 in
theorem fixedC_any {w : World} {cb : Nat} {v : Value} {k e : Nat} {l : List UInt8} (hc : CurAt w cb v k e) (hb : Bytes w w.heap.size v l) (hk : k ≤ l.length) (hl : l.length ≤ 1000000) (n : Int) (hn : -9223372036854775808 ≤ n ∧ n ≤ 9223372036854775807) (B S : Nat)
    (hB : w.cell? ⟨B, 0, none⟩ = some (.pointer (some ⟨cb, 0, none⟩))) (hS : w.cell? ⟨S, 0, none⟩ = some (.int .i64 n)) :
    Calls Tryd.prog 80 #[.pointer (some ⟨S, 0, none⟩), .pointer (some ⟨B, 0, none⟩)] w (GetPost (ansFixed n (l.drop k)) w) := by
  obtain ⟨A, c, rfl, hlc, hcm, -, hA⟩ := hb
  unfold maxLen at hcm
  have HA := Lib.hid hA; clear hA
  have HL : ∀ m, Hid (Calls Tryd.prog 81 #[.pointer (some ⟨cb, 0, none⟩)] (w.drewN m) fun r w' => r = .returned (.int .i64 ((l.length : Int) - k)) ∧ ∃ q, w' = w.drewN q) := fun m => Calls.quiet_of (left_any (hc.drewN m) hk (by omega))
  have hrl : (l.drop k).length = l.length - k := List.length_drop
  by_cases h0 : n < 1
  · have HP : Hid (GetPost (ansFixed n (l.drop k)) w (.returned (.tuple #[.int .i64 0, .int .i64 0, .int .i64 1])) w) := ⟨⟨0, 0, 1, rfl, by simp only [ansFixed]; rw [if_pos (.inl h0)], fun h => absurd h (by decide)⟩, Below.refl _ _⟩
    clear hc hrl
    go_enter Tryd.func80, Tryd.ntmps80
    go_wp2_with fail
    go_ret3
    exact HP.out
  by_cases h8 : 8 < n
  · have HP : Hid (GetPost (ansFixed n (l.drop k)) w (.returned (.tuple #[.int .i64 0, .int .i64 0, .int .i64 1])) w) := ⟨⟨0, 0, 1, rfl, by simp only [ansFixed]; rw [if_pos (.inr h8)], fun h => absurd h (by decide)⟩, Below.refl _ _⟩
    clear hc hrl
    go_enter Tryd.func80, Tryd.ntmps80
    go_wp2_with fail
    go_ret3
    exact HP.out
  by_cases h1 : (l.length : Int) - k < n
  · have HP : ∀ q, Hid (GetPost (ansFixed n (l.drop k)) w (.returned (.tuple #[.int .i64 0, .int .i64 0, .int .i64 20])) (w.drewN q)) := fun q => ⟨⟨0, 0, 20, rfl, by simp only [ansFixed]; rw [if_neg (by omega), if_pos (by omega)], fun h => absurd h (by decide)⟩, below_drewN (Below.refl _ _) q⟩
    clear hc hrl
    go_enter Tryd.func80, Tryd.ntmps80
    go_wp2_with fail
    go_quiet (exact (HL _).out)
    go_wp2_with fail
    go_ret3
    exact (HP nq).out
  obtain ⟨s, rfl⟩ := Int.eq_ofNat_of_zero_le (show 0 ≤ n by omega)
  obtain ⟨r, hr⟩ : ∃ r, (l.drop k).take s = r := ⟨_, rfl⟩
  have hrs : r.length = s := by rw [← hr, List.length_take, hrl]; omega
  have HE : Hid (ansFixed (s : Int) (l.drop k) = if 9223372036854775808 ≤ fval r then (11, 0, 0) else (0, s, (fval r : Int))) := by
    show _ = _
    simp only [ansFixed, Int.toNat_natCast, hr]
    rw [if_neg (by omega), if_neg (by omega)]
  have hlt := fval_lt r
  rw [hrs] at hlt
  have hlt : fval r < 18446744073709551616 := Nat.lt_of_lt_of_le hlt (Nat.pow_le_pow_right (n := 256) (by decide) (show s ≤ 8 by omega))
  obtain ⟨b, o, rfl, hbB, hcell⟩ := HA.out (by omega)
  have HC : Hid (∀ j (h : j < r.length), w.cell? ⟨b, o + k + j, none⟩ = some (.int .u8 (r[j].toNat : Int))) := by
    intro j h
    subst hr
    rw [Nat.add_assoc]
    refine hcell (k + j) _ ?_
    rw [bytesV_at l (k + j) (by omega)]
    simp
  obtain ⟨c0, c1, c2, f0, f1, f2⟩ := hc
  have hs1 : 1 ≤ s := by omega
  have hs8 : s ≤ 8 := by omega
  have hkl : k + s ≤ l.length := by omega
  clear hcell hrl h0 h8 hn hr h1
  have h1 : ¬ ((l.length : Int) - k < s) := by omega
  generalize ansFixed (s : Int) (l.drop k) = ANS at *
  generalize l.length = len at *
  go_enter Tryd.func80, Tryd.ntmps80
  go_wp2_with fail
  go_quiet (exact (HL _).out)
  go_wp2_with fail
  go_quiet (fail)
  go_wp2_with fail
  go_loopw [5, 36] (fun x i wr => ∃ j a : Nat, j ≤ s ∧ i = .int .i64 j ∧ x = .int .u64 a ∧ a = fval (r.take j) ∧ Below w.heap.size w wr) (fun _ i _ => s - (intOf i).toNat)
  case atStart => exact ⟨0, 0, by omega, rfl, rfl, by simp [fval], below_drewN (below_drewN (Below.refl _ _) _) _⟩
  case round =>
    obtain ⟨j, a, hj, rfl, rfl, ha, hbel⟩ := hrel
    by_cases hjs : j < s
    · have hjr : j < r.length := by omega
      have hcx := (hbel.cell (p := ⟨b, o + k + j, none⟩) hbB).trans (HC.out j hjr)
      have hx := (r[j]).toNat_lt
      have HT := Lib.hid (show fval (r.take (j + 1)) = a + 256 ^ j * (r[j]).toNat by
        rw [List.take_succ_eq_append_getElem hjr, fval_append, List.length_take, Nat.min_eq_left (by omega), ← ha])
      have hal : a < 256 ^ j := by have := fval_lt (r.take j); rwa [List.length_take, Nat.min_eq_left (by omega), ← ha] at this
      have HO := Lib.hid (byte_or hal (show j ≤ 7 by omega) hx)
      clear hal ha
      generalize (r[j]).toNat = y at *
      rw [← HT.out] at HO
      clear HT
      go_wp2_with fail
      go_roundw
      case rel => exact ⟨j + 1, _, by omega, by go_num, by rw [HO.out], rfl, hbel⟩
      case measure => simp [intOf]; omega
    · obtain rfl : j = s := by omega
      rw [List.take_of_length_le (by omega)] at ha
      subst ha
      rcases Nat.lt_or_ge (fval r) 9223372036854775808 with h | h
      · have HP : ∀ q, Hid (GetPost ANS w (.returned (.tuple #[.int .i64 (fval r : Nat), .int .i64 j, .int .i64 0])) (wr.drewN q)) := fun q => ⟨⟨_, _, 0, rfl, by rw [HE.out, if_neg (by omega)], fun _ => by rw [HE.out, if_neg (by omega)]; exact ⟨rfl, rfl⟩⟩, below_drewN hbel q⟩
        have hz : ((fval r : Int) / 9223372036854775808 != 0) = false := by rw [bne_eq_false_iff_eq]; omega
        have hS' : wr.cell? ⟨S, 0, none⟩ = some (.int .i64 j) := (hbel.cell (World.block_lt_of_cell? w _ hS)).trans hS
        generalize fval r = y at *
        go_wp2_with fail
        go_quiet (fail)
        go_wp2_with fail
        go_ret3
        exact (HP nq).out
      · have HP : Hid (GetPost ANS w (.returned (.tuple #[.int .i64 0, .int .i64 0, .int .i64 11])) wr) := ⟨⟨_, _, 11, rfl, by rw [HE.out, if_pos (by omega)], fun h => absurd h (by decide)⟩, hbel⟩
        have hz : ((fval r : Int) / 9223372036854775808 != 0) = true := by rw [bne_iff_ne]; omega
        generalize fval r = y at *
        go_wp2_with fail
        go_ret3
        exact HP.out
open Go Go.RowKit

/-- A cursor that goes through bytes. -/
def Cur (w : World) (cb : Nat) (l : List UInt8) (k e : Nat) : Prop := ∃ v, CurAt w cb v k e ∧ Bytes w cb v l ∧ cb < w.heap.size ∧ k ≤ l.length
theorem Cur.belowC {w w' : World} {cb B : Nat} {l : List UInt8} {k e : Nat} (h : Cur w cb l k e) (hb : Below B w w') (hB : cb < B) : Cur w' cb l k e := by
  obtain ⟨v, h1, h2, h3, h4⟩ := h
  exact ⟨v, h1.below hb hB, Sl.keep h2 (fun p hp => hb.cell (Nat.lt_trans hp hB)), Nat.lt_of_lt_of_le h3 hb.size, h4⟩
theorem cur_drewN {w : World} {cb : Nat} {l : List UInt8} {k e : Nat} (h : Cur w cb l k e) (m : Nat) : Cur (w.drewN m) cb l k e := by
  obtain ⟨v, h1, h2, h3, h4⟩ := h
  exact ⟨v, h1.drewN m, h2, h3, h4⟩
theorem ansFixed_le (n : Int) (r : List UInt8) : (ansFixed n r).2.1 ≤ r.length := by
  simp only [ansFixed]
  split
  · exact Nat.zero_le _
  · split
    · exact Nat.zero_le _
    · split
      · exact Nat.zero_le _
      · show n.toNat ≤ _; omega
theorem ansBytes_le (n : Int) (r : List UInt8) : (ansBytes n r).2.1 ≤ r.length := by
  simp only [ansBytes]
  split
  · exact Nat.zero_le _
  · split
    · exact Nat.zero_le _
    · show n.toNat ≤ _; omega
theorem ansFixed_zero {n : Int} {r : List UInt8} (h : (ansFixed n r).1 ≠ 0) : (ansFixed n r).2 = (0, 0) := by
  revert h
  simp only [ansFixed]
  split
  · intro _; rfl
  · split
    · intro _; rfl
    · split
      · intro _; rfl
      · intro h; exact absurd rfl h
theorem ansBytes_zero {n : Int} {r : List UInt8} (h : (ansBytes n r).1 ≠ 0) : (ansBytes n r).2 = (0, 0) := by
  revert h
  simp only [ansBytes]
  split
  · intro _; rfl
  · split
    · intro _; rfl
    · intro h; exact absurd rfl h
theorem below_low {w w' : World} {B C : Nat} (h : Below B w w') (hC : C ≤ B) : Below C w w' := ⟨h.os, h.tape, h.output, h.size, fun j hj => h.block j (Nat.lt_of_lt_of_le hj hC)⟩
/-- A cursor's step, as its caller sees it. -/
theorem stepped_cur {w w1 w' : World} {cb : Nat} {v : Value} {l : List UInt8} {k e : Nat} {A : Nat × Nat × Int} {r : Ending} (h : Stepped w1 cb v k e A r w') (hb : Bytes w cb v l) (hw : Below w.heap.size w w1) (hcb : cb < w.heap.size) (hk : k ≤ l.length) (hA : A.2.1 ≤ (l.drop k).length) (h0 : w.cell? ⟨cb, 0, none⟩ = some v) :
    r = .returned (.int .i64 (stepN e A)) ∧ Cur w' cb l (stepK e A k) (stepE e A) ∧ (Gr cb w w' ∧ w'.cell? ⟨cb, 0, none⟩ = w.cell? ⟨cb, 0, none⟩) := by
  obtain ⟨h1, h2, h3⟩ := h
  have hB1 : Below cb w w1 := ⟨hw.os, hw.tape, hw.output, hw.size, fun j hj => hw.block j (by omega)⟩
  have hB2 : Below cb w1 w' := ⟨h3.os, h3.tape, h3.output, h3.size, fun j hj => h3.block j (by have := hw.size; omega) (fun e => by cases e; omega)⟩
  have hB := hB1.trans hB2
  rw [List.length_drop] at hA
  exact ⟨h1, ⟨v, h2, hb.below hB, Nat.lt_of_lt_of_le hcb hB.size, by unfold stepK; split <;> omega⟩, ⟨hB.os, hB.tape, hB.output, hB.size, fun j hj hc => (h3.block j (Nat.lt_of_lt_of_le hj hw.size) (fun e => by cases e; exact hc rfl)).trans (hw.block j hj)⟩, h2.c0.trans h0.symm⟩
/-- Memory with a cursor's name boxed. -/
theorem box_below (w : World) (u : Value) (t : TypeId) : Below w.heap.size w (w.alloc (.cells #[u] t)) := (Below.refl _ _).alloc (Nat.le_refl _) _
theorem cell_new2 (w : World) (u u' : Value) (t t' : TypeId) : ((w.alloc (.cells #[u] t)).alloc (.cells #[u'] t')).cell? ⟨w.heap.size, 0, none⟩ = some u ∧ ((w.alloc (.cells #[u] t)).alloc (.cells #[u'] t')).cell? ⟨w.heap.size + 1, 0, none⟩ = some u' := by
  constructor
  · rw [World.cell?_alloc_lt _ _ _ (by simp), cell_new]; rfl
  · simp
theorem box2_below (w : World) (u u' : Value) (t t' : TypeId) : Below w.heap.size w ((w.alloc (.cells #[u] t)).alloc (.cells #[u'] t')) := ((Below.refl _ _).alloc (Nat.le_refl _) _).alloc (by simp) _
set_option maxHeartbeats 1000000 in
theorem curFixed_any {w : World} {cb : Nat} {l : List UInt8} {k e : Nat} (h : Cur w cb l k e) (hl : l.length ≤ 1000000) (n : Int) (hn : -9223372036854775808 ≤ n ∧ n ≤ 9223372036854775807) :
    Calls Tryd.prog 58 #[.pointer (some ⟨cb, 0, none⟩), .int .i64 n] w fun r w' => r = .returned (.int .i64 (stepN e (ansFixed n (l.drop k)))) ∧ Cur w' cb l (stepK e (ansFixed n (l.drop k)) k) (stepE e (ansFixed n (l.drop k))) ∧ (Gr cb w w' ∧ w'.cell? ⟨cb, 0, none⟩ = w.cell? ⟨cb, 0, none⟩) := by
  obtain ⟨v, hc, hb, hcb, hk⟩ := h
  have hw1 := box2_below w (.pointer (some ⟨cb, 0, none⟩)) (.int .i64 n) 90 3
  have hle := ansFixed_le n (l.drop k)
  have hrl : (l.drop k).length = l.length - k := List.length_drop
  have HR := Lib.hid (read_any (hc.below hw1 hcb) (by simp; omega) 80 (by simp) #[.pointer (some ⟨w.heap.size + 1, 0, none⟩), .pointer (some ⟨w.heap.size, 0, none⟩)] (ansFixed n (l.drop k)) (by omega)
    (fun _ => fixedC_any (hc.below hw1 hcb) ((hb.below (below_low hw1 (Nat.le_of_lt hcb))).more (by simp; omega)) hk hl n hn w.heap.size (w.heap.size + 1) (cell_new2 w _ _ _ _).1 (cell_new2 w _ _ _ _).2))
  have HS := Lib.hid (fun r w' (h : Stepped _ cb v k e (ansFixed n (l.drop k)) r w') => stepped_cur h hb hw1 hcb hk hle hc.c0)
  generalize ansFixed n (l.drop k) = A at *
  clear hc hb hrl hle hw1
  go_enter Tryd.func58, Tryd.ntmps58
  go_wp2_with fail
  refine HR.out.mono ?_
  intro r w' hS
  obtain ⟨rfl, h2, h3⟩ := HS.out r w' hS
  go_wp2_with fail
  go_ret
  exact ⟨rfl, h2, h3⟩
/-- The bytes that are answered. -/
def cutN (n : Int) (e : Nat) (r : List UInt8) : List UInt8 := if e = 0 ∧ (ansBytes n r).1 = 0 then r.take n.toNat else []
theorem bytes_cut {w : World} {cb b o len c k n : Nat} {l : List UInt8} (h : Bytes w cb (.slice (some ⟨b, o, none⟩) len c) l) (hl : len = l.length) (hkn : k + n ≤ l.length) (h0 : 0 < l.length) : Bytes w cb (.slice (some ⟨b, o + k, none⟩) n n) ((l.drop k).take n) := by
  subst hl
  obtain ⟨A, c', e, h1, h2, -, hA⟩ := h
  cases e
  obtain ⟨b', o', e, hB, hc⟩ := hA h0
  cases e
  have hr : ((l.drop k).take n).length = n := by rw [List.length_take, List.length_drop]; omega
  unfold Bytes
  rw [hr]
  refine Sl.mk_ (Nat.le_refl _) (by omega) (by rw [length_bytesV, hr, Nat.mul_one]) hB (fun j u hu => ?_)
  have hj : j < n := by
    have := (List.getElem?_eq_some_iff.1 hu).1
    rw [length_bytesV, hr] at this
    exact this
  rw [bytesV_at _ _ (by rw [hr]; exact hj)] at hu
  rw [Nat.add_assoc]
  refine hc (k + j) u ?_
  rw [bytesV_at _ _ (by omega), ← hu]
  simp
set_option maxHeartbeats 1000000 in
theorem curBytes_any {w : World} {cb : Nat} {l : List UInt8} {k e : Nat} (h : Cur w cb l k e) (hl : l.length ≤ 1000000) (n : Int) (hn : -9223372036854775808 ≤ n ∧ n ≤ 9223372036854775807) :
    Calls Tryd.prog 59 #[.pointer (some ⟨cb, 0, none⟩), .int .i64 n] w fun r w' => (∃ A' N, r = .returned (.slice A' N N) ∧ Bytes w' cb (.slice A' N N) (cutN n e (l.drop k))) ∧ Cur w' cb l (stepK e (ansBytes n (l.drop k)) k) (stepE e (ansBytes n (l.drop k))) ∧ (Gr cb w w' ∧ w'.cell? ⟨cb, 0, none⟩ = w.cell? ⟨cb, 0, none⟩) := by
  obtain ⟨v, hc, hb, hcb, hk⟩ := h
  have hw1 := box2_below w (.pointer (some ⟨cb, 0, none⟩)) (.int .i64 n) 90 3
  have hle := ansBytes_le n (l.drop k)
  have hrl : (l.drop k).length = l.length - k := List.length_drop
  obtain ⟨A0, c, rfl, hlc, hcm⟩ := hb.form
  unfold maxLen at hcm
  have hat := Lib.hid (at_any (hc.below hw1 hcb))
  have HR := Lib.hid (read_any (hc.below hw1 hcb) (by simp; omega) 82 (by simp) #[.pointer (some ⟨w.heap.size + 1, 0, none⟩), .pointer (some ⟨w.heap.size, 0, none⟩)] (ansBytes n (l.drop k)) (by omega)
    (fun _ => bytesC_any (hc.below hw1 hcb) hk hl n hn w.heap.size (w.heap.size + 1) (l.drop k) hrl (cell_new2 w _ _ _ _).1 (cell_new2 w _ _ _ _).2))
  have hcell := (cell_new2 w (.pointer (some ⟨cb, 0, none⟩)) (.int .i64 n) 90 3).1
  have HS := Lib.hid (fun r w' (h : Stepped _ cb _ k e (ansBytes n (l.drop k)) r w') => And.intro (stepped_cur h hb hw1 hcb hk hle hc.c0) h)
  have HB := Lib.hid hb
  clear hb
  have HC := Lib.hid hc
  clear hc
  have hAns : ansBytes n (l.drop k) = if n < 0 then (1, 0, 0) else if ((l.drop k).length : Int) < n then (20, 0, 0) else (0, n.toNat, 0) := rfl
  have HA := Lib.hid hAns
  clear hAns
  go_enter Tryd.func59, Tryd.ntmps59
  go_wp2_with fail
  refine hat.out.mono ?_
  rintro r w1 ⟨rfl, rfl⟩
  go_wp2_with fail
  refine HR.out.mono ?_
  intro r w' hS
  obtain ⟨⟨rfl, h2, h3⟩, -, hcu, hgr⟩ := HS.out r w' hS
  have hcell' : w'.cell? ⟨w.heap.size, 0, none⟩ = some (.pointer (some ⟨cb, 0, none⟩)) := (World.cell?_of_block (hgr.block w.heap.size (by simp <;> omega) (fun e => by cases e; omega))).trans hcell
  have herr := Lib.hid (err_any hcu)
  by_cases hz : e = 0 ∧ (ansBytes n (l.drop k)).1 = 0
  · obtain ⟨he, hz⟩ := hz
    subst he
    have hAn := HA.out
    split at hAn
    · rw [hAn] at hz; exact absurd hz (by decide)
    split at hAn
    · rw [hAn] at hz; exact absurd hz (by decide)
    rename_i hn0 hn1
    obtain ⟨m, rfl⟩ := Int.eq_ofNat_of_zero_le (show 0 ≤ n by omega)
    have hkm : k + m ≤ l.length := by omega
    have hE : stepE 0 (ansBytes m (l.drop k)) = 0 := by simp [stepE, hz]
    have hK : stepK 0 (ansBytes m (l.drop k)) k = k + m := by simp [stepK, hAn]
    have hCut : cutN m 0 (l.drop k) = (l.drop k).take m := by simp [cutN, hz]
    have HP := Lib.hid (And.intro h2 h3)
    rw [hE, hK] at hcu
    rw [hE] at herr
    have HCut := Lib.hid hCut
    obtain ⟨c0, c1, c2, f0, f1, f2⟩ := hcu
    generalize stepN 0 (ansBytes m (l.drop k)) = sN at *
    clear hAn hz hE hK hCut hcell h2 h3 hgr c2 f0 f1 f2
    rcases Nat.eq_zero_or_pos m with hm0 | hm0
    · have HN : Hid ((l.drop k).take m = []) := by show _ = _; rw [hm0]; rfl
      clear hle hrl
      have HBe : ∀ q A', Hid (Bytes (w'.drewN q) cb (.slice A' 0 0) (cutN m 0 (l.drop k)) ∧ Cur (w'.drewN q) cb l (stepK 0 (ansBytes m (l.drop k)) k) (stepE 0 (ansBytes m (l.drop k))) ∧ Gr cb w (w'.drewN q) ∧ (w'.drewN q).cell? ⟨cb, 0, none⟩ = w.cell? ⟨cb, 0, none⟩) := fun q A' =>
        ⟨by rw [HCut.out, HN.out]; exact ⟨_, _, rfl, Nat.le_refl _, by decide, rfl, fun h => absurd h (by decide)⟩, cur_drewN HP.out.1 q, gr_drewN HP.out.2.1 q, HP.out.2.2⟩
      generalize l.length = len at *
      subst hm0
      rcases A0 with _ | ⟨b, o, t⟩
      · go_wp2_with fail
        refine herr.out.mono ?_
        rintro r w2 ⟨rfl, rfl⟩
        go_wp2_with fail
        go_quiet (fail)
        go_wp2_with fail
        go_ret
        exact ⟨⟨_, _, rfl, (HBe nq _).out.1⟩, (HBe nq none).out.2⟩
      · go_wp2_with fail
        refine herr.out.mono ?_
        rintro r w2 ⟨rfl, rfl⟩
        go_wp2_with fail
        go_quiet (fail)
        go_wp2_with fail
        go_ret
        exact ⟨⟨_, _, rfl, (HBe nq _).out.1⟩, (HBe nq none).out.2⟩
    · have h0 : 0 < l.length := by omega
      obtain ⟨b, o, c', e, hB, -⟩ := Sl.at_ HB.out h0
      cases e
      have hbc := (bytes_cut HB.out rfl hkm h0).below (HP.out.2.1.low (Nat.le_of_lt hcb))
      have HBe : ∀ q, Hid (Bytes (w'.drewN q) cb (.slice (some ⟨b, o + k, none⟩) m m) (cutN m 0 (l.drop k)) ∧ Cur (w'.drewN q) cb l (stepK 0 (ansBytes m (l.drop k)) k) (stepE 0 (ansBytes m (l.drop k))) ∧ Gr cb w (w'.drewN q) ∧ (w'.drewN q).cell? ⟨cb, 0, none⟩ = w.cell? ⟨cb, 0, none⟩) := fun q =>
        ⟨by rw [HCut.out]; exact hbc, cur_drewN HP.out.1 q, gr_drewN HP.out.2.1 q, HP.out.2.2⟩
      clear hbc hle hrl
      generalize l.length = len at *
      go_wp2_with fail
      refine herr.out.mono ?_
      rintro r w2 ⟨rfl, rfl⟩
      go_wp2_with fail
      go_quiet (fail)
      go_wp2_with fail
      go_ret
      exact ⟨⟨_, k + m - k, rfl, by rw [Nat.add_sub_cancel_left]; exact (HBe nq).out.1⟩, (HBe nq).out.2⟩
  · have hE : (((stepE e (ansBytes n (l.drop k)) : Nat) : Int) != 0) = true := by
      rw [bne_iff_ne]
      intro h
      apply hz
      simp only [stepE] at h
      split at h
      · exact ⟨‹_›, by omega⟩
      · omega
    have HCut := Lib.hid (show cutN n e (l.drop k) = [] by simp only [cutN]; rw [if_neg hz])
    have HP := Lib.hid (And.intro h2 h3)
    obtain ⟨e2, he2⟩ : ∃ e2, stepE e (ansBytes n (l.drop k)) = e2 := ⟨_, rfl⟩
    rw [he2] at hE herr
    clear hz hcu h2 h3
    go_wp2_with fail
    refine herr.out.mono ?_
    rintro r w2 ⟨rfl, rfl⟩
    go_wp2_with fail
    go_ret
    exact ⟨⟨none, 0, rfl, by rw [HCut.out]; exact Bytes.nil _ _⟩, HP.out⟩
open Go Go.RowKit

theorem cells3 (w : World) (u0 u1 u2 : Value) (t : TypeId) :
    (w.alloc (.cells #[u0, u1, u2] t)).cell? ⟨w.heap.size, 0, none⟩ = some u0 ∧ (w.alloc (.cells #[u0, u1, u2] t)).cell? ⟨w.heap.size, 1, none⟩ = some u1 ∧ (w.alloc (.cells #[u0, u1, u2] t)).cell? ⟨w.heap.size, 2, none⟩ = some u2 :=
  ⟨by rw [cell_new]; rfl, by rw [cell_new]; rfl, by rw [cell_new]; rfl⟩
theorem free3 (w : World) (u0 u1 u2 : Value) (t : TypeId) (i : Nat) : (w.alloc (.cells #[u0, u1, u2] t)).frozen? ⟨w.heap.size, i, none⟩ = false := by
  have h : (w.alloc (.cells #[u0, u1, u2] t)).heap[w.heap.size]? = some (.cells #[u0, u1, u2] t) := heap_alloc_new w _
  unfold World.frozen?; rw [h]; simp
theorem new_cur {w : World} {v : Value} {l : List UInt8} (h : Bytes w w.heap.size v l) (t : TypeId) : Cur (w.alloc (.cells #[v, .int .i64 0, .int .i64 0] t)) w.heap.size l 0 0 :=
  ⟨v, ⟨(cells3 _ _ _ _ _).1, (cells3 _ _ _ _ _).2.1, (cells3 _ _ _ _ _).2.2, free3 _ _ _ _ _ _, free3 _ _ _ _ _ _, free3 _ _ _ _ _ _⟩, h.alloc (Nat.le_refl _) _, by simp, Nat.zero_le _⟩
set_option maxHeartbeats 400000 in
theorem new_any {w : World} {v : Value} {l : List UInt8} (h : Bytes w w.heap.size v l) :
    Calls Tryd.prog 56 #[v] w fun r w' => r = .returned (.pointer (some ⟨w.heap.size, 0, none⟩)) ∧ Cur w' w.heap.size l 0 0 ∧ Below w.heap.size w w' := by
  obtain ⟨A, c, rfl, -, -⟩ := h.form
  have HC := Lib.hid (new_cur h 117)
  clear h
  go_enter Tryd.func56, Tryd.ntmps56
  go_wp2_with fail
  go_ret
  exact ⟨rfl, HC.out, (Below.refl _ _).alloc (Nat.le_refl _) _⟩
theorem cur_at {w : World} {cb : Nat} {l : List UInt8} {k e : Nat} (h : Cur w cb l k e) : Calls Tryd.prog 57 #[.pointer (some ⟨cb, 0, none⟩)] w fun r w' => r = .returned (.int .i64 k) ∧ w = w' := by
  obtain ⟨v, h1, -⟩ := h
  exact at_any h1
theorem cur_err {w : World} {cb : Nat} {l : List UInt8} {k e : Nat} (h : Cur w cb l k e) : Calls Tryd.prog 61 #[.pointer (some ⟨cb, 0, none⟩)] w fun r w' => r = .returned (.int .i64 e) ∧ w = w' := by
  obtain ⟨v, h1, -⟩ := h
  exact err_any h1
end Go.Proofs.YtmhadkdbonfmdaaDoor
