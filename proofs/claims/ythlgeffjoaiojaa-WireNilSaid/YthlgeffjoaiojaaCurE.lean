/-
  Layer 5's cursor: what the four readings hand back.
-/
import Derived.Test.YthlgeffjoaiojaaCurD
namespace Go.Proofs.Ythlgeffjoaiojaa
open Go Go.RowKit

theorem numOf_lt (r : List UInt8) : (numOf r).2.2 < 18446744073709551616 := by
  simp only [numOf]
  split
  · decide
  · rename_i h9
    split
    · rename_i hj
      split
      · decide
      · rename_i hb
        generalize (r.findIdx fun x => decide (x.toNat < 128)) = j at *
        have hv := val_lt (r.take j)
        rw [List.length_take, Nat.min_eq_left (by omega)] at hv
        show val (r.take (j + 1)) < _
        rw [List.take_succ_eq_append_getElem hj, val_append, List.length_take, Nat.min_eq_left (by omega)]
        have hx : (r[j]).toNat % 128 < 128 := Nat.mod_lt _ (by decide)
        rcases Nat.lt_or_ge j 9 with h | h
        · have p1 : 128 ^ j ≤ 128 ^ 8 := Nat.pow_le_pow_right (by decide) (by omega)
          have p2 : 128 ^ j * ((r[j]).toNat % 128) ≤ 128 ^ 8 * 127 := Nat.mul_le_mul p1 (by omega)
          omega
        · obtain rfl : j = 9 := by omega
          have hx1 : (r[9]).toNat ≤ 1 := by
            simp [bad] at hb
            omega
          have p2 : 128 ^ 9 * ((r[9]).toNat % 128) ≤ 128 ^ 9 * 1 := Nat.mul_le_mul (Nat.le_refl _) (by omega)
          omega
    · decide
/-- What a number was turned from. -/
def unzig (n : Nat) : Int := if n % 2 = 0 then ((n / 2 : Nat) : Int) else -((n / 2 : Nat) : Int) - 1
def ansUint (r : List UInt8) : Nat × Nat × Int := if (numOf r).1 = 0 ∧ 9223372036854775808 ≤ (numOf r).2.2 then (11, 0, 0) else ((numOf r).1, (numOf r).2.1, ((numOf r).2.2 : Int))
def ansInt (r : List UInt8) : Nat × Nat × Int := ((numOf r).1, (numOf r).2.1, unzig (numOf r).2.2)
/-- Bytes as a number, the lowest one first. -/
def fval : List UInt8 → Nat
  | [] => 0
  | x :: r => x.toNat + 256 * fval r
theorem fval_append (a : List UInt8) (x : UInt8) : fval (a ++ [x]) = fval a + 256 ^ a.length * x.toNat := by
  induction a with
  | nil => simp [fval]
  | cons y r ih => simp only [List.cons_append, fval, ih, List.length_cons, Nat.pow_succ, Nat.mul_add]; rw [Nat.mul_comm (256 ^ r.length) 256, Nat.mul_assoc]; omega
theorem fval_lt (a : List UInt8) : fval a < 256 ^ a.length := by
  induction a with
  | nil => simp [fval]
  | cons y r ih => simp only [fval, List.length_cons, Nat.pow_succ]; have := y.toNat_lt; omega
def ansFixed (size : Int) (r : List UInt8) : Nat × Nat × Int :=
  if size < 1 ∨ 8 < size then (1, 0, 0) else if (r.length : Int) < size then (20, 0, 0)
  else if 9223372036854775808 ≤ fval (r.take size.toNat) then (11, 0, 0) else (0, size.toNat, (fval (r.take size.toNat) : Int))
def ansBytes (n : Int) (r : List UInt8) : Nat × Nat × Int :=
  if n < 0 then (1, 0, 0) else if (r.length : Int) < n then (20, 0, 0) else (0, n.toNat, 0)

theorem xor_neg_one {a : Nat} (h : a < 9223372036854775808) : bits .xor .i64 (a : Int) (-1) = -(a : Int) - 1 := by
  have h1 : (BitVec.ofInt 64 (a : Int)).toNat = a := by rw [BitVec.ofInt_natCast, BitVec.toNat_ofNat]; exact Nat.mod_eq_of_lt (by omega)
  have h2 : BitVec.ofInt 64 (-1) = BitVec.allOnes 64 := by decide
  show IntKind.i64.wrap ((BitVec.ofInt 64 (a : Int) ^^^ BitVec.ofInt 64 (-1)).toNat : Int) = _
  rw [h2, BitVec.xor_allOnes, BitVec.toNat_not, h1]
  simp only [IntKind.wrap, IntKind.bits, IntKind.signed]
  simp
  omega
theorem xor_zero_i64 {a : Nat} (h : a < 9223372036854775808) : bits .xor .i64 (a : Int) 0 = (a : Int) := by
  have h1 : (BitVec.ofInt 64 (a : Int)).toNat = a := by rw [BitVec.ofInt_natCast, BitVec.toNat_ofNat]; exact Nat.mod_eq_of_lt (by omega)
  show IntKind.i64.wrap ((BitVec.ofInt 64 (a : Int) ^^^ BitVec.ofInt 64 0).toNat : Int) = _
  have h2 : BitVec.ofInt 64 0 = 0#64 := by decide
  rw [h2, BitVec.xor_zero, h1]
  simp only [IntKind.wrap, IntKind.bits, IntKind.signed]
  simp
  omega

set_option maxHeartbeats 1000000 in
theorem uintC_any {w : World} {cb : Nat} {v : Value} {k e : Nat} {l : List UInt8} (hc : CurAt w cb v k e) (hcb : cb < w.heap.size) (hb : Bytes w w.heap.size v l) (hk : k ≤ l.length) (hl : l.length ≤ 1000000) (B : Nat)
    (hB : w.cell? ⟨B, 0, none⟩ = some (.pointer (some ⟨cb, 0, none⟩))) :
    Calls Try.prog 35 #[.pointer (some ⟨B, 0, none⟩)] w (GetPost (ansUint (l.drop k)) w) := by
  have HN := Lib.hid (number_any cb k e v l w hc hcb hb hk hl)
  clear hc hb hk hl hcb
  have HQ := Lib.hid (numOf_lt (l.drop k))
  generalize l.drop k = r at *
  go_enter Try.func35, Try.ntmps35
  go_wp2_with fail
  refine HN.out.mono ?_
  rintro e3 w1 ⟨⟨a, m, e2, rfl, hN1, hN2⟩, hb1⟩
  by_cases h : e2 = 0
  · subst h
    obtain ⟨n, j, rfl, rfl, hq⟩ := hN2 rfl
    have hlt := HQ.out
    rw [hq] at hlt
    dsimp only at hlt
    rcases Nat.lt_or_ge n 9223372036854775808 with h | h
    · have HP : Hid (GetPost (ansUint r) w (.returned (.tuple #[.int .i64 n, .int .i64 j, .int .i64 0])) w1) := ⟨⟨n, j, 0, rfl, by simp only [ansUint, hq]; rw [if_neg (by omega)], fun _ => by simp only [ansUint, hq]; rw [if_neg (by omega)]; exact ⟨rfl, rfl⟩⟩, hb1⟩
      have hz : ((n : Int) / 9223372036854775808 != 0) = false := by rw [bne_eq_false_iff_eq]; omega
      clear hN1 hN2 hq
      go_wp2_with fail
      go_ret3
      exact HP.out
    · have HP : ∀ z : Int, Hid (GetPost (ansUint r) w (.returned (.tuple #[.int .i64 z, .int .i64 j, .int .i64 11])) w1) := fun z => ⟨⟨z, j, 11, rfl, by simp only [ansUint, hq]; rw [if_pos ⟨trivial, h⟩], fun h => absurd h (by decide)⟩, hb1⟩
      have hz : ((n : Int) / 9223372036854775808 != 0) = true := by rw [bne_iff_ne]; omega
      clear hN1 hN2 hq
      go_wp2_with fail
      go_ret3
      exact (HP _).out
  · have HP : ∀ z : Int, Hid (GetPost (ansUint r) w (.returned (.tuple #[.int .i64 z, .int .i64 m, .int .i64 e2])) w1) := fun z => ⟨⟨z, m, e2, rfl, by simp only [ansUint]; rw [if_neg (by omega)]; exact hN1, fun h' => absurd h' h⟩, hb1⟩
    have hz : ((e2 : Int) == 0) = false := by rw [beq_eq_false_iff_ne]; omega
    clear hN1 hN2
    go_wp2_with fail
    go_ret3
    exact (HP _).out

set_option maxHeartbeats 1000000 in
theorem intC_any {w : World} {cb : Nat} {v : Value} {k e : Nat} {l : List UInt8} (hc : CurAt w cb v k e) (hcb : cb < w.heap.size) (hb : Bytes w w.heap.size v l) (hk : k ≤ l.length) (hl : l.length ≤ 1000000) (B : Nat)
    (hB : w.cell? ⟨B, 0, none⟩ = some (.pointer (some ⟨cb, 0, none⟩))) :
    Calls Try.prog 33 #[.pointer (some ⟨B, 0, none⟩)] w (GetPost (ansInt (l.drop k)) w) := by
  have HN := Lib.hid (number_any cb k e v l w hc hcb hb hk hl)
  clear hc hb hk hl hcb
  have HQ := Lib.hid (numOf_lt (l.drop k))
  generalize l.drop k = r at *
  go_enter Try.func33, Try.ntmps33
  go_wp2_with fail
  refine HN.out.mono ?_
  rintro e3 w1 ⟨⟨a, m, e2, rfl, hN1, hN2⟩, hb1⟩
  by_cases h : e2 = 0
  · subst h
    obtain ⟨n, j, rfl, rfl, hq⟩ := hN2 rfl
    have hlt := HQ.out
    rw [hq] at hlt
    dsimp only at hlt
    have h1 : bits .and .u64 (n : Int) 1 = ((n % 2 : Nat) : Int) := by
      rw [show (1 : Int) = ((1 : Nat) : Int) from rfl, u64_and_nat n 1 hlt (by omega), Nat.and_one_is_mod]
    have h2 : (n : Int) / 2 = ((n / 2 : Nat) : Int) := by omega
    have HP : Hid (GetPost (ansInt r) w (.returned (.tuple #[.int .i64 (unzig n), .int .i64 j, .int .i64 0])) w1) := ⟨⟨_, j, 0, rfl, by simp only [ansInt, hq], fun _ => by simp only [ansInt, hq]; exact ⟨trivial, trivial⟩⟩, hb1⟩
    clear hN1 hN2 hq
    have hq2 : n / 2 < 9223372036854775808 := by omega
    rcases Nat.mod_two_eq_zero_or_one n with h3 | h3
    · have hx := xor_zero_i64 hq2
      have hu : unzig n = ((n / 2 : Nat) : Int) := by rw [unzig, if_pos h3]
      rw [h3] at h1
      rw [hu] at HP
      generalize n / 2 = q at *
      go_wp2_with fail
      go_ret3
      exact HP.out
    · have hx := xor_neg_one hq2
      have hu : unzig n = -((n / 2 : Nat) : Int) - 1 := by rw [unzig, if_neg (by omega)]
      rw [h3] at h1
      rw [hu] at HP
      generalize n / 2 = q at *
      go_wp2_with fail
      go_ret3
      exact HP.out
  · have HP : ∀ z : Int, Hid (GetPost (ansInt r) w (.returned (.tuple #[.int .i64 z, .int .i64 m, .int .i64 e2])) w1) := fun z => ⟨⟨z, m, e2, rfl, hN1, fun h' => absurd h' h⟩, hb1⟩
    clear hN1 hN2
    go_wp2_with fail
    go_ret3
    exact (HP _).out

theorem CurAt.drewN {w : World} {cb : Nat} {v : Value} {k e : Nat} (h : CurAt w cb v k e) (m : Nat) : CurAt (w.drewN m) cb v k e := ⟨h.c0, h.c1, h.c2, h.f0, h.f1, h.f2⟩

set_option maxHeartbeats 1000000 in
theorem bytesC_any {w : World} {cb : Nat} {A : Option Addr} {len c : Nat} {k e : Nat} (hc : CurAt w cb (.slice A len c) k e) (hk : k ≤ len) (hl : len ≤ 1000000) (n : Int) (hn : -9223372036854775808 ≤ n ∧ n ≤ 9223372036854775807) (B S : Nat) (r : List UInt8) (hr : r.length = len - k)
    (hB : w.cell? ⟨B, 0, none⟩ = some (.pointer (some ⟨cb, 0, none⟩))) (hS : w.cell? ⟨S, 0, none⟩ = some (.int .i64 n)) :
    Calls Try.prog 37 #[.pointer (some ⟨S, 0, none⟩), .pointer (some ⟨B, 0, none⟩)] w (GetPost (ansBytes n r) w) := by
  have HL : ∀ m, Hid (Calls Try.prog 22 #[.pointer (some ⟨cb, 0, none⟩)] (w.drewN m) fun r w' => r = .returned (.int .i64 ((len : Int) - k)) ∧ ∃ q, w' = w.drewN q) := fun m => Calls.quiet_of (left_any (hc.drewN m) hk (by omega))
  clear hc
  by_cases h0 : n < 0
  · have HP : Hid (GetPost (ansBytes n r) w (.returned (.tuple #[.int .i64 0, .int .i64 0, .int .i64 1])) w) := ⟨⟨0, 0, 1, rfl, by simp only [ansBytes]; rw [if_pos h0], fun h => absurd h (by decide)⟩, Below.refl _ _⟩
    go_enter Try.func37, Try.ntmps37
    go_wp2_with fail
    go_ret3
    exact HP.out
  · by_cases h1 : (len : Int) - k < n
    · have HP : ∀ q, Hid (GetPost (ansBytes n r) w (.returned (.tuple #[.int .i64 0, .int .i64 0, .int .i64 20])) (w.drewN q)) := fun q => ⟨⟨0, 0, 20, rfl, by simp only [ansBytes]; rw [if_neg h0, if_pos (by omega)], fun h => absurd h (by decide)⟩, below_drewN (Below.refl _ _) q⟩
      go_enter Try.func37, Try.ntmps37
      go_wp2_with fail
      go_quiet (exact (HL _).out)
      go_wp2_with fail
      go_ret3
      exact (HP nq).out
    · have HP : ∀ q p, Hid (GetPost (ansBytes n r) w (.returned (.tuple #[.int .i64 0, .int .i64 n, .int .i64 0])) ((w.drewN q).drewN p)) := fun q p => ⟨⟨0, n, 0, rfl, by simp only [ansBytes]; rw [if_neg h0, if_neg (by omega)], fun h => by simp only [ansBytes]; rw [if_neg h0, if_neg (by omega)]; exact ⟨rfl, by show n = ((n.toNat : Nat) : Int); omega⟩⟩, below_drewN (below_drewN (Below.refl _ _) q) p⟩
      go_enter Try.func37, Try.ntmps37
      go_wp2_with fail
      go_quiet (exact (HL _).out)
      go_wp2_with fail
      go_quiet (fail)
      go_wp2_with fail
      go_ret3
      exact (HP _ nq).out

/-- What a round adds. -/
theorem byte_or {a x k : Nat} (ha : a < 256 ^ k) (hk : k ≤ 7) (hx : x < 256) :
    bits .or .u64 (a : Int) (IntKind.u64.wrap ((x : Int) * 2 ^ (8 * k))) = ((a + 256 ^ k * x : Nat) : Int) := by
  have p1 : 256 ^ k ≤ 256 ^ 7 := Nat.pow_le_pow_right (by decide) (by omega)
  have p2 : 256 ^ k * x ≤ 256 ^ 7 * 255 := Nat.mul_le_mul p1 (by omega)
  have hp : (2 : Nat) ^ (8 * k) = 256 ^ k := by rw [Nat.pow_mul]
  have h2 : (x : Int) * 2 ^ (8 * k) = ((256 ^ k * x : Nat) : Int) := by
    rw [Int.natCast_mul, ← hp, Int.natCast_pow, Int.mul_comm]
    rfl
  rw [h2]
  have h3 : IntKind.u64.wrap ((256 ^ k * x : Nat) : Int) = ((256 ^ k * x : Nat) : Int) := by rw [IntKind.wrap_u64]; omega
  rw [h3, u64_or_nat _ _ (by omega) (by omega)]
  have h4 : a ||| 256 ^ k * x = a + 256 ^ k * x := by
    rw [← hp, Nat.or_comm, ← Nat.two_pow_add_eq_or_of_lt (by rw [hp]; exact ha), Nat.add_comm]
  rw [h4]

set_option maxHeartbeats 1000000 in
theorem fixedC_any {w : World} {cb : Nat} {v : Value} {k e : Nat} {l : List UInt8} (hc : CurAt w cb v k e) (hb : Bytes w w.heap.size v l) (hk : k ≤ l.length) (hl : l.length ≤ 1000000) (n : Int) (hn : -9223372036854775808 ≤ n ∧ n ≤ 9223372036854775807) (B S : Nat)
    (hB : w.cell? ⟨B, 0, none⟩ = some (.pointer (some ⟨cb, 0, none⟩))) (hS : w.cell? ⟨S, 0, none⟩ = some (.int .i64 n)) :
    Calls Try.prog 36 #[.pointer (some ⟨S, 0, none⟩), .pointer (some ⟨B, 0, none⟩)] w (GetPost (ansFixed n (l.drop k)) w) := by
  obtain ⟨A, c, rfl, hlc, hcm, -, hA⟩ := hb
  unfold maxLen at hcm
  have HA := Lib.hid hA; clear hA
  have HL : ∀ m, Hid (Calls Try.prog 22 #[.pointer (some ⟨cb, 0, none⟩)] (w.drewN m) fun r w' => r = .returned (.int .i64 ((l.length : Int) - k)) ∧ ∃ q, w' = w.drewN q) := fun m => Calls.quiet_of (left_any (hc.drewN m) hk (by omega))
  have hrl : (l.drop k).length = l.length - k := List.length_drop
  by_cases h0 : n < 1
  · have HP : Hid (GetPost (ansFixed n (l.drop k)) w (.returned (.tuple #[.int .i64 0, .int .i64 0, .int .i64 1])) w) := ⟨⟨0, 0, 1, rfl, by simp only [ansFixed]; rw [if_pos (.inl h0)], fun h => absurd h (by decide)⟩, Below.refl _ _⟩
    clear hc hrl
    go_enter Try.func36, Try.ntmps36
    go_wp2_with fail
    go_ret3
    exact HP.out
  by_cases h8 : 8 < n
  · have HP : Hid (GetPost (ansFixed n (l.drop k)) w (.returned (.tuple #[.int .i64 0, .int .i64 0, .int .i64 1])) w) := ⟨⟨0, 0, 1, rfl, by simp only [ansFixed]; rw [if_pos (.inr h8)], fun h => absurd h (by decide)⟩, Below.refl _ _⟩
    clear hc hrl
    go_enter Try.func36, Try.ntmps36
    go_wp2_with fail
    go_ret3
    exact HP.out
  by_cases h1 : (l.length : Int) - k < n
  · have HP : ∀ q, Hid (GetPost (ansFixed n (l.drop k)) w (.returned (.tuple #[.int .i64 0, .int .i64 0, .int .i64 20])) (w.drewN q)) := fun q => ⟨⟨0, 0, 20, rfl, by simp only [ansFixed]; rw [if_neg (by omega), if_pos (by omega)], fun h => absurd h (by decide)⟩, below_drewN (Below.refl _ _) q⟩
    clear hc hrl
    go_enter Try.func36, Try.ntmps36
    go_wp2_with fail
    go_quiet (exact (HL _).out)
    go_wp2_with fail
    go_ret3
    exact (HP nq).out
  obtain ⟨s, rfl⟩ := Int.eq_ofNat_of_zero_le (show 0 ≤ n by omega)
  obtain ⟨r, hr⟩ : ∃ r, (l.drop k).take s = r := ⟨_, rfl⟩
  have hrs : r.length = s := by rw [← hr, List.length_take, hrl]; omega
  have HE : Hid (ansFixed (s : Int) (l.drop k) = if 9223372036854775808 ≤ fval r then (11, 0, 0) else (0, s, (fval r : Int))) := by
    show _ = _
    simp only [ansFixed, Int.toNat_natCast, hr]
    rw [if_neg (by omega), if_neg (by omega)]
  have hlt := fval_lt r
  rw [hrs] at hlt
  have hlt : fval r < 18446744073709551616 := Nat.lt_of_lt_of_le hlt (Nat.pow_le_pow_right (n := 256) (by decide) (show s ≤ 8 by omega))
  obtain ⟨b, o, rfl, hbB, hcell⟩ := HA.out (by omega)
  have HC : Hid (∀ j (h : j < r.length), w.cell? ⟨b, o + k + j, none⟩ = some (.int .u8 (r[j].toNat : Int))) := by
    intro j h
    subst hr
    rw [Nat.add_assoc]
    refine hcell (k + j) _ ?_
    rw [bytesV_at l (k + j) (by omega)]
    simp
  obtain ⟨c0, c1, c2, f0, f1, f2⟩ := hc
  have hs1 : 1 ≤ s := by omega
  have hs8 : s ≤ 8 := by omega
  have hkl : k + s ≤ l.length := by omega
  clear hcell hrl h0 h8 hn hr h1
  have h1 : ¬ ((l.length : Int) - k < s) := by omega
  generalize ansFixed (s : Int) (l.drop k) = ANS at *
  generalize l.length = len at *
  go_enter Try.func36, Try.ntmps36
  go_wp2_with fail
  go_quiet (exact (HL _).out)
  go_wp2_with fail
  go_quiet (fail)
  go_wp2_with fail
  go_loopw [5, 36] (fun x i wr => ∃ j a : Nat, j ≤ s ∧ i = .int .i64 j ∧ x = .int .u64 a ∧ a = fval (r.take j) ∧ Below w.heap.size w wr) (fun _ i _ => s - (intOf i).toNat)
  case atStart => exact ⟨0, 0, by omega, rfl, rfl, by simp [fval], below_drewN (below_drewN (Below.refl _ _) _) _⟩
  case round =>
    obtain ⟨j, a, hj, rfl, rfl, ha, hbel⟩ := hrel
    by_cases hjs : j < s
    · have hjr : j < r.length := by omega
      have hcx := (hbel.cell (p := ⟨b, o + k + j, none⟩) hbB).trans (HC.out j hjr)
      have hx := (r[j]).toNat_lt
      have HT := Lib.hid (show fval (r.take (j + 1)) = a + 256 ^ j * (r[j]).toNat by
        rw [List.take_succ_eq_append_getElem hjr, fval_append, List.length_take, Nat.min_eq_left (by omega), ← ha])
      have hal : a < 256 ^ j := by have := fval_lt (r.take j); rwa [List.length_take, Nat.min_eq_left (by omega), ← ha] at this
      have HO := Lib.hid (byte_or hal (show j ≤ 7 by omega) hx)
      clear hal ha
      generalize (r[j]).toNat = y at *
      rw [← HT.out] at HO
      clear HT
      go_wp2_with fail
      go_roundw
      case rel => exact ⟨j + 1, _, by omega, by go_num, by rw [HO.out], rfl, hbel⟩
      case measure => simp [intOf]; omega
    · obtain rfl : j = s := by omega
      rw [List.take_of_length_le (by omega)] at ha
      subst ha
      rcases Nat.lt_or_ge (fval r) 9223372036854775808 with h | h
      · have HP : ∀ q, Hid (GetPost ANS w (.returned (.tuple #[.int .i64 (fval r : Nat), .int .i64 j, .int .i64 0])) (wr.drewN q)) := fun q => ⟨⟨_, _, 0, rfl, by rw [HE.out, if_neg (by omega)], fun _ => by rw [HE.out, if_neg (by omega)]; exact ⟨rfl, rfl⟩⟩, below_drewN hbel q⟩
        have hz : ((fval r : Int) / 9223372036854775808 != 0) = false := by rw [bne_eq_false_iff_eq]; omega
        have hS' : wr.cell? ⟨S, 0, none⟩ = some (.int .i64 j) := (hbel.cell (World.block_lt_of_cell? w _ hS)).trans hS
        generalize fval r = y at *
        go_wp2_with fail
        go_quiet (fail)
        go_wp2_with fail
        go_ret3
        exact (HP nq).out
      · have HP : Hid (GetPost ANS w (.returned (.tuple #[.int .i64 0, .int .i64 0, .int .i64 11])) wr) := ⟨⟨_, _, 11, rfl, by rw [HE.out, if_pos (by omega)], fun h => absurd h (by decide)⟩, hbel⟩
        have hz : ((fval r : Int) / 9223372036854775808 != 0) = true := by rw [bne_iff_ne]; omega
        generalize fval r = y at *
        go_wp2_with fail
        go_ret3
        exact HP.out
end Go.Proofs.Ythlgeffjoaiojaa
