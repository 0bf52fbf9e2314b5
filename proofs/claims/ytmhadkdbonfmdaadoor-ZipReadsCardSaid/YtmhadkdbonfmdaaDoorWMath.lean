/-
  Plain arithmetic behind the statements of layer 5 (numbers as bytes): no program in sight.
-/
import Derived.Laws.BitsAllLaws
import Derived.Laws.BitsLemmas
import Derived.Laws.Bits64
namespace Go.Proofs.YtmhadkdbonfmdaaDoor
open Go

/-- A number in pieces of seven bits. -/
def pcs (n : Nat) : List UInt8 := if n ≤ 127 then [UInt8.ofNat n] else UInt8.ofNat (n % 128 + 128) :: pcs (n / 128)
termination_by n
decreasing_by omega
theorem pcs_small {n : Nat} (h : n ≤ 127) : pcs n = [UInt8.ofNat n] := by rw [pcs, if_pos h]
theorem pcs_big {n : Nat} (h : 127 < n) : pcs n = UInt8.ofNat (n % 128 + 128) :: pcs (n / 128) := by rw [pcs, if_neg (by omega)]
theorem pcs_pos (n : Nat) : 1 ≤ (pcs n).length := by
  rw [pcs]; split <;> simp
theorem pcs_len_le : ∀ (k n : Nat), n < 128 ^ (k + 1) → (pcs n).length ≤ k + 1
  | 0, n, h => by rw [pcs_small (by omega)]; simp
  | k + 1, n, h => by
    rcases Nat.lt_or_ge 127 n with h1 | h1
    · rw [pcs_big h1]
      have := pcs_len_le k (n / 128) (by rw [Nat.pow_succ] at h; omega)
      simp only [List.length_cons]; omega
    · rw [pcs_small h1]; simp
theorem pcs_len_mono (n : Nat) : ∀ m, m ≤ n → (pcs m).length ≤ (pcs n).length := by
  induction n using Nat.strongRecOn with
  | _ n ih =>
    intro m h
    rcases Nat.lt_or_ge 127 m with h1 | h1
    · rw [pcs_big h1, pcs_big (n := n) (by omega)]
      have := ih (n / 128) (by omega) (m / 128) (by omega)
      simp only [List.length_cons]; omega
    · rw [pcs_small h1]; exact pcs_pos n
theorem ofNat_inj {a b : Nat} (ha : a < 256) (hb : b < 256) (h : UInt8.ofNat a = UInt8.ofNat b) : a = b := by
  have := congrArg UInt8.toNat h
  simpa [UInt8.toNat_ofNat', Nat.mod_eq_of_lt ha, Nat.mod_eq_of_lt hb] using this
/-- No number's pieces are the beginning of another one's. -/
theorem pcs_prefix (n : Nat) : ∀ m, (pcs m).take (pcs n).length = pcs n → n = m := by
  induction n using Nat.strongRecOn with
  | _ n ih =>
    intro m h
    rcases Nat.lt_or_ge 127 n with h1 | h1 <;> rcases Nat.lt_or_ge 127 m with h2 | h2
    · rw [pcs_big h1, pcs_big h2, List.length_cons, List.take_succ_cons, List.cons.injEq] at h
      have e1 := ofNat_inj (by omega) (by omega) h.1
      have e2 := ih (n / 128) (by omega) (m / 128) h.2
      omega
    · rw [pcs_big h1, pcs_small h2, List.length_cons, List.take_succ_cons, List.cons.injEq] at h
      have e1 := ofNat_inj (by omega) (by omega) h.1
      omega
    · rw [pcs_small h1, pcs_big h2] at h
      simp only [List.length_cons, List.length_nil, Nat.zero_add, List.take_succ_cons, List.take_zero, List.cons.injEq, and_true] at h
      have e1 := ofNat_inj (by omega) (by omega) h
      omega
    · rw [pcs_small h1, pcs_small h2] at h
      simp only [List.length_cons, List.length_nil, Nat.zero_add, List.take_succ_cons, List.take_zero, List.cons.injEq, and_true] at h
      exact (ofNat_inj (by omega) (by omega) h).symm
/-- What a number is turned to. -/
def zig (n : Int) : Nat := if 0 ≤ n then (2 * n).toNat else (-2 * n - 1).toNat
theorem zig_nonneg {n : Nat} : zig (n : Int) = 2 * n := by unfold zig; rw [if_pos (by omega)]; omega
theorem zig_neg {n : Int} (h : n < 0) : (zig n : Int) = -2 * n - 1 := by unfold zig; rw [if_neg (by omega)]; omega
theorem zig_inj {n m : Int} (h : zig n = zig m) : n = m := by unfold zig at h; split at h <;> split at h <;> omega
theorem zig_lt {n : Int} (h1 : -9223372036854775808 ≤ n) (h2 : n ≤ 9223372036854775807) : zig n < 18446744073709551616 := by unfold zig; split <;> omega
theorem u64_xor_ones (a : Nat) (ha : a < 18446744073709551616) : bits .xor .u64 (a : Int) 18446744073709551615 = ((18446744073709551615 - a : Nat) : Int) := by
  have h1 : (BitVec.ofInt 64 (a : Int)).toNat = a := by rw [BitVec.ofInt_natCast, BitVec.toNat_ofNat]; exact Nat.mod_eq_of_lt (by omega)
  have h2 : BitVec.ofInt 64 18446744073709551615 = BitVec.allOnes 64 := by decide
  show IntKind.u64.wrap ((BitVec.ofInt 64 (a : Int) ^^^ BitVec.ofInt 64 18446744073709551615).toNat : Int) = _
  rw [h2, BitVec.xor_allOnes, BitVec.toNat_not, h1]
  simp only [IntKind.wrap, IntKind.bits, IntKind.signed]
  simp
  omega
/-- A number in bytes of a size; none, if it does not fit. -/
def fixedOk (n : Int) (size : Int) : Bool := decide (1 ≤ size ∧ size ≤ 8 ∧ 0 ≤ n ∧ n < 256 ^ size.toNat)
def fixedL (n size : Nat) : List UInt8 := (List.range size).map fun i => UInt8.ofNat (n / 256 ^ i % 256)
def fixedB (n size : Int) : List UInt8 := if fixedOk n size then fixedL n.toNat size.toNat else []
theorem length_fixedL (n size : Nat) : (fixedL n size).length = size := by simp [fixedL]
/-- What Uint writes. -/
def uintL (n : Int) : List UInt8 := if 0 ≤ n then pcs n.toNat else []
theorem uintL_neg {n : Int} (h : n < 0) : uintL n = [] := by rw [uintL, if_neg (by omega)]
theorem uintL_nat (k : Nat) : uintL (k : Int) = pcs k := by rw [uintL, if_pos (by omega), Int.toNat_natCast]
theorem zig_bits {n : Int} (h1 : -9223372036854775808 ≤ n) (h : n < 0) :
    bits .xor .u64 (IntKind.u64.wrap (IntKind.u64.wrap n * 2)) (IntKind.u64.wrap (n / 9223372036854775808)) = (zig n : Int) := by
  have e1 : IntKind.u64.wrap (n / 9223372036854775808) = 18446744073709551615 := by rw [IntKind.wrap_u64]; omega
  have e2 : IntKind.u64.wrap (IntKind.u64.wrap n * 2) = ((18446744073709551616 + 2 * n).toNat : Int) := by rw [IntKind.wrap_u64, IntKind.wrap_u64]; omega
  rw [e1, e2, u64_xor_ones _ (by omega), zig_neg h]
  omega
theorem zig_bits_nat {k : Nat} (h : k < 9223372036854775808) : bits .xor .u64 ((k : Int) * 2) ((k : Int) / 9223372036854775808) = (zig (k : Int) : Int) := by
  have e1 : (k : Int) / 9223372036854775808 = ((0 : Nat) : Int) := by omega
  have e2 : (k : Int) * 2 = ((2 * k : Nat) : Int) := by omega
  rw [e1, e2, u64_xor_nat _ _ (by omega) (by omega), zig_nonneg, Nat.xor_zero]

end Go.Proofs.YtmhadkdbonfmdaaDoor
