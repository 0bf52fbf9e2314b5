/-
  Plain arithmetic behind the statements of layer 6 (check sums): no program in sight.
-/
import Derived.Laws.BitsAllLaws
import Derived.Laws.BitsLemmas
namespace Go.Proofs.YtmhadkdbonfmdaaDoor
open Go

theorem ofInt_i64 (a : Nat) (ha : a < 9223372036854775808) : (BitVec.ofInt 64 (a : Int)).toNat = a := by
  rw [BitVec.ofInt_natCast, BitVec.toNat_ofNat]; exact Nat.mod_eq_of_lt (by omega)
theorem i64_and_nat (a b : Nat) (ha : a < 9223372036854775808) (hb : b < 9223372036854775808) : bits .and .i64 (a : Int) (b : Int) = ((a &&& b : Nat) : Int) := by
  have hx : a &&& b < 2 ^ 63 := Nat.and_lt_two_pow _ (by omega)
  show IntKind.i64.wrap ((BitVec.ofInt 64 (a : Int) &&& BitVec.ofInt 64 (b : Int)).toNat : Int) = _
  rw [BitVec.toNat_and, ofInt_i64 a ha, ofInt_i64 b hb, IntKind.wrap_i64]
  omega
theorem i64_or_nat (a b : Nat) (ha : a < 9223372036854775808) (hb : b < 9223372036854775808) : bits .or .i64 (a : Int) (b : Int) = ((a ||| b : Nat) : Int) := by
  have hx : a ||| b < 2 ^ 63 := Nat.or_lt_two_pow (by omega) (by omega)
  show IntKind.i64.wrap ((BitVec.ofInt 64 (a : Int) ||| BitVec.ofInt 64 (b : Int)).toNat : Int) = _
  rw [BitVec.toNat_or, ofInt_i64 a ha, ofInt_i64 b hb, IntKind.wrap_i64]
  omega
theorem i64_xor_nat (a b : Nat) (ha : a < 9223372036854775808) (hb : b < 9223372036854775808) : bits .xor .i64 (a : Int) (b : Int) = ((a ^^^ b : Nat) : Int) := by
  have hx : a ^^^ b < 2 ^ 63 := Nat.xor_lt_two_pow (by omega) (by omega)
  show IntKind.i64.wrap ((BitVec.ofInt 64 (a : Int) ^^^ BitVec.ofInt 64 (b : Int)).toNat : Int) = _
  rw [BitVec.toNat_xor, ofInt_i64 a ha, ofInt_i64 b hb, IntKind.wrap_i64]
  omega

/-- What four bits come to. -/
def tab : List Nat := [0, 498536548, 997073096, 651767980, 1994146192, 1802195444, 1303535960, 1342533948, 3988292384, 4027552580, 3604390888, 3412177804, 2607071920, 2262029012, 2685067896, 3183342108]
def tabI : List Int := tab.map fun (n : Nat) => (n : Int)
/-- A sum behind four bits. -/
def step4 (c : Nat) : Nat := tab.getD (c &&& 15) 0 ^^^ (c >>> 4)
/-- A sum behind a byte. -/
def put8 (c x : Nat) : Nat := step4 (step4 (c ^^^ x))
/-- A sum behind a bit. -/
def step1 (c bit : Nat) : Nat := if (c ^^^ bit) % 2 = 1 then (c ^^^ bit) / 2 ^^^ 3988292384 else (c ^^^ bit) / 2

theorem tab_lt (i : Nat) : tab.getD i 0 < 4294967296 := by
  rcases Nat.lt_or_ge i 16 with h | h
  · have : ∀ j : Fin 16, tab.getD j 0 < 4294967296 := by decide
    exact this ⟨i, h⟩
  · rw [List.getD_eq_getElem?_getD, List.getElem?_eq_none (by simpa [tab] using h)]; decide
theorem step4_lt (c : Nat) (h : c < 4294967296) : step4 c < 4294967296 :=
  Nat.xor_lt_two_pow (n := 32) (tab_lt _) (by rw [Nat.shiftRight_eq_div_pow]; omega)
theorem put8_lt (c x : Nat) (h : c < 4294967296) (hx : x < 256) : put8 c x < 4294967296 :=
  step4_lt _ (step4_lt _ (Nat.xor_lt_two_pow (n := 32) h (by omega)))

theorem xor_mod_two (a b : Nat) : (a ^^^ b) % 2 = (a + b) % 2 := by
  have h := Nat.testBit_xor a b 0
  simp only [Nat.testBit_zero] at h
  have h1 : a % 2 = 0 ∨ a % 2 = 1 := by omega
  have h2 : b % 2 = 0 ∨ b % 2 = 1 := by omega
  have h3 : (a ^^^ b) % 2 = 0 ∨ (a ^^^ b) % 2 = 1 := by omega
  rcases h1 with h1 | h1 <;> rcases h2 with h2 | h2 <;> rcases h3 with h3 | h3 <;> simp [h1, h2, h3] at h <;> omega
theorem xor_bit (c bit : Nat) (h : bit ≤ 1) : c ^^^ bit = if bit = 1 then (if c % 2 = 1 then c - 1 else c + 1) else c := by
  have h1 : (c ^^^ bit) / 2 = c / 2 := by rw [Nat.xor_div_two, show bit / 2 = 0 by omega, Nat.xor_zero]
  have h2 : (c ^^^ bit) % 2 = (c + bit) % 2 := xor_mod_two c bit
  split <;> (try split) <;> omega
/-- The bits of bytes, in order. -/
def bitsOf (l : List UInt8) : List Nat := l.flatMap fun x => (List.range 8).map fun t => x.toNat / 2 ^ t % 2
theorem bitsOf_take (l : List UInt8) (k : Nat) (h : k < l.length) : bitsOf (l.take (k + 1)) = bitsOf (l.take k) ++ (List.range 8).map fun t => (l[k]).toNat / 2 ^ t % 2 := by
  rw [List.take_succ_eq_append_getElem h, bitsOf, bitsOf, List.flatMap_append, List.flatMap_cons, List.flatMap_nil, List.append_nil]

/-! The linear map behind a check sum: a sum behind a bit that is nought. -/
def L (c : Nat) : Nat := if c % 2 = 1 then c / 2 ^^^ 3988292384 else c / 2
def Ls : Nat → Nat → Nat
  | 0, c => c
  | n + 1, c => Ls n (L c)
theorem step1_eq (c bit : Nat) : step1 c bit = L (c ^^^ bit) := rfl
theorem L_eq (c : Nat) : L c = c / 2 ^^^ (if c % 2 = 1 then 3988292384 else 0) := by unfold L; split <;> simp
theorem L_xor (a b : Nat) : L (a ^^^ b) = L a ^^^ L b := by
  have h1 := xor_mod_two a b
  rw [L_eq, L_eq, L_eq, Nat.xor_div_two]
  have ha : a % 2 = 0 ∨ a % 2 = 1 := by omega
  have hb : b % 2 = 0 ∨ b % 2 = 1 := by omega
  rcases ha with ha | ha <;> rcases hb with hb | hb
  · rw [if_neg (by omega), if_neg (by omega), if_neg (by omega)]; simp
  · rw [if_pos (by omega), if_neg (by omega), if_pos (by omega)]; simp [Nat.xor_assoc]
  · rw [if_pos (by omega), if_pos (by omega), if_neg (by omega)]
    simp only [Nat.xor_zero]
    rw [Nat.xor_assoc, Nat.xor_assoc, Nat.xor_comm (b / 2)]
  · rw [if_neg (by omega), if_pos (by omega), if_pos (by omega)]
    rw [Nat.xor_zero, Nat.xor_assoc, Nat.xor_comm (b / 2), ← Nat.xor_assoc 3988292384, Nat.xor_self, Nat.zero_xor]
theorem L_double (q : Nat) : L (2 * q) = q := by unfold L; rw [if_neg (by omega)]; omega
theorem L_zero : L 0 = 0 := by decide
theorem L_lt (c : Nat) (h : c < 4294967296) : L c < 4294967296 := by
  unfold L; split
  · exact Nat.xor_lt_two_pow (n := 32) (by omega) (by decide)
  · omega
theorem L_ne (c : Nat) (h : c < 4294967296) (h0 : c ≠ 0) : L c ≠ 0 := by
  unfold L; split
  · intro e
    have e2 : c / 2 = 3988292384 := by
      have := congrArg (· ^^^ 3988292384) e
      simpa [Nat.xor_assoc] using this
    omega
  · omega
theorem Ls_add (m n c : Nat) : Ls (m + n) c = Ls n (Ls m c) := by
  induction m generalizing c with
  | zero => simp [Ls]
  | succ m ih => rw [Nat.succ_add]; exact ih (L c)
theorem Ls_xor (n a b : Nat) : Ls n (a ^^^ b) = Ls n a ^^^ Ls n b := by
  induction n generalizing a b with
  | zero => rfl
  | succ n ih => simp only [Ls, L_xor, ih]
theorem Ls_zero (n : Nat) : Ls n 0 = 0 := by
  induction n with
  | zero => rfl
  | succ n ih => simpa [Ls, L_zero] using ih
theorem Ls_shift (n q : Nat) : Ls n (2 ^ n * q) = q := by
  induction n generalizing q with
  | zero => simp [Ls]
  | succ n ih =>
    show Ls n (L _) = _
    rw [Nat.pow_succ, Nat.mul_comm (2 ^ n) 2, Nat.mul_assoc, L_double, ih]
theorem Ls_lt (n c : Nat) (h : c < 4294967296) : Ls n c < 4294967296 := by
  induction n generalizing c with
  | zero => exact h
  | succ n ih => exact ih _ (L_lt c h)
theorem Ls_ne (n c : Nat) (h : c < 4294967296) (h0 : c ≠ 0) : Ls n c ≠ 0 := by
  induction n generalizing c with
  | zero => exact h0
  | succ n ih => exact ih _ (L_lt c h) (L_ne c h h0)
/-- A number as what its lowest bits are, and the rest. -/
theorem xor_split (n c : Nat) : c = 2 ^ n * (c / 2 ^ n) ^^^ c % 2 ^ n := by
  apply Nat.eq_of_testBit_eq
  intro i
  rw [Nat.testBit_xor, Nat.testBit_two_pow_mul, Nat.testBit_mod_two_pow, Nat.testBit_div_two_pow]
  by_cases h : i < n
  · simp [h, show ¬ n ≤ i by omega]
  · simp [h, show n ≤ i by omega]
theorem two_pow_mul_xor (n a b : Nat) : 2 ^ n * (a ^^^ b) = 2 ^ n * a ^^^ 2 ^ n * b := by
  apply Nat.eq_of_testBit_eq
  intro i
  rw [Nat.testBit_xor, Nat.testBit_two_pow_mul, Nat.testBit_two_pow_mul, Nat.testBit_two_pow_mul, Nat.testBit_xor]
  by_cases h : n ≤ i <;> simp [h]
theorem step4_eq (c : Nat) : step4 c = Ls 4 c := by
  have h : Ls 4 c = c / 2 ^ 4 ^^^ Ls 4 (c % 2 ^ 4) := by
    conv => lhs; rw [xor_split 4 c]
    rw [Ls_xor, Ls_shift]
  have ht : ∀ r : Fin 16, tab.getD r 0 = Ls 4 r := by decide +kernel
  have hm : c &&& 15 = c % 2 ^ 4 := Nat.and_two_pow_sub_one_eq_mod c 4
  rw [h, step4, hm, Nat.shiftRight_eq_div_pow, Nat.xor_comm]
  rw [ht ⟨c % 2 ^ 4, Nat.mod_lt _ (by decide)⟩]
theorem put8_eq (c x : Nat) : put8 c x = Ls 8 (c ^^^ x) := by
  rw [put8, step4_eq, step4_eq, ← Ls_add]
/-- Bytes as a number, the lowest one first. -/
def num : List UInt8 → Nat
  | [] => 0
  | x :: l => x.toNat + 256 * num l
/-- The sum of bytes, from a start. -/
def sums (c : Nat) (l : List UInt8) : Nat := l.foldl (fun c x => put8 c x.toNat) c
/-- THE MASTER: a sum of bytes is the linear map of the start and of the bytes' number. -/
theorem sums_eq (l : List UInt8) : ∀ c, sums c l = Ls (8 * l.length) (c ^^^ num l) := by
  induction l with
  | nil => intro c; simp [sums, num, Ls]
  | cons x l ih =>
    intro c
    show sums (put8 c x.toNat) l = _
    rw [ih, put8_eq, List.length_cons, Nat.mul_succ, Nat.add_comm, Ls_add]
    congr 1
    have hx := x.toNat_lt
    have h : num (x :: l) = 2 ^ 8 * num l ^^^ x.toNat := by
      conv => lhs; rw [xor_split 8 (num (x :: l))]
      simp only [num]
      rw [show (x.toNat + 256 * num l) / 2 ^ 8 = num l by omega, show (x.toNat + 256 * num l) % 2 ^ 8 = x.toNat by omega]
    rw [h, Nat.xor_comm (2 ^ 8 * _), ← Nat.xor_assoc, Ls_xor _ (c ^^^ _), Ls_shift]
theorem num_lt (l : List UInt8) : num l < 2 ^ (8 * l.length) := by
  induction l with
  | nil => simp [num]
  | cons x l ih =>
    have hx := x.toNat_lt
    rw [List.length_cons, Nat.mul_succ, Nat.pow_add, num]
    omega
/-- A sum by bits. -/
def sumBits (c : Nat) (l : List Nat) : Nat := l.foldl step1 c
theorem sumBits_append (c : Nat) (l m : List Nat) : sumBits c (l ++ m) = sumBits (sumBits c l) m := by simp [sumBits]
theorem sumBits_range (n : Nat) : ∀ (c x : Nat), x < 2 ^ n → sumBits c ((List.range n).map fun t => x / 2 ^ t % 2) = Ls n (c ^^^ x) := by
  induction n with
  | zero =>
    intro c x h
    obtain rfl : x = 0 := by omega
    simp [sumBits, Ls]
  | succ n ih =>
    intro c x h
    rw [List.range_succ_eq_map, List.map_cons, List.map_map]
    show sumBits (step1 c (x / 2 ^ 0 % 2)) _ = _
    have he : (List.range n).map ((fun t => x / 2 ^ t % 2) ∘ Nat.succ) = (List.range n).map fun t => (x / 2) / 2 ^ t % 2 := by
      apply List.map_congr_left
      intro t _
      simp [Nat.pow_succ, Nat.mul_comm (2 ^ t) 2, Nat.div_div_eq_div_mul]
    rw [he, ih _ _ (by rw [Nat.pow_succ] at h; omega), step1_eq]
    show _ = Ls n (L _)
    congr 1
    have hs := xor_split 1 x
    simp only [Nat.pow_one] at hs
    conv => rhs; rw [hs]
    rw [Nat.pow_zero, Nat.div_one, Nat.xor_comm (2 * _), ← Nat.xor_assoc, L_xor _ (2 * _), L_double]
theorem sumBits_bytes (l : List UInt8) : ∀ c, sumBits c (bitsOf l) = sums c l := by
  induction l with
  | nil => intro c; rfl
  | cons x l ih =>
    intro c
    show sumBits c (((List.range 8).map fun t => x.toNat / 2 ^ t % 2) ++ bitsOf l) = sums (put8 c x.toNat) l
    rw [sumBits_append, sumBits_range 8 _ _ x.toNat_lt, ih, put8_eq]
theorem sums_lt (c : Nat) (l : List UInt8) (h : c < 4294967296) : sums c l < 4294967296 := by
  induction l generalizing c with
  | nil => exact h
  | cons x l ih => exact ih _ (put8_lt _ _ h x.toNat_lt)
theorem sums_append (c : Nat) (l m : List UInt8) : sums c (l ++ m) = sums (sums c l) m := by simp [sums]
theorem sums_take (c : Nat) (l : List UInt8) (j : Nat) (h : j < l.length) : sums c (l.take (j + 1)) = put8 (sums c (l.take j)) l[j].toNat := by
  rw [List.take_succ_eq_append_getElem h, sums_append]; rfl
theorem sumBits_lt (c : Nat) (l : List Nat) (h : c < 4294967296) (hl : ∀ b ∈ l, b ≤ 1) : sumBits c l < 4294967296 := by
  induction l generalizing c with
  | nil => exact h
  | cons b l ih => exact ih _ (L_lt _ (Nat.xor_lt_two_pow (n := 32) h (by have := hl b (by simp); omega))) fun x hx => hl x (by simp [hx])
theorem sumBits_take (c : Nat) (l : List Nat) (j : Nat) (h : j < l.length) : sumBits c (l.take (j + 1)) = step1 (sumBits c (l.take j)) l[j] := by
  rw [List.take_succ_eq_append_getElem h, sumBits_append]; rfl
theorem bitsOf_le (l : List UInt8) : ∀ b ∈ bitsOf l, b ≤ 1 := by
  intro b hb
  obtain ⟨x, _, hx⟩ := List.mem_flatMap.1 hb
  obtain ⟨t, _, rfl⟩ := List.mem_map.1 hx
  have := Nat.mod_lt (x.toNat / 2 ^ t) (show 2 > 0 by decide)
  omega
theorem length_bitsOf (l : List UInt8) : (bitsOf l).length = 8 * l.length := by
  induction l with
  | nil => rfl
  | cons x l ih => rw [bitsOf, List.flatMap_cons, List.length_append, List.length_map, List.length_range, List.length_cons]; rw [bitsOf] at ih; omega
/-- How many bits a number has. -/
def bitLen : Nat → Nat
  | 0 => 0
  | n + 1 => 1 + bitLen ((n + 1) / 2)
termination_by n => n
decreasing_by omega
theorem bitLen_pos (m : Nat) (h : 0 < m) : bitLen m = 1 + bitLen (m / 2) := by
  cases m with
  | zero => omega
  | succ m => rw [bitLen]
theorem lt_bitLen (m : Nat) : m < 2 ^ bitLen m := by
  induction m using Nat.strongRecOn with
  | _ m ih =>
    rcases Nat.lt_or_ge 0 m with h | h
    · have := ih (m / 2) (by omega)
      rw [bitLen_pos m h, Nat.add_comm, Nat.pow_succ]
      omega
    · obtain rfl : m = 0 := by omega
      exact Nat.pow_pos (by decide)
theorem bitLen_le_of (k : Nat) : ∀ m, m < 2 ^ k → bitLen m ≤ k := by
  induction k with
  | zero => intro m h; obtain rfl : m = 0 := by { simpa using h }; unfold bitLen; omega
  | succ k ih =>
    intro m h
    rcases Nat.lt_or_ge 0 m with h0 | h0
    · have := ih (m / 2) (by rw [Nat.pow_succ] at h; omega)
      rw [bitLen_pos m h0]; omega
    · obtain rfl : m = 0 := by omega
      unfold bitLen; omega
theorem bitLen_le (m : Nat) (h : m < 9223372036854775808) : bitLen m ≤ 63 := bitLen_le_of 63 m (by omega)
theorem xor_all (c : Nat) (h : c < 4294967296) : c ^^^ 4294967295 = 4294967295 - c := by
  have h1 : (BitVec.ofNat 32 c ^^^ BitVec.allOnes 32).toNat = c ^^^ 4294967295 := by
    rw [BitVec.toNat_xor, BitVec.toNat_ofNat, Nat.mod_eq_of_lt (by omega)]; rfl
  rw [← h1, BitVec.xor_allOnes, BitVec.toNat_not, BitVec.toNat_ofNat, Nat.mod_eq_of_lt (by omega)]
/-- Bytes with one bit turned. -/
def flipBit (l : List UInt8) (p : Nat) : List UInt8 := l.set (p / 8) (l.getD (p / 8) 0 ^^^ UInt8.ofNat (2 ^ (p % 8)))
/-- Bytes with the first k bits of a row turned. -/
def turnedTo (l : List UInt8) (a r : Nat) : Nat → List UInt8
  | 0 => l
  | k + 1 => if r / 2 ^ k % 2 = 1 then flipBit (turnedTo l a r k) (a + k) else turnedTo l a r k
theorem length_flipBit (l : List UInt8) (p : Nat) : (flipBit l p).length = l.length := by simp [flipBit]
theorem length_turnedTo (l : List UInt8) (a r k : Nat) : (turnedTo l a r k).length = l.length := by
  induction k with
  | zero => rfl
  | succ k ih => rw [turnedTo]; split <;> simp [length_flipBit, ih]
theorem num_set (l : List UInt8) : ∀ (i : Nat) (x : UInt8), i < l.length → num (l.set i x) = num l ^^^ 2 ^ (8 * i) * ((l.getD i 0).toNat ^^^ x.toNat) := by
  induction l with
  | nil => intro i x h; simp at h
  | cons y l ih =>
    intro i x h
    have cons (y : UInt8) (l : List UInt8) : num (y :: l) = 2 ^ 8 * num l ^^^ y.toNat := by
      have hy := y.toNat_lt
      conv => lhs; rw [xor_split 8 (num (y :: l))]
      simp only [num]
      rw [show (y.toNat + 256 * num l) / 2 ^ 8 = num l by omega, show (y.toNat + 256 * num l) % 2 ^ 8 = y.toNat by omega]
    cases i with
    | zero =>
      simp only [List.set_cons_zero, List.getD_cons_zero, Nat.mul_zero, Nat.pow_zero, Nat.one_mul]
      rw [cons, cons, Nat.xor_assoc, ← Nat.xor_assoc y.toNat, Nat.xor_self, Nat.zero_xor]
    | succ i =>
      simp only [List.set_cons_succ, List.getD_cons_succ]
      rw [cons, cons, ih i x (by simpa using h), Nat.mul_succ, Nat.pow_add, Nat.mul_comm (2 ^ (8 * i)) (2 ^ 8), Nat.mul_assoc]
      rw [two_pow_mul_xor, Nat.xor_assoc, Nat.xor_assoc, Nat.xor_comm (2 ^ 8 * _) y.toNat]
theorem num_flipBit (l : List UInt8) (p : Nat) (h : p / 8 < l.length) : num (flipBit l p) = num l ^^^ 2 ^ p := by
  rw [flipBit, num_set l _ _ h, UInt8.toNat_xor, ← Nat.xor_assoc, Nat.xor_self, Nat.zero_xor, UInt8.toNat_ofNat']
  have h1 : 2 ^ (p % 8) < 2 ^ 8 := Nat.pow_lt_pow_right (by decide) (Nat.mod_lt _ (by decide))
  rw [Nat.mod_eq_of_lt h1, ← Nat.pow_add]
  congr 2
  omega
theorem num_turnedTo (l : List UInt8) (a r : Nat) (h : a + bitLen r ≤ 8 * l.length) (k : Nat) : num (turnedTo l a r k) = num l ^^^ 2 ^ a * (r % 2 ^ k) := by
  induction k with
  | zero => simp [turnedTo, Nat.mod_one]
  | succ k ih =>
    have hm : r % 2 ^ (k + 1) = 2 ^ k * (r / 2 ^ k % 2) ^^^ r % 2 ^ k := by
      have := xor_split k (r % 2 ^ (k + 1))
      rw [Nat.mod_mod_of_dvd _ (Nat.pow_dvd_pow 2 (Nat.le_succ k))] at this
      rw [this, Nat.pow_succ, Nat.mod_mul, Nat.add_mul_div_left _ _ (Nat.pow_pos (by decide)), Nat.div_eq_of_lt (Nat.mod_lt _ (Nat.pow_pos (by decide))), Nat.zero_add]
    rw [hm, turnedTo]
    split
    · rename_i hb
      have hk : k < bitLen r := by
        rcases Nat.lt_or_ge k (bitLen r) with h1 | h1
        · exact h1
        · have h2 := lt_bitLen r
          have h3 : r < 2 ^ k := Nat.lt_of_lt_of_le h2 (Nat.pow_le_pow_right (by decide) h1)
          rw [Nat.div_eq_of_lt h3] at hb
          simp at hb
      rw [num_flipBit _ _ (by rw [length_turnedTo]; omega), ih, hb, Nat.mul_one, two_pow_mul_xor, ← Nat.pow_add, Nat.xor_comm (2 ^ (a + k)), Nat.xor_assoc]
    · rename_i hb
      have : r / 2 ^ k % 2 = 0 := by omega
      rw [ih, this, Nat.mul_zero, Nat.zero_xor]

end Go.Proofs.YtmhadkdbonfmdaaDoor
