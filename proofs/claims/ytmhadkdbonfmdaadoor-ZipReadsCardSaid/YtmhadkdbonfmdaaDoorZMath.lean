/-
  Plain law of layer 16: files of members, how they are taken apart again, and that no other members have the same file.
-/
import Derived.Test.YtmhadkdbonfmdaaDoorMath
import Derived.Test.YtmhadkdbonfmdaaDoorWMath
namespace Go.Proofs.YtmhadkdbonfmdaaDoor
open Go

/-- A member's name, its bytes, and the sum that its heads tell. -/
abbrev Tri := List UInt8 × List UInt8 × Nat
def fld (l : List (Nat × Nat)) : List UInt8 := l.flatMap fun p => fixedL p.1 p.2
def comF (sum n m : Nat) : List (Nat × Nat) := [(20, 2), (0, 2), (0, 2), (0, 2), (33, 2), (sum, 4), (n, 4), (n, 4), (m, 2), (0, 2)]
def hdF (sum n m : Nat) : List (Nat × Nat) := (67324752, 4) :: comF sum n m
def rowF (sum n m at_ : Nat) : List (Nat × Nat) := (33639248, 4) :: (20, 2) :: (comF sum n m ++ [(0, 2), (0, 2), (0, 2), (0, 4), (at_, 4)])
def endF (many size at_ : Nat) : List (Nat × Nat) := [(101010256, 4), (0, 2), (0, 2), (many, 2), (many, 2), (size, 4), (at_, 4), (0, 2)]
def hdL (t : Tri) : List UInt8 := fld (hdF t.2.2 t.2.1.length t.1.length) ++ t.1
def rowL (t : Tri) (at_ : Nat) : List UInt8 := fld (rowF t.2.2 t.2.1.length t.1.length at_) ++ t.1
def endL (many size at_ : Nat) : List UInt8 := fld (endF many size at_)
def outL (l : List Tri) : List UInt8 := l.flatMap fun t => hdL t ++ t.2.1
def sizeT (t : Tri) : Nat := 30 + t.1.length + t.2.1.length
def listL : Nat → List Tri → List UInt8
  | _, [] => []
  | a, t :: r => rowL t a ++ listL (a + sizeT t) r
def restL (l : List Tri) : List UInt8 := listL 0 l ++ endL l.length (listL 0 l).length (outL l).length
def fileL (l : List Tri) : List UInt8 := outL l ++ restL l
/-- A member whose numbers have room in its heads. -/
def Fits (t : Tri) : Prop := t.2.2 < 4294967296 ∧ t.2.1.length < 4294967296 ∧ t.1.length < 65536

/-! ### Numbers as bytes -/
theorem fixedL_zero (n : Nat) : fixedL n 0 = [] := rfl
theorem fixedL_cons (n s : Nat) : fixedL n (s + 1) = UInt8.ofNat (n % 256) :: fixedL (n / 256) s := by
  simp only [fixedL, List.range_succ_eq_map, List.map_cons, List.map_map, Nat.pow_zero, Nat.div_one]
  congr 1
  apply List.map_congr_left
  intro i _
  simp only [Function.comp_apply, Nat.pow_succ, Nat.mul_comm _ 256, ← Nat.div_div_eq_div_mul]
theorem num_fixedL (s : Nat) : ∀ n, num (fixedL n s) = n % 256 ^ s := by
  induction s with
  | zero => intro n; simp [fixedL_zero, num, Nat.mod_one]
  | succ s ih =>
    intro n
    have h : 256 ^ (s + 1) = 256 * 256 ^ s := by rw [Nat.pow_succ, Nat.mul_comm]
    rw [fixedL_cons, num, ih, UInt8.toNat_ofNat', h, Nat.mod_mul]
    omega
theorem fixedL_num (r : List UInt8) : fixedL (num r) r.length = r := by
  induction r with
  | nil => rfl
  | cons x r ih =>
    have hx := x.toNat_lt
    rw [List.length_cons, fixedL_cons, num]
    have h1 : (x.toNat + 256 * num r) % 256 = x.toNat := by omega
    have h2 : (x.toNat + 256 * num r) / 256 = num r := by omega
    rw [h1, h2, ih]
    simp
theorem fixedL_inj {n m s : Nat} (hn : n < 256 ^ s) (hm : m < 256 ^ s) (h : fixedL n s = fixedL m s) : n = m := by
  have := congrArg num h
  rwa [num_fixedL, num_fixedL, Nat.mod_eq_of_lt hn, Nat.mod_eq_of_lt hm] at this
theorem length_fld (l : List (Nat × Nat)) : (fld l).length = (l.map (·.2)).sum := by
  induction l with
  | nil => rfl
  | cons p l ih => simp only [fld, List.flatMap_cons, List.length_append, length_fixedL, List.map_cons, List.sum_cons]; rw [← ih, fld]
theorem fld_cons (p : Nat × Nat) (l : List (Nat × Nat)) : fld (p :: l) = fixedL p.1 p.2 ++ fld l := by simp [fld]
theorem fld_nil : fld [] = [] := rfl
theorem fld_append (l m : List (Nat × Nat)) : fld (l ++ m) = fld l ++ fld m := by simp [fld]
theorem length_hdL (t : Tri) : (hdL t).length = 30 + t.1.length := by simp [hdL, length_fld, hdF, comF]
theorem length_rowL (t : Tri) (a : Nat) : (rowL t a).length = 46 + t.1.length := by simp [rowL, length_fld, rowF, comF]
theorem length_endL (m s a : Nat) : (endL m s a).length = 22 := by simp [endL, length_fld, endF]
theorem outL_cons (t : Tri) (l : List Tri) : outL (t :: l) = hdL t ++ (t.2.1 ++ outL l) := by simp [outL]
theorem outL_append (l m : List Tri) : outL (l ++ m) = outL l ++ outL m := by simp [outL]
theorem length_outL (l : List Tri) : (outL l).length = (l.map sizeT).sum := by
  induction l with
  | nil => rfl
  | cons t l ih => simp only [outL_cons, List.length_append, length_hdL, ih, List.map_cons, List.sum_cons, sizeT]; omega
theorem listL_append (l m : List Tri) : ∀ a, listL a (l ++ m) = listL a l ++ listL (a + (outL l).length) m := by
  induction l with
  | nil => intro a; simp [listL, outL]
  | cons t l ih =>
    intro a
    simp only [List.cons_append, listL, ih, List.append_assoc]
    congr 3
    simp only [outL_cons, List.length_append, length_hdL, sizeT]
    omega
theorem list_snoc (l : List Tri) (t : Tri) : listL 0 (l ++ [t]) = listL 0 l ++ rowL t (outL l).length := by
  rw [listL_append, Nat.zero_add]; simp [listL]
theorem out_snoc (l : List Tri) (t : Tri) : outL (l ++ [t]) = outL l ++ hdL t ++ t.2.1 := by rw [outL_append]; simp [outL]
theorem length_listL (l : List Tri) : ∀ a, (listL a l).length = (l.map fun t => 46 + t.1.length).sum := by
  induction l with
  | nil => intro a; rfl
  | cons t l ih => intro a; simp [listL, length_rowL, ih]

/-! ### A head is read -/
def cut (r : List UInt8) (a n : Nat) : List UInt8 := (r.drop a).take n
/-- The number in some bytes. -/
def fv (r : List UInt8) (a n : Nat) : Nat := num (cut r a n)
theorem cut_length {r : List UInt8} {a n : Nat} (h : a + n ≤ r.length) : (cut r a n).length = n := by simp [cut]; omega
theorem fv_lt (r : List UInt8) (a n : Nat) : fv r a n < 256 ^ n := by
  have h := num_lt (cut r a n)
  have h2 : (cut r a n).length ≤ n := by simp [cut]; omega
  rw [Nat.pow_mul] at h
  exact Nat.lt_of_lt_of_le h (Nat.pow_le_pow_right (by decide) h2)
/-- The member that bytes begin with. -/
def hdAt (r : List UInt8) : Option Tri :=
  if 30 ≤ r.length ∧ fv r 0 4 = 67324752 ∧ 30 + fv r 26 2 + fv r 18 4 ≤ r.length then
    some (cut r 30 (fv r 26 2), cut r (30 + fv r 26 2) (fv r 18 4), fv r 14 4) else none
theorem cut_append_right {a b : List UInt8} {k n : Nat} (h : a.length = k) : cut (a ++ b) k n = b.take n := by
  unfold cut; subst h; rw [List.drop_left]
/-- Where a field stands. -/
theorem fv_at {pre post : List UInt8} {n s k : Nat} (hk : pre.length = k) (hn : n < 256 ^ s) : fv (pre ++ (fixedL n s ++ post)) k s = n := by
  unfold fv
  rw [cut_append_right hk, List.take_append_of_le_length (by rw [length_fixedL]; exact Nat.le_refl _), List.take_of_length_le (by rw [length_fixedL]; exact Nat.le_refl _), num_fixedL, Nat.mod_eq_of_lt hn]
theorem hd_parts (t : Tri) (r : List UInt8) : hdL t ++ r = fixedL 67324752 4 ++ (fixedL 20 2 ++ (fixedL 0 2 ++ (fixedL 0 2 ++ (fixedL 0 2 ++ (fixedL 33 2 ++ (fixedL t.2.2 4 ++ (fixedL t.2.1.length 4 ++ (fixedL t.2.1.length 4 ++ (fixedL t.1.length 2 ++ (fixedL 0 2 ++ (t.1 ++ r))))))))))) := by
  simp [hdL, hdF, comF, fld_cons, fld_nil]
theorem hd_mark (t : Tri) (r : List UInt8) : fv (hdL t ++ r) 0 4 = 67324752 := by
  rw [hd_parts]; exact fv_at (pre := []) rfl (by decide)
theorem hd_sum (t : Tri) (r : List UInt8) (h : Fits t) : fv (hdL t ++ r) 14 4 = t.2.2 := by
  rw [hd_parts]
  have := fv_at (pre := fixedL 67324752 4 ++ (fixedL 20 2 ++ (fixedL 0 2 ++ (fixedL 0 2 ++ (fixedL 0 2 ++ fixedL 33 2))))) (k := 14) (post := fixedL t.2.1.length 4 ++ (fixedL t.2.1.length 4 ++ (fixedL t.1.length 2 ++ (fixedL 0 2 ++ (t.1 ++ r))))) (by simp [length_fixedL]) (show t.2.2 < 256 ^ 4 by have := h.1; omega)
  simpa only [List.append_assoc] using this
theorem hd_size (t : Tri) (r : List UInt8) (h : Fits t) : fv (hdL t ++ r) 18 4 = t.2.1.length := by
  rw [hd_parts]
  have := fv_at (pre := fixedL 67324752 4 ++ (fixedL 20 2 ++ (fixedL 0 2 ++ (fixedL 0 2 ++ (fixedL 0 2 ++ (fixedL 33 2 ++ fixedL t.2.2 4)))))) (k := 18) (post := fixedL t.2.1.length 4 ++ (fixedL t.1.length 2 ++ (fixedL 0 2 ++ (t.1 ++ r)))) (by simp [length_fixedL]) (show t.2.1.length < 256 ^ 4 by have := h.2.1; omega)
  simpa only [List.append_assoc] using this
theorem hd_name (t : Tri) (r : List UInt8) (h : Fits t) : fv (hdL t ++ r) 26 2 = t.1.length := by
  rw [hd_parts]
  have := fv_at (pre := fixedL 67324752 4 ++ (fixedL 20 2 ++ (fixedL 0 2 ++ (fixedL 0 2 ++ (fixedL 0 2 ++ (fixedL 33 2 ++ (fixedL t.2.2 4 ++ (fixedL t.2.1.length 4 ++ fixedL t.2.1.length 4)))))))) (k := 26) (post := fixedL 0 2 ++ (t.1 ++ r)) (by simp [length_fixedL]) (show t.1.length < 256 ^ 2 by have := h.2.2; omega)
  simpa only [List.append_assoc] using this
theorem hdAt_hd {t : Tri} (h : Fits t) (r : List UInt8) : hdAt (hdL t ++ (t.2.1 ++ r)) = some t := by
  unfold hdAt
  rw [hd_mark, hd_sum t _ h, hd_size t _ h, hd_name t _ h]
  rw [if_pos (by simp [length_hdL]; omega)]
  have e1 : cut (hdL t ++ (t.2.1 ++ r)) 30 t.1.length = t.1 := by
    rw [hdL, List.append_assoc, cut_append_right (by simp [length_fld, hdF, comF]), List.take_left]
  have e2 : cut (hdL t ++ (t.2.1 ++ r)) (30 + t.1.length) t.2.1.length = t.2.1 := by
    rw [cut_append_right (length_hdL t), List.take_left]
  rw [e1, e2]
theorem hdAt_mark {m : Nat} (hm : m < 256 ^ 4) (hne : m ≠ 67324752) (r : List UInt8) : hdAt (fixedL m 4 ++ r) = none := by
  unfold hdAt
  have := fv_at (pre := []) (k := 0) (post := r) rfl hm
  rw [List.nil_append] at this
  rw [this, if_neg (fun h => hne h.2.1)]
theorem hdAt_row (t : Tri) (a : Nat) (r : List UInt8) : hdAt (rowL t a ++ r) = none := by
  rw [rowL, rowF, fld_cons, List.append_assoc, List.append_assoc]
  exact hdAt_mark (by decide) (by decide) _
theorem hdAt_end (m s a : Nat) (r : List UInt8) : hdAt (endL m s a ++ r) = none := by
  rw [endL, endF, fld_cons, List.append_assoc]
  exact hdAt_mark (by decide) (by decide) _
theorem hdAt_nil : hdAt [] = none := by unfold hdAt; rw [if_neg (by simp)]
theorem hdAt_list (l : List Tri) (a : Nat) : hdAt (listL a l) = none := by
  cases l with
  | nil => exact hdAt_nil
  | cons t l => exact hdAt_row t a _
theorem hdAt_rest (l : List Tri) (r : List UInt8) : hdAt (restL l ++ r) = none := by
  unfold restL
  cases l with
  | nil => rw [listL, List.nil_append]; exact hdAt_end _ _ _ _
  | cons t l => rw [listL, List.append_assoc, List.append_assoc]; exact hdAt_row t 0 _
/-- A head that stands there fits. -/
theorem hdAt_fits {r : List UInt8} {t : Tri} (h : hdAt r = some t) : Fits t ∧ sizeT t ≤ r.length := by
  unfold hdAt at h
  split at h
  · rename_i hc
    cases h
    have h1 := fv_lt r 14 4
    have h2 := fv_lt r 18 4
    have h3 := fv_lt r 26 2
    refine ⟨⟨h1, ?_, ?_⟩, ?_⟩ <;> simp only [sizeT, cut, List.length_take, List.length_drop] <;> omega
  · cases h

/-! ### Heads one behind the other -/
theorem out_prefix : ∀ (l l' : List Tri) (r s : List UInt8), (∀ t ∈ l, Fits t) → (∀ t ∈ l', Fits t) → hdAt s = none → outL l ++ r = outL l' ++ s → ∃ k, l' = l ++ k ∧ r = outL k ++ s
  | [], l', r, s, _, _, _, h => ⟨l', rfl, h⟩
  | t :: l, [], r, s, h1, _, hs, h => by
    have e := hdAt_hd (h1 t (by simp)) (outL l ++ r)
    rw [outL_cons, List.append_assoc, List.append_assoc] at h
    rw [h] at e
    have e2 : outL [] ++ s = s := rfl
    rw [e2, hs] at e
    cases e
  | t :: l, t' :: l', r, s, h1, h2, hs, h => by
    have e := hdAt_hd (h1 t (by simp)) (outL l ++ r)
    have e' := hdAt_hd (h2 t' (by simp)) (outL l' ++ s)
    rw [outL_cons, outL_cons, List.append_assoc, List.append_assoc, List.append_assoc, List.append_assoc] at h
    rw [h, e'] at e
    cases e
    obtain ⟨k, hk, hr⟩ := out_prefix l l' r s (fun t ht => h1 t (by simp [ht])) (fun t ht => h2 t (by simp [ht])) hs (List.append_cancel_left (List.append_cancel_left h))
    exact ⟨k, by rw [hk, List.cons_append], hr⟩
theorem out_same {l l' : List Tri} {r s : List UInt8} (h1 : ∀ t ∈ l, Fits t) (h2 : ∀ t ∈ l', Fits t) (hr : hdAt r = none) (hs : hdAt s = none) (h : outL l ++ r = outL l' ++ s) : l = l' ∧ r = s := by
  obtain ⟨k, rfl, hk⟩ := out_prefix l l' r s h1 h2 hs h
  cases k with
  | nil => exact ⟨(List.append_nil l).symm, hk⟩
  | cons t k =>
    have e := hdAt_hd (h2 t (by simp)) (outL k ++ s)
    rw [outL_cons, List.append_assoc, List.append_assoc] at hk
    rw [← hk, hr] at e
    cases e
/-- No file is the beginning of another one. -/
theorem file_prefix {l l' : List Tri} {x : List UInt8} (h1 : ∀ t ∈ l, Fits t) (h2 : ∀ t ∈ l', Fits t) (h : fileL l ++ x = fileL l') : l = l' ∧ x = [] := by
  have h' : outL l ++ (restL l ++ x) = outL l' ++ restL l' := by rw [← List.append_assoc]; exact h
  have hs := hdAt_rest l' []
  rw [List.append_nil] at hs
  obtain ⟨rfl, e⟩ := out_same h1 h2 (hdAt_rest l x) hs h'
  refine ⟨rfl, ?_⟩
  have := List.append_cancel_left (e.trans (List.append_nil _).symm)
  exact this
theorem file_inj {l l' : List Tri} (h1 : ∀ t ∈ l, Fits t) (h2 : ∀ t ∈ l', Fits t) (h : fileL l = fileL l') : l = l' :=
  (file_prefix (x := []) h1 h2 (by rw [List.append_nil]; exact h)).1
theorem length_fileL (l : List Tri) : (fileL l).length = (outL l).length + (listL 0 l).length + 22 := by
  simp only [fileL, restL, List.length_append, length_endL]; omega
theorem length_le_out {l : List Tri} {t : Tri} (h : t ∈ l) : sizeT t ≤ (outL l).length := by
  rw [length_outL]
  induction l with
  | nil => cases h
  | cons a l ih =>
    rw [List.map_cons, List.sum_cons]
    rcases List.mem_cons.1 h with rfl | h
    · omega
    · have := ih h; omega

/-! ### One bit turned -/
def crcOf (d : List UInt8) : Nat := sums 4294967295 d ^^^ 4294967295
theorem crcOf_lt (d : List UInt8) : crcOf d < 4294967296 := Nat.xor_lt_two_pow (n := 32) (sums_lt _ _ (by decide)) (by decide)
theorem crc_flip (d : List UInt8) (p : Nat) (h : p / 8 < d.length) : crcOf (flipBit d p) ≠ crcOf d := by
  intro e
  have e1 : sums 4294967295 (flipBit d p) = sums 4294967295 d := by
    have := congrArg (· ^^^ 4294967295) e
    simpa [crcOf, Nat.xor_assoc] using this
  rw [sums_eq, sums_eq, length_flipBit, num_flipBit d p h, ← Nat.xor_assoc, Ls_xor] at e1
  have e2 : Ls (8 * d.length) (2 ^ p) = 0 := by
    have := congrArg (Ls (8 * d.length) (4294967295 ^^^ num d) ^^^ ·) e1
    simpa [← Nat.xor_assoc] using this
  have hp : p ≤ 8 * d.length := by omega
  have e3 : Ls (8 * d.length) (2 ^ p) = Ls (8 * d.length - p) (Ls p (2 ^ p * 1)) := by rw [← Ls_add, Nat.mul_one]; congr 1; omega
  rw [e3, Ls_shift] at e2
  exact Ls_ne _ 1 (by decide) (by decide) e2
theorem flip_ne (l : List UInt8) (p : Nat) (h : p / 8 < l.length) : flipBit l p ≠ l := by
  intro e
  have := num_flipBit l p h
  rw [e] at this
  have h2 : 2 ^ p = 0 := by
    have h3 := congrArg (num l ^^^ ·) this
    simpa [← Nat.xor_assoc] using h3.symm
  have := Nat.two_pow_pos p
  omega
theorem flip_left {a b : List UInt8} {p : Nat} (h : p / 8 < a.length) : flipBit (a ++ b) p = flipBit a p ++ b := by
  unfold flipBit
  have h3 : (a ++ b).getD (p / 8) 0 = a.getD (p / 8) 0 := by
    simp only [List.getD_eq_getElem?_getD]
    rw [List.getElem?_append_left h]
  rw [List.set_append_left _ _ h, h3]
theorem flip_right {a b : List UInt8} {p : Nat} (h : a.length ≤ p / 8) : flipBit (a ++ b) p = a ++ flipBit b (p - 8 * a.length) := by
  unfold flipBit
  have h1 : (p - 8 * a.length) / 8 = p / 8 - a.length := by omega
  have h2 : (p - 8 * a.length) % 8 = p % 8 := by omega
  have h3 : (a ++ b).getD (p / 8) 0 = b.getD (p / 8 - a.length) 0 := by
    simp only [List.getD_eq_getElem?_getD]
    rw [List.getElem?_append_right h]
  rw [List.set_append_right _ _ h, h1, h2, h3]
/-- What a list of all tells of a member. -/
def told (t : Tri) : List UInt8 × Nat × Nat := (t.1, t.2.1.length, t.2.2)
theorem row_parts (t : Tri) (a : Nat) (r : List UInt8) : rowL t a ++ r = fixedL 33639248 4 ++ (fixedL 20 2 ++ (fixedL 20 2 ++ (fixedL 0 2 ++ (fixedL 0 2 ++ (fixedL 0 2 ++ (fixedL 33 2 ++ (fixedL t.2.2 4 ++ (fixedL t.2.1.length 4 ++ (fixedL t.2.1.length 4 ++ (fixedL t.1.length 2 ++ (fixedL 0 2 ++ (fixedL 0 2 ++ (fixedL 0 2 ++ (fixedL 0 2 ++ (fixedL 0 4 ++ (fixedL a 4 ++ (t.1 ++ r))))))))))))))))) := by
  simp [rowL, rowF, comF, fld_cons, fld_nil]
theorem fixed_app_inj {n m s : Nat} {a b : List UInt8} (hn : n < 256 ^ s) (hm : m < 256 ^ s) (h : fixedL n s ++ a = fixedL m s ++ b) : n = m ∧ a = b := by
  have := List.append_inj h (by rw [length_fixedL, length_fixedL])
  exact ⟨fixedL_inj hn hm this.1, this.2⟩
theorem row_same {t t' : Tri} {a : Nat} {r r' : List UInt8} (h1 : Fits t) (h2 : Fits t') (h : rowL t a ++ r = rowL t' a ++ r') : told t = told t' ∧ r = r' := by
  rw [row_parts, row_parts] at h
  have h := List.append_cancel_left (List.append_cancel_left (List.append_cancel_left (List.append_cancel_left (List.append_cancel_left (List.append_cancel_left (List.append_cancel_left h))))))
  obtain ⟨e1, h⟩ := fixed_app_inj h1.1 h2.1 h
  obtain ⟨e2, h⟩ := fixed_app_inj h1.2.1 h2.2.1 h
  rw [e2] at h
  have h := List.append_cancel_left h
  obtain ⟨e3, h⟩ := fixed_app_inj h1.2.2 h2.2.2 h
  have h := List.append_cancel_left (List.append_cancel_left (List.append_cancel_left (List.append_cancel_left (List.append_cancel_left (List.append_cancel_left h)))))
  have := List.append_inj h e3
  refine ⟨?_, this.2⟩
  simp only [told, Prod.mk.injEq]
  exact ⟨this.1, e2, e1⟩
theorem list_told : ∀ (l l' : List Tri) (a : Nat), (∀ t ∈ l, Fits t) → (∀ t ∈ l', Fits t) → l.length = l'.length → listL a l = listL a l' → l.map told = l'.map told
  | [], [], _, _, _, _, _ => rfl
  | [], _ :: _, _, _, _, h, _ => by simp at h
  | _ :: _, [], _, _, _, h, _ => by simp at h
  | t :: l, t' :: l', a, h1, h2, hn, h => by
    rw [listL, listL] at h
    obtain ⟨e, h⟩ := row_same (h1 t (by simp)) (h2 t' (by simp)) h
    have es : sizeT t = sizeT t' := by
      simp only [told, Prod.mk.injEq] at e
      simp only [sizeT, e.1, e.2.1]
    rw [es] at h
    rw [List.map_cons, List.map_cons, e, list_told l l' _ (fun t ht => h1 t (by simp [ht])) (fun t ht => h2 t (by simp [ht])) (by simpa using hn) h]
theorem told_hd {t t' : Tri} (h : told t = told t') : hdL t = hdL t' := by
  simp only [told, Prod.mk.injEq] at h
  simp only [hdL, h.1, h.2.1, h.2.2]
theorem flip_outs : ∀ (l l' : List Tri) (p : Nat), (∀ t ∈ l, t.2.2 = crcOf t.2.1) → (∀ t ∈ l', t.2.2 = crcOf t.2.1) → l.map told = l'.map told → p / 8 < (outL l).length → outL l' = flipBit (outL l) p → False
  | [], _, p, _, _, _, hp, _ => by simp [outL] at hp
  | _ :: _, [], _, _, _, h, _, _ => by simp at h
  | t :: l, t' :: l', p, h1, h2, h, hp, e => by
    rw [List.map_cons, List.map_cons] at h
    have ht := List.head_eq_of_cons_eq h
    have hl := List.tail_eq_of_cons_eq h
    have ht' := ht
    simp only [told, Prod.mk.injEq] at ht'
    rw [outL_cons, outL_cons, ← told_hd ht] at e
    rw [outL_cons, List.length_append, List.length_append] at hp
    rcases Nat.lt_or_ge (p / 8) (hdL t).length with hc | hc
    · rw [flip_left hc] at e
      have := (List.append_inj e (by rw [length_flipBit])).1
      exact flip_ne _ _ hc this.symm
    · rw [flip_right hc] at e
      have e := List.append_cancel_left e
      rcases Nat.lt_or_ge ((p - 8 * (hdL t).length) / 8) t.2.1.length with hd | hd
      · rw [flip_left hd] at e
        have e := (List.append_inj e (by rw [length_flipBit]; exact ht'.2.1.symm)).1
        have c1 := h1 t (by simp)
        have c2 := h2 t' (by simp)
        rw [e, ← ht'.2.2, c1] at c2
        exact crc_flip _ _ hd c2.symm
      · rw [flip_right hd] at e
        have e := (List.append_inj e ht'.2.1.symm).2
        exact flip_outs l l' _ (fun t ht => h1 t (by simp [ht])) (fun t ht => h2 t (by simp [ht])) hl (by omega) e
theorem end_same {m s a m' s' a' : Nat} (hm : m < 65536) (hm' : m' < 65536) (hs : s < 4294967296) (hs' : s' < 4294967296) (ha : a < 4294967296) (ha' : a' < 4294967296) (h : endL m s a = endL m' s' a') : m = m' ∧ s = s' ∧ a = a' := by
  have p (m s a : Nat) : endL m s a = fixedL 101010256 4 ++ (fixedL 0 2 ++ (fixedL 0 2 ++ (fixedL m 2 ++ (fixedL m 2 ++ (fixedL s 4 ++ (fixedL a 4 ++ (fixedL 0 2 ++ []))))))) := by simp [endL, endF, fld_cons, fld_nil]
  rw [p, p] at h
  have h := List.append_cancel_left (List.append_cancel_left (List.append_cancel_left h))
  obtain ⟨e1, h⟩ := fixed_app_inj hm hm' h
  rw [e1] at h
  have h := List.append_cancel_left h
  obtain ⟨e2, h⟩ := fixed_app_inj hs hs' h
  obtain ⟨e3, h⟩ := fixed_app_inj ha ha' h
  exact ⟨e1, e2, e3⟩
/-- THE LAW: a file in which one bit is turned is none whose sums fit. -/
theorem flip_file {l l' : List Tri} {p : Nat} (h1 : ∀ t ∈ l, Fits t) (h2 : ∀ t ∈ l', Fits t) (c1 : ∀ t ∈ l, t.2.2 = crcOf t.2.1) (c2 : ∀ t ∈ l', t.2.2 = crcOf t.2.1)
    (n1 : l.length < 65536) (n2 : l'.length < 65536) (hb : (fileL l).length < 4294967296) (hp : p / 8 < (fileL l).length) (h : fileL l' = flipBit (fileL l) p) : False := by
  have hlen : (fileL l').length = (fileL l).length := by rw [h, length_flipBit]
  have len := length_fileL l
  have len' := length_fileL l'
  have one : l ≠ l' := fun e => by subst e; exact flip_ne _ _ hp h.symm
  have f1 : fileL l = (outL l ++ listL 0 l) ++ endL l.length (listL 0 l).length (outL l).length := by simp [fileL, restL]
  have f2 : fileL l' = (outL l' ++ listL 0 l') ++ endL l'.length (listL 0 l').length (outL l').length := by simp [fileL, restL]
  rw [f1, f2] at h
  have hl2 : (outL l' ++ listL 0 l').length = (outL l ++ listL 0 l).length := by rw [List.length_append, List.length_append]; omega
  rcases Nat.lt_or_ge (p / 8) (outL l ++ listL 0 l).length with hc | hc
  · rw [flip_left hc] at h
    have hi := List.append_inj h (by rw [length_flipBit]; exact hl2)
    obtain ⟨em, es, ea⟩ := end_same n2 n1 (by omega) (by omega) (by omega) (by omega) hi.2
    have h := hi.1
    rcases Nat.lt_or_ge (p / 8) (outL l).length with hd | hd
    · rw [flip_left hd] at h
      have hj := List.append_inj h (by rw [length_flipBit]; exact ea)
      exact flip_outs l l' p c1 c2 (list_told l' l 0 h2 h1 em hj.2).symm hd hj.1
    · rw [flip_right hd] at h
      have hj := List.append_inj h ea
      have := out_same (r := []) (s := []) h1 h2 hdAt_nil hdAt_nil (by rw [hj.1])
      exact one this.1
  · rw [flip_right hc] at h
    have hi := List.append_inj h hl2
    exact one (out_same h1 h2 (hdAt_list l 0) (hdAt_list l' 0) hi.1.symm).1
end Go.Proofs.YtmhadkdbonfmdaaDoor
