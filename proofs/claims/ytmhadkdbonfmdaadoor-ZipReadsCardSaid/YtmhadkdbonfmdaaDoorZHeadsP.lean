/-
  Layer 16: how heads are read, one reading behind the other; the cursor's readings in these words.
-/
import Derived.Test.YtmhadkdbonfmdaaDoorZEqual
namespace Go.Proofs.YtmhadkdbonfmdaaDoor
open Go Go.RowKit Go.Shelf
set_option maxRecDepth 100000

theorem fval_num (r : List UInt8) : fval r = num r := by
  induction r with
  | nil => rfl
  | cons x r ih => simp only [fval, num, ih]
theorem cut_drop (l : List UInt8) (k a n : Nat) : cut (l.drop k) a n = cut l (k + a) n := by simp [cut, List.drop_drop]
theorem fv_drop (l : List UInt8) (k a n : Nat) : fv (l.drop k) a n = fv l (k + a) n := by unfold fv; rw [cut_drop]
/-- A cursor's place and error behind a reading of s bytes. -/
def gF (s : Nat) (l : List UInt8) (p : Nat × Nat) : Nat × Nat := if p.2 = 0 then (if p.1 + s ≤ l.length then (p.1 + s, 0) else (p.1, 20)) else p
def nF (s : Nat) (l : List UInt8) (p : Nat × Nat) : Nat := if p.2 = 0 ∧ p.1 + s ≤ l.length then fv l p.1 s else 0
def bF (s : Nat) (l : List UInt8) (p : Nat × Nat) : List UInt8 := if p.2 = 0 ∧ p.1 + s ≤ l.length then cut l p.1 s else []
theorem gF_ok {s k : Nat} {l : List UInt8} (h : k + s ≤ l.length) : gF s l (k, 0) = (k + s, 0) := by simp [gF, h]
theorem gF_bad {s k : Nat} {l : List UInt8} (h : ¬ k + s ≤ l.length) : gF s l (k, 0) = (k, 20) := by simp [gF, h]
theorem gF_err {s : Nat} {l : List UInt8} {p : Nat × Nat} (h : p.2 ≠ 0) : gF s l p = p := by simp [gF, h]
theorem nF_ok {s k : Nat} {l : List UInt8} (h : k + s ≤ l.length) : nF s l (k, 0) = fv l k s := by simp [nF, h]
theorem bF_ok {s k : Nat} {l : List UInt8} (h : k + s ≤ l.length) : bF s l (k, 0) = cut l k s := by simp [bF, h]
theorem nF_lt (s : Nat) (l : List UInt8) (p : Nat × Nat) (hs : s ≤ 4) : nF s l p < 4294967296 := by
  unfold nF
  split
  · have h1 := fv_lt l p.1 s
    have h2 : 256 ^ s ≤ 256 ^ 4 := Nat.pow_le_pow_right (by decide) hs
    omega
  · decide
theorem bF_le (s : Nat) (l : List UInt8) (p : Nat × Nat) : (bF s l p).length ≤ l.length := by
  unfold bF
  split
  · simp only [cut, List.length_take, List.length_drop]; omega
  · simp
theorem gF_le {s : Nat} {l : List UInt8} {p : Nat × Nat} (h : p.1 ≤ l.length) : (gF s l p).1 ≤ l.length := by
  unfold gF
  split
  · split
    · assumption
    · exact h
  · exact h
/-- How many bytes members have. -/
def tot (ts : List Tri) : Nat := (ts.map sizeT).sum
theorem tot_snoc (ts : List Tri) (t : Tri) : tot (ts ++ [t]) = tot ts + sizeT t := by simp [tot]
theorem tot_out (ts : List Tri) : tot ts = (outL ts).length := (length_outL ts).symm
/-- THE PLAIN LAW: what the readings behind a mark come to. -/
theorem chain {l : List UInt8} {k : Nat} (h4 : k + 4 ≤ l.length) (hm : fv l k 4 = 67324752) {p1 p2 p3 p4 p5 p6 p7 p8 : Nat × Nat} (e1 : p1 = gF 10 l (k + 4, 0)) (e2 : p2 = gF 4 l p1) (e3 : p3 = gF 4 l p2) (e4 : p4 = gF 4 l p3) (e5 : p5 = gF 2 l p4) (e6 : p6 = gF 2 l p5)
    (e7 : p7 = gF (nF 2 l p4) l p6) (e8 : p8 = gF (nF 4 l p2) l p7) :
    (p8.2 = 0 → hdAt (l.drop k) = some (bF (nF 2 l p4) l p6, bF (nF 4 l p2) l p7, nF 4 l p1) ∧ p8.1 = k + sizeT (bF (nF 2 l p4) l p6, bF (nF 4 l p2) l p7, nF 4 l p1)) ∧ (p8.2 ≠ 0 → hdAt (l.drop k) = none) := by
  have hmk : fv (l.drop k) 0 4 = 67324752 := by rw [fv_drop, Nat.add_zero]; exact hm
  have hdl : (l.drop k).length = l.length - k := List.length_drop
  by_cases h30 : k + 30 ≤ l.length
  · rw [gF_ok (by omega)] at e1
    subst e1
    rw [gF_ok (by omega)] at e2
    subst e2
    rw [gF_ok (by omega)] at e3
    subst e3
    rw [gF_ok (by omega)] at e4
    subst e4
    rw [gF_ok (by omega)] at e5
    subst e5
    rw [gF_ok (by omega)] at e6
    subst e6
    rw [nF_ok (by omega)] at e7
    rw [nF_ok (by omega)] at e8
    rw [nF_ok (by omega), nF_ok (by omega), nF_ok (by omega)]
    simp only [Nat.add_assoc, Nat.reduceAdd] at e7 e8 ⊢
    have hA : hdAt (l.drop k) = if k + 30 + fv l (k + 26) 2 + fv l (k + 18) 4 ≤ l.length then some (cut l (k + 30) (fv l (k + 26) 2), cut l (k + 30 + fv l (k + 26) 2) (fv l (k + 18) 4), fv l (k + 14) 4) else none := by
      unfold hdAt
      rw [hmk, fv_drop, fv_drop, fv_drop, cut_drop, cut_drop, hdl]
      by_cases hc : k + 30 + fv l (k + 26) 2 + fv l (k + 18) 4 ≤ l.length
      · rw [if_pos hc, if_pos ⟨by omega, rfl, by omega⟩, Nat.add_assoc k 30]
      · rw [if_neg hc, if_neg (fun h => hc (by omega))]
    rw [hA]
    generalize fv l (k + 26) 2 = m at *
    generalize fv l (k + 18) 4 = n at *
    by_cases hm1 : k + 30 + m ≤ l.length
    · rw [gF_ok (by omega)] at e7
      subst e7
      by_cases hn1 : k + 30 + m + n ≤ l.length
      · rw [gF_ok (by omega)] at e8
        subst e8
        rw [bF_ok (by omega), bF_ok (by omega), if_pos hn1]
        refine ⟨fun _ => ⟨rfl, ?_⟩, fun h => absurd rfl h⟩
        simp only [sizeT, cut_length (show k + 30 + m ≤ l.length from hm1), cut_length (show k + 30 + m + n ≤ l.length from hn1)]
        omega
      · rw [gF_bad (by omega)] at e8
        subst e8
        rw [if_neg hn1]
        exact ⟨fun h => absurd h (Nat.succ_ne_zero 19), fun _ => rfl⟩
    · rw [gF_bad (by omega)] at e7
      subst e7
      rw [gF_err (Nat.succ_ne_zero 19)] at e8
      subst e8
      rw [if_neg (by omega)]
      exact ⟨fun h => absurd h (Nat.succ_ne_zero 19), fun _ => rfl⟩
  · have hA : hdAt (l.drop k) = none := by
      unfold hdAt
      rw [if_neg (fun h => h30 (by omega))]
    rw [hA]
    have key : p6.2 ≠ 0 := by
      have st : ∀ (s : Nat) (p q : Nat × Nat), q = gF s l p → q.2 = 0 → p.2 = 0 ∧ q.1 = p.1 + s ∧ q.1 ≤ l.length := fun s p q e h => by
        subst e
        unfold gF at h ⊢
        split
        · rename_i hp
          rw [if_pos hp] at h
          split at h
          · rename_i hq
            rw [if_pos hq]
            exact ⟨hp, rfl, hq⟩
          · cases h
        · rename_i hp
          rw [if_neg hp] at h
          exact absurd h hp
      intro h6
      obtain ⟨h5, q6, q6'⟩ := st _ _ _ e6 h6
      obtain ⟨h4', q5, -⟩ := st _ _ _ e5 h5
      obtain ⟨h3, q4, -⟩ := st _ _ _ e4 h4'
      obtain ⟨h2, q3, -⟩ := st _ _ _ e3 h3
      obtain ⟨h1, q2, -⟩ := st _ _ _ e2 h2
      obtain ⟨-, q1, -⟩ := st _ _ _ e1 h1
      dsimp only at q1
      omega
    rw [gF_err key] at e7
    subst e7
    rw [gF_err key] at e8
    subst e8
    exact ⟨fun h => absurd h key, fun _ => rfl⟩

/-! ### The cursor's readings -/
theorem curF {w : World} {cb : Nat} {l : List UInt8} {k e : Nat} (h : Cur w cb l k e) (hl : l.length ≤ 1000000) (s : Nat) (h1 : 1 ≤ s) (h4 : s ≤ 4) :
    Calls Tryd.prog 58 #[.pointer (some ⟨cb, 0, none⟩), .int .i64 (s : Nat)] w fun r w' => r = .returned (.int .i64 (nF s l (k, e) : Nat)) ∧ Cur w' cb l (gF s l (k, e)).1 (gF s l (k, e)).2 ∧ (Gr cb w w' ∧ w'.cell? ⟨cb, 0, none⟩ = w.cell? ⟨cb, 0, none⟩) := by
  have hkl : k ≤ l.length := by obtain ⟨_, _, _, _, h⟩ := h; exact h
  have hA : ansFixed (s : Int) (l.drop k) = if k + s ≤ l.length then (0, s, (fv l k s : Int)) else (20, 0, 0) := by
    have hlt := fv_lt l k s
    have hp : 256 ^ s ≤ 256 ^ 4 := Nat.pow_le_pow_right (by decide) h4
    have e1 : fval ((l.drop k).take s) = fv l k s := by rw [fval_num]; rfl
    unfold ansFixed
    rw [if_neg (by omega), List.length_drop]
    by_cases hc : k + s ≤ l.length
    · rw [if_neg (by omega), Int.toNat_natCast, e1, if_neg (by omega), if_pos hc]
    · rw [if_pos (by omega), if_neg hc]
  have hC := curFixed_any h hl (s : Int) (by omega)
  have e1 : stepN e (ansFixed (s : Int) (l.drop k)) = (nF s l (k, e) : Nat) := by
    rw [hA]; unfold stepN nF
    by_cases he : e = 0 <;> by_cases hc : k + s ≤ l.length <;> simp [he, hc]
  have e2 : stepK e (ansFixed (s : Int) (l.drop k)) k = (gF s l (k, e)).1 := by
    rw [hA]; unfold stepK gF
    by_cases he : e = 0 <;> by_cases hc : k + s ≤ l.length <;> simp [he, hc]
  have e3 : stepE e (ansFixed (s : Int) (l.drop k)) = (gF s l (k, e)).2 := by
    rw [hA]; unfold stepE gF
    by_cases he : e = 0 <;> by_cases hc : k + s ≤ l.length <;> simp [he, hc]
  rw [e1, e2, e3] at hC
  exact hC
theorem curB {w : World} {cb : Nat} {l : List UInt8} {k e : Nat} (h : Cur w cb l k e) (hl : l.length ≤ 1000000) (n : Nat) (hn : n < 4294967296) :
    Calls Tryd.prog 59 #[.pointer (some ⟨cb, 0, none⟩), .int .i64 (n : Nat)] w fun r w' => (∃ A' N, r = .returned (.slice A' N N) ∧ Bytes w' cb (.slice A' N N) (bF n l (k, e))) ∧ Cur w' cb l (gF n l (k, e)).1 (gF n l (k, e)).2 ∧ (Gr cb w w' ∧ w'.cell? ⟨cb, 0, none⟩ = w.cell? ⟨cb, 0, none⟩) := by
  have hkl : k ≤ l.length := by obtain ⟨_, _, _, _, h⟩ := h; exact h
  have hA : ansBytes (n : Int) (l.drop k) = if k + n ≤ l.length then (0, n, 0) else (20, 0, 0) := by
    unfold ansBytes
    rw [if_neg (by omega), List.length_drop]
    by_cases hc : k + n ≤ l.length
    · rw [if_neg (by omega), if_pos hc]; rfl
    · rw [if_pos (by omega), if_neg hc]
  have hC := curBytes_any h hl (n : Int) (by omega)
  have e1 : cutN (n : Int) e (l.drop k) = bF n l (k, e) := by
    unfold cutN bF; rw [hA]
    by_cases he : e = 0 <;> by_cases hc : k + n ≤ l.length <;> simp [he, hc, cut]
  have e2 : stepK e (ansBytes (n : Int) (l.drop k)) k = (gF n l (k, e)).1 := by
    rw [hA]; unfold stepK gF
    by_cases he : e = 0 <;> by_cases hc : k + n ≤ l.length <;> simp [he, hc]
  have e3 : stepE e (ansBytes (n : Int) (l.drop k)) = (gF n l (k, e)).2 := by
    rw [hA]; unfold stepE gF
    by_cases he : e = 0 <;> by_cases hc : k + n ≤ l.length <;> simp [he, hc]
  rw [e1, e2, e3] at hC
  exact hC
end Go.Proofs.YtmhadkdbonfmdaaDoor
