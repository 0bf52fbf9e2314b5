/-
  Layer 17: a pool in memory; Find, At, Len, Put.
-/
import Derived.Maps.Own
import Derived.Maps.OwnSet
import Derived.Maps.AppendAt
import Derived.OwnWalk
import Derived.WalkKit
import Derived.Deep.QuietTactic
import Derived.BigQuiet
import Derived.Lib.Hide
import Derived.Test.YtlkoddohplcmnaaChecked
import Derived.Test.YtlkoddohplcmnaaAppend
namespace Go.Proofs.Ytlkoddohplcmnaa
open Go Go.RowKit Go.Maps Go.WideMaps

/-- A text. -/
abbrev str (x : List UInt8) : Value := .string ⟨x.toArray⟩
abbrev Row := List (List UInt8)
def strsV (l : Row) : List Value := l.map str
theorem length_strsV (l : Row) : (strsV l).length = l.length := by simp [strsV]
theorem strsV_at (l : Row) (i : Nat) (h : i < l.length) : (strsV l)[i]? = some (str l[i]) := by simp [strsV, h]
theorem strsV_append (l m : Row) : strsV (l ++ m) = strsV l ++ strsV m := by simp [strsV]
theorem strsV_one (l : Row) : ∀ u ∈ strsV l, u.oneCell' = true := by
  intro u hu
  simp only [strsV, List.mem_map] at hu
  obtain ⟨x, _, rfl⟩ := hu
  rfl
theorem str_inj {x y : List UInt8} (h : str x = str y) : x = y := by
  simp only [str, Value.string.injEq] at h
  have := congrArg ByteArray.data h
  simpa using this
theorem infoStr : (Try.prog.info? 9).map (fun i => (i.zero, i.size, i.bytes)) = some (some (.string ⟨#[]⟩), 1, 16) := by kernel_rfl
theorem infoInt : (Try.prog.info? 3).map (fun i => (i.zero, i.size, i.bytes)) = some (some (.int .i64 0), 1, 8) := by kernel_rfl
theorem keyStr : Keyed Try.prog 9 := string_keyed Try.underlying9
theorem zeroE (w : World) : (zeroValue 3).run Try.prog w = .ok (.int .i64 0) w := by kernel_rfl
theorem keyOf_str {x : List UInt8} (h : x.length ≤ maxLen) : keyOf Try.prog 9 (str x) = some (.string x) := by
  have := keyOf_string_mk (P := Try.prog) Try.underlying9 (s := ⟨x.toArray⟩) (show x.toArray.size ≤ maxLen by rw [List.size_toArray]; exact h)
  exact this

/-! ### Rows of things, each once -/
def idx (row : Row) (x : List UInt8) : Nat := row.findIdx fun y => decide (y = x)
def findI (row : Row) (x : List UInt8) : Int := if x ∈ row then (idx row x : Int) else 0
def findB (row : Row) (x : List UInt8) : Bool := decide (x ∈ row)
def putL (row : Row) (x : List UInt8) : Row := if x ∈ row then row else row ++ [x]
def ofL (l : Row) : Row := l.foldl putL []
theorem ofL_snoc (l : Row) (x : List UInt8) : ofL (l ++ [x]) = putL (ofL l) x := by simp [ofL]
theorem idx_lt {row : Row} {x : List UInt8} (h : x ∈ row) : idx row x < row.length := List.findIdx_lt_length_of_exists ⟨x, h, by simp⟩
theorem idx_at {row : Row} {x : List UInt8} (h : x ∈ row) : row[idx row x]'(idx_lt h) = x := by
  exact of_decide_eq_true (List.findIdx_getElem (p := fun y => decide (y = x)) (w := idx_lt h))
theorem nodup_inj {l : Row} (hn : l.Nodup) {i j : Nat} (hi : i < l.length) (hj : j < l.length) (h : l[i] = l[j]) : i = j := by
  have hp := List.pairwise_iff_getElem.1 hn
  rcases Nat.lt_trichotomy i j with h1 | h1 | h1
  · exact absurd h (hp i j hi hj h1)
  · exact h1
  · exact absurd h.symm (hp j i hj hi h1)
theorem idx_unique {row : Row} (hn : row.Nodup) {i : Nat} (h : i < row.length) : idx row row[i] = i := by
  have h1 := idx_lt (List.getElem_mem h)
  have h2 := idx_at (List.getElem_mem h)
  exact nodup_inj hn h1 h h2
theorem putL_nodup {row : Row} (h : row.Nodup) (x : List UInt8) : (putL row x).Nodup := by
  unfold putL
  split
  · exact h
  · rename_i hx
    rw [List.nodup_append]
    refine ⟨h, by simp, ?_⟩
    intro a ha b hb
    simp at hb
    subst hb
    rintro rfl
    exact hx ha
theorem mem_putL (row : Row) (x : List UInt8) : x ∈ putL row x := by
  unfold putL
  split
  · assumption
  · simp
theorem idx_put {row : Row} {x : List UInt8} (h : x ∉ row) : idx (row ++ [x]) x = row.length := by
  unfold idx
  rw [List.findIdx_append, List.findIdx_eq_length.2 (fun y hy => by simp; rintro rfl; exact h hy)]
  simp

/-! ### Memory -/
/-- What a map of places says. -/
def AgreeM (D : DataW Unit) (row : Row) : Prop := IsMap D ∧ (∀ x, Maps.has D (.string x) = decide (x ∈ row)) ∧ ∀ i (h : i < row.length), D.atKey (.string row[i]) (.lit (.int .i64 0)) = .lit (.int .i64 i)
theorem agree_nil : AgreeM (.map []) [] := ⟨isMap_empty, fun x => by simp [has_eq], fun i h => absurd h (by simp)⟩
theorem agree_put {D : DataW Unit} {row : Row} {x : List UInt8} (h : AgreeM D row) (hx : x ∉ row) : AgreeM (D.put (.string x) (.lit (.int .i64 row.length))) (row ++ [x]) := by
  obtain ⟨h1, h2, h3⟩ := h
  refine ⟨h1.put _ _, fun y => ?_, fun i hi => ?_⟩
  · by_cases hy : y = x
    · subst hy
      rw [has_put_same h1 (show WideAt.IsKeyLit (.string y) from trivial)]
      simp
    · rw [has_put_other (by simpa using hy), h2 y]
      simp [hy]
  · rcases Nat.lt_or_ge i row.length with hl | hl
    · have hne : row[i] ≠ x := fun e => hx (e ▸ List.getElem_mem hl)
      rw [List.getElem_append_left hl, atKey_put_other (by simpa using hne), h3 i hl]
    · have hi' : i = row.length := by simp at hi; omega
      subst hi'
      rw [List.getElem_append_right (Nat.le_refl _)]
      simp only [Nat.sub_self, List.getElem_cons_zero]
      rw [atKey_put_same h1 (show WideAt.IsKeyLit (.string x) from trivial)]
/-- Memory but for the blocks of T, and new ones. -/
structure Turned (T : Nat → Prop) (w w' : World) : Prop where
  os : w'.os = w.os
  tape : w'.tape = w.tape
  output : w'.output = w.output
  size : w.heap.size ≤ w'.heap.size
  block : ∀ k, k < w.heap.size → ¬ T k → w'.heap[k]? = w.heap[k]?
theorem Turned.refl (T : Nat → Prop) (w : World) : Turned T w w := ⟨rfl, rfl, rfl, Nat.le_refl _, fun _ _ _ => rfl⟩
/-- A pool. -/
def PoolAt (w : World) (T : Nat → Prop) (pb : Nat) (row : Row) : Prop := ∃ (mb : Nat) (vl : Value) (D : DataW Unit),
  w.cell? ⟨pb, 0, none⟩ = some vl ∧ w.cell? ⟨pb, 1, none⟩ = some (.map (some mb)) ∧ w.frozen? ⟨pb, 0, none⟩ = false ∧
  w.ownsRow 0 9 1 vl row.length (strsV row) ∧ w.ownsMap Try.prog 9 (plainElem Try.prog 3) mb row.length D ∧ AgreeM D row ∧
  mb ≠ pb ∧ (∀ g, vl.ownBlock = some g → g ≠ pb ∧ g ≠ mb ∧ T g) ∧ T pb ∧ T mb ∧ row.Nodup ∧ (∀ x ∈ row, x.length ≤ maxLen) ∧ row.length ≤ 100000

set_option maxHeartbeats 400000 in
theorem len_any {w : World} {T : Nat → Prop} {pb : Nat} {row : Row} (h : PoolAt w T pb row) :
    Calls Try.prog 20 #[.pointer (some ⟨pb, 0, none⟩)] w fun e w' => e = .returned (.int .i64 row.length) ∧ w' = w := by
  obtain ⟨mb, vl, D, c0, c1, f0, hrow, -, -, -, -, -, -, -, -, hl⟩ := h
  obtain ⟨A, c, rfl⟩ : ∃ A c, vl = .slice A row.length c := (Sl.of_own hrow).form
  clear hrow
  go_enter Try.func20, Try.ntmps20
  go_wp2_with fail
  go_ret
  exact ⟨rfl, rfl⟩

set_option maxHeartbeats 400000 in
theorem at_any {w : World} {T : Nat → Prop} {pb : Nat} {row : Row} (h : PoolAt w T pb row) (i : Int) (hi : -9223372036854775808 ≤ i ∧ i ≤ 9223372036854775807) :
    Calls Try.prog 21 #[.pointer (some ⟨pb, 0, none⟩), .int .i64 i] w fun e w' =>
      ((∃ (j : Nat) (hj : j < row.length), i = j ∧ e = .returned (.tuple #[str row[j], .int .i64 0])) ∨ ((i < 0 ∨ (row.length : Int) ≤ i) ∧ e = .returned (.tuple #[str [], .int .i64 16]))) ∧ w' = w := by
  obtain ⟨mb, vl, D, c0, c1, f0, hrow, -, -, -, -, -, -, -, -, hl⟩ := h
  have hs := Sl.of_own hrow
  obtain ⟨A, c, rfl⟩ := hs.form
  have HS := Lib.hid hs
  clear hs hrow
  rcases (show i < 0 ∨ (0 ≤ i ∧ (row.length : Int) ≤ i) ∨ (0 ≤ i ∧ i < row.length) by omega) with h1 | h1 | h1
  · have HP : Hid (i < 0) := h1
    go_enter Try.func21, Try.ntmps21
    go_wp2_with fail
    go_ret2
    exact ⟨.inr ⟨.inl HP.out, rfl⟩, rfl⟩
  · have HP : Hid ((row.length : Int) ≤ i) := h1.2
    go_enter Try.func21, Try.ntmps21
    go_wp2_with fail
    go_ret2
    exact ⟨.inr ⟨.inr HP.out, rfl⟩, rfl⟩
  · obtain ⟨j, rfl⟩ := Int.eq_ofNat_of_zero_le h1.1
    have hj : j < row.length := by omega
    obtain ⟨b, o, c', e, hB, hc⟩ := HS.out.at_ (by omega)
    cases e
    have hcell := hc j _ (strsV_at row j hj)
    clear hc
    have HJ : Hid (∃ x, row[j] = x) := ⟨_, rfl⟩
    obtain ⟨x, hx⟩ := HJ.out
    rw [show str row[j] = str x by rw [hx]] at hcell
    have HX := Lib.hid hx
    clear hx HJ
    go_enter Try.func21, Try.ntmps21
    go_wp2_with fail
    go_ret2
    exact ⟨.inl ⟨j, hj, rfl, by rw [HX.out]; rfl⟩, rfl⟩

set_option maxHeartbeats 400000 in
theorem find_any {w : World} {T : Nat → Prop} {pb : Nat} {row : Row} (h : PoolAt w T pb row) (x : List UInt8) (hx : x.length ≤ maxLen) :
    Calls Try.prog 16 #[.pointer (some ⟨pb, 0, none⟩), str x] w fun e w' =>
      e = .returned (.tuple #[.int .i64 (findI row x), .bool (findB row x)]) ∧ w' = w := by
  obtain ⟨mb, vl, D, c0, c1, f0, -, hmap, hag, -, -, -, -, hnd, -, -⟩ := h
  have hkey := keyOf_str hx
  have HR : Hid (Maps.has D (.string x) = findB row x ∧ D.atKey (.string x) (.lit (.int .i64 0)) = .lit (.int .i64 (findI row x))) := by
    refine ⟨hag.2.1 x, ?_⟩
    unfold findI
    split
    · rename_i hm
      have := hag.2.2 _ (idx_lt hm)
      rwa [idx_at hm] at this
    · rename_i hm
      exact atKey_of_not_has (by rw [hag.2.1 x]; simpa using hm) _
  clear hag
  go_enter Try.func16, Try.ntmps16
  go_wp2_with (at_lookup; refine wpList_lookup_own_ok_int _ rfl _ _ 52 rfl 9 3 .i64 keyStr Try.underlying52 Try.underlying3 (zeroE _) mb row.length D rfl hmap _ _ rfl hkey ?_; intro c hat hwc)
  go_ret2
  have h2 := HR.out.2
  rw [hat] at h2
  simp only [DataW.lit.injEq, Lit.int.injEq, true_and] at h2
  rw [h2, HR.out.1]
  exact ⟨rfl, rfl⟩
end Go.Proofs.Ytlkoddohplcmnaa
