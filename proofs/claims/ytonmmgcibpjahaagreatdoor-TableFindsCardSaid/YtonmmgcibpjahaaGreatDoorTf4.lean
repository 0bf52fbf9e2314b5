/-
  Layer 14's Merge, as plain functions; small words of memory.
-/
import Derived.Laws.AppendOwn
import Derived.Laws.AppendOwnNone
import Derived.Maps.AppendAt
import Derived.Lib.MinMax
import Derived.Lib.SlicesMore
import Derived.Test.YtonmmgcibpjahaaGreatDoorTf3
section
/- TBehind: Layer 14's behind, At, Next, Prev, walked. -/
namespace Go.Proofs.YtonmmgcibpjahaaGreatDoor
open Go Go.RowKit Go.Shelf
set_option maxRecDepth 100000

def pB (l : List Chg) (i : Int) (k : Nat) : Bool := match l[k]? with
  | some c => decide (i < c.at_)
  | none => true
/-- How many changes are not behind an instant. -/
def bh (l : List Chg) (i : Int) : Nat := (List.range l.length).countP fun k => !pB l i k
theorem countP_prefix (q : Nat → Bool) (hq : ∀ k, q (k + 1) = true → q k = true) : ∀ (n : Nat), (List.range n).countP q ≤ n ∧ ∀ k, k < n → (k < (List.range n).countP q ↔ q k = true)
  | 0 => ⟨Nat.le_refl _, fun k h => by omega⟩
  | n + 1 => by
    obtain ⟨h1, h2⟩ := countP_prefix q hq n
    rw [List.range_succ, List.countP_append]
    have hdown : ∀ m k, k ≤ m → q m = true → q k = true := by
      intro m
      induction m with
      | zero => intro k hk h; have : k = 0 := by omega
                subst this; exact h
      | succ m ih =>
        intro k hk h
        rcases Nat.lt_or_ge m k with h3 | h3
        · have : k = m + 1 := by omega
          subst this; exact h
        · exact ih k h3 (hq m h)
    cases hn : q n with
    | true =>
      have hc : (List.range n).countP q = n := by
        rcases Nat.lt_or_ge ((List.range n).countP q) n with h3 | h3
        · have h4 := (h2 _ h3).2 (hdown n _ (by omega) hn)
          omega
        · omega
      have e : List.countP q [n] = 1 := by simp [hn]
      rw [e, hc]
      refine ⟨Nat.le_refl _, fun k hk => ⟨fun _ => hdown n k (by omega) hn, fun _ => by omega⟩⟩
    | false =>
      have e : List.countP q [n] = 0 := by simp [hn]
      rw [e, Nat.add_zero]
      refine ⟨by omega, fun k hk => ?_⟩
      rcases Nat.lt_or_ge k n with h3 | h3
      · exact h2 k h3
      · have : k = n := by omega
        subst this
        rw [hn]
        exact ⟨fun h => by omega, fun h => by cases h⟩
theorem bh_le (l : List Chg) (i : Int) : bh l i ≤ l.length := by
  unfold bh
  exact Nat.le_trans List.countP_le_length (by simp)
theorem bh_iff {l : List Chg} (hr : Rising l) (i : Int) {k : Nat} (hk : k < l.length) : k < bh l i ↔ (l[k]).at_ ≤ i := by
  have h := (countP_prefix (fun k => !pB l i k) (fun k h => by
    unfold pB at *
    rcases Nat.lt_or_ge (k + 1) l.length with h1 | h1
    · rw [List.getElem?_eq_getElem h1] at h
      rw [List.getElem?_eq_getElem (show k < l.length by omega)]
      have := hr k h1
      simp only [Bool.not_eq_true', decide_eq_false_iff_not] at *
      omega
    · rw [List.getElem?_eq_none h1] at h
      cases h) l.length).2 k hk
  unfold bh
  rw [h]
  unfold pB
  rw [List.getElem?_eq_getElem hk]
  simp
set_option maxHeartbeats 1000000 in
theorem behind1_any (l : List Chg) (c : Nat) (b o tb ib k : Nat) (i : Int) (W : World) (hk : k < l.length) (hcm : l.length ≤ maxLen)
    (ht : W.cell? ⟨tb, 0, none⟩ = some (.slice (some ⟨b, o, none⟩) l.length c)) (hi : W.cell? ⟨ib, 0, none⟩ = some (.int .i64 i)) (hc : W.cell? ⟨b, o + k * 4, none⟩ = some (.int .i64 (l[k]).at_)) :
    Calls Tryz.prog 92 #[.int .i64 k, .pointer (some ⟨tb, 0, none⟩), .pointer (some ⟨ib, 0, none⟩)] W fun e w' => e = .returned (.bool (pB l i k)) ∧ ∃ q, w' = W.drewN q := by
  unfold maxLen at hcm
  have HP := Lib.hid (show pB l i k = decide (i < (l[k]).at_) by unfold pB; rw [List.getElem?_eq_getElem hk])
  generalize (l[k]).at_ = t at *
  go_enter Tryz.func92, Tryz.ntmps92
  go_wp2_with fail
  go_quiet (fail)
  go_wp2_with fail
  go_ret
  exact ⟨by rw [HP.out]; rfl, _, rfl⟩
open Go.Sort in
theorem search_any (g : Nat) (cb : Array Value) (n : Nat) (p : Nat → Bool) (w : World) (eg : ∀ args w, (callFunc g args).run Tryz.prog w = .ok (.enter g args) w) (hsz : n < 4611686018427387904)
    (hf : ∀ (W : World) (i : Nat), Below w.heap.size w W → i < n → Calls Tryz.prog g (#[.int .i64 i] ++ cb) W fun e w' => e = .returned (.bool (p i)) ∧ ∃ q, w' = W.drewN q)
    (hmono : ∀ a b, a ≤ b → b < n → p a = true → p b = true) :
    Calls Tryz.prog 91 #[.int .i64 n, .func (.func g) #[] cb] w fun e w' => e = .returned (.int .i64 ((List.range n).countP (fun i => !p i) : Nat)) ∧ Below w.heap.size w w' := by
  refine (Any.sort_Search Tryz.laysSearch g cb n p w eg hsz (fun m os i hi => ?_) hmono).mono fun e w' ⟨h1, q, os, h2⟩ => ⟨h1, by rw [h2]; exact Go.Proofs.below_grown_sl _ _ _ _ (Nat.le_refl _)⟩
  refine (hf _ i (Go.Proofs.below_grown_sl _ _ _ _ (Nat.le_refl _)) hi).mono fun e w' ⟨h1, q, h2⟩ => ⟨h1, q, #[], by rw [h2, grow_empty]⟩
set_option maxHeartbeats 1000000 in
theorem behind_any (w : World) (B : Nat) (v : Value) (l : List Chg) (i : Int) (hv : Chgs w B v l) (hB : B ≤ w.heap.size) (hl : l.length ≤ 61) (hr : Rising l) :
    Calls Tryz.prog 65 #[v, .int .i64 i] w fun e w' => e = .returned (.int .i64 (bh l i)) ∧ Below w.heap.size w w' := by
  obtain ⟨A, c, rfl, hlc, hcm⟩ := hv.form
  have hb0 : Below w.heap.size w ((w.alloc (.cells #[.slice A l.length c] 85)).alloc (.cells #[.int .i64 i] 3)) := ((Below.refl _ _).alloc (Nat.le_refl _) _).alloc (by simp) _
  have ht := (Blk.new w 85 #[.slice A l.length c]).alloc (.cells #[.int .i64 i] 3)
  have hi := Blk.new (w.alloc (.cells #[.slice A l.length c] 85)) 3 #[.int .i64 i]
  rw [World.size_alloc] at hi
  have HS := Lib.hid (search_any 92 #[.pointer (some ⟨w.heap.size, 0, none⟩), .pointer (some ⟨w.heap.size + 1, 0, none⟩)] l.length (pB l i) ((w.alloc (.cells #[.slice A l.length c] 85)).alloc (.cells #[.int .i64 i] 3)) (enters_of Tryz.func92 (by kernel_rfl) rfl) (by omega) (fun W k hbW hk => by
      obtain ⟨b, o, c', e, -, hc⟩ := (hv.below ((hb0.trans (hbW.mono hb0.size)).mono hB)).cells (by omega)
      cases e
      exact behind1_any l c b o _ _ k i W hk (by unfold maxLen; omega) ((ht.below hbW ht.lt).cell 0 rfl) ((hi.below hbW hi.lt).cell 0 rfl) (hc k hk).1) (fun a b hab hb h => by
      have ha : a < l.length := by omega
      unfold pB at *
      rw [List.getElem?_eq_getElem ha] at h
      rw [List.getElem?_eq_getElem hb]
      have := hr.le hb hab
      simp only [decide_eq_true_eq] at *
      omega))
  have HB := Lib.hid hb0
  unfold maxLen at hcm
  clear hb0 ht hi hv
  go_enter Tryz.func65, Tryz.ntmps65
  go_wp2_with fail
  refine HS.out.mono ?_
  rintro o w1 ⟨rfl, hb⟩
  have hb1 := HB.out.trans (hb.mono HB.out.size)
  clear hb HS
  go_wp2_with fail
  go_ret
  exact ⟨rfl, hb1⟩
/-- What At, Next and Prev answer. -/
def atV (l : List Chg) (i : Int) : Loc × Int := if bh l i = 0 then (.zero, 16) else ((l.getD (bh l i - 1) .zero).loc, 0)
def nextV (l : List Chg) (i : Int) : Chg × Bool := if bh l i = l.length then (.zero, false) else (l.getD (bh l i) .zero, true)
def prevV (l : List Chg) (i : Int) : Chg × Bool := if bh l i < 2 then (.zero, false) else (l.getD (bh l i - 1) .zero, true)
theorem getD_at {l : List Chg} {k : Nat} (h : k < l.length) : l.getD k .zero = l[k] := by rw [List.getD_eq_getElem?_getD, List.getElem?_eq_getElem h]; rfl
set_option maxHeartbeats 1000000 in
theorem tat_any (w : World) (B : Nat) (v : Value) (l : List Chg) (i : Int) (hv : Chgs w B v l) (hB : B ≤ w.heap.size) (hl : l.length ≤ 61) (hr : Rising l) :
    Calls Tryz.prog 38 #[v, .int .i64 i] w fun e w' => e = .returned (.tuple #[locA (atV l i).1, .int .i64 (atV l i).2]) ∧ Below w.heap.size w w' := by
  have hb0 : Below w.heap.size w (w.alloc (.cells #[.int .i64 0, .bool false, .string ⟨#[]⟩] 41)) := (Below.refl _ _).alloc (Nat.le_refl _) _
  have hr0 := Blk.new w 41 #[.int .i64 0, .bool false, .string ⟨#[]⟩]
  have HB := Lib.hid (behind_any _ B v l i (hv.below (hb0.mono hB)) (by simp; omega) hl hr)
  have hle := bh_le l i
  obtain ⟨A, c, rfl, hlc, hcm⟩ := hv.form
  unfold maxLen at hcm
  obtain ⟨n, hn⟩ : ∃ n, bh l i = n := ⟨_, rfl⟩
  rw [hn] at HB hle
  have HN := Lib.hid hn
  have HV := Lib.hid hv
  clear hn hv
  go_enter Tryz.func38, Tryz.ntmps38
  go_wp2_with fail
  refine HB.out.mono ?_
  rintro o w1 ⟨rfl, hb⟩
  have hb1 := hb0.trans (hb.mono hb0.size)
  have hr1 := hr0.below hb hr0.lt
  have r0 := hr1.cell 0 (v := .int .i64 0) rfl
  have r1 := hr1.cell 1 (v := .bool false) rfl
  have r2 := hr1.cell 2 (v := .string ⟨#[]⟩) rfl
  have rf0 := hr1.frozen 0
  have rf1 := hr1.frozen 1
  have rf2 := hr1.frozen 2
  have HR1 := Lib.hid hr1
  clear hb hb0 hr0 hr1 HB
  rcases n with _ | j
  · have HP := Lib.hid (show atV l i = (.zero, 16) by unfold atV; rw [if_pos HN.out])
    go_wp2_with fail
    have HW := ((HR1.out.set 0 (.int .i64 0)).set 1 (.bool false)).set 2 (.string ⟨#[]⟩)
    refine bodyPost_ret (v := .tuple #[locA Loc.zero, .int .i64 16]) ?_ rfl ⟨by rw [HP.out], below_set3 hb1 (Nat.le_refl _) _ _ _⟩
    have c0 := HW.cell 0 (v := .int .i64 0) rfl
    have c1 := HW.cell 1 (v := .bool false) rfl
    have c2 := HW.cell 2 (v := .string ⟨#[]⟩) rfl
    simp [results, Tryz.f38, go_sem, c0, c1, c2, locA, Loc.zero]
  · have hjl : j < l.length := by omega
    have HP := Lib.hid (show atV l i = ((l[j]).loc, 0) by unfold atV; rw [if_neg (by rw [HN.out]; omega), HN.out, Nat.add_sub_cancel, getD_at hjl])
    obtain ⟨b, o, c', e, -, hc⟩ := (HV.out.below (hb1.mono hB)).cells (by omega)
    cases e
    obtain ⟨-, c1, c2, c3⟩ := hc j hjl
    clear hc
    generalize (l[j]).loc = x at *
    have e1 : ((j + 1 : Nat) : Int) - 1 = (j : Nat) := by omega
    have e2 : (((j + 1 : Nat) : Int) == 0) = false := by simp; omega
    rw [show (((j + 1 : Nat)) : Int) = (j : Int) + 1 from by omega] at *
    go_wp2_with fail
    have HW := ((HR1.out.set 0 (.int .i64 x.off)).set 1 (.bool x.dst)).set 2 (.string x.abbr)
    refine bodyPost_ret (v := .tuple #[locA x, .int .i64 0]) ?_ rfl ⟨by rw [HP.out], below_set3 hb1 (Nat.le_refl _) _ _ _⟩
    have d0 := HW.cell 0 (v := .int .i64 x.off) rfl
    have d1 := HW.cell 1 (v := .bool x.dst) rfl
    have d2 := HW.cell 2 (v := .string x.abbr) rfl
    clear c1 c2 c3
    simp [results, Tryz.f38, go_sem, d0, d1, d2, locA]
set_option maxHeartbeats 1000000 in
theorem tnext_any (w : World) (B : Nat) (v : Value) (l : List Chg) (i : Int) (hv : Chgs w B v l) (hB : B ≤ w.heap.size) (hl : l.length ≤ 61) (hr : Rising l) :
    Calls Tryz.prog 39 #[v, .int .i64 i] w fun e w' => e = .returned (.tuple #[chgA (nextV l i).1, .bool (nextV l i).2]) ∧ Below w.heap.size w w' := by
  have hb0 : Below w.heap.size w (w.alloc (.cells #[.int .i64 0, .int .i64 0, .bool false, .string ⟨#[]⟩] 90)) := (Below.refl _ _).alloc (Nat.le_refl _) _
  have hr0 := Blk.new w 90 #[.int .i64 0, .int .i64 0, .bool false, .string ⟨#[]⟩]
  have HB := Lib.hid (behind_any _ B v l i (hv.below (hb0.mono hB)) (by simp; omega) hl hr)
  have hle := bh_le l i
  obtain ⟨A, c, rfl, hlc, hcm⟩ := hv.form
  unfold maxLen at hcm
  obtain ⟨n, hn⟩ : ∃ n, bh l i = n := ⟨_, rfl⟩
  rw [hn] at HB hle
  have HN := Lib.hid hn
  have HV := Lib.hid hv
  clear hn hv
  go_enter Tryz.func39, Tryz.ntmps39
  go_wp2_with fail
  refine HB.out.mono ?_
  rintro o w1 ⟨rfl, hb⟩
  have hb1 := hb0.trans (hb.mono hb0.size)
  have hr1 := hr0.below hb hr0.lt
  have r0 := hr1.cell 0 (v := .int .i64 0) rfl
  have r1 := hr1.cell 1 (v := .int .i64 0) rfl
  have r2 := hr1.cell 2 (v := .bool false) rfl
  have r3 := hr1.cell 3 (v := .string ⟨#[]⟩) rfl
  have rf0 := hr1.frozen 0
  have rf1 := hr1.frozen 1
  have rf2 := hr1.frozen 2
  have rf3 := hr1.frozen 3
  have HR1 := Lib.hid hr1
  clear hb hb0 hr0 hr1 HB
  by_cases hn : n = l.length
  · have HP := Lib.hid (show nextV l i = (.zero, false) by unfold nextV; rw [HN.out, if_pos hn])
    subst hn
    go_wp2_with fail
    have HW := (((HR1.out.set 0 (.int .i64 0)).set 1 (.int .i64 0)).set 2 (.bool false)).set 3 (.string ⟨#[]⟩)
    refine bodyPost_ret (v := .tuple #[chgA Chg.zero, .bool false]) ?_ rfl ⟨by rw [HP.out], below_set4 hb1 (Nat.le_refl _) _ _ _ _⟩
    have c0 := HW.cell 0 (v := .int .i64 0) rfl
    have c1 := HW.cell 1 (v := .int .i64 0) rfl
    have c2 := HW.cell 2 (v := .bool false) rfl
    have c3 := HW.cell 3 (v := .string ⟨#[]⟩) rfl
    simp [results, Tryz.f39, go_sem, c0, c1, c2, c3, chgA, Chg.zero, Loc.zero]
  · have hjl : n < l.length := by omega
    have HP := Lib.hid (show nextV l i = (l[n], true) by unfold nextV; rw [HN.out, if_neg hn, getD_at hjl])
    obtain ⟨b, o, c', e, -, hc⟩ := (HV.out.below (hb1.mono hB)).cells (by omega)
    cases e
    obtain ⟨c0, c1, c2, c3⟩ := hc n hjl
    clear hc
    generalize l[n] = x at *
    have e2 : ((n : Int) == (l.length : Int)) = false := by simp; omega
    go_wp2_with fail
    have HW := (((HR1.out.set 0 (.int .i64 x.at_)).set 1 (.int .i64 x.loc.off)).set 2 (.bool x.loc.dst)).set 3 (.string x.loc.abbr)
    refine bodyPost_ret (v := .tuple #[chgA x, .bool true]) ?_ rfl ⟨by rw [HP.out], below_set4 hb1 (Nat.le_refl _) _ _ _ _⟩
    have d0 := HW.cell 0 (v := .int .i64 x.at_) rfl
    have d1 := HW.cell 1 (v := .int .i64 x.loc.off) rfl
    have d2 := HW.cell 2 (v := .bool x.loc.dst) rfl
    have d3 := HW.cell 3 (v := .string x.loc.abbr) rfl
    clear c0 c1 c2 c3
    simp [results, Tryz.f39, go_sem, d0, d1, d2, d3, chgA]
set_option maxHeartbeats 1000000 in
theorem tprev_any (w : World) (B : Nat) (v : Value) (l : List Chg) (i : Int) (hv : Chgs w B v l) (hB : B ≤ w.heap.size) (hl : l.length ≤ 61) (hr : Rising l) :
    Calls Tryz.prog 40 #[v, .int .i64 i] w fun e w' => e = .returned (.tuple #[chgA (prevV l i).1, .bool (prevV l i).2]) ∧ Below w.heap.size w w' := by
  have hb0 : Below w.heap.size w (w.alloc (.cells #[.int .i64 0, .int .i64 0, .bool false, .string ⟨#[]⟩] 90)) := (Below.refl _ _).alloc (Nat.le_refl _) _
  have hr0 := Blk.new w 90 #[.int .i64 0, .int .i64 0, .bool false, .string ⟨#[]⟩]
  have HB := Lib.hid (behind_any _ B v l i (hv.below (hb0.mono hB)) (by simp; omega) hl hr)
  have hle := bh_le l i
  obtain ⟨A, c, rfl, hlc, hcm⟩ := hv.form
  unfold maxLen at hcm
  obtain ⟨n, hn⟩ : ∃ n, bh l i = n := ⟨_, rfl⟩
  rw [hn] at HB hle
  have HN := Lib.hid hn
  have HV := Lib.hid hv
  clear hn hv
  go_enter Tryz.func40, Tryz.ntmps40
  go_wp2_with fail
  refine HB.out.mono ?_
  rintro o w1 ⟨rfl, hb⟩
  have hb1 := hb0.trans (hb.mono hb0.size)
  have hr1 := hr0.below hb hr0.lt
  have r0 := hr1.cell 0 (v := .int .i64 0) rfl
  have r1 := hr1.cell 1 (v := .int .i64 0) rfl
  have r2 := hr1.cell 2 (v := .bool false) rfl
  have r3 := hr1.cell 3 (v := .string ⟨#[]⟩) rfl
  have rf0 := hr1.frozen 0
  have rf1 := hr1.frozen 1
  have rf2 := hr1.frozen 2
  have rf3 := hr1.frozen 3
  have HR1 := Lib.hid hr1
  clear hb hb0 hr0 hr1 HB
  by_cases hn : n < 2
  · have HP := Lib.hid (show prevV l i = (.zero, false) by unfold prevV; rw [HN.out, if_pos hn])
    have e2 : decide ((n : Int) < 2) = true := by simp; omega
    go_wp2_with fail
    have HW := (((HR1.out.set 0 (.int .i64 0)).set 1 (.int .i64 0)).set 2 (.bool false)).set 3 (.string ⟨#[]⟩)
    refine bodyPost_ret (v := .tuple #[chgA Chg.zero, .bool false]) ?_ rfl ⟨by rw [HP.out], below_set4 hb1 (Nat.le_refl _) _ _ _ _⟩
    have c0 := HW.cell 0 (v := .int .i64 0) rfl
    have c1 := HW.cell 1 (v := .int .i64 0) rfl
    have c2 := HW.cell 2 (v := .bool false) rfl
    have c3 := HW.cell 3 (v := .string ⟨#[]⟩) rfl
    simp [results, Tryz.f40, go_sem, c0, c1, c2, c3, chgA, Chg.zero, Loc.zero]
  · obtain ⟨j, rfl⟩ : ∃ j, n = j + 1 := ⟨n - 1, by omega⟩
    have hjl : j < l.length := by omega
    have HP := Lib.hid (show prevV l i = (l[j], true) by unfold prevV; rw [HN.out, if_neg hn, Nat.add_sub_cancel, getD_at hjl])
    obtain ⟨b, o, c', e, -, hc⟩ := (HV.out.below (hb1.mono hB)).cells (by omega)
    cases e
    obtain ⟨c0, c1, c2, c3⟩ := hc j hjl
    clear hc
    generalize l[j] = x at *
    have e1 : ((j + 1 : Nat) : Int) - 1 = (j : Nat) := by omega
    have e2 : decide (((j + 1 : Nat) : Int) < 2) = false := by simp; omega
    rw [show (((j + 1 : Nat)) : Int) = (j : Int) + 1 from by omega] at *
    go_wp2_with fail
    have HW := (((HR1.out.set 0 (.int .i64 x.at_)).set 1 (.int .i64 x.loc.off)).set 2 (.bool x.loc.dst)).set 3 (.string x.loc.abbr)
    refine bodyPost_ret (v := .tuple #[chgA x, .bool true]) ?_ rfl ⟨by rw [HP.out], below_set4 hb1 (Nat.le_refl _) _ _ _ _⟩
    have d0 := HW.cell 0 (v := .int .i64 x.at_) rfl
    have d1 := HW.cell 1 (v := .int .i64 x.loc.off) rfl
    have d2 := HW.cell 2 (v := .bool x.loc.dst) rfl
    have d3 := HW.cell 3 (v := .string x.loc.abbr) rfl
    clear c0 c1 c2 c3
    simp [results, Tryz.f40, go_sem, d0, d1, d2, d3, chgA]
end Go.Proofs.YtonmmgcibpjahaaGreatDoor
end

section
/- Append: Appending what lies in memory, in whatever form, to a row of the call's own, or to a full one that is another's. -/
namespace Go.Proofs.YtonmmgcibpjahaaGreatDoor
open Go Go.RowKit

section
variable {P : Program} {w : World}
theorem run_append_none_any (base : Nat) (t ty e : TypeId) (i : TypeInfo) (size : Nat) (ht : P.underlying t = some (.slice e)) (hi : P.info? e = some i)
    (v : Value) (n c : Nat) (xs : List Value) (hown : w.ownsRow base e size v n xs) :
    (Builtin.append_ #[t, t] ty #[v, .slice none 0 c]).run P w = .ok v w := by
  rcases hown.2 with ⟨rfl, rfl⟩ | ⟨g, cap, cur, rfl, _, _, hnc, _⟩
  · simp [Builtin.append_, run_underlying ht, sizeOf, typeInfo, hi, Builtin.lenOf, Builtin.firstCells]
  · simp [Builtin.append_, run_underlying ht, sizeOf, typeInfo, hi, Builtin.lenOf, Builtin.firstCells, hnc, storeCells]
theorem run_append_sl (base : Nat) (t ty e : TypeId) (i : TypeInfo) (z : Value) (size bytes : Nat) (ht : P.underlying t = some (.slice e)) (hi : P.info? e = some i) (hz : i.zero = some z)
    (hsize : i.size = size) (hby : i.bytes = bytes) (hzs : z.cells.size = size) (hsz : 0 < size)
    (v : Value) (n : Nat) (xs : List Value) (hown : w.ownsRow base e size v n xs)
    (x : Value) (B m : Nat) (ys : List Value) (hx : Sl w B size x m ys) (h1 : ∀ u ∈ ys, u.oneCell' = true)
    (h63 : n + m ≤ maxLen) (hbytes : (n + m) * bytes ≤ 140737488355328) (hbase : base ≤ w.heap.size) :
    ∃ v' w', (Builtin.append_ #[t, t] ty #[v, x]).run P w = .ok v' w' ∧ w'.ownsRow base e size v' (n + m) (xs ++ ys) ∧ w.grownBy w' v.ownBlock := by
  obtain ⟨A, c, rfl, hmc, hcm, hl, hc⟩ := hx
  rcases A with _ | ad
  · have hm : m = 0 := by
      rcases Nat.eq_zero_or_pos m with h | h
      · exact h
      · obtain ⟨_, _, e, _⟩ := hc h
        cases e
    subst hm
    have hy : ys = [] := List.eq_nil_of_length_eq_zero (by simpa using hl)
    subst hy
    refine ⟨v, w, run_append_none_any base t ty e i size ht hi v n c xs hown, by simpa using hown, ⟨rfl, rfl, rfl, Nat.le_refl _, fun _ _ _ => rfl⟩⟩
  · obtain ⟨v', w', h2, h3, h4, -⟩ := run_append_own w base t ty e i z size bytes ht hi hz hsize hby hzs hsz v n xs hown ad m c ys hl (fun j u hu => by
      rcases Nat.eq_zero_or_pos m with h | h
      · subst h
        have hy : ys = [] := List.eq_nil_of_length_eq_zero (by simpa using hl)
        subst hy
        cases hu
      · obtain ⟨b, o, e, _, hcc⟩ := hc h
        cases e
        rw [Addr.add_lit]
        exact hcc j u hu) h1 h63 hbytes hbase
    exact ⟨v', w', h2, h3, h4⟩
theorem wpList_append_sl {ops : Array Oper} {rest : List Oper} {o : Oper} {a : Act} {Q : Exit → Act → World → Prop} (hgd : o.guard = none) (s x : Operand) (t : TypeId)
    (ho : o.op = .call { callee := .builtin .append, args := #[s, x], argTypes := #[t, t] })
    (base : Nat) (e : TypeId) (i : TypeInfo) (z : Value) (size bytes : Nat) (ht : P.underlying t = some (.slice e)) (hi : P.info? e = some i) (hz : i.zero = some z)
    (hsize : i.size = size) (hby : i.bytes = bytes) (hzs : z.cells.size = size) (hsz : 0 < size)
    (v : Value) (n : Nat) (xs : List Value) (hs : a.eval s = v) (hown : w.ownsRow base e size v n xs)
    (y : Value) (B m : Nat) (ys : List Value) (hx : a.eval x = y) (hsl : Sl w B size y m ys) (h1 : ∀ u ∈ ys, u.oneCell' = true)
    (h63 : n + m ≤ maxLen) (hbytes : (n + m) * bytes ≤ 140737488355328) (hbase : base ≤ w.heap.size)
    (h : ∀ v' w', w'.ownsRow base e size v' (n + m) (xs ++ ys) → w.grownBy w' v.ownBlock → wpList P ops Q rest (a.put o.dst v') w') : wpList P ops Q (o :: rest) a w := by
  refine wpList_plain hgd fun K hK => ?_
  obtain ⟨v', w', hr, h2, h3⟩ := run_append_sl (P := P) (w := w) base t o.type e i z size bytes ht hi hz hsize hby hzs hsz v n xs hown y B m ys hsl h1 h63 hbytes hbase
  unfold Oper.wp execOp
  simp only [ho, resolve, invoke, builtin, Sem.run_bind, Sem.run_pure, Result.andThen_ok, List.map_toArray, List.map_cons, List.map_nil, hs, hx, hr]
  exact hK _ _ (h v' w' h2 h3)
/-- .. to a full row that may be another's: it moves. -/
theorem run_append_full (t ty e : TypeId) (i : TypeInfo) (z : Value) (size bytes : Nat) (ht : P.underlying t = some (.slice e)) (hi : P.info? e = some i) (hz : i.zero = some z)
    (hsize : i.size = size) (hby : i.bytes = bytes) (hzs : z.cells.size = size) (hsz : 0 < size)
    (A : Option Addr) (B' n : Nat) (xs : List Value) (hv : Sl w B' size (.slice A n n) n xs)
    (ad : Addr) (m c : Nat) (news : List Value) (hl : news.length = m * size) (hnews : ∀ j u, news[j]? = some u → w.cell? (ad.add j) = some u) (h1 : ∀ u ∈ news, u.oneCell' = true)
    (hm : 0 < m) (h63 : n + m ≤ maxLen) (hbytes : (n + m) * bytes ≤ 140737488355328) :
    ∃ v' w', (Builtin.append_ #[t, t] ty #[.slice A n n, .slice (some ad) m c]).run P w = .ok v' w' ∧ w'.ownsRow w.heap.size e size v' (n + m) (xs ++ news) ∧ w.grownBy w' none := by
  obtain ⟨A', c', e', _, hcm, hxl, hc⟩ := hv
  cases e'
  rcases A with _ | b
  · have hn : n = 0 := by
      rcases Nat.eq_zero_or_pos n with h | h
      · exact h
      · obtain ⟨_, _, e, _⟩ := hc h
        cases e
    subst hn
    have hx : xs = [] := List.eq_nil_of_length_eq_zero (by simpa using hxl)
    subst hx
    obtain ⟨v', w', h2, h3, h4, -⟩ := run_append_own (P := P) w w.heap.size t ty e i z size bytes ht hi hz hsize hby hzs hsz (.slice none 0 0) 0 [] (World.ownsRow_nil _ _ _ _) ad m c news hl hnews h1 h63 hbytes (Nat.le_refl _)
    exact ⟨v', w', h2, h3, h4⟩
  · subst hsize
    subst hby
    have hlen : (xs ++ news).length = (n + m) * i.size := by rw [List.length_append, hxl, hl, Nat.add_mul]
    have hsmall : n + m ≤ 9223372036854775807 := by simp only [maxLen] at h63; omega
    have hr := run_append_grow (P := P) w t ty e i z ht hi hz b n n xs hxl (fun j u hu => by
      rcases Nat.eq_zero_or_pos n with h | h
      · subst h
        have hx : xs = [] := List.eq_nil_of_length_eq_zero (by simpa using hxl)
        subst hx
        cases hu
      · obtain ⟨b', o, e, _, hcc⟩ := hc h
        cases e
        rw [Addr.add_lit]
        exact hcc j u hu) ad m c news hl hnews (by omega) (by omega) (growslice_fits (by omega) hbytes)
    have hge := grownCap_ge w (n + m) n e
    have hcm : grownCap w (n + m) n e ≤ maxLen := grownCap_le_maxLen w (n + m) n e h63
    refine ⟨_, _, hr, ⟨hlen, .inr ⟨w.heap.size, _, _, rfl, Nat.le_refl _, heap_alloc_new w.drew _, hge, hcm, ?_, ?_⟩⟩, ⟨rfl, rfl, rfl, by simp, fun k hk _ => heap_alloc_old w.drew _ hk⟩⟩
    · simp only [Array.size_append, List.size_toArray, size_zeroCells, hzs, hxl, hl, ← Nat.add_mul]
      congr 1
      omega
    · simp only [Array.toList_append, List.append_assoc]
      rw [← List.append_assoc, ← hlen]
      exact List.take_left
theorem wpList_append_full {ops : Array Oper} {rest : List Oper} {o : Oper} {a : Act} {Q : Exit → Act → World → Prop} (hgd : o.guard = none) (s x : Operand) (t : TypeId)
    (ho : o.op = .call { callee := .builtin .append, args := #[s, x], argTypes := #[t, t] })
    (e : TypeId) (i : TypeInfo) (z : Value) (size bytes : Nat) (ht : P.underlying t = some (.slice e)) (hi : P.info? e = some i) (hz : i.zero = some z)
    (hsize : i.size = size) (hby : i.bytes = bytes) (hzs : z.cells.size = size) (hsz : 0 < size)
    (A : Option Addr) (B' n : Nat) (xs : List Value) (hs : a.eval s = .slice A n n) (hv : Sl w B' size (.slice A n n) n xs)
    (ad : Addr) (m c : Nat) (news : List Value) (hx : a.eval x = .slice (some ad) m c) (hl : news.length = m * size) (hnews : ∀ j u, news[j]? = some u → w.cell? (ad.add j) = some u) (h1 : ∀ u ∈ news, u.oneCell' = true)
    (hm : 0 < m) (h63 : n + m ≤ maxLen) (hbytes : (n + m) * bytes ≤ 140737488355328)
    (h : ∀ v' w', w'.ownsRow w.heap.size e size v' (n + m) (xs ++ news) → w.grownBy w' none → wpList P ops Q rest (a.put o.dst v') w') : wpList P ops Q (o :: rest) a w := by
  refine wpList_plain hgd fun K hK => ?_
  obtain ⟨v', w', hr, h2, h3⟩ := run_append_full (P := P) (w := w) t o.type e i z size bytes ht hi hz hsize hby hzs hsz A B' n xs hv ad m c news hl hnews h1 hm h63 hbytes
  unfold Oper.wp execOp
  simp only [ho, resolve, invoke, builtin, Sem.run_bind, Sem.run_pure, Result.andThen_ok, List.map_toArray, List.map_cons, List.map_nil, hs, hx, hr]
  exact hK _ _ (h v' w' h2 h3)
end
end Go.Proofs.YtonmmgcibpjahaaGreatDoor
end

section
/- TCut: Layer 14's Cut, walked. -/
namespace Go.Proofs.YtonmmgcibpjahaaGreatDoor
open Go Go.RowKit Go.Shelf
set_option maxRecDepth 100000

theorem info_parts {P : Program} {t : TypeId} {z : Value} {a b : Nat} (h : (P.info? t).map (fun i => (i.zero, i.size, i.bytes)) = some (some z, a, b)) : ∃ i, P.info? t = some i ∧ i.zero = some z ∧ i.size = a ∧ i.bytes = b := by
  cases hi : P.info? t with
  | none => rw [hi] at h; simp at h
  | some i =>
    rw [hi] at h
    simp only [Option.map_some, Option.some.injEq, Prod.mk.injEq] at h
    exact ⟨i, rfl, h.1, h.2.1, h.2.2⟩
theorem infoChg : (Tryz.prog.info? 90).map (fun i => (i.zero, i.size, i.bytes)) = some (some (.agg #[.int .i64 0, .int .i64 0, .bool false, .string ⟨#[]⟩]), 4, 40) := by kernel_rfl
theorem chgsV_one (l : List Chg) : ∀ u ∈ chgsV l, u.oneCell' = true := by
  intro u hu
  unfold chgsV at hu
  obtain ⟨c, -, hc⟩ := List.mem_flatMap.1 hu
  simp [chgV] at hc
  rcases hc with rfl | rfl | rfl | rfl <;> rfl
theorem cell_new2 (w : World) (o : Obj) (C : Array Value) (t : TypeId) (fr : Nat × Nat) (i : Nat) : ((w.alloc o).alloc (.cells C t fr)).cell? ⟨w.heap.size + 1, i, none⟩ = C[i]? := by
  have := cell_new (w.alloc o) C t fr i
  rwa [World.size_alloc] at this
/-- A row of the call's own is as it was behind a call that makes memory. -/
theorem ownsRow_below {w W : World} {base : Nat} {e : TypeId} {sz n : Nat} {v : Value} {xs : List Value} (h : w.ownsRow base e sz v n xs) (hb : Below w.heap.size w W) : W.ownsRow base e sz v n xs := (Fr.of_below (T := fun _ => False) hb (Nat.le_refl _)).own h (fun _ _ h => h)
/-- Changes in memory that a call has made. -/
def ChgPost (w : World) (l : List Chg) (e : Ending) (w' : World) : Prop := ∃ v, e = .returned v ∧ Chgs w' w'.heap.size v l ∧ Below w.heap.size w w'
set_option maxHeartbeats 1000000 in
theorem clone_any (w : World) (B : Nat) (v : Value) (l : List Chg) (hv : Chgs w B v l) (hB : B ≤ w.heap.size) (hl : l.length ≤ 1000) :
    Calls Tryz.prog 66 #[v] w (ChgPost w l) := by
  obtain ⟨i0, hi, hz0, hz1, hz2⟩ := info_parts infoChg
  have q22 : ∀ (w : World) (a : Option Addr) (n c n' c' : Nat), (binOp .eql 85 (.slice a n c) (.slice none n' c')).run Tryz.prog w = .ok (.bool a.isNone) w := fun w a n c n' c' => Lib.run_eql_slice_nil w _ _ a n c n' c' Tryz.underlying85
  obtain ⟨A, c, rfl, hlc, hcm⟩ := hv.form
  have HV := Lib.hid hv
  rcases A with _ | ad
  · have h0 : l = [] := by
      rcases Nat.eq_zero_or_pos l.length with h | h
      · exact List.eq_nil_of_length_eq_zero h
      · obtain ⟨b, o, c', e, -, -⟩ := hv.cells h
        cases e
    subst h0
    clear hv
    go_enter Tryz.func66, Tryz.ntmps66
    go_wp2_with fail
    go_ret
    exact ⟨_, rfl, Sl.nil _ _ _, Below.refl _ _⟩
  · clear hv
    unfold maxLen at hcm
    go_enter Tryz.func66, Tryz.ntmps66
    go_wp2_with (at_builtin; refine wpList_append_sl rfl _ _ 85 rfl w.heap.size 90 i0 (.agg #[.int .i64 0, .int .i64 0, .bool false, .string ⟨#[]⟩]) 4 40 Tryz.underlying85 hi hz0 hz1 hz2 rfl (by decide) _ 0 [] rfl (World.ownsRow_made w #[] 0 (Nat.le_refl _) (Nat.zero_le _) (by simp)) (.slice (some ad) l.length c) B l.length (chgsV l) rfl (Sl.alloc HV.out hB _) (chgsV_one l) (by unfold maxLen; omega) (by omega) (by simp) ?_; intro v' w1 hown hgrow)
    go_ret
    refine ⟨v', rfl, ?_, ((Below.refl _ w).alloc (Nat.le_refl _) _).grown hgrow (by simp) (fun g hg => ((World.ownsRow_made (base := w.heap.size) (e := 90) (size := 4) w #[] 0 (Nat.le_refl _) (Nat.zero_le _) (by simp)).lt g hg).1)⟩
    rw [Nat.zero_add, List.nil_append] at hown
    exact Sl.of_own hown
theorem chgs_cut {W : World} {B : Nat} {A : Option Addr} {c : Nat} {l : List Chg} (h : Chgs W B (.slice A l.length c) l) {n k : Nat} (h1 : n ≤ k) (h2 : k ≤ l.length) :
    Chgs W B (.slice (if c = n then A else A.map (·.add (n * 4))) (k - n) (c - n)) ((l.drop n).take (k - n)) := by
  obtain ⟨A', c', hv, g1, g2, -, hc⟩ := h
  injection hv with ha _ hcc
  subst ha; subst hcc
  have hlen : ((l.drop n).take (k - n)).length = k - n := by simp; omega
  have hcv : (chgsV ((l.drop n).take (k - n))).length = (k - n) * 4 := by rw [length_chgsV, hlen]
  unfold Chgs
  rw [hlen]
  refine ⟨_, _, rfl, by omega, by omega, hcv, fun hp => ?_⟩
  obtain ⟨b, o, rfl, hb, hc⟩ := hc (by omega)
  rw [if_neg (by omega)]
  refine ⟨b, o + n * 4, by simp [Addr.add_lit], hb, fun j u hu => ?_⟩
  have hj : j < (k - n) * 4 := by
    rw [← hcv]
    exact (List.getElem?_eq_some_iff.1 hu).1
  have e : l = l.take n ++ ((l.drop n).take (k - n) ++ (l.drop n).drop (k - n)) := by rw [List.take_append_drop, List.take_append_drop]
  have e2 : (chgsV l)[n * 4 + j]? = some u := by
    rw [e, chgsV_append, chgsV_append, List.getElem?_append_right (by rw [length_chgsV, List.length_take, Nat.min_eq_left (by omega)]; omega), length_chgsV, List.length_take, Nat.min_eq_left (by omega), Nat.add_sub_cancel_left, List.getElem?_append_left (by rw [hcv]; exact hj)]
    exact hu
  rw [Nat.add_assoc]
  exact hc _ u e2
/-- What is cut out of changes. -/
def cutL (l : List Chg) (a b : Int) : List Chg := (if bh l a = 0 then [] else [⟨a, (l.getD (bh l a - 1) .zero).loc⟩]) ++ (l.drop (bh l a)).take (max (bh l a) (bh l b) - bh l a)
set_option maxHeartbeats 2000000 in
theorem cut_any (w : World) (B : Nat) (v : Value) (l : List Chg) (a b : Int) (hv : Chgs w B v l) (hB : B ≤ w.heap.size) (hl : l.length ≤ 61) (hr : Rising l) :
    Calls Tryz.prog 43 #[v, .int .i64 a, .int .i64 b] w (ChgPost w (cutL l a b)) := by
  obtain ⟨i0, hi, hz0, hz1, hz2⟩ := info_parts infoChg
  have HAT := Lib.hid (tat_any w B v l a hv hB hl hr)
  have HBH := Lib.hid (fun (W : World) (i : Int) (hb : Below w.heap.size w W) => behind_any W B v l i (hv.below (hb.mono hB)) (Nat.le_trans hB hb.size) hl hr)
  have hla := bh_le l a
  have hlb := bh_le l b
  obtain ⟨A, c, rfl, hlc, hcm⟩ := hv.form
  have HV := Lib.hid hv
  unfold maxLen at hcm
  clear hv
  obtain ⟨n, hn⟩ : ∃ n, bh l a = n := ⟨_, rfl⟩
  obtain ⟨m, hm⟩ : ∃ m, bh l b = m := ⟨_, rfl⟩
  rw [hn] at hla
  rw [hm] at hlb
  have HN := Lib.hid hn
  have HM := Lib.hid hm
  have HBA := Lib.hid (fun W hb => by have := HBH.out W a hb; rw [HN.out] at this; exact this)
  have HBB := Lib.hid (fun W hb => by have := HBH.out W b hb; rw [HM.out] at this; exact this)
  obtain ⟨k, hk⟩ : ∃ k, max n m = k := ⟨_, rfl⟩
  have hkn : n ≤ k := by omega
  have hkl : k ≤ l.length := by omega
  have hkc : k ≤ c := by omega
  have HK := Lib.hid hk
  obtain ⟨X, hX⟩ : ∃ X, (l.drop n).take (k - n) = X := ⟨_, rfl⟩
  have HX := Lib.hid hX
  have hX61 : X.length ≤ 61 := by rw [← hX]; simp; omega
  have HCUT := Lib.hid (show cutL l a b = (if n = 0 then [] else [⟨a, (l.getD (n - 1) .zero).loc⟩]) ++ X by unfold cutL; rw [HN.out, HM.out, HK.out, HX.out])
  have hmx : max (n : Int) (m : Int) = (k : Int) := by omega
  clear hn hm hk HBH hX
  by_cases h0 : n = 0
  · have HA := Lib.hid (show atV l a = (.zero, 16) by unfold atV; rw [HN.out, if_pos h0])
    rw [HA.out] at HAT
    have H0 := Lib.hid h0
    clear h0
    unfold locA Loc.zero at HAT
    go_enter Tryz.func43, Tryz.ntmps43
    go_wp2_with fail
    refine HAT.out.mono ?_
    rintro o w1 ⟨rfl, hb1⟩
    have hb2 := hb1.alloc hb1.size (.cells #[.int .i64 0, .bool false, .string ⟨#[]⟩] 41)
    have HB2 := Lib.hid hb2
    clear hb1 hb2 HAT
    go_wp2_with fail
    refine (HBA.out _ HB2.out).mono ?_
    rintro o w3 ⟨rfl, hb⟩
    have HB3 := Lib.hid (HB2.out.trans (hb.mono HB2.out.size))
    clear hb HB2
    go_wp2_with fail
    refine (HBA.out _ HB3.out).mono ?_
    rintro o w4 ⟨rfl, hb⟩
    have HB4 := Lib.hid (HB3.out.trans (hb.mono HB3.out.size))
    clear hb HB3
    go_wp2_with fail
    refine (HBB.out _ HB4.out).mono ?_
    rintro o w5 ⟨rfl, hb⟩
    have HB5 := Lib.hid (HB4.out.trans (hb.mono HB4.out.size))
    clear hb HB4
    have hs5 := HB5.out.size
    by_cases hcn : c = n
    · have HS := Lib.hid (show Chgs w B (.slice A 0 0) X by
        have := chgs_cut HV.out hkn hkl
        rwa [HX.out, if_pos hcn, show c - n = 0 by omega, show k - n = 0 by omega] at this)
      subst hcn
      go_wp2_with fail
      refine (clone_any _ B _ _ (HS.out.below (HB5.out.mono hB)) (by omega) (by omega)).mono ?_
      rintro o w6 ⟨v6, rfl, hv6, hb6⟩
      have HB6 := Lib.hid (HB5.out.trans (hb6.mono HB5.out.size))
      have HV6 := Lib.hid hv6
      have hs6 := HB6.out.size
      clear hb6 hv6
      go_wp2_with (at_builtin; refine wpList_append_sl rfl _ _ 85 rfl w.heap.size 90 i0 (.agg #[.int .i64 0, .int .i64 0, .bool false, .string ⟨#[]⟩]) 4 40 Tryz.underlying85 hi hz0 hz1 hz2 rfl (by decide) (.slice none 0 0) 0 [] rfl (World.ownsRow_nil _ _ _ _) v6 w6.heap.size _ _ rfl HV6.out (chgsV_one _) (by unfold maxLen; omega) (by omega) hs6 ?_; intro v7 w7 hown hgrow)
      go_ret
      refine ⟨v7, rfl, ?_, HB6.out.grown hgrow hs6 (fun g e => (((World.ownsRow_nil w6 w.heap.size 90 4)).lt g e).1)⟩
      rw [HCUT.out, if_pos H0.out, List.nil_append]
      have := Sl.of_own hown
      unfold Chgs
      rw [Nat.zero_add, List.nil_append] at this
      exact this
    · have HS := Lib.hid (show Chgs w B (.slice (A.map (·.add (n * 4))) (k - n) (c - n)) X by
        have := chgs_cut HV.out hkn hkl
        rwa [HX.out, if_neg hcn] at this)
      go_wp2_with fail
      refine (clone_any _ B _ _ (HS.out.below (HB5.out.mono hB)) (by omega) (by omega)).mono ?_
      rintro o w6 ⟨v6, rfl, hv6, hb6⟩
      have HB6 := Lib.hid (HB5.out.trans (hb6.mono HB5.out.size))
      have HV6 := Lib.hid hv6
      have hs6 := HB6.out.size
      clear hb6 hv6
      go_wp2_with (at_builtin; refine wpList_append_sl rfl _ _ 85 rfl w.heap.size 90 i0 (.agg #[.int .i64 0, .int .i64 0, .bool false, .string ⟨#[]⟩]) 4 40 Tryz.underlying85 hi hz0 hz1 hz2 rfl (by decide) (.slice none 0 0) 0 [] rfl (World.ownsRow_nil _ _ _ _) v6 w6.heap.size _ _ rfl HV6.out (chgsV_one _) (by unfold maxLen; omega) (by omega) hs6 ?_; intro v7 w7 hown hgrow)
      go_ret
      refine ⟨v7, rfl, ?_, HB6.out.grown hgrow hs6 (fun g e => (((World.ownsRow_nil w6 w.heap.size 90 4)).lt g e).1)⟩
      rw [HCUT.out, if_pos H0.out, List.nil_append]
      have := Sl.of_own hown
      unfold Chgs
      rw [Nat.zero_add, List.nil_append] at this
      exact this
  · obtain ⟨j, hj⟩ : ∃ j, n = j + 1 := ⟨n - 1, by omega⟩
    have hjl : j < l.length := by omega
    have hj1 : n - 1 = j := by omega
    have hA := show atV l a = ((l[j]).loc, 0) by unfold atV; rw [HN.out, if_neg h0, hj1, getD_at hjl]
    have hcut2 := HCUT.out
    rw [if_neg h0, hj1, getD_at hjl] at hcut2
    clear hj hj1
    rw [hA] at HAT
    clear HCUT hA
    obtain ⟨x, hx⟩ : ∃ x, (l[j]).loc = x := ⟨_, rfl⟩
    rw [hx] at HAT hcut2
    have HCUT := Lib.hid hcut2
    clear hx hcut2 h0
    unfold locA at HAT
    go_enter Tryz.func43, Tryz.ntmps43
    go_wp2_with fail
    refine HAT.out.mono ?_
    rintro o w1 ⟨rfl, hb1⟩
    have hb2 := hb1.alloc hb1.size (.cells #[.int .i64 x.off, .bool x.dst, .string x.abbr] 41)
    have HB2 := Lib.hid hb2
    have hs1 := hb1.size
    clear hb1 hb2 HAT
    go_wp2_with (at_builtin; refine wpList_append_own _ rfl _ _ 85 rfl w.heap.size 90 i0 (.agg #[.int .i64 0, .int .i64 0, .bool false, .string ⟨#[]⟩]) 4 40 Tryz.underlying85 hi hz0 hz1 hz2 rfl (by decide) (.slice none 0 0) 0 [] rfl (World.ownsRow_nil _ _ _ _) ⟨w1.heap.size + 1, 0, none⟩ 1 1 (chgV ⟨a, x⟩) rfl rfl (fun j y hy => by rw [Addr.add_lit, Nat.zero_add, cell_new2]; simpa [chgV] using hy) (by simp [chgV, Value.oneCell']) (by unfold maxLen; omega) (by omega) (by simp; omega) ?_; intro v2 w2 hown2 hgrow2 hnil2)
    have hB3 : Below w.heap.size w w2 := ((HB2.out.alloc HB2.out.size _)).grown hgrow2 (by simp; omega) (fun g e => by simp [Value.ownBlock] at e)
    have HB3 := Lib.hid hB3
    clear HB2 hB3 hgrow2 hnil2
    refine (HBA.out _ HB3.out).mono ?_
    rintro o w4 ⟨rfl, hb⟩
    have HB4 := Lib.hid (HB3.out.trans (hb.mono HB3.out.size))
    have hown4 := ownsRow_below hown2 hb
    clear hb
    go_wp2_with fail
    refine (HBA.out _ HB4.out).mono ?_
    rintro o w4b ⟨rfl, hb⟩
    have HB4b := Lib.hid (HB4.out.trans (hb.mono HB4.out.size))
    have hown4b := ownsRow_below hown4 hb
    clear hb
    go_wp2_with fail
    refine (HBB.out _ HB4b.out).mono ?_
    rintro o w5 ⟨rfl, hb⟩
    have HB5 := Lib.hid (HB4b.out.trans (hb.mono HB4b.out.size))
    have HOW := Lib.hid (ownsRow_below hown4b hb)
    clear hb hown2 hown4 hown4b HB3 HB4 HB4b
    have hs5 := HB5.out.size
    by_cases hcn : c = n
    · have HS := Lib.hid (show Chgs w B (.slice A 0 0) X by
        have := chgs_cut HV.out hkn hkl
        rwa [HX.out, if_pos hcn, show c - n = 0 by omega, show k - n = 0 by omega] at this)
      subst hcn
      go_wp2_with fail
      refine (clone_any _ B _ _ (HS.out.below (HB5.out.mono hB)) (by omega) (by omega)).mono ?_
      rintro o w6 ⟨v6, rfl, hv6, hb6⟩
      have HB6 := Lib.hid (HB5.out.trans (hb6.mono HB5.out.size))
      have HV6 := Lib.hid hv6
      have hs6 := HB6.out.size
      have HOW6 := Lib.hid (ownsRow_below HOW.out hb6)
      clear hb6 hv6
      go_wp2_with (at_builtin; refine wpList_append_sl rfl _ _ 85 rfl w.heap.size 90 i0 (.agg #[.int .i64 0, .int .i64 0, .bool false, .string ⟨#[]⟩]) 4 40 Tryz.underlying85 hi hz0 hz1 hz2 rfl (by decide) v2 (0 + 1) ([] ++ chgV ⟨a, x⟩) rfl HOW6.out v6 w6.heap.size _ _ rfl HV6.out (chgsV_one _) (by unfold maxLen; omega) (by omega) hs6 ?_; intro v7 w7 hown hgrow)
      go_ret
      refine ⟨v7, rfl, ?_, HB6.out.grown hgrow hs6 (fun g e => (HOW6.out.lt g e).1)⟩
      rw [HCUT.out]
      have := Sl.of_own hown
      unfold Chgs
      rw [show (([⟨a, x⟩] : List Chg) ++ X).length = 0 + 1 + X.length by simp; omega]
      exact this
    · have HS := Lib.hid (show Chgs w B (.slice (A.map (·.add (n * 4))) (k - n) (c - n)) X by
        have := chgs_cut HV.out hkn hkl
        rwa [HX.out, if_neg hcn] at this)
      go_wp2_with fail
      refine (clone_any _ B _ _ (HS.out.below (HB5.out.mono hB)) (by omega) (by omega)).mono ?_
      rintro o w6 ⟨v6, rfl, hv6, hb6⟩
      have HB6 := Lib.hid (HB5.out.trans (hb6.mono HB5.out.size))
      have HV6 := Lib.hid hv6
      have hs6 := HB6.out.size
      have HOW6 := Lib.hid (ownsRow_below HOW.out hb6)
      clear hb6 hv6
      go_wp2_with (at_builtin; refine wpList_append_sl rfl _ _ 85 rfl w.heap.size 90 i0 (.agg #[.int .i64 0, .int .i64 0, .bool false, .string ⟨#[]⟩]) 4 40 Tryz.underlying85 hi hz0 hz1 hz2 rfl (by decide) v2 (0 + 1) ([] ++ chgV ⟨a, x⟩) rfl HOW6.out v6 w6.heap.size _ _ rfl HV6.out (chgsV_one _) (by unfold maxLen; omega) (by omega) hs6 ?_; intro v7 w7 hown hgrow)
      go_ret
      refine ⟨v7, rfl, ?_, HB6.out.grown hgrow hs6 (fun g e => (HOW6.out.lt g e).1)⟩
      rw [HCUT.out]
      have := Sl.of_own hown
      unfold Chgs
      rw [show (([⟨a, x⟩] : List Chg) ++ X).length = 0 + 1 + X.length by simp; omega]
      exact this
end Go.Proofs.YtonmmgcibpjahaaGreatDoor
end

section
/- TCutMath: What is cut out of changes: plain. -/
namespace Go.Proofs.YtonmmgcibpjahaaGreatDoor

theorem bh_eq {c : List Chg} (hr : Rising c) {i : Int} {t : Nat} (ht : t ≤ c.length) (h1 : ∀ k (h : k < c.length), k < t → (c[k]).at_ ≤ i) (h2 : ∀ k (h : k < c.length), t ≤ k → i < (c[k]).at_) : bh c i = t := by
  have hle := bh_le c i
  rcases Nat.lt_trichotomy (bh c i) t with h | h | h
  · have hl : bh c i < c.length := by omega
    have := (bh_iff hr i hl).2 (h1 _ hl h)
    omega
  · exact h
  · have hl : t < c.length := by omega
    have h3 := (bh_iff hr i hl).1 h
    have h4 := h2 t hl (Nat.le_refl _)
    omega
theorem bh_mono {l : List Chg} (hr : Rising l) {a b : Int} (h : a ≤ b) : bh l a ≤ bh l b := by
  have hla := bh_le l a
  rcases Nat.lt_or_ge (bh l b) (bh l a) with h1 | h1
  · have hl : bh l b < l.length := by omega
    have h2 := (bh_iff hr a hl).1 h1
    have h3 := (bh_iff hr b hl).2 (by omega)
    omega
  · exact h1
/-- The cut, in parts. -/
structure CutOf (l : List Chg) (a b : Int) (n m : Nat) (hd : List Chg) : Prop where
  en : bh l a = n
  em : bh l b = m
  nm : n ≤ m
  ml : m ≤ l.length
  cut : cutL l a b = hd ++ (l.drop n).take (m - n)
  hd0 : n = 0 → hd = []
  hd1 : (h : 0 < n) → hd = [⟨a, (l[n - 1]'(by omega)).loc⟩]
theorem cut_of {l : List Chg} (hr : Rising l) {a b : Int} (h : a ≤ b) : ∃ n m hd, CutOf l a b n m hd := by
  have hab := bh_mono hr h
  have hlb := bh_le l b
  refine ⟨bh l a, bh l b, if bh l a = 0 then [] else [⟨a, (l.getD (bh l a - 1) .zero).loc⟩], rfl, rfl, hab, hlb, ?_, ?_, ?_⟩
  · unfold cutL
    rw [Nat.max_eq_right hab]
  · intro h0; rw [if_pos h0]
  · intro h0
    rw [if_neg (by omega), getD_at (by omega)]
section
variable {l : List Chg} {a b : Int} {n m : Nat} {hd : List Chg}
theorem CutOf.len (h : CutOf l a b n m hd) : (cutL l a b).length = hd.length + (m - n) := by
  have := h.ml
  rw [h.cut, List.length_append, List.length_take, List.length_drop]
  omega
theorem CutOf.hlen (h : CutOf l a b n m hd) : hd.length = if n = 0 then 0 else 1 := by
  by_cases h0 : n = 0
  · rw [if_pos h0, h.hd0 h0]; rfl
  · rw [if_neg h0, h.hd1 (by omega)]; rfl
theorem CutOf.get (h : CutOf l a b n m hd) {j : Nat} (hj : j < m - n) : (cutL l a b)[hd.length + j]'(by rw [h.len]; omega) = l[n + j]'(by have := h.ml; omega) := by
  simp only [h.cut]
  rw [List.getElem_append_right (by omega)]
  simp
theorem CutOf.get0 (h : CutOf l a b n m hd) (h0 : 0 < n) : (cutL l a b)[0]'(by rw [h.len, h.hlen, if_neg (by omega)]; omega) = ⟨a, (l[n - 1]'(by have := h.nm; have := h.ml; omega)).loc⟩ := by
  simp only [h.cut, h.hd1 h0]
  rfl
theorem CutOf.rising (h : CutOf l a b n m hd) (hr : Rising l) : Rising (cutL l a b) := by
  intro i hi
  have hlen := h.len
  have hh := h.hlen
  have hml := h.ml
  by_cases h0 : n = 0
  · rw [if_pos h0] at hh
    have e0 := h.get (j := i) (by omega)
    have e1 := h.get (j := i + 1) (by omega)
    simp only [hh, Nat.zero_add] at e0 e1
    rw [e0, e1]
    exact hr (n + i) (by omega)
  · rw [if_neg h0] at hh
    rcases i with _ | i
    · have e0 := h.get0 (by omega)
      have e1 := h.get (j := 0) (by omega)
      simp only [hh, Nat.add_zero] at e1
      rw [e0]
      simp only [Nat.zero_add]
      rw [e1]
      have hnl : n < l.length := by omega
      have := (bh_iff hr a hnl)
      rw [h.en] at this
      have h3 : ¬ (l[n]).at_ ≤ a := fun h => by have := this.2 h; omega
      show a < _
      omega
    · have e0 := h.get (j := i) (by omega)
      have e1 := h.get (j := i + 1) (by omega)
      simp only [hh, show 1 + i = i + 1 by omega, show 1 + (i + 1) = i + 1 + 1 by omega] at e0 e1
      rw [e0, e1]
      exact hr (n + i) (by omega)
theorem CutOf.bhC (h : CutOf l a b n m hd) (hr : Rising l) {i : Int} (h1 : a ≤ i) (h2 : i ≤ b) : n ≤ bh l i ∧ bh l i ≤ m ∧ bh (cutL l a b) i = hd.length + (bh l i - n) := by
  have g1 := bh_mono hr h1
  have g2 := bh_mono hr h2
  rw [h.en] at g1
  rw [h.em] at g2
  refine ⟨g1, g2, ?_⟩
  have hlen := h.len
  have hh := h.hlen
  have hml := h.ml
  refine bh_eq (h.rising hr) (by omega) (fun k hk hkt => ?_) (fun k hk hkt => ?_)
  · rcases Nat.lt_or_ge k hd.length with h3 | h3
    · have h0 : ¬ n = 0 := fun e => by rw [if_pos e] at hh; omega
      rw [if_neg h0] at hh
      obtain rfl : k = 0 := by omega
      rw [h.get0 (by omega)]
      exact h1
    · obtain ⟨j, rfl⟩ : ∃ j, k = hd.length + j := ⟨k - hd.length, by omega⟩
      rw [h.get (by omega)]
      exact (bh_iff hr i (by omega)).1 (by omega)
  · obtain ⟨j, rfl⟩ : ∃ j, k = hd.length + j := ⟨k - hd.length, by omega⟩
    rw [h.get (by omega)]
    have hl : n + j < l.length := by omega
    have := bh_iff hr i hl
    refine Int.lt_of_not_ge fun h4 => ?_
    have := this.2 h4
    omega
theorem CutOf.atC (h : CutOf l a b n m hd) (hr : Rising l) {i : Int} (h1 : a ≤ i) (h2 : i ≤ b) : atV (cutL l a b) i = atV l i := by
  obtain ⟨g1, g2, g3⟩ := h.bhC hr h1 h2
  have hlen := h.len
  have hh := h.hlen
  have hml := h.ml
  unfold atV
  rw [g3]
  generalize hp : bh l i = p at *
  by_cases h0 : n = 0
  · rw [if_pos h0] at hh
    subst h0
    rw [hh, Nat.zero_add, Nat.sub_zero]
    by_cases hp0 : p = 0
    · rw [if_pos hp0, if_pos hp0]
    · rw [if_neg hp0, if_neg hp0, getD_at (show p - 1 < (cutL l a b).length by omega), getD_at (show p - 1 < l.length by omega)]
      have := h.get (j := p - 1) (by omega)
      simp only [hh, Nat.zero_add] at this
      rw [this]
  · rw [if_neg h0] at hh
    rw [hh, if_neg (by omega), if_neg (by omega), getD_at (show 1 + (p - n) - 1 < (cutL l a b).length by omega), getD_at (show p - 1 < l.length by omega)]
    by_cases hpn : p = n
    · subst hpn
      simp only [Nat.sub_self, Nat.add_zero, Nat.sub_self]
      rw [h.get0 (by omega)]
    · have := h.get (j := p - n - 1) (by omega)
      simp only [hh, show 1 + (p - n - 1) = 1 + (p - n) - 1 by omega, show n + (p - n - 1) = p - 1 by omega] at this
      rw [this]
/-- Two cuts are one. -/
theorem CutOf.cuts (h : CutOf l a b n m hd) (hr : Rising l) {a' b' : Int} (h1 : a ≤ a') (h2 : a' ≤ b') (h3 : b' ≤ b) : cutL (cutL l a b) a' b' = cutL l a' b' := by
  obtain ⟨g1, g2, g3⟩ := h.bhC hr h1 (Int.le_trans h2 h3)
  obtain ⟨k1, k2, k3⟩ := h.bhC hr (Int.le_trans h1 h2) h3
  have hat := h.atC hr h1 (Int.le_trans h2 h3)
  have hm := bh_mono hr h2
  have hh := h.hlen
  have hml := h.ml
  have e1 : ∀ c : List Chg, (if bh c a' = 0 then ([] : List Chg) else [⟨a', (c.getD (bh c a' - 1) .zero).loc⟩]) = if (atV c a').2 = 0 then [⟨a', (atV c a').1⟩] else [] := by
    intro c
    unfold atV
    by_cases h0 : bh c a' = 0
    · rw [if_pos h0, if_pos h0]; rfl
    · rw [if_neg h0, if_neg h0]; rfl
  unfold cutL
  rw [e1, e1]
  unfold cutL at hat
  rw [hat]
  congr 1
  have hc := h.cut
  unfold cutL at hc g3 k3
  rw [g3, k3, hc]
  rw [show max (hd.length + (bh l a' - n)) (hd.length + (bh l b' - n)) - (hd.length + (bh l a' - n)) = bh l b' - bh l a' by omega, show max (bh l a') (bh l b') - bh l a' = bh l b' - bh l a' by omega]
  rw [List.drop_append, List.drop_of_length_le (by omega), List.nil_append, Nat.add_sub_cancel_left, List.drop_take, List.drop_drop, List.take_take]
  rw [show n + (bh l a' - n) = bh l a' by omega, Nat.min_eq_left (by omega)]
end
theorem cut_len {l : List Chg} (hr : Rising l) {a b : Int} (h : a ≤ b) : (cutL l a b).length ≤ l.length := by
  obtain ⟨n, m, hd, hc⟩ := cut_of hr h
  have h1 := hc.len
  have h2 := hc.hlen
  have h3 := hc.ml
  have h4 := hc.nm
  split at h2 <;> omega
end Go.Proofs.YtonmmgcibpjahaaGreatDoor
end

section
/- TFindMath: The last change that is not behind an instant, by the reference; what TableFinds asks for. -/
namespace Go.Proofs.YtonmmgcibpjahaaGreatDoor
open Go Go.RowKit
set_option maxRecDepth 100000

set_option maxHeartbeats 1000000 in
theorem last_any (w : World) (B : Nat) (v : Value) (l : List Chg) (i : Int) (hv : Chgs w B v l) (hr : Rising l) :
    Calls Tryz.prog 42 #[v, .int .i64 i] w fun e w' => e = .returned (.int .i64 ((bh l i : Nat) - 1)) ∧ w' = w := by
  obtain ⟨A, c, rfl, hlc, hcm⟩ := hv.form
  unfold maxLen at hcm
  have HV := Lib.hid hv
  have HI := Lib.hid (fun (k : Nat) (hk : k < l.length) => bh_iff hr i hk)
  have hle := bh_le l i
  obtain ⟨n, hn⟩ : ∃ n, bh l i = n := ⟨_, rfl⟩
  rw [hn] at HI hle ⊢
  clear hv hn
  go_enter Tryz.func42, Tryz.ntmps42
  go_wp2_with fail
  go_loopw [5, 6] (fun u j wr => ∃ k : Nat, k ≤ l.length ∧ j = .int .i64 k ∧ u = .int .i64 ((min k n : Nat) - 1) ∧ wr = w) (fun _ j _ => l.length - (intOf j).toNat)
  case atStart => exact ⟨0, by omega, rfl, by rw [Nat.zero_min]; rfl, rfl⟩
  case round =>
    obtain ⟨k, hk, rfl, rfl, rfl⟩ := hrel
    by_cases hlt : k < l.length
    · obtain ⟨b, o, c', e, -, hc⟩ := HV.out.cells (by omega)
      cases e
      have c0 := (hc k hlt).1
      have HK := Lib.hid (HI.out k hlt)
      clear hc
      generalize (l[k]).at_ = z at *
      by_cases hz : z ≤ i
      · have HN := Lib.hid (show ((min (k + 1) n : Nat) : Int) - 1 = k by have := HK.out.2 hz; omega)
        go_wp2_with fail
        go_roundw
        case rel => exact ⟨k + 1, by omega, by go_num, by rw [HN.out], by first | rfl | trivial⟩
        case measure => first | (simp [intOf]; done) | (simp [intOf]; omega)
      · have HN := Lib.hid (show min (k + 1) n = min k n by have := HK.out; omega)
        go_wp2_with fail
        go_roundw
        case rel => exact ⟨k + 1, by omega, by go_num, by rw [HN.out], by first | rfl | trivial⟩
        case measure => first | (simp [intOf]; done) | (simp [intOf]; omega)
    · have HN := Lib.hid (show min k n = n by omega)
      go_wp2_with fail
      rw [HN.out]
      go_ret
      exact ⟨rfl, rfl⟩
/-- The head of what is asked for. -/
def wantH (l : List Chg) (a : Int) : List Chg := if bh l a = 0 then [] else [⟨a, (l.getD (bh l a - 1) .zero).loc⟩]
/-- What is asked for, as far as the k-th change. -/
def wantL (l : List Chg) (a b : Int) (k : Nat) : List Chg := wantH l a ++ (l.drop (bh l a)).take (min k (max (bh l a) (bh l b)) - bh l a)
theorem wantH_len (l : List Chg) (a : Int) : (wantH l a).length = if bh l a = 0 then 0 else 1 := by
  unfold wantH
  split <;> rfl
theorem want_zero (l : List Chg) (a b : Int) : wantL l a b 0 = wantH l a := by
  unfold wantL
  rw [show min 0 (max (bh l a) (bh l b)) - bh l a = 0 by omega, List.take_zero, List.append_nil]
theorem want_end (l : List Chg) (a b : Int) : wantL l a b l.length = cutL l a b := by
  have h1 := bh_le l a
  have h2 := bh_le l b
  unfold wantL cutL wantH
  rw [show min l.length (max (bh l a) (bh l b)) = max (bh l a) (bh l b) by omega]
theorem want_yes {l : List Chg} (hr : Rising l) {a b : Int} {k : Nat} (hk : k < l.length) (h1 : a < (l[k]).at_) (h2 : (l[k]).at_ ≤ b) : wantL l a b (k + 1) = wantL l a b k ++ [l[k]] := by
  have g1 := bh_iff hr a hk
  have g2 := bh_iff hr b hk
  have hn : bh l a ≤ k := by omega
  have hm : k < bh l b := g2.2 h2
  unfold wantL
  rw [List.append_assoc]
  congr 1
  rw [show min (k + 1) (max (bh l a) (bh l b)) - bh l a = (k - bh l a) + 1 by omega, show min k (max (bh l a) (bh l b)) - bh l a = k - bh l a by omega]
  rw [List.take_succ_eq_append_getElem (by rw [List.length_drop]; omega), List.getElem_drop]
  congr 2
  simp only [show bh l a + (k - bh l a) = k by omega]
theorem want_no {l : List Chg} (hr : Rising l) {a b : Int} {k : Nat} (hk : k < l.length) (h : ¬ (a < (l[k]).at_ ∧ (l[k]).at_ ≤ b)) : wantL l a b (k + 1) = wantL l a b k := by
  have g1 := bh_iff hr a hk
  have g2 := bh_iff hr b hk
  unfold wantL
  congr 2
  by_cases h3 : a < (l[k]).at_
  · have : bh l b ≤ k := by
      rcases Nat.lt_or_ge k (bh l b) with h4 | h4
      · exact absurd ⟨h3, g2.1 h4⟩ h
      · exact h4
    omega
  · have := g1.2 (by omega)
    omega
theorem want_len (l : List Chg) (a b : Int) (k : Nat) : (wantL l a b k).length ≤ l.length + 1 := by
  unfold wantL
  rw [List.length_append, wantH_len, List.length_take, List.length_drop]
  split <;> omega
end Go.Proofs.YtonmmgcibpjahaaGreatDoor
end

section
/- TMergeA: Layer 14's Merge, as plain functions; small words of memory. -/
namespace Go.Proofs.YtonmmgcibpjahaaGreatDoor
open Go Go.RowKit Go.Shelf
set_option maxRecDepth 100000

def locEq (x y : Loc) : Bool := decide (x.off = y.off ∧ x.dst = y.dst ∧ x.abbr.toList = y.abbr.toList)
theorem locEq_iff {x y : Loc} : locEq x y = true ↔ x = y := by
  have h := chgEq_iff (c := ⟨0, x⟩) (d := ⟨0, y⟩)
  unfold chgEq at h
  unfold locEq
  simp only [true_and] at h
  rw [h]
  exact ⟨fun h => by cases h; rfl, fun h => by rw [h]⟩
/-- What is left of the first k changes. -/
def mg (l : List Chg) : Nat → List Chg
  | 0 => []
  | k + 1 => if (mg l k).length = 0 then mg l k ++ [l.getD k .zero] else bif locEq ((mg l k).getD ((mg l k).length - 1) .zero).loc (l.getD k .zero).loc then mg l k else mg l k ++ [l.getD k .zero]
theorem mg_len (l : List Chg) (k : Nat) : (mg l k).length ≤ k ∧ (0 < k → 0 < (mg l k).length) := by
  induction k with
  | zero => exact ⟨Nat.le_refl _, fun h => by omega⟩
  | succ k ih =>
    unfold mg
    split
    · simp; omega
    · cases locEq ((mg l k).getD ((mg l k).length - 1) .zero).loc (l.getD k .zero).loc
      · simp; omega
      · simp; omega
/-- What Merge makes, and its answer. -/
def mergeT (l : List Chg) : List Chg := if riseB l then mg l l.length else []
def mergeE (l : List Chg) : Int := if riseB l then 0 else 17
def MergePost (w : World) (l : List Chg) (e : Ending) (w' : World) : Prop := ∃ v, e = .returned (.tuple #[v, .int .i64 (mergeE l)]) ∧ Chgs w' w'.heap.size v (mergeT l) ∧ Below w.heap.size w w'
theorem own_drewN {w : World} {base : Nat} {e : TypeId} {sz n : Nat} {v : Value} {xs : List Value} (h : w.ownsRow base e sz v n xs) (q : Nat) : (w.drewN q).ownsRow base e sz v n xs := h
theorem cell_newN2 (w : World) (o : Obj) (q : Nat) (C : Array Value) (t : TypeId) (fr : Nat × Nat) (i : Nat) : (((w.alloc o).drewN q).alloc (.cells C t fr)).cell? ((⟨w.heap.size + 1, 0, none⟩ : Addr).add i) = C[i]? := by
  rw [Addr.add_lit, Nat.zero_add]
  have := cell_new ((w.alloc o).drewN q) C t fr i
  rwa [show ((w.alloc o).drewN q).heap.size = w.heap.size + 1 from World.size_alloc ..] at this
end Go.Proofs.YtonmmgcibpjahaaGreatDoor
end
