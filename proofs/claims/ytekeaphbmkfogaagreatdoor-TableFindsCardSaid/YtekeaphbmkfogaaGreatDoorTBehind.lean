/-
  Layer 14's behind, At, Next, Prev, walked.
-/
import Derived.Test.YtekeaphbmkfogaaGreatDoorTAwake
namespace Go.Proofs.YtekeaphbmkfogaaGreatDoor
open Go Go.RowKit Go.Shelf
set_option maxRecDepth 100000

def pB (l : List Chg) (i : Int) (k : Nat) : Bool := match l[k]? with
  | some c => decide (i < c.at_)
  | none => true
/-- How many changes are not behind an instant. -/
def bh (l : List Chg) (i : Int) : Nat := (List.range l.length).countP fun k => !pB l i k
theorem countP_prefix (q : Nat → Bool) (hq : ∀ k, q (k + 1) = true → q k = true) : ∀ (n : Nat), (List.range n).countP q ≤ n ∧ ∀ k, k < n → (k < (List.range n).countP q ↔ q k = true)
  | 0 => ⟨Nat.le_refl _, fun k h => by omega⟩
  | n + 1 => by
    obtain ⟨h1, h2⟩ := countP_prefix q hq n
    rw [List.range_succ, List.countP_append]
    have hdown : ∀ m k, k ≤ m → q m = true → q k = true := by
      intro m
      induction m with
      | zero => intro k hk h; have : k = 0 := by omega
                subst this; exact h
      | succ m ih =>
        intro k hk h
        rcases Nat.lt_or_ge m k with h3 | h3
        · have : k = m + 1 := by omega
          subst this; exact h
        · exact ih k h3 (hq m h)
    cases hn : q n with
    | true =>
      have hc : (List.range n).countP q = n := by
        rcases Nat.lt_or_ge ((List.range n).countP q) n with h3 | h3
        · have h4 := (h2 _ h3).2 (hdown n _ (by omega) hn)
          omega
        · omega
      have e : List.countP q [n] = 1 := by simp [hn]
      rw [e, hc]
      refine ⟨Nat.le_refl _, fun k hk => ⟨fun _ => hdown n k (by omega) hn, fun _ => by omega⟩⟩
    | false =>
      have e : List.countP q [n] = 0 := by simp [hn]
      rw [e, Nat.add_zero]
      refine ⟨by omega, fun k hk => ?_⟩
      rcases Nat.lt_or_ge k n with h3 | h3
      · exact h2 k h3
      · have : k = n := by omega
        subst this
        rw [hn]
        exact ⟨fun h => by omega, fun h => by cases h⟩
theorem bh_le (l : List Chg) (i : Int) : bh l i ≤ l.length := by
  unfold bh
  exact Nat.le_trans List.countP_le_length (by simp)
theorem bh_iff {l : List Chg} (hr : Rising l) (i : Int) {k : Nat} (hk : k < l.length) : k < bh l i ↔ (l[k]).at_ ≤ i := by
  have h := (countP_prefix (fun k => !pB l i k) (fun k h => by
    unfold pB at *
    rcases Nat.lt_or_ge (k + 1) l.length with h1 | h1
    · rw [List.getElem?_eq_getElem h1] at h
      rw [List.getElem?_eq_getElem (show k < l.length by omega)]
      have := hr k h1
      simp only [Bool.not_eq_true', decide_eq_false_iff_not] at *
      omega
    · rw [List.getElem?_eq_none h1] at h
      cases h) l.length).2 k hk
  unfold bh
  rw [h]
  unfold pB
  rw [List.getElem?_eq_getElem hk]
  simp
set_option maxHeartbeats 1000000 in
theorem behind1_any (l : List Chg) (c : Nat) (b o tb ib k : Nat) (i : Int) (W : World) (hk : k < l.length) (hcm : l.length ≤ maxLen)
    (ht : W.cell? ⟨tb, 0, none⟩ = some (.slice (some ⟨b, o, none⟩) l.length c)) (hi : W.cell? ⟨ib, 0, none⟩ = some (.int .i64 i)) (hc : W.cell? ⟨b, o + k * 4, none⟩ = some (.int .i64 (l[k]).at_)) :
    Calls Tryz.prog 59 #[.int .i64 k, .pointer (some ⟨tb, 0, none⟩), .pointer (some ⟨ib, 0, none⟩)] W fun e w' => e = .returned (.bool (pB l i k)) ∧ ∃ q, w' = W.drewN q := by
  unfold maxLen at hcm
  have HP := Lib.hid (show pB l i k = decide (i < (l[k]).at_) by unfold pB; rw [List.getElem?_eq_getElem hk])
  generalize (l[k]).at_ = t at *
  go_enter Tryz.func59, Tryz.ntmps59
  go_wp2_with fail
  go_quiet (fail)
  go_wp2_with fail
  go_ret
  exact ⟨by rw [HP.out]; rfl, _, rfl⟩
open Go.Sort in
theorem search_any (g : Nat) (cb : Array Value) (n : Nat) (p : Nat → Bool) (w : World) (eg : ∀ args w, (callFunc g args).run Tryz.prog w = .ok (.enter g args) w) (hsz : n < 4611686018427387904)
    (hf : ∀ (W : World) (i : Nat), Below w.heap.size w W → i < n → Calls Tryz.prog g (#[.int .i64 i] ++ cb) W fun e w' => e = .returned (.bool (p i)) ∧ ∃ q, w' = W.drewN q)
    (hmono : ∀ a b, a ≤ b → b < n → p a = true → p b = true) :
    Calls Tryz.prog 58 #[.int .i64 n, .func (.func g) #[] cb] w fun e w' => e = .returned (.int .i64 ((List.range n).countP (fun i => !p i) : Nat)) ∧ Below w.heap.size w w' := by
  refine (Any.sort_Search Tryz.laysSearch g cb n p w eg hsz (fun m os i hi => ?_) hmono).mono fun e w' ⟨h1, q, os, h2⟩ => ⟨h1, by rw [h2]; exact Go.Proofs.below_grown_sl _ _ _ _ (Nat.le_refl _)⟩
  refine (hf _ i (Go.Proofs.below_grown_sl _ _ _ _ (Nat.le_refl _)) hi).mono fun e w' ⟨h1, q, h2⟩ => ⟨h1, q, #[], by rw [h2, grow_empty]⟩
set_option maxHeartbeats 1000000 in
theorem behind_any (w : World) (B : Nat) (v : Value) (l : List Chg) (i : Int) (hv : Chgs w B v l) (hB : B ≤ w.heap.size) (hl : l.length ≤ 61) (hr : Rising l) :
    Calls Tryz.prog 42 #[v, .int .i64 i] w fun e w' => e = .returned (.int .i64 (bh l i)) ∧ Below w.heap.size w w' := by
  obtain ⟨A, c, rfl, hlc, hcm⟩ := hv.form
  have hb0 : Below w.heap.size w ((w.alloc (.cells #[.slice A l.length c] 36)).alloc (.cells #[.int .i64 i] 3)) := ((Below.refl _ _).alloc (Nat.le_refl _) _).alloc (by simp) _
  have ht := (Blk.new w 36 #[.slice A l.length c]).alloc (.cells #[.int .i64 i] 3)
  have hi := Blk.new (w.alloc (.cells #[.slice A l.length c] 36)) 3 #[.int .i64 i]
  rw [World.size_alloc] at hi
  have HS := Lib.hid (search_any 59 #[.pointer (some ⟨w.heap.size, 0, none⟩), .pointer (some ⟨w.heap.size + 1, 0, none⟩)] l.length (pB l i) ((w.alloc (.cells #[.slice A l.length c] 36)).alloc (.cells #[.int .i64 i] 3)) (enters_of Tryz.func59 (by kernel_rfl) rfl) (by omega) (fun W k hbW hk => by
      obtain ⟨b, o, c', e, -, hc⟩ := (hv.below ((hb0.trans (hbW.mono hb0.size)).mono hB)).cells (by omega)
      cases e
      exact behind1_any l c b o _ _ k i W hk (by unfold maxLen; omega) ((ht.below hbW ht.lt).cell 0 rfl) ((hi.below hbW hi.lt).cell 0 rfl) (hc k hk).1) (fun a b hab hb h => by
      have ha : a < l.length := by omega
      unfold pB at *
      rw [List.getElem?_eq_getElem ha] at h
      rw [List.getElem?_eq_getElem hb]
      have := hr.le hb hab
      simp only [decide_eq_true_eq] at *
      omega))
  have HB := Lib.hid hb0
  unfold maxLen at hcm
  clear hb0 ht hi hv
  go_enter Tryz.func42, Tryz.ntmps42
  go_wp2_with fail
  refine HS.out.mono ?_
  rintro o w1 ⟨rfl, hb⟩
  have hb1 := HB.out.trans (hb.mono HB.out.size)
  clear hb HS
  go_wp2_with fail
  go_ret
  exact ⟨rfl, hb1⟩
/-- What At, Next and Prev answer. -/
def atV (l : List Chg) (i : Int) : Loc × Int := if bh l i = 0 then (.zero, 16) else ((l.getD (bh l i - 1) .zero).loc, 0)
def nextV (l : List Chg) (i : Int) : Chg × Bool := if bh l i = l.length then (.zero, false) else (l.getD (bh l i) .zero, true)
def prevV (l : List Chg) (i : Int) : Chg × Bool := if bh l i < 2 then (.zero, false) else (l.getD (bh l i - 1) .zero, true)
theorem getD_at {l : List Chg} {k : Nat} (h : k < l.length) : l.getD k .zero = l[k] := by rw [List.getD_eq_getElem?_getD, List.getElem?_eq_getElem h]; rfl
set_option maxHeartbeats 1000000 in
theorem tat_any (w : World) (B : Nat) (v : Value) (l : List Chg) (i : Int) (hv : Chgs w B v l) (hB : B ≤ w.heap.size) (hl : l.length ≤ 61) (hr : Rising l) :
    Calls Tryz.prog 23 #[v, .int .i64 i] w fun e w' => e = .returned (.tuple #[locA (atV l i).1, .int .i64 (atV l i).2]) ∧ Below w.heap.size w w' := by
  have hb0 : Below w.heap.size w (w.alloc (.cells #[.int .i64 0, .bool false, .string ⟨#[]⟩] 42)) := (Below.refl _ _).alloc (Nat.le_refl _) _
  have hr0 := Blk.new w 42 #[.int .i64 0, .bool false, .string ⟨#[]⟩]
  have HB := Lib.hid (behind_any _ B v l i (hv.below (hb0.mono hB)) (by simp; omega) hl hr)
  have hle := bh_le l i
  obtain ⟨A, c, rfl, hlc, hcm⟩ := hv.form
  unfold maxLen at hcm
  obtain ⟨n, hn⟩ : ∃ n, bh l i = n := ⟨_, rfl⟩
  rw [hn] at HB hle
  have HN := Lib.hid hn
  have HV := Lib.hid hv
  clear hn hv
  go_enter Tryz.func23, Tryz.ntmps23
  go_wp2_with fail
  refine HB.out.mono ?_
  rintro o w1 ⟨rfl, hb⟩
  have hb1 := hb0.trans (hb.mono hb0.size)
  have hr1 := hr0.below hb hr0.lt
  have r0 := hr1.cell 0 (v := .int .i64 0) rfl
  have r1 := hr1.cell 1 (v := .bool false) rfl
  have r2 := hr1.cell 2 (v := .string ⟨#[]⟩) rfl
  have rf0 := hr1.frozen 0
  have rf1 := hr1.frozen 1
  have rf2 := hr1.frozen 2
  have HR1 := Lib.hid hr1
  clear hb hb0 hr0 hr1 HB
  rcases n with _ | j
  · have HP := Lib.hid (show atV l i = (.zero, 16) by unfold atV; rw [if_pos HN.out])
    go_wp2_with fail
    have HW := ((HR1.out.set 0 (.int .i64 0)).set 1 (.bool false)).set 2 (.string ⟨#[]⟩)
    refine bodyPost_ret (v := .tuple #[locA Loc.zero, .int .i64 16]) ?_ rfl ⟨by rw [HP.out], below_set3 hb1 (Nat.le_refl _) _ _ _⟩
    have c0 := HW.cell 0 (v := .int .i64 0) rfl
    have c1 := HW.cell 1 (v := .bool false) rfl
    have c2 := HW.cell 2 (v := .string ⟨#[]⟩) rfl
    simp [results, Tryz.f23, go_sem, c0, c1, c2, locA, Loc.zero]
  · have hjl : j < l.length := by omega
    have HP := Lib.hid (show atV l i = ((l[j]).loc, 0) by unfold atV; rw [if_neg (by rw [HN.out]; omega), HN.out, Nat.add_sub_cancel, getD_at hjl])
    obtain ⟨b, o, c', e, -, hc⟩ := (HV.out.below (hb1.mono hB)).cells (by omega)
    cases e
    obtain ⟨-, c1, c2, c3⟩ := hc j hjl
    clear hc
    generalize (l[j]).loc = x at *
    have e1 : ((j + 1 : Nat) : Int) - 1 = (j : Nat) := by omega
    have e2 : (((j + 1 : Nat) : Int) == 0) = false := by simp; omega
    rw [show (((j + 1 : Nat)) : Int) = (j : Int) + 1 from by omega] at *
    go_wp2_with fail
    have HW := ((HR1.out.set 0 (.int .i64 x.off)).set 1 (.bool x.dst)).set 2 (.string x.abbr)
    refine bodyPost_ret (v := .tuple #[locA x, .int .i64 0]) ?_ rfl ⟨by rw [HP.out], below_set3 hb1 (Nat.le_refl _) _ _ _⟩
    have d0 := HW.cell 0 (v := .int .i64 x.off) rfl
    have d1 := HW.cell 1 (v := .bool x.dst) rfl
    have d2 := HW.cell 2 (v := .string x.abbr) rfl
    clear c1 c2 c3
    simp [results, Tryz.f23, go_sem, d0, d1, d2, locA]
set_option maxHeartbeats 1000000 in
theorem tnext_any (w : World) (B : Nat) (v : Value) (l : List Chg) (i : Int) (hv : Chgs w B v l) (hB : B ≤ w.heap.size) (hl : l.length ≤ 61) (hr : Rising l) :
    Calls Tryz.prog 26 #[v, .int .i64 i] w fun e w' => e = .returned (.tuple #[chgA (nextV l i).1, .bool (nextV l i).2]) ∧ Below w.heap.size w w' := by
  have hb0 : Below w.heap.size w (w.alloc (.cells #[.int .i64 0, .int .i64 0, .bool false, .string ⟨#[]⟩] 45)) := (Below.refl _ _).alloc (Nat.le_refl _) _
  have hr0 := Blk.new w 45 #[.int .i64 0, .int .i64 0, .bool false, .string ⟨#[]⟩]
  have HB := Lib.hid (behind_any _ B v l i (hv.below (hb0.mono hB)) (by simp; omega) hl hr)
  have hle := bh_le l i
  obtain ⟨A, c, rfl, hlc, hcm⟩ := hv.form
  unfold maxLen at hcm
  obtain ⟨n, hn⟩ : ∃ n, bh l i = n := ⟨_, rfl⟩
  rw [hn] at HB hle
  have HN := Lib.hid hn
  have HV := Lib.hid hv
  clear hn hv
  go_enter Tryz.func26, Tryz.ntmps26
  go_wp2_with fail
  refine HB.out.mono ?_
  rintro o w1 ⟨rfl, hb⟩
  have hb1 := hb0.trans (hb.mono hb0.size)
  have hr1 := hr0.below hb hr0.lt
  have r0 := hr1.cell 0 (v := .int .i64 0) rfl
  have r1 := hr1.cell 1 (v := .int .i64 0) rfl
  have r2 := hr1.cell 2 (v := .bool false) rfl
  have r3 := hr1.cell 3 (v := .string ⟨#[]⟩) rfl
  have rf0 := hr1.frozen 0
  have rf1 := hr1.frozen 1
  have rf2 := hr1.frozen 2
  have rf3 := hr1.frozen 3
  have HR1 := Lib.hid hr1
  clear hb hb0 hr0 hr1 HB
  by_cases hn : n = l.length
  · have HP := Lib.hid (show nextV l i = (.zero, false) by unfold nextV; rw [HN.out, if_pos hn])
    subst hn
    go_wp2_with fail
    have HW := (((HR1.out.set 0 (.int .i64 0)).set 1 (.int .i64 0)).set 2 (.bool false)).set 3 (.string ⟨#[]⟩)
    refine bodyPost_ret (v := .tuple #[chgA Chg.zero, .bool false]) ?_ rfl ⟨by rw [HP.out], below_set4 hb1 (Nat.le_refl _) _ _ _ _⟩
    have c0 := HW.cell 0 (v := .int .i64 0) rfl
    have c1 := HW.cell 1 (v := .int .i64 0) rfl
    have c2 := HW.cell 2 (v := .bool false) rfl
    have c3 := HW.cell 3 (v := .string ⟨#[]⟩) rfl
    simp [results, Tryz.f26, go_sem, c0, c1, c2, c3, chgA, Chg.zero, Loc.zero]
  · have hjl : n < l.length := by omega
    have HP := Lib.hid (show nextV l i = (l[n], true) by unfold nextV; rw [HN.out, if_neg hn, getD_at hjl])
    obtain ⟨b, o, c', e, -, hc⟩ := (HV.out.below (hb1.mono hB)).cells (by omega)
    cases e
    obtain ⟨c0, c1, c2, c3⟩ := hc n hjl
    clear hc
    generalize l[n] = x at *
    have e2 : ((n : Int) == (l.length : Int)) = false := by simp; omega
    go_wp2_with fail
    have HW := (((HR1.out.set 0 (.int .i64 x.at_)).set 1 (.int .i64 x.loc.off)).set 2 (.bool x.loc.dst)).set 3 (.string x.loc.abbr)
    refine bodyPost_ret (v := .tuple #[chgA x, .bool true]) ?_ rfl ⟨by rw [HP.out], below_set4 hb1 (Nat.le_refl _) _ _ _ _⟩
    have d0 := HW.cell 0 (v := .int .i64 x.at_) rfl
    have d1 := HW.cell 1 (v := .int .i64 x.loc.off) rfl
    have d2 := HW.cell 2 (v := .bool x.loc.dst) rfl
    have d3 := HW.cell 3 (v := .string x.loc.abbr) rfl
    clear c0 c1 c2 c3
    simp [results, Tryz.f26, go_sem, d0, d1, d2, d3, chgA]
set_option maxHeartbeats 1000000 in
theorem tprev_any (w : World) (B : Nat) (v : Value) (l : List Chg) (i : Int) (hv : Chgs w B v l) (hB : B ≤ w.heap.size) (hl : l.length ≤ 61) (hr : Rising l) :
    Calls Tryz.prog 27 #[v, .int .i64 i] w fun e w' => e = .returned (.tuple #[chgA (prevV l i).1, .bool (prevV l i).2]) ∧ Below w.heap.size w w' := by
  have hb0 : Below w.heap.size w (w.alloc (.cells #[.int .i64 0, .int .i64 0, .bool false, .string ⟨#[]⟩] 45)) := (Below.refl _ _).alloc (Nat.le_refl _) _
  have hr0 := Blk.new w 45 #[.int .i64 0, .int .i64 0, .bool false, .string ⟨#[]⟩]
  have HB := Lib.hid (behind_any _ B v l i (hv.below (hb0.mono hB)) (by simp; omega) hl hr)
  have hle := bh_le l i
  obtain ⟨A, c, rfl, hlc, hcm⟩ := hv.form
  unfold maxLen at hcm
  obtain ⟨n, hn⟩ : ∃ n, bh l i = n := ⟨_, rfl⟩
  rw [hn] at HB hle
  have HN := Lib.hid hn
  have HV := Lib.hid hv
  clear hn hv
  go_enter Tryz.func27, Tryz.ntmps27
  go_wp2_with fail
  refine HB.out.mono ?_
  rintro o w1 ⟨rfl, hb⟩
  have hb1 := hb0.trans (hb.mono hb0.size)
  have hr1 := hr0.below hb hr0.lt
  have r0 := hr1.cell 0 (v := .int .i64 0) rfl
  have r1 := hr1.cell 1 (v := .int .i64 0) rfl
  have r2 := hr1.cell 2 (v := .bool false) rfl
  have r3 := hr1.cell 3 (v := .string ⟨#[]⟩) rfl
  have rf0 := hr1.frozen 0
  have rf1 := hr1.frozen 1
  have rf2 := hr1.frozen 2
  have rf3 := hr1.frozen 3
  have HR1 := Lib.hid hr1
  clear hb hb0 hr0 hr1 HB
  by_cases hn : n < 2
  · have HP := Lib.hid (show prevV l i = (.zero, false) by unfold prevV; rw [HN.out, if_pos hn])
    have e2 : decide ((n : Int) < 2) = true := by simp; omega
    go_wp2_with fail
    have HW := (((HR1.out.set 0 (.int .i64 0)).set 1 (.int .i64 0)).set 2 (.bool false)).set 3 (.string ⟨#[]⟩)
    refine bodyPost_ret (v := .tuple #[chgA Chg.zero, .bool false]) ?_ rfl ⟨by rw [HP.out], below_set4 hb1 (Nat.le_refl _) _ _ _ _⟩
    have c0 := HW.cell 0 (v := .int .i64 0) rfl
    have c1 := HW.cell 1 (v := .int .i64 0) rfl
    have c2 := HW.cell 2 (v := .bool false) rfl
    have c3 := HW.cell 3 (v := .string ⟨#[]⟩) rfl
    simp [results, Tryz.f27, go_sem, c0, c1, c2, c3, chgA, Chg.zero, Loc.zero]
  · obtain ⟨j, rfl⟩ : ∃ j, n = j + 1 := ⟨n - 1, by omega⟩
    have hjl : j < l.length := by omega
    have HP := Lib.hid (show prevV l i = (l[j], true) by unfold prevV; rw [HN.out, if_neg hn, Nat.add_sub_cancel, getD_at hjl])
    obtain ⟨b, o, c', e, -, hc⟩ := (HV.out.below (hb1.mono hB)).cells (by omega)
    cases e
    obtain ⟨c0, c1, c2, c3⟩ := hc j hjl
    clear hc
    generalize l[j] = x at *
    have e1 : ((j + 1 : Nat) : Int) - 1 = (j : Nat) := by omega
    have e2 : decide (((j + 1 : Nat) : Int) < 2) = false := by simp; omega
    rw [show (((j + 1 : Nat)) : Int) = (j : Int) + 1 from by omega] at *
    go_wp2_with fail
    have HW := (((HR1.out.set 0 (.int .i64 x.at_)).set 1 (.int .i64 x.loc.off)).set 2 (.bool x.loc.dst)).set 3 (.string x.loc.abbr)
    refine bodyPost_ret (v := .tuple #[chgA x, .bool true]) ?_ rfl ⟨by rw [HP.out], below_set4 hb1 (Nat.le_refl _) _ _ _ _⟩
    have d0 := HW.cell 0 (v := .int .i64 x.at_) rfl
    have d1 := HW.cell 1 (v := .int .i64 x.loc.off) rfl
    have d2 := HW.cell 2 (v := .bool x.loc.dst) rfl
    have d3 := HW.cell 3 (v := .string x.loc.abbr) rfl
    clear c0 c1 c2 c3
    simp [results, Tryz.f27, go_sem, d0, d1, d2, d3, chgA]
end Go.Proofs.YtekeaphbmkfogaaGreatDoor
