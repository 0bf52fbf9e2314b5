/-
  Layer 20: the law's clocks, walked.
-/
import Derived.Test.YtlkpkmdomecopaaLWalkA
namespace Go.Proofs.Ytlkpkmdomecopaa
open Go Go.RowKit
set_option maxRecDepth 100000

def rowA (v : Value) : Value := .agg #[v]
abbrev noLoc : Obj := .cells #[.int .i64 0, .bool false, .string ⟨#[]⟩] 32
abbrev noChg : Obj := .cells #[.int .i64 0, .int .i64 0, .bool false, .string ⟨#[]⟩] 34
/-- What clocks answer: what is shown, and an error. -/
def Answers (l : List Chg) (i : Int) (e : Ending) : Prop := ∃ x, e = .returned (.tuple #[locA x, .int .i64 0]) ∧ ShownTo l i l.length x
theorem two_boxes (w : World) (v : Value) (t : TypeId) (cs : Array Value) (u : TypeId) : Blk ((w.alloc (.cells #[v] t)).alloc (.cells cs u)) w.heap.size t #[v] ∧ Blk ((w.alloc (.cells #[v] t)).alloc (.cells cs u)) (w.heap.size + 1) u cs ∧ Below w.heap.size w ((w.alloc (.cells #[v] t)).alloc (.cells cs u)) := by
  have h := Blk.new (w.alloc (.cells #[v] t)) u cs
  rw [World.size_alloc] at h
  exact ⟨(Blk.new w t #[v]).alloc _, h, ((Below.refl _ _).alloc (Nat.le_refl _) _).alloc (by simp) _⟩
set_option maxHeartbeats 2000000 in
theorem at_yes (w : World) (B : Nat) (v : Value) (l : List Chg) (i : Int) (hv : Chgs w B v l) (hB : B ≤ w.heap.size) (hl : 0 < l.length) (h1 : -2199023255552 ≤ i) (h2 : i ≤ 2199023255552) :
    Calls Try.prog 37 #[rowA v, .int .i64 i] w fun e w' => Answers l i e ∧ Below w.heap.size w w' := by
  have H := fun W (hb : Below w.heap.size w W) => Lib.hid (shown_any W B v l i (hv.below (hb.mono hB)) (Nat.le_trans hB hb.size) hl)
  obtain ⟨A, c, rfl, hlc, hcm⟩ := hv.form
  clear hv
  unfold rowA
  have hbx := two_boxes w (.slice A l.length c) 26 #[.int .i64 0, .bool false, .string ⟨#[]⟩] 32
  go_enter Try.func37, Try.ntmps37
  go_wp2_with fail
  refine (H _ hbx.2.2).out.mono ?_
  rintro e w1 ⟨⟨x, rfl, hx⟩, hb1⟩
  have hs1 := hb1.size
  simp only [World.size_alloc] at hs1
  have hr1 : LocB w1 (w.heap.size + 1) .zero := hbx.2.1.below hb1 (by simp)
  have hbel := hbx.2.2.trans (hb1.mono hbx.2.2.size)
  have HX := Lib.hid hx
  have HR := Lib.hid hr1
  have q0 := Blk.frozen hr1 0
  have q1 := Blk.frozen hr1 1
  have q2 := Blk.frozen hr1 2
  obtain ⟨r0, r1, r2⟩ := LocB.cells hr1
  clear H hbx hx hr1
  unfold locA
  go_wp2_with fail
  obtain ⟨e0, e1, e2⟩ := LocB.cells (LocB.set HR.out x)
  exact bodyPost_ret (v := .tuple #[locA x, .int .i64 0]) (by simp [results, Try.results37, go_sem, locA, e0, e1, e2]) rfl ⟨⟨x, rfl, HX.out⟩, below_set3 hbel (by omega) _ _ _⟩
set_option maxHeartbeats 2000000 in
theorem at_no (w : World) (v : Value) (i : Int) (h : i < -2199023255552 ∨ 2199023255552 < i) :
    Calls Try.prog 37 #[rowA v, .int .i64 i] w fun e w' => e = .returned (.tuple #[locA .zero, .int .i64 10]) ∧ Below w.heap.size w w' := by
  unfold rowA
  have hbx := two_boxes w v 26 #[.int .i64 0, .bool false, .string ⟨#[]⟩] 32
  have HBX := Lib.hid hbx
  have hr := hbx.2.1
  have q0 := Blk.frozen hr 0
  have q1 := Blk.frozen hr 1
  have q2 := Blk.frozen hr 2
  obtain ⟨r0, r1, r2⟩ := LocB.cells (x := .zero) hr
  clear hbx hr
  rcases h with h | h
  · go_enter Try.func37, Try.ntmps37
    go_wp2_with fail
    exact bodyPost_ret (v := .tuple #[locA .zero, .int .i64 10]) (by simp [results, Try.results37, go_sem, locA, Loc.zero]) rfl ⟨rfl, HBX.out.2.2⟩
  · have h' : ¬ i < -2199023255552 := by omega
    go_enter Try.func37, Try.ntmps37
    go_wp2_with fail
    exact bodyPost_ret (v := .tuple #[locA .zero, .int .i64 10]) (by simp [results, Try.results37, go_sem, locA, Loc.zero]) rfl ⟨rfl, HBX.out.2.2⟩
/-- What clocks answer on the next change. -/
def NextIs (l : List Chg) (i : Int) (e : Ending) : Prop :=
  (∃ k, ∃ h : k < l.length, 1 ≤ k ∧ i < (l[k]).at_ ∧ (∀ j (hj : j < l.length), 1 ≤ j → j < k → (l[j]).at_ ≤ i) ∧ e = .returned (.tuple #[chgA l[k], .bool true])) ∨
  ((∀ j (hj : j < l.length), 1 ≤ j → (l[j]).at_ ≤ i) ∧ e = .returned (.tuple #[chgA .zero, .bool false]))
set_option maxHeartbeats 2000000 in
theorem next_any (w : World) (B : Nat) (v : Value) (l : List Chg) (i : Int) (hv : Chgs w B v l) (hB : B ≤ w.heap.size) :
    Calls Try.prog 38 #[rowA v, .int .i64 i] w fun e w' => NextIs l i e ∧ Below w.heap.size w w' := by
  obtain ⟨A, c, rfl, hlc, hcm⟩ := hv.form
  unfold maxLen at hcm
  have HV := Lib.hid hv
  clear hv
  unfold rowA
  have hbx := two_boxes w (.slice A l.length c) 26 #[.int .i64 0, .int .i64 0, .bool false, .string ⟨#[]⟩] 34
  have HBX := Lib.hid hbx
  clear hbx
  go_enter Try.func38, Try.ntmps38
  go_wp2_with fail
  obtain ⟨W, hW⟩ : ∃ W, (w.alloc (.cells #[.slice A l.length c] 26)).alloc (.cells #[.int .i64 0, .int .i64 0, .bool false, .string ⟨#[]⟩] 34) = W := ⟨_, rfl⟩
  rw [hW] at HBX ⊢
  clear hW
  obtain ⟨hb1, hb2, hbw⟩ := HBX.out
  have q0 := Blk.frozen hb2 0
  have q1 := Blk.frozen hb2 1
  have q2 := Blk.frozen hb2 2
  have q3 := Blk.frozen hb2 3
  obtain ⟨r0, r1, r2, r3⟩ := ChgB.cells (c := .zero) hb2
  have f0 := hb1.cell 0 rfl
  clear hb1 hb2
  go_loop [6] (fun j => ∃ k : Nat, 1 ≤ k ∧ (k ≤ l.length ∨ k = 1) ∧ j = .int .i64 k ∧ ∀ j (hj : j < l.length), 1 ≤ j → j < k → (l[j]).at_ ≤ i) (fun j => l.length - (intOf j).toNat)
  case atStart => exact ⟨1, by omega, by omega, rfl, fun j _ _ _ => by omega⟩
  case round =>
    obtain ⟨k, hk1, hk, rfl, hs⟩ := hrel
    have HS := Lib.hid hs
    clear hs
    by_cases hlt : k < l.length
    · obtain ⟨b, o, c', e, hb, hc⟩ := HV.out.cells (by omega)
      cases e
      obtain ⟨c0, c1, c2, c3⟩ := hc k hlt
      have d0 := (hbw.cell (p := ⟨b, o + k * 4, none⟩) (by show b < _; omega)).trans c0
      have d1 := (hbw.cell (p := ⟨b, o + k * 4 + 1, none⟩) (by show b < _; omega)).trans c1
      have d2 := (hbw.cell (p := ⟨b, o + k * 4 + 2, none⟩) (by show b < _; omega)).trans c2
      have d3 := (hbw.cell (p := ⟨b, o + k * 4 + 3, none⟩) (by show b < _; omega)).trans c3
      clear hc c0 c1 c2 c3
      have HY := Lib.hid (show i < (l[k]).at_ → NextIs l i (.returned (.tuple #[chgA l[k], .bool true])) from fun h => .inl ⟨k, hlt, hk1, h, fun j hj h1 h2 => HS.out j hj h1 h2, rfl⟩)
      have HN := Lib.hid (show ¬ i < (l[k]).at_ → ∀ j (hj : j < l.length), 1 ≤ j → j < k + 1 → (l[j]).at_ ≤ i from fun h j hj h1 h2 => by
        rcases Nat.lt_or_ge j k with h3 | h3
        · exact HS.out j hj h1 h3
        · obtain rfl : j = k := by omega
          omega)
      generalize l[k] = x at *
      by_cases hle : i < x.at_
      · go_wp2_with fail
        obtain ⟨e0, e1, e2, e3⟩ := ChgB.cells (ChgB.set (c := .zero) HBX.out.2.1 x)
        exact bodyPost_ret (v := .tuple #[chgA x, .bool true]) (by simp [results, Try.results38, go_sem, chgA, e0, e1, e2, e3]) rfl ⟨HY.out hle, below_set4 HBX.out.2.2 (by omega) _ _ _ _⟩
      · go_wp2_with fail
        go_round
        case rel => exact ⟨k + 1, by omega, by omega, by go_num, HN.out hle⟩
        case measure => first | (simp [intOf]; done) | (simp [intOf]; omega)
    · have HN := Lib.hid (show NextIs l i (.returned (.tuple #[chgA .zero, .bool false])) from .inr ⟨fun j hj h1 => HS.out j hj h1 (by omega), rfl⟩)
      go_wp2_with fail
      obtain ⟨e0, e1, e2, e3⟩ := ChgB.cells (ChgB.set (c := .zero) HBX.out.2.1 .zero)
      simp only [Chg.zero, Loc.zero] at e0 e1 e2 e3
      exact bodyPost_ret (v := .tuple #[chgA .zero, .bool false]) (by simp [results, Try.results38, go_sem, chgA, Chg.zero, Loc.zero, e0, e1, e2, e3]) rfl ⟨HN.out, below_set4 HBX.out.2.2 (by omega) _ _ _ _⟩
end Go.Proofs.Ytlkpkmdomecopaa
