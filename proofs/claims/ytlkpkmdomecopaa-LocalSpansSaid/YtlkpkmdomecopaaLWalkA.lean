/-
  Layer 20: the references' parts, walked.
-/
import Derived.Deep.QuietTactic
import Derived.BigQuiet
import Derived.WalkKit
import Derived.Test.YtlkpkmdomecopaaChecked
import Derived.Test.YtlkpkmdomecopaaLBase
namespace Go.Proofs.Ytlkpkmdomecopaa
open Go Go.RowKit
set_option maxRecDepth 100000

theorem dn2 (w : World) (n m : Nat) : ∃ q, (w.drewN n).drewN m = w.drewN q := ⟨n + m, World.drewN_drewN ..⟩
/-- Do the first k pairs rise? -/
def RiseTo (l : List Chg) (k : Nat) : Prop := ∀ i (h : i + 1 < l.length), i + 1 < k → (l[i]).at_ < (l[i + 1]).at_
def riseB (l : List Chg) : Bool := decide (∀ i : _root_.Fin l.length, ∀ h : i.1 + 1 < l.length, (l[i.1]).at_ < (l[i.1 + 1]).at_)
theorem riseB_iff (l : List Chg) : riseB l = true ↔ Rising l := by
  unfold riseB
  rw [decide_eq_true_iff]
  exact ⟨fun h i hi => h ⟨i, by omega⟩ hi, fun h i hi => h i.1 hi⟩
theorem riseB_yes {l : List Chg} (h : Rising l) : riseB l = true := (riseB_iff l).2 h
theorem riseB_no {l : List Chg} {i : Nat} (h : i + 1 < l.length) (hn : ¬ (l[i]).at_ < (l[i + 1]).at_) : riseB l = false := by
  cases hb : riseB l with
  | false => rfl
  | true => exact absurd ((riseB_iff l).1 hb i h) hn
set_option maxHeartbeats 1000000 in
theorem rise_any (w : World) (B : Nat) (v : Value) (l : List Chg) (hv : Chgs w B v l) :
    Calls Try.prog 18 #[v] w fun e w' => e = .returned (.bool (riseB l)) ∧ ∃ n, w' = w.drewN n := by
  obtain ⟨A, c, rfl, hlc, hcm⟩ := hv.form
  unfold maxLen at hcm
  have HV := Lib.hid hv
  clear hv
  go_enter Try.func18, Try.ntmps18
  go_wp2_with fail
  go_loopw [3] (fun i wr => ∃ k : Nat, 1 ≤ k ∧ (k ≤ l.length ∨ k = 1) ∧ i = .int .i64 k ∧ RiseTo l k ∧ ∃ n, wr = w.drewN n) (fun i _ => l.length - (intOf i).toNat)
  case atStart => exact ⟨1, by omega, by omega, rfl, fun i _ h => by omega, 0, rfl⟩
  case round =>
    obtain ⟨k, hk1, hk, rfl, hr, n, rfl⟩ := hrel
    have HR := Lib.hid hr
    clear hr
    by_cases hlt : k < l.length
    · obtain ⟨j, rfl⟩ : ∃ j, k = j + 1 := ⟨k - 1, by omega⟩
      obtain ⟨b, o, c', e, -, hc⟩ := HV.out.cells (by omega)
      cases e
      have c1 := (hc (j + 1) hlt).1
      have c0 := (hc j (by omega)).1
      have HNO := Lib.hid (riseB_no hlt)
      clear hc
      have HX := Lib.hid (show ∀ h : (l[j]).at_ < (l[j + 1]).at_, RiseTo l (j + 1 + 1) from fun h i hi h2 => by
        rcases Nat.lt_or_ge (i + 1) (j + 1) with h3 | h3
        · exact HR.out i hi h3
        · obtain rfl : i = j := by omega
          exact h)
      generalize (l[j + 1]).at_ = a1 at *
      generalize (l[j]).at_ = a0 at *
      have e1 : ((j + 1 : Nat) : Int) - 1 = (j : Nat) := by omega
      rw [show (((j + 1 : Nat)) : Int) = (j : Int) + 1 from by omega] at *
      by_cases hcmp : a0 < a1
      · go_wp2_with fail
        go_quiet (fail)
        go_wp2_with fail
        go_roundw
        case rel => exact ⟨j + 1 + 1, by omega, by omega, by go_num, HX.out hcmp, _, rfl⟩
        case measure => first | (simp [intOf]; done) | (simp [intOf]; omega)
      · have HB := Lib.hid (HNO.out hcmp)
        go_wp2_with fail
        go_quiet (fail)
        go_wp2_with fail
        go_ret
        exact ⟨by rw [HB.out]; rfl, dn2 w _ _⟩
    · have HB := Lib.hid (riseB_yes (l := l) (fun i hi => HR.out i hi (by omega)))
      go_wp2_with fail
      go_ret
      exact ⟨by rw [HB.out]; rfl, _, rfl⟩

/-- What a row shows: the last one's that is not behind an instant; the first one's, if there is none. -/
def ShownTo (l : List Chg) (i : Int) (k : Nat) (x : Loc) : Prop := ∃ m, ∃ hm : m < l.length, x = (l[m]).loc ∧ (m < k ∨ m = 0) ∧ ((l[m]).at_ ≤ i ∨ m = 0) ∧ ∀ j (hj : j < l.length), m < j → j < k → i < (l[j]).at_
theorem shownTo_at {l : List Chg} {i : Int} {x : Loc} (h : ShownTo l i l.length x) {k : Nat} (hk : IsAt l i k) : x = (l[k]'hk.1).loc := by
  obtain ⟨m, hm, rfl, -, h2, h3⟩ := h
  obtain ⟨g1, g2, g3⟩ := hk
  have : m = k := by
    rcases Nat.lt_trichotomy m k with h | h | h
    · have := h3 k g1 h g1; omega
    · exact h
    · rcases h2 with h2 | h2
      · have := g3 m hm h; omega
      · omega
  subst this
  rfl
set_option maxHeartbeats 2000000 in
theorem shown_any (w : World) (B : Nat) (v : Value) (l : List Chg) (i : Int) (hv : Chgs w B v l) (hB : B ≤ w.heap.size) (hl : 0 < l.length) :
    Calls Try.prog 16 #[v, .int .i64 i] w fun e w' => (∃ x, e = .returned (locA x) ∧ ShownTo l i l.length x) ∧ Below w.heap.size w w' := by
  obtain ⟨b, o, c, rfl, hb, hc⟩ := hv.cells hl
  obtain ⟨A, c', e, hlc, hcm⟩ := hv.form
  cases e
  unfold maxLen at hcm
  have HC := Lib.hid hc
  obtain ⟨c0, c1, c2, c3⟩ := hc 0 hl
  have HS0 := Lib.hid (show ShownTo l i 0 (l[0]).loc from ⟨0, hl, rfl, .inr rfl, .inr rfl, fun j _ _ h => by omega⟩)
  clear hc hv
  generalize hx0 : (l[0]).loc = x0 at *
  clear hx0
  have hb' : b < w.heap.size := by omega
  rw [Nat.zero_mul, Nat.add_zero] at c0 c1 c2 c3
  go_enter Try.func16, Try.ntmps16
  go_wp2_with fail
  have hx0 := Blk.new (w.alloc (.cells #[.int .i64 0, .bool false, .string ⟨#[]⟩] 32)) 32 #[.int .i64 x0.off, .bool x0.dst, .string x0.abbr]
  have hr0 := (Blk.new w 32 #[.int .i64 0, .bool false, .string ⟨#[]⟩]).alloc (.cells #[.int .i64 x0.off, .bool x0.dst, .string x0.abbr] 32)
  rw [World.size_alloc] at hx0
  obtain ⟨W0, hW0⟩ : ∃ W0, (w.alloc (.cells #[.int .i64 0, .bool false, .string ⟨#[]⟩] 32)).alloc (.cells #[.int .i64 x0.off, .bool x0.dst, .string x0.abbr] 32) = W0 := ⟨_, rfl⟩
  have hb0 : Below w.heap.size w W0 := by rw [← hW0]; exact ((Below.refl _ _).alloc (Nat.le_refl _) _).alloc (by simp) _
  rw [hW0] at hx0 hr0 ⊢
  clear hW0 c0 c1 c2 c3
  go_loopw [6] (fun j wr => ∃ (k : Nat) (x : Loc), k ≤ l.length ∧ j = .int .i64 k ∧ ShownTo l i k x ∧ LocB wr (w.heap.size + 1) x ∧ LocB wr w.heap.size .zero ∧ Below w.heap.size w wr) (fun j _ => l.length - (intOf j).toNat)
  case atStart => exact ⟨0, x0, by omega, rfl, HS0.out, hx0, hr0, hb0⟩
  case round =>
    obtain ⟨k, x, hk, rfl, hs, hxb, hrb, hbw⟩ := hrel
    have HS := Lib.hid hs
    clear hs hx0 hr0 hb0
    obtain ⟨f0, f1, f2⟩ := LocB.cells hxb
    have g0 := Blk.frozen hxb 0
    have g1 := Blk.frozen hxb 1
    have g2 := Blk.frozen hxb 2
    obtain ⟨r0, r1, r2⟩ := LocB.cells hrb
    have q0 := Blk.frozen hrb 0
    have q1 := Blk.frozen hrb 1
    have q2 := Blk.frozen hrb 2
    have HXB := Lib.hid hxb
    have HRB := Lib.hid hrb
    clear hxb hrb
    by_cases hlt : k < l.length
    · obtain ⟨c0, c1, c2, c3⟩ := HC.out k hlt
      have d0 := (hbw.cell (p := ⟨b, o + k * 4, none⟩) hb').trans c0
      have d1 := (hbw.cell (p := ⟨b, o + k * 4 + 1, none⟩) hb').trans c1
      have d2 := (hbw.cell (p := ⟨b, o + k * 4 + 2, none⟩) hb').trans c2
      have d3 := (hbw.cell (p := ⟨b, o + k * 4 + 3, none⟩) hb').trans c3
      clear c0 c1 c2 c3
      have HY := Lib.hid (show (l[k]).at_ ≤ i → ShownTo l i (k + 1) (l[k]).loc from fun h => ⟨k, hlt, rfl, by omega, .inl h, fun j _ h1 h2 => by omega⟩)
      have HN := Lib.hid (show ¬ (l[k]).at_ ≤ i → ShownTo l i (k + 1) x from fun h => by
        obtain ⟨m, hm, rfl, h1, h2, h3⟩ := HS.out
        refine ⟨m, hm, rfl, by omega, h2, fun j hj h4 h5 => ?_⟩
        rcases Nat.lt_or_ge j k with h6 | h6
        · exact h3 j hj h4 h6
        · obtain rfl : j = k := by omega
          omega)
      generalize (l[k]).at_ = a at *
      generalize hy : (l[k]).loc = y at *
      clear hy
      by_cases hle : a ≤ i
      · go_wp2_with fail
        go_roundw
        case rel => exact ⟨k + 1, y, by omega, by go_num, HY.out hle, LocB.set HXB.out y, ((HRB.out.other (by omega) _ _).other (by omega) _ _).other (by omega) _ _, below_set3 hbw (by omega) _ _ _⟩
        case measure => first | (simp [intOf]; done) | (simp [intOf]; omega)
      · go_wp2_with fail
        go_roundw
        case rel => exact ⟨k + 1, x, by omega, by go_num, HN.out hle, HXB.out, HRB.out, hbw⟩
        case measure => first | (simp [intOf]; done) | (simp [intOf]; omega)
    · obtain rfl : k = l.length := by omega
      go_wp2_with fail
      obtain ⟨e0, e1, e2⟩ := LocB.cells (LocB.set HRB.out x)
      exact bodyPost_ret (v := locA x) (by simp [results, Try.results16, go_sem, locA, e0, e1, e2]) rfl ⟨⟨x, rfl, HS.out⟩, below_set3 hbw (Nat.le_refl _) _ _ _⟩
end Go.Proofs.Ytlkpkmdomecopaa
