/-
  Layer 14's law: are two rows of changes one?
-/
import Derived.Test.YtekeaphbmkfogaaGreatDoorTRise
import Derived.Test.YtekeaphbmkfogaaGreatDoorEnv
import Derived.Lib.Hide
import Derived.IntWalk
import Derived.Lib.Strings
namespace Go.Proofs.YtekeaphbmkfogaaGreatDoor
open Go Go.RowKit
set_option maxRecDepth 100000

/-- Whether two changes are one, as the walk says it. -/
def chgEq (c d : Chg) : Bool := decide (c.at_ = d.at_ ∧ c.loc.off = d.loc.off ∧ c.loc.dst = d.loc.dst ∧ c.loc.abbr.toList = d.loc.abbr.toList)
def SameTo (l m : List Chg) (k : Nat) : Prop := ∀ i (h : i < l.length) (h' : i < m.length), i < k → chgEq l[i] m[i] = true
def sameB (l m : List Chg) : Bool := decide (l.length = m.length) && decide (∀ i : _root_.Fin l.length, ∀ h : i.1 < m.length, chgEq l[i.1] m[i.1] = true)
theorem SameTo.next {l m : List Chg} {k : Nat} {x y : Chg} {hl : k < l.length} {hm : k < m.length} (h : SameTo l m k) (hx : l[k] = x) (hy : m[k] = y) (hq : chgEq x y = true) : SameTo l m (k + 1) := by
  intro i h1 h2 hi
  by_cases hik : i = k
  · subst hik; rw [hx, hy]; exact hq
  · exact h i h1 h2 (by omega)
theorem same_no {l m : List Chg} {k : Nat} {x y : Chg} {hl : k < l.length} {hm : k < m.length} (hx : l[k] = x) (hy : m[k] = y) (hq : chgEq x y = false) : sameB l m = false := by
  unfold sameB
  rw [Bool.and_eq_false_iff]
  right
  refine decide_eq_false fun h => ?_
  have := h ⟨k, hl⟩ hm
  rw [show l[(⟨k, hl⟩ : _root_.Fin l.length).1] = x from hx, hy, hq] at this
  cases this
theorem same_yes {l m : List Chg} (hlen : l.length = m.length) (h : ∀ i (h : i < l.length) (h' : i < m.length), chgEq l[i] m[i] = true) : sameB l m = true := by
  unfold sameB
  rw [decide_eq_true hlen, Bool.true_and, decide_eq_true_eq]
  exact fun i h' => h i.1 i.2 h'
theorem same_len {l m : List Chg} (h : ¬ l.length = m.length) : sameB l m = false := by unfold sameB; rw [decide_eq_false h]; rfl
theorem chgEq_iff {c d : Chg} : chgEq c d = true ↔ c = d := by
  unfold chgEq
  rw [decide_eq_true_eq]
  constructor
  · rintro ⟨h1, h2, h3, h4⟩
    obtain ⟨a, o, b, ⟨s⟩⟩ := c
    obtain ⟨a', o', b', ⟨s'⟩⟩ := d
    simp only at h1 h2 h3 h4
    subst h1 h2 h3
    have e : (⟨s⟩ : ByteArray) = ⟨s'⟩ := by
      rw [Lib.toList_data, Lib.toList_data] at h4
      have : s = s' := Array.toList_inj.1 h4
      rw [this]
    rw [e]
  · rintro rfl; exact ⟨rfl, rfl, rfl, rfl⟩
theorem sameB_iff {l m : List Chg} : sameB l m = true ↔ l = m := by
  constructor
  · intro h
    unfold sameB at h
    rw [Bool.and_eq_true, decide_eq_true_eq, decide_eq_true_eq] at h
    exact List.ext_getElem h.1 fun i h1 h2 => chgEq_iff.1 (h.2 ⟨i, h1⟩ h2)
  · rintro rfl
    exact same_yes rfl fun i h h' => chgEq_iff.2 rfl
set_option maxHeartbeats 1000000 in
theorem same_any (w : World) (B : Nat) (v u : Value) (l m : List Chg) (hv : Chgs w B v l) (hu : Chgs w B u m) (hB : B ≤ w.heap.size) :
    Calls Tryz.prog 17 #[v, u] w fun e w' => e = .returned (.bool (sameB l m)) ∧ Below w.heap.size w w' := by
  obtain ⟨A, c, rfl, hlc, hcm⟩ := hv.form
  obtain ⟨A2, c2, rfl, hlc2, hcm2⟩ := hu.form
  unfold maxLen at hcm hcm2
  have HV := Lib.hid hv
  have HU := Lib.hid hu
  clear hv hu
  by_cases hlen : l.length = m.length
  · have HL := Lib.hid hlen
    rw [← hlen] at HU ⊢
    clear hlen hlc2
    go_enter Tryz.func17, Tryz.ntmps17
    go_wp2_with fail
    go_loopw [5] (fun i wr => ∃ k : Nat, k ≤ l.length ∧ i = .int .i64 k ∧ SameTo l m k ∧ Below w.heap.size w wr) (fun i _ => l.length - (intOf i).toNat)
    case atStart => exact ⟨0, Nat.zero_le _, rfl, fun i _ _ h => by omega, Below.refl _ _⟩
    case round =>
      obtain ⟨k, hk, rfl, hr, hb⟩ := hrel
      have HR := Lib.hid hr
      clear hr
      by_cases hlt : k < l.length
      · obtain ⟨b, o, c', e, -, hc⟩ := HV.out.cells (by omega)
        cases e
        have hmk : k < m.length := by rw [← HL.out]; exact hlt
        obtain ⟨b2, o2, c2', e, -, hc2⟩ := HU.out.cells (by omega)
        rw [← HL.out] at e
        cases e
        clear hc hc2
        have hl0 : 0 < l.length := by omega
        have hm0 : 0 < m.length := by omega
        have HB := Lib.hid hb
        clear hb
        have HC := Lib.hid (fun (W : World) (h : Below wr.heap.size wr W) => show (_ ∧ _ ∧ _ ∧ _) ∧ (_ ∧ _ ∧ _ ∧ _) by
          have hbW := (HB.out.trans (h.mono HB.out.size)).mono hB
          obtain ⟨_, _, _, e1, -, h1⟩ := (HV.out.below hbW).cells hl0
          cases e1
          obtain ⟨_, _, _, e2, -, h2⟩ := (HU.out.below hbW).cells hm0
          rw [← HL.out] at e2
          cases e2
          exact ⟨h1 k hlt, h2 k hmk⟩)
        obtain ⟨x, hx⟩ : ∃ x, l[k] = x := ⟨_, rfl⟩
        obtain ⟨y, hy⟩ : ∃ y, m[k] = y := ⟨_, rfl⟩
        rw [hx, hy] at HC
        have HX := Lib.hid hx
        have HY := Lib.hid hy
        clear hx hy
        go_wp2_with fail
        cases hq : chgEq x y
        · have HQ := Lib.hid hq
          clear hq
          refine wp_env (fin := ?fnA) (by kernel_rfl) [17, 18, 19, 20, 21, 22, 23, 24, 25]
            [.slice (some ⟨b, o, none⟩) l.length c, .int .i64 k, .pointer (some ⟨b, o + k * 4, none⟩), chgA x, .slice (some ⟨b2, o2, none⟩) l.length c2, .int .i64 k, .pointer (some ⟨b2, o2 + k * 4, none⟩), chgA y, .bool true] (by kernel_rfl) ?finA ?stepsA ?nextA
          case finA =>
            simp only [putAll, Act.put, List.setIfInBounds_toArray, List.set_cons_succ, List.set_cons_zero]
            rfl
          case stepsA =>
            unfold chgA
            refine ⟨?_, ?_, ?_, ?_, ?_, ?_, ?_, ?_, ?_, trivial⟩
            all_goals
              refine .inr ⟨by kernel_rfl, fun w1_ hB_ => ?_⟩
              obtain ⟨⟨c0, c1, c2_, c3⟩, ⟨d0, d1, d2, d3⟩⟩ := HC.out w1_ hB_
              go_simp
              first
                | exact ⟨rfl, Below.refl _ _⟩
                | (have hq := HQ.out
                   unfold chgEq at hq
                   simp only [decide_eq_true_eq, decide_eq_false_iff_not] at hq
                   repeat' split
                   all_goals first | exact ⟨rfl, Below.refl _ _⟩ | (exfalso; simp_all; done))
          case nextA =>
          intro w2 hb2
          have hb3 := HB.out.trans (hb2.mono HB.out.size)
          clear hb2
          go_wp2_with fail
          go_ret
          exact ⟨by rw [same_no (HX.out) (HY.out) HQ.out]; rfl, hb3⟩
        · have HQ := Lib.hid hq
          clear hq
          refine wp_env (fin := ?fnB) (by kernel_rfl) [17, 18, 19, 20, 21, 22, 23, 24, 25]
            [.slice (some ⟨b, o, none⟩) l.length c, .int .i64 k, .pointer (some ⟨b, o + k * 4, none⟩), chgA x, .slice (some ⟨b2, o2, none⟩) l.length c2, .int .i64 k, .pointer (some ⟨b2, o2 + k * 4, none⟩), chgA y, .bool false] (by kernel_rfl) ?finB ?stepsB ?nextB
          case finB =>
            simp only [putAll, Act.put, List.setIfInBounds_toArray, List.set_cons_succ, List.set_cons_zero]
            rfl
          case stepsB =>
            unfold chgA
            refine ⟨?_, ?_, ?_, ?_, ?_, ?_, ?_, ?_, ?_, trivial⟩
            all_goals
              refine .inr ⟨by kernel_rfl, fun w1_ hB_ => ?_⟩
              obtain ⟨⟨c0, c1, c2_, c3⟩, ⟨d0, d1, d2, d3⟩⟩ := HC.out w1_ hB_
              go_simp
              first
                | exact ⟨rfl, Below.refl _ _⟩
                | (have hq := HQ.out
                   unfold chgEq at hq
                   simp only [decide_eq_true_eq, decide_eq_false_iff_not] at hq
                   repeat' split
                   all_goals first | exact ⟨rfl, Below.refl _ _⟩ | (exfalso; simp_all; done))
          case nextB =>
          intro w2 hb2
          have hb3 := HB.out.trans (hb2.mono HB.out.size)
          clear hb2
          go_wp2_with fail
          go_roundw
          case rel => exact ⟨k + 1, by omega, by go_num, SameTo.next HR.out HX.out HY.out HQ.out, hb3⟩
          case measure => first | (simp [intOf]; done) | (simp [intOf]; omega)
      · have HS := Lib.hid (same_yes HL.out (fun i h h' => HR.out i h h' (by omega)))
        go_wp2_with fail
        go_ret
        exact ⟨by rw [HS.out]; rfl, hb⟩
  · have HS := Lib.hid (same_len hlen)
    go_enter Tryz.func17, Tryz.ntmps17
    go_wp2_with fail
    go_ret
    exact ⟨by rw [HS.out]; rfl, Below.refl _ _⟩
end Go.Proofs.YtekeaphbmkfogaaGreatDoor
