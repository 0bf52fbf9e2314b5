/-
  Layer 8 walked: which date a day of a month is.
-/
import Derived.Test.YtfbkkhfmboaknaaGreatDoorCivilD
import Derived.Test.YtfbkkhfmboaknaaGreatDoorCivilE
import Derived.Test.YtfbkkhfmboaknaaGreatDoorFrmS
namespace Go.Proofs.YtfbkkhfmboaknaaGreatDoor
open Go Go.RowKit Go.Shelf
attribute [local go_sem] Oper.semAt_some
set_option maxRecDepth 100000

/-- The day of the week that is sought, from a day on, upwards or downwards. -/
def seekV (a st wk : Int) : Int := if st = 1 then a + (wk - weekV a) % 7 else a - (weekV a - wk) % 7
/-- From which day on it is sought. -/
def inDay0 (k n y m : Int) : Int := dayV y m (if k = 1 then lenV y m else n)
/-- Which day it is. -/
def inDay (k wk n y m : Int) : Int := if k = 0 then dayV y m n else if k = 2 then seekV (dayV y m n) 1 wk else seekV (dayV y m (if k = 1 then lenV y m else n)) (-1) wk
/-- Is there a day? -/
def inB (k wk n y m : Int) : Bool := dayOkB k wk n && ymB y m && decide (n ≤ lenV y m)
def ofInB (n : Int) : Bool := decide (-37243778 ≤ n ∧ n < 35805088)
def ofA (n : Int) : Value := if ofInB n then dateA (ofYear n) (ofMon n) (ofDay n) else dateA 0 0 0
def ofE_ (n : Int) : Int := if ofInB n then 0 else 10
theorem weekV_add (a k : Int) : weekV (a + k) = (weekV a + k) % 7 := by unfold weekV; omega
theorem seek_spec {a st wk : Int} (hst : st = 1 ∨ st = -1) (h1 : 0 ≤ wk) (h2 : wk < 7) : ∃ k : Nat, k < 7 ∧ seekV a st wk = a + st * k ∧ weekV (a + st * k) = wk ∧ ∀ j : Nat, j < k → weekV (a + st * j) ≠ wk := by
  have hw := weekV_in a
  rcases hst with rfl | rfl
  · refine ⟨((wk - weekV a) % 7).toNat, by omega, ?_, ?_, fun j hj => ?_⟩
    · unfold seekV
      rw [if_pos rfl, Int.one_mul]
      omega
    · rw [Int.one_mul, weekV_add]
      omega
    · rw [Int.one_mul, weekV_add]
      omega
  · refine ⟨((weekV a - wk) % 7).toNat, by omega, ?_, ?_, fun j hj => ?_⟩
    · unfold seekV
      rw [if_neg (by omega)]
      omega
    · rw [show a + -1 * (((weekV a - wk) % 7).toNat : Int) = a + (-(((weekV a - wk) % 7).toNat : Int)) by omega, weekV_add]
      omega
    · rw [show a + -1 * (j : Int) = a + (-(j : Int)) by omega, weekV_add]
      omega
/-- The loop's variables: the day's form, the answer, the day that is looked at. -/
def SeekI (n fb : Nat) (k wk N : Int) (f : Nat → Int) (pre : List Nat) (O : Nat → Prop) (W : World) : Prop :=
  (O n ∧ O (n + 1) ∧ O fb) ∧ Blk W n 48 #[.int .i64 k, .int .i64 wk, .int .i64 N] ∧ Blk W (n + 1) 78 #[.int .i64 0, .int .i64 0, .int .i64 0] ∧ (∃ v, Blk W fb 3 #[.int .i64 v]) ∧ ∀ j, j < pre.length → weekV (f j) ≠ wk
def SeekP (n fb : Nat) (k wk N : Int) (f : Nat → Int) (pre : List Nat) (x : Nat) (O : Nat → Prop) (W : World) : Prop :=
  (O n ∧ O (n + 1) ∧ O fb) ∧ Blk W n 48 #[.int .i64 k, .int .i64 wk, .int .i64 N] ∧ Blk W (n + 1) 78 #[.int .i64 0, .int .i64 0, .int .i64 0] ∧ Blk W fb 3 #[.int .i64 (f x)] ∧ ∀ j, j < pre.length → weekV (f j) ≠ wk
def SeekX (n fb : Nat) (k wk N : Int) (f : Nat → Int) (c : Code) (_ : List Nat) (O : Nat → Prop) (W : World) : Prop :=
  c = .exit 1 ∧ (O n ∧ O (n + 1) ∧ O fb) ∧ Blk W n 48 #[.int .i64 k, .int .i64 wk, .int .i64 N] ∧ Blk W (n + 1) 78 #[.int .i64 0, .int .i64 0, .int .i64 0] ∧ ∃ j, Blk W fb 3 #[.int .i64 (f j)] ∧ weekV (f j) = wk ∧ ∀ i, i < j → weekV (f i) ≠ wk
theorem seekI_feet (n fb : Nat) (k wk N : Int) (f : Nat → Int) : Feet (SeekI n fb k wk N f) := by
  rintro pre O W W' ⟨⟨o0, o1, o2⟩, h0, h1, ⟨v, h2⟩, hs⟩ hf
  exact ⟨⟨o0, o1, o2⟩, h0.fr hf (fun h => h o0), h1.fr hf (fun h => h o1), ⟨v, h2.fr hf (fun h => h o2)⟩, hs⟩
theorem seekP_feet (n fb : Nat) (k wk N : Int) (f : Nat → Int) (x : Nat) : Feet (fun pre => SeekP n fb k wk N f pre x) := by
  rintro pre O W W' ⟨⟨o0, o1, o2⟩, h0, h1, h2, hs⟩ hf
  exact ⟨⟨o0, o1, o2⟩, h0.fr hf (fun h => h o0), h1.fr hf (fun h => h o1), h2.fr hf (fun h => h o2), hs⟩
theorem seekX_feet (n fb : Nat) (k wk N : Int) (f : Nat → Int) (c : Code) : Feet (SeekX n fb k wk N f c) := by
  rintro pre O W W' ⟨hc, ⟨o0, o1, o2⟩, h0, h1, j, h2, hs⟩ hf
  exact ⟨hc, ⟨o0, o1, o2⟩, h0.fr hf (fun h => h o0), h1.fr hf (fun h => h o1), j, h2.fr hf (fun h => h o2), hs⟩
set_option maxHeartbeats 4000000 in
theorem in_last (wk n y m : Int) (w : World) (ha : Ahead w) (h : inB 1 wk n y m = true) :
    Calls Tryz.prog 59 #[dayA 1 wk n, .int .i64 y, .int .i64 m] w fun e w' => e = .returned (.tuple #[ofA (inDay 1 wk n y m), .int .i64 (ofE_ (inDay 1 wk n y m))]) ∧ Below w.heap.size w w' := by
  unfold inB at h
  simp only [Bool.and_eq_true, decide_eq_true_eq] at h
  obtain ⟨⟨hok, hym⟩, hnl⟩ := h
  have hwk : 0 ≤ wk ∧ wk < 7 := by
    have h := hok
    unfold dayOkB at h
    rw [decide_eq_true_eq] at h
    omega
  have HL0 := show longV y m = (lenV y m, 0) by unfold longV; rw [if_pos hym]
  unfold dayA
  refine (callsIn_wide (n := 8)).1 ?_
  refine callsIn_of_wp_marks Tryz.func59 rfl trivial ?_ rfl
  simp only [Tryz.ntmps59, List.size_toArray, List.length_cons, List.length_nil, Nat.reduceAdd, Nat.reduceSub, Array.replicate_succ, Array.replicate_zero, List.push_toArray, List.append_toArray, List.nil_append, List.cons_append]
  gi_wp2
  obtain ⟨W0, hW0⟩ : ∃ W, (w.alloc (.cells #[.int .i64 1, .int .i64 wk, .int .i64 n] 48)).alloc (.cells #[.int .i64 0, .int .i64 0, .int .i64 0] 78) = W := ⟨_, rfl⟩
  obtain ⟨b0, b1, hb0, hs0⟩ := blks2 w _ _ _ _ W0 hW0
  rw [hW0]
  clear hW0
  have HC := Lib.hid (dfcheck_any 1 wk n W0)
  rw [if_pos hok] at HC
  have HB0 := Lib.hid (And.intro hb0 (And.intro b0 b1))
  have q0 := b0.cell 0 (v := .int .i64 1) rfl
  have q1 := b0.cell 1 (v := .int .i64 wk) rfl
  have q2 := b0.cell 2 (v := .int .i64 n) rfl
  clear hb0 b0 b1
  unfold dayA at HC
  refine wpIn_scope ?_
  gi_wp2
  refine ⟨trivial, (callsIn_wide.2 HC.out).mono ?_⟩
  rintro e w1 ⟨rfl, hb⟩
  have HB1 := Lib.hid (show Below w.heap.size w w1 ∧ Blk w1 w.heap.size 48 #[.int .i64 1, .int .i64 wk, .int .i64 n] ∧ Blk w1 (w.heap.size + 1) 78 #[.int .i64 0, .int .i64 0, .int .i64 0] from ⟨HB0.out.1.trans (hb.mono HB0.out.1.size), HB0.out.2.1.below hb HB0.out.2.1.lt, HB0.out.2.2.below hb HB0.out.2.2.lt⟩)
  clear hb HB0 HC q0 q1 q2
  have HL := Lib.hid (long_any y m w1 (ha.below HB1.out.1 (Nat.le_refl _)))
  rw [HL0] at HL
  gi_wp2
  refine ⟨trivial, (callsIn_wide.2 HL.out).mono ?_⟩
  rintro e w2 ⟨rfl, q, rfl⟩
  have HB2 := Lib.hid (show Below w.heap.size w (w1.drewN q) ∧ Blk (w1.drewN q) w.heap.size 48 #[.int .i64 1, .int .i64 wk, .int .i64 n] ∧ Blk (w1.drewN q) (w.heap.size + 1) 78 #[.int .i64 0, .int .i64 0, .int .i64 0] from ⟨below_drewN HB1.out.1 q, HB1.out.2.1.drewN q, HB1.out.2.2.drewN q⟩)
  obtain ⟨W2, hW2⟩ : ∃ W, w1.drewN q = W := ⟨_, rfl⟩
  rw [hW2] at HB2 ⊢
  clear hW2 HL HB1
  have q0 := HB2.out.2.1.cell 0 (v := .int .i64 1) rfl
  have q1 := HB2.out.2.1.cell 1 (v := .int .i64 wk) rfl
  have q2 := HB2.out.2.1.cell 2 (v := .int .i64 n) rfl
  have HD := Lib.hid (days_any y m (lenV y m) W2 (ha.below HB2.out.1 (Nat.le_refl _)))
  have hdb : dateB y m (lenV y m) = true := by
    unfold dateB
    rw [hym]
    unfold dayOkB at hok
    simp only [decide_eq_true_eq] at hok
    have hlen := lenV_in (y := y) (m := m) (by unfold ymB at hym; rw [decide_eq_true_eq] at hym; exact hym.2.2.1) (by unfold ymB at hym; rw [decide_eq_true_eq] at hym; exact hym.2.2.2)
    simp
    omega
  rw [if_pos hdb] at HD
  have hdr := dayV_in hdb
  obtain ⟨a0, ha0⟩ : ∃ a0, dayV y m (lenV y m) = a0 := ⟨_, rfl⟩
  rw [ha0] at HD hdr
  have HA := Lib.hid ha0
  clear ha0
  unfold dateA at HD
  gi_wp2
  refine ⟨trivial, (callsIn_wide.2 HD.out).mono ?_⟩
  rintro e w3 ⟨rfl, hb⟩
  have HB3 := Lib.hid (show Below w.heap.size w w3 ∧ Blk w3 w.heap.size 48 #[.int .i64 1, .int .i64 wk, .int .i64 n] ∧ Blk w3 (w.heap.size + 1) 78 #[.int .i64 0, .int .i64 0, .int .i64 0] from ⟨HB2.out.1.trans (hb.mono HB2.out.1.size), HB2.out.2.1.below hb HB2.out.2.1.lt, HB2.out.2.2.below hb HB2.out.2.2.lt⟩)
  clear hb HB2 HD q0 q1 q2
  gi_wp2
  refine wpIn_label ?_
  have hsz := HB3.out.2.2.lt
  have hb4 : Below w.heap.size w (w3.alloc (.cells #[.int .i64 a0] 3)) := HB3.out.1.alloc HB3.out.1.size _
  have hf4 := Blk.new w3 3 #[.int .i64 a0]
  have HB4 := Lib.hid (show Below w.heap.size w (w3.alloc (.cells #[.int .i64 a0] 3)) ∧ Blk (w3.alloc (.cells #[.int .i64 a0] 3)) w.heap.size 48 #[.int .i64 1, .int .i64 wk, .int .i64 n] ∧ Blk (w3.alloc (.cells #[.int .i64 a0] 3)) (w.heap.size + 1) 78 #[.int .i64 0, .int .i64 0, .int .i64 0] ∧ Blk (w3.alloc (.cells #[.int .i64 a0] 3)) w3.heap.size 3 #[.int .i64 a0] from ⟨hb4, HB3.out.2.1.alloc _, HB3.out.2.2.alloc _, hf4⟩)
  obtain ⟨W4, hW4⟩ : ∃ W, w3.alloc (.cells #[.int .i64 a0] 3) = W := ⟨_, rfl⟩
  rw [hW4] at HB4 ⊢
  have hs4 : w3.heap.size < W4.heap.size := by rw [← hW4]; simp
  generalize w3.heap.size = fb at *
  clear hW4 hb4 hf4 HB3
  have HFM := Lib.hid (from_any a0 (-1) W4)
  obtain ⟨f, hf⟩ : ∃ f : Nat → Int, ∀ k, f k = a0 + (-1) * (k : Int) := ⟨fun k => a0 + (-1) * (k : Int), fun _ => rfl⟩
  have HF := Lib.hid hf
  have hf0 : f 0 = a0 := by rw [hf]; simp
  have HF0 := Lib.hid hf0
  clear hf hf0
  gi_wp2
  refine ⟨trivial, (callsIn_wide.2 HFM.out).mono ?_⟩
  rintro e W5 ⟨rfl, hb5, hs5, hd5, hst5⟩
  have HB5 := Lib.hid (show Below w.heap.size w W5 ∧ SeekI w.heap.size fb 1 wk n f [] (fun k => k = w.heap.size ∨ k = w.heap.size + 1 ∨ k = fb) W5 from ⟨HB4.out.1.trans (hb5.mono HB4.out.1.size), ⟨.inl rfl, .inr (.inl rfl), .inr (.inr rfl)⟩, HB4.out.2.1.below hb5 HB4.out.2.1.lt, HB4.out.2.2.1.below hb5 HB4.out.2.2.1.lt, ⟨a0, HB4.out.2.2.2.below hb5 HB4.out.2.2.2.lt⟩, fun j hj => by simp at hj⟩)
  have HD5 := Lib.hid (And.intro hd5 hst5)
  have hw5 := HB5.out.1.size
  clear hb5 HB4 HFM hd5 hst5
  gi_wp2
  refine range_own_set (α := Nat) rfl (by omega) (gf := 122) (lb := #[.pointer (some ⟨W4.heap.size, 0, none⟩), .pointer (some ⟨W4.heap.size + 1, 0, none⟩)]) rfl trivial (enters_of Tryz.func122 (by kernel_rfl) rfl)
    (encs := encD f) (K := fun k => k = W4.heap.size ∨ k = W4.heap.size + 1)
    (fun W hW => from1_iter 7 (by omega) _ _ f (-1) W (fun k => by rw [HF.out, HF.out]; omega) (fun k hk => by rw [HF.out]; omega) (by omega) (by rw [HF0.out]; exact HD5.out.1.below hW HD5.out.1.lt) (HD5.out.2.below hW HD5.out.2.lt) (by omega))
    (fun _ => rfl) (SeekI w.heap.size fb 1 wk n f) (SeekX w.heap.size fb 1 wk n f) (seekI_feet _ _ _ _ _ _) (seekX_feet _ _ _ _ _ _) (SeekP w.heap.size fb 1 wk n f) (seekP_feet _ _ _ _ _ _)
    (fun k => k = w.heap.size ∨ k = w.heap.size + 1 ∨ k = fb) HB5.out.2 (fun k hk => by omega) (fun k hk => by omega) (fun k hk h => by omega) ?round ?done ?stop
  case round =>
    intro lp pre x O D W hI hBO hBD hDO hR nOl nDl hlow hltl
    obtain ⟨hnD, rfl, hx7⟩ := hR
    unfold encD
    obtain ⟨⟨o0, o1, o2⟩, h0, h1, ⟨v, h2⟩, hs⟩ := hI
    have q0 := h2.cell 0 (v := .int .i64 v) rfl
    have qf := h2.frozen 0
    have HW := Lib.hid (show (Fr O W (W.setCell ⟨fb, 0, none⟩ (.int .i64 (f pre.length))) ∧ SeekP w.heap.size fb 1 wk n f pre pre.length O (W.setCell ⟨fb, 0, none⟩ (.int .i64 (f pre.length)))) ∧ Bd O W from ⟨⟨Fr.setCell W 0 _ o2, ⟨o0, o1, o2⟩, h0.other (by omega) 0 _, h1.other (by omega) 0 _, h2.set 0 _, hs⟩, hBO⟩)
    clear h0 h1 h2 hs hBO hBD hDO
    gi_wp2
    refine ⟨HW.out.1, ?_⟩
    intro Wb hfb hIb _
    have HBW := Lib.hid ((HW.out.2.fr HW.out.1.1).fr hfb)
    have HIB := Lib.hid hIb
    have HWK := Lib.hid (fun W => weekday_any (f pre.length) W)
    have HZ := Lib.hid (show leftO (SeekI w.heap.size fb 1 wk n f) (SeekX w.heap.size fb 1 wk n f) (pre ++ [pre.length]) O D Wb = leftO (SeekI w.heap.size fb 1 wk n f) (SeekX w.heap.size fb 1 wk n f) (pre ++ [pre.length]) O D Wb from rfl)
    have HLF := Lib.hid (show ∀ W, Below Wb.heap.size Wb W → (weekV (f pre.length) ≠ wk → leftO (SeekI w.heap.size fb 1 wk n f) (SeekX w.heap.size fb 1 wk n f) (pre ++ [pre.length]) O D Wb .normal ⟨#[], []⟩ W) ∧ (weekV (f pre.length) = wk → leftO (SeekI w.heap.size fb 1 wk n f) (SeekX w.heap.size fb 1 wk n f) (pre ++ [pre.length]) O D Wb (.exit 1) ⟨#[], []⟩ W) from fun W hbW => by
      obtain ⟨oo, h0, h1, h2, hs⟩ := HIB.out
      have g0 := h0.below hbW h0.lt
      have g1 := h1.below hbW h1.lt
      have g2 := h2.below hbW h2.lt
      have hF : ∀ T, Fr T Wb W := fun T => Fr.of_below hbW (Nat.le_refl _)
      refine ⟨fun hne => ⟨O, fun k h => .inl h, HBW.out.fr (hF (fun _ => True)), hF _, oo, g0, g1, ⟨_, g2⟩, fun j hj => ?_⟩, fun he => ⟨O, fun k h => .inl h, HBW.out.fr (hF (fun _ => True)), hF _, rfl, oo, g0, g1, pre.length, g2, he, hs⟩⟩
      rw [List.length_append, List.length_singleton] at hj
      rcases Nat.lt_or_ge j pre.length with h | h
      · exact hs j h
      · rw [show j = pre.length by omega]
        exact hne)
    obtain ⟨-, h0, h1, h2, hs⟩ := hIb
    have q0 := h2.cell 0 (v := .int .i64 (f pre.length)) rfl
    have q1 := h0.cell 1 (v := .int .i64 wk) rfl
    have HQ := Lib.hid (fun W (hb : Below Wb.heap.size Wb W) => show W.cell? ⟨fb, 0, none⟩ = some (.int .i64 (f pre.length)) ∧ W.cell? ⟨w.heap.size, 1, none⟩ = some (.int .i64 wk) from ⟨(h2.below hb h2.lt).cell 0 rfl, (h0.below hb h0.lt).cell 1 rfl⟩)
    clear h0 h1 h2 hs HW qf HB5 HD5
    generalize f pre.length = z at *
    generalize weekV z = wz at *
    by_cases hw : wz = wk
    · have HRES := Lib.hid (fun W hb => (HLF.out W hb).2 hw)
      clear HLF
      have hw' := hw.symm
      subst hw'
      gi_wp2
      refine wpIn_env (fin := ?fnT) (wide1 lp) (by kernel_rfl) [65, 66, 67, 68, 69]
        [.int .i64 z, .int .i64 wk, .pointer (some ⟨w.heap.size, 1, none⟩), .int .i64 wk, .bool true] (by kernel_rfl) ?finT ?stepsT ?nextT
      case finT =>
        simp only [putAll, Act.put, List.setIfInBounds_toArray, List.set_cons_succ, List.set_cons_zero]
        rfl
      case stepsT =>
        refine ⟨.inr ⟨by kernel_rfl, fun w1_ hB_ => ?_⟩, .inr ⟨by kernel_rfl, fun w1_ hB_ => ?_⟩, .inr ⟨by kernel_rfl, fun w1_ hB_ => ?_⟩, .inr ⟨by kernel_rfl, fun w1_ hB_ => ?_⟩, .inr ⟨by kernel_rfl, fun w1_ hB_ => ?_⟩, trivial⟩
        all_goals
          obtain ⟨c0, c1⟩ := HQ.out w1_ hB_
          clear hB_
          go_simp
          first
            | exact ⟨rfl, Below.refl _ _⟩
            | exact ⟨rfl, (HWK.out w1_).mono fun e w' h => ⟨h.1, by rw [h.2]; exact Below.refl _ _⟩⟩
            | done
      case nextT =>
      intro w7 hb7
      have HR := HRES.out w7 hb7
      clear hb7 HRES
      gi_wp2
      exact HR
    · have HRES := Lib.hid (fun W hb => (HLF.out W hb).1 hw)
      have hw2 : (wz == wk) = false := by simpa using hw
      clear HLF
      gi_wp2
      refine wpIn_env (fin := ?fnF) (wide1 lp) (by kernel_rfl) [65, 66, 67, 68, 69]
        [.int .i64 z, .int .i64 wz, .pointer (some ⟨w.heap.size, 1, none⟩), .int .i64 wk, .bool false] (by kernel_rfl) ?finF ?stepsF ?nextF
      case finF =>
        simp only [putAll, Act.put, List.setIfInBounds_toArray, List.set_cons_succ, List.set_cons_zero]
        rfl
      case stepsF =>
        refine ⟨.inr ⟨by kernel_rfl, fun w1_ hB_ => ?_⟩, .inr ⟨by kernel_rfl, fun w1_ hB_ => ?_⟩, .inr ⟨by kernel_rfl, fun w1_ hB_ => ?_⟩, .inr ⟨by kernel_rfl, fun w1_ hB_ => ?_⟩, .inr ⟨by kernel_rfl, fun w1_ hB_ => ?_⟩, trivial⟩
        all_goals
          obtain ⟨c0, c1⟩ := HQ.out w1_ hB_
          clear hB_
          go_simp
          first
            | exact ⟨rfl, Below.refl _ _⟩
            | exact ⟨rfl, (HWK.out w1_).mono fun e w' h => ⟨h.1, by rw [h.2]; exact Below.refl _ _⟩⟩
            | done
      case nextF =>
      intro w7 hb7
      have HR := HRES.out w7 hb7
      clear hb7 HRES
      gi_wp2
      exact HR
  case stop =>
    rintro D c pre O W hD - ⟨rfl, ⟨o0, o1, o2⟩, h0, h1, j, h2, hj, hjn⟩ hO hBO hOD hfr hK
    have hv : f j = inDay 1 wk n y m := by
      obtain ⟨k, h1, h3, h4, h5⟩ := seek_spec (a := a0) (st := -1) (wk := wk) (by omega) hwk.1 hwk.2
      rcases Nat.lt_trichotomy j k with h | h | h
      · exact absurd (by rw [HF.out] at hj; exact hj) (h5 j h)
      · subst h
        rw [HF.out, ← h3]
        have e := HA.out
        unfold inDay
        simp
        rw [e]
      · exact absurd (by rw [HF.out]; exact h4) (hjn k h)
    have HV := Lib.hid hv
    clear hv hj hjn
    have hsw := hfr.size
    have hW := HB5.out.1.trans (hfr.below hw5 (fun k hk h => by rcases h with h | h <;> omega))
    have HBW := Lib.hid hW
    have haW : Ahead W := fun k hk => by
      have h := (ha.below HB5.out.1 (Nat.le_refl _)) k hk
      have hlt := World.block_lt_of_cell? w _ (ha k hk)
      exact (hfr.cell (p := ⟨0, k, none⟩) (Nat.lt_of_lt_of_le hlt hw5) (fun h => by rcases h with h | h <;> simp at h hlt <;> omega)).trans h
    have HOF := Lib.hid (show Calls Tryz.prog 48 #[.int .i64 (f j)] W fun e w' => e = .returned (.tuple #[ofA (f j), .int .i64 (ofE_ (f j))]) ∧ Below W.heap.size W w' by
      unfold ofA ofE_ ofInB
      by_cases hin : -37243778 ≤ f j ∧ f j < 35805088
      · simp only [hin, decide_true, if_true, and_self]
        exact of_any (f j) hin.1 hin.2 W haW
      · simp only [hin, decide_false]
        exact of_out (f j) hin W)
    have q0 := h2.cell 0 (v := .int .i64 (f j)) rfl
    obtain ⟨Y, M, D2, hofa⟩ : ∃ Y M D2, ofA (f j) = .agg #[.int .i64 Y, .int .i64 M, .int .i64 D2] := by
      unfold ofA dateA
      split <;> exact ⟨_, _, _, rfl⟩
    rw [hofa] at HOF
    have HOA := Lib.hid hofa
    obtain ⟨E, hE⟩ : ∃ E, ofE_ (f j) = E := ⟨_, rfl⟩
    rw [hE] at HOF
    have HE := Lib.hid hE
    have H1 := Lib.hid h1
    have HK := Lib.hid hK
    have hDW : D < W.heap.size := (Array.getElem?_eq_some_iff.1 hK).1
    clear hofa hE h0 h1 h2 haW hW hfr hK HB5 HD5 hO hBO
    generalize f j = z at *
    gi_wp2
    refine ⟨trivial, (callsIn_wide.2 HOF.out).mono ?_⟩
    rintro e W6 ⟨rfl, hb6⟩
    have h6 := H1.out.below hb6 H1.out.lt
    have hK6 := (hb6.block D hDW).trans HK.out
    have HB6 := Lib.hid (HBW.out.trans (hb6.mono HBW.out.size))
    have r0 := h6.cell 0 (v := .int .i64 0) rfl
    have r1 := h6.cell 1 (v := .int .i64 0) rfl
    have r2 := h6.cell 2 (v := .int .i64 0) rfl
    have g0 := h6.frozen 0
    have g1 := h6.frozen 1
    have g2 := h6.frozen 2
    have HR := Lib.hid (((h6.set 0 (.int .i64 Y)).set 1 (.int .i64 M)).set 2 (.int .i64 D2))
    have HKD := Lib.hid (show (((W6.setCell ⟨w.heap.size + 1, 0, none⟩ (.int .i64 Y)).setCell ⟨w.heap.size + 1, 1, none⟩ (.int .i64 M)).setCell ⟨w.heap.size + 1, 2, none⟩ (.int .i64 D2)).heap[D]? = some (.deferred (some [])) from (fr_set3 (T := fun k => k = w.heap.size + 1) W6 rfl _ _ _).at_ hK6 (by omega))
    have HBL := Lib.hid (below_set3 HB6.out (show w.heap.size ≤ w.heap.size + 1 by omega) (.int .i64 Y) (.int .i64 M) (.int .i64 D2))
    clear hb6 h6 hK6 HOF HK q0
    gi_wp2
    refine ⟨by simp, .inl ⟨_, _, rfl, run_takeDeferred HKD.out, ?_⟩⟩
    have hres : Blk ((((W6.setCell ⟨w.heap.size + 1, 0, none⟩ (.int .i64 Y)).setCell ⟨w.heap.size + 1, 1, none⟩ (.int .i64 M)).setCell ⟨w.heap.size + 1, 2, none⟩ (.int .i64 D2)).putObj D (.deferred none)) (w.heap.size + 1) 78 #[.int .i64 Y, .int .i64 M, .int .i64 D2] := (World.putObj_heap_other (by omega)).trans HR.out
    have c0 := hres.cell 0 (v := .int .i64 Y) rfl
    have c1 := hres.cell 1 (v := .int .i64 M) rfl
    have c2 := hres.cell 2 (v := .int .i64 D2) rfl
    refine ⟨.tuple #[.agg #[.int .i64 Y, .int .i64 M, .int .i64 D2], .int .i64 E], ?_, ⟨by rw [← HV.out, HOA.out, HE.out], fin_below HBL.out (by omega)⟩⟩
    simp [results, Tryz.f59, go_sem, c0, c1, c2]
  case done =>
    rintro D xs O W hD hS ⟨-, -, -, -, hs⟩
    exfalso
    obtain ⟨k, h1, -, h2, -⟩ := seek_spec (a := a0) (st := -1) (wk := wk) (by omega) (by omega) (by omega)
    exact hs k (by rw [hS]; exact h1) (by rw [HF.out]; exact h2)
set_option maxHeartbeats 4000000 in
theorem in_less (wk n y m : Int) (w : World) (ha : Ahead w) (h : inB 2 wk n y m = true) :
    Calls Tryz.prog 59 #[dayA 2 wk n, .int .i64 y, .int .i64 m] w fun e w' => e = .returned (.tuple #[ofA (inDay 2 wk n y m), .int .i64 (ofE_ (inDay 2 wk n y m))]) ∧ Below w.heap.size w w' := by
  unfold inB at h
  simp only [Bool.and_eq_true, decide_eq_true_eq] at h
  obtain ⟨⟨hok, hym⟩, hnl⟩ := h
  have hwk : 0 ≤ wk ∧ wk < 7 := by
    have h := hok
    unfold dayOkB at h
    rw [decide_eq_true_eq] at h
    omega
  have HL0 := show longV y m = (lenV y m, 0) by unfold longV; rw [if_pos hym]
  unfold dayA
  refine (callsIn_wide (n := 8)).1 ?_
  refine callsIn_of_wp_marks Tryz.func59 rfl trivial ?_ rfl
  simp only [Tryz.ntmps59, List.size_toArray, List.length_cons, List.length_nil, Nat.reduceAdd, Nat.reduceSub, Array.replicate_succ, Array.replicate_zero, List.push_toArray, List.append_toArray, List.nil_append, List.cons_append]
  gi_wp2
  obtain ⟨W0, hW0⟩ : ∃ W, (w.alloc (.cells #[.int .i64 2, .int .i64 wk, .int .i64 n] 48)).alloc (.cells #[.int .i64 0, .int .i64 0, .int .i64 0] 78) = W := ⟨_, rfl⟩
  obtain ⟨b0, b1, hb0, hs0⟩ := blks2 w _ _ _ _ W0 hW0
  rw [hW0]
  clear hW0
  have HC := Lib.hid (dfcheck_any 2 wk n W0)
  rw [if_pos hok] at HC
  have HB0 := Lib.hid (And.intro hb0 (And.intro b0 b1))
  have q0 := b0.cell 0 (v := .int .i64 2) rfl
  have q1 := b0.cell 1 (v := .int .i64 wk) rfl
  have q2 := b0.cell 2 (v := .int .i64 n) rfl
  clear hb0 b0 b1
  unfold dayA at HC
  refine wpIn_scope ?_
  gi_wp2
  refine ⟨trivial, (callsIn_wide.2 HC.out).mono ?_⟩
  rintro e w1 ⟨rfl, hb⟩
  have HB1 := Lib.hid (show Below w.heap.size w w1 ∧ Blk w1 w.heap.size 48 #[.int .i64 2, .int .i64 wk, .int .i64 n] ∧ Blk w1 (w.heap.size + 1) 78 #[.int .i64 0, .int .i64 0, .int .i64 0] from ⟨HB0.out.1.trans (hb.mono HB0.out.1.size), HB0.out.2.1.below hb HB0.out.2.1.lt, HB0.out.2.2.below hb HB0.out.2.2.lt⟩)
  clear hb HB0 HC q0 q1 q2
  have HL := Lib.hid (long_any y m w1 (ha.below HB1.out.1 (Nat.le_refl _)))
  rw [HL0] at HL
  gi_wp2
  refine ⟨trivial, (callsIn_wide.2 HL.out).mono ?_⟩
  rintro e w2 ⟨rfl, q, rfl⟩
  have HB2 := Lib.hid (show Below w.heap.size w (w1.drewN q) ∧ Blk (w1.drewN q) w.heap.size 48 #[.int .i64 2, .int .i64 wk, .int .i64 n] ∧ Blk (w1.drewN q) (w.heap.size + 1) 78 #[.int .i64 0, .int .i64 0, .int .i64 0] from ⟨below_drewN HB1.out.1 q, HB1.out.2.1.drewN q, HB1.out.2.2.drewN q⟩)
  obtain ⟨W2, hW2⟩ : ∃ W, w1.drewN q = W := ⟨_, rfl⟩
  rw [hW2] at HB2 ⊢
  clear hW2 HL HB1
  have q0 := HB2.out.2.1.cell 0 (v := .int .i64 2) rfl
  have q1 := HB2.out.2.1.cell 1 (v := .int .i64 wk) rfl
  have q2 := HB2.out.2.1.cell 2 (v := .int .i64 n) rfl
  have HD := Lib.hid (days_any y m (n) W2 (ha.below HB2.out.1 (Nat.le_refl _)))
  have hdb : dateB y m (n) = true := by
    unfold dateB
    rw [hym]
    unfold dayOkB at hok
    simp only [decide_eq_true_eq] at hok
    have hlen := lenV_in (y := y) (m := m) (by unfold ymB at hym; rw [decide_eq_true_eq] at hym; exact hym.2.2.1) (by unfold ymB at hym; rw [decide_eq_true_eq] at hym; exact hym.2.2.2)
    simp
    omega
  rw [if_pos hdb] at HD
  have hdr := dayV_in hdb
  obtain ⟨a0, ha0⟩ : ∃ a0, dayV y m (n) = a0 := ⟨_, rfl⟩
  rw [ha0] at HD hdr
  have HA := Lib.hid ha0
  clear ha0
  unfold dateA at HD
  gi_wp2
  refine ⟨trivial, (callsIn_wide.2 HD.out).mono ?_⟩
  rintro e w3 ⟨rfl, hb⟩
  have HB3 := Lib.hid (show Below w.heap.size w w3 ∧ Blk w3 w.heap.size 48 #[.int .i64 2, .int .i64 wk, .int .i64 n] ∧ Blk w3 (w.heap.size + 1) 78 #[.int .i64 0, .int .i64 0, .int .i64 0] from ⟨HB2.out.1.trans (hb.mono HB2.out.1.size), HB2.out.2.1.below hb HB2.out.2.1.lt, HB2.out.2.2.below hb HB2.out.2.2.lt⟩)
  clear hb HB2 HD q0 q1 q2
  gi_wp2
  refine wpIn_label ?_
  have hsz := HB3.out.2.2.lt
  have hb4 : Below w.heap.size w (w3.alloc (.cells #[.int .i64 a0] 3)) := HB3.out.1.alloc HB3.out.1.size _
  have hf4 := Blk.new w3 3 #[.int .i64 a0]
  have HB4 := Lib.hid (show Below w.heap.size w (w3.alloc (.cells #[.int .i64 a0] 3)) ∧ Blk (w3.alloc (.cells #[.int .i64 a0] 3)) w.heap.size 48 #[.int .i64 2, .int .i64 wk, .int .i64 n] ∧ Blk (w3.alloc (.cells #[.int .i64 a0] 3)) (w.heap.size + 1) 78 #[.int .i64 0, .int .i64 0, .int .i64 0] ∧ Blk (w3.alloc (.cells #[.int .i64 a0] 3)) w3.heap.size 3 #[.int .i64 a0] from ⟨hb4, HB3.out.2.1.alloc _, HB3.out.2.2.alloc _, hf4⟩)
  obtain ⟨W4, hW4⟩ : ∃ W, w3.alloc (.cells #[.int .i64 a0] 3) = W := ⟨_, rfl⟩
  rw [hW4] at HB4 ⊢
  have hs4 : w3.heap.size < W4.heap.size := by rw [← hW4]; simp
  generalize w3.heap.size = fb at *
  clear hW4 hb4 hf4 HB3
  have HFM := Lib.hid (from_any a0 (1) W4)
  obtain ⟨f, hf⟩ : ∃ f : Nat → Int, ∀ k, f k = a0 + (1) * (k : Int) := ⟨fun k => a0 + (1) * (k : Int), fun _ => rfl⟩
  have HF := Lib.hid hf
  have hf0 : f 0 = a0 := by rw [hf]; simp
  have HF0 := Lib.hid hf0
  clear hf hf0
  gi_wp2
  refine ⟨trivial, (callsIn_wide.2 HFM.out).mono ?_⟩
  rintro e W5 ⟨rfl, hb5, hs5, hd5, hst5⟩
  have HB5 := Lib.hid (show Below w.heap.size w W5 ∧ SeekI w.heap.size fb 2 wk n f [] (fun k => k = w.heap.size ∨ k = w.heap.size + 1 ∨ k = fb) W5 from ⟨HB4.out.1.trans (hb5.mono HB4.out.1.size), ⟨.inl rfl, .inr (.inl rfl), .inr (.inr rfl)⟩, HB4.out.2.1.below hb5 HB4.out.2.1.lt, HB4.out.2.2.1.below hb5 HB4.out.2.2.1.lt, ⟨a0, HB4.out.2.2.2.below hb5 HB4.out.2.2.2.lt⟩, fun j hj => by simp at hj⟩)
  have HD5 := Lib.hid (And.intro hd5 hst5)
  have hw5 := HB5.out.1.size
  clear hb5 HB4 HFM hd5 hst5
  gi_wp2
  refine range_own_set (α := Nat) rfl (by omega) (gf := 122) (lb := #[.pointer (some ⟨W4.heap.size, 0, none⟩), .pointer (some ⟨W4.heap.size + 1, 0, none⟩)]) rfl trivial (enters_of Tryz.func122 (by kernel_rfl) rfl)
    (encs := encD f) (K := fun k => k = W4.heap.size ∨ k = W4.heap.size + 1)
    (fun W hW => from1_iter 7 (by omega) _ _ f (1) W (fun k => by rw [HF.out, HF.out]; omega) (fun k hk => by rw [HF.out]; omega) (by omega) (by rw [HF0.out]; exact HD5.out.1.below hW HD5.out.1.lt) (HD5.out.2.below hW HD5.out.2.lt) (by omega))
    (fun _ => rfl) (SeekI w.heap.size fb 2 wk n f) (SeekX w.heap.size fb 2 wk n f) (seekI_feet _ _ _ _ _ _) (seekX_feet _ _ _ _ _ _) (SeekP w.heap.size fb 2 wk n f) (seekP_feet _ _ _ _ _ _)
    (fun k => k = w.heap.size ∨ k = w.heap.size + 1 ∨ k = fb) HB5.out.2 (fun k hk => by omega) (fun k hk => by omega) (fun k hk h => by omega) ?round ?done ?stop
  case round =>
    intro lp pre x O D W hI hBO hBD hDO hR nOl nDl hlow hltl
    obtain ⟨hnD, rfl, hx7⟩ := hR
    unfold encD
    obtain ⟨⟨o0, o1, o2⟩, h0, h1, ⟨v, h2⟩, hs⟩ := hI
    have q0 := h2.cell 0 (v := .int .i64 v) rfl
    have qf := h2.frozen 0
    have HW := Lib.hid (show (Fr O W (W.setCell ⟨fb, 0, none⟩ (.int .i64 (f pre.length))) ∧ SeekP w.heap.size fb 2 wk n f pre pre.length O (W.setCell ⟨fb, 0, none⟩ (.int .i64 (f pre.length)))) ∧ Bd O W from ⟨⟨Fr.setCell W 0 _ o2, ⟨o0, o1, o2⟩, h0.other (by omega) 0 _, h1.other (by omega) 0 _, h2.set 0 _, hs⟩, hBO⟩)
    clear h0 h1 h2 hs hBO hBD hDO
    gi_wp2
    refine ⟨HW.out.1, ?_⟩
    intro Wb hfb hIb _
    have HBW := Lib.hid ((HW.out.2.fr HW.out.1.1).fr hfb)
    have HIB := Lib.hid hIb
    have HWK := Lib.hid (fun W => weekday_any (f pre.length) W)
    have HZ := Lib.hid (show leftO (SeekI w.heap.size fb 2 wk n f) (SeekX w.heap.size fb 2 wk n f) (pre ++ [pre.length]) O D Wb = leftO (SeekI w.heap.size fb 2 wk n f) (SeekX w.heap.size fb 2 wk n f) (pre ++ [pre.length]) O D Wb from rfl)
    have HLF := Lib.hid (show ∀ W, Below Wb.heap.size Wb W → (weekV (f pre.length) ≠ wk → leftO (SeekI w.heap.size fb 2 wk n f) (SeekX w.heap.size fb 2 wk n f) (pre ++ [pre.length]) O D Wb .normal ⟨#[], []⟩ W) ∧ (weekV (f pre.length) = wk → leftO (SeekI w.heap.size fb 2 wk n f) (SeekX w.heap.size fb 2 wk n f) (pre ++ [pre.length]) O D Wb (.exit 1) ⟨#[], []⟩ W) from fun W hbW => by
      obtain ⟨oo, h0, h1, h2, hs⟩ := HIB.out
      have g0 := h0.below hbW h0.lt
      have g1 := h1.below hbW h1.lt
      have g2 := h2.below hbW h2.lt
      have hF : ∀ T, Fr T Wb W := fun T => Fr.of_below hbW (Nat.le_refl _)
      refine ⟨fun hne => ⟨O, fun k h => .inl h, HBW.out.fr (hF (fun _ => True)), hF _, oo, g0, g1, ⟨_, g2⟩, fun j hj => ?_⟩, fun he => ⟨O, fun k h => .inl h, HBW.out.fr (hF (fun _ => True)), hF _, rfl, oo, g0, g1, pre.length, g2, he, hs⟩⟩
      rw [List.length_append, List.length_singleton] at hj
      rcases Nat.lt_or_ge j pre.length with h | h
      · exact hs j h
      · rw [show j = pre.length by omega]
        exact hne)
    obtain ⟨-, h0, h1, h2, hs⟩ := hIb
    have q0 := h2.cell 0 (v := .int .i64 (f pre.length)) rfl
    have q1 := h0.cell 1 (v := .int .i64 wk) rfl
    have HQ := Lib.hid (fun W (hb : Below Wb.heap.size Wb W) => show W.cell? ⟨fb, 0, none⟩ = some (.int .i64 (f pre.length)) ∧ W.cell? ⟨w.heap.size, 1, none⟩ = some (.int .i64 wk) from ⟨(h2.below hb h2.lt).cell 0 rfl, (h0.below hb h0.lt).cell 1 rfl⟩)
    clear h0 h1 h2 hs HW qf HB5 HD5
    generalize f pre.length = z at *
    generalize weekV z = wz at *
    by_cases hw : wz = wk
    · have HRES := Lib.hid (fun W hb => (HLF.out W hb).2 hw)
      clear HLF
      have hw' := hw.symm
      subst hw'
      gi_wp2
      refine wpIn_env (fin := ?fnT) (wide1 lp) (by kernel_rfl) [65, 66, 67, 68, 69]
        [.int .i64 z, .int .i64 wk, .pointer (some ⟨w.heap.size, 1, none⟩), .int .i64 wk, .bool true] (by kernel_rfl) ?finT ?stepsT ?nextT
      case finT =>
        simp only [putAll, Act.put, List.setIfInBounds_toArray, List.set_cons_succ, List.set_cons_zero]
        rfl
      case stepsT =>
        refine ⟨.inr ⟨by kernel_rfl, fun w1_ hB_ => ?_⟩, .inr ⟨by kernel_rfl, fun w1_ hB_ => ?_⟩, .inr ⟨by kernel_rfl, fun w1_ hB_ => ?_⟩, .inr ⟨by kernel_rfl, fun w1_ hB_ => ?_⟩, .inr ⟨by kernel_rfl, fun w1_ hB_ => ?_⟩, trivial⟩
        all_goals
          obtain ⟨c0, c1⟩ := HQ.out w1_ hB_
          clear hB_
          go_simp
          first
            | exact ⟨rfl, Below.refl _ _⟩
            | exact ⟨rfl, (HWK.out w1_).mono fun e w' h => ⟨h.1, by rw [h.2]; exact Below.refl _ _⟩⟩
            | done
      case nextT =>
      intro w7 hb7
      have HR := HRES.out w7 hb7
      clear hb7 HRES
      gi_wp2
      exact HR
    · have HRES := Lib.hid (fun W hb => (HLF.out W hb).1 hw)
      have hw2 : (wz == wk) = false := by simpa using hw
      clear HLF
      gi_wp2
      refine wpIn_env (fin := ?fnF) (wide1 lp) (by kernel_rfl) [65, 66, 67, 68, 69]
        [.int .i64 z, .int .i64 wz, .pointer (some ⟨w.heap.size, 1, none⟩), .int .i64 wk, .bool false] (by kernel_rfl) ?finF ?stepsF ?nextF
      case finF =>
        simp only [putAll, Act.put, List.setIfInBounds_toArray, List.set_cons_succ, List.set_cons_zero]
        rfl
      case stepsF =>
        refine ⟨.inr ⟨by kernel_rfl, fun w1_ hB_ => ?_⟩, .inr ⟨by kernel_rfl, fun w1_ hB_ => ?_⟩, .inr ⟨by kernel_rfl, fun w1_ hB_ => ?_⟩, .inr ⟨by kernel_rfl, fun w1_ hB_ => ?_⟩, .inr ⟨by kernel_rfl, fun w1_ hB_ => ?_⟩, trivial⟩
        all_goals
          obtain ⟨c0, c1⟩ := HQ.out w1_ hB_
          clear hB_
          go_simp
          first
            | exact ⟨rfl, Below.refl _ _⟩
            | exact ⟨rfl, (HWK.out w1_).mono fun e w' h => ⟨h.1, by rw [h.2]; exact Below.refl _ _⟩⟩
            | done
      case nextF =>
      intro w7 hb7
      have HR := HRES.out w7 hb7
      clear hb7 HRES
      gi_wp2
      exact HR
  case stop =>
    rintro D c pre O W hD - ⟨rfl, ⟨o0, o1, o2⟩, h0, h1, j, h2, hj, hjn⟩ hO hBO hOD hfr hK
    have hv : f j = inDay 2 wk n y m := by
      obtain ⟨k, h1, h3, h4, h5⟩ := seek_spec (a := a0) (st := 1) (wk := wk) (by omega) hwk.1 hwk.2
      rcases Nat.lt_trichotomy j k with h | h | h
      · exact absurd (by rw [HF.out] at hj; exact hj) (h5 j h)
      · subst h
        rw [HF.out, ← h3]
        have e := HA.out
        unfold inDay
        simp
        rw [e]
      · exact absurd (by rw [HF.out]; exact h4) (hjn k h)
    have HV := Lib.hid hv
    clear hv hj hjn
    have hsw := hfr.size
    have hW := HB5.out.1.trans (hfr.below hw5 (fun k hk h => by rcases h with h | h <;> omega))
    have HBW := Lib.hid hW
    have haW : Ahead W := fun k hk => by
      have h := (ha.below HB5.out.1 (Nat.le_refl _)) k hk
      have hlt := World.block_lt_of_cell? w _ (ha k hk)
      exact (hfr.cell (p := ⟨0, k, none⟩) (Nat.lt_of_lt_of_le hlt hw5) (fun h => by rcases h with h | h <;> simp at h hlt <;> omega)).trans h
    have HOF := Lib.hid (show Calls Tryz.prog 48 #[.int .i64 (f j)] W fun e w' => e = .returned (.tuple #[ofA (f j), .int .i64 (ofE_ (f j))]) ∧ Below W.heap.size W w' by
      unfold ofA ofE_ ofInB
      by_cases hin : -37243778 ≤ f j ∧ f j < 35805088
      · simp only [hin, decide_true, if_true, and_self]
        exact of_any (f j) hin.1 hin.2 W haW
      · simp only [hin, decide_false]
        exact of_out (f j) hin W)
    have q0 := h2.cell 0 (v := .int .i64 (f j)) rfl
    obtain ⟨Y, M, D2, hofa⟩ : ∃ Y M D2, ofA (f j) = .agg #[.int .i64 Y, .int .i64 M, .int .i64 D2] := by
      unfold ofA dateA
      split <;> exact ⟨_, _, _, rfl⟩
    rw [hofa] at HOF
    have HOA := Lib.hid hofa
    obtain ⟨E, hE⟩ : ∃ E, ofE_ (f j) = E := ⟨_, rfl⟩
    rw [hE] at HOF
    have HE := Lib.hid hE
    have H1 := Lib.hid h1
    have HK := Lib.hid hK
    have hDW : D < W.heap.size := (Array.getElem?_eq_some_iff.1 hK).1
    clear hofa hE h0 h1 h2 haW hW hfr hK HB5 HD5 hO hBO
    generalize f j = z at *
    gi_wp2
    refine ⟨trivial, (callsIn_wide.2 HOF.out).mono ?_⟩
    rintro e W6 ⟨rfl, hb6⟩
    have h6 := H1.out.below hb6 H1.out.lt
    have hK6 := (hb6.block D hDW).trans HK.out
    have HB6 := Lib.hid (HBW.out.trans (hb6.mono HBW.out.size))
    have r0 := h6.cell 0 (v := .int .i64 0) rfl
    have r1 := h6.cell 1 (v := .int .i64 0) rfl
    have r2 := h6.cell 2 (v := .int .i64 0) rfl
    have g0 := h6.frozen 0
    have g1 := h6.frozen 1
    have g2 := h6.frozen 2
    have HR := Lib.hid (((h6.set 0 (.int .i64 Y)).set 1 (.int .i64 M)).set 2 (.int .i64 D2))
    have HKD := Lib.hid (show (((W6.setCell ⟨w.heap.size + 1, 0, none⟩ (.int .i64 Y)).setCell ⟨w.heap.size + 1, 1, none⟩ (.int .i64 M)).setCell ⟨w.heap.size + 1, 2, none⟩ (.int .i64 D2)).heap[D]? = some (.deferred (some [])) from (fr_set3 (T := fun k => k = w.heap.size + 1) W6 rfl _ _ _).at_ hK6 (by omega))
    have HBL := Lib.hid (below_set3 HB6.out (show w.heap.size ≤ w.heap.size + 1 by omega) (.int .i64 Y) (.int .i64 M) (.int .i64 D2))
    clear hb6 h6 hK6 HOF HK q0
    gi_wp2
    refine ⟨by simp, .inl ⟨_, _, rfl, run_takeDeferred HKD.out, ?_⟩⟩
    have hres : Blk ((((W6.setCell ⟨w.heap.size + 1, 0, none⟩ (.int .i64 Y)).setCell ⟨w.heap.size + 1, 1, none⟩ (.int .i64 M)).setCell ⟨w.heap.size + 1, 2, none⟩ (.int .i64 D2)).putObj D (.deferred none)) (w.heap.size + 1) 78 #[.int .i64 Y, .int .i64 M, .int .i64 D2] := (World.putObj_heap_other (by omega)).trans HR.out
    have c0 := hres.cell 0 (v := .int .i64 Y) rfl
    have c1 := hres.cell 1 (v := .int .i64 M) rfl
    have c2 := hres.cell 2 (v := .int .i64 D2) rfl
    refine ⟨.tuple #[.agg #[.int .i64 Y, .int .i64 M, .int .i64 D2], .int .i64 E], ?_, ⟨by rw [← HV.out, HOA.out, HE.out], fin_below HBL.out (by omega)⟩⟩
    simp [results, Tryz.f59, go_sem, c0, c1, c2]
  case done =>
    rintro D xs O W hD hS ⟨-, -, -, -, hs⟩
    exfalso
    obtain ⟨k, h1, -, h2, -⟩ := seek_spec (a := a0) (st := 1) (wk := wk) (by omega) (by omega) (by omega)
    exact hs k (by rw [hS]; exact h1) (by rw [HF.out]; exact h2)
set_option maxHeartbeats 4000000 in
theorem in_great (wk n y m : Int) (w : World) (ha : Ahead w) (h : inB 3 wk n y m = true) :
    Calls Tryz.prog 59 #[dayA 3 wk n, .int .i64 y, .int .i64 m] w fun e w' => e = .returned (.tuple #[ofA (inDay 3 wk n y m), .int .i64 (ofE_ (inDay 3 wk n y m))]) ∧ Below w.heap.size w w' := by
  unfold inB at h
  simp only [Bool.and_eq_true, decide_eq_true_eq] at h
  obtain ⟨⟨hok, hym⟩, hnl⟩ := h
  have hwk : 0 ≤ wk ∧ wk < 7 := by
    have h := hok
    unfold dayOkB at h
    rw [decide_eq_true_eq] at h
    omega
  have HL0 := show longV y m = (lenV y m, 0) by unfold longV; rw [if_pos hym]
  unfold dayA
  refine (callsIn_wide (n := 8)).1 ?_
  refine callsIn_of_wp_marks Tryz.func59 rfl trivial ?_ rfl
  simp only [Tryz.ntmps59, List.size_toArray, List.length_cons, List.length_nil, Nat.reduceAdd, Nat.reduceSub, Array.replicate_succ, Array.replicate_zero, List.push_toArray, List.append_toArray, List.nil_append, List.cons_append]
  gi_wp2
  obtain ⟨W0, hW0⟩ : ∃ W, (w.alloc (.cells #[.int .i64 3, .int .i64 wk, .int .i64 n] 48)).alloc (.cells #[.int .i64 0, .int .i64 0, .int .i64 0] 78) = W := ⟨_, rfl⟩
  obtain ⟨b0, b1, hb0, hs0⟩ := blks2 w _ _ _ _ W0 hW0
  rw [hW0]
  clear hW0
  have HC := Lib.hid (dfcheck_any 3 wk n W0)
  rw [if_pos hok] at HC
  have HB0 := Lib.hid (And.intro hb0 (And.intro b0 b1))
  have q0 := b0.cell 0 (v := .int .i64 3) rfl
  have q1 := b0.cell 1 (v := .int .i64 wk) rfl
  have q2 := b0.cell 2 (v := .int .i64 n) rfl
  clear hb0 b0 b1
  unfold dayA at HC
  refine wpIn_scope ?_
  gi_wp2
  refine ⟨trivial, (callsIn_wide.2 HC.out).mono ?_⟩
  rintro e w1 ⟨rfl, hb⟩
  have HB1 := Lib.hid (show Below w.heap.size w w1 ∧ Blk w1 w.heap.size 48 #[.int .i64 3, .int .i64 wk, .int .i64 n] ∧ Blk w1 (w.heap.size + 1) 78 #[.int .i64 0, .int .i64 0, .int .i64 0] from ⟨HB0.out.1.trans (hb.mono HB0.out.1.size), HB0.out.2.1.below hb HB0.out.2.1.lt, HB0.out.2.2.below hb HB0.out.2.2.lt⟩)
  clear hb HB0 HC q0 q1 q2
  have HL := Lib.hid (long_any y m w1 (ha.below HB1.out.1 (Nat.le_refl _)))
  rw [HL0] at HL
  gi_wp2
  refine ⟨trivial, (callsIn_wide.2 HL.out).mono ?_⟩
  rintro e w2 ⟨rfl, q, rfl⟩
  have HB2 := Lib.hid (show Below w.heap.size w (w1.drewN q) ∧ Blk (w1.drewN q) w.heap.size 48 #[.int .i64 3, .int .i64 wk, .int .i64 n] ∧ Blk (w1.drewN q) (w.heap.size + 1) 78 #[.int .i64 0, .int .i64 0, .int .i64 0] from ⟨below_drewN HB1.out.1 q, HB1.out.2.1.drewN q, HB1.out.2.2.drewN q⟩)
  obtain ⟨W2, hW2⟩ : ∃ W, w1.drewN q = W := ⟨_, rfl⟩
  rw [hW2] at HB2 ⊢
  clear hW2 HL HB1
  have q0 := HB2.out.2.1.cell 0 (v := .int .i64 3) rfl
  have q1 := HB2.out.2.1.cell 1 (v := .int .i64 wk) rfl
  have q2 := HB2.out.2.1.cell 2 (v := .int .i64 n) rfl
  have HD := Lib.hid (days_any y m (n) W2 (ha.below HB2.out.1 (Nat.le_refl _)))
  have hdb : dateB y m (n) = true := by
    unfold dateB
    rw [hym]
    unfold dayOkB at hok
    simp only [decide_eq_true_eq] at hok
    have hlen := lenV_in (y := y) (m := m) (by unfold ymB at hym; rw [decide_eq_true_eq] at hym; exact hym.2.2.1) (by unfold ymB at hym; rw [decide_eq_true_eq] at hym; exact hym.2.2.2)
    simp
    omega
  rw [if_pos hdb] at HD
  have hdr := dayV_in hdb
  obtain ⟨a0, ha0⟩ : ∃ a0, dayV y m (n) = a0 := ⟨_, rfl⟩
  rw [ha0] at HD hdr
  have HA := Lib.hid ha0
  clear ha0
  unfold dateA at HD
  gi_wp2
  refine ⟨trivial, (callsIn_wide.2 HD.out).mono ?_⟩
  rintro e w3 ⟨rfl, hb⟩
  have HB3 := Lib.hid (show Below w.heap.size w w3 ∧ Blk w3 w.heap.size 48 #[.int .i64 3, .int .i64 wk, .int .i64 n] ∧ Blk w3 (w.heap.size + 1) 78 #[.int .i64 0, .int .i64 0, .int .i64 0] from ⟨HB2.out.1.trans (hb.mono HB2.out.1.size), HB2.out.2.1.below hb HB2.out.2.1.lt, HB2.out.2.2.below hb HB2.out.2.2.lt⟩)
  clear hb HB2 HD q0 q1 q2
  gi_wp2
  refine wpIn_label ?_
  have hsz := HB3.out.2.2.lt
  have hb4 : Below w.heap.size w (w3.alloc (.cells #[.int .i64 a0] 3)) := HB3.out.1.alloc HB3.out.1.size _
  have hf4 := Blk.new w3 3 #[.int .i64 a0]
  have HB4 := Lib.hid (show Below w.heap.size w (w3.alloc (.cells #[.int .i64 a0] 3)) ∧ Blk (w3.alloc (.cells #[.int .i64 a0] 3)) w.heap.size 48 #[.int .i64 3, .int .i64 wk, .int .i64 n] ∧ Blk (w3.alloc (.cells #[.int .i64 a0] 3)) (w.heap.size + 1) 78 #[.int .i64 0, .int .i64 0, .int .i64 0] ∧ Blk (w3.alloc (.cells #[.int .i64 a0] 3)) w3.heap.size 3 #[.int .i64 a0] from ⟨hb4, HB3.out.2.1.alloc _, HB3.out.2.2.alloc _, hf4⟩)
  obtain ⟨W4, hW4⟩ : ∃ W, w3.alloc (.cells #[.int .i64 a0] 3) = W := ⟨_, rfl⟩
  rw [hW4] at HB4 ⊢
  have hs4 : w3.heap.size < W4.heap.size := by rw [← hW4]; simp
  generalize w3.heap.size = fb at *
  clear hW4 hb4 hf4 HB3
  have HFM := Lib.hid (from_any a0 (-1) W4)
  obtain ⟨f, hf⟩ : ∃ f : Nat → Int, ∀ k, f k = a0 + (-1) * (k : Int) := ⟨fun k => a0 + (-1) * (k : Int), fun _ => rfl⟩
  have HF := Lib.hid hf
  have hf0 : f 0 = a0 := by rw [hf]; simp
  have HF0 := Lib.hid hf0
  clear hf hf0
  gi_wp2
  refine ⟨trivial, (callsIn_wide.2 HFM.out).mono ?_⟩
  rintro e W5 ⟨rfl, hb5, hs5, hd5, hst5⟩
  have HB5 := Lib.hid (show Below w.heap.size w W5 ∧ SeekI w.heap.size fb 3 wk n f [] (fun k => k = w.heap.size ∨ k = w.heap.size + 1 ∨ k = fb) W5 from ⟨HB4.out.1.trans (hb5.mono HB4.out.1.size), ⟨.inl rfl, .inr (.inl rfl), .inr (.inr rfl)⟩, HB4.out.2.1.below hb5 HB4.out.2.1.lt, HB4.out.2.2.1.below hb5 HB4.out.2.2.1.lt, ⟨a0, HB4.out.2.2.2.below hb5 HB4.out.2.2.2.lt⟩, fun j hj => by simp at hj⟩)
  have HD5 := Lib.hid (And.intro hd5 hst5)
  have hw5 := HB5.out.1.size
  clear hb5 HB4 HFM hd5 hst5
  gi_wp2
  refine range_own_set (α := Nat) rfl (by omega) (gf := 122) (lb := #[.pointer (some ⟨W4.heap.size, 0, none⟩), .pointer (some ⟨W4.heap.size + 1, 0, none⟩)]) rfl trivial (enters_of Tryz.func122 (by kernel_rfl) rfl)
    (encs := encD f) (K := fun k => k = W4.heap.size ∨ k = W4.heap.size + 1)
    (fun W hW => from1_iter 7 (by omega) _ _ f (-1) W (fun k => by rw [HF.out, HF.out]; omega) (fun k hk => by rw [HF.out]; omega) (by omega) (by rw [HF0.out]; exact HD5.out.1.below hW HD5.out.1.lt) (HD5.out.2.below hW HD5.out.2.lt) (by omega))
    (fun _ => rfl) (SeekI w.heap.size fb 3 wk n f) (SeekX w.heap.size fb 3 wk n f) (seekI_feet _ _ _ _ _ _) (seekX_feet _ _ _ _ _ _) (SeekP w.heap.size fb 3 wk n f) (seekP_feet _ _ _ _ _ _)
    (fun k => k = w.heap.size ∨ k = w.heap.size + 1 ∨ k = fb) HB5.out.2 (fun k hk => by omega) (fun k hk => by omega) (fun k hk h => by omega) ?round ?done ?stop
  case round =>
    intro lp pre x O D W hI hBO hBD hDO hR nOl nDl hlow hltl
    obtain ⟨hnD, rfl, hx7⟩ := hR
    unfold encD
    obtain ⟨⟨o0, o1, o2⟩, h0, h1, ⟨v, h2⟩, hs⟩ := hI
    have q0 := h2.cell 0 (v := .int .i64 v) rfl
    have qf := h2.frozen 0
    have HW := Lib.hid (show (Fr O W (W.setCell ⟨fb, 0, none⟩ (.int .i64 (f pre.length))) ∧ SeekP w.heap.size fb 3 wk n f pre pre.length O (W.setCell ⟨fb, 0, none⟩ (.int .i64 (f pre.length)))) ∧ Bd O W from ⟨⟨Fr.setCell W 0 _ o2, ⟨o0, o1, o2⟩, h0.other (by omega) 0 _, h1.other (by omega) 0 _, h2.set 0 _, hs⟩, hBO⟩)
    clear h0 h1 h2 hs hBO hBD hDO
    gi_wp2
    refine ⟨HW.out.1, ?_⟩
    intro Wb hfb hIb _
    have HBW := Lib.hid ((HW.out.2.fr HW.out.1.1).fr hfb)
    have HIB := Lib.hid hIb
    have HWK := Lib.hid (fun W => weekday_any (f pre.length) W)
    have HZ := Lib.hid (show leftO (SeekI w.heap.size fb 3 wk n f) (SeekX w.heap.size fb 3 wk n f) (pre ++ [pre.length]) O D Wb = leftO (SeekI w.heap.size fb 3 wk n f) (SeekX w.heap.size fb 3 wk n f) (pre ++ [pre.length]) O D Wb from rfl)
    have HLF := Lib.hid (show ∀ W, Below Wb.heap.size Wb W → (weekV (f pre.length) ≠ wk → leftO (SeekI w.heap.size fb 3 wk n f) (SeekX w.heap.size fb 3 wk n f) (pre ++ [pre.length]) O D Wb .normal ⟨#[], []⟩ W) ∧ (weekV (f pre.length) = wk → leftO (SeekI w.heap.size fb 3 wk n f) (SeekX w.heap.size fb 3 wk n f) (pre ++ [pre.length]) O D Wb (.exit 1) ⟨#[], []⟩ W) from fun W hbW => by
      obtain ⟨oo, h0, h1, h2, hs⟩ := HIB.out
      have g0 := h0.below hbW h0.lt
      have g1 := h1.below hbW h1.lt
      have g2 := h2.below hbW h2.lt
      have hF : ∀ T, Fr T Wb W := fun T => Fr.of_below hbW (Nat.le_refl _)
      refine ⟨fun hne => ⟨O, fun k h => .inl h, HBW.out.fr (hF (fun _ => True)), hF _, oo, g0, g1, ⟨_, g2⟩, fun j hj => ?_⟩, fun he => ⟨O, fun k h => .inl h, HBW.out.fr (hF (fun _ => True)), hF _, rfl, oo, g0, g1, pre.length, g2, he, hs⟩⟩
      rw [List.length_append, List.length_singleton] at hj
      rcases Nat.lt_or_ge j pre.length with h | h
      · exact hs j h
      · rw [show j = pre.length by omega]
        exact hne)
    obtain ⟨-, h0, h1, h2, hs⟩ := hIb
    have q0 := h2.cell 0 (v := .int .i64 (f pre.length)) rfl
    have q1 := h0.cell 1 (v := .int .i64 wk) rfl
    have HQ := Lib.hid (fun W (hb : Below Wb.heap.size Wb W) => show W.cell? ⟨fb, 0, none⟩ = some (.int .i64 (f pre.length)) ∧ W.cell? ⟨w.heap.size, 1, none⟩ = some (.int .i64 wk) from ⟨(h2.below hb h2.lt).cell 0 rfl, (h0.below hb h0.lt).cell 1 rfl⟩)
    clear h0 h1 h2 hs HW qf HB5 HD5
    generalize f pre.length = z at *
    generalize weekV z = wz at *
    by_cases hw : wz = wk
    · have HRES := Lib.hid (fun W hb => (HLF.out W hb).2 hw)
      clear HLF
      have hw' := hw.symm
      subst hw'
      gi_wp2
      refine wpIn_env (fin := ?fnT) (wide1 lp) (by kernel_rfl) [65, 66, 67, 68, 69]
        [.int .i64 z, .int .i64 wk, .pointer (some ⟨w.heap.size, 1, none⟩), .int .i64 wk, .bool true] (by kernel_rfl) ?finT ?stepsT ?nextT
      case finT =>
        simp only [putAll, Act.put, List.setIfInBounds_toArray, List.set_cons_succ, List.set_cons_zero]
        rfl
      case stepsT =>
        refine ⟨.inr ⟨by kernel_rfl, fun w1_ hB_ => ?_⟩, .inr ⟨by kernel_rfl, fun w1_ hB_ => ?_⟩, .inr ⟨by kernel_rfl, fun w1_ hB_ => ?_⟩, .inr ⟨by kernel_rfl, fun w1_ hB_ => ?_⟩, .inr ⟨by kernel_rfl, fun w1_ hB_ => ?_⟩, trivial⟩
        all_goals
          obtain ⟨c0, c1⟩ := HQ.out w1_ hB_
          clear hB_
          go_simp
          first
            | exact ⟨rfl, Below.refl _ _⟩
            | exact ⟨rfl, (HWK.out w1_).mono fun e w' h => ⟨h.1, by rw [h.2]; exact Below.refl _ _⟩⟩
            | done
      case nextT =>
      intro w7 hb7
      have HR := HRES.out w7 hb7
      clear hb7 HRES
      gi_wp2
      exact HR
    · have HRES := Lib.hid (fun W hb => (HLF.out W hb).1 hw)
      have hw2 : (wz == wk) = false := by simpa using hw
      clear HLF
      gi_wp2
      refine wpIn_env (fin := ?fnF) (wide1 lp) (by kernel_rfl) [65, 66, 67, 68, 69]
        [.int .i64 z, .int .i64 wz, .pointer (some ⟨w.heap.size, 1, none⟩), .int .i64 wk, .bool false] (by kernel_rfl) ?finF ?stepsF ?nextF
      case finF =>
        simp only [putAll, Act.put, List.setIfInBounds_toArray, List.set_cons_succ, List.set_cons_zero]
        rfl
      case stepsF =>
        refine ⟨.inr ⟨by kernel_rfl, fun w1_ hB_ => ?_⟩, .inr ⟨by kernel_rfl, fun w1_ hB_ => ?_⟩, .inr ⟨by kernel_rfl, fun w1_ hB_ => ?_⟩, .inr ⟨by kernel_rfl, fun w1_ hB_ => ?_⟩, .inr ⟨by kernel_rfl, fun w1_ hB_ => ?_⟩, trivial⟩
        all_goals
          obtain ⟨c0, c1⟩ := HQ.out w1_ hB_
          clear hB_
          go_simp
          first
            | exact ⟨rfl, Below.refl _ _⟩
            | exact ⟨rfl, (HWK.out w1_).mono fun e w' h => ⟨h.1, by rw [h.2]; exact Below.refl _ _⟩⟩
            | done
      case nextF =>
      intro w7 hb7
      have HR := HRES.out w7 hb7
      clear hb7 HRES
      gi_wp2
      exact HR
  case stop =>
    rintro D c pre O W hD - ⟨rfl, ⟨o0, o1, o2⟩, h0, h1, j, h2, hj, hjn⟩ hO hBO hOD hfr hK
    have hv : f j = inDay 3 wk n y m := by
      obtain ⟨k, h1, h3, h4, h5⟩ := seek_spec (a := a0) (st := -1) (wk := wk) (by omega) hwk.1 hwk.2
      rcases Nat.lt_trichotomy j k with h | h | h
      · exact absurd (by rw [HF.out] at hj; exact hj) (h5 j h)
      · subst h
        rw [HF.out, ← h3]
        have e := HA.out
        unfold inDay
        simp
        rw [e]
      · exact absurd (by rw [HF.out]; exact h4) (hjn k h)
    have HV := Lib.hid hv
    clear hv hj hjn
    have hsw := hfr.size
    have hW := HB5.out.1.trans (hfr.below hw5 (fun k hk h => by rcases h with h | h <;> omega))
    have HBW := Lib.hid hW
    have haW : Ahead W := fun k hk => by
      have h := (ha.below HB5.out.1 (Nat.le_refl _)) k hk
      have hlt := World.block_lt_of_cell? w _ (ha k hk)
      exact (hfr.cell (p := ⟨0, k, none⟩) (Nat.lt_of_lt_of_le hlt hw5) (fun h => by rcases h with h | h <;> simp at h hlt <;> omega)).trans h
    have HOF := Lib.hid (show Calls Tryz.prog 48 #[.int .i64 (f j)] W fun e w' => e = .returned (.tuple #[ofA (f j), .int .i64 (ofE_ (f j))]) ∧ Below W.heap.size W w' by
      unfold ofA ofE_ ofInB
      by_cases hin : -37243778 ≤ f j ∧ f j < 35805088
      · simp only [hin, decide_true, if_true, and_self]
        exact of_any (f j) hin.1 hin.2 W haW
      · simp only [hin, decide_false]
        exact of_out (f j) hin W)
    have q0 := h2.cell 0 (v := .int .i64 (f j)) rfl
    obtain ⟨Y, M, D2, hofa⟩ : ∃ Y M D2, ofA (f j) = .agg #[.int .i64 Y, .int .i64 M, .int .i64 D2] := by
      unfold ofA dateA
      split <;> exact ⟨_, _, _, rfl⟩
    rw [hofa] at HOF
    have HOA := Lib.hid hofa
    obtain ⟨E, hE⟩ : ∃ E, ofE_ (f j) = E := ⟨_, rfl⟩
    rw [hE] at HOF
    have HE := Lib.hid hE
    have H1 := Lib.hid h1
    have HK := Lib.hid hK
    have hDW : D < W.heap.size := (Array.getElem?_eq_some_iff.1 hK).1
    clear hofa hE h0 h1 h2 haW hW hfr hK HB5 HD5 hO hBO
    generalize f j = z at *
    gi_wp2
    refine ⟨trivial, (callsIn_wide.2 HOF.out).mono ?_⟩
    rintro e W6 ⟨rfl, hb6⟩
    have h6 := H1.out.below hb6 H1.out.lt
    have hK6 := (hb6.block D hDW).trans HK.out
    have HB6 := Lib.hid (HBW.out.trans (hb6.mono HBW.out.size))
    have r0 := h6.cell 0 (v := .int .i64 0) rfl
    have r1 := h6.cell 1 (v := .int .i64 0) rfl
    have r2 := h6.cell 2 (v := .int .i64 0) rfl
    have g0 := h6.frozen 0
    have g1 := h6.frozen 1
    have g2 := h6.frozen 2
    have HR := Lib.hid (((h6.set 0 (.int .i64 Y)).set 1 (.int .i64 M)).set 2 (.int .i64 D2))
    have HKD := Lib.hid (show (((W6.setCell ⟨w.heap.size + 1, 0, none⟩ (.int .i64 Y)).setCell ⟨w.heap.size + 1, 1, none⟩ (.int .i64 M)).setCell ⟨w.heap.size + 1, 2, none⟩ (.int .i64 D2)).heap[D]? = some (.deferred (some [])) from (fr_set3 (T := fun k => k = w.heap.size + 1) W6 rfl _ _ _).at_ hK6 (by omega))
    have HBL := Lib.hid (below_set3 HB6.out (show w.heap.size ≤ w.heap.size + 1 by omega) (.int .i64 Y) (.int .i64 M) (.int .i64 D2))
    clear hb6 h6 hK6 HOF HK q0
    gi_wp2
    refine ⟨by simp, .inl ⟨_, _, rfl, run_takeDeferred HKD.out, ?_⟩⟩
    have hres : Blk ((((W6.setCell ⟨w.heap.size + 1, 0, none⟩ (.int .i64 Y)).setCell ⟨w.heap.size + 1, 1, none⟩ (.int .i64 M)).setCell ⟨w.heap.size + 1, 2, none⟩ (.int .i64 D2)).putObj D (.deferred none)) (w.heap.size + 1) 78 #[.int .i64 Y, .int .i64 M, .int .i64 D2] := (World.putObj_heap_other (by omega)).trans HR.out
    have c0 := hres.cell 0 (v := .int .i64 Y) rfl
    have c1 := hres.cell 1 (v := .int .i64 M) rfl
    have c2 := hres.cell 2 (v := .int .i64 D2) rfl
    refine ⟨.tuple #[.agg #[.int .i64 Y, .int .i64 M, .int .i64 D2], .int .i64 E], ?_, ⟨by rw [← HV.out, HOA.out, HE.out], fin_below HBL.out (by omega)⟩⟩
    simp [results, Tryz.f59, go_sem, c0, c1, c2]
  case done =>
    rintro D xs O W hD hS ⟨-, -, -, -, hs⟩
    exfalso
    obtain ⟨k, h1, -, h2, -⟩ := seek_spec (a := a0) (st := -1) (wk := wk) (by omega) (by omega) (by omega)
    exact hs k (by rw [hS]; exact h1) (by rw [HF.out]; exact h2)
/-- What In answers. -/
def inA (k wk n y m : Int) : Value := if inB k wk n y m then (if k = 0 then dateA y m n else ofA (inDay k wk n y m)) else dateA 0 0 0
def inE (k wk n y m : Int) : Int := if inB k wk n y m then (if k = 0 then 0 else ofE_ (inDay k wk n y m)) else 10
end Go.Proofs.YtfbkkhfmboaknaaGreatDoor
