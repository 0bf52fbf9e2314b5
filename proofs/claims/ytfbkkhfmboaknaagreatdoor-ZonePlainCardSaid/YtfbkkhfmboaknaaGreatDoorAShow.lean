/-
  Layer 12's Offset and Show walked whole.
-/
import Derived.Test.YtfbkkhfmboaknaaGreatDoorNAt
import Derived.Lib.SplitLaws
import Derived.Test.YtfbkkhfmboaknaaGreatDoorFAid
namespace Go.Proofs.YtfbkkhfmboaknaaGreatDoor
open Go Go.RowKit Go.Shelf
set_option maxRecDepth 100000

def digB (n : Int) : UInt8 := UInt8.ofNat (48 + n).toNat
/-- A number in two digits. -/
def twoB (n : Int) : ByteArray := ⟨#[digB (n / 10), digB (n % 10)]⟩
theorem digB_toNat {n : Int} (h0 : 0 ≤ n) (h1 : n < 200) : ((digB n).toNat : Int) = 48 + n := by
  unfold digB
  rw [UInt8.toNat_ofNat']
  omega
theorem two_conv {n : Int} (h0 : 0 ≤ n) (h1 : n < 100) (w : World) : (convert 138 9 (.slice (some ⟨w.heap.size, 0, none⟩) 2 2)).run Tryz.prog (w.alloc (.cells #[.int .u8 (48 + n / 10), .int .u8 (48 + n % 10)] 5)) = .ok (.string (twoB n)) (w.alloc (.cells #[.int .u8 (48 + n / 10), .int .u8 (48 + n % 10)] 5)) := by
  have h := run_convert_bytes_back (P := Tryz.prog) (w.alloc (.cells #[.int .u8 (48 + n / 10), .int .u8 (48 + n % 10)] 5)) 138 9 5 ⟨w.heap.size, 0, none⟩ 2 [digB (n / 10), digB (n % 10)] Tryz.underlying138 Tryz.underlying5 Tryz.underlying9 (fun j hj => by
    rw [Addr.add_lit, Nat.zero_add, cell_new]
    rcases j with _ | _ | j
    · simp [digB_toNat (show 0 ≤ n / 10 by omega) (by omega)]
    · simp [digB_toNat (show 0 ≤ n % 10 by omega) (by omega)]
    · simp at hj; omega)
  exact h
set_option maxHeartbeats 1000000 in
theorem two_any (n : Int) (h0 : 0 ≤ n) (h1 : n < 100) (w : World) :
    Calls Tryz.prog 78 #[.int .i64 n] w fun e w' => e = .returned (.string (twoB n)) ∧ Below w.heap.size w w' := by
  have e1 : n.tdiv 10 = n / 10 := by rw [Int.tdiv_eq_ediv_of_nonneg h0]
  have e2 : n.tmod 10 = n % 10 := by rw [Int.tmod_eq_emod_of_nonneg h0]
  have HC := two_conv h0 h1 w
  go_enter Tryz.func78, Tryz.ntmps78
  go_wp2_with fail
  go_ret
  exact ⟨rfl, (Below.refl w.heap.size w).alloc (Nat.le_refl _) _⟩
/-- An offset as a text. -/
def offN (n : Int) : ByteArray := twoB (n / 3600) ++ (if 0 < n % 3600 then twoB (n % 3600 / 60) else ⟨#[]⟩) ++ (if 0 < n % 60 then twoB (n % 60) else ⟨#[]⟩)
def offB (off : Int) : ByteArray := if off < 0 then ⟨#[45]⟩ ++ offN (-off) else ⟨#[43]⟩ ++ offN off
set_option maxHeartbeats 2000000 in
theorem off_any (off : Int) (w : World) :
    Calls Tryz.prog 45 #[.int .i64 off] w fun e w' => e = .returned (if -360000 < off ∧ off < 360000 then .tuple #[.string (offB off), .int .i64 0] else .tuple #[.string ⟨#[]⟩, .int .i64 10]) ∧ Below w.heap.size w w' := by
  have HT := Lib.hid (fun n h0 h1 W => two_any n h0 h1 W)
  by_cases hr : -360000 < off ∧ off < 360000
  · rw [if_pos hr]
    have hd1 : decide (off ≤ -360000) = false := decide_eq_false (by omega)
    have hd2 : decide (360000 ≤ off) = false := decide_eq_false (by omega)
    by_cases hn : off < 0
    · have hd3 : decide (off < 0) = true := decide_eq_true hn
      have e3 : (-off).tdiv 3600 = (-off) / 3600 := by rw [Int.tdiv_eq_ediv_of_nonneg (by omega)]
      have e4 : (-off).tmod 3600 = (-off) % 3600 := by rw [Int.tmod_eq_emod_of_nonneg (by omega)]
      have e5 : (-off).tmod 60 = (-off) % 60 := by rw [Int.tmod_eq_emod_of_nonneg (by omega)]
      have e6 : ((-off) % 3600).tdiv 60 = (-off) % 3600 / 60 := by rw [Int.tdiv_eq_ediv_of_nonneg (by omega)]
      have H1 := Lib.hid (HT.out ((-off) / 3600) (by omega) (by omega))
      have H2 := Lib.hid (HT.out ((-off) % 3600 / 60) (by omega) (by omega))
      have H3 := Lib.hid (HT.out ((-off) % 60) (by omega) (by omega))
      by_cases h3 : 0 < (-off) % 3600
      · by_cases h4 : 0 < (-off) % 60
        · have HV := Lib.hid (show offB off = ⟨#[45]⟩ ++ twoB ((-off) / 3600) ++ twoB ((-off) % 3600 / 60) ++ twoB ((-off) % 60) by unfold offB offN; rw [if_pos hn, if_pos h3, if_pos h4, ← ByteArray.append_assoc, ← ByteArray.append_assoc])
          have g3 : decide (0 < (-off) % 3600) = true := decide_eq_true h3
          have g4 : decide (0 < (-off) % 60) = true := decide_eq_true h4
          clear h3 h4 HT
          have s1 : (twoB ((-off) / 3600)).size = 2 := rfl
          have s2 : (twoB ((-off) % 3600 / 60)).size = 2 := rfl
          have s3 : (twoB ((-off) % 60)).size = 2 := rfl
          generalize twoB ((-off) / 3600) = t1 at *
          generalize twoB ((-off) % 3600 / 60) = t2 at *
          generalize twoB ((-off) % 60) = t3 at *

          go_enter Tryz.func45, Tryz.ntmps45
          go_wp2_with fail
          refine (H1.out _).mono ?_
          rintro e w1 ⟨rfl, hb1⟩
          go_wp2_with fail
          refine (H2.out _).mono ?_
          rintro e w2 ⟨rfl, hb2⟩
          go_wp2_with fail
          refine (H3.out _).mono ?_
          rintro e w3 ⟨rfl, hb3⟩
          go_wp2_with fail
          go_ret2
          exact ⟨by rw [HV.out]; rfl, (hb1.trans (hb2.mono hb1.size)).trans (hb3.mono (Nat.le_trans hb1.size hb2.size))⟩
        · have HV := Lib.hid (show offB off = ⟨#[45]⟩ ++ twoB ((-off) / 3600) ++ twoB ((-off) % 3600 / 60) by unfold offB offN; rw [if_pos hn, if_pos h3, if_neg h4, ← ByteArray.append_assoc, ← ByteArray.append_assoc]; exact ByteArray.append_empty)
          have g3 : decide (0 < (-off) % 3600) = true := decide_eq_true h3
          have g4 : decide (0 < (-off) % 60) = false := decide_eq_false h4
          clear h3 h4 HT
          have s1 : (twoB ((-off) / 3600)).size = 2 := rfl
          have s2 : (twoB ((-off) % 3600 / 60)).size = 2 := rfl
          have s3 : (twoB ((-off) % 60)).size = 2 := rfl
          generalize twoB ((-off) / 3600) = t1 at *
          generalize twoB ((-off) % 3600 / 60) = t2 at *
          go_enter Tryz.func45, Tryz.ntmps45
          go_wp2_with fail
          refine (H1.out _).mono ?_
          rintro e w1 ⟨rfl, hb1⟩
          go_wp2_with fail
          refine (H2.out _).mono ?_
          rintro e w2 ⟨rfl, hb2⟩
          go_wp2_with fail
          go_ret2
          exact ⟨by rw [HV.out]; rfl, hb1.trans (hb2.mono hb1.size)⟩
      · have h4 : ¬ 0 < (-off) % 60 := by omega
        have HV := Lib.hid (show offB off = ⟨#[45]⟩ ++ twoB ((-off) / 3600) by unfold offB offN; rw [if_pos hn, if_neg h3, if_neg h4]; rw [show (⟨#[]⟩ : ByteArray) = ByteArray.empty from rfl, ByteArray.append_empty, ByteArray.append_empty])
        have g3 : decide (0 < (-off) % 3600) = false := decide_eq_false h3
        have g4 : decide (0 < (-off) % 60) = false := decide_eq_false h4
        clear h3 h4 HT
        have s1 : (twoB ((-off) / 3600)).size = 2 := rfl
        generalize twoB ((-off) / 3600) = t1 at *
        go_enter Tryz.func45, Tryz.ntmps45
        go_wp2_with fail
        refine (H1.out _).mono ?_
        rintro e w1 ⟨rfl, hb1⟩
        go_wp2_with fail
        go_ret2
        exact ⟨by rw [HV.out]; rfl, hb1⟩
    · have hd3 : decide (off < 0) = false := decide_eq_false hn
      have e3 : (off).tdiv 3600 = (off) / 3600 := by rw [Int.tdiv_eq_ediv_of_nonneg (by omega)]
      have e4 : (off).tmod 3600 = (off) % 3600 := by rw [Int.tmod_eq_emod_of_nonneg (by omega)]
      have e5 : (off).tmod 60 = (off) % 60 := by rw [Int.tmod_eq_emod_of_nonneg (by omega)]
      have e6 : ((off) % 3600).tdiv 60 = (off) % 3600 / 60 := by rw [Int.tdiv_eq_ediv_of_nonneg (by omega)]
      have H1 := Lib.hid (HT.out ((off) / 3600) (by omega) (by omega))
      have H2 := Lib.hid (HT.out ((off) % 3600 / 60) (by omega) (by omega))
      have H3 := Lib.hid (HT.out ((off) % 60) (by omega) (by omega))
      by_cases h3 : 0 < (off) % 3600
      · by_cases h4 : 0 < (off) % 60
        · have HV := Lib.hid (show offB off = ⟨#[43]⟩ ++ twoB ((off) / 3600) ++ twoB ((off) % 3600 / 60) ++ twoB ((off) % 60) by unfold offB offN; rw [if_neg hn, if_pos h3, if_pos h4, ← ByteArray.append_assoc, ← ByteArray.append_assoc])
          have g3 : decide (0 < (off) % 3600) = true := decide_eq_true h3
          have g4 : decide (0 < (off) % 60) = true := decide_eq_true h4
          clear h3 h4 HT
          have s1 : (twoB ((off) / 3600)).size = 2 := rfl
          have s2 : (twoB ((off) % 3600 / 60)).size = 2 := rfl
          have s3 : (twoB ((off) % 60)).size = 2 := rfl
          generalize twoB ((off) / 3600) = t1 at *
          generalize twoB ((off) % 3600 / 60) = t2 at *
          generalize twoB ((off) % 60) = t3 at *

          go_enter Tryz.func45, Tryz.ntmps45
          go_wp2_with fail
          refine (H1.out _).mono ?_
          rintro e w1 ⟨rfl, hb1⟩
          go_wp2_with fail
          refine (H2.out _).mono ?_
          rintro e w2 ⟨rfl, hb2⟩
          go_wp2_with fail
          refine (H3.out _).mono ?_
          rintro e w3 ⟨rfl, hb3⟩
          go_wp2_with fail
          go_ret2
          exact ⟨by rw [HV.out]; rfl, (hb1.trans (hb2.mono hb1.size)).trans (hb3.mono (Nat.le_trans hb1.size hb2.size))⟩
        · have HV := Lib.hid (show offB off = ⟨#[43]⟩ ++ twoB ((off) / 3600) ++ twoB ((off) % 3600 / 60) by unfold offB offN; rw [if_neg hn, if_pos h3, if_neg h4, ← ByteArray.append_assoc, ← ByteArray.append_assoc]; exact ByteArray.append_empty)
          have g3 : decide (0 < (off) % 3600) = true := decide_eq_true h3
          have g4 : decide (0 < (off) % 60) = false := decide_eq_false h4
          clear h3 h4 HT
          have s1 : (twoB ((off) / 3600)).size = 2 := rfl
          have s2 : (twoB ((off) % 3600 / 60)).size = 2 := rfl
          have s3 : (twoB ((off) % 60)).size = 2 := rfl
          generalize twoB ((off) / 3600) = t1 at *
          generalize twoB ((off) % 3600 / 60) = t2 at *
          go_enter Tryz.func45, Tryz.ntmps45
          go_wp2_with fail
          refine (H1.out _).mono ?_
          rintro e w1 ⟨rfl, hb1⟩
          go_wp2_with fail
          refine (H2.out _).mono ?_
          rintro e w2 ⟨rfl, hb2⟩
          go_wp2_with fail
          go_ret2
          exact ⟨by rw [HV.out]; rfl, hb1.trans (hb2.mono hb1.size)⟩
      · have h4 : ¬ 0 < (off) % 60 := by omega
        have HV := Lib.hid (show offB off = ⟨#[43]⟩ ++ twoB ((off) / 3600) by unfold offB offN; rw [if_neg hn, if_neg h3, if_neg h4]; rw [show (⟨#[]⟩ : ByteArray) = ByteArray.empty from rfl, ByteArray.append_empty, ByteArray.append_empty])
        have g3 : decide (0 < (off) % 3600) = false := decide_eq_false h3
        have g4 : decide (0 < (off) % 60) = false := decide_eq_false h4
        clear h3 h4 HT
        have s1 : (twoB ((off) / 3600)).size = 2 := rfl
        generalize twoB ((off) / 3600) = t1 at *
        go_enter Tryz.func45, Tryz.ntmps45
        go_wp2_with fail
        refine (H1.out _).mono ?_
        rintro e w1 ⟨rfl, hb1⟩
        go_wp2_with fail
        go_ret2
        exact ⟨by rw [HV.out]; rfl, hb1⟩
  · rw [if_neg hr]
    by_cases h1 : off ≤ -360000
    · have hd1 : decide (off ≤ -360000) = true := decide_eq_true h1
      have hd2 : decide (360000 ≤ off) = false := decide_eq_false (by omega)
      go_enter Tryz.func45, Tryz.ntmps45
      go_wp2_with fail
      go_ret2
      exact ⟨rfl, Below.refl _ _⟩
    · have hd1 : decide (off ≤ -360000) = false := decide_eq_false h1
      have hd2 : decide (360000 ≤ off) = true := decide_eq_true (by omega)
      go_enter Tryz.func45, Tryz.ntmps45
      go_wp2_with fail
      go_ret2
      exact ⟨rfl, Below.refl _ _⟩
theorem kindR_kinds (f : List UInt8) : kindR f = (0, 12) ∨ (f.length ≤ 64 ∧ ((kindR f) = (0, 0) ∨ (kindR f) = (1, 0) ∨ (kindR f) = (2, 0) ∨ (kindR f) = (3, 0))) := by
  unfold kindR
  by_cases hb : badB f = true
  · rw [if_pos hb]; exact .inl rfl
  · rw [if_neg hb]
    refine .inr ⟨?_, ?_⟩
    · by_cases hl : 64 < f.length
      · exact absurd (bad_long hl) hb
      · omega
    · unfold kindP
      split
      · simp
      · split
        · simp
        · split <;> simp
def repB (f old new : ByteArray) : ByteArray := ⟨(Lib.replace f.data.toList old.data.toList new.data.toList 1).toArray⟩
/-- How a time is called, and what is wrong. -/
def showV (f : ByteArray) (off : Int) (dst : Bool) (letter : ByteArray) : ByteArray × Int :=
  if (kindR f.data.toList).2 = 0 then
    (if (kindR f.data.toList).1 = 1 then (repB f ⟨#[37, 115]⟩ letter, 0)
    else if (kindR f.data.toList).1 = 2 then (if -360000 < off ∧ off < 360000 then (repB f ⟨#[37, 122]⟩ (offB off), 0) else (⟨#[]⟩, 10))
    else if (kindR f.data.toList).1 = 3 then (if dst then ⟨(Lib.cut f.data.toList [47]).2.1.toArray⟩ else ⟨(Lib.cut f.data.toList [47]).1.toArray⟩, 0)
    else (f, 0))
  else (⟨#[]⟩, (kindR f.data.toList).2)
theorem rep_any (f old new : ByteArray) (h1 : 1 ≤ old.size) (hs : f.size ≤ 64) (hn : new.size ≤ 1099511627776) (w : World) (hm : Tryz.MaxL w) :
    Calls Tryz.prog 43 #[.string f, .string old, .string new, .int .i64 1] w fun e w' => e = .returned (.string (repB f old new)) ∧ Below w.heap.size w w' :=
  Tryz.strings_Replace f old new 1 w (by omega) hm h1 (by
    have h := Lib.countB_le old h1 f.size f (Nat.le_refl _)
    have h2 : Lib.countB f old * new.size ≤ 64 * 1099511627776 := Nat.mul_le_mul (by omega) hn
    omega)
theorem offB_size (off : Int) : (offB off).size ≤ 100 := by
  have h : ∀ n, (offN n).size ≤ 50 := fun n => by
    unfold offN
    rw [ByteArray.size_append, ByteArray.size_append]
    have e : ∀ k, (twoB k).size = 2 := fun k => rfl
    split <;> split <;> simp only [e] <;> decide
  unfold offB
  split
  · rw [ByteArray.size_append]
    have := h (-off)
    have e : (⟨#[45]⟩ : ByteArray).size = 1 := rfl
    omega
  · rw [ByteArray.size_append]
    have := h off
    have e : (⟨#[43]⟩ : ByteArray).size = 1 := rfl
    omega
set_option maxHeartbeats 2000000 in
theorem show_any (f : ByteArray) (off : Int) (dst : Bool) (letter : ByteArray) (w : World) (hs : f.size < 4294967281) (hl : letter.size ≤ 1099511627776) (hm : Tryz.MaxL w) :
    Calls Tryz.prog 26 #[.string f, .int .i64 off, .bool dst, .string letter] w fun o w' => o = .returned (.tuple #[.string (showV f off dst letter).1, .int .i64 (showV f off dst letter).2]) ∧ Below w.heap.size w w' := by
  rcases kindR_kinds f.data.toList with h | ⟨hl64, h | h | h | h⟩
  · have e : showV f off dst letter = (⟨#[]⟩, 12) := by unfold showV; rw [h, if_neg (by decide)]
    rw [e]
    exact show_err f off dst letter w hs hm 0 12 h (by decide)
  · have e : showV f off dst letter = (f, 0) := by unfold showV; rw [h]; rfl
    rw [e]
    exact show_plain f off dst letter w hs hm h
  · have hs64 : f.size ≤ 64 := by have : f.data.toList.length = f.size := Array.length_toList
                                  omega
    have e : showV f off dst letter = (repB f ⟨#[37, 115]⟩ letter, 0) := by unfold showV; rw [h]; rfl
    rw [e]
    have HK := Lib.hid (kind_at f hs 1 0 h w hm)
    have HR := Lib.hid (fun W (hb : Below w.heap.size w W) => rep_any f ⟨#[37, 115]⟩ letter (by decide) hs64 hl W (hm.below hb (Nat.le_refl _)))
    clear h e hm
    generalize repB f ⟨#[37, 115]⟩ letter = t at *
    go_enter Tryz.func26, Tryz.ntmps26
    go_wp2_with fail
    refine HK.out.mono ?_
    rintro e w1 ⟨rfl, hb⟩
    go_wp2_with fail
    refine (HR.out _ hb).mono ?_
    rintro e w2 ⟨rfl, hb2⟩
    go_wp2_with fail
    go_ret2
    exact ⟨rfl, hb.trans (hb2.mono hb.size)⟩
  · have hs64 : f.size ≤ 64 := by have : f.data.toList.length = f.size := Array.length_toList
                                  omega
    have HK := Lib.hid (kind_at f hs 2 0 h w hm)
    have HO := Lib.hid (fun W => off_any off W)
    have HR := Lib.hid (fun W (hb : Below w.heap.size w W) => rep_any f ⟨#[37, 122]⟩ (offB off) (by decide) hs64 (by have := offB_size off; omega) W (hm.below hb (Nat.le_refl _)))
    by_cases hr : -360000 < off ∧ off < 360000
    · have e : showV f off dst letter = (repB f ⟨#[37, 122]⟩ (offB off), 0) := by unfold showV; simp only [h]; rw [if_pos trivial, if_neg (by decide), if_pos trivial, if_pos hr]
      rw [e]
      simp only [if_pos hr] at HO
      clear h e hm
      generalize repB f ⟨#[37, 122]⟩ (offB off) = t at *
      generalize offB off = ob at *
      go_enter Tryz.func26, Tryz.ntmps26
      go_wp2_with fail
      refine HK.out.mono ?_
      rintro e w1 ⟨rfl, hb⟩
      go_wp2_with fail
      refine (HO.out _).mono ?_
      rintro e w2 ⟨rfl, hb2⟩
      have hb3 := hb.trans (hb2.mono hb.size)
      go_wp2_with fail
      refine (HR.out _ hb3).mono ?_
      rintro e w3 ⟨rfl, hb4⟩
      go_wp2_with fail
      go_ret2
      exact ⟨rfl, hb3.trans (hb4.mono hb3.size)⟩
    · have e : showV f off dst letter = (⟨#[]⟩, 10) := by unfold showV; simp only [h]; rw [if_pos trivial, if_neg (by decide), if_pos trivial, if_neg hr]
      rw [e]
      simp only [if_neg hr] at HO
      clear h e hm HR
      go_enter Tryz.func26, Tryz.ntmps26
      go_wp2_with fail
      refine HK.out.mono ?_
      rintro e w1 ⟨rfl, hb⟩
      go_wp2_with fail
      refine (HO.out _).mono ?_
      rintro e w2 ⟨rfl, hb2⟩
      have hb3 := hb.trans (hb2.mono hb.size)
      go_wp2_with fail
      go_ret2
      exact ⟨rfl, hb3⟩
  · have HK := Lib.hid (kind_at f hs 3 0 h w hm)
    have HC := Lib.hid (fun W (hb : Below w.heap.size w W) => Tryz.strings_Cut f ⟨#[47]⟩ W hs (hm.below hb (Nat.le_refl _)))
    obtain ⟨⟨c0, c1, c2⟩, hc⟩ : ∃ c, Lib.cut f.data.toList [47] = c := ⟨_, rfl⟩
    have hcs : Lib.cut f.data.toList (⟨#[47]⟩ : ByteArray).data.toList = (c0, c1, c2) := hc
    simp only [hcs] at HC
    cases dst with
    | true =>
      have e : showV f off true letter = (⟨c1.toArray⟩, 0) := by unfold showV; rw [h, hc]; rfl
      rw [e]
      clear h e hm hc hcs
      go_enter Tryz.func26, Tryz.ntmps26
      go_wp2_with fail
      refine HK.out.mono ?_
      rintro e w1 ⟨rfl, hb⟩
      go_wp2_with fail
      refine (HC.out _ hb).mono ?_
      rintro e w2 ⟨rfl, n, rfl⟩
      go_wp2_with fail
      go_ret2
      exact ⟨rfl, below_drewN hb n⟩
    | false =>
      have e : showV f off false letter = (⟨c0.toArray⟩, 0) := by unfold showV; rw [h, hc]; rfl
      rw [e]
      clear h e hm hc hcs
      go_enter Tryz.func26, Tryz.ntmps26
      go_wp2_with fail
      refine HK.out.mono ?_
      rintro e w1 ⟨rfl, hb⟩
      go_wp2_with fail
      refine (HC.out _ hb).mono ?_
      rintro e w2 ⟨rfl, n, rfl⟩
      go_wp2_with fail
      go_ret2
      exact ⟨rfl, below_drewN hb n⟩
/-- Show, wherever. -/
theorem shows_any (f : ByteArray) (off : Int) (dst : Bool) (letter : ByteArray) (hs : f.size < 4294967281) (hl : letter.size ≤ 1099511627776) : Shows f off dst letter (showV f off dst letter).1 (showV f off dst letter).2 := fun W hm => show_any f off dst letter W hs hl hm
end Go.Proofs.YtfbkkhfmboaknaaGreatDoor
