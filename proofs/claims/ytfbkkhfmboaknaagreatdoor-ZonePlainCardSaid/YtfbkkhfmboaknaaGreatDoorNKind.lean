/-
  Layer 12's Kind, walked.
-/
import Derived.Deep.QuietTactic
import Derived.BigQuiet
import Derived.Shelf.RegionOpen
import Derived.WalkKit
import Derived.WalkSpells
import Derived.WalkLawsBesides
import Derived.Lib.Hide
import Derived.Lib.Walk
import Derived.Test.YtfbkkhfmboaknaaGreatDoorNShelf
import Derived.Test.YtfbkkhfmboaknaaGreatDoorNMath
import Derived.Test.YtfbkkhfmboaknaaGreatDoorNBase
import Derived.Test.YtfbkkhfmboaknaaGreatDoorEnv
import Derived.Test.YtfbkkhfmboaknaaGreatDoorSerialC
namespace Go.Proofs.YtfbkkhfmboaknaaGreatDoor
open Go Go.RowKit Go.Shelf
set_option maxRecDepth 100000

theorem contains_at (f : ByteArray) (hs : f.size < 4294967281) (m : ByteArray) (b : Bool) (h : Lib.contains f.data.toList m.data.toList = b) (w : World) (hm : Tryz.MaxL w) :
    Calls Tryz.prog 42 #[.string f, .string m] w fun e w' => e = .returned (.bool b) ∧ w = w' := (Tryz.strings_Contains f m w hs hm).mono fun e w' ⟨h1, h2⟩ => ⟨by rw [h1, h], h2.symm⟩
theorem replaceK_len (old : List UInt8) : ∀ (k : Nat) (s : List UInt8), (Lib.replaceK old [] k s).length ≤ s.length
  | 0, s => Nat.le_refl _
  | k + 1, s => by
    unfold Lib.replaceK
    split
    · exact Nat.le_refl _
    · have := replaceK_len old k (s.drop ((Lib.index s old).toNat + old.length))
      simp only [List.length_append, List.length_take, List.length_nil, List.length_drop] at *
      omega
theorem replace_len (s old : List UInt8) : (Lib.replace s old [] 1).length ≤ s.length := by
  unfold Lib.replace
  split
  · exact Nat.le_refl _
  · exact replaceK_len _ _ _
theorem replace_at (f : ByteArray) (hs : f.size < 4294967281) (m : ByteArray) (h1 : 1 ≤ m.size) (w : World) (hm : Tryz.MaxL w) :
    Calls Tryz.prog 43 #[.string f, .string m, .string ⟨#[]⟩, .int .i64 1] w fun e w' => e = .returned (.string ⟨(Lib.replace f.data.toList m.data.toList [] 1).toArray⟩) ∧ Below w.heap.size w w' :=
  Tryz.strings_Replace f m ⟨#[]⟩ 1 w hs hm h1 (by show f.size + _ * 0 ≤ _; omega)
def abcS : ByteArray := ⟨#[97, 98, 99, 100, 101, 102, 103, 104, 105, 106, 107, 108, 109, 110, 111, 112, 113, 114, 115, 116, 117, 118, 119, 120, 121, 122, 65, 66, 67, 68, 69, 70, 71, 72, 73, 74, 75, 76, 77, 78, 79, 80, 81, 82, 83, 84, 85, 86, 87, 88, 89, 90, 48, 49, 50, 51, 52, 53, 54, 55, 56, 57, 43, 45]⟩
theorem trim_at (p : ByteArray) (hs : p.size ≤ 9223372036854775807) (l : List UInt8) (hl : Lib.trimS p.data.toList abcB = l) (w : World) :
    Calls Tryz.prog 44 #[.string p, .string abcS] w fun e w' => e = .returned (.string ⟨l.toArray⟩) ∧ Below w.heap.size w w' := by
  subst hl
  exact Tryz.strings_Trim p abcS w hs (by decide) (Go.Proofs.ascii_of_all (by decide))
set_option maxHeartbeats 4000000 in
theorem kind_any (f : ByteArray) (w : World) (hs : f.size < 4294967281) (hm : Tryz.MaxL w) :
    Calls Tryz.prog 25 #[.string f] w fun e w' => e = .returned (.tuple #[.int .i64 (kindR f.data.toList).1, .int .i64 (kindR f.data.toList).2]) ∧ Below w.heap.size w w' := by
  have HM : ∀ W, Below w.heap.size w W → Tryz.MaxL W := fun W hb => hm.below hb (Nat.le_refl _)
  by_cases h1 : Lib.contains f.data.toList [37, 115] = true
  · have HT := contains_at f hs ⟨#[37, 115]⟩ true h1
    go_enter Tryz.func25, Tryz.ntmps25
    go_wp2_with fail
    refine wp_loop_rounds 4 ?_
    rw [rounds_succ]
    go_wp2_with fail
    refine (HT _ (HM _ (((Below.refl _ _).alloc (Nat.le_refl _) _).alloc (by simp) _))).mono ?_
    rintro e w1 ⟨rfl, rfl⟩
    go_wp2_with fail
    refine wp_env (fin := ?fn0) (by kernel_rfl) [23, 24, 25, 26, 27, 28, 4, 5]
      [.string f, .pointer (some ⟨w.heap.size + 1, 0, none⟩), .string ⟨#[37, 115]⟩, .string ⟨(Lib.replace f.data.toList [37, 115] [] 1).toArray⟩, .pointer (some ⟨w.heap.size + 1, 1, none⟩), .int .i64 1, .string ⟨(Lib.replace f.data.toList [37, 115] [] 1).toArray⟩, .int .i64 1] (by kernel_rfl) ?fin0 ?steps0 ?next0
    case fin0 => simp only [putAll, Act.put, List.setIfInBounds_toArray, List.set_cons_succ, List.set_cons_zero]; rfl
    case steps0 =>
      refine ⟨?_, ?_, ?_, ?_, ?_, ?_, ?_, ?_, trivial⟩
      all_goals
        refine .inr ⟨by kernel_rfl, fun w1_ hB => ?_⟩
        have hb := blk_behind hB
        simp only [World.size_alloc] at hb
        have q0 := hb.cell 0 (v := .string ⟨#[37, 115]⟩) rfl
        have q1 := hb.cell 1 (v := .int .i64 1) rfl
        have hbw := (((Below.refl _ _).alloc (Nat.le_refl _) _).alloc (by simp) _).trans (hB.mono (by simp; omega))
        clear hb hB
        go_simp
        first | exact ⟨rfl, Below.refl _ _⟩ | exact ⟨rfl, replace_at f hs ⟨#[37, 115]⟩ (by decide) _ (HM _ hbw)⟩
    case next0 =>
      intro W4 hB4
      have hB := (((Below.refl _ _).alloc (Nat.le_refl _) _).alloc (by simp) _).trans (hB4.mono (by simp; omega))
      clear hB4
      have hp : f.data.toList ≠ [] := contains_ne (by decide) h1
      have hne : ¬ f.toList = [] := by rw [Lib.toList_data]; exact hp
      have hne2 : f.toList.isEmpty = false := by cases e : f.toList with | nil => exact absurd e hne | cons a l => rfl
      have hk : kindP f.data.toList = (1, Lib.replace f.data.toList [37, 115] [] 1) := by unfold kindP; rw [if_pos h1]
      have hz : (Lib.replace f.data.toList [37, 115] [] 1).length ≤ f.size := by have := replace_len f.data.toList [37, 115]; simpa using this
      by_cases hl : 64 < (f.size : Int)
      · have HB := Lib.hid (kindR_bad (bad_long (f := f.data.toList) (by rw [Array.length_toList]; show 64 < f.size; omega)))
        clear hk hz hp
        go_wp2_with fail
        all_goals (go_ret2; exact ⟨by rw [HB.out]; rfl, hB⟩)
      · have HK := Lib.hid (fun h => kindR_ok (bad_not hk hp (by rw [Array.length_toList]; show ¬ 64 < f.size; omega) (edge_not hk (by decide)) h) hk)
        have HN := Lib.hid (fun h => kindR_bad (bad_trim hk h))
        clear hk hp
        generalize Lib.replace f.data.toList [37, 115] [] 1 = p at *
        go_wp2_with fail
        refine (trim_at _ (by show p.toArray.size ≤ _; simp; omega) (Lib.trimS p abcB) rfl _).mono ?_
        rintro e w5 ⟨rfl, hb5⟩
        generalize Lib.trimS p abcB = z at *
        have hb6 := hB.trans (hb5.mono hB.size)
        clear hb5 hB
        by_cases he : z = []
        · have he2 : (!z.isEmpty) = false := by rw [he]; rfl
          have HB := Lib.hid (HK.out he)
          clear he HK HN
          go_wp2_with fail
          go_ret2
          exact ⟨by rw [HB.out]; rfl, hb6⟩
        · have he2 : (!z.isEmpty) = true := by cases z with | nil => exact absurd rfl he | cons a l => rfl
          have HB := Lib.hid (HN.out he)
          clear he HK HN
          go_wp2_with fail
          go_ret2
          exact ⟨by rw [HB.out]; rfl, hb6⟩
  · skip
    by_cases h2 : Lib.contains f.data.toList [37, 122] = true
    · have HT := contains_at f hs ⟨#[37, 122]⟩ true h2
      have HF1 := contains_at f hs ⟨#[37, 115]⟩ false (by simpa using h1)
      go_enter Tryz.func25, Tryz.ntmps25
      go_wp2_with fail
      refine wp_loop_rounds 4 ?_
      rw [rounds_succ]
      go_wp2_with fail
      refine (HF1 _ (HM _ (((Below.refl _ _).alloc (Nat.le_refl _) _).alloc (by simp) _))).mono ?_
      rintro e w1 ⟨rfl, rfl⟩
      go_wp2_with fail
      rw [rounds_succ]
      go_wp2_with fail
      refine (HT _ (HM _ ((((Below.refl _ _).alloc (Nat.le_refl _) _).alloc (by simp) _).alloc (by simp; omega) _))).mono ?_
      rintro e w1 ⟨rfl, rfl⟩
      go_wp2_with fail
      refine wp_env (fin := ?fn1) (by kernel_rfl) [23, 24, 25, 26, 27, 28, 4, 5]
        [.string f, .pointer (some ⟨w.heap.size + 1 + 1, 0, none⟩), .string ⟨#[37, 122]⟩, .string ⟨(Lib.replace f.data.toList [37, 122] [] 1).toArray⟩, .pointer (some ⟨w.heap.size + 1 + 1, 1, none⟩), .int .i64 2, .string ⟨(Lib.replace f.data.toList [37, 122] [] 1).toArray⟩, .int .i64 2] (by kernel_rfl) ?fin1 ?steps1 ?next1
      case fin1 => simp only [putAll, Act.put, List.setIfInBounds_toArray, List.set_cons_succ, List.set_cons_zero]; rfl
      case steps1 =>
        refine ⟨?_, ?_, ?_, ?_, ?_, ?_, ?_, ?_, trivial⟩
        all_goals
          refine .inr ⟨by kernel_rfl, fun w1_ hB => ?_⟩
          have hb := blk_behind hB
          simp only [World.size_alloc] at hb
          have q0 := hb.cell 0 (v := .string ⟨#[37, 122]⟩) rfl
          have q1 := hb.cell 1 (v := .int .i64 2) rfl
          have hbw := ((((Below.refl _ _).alloc (Nat.le_refl _) _).alloc (by simp) _).alloc (by simp; omega) _).trans (hB.mono (by simp; omega))
          clear hb hB
          go_simp
          first | exact ⟨rfl, Below.refl _ _⟩ | exact ⟨rfl, replace_at f hs ⟨#[37, 122]⟩ (by decide) _ (HM _ hbw)⟩
      case next1 =>
        intro W4 hB4
        have hB := ((((Below.refl _ _).alloc (Nat.le_refl _) _).alloc (by simp) _).alloc (by simp; omega) _).trans (hB4.mono (by simp; omega))
        clear hB4
        have hp : f.data.toList ≠ [] := contains_ne (by decide) h2
        have hne : ¬ f.toList = [] := by rw [Lib.toList_data]; exact hp
        have hne2 : f.toList.isEmpty = false := by cases e : f.toList with | nil => exact absurd e hne | cons a l => rfl
        have hk : kindP f.data.toList = (2, Lib.replace f.data.toList [37, 122] [] 1) := by unfold kindP; rw [if_neg h1, if_pos h2]
        have hz : (Lib.replace f.data.toList [37, 122] [] 1).length ≤ f.size := by have := replace_len f.data.toList [37, 122]; simpa using this
        by_cases hl : 64 < (f.size : Int)
        · have HB := Lib.hid (kindR_bad (bad_long (f := f.data.toList) (by rw [Array.length_toList]; show 64 < f.size; omega)))
          clear hk hz hp
          go_wp2_with fail
          all_goals (go_ret2; exact ⟨by rw [HB.out]; rfl, hB⟩)
        · have HK := Lib.hid (fun h => kindR_ok (bad_not hk hp (by rw [Array.length_toList]; show ¬ 64 < f.size; omega) (edge_not hk (by decide)) h) hk)
          have HN := Lib.hid (fun h => kindR_bad (bad_trim hk h))
          clear hk hp
          generalize Lib.replace f.data.toList [37, 122] [] 1 = p at *
          go_wp2_with fail
          refine (trim_at _ (by show p.toArray.size ≤ _; simp; omega) (Lib.trimS p abcB) rfl _).mono ?_
          rintro e w5 ⟨rfl, hb5⟩
          generalize Lib.trimS p abcB = z at *
          have hb6 := hB.trans (hb5.mono hB.size)
          clear hb5 hB
          by_cases he : z = []
          · have he2 : (!z.isEmpty) = false := by rw [he]; rfl
            have HB := Lib.hid (HK.out he)
            clear he HK HN
            go_wp2_with fail
            go_ret2
            exact ⟨by rw [HB.out]; rfl, hb6⟩
          · have he2 : (!z.isEmpty) = true := by cases z with | nil => exact absurd rfl he | cons a l => rfl
            have HB := Lib.hid (HN.out he)
            clear he HK HN
            go_wp2_with fail
            go_ret2
            exact ⟨by rw [HB.out]; rfl, hb6⟩
    · skip
      by_cases h3 : Lib.contains f.data.toList [47] = true
      · have HT := contains_at f hs ⟨#[47]⟩ true h3
        have HF1 := contains_at f hs ⟨#[37, 115]⟩ false (by simpa using h1)
        have HF2 := contains_at f hs ⟨#[37, 122]⟩ false (by simpa using h2)
        go_enter Tryz.func25, Tryz.ntmps25
        go_wp2_with fail
        refine wp_loop_rounds 4 ?_
        rw [rounds_succ]
        go_wp2_with fail
        refine (HF1 _ (HM _ (((Below.refl _ _).alloc (Nat.le_refl _) _).alloc (by simp) _))).mono ?_
        rintro e w1 ⟨rfl, rfl⟩
        go_wp2_with fail
        rw [rounds_succ]
        go_wp2_with fail
        refine (HF2 _ (HM _ ((((Below.refl _ _).alloc (Nat.le_refl _) _).alloc (by simp) _).alloc (by simp; omega) _))).mono ?_
        rintro e w1 ⟨rfl, rfl⟩
        go_wp2_with fail
        rw [rounds_succ]
        go_wp2_with fail
        refine (HT _ (HM _ (((((Below.refl _ _).alloc (Nat.le_refl _) _).alloc (by simp) _).alloc (by simp; omega) _).alloc (by simp; omega) _))).mono ?_
        rintro e w1 ⟨rfl, rfl⟩
        go_wp2_with fail
        refine wp_env (fin := ?fn2) (by kernel_rfl) [23, 24, 25, 26, 27, 28, 4, 5]
          [.string f, .pointer (some ⟨w.heap.size + 1 + 1 + 1, 0, none⟩), .string ⟨#[47]⟩, .string ⟨(Lib.replace f.data.toList [47] [] 1).toArray⟩, .pointer (some ⟨w.heap.size + 1 + 1 + 1, 1, none⟩), .int .i64 3, .string ⟨(Lib.replace f.data.toList [47] [] 1).toArray⟩, .int .i64 3] (by kernel_rfl) ?fin2 ?steps2 ?next2
        case fin2 => simp only [putAll, Act.put, List.setIfInBounds_toArray, List.set_cons_succ, List.set_cons_zero]; rfl
        case steps2 =>
          refine ⟨?_, ?_, ?_, ?_, ?_, ?_, ?_, ?_, trivial⟩
          all_goals
            refine .inr ⟨by kernel_rfl, fun w1_ hB => ?_⟩
            have hb := blk_behind hB
            simp only [World.size_alloc] at hb
            have q0 := hb.cell 0 (v := .string ⟨#[47]⟩) rfl
            have q1 := hb.cell 1 (v := .int .i64 3) rfl
            have hbw := (((((Below.refl _ _).alloc (Nat.le_refl _) _).alloc (by simp) _).alloc (by simp; omega) _).alloc (by simp; omega) _).trans (hB.mono (by simp; omega))
            clear hb hB
            go_simp
            first | exact ⟨rfl, Below.refl _ _⟩ | exact ⟨rfl, replace_at f hs ⟨#[47]⟩ (by decide) _ (HM _ hbw)⟩
        case next2 =>
          intro W4 hB4
          have hB := (((((Below.refl _ _).alloc (Nat.le_refl _) _).alloc (by simp) _).alloc (by simp; omega) _).alloc (by simp; omega) _).trans (hB4.mono (by simp; omega))
          clear hB4
          have hp : f.data.toList ≠ [] := contains_ne (by decide) h3
          have hne : ¬ f.toList = [] := by rw [Lib.toList_data]; exact hp
          have hne2 : f.toList.isEmpty = false := by cases e : f.toList with | nil => exact absurd e hne | cons a l => rfl
          have hk : kindP f.data.toList = (3, Lib.replace f.data.toList [47] [] 1) := by unfold kindP; rw [if_neg h1, if_neg h2, if_pos h3]
          have hz : (Lib.replace f.data.toList [47] [] 1).length ≤ f.size := by have := replace_len f.data.toList [47]; simpa using this
          have h0 : 0 < f.size := by have := List.length_pos_iff.2 hp; simpa using this
          have hE := edge_at hk h0
          by_cases e0 : (f[0].toNat : Int) = 47
          · have HB := Lib.hid (kindR_bad (bad_edge (hE.trans (by rw [decide_eq_true e0]; rfl))))
            clear hk hz hp hE
            go_wp2_with fail
            all_goals (go_ret2; exact ⟨by rw [HB.out]; rfl, hB⟩)
          · by_cases e1 : (f[f.size - 1].toNat : Int) = 47
            · have HB := Lib.hid (kindR_bad (bad_edge (hE.trans (by rw [decide_eq_true e1, Bool.or_true]))))
              clear hk hz hp hE
              go_wp2_with fail
              all_goals (go_ret2; exact ⟨by rw [HB.out]; rfl, hB⟩)
            · have HE := Lib.hid (hE.trans (by rw [decide_eq_false e0, decide_eq_false e1, Bool.or_false]))
              have e2 : ((f[0].toNat : Int) == 47) = false := by simpa using e0
              have e3 : ((f[f.size - 1].toNat : Int) == 47) = false := by simpa using e1
              clear hE
              by_cases hl : 64 < (f.size : Int)
              · have HB := Lib.hid (kindR_bad (bad_long (f := f.data.toList) (by rw [Array.length_toList]; show 64 < f.size; omega)))
                clear hk hz hp
                go_wp2_with fail
                all_goals (go_ret2; exact ⟨by rw [HB.out]; rfl, hB⟩)
              · have HK := Lib.hid (fun h => kindR_ok (bad_not hk hp (by rw [Array.length_toList]; show ¬ 64 < f.size; omega) HE.out h) hk)
                have HN := Lib.hid (fun h => kindR_bad (bad_trim hk h))
                clear hk hp
                generalize Lib.replace f.data.toList [47] [] 1 = p at *
                go_wp2_with fail
                refine (trim_at _ (by show p.toArray.size ≤ _; simp; omega) (Lib.trimS p abcB) rfl _).mono ?_
                rintro e w5 ⟨rfl, hb5⟩
                generalize Lib.trimS p abcB = z at *
                have hb6 := hB.trans (hb5.mono hB.size)
                clear hb5 hB
                by_cases he : z = []
                · have he2 : (!z.isEmpty) = false := by rw [he]; rfl
                  have HB := Lib.hid (HK.out he)
                  clear he HK HN
                  go_wp2_with fail
                  go_ret2
                  exact ⟨by rw [HB.out]; rfl, hb6⟩
                · have he2 : (!z.isEmpty) = true := by cases z with | nil => exact absurd rfl he | cons a l => rfl
                  have HB := Lib.hid (HN.out he)
                  clear he HK HN
                  go_wp2_with fail
                  go_ret2
                  exact ⟨by rw [HB.out]; rfl, hb6⟩
      · skip
        have HF1 := contains_at f hs ⟨#[37, 115]⟩ false (by simpa using h1)
        have HF2 := contains_at f hs ⟨#[37, 122]⟩ false (by simpa using h2)
        have HF3 := contains_at f hs ⟨#[47]⟩ false (by simpa using h3)
        go_enter Tryz.func25, Tryz.ntmps25
        go_wp2_with fail
        refine wp_loop_rounds 4 ?_
        rw [rounds_succ]
        go_wp2_with fail
        refine (HF1 _ (HM _ (((Below.refl _ _).alloc (Nat.le_refl _) _).alloc (by simp) _))).mono ?_
        rintro e w1 ⟨rfl, rfl⟩
        go_wp2_with fail
        rw [rounds_succ]
        go_wp2_with fail
        refine (HF2 _ (HM _ ((((Below.refl _ _).alloc (Nat.le_refl _) _).alloc (by simp) _).alloc (by simp; omega) _))).mono ?_
        rintro e w1 ⟨rfl, rfl⟩
        go_wp2_with fail
        rw [rounds_succ]
        go_wp2_with fail
        refine (HF3 _ (HM _ (((((Below.refl _ _).alloc (Nat.le_refl _) _).alloc (by simp) _).alloc (by simp; omega) _).alloc (by simp; omega) _))).mono ?_
        rintro e w1 ⟨rfl, rfl⟩
        go_wp2_with fail
        rw [rounds_succ]
        have hB : Below w.heap.size w ((((w.alloc (.cells #[.string ⟨#[37, 115]⟩, .int .i64 1, .string ⟨#[37, 122]⟩, .int .i64 2, .string ⟨#[47]⟩, .int .i64 3] 107)).alloc (.cells #[.string ⟨#[37, 115]⟩, .int .i64 1] 107)).alloc (.cells #[.string ⟨#[37, 122]⟩, .int .i64 2] 107)).alloc (.cells #[.string ⟨#[47]⟩, .int .i64 3] 107)) := (((((Below.refl _ _).alloc (Nat.le_refl _) _).alloc (by simp) _).alloc (by simp; omega) _).alloc (by simp; omega) _)
        have hk : kindP f.data.toList = (0, f.data.toList) := by unfold kindP; rw [if_neg h1, if_neg h2, if_neg h3]
        have hz : f.data.toList.length ≤ f.data.toList.length := Nat.le_refl _
        by_cases hp : f.data.toList = []
        · have hne : f.toList = [] := by rw [Lib.toList_data]; exact hp
          have hne2 : f.toList.isEmpty = true := by rw [hne]; rfl
          have HB := Lib.hid (kindR_bad (bad_empty hp))
          clear hk hz hp
          go_wp2_with fail
          all_goals (go_ret2; exact ⟨by rw [HB.out]; rfl, hB⟩)
        · have hne : ¬ f.toList = [] := by rw [Lib.toList_data]; exact hp
          have hne2 : f.toList.isEmpty = false := by cases e : f.toList with | nil => exact absurd e hne | cons a l => rfl
          by_cases hl : 64 < (f.size : Int)
          · have HB := Lib.hid (kindR_bad (bad_long (f := f.data.toList) (by rw [Array.length_toList]; show 64 < f.size; omega)))
            clear hk hz hp
            go_wp2_with fail
            all_goals (go_ret2; exact ⟨by rw [HB.out]; rfl, hB⟩)
          · have HK := Lib.hid (fun h => kindR_ok (bad_not hk hp (by rw [Array.length_toList]; show ¬ 64 < f.size; omega) (edge_not hk (by decide)) h) hk)
            have HN := Lib.hid (fun h => kindR_bad (bad_trim hk h))
            clear hk hp
            have hfp : f = ⟨f.data.toList.toArray⟩ := by cases f; simp
            have HFP := Lib.hid hfp
            clear hfp
            go_wp2_with fail
            refine (trim_at _ (by omega) (Lib.trimS f.data.toList abcB) rfl _).mono ?_
            rintro e w5 ⟨rfl, hb5⟩
            generalize Lib.trimS f.data.toList abcB = z at *
            have hb6 := hB.trans (hb5.mono hB.size)
            clear hb5 hB
            by_cases he : z = []
            · have he2 : (!z.isEmpty) = false := by rw [he]; rfl
              have HB := Lib.hid (HK.out he)
              clear he HK HN
              go_wp2_with fail
              go_ret2
              exact ⟨by rw [HB.out]; rfl, hb6⟩
            · have he2 : (!z.isEmpty) = true := by cases z with | nil => exact absurd rfl he | cons a l => rfl
              have HB := Lib.hid (HN.out he)
              clear he HK HN
              go_wp2_with fail
              go_ret2
              exact ⟨by rw [HB.out]; rfl, hb6⟩
end Go.Proofs.YtfbkkhfmboaknaaGreatDoor
