/-
  Layer 16: members in memory; the library's search among them, and what Check asks of each one.
-/
import Derived.Test.YtmhadkdbonfmdaaDoorZSort
namespace Go.Proofs.YtmhadkdbonfmdaaDoor
open Go Go.RowKit Go.Shelf
set_option maxRecDepth 100000

/-- A name, and bytes. -/
abbrev Mem := List UInt8 × List UInt8
/-- The slice value v is these members. -/
def Mems (w : World) (B : Nat) (v : Value) (l : List Mem) : Prop := ∃ xs, Sl w B 2 v l.length xs ∧ ∀ (i : Nat) (h : i < l.length), xs[i * 2]? = some (str (l[i]).1) ∧ (l[i]).1.length ≤ maxLen ∧ ∃ dv, xs[i * 2 + 1]? = some dv ∧ Bytes w B dv (l[i]).2
theorem Mems.form {w : World} {B : Nat} {v : Value} {l : List Mem} (h : Mems w B v l) : ∃ A c, v = .slice A l.length c ∧ l.length ≤ c ∧ c ≤ maxLen := by
  obtain ⟨xs, ⟨A, c, rfl, h1, h2, -⟩, -⟩ := h
  exact ⟨A, c, rfl, h1, h2⟩
theorem Mems.below {w w' : World} {B : Nat} {v : Value} {l : List Mem} (h : Mems w B v l) (hb : Below B w w') : Mems w' B v l := by
  obtain ⟨xs, h1, h2⟩ := h
  refine ⟨xs, h1.below hb, fun i hi => ?_⟩
  obtain ⟨h3, hl, dv, h4, h5⟩ := h2 i hi
  exact ⟨h3, hl, dv, h4, h5.below hb⟩
theorem Mems.more {w : World} {B B' : Nat} {v : Value} {l : List Mem} (h : Mems w B v l) (hB : B ≤ B') : Mems w B' v l := by
  obtain ⟨xs, h1, h2⟩ := h
  refine ⟨xs, h1.more hB, fun i hi => ?_⟩
  obtain ⟨h3, hl, dv, h4, h5⟩ := h2 i hi
  exact ⟨h3, hl, dv, h4, h5.more hB⟩
/-- Of a member the address, and what lies there. -/
theorem Mems.at_ {w : World} {B : Nat} {A : Option Addr} {n c : Nat} {l : List Mem} (h : Mems w B (.slice A n c) l) {i : Nat} (hi : i < l.length) :
    ∃ b o, A = some ⟨b, o, none⟩ ∧ b < B ∧ w.cell? ⟨b, o + i * 2, none⟩ = some (str (l[i]).1) ∧ (l[i]).1.length ≤ maxLen ∧ ∃ dv, w.cell? ⟨b, o + i * 2 + 1, none⟩ = some dv ∧ Bytes w B dv (l[i]).2 := by
  obtain ⟨xs, ⟨A', c', e, -, -, -, hA⟩, h2⟩ := h
  cases e
  obtain ⟨b, o, rfl, hb, hc⟩ := hA (by omega)
  obtain ⟨h3, hl, dv, h4, h5⟩ := h2 i hi
  exact ⟨b, o, rfl, hb, hc _ _ h3, hl, dv, by rw [Nat.add_assoc]; exact hc _ _ h4, h5⟩

/-- A function that says yes or no of a member. -/
def Asks (F : Nat) (p : Mem → Bool) : Prop := ∀ (w : World) (name data : List UInt8) (dv : Value), name.length ≤ maxLen → Bytes w w.heap.size dv data →
  Calls Tryd.prog F #[.agg #[str name, dv]] w fun e w' => e = .returned (.bool (p (name, data))) ∧ Below w.heap.size w w'

set_option maxHeartbeats 1000000 in
theorem index_any (w : World) (v : Value) (l : List Mem) (hv : Mems w w.heap.size v l) (F : Nat) (hF : F = 30 ∨ F = 33) (p : Mem → Bool) (hp : Asks F p) :
    Calls Tryd.prog 44 #[v, .func (.func F) #[] #[]] w fun e w' =>
      (∃ r : Int, e = .returned (.int .i64 r) ∧ -1 ≤ r ∧ r ≤ 9223372036854775807 ∧ (decide (0 ≤ r) = l.any p)) ∧ Below w.heap.size w w' := by
  obtain ⟨A, c, rfl, hlc, hcm⟩ := hv.form
  unfold maxLen at hcm
  have HV := Lib.hid hv
  have HP := Lib.hid hp
  clear hv hp
  go_enter Tryd.func44, Tryd.ntmps44
  go_wp2_with fail
  go_loopw [8] (fun i wr => ∃ k : Nat, k ≤ l.length ∧ i = .int .i64 k ∧ (l.take k).any p = false ∧ Below w.heap.size w wr) (fun i _ => l.length - (intOf i).toNat)
  case atStart => exact ⟨0, by omega, rfl, rfl, Below.refl _ _⟩
  case round =>
    obtain ⟨k, hk, rfl, hno, hbel⟩ := hrel
    have HN := Lib.hid hno
    clear hno
    by_cases hlt : k < l.length
    · obtain ⟨b, o, rfl, hbB, hc0, hl, dv, hc1, hy⟩ := HV.out.at_ hlt
      have hd0 := (hbel.cell (p := ⟨b, o + k * 2, none⟩) hbB).trans hc0
      have hd1 := (hbel.cell (p := ⟨b, o + k * 2 + 1, none⟩) hbB).trans hc1
      have HX := HP.out wr (l[k]).1 (l[k]).2 dv hl ((hy.below hbel).more hbel.size)
      have HT : Hid ((l.take (k + 1)).any p = ((l.take k).any p || p l[k])) := by
        show _ = _
        rw [List.take_succ_eq_append_getElem hlt, List.any_append]
        simp
      have HALL : Hid (p l[k] = true → l.any p = true) := fun h => List.any_eq_true.2 ⟨_, List.getElem_mem hlt, h⟩
      have HX := Lib.hid HX
      clear hc0 hc1 hy hl
      generalize l[k] = m at *
      obtain ⟨name, data⟩ := m
      dsimp only at hd0
      cases hpm : p (name, data) with
      | true =>
        rw [hpm] at HX HALL
        rcases hF with rfl | rfl
        all_goals
          go_wp2_with fail
          refine HX.out.mono ?_
          rintro e w2 ⟨rfl, hb2⟩
          go_wp2_with fail
          go_ret
          exact ⟨⟨(k : Int), rfl, by omega, by omega, by rw [HALL.out trivial]; simp⟩, hbel.trans (hb2.mono hbel.size)⟩
      | false =>
        rw [hpm] at HX
        rcases hF with rfl | rfl
        all_goals
          go_wp2_with fail
          refine HX.out.mono ?_
          rintro e w2 ⟨rfl, hb2⟩
          go_wp2_with fail
          go_roundw
          case rel => exact ⟨k + 1, by omega, by go_num, by rw [HT.out, HN.out, hpm]; rfl, hbel.trans (hb2.mono hbel.size)⟩
          case measure => first | (simp [intOf]; done) | (simp [intOf]; omega)
    · obtain rfl : k = l.length := by omega
      have HE : Hid (l.any p = false) := by
        have := HN.out
        rwa [List.take_length] at this
      go_wp2_with fail
      go_ret
      exact ⟨⟨-1, rfl, by omega, by omega, by rw [HE.out]; rfl⟩, hbel⟩

set_option maxHeartbeats 1000000 in
theorem contains_any (w : World) (v : Value) (l : List Mem) (hv : Mems w w.heap.size v l) (F : Nat) (hF : F = 30 ∨ F = 33) (p : Mem → Bool) (hp : Asks F p) :
    Calls Tryd.prog 28 #[v, .func (.func F) #[] #[]] w fun e w' => e = .returned (.bool (l.any p)) ∧ Below w.heap.size w w' := by
  have HX := Lib.hid (index_any w v l hv F hF p hp)
  clear hv hp hF
  go_enter Tryd.func28, Tryd.ntmps28
  go_wp2_with fail
  refine HX.out.mono ?_
  rintro e w2 ⟨⟨r, rfl, h1, h2, h3⟩, hb2⟩
  have HE := Lib.hid h3
  clear h3
  go_wp2_with fail
  go_ret
  exact ⟨(show Ending.returned (.bool (decide (0 ≤ r))) = _ by rw [HE.out]), hb2⟩

set_option maxHeartbeats 1000000 in
theorem asks_size : Asks 33 fun m => decide (4194304 < m.2.length) := by
  intro w name data dv hn hd
  obtain ⟨A, c, rfl, hlc, hcm⟩ := hd.form
  unfold maxLen at hcm
  go_enter Tryd.func33, Tryd.ntmps33
  go_wp2_with fail
  go_ret
  exact ⟨ret_bool (by simp only [decide_eq_decide]; omega), bump _ _⟩

set_option maxHeartbeats 1000000 in
theorem asks_name : Asks 30 fun m => !nameOk m.1 := by
  intro w name data dv hn hd
  unfold maxLen at hn
  by_cases h1 : name = []
  · subst h1
    go_enter Tryd.func30, Tryd.ntmps30
    go_wp2_with fail
    go_ret
    exact ⟨rfl, bump _ _⟩
  · have hs := str_size name
    by_cases h2 : 64 < name.length
    · go_enter Tryd.func30, Tryd.ntmps30
      go_wp2_with fail
      go_ret
      exact ⟨ret_bool (by simp [nameOk]; omega), bump _ _⟩
    · have he : name.isEmpty = false := by
        cases name with
        | nil => exact absurd rfl h1
        | cons a l => rfl
      have hl : 1 ≤ name.length := by
        cases name with
        | nil => exact absurd rfl h1
        | cons a l => simp
      have HT : ∀ W, Hid (Calls Tryd.prog 31 #[str name, .string ⟨nameCs.toArray⟩] W fun e w' => e = .returned (str (Lib.trimS name nameCs)) ∧ Below W.heap.size W w') := fun W =>
        Tryd.strings_Trim ⟨name.toArray⟩ ⟨nameCs.toArray⟩ W (by rw [str_size]; omega) (by decide) (ascii_of_all (by decide))
      have HR : Hid ((!nameOk name) = !(Lib.trimS name nameCs).isEmpty) := by
        show _ = _
        have h3 : nameOk name = name.all (nameCs.contains ·) := by simp [nameOk, hl, show name.length ≤ 64 by omega]
        rw [h3]
        have h4 := trim_nil name nameCs
        rw [Bool.eq_iff_iff]
        simp only [Bool.not_eq_true', ← Bool.not_eq_true, ← h4, List.isEmpty_iff]
      generalize Lib.trimS name nameCs = tr at *
      go_enter Tryd.func30, Tryd.ntmps30
      go_wp2_with fail
      refine (HT _).out.mono ?_
      rintro e w2 ⟨rfl, hb2⟩
      go_wp2_with fail
      go_ret
      exact ⟨ret_bool (by rw [HR.out, decide_eq_false (show ¬ (64 : Int) < (name.length : Int) by omega)]; rfl), (bump _ _).trans (hb2.mono (by simp))⟩
end Go.Proofs.YtmhadkdbonfmdaaDoor
