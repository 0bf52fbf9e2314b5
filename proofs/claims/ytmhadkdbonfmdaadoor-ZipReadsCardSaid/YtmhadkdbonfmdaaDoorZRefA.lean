/-
  The answers of layer 16's reference: names, checks, fields.
-/
import Derived.BigQuiet
import Derived.Test.YtmhadkdbonfmdaaDoorZLawA
namespace Go.Proofs.YtmhadkdbonfmdaaDoor
open Go Go.RowKit Go.Shelf
set_option maxRecDepth 100000

def okB (n : Nat) : Bool := decide (97 ≤ n ∧ n ≤ 122) || decide (65 ≤ n ∧ n ≤ 90) || decide (48 ≤ n ∧ n ≤ 57) || n == 46 || n == 95 || n == 45 || n == 47
theorem okB_all : ∀ n, n < 256 → nameCs.contains (UInt8.ofNat n) = okB n := by decide +kernel
theorem okB_at (x : UInt8) : nameCs.contains x = okB x.toNat := by
  have := okB_all x.toNat x.toNat_lt
  simpa using this
theorem okB_cases (n : Nat) : (okB n = true ∧ ((97 ≤ n ∧ n ≤ 122) ∨ (65 ≤ n ∧ n ≤ 90) ∨ (48 ≤ n ∧ n ≤ 57) ∨ n = 46 ∨ n = 95 ∨ n = 45 ∨ n = 47)) ∨ (okB n = false ∧ (n < 45 ∨ (57 < n ∧ n < 65) ∨ (90 < n ∧ n < 95) ∨ n = 96 ∨ 122 < n)) := by
  cases h : okB n
  · right
    simp only [okB, Bool.or_eq_false_iff, decide_eq_false_iff_not, beq_eq_false_iff_ne] at h
    exact ⟨rfl, by omega⟩
  · left
    simp only [okB, Bool.or_eq_true, decide_eq_true_eq, beq_iff_eq] at h
    exact ⟨rfl, by omega⟩

set_option maxHeartbeats 2000000 in
theorem rname_any (w : World) (l : List UInt8) (hl : l.length ≤ maxLen) :
    Calls Tryd.prog 21 #[str l] w fun e w' => e = .returned (.bool (nameOk l)) ∧ w = w' := by
  have hs := str_size l
  unfold maxLen at hl
  go_enter Tryd.func21, Tryd.ntmps21
  go_wp2_with fail
  go_loopw [3] (fun i wr => ∃ k : Nat, k ≤ l.length ∧ i = .int .i64 k ∧ (l.take k).all (nameCs.contains ·) = true ∧ w = wr) (fun i _ => l.length - (intOf i).toNat)
  case atStart => exact ⟨0, by omega, rfl, rfl, rfl⟩
  case round =>
    obtain ⟨k, hk, rfl, hall, rfl⟩ := hrel
    by_cases hlt : k < l.length
    · have HT : Hid ((l.take (k + 1)).all (nameCs.contains ·) = ((l.take k).all (nameCs.contains ·) && okB (l[k]).toNat)) := by
        show _ = _
        rw [List.take_succ_eq_append_getElem hlt, List.all_append]
        simp only [List.all_cons, List.all_nil, Bool.and_true, okB_at]
      have HNO : Hid (okB (l[k]).toNat = false → nameOk l = false) := fun h => by
        unfold nameOk
        rw [Bool.and_eq_false_iff]
        right
        rw [List.all_eq_false]
        exact ⟨l[k], List.getElem_mem hlt, by rw [okB_at, h]; decide⟩
      have HA := Lib.hid hall
      clear hall
      have hx := (l[k]).toNat_lt
      have hch : ∀ h : k < (ByteArray.mk l.toArray).size, ((ByteArray.mk l.toArray)[k]'h).toNat = (l[k]).toNat := fun _ => rfl
      rcases okB_cases (l[k]).toNat with ⟨hok, h⟩ | ⟨hok, h⟩
      · rcases h with h | h | h | h | h | h | h
        all_goals
          (first | (have d : decide (97 ≤ ((l[k]).toNat : Int)) = true := by rw [decide_eq_true_eq]; omega) | (have d : decide (97 ≤ ((l[k]).toNat : Int)) = false := by rw [decide_eq_false_iff_not]; omega))
          (first | (have d : decide (((l[k]).toNat : Int) ≤ 122) = true := by rw [decide_eq_true_eq]; omega) | (have d : decide (((l[k]).toNat : Int) ≤ 122) = false := by rw [decide_eq_false_iff_not]; omega))
          (first | (have d : decide (65 ≤ ((l[k]).toNat : Int)) = true := by rw [decide_eq_true_eq]; omega) | (have d : decide (65 ≤ ((l[k]).toNat : Int)) = false := by rw [decide_eq_false_iff_not]; omega))
          (first | (have d : decide (((l[k]).toNat : Int) ≤ 90) = true := by rw [decide_eq_true_eq]; omega) | (have d : decide (((l[k]).toNat : Int) ≤ 90) = false := by rw [decide_eq_false_iff_not]; omega))
          (first | (have d : decide (48 ≤ ((l[k]).toNat : Int)) = true := by rw [decide_eq_true_eq]; omega) | (have d : decide (48 ≤ ((l[k]).toNat : Int)) = false := by rw [decide_eq_false_iff_not]; omega))
          (first | (have d : decide (((l[k]).toNat : Int) ≤ 57) = true := by rw [decide_eq_true_eq]; omega) | (have d : decide (((l[k]).toNat : Int) ≤ 57) = false := by rw [decide_eq_false_iff_not]; omega))
          (first | (have d : (((l[k]).toNat : Int) == 46) = true := by rw [beq_iff_eq]; omega) | (have d : (((l[k]).toNat : Int) == 46) = false := by rw [beq_eq_false_iff_ne]; omega))
          (first | (have d : (((l[k]).toNat : Int) == 95) = true := by rw [beq_iff_eq]; omega) | (have d : (((l[k]).toNat : Int) == 95) = false := by rw [beq_eq_false_iff_ne]; omega))
          (first | (have d : (((l[k]).toNat : Int) == 45) = true := by rw [beq_iff_eq]; omega) | (have d : (((l[k]).toNat : Int) == 45) = false := by rw [beq_eq_false_iff_ne]; omega))
          (first | (have d : (((l[k]).toNat : Int) == 47) = true := by rw [beq_iff_eq]; omega) | (have d : (((l[k]).toNat : Int) == 47) = false := by rw [beq_eq_false_iff_ne]; omega))
          go_wp2_with fail
          go_roundw
          case rel => exact ⟨k + 1, by omega, by go_num, by rw [HT.out, HA.out, hok]; rfl, trivial⟩
          case measure => first | (simp [intOf]; done) | (simp [intOf]; omega)
      · rcases h with h | h | h | h | h
        all_goals
          (first | (have d : decide (97 ≤ ((l[k]).toNat : Int)) = true := by rw [decide_eq_true_eq]; omega) | (have d : decide (97 ≤ ((l[k]).toNat : Int)) = false := by rw [decide_eq_false_iff_not]; omega))
          (first | (have d : decide (((l[k]).toNat : Int) ≤ 122) = true := by rw [decide_eq_true_eq]; omega) | (have d : decide (((l[k]).toNat : Int) ≤ 122) = false := by rw [decide_eq_false_iff_not]; omega))
          (first | (have d : decide (65 ≤ ((l[k]).toNat : Int)) = true := by rw [decide_eq_true_eq]; omega) | (have d : decide (65 ≤ ((l[k]).toNat : Int)) = false := by rw [decide_eq_false_iff_not]; omega))
          (first | (have d : decide (((l[k]).toNat : Int) ≤ 90) = true := by rw [decide_eq_true_eq]; omega) | (have d : decide (((l[k]).toNat : Int) ≤ 90) = false := by rw [decide_eq_false_iff_not]; omega))
          (first | (have d : decide (48 ≤ ((l[k]).toNat : Int)) = true := by rw [decide_eq_true_eq]; omega) | (have d : decide (48 ≤ ((l[k]).toNat : Int)) = false := by rw [decide_eq_false_iff_not]; omega))
          (first | (have d : decide (((l[k]).toNat : Int) ≤ 57) = true := by rw [decide_eq_true_eq]; omega) | (have d : decide (((l[k]).toNat : Int) ≤ 57) = false := by rw [decide_eq_false_iff_not]; omega))
          (first | (have d : (((l[k]).toNat : Int) == 46) = true := by rw [beq_iff_eq]; omega) | (have d : (((l[k]).toNat : Int) == 46) = false := by rw [beq_eq_false_iff_ne]; omega))
          (first | (have d : (((l[k]).toNat : Int) == 95) = true := by rw [beq_iff_eq]; omega) | (have d : (((l[k]).toNat : Int) == 95) = false := by rw [beq_eq_false_iff_ne]; omega))
          (first | (have d : (((l[k]).toNat : Int) == 45) = true := by rw [beq_iff_eq]; omega) | (have d : (((l[k]).toNat : Int) == 45) = false := by rw [beq_eq_false_iff_ne]; omega))
          (first | (have d : (((l[k]).toNat : Int) == 47) = true := by rw [beq_iff_eq]; omega) | (have d : (((l[k]).toNat : Int) == 47) = false := by rw [beq_eq_false_iff_ne]; omega))
          go_wp2_with fail
          go_ret
          exact ⟨ret_bool (by rw [HNO.out hok]), rfl⟩
    · obtain rfl : k = l.length := by omega
      rw [List.take_length] at hall
      have HE : Hid (nameOk l = (decide (1 ≤ (l.length : Int)) && decide ((l.length : Int) ≤ 64))) := by
        show _ = _
        unfold nameOk
        rw [hall, Bool.and_true]
        congr 1 <;> rw [decide_eq_decide] <;> omega
      rcases Nat.lt_or_ge l.length 1 with h | h
      all_goals
        go_wp2_with fail
        go_ret
        exact ⟨ret_bool (by rw [HE.out]; simp <;> omega), rfl⟩
end Go.Proofs.YtmhadkdbonfmdaaDoor
