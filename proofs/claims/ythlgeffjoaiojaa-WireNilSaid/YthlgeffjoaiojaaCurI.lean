/-
  Layer 5's reference: the bits of pieces.
-/
import Derived.Test.YthlgeffjoaiojaaCurF
namespace Go.Proofs.Ythlgeffjoaiojaa
open Go Go.RowKit

theorem bitsL_mod (K m : Nat) : bitsL K (m % 2 ^ K) = bitsL K m := by
  unfold bitsL
  apply List.map_congr_left
  intro i hi
  rw [List.mem_range] at hi
  have h := Nat.testBit_mod_two_pow m K i
  rw [decide_eq_true hi, Bool.true_and] at h
  simp only [Nat.testBit_eq_decide_div_mod_eq, decide_eq_decide] at h
  have h1 := Nat.mod_lt (m % 2 ^ K / 2 ^ i) (show 0 < 2 by decide)
  have h2 := Nat.mod_lt (m / 2 ^ i) (show 0 < 2 by decide)
  omega
theorem bits_low (a y k : Nat) : bitsL (7 * k) a = bitsL (7 * k) (a + 128 ^ k * y) := by
  have hp : (2 : Nat) ^ (7 * k) = 128 ^ k := by rw [Nat.pow_mul]
  rw [← bitsL_mod _ a, ← bitsL_mod _ (a + 128 ^ k * y), hp, Nat.add_mul_mod_self_left]
/-- A byte's seven bits behind those of the ones ahead of it. -/
theorem seven_bits {a y k : Nat} (ha : a < 128 ^ k) : bitsL (7 * k + 7) (a + 128 ^ k * y) = bitsL (7 * (k + 1)) (a + 128 ^ k * (y % 128)) := by
  rw [show 7 * (k + 1) = 7 * k + 7 by omega, ← bitsL_mod _ (a + 128 ^ k * y)]
  congr 1
  have hp : (2 : Nat) ^ (7 * k + 7) = 128 ^ k * 128 := by rw [Nat.pow_add, Nat.pow_mul]
  rw [hp, Nat.add_comm, Nat.mod_mul, Nat.mul_add_mod, Nat.mod_eq_of_lt ha, Nat.mul_add_div (Nat.pos_of_ne_zero (by intro h; rw [h] at ha; omega)), Nat.div_eq_of_lt ha, Nat.add_zero]
theorem bit_of {a y k j : Nat} (ha : a < 128 ^ k) : (a + 128 ^ k * y) / 2 ^ (7 * k + j) % 2 = y / 2 ^ j % 2 := by
  have hp : (2 : Nat) ^ (7 * k + j) = 128 ^ k * 2 ^ j := by rw [Nat.pow_add, Nat.pow_mul]
  rw [hp, ← Nat.div_div_eq_div_mul, Nat.add_comm, Nat.mul_add_div (Nat.pos_of_ne_zero (by intro h; rw [h] at ha; omega)), Nat.div_eq_of_lt ha, Nat.add_zero]
theorem below_64 {m : Nat} : ∀ j, m < 2 ^ (64 + j) → (∀ t, t < j → m / 2 ^ (64 + t) % 2 = 0) → m < 2 ^ 64
  | 0, h, _ => h
  | j + 1, h, hb => below_64 j (strip_step h (hb j (by omega))) fun t ht => hb t (by omega)
theorem val_take_succ {r : List UInt8} {k : Nat} (h : k < r.length) : val (r.take (k + 1)) = val (r.take k) + 128 ^ k * (r[k].toNat % 128) := by
  rw [List.take_succ_eq_append_getElem h, val_append, List.length_take, Nat.min_eq_left (by omega)]
theorem val_take_lt {r : List UInt8} {k : Nat} (h : k ≤ r.length) : val (r.take k) < 128 ^ k := by
  have := val_lt (r.take k); rwa [List.length_take, Nat.min_eq_left h] at this
theorem sl_64 {w : World} {B K m c : Nat} {A : Option Addr} (h : Sl w B 1 (.slice A K c) K (natsV (bitsL K m))) (hK : 64 ≤ K) : Sl w B 1 (.slice A 64 c) 64 (natsV (bitsL 64 m)) := by
  obtain ⟨A', c', e, h1, h2, -, hA⟩ := h
  cases e
  refine ⟨A, c, rfl, by omega, h2, by rw [length_natsV, length_bitsL], fun _ => ?_⟩
  obtain ⟨b, o, e, hB, hc⟩ := hA (by omega)
  refine ⟨b, o, e, hB, fun j u hu => ?_⟩
  have hj : j < 64 := by
    have := (List.getElem?_eq_some_iff.1 hu).1
    rw [length_natsV, length_bitsL] at this
    exact this
  rw [bitsL_at hj] at hu
  exact hc j u (by rw [bitsL_at (by omega)]; exact hu)

/-- What the reference answers. -/
def ReadPost (w : World) (r : List UInt8) (e : Ending) (w' : World) : Prop :=
  (∃ u, e = .returned (.tuple #[u, .int .i64 (numOf r).2.1, .int .i64 (numOf r).1]) ∧ ((numOf r).1 = 0 → Sl w' w'.heap.size 1 u 64 (natsV (bitsL 64 (numOf r).2.2)))) ∧ Below w.heap.size w w'
theorem read_err {w w' : World} {r : List UInt8} {e : Nat} (h : numOf r = (e, 0, 0)) (he : e ≠ 0) (hb : Below w.heap.size w w') : ReadPost w r (.returned (.tuple #[.slice none 0 0, .int .i64 0, .int .i64 e])) w' :=
  ⟨⟨_, by rw [h]; rfl, fun h0 => absurd (by rw [h] at h0; exact h0) he⟩, hb⟩

theorem big_nine {a y : Nat} (ha : a < 128 ^ 9) (hy : y < 128) : a + 128 ^ 9 * (y % 128) < 2 ^ 64 ↔ y ≤ 1 := by
  rw [Nat.mod_eq_of_lt hy]
  constructor
  · intro h
    refine Nat.le_of_not_lt fun h1 => ?_
    have p2 : 128 ^ 9 * 2 ≤ 128 ^ 9 * y := Nat.mul_le_mul (Nat.le_refl _) (by omega)
    omega
  · intro h
    have p2 : 128 ^ 9 * y ≤ 128 ^ 9 * 1 := Nat.mul_le_mul (Nat.le_refl _) h
    omega
/-- A last piece that may be one. -/
theorem good_last {a y k m : Nat} (hk : k < 10) (ha : a < 128 ^ k) (hy : y < 128) (hz : ¬ (0 < k ∧ y = 0)) (hm : m = a + 128 ^ k * (y % 128)) (h : m < 2 ^ 64) : bad k y = false := by
  rw [bad, decide_eq_false_iff_not]
  rintro (h1 | ⟨rfl, h1⟩)
  · exact hz h1
  · have := (big_nine ha hy).1 (hm ▸ h); omega
theorem bad_last {a y k m : Nat} (hk : k = 9) (ha : a < 128 ^ k) (hy : y < 128) (hm : m = a + 128 ^ k * (y % 128)) (h : ¬ m < 2 ^ 64) : bad k y = true := by
  subst hk
  rw [bad, decide_eq_true_iff]
  refine .inr ⟨rfl, Nat.lt_of_not_le fun h1 => h (hm ▸ (big_nine ha hy).2 h1)⟩

/-- A slice's length. -/
def lenOf (v : Value) : Nat := match v with | .slice _ n _ => n | _ => 0
set_option maxRecDepth 4000 in
set_option maxHeartbeats 4000000 in
theorem read_ref (w : World) (v : Value) (r : List UInt8) (hv : Bytes w w.heap.size v r) (hl : r.length ≤ 1000000) :
    Calls Try.prog 29 #[v] w (ReadPost w r) := by
  obtain ⟨i0, hi, hz0, hz1, hz2⟩ := info_parts infoInt
  obtain ⟨A, c, rfl, hKc, hcm, -, hA⟩ := hv
  unfold maxLen at hcm
  have HA := Lib.hid hA; clear hA
  go_enter Try.func29, Try.ntmps29
  go_wp2_with fail
  go_loopw [5, 6] (fun v i wr => ∃ (k : Nat) (l : List Nat), k ≤ 10 ∧ k ≤ r.length ∧ i = .int .i64 k ∧ l.length = 7 * k ∧ l = bitsL (7 * k) (val (r.take k)) ∧ (∀ i (hi : i < r.length), i < k → 128 ≤ r[i].toNat) ∧ wr.ownsRow w.heap.size 3 1 v l.length (natsV l) ∧ Below w.heap.size w wr) (fun _ i _ => 10 - (intOf i).toNat)
  case atStart => exact ⟨0, [], by omega, by omega, rfl, rfl, rfl, fun _ _ h => absurd h (by omega), World.ownsRow_nil _ _ _ _, Below.refl _ _⟩
  case round =>
    obtain ⟨k, l, hk10, hkr, rfl, hll, hle, hall, hown, hbel⟩ := hrel
    have HALL := Lib.hid hall; clear hall
    rcases (show k = 10 ∨ k < 10 ∧ k = r.length ∨ k < 10 ∧ k < r.length by omega) with hk | ⟨hk, hkr'⟩ | ⟨hk, hkr'⟩
    · subst hk
      have HN := Lib.hid (numOf_long (by omega) fun i hi h => HALL.out i hi h)
      clear hle
      go_wp2_with fail
      go_ret3
      exact read_err HN.out (by decide) hbel
    · have HN := Lib.hid (numOf_end (fun i hi => HALL.out i hi (by omega)) (by omega))
      have hkn : ((k : Int) == 10) = false := by rw [beq_eq_false_iff_ne]; omega
      clear hle
      go_wp2_with fail
      go_ret3
      exact read_err HN.out (by decide) hbel
    · obtain ⟨b, o, rfl, hbB, hc⟩ := HA.out (by omega)
      have hkn : ((k : Int) == 10) = false := by rw [beq_eq_false_iff_ne]; omega
      have hcell0 := hc k _ (bytesV_at r k hkr')
      have hcell := (hbel.cell (p := ⟨b, o + k, none⟩) hbB).trans hcell0
      have HC0 := Lib.hid hcell0
      have hy := (r[k]).toNat_lt
      have HV := Lib.hid (val_take_succ hkr')
      have HVL := Lib.hid (val_take_lt hkr)
      have HLE := Lib.hid hle
      obtain ⟨y, hyr⟩ : ∃ y, (r[k]).toNat = y := ⟨_, rfl⟩
      rw [hyr] at hcell hy HV HC0
      have HY := Lib.hid hyr
      clear hyr hc hcell0 hle
      go_wp2_with fail
      rw [decide_eq_false (show ¬ r.length ≤ k by omega)]
      go_loopw [5, 7, 8] (fun v x i wr => ∃ (j q : Nat) (l : List Nat), j ≤ 7 ∧ q < 256 ∧ i = .int .i64 j ∧ x = .int .i64 q ∧ q = y / 2 ^ j ∧ l.length = 7 * k + j ∧ l = bitsL (7 * k + j) (val (r.take k) + 128 ^ k * y) ∧ wr.ownsRow w.heap.size 3 1 v l.length (natsV l) ∧ Below w.heap.size w wr) (fun _ _ i _ => 7 - (intOf i).toNat)
      case atStart => exact ⟨0, y, l, by omega, by omega, rfl, rfl, by simp, by omega, by rw [HLE.out, Nat.add_zero]; exact bits_low _ _ _, hown, hbel⟩
      case round =>
        obtain ⟨j, q, l', hj, hq, rfl, rfl, hqe, hll', hle', ho, hbl⟩ := hrel
        by_cases hj7 : j < 7
        · have HQ := Lib.hid (show q / 2 = y / 2 ^ (j + 1) by rw [hqe, Nat.pow_succ, Nat.div_div_eq_div_mul])
          have HL := Lib.hid (show l' ++ [q % 2] = bitsL (7 * k + (j + 1)) (val (r.take k) + 128 ^ k * y) by
            rw [← Nat.add_assoc, bitsL_succ, bit_of HVL.out, ← hqe, ← hle'])
          have h1 : q % 2 < 2 := Nat.mod_lt _ (by decide)
          have hq2 : q / 2 ≤ q := by omega
          clear hqe hle' hcell hown hbel
          go_wp2_with (at_builtin; refine wpList_append_own _ rfl _ _ 24 rfl (w.heap.size) 3 i0 (.int .i64 0) 1 8 Try.underlying24 hi hz0 hz1 hz2 rfl (by decide) _ _ _ rfl (ho.alloc _) ⟨wr.heap.size, 0, none⟩ 1 1 [.int .i64 ((q : Int) % 2)] rfl rfl (cell_one_new _ _ _) (by simp [Value.oneCell']) (by unfold maxLen; omega) (by omega) (by have := hbl.size; simp <;> omega) ?_; intro v' w1 hown' hgrow _)
          go_roundw
          case rel =>
            refine ⟨j + 1, q / 2, l' ++ [q % 2], by omega, by omega, by go_num, by go_num, HQ.out, by simp [hll']; omega, HL.out, own_int hown', ?_⟩
            exact (hbl.alloc hbl.size _).grown hgrow (by have := hbl.size; simp <;> omega) (fun g hg => (ho.lt g hg).1)
          case measure => simp [intOf]; omega
        · obtain rfl : j = 7 := by omega
          rw [seven_bits HVL.out, ← HV.out] at hle'
          have hcell' := (hbl.cell (p := ⟨b, o + k, none⟩) hbB).trans HC0.out
          have HLE' := Lib.hid hle'
          clear hqe hle' hcell hown hbel
          rcases Nat.lt_or_ge y 128 with hy1 | hy1
          · obtain ⟨g, cg, rfl, hg1, hg2⟩ := own_at ho (by omega)
            have HALL2 : Hid (numOf r = if bad k y then (12, 0, 0) else (0, k + 1, val (r.take (k + 1)))) := by
              show _ = _
              rw [← HY.out]
              exact numOf_at hkr' (by omega) HALL.out (by rw [HY.out]; exact hy1)
            by_cases hz : 0 < k ∧ y = 0
            · have HN : Hid (numOf r = (12, 0, 0)) := by
                show _ = _
                rw [HALL2.out, if_pos (by simp [bad]; omega)]
              obtain ⟨hz1, rfl⟩ := hz
              go_wp2_with fail
              go_ret3
              exact read_err HN.out (by decide) hbl
            · rcases (show k < 1 ∨ 0 < k ∧ 0 < y by omega) with hk0 | ⟨hk0, hy0⟩
              ·
                go_wp2_with fail
                go_loop [9] (fun i => ∃ j : Nat, j ≤ 6 ∧ i = .int .i64 (64 + j : Nat) ∧ (j = 0 ∨ 64 + j ≤ 7 * k + 7) ∧ ∀ t, t < j → val (r.take (k + 1)) / 2 ^ (64 + t) % 2 = 0) (fun i => 80 - (intOf i).toNat)
                case atStart => exact ⟨0, by omega, rfl, .inl rfl, fun t h => absurd h (by omega)⟩
                case round =>
                  obtain ⟨j, hj6, rfl, hj, hbits⟩ := hrel
                  have HBT := Lib.hid hbits; clear hbits
                  by_cases hin : 64 + j < 7 * k + 7
                  · first | (exfalso; omega) | (
                        have hcx := own_cell ho (64 + j) (.int .i64 ((val (r.take (k + 1)) / 2 ^ (64 + j) % 2 : Nat) : Int)) (by rw [HLE'.out]; exact bitsL_at (by omega))
                        have hk9 : k = 9 := by omega
                        by_cases hb : val (r.take (k + 1)) / 2 ^ (64 + j) % 2 = 0
                        · rw [hb] at hcx
                          have HB := Lib.hid hb; clear hb
                          go_wp2_with fail
                          go_round
                          case rel => exact ⟨j + 1, by omega, by go_num, .inr (by omega), fun t ht => by
                            rcases Nat.lt_or_ge t j with h | h
                            · exact HBT.out t h
                            · obtain rfl : t = j := by omega
                              exact HB.out⟩
                          case measure => first | (simp [intOf]; done) | (simp [intOf]; omega)
                        · have h1 : val (r.take (k + 1)) / 2 ^ (64 + j) % 2 = 1 := by omega
                          have HN : Hid (numOf r = (12, 0, 0)) := by
                            show _ = _
                            rw [HALL2.out, if_pos (bad_last hk9 HVL.out hy1 HV.out fun h => hb (bit_zero h (by omega)))]
                          rw [h1] at hcx
                          clear hb h1
                          go_wp2_with fail
                          go_ret3
                          exact read_err HN.out (by decide) hbl
                      )
                  · have HM : Hid (val (r.take (k + 1)) < 2 ^ 64) := by
                      have hlt := val_take_lt (show k + 1 ≤ r.length by omega)
                      have hp : (128 : Nat) ^ (k + 1) = 2 ^ (7 * (k + 1)) := by rw [Nat.pow_mul]
                      rw [hp] at hlt
                      rcases hj with rfl | hj
                      · exact Nat.lt_of_lt_of_le hlt (Nat.pow_le_pow_right (by decide) (by omega))
                      · refine below_64 j ?_ HBT.out
                        rw [show 64 + j = 7 * (k + 1) by omega]
                        exact hlt
                    have HN : Hid (numOf r = (0, k + 1, val (r.take (k + 1)))) := by
                      show _ = _
                      rw [HALL2.out, good_last (by omega) HVL.out hy1 hz HV.out HM.out]
                      rfl
                    have hlt := Lib.hid (val_take_lt (show k + 1 ≤ r.length by omega))
                    go_wp2_with fail
                    go_loopw [5] (fun v wr => ∃ (K : Nat) (l : List Nat), 7 * (k + 1) ≤ K ∧ K ≤ 70 ∧ l.length = K ∧ l = bitsL K (val (r.take (k + 1))) ∧ wr.ownsRow w.heap.size 3 1 v l.length (natsV l) ∧ Below w.heap.size w wr) (fun v wr => 71 - lenOf v)
                    case atStart => exact ⟨_, l', by omega, by omega, hll', HLE'.out, by have h := ho; rw [hll'] at h ⊢; exact h, hbl⟩
                    case round =>
                      obtain ⟨K, l2, hK1, hK2, hll2, hle2, ho2, hbl2⟩ := hrel
                      obtain ⟨g2, cg2, rfl, hg3, hg4⟩ := own_at ho2 (by omega)
                      rcases Nat.lt_or_ge K 64 with hK | hK
                      · have HL : Hid (l2 ++ [0] = bitsL (K + 1) (val (r.take (k + 1)))) := by
                          show _ = _
                          have hlt' := hlt.out
                          rw [show (128 : Nat) = 2 ^ 7 from rfl, ← Nat.pow_mul] at hlt'
                          rw [bitsL_succ, hle2, bit_zero hlt' hK1]
                        clear hle2
                        go_wp2_with (at_builtin; refine wpList_append_own _ rfl _ _ 24 rfl (w.heap.size) 3 i0 (.int .i64 0) 1 8 Try.underlying24 hi hz0 hz1 hz2 rfl (by decide) _ _ _ rfl (ho2.alloc _) ⟨wr.heap.size, 0, none⟩ 1 1 [.int .i64 0] rfl rfl (cell_one_new _ _ _) (by simp [Value.oneCell']) (by unfold maxLen; omega) (by omega) (by have := hbl2.size; simp <;> omega) ?_; intro v' w1 hown' hgrow _)
                        obtain ⟨g3, cg3, rfl, -, -⟩ := own_at hown' (by omega)
                        go_roundw
                        case rel =>
                          refine ⟨K + 1, l2 ++ [0], by omega, by omega, by simp [hll2], HL.out, own_int hown', ?_⟩
                          exact (hbl2.alloc hbl2.size _).grown hgrow (by have := hbl2.size; simp <;> omega) (fun g hg => (ho2.lt g hg).1)
                        case measure => first | (simp [lenOf, hll2]; done) | (simp [lenOf, hll2]; omega)
                      · have HS := Lib.hid (Sl.of_own ho2)
                        have hc2 := HS.out.le
                        unfold maxLen at hc2
                        have hcc : 64 ≤ cg2 := by
                          obtain ⟨_, _, e, h1, -⟩ := HS.out
                          cases e
                          omega
                        have HLE2 := Lib.hid hle2
                        clear hle2
                        go_wp2_with fail
                        go_ret3
                        have HS2 : Sl wr wr.heap.size 1 (.slice (some ⟨g2, 0, none⟩) K cg2) K (natsV (bitsL K (val (r.take (k + 1))))) := by
                          have h := HS.out
                          rw [hll2, HLE2.out] at h
                          exact h
                        exact ⟨⟨_, by rw [HN.out]; rfl, fun _ => by rw [HN.out]; exact sl_64 HS2 hK⟩, hbl2⟩
              ·
                go_wp2_with fail
                go_loop [9] (fun i => ∃ j : Nat, j ≤ 6 ∧ i = .int .i64 (64 + j : Nat) ∧ (j = 0 ∨ 64 + j ≤ 7 * k + 7) ∧ ∀ t, t < j → val (r.take (k + 1)) / 2 ^ (64 + t) % 2 = 0) (fun i => 80 - (intOf i).toNat)
                case atStart => exact ⟨0, by omega, rfl, .inl rfl, fun t h => absurd h (by omega)⟩
                case round =>
                  obtain ⟨j, hj6, rfl, hj, hbits⟩ := hrel
                  have HBT := Lib.hid hbits; clear hbits
                  by_cases hin : 64 + j < 7 * k + 7
                  · first | (exfalso; omega) | (
                        have hcx := own_cell ho (64 + j) (.int .i64 ((val (r.take (k + 1)) / 2 ^ (64 + j) % 2 : Nat) : Int)) (by rw [HLE'.out]; exact bitsL_at (by omega))
                        have hk9 : k = 9 := by omega
                        by_cases hb : val (r.take (k + 1)) / 2 ^ (64 + j) % 2 = 0
                        · rw [hb] at hcx
                          have HB := Lib.hid hb; clear hb
                          go_wp2_with fail
                          go_round
                          case rel => exact ⟨j + 1, by omega, by go_num, .inr (by omega), fun t ht => by
                            rcases Nat.lt_or_ge t j with h | h
                            · exact HBT.out t h
                            · obtain rfl : t = j := by omega
                              exact HB.out⟩
                          case measure => first | (simp [intOf]; done) | (simp [intOf]; omega)
                        · have h1 : val (r.take (k + 1)) / 2 ^ (64 + j) % 2 = 1 := by omega
                          have HN : Hid (numOf r = (12, 0, 0)) := by
                            show _ = _
                            rw [HALL2.out, if_pos (bad_last hk9 HVL.out hy1 HV.out fun h => hb (bit_zero h (by omega)))]
                          rw [h1] at hcx
                          clear hb h1
                          go_wp2_with fail
                          go_ret3
                          exact read_err HN.out (by decide) hbl
                      )
                  · have HM : Hid (val (r.take (k + 1)) < 2 ^ 64) := by
                      have hlt := val_take_lt (show k + 1 ≤ r.length by omega)
                      have hp : (128 : Nat) ^ (k + 1) = 2 ^ (7 * (k + 1)) := by rw [Nat.pow_mul]
                      rw [hp] at hlt
                      rcases hj with rfl | hj
                      · exact Nat.lt_of_lt_of_le hlt (Nat.pow_le_pow_right (by decide) (by omega))
                      · refine below_64 j ?_ HBT.out
                        rw [show 64 + j = 7 * (k + 1) by omega]
                        exact hlt
                    have HN : Hid (numOf r = (0, k + 1, val (r.take (k + 1)))) := by
                      show _ = _
                      rw [HALL2.out, good_last (by omega) HVL.out hy1 hz HV.out HM.out]
                      rfl
                    have hlt := Lib.hid (val_take_lt (show k + 1 ≤ r.length by omega))
                    go_wp2_with fail
                    go_loopw [5] (fun v wr => ∃ (K : Nat) (l : List Nat), 7 * (k + 1) ≤ K ∧ K ≤ 70 ∧ l.length = K ∧ l = bitsL K (val (r.take (k + 1))) ∧ wr.ownsRow w.heap.size 3 1 v l.length (natsV l) ∧ Below w.heap.size w wr) (fun v wr => 71 - lenOf v)
                    case atStart => exact ⟨_, l', by omega, by omega, hll', HLE'.out, by have h := ho; rw [hll'] at h ⊢; exact h, hbl⟩
                    case round =>
                      obtain ⟨K, l2, hK1, hK2, hll2, hle2, ho2, hbl2⟩ := hrel
                      obtain ⟨g2, cg2, rfl, hg3, hg4⟩ := own_at ho2 (by omega)
                      rcases Nat.lt_or_ge K 64 with hK | hK
                      · have HL : Hid (l2 ++ [0] = bitsL (K + 1) (val (r.take (k + 1)))) := by
                          show _ = _
                          have hlt' := hlt.out
                          rw [show (128 : Nat) = 2 ^ 7 from rfl, ← Nat.pow_mul] at hlt'
                          rw [bitsL_succ, hle2, bit_zero hlt' hK1]
                        clear hle2
                        go_wp2_with (at_builtin; refine wpList_append_own _ rfl _ _ 24 rfl (w.heap.size) 3 i0 (.int .i64 0) 1 8 Try.underlying24 hi hz0 hz1 hz2 rfl (by decide) _ _ _ rfl (ho2.alloc _) ⟨wr.heap.size, 0, none⟩ 1 1 [.int .i64 0] rfl rfl (cell_one_new _ _ _) (by simp [Value.oneCell']) (by unfold maxLen; omega) (by omega) (by have := hbl2.size; simp <;> omega) ?_; intro v' w1 hown' hgrow _)
                        obtain ⟨g3, cg3, rfl, -, -⟩ := own_at hown' (by omega)
                        go_roundw
                        case rel =>
                          refine ⟨K + 1, l2 ++ [0], by omega, by omega, by simp [hll2], HL.out, own_int hown', ?_⟩
                          exact (hbl2.alloc hbl2.size _).grown hgrow (by have := hbl2.size; simp <;> omega) (fun g hg => (ho2.lt g hg).1)
                        case measure => first | (simp [lenOf, hll2]; done) | (simp [lenOf, hll2]; omega)
                      · have HS := Lib.hid (Sl.of_own ho2)
                        have hc2 := HS.out.le
                        unfold maxLen at hc2
                        have hcc : 64 ≤ cg2 := by
                          obtain ⟨_, _, e, h1, -⟩ := HS.out
                          cases e
                          omega
                        have HLE2 := Lib.hid hle2
                        clear hle2
                        go_wp2_with fail
                        go_ret3
                        have HS2 : Sl wr wr.heap.size 1 (.slice (some ⟨g2, 0, none⟩) K cg2) K (natsV (bitsL K (val (r.take (k + 1))))) := by
                          have h := HS.out
                          rw [hll2, HLE2.out] at h
                          exact h
                        exact ⟨⟨_, by rw [HN.out]; rfl, fun _ => by rw [HN.out]; exact sl_64 HS2 hK⟩, hbl2⟩
          · go_wp2_with fail
            go_roundw
            case rel => exact ⟨k + 1, l', by omega, by omega, by go_num, by omega, HLE'.out, fun i hi h => by
              rcases Nat.lt_or_ge i k with h2 | h2
              · exact HALL.out i hi h2
              · obtain rfl : i = k := by omega
                rw [HY.out]; exact hy1, ho, hbl⟩
            case measure => simp [intOf]; omega
end Go.Proofs.Ythlgeffjoaiojaa
