/-
  The law FireIn, walked.
-/
import Derived.ChangeKeysEq
import Derived.Test.YtkdpflgkcnhoiaaDoorRefD
import Derived.Test.YtkdpflgkcnhoiaaDoorRulD
import Derived.Test.YtkdpflgkcnhoiaaDoorFAwake
namespace Go.Proofs.YtkdpflgkcnhoiaaDoor
open Go Go.RowKit Go.Shelf
set_option maxRecDepth 100000

theorem firsV_at (l : List Fir) (i : Nat) (h : i < l.length) (k : Nat) (hk : k < 4) : (firsV l)[i * 4 + k]? = (firV l[i])[k]? := by
  induction l generalizing i with
  | nil => exact absurd h (by simp)
  | cons c l ih =>
    rcases i with _ | i
    · rw [Nat.zero_mul, Nat.zero_add]
      show (firV c ++ firsV l)[k]? = _
      rw [List.getElem?_append_left (by simp [firV]; omega)]
      rfl
    · have := ih i (by simpa using h)
      show (firV c ++ firsV l)[(i + 1) * 4 + k]? = _
      rw [List.getElem?_append_right (by simp [firV]; omega), show (i + 1) * 4 + k - (firV c).length = i * 4 + k by simp [firV]; omega, this]
      rfl
def FirC (W : World) (b o : Nat) (f : Fir) : Prop := W.cell? ⟨b, o, none⟩ = some (.int .i64 f.nominal) ∧ W.cell? ⟨b, o + 1, none⟩ = some (.int .i64 f.kind) ∧ W.cell? ⟨b, o + 2, none⟩ = some (.int .i64 f.save) ∧ W.cell? ⟨b, o + 3, none⟩ = some (.string f.letter)
theorem firs_cells {w : World} {B n : Nat} {v : Value} {l : List Fir} (h : Sl w B 4 v n (firsV l)) (_ : l.length = n) (hl : 0 < n) : ∃ b o c, v = .slice (some ⟨b, o, none⟩) n c ∧ b < B ∧ ∀ i (hi : i < l.length), FirC w b (o + i * 4) l[i] := by
  obtain ⟨b, o, c, e, hb, hc⟩ := Sl.at_ h hl
  refine ⟨b, o, c, e, hb, fun i hi => ?_⟩
  have hk : ∀ k u, k < 4 → (firV l[i])[k]? = some u → w.cell? ⟨b, o + i * 4 + k, none⟩ = some u := fun k u hk hu => by
    rw [Nat.add_assoc]
    exact hc _ u (by rw [firsV_at l i hi k hk]; exact hu)
  exact ⟨hk 0 _ (by omega) rfl, hk 1 _ (by omega) rfl, hk 2 _ (by omega) rfl, hk 3 _ (by omega) rfl⟩
def FrIC (W : World) (b o : Nat) (f : Fir) (i : Int) : Prop := W.cell? ⟨b, o, none⟩ = some (.int .i64 f.nominal) ∧ W.cell? ⟨b, o + 1, none⟩ = some (.int .i64 f.kind) ∧ W.cell? ⟨b, o + 2, none⟩ = some (.int .i64 f.save) ∧ W.cell? ⟨b, o + 3, none⟩ = some (.int .i64 i) ∧ W.cell? ⟨b, o + 4, none⟩ = some (.string f.letter)
theorem FirC.below {W W' : World} {B b o : Nat} {f : Fir} (h : FirC W b o f) (hb : Below B W W') (hB : b < B) : FirC W' b o f := ⟨(hb.cell hB).trans h.1, (hb.cell hB).trans h.2.1, (hb.cell hB).trans h.2.2.1, (hb.cell hB).trans h.2.2.2⟩
theorem FrIC.below {W W' : World} {B b o : Nat} {f : Fir} {i : Int} (h : FrIC W b o f i) (hb : Below B W W') (hB : b < B) : FrIC W' b o f i := ⟨(hb.cell hB).trans h.1, (hb.cell hB).trans h.2.1, (hb.cell hB).trans h.2.2.1, (hb.cell hB).trans h.2.2.2.1, (hb.cell hB).trans h.2.2.2.2⟩
theorem four_same (d : Nat) (a b c e : Int) (W : World) : (Op.equalIn (d + 2) 35 (.agg #[.int .i64 a, .int .i64 b, .int .i64 c, .int .i64 e]) (.agg #[.int .i64 a, .int .i64 b, .int .i64 c, .int .i64 e])).run Tryd.prog W = .ok true W := by
  obtain ⟨i, hi⟩ : ∃ i, Tryd.prog.info? 3 = some i := Option.isSome_iff_exists.1 (by kernel_rfl)
  rw [run_equalIn_array W (d + 1) _ _ (by kernel_rfl) hi, show Tryd.prog.cellsOf 3 = 1 by kernel_rfl, show List.range 4 = [0, 1, 2, 3] by decide]
  have hu : Tryd.prog.underlying 3 = some (.int .i64) := by kernel_rfl
  simp [Op.eqItems, go_sem, run_equalIn_int _ d _ _ _ _ _ hu]
set_option maxHeartbeats 1000000 in
theorem fin_no (w : World) (v : Value) (a b : Int) (h1 : 1880 ≤ a) (h2 : b ≤ 2110) (h3 : b < a) :
    Calls Tryd.prog 7 #[v, .int .i64 a, .int .i64 b] w fun e w' => e = .returned (.tuple #[.slice none 0 0, .int .i64 10]) ∧ Below w.heap.size w w' := by
  have hd0 : decide (b < a) = true := decide_eq_true (by omega)
  have hd1 : decide (a < -100000) = false := decide_eq_false (by omega)
  have hd2 : decide (100000 < b) = false := decide_eq_false (by omega)
  clear h1 h2 h3
  go_enter Tryd.func7, Tryd.ntmps7
  go_wp2_with fail
  refine bodyPost_ret (v := .tuple #[.slice none 0 0, .int .i64 10]) ?_ rfl ⟨rfl, Below.refl _ _⟩
  simp [results, Tryd.f7, go_sem]
set_option maxHeartbeats 1000000 in
theorem plain_any (f : Fir) (i : Int) (w : World) :
    Calls Tryd.prog 9 #[.agg #[.int .i64 f.nominal, .int .i64 f.kind, .int .i64 f.save, .string f.letter], .int .i64 i] w fun e w' => e = .returned (.agg #[.int .i64 f.nominal, .int .i64 f.kind, .int .i64 f.save, .int .i64 i, .string f.letter]) ∧ Below w.heap.size w w' := by
  have HB0 := Lib.hid (((Below.refl w.heap.size w).alloc (Nat.le_refl _) (.cells #[.int .i64 f.nominal, .int .i64 f.kind, .int .i64 f.save, .string f.letter] 31)).alloc (by simp) (.cells #[.int .i64 f.nominal, .int .i64 f.kind, .int .i64 f.save, .int .i64 i, .string f.letter] 37))
  go_enter Tryd.func9, Tryd.ntmps9
  go_wp2_with fail
  refine bodyPost_ret (v := .agg #[.int .i64 f.nominal, .int .i64 f.kind, .int .i64 f.save, .int .i64 i, .string f.letter]) ?_ rfl ⟨rfl, HB0.out⟩
  simp [results, Tryd.f9, go_sem]
/-- The firings of one rule in one year. -/
theorem one_year {r : Rul} {a : Int} {D : List FrI} (h : Stab Fir.nominal (genL [r] a a) (D.map FrI.f)) (hi : ∀ y ∈ D, 0 ≤ y.i ∧ y.i < (([r].length : Nat) : Int)) : (ofB r a = false → D = []) ∧ (ofB r a = true → D = [⟨firOf r a, 0⟩]) := by
  have e : genL [r] a a = if ofB r a then [firOf r a] else [] := by
    rw [genL_one]
    have h1 := genR_next r (show a ≤ a by omega)
    rw [h1]
    have h2 : genR r a (a - 1) = [] := by unfold genR; rw [yrs_nil (by omega)]; rfl
    rw [h2, List.nil_append]
  rw [e] at h
  constructor
  · intro ho
    rw [ho, if_neg (by decide)] at h
    have := h.unique Stab.nil
    exact List.map_eq_nil_iff.1 this
  · intro ho
    rw [ho, if_pos rfl] at h
    have h1 := h.unique (Stab.one _)
    cases D with
    | nil => simp at h1
    | cons y D =>
      rw [List.map_cons] at h1
      injection h1 with h2 h3
      have h4 := List.map_eq_nil_iff.1 h3
      subst h4
      have h5 := hi y (by simp)
      obtain ⟨f, i⟩ := y
      simp only at h2 h5
      have : i = 0 := by simp at h5; omega
      subst h2 this
      rfl
set_option maxHeartbeats 4000000 in
theorem in_walk (w : World) (v : Value) (l : List Rul) (a b : Int) (hv : Ruls w w.heap.size v l) (_ : -9223372036854775808 ≤ a ∧ a ≤ 9223372036854775807) (_ : -9223372036854775808 ≤ b ∧ b ≤ 9223372036854775807) (ha : Ahead w) :
    Calls Tryd.prog 4 #[v, .int .i64 a, .int .i64 b] w fun e w' => e = .returned (.bool true) ∧ Below w.heap.size w w' := by
  have HV := Lib.hid hv
  have HA := Lib.hid ha
  have HS := Lib.hid (small_any w w.heap.size v l hv (Nat.le_refl _))
  obtain ⟨A, cp, rfl, hlc, hcm⟩ := hv.form
  unfold maxLen at hcm
  clear hv ha
  cases hsm : smallB l with
  | false =>
    rw [hsm] at HS
    clear hsm
    go_enter Tryd.func4, Tryd.ntmps4
    go_wp2_with fail
    refine HS.out.mono ?_
    rintro e w1 ⟨rfl, hb⟩
    have HB1 := Lib.hid hb
    clear hb
    go_wp2_with fail
    refine (awake_any _ (HA.out.below (HB1.out) (Nat.le_refl _))).mono ?_
    rintro e wz ⟨rfl, hbz⟩
    have hb9 := (HB1.out).trans (hbz.mono (HB1.out).size)
    clear hbz
    go_wp2_with fail
    go_ret
    exact ⟨rfl, hb9⟩
  | true =>
    rw [hsm] at HS
    have HSM := Lib.hid hsm
    have hl6 : l.length ≤ 6 := by
      unfold smallB at hsm
      rw [Bool.and_eq_true, decide_eq_true_eq] at hsm
      exact hsm.2
    have HMO := Lib.hid (show ∀ z ∈ l, mOk z from fun z hz => by
      unfold smallB at hsm
      rw [Bool.and_eq_true, List.all_eq_true] at hsm
      have h := hsm.1 z hz
      unfold smallR at h
      rw [Bool.and_eq_true, decide_eq_true_eq] at h
      exact ⟨h.1.2.2.2.1, h.1.2.2.2.2.1⟩)
    clear hsm
    go_enter Tryd.func4, Tryd.ntmps4
    go_wp2_with fail
    refine HS.out.mono ?_
    rintro e w1 ⟨rfl, hb⟩
    have HB1 := Lib.hid hb
    have hs1 := hb.size
    clear hb HS
    by_cases g1 : a < 1880
    · go_wp2_with fail
      refine (awake_any _ (HA.out.below (HB1.out) (Nat.le_refl _))).mono ?_
      rintro e wz ⟨rfl, hbz⟩
      have hb9 := (HB1.out).trans (hbz.mono (HB1.out).size)
      clear hbz
      go_wp2_with fail
      go_ret
      exact ⟨rfl, hb9⟩
    · by_cases g2 : 2110 < b
      · go_wp2_with fail
        refine (awake_any _ (HA.out.below (HB1.out) (Nat.le_refl _))).mono ?_
        rintro e wz ⟨rfl, hbz⟩
        have hb9 := (HB1.out).trans (hbz.mono (HB1.out).size)
        clear hbz
        go_wp2_with fail
        go_ret
        exact ⟨rfl, hb9⟩
      · by_cases g3 : b < a
        · have HI := Lib.hid (fin_no w1 (.slice A l.length cp) a b (by omega) (by omega) g3)
          go_wp2_with fail
          refine HI.out.mono ?_
          rintro e w2 ⟨rfl, hb⟩
          have HB2 := Lib.hid (HB1.out.trans (hb.mono hs1))
          clear hb
          go_wp2_with fail
          refine (awake_any _ (HA.out.below (HB2.out) (Nat.le_refl _))).mono ?_
          rintro e wz ⟨rfl, hbz⟩
          have hb9 := (HB2.out).trans (hbz.mono (HB2.out).size)
          clear hbz
          go_wp2_with fail
          go_ret
          exact ⟨rfl, hb9⟩
        · have HI := Lib.hid (fin_any w1 w.heap.size _ l a b (HA.out.below HB1.out (Nat.le_refl _)) (HV.out.below HB1.out) hs1 (by omega) (by omega) (by omega) (by omega) (by omega))
          have HR := Lib.hid (fun (W : World) (h : Below w.heap.size w W) => rall_any W w.heap.size _ l a b (HV.out.below h) h.size HSM.out (by omega) (by omega))
          go_wp2_with fail
          refine HI.out.mono ?_
          rintro e w2 ⟨u1, M, rfl, hst1, hown1, hb⟩
          have HB2 := Lib.hid (HB1.out.trans (hb.mono hs1))
          have HST1 := Lib.hid hst1
          obtain ⟨n, hn⟩ : ∃ n, M.length = n := ⟨_, rfl⟩
          have hM1 : n ≤ 1600 := by
            have h5 := genL_len l a b
            have h6 : l.length * (b + 1 - a).toNat ≤ 6 * 250 := Nat.mul_le_mul hl6 (by omega)
            have := hst1.len
            omega
          have hsl := Sl.of_own hown1
          rw [hn] at hsl
          have HG := Lib.hid hsl
          obtain ⟨A1, p1, rfl⟩ := hsl.form
          have hs2 := HB2.out.size
          have HN := Lib.hid hn
          clear hb hst1 hown1 HI hsl hn
          go_wp2_with fail
          refine (HR.out _ HB2.out).mono ?_
          rintro e w3 ⟨u2, D, rfl, hst2, hdi, hfr, hb⟩
          have HB3 := Lib.hid (HB2.out.trans (hb.mono hs2))
          have HG3 := Lib.hid (HG.out.below hb)
          obtain rfl := HST1.out.unique hst2
          have hdn : D.length = n := by have := HN.out; rwa [List.length_map] at this
          have HDN := Lib.hid hdn
          obtain ⟨A2, p2, rfl, -, -⟩ := hfr.form
          have HF3 := Lib.hid hfr
          rw [hdn]
          have hs3 := HB3.out.size
          have hs23 := hb.size
          clear hb hst2 hdi hfr hdn HST1 HG HN
          go_wp2_with fail
          go_loopw [10] (fun iv wr => ∃ k : Nat, k ≤ n ∧ iv = .int .i64 k ∧ Below w3.heap.size w3 wr) (fun iv _ => n - (intOf iv).toNat)
          case atStart => exact ⟨0, Nat.zero_le _, rfl, Below.refl _ _⟩
          case round =>
            obtain ⟨k, hk, rfl, hbr⟩ := hrel
            have HBR := Lib.hid hbr
            have HBW := Lib.hid (HB3.out.trans (hbr.mono hs3))
            have hsr := hbr.size
            clear hbr
            by_cases hlt : k < n
            · have hd : decide ((k : Int) < (n : Int)) = true := decide_eq_true (by omega)
              obtain ⟨b1, o1, c1, e, hb1, hc1⟩ := firs_cells HG3.out (by rw [List.length_map]; exact HDN.out) (by omega)
              cases e
              obtain ⟨b2, o2, c2, e, hb2, hc2⟩ := HF3.out.cells (by rw [HDN.out]; omega)
              cases e
              have hkD : k < D.length := by rw [HDN.out]; exact hlt
              obtain ⟨x, hx⟩ : ∃ x, D[k] = x := ⟨_, rfl⟩
              obtain ⟨f, i⟩ := x
              have hf1 : FirC w3 b1 (o1 + k * 4) f := by
                have h := hc1 k (by rw [List.length_map]; exact hkD)
                rwa [List.getElem_map, hx] at h
              have hf2 : FrIC w3 b2 (o2 + k * 5) f i := by
                have h := hc2 k hkD
                rwa [hx] at h
              have HCELL := Lib.hid (fun (W : World) (h : Below wr.heap.size wr W) => show FirC W b1 (o1 + k * 4) f ∧ FrIC W b2 (o2 + k * 5) f i from ⟨hf1.below (HBR.out.trans (h.mono hsr)) (by omega), hf2.below (HBR.out.trans (h.mono hsr)) (by omega)⟩)
              have HPL := Lib.hid (fun W => plain_any f i W)
              clear hc1 hc2 hf1 hf2 hx
              go_wp2_with fail
              refine wp_env (fin := ?fnp) (by kernel_rfl) [66, 67, 68, 69, 70, 71, 72, 73, 74, 75, 76, 77, 78, 79, 80, 81]
                [.slice (some ⟨b1, o1, none⟩) n p1, .int .i64 k, .pointer (some ⟨b1, o1 + k * 4, none⟩), .agg #[.int .i64 f.nominal, .int .i64 f.kind, .int .i64 f.save, .string f.letter], .slice (some ⟨b2, o2, none⟩) n p2, .int .i64 k, .pointer (some ⟨b2, o2 + k * 5, none⟩), .pointer (some ⟨b2, o2 + k * 5, none⟩), .pointer (some ⟨b2, o2 + k * 5 + 3, none⟩), .int .i64 i, .agg #[.int .i64 f.nominal, .int .i64 f.kind, .int .i64 f.save, .int .i64 i, .string f.letter], .slice (some ⟨b2, o2, none⟩) n p2, .int .i64 k, .pointer (some ⟨b2, o2 + k * 5, none⟩), .agg #[.int .i64 f.nominal, .int .i64 f.kind, .int .i64 f.save, .int .i64 i, .string f.letter], .bool false] (by kernel_rfl) ?finp ?stepsp ?nextp
              case finp =>
                simp only [putAll, Act.put, List.setIfInBounds_toArray, List.set_cons_succ, List.set_cons_zero]
                rfl
              case stepsp =>
                refine ⟨.inr ⟨by kernel_rfl, fun w1_ hB_ => ?_⟩, .inr ⟨by kernel_rfl, fun w1_ hB_ => ?_⟩, .inr ⟨by kernel_rfl, fun w1_ hB_ => ?_⟩, .inr ⟨by kernel_rfl, fun w1_ hB_ => ?_⟩, .inr ⟨by kernel_rfl, fun w1_ hB_ => ?_⟩, .inr ⟨by kernel_rfl, fun w1_ hB_ => ?_⟩, .inr ⟨by kernel_rfl, fun w1_ hB_ => ?_⟩, .inr ⟨by kernel_rfl, fun w1_ hB_ => ?_⟩, .inr ⟨by kernel_rfl, fun w1_ hB_ => ?_⟩, .inr ⟨by kernel_rfl, fun w1_ hB_ => ?_⟩, .inr ⟨by kernel_rfl, fun w1_ hB_ => ?_⟩, .inr ⟨by kernel_rfl, fun w1_ hB_ => ?_⟩, .inr ⟨by kernel_rfl, fun w1_ hB_ => ?_⟩, .inr ⟨by kernel_rfl, fun w1_ hB_ => ?_⟩, .inr ⟨by kernel_rfl, fun w1_ hB_ => ?_⟩, .inr ⟨by kernel_rfl, fun w1_ hB_ => ?_⟩, trivial⟩
                all_goals
                  obtain ⟨⟨d0, d1, d2, d3⟩, ⟨e0, e1, e2, e3, e4⟩⟩ := HCELL.out w1_ hB_
                  go_simp
                  first
                    | exact ⟨rfl, Below.refl _ _⟩
                    | exact ⟨rfl, HPL.out w1_⟩
                    | (rw [four_same]; go_simp; exact ⟨rfl, Below.refl _ _⟩)
                    | (rw [decide_eq_true (by omega)]; exact ⟨rfl, Below.refl _ _⟩)
                    | (rw [decide_eq_false (by omega)]; exact ⟨rfl, Below.refl _ _⟩)
                    | (rw [if_pos (by omega)]; exact ⟨rfl, Below.refl _ _⟩)
                    | (rw [IntWalk.i64_in _ (by omega)]; exact ⟨rfl, Below.refl _ _⟩)
                    | done
              case nextp =>
              intro w5 hb5
              have HB5 := Lib.hid (HBR.out.trans (hb5.mono hsr))
              clear hb5
              go_wp2_with fail
              go_roundw
              case rel => exact ⟨k + 1, by omega, by go_num, HB5.out⟩
              case measure => simp [intOf]; omega
            · have hd : decide ((k : Int) < (n : Int)) = false := decide_eq_false (by omega)
              obtain rfl : k = n := by omega
              go_wp2_with fail
              go_loopw [11] (fun jv wi => ∃ j : Nat, j ≤ l.length ∧ jv = .int .i64 j ∧ Below w3.heap.size w3 wi) (fun jv _ => l.length - (intOf jv).toNat)
              case atStart => exact ⟨0, Nat.zero_le _, rfl, HBR.out⟩
              case round =>
                clear HBR HBW hsr
                obtain ⟨j, hj, rfl, hbr⟩ := hrel
                have HBR := Lib.hid hbr
                have HBW := Lib.hid (HB3.out.trans (hbr.mono hs3))
                have hsr := hbr.size
                have hsw := HBW.out.size
                clear hbr
                by_cases hjl : j < l.length
                · have hd2 : decide ((j : Int) < (l.length : Int)) = true := decide_eq_true (by omega)
                  obtain ⟨bb, o, c', e, hbb, hc⟩ := (HV.out.below HBW.out).cells (by omega)
                  cases e
                  have HRO := Lib.hid (fun (W : World) (hbW : Below w.heap.size w W) => rall_any W w.heap.size _ [l[j]] a a ((HV.out.below hbW).one hjl) hbW.size (by
                    have h := HSM.out
                    unfold smallB at h ⊢
                    rw [Bool.and_eq_true, List.all_eq_true] at h
                    simp [h.1 l[j] (List.getElem_mem hjl)]) (by omega) (by omega))
                  obtain ⟨r, hr⟩ : ∃ r, l[j] = r := ⟨_, rfl⟩
                  have hcj := hc j hjl
                  rw [hr] at hcj HRO
                  obtain ⟨c0, c1, c2, c3, c4, c5, c6, c7, c8, c9, c10⟩ := hcj
                  have HOF := Lib.hid (fof_any r a wr (HA.out.below HBW.out (Nat.le_refl _)))
                  unfold rulA at HOF
                  have e1 : (j : Int) + 1 - (j : Int) = 1 := by omega
                  clear hc hr
                  cases hob : ofB r a with

                  | false =>
                    have HOB := Lib.hid hob
                    have hof : ofV r a = .zero := by unfold ofV; rw [hob]; rfl
                    rw [hob, hof] at HOF
                    unfold firA Fir.zero at HOF
                    clear hob hof
                    go_wp2_with fail
                    refine HOF.out.mono ?_
                    rintro e w5 ⟨rfl, hb⟩
                    have HBA := Lib.hid (show Below wr.heap.size wr (w5.alloc (.cells #[.int .i64 0, .int .i64 0, .int .i64 0, .string ⟨#[]⟩] 31)) from hb.alloc hb.size _)
                    have HX5 := Lib.hid (Blk.new w5 31 #[.int .i64 0, .int .i64 0, .int .i64 0, .string ⟨#[]⟩])
                    clear hb c0 c1 c2 c3 c4 c5 c6 c7 c8 c9 c10
                    go_wp2_with fail
                    obtain ⟨BF, hBF⟩ : ∃ n, w5.heap.size = n := ⟨_, rfl⟩
                    obtain ⟨W5, hW5⟩ : ∃ W, w5.alloc (.cells #[.int .i64 0, .int .i64 0, .int .i64 0, .string ⟨#[]⟩] 31) = W := ⟨_, rfl⟩
                    rw [hW5, hBF] at HX5
                    rw [hW5] at HBA
                    have HB5 := Lib.hid (HBR.out.trans (HBA.out.mono hsr))
                    have HBW5 := Lib.hid (HBW.out.trans (HBA.out.mono hsw))
                    have hs5 := HBW5.out.size
                    have hs53 := HB5.out.size
                    simp only [hW5, hBF]
                    clear hW5 hBF HBA
                    refine (HRO.out _ HBW5.out).mono ?_
                    rintro e w6 ⟨u3, D3, rfl, hst, hdi, hfr, hb⟩
                    have HX6 := Lib.hid (HX5.out.below hb HX5.out.lt)
                    have HB6 := Lib.hid (HB5.out.trans (hb.mono hs53))
                    have hs6 := HB6.out.size
                    obtain rfl := (one_year hst hdi).1 HOB.out
                    obtain ⟨A3, p3, rfl, -, -⟩ := hfr.form
                    have HCELL := Lib.hid (fun (W : World) (h : Below w6.heap.size w6 W) => show FirC W BF 0 Fir.zero from ⟨(HX6.out.below h HX6.out.lt).cell 0 rfl, (HX6.out.below h HX6.out.lt).cell 1 rfl, (HX6.out.below h HX6.out.lt).cell 2 rfl, (HX6.out.below h HX6.out.lt).cell 3 rfl⟩)
                    unfold FirC Fir.zero at HCELL
                    simp only [List.length_nil] at *
                    clear hst hdi hfr hb HX5 HX6 HOF HRO
                    go_wp2_with fail
                    refine wp_env (fin := ?fnr) (by kernel_rfl) [105, 106, 107, 108, 109, 110, 111, 112, 113, 114, 115, 116, 117, 118, 119, 120, 121, 122, 123, 124, 125, 126, 127, 128, 129]
                      [.bool false, .slice A3 0 p3, .int .i64 0, .bool false, .bool false, .bool false, .bool false, .bool false, undef, undef, undef, undef, undef, undef, .bool false, .bool false, .bool false, .bool false, .bool true, .bool true, .agg #[.int .i64 0, .int .i64 0, .int .i64 0, .string ⟨#[]⟩], .agg #[.int .i64 0, .int .i64 0, .int .i64 0, .string ⟨#[]⟩], .bool false, .bool false, .bool false] (by kernel_rfl) ?finr ?stepsr ?nextr
                    case finr =>
                      simp only [putAll, Act.put, List.setIfInBounds_toArray, List.set_cons_succ, List.set_cons_zero]
                      rfl
                    case stepsr =>
                      refine ⟨.inr ⟨by kernel_rfl, fun w1_ hB_ => ?_⟩, .inr ⟨by kernel_rfl, fun w1_ hB_ => ?_⟩, .inr ⟨by kernel_rfl, fun w1_ hB_ => ?_⟩, .inr ⟨by kernel_rfl, fun w1_ hB_ => ?_⟩, .inr ⟨by kernel_rfl, fun w1_ hB_ => ?_⟩, .inr ⟨by kernel_rfl, fun w1_ hB_ => ?_⟩, .inr ⟨by kernel_rfl, fun w1_ hB_ => ?_⟩, .inr ⟨by kernel_rfl, fun w1_ hB_ => ?_⟩, .inl ⟨by kernel_rfl, rfl⟩, .inl ⟨by kernel_rfl, rfl⟩, .inl ⟨by kernel_rfl, rfl⟩, .inl ⟨by kernel_rfl, rfl⟩, .inl ⟨by kernel_rfl, rfl⟩, .inl ⟨by kernel_rfl, rfl⟩, .inr ⟨by kernel_rfl, fun w1_ hB_ => ?_⟩, .inr ⟨by kernel_rfl, fun w1_ hB_ => ?_⟩, .inr ⟨by kernel_rfl, fun w1_ hB_ => ?_⟩, .inr ⟨by kernel_rfl, fun w1_ hB_ => ?_⟩, .inr ⟨by kernel_rfl, fun w1_ hB_ => ?_⟩, .inr ⟨by kernel_rfl, fun w1_ hB_ => ?_⟩, .inr ⟨by kernel_rfl, fun w1_ hB_ => ?_⟩, .inr ⟨by kernel_rfl, fun w1_ hB_ => ?_⟩, .inr ⟨by kernel_rfl, fun w1_ hB_ => ?_⟩, .inr ⟨by kernel_rfl, fun w1_ hB_ => ?_⟩, .inr ⟨by kernel_rfl, fun w1_ hB_ => ?_⟩, trivial⟩
                      all_goals
                        obtain ⟨d0, d1, d2, d3⟩ := HCELL.out w1_ hB_
                        go_simp
                        first
                          | exact ⟨rfl, Below.refl _ _⟩
                          | (rw [decide_eq_true (by omega)]; exact ⟨rfl, Below.refl _ _⟩)
                          | (rw [decide_eq_false (by omega)]; exact ⟨rfl, Below.refl _ _⟩)
                          | (rw [if_pos (by omega)]; exact ⟨rfl, Below.refl _ _⟩)
                          | (rw [IntWalk.i64_in _ (by omega)]; exact ⟨rfl, Below.refl _ _⟩)
                          | done
                    case nextr =>
                    intro w7 hb7
                    have HB7 := Lib.hid (HB6.out.trans (hb7.mono hs6))
                    clear hb7
                    go_wp2_with fail
                    go_roundw
                    case rel => exact ⟨j + 1, by omega, by go_num, HB7.out⟩
                    case measure => simp [intOf]; omega
                  | true =>
                    have HOB := Lib.hid hob
                    obtain ⟨f, hf⟩ : ∃ f, firOf r a = f := ⟨_, rfl⟩
                    have hof : ofV r a = f := by unfold ofV; rw [hob, ← hf]; rfl
                    have HF := Lib.hid hf
                    rw [hob, hof] at HOF
                    unfold firA at HOF
                    clear hob hof hf
                    go_wp2_with fail
                    refine HOF.out.mono ?_
                    rintro e w5 ⟨rfl, hb⟩
                    have HBA := Lib.hid (show Below wr.heap.size wr (w5.alloc (.cells #[.int .i64 f.nominal, .int .i64 f.kind, .int .i64 f.save, .string f.letter] 31)) from hb.alloc hb.size _)
                    have HX5 := Lib.hid (Blk.new w5 31 #[.int .i64 f.nominal, .int .i64 f.kind, .int .i64 f.save, .string f.letter])
                    clear hb c0 c1 c2 c3 c4 c5 c6 c7 c8 c9 c10
                    go_wp2_with fail
                    obtain ⟨BF, hBF⟩ : ∃ n, w5.heap.size = n := ⟨_, rfl⟩
                    obtain ⟨W5, hW5⟩ : ∃ W, w5.alloc (.cells #[.int .i64 f.nominal, .int .i64 f.kind, .int .i64 f.save, .string f.letter] 31) = W := ⟨_, rfl⟩
                    rw [hW5, hBF] at HX5
                    rw [hW5] at HBA
                    have HB5 := Lib.hid (HBR.out.trans (HBA.out.mono hsr))
                    have HBW5 := Lib.hid (HBW.out.trans (HBA.out.mono hsw))
                    have hs5 := HBW5.out.size
                    have hs53 := HB5.out.size
                    simp only [hW5, hBF]
                    clear hW5 hBF HBA
                    refine (HRO.out _ HBW5.out).mono ?_
                    rintro e w6 ⟨u3, D3, rfl, hst, hdi, hfr, hb⟩
                    have HX6 := Lib.hid (HX5.out.below hb HX5.out.lt)
                    have HB6 := Lib.hid (HB5.out.trans (hb.mono hs53))
                    have hs6 := HB6.out.size
                    obtain rfl := (one_year hst hdi).2 HOB.out
                    rw [HF.out] at hfr
                    obtain ⟨b3, o3, p3, rfl, hb3, hc3⟩ := hfr.cells (by simp)
                    have hc := hc3 0 (by simp)
                    simp only [Nat.zero_mul, Nat.add_zero, List.getElem_cons_zero] at hc
                    have HCELL := Lib.hid (fun (W : World) (h : Below w6.heap.size w6 W) => show FirC W BF 0 f ∧ FrIC W b3 o3 f 0 from ⟨⟨(HX6.out.below h HX6.out.lt).cell 0 rfl, (HX6.out.below h HX6.out.lt).cell 1 rfl, (HX6.out.below h HX6.out.lt).cell 2 rfl, (HX6.out.below h HX6.out.lt).cell 3 rfl⟩, FrIC.below hc h hb3⟩)
                    have HPL := Lib.hid (fun W => plain_any f 0 W)
                    clear hc hc3 hst hdi hfr hb HX5 HX6 HOF HRO
                    go_wp2_with fail
                    refine wp_env (fin := ?fnq) (by kernel_rfl) [105, 106, 107, 108, 109, 110, 111, 112, 113, 114, 115, 116, 117, 118, 119, 120, 121, 122, 123, 124, 125, 126, 127, 128, 129]
                      [.bool true, .slice (some ⟨b3, o3, none⟩) 1 p3, .int .i64 1, .bool true, .bool false, .bool false, .bool true, .bool true, .agg #[.int .i64 f.nominal, .int .i64 f.kind, .int .i64 f.save, .string f.letter], .agg #[.int .i64 f.nominal, .int .i64 f.kind, .int .i64 f.save, .int .i64 0, .string f.letter], .slice (some ⟨b3, o3, none⟩) 1 p3, .pointer (some ⟨b3, o3, none⟩), .agg #[.int .i64 f.nominal, .int .i64 f.kind, .int .i64 f.save, .int .i64 0, .string f.letter], .bool false, .bool false, .bool false, .bool false, .bool true, .bool false, .bool false, undef, undef, undef, .bool false, .bool false] (by kernel_rfl) ?finq ?stepsq ?nextq
                    case finq =>
                      simp only [putAll, Act.put, List.setIfInBounds_toArray, List.set_cons_succ, List.set_cons_zero]
                      rfl
                    case stepsq =>
                      refine ⟨.inr ⟨by kernel_rfl, fun w1_ hB_ => ?_⟩, .inr ⟨by kernel_rfl, fun w1_ hB_ => ?_⟩, .inr ⟨by kernel_rfl, fun w1_ hB_ => ?_⟩, .inr ⟨by kernel_rfl, fun w1_ hB_ => ?_⟩, .inr ⟨by kernel_rfl, fun w1_ hB_ => ?_⟩, .inr ⟨by kernel_rfl, fun w1_ hB_ => ?_⟩, .inr ⟨by kernel_rfl, fun w1_ hB_ => ?_⟩, .inr ⟨by kernel_rfl, fun w1_ hB_ => ?_⟩, .inr ⟨by kernel_rfl, fun w1_ hB_ => ?_⟩, .inr ⟨by kernel_rfl, fun w1_ hB_ => ?_⟩, .inr ⟨by kernel_rfl, fun w1_ hB_ => ?_⟩, .inr ⟨by kernel_rfl, fun w1_ hB_ => ?_⟩, .inr ⟨by kernel_rfl, fun w1_ hB_ => ?_⟩, .inr ⟨by kernel_rfl, fun w1_ hB_ => ?_⟩, .inr ⟨by kernel_rfl, fun w1_ hB_ => ?_⟩, .inr ⟨by kernel_rfl, fun w1_ hB_ => ?_⟩, .inr ⟨by kernel_rfl, fun w1_ hB_ => ?_⟩, .inr ⟨by kernel_rfl, fun w1_ hB_ => ?_⟩, .inr ⟨by kernel_rfl, fun w1_ hB_ => ?_⟩, .inr ⟨by kernel_rfl, fun w1_ hB_ => ?_⟩, .inl ⟨by kernel_rfl, rfl⟩, .inl ⟨by kernel_rfl, rfl⟩, .inl ⟨by kernel_rfl, rfl⟩, .inr ⟨by kernel_rfl, fun w1_ hB_ => ?_⟩, .inr ⟨by kernel_rfl, fun w1_ hB_ => ?_⟩, trivial⟩
                      all_goals
                        obtain ⟨⟨d0, d1, d2, d3⟩, ⟨e0, e1, e2, e3, e4⟩⟩ := HCELL.out w1_ hB_
                        go_simp
                        first
                          | exact ⟨rfl, Below.refl _ _⟩
                          | exact ⟨rfl, HPL.out w1_⟩
                          | (rw [four_same]; go_simp; exact ⟨rfl, Below.refl _ _⟩)
                          | (rw [decide_eq_true (by omega)]; exact ⟨rfl, Below.refl _ _⟩)
                          | (rw [decide_eq_false (by omega)]; exact ⟨rfl, Below.refl _ _⟩)
                          | (rw [if_pos (by omega)]; exact ⟨rfl, Below.refl _ _⟩)
                          | (rw [IntWalk.i64_in _ (by omega)]; exact ⟨rfl, Below.refl _ _⟩)
                          | done
                    case nextq =>
                    intro w7 hb7
                    have HB7 := Lib.hid (HB6.out.trans (hb7.mono hs6))
                    clear hb7
                    go_wp2_with fail
                    go_roundw
                    case rel => exact ⟨j + 1, by omega, by go_num, HB7.out⟩
                    case measure => simp [intOf]; omega
                · have hd2 : decide ((j : Int) < (l.length : Int)) = false := decide_eq_false (by omega)
                  have HL1 := Lib.hid (fun (W : World) (h : Below w.heap.size w W) => fletter_any W w.heap.size _ l (HV.out.below h) h.size (by omega) HMO.out)
                  have HL2 := Lib.hid (fun (W : World) (h : Below w.heap.size w W) => rletter_any W w.heap.size _ l (HV.out.below h) h.size (by omega) HMO.out)
                  go_wp2_with fail
                  refine (HL1.out _ HBW.out).mono ?_
                  rintro e w5 ⟨rfl, hb⟩
                  have HB5 := Lib.hid (HBW.out.trans (hb.mono hsw))
                  clear hb
                  go_wp2_with fail
                  refine (HL2.out _ HB5.out).mono ?_
                  rintro e w6 ⟨rfl, hb⟩
                  have HB6 := Lib.hid (HB5.out.trans (hb.mono HB5.out.size))
                  clear hb
                  go_wp2_with fail
                  refine (awake_any _ (HA.out.below (HB6.out) (Nat.le_refl _))).mono ?_
                  rintro e wz ⟨rfl, hbz⟩
                  have hb9 := (HB6.out).trans (hbz.mono (HB6.out).size)
                  clear hbz
                  go_wp2_with fail
                  go_ret
                  exact ⟨rfl, hb9⟩
end Go.Proofs.YtkdpflgkcnhoiaaDoor
