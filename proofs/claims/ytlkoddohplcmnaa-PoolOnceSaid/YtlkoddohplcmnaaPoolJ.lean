/-
  Layer 17: the law PoolJoins, walked.
-/
import Derived.Test.YtlkoddohplcmnaaPoolI
namespace Go.Proofs.Ytlkoddohplcmnaa
open Go Go.RowKit Go.Maps Go.WideMaps

theorem fold_put (l : Row) : ∀ acc : Row, ∃ r, l.foldl putL acc = acc ++ r ∧ (∀ x ∈ r, x ∈ l) ∧ ∀ x ∈ l, x ∈ acc ++ r := by
  induction l with
  | nil => intro acc; exact ⟨[], by simp, by simp, by simp⟩
  | cons y l ih =>
    intro acc
    obtain ⟨r, h1, h2, h3⟩ := ih (putL acc y)
    rw [List.foldl_cons, h1]
    unfold putL at *
    by_cases hy : y ∈ acc
    · rw [if_pos hy] at *
      refine ⟨r, rfl, fun x hx => List.mem_cons_of_mem _ (h2 x hx), fun x hx => ?_⟩
      rcases List.mem_cons.1 hx with rfl | hx
      · exact List.mem_append_left _ hy
      · exact h3 x hx
    · rw [if_neg hy] at *
      refine ⟨y :: r, by simp, fun x hx => ?_, fun x hx => ?_⟩
      · rcases List.mem_cons.1 hx with rfl | hx
        · simp
        · exact List.mem_cons_of_mem _ (h2 x hx)
      · rcases List.mem_cons.1 hx with rfl | hx
        · simp
        · have := h3 x hx
          simpa using this
theorem ofL_join (a b : Row) : ∃ r, ofL (a ++ b) = ofL a ++ r ∧ (∀ x ∈ r, x ∈ b) ∧ ∀ x ∈ b, x ∈ ofL a ++ r := by
  obtain ⟨r, h1, h2, h3⟩ := fold_put b (ofL a)
  exact ⟨r, by unfold ofL at *; rw [List.foldl_append, h1], h2, h3⟩
theorem refI_mem {row : Row} {x : List UInt8} (h : x ∈ row) : ∃ z : Int, refI row x = z ∧ 0 ≤ z ∧ z < row.length := by
  have := idx_lt h
  exact ⟨idx row x, by unfold refI; rw [if_pos h], by omega, by omega⟩
theorem new_two {w : World} {v : Value} {a b : Row} (hv : Strs w w.heap.size v (a ++ b)) (hxa : ∀ x ∈ a, x.length ≤ maxLen) (hxb : ∀ x ∈ b, x.length ≤ maxLen) (hl : (a ++ b).length ≤ 1000) {ra r : Row} (he : ofL (a ++ b) = ra ++ r) :
    Calls Try.prog 11 #[v] w fun e w' => ∃ pb, e = .returned (.pointer (some ⟨pb, 0, none⟩)) ∧ PoolAt w' (From w.heap.size) pb (ra ++ r) ∧ Below w.heap.size w w' := by
  have := new_any hv (fun x hx => (List.mem_append.1 hx).elim (hxa x) (hxb x)) hl
  rw [he] at this
  exact this
theorem len_is {w : World} {T : Nat → Prop} {pb : Nat} {row : Row} (h : PoolAt w T pb row) {n : Nat} (hn : row.length = n) :
    Calls Try.prog 20 #[.pointer (some ⟨pb, 0, none⟩)] w fun e w' => e = .returned (.int .i64 n) ∧ w' = w := hn ▸ len_any h
theorem at_is {w : World} {T : Nat → Prop} {pb : Nat} {row : Row} (h : PoolAt w T pb row) {j : Nat} (hj : j < row.length) {x : List UInt8} (hx : row[j] = x) :
    Calls Try.prog 21 #[.pointer (some ⟨pb, 0, none⟩), .int .i64 j] w fun e w' => e = .returned (.tuple #[str x, .int .i64 0]) ∧ w' = w := hx ▸ at_ok h hj
theorem find_is {w : World} {T : Nat → Prop} {pb : Nat} {row : Row} (h : PoolAt w T pb row) {x : List UInt8} (hx : x.length ≤ maxLen) {z : Int} {b : Bool} (hz : findI row x = z) (hb : findB row x = b) :
    Calls Try.prog 16 #[.pointer (some ⟨pb, 0, none⟩), str x] w fun e w' => e = .returned (.tuple #[.int .i64 z, .bool b]) ∧ w' = w := hz ▸ hb ▸ find_any h x hx
theorem ref_is {w : World} {v : Value} {l : Row} (hv : Strs w w.heap.size v l) (hl : l.length ≤ 100000) {x : List UInt8} {z : Int} (hz : refI l x = z) :
    Calls Try.prog 14 #[v, str x] w fun e w' => e = .returned (.int .i64 z) ∧ Below w.heap.size w w' := hz ▸ find_ref hv hl x
theorem few_is {w : World} {v : Value} {l : Row} (hv : Strs w w.heap.size v l) (hx : ∀ x ∈ l, x.length ≤ maxLen) {b : Bool} (hb : fewB l = b) :
    Calls Try.prog 9 #[v] w fun e w' => e = .returned (.bool b) ∧ Below w.heap.size w w' := hb ▸ few_any hv hx

set_option maxRecDepth 10000 in
set_option maxHeartbeats 2000000 in
theorem joins_walk (w : World) (v : Value) (a : Row) (u : Value) (b : Row) (hv : Strs w w.heap.size v a) (hxa : ∀ y ∈ a, y.length ≤ maxLen) (hu : Strs w w.heap.size u b) (hxb : ∀ y ∈ b, y.length ≤ maxLen) :
    Calls Try.prog 5 #[v, u] w fun e w' => e = .returned (.bool true) ∧ Below w.heap.size w w' := by
  obtain ⟨i0, hi, hz0, hz1, hz2⟩ := info_parts infoStr
  have HV := Lib.hid hv
  have HU := Lib.hid hu
  have HXA := Lib.hid hxa
  have HXB := Lib.hid hxb
  obtain ⟨A, c, rfl, hlc, hcm⟩ := strs_len hv
  obtain ⟨B, d, rfl, hld, hdm⟩ := strs_len hu
  unfold maxLen at hcm hdm
  clear hv hu hxa hxb
  rcases Bool.eq_false_or_eq_true (fewB a) with hfa | hfa
  · rcases Bool.eq_false_or_eq_true (fewB b) with hfb | hfb
    · have HFA := Lib.hid (few_is HV.out HXA.out hfa)
      have ha60 := (fewB_spec hfa).1
      have hb60 := (fewB_spec hfb).1
      have HFB := Lib.hid hfb
      clear hfa hfb
      obtain ⟨r, hr, hr1, hr2⟩ := ofL_join a b
      have HR := Lib.hid hr
      have HR1 := Lib.hid hr1
      have HR2 := Lib.hid hr2
      clear hr hr1 hr2
      obtain ⟨ra, hra⟩ : ∃ ra, ofL a = ra := ⟨_, rfl⟩
      have hra60 : ra.length ≤ 60 := by have := ofL_len a; rw [hra] at this; omega
      have hr120 : (ra ++ r).length ≤ 120 := by have h1 := ofL_len (a ++ b); have h2 : (a ++ b).length = a.length + b.length := List.length_append; rw [HR.out, hra] at h1; omega
      rw [hra] at HR HR2
      have HRA := Lib.hid hra
      clear hra
      have hlle : ra.length ≤ (ra ++ r).length := by simp
      obtain ⟨na, hna⟩ : ∃ na, ra.length = na := ⟨_, rfl⟩
      obtain ⟨nq, hnq⟩ : ∃ nq, (ra ++ r).length = nq := ⟨_, rfl⟩
      rw [hna] at hlle hra60
      rw [hnq] at hlle hr120
      have HNA := Lib.hid hna
      have HNQ := Lib.hid hnq
      clear hna hnq
      go_enter Try.func5, Try.ntmps5
      go_wp2_with fail
      refine HFA.out.mono ?_
      rintro e w1 ⟨rfl, hb1⟩
      clear HFA
      go_wp2_with fail
      refine (few_is ((HU.out.below hb1).more hb1.size) HXB.out HFB.out).mono ?_
      rintro e w2 ⟨rfl, hb2⟩
      have hbel2 := hb1.trans (hb2.mono hb1.size)
      clear hb1 hb2
      go_wp2_with fail
      refine (new_any ((HV.out.below hbel2).more hbel2.size) HXA.out (by omega)).mono ?_
      rintro e w3 ⟨pa, rfl, hp3, hb3⟩
      rw [HRA.out] at hp3
      have HP3 := Lib.hid hp3
      have hbel3 := hbel2.trans (hb3.mono hbel2.size)
      have hs3 := hbel3.size
      clear hp3 hb3
      have tok1 : True := trivial
      go_wp2_with (first
        | (at_builtin; have _t := tok1; refine wpList_append_sl rfl _ _ 22 rfl w3.heap.size 9 i0 (.string ⟨#[]⟩) 1 16 Try.underlying22 hi hz0 hz1 hz2 rfl (by decide) (.slice none 0 0) 0 [] rfl (World.ownsRow_nil _ _ _ _) (.slice A a.length c) w.heap.size a.length (strsV a) rfl (Sl.below HV.out hbel3) (strsV_one a) (by unfold maxLen; omega) (by omega) (Nat.le_refl _) ?_; intro v4 w4 hown4 hgrow4; clear tok1; rw [Nat.zero_add, List.nil_append] at hown4; have hB4 : Below w3.heap.size w3 w4 := (Below.refl _ _).grown hgrow4 (Nat.le_refl _) (fun g e => by simp [Value.ownBlock] at e); have hs4 := hB4.size; have hbel4 := hbel3.trans (hB4.mono hs3))
        | (at_builtin; refine wpList_append_sl rfl _ _ 22 rfl w3.heap.size 9 i0 (.string ⟨#[]⟩) 1 16 Try.underlying22 hi hz0 hz1 hz2 rfl (by decide) v4 a.length (strsV a) rfl hown4 (.slice B b.length d) w.heap.size b.length (strsV b) rfl (Sl.below HU.out hbel4) (strsV_one b) (by unfold maxLen; omega) (by omega) hs4 ?_; intro v5 w5 hown5 hgrow5; have hB5 : Below w3.heap.size w3 w5 := hB4.grown hgrow5 hs4 (fun g e => (hown4.lt g e).1)))
      have hbel5 := hbel3.trans (hB5.mono hs3)
      have hS5 : Strs w5 w5.heap.size v5 (a ++ b) := strs_of_own (base := w3.heap.size) (e := 9) (by rw [strsV_append, List.length_append]; exact hown5)
      refine (new_two hS5 HXA.out HXB.out (by rw [List.length_append]; omega) HR.out).mono ?_
      rintro e w6 ⟨qa, rfl, hq6, hb6⟩
      have HP6 := Lib.hid ((HP3.out.later hB5).later hb6)
      have HQ6 := Lib.hid hq6
      have hbel6 := hbel5.trans (hb6.mono hbel5.size)
      clear hq6 hb6 hB5 hbel5 hS5 hown5 hgrow5 hB4 hgrow4 hown4 hbel4 HP3
      have HNX : Hid (∀ i, (hi : i < (ra ++ r).length) → na ≤ i → (ra ++ r)[i] ∈ b ∧ findB ra (ra ++ r)[i] = false) := by
        intro i hi hle
        have hnd := HQ6.out.nodup
        have hir : (ra ++ r)[i] ∈ r := by
          rw [List.getElem_append_right (by rw [HNA.out]; exact hle)]
          exact List.getElem_mem _
        refine ⟨HR1.out _ hir, ?_⟩
        unfold findB
        rw [decide_eq_false_iff_not]
        intro hm
        rw [List.nodup_append] at hnd
        exact hnd.2.2 _ hm _ hir rfl
      have HLP := fun ww (hb : Below w6.heap.size w6 ww) => Lib.hid (len_is (HP6.out.later hb) HNA.out)
      have HLQ := fun ww (hb : Below w6.heap.size w6 ww) => Lib.hid (len_is (HQ6.out.later hb) HNQ.out)
      have HLP' := Lib.hid HLP
      have HLQ' := Lib.hid HLQ
      clear HLP HLQ
      go_wp2_with fail
      refine (HLQ'.out _ (Below.refl _ _)).out.mono ?_
      rintro e w7 ⟨rfl, rfl⟩
      go_wp2_with fail
      refine (HLP'.out _ (Below.refl _ _)).out.mono ?_
      rintro e w7 ⟨rfl, rfl⟩
      go_wp2_with fail
      rw [decide_eq_false (show ¬ nq < na by omega)]
      go_loopw [8] (fun i wr => ∃ j : Nat, j ≤ na ∧ i = .int .i64 j ∧ wr = w7) (fun i _ => na - (intOf i).toNat)
      case atStart => exact ⟨0, by omega, rfl, rfl⟩
      case round =>
        obtain ⟨j, hj, rfl, rfl⟩ := hrel
        rcases (show j = na ∨ j < na by omega) with hje | hjl
        · subst hje
          go_wp2_with fail
          refine (HLP'.out _ (Below.refl _ _)).out.mono ?_
          rintro e w8 ⟨rfl, rfl⟩
          go_wp2_with fail
          refine (HLP'.out _ (Below.refl _ _)).out.mono ?_
          rintro e w8 ⟨rfl, rfl⟩
          go_wp2_with fail
          go_loopw [13] (fun i wr => ∃ k : Nat, j ≤ k ∧ k ≤ nq ∧ i = .int .i64 k ∧ Below w8.heap.size w8 wr) (fun i _ => nq - (intOf i).toNat)
          case atStart => exact ⟨j, Nat.le_refl _, hlle, rfl, Below.refl _ _⟩
          case round =>
            obtain ⟨k, hk1, hk2, rfl, hbk⟩ := hrel
            rcases (show k = nq ∨ k < nq by omega) with hke | hkl
            · subst hke
              go_wp2_with fail
              refine (HLQ'.out _ hbk).out.mono ?_
              rintro e w9 ⟨rfl, rfl⟩
              go_wp2_with fail
              go_loopw [18] (fun i wr => ∃ k : Nat, k ≤ b.length ∧ i = .int .i64 k ∧ wr = w9) (fun i _ => b.length - (intOf i).toNat)
              case atStart => exact ⟨0, by omega, rfl, rfl⟩
              case round =>
                obtain ⟨m, hm, rfl, rfl⟩ := hrel
                rcases (show m = b.length ∨ m < b.length by omega) with hme | hml
                · subst hme
                  go_wp2_with fail
                  refine (awake_walk _).mono ?_
                  rintro e w10 ⟨rfl, hb10⟩
                  go_wp2_with fail
                  go_ret
                  have hbel9 := hbel6.trans (hbk.mono hbel6.size)
                  exact ⟨rfl, hbel9.trans (hb10.mono hbel9.size)⟩
                · obtain ⟨bb, o, c', hAe, hbB, hc⟩ := HU.out.at_ (by omega)
                  cases hAe
                  have hbel9 := hbel6.trans (hbk.mono hbel6.size)
                  have hcell := (hbel9.cell (p := ⟨bb, o + m, none⟩) hbB).trans (hc m _ (strsV_at b m hml))
                  have HF := Lib.hid (find_is (HQ6.out.later hbk) (x := b[m]) (HXB.out _ (List.getElem_mem hml)) rfl (show findB (ra ++ r) b[m] = true from decide_eq_true (HR2.out _ (List.getElem_mem hml))))
                  generalize findI (ra ++ r) b[m] = z at *
                  clear hc
                  generalize b[m] = x at *
                  go_wp2_with fail
                  refine HF.out.mono ?_
                  rintro e w10 ⟨rfl, rfl⟩
                  go_wp2_with fail
                  go_roundw
                  case rel => exact ⟨m + 1, by omega, by go_num, trivial⟩
                  case measure => first | (simp [intOf]; done) | (simp [intOf]; omega)
            · have hkn : k < (ra ++ r).length := by rw [HNQ.out]; exact hkl
              obtain ⟨x, hx⟩ : ∃ x, (ra ++ r)[k] = x := ⟨_, rfl⟩
              have HAT := Lib.hid (at_is (HQ6.out.later hbk) hkn hx)
              obtain ⟨hxb, hxf⟩ := HNX.out k hkn hk1
              rw [hx] at hxb hxf
              have hxl : x.length ≤ maxLen := HXB.out _ hxb
              obtain ⟨z, hz, hz0', hzl⟩ := refI_mem hxb
              obtain ⟨y, hy⟩ : ∃ y, findI ra x = y := ⟨_, rfl⟩
              have HF := Lib.hid (find_is (HP6.out.later hbk) hxl hy hxf)
              have hbel9 := hbel6.trans (hbk.mono hbel6.size)
              have HRF := Lib.hid (ref_is ((HU.out.below hbel9).more hbel9.size) (by omega) hz)
              clear hx hxb hxf hz hy hxl
              go_wp2_with fail
              refine (HLQ'.out _ hbk).out.mono ?_
              rintro e w9 ⟨rfl, rfl⟩
              go_wp2_with fail
              refine HAT.out.mono ?_
              rintro e w9 ⟨rfl, rfl⟩
              go_wp2_with fail
              refine HF.out.mono ?_
              rintro e w9 ⟨rfl, rfl⟩
              go_wp2_with fail
              refine HRF.out.mono ?_
              rintro e w10 ⟨rfl, hb10⟩
              have hbk2 := hbk.trans (hb10.mono hbk.size)
              go_wp2_with fail
              go_roundw
              case rel => exact ⟨k + 1, by omega, by omega, by go_num, hbk2⟩
              case measure => first | (simp [intOf]; done) | (simp [intOf]; omega)
        · have hjp : j < ra.length := by rw [HNA.out]; exact hjl
          have hjq : j < (ra ++ r).length := by rw [List.length_append]; omega
          obtain ⟨x, hx⟩ : ∃ x, ra[j] = x := ⟨_, rfl⟩
          have HA1 := Lib.hid (at_is HP6.out hjp hx)
          have HA2 := Lib.hid (at_is HQ6.out hjq (show (ra ++ r)[j] = x by rw [List.getElem_append_left hjp]; exact hx))
          clear hx hjp hjq
          go_wp2_with fail
          refine (HLP'.out _ (Below.refl _ _)).out.mono ?_
          rintro e w8 ⟨rfl, rfl⟩
          go_wp2_with fail
          refine HA1.out.mono ?_
          rintro e w8 ⟨rfl, rfl⟩
          go_wp2_with fail
          refine HA2.out.mono ?_
          rintro e w8 ⟨rfl, rfl⟩
          go_wp2_with fail
          go_roundw
          case rel =>
            exact ⟨j + 1, by omega, by go_num, trivial⟩
          case measure => first | (simp [intOf]; done) | (simp [intOf]; omega)
    · have HFA := Lib.hid (few_is HV.out HXA.out hfa)
      go_enter Try.func5, Try.ntmps5
      go_wp2_with fail
      refine HFA.out.mono ?_
      rintro e w1 ⟨rfl, hb1⟩
      go_wp2_with fail
      refine (few_is ((HU.out.below hb1).more hb1.size) HXB.out hfb).mono ?_
      rintro e w2 ⟨rfl, hb2⟩
      have hbel2 := hb1.trans (hb2.mono hb1.size)
      go_wp2_with fail
      refine (awake_walk _).mono ?_
      rintro e w3 ⟨rfl, hb3⟩
      go_wp2_with fail
      go_ret
      exact ⟨rfl, hbel2.trans (hb3.mono hbel2.size)⟩
  · have HFA := Lib.hid (few_is HV.out HXA.out hfa)
    go_enter Try.func5, Try.ntmps5
    go_wp2_with fail
    refine HFA.out.mono ?_
    rintro e w1 ⟨rfl, hb1⟩
    go_wp2_with fail
    refine (awake_walk _).mono ?_
    rintro e w2 ⟨rfl, hb2⟩
    go_wp2_with fail
    go_ret
    exact ⟨rfl, hb1.trans (hb2.mono hb1.size)⟩
end Go.Proofs.Ytlkoddohplcmnaa
