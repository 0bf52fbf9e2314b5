/-
  Layer 17: the law's 'few' and the reference.
-/
import Derived.Test.YtlkoddohplcmnaaPoolF
namespace Go.Proofs.Ytlkoddohplcmnaa
open Go Go.RowKit Go.Maps Go.WideMaps

def fewB (l : Row) : Bool := l.all (fun x => decide (x.length ≤ 60)) && decide (l.length ≤ 60)
set_option maxHeartbeats 400000 in
theorem few_any {w : World} {v : Value} {l : Row} (hv : Strs w w.heap.size v l) (hx : ∀ x ∈ l, x.length ≤ maxLen) :
    Calls Try.prog 9 #[v] w fun e w' => e = .returned (.bool (fewB l)) ∧ Below w.heap.size w w' := by
  obtain ⟨A, c, rfl, hlc, hcm, -, hA⟩ := hv
  unfold maxLen at hcm
  have HA := Lib.hid hA
  have HX := Lib.hid hx
  clear hA hx
  go_enter Try.func9, Try.ntmps9
  go_wp2_with fail
  go_loopw [3] (fun i wr => ∃ j : Nat, j ≤ l.length ∧ i = .int .i64 j ∧ (∀ i (hi : i < l.length), i < j → l[i].length ≤ 60) ∧ Below w.heap.size w wr) (fun i _ => l.length - (intOf i).toNat)
  case atStart => exact ⟨0, by omega, rfl, fun _ _ h => absurd h (by omega), Below.refl _ _⟩
  case round =>
    obtain ⟨j, hj, rfl, hall, hbel⟩ := hrel
    have HALL := Lib.hid hall
    clear hall
    rcases (show j = l.length ∨ j < l.length by omega) with hje | hjl
    · subst hje
      have HB : Hid (fewB l = decide (l.length ≤ 60)) := by
        show _ = _
        unfold fewB
        rw [List.all_eq_true.2 (fun x hx => by
          obtain ⟨i, hi, rfl⟩ := List.getElem_of_mem hx
          simpa using HALL.out i hi hi), Bool.true_and]
      go_wp2_with fail
      go_ret
      exact ⟨ret_bool (by rw [HB.out]; exact decide_eq_decide.2 (by omega)), hbel⟩
    · obtain ⟨b, o, hAe, hbB, hc⟩ := HA.out (by omega)
      subst hAe
      have hcell := (hbel.cell (p := ⟨b, o + j, none⟩) hbB).trans (hc j _ (strsV_at l j hjl))
      have hxj := HX.out _ (List.getElem_mem hjl)
      unfold maxLen at hxj
      clear hc
      obtain ⟨x, hxe⟩ : ∃ x, l[j] = x := ⟨_, rfl⟩
      rw [hxe] at hcell hxj
      have HXE := Lib.hid hxe
      clear hxe
      by_cases h60 : 60 < x.length
      · have HB : Hid (fewB l = false) := by
          show _ = _
          unfold fewB
          rw [List.all_eq_false.2 ⟨_, List.getElem_mem hjl, by rw [HXE.out]; simp; omega⟩, Bool.false_and]
        go_wp2_with fail
        go_ret
        exact ⟨by rw [HB.out]; rfl, hbel⟩
      · go_wp2_with fail
        go_roundw
        case rel => exact ⟨j + 1, by omega, by go_num, fun i hi h => by
          rcases Nat.lt_or_ge i j with h2 | h2
          · exact HALL.out i hi h2
          · obtain rfl : i = j := by omega
            rw [HXE.out]; omega, hbel⟩
        case measure => first | (simp [intOf]; done) | (simp [intOf]; omega)

/-! ### The reference -/
def refI (row : Row) (x : List UInt8) : Int := if x ∈ row then (idx row x : Int) else -1
set_option maxHeartbeats 400000 in
theorem find_ref0 {w : World} {v : Value} {l : Row} (hv : Strs w w.heap.size v l) (hl : l.length ≤ 100000) (x : List UInt8) :
    Calls Try.prog 14 #[v, str x] w fun e w' => e = .returned (.int .i64 (refI l x)) ∧ w' = w := by
  obtain ⟨A, c, rfl, hlc, hcm, -, hA⟩ := hv
  unfold maxLen at hcm
  have HA := Lib.hid hA
  clear hA
  go_enter Try.func14, Try.ntmps14
  go_wp2_with fail
  go_loopw [5] (fun i wr => ∃ j : Nat, j ≤ l.length ∧ i = .int .i64 j ∧ (∀ i (hi : i < l.length), i < j → l[i] ≠ x) ∧ wr = w) (fun i _ => l.length - (intOf i).toNat)
  case atStart => exact ⟨0, by omega, rfl, fun _ _ h => absurd h (by omega), rfl⟩
  case round =>
    obtain ⟨j, hj, rfl, hall, rfl⟩ := hrel
    have HALL := Lib.hid hall
    clear hall
    rcases (show j = l.length ∨ j < l.length by omega) with hje | hjl
    · subst hje
      have HB : Hid (refI l x = -1) := by
        show _ = _
        unfold refI
        rw [if_neg]
        intro hm
        obtain ⟨i, hi, he⟩ := List.getElem_of_mem hm
        exact HALL.out i hi hi he
      go_wp2_with fail
      go_ret
      exact ⟨ret_int (by rw [HB.out]), rfl⟩
    · obtain ⟨b, o, hAe, hbB, hc⟩ := HA.out (by omega)
      subst hAe
      have hcell := hc j _ (strsV_at l j hjl)
      clear hc
      obtain ⟨y, hye⟩ : ∃ y, l[j] = y := ⟨_, rfl⟩
      rw [hye] at hcell
      by_cases hxy : y = x
      · have HB : Hid (refI l x = j) := by
          show _ = _
          have hm : x ∈ l := by rw [← hxy, ← hye]; exact List.getElem_mem hjl
          unfold refI
          rw [if_pos hm]
          have h1 := idx_lt hm
          have h2 := idx_at hm
          rcases Nat.lt_trichotomy (idx l x) j with h | h | h
          · exact absurd h2 (HALL.out _ h1 h)
          · omega
          · exfalso
            have := List.not_of_lt_findIdx (p := fun y => decide (y = x)) (xs := l) h
            simp [hye, hxy] at this
        clear hye
        subst hxy
        have heq : (y == y) = true := beq_self_eq_true y
        go_wp2_with fail
        go_ret
        exact ⟨ret_int (by rw [HB.out]), rfl⟩
      · have hne : (y == x) = false := by rw [beq_eq_false_iff_ne]; exact hxy
        have HN : Hid (∀ i (hi : i < l.length), i < j + 1 → l[i] ≠ x) := fun i hi h => by
          rcases Nat.lt_or_ge i j with h2 | h2
          · exact HALL.out i hi h2
          · obtain rfl : i = j := by omega
            rw [hye]; exact hxy
        clear hye hxy
        go_wp2_with fail
        go_roundw
        case rel => exact ⟨j + 1, by omega, by go_num, HN.out, trivial⟩
        case measure => first | (simp [intOf]; done) | (simp [intOf]; omega)

theorem find_ref {w : World} {v : Value} {l : Row} (hv : Strs w w.heap.size v l) (hl : l.length ≤ 100000) (x : List UInt8) :
    Calls Try.prog 14 #[v, str x] w fun e w' => e = .returned (.int .i64 (refI l x)) ∧ Below w.heap.size w w' :=
  (find_ref0 hv hl x).mono fun _ _ ⟨h1, h2⟩ => ⟨h1, h2 ▸ Below.refl _ _⟩
theorem strs_len {w : World} {B : Nat} {v : Value} {l : Row} (h : Strs w B v l) : ∃ A c, v = .slice A l.length c ∧ l.length ≤ c ∧ c ≤ maxLen := by
  obtain ⟨A, c, e, h1, h2, -⟩ := h
  exact ⟨A, c, e, h1, h2⟩
set_option maxHeartbeats 400000 in
theorem put_ref2 {w : World} {v : Value} {l : Row} (hv : Strs w w.heap.size v l) (hl : l.length ≤ 10000) (x : List UInt8) :
    Calls Try.prog 12 #[v, str x] w (Rets fun v' w' => Strs w' w'.heap.size v' (putL l x) ∧ Below w.heap.size w w' ∧ (v' = v ∨ ∀ a n c, v' = .slice (some a) n c → w.heap.size ≤ a.block)) := by
  obtain ⟨i0, hi, hz0, hz1, hz2⟩ := info_parts infoStr
  have HF := Lib.hid (find_ref hv (by omega) x)
  have HV := Lib.hid hv
  obtain ⟨A, c, rfl, hlc, hcm⟩ := strs_len hv
  unfold maxLen at hcm
  clear hv
  by_cases hm : x ∈ l
  · have HP : Hid (putL l x = l) := by show _ = _; unfold putL; rw [if_pos hm]
    have hge : 0 ≤ refI l x := by unfold refI; rw [if_pos hm]; omega
    have hle : refI l x ≤ 100000 := by unfold refI; rw [if_pos hm]; have := idx_lt hm; omega
    generalize refI l x = z at *
    clear hm
    go_enter Try.func12, Try.ntmps12
    go_wp2_with fail
    refine HF.out.mono ?_
    rintro e w1 ⟨rfl, hb1⟩
    go_wp2_with fail
    go_ret
    exact ⟨_, rfl, by rw [HP.out]; exact (HV.out.below hb1).more hb1.size, hb1, .inl rfl⟩
  · have HP : Hid (putL l x = l ++ [x]) := by show _ = _; unfold putL; rw [if_neg hm]
    have hneg : refI l x = -1 := by unfold refI; rw [if_neg hm]
    rw [hneg] at HF
    clear hm hneg
    go_enter Try.func12, Try.ntmps12
    go_wp2_with fail
    refine HF.out.mono ?_
    rintro e w1 ⟨rfl, hb1⟩
    have hs1 := hb1.size
    have tok1 : True := trivial
    go_wp2_with (first
      | (at_builtin; have _t := tok1; refine wpList_append_sl rfl _ _ 22 rfl w.heap.size 9 i0 (.string ⟨#[]⟩) 1 16 Try.underlying22 hi hz0 hz1 hz2 rfl (by decide) (.slice none 0 0) 0 [] rfl (World.ownsRow_nil _ _ _ _) (.slice A l.length c) w.heap.size l.length (strsV l) rfl (Sl.below HV.out hb1) (strsV_one l) (by unfold maxLen; omega) (by omega) hs1 ?_; intro v2 w2 hown hgrow; clear tok1; rw [Nat.zero_add, List.nil_append] at hown; have hb2 : Below w.heap.size w w2 := hb1.grown hgrow hs1 (fun g e => by simp [Value.ownBlock] at e); have hs2 := hb2.size)
      | (at_builtin; refine wpList_append_own _ rfl _ _ 22 rfl w.heap.size 9 i0 (.string ⟨#[]⟩) 1 16 Try.underlying22 hi hz0 hz1 hz2 rfl (by decide) v2 l.length (strsV l) rfl (hown.alloc _) ⟨w2.heap.size, 0, none⟩ 1 1 [str x] rfl rfl (cell_one_new _ _ _) (by simp [Value.oneCell']) (by unfold maxLen; omega) (by omega) (by simp; omega) ?_; intro v3 w3 hown3 hgrow3 _))
    go_ret
    refine ⟨_, rfl, ?_, (hb2.alloc hs2 _).grown hgrow3 (by simp; omega) (fun g e => (hown.lt g e).1), .inr fun a n c e => by subst e; exact (hown3.lt _ rfl).1⟩
    rw [HP.out]
    refine strs_of_own (base := w.heap.size) (e := 9) ?_
    rw [strsV_append, List.length_append]
    exact hown3

theorem put_ref {w : World} {v : Value} {l : Row} (hv : Strs w w.heap.size v l) (hl : l.length ≤ 10000) (x : List UInt8) :
    Calls Try.prog 12 #[v, str x] w (Rets fun v' w' => Strs w' w'.heap.size v' (putL l x) ∧ Below w.heap.size w w') :=
  (put_ref2 hv hl x).mono fun _ _ ⟨u, h1, h2, h3, _⟩ => ⟨u, h1, h2, h3⟩

set_option maxHeartbeats 400000 in
theorem of_ref {w : World} {v : Value} {l : Row} (hv : Strs w w.heap.size v l) (hl : l.length ≤ 10000) :
    Calls Try.prog 18 #[v] w (Rets fun v' w' => Strs w' w'.heap.size v' (ofL l) ∧ Below w.heap.size w w') := by
  obtain ⟨A, c, rfl, hlc, hcm, -, hA⟩ := hv
  unfold maxLen at hcm
  have HA := Lib.hid hA
  clear hA
  go_enter Try.func18, Try.ntmps18
  go_wp2_with fail
  go_loopw [3, 4] (fun u i wr => ∃ j : Nat, j ≤ l.length ∧ i = .int .i64 j ∧ Strs wr wr.heap.size u (ofL (l.take j)) ∧ Below w.heap.size w wr) (fun _ i _ => l.length - (intOf i).toNat)
  case atStart => exact ⟨0, by omega, rfl, Sl.nil _ _ _, Below.refl _ _⟩
  case round =>
    obtain ⟨j, hj, rfl, hu, hbel⟩ := hrel
    have HU := Lib.hid hu
    clear hu
    rcases (show j = l.length ∨ j < l.length by omega) with hje | hjl
    · subst hje
      have hU := HU.out
      rw [List.take_length] at hU
      have HU2 := Lib.hid hU
      clear hU
      go_wp2_with fail
      go_ret
      exact ⟨_, rfl, HU2.out, hbel⟩
    · obtain ⟨b, o, hAe, hbB, hc⟩ := HA.out (by omega)
      subst hAe
      have hcell := (hbel.cell (p := ⟨b, o + j, none⟩) hbB).trans (hc j _ (strsV_at l j hjl))
      clear hc
      have hlen := ofL_len (l.take j)
      rw [List.length_take] at hlen
      have HS := Lib.hid (show ofL (l.take (j + 1)) = putL (ofL (l.take j)) l[j] by rw [List.take_succ_eq_append_getElem hjl, ofL_snoc])
      have HPUT := Lib.hid (put_ref HU.out (by omega) l[j])
      rw [← HS.out] at HPUT
      generalize l[j] = x at *
      go_wp2_with fail
      refine HPUT.out.mono ?_
      rintro e w2 ⟨v2, rfl, hv2, hb2⟩
      have HV2 := Lib.hid hv2
      have hbel2 := hbel.trans (hb2.mono hbel.size)
      clear hv2 hb2
      go_wp2_with fail
      go_roundw
      case rel => exact ⟨j + 1, by omega, by go_num, HV2.out, hbel2⟩
      case measure => first | (simp [intOf]; done) | (simp [intOf]; omega)
end Go.Proofs.Ytlkoddohplcmnaa
