/-
  Layer 17: the law PoolPuts, walked.
-/
import Derived.Lib.MinMax
import Derived.Test.YtlkoddohplcmnaaPoolH
namespace Go.Proofs.Ytlkoddohplcmnaa
open Go Go.RowKit Go.Maps Go.WideMaps

/-- A row of texts that is not in T. -/
def Out (T : Nat → Prop) (v : Value) : Prop := ∀ a n c, v = .slice (some a) n c → 0 < n → ¬ T a.block
theorem Out.keep {T : Nat → Prop} {w w' : World} {v : Value} {l : Row} (h : Out T v) (hv : Strs w w.heap.size v l) (ht : Turned T w w') : Strs w' w'.heap.size v l := by
  obtain ⟨A, c, rfl, h1, h2, h3, h4⟩ := hv
  refine ⟨A, c, rfl, h1, h2, h3, fun hp => ?_⟩
  obtain ⟨b, o, rfl, hb, hc⟩ := h4 hp
  exact ⟨b, o, rfl, Nat.lt_of_lt_of_le hb ht.size, fun j u hj => (World.cell?_of_block (a := ⟨b, o + j, none⟩) (ht.block b hb (h _ _ _ rfl hp))).trans (hc j u hj)⟩
theorem Out.wider {T : Nat → Prop} {w : World} {v : Value} {l : Row} (h : Out T v) (hv : Strs w w.heap.size v l) : Out (Wider T w) v := by
  obtain ⟨A, c, rfl, h1, h2, h3, h4⟩ := hv
  intro a n c' e hp
  cases e
  obtain ⟨b, o, e, hb, hc⟩ := h4 hp
  cases e
  exact fun hw => hw.elim (h _ _ _ rfl hp) (fun h => by have h' : w.heap.size ≤ b := h; omega)
theorem Out.ref {T : Nat → Prop} {w : World} {v v' : Value} (h : Out T v) (hv : v' = v ∨ ∀ a n c, v' = .slice (some a) n c → w.heap.size ≤ a.block) : Out (fun k => T k ∧ k < w.heap.size) v' := by
  rcases hv with rfl | hv
  · exact fun a n c e hp ht => h a n c e hp ht.1
  · exact fun a n c e hp ht => by have := hv a n c e; omega
theorem find_cases (row : Row) (x : List UInt8) : ∃ m z : Int, findI row x = m ∧ refI row x = z ∧ max 0 z = m ∧ (m = 0 ∨ 0 < m) ∧ m ≤ row.length ∧ ((findB row x = true ∧ 0 ≤ z) ∨ (findB row x = false ∧ z < 0)) := by
  unfold findB findI refI
  by_cases h : x ∈ row
  · have := idx_lt h
    exact ⟨idx row x, idx row x, by rw [if_pos h], by rw [if_pos h], by omega, by omega, by omega, .inl ⟨by simp [h], by omega⟩⟩
  · exact ⟨0, -1, by rw [if_neg h], by rw [if_neg h], by omega, by omega, by omega, .inr ⟨by simp [h], by omega⟩⟩
theorem fewB_spec {l : Row} (h : fewB l = true) : l.length ≤ 60 ∧ ∀ x ∈ l, x.length ≤ 60 := by
  unfold fewB at h
  simp only [Bool.and_eq_true, List.all_eq_true, decide_eq_true_eq] at h
  exact ⟨h.2, h.1⟩

set_option maxRecDepth 10000 in
set_option maxHeartbeats 2000000 in
theorem puts_walk (w : World) (v : Value) (l : Row) (x : List UInt8) (hv : Strs w w.heap.size v l) (hxs : ∀ y ∈ l, y.length ≤ maxLen) (hx : x.length ≤ maxLen) :
    Calls Try.prog 3 #[v, str x] w fun e w' => e = .returned (.bool true) ∧ Below w.heap.size w w' := by
  have HFEW := Lib.hid (few_any hv hxs)
  have HV := Lib.hid hv
  have HXS := Lib.hid hxs
  obtain ⟨A, c, rfl, hlc, hcm⟩ := strs_len hv
  have hxm := hx
  unfold maxLen at hcm hxm
  clear hv hxs
  rcases Bool.eq_false_or_eq_true (fewB l) with hf | hf
  · have HFS := Lib.hid (fewB_spec hf)
    rw [hf] at HFEW
    by_cases h60 : 60 < x.length
    · go_enter Try.func3, Try.ntmps3
      go_wp2_with fail
      refine HFEW.out.mono ?_
      rintro e w1 ⟨rfl, hb1⟩
      go_wp2_with fail
      refine (awake_walk _).mono ?_
      rintro e w2 ⟨rfl, hb2⟩
      go_wp2_with fail
      go_ret
      exact ⟨rfl, hb1.trans (hb2.mono hb1.size)⟩
    · have hl60 := HFS.out.1
      go_enter Try.func3, Try.ntmps3
      go_wp2_with fail
      refine HFEW.out.mono ?_
      rintro e w1 ⟨rfl, hb1⟩
      go_wp2_with fail
      refine (new_any (l := []) (Sl.nil _ _ _) (by simp) (by simp)).mono ?_
      rintro e w2 ⟨pb, rfl, hp2, hb2⟩
      have HP2 := Lib.hid (hp2.wider (T' := From w.heap.size) (fun k hk => Nat.le_trans hb1.size hk))
      have HB2 := Lib.hid (hb1.trans (hb2.mono hb1.size))
      clear hp2 hb2
      go_wp2_with fail
      go_loopw [6, 7] (fun u i wr => ∃ (j : Nat) (T : Nat → Prop), j ≤ l.length ∧ i = .int .i64 j ∧ Strs wr wr.heap.size u (ofL (l.take j)) ∧ PoolAt wr T pb (ofL (l.take j)) ∧ Out T u ∧ (∀ k, T k → w.heap.size ≤ k) ∧ Below w.heap.size w wr) (fun _ i _ => l.length - (intOf i).toNat)
      case atStart => exact ⟨0, From w.heap.size, by omega, rfl, Sl.nil _ _ _, HP2.out, (by intro a n c e; cases e), fun k hk => hk, HB2.out⟩
      case round =>
        obtain ⟨j, T, hj, rfl, hu, hp, hout, hTw, hbel⟩ := hrel
        have HU := Lib.hid hu
        have HP := Lib.hid hp
        have HO := Lib.hid hout
        have HTW := Lib.hid hTw
        clear hu hp hout hTw HP2 HB2
        have hlen := ofL_len (l.take j)
        rw [List.length_take] at hlen
        rcases (show j = l.length ∨ j < l.length by omega) with hje | hjl
        · subst hje
          have hU := HU.out
          have hP := HP.out
          rw [List.take_length] at hU hP hlen
          have HU2 := Lib.hid hU
          have HP2 := Lib.hid hP
          have HF := Lib.hid (find_any hP x hx)
          obtain ⟨Au, cu, rfl, -, -⟩ := strs_len hU
          have HR := Lib.hid (find_ref hU (by omega) x)
          have HN := Lib.hid (fun wn (hb : Below w.heap.size w wn) => new_any ((HV.out.below hb).more hb.size) HXS.out (by omega))
          have hlen' : (ofL l).length ≤ 60 := by omega
          clear hlen
          clear hU hP HU HP
          obtain ⟨m, z, e2, e3, hmz, -, hml, hz⟩ := find_cases (ofL l) x
          rcases hz with ⟨e1, hz⟩ | ⟨e1, hz⟩
          all_goals
            rw [e1, e2] at HF
            rw [e3] at HR
            clear e1 e2 e3
            go_wp2_with fail
            refine HF.out.mono ?_
            rintro e w3 ⟨rfl, rfl⟩
            go_wp2_with fail
            refine HR.out.mono ?_
            rintro e w4 ⟨rfl, hb4⟩
            have hbel4 := hbel.trans (hb4.mono hbel.size)
            go_wp2_with fail
            refine (HN.out _ hbel4).mono ?_
            rintro e w5 ⟨qb, rfl, hp5, hb5⟩
            have HP5 := Lib.hid hp5
            have hbel5 := hbel4.trans (hb5.mono hbel4.size)
            have HU5 := Lib.hid ((HU2.out.below (hb4.trans (hb5.mono hb4.size))).more (hb4.trans (hb5.mono hb4.size)).size)
            clear hp5
            go_wp2_with fail
            refine (same_is HP5.out HU5.out).mono ?_
            rintro e w6 ⟨rfl, hb6⟩
            have hbel6 := hbel5.trans (hb6.mono hbel5.size)
            go_wp2_with fail
            refine (awake_walk _).mono ?_
            rintro e w7 ⟨rfl, hb7⟩
            go_wp2_with fail
            go_ret
            exact ⟨by first | rfl | exact ret_bool (by simp; omega), hbel6.trans (hb7.mono hbel6.size)⟩
        · obtain ⟨b, o, c', hAe, hbB, hc⟩ := HV.out.at_ (by omega)
          cases hAe
          have hc0 := hc j _ (strsV_at l j hjl)
          have hcell := (hbel.cell (p := ⟨b, o + j, none⟩) hbB).trans hc0
          have HS := Lib.hid (show ofL (l.take (j + 1)) = putL (ofL (l.take j)) l[j] by rw [List.take_succ_eq_append_getElem hjl, ofL_snoc])
          have hxj := HXS.out _ (List.getElem_mem hjl)
          have HPUT := Lib.hid (put_ref2 HU.out (by omega) l[j])
          have HRI : Hid (refI (putL (ofL (l.take j)) l[j]) l[j] = (idx (putL (ofL (l.take j)) l[j]) l[j] : Nat)) := by
            show _ = _
            unfold refI
            rw [if_pos (mem_putL _ _)]
          have hlen1 := putL_len (ofL (l.take j)) l[j]
          rw [← HS.out] at HPUT hlen1 HRI
          clear hc
          generalize l[j] = y at *
          go_wp2_with fail
          refine HPUT.out.mono ?_
          rintro e w3 ⟨v3, rfl, hv3, hb3, ho3⟩
          have hbel3 := hbel.trans (hb3.mono hbel.size)
          have hcell3 := (hbel3.cell (p := ⟨b, o + j, none⟩) hbB).trans hc0
          have HO3 := Lib.hid (HO.out.ref ho3)
          have HPA := Lib.hid (put_any (HP.out.bound.later hb3) y hxj (by omega))
          rw [← HS.out] at HPA
          have HV3 := Lib.hid hv3
          obtain ⟨A3, c3, rfl, -, -⟩ := strs_len hv3
          clear hv3 ho3 HPUT
          go_wp2_with fail
          refine HPA.out.mono ?_
          rintro e w4 ⟨rfl, hp4, ht4⟩
          have hbel4 := hbel3.trans ((ht4.mono (T' := From w.heap.size) (fun k hk => HTW.out k hk.1)).below hbel3.size)
          have hcell4 := (hbel4.cell (p := ⟨b, o + j, none⟩) hbB).trans hc0
          have HV4 := Lib.hid (HO3.out.keep HV3.out ht4)
          have HO4 := Lib.hid (HO3.out.wider HV3.out)
          have HP4 := Lib.hid hp4
          have HR := Lib.hid (find_ref HV4.out (by omega) y)
          rw [HRI.out] at HR
          have hs3 := hb3.size
          clear hp4 ht4 HPA
          go_wp2_with fail
          refine HR.out.mono ?_
          rintro e w5 ⟨rfl, hb5⟩
          have hbel5 := hbel4.trans (hb5.mono hbel4.size)
          have HP5 := Lib.hid (HP4.out.later hb5)
          have HV5 := Lib.hid ((HV4.out.below hb5).more hb5.size)
          go_wp2_with fail
          refine (same_is HP5.out HV5.out).mono ?_
          rintro e w6 ⟨rfl, hb6⟩
          have hbel6 := hbel5.trans (hb6.mono hbel5.size)
          have HP6 := Lib.hid (HP5.out.later hb6)
          have HV6 := Lib.hid ((HV5.out.below hb6).more hb6.size)
          go_wp2_with fail
          go_roundw
          case rel => exact ⟨j + 1, _, by omega, by go_num, HV6.out, HP6.out, HO4.out, fun k hk => hk.elim (fun h => HTW.out k h.1) (fun h => Nat.le_trans hbel3.size h), hbel6⟩
          case measure => first | (simp [intOf]; done) | (simp [intOf]; omega)
  · rw [hf] at HFEW
    go_enter Try.func3, Try.ntmps3
    go_wp2_with fail
    refine HFEW.out.mono ?_
    rintro e w1 ⟨rfl, hb1⟩
    go_wp2_with fail
    refine (awake_walk _).mono ?_
    rintro e w2 ⟨rfl, hb2⟩
    go_wp2_with fail
    go_ret
    exact ⟨rfl, hb1.trans (hb2.mono hb1.size)⟩
end Go.Proofs.Ytlkoddohplcmnaa
