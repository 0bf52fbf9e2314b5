/-
  Layer 11's reference walked: all firings.
-/
import Derived.Test.YtkdpflgkcnhoiaaDoorRefB
import Derived.Test.YtkdpflgkcnhoiaaDoorRefC
import Derived.Test.YtkdpflgkcnhoiaaDoorFSmall
namespace Go.Proofs.YtkdpflgkcnhoiaaDoor
open Go Go.RowKit Go.Shelf
set_option maxRecDepth 100000

/-- In the years that are asked small rules fire where their day is one of the month's. -/
theorem small_of {r : Rul} {y : Int} (hs : smallR r = true) (h1 : r.from_ ≤ y) (h2 : y ≤ r.to_) (h3 : y ≤ 2110) :
    ofB r y = decide (r.dn ≤ lenV y r.month) ∧ -1000000 ≤ inDay r.dk r.dw r.dn y r.month ∧ inDay r.dk r.dw r.dn y r.month ≤ 1000000 ∧ dayOkB r.dk r.dw r.dn = true ∧ 1900 ≤ y ∧ 1 ≤ r.month ∧ r.month ≤ 12 ∧ -172800 ≤ r.sec ∧ r.sec ≤ 259200 := by
  unfold smallR at hs
  rw [Bool.and_eq_true, decide_eq_true_eq] at hs
  obtain ⟨⟨a1, a2, a3, a4, a5, a6, a7, a8, a9⟩, hok⟩ := hs
  have hyv : -100000 ≤ yearV y ∧ yearV y ≤ 100000 := by unfold yearV; omega
  have hsv := startV_in y r.month
  have hlv := lenV_in (y := y) a4 a5
  have hok2 := hok
  unfold dayOkB at hok2
  rw [decide_eq_true_eq] at hok2
  have hd : -1000000 ≤ inDay r.dk r.dw r.dn y r.month ∧ inDay r.dk r.dw r.dn y r.month ≤ 1000000 := by
    unfold inDay
    split
    · unfold dayV; omega
    · split
      · unfold seekV dayV
        rw [if_pos rfl]
        omega
      · unfold seekV dayV
        rw [if_neg (by decide)]
        split <;> omega
  have e1 : mayB r.sec = true := by unfold mayB; rw [decide_eq_true_eq]; omega
  have e2 : ofInB (inDay r.dk r.dw r.dn y r.month) = true := by unfold ofInB; rw [decide_eq_true_eq]; omega
  have e3 : ymB y r.month = true := by unfold ymB; rw [decide_eq_true_eq]; omega
  refine ⟨?_, hd.1, hd.2, hok, by omega, a4, a5, a6, a7⟩
  unfold ofB inOkB inB
  rw [decide_eq_true (show r.from_ ≤ y ∧ y ≤ r.to_ from ⟨h1, h2⟩), hok, e1, e2, e3]
  simp
theorem map_f_append (A C : List FrI) (x : FrI) : (A ++ x :: C).map FrI.f = A.map FrI.f ++ x.f :: C.map FrI.f := by simp
set_option maxHeartbeats 4000000 in
theorem rall_any (w : World) (B : Nat) (v : Value) (l : List Rul) (a b : Int) (hv : Ruls w B v l) (hB : B ≤ w.heap.size) (hs : smallB l = true) (h2 : b ≤ 2110) (h1 : 1880 ≤ a) :
    Calls Tryd.prog 8 #[v, .int .i64 a, .int .i64 b] w fun e w' => ∃ u D, e = .returned u ∧ Stab Fir.nominal (genL l a b) (D.map FrI.f) ∧ (∀ y ∈ D, 0 ≤ y.i ∧ y.i < (l.length : Int)) ∧ Fris w' w'.heap.size u D ∧ Below w.heap.size w w' := by
  obtain ⟨A, c, rfl, hlc, hcm⟩ := hv.form
  unfold maxLen at hcm
  have HV := Lib.hid hv
  unfold smallB at hs
  rw [Bool.and_eq_true, decide_eq_true_eq, List.all_eq_true] at hs
  obtain ⟨hsm, hl⟩ := hs
  have HSM := Lib.hid (fun k (hk : k < l.length) => hsm l[k] (List.getElem_mem hk))
  clear hv hsm
  go_enter Tryd.func8, Tryd.ntmps8
  go_wp2_with fail
  go_loopw [7, 8] (fun u iv wr => ∃ k : Nat, ∃ D : List FrI, k ≤ l.length ∧ iv = .int .i64 k ∧ Stab Fir.nominal (genK l a b k) (D.map FrI.f) ∧ (∀ y ∈ D, 0 ≤ y.i ∧ y.i < (k : Int)) ∧ Fris wr wr.heap.size u D ∧ Below w.heap.size w wr) (fun _ iv _ => l.length - (intOf iv).toNat)
  case atStart => exact ⟨0, [], Nat.zero_le _, rfl, Stab.nil, fun y hy => by simp at hy, Sl.nil _ _ _, Below.refl _ _⟩
  case round =>
    obtain ⟨k, D, hk, rfl, hst, hdi, hfr, hbw⟩ := hrel
    have HST := Lib.hid hst
    have HDI := Lib.hid hdi
    have HFR := Lib.hid hfr
    have HBW := Lib.hid hbw
    have hws := hbw.size
    clear hst hdi hfr hbw
    by_cases hlt : k < l.length
    · have hd : decide ((k : Int) < (l.length : Int)) = true := decide_eq_true (by omega)
      obtain ⟨bb, o, c', e, hbb, hc⟩ := (HV.out.below (HBW.out.mono hB)).cells (by omega)
      cases e
      obtain ⟨c0, c1, c2, c3, c4, c5, c6, c7, c8, c9, c10⟩ := hc k hlt
      have hsmk := HSM.out k hlt
      have HNX := Lib.hid (genK_next l a b hlt)
      obtain ⟨r, hr⟩ : ∃ r, l[k] = r := ⟨_, rfl⟩
      rw [hr] at c0 c1 c2 c3 c4 c5 c6 c7 c8 c9 c10 HNX hsmk
      have HSK := Lib.hid hsmk
      have hgl : (genK l a b k).length ≤ 1500 := by
        have h5 := genL_len (l.take k) a b
        have h6 : (l.take k).length * (b + 1 - a).toNat ≤ 6 * 250 := Nat.mul_le_mul (by rw [List.length_take]; omega) (by omega)
        unfold genK
        omega
      obtain ⟨G, hG⟩ : ∃ G, genK l a b k = G := ⟨_, rfl⟩
      rw [hG] at HST HNX hgl
      have HRC := Lib.hid (genR_cut r a b)
      have hfr_ : 1900 ≤ r.from_ ∧ r.from_ ≤ 2100 := by
        unfold smallR at hsmk
        rw [Bool.and_eq_true, decide_eq_true_eq] at hsmk
        exact ⟨hsmk.1.1, hsmk.1.2.1⟩
      obtain ⟨y0, hy0⟩ : ∃ y0, max a r.from_ = y0 := ⟨_, rfl⟩
      obtain ⟨y1, hy1⟩ : ∃ y1, min b r.to_ = y1 := ⟨_, rfl⟩
      rw [hy0, hy1] at HRC
      have hya : a ≤ y0 := by omega
      have hyf : r.from_ ≤ y0 := by omega
      have hyb : y1 ≤ b := by omega
      clear hc hr hG hsmk
      go_wp2_with fail
      obtain ⟨W1, hW1⟩ : ∃ W, wr.alloc (.cells #[.string r.name, .int .i64 r.from_, .int .i64 r.to_, .int .i64 r.month, .int .i64 r.dk, .int .i64 r.dw, .int .i64 r.dn, .int .i64 r.sec, .int .i64 r.kind, .int .i64 r.save, .string r.letter] 46) = W := ⟨_, rfl⟩
      have HR1 := Lib.hid (show RulB W1 wr.heap.size r by rw [← hW1]; exact Blk.new wr _ _)
      have hb01 : Below wr.heap.size wr W1 := by rw [← hW1]; exact (Below.refl _ _).alloc (Nat.le_refl _) _
      have HF1 := Lib.hid (show Fris W1 W1.heap.size _ D from Sl.more (HFR.out.below hb01) hb01.size)
      have HB1 := Lib.hid (HBW.out.trans (hb01.mono hws))
      have hsz1 : wr.heap.size < W1.heap.size := by rw [← hW1]; simp
      rw [hW1]
      obtain ⟨BX, hBX⟩ : ∃ n, wr.heap.size = n := ⟨_, rfl⟩
      rw [hBX] at HR1 hsz1 hws ⊢
      have HY := Lib.hid (And.intro hy0 hy1)
      clear hW1 hb01 hy0 hy1 c0 c1 c2 c3 c4 c5 c6 c7 c8 c9 c10 HFR HBW
      go_loopw [7, 10] (fun u yv wi => ∃ y : Int, ∃ D : List FrI, yv = .int .i64 y ∧ y0 ≤ y ∧ (y ≤ y1 + 1 ∨ y = y0) ∧ Stab Fir.nominal (G ++ genR r y0 (y - 1)) (D.map FrI.f) ∧ (∀ z ∈ D, 0 ≤ z.i ∧ z.i ≤ (k : Int)) ∧ Fris wi wi.heap.size u D ∧ RulB wi BX r ∧ Below w.heap.size w wi) (fun _ yv _ => (y1 + 1 - intOf yv).toNat)
      case atStart => exact ⟨y0, D, rfl, Int.le_refl _, .inr rfl, by
        have e : genR r y0 (y0 - 1) = [] := by unfold genR; rw [yrs_nil (by omega)]; rfl
        rw [e, List.append_nil]
        exact HST.out, fun z hz => by have := HDI.out z hz; omega, HF1.out, HR1.out, HB1.out⟩
      case round =>
        clear HST HDI HF1
        obtain ⟨y, D, rfl, hy0, hy1, hst, hdi, hfr, hrb, hbw⟩ := hrel
        have HST := Lib.hid hst
        have HDI := Lib.hid hdi
        have HFR := Lib.hid hfr
        have HRB := Lib.hid hrb
        have HBI := Lib.hid hbw
        have hBl := Blk.lt hrb
        have hws2 := hbw.size
        have q0 := Blk.cell hrb 0 (v := .string r.name) rfl
        have q1 := Blk.cell hrb 1 (v := .int .i64 r.from_) rfl
        have q2 := Blk.cell hrb 2 (v := .int .i64 r.to_) rfl
        have q3 := Blk.cell hrb 3 (v := .int .i64 r.month) rfl
        have q4 := Blk.cell hrb 4 (v := .int .i64 r.dk) rfl
        have q5 := Blk.cell hrb 5 (v := .int .i64 r.dw) rfl
        have q6 := Blk.cell hrb 6 (v := .int .i64 r.dn) rfl
        have q7 := Blk.cell hrb 7 (v := .int .i64 r.sec) rfl
        have q8 := Blk.cell hrb 8 (v := .int .i64 r.kind) rfl
        have q9 := Blk.cell hrb 9 (v := .int .i64 r.save) rfl
        have q10 := Blk.cell hrb 10 (v := .string r.letter) rfl
        clear hst hdi hfr hrb hbw
        by_cases hyl : y ≤ b
        · have hd5 : decide (y ≤ b) = true := decide_eq_true hyl
          by_cases hyt : y ≤ r.to_
          · have hd6 : decide (y ≤ r.to_) = true := decide_eq_true hyt
            have hyy : y ≤ y1 := by have := HY.out.2; omega
            obtain ⟨hof, hd1, hd2, hok, hy19, hm1, hm2, hs1, hs2⟩ := small_of HSK.out (show r.from_ ≤ y by omega) hyt (by omega)
            have HD := Lib.hid (fun W => rday_any r.dk r.dw r.dn y r.month hok (by omega) (by omega) hm1 hm2 W)
            have HGN := Lib.hid (genR_next r hy0)
            by_cases hn : r.dn ≤ lenV y r.month
            · have hob : ofB r y = true := by rw [hof]; exact decide_eq_true hn
              unfold RDay at HD
              rw [if_pos hn] at HD
              rw [hob, if_pos rfl] at HGN
              unfold firOf at HGN
              generalize inDay r.dk r.dw r.dn y r.month = v at *
              rw [show v * 86400 = 86400 * v from Int.mul_comm _ _] at HGN
              have hgl2 : D.length ≤ 100000 := by
                have h5 := genR_len r y0 (y - 1)
                have h6 := HST.out.len
                rw [List.length_map, List.length_append] at h6
                omega
              have HSD := Lib.hid (show D.Pairwise (fun a b => a.f.nominal ≤ b.f.nominal) by have h := HST.out.2.1; rw [List.pairwise_map] at h; exact h)
              have HP := Lib.hid (fun (W : World) (h : Below wr.heap.size wr W) => put_any W wr.heap.size _ D ⟨⟨86400 * v + r.sec, r.kind, r.save, r.letter⟩, k⟩ (HFR.out.below h) h.size hgl2 (fun z hz => (HDI.out z hz).2) HSD.out)
              simp only [friA] at HP
              unfold dayA at HD
              have hv1 : -90000000000 ≤ 86400 * v ∧ 86400 * v ≤ 90000000000 := by omega
              clear hof hob hn hok
              go_wp2_with fail
              refine (HD.out _).mono ?_
              rintro e w2 ⟨rfl, hb⟩
              have HB2 := Lib.hid hb
              have HR2 := Lib.hid (Blk.below HRB.out hb (Blk.lt HRB.out))
              clear hb q0 q1 q2 q3 q4 q5 q6 q7 q8 q9 q10
              have q0 := Blk.cell HR2.out 0 (v := .string r.name) rfl
              have q1 := Blk.cell HR2.out 1 (v := .int .i64 r.from_) rfl
              have q2 := Blk.cell HR2.out 2 (v := .int .i64 r.to_) rfl
              have q3 := Blk.cell HR2.out 3 (v := .int .i64 r.month) rfl
              have q4 := Blk.cell HR2.out 4 (v := .int .i64 r.dk) rfl
              have q5 := Blk.cell HR2.out 5 (v := .int .i64 r.dw) rfl
              have q6 := Blk.cell HR2.out 6 (v := .int .i64 r.dn) rfl
              have q7 := Blk.cell HR2.out 7 (v := .int .i64 r.sec) rfl
              have q8 := Blk.cell HR2.out 8 (v := .int .i64 r.kind) rfl
              have q9 := Blk.cell HR2.out 9 (v := .int .i64 r.save) rfl
              have q10 := Blk.cell HR2.out 10 (v := .string r.letter) rfl
              go_wp2_with fail
              refine (HP.out _ HB2.out).mono ?_
              rintro e w3 ⟨u3, A3, C3, rfl, hD, hA, hC, hfr, hb⟩
              have HPP := Lib.hid (And.intro hD (And.intro hA (And.intro hC hfr)))
              have HB3 := Lib.hid (HB2.out.trans (hb.mono HB2.out.size))
              have HR3 := Lib.hid (Blk.below HR2.out hb (Blk.lt HR2.out))
              clear hD hA hC hfr hb
              go_wp2_with fail
              go_roundw
              case rel =>
                refine ⟨y + 1, _, by first | rfl | go_num, by omega, .inl (by omega), ?_, ?_, HPP.out.2.2.2, HR3.out, HBI.out.trans (HB3.out.mono HBI.out.size)⟩
                · have h := HST.out
                  rw [HPP.out.1, List.map_append] at h
                  rw [show y + 1 - 1 = y by omega, HGN.out, ← List.append_assoc, map_f_append]
                  exact h.put (fun f hf => by obtain ⟨z, hz, rfl⟩ := List.mem_map.1 hf; exact HPP.out.2.1 z hz) (fun f hf => by obtain ⟨z, hz, rfl⟩ := List.mem_map.1 hf; exact HPP.out.2.2.1 z hz)
                · intro z hz
                  have hD := HPP.out.1
                  rcases List.mem_append.1 hz with hz | hz
                  · exact HDI.out z (by rw [hD]; exact List.mem_append_left _ hz)
                  · rcases List.mem_cons.1 hz with rfl | hz
                    · exact ⟨by simp, Int.le_refl _⟩
                    · exact HDI.out z (by rw [hD]; exact List.mem_append_right _ hz)
              case measure => simp [intOf]; omega
            · have hob : ofB r y = false := by rw [hof]; exact decide_eq_false hn
              unfold RDay at HD
              rw [if_neg hn] at HD
              rw [hob, if_neg (by decide), List.append_nil] at HGN
              unfold dayA at HD
              clear hof hob hn hok hd1 hd2
              go_wp2_with fail
              refine (HD.out _).mono ?_
              rintro e w2 ⟨rfl, hb⟩
              have HB2 := Lib.hid hb
              have HR2 := Lib.hid (Blk.below HRB.out hb (Blk.lt HRB.out))
              clear hb q0 q1 q2 q3 q4 q5 q6 q7 q8 q9 q10
              go_wp2_with fail
              go_roundw
              case rel => exact ⟨y + 1, D, by first | rfl | go_num, by omega, .inl (by omega), by rw [show y + 1 - 1 = y by omega, HGN.out]; exact HST.out, HDI.out, Sl.more (HFR.out.below HB2.out) HB2.out.size, HR2.out, HBI.out.trans (HB2.out.mono HBI.out.size)⟩
              case measure => simp [intOf]; omega
          · have hd6 : decide (y ≤ r.to_) = false := decide_eq_false hyt
            have HE := Lib.hid (show G ++ genR r y0 (y - 1) = G ++ genR r a b by
              rw [HRC.out]
              have e := HY.out.2
              rcases hy1 with h | h
              · rw [show y - 1 = y1 by omega]
              · unfold genR
                rw [yrs_nil (show y - 1 < y0 by omega), yrs_nil (show y1 < y0 by omega)])
            go_wp2_with fail
            go_roundw
            case rel => exact ⟨k + 1, D, by omega, by go_num, by rw [HNX.out, ← HE.out]; exact HST.out, fun y hy => by have := HDI.out y hy; omega, HFR.out, HBI.out⟩
            case measure => simp [intOf]; omega
        · have hd5 : decide (y ≤ b) = false := decide_eq_false hyl
          have HE := Lib.hid (show G ++ genR r y0 (y - 1) = G ++ genR r a b by
            rw [HRC.out]
            have e := HY.out.2
            rcases hy1 with h | h
            · rw [show y - 1 = y1 by omega]
            · unfold genR
              rw [yrs_nil (show y - 1 < y0 by omega), yrs_nil (show y1 < y0 by omega)])
          go_wp2_with fail
          go_roundw
          case rel => exact ⟨k + 1, D, by omega, by go_num, by rw [HNX.out, ← HE.out]; exact HST.out, fun y hy => by have := HDI.out y hy; omega, HFR.out, HBI.out⟩
          case measure => simp [intOf]; omega
    · obtain rfl : k = l.length := by omega
      have hd : decide ((l.length : Int) < (l.length : Int)) = false := decide_eq_false (by omega)
      have HG := Lib.hid (show genK l a b l.length = genL l a b by unfold genK; rw [List.take_length])
      rw [HG.out] at HST
      go_wp2_with fail
      go_ret
      exact ⟨_, D, rfl, HST.out, HDI.out, HFR.out, HBW.out⟩
end Go.Proofs.YtkdpflgkcnhoiaaDoor
