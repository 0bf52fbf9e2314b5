/-
  Layer 11 walked: all firings of rules in some years.
-/
import Derived.Test.YtkdpflgkcnhoiaaDoorFRules
import Derived.Test.YtkdpflgkcnhoiaaDoorFSortD
import Derived.Test.YtkdpflgkcnhoiaaDoorAppend
import Derived.Maps.AppendAt
import Derived.Lib.MinMax
namespace Go.Proofs.YtkdpflgkcnhoiaaDoor
open Go Go.RowKit Go.Shelf
set_option maxRecDepth 100000

theorem info_parts {P : Program} {t : TypeId} {z : Value} {a b : Nat} (h : (P.info? t).map (fun i => (i.zero, i.size, i.bytes)) = some (some z, a, b)) : ∃ i, P.info? t = some i ∧ i.zero = some z ∧ i.size = a ∧ i.bytes = b := by
  cases hi : P.info? t with
  | none => rw [hi] at h; simp at h
  | some i =>
    rw [hi] at h
    simp only [Option.map_some, Option.some.injEq, Prod.mk.injEq] at h
    exact ⟨i, rfl, h.1, h.2.1, h.2.2⟩
theorem infoFir : (Tryd.prog.info? 31).map (fun i => (i.zero, i.size, i.bytes)) = some (some (.agg #[.int .i64 0, .int .i64 0, .int .i64 0, .string ⟨#[]⟩]), 4, 40) := by kernel_rfl
theorem cell_new2 (w : World) (o : Obj) (C : Array Value) (t : TypeId) (fr : Nat × Nat) (i : Nat) : ((w.alloc o).alloc (.cells C t fr)).cell? ⟨w.heap.size + 1, i, none⟩ = C[i]? := by
  have := cell_new (w.alloc o) C t fr i
  rwa [World.size_alloc] at this
theorem ownsRow_below {w W : World} {base : Nat} {e : TypeId} {sz n : Nat} {v : Value} {xs : List Value} (h : w.ownsRow base e sz v n xs) (hb : Below w.heap.size w W) : W.ownsRow base e sz v n xs := (Fr.of_below (T := fun _ => False) hb (Nat.le_refl _)).own h (fun _ _ h => h)
/-- The firings so far: of the rules ahead, and of the k-th one in the years from a on, ahead of y. -/
def genK (l : List Rul) (a b : Int) (k : Nat) : List Fir := genL (l.take k) a b
theorem genK_next (l : List Rul) (a b : Int) {k : Nat} (hk : k < l.length) : genK l a b (k + 1) = genK l a b k ++ genR l[k] a b := by
  unfold genK genL
  rw [List.take_succ_eq_append_getElem hk, List.flatMap_append]
  simp
theorem genR_next (r : Rul) {a y : Int} (h : a ≤ y) : genR r a y = genR r a (y - 1) ++ if ofB r y then [firOf r y] else [] := by
  rw [genR_split r (show a ≤ y - 1 + 1 by omega) (show y - 1 ≤ y by omega), show y - 1 + 1 = y by omega]
  congr 1
  unfold genR yrs
  rw [show (y + 1 - y).toNat = 1 by omega]
  simp
  split <;> simp_all
theorem insertion_nil (w : World) : Calls Tryd.prog 40 #[.slice none 0 0, .int .i64 0, .int .i64 0, .func (.func 15) #[] #[]] w fun e w' => e = .returned (.tuple #[]) ∧ Below w.heap.size w w' := by
  go_enter Tryd.func40, Tryd.ntmps40
  go_wp2_with fail
  refine wp_loop_rounds 1 ?_
  rw [rounds_succ]
  go_wp2_with fail
  go_end0
  exact ⟨rfl, Below.refl _ _⟩
theorem sortStable_nil (w : World) : Calls Tryd.prog 14 #[.slice none 0 0, .func (.func 15) #[] #[]] w fun e w' => e = .returned (.tuple #[]) ∧ Below w.heap.size w w' := by
  have HI := Lib.hid (fun w => insertion_nil w)
  have HS := Lib.hid (show Calls Tryd.prog 27 #[.slice none 0 0, .int .i64 0, .func (.func 15) #[] #[]] w fun e w' => e = .returned (.tuple #[]) ∧ Below w.heap.size w w' by
    go_enter Tryd.func27, Tryd.ntmps27
    go_wp2_with fail
    refine wp_loop_rounds 1 ?_
    rw [rounds_succ]
    go_wp2_with fail
    refine (HI.out _).mono ?_
    rintro e w1 ⟨rfl, hb⟩
    have HB := Lib.hid hb
    clear hb
    go_wp2_with fail
    refine wp_loop_rounds 1 ?_
    rw [rounds_succ]
    go_wp2_with fail
    go_end0
    exact ⟨rfl, HB.out⟩)
  go_enter Tryd.func14, Tryd.ntmps14
  go_wp2_with fail
  refine HS.out.mono ?_
  rintro e w1 ⟨rfl, hb⟩
  have HB := Lib.hid hb
  clear hb
  go_wp2_with fail
  go_end0
  exact ⟨rfl, HB.out⟩
set_option maxHeartbeats 4000000 in
theorem fin_any (w : World) (B : Nat) (v : Value) (l : List Rul) (a b : Int) (ha : Ahead w) (hv : Ruls w B v l) (hB : B ≤ w.heap.size) (hl : l.length ≤ 100) (h1 : -100000 ≤ a) (h2 : b ≤ 100000) (h3 : a ≤ b) (h4 : b < a + 4000) :
    Calls Tryd.prog 7 #[v, .int .i64 a, .int .i64 b] w fun e w' => ∃ u M, e = .returned (.tuple #[u, .int .i64 0]) ∧ Stab Fir.nominal (genL l a b) M ∧ w'.ownsRow w.heap.size 31 4 u M.length (firsV M) ∧ Below w.heap.size w w' := by
  obtain ⟨i0, hi, hz0, hz1, hz2⟩ := info_parts infoFir
  obtain ⟨A, c, rfl, hlc, hcm⟩ := hv.form
  unfold maxLen at hcm
  have HV := Lib.hid hv
  have HA := Lib.hid ha
  have hd0 : decide (b < a) = false := decide_eq_false (by omega)
  have hd1 : decide (a < -100000) = false := decide_eq_false (by omega)
  have hd2 : decide (100000 < b) = false := decide_eq_false (by omega)
  have hd3 : decide (a + 4000 ≤ b) = false := decide_eq_false (by omega)
  clear hv ha
  go_enter Tryd.func7, Tryd.ntmps7
  go_wp2_with fail
  go_loopw [8, 33] (fun u iv wr => ∃ k : Nat, k ≤ l.length ∧ iv = .int .i64 k ∧ wr.ownsRow w.heap.size 31 4 u (genK l a b k).length (firsV (genK l a b k)) ∧ Below w.heap.size w wr) (fun _ iv _ => l.length - (intOf iv).toNat)
  case atStart => exact ⟨0, Nat.zero_le _, rfl, World.ownsRow_nil _ _ _ _, Below.refl _ _⟩
  case round =>
    obtain ⟨k, hk, rfl, hown, hbw⟩ := hrel
    have HOW := Lib.hid hown
    have HBW := Lib.hid hbw
    have hws := hbw.size
    clear hown hbw
    by_cases hlt : k < l.length
    · have hd : decide ((k : Int) < (l.length : Int)) = true := decide_eq_true (by omega)
      obtain ⟨bb, o, c', e, hbb, hc⟩ := (HV.out.below (HBW.out.mono hB)).cells (by omega)
      cases e
      obtain ⟨c0, c1, c2, c3, c4, c5, c6, c7, c8, c9, c10⟩ := hc k hlt
      obtain ⟨r, hr⟩ : ∃ r, l[k] = r := ⟨_, rfl⟩
      rw [hr] at c0 c1 c2 c3 c4 c5 c6 c7 c8 c9 c10
      have HNX := Lib.hid (genK_next l a b hlt)
      rw [hr] at HNX
      have hgl : (genK l a b k).length ≤ 400000 := by
        have h5 := genL_len (l.take k) a b
        have h6 : (l.take k).length * (b + 1 - a).toNat ≤ 100 * 4000 := Nat.mul_le_mul (by rw [List.length_take]; omega) (by omega)
        unfold genK
        omega
      obtain ⟨G, hG⟩ : ∃ G, genK l a b k = G := ⟨_, rfl⟩
      rw [hG] at HOW HNX hgl
      have HRC := Lib.hid (genR_cut r a b)
      obtain ⟨y0, hy0⟩ : ∃ y0, max a r.from_ = y0 := ⟨_, rfl⟩
      obtain ⟨y1, hy1⟩ : ∃ y1, min b r.to_ = y1 := ⟨_, rfl⟩
      rw [hy0, hy1] at HRC
      have hya : a ≤ y0 := by omega
      have hyb : y1 ≤ b := by omega
      clear hc hr hG
      go_wp2_with fail
      obtain ⟨W1, hW1⟩ : ∃ W, wr.alloc (.cells #[.string r.name, .int .i64 r.from_, .int .i64 r.to_, .int .i64 r.month, .int .i64 r.dk, .int .i64 r.dw, .int .i64 r.dn, .int .i64 r.sec, .int .i64 r.kind, .int .i64 r.save, .string r.letter] 46) = W := ⟨_, rfl⟩
      have HR1 := Lib.hid (show RulB W1 wr.heap.size r by rw [← hW1]; exact Blk.new wr _ _)
      have HO1 := Lib.hid (HOW.out.alloc (.cells #[.string r.name, .int .i64 r.from_, .int .i64 r.to_, .int .i64 r.month, .int .i64 r.dk, .int .i64 r.dw, .int .i64 r.dn, .int .i64 r.sec, .int .i64 r.kind, .int .i64 r.save, .string r.letter] 46))
      have HB1 := Lib.hid (show Below w.heap.size w W1 by rw [← hW1]; exact HBW.out.alloc hws _)
      have HOB := Lib.hid (fun g e => show g ≠ wr.heap.size by have := (HOW.out.lt g e).2; omega)
      have hsz1 : wr.heap.size < W1.heap.size := by rw [← hW1]; simp
      rw [hW1] at HO1 ⊢
      obtain ⟨BX, hBX⟩ : ∃ n, wr.heap.size = n := ⟨_, rfl⟩
      rw [hBX] at HR1 HOB hsz1 hws ⊢
      have HY := Lib.hid (And.intro hy0 hy1)
      clear hW1 hy0 hy1 c0 c1 c2 c3 c4 c5 c6 c7 c8 c9 c10 HOW HBW hBX
      go_loopw [8, 11] (fun u yv wi => ∃ y : Int, yv = .int .i64 y ∧ y0 ≤ y ∧ (y ≤ y1 + 1 ∨ y = y0) ∧ wi.ownsRow w.heap.size 31 4 u (G ++ genR r y0 (y - 1)).length (firsV (G ++ genR r y0 (y - 1))) ∧ (∀ g, u.ownBlock = some g → g ≠ BX) ∧ RulB wi BX r ∧ Below w.heap.size w wi) (fun _ yv _ => (y1 + 1 - intOf yv).toNat)
      case atStart => exact ⟨y0, rfl, Int.le_refl _, .inr rfl, by
        have e : genR r y0 (y0 - 1) = [] := by unfold genR; rw [yrs_nil (by omega)]; rfl
        rw [e, List.append_nil]
        exact HO1.out, HOB.out, HR1.out, HB1.out⟩
      case round =>
        obtain ⟨y, rfl, hy0, hy1, hown, hob, hrb, hbw⟩ := hrel
        have HOI := Lib.hid hown
        have HOX := Lib.hid hob
        have HRB := Lib.hid hrb
        have HBI := Lib.hid hbw
        have hBl := Blk.lt hrb
        have hws2 := hbw.size
        have q0 := Blk.cell hrb 0 (v := .string r.name) rfl
        have q1 := Blk.cell hrb 1 (v := .int .i64 r.from_) rfl
        have q2 := Blk.cell hrb 2 (v := .int .i64 r.to_) rfl
        have q3 := Blk.cell hrb 3 (v := .int .i64 r.month) rfl
        have q4 := Blk.cell hrb 4 (v := .int .i64 r.dk) rfl
        have q5 := Blk.cell hrb 5 (v := .int .i64 r.dw) rfl
        have q6 := Blk.cell hrb 6 (v := .int .i64 r.dn) rfl
        have q7 := Blk.cell hrb 7 (v := .int .i64 r.sec) rfl
        have q8 := Blk.cell hrb 8 (v := .int .i64 r.kind) rfl
        have q9 := Blk.cell hrb 9 (v := .int .i64 r.save) rfl
        have q10 := Blk.cell hrb 10 (v := .string r.letter) rfl
        have em := HY.out.2
        clear hown hob hrb hbw
        by_cases hyl : y ≤ y1
        · have hd5 : decide (y ≤ y1) = true := decide_eq_true hyl
          have HF := Lib.hid (fof_any r y wr (HA.out.below HBI.out (Nat.le_refl _)))
          have HGN := Lib.hid (genR_next r hy0)
          unfold rulA at HF
          cases hob : ofB r y with
          | false =>
            have e2 : ofV r y = .zero := by unfold ofV; rw [hob]; rfl
            rw [hob, e2] at HF
            rw [hob] at HGN
            unfold firA Fir.zero at HF
            clear e2 hob
            go_wp2_with fail
            refine HF.out.mono ?_
            rintro e w2 ⟨rfl, hb⟩
            have HB2 := Lib.hid (show Below wr.heap.size wr (w2.alloc (.cells #[.int .i64 0, .int .i64 0, .int .i64 0, .string ⟨#[]⟩] 31)) from hb.alloc hb.size _)
            clear hb q0 q1 q2 q3 q4 q5 q6 q7 q8 q9 q10
            go_wp2_with fail
            go_roundw
            case rel => exact ⟨y + 1, by first | rfl | go_num, by omega, .inl (by omega), by
              rw [show y + 1 - 1 = y by omega, HGN.out]
              have h := ownsRow_below HOI.out HB2.out
              simpa using h, HOX.out, Blk.below HRB.out HB2.out (Blk.lt HRB.out), HBI.out.trans (HB2.out.mono HBI.out.size)⟩
            case measure => simp [intOf]; omega
          | true =>
            have e2 : ofV r y = firOf r y := by unfold ofV; rw [hob]; rfl
            rw [hob, e2] at HF
            rw [hob] at HGN
            obtain ⟨x, hx⟩ : ∃ x, firOf r y = x := ⟨_, rfl⟩
            rw [hx] at HF HGN
            unfold firA at HF
            have hgl2 : (G ++ genR r y0 (y - 1)).length ≤ 800000 := by
              have h5 := genR_len r y0 (y - 1)
              rw [List.length_append]
              omega
            obtain ⟨D, hD⟩ : ∃ D, G ++ genR r y0 (y - 1) = D := ⟨_, rfl⟩
            rw [hD] at HOI hgl2
            have HDD := Lib.hid (show G ++ genR r y0 y = D ++ [x] by rw [HGN.out, ← List.append_assoc, hD]; rfl)
            clear e2 hob hx hD
            go_wp2_with fail
            refine HF.out.mono ?_
            rintro e w2 ⟨rfl, hb⟩
            have HB2 := Lib.hid (show Below wr.heap.size wr (w2.alloc (.cells #[.int .i64 x.nominal, .int .i64 x.kind, .int .i64 x.save, .string x.letter] 31)) from hb.alloc hb.size _)
            have HXB := Lib.hid (Blk.new w2 31 #[.int .i64 x.nominal, .int .i64 x.kind, .int .i64 x.save, .string x.letter])
            have x0 := HXB.out.cell 0 (v := .int .i64 x.nominal) rfl
            have x1 := HXB.out.cell 1 (v := .int .i64 x.kind) rfl
            have x2 := HXB.out.cell 2 (v := .int .i64 x.save) rfl
            have x3 := HXB.out.cell 3 (v := .string x.letter) rfl
            have hlx := HXB.out.lt
            have HO2 := Lib.hid (ownsRow_below HOI.out HB2.out)
            have HR2 := Lib.hid (Blk.below HRB.out HB2.out (Blk.lt HRB.out))
            have hw2s := HB2.out.size
            have hw2b := hb.size
            clear hb q0 q1 q2 q3 q4 q5 q6 q7 q8 q9 q10
            go_wp2_with (at_builtin; refine wpList_append_own_at _ rfl _ _ 26 rfl w.heap.size 31 i0 (.agg #[.int .i64 0, .int .i64 0, .int .i64 0, .string ⟨#[]⟩]) 4 40 Tryd.underlying26 hi hz0 hz1 hz2 rfl (by decide) _ D.length _ rfl (HO2.out.alloc _) ⟨w2.heap.size + 1, 0, none⟩ 1 1 (firV x) rfl rfl (fun j y hy => by rw [Addr.add_lit, Nat.zero_add, cell_new2]; simpa [firV] using hy) (by simp [firV, Value.oneCell']) (by unfold maxLen; omega) (by omega) (by simp; omega) ?_; intro v2 w3 hown2 hgrow2 hnil2 hloc2)
            go_roundw
            case rel => exact ⟨y + 1, by first | rfl | go_num, by omega, .inl (by omega), by
              rw [show y + 1 - 1 = y by omega, HDD.out, List.length_append, firsV_append]
              have h := hown2
              simpa [firsV] using h, fun g e => by
              rcases hloc2 with h | h
              · exact HOX.out g (h ▸ e)
              · rw [h] at e
                injection e with e
                rw [← e]
                simp
                omega, Blk.grown (Blk.alloc HR2.out _) hgrow2 (fun e => HOX.out BX e rfl), ((HBI.out.trans (HB2.out.mono HBI.out.size)).alloc (by simp; omega) _).grown hgrow2 (by simp; omega) (fun g e => (HO2.out.lt g e).1)⟩
            case measure => simp [intOf]; omega
        · have hd5 : decide (y ≤ y1) = false := decide_eq_false hyl
          have HE := Lib.hid (show G ++ genR r y0 (y - 1) = G ++ genR r a b by
            rw [HRC.out]
            rcases hy1 with h | h
            · rw [show y - 1 = y1 by omega]
            · unfold genR
              rw [yrs_nil (show y - 1 < y0 by omega), yrs_nil (show y1 < y0 by omega)])
          go_wp2_with fail
          go_roundw
          case rel => exact ⟨k + 1, by omega, by go_num, by rw [HNX.out, ← HE.out]; exact HOI.out, HBI.out⟩
          case measure => simp [intOf]; omega
    · obtain rfl : k = l.length := by omega
      have hd : decide ((l.length : Int) < (l.length : Int)) = false := decide_eq_false (by omega)
      have HG := Lib.hid (show genK l a b l.length = genL l a b by unfold genK; rw [List.take_length])
      rw [HG.out] at HOW
      have hgl : (genL l a b).length ≤ 400000 := by
        have h5 := genL_len l a b
        have h6 : l.length * (b + 1 - a).toNat ≤ 100 * 4000 := Nat.mul_le_mul hl (by omega)
        omega
      generalize hD : genL l a b = D at *
      have HDL := Lib.hid hD
      clear hD
      rcases HOW.out.2 with ⟨h0, hn⟩ | ⟨g, cap, cur, h0, hbg, hg, hnc, hcm2, hcs, htk⟩
      · subst h0
        have HD0 := Lib.hid (List.eq_nil_of_length_eq_zero hn)
        have HSN := Lib.hid (sortStable_nil wr)
        go_wp2_with fail
        refine HSN.out.mono ?_
        rintro e w1 ⟨rfl, hb⟩
        have HB1 := Lib.hid (HBW.out.trans (hb.mono hws))
        clear hb
        go_wp2_with fail
        refine bodyPost_ret (v := .tuple #[.slice none 0 0, .int .i64 0]) ?_ rfl ⟨.slice none 0 0, [], rfl, by rw [HDL.out, HD0.out]; exact Stab.nil, World.ownsRow_nil _ _ _ _, HB1.out⟩
        simp [results, Tryd.f7, go_sem]
      · subst h0
        have HSN := Lib.hid (sortStable_F wr w.heap.size g cap D.length D (by omega) ⟨rfl, HOW.out⟩)
        clear hg hcs htk
        go_wp2_with fail
        refine HSN.out.mono ?_
        rintro e w1 ⟨rfl, M, hst, hrw, hfr⟩
        have H1 := Lib.hid (And.intro hst (And.intro hrw (hfr.below (B := w.heap.size) hws (fun k hk e => by omega))))
        clear hst hrw hfr
        go_wp2_with fail
        refine bodyPost_ret (v := .tuple #[.slice (some ⟨g, 0, none⟩) D.length cap, .int .i64 0]) ?_ rfl ⟨_, M, rfl, by rw [HDL.out]; exact H1.out.1, by have h := H1.out.2.1.2; rw [← H1.out.1.len] at h; rw [← H1.out.1.len]; exact h, HBW.out.trans H1.out.2.2⟩
        simp [results, Tryd.f7, go_sem]
end Go.Proofs.YtkdpflgkcnhoiaaDoor
