/-
  From the rows' readings of eras to the words of the walks.
-/
import Derived.Test.YtonmmgcibpjahaaGreatDoorChecked
import Derived.Test.YtonmmgcibpjahaaGreatDoorRows
import Derived.Lib.LaidTab
import Derived.Test.YtonmmgcibpjahaaGreatDoorPt12
section
/- GParts: The law ZoneParts, walked. -/
namespace Go.Proofs.YtonmmgcibpjahaaGreatDoor
open Go Go.RowKit Go.Shelf
attribute [local go_sem] Oper.semAt_some
set_option maxRecDepth 100000

theorem few_okP {l : List EraF} {S : List SetF} (h : fewB l S = true) : ZOk l S where
  fm := fun x hx => by have := eraFew_fm ((fewB_iff.1 h).1 x hx); omega
  rul := fun s hs => right_ok ((fewB_iff.1 h).2.1 s hs)
  len := by have := (fewB_iff.1 h).2.2.1; omega
theorem cell_new3 (w : World) (o o' : Obj) (C : Array Value) (t : TypeId) (fr : Nat × Nat) (i : Nat) : (((w.alloc o).alloc o').alloc (.cells C t fr)).cell? ⟨w.heap.size + 2, i, none⟩ = C[i]? := by
  have h := cell_new2 (w.alloc o) o' C t fr i
  rwa [World.size_alloc] at h
/-- The eras that are made of the first k ones. -/
def partK (l : List EraF) (u : EraN) (k : Nat) : List EraF := if k = l.length then partL l u else l.take k
theorem partK_zero {l : List EraF} {u : EraN} (h : 0 < l.length) : partK l u 0 = [] := by unfold partK; rw [if_neg (by omega)]; rfl
theorem partK_len {l : List EraF} {u : EraN} {k : Nat} (h : k < l.length) : (partK l u k).length = k := by unfold partK; rw [if_neg (by omega), List.length_take]; omega
theorem partK_next {l : List EraF} {u : EraN} {k : Nat} {x : EraF} (h : k + 1 < l.length) (hx : ∀ _ : k < l.length, l[k] = x) : partK l u (k + 1) = partK l u k ++ [x] := by
  unfold partK
  rw [if_neg (by omega), if_neg (by omega), List.take_succ_eq_append_getElem (by omega), hx]
theorem partK_last {l : List EraF} {u : EraN} {k : Nat} {x : EraF} (h : k + 1 = l.length) (hx : ∀ _ : k < l.length, l[k] = x) : partK l u (k + 1) = partK l u k ++ [x.cut u] ++ [x] := by
  have e : lastE l = x := by
    unfold lastE
    rw [show l.length - 1 = k by omega, List.getD_eq_getElem?_getD, List.getElem?_eq_getElem (by omega), hx]
    rfl
  unfold partK partL
  rw [if_pos h, if_neg (by omega), e, show l.length - 1 = k by omega]
  simp
def eraZ : Value := .agg #[.int .i64 0, .string ⟨#[]⟩, .int .i64 0, .string ⟨#[]⟩, .bool false, .int .i64 0, .int .i64 0, .int .i64 0, .int .i64 0, .int .i64 0, .int .i64 0, .int .i64 0]
def eraBytes : Nat := 112
theorem infoEra : (Tryz.prog.info? 54).map (fun i => (i.zero, i.size, i.bytes)) = some (some eraZ, 12, eraBytes) := by kernel_rfl
theorem few_fmP {l : List EraF} {S : List SetF} {u : EraN} (h : fewB l S = true) : ∀ x ∈ partL l u, x.fm.size ≤ 100 := by
  have h1 := fun x hx => eraFew_fm ((fewB_iff.1 h).1 x hx)
  by_cases h0 : l.length = 0
  · intro x hx
    have e : l = [] := List.eq_nil_of_length_eq_zero h0
    subst e
    have h2 : x.fm.size = 0 := by
      unfold partL lastE at hx
      simp only [List.length_nil, List.take_nil, List.nil_append, List.mem_cons, List.not_mem_nil, or_false] at hx
      rcases hx with rfl | rfl <;> rfl
    omega
  · have hle : lastE l ∈ l := by
      unfold lastE
      rw [List.getD_eq_getElem?_getD, List.getElem?_eq_getElem (by omega)]
      exact List.getElem_mem _
    intro x hx
    unfold partL at hx
    rcases List.mem_append.1 hx with hx | hx
    · exact h1 x (List.mem_of_mem_take hx)
    · simp only [List.mem_cons, List.not_mem_nil, or_false] at hx
      rcases hx with rfl | rfl
      · exact (show (lastE l).fm.size ≤ 100 from h1 _ hle)
      · exact h1 _ hle
/-- The end of a law whose result lies in a cell, and that bears a mark. -/
theorem fin_factsP {W wz : World} {D rb : Nat} {d : Option (List Deferred)} (hK : W.heap[D]? = some (.deferred d)) (hb : Below W.heap.size W wz) (hr : Blk wz rb 4 #[.bool false]) (hD : D ≠ rb) :
    (wz.setCell ⟨rb, 0, none⟩ (.bool true)).heap[D]? = some (.deferred d) ∧ ((wz.setCell ⟨rb, 0, none⟩ (.bool true)).putObj D (.deferred none)).cell? ⟨rb, 0, none⟩ = some (.bool true) := by
  have hl : D < W.heap.size := (Array.getElem?_eq_some_iff.1 hK).1
  have h1 : wz.heap[D]? = some (.deferred d) := (hb.block D hl).trans hK
  have h2 := (Fr.setCell (T := fun k => k = rb) wz 0 (.bool true) rfl).at_ h1 hD
  exact ⟨h2, (fin_cell h2 _).trans ((hr.set 0 (.bool true)).cell 0 rfl)⟩
/-- The loop's variables. -/
def PartI (lb kb : Nat) (E : List Int) (pre : List Nat) (O : Nat → Prop) (W : World) : Prop :=
  (O lb ∧ O kb) ∧ Blk W lb 3 #[.int .i64 (fromV E pre.length)] ∧ Blk W kb 3 #[.int .i64 (pre.length : Nat)]
theorem partI_feet (lb kb : Nat) (E : List Int) : Feet (PartI lb kb E) := by
  rintro pre O W W' ⟨⟨o0, o1⟩, h0, h1⟩ hf
  exact ⟨⟨o0, o1⟩, h0.fr hf (fun h => h o0), h1.fr hf (fun h => h o1)⟩
set_option maxHeartbeats 16000000 in
theorem parts_walk (w : World) (zn : ByteArray) (ev sv : Value) (l : List EraF) (S : List SetF) (vl : Value) (L : List Int) (u : EraN) (he : ErasR w w.heap.size ev l) (hs : SetsR w w.heap.size sv S) (hfm : ∀ x ∈ l, x.fm.size < 1152921504606846976) (hlet : ∀ s ∈ S, letOk s.l)
    (hL : Nums w w.heap.size vl L) (ha : Ahead w) (htab : 0 < w.heap.size) (hm : Tryz.MaxL w) :
    Calls Tryz.prog 7 #[worldA zn ev sv, vl, untilA u] w fun o w' => o = .returned (.bool true) ∧ Below w.heap.size w w' := by
  obtain ⟨A, cA, rfl, hlc, hcm⟩ := he.form
  obtain ⟨A2, cS, rfl, hlc2, hcm2⟩ := hs.form
  obtain ⟨A3, cL, rfl, hlc3, hcm3⟩ := hL.form
  unfold maxLen at hcm hcm2 hcm3
  obtain ⟨W0, hW0⟩ : ∃ W, (((w.alloc (.cells #[.string zn, .slice A l.length cA, .slice A2 S.length cS] 27)).alloc (.cells #[.int .i64 u.year, .int .i64 u.month, .int .i64 u.dk, .int .i64 u.dw, .int .i64 u.dn, .int .i64 u.sec, .int .i64 u.ak] 52)).alloc (.cells #[.bool false] 4)).alloc (.cells #[.int .i64 l.length] 3) = W := ⟨_, rfl⟩
  have hb0 : Below w.heap.size w W0 := by
    rw [← hW0]
    exact ((((Below.refl w.heap.size w).alloc (Nat.le_refl _) _).alloc (by simp) _).alloc (by simp; omega) _).alloc (by simp; omega) _
  have hxx : Blk W0 w.heap.size 27 #[.string zn, .slice A l.length cA, .slice A2 S.length cS] := by
    rw [← hW0]
    exact (((Blk.new w _ _).alloc _).alloc _).alloc _
  have huu : Blk W0 (w.heap.size + 1) 52 #[.int .i64 u.year, .int .i64 u.month, .int .i64 u.dk, .int .i64 u.dw, .int .i64 u.dn, .int .i64 u.sec, .int .i64 u.ak] := by
    rw [← hW0]
    have h := ((Blk.new (w.alloc (.cells #[.string zn, .slice A l.length cA, .slice A2 S.length cS] 27)) 52 #[.int .i64 u.year, .int .i64 u.month, .int .i64 u.dk, .int .i64 u.dw, .int .i64 u.dn, .int .i64 u.sec, .int .i64 u.ak]).alloc (.cells #[.bool false] 4)).alloc (.cells #[.int .i64 l.length] 3)
    simpa only [World.size_alloc] using h
  have hrr : Blk W0 (w.heap.size + 2) 4 #[.bool false] := by
    rw [← hW0]
    have h := (Blk.new ((w.alloc (.cells #[.string zn, .slice A l.length cA, .slice A2 S.length cS] 27)).alloc (.cells #[.int .i64 u.year, .int .i64 u.month, .int .i64 u.dk, .int .i64 u.dw, .int .i64 u.dn, .int .i64 u.sec, .int .i64 u.ak] 52)) 4 #[.bool false]).alloc (.cells #[.int .i64 l.length] 3)
    simpa only [World.size_alloc] using h
  have hnn : Blk W0 (w.heap.size + 3) 3 #[.int .i64 l.length] := by
    rw [← hW0]
    have h := Blk.new (((w.alloc (.cells #[.string zn, .slice A l.length cA, .slice A2 S.length cS] 27)).alloc (.cells #[.int .i64 u.year, .int .i64 u.month, .int .i64 u.dk, .int .i64 u.dw, .int .i64 u.dn, .int .i64 u.sec, .int .i64 u.ak] 52)).alloc (.cells #[.bool false] 4)) 3 #[.int .i64 l.length]
    simpa only [World.size_alloc] using h
  have HF := Lib.hid (few_any _ zn _ _ w.heap.size l S (he.below hb0) (hs.below hb0) hb0.size hfm)
  have HXX := Lib.hid hxx
  have HUU := Lib.hid huu
  have HRR := Lib.hid hrr
  have HNN := Lib.hid hnn
  have HZ0 := Lib.hid (ZW.mk (he.below hb0) (hs.below hb0) (ha.below hb0 (Nat.le_refl _)) htab (hm.below hb0 (Nat.le_refl _)) hb0.size)
  have HL0 := Lib.hid (hL.below hb0)
  have HB0 := Lib.hid hb0
  have HLET := Lib.hid hlet
  clear hb0 hxx huu hrr hnn he hs hm hlet hfm ha hL
  have HW0 := Lib.hid hW0
  clear hW0
  unfold worldA untilA at *
  refine (callsIn_wide (n := 8)).1 ?_
  refine callsIn_of_wp_marks Tryz.func7 rfl trivial ?_ rfl
  simp only [Tryz.ntmps7, List.size_toArray, List.length_cons, List.length_nil, Nat.reduceAdd, Nat.reduceSub, Array.replicate_succ, Array.replicate_zero, List.push_toArray, List.append_toArray, List.nil_append, List.cons_append]
  refine wpIn_wide.2 ?_
  go_wp2_with fail
  rw [HW0.out]
  try simp only [HW0.out]
  clear HW0
  cases hf : fewB l S with
  | false =>
    rw [hf] at HF
    clear hf
    refine HF.out.mono ?_
    rintro o w1 ⟨rfl, hb⟩
    have HB1 := Lib.hid hb
    clear hb
    go_wp2_with fail
    refine (awake_any _ ((HZ0.out.below (HB1.out)).maxl)).mono ?_
    rintro o wz ⟨rfl, hbz⟩
    have hbz0 := (HB1.out).trans (hbz.mono (HB1.out).size)
    have hrz := HRR.out.below hbz0 HRR.out.lt
    have gz := hrz.frozen 0
    have cz := hrz.cell 0 (v := .bool false) rfl
    have HBZ := Lib.hid (HB0.out.trans (hbz0.mono HB0.out.size))
    have HRZ := Lib.hid hrz
    clear hbz hbz0 hrz
    go_wp2_with fail
    refine ⟨.bool true, ?_, rfl, HBZ.out.setCell (by show w.heap.size ≤ w.heap.size + 1 + 1; omega) _⟩
    have hc := (HRZ.out.set 0 (.bool true)).cell 0 (v := .bool true) rfl
    simp [results, Tryz.f7, go_sem, hc]
  | true =>
    rw [hf] at HF
    have HFEW := Lib.hid hf
    have hl4 : l.length ≤ 4 := (fewB_iff.1 hf).2.2.1
    clear hf
    refine HF.out.mono ?_
    rintro o w1 ⟨rfl, hb⟩
    have HB1 := Lib.hid hb
    clear hb HF
    by_cases h10 : 10 < L.length
    · have hd : decide ((10 : Int) < (L.length : Int)) = true := decide_eq_true (by omega)
      clear h10
      go_wp2_with fail
      refine (awake_any _ ((HZ0.out.below (HB1.out)).maxl)).mono ?_
      rintro o wz ⟨rfl, hbz⟩
      have hbz0 := (HB1.out).trans (hbz.mono (HB1.out).size)
      have hrz := HRR.out.below hbz0 HRR.out.lt
      have gz := hrz.frozen 0
      have cz := hrz.cell 0 (v := .bool false) rfl
      have HBZ := Lib.hid (HB0.out.trans (hbz0.mono HB0.out.size))
      have HRZ := Lib.hid hrz
      clear hbz hbz0 hrz
      go_wp2_with fail
      refine ⟨.bool true, ?_, rfl, HBZ.out.setCell (by show w.heap.size ≤ w.heap.size + 1 + 1; omega) _⟩
      have hc := (HRZ.out.set 0 (.bool true)).cell 0 (v := .bool true) rfl
      simp [results, Tryz.f7, go_sem, hc]
    · have hd : decide ((10 : Int) < (L.length : Int)) = false := decide_eq_false (by omega)
      have hL10 : L.length ≤ 10 := by omega
      clear h10
      have hxb := HXX.out.below (HB1.out) HXX.out.lt
      have x0 := hxb.cell 0 (v := .string zn) rfl
      have x1 := hxb.cell 1 (v := .slice A l.length cA) rfl
      have x2 := hxb.cell 2 (v := .slice A2 S.length cS) rfl
      have hxl := hxb.lt
      have hnb := HNN.out.below (HB1.out) HNN.out.lt
      have n0 := hnb.cell 0 (v := .int .i64 l.length) rfl
      have hnl := hnb.lt
      clear hxb hnb
      obtain ⟨E, hE⟩ : ∃ e, errZ S l = e := ⟨_, rfl⟩
      have HCK := Lib.hid (zcheckZ_any zn _ _ w.heap.size l S w1 (HZ0.out.below HB1.out) (few_okP HFEW.out))
      rw [hE] at HCK
      have HE := Lib.hid hE
      unfold setsV zoneA worldA at HCK
      clear hE
      by_cases hE0 : E = 0
      · subst hE0
        by_cases h3 : 3 < l.length
        · have hd3 : decide ((3 : Int) < (l.length : Int)) = true := decide_eq_true (by omega)
          clear h3
          go_wp2_with fail
          refine HCK.out.mono ?_
          rintro o w2 ⟨rfl, hb⟩
          have HB2 := Lib.hid (HB1.out.trans (hb.mono HB1.out.size))
          have hnb := HNN.out.below HB2.out HNN.out.lt
          have n1 := hnb.cell 0 (v := .int .i64 l.length) rfl
          clear hb hnb x0 x1 x2 n0
          go_wp2_with fail
          refine (awake_any _ ((HZ0.out.below (HB2.out)).maxl)).mono ?_
          rintro o wz ⟨rfl, hbz⟩
          have hbz0 := (HB2.out).trans (hbz.mono (HB2.out).size)
          have hrz := HRR.out.below hbz0 HRR.out.lt
          have gz := hrz.frozen 0
          have cz := hrz.cell 0 (v := .bool false) rfl
          have HBZ := Lib.hid (HB0.out.trans (hbz0.mono HB0.out.size))
          have HRZ := Lib.hid hrz
          clear hbz hbz0 hrz
          go_wp2_with fail
          refine ⟨.bool true, ?_, rfl, HBZ.out.setCell (by show w.heap.size ≤ w.heap.size + 1 + 1; omega) _⟩
          have hc := (HRZ.out.set 0 (.bool true)).cell 0 (v := .bool true) rfl
          simp [results, Tryz.f7, go_sem, hc]
        · have hd3 : decide ((3 : Int) < (l.length : Int)) = false := decide_eq_false (by omega)
          have hl3 : l.length ≤ 3 := by omega
          have hl1 : 0 < l.length := by have := (errZ_zero HE.out).1; omega
          clear h3
          go_wp2_with fail
          refine HCK.out.mono ?_
          rintro o w2 ⟨rfl, hb⟩
          have HB2 := Lib.hid (HB1.out.trans (hb.mono HB1.out.size))
          have hnb := HNN.out.below HB2.out HNN.out.lt
          have n1 := hnb.cell 0 (v := .int .i64 l.length) rfl
          clear hb hnb x0 x1 x2 n0 HCK
          go_wp2_with fail
          clear n1 hxl hnl
          obtain ⟨i0, hi, hz0, hz1, hz2⟩ := info_parts infoEra
          go_loopw [8, 9] (fun ev iv wr => ∃ k : Nat, k ≤ l.length ∧ iv = .int .i64 k ∧ wr.ownsRow w2.heap.size 54 12 ev (partK l u k).length ((partK l u k).flatMap EraF.cells) ∧ Below w2.heap.size w2 wr) (fun _ iv _ => l.length - (intOf iv).toNat)
          case atStart => exact ⟨0, Nat.zero_le _, rfl, by rw [partK_zero hl1]; exact World.ownsRow_nil _ _ _ _, Below.refl _ _⟩
          case round =>
            obtain ⟨k, hk, rfl, hown, hbw⟩ := hrel
            have HOW := Lib.hid hown
            have HBW := Lib.hid hbw
            have HB3 := Lib.hid (HB2.out.trans (hbw.mono HB2.out.size))
            have hws := hbw.size
            obtain ⟨A5, c5, hu, -, -⟩ := Sl.of_own hown
            subst hu
            have hxb := HXX.out.below (HB3.out) HXX.out.lt
            have x0 := hxb.cell 0 (v := .string zn) rfl
            have x1 := hxb.cell 1 (v := .slice A l.length cA) rfl
            have x2 := hxb.cell 2 (v := .slice A2 S.length cS) rfl
            have hxl := hxb.lt
            have hnb := HNN.out.below (HB3.out) HNN.out.lt
            have n0 := hnb.cell 0 (v := .int .i64 l.length) rfl
            have hnl := hnb.lt
            clear hxb hnb
            clear hown hbw
            by_cases hlt : k < l.length
            · have hd : decide ((k : Int) < (l.length : Int)) = true := decide_eq_true (by omega)
              have hsub : wrap64 ((l.length : Int) - 1) = (l.length : Int) - 1 := IntWalk.wrap64_in _ (by omega)
              obtain ⟨bb, o, c', e, hbb, hc⟩ := ((HZ0.out.below HB3.out).eras).cells (by omega)
              cases e
              have hx := hc k hlt
              have hbbl : bb < wr.heap.size := by have := HB3.out.size; have := HB0.out.size; omega
              obtain ⟨x, hxk⟩ : ∃ x, l[k] = x := ⟨_, rfl⟩
              rw [hxk] at hx
              have HXK := Lib.hid (fun (_ : k < l.length) => hxk)
              obtain ⟨c0, c1, c2, c3, c4, c5_, c6, c7, c8, c9, c10, c11⟩ := hx
              have huu := HUU.out.below HB3.out HUU.out.lt
              have u0 := huu.cell 0 (v := .int .i64 u.year) rfl
              have u1 := huu.cell 1 (v := .int .i64 u.month) rfl
              have u2 := huu.cell 2 (v := .int .i64 u.dk) rfl
              have u3 := huu.cell 3 (v := .int .i64 u.dw) rfl
              have u4 := huu.cell 4 (v := .int .i64 u.dn) rfl
              have u5 := huu.cell 5 (v := .int .i64 u.sec) rfl
              have u6 := huu.cell 6 (v := .int .i64 u.ak) rfl
              have hul := huu.lt
              clear hc hxk huu
              by_cases hla : k + 1 = l.length
              · have hde : ((k : Int) == (l.length : Int) - 1) = true := beq_iff_eq.2 (by omega)
                have HPK := Lib.hid (partK_last (u := u) (l := l) (k := k) hla HXK.out)
                have hpl : (partK l u k).length = k := partK_len (by omega)
                rw [hpl] at HOW ⊢
                clear hla
                go_wp2_with (first
                  | (at_builtin; go_loud (refine wpList_append_own _ rfl _ _ 22 rfl w2.heap.size 54 i0 eraZ 12 eraBytes Tryz.underlying22 hi hz0 hz1 hz2 rfl (by decide) _ (k + 1) _ rfl (HO5.out.alloc _) ⟨w5.heap.size, 0, none⟩ 1 1 (EraF.cells x) rfl rfl (fun j y hy => by rw [Addr.add_lit, Nat.zero_add]; exact (cell_new _ _ _ _ j).trans (by simpa [EraF.cells, eraC] using hy)) (by simp [EraF.cells, eraC, Value.oneCell']) (by unfold maxLen; omega) (by unfold eraBytes; omega) (by simp; omega) ?_); intro v' w6 hown' hgrow _)
                  | (at_builtin; go_loud (refine wpList_append_own _ rfl _ _ 22 rfl w2.heap.size 54 i0 eraZ 12 eraBytes Tryz.underlying22 hi hz0 hz1 hz2 rfl (by decide) _ k _ rfl (((HOW.out.alloc _).alloc _).alloc _) ⟨wr.heap.size + 2, 0, none⟩ 1 1 (EraF.cells (x.cut u)) rfl rfl (fun j y hy => by rw [Addr.add_lit, Nat.zero_add]; exact (cell_new3 _ _ _ _ _ _ j).trans (by simpa [EraF.cells, EraF.cut, eraC] using hy)) (by simp [EraF.cells, EraF.cut, eraC, Value.oneCell']) (by unfold maxLen; omega) (by unfold eraBytes; omega) (by simp; omega) ?_); intro v5 w5 hown5 hgrow5 _
                     have HO5 := Lib.hid hown5
                     have hE5 := (((Blk.new wr 54 #[.int .i64 x.n.off, .string x.ru, .int .i64 x.n.save, .string x.fm, .bool x.en, .int .i64 x.n.year, .int .i64 x.n.month, .int .i64 x.n.dk, .int .i64 x.n.dw, .int .i64 x.n.dn, .int .i64 x.n.sec, .int .i64 x.n.ak]).alloc (.cells #[.int .i64 x.n.off, .string x.ru, .int .i64 x.n.save, .string x.fm, .bool true, .int .i64 u.year, .int .i64 u.month, .int .i64 u.dk, .int .i64 u.dw, .int .i64 u.dn, .int .i64 u.sec, .int .i64 u.ak] 54)).alloc (.cells #[.int .i64 x.n.off, .string x.ru, .int .i64 x.n.save, .string x.fm, .bool true, .int .i64 u.year, .int .i64 u.month, .int .i64 u.dk, .int .i64 u.dw, .int .i64 u.dn, .int .i64 u.sec, .int .i64 u.ak] 54)).grown hgrow5 (fun e => by have := (HOW.out.lt _ e).2; omega)
                     have HB5 := Lib.hid (below_push ((HBW.out.alloc HBW.out.size (.cells #[.int .i64 x.n.off, .string x.ru, .int .i64 x.n.save, .string x.fm, .bool x.en, .int .i64 x.n.year, .int .i64 x.n.month, .int .i64 x.n.dk, .int .i64 x.n.dw, .int .i64 x.n.dn, .int .i64 x.n.sec, .int .i64 x.n.ak] 54)).alloc (by simp; omega) (.cells #[.int .i64 x.n.off, .string x.ru, .int .i64 x.n.save, .string x.fm, .bool true, .int .i64 u.year, .int .i64 u.month, .int .i64 u.dk, .int .i64 u.dw, .int .i64 u.dn, .int .i64 u.sec, .int .i64 u.ak] 54)) ((HOW.out.alloc _).alloc _) hgrow5)
                     have hs5 := HB5.out.size
                     have e0 := hE5.cell 0 (v := .int .i64 x.n.off) rfl
                     have e1 := hE5.cell 1 (v := .string x.ru) rfl
                     have e2 := hE5.cell 2 (v := .int .i64 x.n.save) rfl
                     have e3 := hE5.cell 3 (v := .string x.fm) rfl
                     have e4 := hE5.cell 4 (v := .bool x.en) rfl
                     have e5 := hE5.cell 5 (v := .int .i64 x.n.year) rfl
                     have e6 := hE5.cell 6 (v := .int .i64 x.n.month) rfl
                     have e7 := hE5.cell 7 (v := .int .i64 x.n.dk) rfl
                     have e8 := hE5.cell 8 (v := .int .i64 x.n.dw) rfl
                     have e9 := hE5.cell 9 (v := .int .i64 x.n.dn) rfl
                     have e10 := hE5.cell 10 (v := .int .i64 x.n.sec) rfl
                     have e11 := hE5.cell 11 (v := .int .i64 x.n.ak) rfl
                     have hel5 := hE5.lt
                     clear hE5 hown5 hgrow5))
                go_roundw
                case rel =>
                  refine ⟨k + 1, by omega, by go_num, ?_, below_push HB5.out HO5.out hgrow⟩
                  rw [HPK.out, List.length_append, List.length_append, List.flatMap_append, List.flatMap_append, partK_len (by omega)]
                  simpa using hown'
                case measure => first | (simp [intOf]; done) | (simp [intOf]; omega)
              · have hde : ((k : Int) == (l.length : Int) - 1) = false := beq_eq_false_iff_ne.2 (by omega)
                have HPK := Lib.hid (partK_next (u := u) (l := l) (k := k) (by omega) HXK.out)
                have hpl : (partK l u k).length = k := partK_len (by omega)
                rw [hpl] at HOW ⊢
                clear hla
                go_wp2_with (at_builtin; go_loud (refine wpList_append_own _ rfl _ _ 22 rfl w2.heap.size 54 i0 eraZ 12 eraBytes Tryz.underlying22 hi hz0 hz1 hz2 rfl (by decide) _ k _ rfl ((HOW.out.alloc _).alloc _) ⟨wr.heap.size + 1, 0, none⟩ 1 1 (EraF.cells x) rfl rfl (fun j y hy => by rw [Addr.add_lit, Nat.zero_add]; exact (cell_new2 _ _ _ _ _ j).trans (by simpa [EraF.cells, eraC] using hy)) (by simp [EraF.cells, eraC, Value.oneCell']) (by unfold maxLen; omega) (by unfold eraBytes; omega) (by simp; omega) ?_); intro v' w5 hown' hgrow _)
                go_roundw
                case rel =>
                  refine ⟨k + 1, by omega, by go_num, ?_, below_push (HBW.out.alloc HBW.out.size (.cells #[.int .i64 x.n.off, .string x.ru, .int .i64 x.n.save, .string x.fm, .bool x.en, .int .i64 x.n.year, .int .i64 x.n.month, .int .i64 x.n.dk, .int .i64 x.n.dw, .int .i64 x.n.dn, .int .i64 x.n.sec, .int .i64 x.n.ak] 54)) (HOW.out.alloc _) hgrow⟩
                  rw [HPK.out, List.length_append, List.flatMap_append, partK_len (by omega)]
                  simpa using hown'
                case measure => first | (simp [intOf]; done) | (simp [intOf]; omega)
            · obtain rfl : k = l.length := by omega
              have hd : decide ((l.length : Int) < (l.length : Int)) = false := decide_eq_false (by omega)
              have hpn : partK l u l.length = partL l u := by unfold partK; rw [if_pos rfl]
              have hpl : (partL l u).length = l.length + 1 := partL_len (by omega)
              rw [hpn, hpl] at HOW
              rw [hpn, hpl]
              have HVE := Lib.hid (show ErasR wr wr.heap.size (.slice A5 (l.length + 1) c5) (partL l u) by
                have h := Sl.of_own HOW.out
                unfold ErasR
                rw [hpl]
                exact h)
              obtain ⟨w3, hw3⟩ : ∃ x, x = wr := ⟨_, rfl⟩
              subst hw3
              have HPL := Lib.hid hpl
              clear hk hlt HBW hpn hpl HOW
              have hv4 := Blk.new w3 27 #[.string zn, .slice A5 (l.length + 1) c5, .slice A2 S.length cS]
              have HB4 := Lib.hid (HB3.out.alloc HB3.out.size (.cells #[.string zn, .slice A5 (l.length + 1) c5, .slice A2 S.length cS] 27))
              have HVE4 := Lib.hid ((HVE.out.below ((Below.refl w3.heap.size w3).alloc (Nat.le_refl _) (.cells #[.string zn, .slice A5 (l.length + 1) c5, .slice A2 S.length cS] 27))))
              have HV4 := Lib.hid hv4
              have hw34 : w3.heap.size < (w3.alloc (.cells #[.string zn, .slice A5 (l.length + 1) c5, .slice A2 S.length cS] 27)).heap.size := by simp
              have HSP := Lib.hid (spansZ_any (w3.alloc (.cells #[.string zn, .slice A5 (l.length + 1) c5, .slice A2 S.length cS] 27)) zn (.slice A l.length cA) (.slice A2 S.length cS))
              unfold setsV zoneA worldA at HSP
              clear hv4
              go_wp2_with fail
              obtain ⟨w4, hw4⟩ : ∃ W, w3.alloc (.cells #[.string zn, .slice A5 (l.length + 1) c5, .slice A2 S.length cS] 27) = W := ⟨_, rfl⟩
              rw [hw4] at HB4 HVE4 HV4 HSP hw34
              try simp only [hw4]
              clear hw4 x0 x1 x2 n0 hxl hnl HVE
              refine HSP.out.mono ?_
              rintro o w5 ⟨rfl, hb5, hzb, hsb, hs5⟩
              have heq := fun (w : World) (f : Fn) (ts cs : Array Value) => run_eql_func_nil w 78 f ts cs Tryz.underlying78
              have HB5 := Lib.hid (HB4.out.trans (hb5.mono HB4.out.size))
              have HVE5 := Lib.hid (HVE4.out.below (hb5.mono (Nat.le_of_lt hw34)))
              have HV5 := Lib.hid (HV4.out.below hb5 HV4.out.lt)
              have HZB := Lib.hid hzb
              have HSB := Lib.hid hsb
              have HS5 := Lib.hid hs5
              clear hb5 hzb hsb hs5 HSP HVE4 HV4
              go_wp2_with fail
              have hb6 : Below w5.heap.size w5 ((w5.alloc (.cells #[.int .i64 (-2199023255553)] 3)).alloc (.cells #[.int .i64 0] 3)) := ((Below.refl _ _).alloc (Nat.le_refl _) _).alloc (by simp) _
              have hls0 := (Blk.new w5 3 #[.int .i64 (-2199023255553)]).alloc (.cells #[.int .i64 0] 3)
              have hks0 := Blk.new (w5.alloc (.cells #[.int .i64 (-2199023255553)] 3)) 3 #[.int .i64 0]
              rw [World.size_alloc] at hks0
              have hs6 : ((w5.alloc (.cells #[.int .i64 (-2199023255553)] 3)).alloc (.cells #[.int .i64 0] 3)).heap.size = w5.heap.size + 2 := by simp
              obtain ⟨w6, hw6⟩ : ∃ W, (w5.alloc (.cells #[.int .i64 (-2199023255553)] 3)).alloc (.cells #[.int .i64 0] 3) = W := ⟨_, rfl⟩
              rw [hw6] at hb6 hls0 hks0 hs6
              try simp only [hw6]
              clear hw6
              have HB6 := Lib.hid hb6
              have hwle : w.heap.size + 4 ≤ w5.heap.size := by have h1 := HB5.out.size; have h2 := HNN.out.lt; omega
              obtain ⟨EL, hEL⟩ : ∃ e, endL S l = e := ⟨_, rfl⟩
              have HEL := Lib.hid hEL
              have HELEN := Lib.hid (show EL.length + 1 = l.length by rw [← hEL, length_endL]; omega)
              have HRISE := Lib.hid (errZ_zero HE.out).2.2.2
              clear hEL
              refine (wpIn_wide (n := 8)).1 ?_
              refine range_own (α := Nat) rfl (by omega) (gf := 60) (lb := #[.pointer (some ⟨w4.heap.size, 0, none⟩), .pointer (some ⟨w4.heap.size + 1, 0, none⟩)]) rfl trivial (enters_of Tryz.func60 (by kernel_rfl) rfl)
                (encs := encS l (endL S l)) (R := RS l w5.heap.size w6) (K := fun k => k < w5.heap.size)
                (fun W hW => spansZ_iter 7 (by omega) _ _ w.heap.size w5.heap.size w6 zn _ _ l S W (((HZB.out.below hb6 HZB.out.lt)).below hW (by have := HZB.out.lt; omega)) (((HSB.out.below hb6 HSB.out.lt)).below hW (by have := HSB.out.lt; omega)) ((HZ0.out.below (HB5.out.trans (hb6.mono HB5.out.size))).below hW) (few_okP HFEW.out) HE.out (by omega) (by have := hW.size; omega) (fun k hk => hW.block k (by omega)))
                (fun _ => rfl) (PartI w5.heap.size (w5.heap.size + 1) EL) (fun _ _ _ _ => False) (partI_feet _ _ _) (fun _ _ _ _ _ h _ => h) (fun k => k = w5.heap.size ∨ k = w5.heap.size + 1) ⟨⟨.inl rfl, .inr rfl⟩, hls0, hks0⟩ (fun k hk => by omega) (fun k hk => by omega) (fun k hk h => by omega) ?round ?done ?stop
              case stop =>
                intro _ _ _ _ _ _ _ h
                exact h.elim
              case round =>
                intro lp pre kx O D W hI hBO hBD hDO hR nOl nDl hlow hltl
                obtain ⟨hnD, rfl, hlt, hsame⟩ := hR
                obtain ⟨k, hpk⟩ : ∃ k, pre.length = k := ⟨_, rfl⟩
                rw [hpk] at hlt ⊢
                have hgx : l.getD k default = l[k] := by rw [List.getD_eq_getElem?_getD, List.getElem?_eq_getElem hlt]; rfl
                have HB65 := Lib.hid (HB5.out.trans (HB6.out.mono HB5.out.size))
                obtain ⟨bb, o, c', e, hbb, hc⟩ := ((HZ0.out.below HB65.out).eras).cells (by omega)
                cases e
                have hx := hc k hlt
                obtain ⟨x, hxk⟩ : ∃ x, l[k] = x := ⟨_, rfl⟩
                rw [hxk] at hx hgx
                have c3 := hx.2.2.2.1
                have hgo : ∀ p : Addr, p.block < w5.heap.size → W.cell? p = w6.cell? p := fun p hp => World.cell?_of_block (hsame p.block hp)
                have c3w : W.cell? ⟨bb, o + k * 12 + 3, none⟩ = some (.string x.fm) := (hgo _ (by show bb < _; omega)).trans c3
                have hxw := HXX.out.below HB65.out HXX.out.lt
                have x1w : W.cell? ⟨w.heap.size, 1, none⟩ = some (.slice (some ⟨bb, o, none⟩) l.length cA) := (hgo _ (by show w.heap.size < _; omega)).trans (hxw.cell 1 rfl)
                have hnw := HNN.out.below HB65.out HNN.out.lt
                have n0w : W.cell? ⟨w.heap.size + 3, 0, none⟩ = some (.int .i64 l.length) := (hgo _ (by show w.heap.size + 3 < _; omega)).trans (hnw.cell 0 rfl)
                have hbW : Below W.heap.size W ((W.alloc (.cells #[.int .i64 x.n.off, .string x.ru, .int .i64 x.n.save, .string x.fm, .bool x.en, .int .i64 x.n.year, .int .i64 x.n.month, .int .i64 x.n.dk, .int .i64 x.n.dw, .int .i64 x.n.dn, .int .i64 x.n.sec, .int .i64 x.n.ak] 54)).alloc (.cells #[.int .i64 (fromV EL k), .int .i64 (toV EL k)] 80)) := ((Below.refl _ _).alloc (Nat.le_refl _) _).alloc (by simp) _
                have hE1 := (Blk.new W 54 #[.int .i64 x.n.off, .string x.ru, .int .i64 x.n.save, .string x.fm, .bool x.en, .int .i64 x.n.year, .int .i64 x.n.month, .int .i64 x.n.dk, .int .i64 x.n.dw, .int .i64 x.n.dn, .int .i64 x.n.sec, .int .i64 x.n.ak]).alloc (.cells #[.int .i64 (fromV EL k), .int .i64 (toV EL k)] 80)
                have hT1 := Blk.new (W.alloc (.cells #[.int .i64 x.n.off, .string x.ru, .int .i64 x.n.save, .string x.fm, .bool x.en, .int .i64 x.n.year, .int .i64 x.n.month, .int .i64 x.n.dk, .int .i64 x.n.dw, .int .i64 x.n.dn, .int .i64 x.n.sec, .int .i64 x.n.ak] 54)) 80 #[.int .i64 (fromV EL k), .int .i64 (toV EL k)]
                rw [World.size_alloc] at hT1
                have hws : w5.heap.size ≤ W.heap.size := by omega
                unfold encS
                rw [hgx, HEL.out]
                unfold EraF.val eraA
                obtain ⟨fv, hfv⟩ : ∃ f, fromV EL k = f := ⟨_, rfl⟩
                obtain ⟨tv, htv⟩ : ∃ f, toV EL k = f := ⟨_, rfl⟩
                rw [hfv, htv] at hbW hE1 hT1
                have HBO := Lib.hid (hBO.fr (Fr.of_below (T := fun _ => True) hbW (Nat.le_refl _)))
                rw [hfv, htv]
                have HFV := Lib.hid hfv
                have HTV := Lib.hid htv
                have HPK := Lib.hid hpk
                clear hI hBO hBD hDO hc hxk hgx hx c3 hxw hnw hfv htv hpk hsame
                gi_wp2
                refine ⟨hbW, ?_⟩
                intro Wb hfb hIb _
                obtain ⟨⟨o1, o2⟩, hls, hks⟩ := hIb
                rw [HPK.out] at hls hks
                rw [HFV.out] at hls
                have hE2 := hE1.fr hfb (by omega)
                have hT2 := hT1.fr hfb (by have := hbW.size; simp at this; omega)
                have hfW : ∀ p : Addr, p.block < W.heap.size → p.block ≠ lp → Wb.cell? p = W.cell? p := fun p hp hne => (hfb.cell (p := p) (Nat.lt_of_lt_of_le hp hbW.size) hne).trans (hbW.cell hp)
                have x1b : Wb.cell? ⟨w.heap.size, 1, none⟩ = some (.slice (some ⟨bb, o, none⟩) l.length cA) := (hfW _ (by show w.heap.size < _; omega) (by show w.heap.size ≠ lp; omega)).trans x1w
                have n0b : Wb.cell? ⟨w.heap.size + 3, 0, none⟩ = some (.int .i64 l.length) := (hfW _ (by show w.heap.size + 3 < _; omega) (by show w.heap.size + 3 ≠ lp; omega)).trans n0w
                have c3b : Wb.cell? ⟨bb, o + k * 12 + 3, none⟩ = some (.string x.fm) := (hfW _ (by show bb < _; omega) (by show bb ≠ lp; omega)).trans c3w
                have hszb : W.heap.size + 2 ≤ Wb.heap.size := Nat.le_trans (by simp) hfb.size
                have HQ := Lib.hid (fun (V : World) (h : Below Wb.heap.size Wb V) => show V.cell? ⟨w5.heap.size + 1, 0, none⟩ = some (.int .i64 k) ∧ V.cell? ⟨w.heap.size + 3, 0, none⟩ = some (.int .i64 l.length) ∧ V.cell? ⟨W.heap.size + 1, 0, none⟩ = some (.int .i64 fv) ∧ V.cell? ⟨W.heap.size + 1, 1, none⟩ = some (.int .i64 tv) ∧ V.cell? ⟨w5.heap.size, 0, none⟩ = some (.int .i64 fv) ∧ V.cell? ⟨W.heap.size, 3, none⟩ = some (.string x.fm) ∧ V.cell? ⟨w.heap.size, 1, none⟩ = some (.slice (some ⟨bb, o, none⟩) l.length cA) ∧ V.cell? ⟨bb, o + k * 12 + 3, none⟩ = some (.string x.fm) ∧ True from
                  ⟨(hks.below h hks.lt).cell 0 rfl, (h.cell (p := ⟨w.heap.size + 3, 0, none⟩) (by show w.heap.size + 3 < _; omega)).trans n0b, (hT2.below h hT2.lt).cell 0 rfl, (hT2.below h hT2.lt).cell 1 rfl, (hls.below h hls.lt).cell 0 rfl, (hE2.below h hE2.lt).cell 3 rfl, (h.cell (p := ⟨w.heap.size, 1, none⟩) (by show w.heap.size < _; omega)).trans x1b, (h.cell (p := ⟨bb, o + k * 12 + 3, none⟩) (by show bb < _; omega)).trans c3b, trivial⟩)
                have HLS := Lib.hid hls
                have HKS := Lib.hid hks
                have HBB := Lib.hid (HBO.out.fr hfb)
                have hwd := wide1 lp
                have dk : decide ((l.length : Int) ≤ (k : Int)) = false := decide_eq_false (by omega)
                have hk0 : (0 : Int) ≤ (k : Int) := by omega
                have hkl : (k : Int) < (l.length : Int) := by omega
                have hdkl : decide (k < l.length) = true := decide_eq_true hlt
                have hsub : wrap64 ((l.length : Int) - 1) = (l.length : Int) - 1 := IntWalk.wrap64_in _ (by omega)
                have hsub2 : IntKind.i64.wrap ((l.length : Int) - 1) = (l.length : Int) - 1 := IntWalk.i64_in _ (by omega)
                have hcase : (decide (tv ≤ fv) = false) ∨ (decide (tv ≤ fv) = true ∧ decide (0 < k) = false) ∨ (decide (tv ≤ fv) = true ∧ decide (0 < k) = true ∧ decide ((k : Int) < (l.length : Int) - 1) = false) := by
                  by_cases h1 : tv ≤ fv
                  · by_cases h2 : 0 < k
                    · refine .inr (.inr ⟨decide_eq_true h1, decide_eq_true h2, decide_eq_false fun h3 => ?_⟩)
                      obtain ⟨j, rfl⟩ : ∃ j, k = j + 1 := ⟨k - 1, by omega⟩
                      have h4 := riseB_iff.1 HRISE.out j (by rw [HEL.out]; have := HELEN.out; omega)
                      rw [HEL.out, getD_at (by have := HELEN.out; omega), getD_at (by have := HELEN.out; omega), ← toV_at, ← toV_at, ← fromV_succ, HFV.out, HTV.out] at h4
                      omega
                    · exact .inr (.inl ⟨decide_eq_true h1, decide_eq_false h2⟩)
                  · exact .inl (decide_eq_false h1)
                clear hE1 hT1 hE2 hT2 hfW x1b n0b c3b x1w n0w c3w hls hks hfb hgo HBO
                rcases hcase with d1 | ⟨d1, d2⟩ | ⟨d1, d2, d3⟩
                ·
                  gi_wp2
                  refine wpIn_env (fin := ?fnra) (hwd) (by kernel_rfl) [93, 94, 95, 96, 97, 98, 99, 100, 101, 102, 103, 104, 105, 106, 107, 108, 109, 110, 111, 112, 113, 114, 115, 116, 117, 118, 119, 120, 121, 122, 123, 124, 125, 126, 127, 128, 129, 130]
                    [.int .i64 k, .int .i64 l.length, .bool false, .bool false, .pointer (some ⟨W.heap.size + 1, 0, none⟩), .int .i64 fv, .int .i64 fv, .bool false, .bool false, .bool false, .pointer (some ⟨W.heap.size + 1, 1, none⟩), .int .i64 tv, .pointer (some ⟨W.heap.size + 1, 0, none⟩), .int .i64 fv, .bool false, .bool false, undef, undef, .bool false, .bool false, undef, undef, undef, undef, .bool false, .bool false, .bool false, .pointer (some ⟨W.heap.size, 3, none⟩), .string x.fm, .pointer (some ⟨w.heap.size, 0, none⟩), .pointer (some ⟨w.heap.size, 1, none⟩), .slice (some ⟨bb, o, none⟩) l.length cA, .int .i64 k, .pointer (some ⟨bb, o + k * 12, none⟩), .pointer (some ⟨bb, o + k * 12 + 3, none⟩), .string x.fm, .bool false, .bool false] (by kernel_rfl) ?finra ?stepsra ?nextra
                  case finra =>
                    simp only [putAll, Act.put, List.setIfInBounds_toArray, List.set_cons_succ, List.set_cons_zero]
                    rfl
                  case stepsra =>
                    refine ⟨.inr ⟨by kernel_rfl, fun w1_ hB_ => ?_⟩, .inr ⟨by kernel_rfl, fun w1_ hB_ => ?_⟩, .inr ⟨by kernel_rfl, fun w1_ hB_ => ?_⟩, .inr ⟨by kernel_rfl, fun w1_ hB_ => ?_⟩, .inr ⟨by kernel_rfl, fun w1_ hB_ => ?_⟩, .inr ⟨by kernel_rfl, fun w1_ hB_ => ?_⟩, .inr ⟨by kernel_rfl, fun w1_ hB_ => ?_⟩, .inr ⟨by kernel_rfl, fun w1_ hB_ => ?_⟩, .inr ⟨by kernel_rfl, fun w1_ hB_ => ?_⟩, .inr ⟨by kernel_rfl, fun w1_ hB_ => ?_⟩, .inr ⟨by kernel_rfl, fun w1_ hB_ => ?_⟩, .inr ⟨by kernel_rfl, fun w1_ hB_ => ?_⟩, .inr ⟨by kernel_rfl, fun w1_ hB_ => ?_⟩, .inr ⟨by kernel_rfl, fun w1_ hB_ => ?_⟩, .inr ⟨by kernel_rfl, fun w1_ hB_ => ?_⟩, .inr ⟨by kernel_rfl, fun w1_ hB_ => ?_⟩, .inl ⟨by kernel_rfl, rfl⟩, .inl ⟨by kernel_rfl, rfl⟩, .inr ⟨by kernel_rfl, fun w1_ hB_ => ?_⟩, .inr ⟨by kernel_rfl, fun w1_ hB_ => ?_⟩, .inl ⟨by kernel_rfl, rfl⟩, .inl ⟨by kernel_rfl, rfl⟩, .inl ⟨by kernel_rfl, rfl⟩, .inl ⟨by kernel_rfl, rfl⟩, .inr ⟨by kernel_rfl, fun w1_ hB_ => ?_⟩, .inr ⟨by kernel_rfl, fun w1_ hB_ => ?_⟩, .inr ⟨by kernel_rfl, fun w1_ hB_ => ?_⟩, .inr ⟨by kernel_rfl, fun w1_ hB_ => ?_⟩, .inr ⟨by kernel_rfl, fun w1_ hB_ => ?_⟩, .inr ⟨by kernel_rfl, fun w1_ hB_ => ?_⟩, .inr ⟨by kernel_rfl, fun w1_ hB_ => ?_⟩, .inr ⟨by kernel_rfl, fun w1_ hB_ => ?_⟩, .inr ⟨by kernel_rfl, fun w1_ hB_ => ?_⟩, .inr ⟨by kernel_rfl, fun w1_ hB_ => ?_⟩, .inr ⟨by kernel_rfl, fun w1_ hB_ => ?_⟩, .inr ⟨by kernel_rfl, fun w1_ hB_ => ?_⟩, .inr ⟨by kernel_rfl, fun w1_ hB_ => ?_⟩, .inr ⟨by kernel_rfl, fun w1_ hB_ => ?_⟩, trivial⟩
                    all_goals
                      obtain ⟨q0, q1, q2, q3, q4, q5, q6, q7, q8⟩ := HQ.out _ hB_
                      go_simp
                      first
                        | exact ⟨rfl, Below.refl _ _⟩
                        | done
                        | (rw [decide_eq_true (by omega)]; exact ⟨rfl, Below.refl _ _⟩)
                        | (rw [decide_eq_false (by omega)]; exact ⟨rfl, Below.refl _ _⟩)
                        | (rw [if_pos (by omega)]; exact ⟨rfl, Below.refl _ _⟩)
                        | (rw [IntWalk.i64_in _ (by omega)]; exact ⟨rfl, Below.refl _ _⟩)
                        | done
                  case nextra =>
                  intro W3 hb3
                  obtain ⟨q0, q1, q2, q3, q4, q5, q6, q7, q8⟩ := HQ.out _ hb3
                  have hls := HLS.out.below hb3 HLS.out.lt
                  have hks := HKS.out.below hb3 HKS.out.lt
                  have lf := hls.frozen 0
                  have kf := hks.frozen 0
                  have HB3 := Lib.hid hb3
                  have hl3 := hls.lt
                  have hk3 := hks.lt
                  have HL3 := Lib.hid hls
                  have HK3 := Lib.hid hks
                  clear hb3 hls hks
                  gi_wp2
                  refine ⟨O, fun k h => .inl h, ?_, ?_, ⟨o1, o2⟩, ?_, ?_⟩
                  · exact ((HBB.out.fr (Fr.of_below (T := fun _ => True) HB3.out (Nat.le_refl _))).fr (Fr.setCell (T := fun _ => True) _ 0 _ trivial)).fr (Fr.setCell (T := fun _ => True) _ 0 _ trivial)
                  · exact ((Fr.of_below HB3.out (Nat.le_refl _)).then (Fr.setCell _ 0 _ (.inl o1))).then (Fr.setCell _ 0 _ (.inl o2))
                  · have h := (HL3.out.set 0 (.int .i64 tv)).other (b' := w5.heap.size + 1) (by omega) 0 (.int .i64 ((k : Int) + 1))
                    rw [List.length_append, List.length_singleton, HPK.out, fromV_succ, HTV.out]
                    exact h
                  · have h := (HK3.out.other (b' := w5.heap.size) (by omega) 0 (.int .i64 tv)).set 0 (.int .i64 ((k : Int) + 1))
                    rw [List.length_append, List.length_singleton, HPK.out]
                    exact h
                ·
                  gi_wp2
                  refine wpIn_env (fin := ?fnrb) (hwd) (by kernel_rfl) [93, 94, 95, 96, 97, 98, 99, 100, 101, 102, 103, 104, 105, 106, 107, 108, 109, 110, 111, 112, 113, 114, 115, 116, 117, 118, 119, 120, 121, 122, 123, 124, 125, 126, 127, 128, 129, 130]
                    [.int .i64 k, .int .i64 l.length, .bool false, .bool false, .pointer (some ⟨W.heap.size + 1, 0, none⟩), .int .i64 fv, .int .i64 fv, .bool false, .bool false, .bool false, .pointer (some ⟨W.heap.size + 1, 1, none⟩), .int .i64 tv, .pointer (some ⟨W.heap.size + 1, 0, none⟩), .int .i64 fv, .bool true, .bool true, .int .i64 k, .bool false, .bool false, .bool false, undef, undef, undef, undef, .bool false, .bool false, .bool false, .pointer (some ⟨W.heap.size, 3, none⟩), .string x.fm, .pointer (some ⟨w.heap.size, 0, none⟩), .pointer (some ⟨w.heap.size, 1, none⟩), .slice (some ⟨bb, o, none⟩) l.length cA, .int .i64 k, .pointer (some ⟨bb, o + k * 12, none⟩), .pointer (some ⟨bb, o + k * 12 + 3, none⟩), .string x.fm, .bool false, .bool false] (by kernel_rfl) ?finrb ?stepsrb ?nextrb
                  case finrb =>
                    simp only [putAll, Act.put, List.setIfInBounds_toArray, List.set_cons_succ, List.set_cons_zero]
                    rfl
                  case stepsrb =>
                    refine ⟨.inr ⟨by kernel_rfl, fun w1_ hB_ => ?_⟩, .inr ⟨by kernel_rfl, fun w1_ hB_ => ?_⟩, .inr ⟨by kernel_rfl, fun w1_ hB_ => ?_⟩, .inr ⟨by kernel_rfl, fun w1_ hB_ => ?_⟩, .inr ⟨by kernel_rfl, fun w1_ hB_ => ?_⟩, .inr ⟨by kernel_rfl, fun w1_ hB_ => ?_⟩, .inr ⟨by kernel_rfl, fun w1_ hB_ => ?_⟩, .inr ⟨by kernel_rfl, fun w1_ hB_ => ?_⟩, .inr ⟨by kernel_rfl, fun w1_ hB_ => ?_⟩, .inr ⟨by kernel_rfl, fun w1_ hB_ => ?_⟩, .inr ⟨by kernel_rfl, fun w1_ hB_ => ?_⟩, .inr ⟨by kernel_rfl, fun w1_ hB_ => ?_⟩, .inr ⟨by kernel_rfl, fun w1_ hB_ => ?_⟩, .inr ⟨by kernel_rfl, fun w1_ hB_ => ?_⟩, .inr ⟨by kernel_rfl, fun w1_ hB_ => ?_⟩, .inr ⟨by kernel_rfl, fun w1_ hB_ => ?_⟩, .inr ⟨by kernel_rfl, fun w1_ hB_ => ?_⟩, .inr ⟨by kernel_rfl, fun w1_ hB_ => ?_⟩, .inr ⟨by kernel_rfl, fun w1_ hB_ => ?_⟩, .inr ⟨by kernel_rfl, fun w1_ hB_ => ?_⟩, .inl ⟨by kernel_rfl, rfl⟩, .inl ⟨by kernel_rfl, rfl⟩, .inl ⟨by kernel_rfl, rfl⟩, .inl ⟨by kernel_rfl, rfl⟩, .inr ⟨by kernel_rfl, fun w1_ hB_ => ?_⟩, .inr ⟨by kernel_rfl, fun w1_ hB_ => ?_⟩, .inr ⟨by kernel_rfl, fun w1_ hB_ => ?_⟩, .inr ⟨by kernel_rfl, fun w1_ hB_ => ?_⟩, .inr ⟨by kernel_rfl, fun w1_ hB_ => ?_⟩, .inr ⟨by kernel_rfl, fun w1_ hB_ => ?_⟩, .inr ⟨by kernel_rfl, fun w1_ hB_ => ?_⟩, .inr ⟨by kernel_rfl, fun w1_ hB_ => ?_⟩, .inr ⟨by kernel_rfl, fun w1_ hB_ => ?_⟩, .inr ⟨by kernel_rfl, fun w1_ hB_ => ?_⟩, .inr ⟨by kernel_rfl, fun w1_ hB_ => ?_⟩, .inr ⟨by kernel_rfl, fun w1_ hB_ => ?_⟩, .inr ⟨by kernel_rfl, fun w1_ hB_ => ?_⟩, .inr ⟨by kernel_rfl, fun w1_ hB_ => ?_⟩, trivial⟩
                    all_goals
                      obtain ⟨q0, q1, q2, q3, q4, q5, q6, q7, q8⟩ := HQ.out _ hB_
                      go_simp
                      first
                        | exact ⟨rfl, Below.refl _ _⟩
                        | done
                        | (rw [decide_eq_true (by omega)]; exact ⟨rfl, Below.refl _ _⟩)
                        | (rw [decide_eq_false (by omega)]; exact ⟨rfl, Below.refl _ _⟩)
                        | (rw [if_pos (by omega)]; exact ⟨rfl, Below.refl _ _⟩)
                        | (rw [IntWalk.i64_in _ (by omega)]; exact ⟨rfl, Below.refl _ _⟩)
                        | done
                  case nextrb =>
                  intro W3 hb3
                  obtain ⟨q0, q1, q2, q3, q4, q5, q6, q7, q8⟩ := HQ.out _ hb3
                  have hls := HLS.out.below hb3 HLS.out.lt
                  have hks := HKS.out.below hb3 HKS.out.lt
                  have lf := hls.frozen 0
                  have kf := hks.frozen 0
                  have HB3 := Lib.hid hb3
                  have hl3 := hls.lt
                  have hk3 := hks.lt
                  have HL3 := Lib.hid hls
                  have HK3 := Lib.hid hks
                  clear hb3 hls hks
                  gi_wp2
                  refine ⟨O, fun k h => .inl h, ?_, ?_, ⟨o1, o2⟩, ?_, ?_⟩
                  · exact ((HBB.out.fr (Fr.of_below (T := fun _ => True) HB3.out (Nat.le_refl _))).fr (Fr.setCell (T := fun _ => True) _ 0 _ trivial)).fr (Fr.setCell (T := fun _ => True) _ 0 _ trivial)
                  · exact ((Fr.of_below HB3.out (Nat.le_refl _)).then (Fr.setCell _ 0 _ (.inl o1))).then (Fr.setCell _ 0 _ (.inl o2))
                  · have h := (HL3.out.set 0 (.int .i64 tv)).other (b' := w5.heap.size + 1) (by omega) 0 (.int .i64 ((k : Int) + 1))
                    rw [List.length_append, List.length_singleton, HPK.out, fromV_succ, HTV.out]
                    exact h
                  · have h := (HK3.out.other (b' := w5.heap.size) (by omega) 0 (.int .i64 tv)).set 0 (.int .i64 ((k : Int) + 1))
                    rw [List.length_append, List.length_singleton, HPK.out]
                    exact h
                ·
                  gi_wp2
                  refine wpIn_env (fin := ?fnrc) (hwd) (by kernel_rfl) [93, 94, 95, 96, 97, 98, 99, 100, 101, 102, 103, 104, 105, 106, 107, 108, 109, 110, 111, 112, 113, 114, 115, 116, 117, 118, 119, 120, 121, 122, 123, 124, 125, 126, 127, 128, 129, 130]
                    [.int .i64 k, .int .i64 l.length, .bool false, .bool false, .pointer (some ⟨W.heap.size + 1, 0, none⟩), .int .i64 fv, .int .i64 fv, .bool false, .bool false, .bool false, .pointer (some ⟨W.heap.size + 1, 1, none⟩), .int .i64 tv, .pointer (some ⟨W.heap.size + 1, 0, none⟩), .int .i64 fv, .bool true, .bool true, .int .i64 k, .bool true, .bool true, .bool true, .int .i64 k, .int .i64 l.length, .int .i64 ((l.length : Int) - 1), .bool false, .bool false, .bool false, .bool false, .pointer (some ⟨W.heap.size, 3, none⟩), .string x.fm, .pointer (some ⟨w.heap.size, 0, none⟩), .pointer (some ⟨w.heap.size, 1, none⟩), .slice (some ⟨bb, o, none⟩) l.length cA, .int .i64 k, .pointer (some ⟨bb, o + k * 12, none⟩), .pointer (some ⟨bb, o + k * 12 + 3, none⟩), .string x.fm, .bool false, .bool false] (by kernel_rfl) ?finrc ?stepsrc ?nextrc
                  case finrc =>
                    simp only [putAll, Act.put, List.setIfInBounds_toArray, List.set_cons_succ, List.set_cons_zero]
                    rfl
                  case stepsrc =>
                    refine ⟨.inr ⟨by kernel_rfl, fun w1_ hB_ => ?_⟩, .inr ⟨by kernel_rfl, fun w1_ hB_ => ?_⟩, .inr ⟨by kernel_rfl, fun w1_ hB_ => ?_⟩, .inr ⟨by kernel_rfl, fun w1_ hB_ => ?_⟩, .inr ⟨by kernel_rfl, fun w1_ hB_ => ?_⟩, .inr ⟨by kernel_rfl, fun w1_ hB_ => ?_⟩, .inr ⟨by kernel_rfl, fun w1_ hB_ => ?_⟩, .inr ⟨by kernel_rfl, fun w1_ hB_ => ?_⟩, .inr ⟨by kernel_rfl, fun w1_ hB_ => ?_⟩, .inr ⟨by kernel_rfl, fun w1_ hB_ => ?_⟩, .inr ⟨by kernel_rfl, fun w1_ hB_ => ?_⟩, .inr ⟨by kernel_rfl, fun w1_ hB_ => ?_⟩, .inr ⟨by kernel_rfl, fun w1_ hB_ => ?_⟩, .inr ⟨by kernel_rfl, fun w1_ hB_ => ?_⟩, .inr ⟨by kernel_rfl, fun w1_ hB_ => ?_⟩, .inr ⟨by kernel_rfl, fun w1_ hB_ => ?_⟩, .inr ⟨by kernel_rfl, fun w1_ hB_ => ?_⟩, .inr ⟨by kernel_rfl, fun w1_ hB_ => ?_⟩, .inr ⟨by kernel_rfl, fun w1_ hB_ => ?_⟩, .inr ⟨by kernel_rfl, fun w1_ hB_ => ?_⟩, .inr ⟨by kernel_rfl, fun w1_ hB_ => ?_⟩, .inr ⟨by kernel_rfl, fun w1_ hB_ => ?_⟩, .inr ⟨by kernel_rfl, fun w1_ hB_ => ?_⟩, .inr ⟨by kernel_rfl, fun w1_ hB_ => ?_⟩, .inr ⟨by kernel_rfl, fun w1_ hB_ => ?_⟩, .inr ⟨by kernel_rfl, fun w1_ hB_ => ?_⟩, .inr ⟨by kernel_rfl, fun w1_ hB_ => ?_⟩, .inr ⟨by kernel_rfl, fun w1_ hB_ => ?_⟩, .inr ⟨by kernel_rfl, fun w1_ hB_ => ?_⟩, .inr ⟨by kernel_rfl, fun w1_ hB_ => ?_⟩, .inr ⟨by kernel_rfl, fun w1_ hB_ => ?_⟩, .inr ⟨by kernel_rfl, fun w1_ hB_ => ?_⟩, .inr ⟨by kernel_rfl, fun w1_ hB_ => ?_⟩, .inr ⟨by kernel_rfl, fun w1_ hB_ => ?_⟩, .inr ⟨by kernel_rfl, fun w1_ hB_ => ?_⟩, .inr ⟨by kernel_rfl, fun w1_ hB_ => ?_⟩, .inr ⟨by kernel_rfl, fun w1_ hB_ => ?_⟩, .inr ⟨by kernel_rfl, fun w1_ hB_ => ?_⟩, trivial⟩
                    all_goals
                      obtain ⟨q0, q1, q2, q3, q4, q5, q6, q7, q8⟩ := HQ.out _ hB_
                      go_simp
                      first
                        | exact ⟨rfl, Below.refl _ _⟩
                        | done
                        | (rw [decide_eq_true (by omega)]; exact ⟨rfl, Below.refl _ _⟩)
                        | (rw [decide_eq_false (by omega)]; exact ⟨rfl, Below.refl _ _⟩)
                        | (rw [if_pos (by omega)]; exact ⟨rfl, Below.refl _ _⟩)
                        | (rw [IntWalk.i64_in _ (by omega)]; exact ⟨rfl, Below.refl _ _⟩)
                        | done
                  case nextrc =>
                  intro W3 hb3
                  obtain ⟨q0, q1, q2, q3, q4, q5, q6, q7, q8⟩ := HQ.out _ hb3
                  have hls := HLS.out.below hb3 HLS.out.lt
                  have hks := HKS.out.below hb3 HKS.out.lt
                  have lf := hls.frozen 0
                  have kf := hks.frozen 0
                  have HB3 := Lib.hid hb3
                  have hl3 := hls.lt
                  have hk3 := hks.lt
                  have HL3 := Lib.hid hls
                  have HK3 := Lib.hid hks
                  clear hb3 hls hks
                  gi_wp2
                  refine ⟨O, fun k h => .inl h, ?_, ?_, ⟨o1, o2⟩, ?_, ?_⟩
                  · exact ((HBB.out.fr (Fr.of_below (T := fun _ => True) HB3.out (Nat.le_refl _))).fr (Fr.setCell (T := fun _ => True) _ 0 _ trivial)).fr (Fr.setCell (T := fun _ => True) _ 0 _ trivial)
                  · exact ((Fr.of_below HB3.out (Nat.le_refl _)).then (Fr.setCell _ 0 _ (.inl o1))).then (Fr.setCell _ 0 _ (.inl o2))
                  · have h := (HL3.out.set 0 (.int .i64 tv)).other (b' := w5.heap.size + 1) (by omega) 0 (.int .i64 ((k : Int) + 1))
                    rw [List.length_append, List.length_singleton, HPK.out, fromV_succ, HTV.out]
                    exact h
                  · have h := (HK3.out.other (b' := w5.heap.size) (by omega) 0 (.int .i64 tv)).set 0 (.int .i64 ((k : Int) + 1))
                    rw [List.length_append, List.length_singleton, HPK.out]
                    exact h
              case done =>
                intro D xs O W hD hS hI hO hBO hOD hfr hK
                obtain ⟨⟨o1, o2⟩, hls, hks⟩ := hI
                have hxs : xs.length = l.length := hS
                rw [hxs] at hls hks
                have hfin : fromV EL l.length = 2199023255553 := by
                  obtain ⟨j, hj⟩ : ∃ j, l.length = j + 1 := ⟨l.length - 1, by omega⟩
                  rw [hj, fromV_succ, toV_out (by have := HELEN.out; omega)]
                rw [hfin] at hls
                have hbw : Below w5.heap.size w6 W := hfr.below (by omega) (fun k hk h => by rcases h with (h | h) | h <;> omega)
                have hb56 : Below w5.heap.size w5 W := HB6.out.trans hbw
                have HB7 := Lib.hid (HB5.out.trans (hb56.mono HB5.out.size))
                have HB7W := Lib.hid (HB0.out.trans (HB7.out.mono HB0.out.size))
                have HZ7 := Lib.hid (HZ0.out.below HB7.out)
                have HRR7 := Lib.hid (HRR.out.below HB7.out HRR.out.lt)
                have HXX7 := Lib.hid (HXX.out.below HB7.out HXX.out.lt)
                have HL7 := Lib.hid (HL0.out.below (HB7.out.mono HB0.out.size))
                have HVB := Lib.hid (HV5.out.below hb56 HV5.out.lt)
                have hv5l := HV5.out.lt
                have HVE7 := Lib.hid (HVE5.out.below (hb56.mono (Nat.le_of_lt hv5l)))
                have hW5 : w5.heap.size ≤ W.heap.size := hb56.size
                have hw3 : w.heap.size ≤ w3.heap.size := by have h1 := HB3.out.size; have h2 := HB0.out.size; omega
                have hset : SetsR W w3.heap.size (.slice A2 S.length cS) S := ⟨Sl.more HZ7.out.sets.1 hw3, fun s hs => Sl.more (HZ7.out.sets.2 s hs) hw3⟩
                have HZP := Lib.hid (ZW.mk HVE7.out hset HZ7.out.ahead (by have := HZ7.out.tab; omega) HZ7.out.maxl (by omega))
                have HF2 := Lib.hid (few_any W zn _ _ w3.heap.size (partL l u) S HVE7.out hset (by omega) (fun x hx => by have := few_fmP HFEW.out x hx; omega))
                have HKD := Lib.hid hK
                have HDR := Lib.hid (show D ≠ w.heap.size + 2 by omega)
                have HDW := Lib.hid (show w.heap.size ≤ D by omega)
                have hnb := HNN.out.below HB7.out HNN.out.lt
                have n0 := hnb.cell 0 (v := .int .i64 l.length) rfl
                have hnl := hnb.lt
                have l0 := hls.cell 0 (v := .int .i64 2199023255553) rfl
                have hll := hls.lt
                have k0 := hks.cell 0 (v := .int .i64 l.length) rfl
                have hkl := hks.lt
                have hvb := HVB.out.below ((Below.refl W.heap.size W)) HVB.out.lt
                have v0 := hvb.cell 0 (v := .string zn) rfl
                have v1 := hvb.cell 1 (v := .slice A5 (l.length + 1) c5) rfl
                have v2 := hvb.cell 2 (v := .slice A2 S.length cS) rfl
                have hvl := hvb.lt
                clear hvb
                obtain ⟨w7, hw7⟩ : ∃ x, x = W := ⟨_, rfl⟩
                subst hw7
                clear hD hS hO hBO hOD hfr hK o1 o2 hxs hfin hbw hb56 hset hnb hls hks HV5 HVE5 HVE7 heq
                unfold worldA at HF2
                cases hf2 : fewB (partL l u) S with
                | false =>
                  rw [hf2] at HF2
                  clear hf2
                  go_wp2_with fail
                  refine HF2.out.mono ?_
                  rintro o w8 ⟨rfl, hb⟩
                  have HB8 := Lib.hid hb
                  clear hb v0 v1 v2 l0 k0 n0
                  go_wp2_with fail
                  refine (awake_any _ ((HZ7.out.below (HB8.out)).maxl)).mono ?_
                  rintro o wz ⟨rfl, hbz⟩
                  have hbz0 := (HB8.out).trans (hbz.mono (HB8.out).size)
                  have hrz := HRR7.out.below hbz0 HRR7.out.lt
                  have gz := hrz.frozen 0
                  have cz := hrz.cell 0 (v := .bool false) rfl
                  have HBZ := Lib.hid (HB7W.out.trans (hbz0.mono HB7W.out.size))
                  have HZF := Lib.hid (fin_factsP HKD.out hbz0 hrz HDR.out)
                  clear hbz hbz0 hrz
                  go_wp2_with fail
                  refine ⟨by simp, .inl ⟨_, _, rfl, run_takeDeferred HZF.out.1, ?_⟩⟩
                  refine ⟨.bool true, ?_, rfl, fin_below (HBZ.out.setCell (by show w.heap.size ≤ w.heap.size + 1 + 1; omega) _) HDW.out⟩
                  have hc := HZF.out.2
                  simp [results, Tryz.f7, go_sem, hc]
                | true =>
                  rw [hf2] at HF2
                  have HFEW2 := Lib.hid hf2
                  clear hf2
                  go_wp2_with fail
                  refine HF2.out.mono ?_
                  rintro o w8 ⟨rfl, hb⟩
                  have HB8 := Lib.hid hb
                  clear hb v0 v1 v2 l0 k0 n0 hvl
                  have hvb := HVB.out.below (HB8.out) HVB.out.lt
                  have v0 := hvb.cell 0 (v := .string zn) rfl
                  have v1 := hvb.cell 1 (v := .slice A5 (l.length + 1) c5) rfl
                  have v2 := hvb.cell 2 (v := .slice A2 S.length cS) rfl
                  have hvl := hvb.lt
                  clear hvb
                  obtain ⟨E2, hE2⟩ : ∃ e, errZ S (partL l u) = e := ⟨_, rfl⟩
                  have HCK2 := Lib.hid (zcheckZ_any zn _ _ w3.heap.size (partL l u) S w8 (HZP.out.below HB8.out) (few_okP HFEW2.out))
                  rw [hE2] at HCK2
                  have HE2 := Lib.hid hE2
                  unfold setsV zoneA worldA at HCK2
                  clear hE2
                  by_cases hE0 : E2 = 0
                  · subst hE0
                    go_wp2_with fail
                    refine HCK2.out.mono ?_
                    rintro o w9 ⟨rfl, hb⟩
                    have HB9 := Lib.hid (HB8.out.trans (hb.mono HB8.out.size))
                    clear hb v0 v1 v2 hvl HCK2
                    go_wp2_with fail
                    go_loopw [18] (fun iv wr => ∃ k : Nat, k ≤ L.length ∧ iv = .int .i64 k ∧ Below w7.heap.size w7 wr) (fun iv _ => L.length - (intOf iv).toNat)
                    case atStart => exact ⟨0, Nat.zero_le _, rfl, HB9.out⟩
                    case round =>
                      obtain ⟨k, hk, rfl, hbi⟩ := hrel
                      have HBI := Lib.hid hbi
                      have hwsi := hbi.size
                      clear hbi
                      by_cases hlt : k < L.length
                      · have hd : decide ((k : Int) < (L.length : Int)) = true := decide_eq_true (by omega)
                        obtain ⟨bl, ol, cl', e, hbl, hcl⟩ := (HL7.out.below (HBI.out.mono (by omega))).cells (by omega)
                        cases e
                        have lc := hcl k hlt
                        obtain ⟨i, hi⟩ : ∃ i, L[k] = i := ⟨_, rfl⟩
                        rw [hi] at lc
                        have hblw : bl < wr.heap.size := by omega
                        have HN := Lib.hid (near_any i)
                        have LC := Lib.hid lc
                        clear hcl hi
                        cases hn : nearB i with
                        | false =>
                          rw [hn] at HN
                          clear hn
                          go_wp2_with fail
                          refine (HN.out _).mono ?_
                          rintro o w10 ⟨rfl, rfl⟩
                          go_wp2_with fail
                          go_roundw
                          case rel => exact ⟨k + 1, by omega, by go_num, HBI.out⟩
                          case measure => simp [intOf]; omega
                        | true =>
                          rw [hn] at HN
                          obtain ⟨a, d, s, er, hat⟩ := atZ_form S l i
                          have HA1 := Lib.hid (fun (V : World) (h : Below w7.heap.size w7 V) => zat_any zn (.slice A l.length cA) (.slice A2 S.length cS) w.heap.size l S i V (HZ7.out.below h) (few_okP HFEW.out) HLET.out)
                          have HA2 := Lib.hid (fun (V : World) (h : Below w7.heap.size w7 V) => zat_any zn (.slice A5 (l.length + 1) c5) (.slice A2 S.length cS) w3.heap.size (partL l u) S i V (HZP.out.below h) (few_okP HFEW2.out) HLET.out)
                          rw [parts_at HE.out HE2.out i] at HA2
                          rw [hat] at HA1 HA2
                          unfold setsV zoneA worldA at HA1 HA2
                          clear hn hat
                          go_wp2_with fail
                          refine (HN.out _).mono ?_
                          rintro o w10 ⟨rfl, rfl⟩
                          go_wp2_with fail
                          refine wp_envA (fin := ?fnp) (by kernel_rfl) [167, 168, 169, 170, 171, 172, 173, 174, 175, 166, 176, 177, 19, 999, 20]
                            [.pointer (some ⟨w.heap.size, 0, none⟩), .agg #[.string zn, .slice A l.length cA], .agg #[.string zn, .slice A l.length cA, .slice A2 S.length cS], .func (.func 17) #[.agg #[.string zn, .slice A l.length cA, .slice A2 S.length cS]] #[], .slice (some ⟨bl, ol, none⟩) L.length cL, .int .i64 k, .pointer (some ⟨bl, ol + k, none⟩), .int .i64 i, .tuple #[.agg #[.int .i64 a, .bool d, .string s], .int .i64 er], .tuple #[.agg #[.int .i64 a, .bool d, .string s], .int .i64 er], .agg #[.int .i64 a, .bool d, .string s], .int .i64 er, undef, undef, .int .i64 er] 12 13 41 #[.int .i64 0, .bool false, .string ⟨#[]⟩] #[.int .i64 a, .bool d, .string s] (by kernel_rfl) (by simp) (by decide) ?finp ?stepsp ?nextp
                          case finp =>
                            intro p_
                            simp only [List.set_cons_succ, List.set_cons_zero, putAll, Act.put, List.setIfInBounds_toArray, List.set_nil]
                            rfl
                          case stepsp =>
                            refine ⟨?_, ?_, ?_, ?_, ?_, ?_, ?_, ?_, ?_, ?_, ?_, ?_, ?_, ?_, ?_, trivial⟩
                            · intro p_
                              refine .inr ⟨by kernel_rfl, fun w1_ hB_ => ?_⟩
                              have hB0_ := HBI.out.trans (hB_.mono HBI.out.size)
                              have hxb_ := HXX7.out.below hB0_ HXX7.out.lt
                              have x0_ := hxb_.cell 0 (v := .string zn) rfl
                              have x1_ := hxb_.cell 1 (v := .slice A l.length cA) rfl
                              have x2_ := hxb_.cell 2 (v := .slice A2 S.length cS) rfl
                              have lc_ := (hB_.cell (p := ⟨bl, ol + k, none⟩) hblw).trans LC.out
                              go_simp
                              first
                                | exact ⟨rfl, Below.refl _ _⟩
                                | exact ⟨rfl, HA1.out _ hB0_⟩
                                | (rw [decide_eq_true (by omega)]; exact ⟨rfl, Below.refl _ _⟩)
                                | (rw [decide_eq_false (by omega)]; exact ⟨rfl, Below.refl _ _⟩)
                                | (rw [if_pos (by omega)]; exact ⟨rfl, Below.refl _ _⟩)
                                | (rw [IntWalk.i64_in _ (by omega)]; exact ⟨rfl, Below.refl _ _⟩)
                                | done
                            · intro p_
                              refine .inr ⟨by kernel_rfl, fun w1_ hB_ => ?_⟩
                              have hB0_ := HBI.out.trans (hB_.mono HBI.out.size)
                              have hxb_ := HXX7.out.below hB0_ HXX7.out.lt
                              have x0_ := hxb_.cell 0 (v := .string zn) rfl
                              have x1_ := hxb_.cell 1 (v := .slice A l.length cA) rfl
                              have x2_ := hxb_.cell 2 (v := .slice A2 S.length cS) rfl
                              have lc_ := (hB_.cell (p := ⟨bl, ol + k, none⟩) hblw).trans LC.out
                              go_simp
                              first
                                | exact ⟨rfl, Below.refl _ _⟩
                                | exact ⟨rfl, HA1.out _ hB0_⟩
                                | (rw [decide_eq_true (by omega)]; exact ⟨rfl, Below.refl _ _⟩)
                                | (rw [decide_eq_false (by omega)]; exact ⟨rfl, Below.refl _ _⟩)
                                | (rw [if_pos (by omega)]; exact ⟨rfl, Below.refl _ _⟩)
                                | (rw [IntWalk.i64_in _ (by omega)]; exact ⟨rfl, Below.refl _ _⟩)
                                | done
                            · intro p_
                              refine .inr ⟨by kernel_rfl, fun w1_ hB_ => ?_⟩
                              have hB0_ := HBI.out.trans (hB_.mono HBI.out.size)
                              have hxb_ := HXX7.out.below hB0_ HXX7.out.lt
                              have x0_ := hxb_.cell 0 (v := .string zn) rfl
                              have x1_ := hxb_.cell 1 (v := .slice A l.length cA) rfl
                              have x2_ := hxb_.cell 2 (v := .slice A2 S.length cS) rfl
                              have lc_ := (hB_.cell (p := ⟨bl, ol + k, none⟩) hblw).trans LC.out
                              go_simp
                              first
                                | exact ⟨rfl, Below.refl _ _⟩
                                | exact ⟨rfl, HA1.out _ hB0_⟩
                                | (rw [decide_eq_true (by omega)]; exact ⟨rfl, Below.refl _ _⟩)
                                | (rw [decide_eq_false (by omega)]; exact ⟨rfl, Below.refl _ _⟩)
                                | (rw [if_pos (by omega)]; exact ⟨rfl, Below.refl _ _⟩)
                                | (rw [IntWalk.i64_in _ (by omega)]; exact ⟨rfl, Below.refl _ _⟩)
                                | done
                            · intro p_
                              refine .inr ⟨by kernel_rfl, fun w1_ hB_ => ?_⟩
                              have hB0_ := HBI.out.trans (hB_.mono HBI.out.size)
                              have hxb_ := HXX7.out.below hB0_ HXX7.out.lt
                              have x0_ := hxb_.cell 0 (v := .string zn) rfl
                              have x1_ := hxb_.cell 1 (v := .slice A l.length cA) rfl
                              have x2_ := hxb_.cell 2 (v := .slice A2 S.length cS) rfl
                              have lc_ := (hB_.cell (p := ⟨bl, ol + k, none⟩) hblw).trans LC.out
                              go_simp
                              first
                                | exact ⟨rfl, Below.refl _ _⟩
                                | exact ⟨rfl, HA1.out _ hB0_⟩
                                | (rw [decide_eq_true (by omega)]; exact ⟨rfl, Below.refl _ _⟩)
                                | (rw [decide_eq_false (by omega)]; exact ⟨rfl, Below.refl _ _⟩)
                                | (rw [if_pos (by omega)]; exact ⟨rfl, Below.refl _ _⟩)
                                | (rw [IntWalk.i64_in _ (by omega)]; exact ⟨rfl, Below.refl _ _⟩)
                                | done
                            · intro p_
                              refine .inr ⟨by kernel_rfl, fun w1_ hB_ => ?_⟩
                              have hB0_ := HBI.out.trans (hB_.mono HBI.out.size)
                              have hxb_ := HXX7.out.below hB0_ HXX7.out.lt
                              have x0_ := hxb_.cell 0 (v := .string zn) rfl
                              have x1_ := hxb_.cell 1 (v := .slice A l.length cA) rfl
                              have x2_ := hxb_.cell 2 (v := .slice A2 S.length cS) rfl
                              have lc_ := (hB_.cell (p := ⟨bl, ol + k, none⟩) hblw).trans LC.out
                              go_simp
                              first
                                | exact ⟨rfl, Below.refl _ _⟩
                                | exact ⟨rfl, HA1.out _ hB0_⟩
                                | (rw [decide_eq_true (by omega)]; exact ⟨rfl, Below.refl _ _⟩)
                                | (rw [decide_eq_false (by omega)]; exact ⟨rfl, Below.refl _ _⟩)
                                | (rw [if_pos (by omega)]; exact ⟨rfl, Below.refl _ _⟩)
                                | (rw [IntWalk.i64_in _ (by omega)]; exact ⟨rfl, Below.refl _ _⟩)
                                | done
                            · intro p_
                              refine .inr ⟨by kernel_rfl, fun w1_ hB_ => ?_⟩
                              have hB0_ := HBI.out.trans (hB_.mono HBI.out.size)
                              have hxb_ := HXX7.out.below hB0_ HXX7.out.lt
                              have x0_ := hxb_.cell 0 (v := .string zn) rfl
                              have x1_ := hxb_.cell 1 (v := .slice A l.length cA) rfl
                              have x2_ := hxb_.cell 2 (v := .slice A2 S.length cS) rfl
                              have lc_ := (hB_.cell (p := ⟨bl, ol + k, none⟩) hblw).trans LC.out
                              go_simp
                              first
                                | exact ⟨rfl, Below.refl _ _⟩
                                | exact ⟨rfl, HA1.out _ hB0_⟩
                                | (rw [decide_eq_true (by omega)]; exact ⟨rfl, Below.refl _ _⟩)
                                | (rw [decide_eq_false (by omega)]; exact ⟨rfl, Below.refl _ _⟩)
                                | (rw [if_pos (by omega)]; exact ⟨rfl, Below.refl _ _⟩)
                                | (rw [IntWalk.i64_in _ (by omega)]; exact ⟨rfl, Below.refl _ _⟩)
                                | done
                            · intro p_
                              refine .inr ⟨by kernel_rfl, fun w1_ hB_ => ?_⟩
                              have hB0_ := HBI.out.trans (hB_.mono HBI.out.size)
                              have hxb_ := HXX7.out.below hB0_ HXX7.out.lt
                              have x0_ := hxb_.cell 0 (v := .string zn) rfl
                              have x1_ := hxb_.cell 1 (v := .slice A l.length cA) rfl
                              have x2_ := hxb_.cell 2 (v := .slice A2 S.length cS) rfl
                              have lc_ := (hB_.cell (p := ⟨bl, ol + k, none⟩) hblw).trans LC.out
                              go_simp
                              first
                                | exact ⟨rfl, Below.refl _ _⟩
                                | exact ⟨rfl, HA1.out _ hB0_⟩
                                | (rw [decide_eq_true (by omega)]; exact ⟨rfl, Below.refl _ _⟩)
                                | (rw [decide_eq_false (by omega)]; exact ⟨rfl, Below.refl _ _⟩)
                                | (rw [if_pos (by omega)]; exact ⟨rfl, Below.refl _ _⟩)
                                | (rw [IntWalk.i64_in _ (by omega)]; exact ⟨rfl, Below.refl _ _⟩)
                                | done
                            · intro p_
                              refine .inr ⟨by kernel_rfl, fun w1_ hB_ => ?_⟩
                              have hB0_ := HBI.out.trans (hB_.mono HBI.out.size)
                              have hxb_ := HXX7.out.below hB0_ HXX7.out.lt
                              have x0_ := hxb_.cell 0 (v := .string zn) rfl
                              have x1_ := hxb_.cell 1 (v := .slice A l.length cA) rfl
                              have x2_ := hxb_.cell 2 (v := .slice A2 S.length cS) rfl
                              have lc_ := (hB_.cell (p := ⟨bl, ol + k, none⟩) hblw).trans LC.out
                              go_simp
                              first
                                | exact ⟨rfl, Below.refl _ _⟩
                                | exact ⟨rfl, HA1.out _ hB0_⟩
                                | (rw [decide_eq_true (by omega)]; exact ⟨rfl, Below.refl _ _⟩)
                                | (rw [decide_eq_false (by omega)]; exact ⟨rfl, Below.refl _ _⟩)
                                | (rw [if_pos (by omega)]; exact ⟨rfl, Below.refl _ _⟩)
                                | (rw [IntWalk.i64_in _ (by omega)]; exact ⟨rfl, Below.refl _ _⟩)
                                | done
                            · intro p_
                              refine .inr ⟨by kernel_rfl, fun w1_ hB_ => ?_⟩
                              have hB0_ := HBI.out.trans (hB_.mono HBI.out.size)
                              have hxb_ := HXX7.out.below hB0_ HXX7.out.lt
                              have x0_ := hxb_.cell 0 (v := .string zn) rfl
                              have x1_ := hxb_.cell 1 (v := .slice A l.length cA) rfl
                              have x2_ := hxb_.cell 2 (v := .slice A2 S.length cS) rfl
                              have lc_ := (hB_.cell (p := ⟨bl, ol + k, none⟩) hblw).trans LC.out
                              go_simp
                              first
                                | exact ⟨rfl, Below.refl _ _⟩
                                | exact ⟨rfl, HA1.out _ hB0_⟩
                                | (rw [decide_eq_true (by omega)]; exact ⟨rfl, Below.refl _ _⟩)
                                | (rw [decide_eq_false (by omega)]; exact ⟨rfl, Below.refl _ _⟩)
                                | (rw [if_pos (by omega)]; exact ⟨rfl, Below.refl _ _⟩)
                                | (rw [IntWalk.i64_in _ (by omega)]; exact ⟨rfl, Below.refl _ _⟩)
                                | done
                            · intro p_
                              refine .inr ⟨by kernel_rfl, fun w1_ hB_ => ?_⟩
                              have hB0_ := HBI.out.trans (hB_.mono HBI.out.size)
                              have hxb_ := HXX7.out.below hB0_ HXX7.out.lt
                              have x0_ := hxb_.cell 0 (v := .string zn) rfl
                              have x1_ := hxb_.cell 1 (v := .slice A l.length cA) rfl
                              have x2_ := hxb_.cell 2 (v := .slice A2 S.length cS) rfl
                              have lc_ := (hB_.cell (p := ⟨bl, ol + k, none⟩) hblw).trans LC.out
                              go_simp
                              first
                                | exact ⟨rfl, Below.refl _ _⟩
                                | exact ⟨rfl, HA1.out _ hB0_⟩
                                | (rw [decide_eq_true (by omega)]; exact ⟨rfl, Below.refl _ _⟩)
                                | (rw [decide_eq_false (by omega)]; exact ⟨rfl, Below.refl _ _⟩)
                                | (rw [if_pos (by omega)]; exact ⟨rfl, Below.refl _ _⟩)
                                | (rw [IntWalk.i64_in _ (by omega)]; exact ⟨rfl, Below.refl _ _⟩)
                                | done
                            · intro p_
                              refine .inr ⟨by kernel_rfl, fun w1_ hB_ => ?_⟩
                              have hB0_ := HBI.out.trans (hB_.mono HBI.out.size)
                              have hxb_ := HXX7.out.below hB0_ HXX7.out.lt
                              have x0_ := hxb_.cell 0 (v := .string zn) rfl
                              have x1_ := hxb_.cell 1 (v := .slice A l.length cA) rfl
                              have x2_ := hxb_.cell 2 (v := .slice A2 S.length cS) rfl
                              have lc_ := (hB_.cell (p := ⟨bl, ol + k, none⟩) hblw).trans LC.out
                              go_simp
                              first
                                | exact ⟨rfl, Below.refl _ _⟩
                                | exact ⟨rfl, HA1.out _ hB0_⟩
                                | (rw [decide_eq_true (by omega)]; exact ⟨rfl, Below.refl _ _⟩)
                                | (rw [decide_eq_false (by omega)]; exact ⟨rfl, Below.refl _ _⟩)
                                | (rw [if_pos (by omega)]; exact ⟨rfl, Below.refl _ _⟩)
                                | (rw [IntWalk.i64_in _ (by omega)]; exact ⟨rfl, Below.refl _ _⟩)
                                | done
                            · intro p_
                              refine .inr ⟨by kernel_rfl, fun w1_ hB_ => ?_⟩
                              have hB0_ := HBI.out.trans (hB_.mono HBI.out.size)
                              have hxb_ := HXX7.out.below hB0_ HXX7.out.lt
                              have x0_ := hxb_.cell 0 (v := .string zn) rfl
                              have x1_ := hxb_.cell 1 (v := .slice A l.length cA) rfl
                              have x2_ := hxb_.cell 2 (v := .slice A2 S.length cS) rfl
                              have lc_ := (hB_.cell (p := ⟨bl, ol + k, none⟩) hblw).trans LC.out
                              go_simp
                              first
                                | exact ⟨rfl, Below.refl _ _⟩
                                | exact ⟨rfl, HA1.out _ hB0_⟩
                                | (rw [decide_eq_true (by omega)]; exact ⟨rfl, Below.refl _ _⟩)
                                | (rw [decide_eq_false (by omega)]; exact ⟨rfl, Below.refl _ _⟩)
                                | (rw [if_pos (by omega)]; exact ⟨rfl, Below.refl _ _⟩)
                                | (rw [IntWalk.i64_in _ (by omega)]; exact ⟨rfl, Below.refl _ _⟩)
                                | done
                            · refine ⟨fun p_ => by kernel_rfl, fun p_ w1_ hB_ => ?_⟩
                              first | rfl | (go_simp; done) | (go_simp; rfl)
                            · refine ⟨fun p_ => by kernel_rfl, fun b_ w1_ hb_ => ⟨(((w1_.setCell ⟨b_, 0, none⟩ (.int .i64 a)).setCell ⟨b_, 1, none⟩ (.bool d)).setCell ⟨b_, 2, none⟩ (.string s)), ?_, ((Fr.setCell (T := fun k => k = b_) w1_ 0 (.int .i64 a) rfl).then (Fr.setCell _ 1 _ rfl)).then (Fr.setCell _ 2 _ rfl), (((hb_.set 0 (.int .i64 a)).set 1 (.bool d)).set 2 (.string s))⟩⟩
                              have f0_ := Blk.frozen hb_ 0
                              have f1_ := Blk.frozen hb_ 1
                              have f2_ := Blk.frozen hb_ 2
                              have z0_ := Blk.cell hb_ 0 (v := .int .i64 0) rfl
                              have z1_ := Blk.cell hb_ 1 (v := .bool false) rfl
                              have z2_ := Blk.cell hb_ 2 (v := .string ⟨#[]⟩) rfl
                              go_simp
                              try rfl
                            · intro p_
                              refine .inr ⟨by kernel_rfl, fun w1_ hB_ => ?_⟩
                              have hB0_ := HBI.out.trans (hB_.mono HBI.out.size)
                              have hxb_ := HXX7.out.below hB0_ HXX7.out.lt
                              have x0_ := hxb_.cell 0 (v := .string zn) rfl
                              have x1_ := hxb_.cell 1 (v := .slice A l.length cA) rfl
                              have x2_ := hxb_.cell 2 (v := .slice A2 S.length cS) rfl
                              have lc_ := (hB_.cell (p := ⟨bl, ol + k, none⟩) hblw).trans LC.out
                              go_simp
                              first
                                | exact ⟨rfl, Below.refl _ _⟩
                                | exact ⟨rfl, HA1.out _ hB0_⟩
                                | (rw [decide_eq_true (by omega)]; exact ⟨rfl, Below.refl _ _⟩)
                                | (rw [decide_eq_false (by omega)]; exact ⟨rfl, Below.refl _ _⟩)
                                | (rw [if_pos (by omega)]; exact ⟨rfl, Below.refl _ _⟩)
                                | (rw [IntWalk.i64_in _ (by omega)]; exact ⟨rfl, Below.refl _ _⟩)
                                | done
                          case nextp =>
                          intro xb w11 hb11 hxb11 hX11
                          have HB11 := Lib.hid (HBI.out.trans (hb11.mono HBI.out.size))
                          have HX11 := Lib.hid hX11
                          have LC11 := Lib.hid ((hb11.cell (p := ⟨bl, ol + k, none⟩) hblw).trans LC.out)
                          have hbl11 : bl < w11.heap.size := Nat.lt_of_lt_of_le hblw hb11.size
                          clear hb11 hxb11 hX11 lc
                          go_wp2_with fail
                          refine wp_envA (fin := ?fnq) (by kernel_rfl) [179, 180, 181, 182, 183, 184, 185, 186, 187, 178, 188, 189, 21, 999, 22]
                            [.pointer (some ⟨w3.heap.size, 0, none⟩), .agg #[.string zn, .slice A5 (l.length + 1) c5], .agg #[.string zn, .slice A5 (l.length + 1) c5, .slice A2 S.length cS], .func (.func 17) #[.agg #[.string zn, .slice A5 (l.length + 1) c5, .slice A2 S.length cS]] #[], .slice (some ⟨bl, ol, none⟩) L.length cL, .int .i64 k, .pointer (some ⟨bl, ol + k, none⟩), .int .i64 i, .tuple #[.agg #[.int .i64 a, .bool d, .string s], .int .i64 er], .tuple #[.agg #[.int .i64 a, .bool d, .string s], .int .i64 er], .agg #[.int .i64 a, .bool d, .string s], .int .i64 er, undef, undef, .int .i64 er] 12 13 41 #[.int .i64 0, .bool false, .string ⟨#[]⟩] #[.int .i64 a, .bool d, .string s] (by kernel_rfl) (by simp) (by decide) ?finq ?stepsq ?nextq
                          case finq =>
                            intro p_
                            simp only [List.set_cons_succ, List.set_cons_zero, putAll, Act.put, List.setIfInBounds_toArray, List.set_nil]
                            rfl
                          case stepsq =>
                            refine ⟨?_, ?_, ?_, ?_, ?_, ?_, ?_, ?_, ?_, ?_, ?_, ?_, ?_, ?_, ?_, trivial⟩
                            · intro p_
                              refine .inr ⟨by kernel_rfl, fun w1_ hB_ => ?_⟩
                              have hB0_ := HB11.out.trans (hB_.mono HB11.out.size)
                              have hxb_ := HVB.out.below hB0_ HVB.out.lt
                              have x0_ := hxb_.cell 0 (v := .string zn) rfl
                              have x1_ := hxb_.cell 1 (v := .slice A5 (l.length + 1) c5) rfl
                              have x2_ := hxb_.cell 2 (v := .slice A2 S.length cS) rfl
                              have lc_ := (hB_.cell (p := ⟨bl, ol + k, none⟩) hbl11).trans LC11.out
                              go_simp
                              first
                                | exact ⟨rfl, Below.refl _ _⟩
                                | exact ⟨rfl, HA2.out _ hB0_⟩
                                | (rw [decide_eq_true (by omega)]; exact ⟨rfl, Below.refl _ _⟩)
                                | (rw [decide_eq_false (by omega)]; exact ⟨rfl, Below.refl _ _⟩)
                                | (rw [if_pos (by omega)]; exact ⟨rfl, Below.refl _ _⟩)
                                | (rw [IntWalk.i64_in _ (by omega)]; exact ⟨rfl, Below.refl _ _⟩)
                                | done
                            · intro p_
                              refine .inr ⟨by kernel_rfl, fun w1_ hB_ => ?_⟩
                              have hB0_ := HB11.out.trans (hB_.mono HB11.out.size)
                              have hxb_ := HVB.out.below hB0_ HVB.out.lt
                              have x0_ := hxb_.cell 0 (v := .string zn) rfl
                              have x1_ := hxb_.cell 1 (v := .slice A5 (l.length + 1) c5) rfl
                              have x2_ := hxb_.cell 2 (v := .slice A2 S.length cS) rfl
                              have lc_ := (hB_.cell (p := ⟨bl, ol + k, none⟩) hbl11).trans LC11.out
                              go_simp
                              first
                                | exact ⟨rfl, Below.refl _ _⟩
                                | exact ⟨rfl, HA2.out _ hB0_⟩
                                | (rw [decide_eq_true (by omega)]; exact ⟨rfl, Below.refl _ _⟩)
                                | (rw [decide_eq_false (by omega)]; exact ⟨rfl, Below.refl _ _⟩)
                                | (rw [if_pos (by omega)]; exact ⟨rfl, Below.refl _ _⟩)
                                | (rw [IntWalk.i64_in _ (by omega)]; exact ⟨rfl, Below.refl _ _⟩)
                                | done
                            · intro p_
                              refine .inr ⟨by kernel_rfl, fun w1_ hB_ => ?_⟩
                              have hB0_ := HB11.out.trans (hB_.mono HB11.out.size)
                              have hxb_ := HVB.out.below hB0_ HVB.out.lt
                              have x0_ := hxb_.cell 0 (v := .string zn) rfl
                              have x1_ := hxb_.cell 1 (v := .slice A5 (l.length + 1) c5) rfl
                              have x2_ := hxb_.cell 2 (v := .slice A2 S.length cS) rfl
                              have lc_ := (hB_.cell (p := ⟨bl, ol + k, none⟩) hbl11).trans LC11.out
                              go_simp
                              first
                                | exact ⟨rfl, Below.refl _ _⟩
                                | exact ⟨rfl, HA2.out _ hB0_⟩
                                | (rw [decide_eq_true (by omega)]; exact ⟨rfl, Below.refl _ _⟩)
                                | (rw [decide_eq_false (by omega)]; exact ⟨rfl, Below.refl _ _⟩)
                                | (rw [if_pos (by omega)]; exact ⟨rfl, Below.refl _ _⟩)
                                | (rw [IntWalk.i64_in _ (by omega)]; exact ⟨rfl, Below.refl _ _⟩)
                                | done
                            · intro p_
                              refine .inr ⟨by kernel_rfl, fun w1_ hB_ => ?_⟩
                              have hB0_ := HB11.out.trans (hB_.mono HB11.out.size)
                              have hxb_ := HVB.out.below hB0_ HVB.out.lt
                              have x0_ := hxb_.cell 0 (v := .string zn) rfl
                              have x1_ := hxb_.cell 1 (v := .slice A5 (l.length + 1) c5) rfl
                              have x2_ := hxb_.cell 2 (v := .slice A2 S.length cS) rfl
                              have lc_ := (hB_.cell (p := ⟨bl, ol + k, none⟩) hbl11).trans LC11.out
                              go_simp
                              first
                                | exact ⟨rfl, Below.refl _ _⟩
                                | exact ⟨rfl, HA2.out _ hB0_⟩
                                | (rw [decide_eq_true (by omega)]; exact ⟨rfl, Below.refl _ _⟩)
                                | (rw [decide_eq_false (by omega)]; exact ⟨rfl, Below.refl _ _⟩)
                                | (rw [if_pos (by omega)]; exact ⟨rfl, Below.refl _ _⟩)
                                | (rw [IntWalk.i64_in _ (by omega)]; exact ⟨rfl, Below.refl _ _⟩)
                                | done
                            · intro p_
                              refine .inr ⟨by kernel_rfl, fun w1_ hB_ => ?_⟩
                              have hB0_ := HB11.out.trans (hB_.mono HB11.out.size)
                              have hxb_ := HVB.out.below hB0_ HVB.out.lt
                              have x0_ := hxb_.cell 0 (v := .string zn) rfl
                              have x1_ := hxb_.cell 1 (v := .slice A5 (l.length + 1) c5) rfl
                              have x2_ := hxb_.cell 2 (v := .slice A2 S.length cS) rfl
                              have lc_ := (hB_.cell (p := ⟨bl, ol + k, none⟩) hbl11).trans LC11.out
                              go_simp
                              first
                                | exact ⟨rfl, Below.refl _ _⟩
                                | exact ⟨rfl, HA2.out _ hB0_⟩
                                | (rw [decide_eq_true (by omega)]; exact ⟨rfl, Below.refl _ _⟩)
                                | (rw [decide_eq_false (by omega)]; exact ⟨rfl, Below.refl _ _⟩)
                                | (rw [if_pos (by omega)]; exact ⟨rfl, Below.refl _ _⟩)
                                | (rw [IntWalk.i64_in _ (by omega)]; exact ⟨rfl, Below.refl _ _⟩)
                                | done
                            · intro p_
                              refine .inr ⟨by kernel_rfl, fun w1_ hB_ => ?_⟩
                              have hB0_ := HB11.out.trans (hB_.mono HB11.out.size)
                              have hxb_ := HVB.out.below hB0_ HVB.out.lt
                              have x0_ := hxb_.cell 0 (v := .string zn) rfl
                              have x1_ := hxb_.cell 1 (v := .slice A5 (l.length + 1) c5) rfl
                              have x2_ := hxb_.cell 2 (v := .slice A2 S.length cS) rfl
                              have lc_ := (hB_.cell (p := ⟨bl, ol + k, none⟩) hbl11).trans LC11.out
                              go_simp
                              first
                                | exact ⟨rfl, Below.refl _ _⟩
                                | exact ⟨rfl, HA2.out _ hB0_⟩
                                | (rw [decide_eq_true (by omega)]; exact ⟨rfl, Below.refl _ _⟩)
                                | (rw [decide_eq_false (by omega)]; exact ⟨rfl, Below.refl _ _⟩)
                                | (rw [if_pos (by omega)]; exact ⟨rfl, Below.refl _ _⟩)
                                | (rw [IntWalk.i64_in _ (by omega)]; exact ⟨rfl, Below.refl _ _⟩)
                                | done
                            · intro p_
                              refine .inr ⟨by kernel_rfl, fun w1_ hB_ => ?_⟩
                              have hB0_ := HB11.out.trans (hB_.mono HB11.out.size)
                              have hxb_ := HVB.out.below hB0_ HVB.out.lt
                              have x0_ := hxb_.cell 0 (v := .string zn) rfl
                              have x1_ := hxb_.cell 1 (v := .slice A5 (l.length + 1) c5) rfl
                              have x2_ := hxb_.cell 2 (v := .slice A2 S.length cS) rfl
                              have lc_ := (hB_.cell (p := ⟨bl, ol + k, none⟩) hbl11).trans LC11.out
                              go_simp
                              first
                                | exact ⟨rfl, Below.refl _ _⟩
                                | exact ⟨rfl, HA2.out _ hB0_⟩
                                | (rw [decide_eq_true (by omega)]; exact ⟨rfl, Below.refl _ _⟩)
                                | (rw [decide_eq_false (by omega)]; exact ⟨rfl, Below.refl _ _⟩)
                                | (rw [if_pos (by omega)]; exact ⟨rfl, Below.refl _ _⟩)
                                | (rw [IntWalk.i64_in _ (by omega)]; exact ⟨rfl, Below.refl _ _⟩)
                                | done
                            · intro p_
                              refine .inr ⟨by kernel_rfl, fun w1_ hB_ => ?_⟩
                              have hB0_ := HB11.out.trans (hB_.mono HB11.out.size)
                              have hxb_ := HVB.out.below hB0_ HVB.out.lt
                              have x0_ := hxb_.cell 0 (v := .string zn) rfl
                              have x1_ := hxb_.cell 1 (v := .slice A5 (l.length + 1) c5) rfl
                              have x2_ := hxb_.cell 2 (v := .slice A2 S.length cS) rfl
                              have lc_ := (hB_.cell (p := ⟨bl, ol + k, none⟩) hbl11).trans LC11.out
                              go_simp
                              first
                                | exact ⟨rfl, Below.refl _ _⟩
                                | exact ⟨rfl, HA2.out _ hB0_⟩
                                | (rw [decide_eq_true (by omega)]; exact ⟨rfl, Below.refl _ _⟩)
                                | (rw [decide_eq_false (by omega)]; exact ⟨rfl, Below.refl _ _⟩)
                                | (rw [if_pos (by omega)]; exact ⟨rfl, Below.refl _ _⟩)
                                | (rw [IntWalk.i64_in _ (by omega)]; exact ⟨rfl, Below.refl _ _⟩)
                                | done
                            · intro p_
                              refine .inr ⟨by kernel_rfl, fun w1_ hB_ => ?_⟩
                              have hB0_ := HB11.out.trans (hB_.mono HB11.out.size)
                              have hxb_ := HVB.out.below hB0_ HVB.out.lt
                              have x0_ := hxb_.cell 0 (v := .string zn) rfl
                              have x1_ := hxb_.cell 1 (v := .slice A5 (l.length + 1) c5) rfl
                              have x2_ := hxb_.cell 2 (v := .slice A2 S.length cS) rfl
                              have lc_ := (hB_.cell (p := ⟨bl, ol + k, none⟩) hbl11).trans LC11.out
                              go_simp
                              first
                                | exact ⟨rfl, Below.refl _ _⟩
                                | exact ⟨rfl, HA2.out _ hB0_⟩
                                | (rw [decide_eq_true (by omega)]; exact ⟨rfl, Below.refl _ _⟩)
                                | (rw [decide_eq_false (by omega)]; exact ⟨rfl, Below.refl _ _⟩)
                                | (rw [if_pos (by omega)]; exact ⟨rfl, Below.refl _ _⟩)
                                | (rw [IntWalk.i64_in _ (by omega)]; exact ⟨rfl, Below.refl _ _⟩)
                                | done
                            · intro p_
                              refine .inr ⟨by kernel_rfl, fun w1_ hB_ => ?_⟩
                              have hB0_ := HB11.out.trans (hB_.mono HB11.out.size)
                              have hxb_ := HVB.out.below hB0_ HVB.out.lt
                              have x0_ := hxb_.cell 0 (v := .string zn) rfl
                              have x1_ := hxb_.cell 1 (v := .slice A5 (l.length + 1) c5) rfl
                              have x2_ := hxb_.cell 2 (v := .slice A2 S.length cS) rfl
                              have lc_ := (hB_.cell (p := ⟨bl, ol + k, none⟩) hbl11).trans LC11.out
                              go_simp
                              first
                                | exact ⟨rfl, Below.refl _ _⟩
                                | exact ⟨rfl, HA2.out _ hB0_⟩
                                | (rw [decide_eq_true (by omega)]; exact ⟨rfl, Below.refl _ _⟩)
                                | (rw [decide_eq_false (by omega)]; exact ⟨rfl, Below.refl _ _⟩)
                                | (rw [if_pos (by omega)]; exact ⟨rfl, Below.refl _ _⟩)
                                | (rw [IntWalk.i64_in _ (by omega)]; exact ⟨rfl, Below.refl _ _⟩)
                                | done
                            · intro p_
                              refine .inr ⟨by kernel_rfl, fun w1_ hB_ => ?_⟩
                              have hB0_ := HB11.out.trans (hB_.mono HB11.out.size)
                              have hxb_ := HVB.out.below hB0_ HVB.out.lt
                              have x0_ := hxb_.cell 0 (v := .string zn) rfl
                              have x1_ := hxb_.cell 1 (v := .slice A5 (l.length + 1) c5) rfl
                              have x2_ := hxb_.cell 2 (v := .slice A2 S.length cS) rfl
                              have lc_ := (hB_.cell (p := ⟨bl, ol + k, none⟩) hbl11).trans LC11.out
                              go_simp
                              first
                                | exact ⟨rfl, Below.refl _ _⟩
                                | exact ⟨rfl, HA2.out _ hB0_⟩
                                | (rw [decide_eq_true (by omega)]; exact ⟨rfl, Below.refl _ _⟩)
                                | (rw [decide_eq_false (by omega)]; exact ⟨rfl, Below.refl _ _⟩)
                                | (rw [if_pos (by omega)]; exact ⟨rfl, Below.refl _ _⟩)
                                | (rw [IntWalk.i64_in _ (by omega)]; exact ⟨rfl, Below.refl _ _⟩)
                                | done
                            · intro p_
                              refine .inr ⟨by kernel_rfl, fun w1_ hB_ => ?_⟩
                              have hB0_ := HB11.out.trans (hB_.mono HB11.out.size)
                              have hxb_ := HVB.out.below hB0_ HVB.out.lt
                              have x0_ := hxb_.cell 0 (v := .string zn) rfl
                              have x1_ := hxb_.cell 1 (v := .slice A5 (l.length + 1) c5) rfl
                              have x2_ := hxb_.cell 2 (v := .slice A2 S.length cS) rfl
                              have lc_ := (hB_.cell (p := ⟨bl, ol + k, none⟩) hbl11).trans LC11.out
                              go_simp
                              first
                                | exact ⟨rfl, Below.refl _ _⟩
                                | exact ⟨rfl, HA2.out _ hB0_⟩
                                | (rw [decide_eq_true (by omega)]; exact ⟨rfl, Below.refl _ _⟩)
                                | (rw [decide_eq_false (by omega)]; exact ⟨rfl, Below.refl _ _⟩)
                                | (rw [if_pos (by omega)]; exact ⟨rfl, Below.refl _ _⟩)
                                | (rw [IntWalk.i64_in _ (by omega)]; exact ⟨rfl, Below.refl _ _⟩)
                                | done
                            · refine ⟨fun p_ => by kernel_rfl, fun p_ w1_ hB_ => ?_⟩
                              first | rfl | (go_simp; done) | (go_simp; rfl)
                            · refine ⟨fun p_ => by kernel_rfl, fun b_ w1_ hb_ => ⟨(((w1_.setCell ⟨b_, 0, none⟩ (.int .i64 a)).setCell ⟨b_, 1, none⟩ (.bool d)).setCell ⟨b_, 2, none⟩ (.string s)), ?_, ((Fr.setCell (T := fun k => k = b_) w1_ 0 (.int .i64 a) rfl).then (Fr.setCell _ 1 _ rfl)).then (Fr.setCell _ 2 _ rfl), (((hb_.set 0 (.int .i64 a)).set 1 (.bool d)).set 2 (.string s))⟩⟩
                              have f0_ := Blk.frozen hb_ 0
                              have f1_ := Blk.frozen hb_ 1
                              have f2_ := Blk.frozen hb_ 2
                              have z0_ := Blk.cell hb_ 0 (v := .int .i64 0) rfl
                              have z1_ := Blk.cell hb_ 1 (v := .bool false) rfl
                              have z2_ := Blk.cell hb_ 2 (v := .string ⟨#[]⟩) rfl
                              go_simp
                              try rfl
                            · intro p_
                              refine .inr ⟨by kernel_rfl, fun w1_ hB_ => ?_⟩
                              have hB0_ := HB11.out.trans (hB_.mono HB11.out.size)
                              have hxb_ := HVB.out.below hB0_ HVB.out.lt
                              have x0_ := hxb_.cell 0 (v := .string zn) rfl
                              have x1_ := hxb_.cell 1 (v := .slice A5 (l.length + 1) c5) rfl
                              have x2_ := hxb_.cell 2 (v := .slice A2 S.length cS) rfl
                              have lc_ := (hB_.cell (p := ⟨bl, ol + k, none⟩) hbl11).trans LC11.out
                              go_simp
                              first
                                | exact ⟨rfl, Below.refl _ _⟩
                                | exact ⟨rfl, HA2.out _ hB0_⟩
                                | (rw [decide_eq_true (by omega)]; exact ⟨rfl, Below.refl _ _⟩)
                                | (rw [decide_eq_false (by omega)]; exact ⟨rfl, Below.refl _ _⟩)
                                | (rw [if_pos (by omega)]; exact ⟨rfl, Below.refl _ _⟩)
                                | (rw [IntWalk.i64_in _ (by omega)]; exact ⟨rfl, Below.refl _ _⟩)
                                | done
                          case nextq =>
                          intro xc w12 hb12 hxc12 hX12
                          have HB12 := Lib.hid (HB11.out.trans (hb12.mono HB11.out.size))
                          have hx12 := HX11.out.below hb12 HX11.out.lt
                          have m0 := hx12.cell 0 (v := .int .i64 a) rfl
                          have m1 := hx12.cell 1 (v := .bool d) rfl
                          have m2 := hx12.cell 2 (v := .string s) rfl
                          have p0 := hX12.cell 0 (v := .int .i64 a) rfl
                          have p1 := hX12.cell 1 (v := .bool d) rfl
                          have p2 := hX12.cell 2 (v := .string s) rfl
                          have hml := hx12.lt
                          have hpl := hX12.lt
                          clear hb12 hxc12 hX12 hx12 HA1 HA2
                          go_wp2_with fail
                          go_roundw
                          case rel => exact ⟨k + 1, by omega, by go_num, HB12.out⟩
                          case measure => simp [intOf]; omega
                      · obtain rfl : k = L.length := by omega
                        have hd : decide ((L.length : Int) < (L.length : Int)) = false := decide_eq_false (by omega)
                        go_wp2_with fail
                        refine (awake_any _ ((HZ7.out.below (HBI.out)).maxl)).mono ?_
                        rintro o wz ⟨rfl, hbz⟩
                        have hbz0 := (HBI.out).trans (hbz.mono (HBI.out).size)
                        have hrz := HRR7.out.below hbz0 HRR7.out.lt
                        have gz := hrz.frozen 0
                        have cz := hrz.cell 0 (v := .bool false) rfl
                        have HBZ := Lib.hid (HB7W.out.trans (hbz0.mono HB7W.out.size))
                        have HZF := Lib.hid (fin_factsP HKD.out hbz0 hrz HDR.out)
                        clear hbz hbz0 hrz
                        go_wp2_with fail
                        refine ⟨by simp, .inl ⟨_, _, rfl, run_takeDeferred HZF.out.1, ?_⟩⟩
                        refine ⟨.bool true, ?_, rfl, fin_below (HBZ.out.setCell (by show w.heap.size ≤ w.heap.size + 1 + 1; omega) _) HDW.out⟩
                        have hc := HZF.out.2
                        simp [results, Tryz.f7, go_sem, hc]
                  · have he0 : (E2 != 0) = true := by simpa using hE0
                    clear hE0
                    go_wp2_with fail
                    refine HCK2.out.mono ?_
                    rintro o w9 ⟨rfl, hb⟩
                    have HB9 := Lib.hid (HB8.out.trans (hb.mono HB8.out.size))
                    clear hb v0 v1 v2 hvl HCK2
                    go_wp2_with fail
                    refine (awake_any _ ((HZ7.out.below (HB9.out)).maxl)).mono ?_
                    rintro o wz ⟨rfl, hbz⟩
                    have hbz0 := (HB9.out).trans (hbz.mono (HB9.out).size)
                    have hrz := HRR7.out.below hbz0 HRR7.out.lt
                    have gz := hrz.frozen 0
                    have cz := hrz.cell 0 (v := .bool false) rfl
                    have HBZ := Lib.hid (HB7W.out.trans (hbz0.mono HB7W.out.size))
                    have HZF := Lib.hid (fin_factsP HKD.out hbz0 hrz HDR.out)
                    clear hbz hbz0 hrz
                    go_wp2_with fail
                    refine ⟨by simp, .inl ⟨_, _, rfl, run_takeDeferred HZF.out.1, ?_⟩⟩
                    refine ⟨.bool true, ?_, rfl, fin_below (HBZ.out.setCell (by show w.heap.size ≤ w.heap.size + 1 + 1; omega) _) HDW.out⟩
                    have hc := HZF.out.2
                    simp [results, Tryz.f7, go_sem, hc]
      · have he0 : (E != 0) = true := by simpa using hE0
        clear hE0
        go_wp2_with fail
        refine HCK.out.mono ?_
        rintro o w2 ⟨rfl, hb⟩
        have HB2 := Lib.hid (HB1.out.trans (hb.mono HB1.out.size))
        clear hb x0 x1 x2 n0
        go_wp2_with fail
        refine (awake_any _ ((HZ0.out.below (HB2.out)).maxl)).mono ?_
        rintro o wz ⟨rfl, hbz⟩
        have hbz0 := (HB2.out).trans (hbz.mono (HB2.out).size)
        have hrz := HRR.out.below hbz0 HRR.out.lt
        have gz := hrz.frozen 0
        have cz := hrz.cell 0 (v := .bool false) rfl
        have HBZ := Lib.hid (HB0.out.trans (hbz0.mono HB0.out.size))
        have HRZ := Lib.hid hrz
        clear hbz hbz0 hrz
        go_wp2_with fail
        refine ⟨.bool true, ?_, rfl, HBZ.out.setCell (by show w.heap.size ≤ w.heap.size + 1 + 1; omega) _⟩
        have hc := (HRZ.out.set 0 (.bool true)).cell 0 (v := .bool true) rfl
        simp [results, Tryz.f7, go_sem, hc]
end Go.Proofs.YtonmmgcibpjahaaGreatDoor
end

section
/- FOpen: From the rows' readings of rules to the words of the walks; the table of days. -/
namespace Go.Proofs.YtonmmgcibpjahaaGreatDoor
open Go Go.ChangeShapes Go.WideShapes Go.ChangeAt Go.RowKit Go.Deep

set_option maxRecDepth 100000
def aheadI : List Int := [0, 31, 59, 90, 120, 151, 181, 212, 243, 273, 304, 334, 365]
/-- What the rows' list gives. -/
theorem ahead_of {W : World} (h : laidMetH Tryz.prog [("meridian/civil.ahead", Rows.laid_meridian_civil_ahead)] W) : Ahead W := fun i hi => by
  have ht : Lib.TabIs Tryz.prog W "meridian/civil.ahead" .i64 aheadI := Lib.tabIs_of_head (rest := []) (g := 0) (by kernel_rfl) (by kernel_rfl) Tryz.underlying193 Tryz.underlying3 (by kernel_rfl) (by kernel_rfl) h
  have hc := ht.cell (g := 0) (by kernel_rfl) i (by simpa [aheadI] using hi)
  rw [hc]
  have : i = 0 ∨ i = 1 ∨ i = 2 ∨ i = 3 ∨ i = 4 ∨ i = 5 ∨ i = 6 ∨ i = 7 ∨ i = 8 ∨ i = 9 ∨ i = 10 ∨ i = 11 ∨ i = 12 := by omega
  rcases this with h | h | h | h | h | h | h | h | h | h | h | h | h <;> subst h <;> rfl
theorem open_int3 {H : Type} {enc : TypeId × Value → H} {P : Program} {W : World} {T E : TypeId} {r : Reach} {base : Nat} {v : Value} {d : DataW H} {p : List MemPlace} (hT : P.underlying T = some (.array 3 E)) (hE : P.underlying E = some (.int .i64)) (hC : P.cellsOf E = 1) (hCT : P.cellsOf T = 3)
    (hok : Value.okWide P W r base T v) (h : DataW.Trod enc P W 0 (fun _ => true) true T v d p) :
    ∃ a b c : Int, v = .agg #[.int .i64 a, .int .i64 b, .int .i64 c] ∧ (-9223372036854775808 ≤ a ∧ a ≤ 9223372036854775807) ∧ (-9223372036854775808 ≤ b ∧ b ≤ 9223372036854775807) ∧ (-9223372036854775808 ≤ c ∧ c ≤ 9223372036854775807) := by
  simp only [Value.okWide, hT] at hok
  obtain ⟨cs, rfl, hsz, _⟩ := hok
  obtain ⟨fuel, hf⟩ := h
  obtain ⟨xs, m, _, _, _, hl, hel⟩ := DataW.trod_array hT hf
  rw [hCT] at hsz
  obtain ⟨l⟩ := cs
  match l, hsz with
  | [c0, c1, c2], _ =>
    match xs, hl with
    | [x0, x1, x2], _ =>
      have h0 := hel 0 (by omega)
      have h1 := hel 1 (by omega)
      have h2 := hel 2 (by omega)
      simp [hC, Value.cells] at h0 h1 h2
      obtain ⟨a, e0, _, w0⟩ := DataW.trod_int hE h0
      obtain ⟨b, e1, _, w1⟩ := DataW.trod_int hE h1
      obtain ⟨c, e2, _, w2⟩ := DataW.trod_int hE h2
      simp at e0 e1 e2
      subst e0 e1 e2
      exact ⟨a, b, c, rfl, wf_i64 w0, wf_i64 w1, wf_i64 w2⟩
section
variable {H : Type} {enc : TypeId × Value → H} {P : Program} {W : World} {base : Nat} {spare : MemPlace → Bool} {held : Bool}
theorem trod_struct8 {t : TypeId} {f0 f1 f2 f3 f4 f5 f6 f7 : Field} {fuel : Nat} {cs : List Value} {x : DataW H × List MemPlace} (ht : P.underlying t = some (.struct #[f0, f1, f2, f3, f4, f5, f6, f7])) (h : DataW.trod enc P W 0 (fun _ => true) true fuel t cs = some x) :
    ∃ y0 y1 y2 y3 y4 y5 y6 y7 n, cs.length = P.cellsOf t ∧ DataW.trod enc P W 0 (fun _ => true) true n f0.type ((cs.drop f0.offset).take (P.cellsOf f0.type)) = some y0 ∧ DataW.trod enc P W 0 (fun _ => true) true n f1.type ((cs.drop f1.offset).take (P.cellsOf f1.type)) = some y1 ∧
      DataW.trod enc P W 0 (fun _ => true) true n f2.type ((cs.drop f2.offset).take (P.cellsOf f2.type)) = some y2 ∧ DataW.trod enc P W 0 (fun _ => true) true n f3.type ((cs.drop f3.offset).take (P.cellsOf f3.type)) = some y3 ∧ DataW.trod enc P W 0 (fun _ => true) true n f4.type ((cs.drop f4.offset).take (P.cellsOf f4.type)) = some y4 ∧
      DataW.trod enc P W 0 (fun _ => true) true n f5.type ((cs.drop f5.offset).take (P.cellsOf f5.type)) = some y5 ∧ DataW.trod enc P W 0 (fun _ => true) true n f6.type ((cs.drop f6.offset).take (P.cellsOf f6.type)) = some y6 ∧ DataW.trod enc P W 0 (fun _ => true) true n f7.type ((cs.drop f7.offset).take (P.cellsOf f7.type)) = some y7 := by
  obtain ⟨xs, n, _, rfl, hl, hlen, hf⟩ := DataW.trod_struct ht h
  match xs, hlen with
  | [y0, y1, y2, y3, y4, y5, y6, y7], _ => exact ⟨y0, y1, y2, y3, y4, y5, y6, y7, n, hl, by simpa using hf 0 f0 rfl, by simpa using hf 1 f1 rfl, by simpa using hf 2 f2 rfl, by simpa using hf 3 f3 rfl, by simpa using hf 4 f4 rfl, by simpa using hf 5 f5 rfl, by simpa using hf 6 f6 rfl, by simpa using hf 7 f7 rfl⟩
end
section
variable {H : Type} {enc : TypeId × Value → H} {W : World}
theorem trod_day {n : Nat} {cs : List Value} {y : DataW H × List MemPlace} (h : DataW.trod enc Tryz.prog W 0 (fun _ => true) true n 48 cs = some y) : ∃ a b c : Int, cs = [.int .i64 a, .int .i64 b, .int .i64 c] := by
  obtain ⟨y0, y1, y2, k, -, hl, h0, h1, h2⟩ := trod_struct3 Tryz.underlying48 h
  rw [show Tryz.prog.cellsOf 48 = 3 by kernel_rfl] at hl
  obtain ⟨a, e0, _, _⟩ := DataW.trod_int Tryz.underlying3 h0
  obtain ⟨b, e1, _, _⟩ := DataW.trod_int Tryz.underlying3 h1
  obtain ⟨c, e2, _, _⟩ := DataW.trod_int Tryz.underlying3 h2
  match cs, hl with
  | [v0, v1, v2], _ =>
    rw [show Tryz.prog.cellsOf 3 = 1 by kernel_rfl] at e0 e1 e2
    simp at e0 e1 e2
    subst e0 e1 e2
    exact ⟨a, b, c, rfl⟩
theorem trod_clock {n : Nat} {cs : List Value} {y : DataW H × List MemPlace} (h : DataW.trod enc Tryz.prog W 0 (fun _ => true) true n 50 cs = some y) : ∃ a b : Int, cs = [.int .i64 a, .int .i64 b] := by
  obtain ⟨y0, y1, k, -, hl, h0, h1⟩ := trod_struct2 Tryz.underlying50 h
  rw [show Tryz.prog.cellsOf 50 = 2 by kernel_rfl] at hl
  obtain ⟨a, e0, _, _⟩ := DataW.trod_int Tryz.underlying3 h0
  obtain ⟨b, e1, _, _⟩ := DataW.trod_int Tryz.underlying3 h1
  match cs, hl with
  | [v0, v1], _ =>
    rw [show Tryz.prog.cellsOf 3 = 1 by kernel_rfl] at e0 e1
    simp at e0 e1
    subst e0 e1
    exact ⟨a, b, rfl⟩
theorem trod_rul {n : Nat} {cs : List Value} {y : DataW H × List MemPlace} (h : DataW.trod enc Tryz.prog W 0 (fun _ => true) true n 72 cs = some y) : ∃ r : Rul, cs = rulV r ∧ True := by
  obtain ⟨y0, y1, y2, y3, y4, y5, y6, y7, k, hl, h0, h1, h2, h3, h4, h5, h6, h7⟩ := trod_struct8 Tryz.underlying72 h
  rw [show Tryz.prog.cellsOf 72 = 11 by kernel_rfl] at hl
  obtain ⟨nm, e0, _, _⟩ := DataW.trod_string Tryz.underlying9 h0
  obtain ⟨fr, e1, _, _⟩ := DataW.trod_int Tryz.underlying3 h1
  obtain ⟨to, e2, _, _⟩ := DataW.trod_int Tryz.underlying3 h2
  obtain ⟨mo, e3, _, _⟩ := DataW.trod_int Tryz.underlying3 h3
  obtain ⟨dk, dw, dn, e4⟩ := trod_day h4
  obtain ⟨sc, kd, e5⟩ := trod_clock h5
  obtain ⟨sv, e6, _, _⟩ := DataW.trod_int Tryz.underlying3 h6
  obtain ⟨lt, e7, _, _⟩ := DataW.trod_string Tryz.underlying9 h7
  match cs, hl with
  | [v0, v1, v2, v3, v4, v5, v6, v7, v8, v9, v10], _ =>
    rw [show Tryz.prog.cellsOf 3 = 1 by kernel_rfl] at e1 e2 e3 e6
    rw [show Tryz.prog.cellsOf 9 = 1 by kernel_rfl] at e0 e7
    rw [show Tryz.prog.cellsOf 48 = 3 by kernel_rfl] at e4
    rw [show Tryz.prog.cellsOf 50 = 2 by kernel_rfl] at e5
    simp at e0 e1 e2 e3 e4 e5 e6 e7
    obtain ⟨rfl, rfl, rfl⟩ := e4
    obtain ⟨rfl, rfl⟩ := e5
    subst e0 e1 e2 e3 e6 e7
    exact ⟨⟨nm, fr, to, mo, dk, dw, dn, sc, kd, sv, lt⟩, rfl, trivial⟩
instance : Inhabited Rul := ⟨⟨⟨#[]⟩, 0, 0, 0, 0, 0, 0, 0, 0, 0, ⟨#[]⟩⟩⟩
/-- Rules that came in. -/
theorem open_rules {r : Reach} {base : Nat} {v : Value} {d : DataW H} {p : List MemPlace} (hok : Value.okWide Tryz.prog W r base 60 v) (h : DataW.Trod enc Tryz.prog W 0 (fun _ => true) true 60 v d p) :
    ∃ l : List Rul, Ruls W W.heap.size v l := by
  obtain ⟨a, len, cap, rfl⟩ := okWide_slice Tryz.underlying60 hok
  obtain ⟨fuel, hf⟩ := h
  obtain ⟨v, l, e, hs, hl⟩ := open_list (C := 11) rulV (fun _ => True) Tryz.underlying60 (by kernel_rfl) (by decide) (fun n cs y _ hy => trod_rul hy) hf
  simp only [Value.cells, List.cons.injEq, and_true] at e
  subst e
  exact ⟨l, hs⟩
end
end Go.Proofs.YtonmmgcibpjahaaGreatDoor
end

section
/- AOpen: From the rows' readings of eras to the words of the walks. -/
namespace Go.Proofs.YtonmmgcibpjahaaGreatDoor
open Go Go.ChangeShapes Go.WideShapes Go.ChangeAt Go.RowKit Go.Deep

set_option maxRecDepth 100000
section
variable {H : Type} {enc : TypeId × Value → H} {P : Program} {W : World}
theorem trod_struct4 {t : TypeId} {f0 f1 f2 f3 : Field} {fuel : Nat} {cs : List Value} {x : DataW H × List MemPlace} (ht : P.underlying t = some (.struct #[f0, f1, f2, f3])) (h : DataW.trod enc P W 0 (fun _ => true) true fuel t cs = some x) :
    ∃ y0 y1 y2 y3 n, cs.length = P.cellsOf t ∧ DataW.trod enc P W 0 (fun _ => true) true n f0.type ((cs.drop f0.offset).take (P.cellsOf f0.type)) = some y0 ∧ DataW.trod enc P W 0 (fun _ => true) true n f1.type ((cs.drop f1.offset).take (P.cellsOf f1.type)) = some y1 ∧
      DataW.trod enc P W 0 (fun _ => true) true n f2.type ((cs.drop f2.offset).take (P.cellsOf f2.type)) = some y2 ∧ DataW.trod enc P W 0 (fun _ => true) true n f3.type ((cs.drop f3.offset).take (P.cellsOf f3.type)) = some y3 := by
  obtain ⟨xs, n, _, rfl, hl, hlen, hf⟩ := DataW.trod_struct ht h
  match xs, hlen with
  | [y0, y1, y2, y3], _ => exact ⟨y0, y1, y2, y3, n, hl, by simpa using hf 0 f0 rfl, by simpa using hf 1 f1 rfl, by simpa using hf 2 f2 rfl, by simpa using hf 3 f3 rfl⟩
theorem trod_struct6 {t : TypeId} {f0 f1 f2 f3 f4 f5 : Field} {fuel : Nat} {cs : List Value} {x : DataW H × List MemPlace} (ht : P.underlying t = some (.struct #[f0, f1, f2, f3, f4, f5])) (h : DataW.trod enc P W 0 (fun _ => true) true fuel t cs = some x) :
    ∃ y0 y1 y2 y3 y4 y5 n, cs.length = P.cellsOf t ∧ DataW.trod enc P W 0 (fun _ => true) true n f0.type ((cs.drop f0.offset).take (P.cellsOf f0.type)) = some y0 ∧ DataW.trod enc P W 0 (fun _ => true) true n f1.type ((cs.drop f1.offset).take (P.cellsOf f1.type)) = some y1 ∧
      DataW.trod enc P W 0 (fun _ => true) true n f2.type ((cs.drop f2.offset).take (P.cellsOf f2.type)) = some y2 ∧ DataW.trod enc P W 0 (fun _ => true) true n f3.type ((cs.drop f3.offset).take (P.cellsOf f3.type)) = some y3 ∧
      DataW.trod enc P W 0 (fun _ => true) true n f4.type ((cs.drop f4.offset).take (P.cellsOf f4.type)) = some y4 ∧ DataW.trod enc P W 0 (fun _ => true) true n f5.type ((cs.drop f5.offset).take (P.cellsOf f5.type)) = some y5 := by
  obtain ⟨xs, n, _, rfl, hl, hlen, hf⟩ := DataW.trod_struct ht h
  match xs, hlen with
  | [y0, y1, y2, y3, y4, y5], _ => exact ⟨y0, y1, y2, y3, y4, y5, n, hl, by simpa using hf 0 f0 rfl, by simpa using hf 1 f1 rfl, by simpa using hf 2 f2 rfl, by simpa using hf 3 f3 rfl, by simpa using hf 4 f4 rfl, by simpa using hf 5 f5 rfl⟩
end
section
variable {H : Type} {enc : TypeId × Value → H} {W : World}
theorem trod_until {n : Nat} {cs : List Value} {y : DataW H × List MemPlace} (h : DataW.trod enc Tryz.prog W 0 (fun _ => true) true n 52 cs = some y) : ∃ a b c d e f g : Int, cs = [.int .i64 a, .int .i64 b, .int .i64 c, .int .i64 d, .int .i64 e, .int .i64 f, .int .i64 g] := by
  obtain ⟨y0, y1, y2, y3, k, hl, h0, h1, h2, h3⟩ := trod_struct4 Tryz.underlying52 h
  rw [show Tryz.prog.cellsOf 52 = 7 by kernel_rfl] at hl
  obtain ⟨a, e0, _, _⟩ := DataW.trod_int Tryz.underlying3 h0
  obtain ⟨b, e1, _, _⟩ := DataW.trod_int Tryz.underlying3 h1
  obtain ⟨dk, dw, dn, e2⟩ := trod_day h2
  obtain ⟨sc, kd, e3⟩ := trod_clock h3
  match cs, hl with
  | [v0, v1, v2, v3, v4, v5, v6], _ =>
    rw [show Tryz.prog.cellsOf 3 = 1 by kernel_rfl] at e0 e1
    rw [show Tryz.prog.cellsOf 48 = 3 by kernel_rfl] at e2
    rw [show Tryz.prog.cellsOf 50 = 2 by kernel_rfl] at e3
    simp at e0 e1 e2 e3
    obtain ⟨rfl, rfl, rfl⟩ := e2
    obtain ⟨rfl, rfl⟩ := e3
    subst e0 e1
    exact ⟨a, b, dk, dw, dn, sc, kd, rfl⟩
theorem trod_era {n : Nat} {cs : List Value} {y : DataW H × List MemPlace} (h : DataW.trod enc Tryz.prog W 0 (fun _ => true) true n 54 cs = some y) :
    ∃ (e : EraN) (ru f : ByteArray) (en : Bool), cs = [.int .i64 e.off, .string ru, .int .i64 e.save, .string f, .bool en, .int .i64 e.year, .int .i64 e.month, .int .i64 e.dk, .int .i64 e.dw, .int .i64 e.dn, .int .i64 e.sec, .int .i64 e.ak] ∧
      (-9223372036854775808 ≤ e.off ∧ e.off ≤ 9223372036854775807) ∧ (-9223372036854775808 ≤ e.save ∧ e.save ≤ 9223372036854775807) := by
  obtain ⟨y0, y1, y2, y3, y4, y5, k, hl, h0, h1, h2, h3, h4, h5⟩ := trod_struct6 Tryz.underlying54 h
  rw [show Tryz.prog.cellsOf 54 = 12 by kernel_rfl] at hl
  obtain ⟨off, e0, _, w0⟩ := DataW.trod_int Tryz.underlying3 h0
  obtain ⟨ru, e1, _, _⟩ := DataW.trod_string Tryz.underlying9 h1
  obtain ⟨sv, e2, _, w2⟩ := DataW.trod_int Tryz.underlying3 h2
  obtain ⟨f, e3, _, _⟩ := DataW.trod_string Tryz.underlying9 h3
  obtain ⟨en, e4, _⟩ := DataW.trod_bool Tryz.underlying4 h4
  obtain ⟨yr, mo, dk, dw, dn, sc, kd, e5⟩ := trod_until h5
  match cs, hl with
  | [v0, v1, v2, v3, v4, v5, v6, v7, v8, v9, v10, v11], _ =>
    rw [show Tryz.prog.cellsOf 3 = 1 by kernel_rfl] at e0 e2
    rw [show Tryz.prog.cellsOf 9 = 1 by kernel_rfl] at e1 e3
    rw [show Tryz.prog.cellsOf 4 = 1 by kernel_rfl] at e4
    rw [show Tryz.prog.cellsOf 52 = 7 by kernel_rfl] at e5
    simp at e0 e1 e2 e3 e4 e5
    obtain ⟨rfl, rfl, rfl, rfl, rfl, rfl, rfl⟩ := e5
    subst e0 e1 e2 e3 e4
    exact ⟨⟨off, sv, yr, mo, dk, dw, dn, sc, kd⟩, ru, f, en, rfl, wf_i64 w0, wf_i64 w2⟩
/-- An era that came in. -/
theorem open_era {r : Reach} {base : Nat} {v : Value} {d : DataW H} {p : List MemPlace} (hok : Value.okWide Tryz.prog W r base 54 v) (h : DataW.Trod enc Tryz.prog W 0 (fun _ => true) true 54 v d p) :
    ∃ (e : EraN) (ru f : ByteArray) (en : Bool), v = eraA e ru f en ∧ (-9223372036854775808 ≤ e.off ∧ e.off ≤ 9223372036854775807) ∧ (-9223372036854775808 ≤ e.save ∧ e.save ≤ 9223372036854775807) := by
  have hu : Tryz.prog.underlying 54 = _ := Tryz.underlying54
  simp only [Value.okWide, hu] at hok
  obtain ⟨cs, rfl, hsz, _⟩ := hok
  obtain ⟨fuel, hf⟩ := h
  obtain ⟨e, ru, f, en, hcs, h1, h2⟩ := trod_era hf
  refine ⟨e, ru, f, en, ?_, h1, h2⟩
  simp only [Value.cells] at hcs
  obtain ⟨l⟩ := cs
  simp only at hcs
  subst hcs
  rfl
end
end Go.Proofs.YtonmmgcibpjahaaGreatDoor
end
