/-
  Layer 16: Read, walked.
-/
import Derived.Test.YtmhadkdbonfmdaaDoorZReadL
namespace Go.Proofs.YtmhadkdbonfmdaaDoor
open Go Go.RowKit Go.Shelf
attribute [local go_sem] Oper.semAt_some
set_option maxRecDepth 100000

/-- A slice of one cell that was just made. -/
def Fact.box1 (u : Value) : Fact := ⟨fun v w => ∃ g, v = .slice (some ⟨g, 0, none⟩) 1 1 ∧ w.cell? ⟨g, 0, none⟩ = some u, fun _ w _ ⟨g, h1, h2⟩ hb => ⟨g, h1, (hb.cell (World.block_lt_of_cell? w _ h2)).trans h2⟩⟩
theorem bytes_window {w : World} {B b o c k n c' : Nat} {l : List UInt8} (h : Bytes w B (.slice (some ⟨b, o, none⟩) l.length c) l) (hkn : k + n ≤ l.length) (hn : 0 < n) (hc : n ≤ c') (hm : c' ≤ maxLen) : Bytes w B (.slice (some ⟨b, o + k, none⟩) (cut l k n).length c') (cut l k n) := by
  obtain ⟨A, c0, e, h1, h2, -, hA⟩ := h
  cases e
  obtain ⟨b', o', e, hB, hcc⟩ := hA (by omega)
  cases e
  have hl := cut_length hkn
  refine Sl.mk_ (by omega) hm (by rw [length_bytesV, Nat.mul_one]) hB (fun j u hu => ?_)
  have hj : j < n := by
    have := (List.getElem?_eq_some_iff.1 hu).1
    rw [length_bytesV] at this
    omega
  rw [bytesV_at _ _ (by omega)] at hu
  rw [Nat.add_assoc]
  refine hcc (k + j) u ?_
  rw [bytesV_at _ _ (by omega), ← hu]
  simp [cut]
set_option maxHeartbeats 1000000 in
theorem readz_any (w : World) (v : Value) (l : List UInt8) (hv : Bytes w w.heap.size v l) (hl : l.length ≤ 100000) (hF : Fours w) :
    Calls Tryd.prog 17 #[v] w fun e w' => (∃ ov er ms, e = .returned (.tuple #[ov, .int .i64 (er : Nat)]) ∧ Mems w' w'.heap.size ov ms ∧ ReadP l er ms) ∧ Below w.heap.size w w' := by
  refine (callsIn_wide (n := 8)).1 ?_
  refine callsIn_of_wp_marks Tryd.func17 rfl trivial ?_ rfl
  simp only [Tryd.ntmps17, List.size_toArray, List.length_cons, List.length_nil, Nat.reduceAdd, Nat.reduceSub, Array.replicate_succ, Array.replicate_zero, List.push_toArray, List.append_toArray, List.nil_append, List.cons_append]
  obtain ⟨A, c, rfl, hlc, hcm⟩ := hv.form
  unfold maxLen at hcm
  have HV := Lib.hid hv
  have HF := Lib.hid hF
  clear hv hF
  gi_wp2
  refine wpIn_wide.2 (wp_scope_straight ((wpIn_wide (n := 8)).1 ?_))
  gi_wp2
  generalize hW0 : ((((w.alloc (.cells #[.slice A l.length c] 32)).alloc (.cells #[.slice none 0 0] 22)).alloc (.cells #[.slice none 0 0] 32)).alloc (.cells #[.int .i64 0] 3)).alloc (.cells #[.int .i64 0] 30) = W0
  obtain ⟨b1, b2, b3, b4, b5, hb0, hs0⟩ := boxes5 _ _ _ _ _ _ _ _ _ _ _ _ hW0
  clear hW0
  have hV0 := HV.out.below hb0
  apply wpIn_label
  have hc1 := b1.cell
  gi_wp2
  refine ⟨trivial, (callsIn_wide.2 (heads_any W0 _ _ _ _ rfl)).mono ?_⟩
  rintro e w1 ⟨rfl, rfl⟩
  gi_wp2
  have b6 := Boxed.new W0 32 (.slice A l.length c)
  have hb6 := hb0.trans ((bump W0 (.cells #[.slice A l.length c] 32)).mono hb0.size)
  generalize hR0 : W0.alloc (.cells #[.slice A l.length c] 32) = R0 at *
  have hsR : R0.heap.size = w.heap.size + 6 := by rw [← hR0]; simp; omega
  have hRI : RI w.heap.size w l (.slice A l.length c) [] (.slice none 0 0) (.slice none 0 0) 0 R0 := by
    rw [← hR0]
    exact ⟨⟨b1.alloc _, b2.alloc _, b3.alloc _, b4.alloc _, b5.alloc _, World.ownsRow_nil _ _ _ _, World.ownsRow_nil _ _ _ _, Apart.nil_left _, fun x hx => (by cases hx), (by rw [hR0]; exact hb6)⟩, (by simp [trisF, tot, outL]), fun t ht => (by cases ht), Nat.zero_le _⟩
  have HRI := Lib.hid hRI
  have hV6 := HV.out.below hb6
  clear hRI hR0 b1 b2 b3 b4 b5 hV0
  rw [hs0] at b6
  refine range_ready (α := Fnd) rfl (by omega) (gf := 55) (lb := #[.pointer (some ⟨w.heap.size + 5, 0, none⟩)]) rfl trivial (enters_of Tryd.func55 (by kernel_rfl) rfl)
    (encs := encF) (X := fun k => k < w.heap.size ∨ k = w.heap.size + 8) (R := Next (w.heap.size + 8) l) (S := Ended l) (Sp := fun _ => True)
    (fun W hW hs => by
      rw [hsR]
      exact heads1_gives 7 (by omega) (w.heap.size + 5) w.heap.size (.slice A l.length c) l (by omega) _ W (w.heap.size + 8) (by omega) (.inr rfl) (fun k hk => .inl hk) (by omega) ((hW.cell (p := ⟨w.heap.size + 5, 0, none⟩) (show (w.heap.size + 5) < R0.heap.size by omega)).trans (b6.cell)) (hV6.below (hW.mono (by omega))))
    (fun _ => rfl)
    (fun pre W => ∃ vo vl er, RI w.heap.size w l (.slice A l.length c) pre vo vl er W ∧ (SumsOk (trisF pre) → er = 0) ∧ (¬ SumsOk (trisF pre) → er = 21))
    (fun cd _ W => cd = .exit 0 ∧ ¬ IsFile l ∧ ∃ pre' vo vl, RI w.heap.size w l (.slice A l.length c) pre' vo vl 12 W)
    (fun s X Y row hs hg hr => by
      obtain ⟨vo, vl, er, h1, h2⟩ := hs
      exact ⟨vo, vl, er, h1.grC (grC_of_grown hg (fun r e => by rw [← hsR]; exact hr r e)) (Nat.le_refl _), h2⟩)
    (fun cd s X Y row hs hg hr => by
      obtain ⟨hc, hn, pre', vo, vl, h1⟩ := hs
      exact ⟨hc, hn, pre', vo, vl, h1.grC (grC_of_grown hg (fun r e => by rw [← hsR]; exact hr r e)) (Nat.le_refl _)⟩)
    ⟨_, _, 0, HRI.out, fun _ => rfl, fun h => absurd (fun t ht => (by cases ht)) h⟩
    (fun x W => { tmps := #[.slice A l.length c, .pointer (some ⟨w.heap.size, 0, none⟩), .slice none 0 0, .int .i64 0, .pointer (some ⟨w.heap.size + 1, 0, none⟩), .pointer (some ⟨w.heap.size + 1 + 1, 0, none⟩), .pointer (some ⟨w.heap.size + 1 + 1 + 1, 0, none⟩), .pointer (some ⟨w.heap.size + 1 + 1 + 1 + 1, 0, none⟩), .pointer (some ⟨W.heap.size, 0, none⟩), undef, undef, .slice A l.length c, .func (.func 55) #[] #[.pointer (some ⟨w.heap.size + 5, 0, none⟩)], .agg #[str x.1.1, dvF x, .int .i64 (x.1.2.2 : Nat), .int .i64 (x.2.2 : Nat)], undef, undef, undef, undef, undef, undef, undef, undef, undef, undef, undef, undef, undef, undef, undef, undef, undef, undef, undef, undef, undef, undef, undef, undef, undef, undef, undef, undef, undef, undef, undef, undef, undef, undef, undef, undef, undef, undef, undef, undef, undef, undef, undef, undef, undef, undef, undef, undef, undef, undef, undef, undef, undef, undef, undef, undef, undef, undef, undef, undef, undef, undef, undef, undef, undef, undef, undef, undef, undef, undef, undef, undef, undef, undef, undef, undef, undef, undef, undef, undef], defers := [] })
    (fun x W => W.alloc (.cells #[str x.1.1, dvF x, .int .i64 (x.1.2.2 : Nat), .int .i64 (x.2.2 : Nat)] 68)) (fun x W => bump W _) ?assign ?body ?done ?stop
  case assign =>
    intro lp x W K hK
    unfold encF
    gi_wp2
    exact hK
  case body =>
    rintro lp pre ⟨⟨name, data, sum⟩, ⟨Ad, cd⟩, at_⟩ P0 P1 W ⟨vo, vl, er, hri, hse0, hse1⟩ hsz hG0 hGr hG1 ⟨hcl, hat, hxa, htl, bd, hbd0, hcb, hdv1⟩
    rw [hsR] at hG0 hGr hG1 hsz
    dsimp only at hat hxa hdv1
    subst hxa
    generalize htt : tot (trisF pre) = at_ at *
    have hbel1 := bump P1 (.cells #[str name, .slice Ad data.length cd, .int .i64 (sum : Nat), .int .i64 (at_ : Nat)] 68)
    have hbox : W.heap[P1.heap.size]? = some (.cells #[str name, .slice Ad data.length cd, .int .i64 (sum : Nat), .int .i64 (at_ : Nat)] 68 (0, 0)) := hG1.cells _ _ (heap_alloc_new P1 _) rfl (by omega)
    have hdvW : W.ownsRow bd 5 1 (.slice Ad data.length cd) data.length (bytesV data) := own_grC (own_below hdv1 hbel1) hG1 (by omega)
    have hri2 := hri.grC (W' := W) hG0 (Nat.le_refl _)
    have hfr : ∀ u : Value, (∀ g, u.ownBlock = some g → g < P0.heap.size) → Apart u (.slice Ad data.length cd) := fun u hu g hg hd => by
      have := hu g hg
      have := (hdvW.lt g hd).1
      omega
    have hao := hfr vo fun g hg => (hri.m.ro.lt g hg).2
    have hal := hfr vl fun g hg => (hri.m.rl.lt g hg).2
    obtain ⟨hft, hst⟩ := hdAt_fits hat
    rw [List.length_drop] at hst
    simp only [sizeT] at hst
    have hf1 : sum < 4294967296 := hft.1
    have hf2 : name.length < 65536 := hft.2.2
    have hp01 : P0.heap.size ≤ P1.heap.size := hGr.size
    have hps : P1.heap.size < W.heap.size := (Array.getElem?_eq_some_iff.1 hbox).1
    have hx0 : W.cell? ⟨P1.heap.size, 0, none⟩ = some (str name) := by simp [World.cell?, hbox]
    have hx1 : W.cell? ⟨P1.heap.size, 1, none⟩ = some (.slice Ad data.length cd) := by simp [World.cell?, hbox]
    have hx2 : W.cell? ⟨P1.heap.size, 2, none⟩ = some (.int .i64 (sum : Nat)) := by simp [World.cell?, hbox]
    have HB := Lib.hid hbox
    have HDV := Lib.hid hdvW
    have HRI := Lib.hid hri2
    have HAT := Lib.hid hat
    clear hri2 hbel1 hG0 hG1 hdv1 hft hat hbox hdvW
    gi_wp2
    refine ⟨trivial, ((callsIn_wide.2 (head_any W name data _ sum (bytes_of_own HDV.out rfl) hf1 (by omega) hf2)).inRound lp).mono ?_⟩
    rintro e W2 ⟨v2, rfl, hv2, hb2⟩
    have hG2 : GrC (w.heap.size + 8) (w.heap.size + 6) W W2 := (Gr.of_below hb2 (Nat.le_refl _)).cells
    have hri2 := HRI.out.grC hG2 (Nat.le_refl _)
    have hdv2 := own_below HDV.out hb2
    have hbx2 : W2.heap[P1.heap.size]? = some (.cells #[str name, .slice Ad data.length cd, .int .i64 (sum : Nat), .int .i64 (at_ : Nat)] 68 (0, 0)) := (hb2.block _ hps).trans HB.out
    have hps2 : P1.heap.size < W2.heap.size := Nat.lt_of_lt_of_le hps hb2.size
    have hKO : KeepsOthers W W2 := ⟨hb2.size, fun k o ho _ => (hb2.block k (Array.getElem?_eq_some_iff.1 ho).1).trans ho⟩
    have hKP : Kept (fun k => k < w.heap.size ∨ k = w.heap.size + 8) W W2 := ⟨hb2.os, hb2.tape, hb2.output, hb2.size, fun k o _ ho _ => (hb2.block k (Array.getElem?_eq_some_iff.1 ho).1).trans ho⟩
    have HKO := Lib.hid hKO
    have HKP := Lib.hid hKP
    clear hx0 hx1 hx2 hG2 HRI HDV HB hb2 hps hKO hKP
    obtain ⟨A2, c2, rfl, hl2, hm2⟩ := hv2.form
    have hh2 : (hdL (name, data, sum)).length = 30 + name.length := length_hdL _
    have HH := Lib.hid hv2
    unfold maxLen at hm2
    clear hv2
    obtain ⟨Ao, co, rfl⟩ := (Sl.of_own hri2.m.ro).form
    have HRI := Lib.hid hri2
    have hfo : ∀ g, (Value.slice Ao pre.length co).ownBlock = some g → g < P0.heap.size := fun g hg => (hri.m.ro.lt g hg).2
    have hfl : ∀ g, vl.ownBlock = some g → g < P0.heap.size := fun g hg => (hri.m.rl.lt g hg).2
    have hRX : RM w.heap.size w (.slice A l.length c) (.slice Ao pre.length co) pre.length (fndV pre) vl (listL 0 (trisF pre)) at_ er (pre ++ [((name, data, sum), (Ad, cd), at_)]) W2 := by
      have hm := hri2.m
      rw [htt] at hm
      refine ⟨hm.bx, hm.o, hm.li, hm.at_, hm.e, hm.ro, hm.rl, hm.ap, fun x hx => ?_, hm.be⟩
      rcases List.mem_append.1 hx with hx | hx
      · exact hm.da x hx
      · obtain rfl : x = ((name, data, sum), (Ad, cd), at_) := by simpa using hx
        exact ⟨own_base hdv2 (by omega), hao, hal⟩
    have HRX := Lib.hid hRX
    clear hRX
    have hc1' := hri2.m.bx.cell
    have hc4 := hri2.m.o.cell
    have hc6 := hri2.m.at_.cell
    have hc7 := hri2.m.e.cell
    have hf7 := hri2.m.e.frozen
    rw [htt] at hc6
    clear hri2
    have hln := HRI.out.ln
    obtain ⟨b0, o0, c0', eA, hb0', hA0⟩ := Sl.at_ HV.out (show 0 < l.length by omega)
    cases eA
    by_cases hfull : pre.length = 64
    · have hnf := broken_file HRI.out.hd HRI.out.ft (by rw [htt]; exact HAT.out) (.inl (by simp [trisF]; omega))
      have hf7' := hf7
      gi_wp2
      refine ⟨trivial, ?_⟩
      gi_wp2
      exact ⟨HKO.out.trans (KeepsOthers.setCell _ _ _), rfl, hnf, pre, _, _, HRI.out.m.setE 12, HRI.out.hd, HRI.out.ft, HRI.out.ln⟩
    · have hne : ((pre.length : Int) == 64) = false := by rw [beq_eq_false_iff_ne]; omega
      have hwin := (bytes_window (HV.out.below HRI.out.m.be) (k := at_) (n := 30 + name.length) (c' := c - at_) (by omega) (by omega) (by omega) (by unfold maxLen; omega)).more HRI.out.m.be.size
      have HEQ := Lib.hid (equal_any W2 _ _ _ _ hwin HH.out)
      rw [cut_length (show at_ + (30 + name.length) ≤ l.length by omega), hh2] at HEQ
      have HWN := Lib.hid hwin
      clear hwin
      gi_wp2
      refine ⟨trivial, ((callsIn_wide.2 HEQ.out).inRound lp).mono ?_⟩
      rintro e W3 ⟨rfl, hb3⟩
      have hBB3 : BB w.heap.size w (.slice (some ⟨b0, o0, none⟩) l.length c) (.slice Ao pre.length co) pre.length (fndV pre) vl (listL 0 (trisF pre)) at_ er (pre ++ [((name, data, sum), (Ad, cd), at_)]) P1.heap.size #[str name, .slice Ad data.length cd, .int .i64 (sum : Nat), .int .i64 (at_ : Nat)] W W3 :=
        BB.made ⟨HRX.out, hbx2, by omega, fun e => by have := hfo _ e; omega, fun e => by have := hfl _ e; omega, HKO.out, HKP.out⟩ hb3 (Nat.le_refl _)
      have HB3 := Lib.hid hBB3
      clear hBB3 HKO HKP HRX hc1' hc4 hc6 hc7 hf7 hb3 HEQ HWN hbx2 hps2 hdv2
      by_cases heq : cut l at_ (30 + name.length) = hdL (name, data, sum)
      · have hbe : (cut l at_ (30 + name.length) == hdL (name, data, sum)) = true := by rw [heq, beq_self_eq_true]
        rw [hbe]
        have HHM := Lib.hid (head_more HRI.out.hd (by rw [htt]; exact HAT.out) (by rw [htt]; exact heq))
        clear hbe heq
        have hbx3 := HB3.out.b
        have hx0 : W3.cell? ⟨P1.heap.size, 0, none⟩ = some (str name) := by simp [World.cell?, hbx3]
        have hx1 : W3.cell? ⟨P1.heap.size, 1, none⟩ = some (.slice Ad data.length cd) := by simp [World.cell?, hbx3]
        have hx2 : W3.cell? ⟨P1.heap.size, 2, none⟩ = some (.int .i64 (sum : Nat)) := by simp [World.cell?, hbx3]
        have hdv3 := (HB3.out.m.da ((name, data, sum), (Ad, cd), at_) (by simp)).1
        have hF3 := HF.out.below HB3.out.m.be
        have HDV := Lib.hid hdv3
        have HX1 := Lib.hid hx1
        have HX2 := Lib.hid hx2
        have HF3 := Lib.hid hF3
        clear hdv3 hbx3 hF3 hx0 hx1 hx2
        obtain ⟨bb, hbb⟩ : ∃ bb, (((crcOf data : Nat) : Int) != (sum : Int)) = bb := ⟨_, rfl⟩
        have HBB := Lib.hid hbb
        gi_wp2
        refine wpIn_facts (by kernel_rfl) [34, 35, 36, 37, 38, 39, 40, 41]
          [.is (.pointer (some ⟨P1.heap.size, 0, none⟩)), .is (.pointer (some ⟨P1.heap.size, 1, none⟩)), .is (.slice Ad data.length cd), .box1 (.slice Ad data.length cd), .is (.int .i64 (crcOf data : Nat)), .is (.pointer (some ⟨P1.heap.size, 2, none⟩)), .is (.int .i64 (sum : Nat)), .is (.bool bb)] (by kernel_rfl) ⟨?_, ?_, ?_, ?_, ?_, ?_, ?_, ?_, trivial⟩ ?_
        · intro x w1 R hB hf hR
          simp only [frameOf, upd, List.foldl_cons, List.foldl_nil, Act.put, List.setIfInBounds_toArray, List.set_cons_succ, List.set_cons_zero] at hR ⊢
          gi_wp2
          exact hR _ _ rfl (Below.refl _ _)
        · intro x w1 R hB hf hR
          have g0 : x 34 = .pointer (some ⟨P1.heap.size, 0, none⟩) := hf 0 (by kernel_rfl)
          simp only [frameOf, upd, List.foldl_cons, List.foldl_nil, Act.put, List.setIfInBounds_toArray, List.set_cons_succ, List.set_cons_zero] at hR ⊢
          simp only [g0] at hR ⊢; gi_wp2; exact hR _ _ rfl (Below.refl _ _)
        · intro x w1 R hB hf hR
          have g0 : x 35 = .pointer (some ⟨P1.heap.size, 1, none⟩) := hf 1 (by kernel_rfl); have g1 : w1.cell? ⟨P1.heap.size, 1, none⟩ = some (.slice Ad data.length cd) := (hB.cell (World.block_lt_of_cell? W3 _ HX1.out)).trans HX1.out
          simp only [frameOf, upd, List.foldl_cons, List.foldl_nil, Act.put, List.setIfInBounds_toArray, List.set_cons_succ, List.set_cons_zero] at hR ⊢
          simp only [g0] at hR ⊢; gi_wp2; exact hR _ _ rfl (Below.refl _ _)
        · intro x w1 R hB hf hR
          have g0 : x 36 = .slice Ad data.length cd := hf 2 (by kernel_rfl)
          simp only [frameOf, upd, List.foldl_cons, List.foldl_nil, Act.put, List.setIfInBounds_toArray, List.set_cons_succ, List.set_cons_zero] at hR ⊢
          simp only [g0] at hR ⊢; gi_wp2; exact hR _ _ ⟨_, rfl, (cell_new w1 _ _ _ 0).trans rfl⟩ (bump _ _)
        · intro x w1 R hB hf hR
          obtain ⟨g, g0, g1⟩ : ∃ g, x 37 = .slice (some ⟨g, 0, none⟩) 1 1 ∧ w1.cell? ⟨g, 0, none⟩ = some (.slice Ad data.length cd) := hf 3 (by kernel_rfl); have g2 := callsIn_wide (n := 5).2 (sum1 w1 g _ _ data g1 (bytes_below (bytes_of_own HDV.out rfl) hB) (HF3.out.below hB))
          simp only [frameOf, upd, List.foldl_cons, List.foldl_nil, Act.put, List.setIfInBounds_toArray, List.set_cons_succ, List.set_cons_zero] at hR ⊢
          simp only [g0] at hR ⊢; gi_wp2; refine ⟨trivial, (g2.inRound lp).mono ?_⟩; rintro e w2 ⟨rfl, rfl⟩; gi_wp2; exact hR _ _ rfl (Below.refl _ _)
        · intro x w1 R hB hf hR
          simp only [frameOf, upd, List.foldl_cons, List.foldl_nil, Act.put, List.setIfInBounds_toArray, List.set_cons_succ, List.set_cons_zero] at hR ⊢
          gi_wp2
          exact hR _ _ rfl (Below.refl _ _)
        · intro x w1 R hB hf hR
          have g0 : x 39 = .pointer (some ⟨P1.heap.size, 2, none⟩) := hf 5 (by kernel_rfl); have g1 : w1.cell? ⟨P1.heap.size, 2, none⟩ = some (.int .i64 (sum : Nat)) := (hB.cell (World.block_lt_of_cell? W3 _ HX2.out)).trans HX2.out
          simp only [frameOf, upd, List.foldl_cons, List.foldl_nil, Act.put, List.setIfInBounds_toArray, List.set_cons_succ, List.set_cons_zero] at hR ⊢
          simp only [g0] at hR ⊢; gi_wp2; exact hR _ _ rfl (Below.refl _ _)
        · intro x w1 R hB hf hR
          have g0 : x 38 = .int .i64 (crcOf data : Nat) := hf 4 (by kernel_rfl); have g1 : x 40 = .int .i64 (sum : Nat) := hf 6 (by kernel_rfl)
          simp only [frameOf, upd, List.foldl_cons, List.foldl_nil, Act.put, List.setIfInBounds_toArray, List.set_cons_succ, List.set_cons_zero] at hR ⊢
          simp only [g0, g1] at hR ⊢; gi_wp2; exact hR _ _ rfl (Below.refl _ _)
        intro x W4 hB hf
        have h7 : x 41 = .bool bb := hf 7 (by decide)
        have HB4 := Lib.hid (HB3.out.made hB (Nat.le_refl _))
        simp only [frameOf, List.foldl_cons, List.foldl_nil, Act.put, List.setIfInBounds_toArray, List.set_cons_succ, List.set_cons_zero, h7]
        clear hf hB HB3 HDV HX1 HX2 HF3 h7
        generalize x 34 = y34
        generalize x 35 = y35
        generalize x 36 = y36
        generalize x 37 = y37
        generalize x 38 = y38
        generalize x 39 = y39
        generalize x 40 = y40
        have hc7 := HB4.out.m.e.cell
        have hf7 := HB4.out.m.e.frozen
        have hyl : (listL 0 (trisF pre)).length ≤ 1000000 := by
          have h1 := list_bound (trisF pre) 0
          have h2 : (trisF pre).length = pre.length := by simp [trisF]
          omega
        cases bb with
        | false =>
          have hsu : crcOf data = sum := by
            have := HBB.out
            rw [bne_eq_false_iff_eq] at this
            omega
          gi_wp2
          obtain ⟨W5, hW5⟩ : ∃ W5, W4 = W5 := ⟨_, rfl⟩
          have HB5 : Hid (BB w.heap.size w (.slice (some ⟨b0, o0, none⟩) l.length c) (.slice Ao pre.length co) pre.length (fndV pre) vl (listL 0 (trisF pre)) at_ er (pre ++ [((name, data, sum), (Ad, cd), at_)]) P1.heap.size #[str name, .slice Ad data.length cd, .int .i64 (sum : Nat), .int .i64 (at_ : Nat)] W W5) := by rw [← hW5]; exact HB4.out
          rw [hW5]
          clear hW5 HB4 hc7 hf7
          have hBBf := HB5.out.fb
          refine wpIn_inv (by kernel_rfl) DL (InvL w.heap.size w (.slice (some ⟨b0, o0, none⟩) l.length c) (.slice Ao pre.length co) pre.length (fndV pre) vl (listL 0 (trisF pre)) at_ er (pre ++ [((name, data, sum), (Ad, cd), at_)]) P1.heap.size #[str name, .slice Ad data.length cd, .int .i64 (sum : Nat), .int .i64 (at_ : Nat)] W (rowL (name, data, sum) at_) (.agg #[str name, .slice Ad data.length cd]) sum) (by kernel_rfl) (fun x => invL_start (HB5.out.drew (Nat.le_refl _))) ⟨?_, ?_, ?_, ?_, ?_, ?_, ?_, ?_, ?_, trivial⟩ ?_
          · intro L x u R hI hsh hL hr hR
            have hL7 : L 7 = false := notYet hsh (show depB _ 7 0 = true by kernel_rfl) hL
            have hL8 : L 8 = false := notYet hsh (show depB _ 8 7 = true by kernel_rfl) hL7
            obtain ⟨hb, hf⟩ := hI.1 hL7
            have hc := hb.m.li.cell
            simp only [frameOf, DL, upd, List.foldl_cons, List.foldl_nil, Act.put, List.setIfInBounds_toArray, List.set_cons_succ, List.set_cons_zero] at hR ⊢
            have HR := Lib.hid hR; clear hR; gi_wp2; exact HR.out _ _ (invL_small hI (by decide) hL7 hL8 (Nat.le_refl _) rfl (Below.refl _ _))
          · intro L x u R hI hsh hL hr hR
            have hL7 : L 7 = false := notYet hsh (show depB _ 7 6 = true by kernel_rfl) (notYet hsh (show depB _ 6 2 = true by kernel_rfl) (notYet hsh (show depB _ 2 1 = true by kernel_rfl) hL))
            have hL8 : L 8 = false := notYet hsh (show depB _ 8 7 = true by kernel_rfl) hL7
            obtain ⟨hb, hf⟩ := hI.1 hL7
            skip
            simp only [frameOf, DL, upd, List.foldl_cons, List.foldl_nil, Act.put, List.setIfInBounds_toArray, List.set_cons_succ, List.set_cons_zero] at hR ⊢
            have HR := Lib.hid hR; clear hR; gi_wp2; exact HR.out _ _ (invL_small hI (by decide) hL7 hL8 (Nat.le_refl _) rfl (Below.refl _ _))
          · intro L x u R hI hsh hL hr hR
            have hL7 : L 7 = false := notYet hsh (show depB _ 7 6 = true by kernel_rfl) (notYet hsh (show depB _ 6 2 = true by kernel_rfl) hL)
            have hL8 : L 8 = false := notYet hsh (show depB _ 8 7 = true by kernel_rfl) hL7
            obtain ⟨hb, hf⟩ := hI.1 hL7
            have g0 : x 43 = .pointer (some ⟨P1.heap.size, 0, none⟩) := hf 1 (by decide) (hr 1 (by kernel_rfl)); have hbk := hb.b; have q0 : u.cell? ⟨P1.heap.size, 0, none⟩ = some (str name) := by simp [World.cell?, hbk]
            simp only [frameOf, DL, upd, List.foldl_cons, List.foldl_nil, Act.put, List.setIfInBounds_toArray, List.set_cons_succ, List.set_cons_zero] at hR ⊢
            have q1 : u.cell? ⟨P1.heap.size, 1, none⟩ = some (.slice Ad data.length cd) := (by simp [World.cell?, hbk]); simp only [g0] at hR ⊢; have HR := Lib.hid hR; clear hR; gi_wp2; exact HR.out _ _ (invL_small hI (by decide) hL7 hL8 (Nat.le_refl _) rfl (Below.refl _ _))
          · intro L x u R hI hsh hL hr hR
            have hL7 : L 7 = false := notYet hsh (show depB _ 7 6 = true by kernel_rfl) (notYet hsh (show depB _ 6 4 = true by kernel_rfl) (notYet hsh (show depB _ 4 3 = true by kernel_rfl) hL))
            have hL8 : L 8 = false := notYet hsh (show depB _ 8 7 = true by kernel_rfl) hL7
            obtain ⟨hb, hf⟩ := hI.1 hL7
            skip
            simp only [frameOf, DL, upd, List.foldl_cons, List.foldl_nil, Act.put, List.setIfInBounds_toArray, List.set_cons_succ, List.set_cons_zero] at hR ⊢
            have HR := Lib.hid hR; clear hR; gi_wp2; exact HR.out _ _ (invL_small hI (by decide) hL7 hL8 (Nat.le_refl _) rfl (Below.refl _ _))
          · intro L x u R hI hsh hL hr hR
            have hL7 : L 7 = false := notYet hsh (show depB _ 7 6 = true by kernel_rfl) (notYet hsh (show depB _ 6 4 = true by kernel_rfl) hL)
            have hL8 : L 8 = false := notYet hsh (show depB _ 8 7 = true by kernel_rfl) hL7
            obtain ⟨hb, hf⟩ := hI.1 hL7
            have g0 : x 45 = .pointer (some ⟨P1.heap.size, 2, none⟩) := hf 3 (by decide) (hr 3 (by kernel_rfl)); have hbk := hb.b
            simp only [frameOf, DL, upd, List.foldl_cons, List.foldl_nil, Act.put, List.setIfInBounds_toArray, List.set_cons_succ, List.set_cons_zero] at hR ⊢
            have q1 : u.cell? ⟨P1.heap.size, 2, none⟩ = some (.int .i64 (sum : Nat)) := (by simp [World.cell?, hbk]); simp only [g0] at hR ⊢; have HR := Lib.hid hR; clear hR; gi_wp2; exact HR.out _ _ (invL_small hI (by decide) hL7 hL8 (Nat.le_refl _) rfl (Below.refl _ _))
          · intro L x u R hI hsh hL hr hR
            have hL7 : L 7 = false := notYet hsh (show depB _ 7 6 = true by kernel_rfl) (notYet hsh (show depB _ 6 5 = true by kernel_rfl) hL)
            have hL8 : L 8 = false := notYet hsh (show depB _ 8 7 = true by kernel_rfl) hL7
            obtain ⟨hb, hf⟩ := hI.1 hL7
            have hc := hb.m.at_.cell
            simp only [frameOf, DL, upd, List.foldl_cons, List.foldl_nil, Act.put, List.setIfInBounds_toArray, List.set_cons_succ, List.set_cons_zero] at hR ⊢
            have HR := Lib.hid hR; clear hR; gi_wp2; exact HR.out _ _ (invL_small hI (by decide) hL7 hL8 (Nat.le_refl _) rfl (Below.refl _ _))
          · intro L x u R hI hsh hL hr hR
            have hL7 : L 7 = false := notYet hsh (show depB _ 7 6 = true by kernel_rfl) hL
            have hL8 : L 8 = false := notYet hsh (show depB _ 8 7 = true by kernel_rfl) hL7
            obtain ⟨hb, hf⟩ := hI.1 hL7
            have g0 : x 44 = .agg #[str name, .slice Ad data.length cd] := hf 2 (by decide) (hr 2 (by kernel_rfl)); have g1 : x 46 = .int .i64 (sum : Nat) := hf 4 (by decide) (hr 4 (by kernel_rfl)); have g2 : x 47 = .int .i64 (at_ : Nat) := hf 5 (by decide) (hr 5 (by kernel_rfl))
            simp only [frameOf, DL, upd, List.foldl_cons, List.foldl_nil, Act.put, List.setIfInBounds_toArray, List.set_cons_succ, List.set_cons_zero] at hR ⊢
            have hdv := (hb.m.da ((name, data, sum), (Ad, cd), at_) (by simp)).1; have hca := callsIn_wide (n := 5).2 (row_any u name data _ sum at_ (bytes_of_own hdv rfl) hf1 (by omega) hf2 (by omega)); simp only [g0, g1, g2] at hR ⊢; have HR := Lib.hid hR; clear hR; gi_wp2; refine ⟨trivial, (hca.inRound lp).mono ?_⟩; rintro e u2 ⟨v2, rfl, hv2, hb2⟩; gi_wp2; exact HR.out _ _ (invL_small hI (by decide) hL7 hL8 (Nat.le_refl _) hv2 hb2)
          · intro L x u R hI hsh hL hr hR
            obtain ⟨hb, hf⟩ := hI.1 hL
            have hL8 : L 8 = false := notYet hsh (show depB _ 8 7 = true by kernel_rfl) hL
            have g0 : x 42 = vl := hf 0 (by decide) (hr 0 (by kernel_rfl))
            have g1 : Bytes u u.heap.size (x 48) (rowL (name, data, sum) at_) := hf 6 (by decide) (hr 6 (by kernel_rfl))
            have hrl : (rowL (name, data, sum) at_).length = 46 + name.length := length_rowL _ _
            obtain ⟨v5, u5, hrun, how, hgr, hlo⟩ := list_append hb g1 (by omega)
            simp only [frameOf, DL, upd, List.foldl_cons, List.foldl_nil, Act.put, List.setIfInBounds_toArray, List.set_cons_succ, List.set_cons_zero] at hR ⊢
            simp only [g0] at hR ⊢
            have HR := Lib.hid hR
            clear hR
            refine wpListIn_append_run rfl _ _ _ rfl rfl rfl hrun ?_
            gi_wp2
            exact HR.out _ _ ⟨fun h => (by rw [more_same] at h; cases h), fun _ _ => ⟨u, v5, hb, hgr, how, hlo, upd_same _ _ _⟩, fun h => (by rw [more_other (by decide), hL8] at h; cases h)⟩
          · intro L x u R hI hsh hL hr hR
            obtain ⟨Wb, v5, hb, hgr, how, hlo, g0⟩ := hI.2.1 (hr 7 (by kernel_rfl)) hL
            have hbx : Boxed u (w.heap.size + 2) 32 vl := hb.m.li.kept hgr (fun e => by have := (hb.m.rl.lt _ e.symm).1; omega)
            have hc := hbx.cell
            have hfz := hbx.frozen
            have hS := hb.setL hgr how hlo (Nat.le_refl _)
            obtain ⟨A5, c5, e5⟩ := (Sl.of_own how).form
            rw [List.length_append] at e5
            subst e5
            simp only [frameOf, DL, upd, List.foldl_cons, List.foldl_nil, Act.put, List.setIfInBounds_toArray, List.set_cons_succ, List.set_cons_zero] at hR ⊢
            simp only [g0] at hR ⊢
            have HR := Lib.hid hR
            clear hR
            gi_wp2
            exact HR.out undef _ ⟨fun h => (by rw [more_other (by decide), hr 7 (by kernel_rfl)] at h; cases h), fun _ h => (by rw [more_same] at h; cases h), fun _ => ⟨_, hS⟩⟩
          intro x W6 L hLall hI
          obtain ⟨vl6, hB6⟩ := hI.2.2 (hLall 8 (by decide))
          have HB6 := Lib.hid hB6
          clear hI hB6 HB5
          simp only [frameOf, DL, List.foldl_cons, List.foldl_nil, Act.put, List.setIfInBounds_toArray, List.set_cons_succ, List.set_cons_zero]
          generalize x 42 = z42
          generalize x 43 = z43
          generalize x 44 = z44
          generalize x 45 = z45
          generalize x 46 = z46
          generalize x 47 = z47
          generalize x 48 = z48
          generalize x 49 = z49
          have hbk := HB6.out.b
          have q0 : W6.cell? ⟨P1.heap.size, 0, none⟩ = some (str name) := by simp [World.cell?, hbk]
          have q1 : W6.cell? ⟨P1.heap.size, 1, none⟩ = some (.slice Ad data.length cd) := by simp [World.cell?, hbk]
          have q2 := HB6.out.m.o.cell
          obtain ⟨v7, u7, hrun, how, hgr, hlo⟩ := out_append (name := name) (data := data) (A := Ad) (c := cd) (t := 45) HB6.out (by omega)
          have hB7 := (HB6.out.made (bump W6 (.cells #[str name, .slice Ad data.length cd] 45)) (Nat.le_refl _))
          have q3 : Boxed u7 (w.heap.size + 1) 22 (.slice Ao pre.length co) := hB7.m.o.kept hgr (fun e => by have := (hB7.m.ro.lt _ e.symm).1; omega)
          have q4 := q3.cell
          have q5 := q3.frozen
          have hB8 := hB7.setO hgr how hlo (Nat.le_refl _)
          obtain ⟨A7, c7, rfl⟩ := (Sl.of_own how).form
          have q6 := hB8.m.at_.cell
          have q7 := hB8.m.at_.frozen
          have hb8 := hB8.b
          have q8 : (u7.setCell ⟨w.heap.size + 1, 0, none⟩ (.slice A7 (pre.length + 1) c7)).cell? ⟨P1.heap.size, 1, none⟩ = some (.slice Ad data.length cd) := by simp only [World.cell?, hb8]; rfl
          have hB9 := hB8.setAt (at_ + (30 + name.length + data.length))
          have hcast : ((at_ + (30 + name.length + data.length) : Nat) : Int) = (at_ : Int) + (30 + (name.length : Int) + (data.length : Int)) := by omega
          rw [hcast] at hB9
          have HB9 := Lib.hid hB9
          clear hbk hgr how hlo hB7 q3 hb8 hB8 hB9
          gi_wp2_with (gi_at_builtin; refine wpListIn_append_run rfl _ _ _ rfl rfl rfl hrun ?_)
          refine ⟨HB9.out.ko, HB9.out.kp, _, vl6, er, ⟨rm_snoc (x := ((name, data, sum), (Ad, cd), at_)) (by rw [htt]; exact HB9.out.m), by rw [trisF_snoc]; exact HHM.out, fun t ht' => ?_, by simp; omega⟩, fun hs => ?_, fun hs => ?_⟩
          · rw [trisF_snoc] at ht'
            rcases List.mem_append.1 ht' with h | h
            · exact HRI.out.ft t h
            · obtain rfl : t = (name, data, sum) := by simpa using h
              exact (hdAt_fits HAT.out).1
          · rw [trisF_snoc, sums_snoc] at hs
            exact hse0 hs.1
          · rw [trisF_snoc, sums_snoc] at hs
            exact hse1 (fun h => hs ⟨h, hsu.symm⟩)
        | true =>
          have hsu : ¬ crcOf data = sum := by
            have := HBB.out
            rw [bne_iff_ne] at this
            omega
          gi_wp2
          have HB5 := Lib.hid (HB4.out.setE 21)
          clear HB4 hc7 hf7
          generalize W4.setCell ⟨w.heap.size + 4, 0, none⟩ (.int .i64 ((21 : Nat) : Int)) = W5 at *
          have hBBf := HB5.out.fb
          refine wpIn_inv (by kernel_rfl) DL (InvL w.heap.size w (.slice (some ⟨b0, o0, none⟩) l.length c) (.slice Ao pre.length co) pre.length (fndV pre) vl (listL 0 (trisF pre)) at_ 21 (pre ++ [((name, data, sum), (Ad, cd), at_)]) P1.heap.size #[str name, .slice Ad data.length cd, .int .i64 (sum : Nat), .int .i64 (at_ : Nat)] W (rowL (name, data, sum) at_) (.agg #[str name, .slice Ad data.length cd]) sum) (by kernel_rfl) (fun x => invL_start (HB5.out.drew (Nat.le_refl _))) ⟨?_, ?_, ?_, ?_, ?_, ?_, ?_, ?_, ?_, trivial⟩ ?_
          · intro L x u R hI hsh hL hr hR
            have hL7 : L 7 = false := notYet hsh (show depB _ 7 0 = true by kernel_rfl) hL
            have hL8 : L 8 = false := notYet hsh (show depB _ 8 7 = true by kernel_rfl) hL7
            obtain ⟨hb, hf⟩ := hI.1 hL7
            have hc := hb.m.li.cell
            simp only [frameOf, DL, upd, List.foldl_cons, List.foldl_nil, Act.put, List.setIfInBounds_toArray, List.set_cons_succ, List.set_cons_zero] at hR ⊢
            have HR := Lib.hid hR; clear hR; gi_wp2; exact HR.out _ _ (invL_small hI (by decide) hL7 hL8 (Nat.le_refl _) rfl (Below.refl _ _))
          · intro L x u R hI hsh hL hr hR
            have hL7 : L 7 = false := notYet hsh (show depB _ 7 6 = true by kernel_rfl) (notYet hsh (show depB _ 6 2 = true by kernel_rfl) (notYet hsh (show depB _ 2 1 = true by kernel_rfl) hL))
            have hL8 : L 8 = false := notYet hsh (show depB _ 8 7 = true by kernel_rfl) hL7
            obtain ⟨hb, hf⟩ := hI.1 hL7
            skip
            simp only [frameOf, DL, upd, List.foldl_cons, List.foldl_nil, Act.put, List.setIfInBounds_toArray, List.set_cons_succ, List.set_cons_zero] at hR ⊢
            have HR := Lib.hid hR; clear hR; gi_wp2; exact HR.out _ _ (invL_small hI (by decide) hL7 hL8 (Nat.le_refl _) rfl (Below.refl _ _))
          · intro L x u R hI hsh hL hr hR
            have hL7 : L 7 = false := notYet hsh (show depB _ 7 6 = true by kernel_rfl) (notYet hsh (show depB _ 6 2 = true by kernel_rfl) hL)
            have hL8 : L 8 = false := notYet hsh (show depB _ 8 7 = true by kernel_rfl) hL7
            obtain ⟨hb, hf⟩ := hI.1 hL7
            have g0 : x 43 = .pointer (some ⟨P1.heap.size, 0, none⟩) := hf 1 (by decide) (hr 1 (by kernel_rfl)); have hbk := hb.b; have q0 : u.cell? ⟨P1.heap.size, 0, none⟩ = some (str name) := by simp [World.cell?, hbk]
            simp only [frameOf, DL, upd, List.foldl_cons, List.foldl_nil, Act.put, List.setIfInBounds_toArray, List.set_cons_succ, List.set_cons_zero] at hR ⊢
            have q1 : u.cell? ⟨P1.heap.size, 1, none⟩ = some (.slice Ad data.length cd) := (by simp [World.cell?, hbk]); simp only [g0] at hR ⊢; have HR := Lib.hid hR; clear hR; gi_wp2; exact HR.out _ _ (invL_small hI (by decide) hL7 hL8 (Nat.le_refl _) rfl (Below.refl _ _))
          · intro L x u R hI hsh hL hr hR
            have hL7 : L 7 = false := notYet hsh (show depB _ 7 6 = true by kernel_rfl) (notYet hsh (show depB _ 6 4 = true by kernel_rfl) (notYet hsh (show depB _ 4 3 = true by kernel_rfl) hL))
            have hL8 : L 8 = false := notYet hsh (show depB _ 8 7 = true by kernel_rfl) hL7
            obtain ⟨hb, hf⟩ := hI.1 hL7
            skip
            simp only [frameOf, DL, upd, List.foldl_cons, List.foldl_nil, Act.put, List.setIfInBounds_toArray, List.set_cons_succ, List.set_cons_zero] at hR ⊢
            have HR := Lib.hid hR; clear hR; gi_wp2; exact HR.out _ _ (invL_small hI (by decide) hL7 hL8 (Nat.le_refl _) rfl (Below.refl _ _))
          · intro L x u R hI hsh hL hr hR
            have hL7 : L 7 = false := notYet hsh (show depB _ 7 6 = true by kernel_rfl) (notYet hsh (show depB _ 6 4 = true by kernel_rfl) hL)
            have hL8 : L 8 = false := notYet hsh (show depB _ 8 7 = true by kernel_rfl) hL7
            obtain ⟨hb, hf⟩ := hI.1 hL7
            have g0 : x 45 = .pointer (some ⟨P1.heap.size, 2, none⟩) := hf 3 (by decide) (hr 3 (by kernel_rfl)); have hbk := hb.b
            simp only [frameOf, DL, upd, List.foldl_cons, List.foldl_nil, Act.put, List.setIfInBounds_toArray, List.set_cons_succ, List.set_cons_zero] at hR ⊢
            have q1 : u.cell? ⟨P1.heap.size, 2, none⟩ = some (.int .i64 (sum : Nat)) := (by simp [World.cell?, hbk]); simp only [g0] at hR ⊢; have HR := Lib.hid hR; clear hR; gi_wp2; exact HR.out _ _ (invL_small hI (by decide) hL7 hL8 (Nat.le_refl _) rfl (Below.refl _ _))
          · intro L x u R hI hsh hL hr hR
            have hL7 : L 7 = false := notYet hsh (show depB _ 7 6 = true by kernel_rfl) (notYet hsh (show depB _ 6 5 = true by kernel_rfl) hL)
            have hL8 : L 8 = false := notYet hsh (show depB _ 8 7 = true by kernel_rfl) hL7
            obtain ⟨hb, hf⟩ := hI.1 hL7
            have hc := hb.m.at_.cell
            simp only [frameOf, DL, upd, List.foldl_cons, List.foldl_nil, Act.put, List.setIfInBounds_toArray, List.set_cons_succ, List.set_cons_zero] at hR ⊢
            have HR := Lib.hid hR; clear hR; gi_wp2; exact HR.out _ _ (invL_small hI (by decide) hL7 hL8 (Nat.le_refl _) rfl (Below.refl _ _))
          · intro L x u R hI hsh hL hr hR
            have hL7 : L 7 = false := notYet hsh (show depB _ 7 6 = true by kernel_rfl) hL
            have hL8 : L 8 = false := notYet hsh (show depB _ 8 7 = true by kernel_rfl) hL7
            obtain ⟨hb, hf⟩ := hI.1 hL7
            have g0 : x 44 = .agg #[str name, .slice Ad data.length cd] := hf 2 (by decide) (hr 2 (by kernel_rfl)); have g1 : x 46 = .int .i64 (sum : Nat) := hf 4 (by decide) (hr 4 (by kernel_rfl)); have g2 : x 47 = .int .i64 (at_ : Nat) := hf 5 (by decide) (hr 5 (by kernel_rfl))
            simp only [frameOf, DL, upd, List.foldl_cons, List.foldl_nil, Act.put, List.setIfInBounds_toArray, List.set_cons_succ, List.set_cons_zero] at hR ⊢
            have hdv := (hb.m.da ((name, data, sum), (Ad, cd), at_) (by simp)).1; have hca := callsIn_wide (n := 5).2 (row_any u name data _ sum at_ (bytes_of_own hdv rfl) hf1 (by omega) hf2 (by omega)); simp only [g0, g1, g2] at hR ⊢; have HR := Lib.hid hR; clear hR; gi_wp2; refine ⟨trivial, (hca.inRound lp).mono ?_⟩; rintro e u2 ⟨v2, rfl, hv2, hb2⟩; gi_wp2; exact HR.out _ _ (invL_small hI (by decide) hL7 hL8 (Nat.le_refl _) hv2 hb2)
          · intro L x u R hI hsh hL hr hR
            obtain ⟨hb, hf⟩ := hI.1 hL
            have hL8 : L 8 = false := notYet hsh (show depB _ 8 7 = true by kernel_rfl) hL
            have g0 : x 42 = vl := hf 0 (by decide) (hr 0 (by kernel_rfl))
            have g1 : Bytes u u.heap.size (x 48) (rowL (name, data, sum) at_) := hf 6 (by decide) (hr 6 (by kernel_rfl))
            have hrl : (rowL (name, data, sum) at_).length = 46 + name.length := length_rowL _ _
            obtain ⟨v5, u5, hrun, how, hgr, hlo⟩ := list_append hb g1 (by omega)
            simp only [frameOf, DL, upd, List.foldl_cons, List.foldl_nil, Act.put, List.setIfInBounds_toArray, List.set_cons_succ, List.set_cons_zero] at hR ⊢
            simp only [g0] at hR ⊢
            have HR := Lib.hid hR
            clear hR
            refine wpListIn_append_run rfl _ _ _ rfl rfl rfl hrun ?_
            gi_wp2
            exact HR.out _ _ ⟨fun h => (by rw [more_same] at h; cases h), fun _ _ => ⟨u, v5, hb, hgr, how, hlo, upd_same _ _ _⟩, fun h => (by rw [more_other (by decide), hL8] at h; cases h)⟩
          · intro L x u R hI hsh hL hr hR
            obtain ⟨Wb, v5, hb, hgr, how, hlo, g0⟩ := hI.2.1 (hr 7 (by kernel_rfl)) hL
            have hbx : Boxed u (w.heap.size + 2) 32 vl := hb.m.li.kept hgr (fun e => by have := (hb.m.rl.lt _ e.symm).1; omega)
            have hc := hbx.cell
            have hfz := hbx.frozen
            have hS := hb.setL hgr how hlo (Nat.le_refl _)
            obtain ⟨A5, c5, e5⟩ := (Sl.of_own how).form
            rw [List.length_append] at e5
            subst e5
            simp only [frameOf, DL, upd, List.foldl_cons, List.foldl_nil, Act.put, List.setIfInBounds_toArray, List.set_cons_succ, List.set_cons_zero] at hR ⊢
            simp only [g0] at hR ⊢
            have HR := Lib.hid hR
            clear hR
            gi_wp2
            exact HR.out undef _ ⟨fun h => (by rw [more_other (by decide), hr 7 (by kernel_rfl)] at h; cases h), fun _ h => (by rw [more_same] at h; cases h), fun _ => ⟨_, hS⟩⟩
          intro x W6 L hLall hI
          obtain ⟨vl6, hB6⟩ := hI.2.2 (hLall 8 (by decide))
          have HB6 := Lib.hid hB6
          clear hI hB6 HB5
          simp only [frameOf, DL, List.foldl_cons, List.foldl_nil, Act.put, List.setIfInBounds_toArray, List.set_cons_succ, List.set_cons_zero]
          generalize x 42 = z42
          generalize x 43 = z43
          generalize x 44 = z44
          generalize x 45 = z45
          generalize x 46 = z46
          generalize x 47 = z47
          generalize x 48 = z48
          generalize x 49 = z49
          have hbk := HB6.out.b
          have q0 : W6.cell? ⟨P1.heap.size, 0, none⟩ = some (str name) := by simp [World.cell?, hbk]
          have q1 : W6.cell? ⟨P1.heap.size, 1, none⟩ = some (.slice Ad data.length cd) := by simp [World.cell?, hbk]
          have q2 := HB6.out.m.o.cell
          obtain ⟨v7, u7, hrun, how, hgr, hlo⟩ := out_append (name := name) (data := data) (A := Ad) (c := cd) (t := 45) HB6.out (by omega)
          have hB7 := (HB6.out.made (bump W6 (.cells #[str name, .slice Ad data.length cd] 45)) (Nat.le_refl _))
          have q3 : Boxed u7 (w.heap.size + 1) 22 (.slice Ao pre.length co) := hB7.m.o.kept hgr (fun e => by have := (hB7.m.ro.lt _ e.symm).1; omega)
          have q4 := q3.cell
          have q5 := q3.frozen
          have hB8 := hB7.setO hgr how hlo (Nat.le_refl _)
          obtain ⟨A7, c7, rfl⟩ := (Sl.of_own how).form
          have q6 := hB8.m.at_.cell
          have q7 := hB8.m.at_.frozen
          have hb8 := hB8.b
          have q8 : (u7.setCell ⟨w.heap.size + 1, 0, none⟩ (.slice A7 (pre.length + 1) c7)).cell? ⟨P1.heap.size, 1, none⟩ = some (.slice Ad data.length cd) := by simp only [World.cell?, hb8]; rfl
          have hB9 := hB8.setAt (at_ + (30 + name.length + data.length))
          have hcast : ((at_ + (30 + name.length + data.length) : Nat) : Int) = (at_ : Int) + (30 + (name.length : Int) + (data.length : Int)) := by omega
          rw [hcast] at hB9
          have HB9 := Lib.hid hB9
          clear hbk hgr how hlo hB7 q3 hb8 hB8 hB9
          gi_wp2_with (gi_at_builtin; refine wpListIn_append_run rfl _ _ _ rfl rfl rfl hrun ?_)
          refine ⟨HB9.out.ko, HB9.out.kp, _, vl6, 21, ⟨rm_snoc (x := ((name, data, sum), (Ad, cd), at_)) (by rw [htt]; exact HB9.out.m), by rw [trisF_snoc]; exact HHM.out, fun t ht' => ?_, by simp; omega⟩, fun hs => ?_, fun hs => ?_⟩
          · rw [trisF_snoc] at ht'
            rcases List.mem_append.1 ht' with h | h
            · exact HRI.out.ft t h
            · obtain rfl : t = (name, data, sum) := by simpa using h
              exact (hdAt_fits HAT.out).1
          · rw [trisF_snoc, sums_snoc] at hs
            exact absurd hs.2.symm hsu
          · rw [trisF_snoc, sums_snoc] at hs
            all_goals rfl
      · have hbe : (cut l at_ (30 + name.length) == hdL (name, data, sum)) = false := by rw [beq_eq_false_iff_ne]; exact heq
        rw [hbe]
        have hnf := broken_file HRI.out.hd HRI.out.ft (by rw [htt]; exact HAT.out) (.inr (by rw [htt]; exact heq))
        have hf7 := HB3.out.m.e.frozen
        have hc7 := HB3.out.m.e.cell
        gi_wp2
        have hS := HB3.out.setE 12
        exact ⟨hS.ko, rfl, hnf, pre, _, _, ⟨by rw [htt]; exact ⟨hS.m.bx, hS.m.o, hS.m.li, hS.m.at_, hS.m.e, hS.m.ro, hS.m.rl, hS.m.ap, fun x hx => hS.m.da x (List.mem_append_left _ hx), hS.m.be⟩, HRI.out.hd, HRI.out.ft, HRI.out.ln⟩⟩
  case done =>
    rintro D xs P0 W hD hS ⟨vo, vl, er, hri, hse0, hse1⟩ hsz hG hK
    rw [hsR] at hG hD hsz
    have hri2 := hri.grC (W' := W) hG (Nat.le_refl _)
    have hend := ended_file hri2.hd hri2.ft hS
    have htl : (trisF xs).length = xs.length := by simp [trisF]
    have hln := hri2.ln
    have htt : tot (trisF xs) ≤ l.length := by
      have := congrArg List.length hri2.hd
      rw [List.length_append, ← tot_out] at this
      omega
    have hlb := list_bound (trisF xs) 0
    have her : er = 0 ∨ er = 21 := by
      by_cases h : SumsOk (trisF xs)
      · exact .inl (hse0 h)
      · exact .inr (hse1 h)
    have HM := Lib.hid hri2.m
    have HFT := Lib.hid hri2.ft
    have HHD := Lib.hid hri2.hd
    clear hri hri2 hG hS hsz
    obtain ⟨Ao, co, rfl⟩ := (Sl.of_own HM.out.ro).form
    obtain ⟨Al, cl, rfl⟩ := (Sl.of_own HM.out.rl).form
    have hc4 := HM.out.o.cell
    have hc5 := HM.out.li.cell
    have hc6 := HM.out.at_.cell
    gi_wp2
    refine wpIn_facts (by kernel_rfl) [64, 65, 66, 67, 68, 69, 70, 71, 72, 10]
      [.is (.slice Al (listL 0 (trisF xs)).length cl), .is (.slice Ao xs.length co), .is (.int .i64 (xs.length : Nat)), .is (.slice Al (listL 0 (trisF xs)).length cl), .is (.int .i64 ((listL 0 (trisF xs)).length : Nat)), .is (.int .i64 (tot (trisF xs) : Nat)), .bytes (endL xs.length (listL 0 (trisF xs)).length (tot (trisF xs))), .parts [listL 0 (trisF xs), endL xs.length (listL 0 (trisF xs)).length (tot (trisF xs))], .bytes (restL (trisF xs)), .bytes (restL (trisF xs))] (by kernel_rfl) ⟨?_, ?_, ?_, ?_, ?_, ?_, ?_, ?_, ?_, ?_, trivial⟩ ?_
    · intro x w1 R hB hf hR
      have g1 := (HM.out.made hB (Nat.le_refl _)).li.cell
      simp only [frameOf, upd, List.foldl_cons, List.foldl_nil, Act.put, List.setIfInBounds_toArray, List.set_cons_succ, List.set_cons_zero] at hR ⊢
      gi_wp2; exact hR _ _ rfl (Below.refl _ _)
    · intro x w1 R hB hf hR
      have g1 := (HM.out.made hB (Nat.le_refl _)).o.cell
      simp only [frameOf, upd, List.foldl_cons, List.foldl_nil, Act.put, List.setIfInBounds_toArray, List.set_cons_succ, List.set_cons_zero] at hR ⊢
      gi_wp2; exact hR _ _ rfl (Below.refl _ _)
    · intro x w1 R hB hf hR
      have g0 : x 65 = .slice Ao xs.length co := hf 1 (by kernel_rfl)
      simp only [frameOf, upd, List.foldl_cons, List.foldl_nil, Act.put, List.setIfInBounds_toArray, List.set_cons_succ, List.set_cons_zero] at hR ⊢
      simp only [g0] at hR ⊢; gi_wp2; exact hR _ _ rfl (Below.refl _ _)
    · intro x w1 R hB hf hR
      have g1 := (HM.out.made hB (Nat.le_refl _)).li.cell
      simp only [frameOf, upd, List.foldl_cons, List.foldl_nil, Act.put, List.setIfInBounds_toArray, List.set_cons_succ, List.set_cons_zero] at hR ⊢
      gi_wp2; exact hR _ _ rfl (Below.refl _ _)
    · intro x w1 R hB hf hR
      have g0 : x 67 = .slice Al (listL 0 (trisF xs)).length cl := hf 3 (by kernel_rfl)
      simp only [frameOf, upd, List.foldl_cons, List.foldl_nil, Act.put, List.setIfInBounds_toArray, List.set_cons_succ, List.set_cons_zero] at hR ⊢
      simp only [g0] at hR ⊢; gi_wp2; exact hR _ _ rfl (Below.refl _ _)
    · intro x w1 R hB hf hR
      have g1 := (HM.out.made hB (Nat.le_refl _)).at_.cell
      simp only [frameOf, upd, List.foldl_cons, List.foldl_nil, Act.put, List.setIfInBounds_toArray, List.set_cons_succ, List.set_cons_zero] at hR ⊢
      gi_wp2; exact hR _ _ rfl (Below.refl _ _)
    · intro x w1 R hB hf hR
      have g0 : x 66 = .int .i64 (xs.length : Nat) := hf 2 (by kernel_rfl); have g1 : x 68 = .int .i64 ((listL 0 (trisF xs)).length : Nat) := hf 4 (by kernel_rfl); have g2 : x 69 = .int .i64 (tot (trisF xs) : Nat) := hf 5 (by kernel_rfl); have g3 := callsIn_wide (n := 7).2 (end_any w1 xs.length (listL 0 (trisF xs)).length (tot (trisF xs)) (by omega) (by omega) (by omega))
      simp only [frameOf, upd, List.foldl_cons, List.foldl_nil, Act.put, List.setIfInBounds_toArray, List.set_cons_succ, List.set_cons_zero] at hR ⊢
      simp only [g0, g1, g2] at hR ⊢; gi_wp2; refine ⟨trivial, g3.mono ?_⟩; rintro e w2 ⟨v2, rfl, hv2, hb2⟩; gi_wp2; exact hR _ _ hv2 hb2
    · intro x w1 R hB hf hR
      have g0 : x 64 = .slice Al (listL 0 (trisF xs)).length cl := hf 0 (by kernel_rfl); have g1 : Bytes w1 w1.heap.size (x 70) (endL xs.length (listL 0 (trisF xs)).length (tot (trisF xs))) := hf 6 (by kernel_rfl); obtain ⟨A7, c7, e7, -, -⟩ := g1.form; rw [e7] at g1; have g2 := Sl.of_own (HM.out.made hB (Nat.le_refl _)).rl
      simp only [frameOf, upd, List.foldl_cons, List.foldl_nil, Act.put, List.setIfInBounds_toArray, List.set_cons_succ, List.set_cons_zero] at hR ⊢
      simp only [g0, e7] at hR ⊢; gi_wp2; exact hR _ _ (parts2 g2 g1) (bump _ _)
    · intro x w1 R hB hf hR
      have g0 : Parts w1 (x 71) [listL 0 (trisF xs), endL xs.length (listL 0 (trisF xs)).length (tot (trisF xs))] := hf 7 (by kernel_rfl); have g2 : [listL 0 (trisF xs), endL xs.length (listL 0 (trisF xs)).length (tot (trisF xs))].flatten = restL (trisF xs) := (by simp [restL, htl, tot_out]); have g3 := callsIn_wide (n := 7).2 (concat_parts w1 (x 71) _ g0 (by simp) (by simp only [List.flatten_cons, List.flatten_nil, List.append_nil, List.length_append, length_endL]; omega))
      simp only [frameOf, upd, List.foldl_cons, List.foldl_nil, Act.put, List.setIfInBounds_toArray, List.set_cons_succ, List.set_cons_zero] at hR ⊢
      gi_wp2; refine ⟨trivial, g3.mono ?_⟩; rintro e w2 ⟨v2, rfl, hv2, hb2⟩; rw [g2] at hv2; gi_wp2; exact hR _ _ hv2 hb2
    · intro x w1 R hB hf hR
      have g0 : Bytes w1 w1.heap.size (x 72) (restL (trisF xs)) := hf 8 (by kernel_rfl)
      simp only [frameOf, upd, List.foldl_cons, List.foldl_nil, Act.put, List.setIfInBounds_toArray, List.set_cons_succ, List.set_cons_zero] at hR ⊢
      gi_wp2; exact hR _ _ g0 (Below.refl _ _)
    intro x W9 hB9 hf
    have hrs : Bytes W9 W9.heap.size (x 10) (restL (trisF xs)) := hf 9 (by decide)
    have hM9 := HM.out.made hB9 (Nat.le_refl _)
    have hK9 : W9.heap[D]? = some (.deferred (some [])) := (hB9.block D (Array.getElem?_eq_some_iff.1 hK).1).trans hK
    simp only [frameOf, List.foldl_cons, List.foldl_nil, Act.put, List.setIfInBounds_toArray, List.set_cons_succ, List.set_cons_zero]
    have HM9 := Lib.hid hM9
    have HRS := Lib.hid hrs
    have HK9 := Lib.hid hK9
    clear hf hrs hM9 hK9 hB9 HM hK hc4 hc5 hc6
    generalize x 10 = z10 at *
    generalize x 64 = z64
    generalize x 65 = z65
    generalize x 66 = z66
    generalize x 67 = z67
    generalize x 68 = z68
    generalize x 69 = z69
    generalize x 70 = z70
    generalize x 71 = z71
    generalize x 72 = z72
    have HCHK := Lib.hid (callsIn_wide (n := 7).2 (check_any W9 _ _ (mems_of_rm HM9.out HFT.out) (by simp [memT, trisF]; omega)))
    have hne12 : ((er : Int) == 12) = false := by rw [beq_eq_false_iff_ne]; omega
    have hc1 := HM9.out.bx.cell
    have hc4 := HM9.out.o.cell
    have hc6 := HM9.out.at_.cell
    have hc7 := HM9.out.e.cell
    by_cases hck : checkL (sizes (memT (trisF xs))) = 0
    · rw [hck] at HCHK
      gi_wp2
      refine ⟨trivial, HCHK.out.mono ?_⟩
      rintro e W10 ⟨rfl, hb10⟩
      have hM10 := HM9.out.made hb10 (Nat.le_refl _)
      have hK10 := (hb10.block D (Array.getElem?_eq_some_iff.1 HK9.out).1).trans HK9.out
      have HRS10 := Lib.hid (bytes_below HRS.out hb10)
      have hd1 := hM10.bx.cell
      have hd6 := hM10.at_.cell
      have HV10 := Lib.hid (HV.out.below hM10.be)
      have HM10 := Lib.hid hM10
      have HK10 := Lib.hid hK10
      have hs10 := hM10.be.size
      clear hc1 hc4 hc6 hc7 HCHK HM9 HK9 HRS hb10 hM10 hK10
      have hafter : ∀ (b : Bool), (l.drop (tot (trisF xs)) == restL (trisF xs)) = b → Hid ((b = true → l = fileL (trisF xs)) ∧ (b = false → ¬ IsFile l)) := fun b hb => by
        refine ⟨fun h => ?_, fun h hf => ?_⟩
        · subst h
          have := eq_of_beq hb
          conv => lhs; rw [HHD.out, this]
          rfl
        · subst h
          rw [(hend.1 hf).2, beq_self_eq_true] at hb
          cases hb
      obtain ⟨bb, hbb⟩ : ∃ bb, (l.drop (tot (trisF xs)) == restL (trisF xs)) = bb := ⟨_, rfl⟩
      have HAF := hafter bb hbb
      have HEQ : ∀ u, Bytes W10 W10.heap.size u (l.drop (tot (trisF xs))) → Hid (CallsIn Fence.wide 7 Tryd.prog 36 #[u, z10] W10 fun e w' => e = .returned (.bool bb) ∧ Below W10.heap.size W10 w') := fun u hu => by
        have := callsIn_wide (n := 7).2 (equal_any W10 _ _ _ _ hu HRS10.out)
        rwa [hbb] at this
      clear hafter hbb HRS10
      generalize htq : tot (trisF xs) = at_ at *
      rcases Nat.eq_zero_or_pos l.length with hl0 | hl0
      · have hat0 : at_ = 0 := by omega
        subst hat0
        have hdr : l.drop 0 = [] := List.eq_nil_of_length_eq_zero (by simpa using hl0)
        rw [hdr] at HEQ
        have HE2 : ∀ A' c', c' ≤ maxLen → Hid (CallsIn Fence.wide 7 Tryd.prog 36 #[.slice A' 0 c', z10] W10 fun e w' => e = .returned (.bool bb) ∧ Below W10.heap.size W10 w') := fun A' c' h => HEQ _ (bytes_empty h)
        have hcm' : c ≤ maxLen := hcm
        rw [hl0] at hd1
        rcases A with _ | ad
        · gi_wp2
          refine ⟨trivial, ((HE2 _ c hcm').out).mono ?_⟩
          rintro e W11 ⟨rfl, hb11⟩
          have hM11 := HM10.out.made hb11 (Nat.le_refl _)
          have hK11 := (hb11.block D (Array.getElem?_eq_some_iff.1 HK10.out).1).trans HK10.out
          have hq7 := hM11.e.cell
          have hq4 := hM11.o.cell
          cases bb with
          | false =>
            have hnf := HAF.out.2 rfl
            gi_wp2
            try rw [Exit.noGoto_ret]
            refine ⟨by simp, .inl ⟨_, _, rfl, run_takeDeferred hK11, ?_⟩⟩
            refine ⟨.tuple #[.slice none 0 0, .int .i64 12], ?_, ⟨_, 12, [], rfl, mems_nil _ _, .inr (.inr ⟨hnf, rfl, rfl⟩)⟩, (rm_fin hM11 (Nat.le_refl _) hD hK11).be⟩
            simp [results, Tryd.f17, go_sem]
          | true =>
            have hfl := HAF.out.1 rfl
            rcases her with rfl | rfl
            · have hsk : SumsOk (trisF xs) := by
                refine Classical.byContradiction fun h => ?_
                have := hse1 h
                cases this
              gi_wp2
              try rw [Exit.noGoto_ret]
              refine ⟨by simp, .inl ⟨_, _, rfl, run_takeDeferred hK11, ?_⟩⟩
              refine ⟨.tuple #[.slice Ao xs.length co, .int .i64 0], ?_, ⟨_, 0, memT (trisF xs), rfl, mems_of_rm (rm_fin hM11 (Nat.le_refl _) hD hK11) HFT.out, .inl ⟨trisF xs, ⟨HFT.out, hck⟩, hfl, hsk, rfl, rfl⟩⟩, (rm_fin hM11 (Nat.le_refl _) hD hK11).be⟩
              simp [results, Tryd.f17, go_sem]
            · have hsk : ¬ SumsOk (trisF xs) := fun h => by
                have := hse0 h
                cases this
              gi_wp2
              gi_quiet (fail)
              gi_wp2
              try rw [Exit.noGoto_ret]
              have hK12 : (W11.drewN nq).heap[D]? = some (.deferred (some [])) := hK11
              refine ⟨by simp, .inl ⟨_, _, rfl, run_takeDeferred hK12, ?_⟩⟩
              refine ⟨.tuple #[.slice none 0 0, .int .i64 21], ?_, ⟨_, 21, [], rfl, mems_nil _ _, .inr (.inl ⟨trisF xs, ⟨HFT.out, hck⟩, hfl, hsk, rfl, rfl⟩)⟩, (rm_fin (hM11.made (below_drewN (Below.refl _ _) nq) (Nat.le_refl _)) (Nat.le_refl _) hD hK12).be⟩
              simp [results, Tryd.f17, go_sem]
        · gi_wp2
          refine ⟨trivial, ((HE2 _ c hcm').out).mono ?_⟩
          rintro e W11 ⟨rfl, hb11⟩
          have hM11 := HM10.out.made hb11 (Nat.le_refl _)
          have hK11 := (hb11.block D (Array.getElem?_eq_some_iff.1 HK10.out).1).trans HK10.out
          have hq7 := hM11.e.cell
          have hq4 := hM11.o.cell
          cases bb with
          | false =>
            have hnf := HAF.out.2 rfl
            gi_wp2
            try rw [Exit.noGoto_ret]
            refine ⟨by simp, .inl ⟨_, _, rfl, run_takeDeferred hK11, ?_⟩⟩
            refine ⟨.tuple #[.slice none 0 0, .int .i64 12], ?_, ⟨_, 12, [], rfl, mems_nil _ _, .inr (.inr ⟨hnf, rfl, rfl⟩)⟩, (rm_fin hM11 (Nat.le_refl _) hD hK11).be⟩
            simp [results, Tryd.f17, go_sem]
          | true =>
            have hfl := HAF.out.1 rfl
            rcases her with rfl | rfl
            · have hsk : SumsOk (trisF xs) := by
                refine Classical.byContradiction fun h => ?_
                have := hse1 h
                cases this
              gi_wp2
              try rw [Exit.noGoto_ret]
              refine ⟨by simp, .inl ⟨_, _, rfl, run_takeDeferred hK11, ?_⟩⟩
              refine ⟨.tuple #[.slice Ao xs.length co, .int .i64 0], ?_, ⟨_, 0, memT (trisF xs), rfl, mems_of_rm (rm_fin hM11 (Nat.le_refl _) hD hK11) HFT.out, .inl ⟨trisF xs, ⟨HFT.out, hck⟩, hfl, hsk, rfl, rfl⟩⟩, (rm_fin hM11 (Nat.le_refl _) hD hK11).be⟩
              simp [results, Tryd.f17, go_sem]
            · have hsk : ¬ SumsOk (trisF xs) := fun h => by
                have := hse0 h
                cases this
              gi_wp2
              gi_quiet (fail)
              gi_wp2
              try rw [Exit.noGoto_ret]
              have hK12 : (W11.drewN nq).heap[D]? = some (.deferred (some [])) := hK11
              refine ⟨by simp, .inl ⟨_, _, rfl, run_takeDeferred hK12, ?_⟩⟩
              refine ⟨.tuple #[.slice none 0 0, .int .i64 21], ?_, ⟨_, 21, [], rfl, mems_nil _ _, .inr (.inl ⟨trisF xs, ⟨HFT.out, hck⟩, hfl, hsk, rfl, rfl⟩)⟩, (rm_fin (hM11.made (below_drewN (Below.refl _ _) nq) (Nat.le_refl _)) (Nat.le_refl _) hD hK12).be⟩
              simp [results, Tryd.f17, go_sem]
      · obtain ⟨b0, o0, c0', eA, hb0', hA0⟩ := Sl.at_ HV.out hl0
        cases eA
        by_cases hac : at_ = c
        · have hdr : l.drop at_ = [] := List.drop_of_length_le (by omega)
          rw [hdr] at HEQ
          have HE2 := HEQ (.slice (some ⟨b0, o0, none⟩) 0 0) (bytes_empty (by decide))
          have hal : at_ = l.length := by omega
          gi_wp2
          refine ⟨trivial, (HE2.out).mono ?_⟩
          rintro e W11 ⟨rfl, hb11⟩
          have hM11 := HM10.out.made hb11 (Nat.le_refl _)
          have hK11 := (hb11.block D (Array.getElem?_eq_some_iff.1 HK10.out).1).trans HK10.out
          have hq7 := hM11.e.cell
          have hq4 := hM11.o.cell
          cases bb with
          | false =>
            have hnf := HAF.out.2 rfl
            gi_wp2
            try rw [Exit.noGoto_ret]
            refine ⟨by simp, .inl ⟨_, _, rfl, run_takeDeferred hK11, ?_⟩⟩
            refine ⟨.tuple #[.slice none 0 0, .int .i64 12], ?_, ⟨_, 12, [], rfl, mems_nil _ _, .inr (.inr ⟨hnf, rfl, rfl⟩)⟩, (rm_fin hM11 (Nat.le_refl _) hD hK11).be⟩
            simp [results, Tryd.f17, go_sem]
          | true =>
            have hfl := HAF.out.1 rfl
            rcases her with rfl | rfl
            · have hsk : SumsOk (trisF xs) := by
                refine Classical.byContradiction fun h => ?_
                have := hse1 h
                cases this
              gi_wp2
              try rw [Exit.noGoto_ret]
              refine ⟨by simp, .inl ⟨_, _, rfl, run_takeDeferred hK11, ?_⟩⟩
              refine ⟨.tuple #[.slice Ao xs.length co, .int .i64 0], ?_, ⟨_, 0, memT (trisF xs), rfl, mems_of_rm (rm_fin hM11 (Nat.le_refl _) hD hK11) HFT.out, .inl ⟨trisF xs, ⟨HFT.out, hck⟩, hfl, hsk, rfl, rfl⟩⟩, (rm_fin hM11 (Nat.le_refl _) hD hK11).be⟩
              simp [results, Tryd.f17, go_sem]
            · have hsk : ¬ SumsOk (trisF xs) := fun h => by
                have := hse0 h
                cases this
              gi_wp2
              gi_quiet (fail)
              gi_wp2
              try rw [Exit.noGoto_ret]
              have hK12 : (W11.drewN nq).heap[D]? = some (.deferred (some [])) := hK11
              refine ⟨by simp, .inl ⟨_, _, rfl, run_takeDeferred hK12, ?_⟩⟩
              refine ⟨.tuple #[.slice none 0 0, .int .i64 21], ?_, ⟨_, 21, [], rfl, mems_nil _ _, .inr (.inl ⟨trisF xs, ⟨HFT.out, hck⟩, hfl, hsk, rfl, rfl⟩)⟩, (rm_fin (hM11.made (below_drewN (Below.refl _ _) nq) (Nat.le_refl _)) (Nat.le_refl _) hD hK12).be⟩
              simp [results, Tryd.f17, go_sem]
        · have hlt : at_ < c := by omega
          have hw : Bytes W10 W10.heap.size (.slice (some ⟨b0, o0 + at_, none⟩) (l.length - at_) (c - at_)) (l.drop at_) := by
            rcases Nat.lt_or_ge at_ l.length with h | h
            · have := (bytes_window HV10.out (k := at_) (n := l.length - at_) (c' := c - at_) (by omega) (by omega) (by omega) (by unfold maxLen; omega)).more hs10
              rw [cut_length (by omega)] at this
              have e : cut l at_ (l.length - at_) = l.drop at_ := by unfold cut; rw [List.take_of_length_le (by simp)]
              rwa [e] at this
            · rw [List.drop_of_length_le h, show l.length - at_ = 0 by omega]
              exact bytes_empty (by unfold maxLen; omega)
          have HE2 := HEQ _ hw
          clear hw HEQ
          gi_wp2
          refine ⟨trivial, (HE2.out).mono ?_⟩
          rintro e W11 ⟨rfl, hb11⟩
          have hM11 := HM10.out.made hb11 (Nat.le_refl _)
          have hK11 := (hb11.block D (Array.getElem?_eq_some_iff.1 HK10.out).1).trans HK10.out
          have hq7 := hM11.e.cell
          have hq4 := hM11.o.cell
          cases bb with
          | false =>
            have hnf := HAF.out.2 rfl
            gi_wp2
            try rw [Exit.noGoto_ret]
            refine ⟨by simp, .inl ⟨_, _, rfl, run_takeDeferred hK11, ?_⟩⟩
            refine ⟨.tuple #[.slice none 0 0, .int .i64 12], ?_, ⟨_, 12, [], rfl, mems_nil _ _, .inr (.inr ⟨hnf, rfl, rfl⟩)⟩, (rm_fin hM11 (Nat.le_refl _) hD hK11).be⟩
            simp [results, Tryd.f17, go_sem]
          | true =>
            have hfl := HAF.out.1 rfl
            rcases her with rfl | rfl
            · have hsk : SumsOk (trisF xs) := by
                refine Classical.byContradiction fun h => ?_
                have := hse1 h
                cases this
              gi_wp2
              try rw [Exit.noGoto_ret]
              refine ⟨by simp, .inl ⟨_, _, rfl, run_takeDeferred hK11, ?_⟩⟩
              refine ⟨.tuple #[.slice Ao xs.length co, .int .i64 0], ?_, ⟨_, 0, memT (trisF xs), rfl, mems_of_rm (rm_fin hM11 (Nat.le_refl _) hD hK11) HFT.out, .inl ⟨trisF xs, ⟨HFT.out, hck⟩, hfl, hsk, rfl, rfl⟩⟩, (rm_fin hM11 (Nat.le_refl _) hD hK11).be⟩
              simp [results, Tryd.f17, go_sem]
            · have hsk : ¬ SumsOk (trisF xs) := fun h => by
                have := hse0 h
                cases this
              gi_wp2
              gi_quiet (fail)
              gi_wp2
              try rw [Exit.noGoto_ret]
              have hK12 : (W11.drewN nq).heap[D]? = some (.deferred (some [])) := hK11
              refine ⟨by simp, .inl ⟨_, _, rfl, run_takeDeferred hK12, ?_⟩⟩
              refine ⟨.tuple #[.slice none 0 0, .int .i64 21], ?_, ⟨_, 21, [], rfl, mems_nil _ _, .inr (.inl ⟨trisF xs, ⟨HFT.out, hck⟩, hfl, hsk, rfl, rfl⟩)⟩, (rm_fin (hM11.made (below_drewN (Below.refl _ _) nq) (Nat.le_refl _)) (Nat.le_refl _) hD hK12).be⟩
              simp [results, Tryd.f17, go_sem]
    · have hnf : ¬ IsFile l := fun h => hck (hend.1 h).1
      have hck2 : (((checkL (sizes (memT (trisF xs))) : Nat) : Int) != 0) = true := by rw [bne_iff_ne]; omega
      generalize checkL (sizes (memT (trisF xs))) = ck at *
      gi_wp2
      refine ⟨trivial, HCHK.out.mono ?_⟩
      rintro e W10 ⟨rfl, hb10⟩
      have hM10 := HM9.out.made hb10 (Nat.le_refl _)
      have hK10 := (hb10.block D (Array.getElem?_eq_some_iff.1 HK9.out).1).trans HK9.out
      gi_wp2
      refine ⟨trivial, ?_⟩
      gi_wp2
      try rw [Exit.noGoto_ret]
      refine ⟨by simp, .inl ⟨_, _, rfl, run_takeDeferred hK10, ?_⟩⟩
      refine ⟨.tuple #[.slice none 0 0, .int .i64 12], ?_, ⟨_, 12, [], rfl, mems_nil _ _, .inr (.inr ⟨hnf, rfl, rfl⟩)⟩, (rm_fin hM10 (Nat.le_refl _) hD hK10).be⟩
      simp [results, Tryd.f17, go_sem]
  case stop =>
    rintro D cd xs' P0 W hD _ ⟨rfl, hnf, xs, vo, vl, hri⟩ hsz hG hK
    rw [hsR] at hG hD hsz
    have hri2 := hri.grC (W' := W) hG (Nat.le_refl _)
    have htl : (trisF xs).length = xs.length := by simp [trisF]
    have hln := hri2.ln
    have htt : tot (trisF xs) ≤ l.length := by
      have := congrArg List.length hri2.hd
      rw [List.length_append, ← tot_out] at this
      omega
    have hlb := list_bound (trisF xs) 0
    have HM := Lib.hid hri2.m
    clear hri hri2 hG hsz
    obtain ⟨Ao, co, rfl⟩ := (Sl.of_own HM.out.ro).form
    obtain ⟨Al, cl, rfl⟩ := (Sl.of_own HM.out.rl).form
    have hc4 := HM.out.o.cell
    have hc5 := HM.out.li.cell
    have hc6 := HM.out.at_.cell
    gi_wp2
    refine wpIn_facts (by kernel_rfl) [64, 65, 66, 67, 68, 69, 70, 71, 72, 10]
      [.is (.slice Al (listL 0 (trisF xs)).length cl), .is (.slice Ao xs.length co), .is (.int .i64 (xs.length : Nat)), .is (.slice Al (listL 0 (trisF xs)).length cl), .is (.int .i64 ((listL 0 (trisF xs)).length : Nat)), .is (.int .i64 (tot (trisF xs) : Nat)), .bytes (endL xs.length (listL 0 (trisF xs)).length (tot (trisF xs))), .parts [listL 0 (trisF xs), endL xs.length (listL 0 (trisF xs)).length (tot (trisF xs))], .bytes (restL (trisF xs)), .bytes (restL (trisF xs))] (by kernel_rfl) ⟨?_, ?_, ?_, ?_, ?_, ?_, ?_, ?_, ?_, ?_, trivial⟩ ?_
    · intro x w1 R hB hf hR
      have g1 := (HM.out.made hB (Nat.le_refl _)).li.cell
      simp only [frameOf, upd, List.foldl_cons, List.foldl_nil, Act.put, List.setIfInBounds_toArray, List.set_cons_succ, List.set_cons_zero] at hR ⊢
      gi_wp2; exact hR _ _ rfl (Below.refl _ _)
    · intro x w1 R hB hf hR
      have g1 := (HM.out.made hB (Nat.le_refl _)).o.cell
      simp only [frameOf, upd, List.foldl_cons, List.foldl_nil, Act.put, List.setIfInBounds_toArray, List.set_cons_succ, List.set_cons_zero] at hR ⊢
      gi_wp2; exact hR _ _ rfl (Below.refl _ _)
    · intro x w1 R hB hf hR
      have g0 : x 65 = .slice Ao xs.length co := hf 1 (by kernel_rfl)
      simp only [frameOf, upd, List.foldl_cons, List.foldl_nil, Act.put, List.setIfInBounds_toArray, List.set_cons_succ, List.set_cons_zero] at hR ⊢
      simp only [g0] at hR ⊢; gi_wp2; exact hR _ _ rfl (Below.refl _ _)
    · intro x w1 R hB hf hR
      have g1 := (HM.out.made hB (Nat.le_refl _)).li.cell
      simp only [frameOf, upd, List.foldl_cons, List.foldl_nil, Act.put, List.setIfInBounds_toArray, List.set_cons_succ, List.set_cons_zero] at hR ⊢
      gi_wp2; exact hR _ _ rfl (Below.refl _ _)
    · intro x w1 R hB hf hR
      have g0 : x 67 = .slice Al (listL 0 (trisF xs)).length cl := hf 3 (by kernel_rfl)
      simp only [frameOf, upd, List.foldl_cons, List.foldl_nil, Act.put, List.setIfInBounds_toArray, List.set_cons_succ, List.set_cons_zero] at hR ⊢
      simp only [g0] at hR ⊢; gi_wp2; exact hR _ _ rfl (Below.refl _ _)
    · intro x w1 R hB hf hR
      have g1 := (HM.out.made hB (Nat.le_refl _)).at_.cell
      simp only [frameOf, upd, List.foldl_cons, List.foldl_nil, Act.put, List.setIfInBounds_toArray, List.set_cons_succ, List.set_cons_zero] at hR ⊢
      gi_wp2; exact hR _ _ rfl (Below.refl _ _)
    · intro x w1 R hB hf hR
      have g0 : x 66 = .int .i64 (xs.length : Nat) := hf 2 (by kernel_rfl); have g1 : x 68 = .int .i64 ((listL 0 (trisF xs)).length : Nat) := hf 4 (by kernel_rfl); have g2 : x 69 = .int .i64 (tot (trisF xs) : Nat) := hf 5 (by kernel_rfl); have g3 := callsIn_wide (n := 7).2 (end_any w1 xs.length (listL 0 (trisF xs)).length (tot (trisF xs)) (by omega) (by omega) (by omega))
      simp only [frameOf, upd, List.foldl_cons, List.foldl_nil, Act.put, List.setIfInBounds_toArray, List.set_cons_succ, List.set_cons_zero] at hR ⊢
      simp only [g0, g1, g2] at hR ⊢; gi_wp2; refine ⟨trivial, g3.mono ?_⟩; rintro e w2 ⟨v2, rfl, hv2, hb2⟩; gi_wp2; exact hR _ _ hv2 hb2
    · intro x w1 R hB hf hR
      have g0 : x 64 = .slice Al (listL 0 (trisF xs)).length cl := hf 0 (by kernel_rfl); have g1 : Bytes w1 w1.heap.size (x 70) (endL xs.length (listL 0 (trisF xs)).length (tot (trisF xs))) := hf 6 (by kernel_rfl); obtain ⟨A7, c7, e7, -, -⟩ := g1.form; rw [e7] at g1; have g2 := Sl.of_own (HM.out.made hB (Nat.le_refl _)).rl
      simp only [frameOf, upd, List.foldl_cons, List.foldl_nil, Act.put, List.setIfInBounds_toArray, List.set_cons_succ, List.set_cons_zero] at hR ⊢
      simp only [g0, e7] at hR ⊢; gi_wp2; exact hR _ _ (parts2 g2 g1) (bump _ _)
    · intro x w1 R hB hf hR
      have g0 : Parts w1 (x 71) [listL 0 (trisF xs), endL xs.length (listL 0 (trisF xs)).length (tot (trisF xs))] := hf 7 (by kernel_rfl); have g2 : [listL 0 (trisF xs), endL xs.length (listL 0 (trisF xs)).length (tot (trisF xs))].flatten = restL (trisF xs) := (by simp [restL, htl, tot_out]); have g3 := callsIn_wide (n := 7).2 (concat_parts w1 (x 71) _ g0 (by simp) (by simp only [List.flatten_cons, List.flatten_nil, List.append_nil, List.length_append, length_endL]; omega))
      simp only [frameOf, upd, List.foldl_cons, List.foldl_nil, Act.put, List.setIfInBounds_toArray, List.set_cons_succ, List.set_cons_zero] at hR ⊢
      gi_wp2; refine ⟨trivial, g3.mono ?_⟩; rintro e w2 ⟨v2, rfl, hv2, hb2⟩; rw [g2] at hv2; gi_wp2; exact hR _ _ hv2 hb2
    · intro x w1 R hB hf hR
      have g0 : Bytes w1 w1.heap.size (x 72) (restL (trisF xs)) := hf 8 (by kernel_rfl)
      simp only [frameOf, upd, List.foldl_cons, List.foldl_nil, Act.put, List.setIfInBounds_toArray, List.set_cons_succ, List.set_cons_zero] at hR ⊢
      gi_wp2; exact hR _ _ g0 (Below.refl _ _)
    intro x W9 hB9 hf
    have hrs : Bytes W9 W9.heap.size (x 10) (restL (trisF xs)) := hf 9 (by decide)
    have hM9 := HM.out.made hB9 (Nat.le_refl _)
    have hK9 : W9.heap[D]? = some (.deferred (some [])) := (hB9.block D (Array.getElem?_eq_some_iff.1 hK).1).trans hK
    simp only [frameOf, List.foldl_cons, List.foldl_nil, Act.put, List.setIfInBounds_toArray, List.set_cons_succ, List.set_cons_zero]
    have HM9 := Lib.hid hM9
    have HRS := Lib.hid hrs
    have HK9 := Lib.hid hK9
    clear hf hrs hM9 hK9 hB9 HM hK hc4 hc5 hc6
    generalize x 10 = z10 at *
    generalize x 64 = z64
    generalize x 65 = z65
    generalize x 66 = z66
    generalize x 67 = z67
    generalize x 68 = z68
    generalize x 69 = z69
    generalize x 70 = z70
    generalize x 71 = z71
    generalize x 72 = z72
    have hc7 := HM9.out.e.cell
    gi_wp2
    refine ⟨trivial, ?_⟩
    gi_wp2
    refine ⟨trivial, ?_⟩
    gi_wp2
    try rw [Exit.noGoto_ret]
    refine ⟨by simp, .inl ⟨_, _, rfl, run_takeDeferred HK9.out, ?_⟩⟩
    refine ⟨.tuple #[.slice none 0 0, .int .i64 12], ?_, ⟨_, 12, [], rfl, mems_nil _ _, .inr (.inr ⟨hnf, rfl, rfl⟩)⟩, (rm_fin HM9.out (Nat.le_refl _) hD HK9.out).be⟩
    simp [results, Tryd.f17, go_sem]
end Go.Proofs.YtmhadkdbonfmdaaDoor
