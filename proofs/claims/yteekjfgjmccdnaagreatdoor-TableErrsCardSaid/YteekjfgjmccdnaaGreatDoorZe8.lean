/-
  A region that draws its order, within a fence, whose round of the loop (the call of its yield) comes behind all that looks, and ahead of all that only reckons: each operation's value is known ahead.
-/
import Derived.Lib.MinMax
import Derived.Test.YteekjfgjmccdnaaGreatDoorZe7
section
/- GSpans: Layer 13's Spans at any zone, walked. -/
namespace Go.Proofs.YteekjfgjmccdnaaGreatDoor
open Go Go.RowKit Go.Shelf
attribute [local go_sem] Oper.semAt_some
set_option maxRecDepth 100000

/-- Where era k ends, and where it begins. -/
def toV (E : List Int) (k : Nat) : Int := E.getD k 2199023255553
def fromV (E : List Int) (k : Nat) : Int := if k = 0 then -2199023255553 else toV E (k - 1)
theorem toV_at {E : List Int} {k : Nat} (h : k < E.length) : toV E k = E[k] := by unfold toV; rw [List.getD_eq_getElem?_getD, List.getElem?_eq_getElem h]; rfl
theorem toV_out {E : List Int} {k : Nat} (h : E.length ≤ k) : toV E k = 2199023255553 := by unfold toV; rw [List.getD_eq_getElem?_getD, List.getElem?_eq_none h]; rfl
theorem fromV_succ (E : List Int) (k : Nat) : fromV E (k + 1) = toV E k := by unfold fromV; rw [if_neg (by omega)]; rfl
theorem span_at (eb fb i : Nat) (a : Int) (E : List Int) (v : Value) (B : Nat) (w : World) (he : Blk w eb 28 #[v]) (hf : Blk w fb 3 #[.int .i64 a]) (hv : Nums w B v E) (hB : B ≤ w.heap.size) :
    Calls Tryz.prog 174 #[.int .i64 i, .pointer (some ⟨eb, 0, none⟩), .pointer (some ⟨fb, 0, none⟩)] w fun o w' => o = .returned (.agg #[.int .i64 a, .int .i64 (toV E i)]) ∧ Below w.heap.size w w' := by
  obtain ⟨A, c, rfl, hlc, hcm⟩ := hv.form
  unfold maxLen at hcm
  have c0 := he.cell 0 (v := .slice A E.length c) rfl
  have c1 := hf.cell 0 (v := .int .i64 a) rfl
  have h0 := he.lt
  have h1 := hf.lt
  have hn0 : eb ≠ w.heap.size := by omega
  have hn1 : fb ≠ w.heap.size := by omega
  clear he hf
  by_cases hlt : i < E.length
  · have hd : decide ((i : Int) < (E.length : Int)) = true := decide_eq_true (by omega)
    obtain ⟨bb, o, c', e, hbb, hc⟩ := hv.cells (by omega)
    cases e
    have k0 := hc i hlt
    have hbw : bb < w.heap.size := by omega
    have HT := Lib.hid (toV_at hlt)
    obtain ⟨n, hn⟩ : ∃ n, E[i] = n := ⟨_, rfl⟩
    rw [hn] at k0 HT
    rw [HT.out]
    clear hc hn hv
    go_enter Tryz.func174, Tryz.ntmps174
    go_wp2_with fail
    refine bodyPost_ret (v := .agg #[.int .i64 a, .int .i64 n]) ?_ rfl ⟨rfl, (Below.refl _ _).alloc (Nat.le_refl _) _⟩
    have hB := Blk.new w 80 #[.int .i64 a, .int .i64 n]
    have d0 := hB.cell 0 (v := .int .i64 a) rfl
    have d1 := hB.cell 1 (v := .int .i64 n) rfl
    simp [results, Tryz.f174, go_sem, d0, d1]
  · have hd : decide ((i : Int) < (E.length : Int)) = false := decide_eq_false (by omega)
    rw [toV_out (by omega)]
    clear hv
    go_enter Tryz.func174, Tryz.ntmps174
    go_wp2_with fail
    refine bodyPost_ret (v := .agg #[.int .i64 a, .int .i64 2199023255553]) ?_ rfl ⟨rfl, (Below.refl _ _).alloc (Nat.le_refl _) _⟩
    have hB := Blk.new w 80 #[.int .i64 a, .int .i64 2199023255553]
    have d0 := hB.cell 0 (v := .int .i64 a) rfl
    have d1 := hB.cell 1 (v := .int .i64 2199023255553) rfl
    simp [results, Tryz.f174, go_sem, d0, d1]
/-- What is given for era k. -/
def encS (l : List EraF) (E : List Int) (k : Nat) : Array Value := #[(l.getD k default).val, .agg #[.int .i64 (fromV E k), .int .i64 (toV E k)]]
/-- What a round finds. -/
structure SpanAt (l : List EraF) (E : List Int) (fb : Nat) (J : List Nat → (Nat → Prop) → World → Prop) (O0 : Nat → Prop) (W2 : World) (pre : List Nat) (O : Nat → Prop) (wr : World) : Prop where
  j : J pre O wr
  bd : Bd O wr
  ext : ∀ k, O k → O0 k ∨ W2.heap.size ≤ k
  frm : Fr (fun k => O0 k ∨ k = fb) W2 wr
  fr : Blk wr fb 3 #[.int .i64 (fromV E pre.length)]
  len : pre.length ≤ l.length
/-- What is told of era k: it is the next one, and what was there ahead of the loop is as it was. -/
def RS (l : List EraF) (B2 : Nat) (Wb : World) (pre : List Nat) (x : Nat) (D : Nat → Prop) (W : World) : Prop := (∀ j, ¬ D j) ∧ x = pre.length ∧ x < l.length ∧ ∀ k, k < B2 → W.heap[k]? = Wb.heap[k]?
set_option maxHeartbeats 4000000 in
theorem spansZ_in (n : Nat) (hn : 2 ≤ n) (lp zb sb B B2 : Nat) (Wb : World) (zn : ByteArray) (ev sv : Value) (l : List EraF) (S : List SetF) (W : World)
    (hzb : Blk W zb 24 #[.string zn, ev]) (hsb : Blk W sb 90 #[setsV zn ev sv]) (hz : ZW W B ev sv l S) (ho : ZOk l S) (h0 : errZ S l = 0) (hBB : B ≤ B2) (hB2 : B2 ≤ W.heap.size) (hWb : ∀ k, k < B2 → W.heap[k]? = Wb.heap[k]?)
    (J Jx : List Nat → (Nat → Prop) → World → Prop) (fJ : Feet J) (hY : RoundsIn Fence.wide (n - 1) Tryz.prog lp (encS l (endL S l)) (RS l B2 Wb) J Jx)
    (O0 : Nat → Prop) (hJ0 : J [] O0 W) (hO0 : Bd O0 W) (hK : ∀ k, k < B2 → ¬ O0 k) :
    CallsIn Fence.wide n Tryz.prog 173 #[.func (.yield lp) #[] #[], .pointer (some ⟨zb, 0, none⟩), .pointer (some ⟨sb, 0, none⟩)] W (IterEnd (fun xs => xs.length = l.length) (fun pre => pre.length ≤ l.length) J Jx O0 (fun _ => False) W) := by
  obtain ⟨A, cA, rfl, hlc, hcm⟩ := hz.eras.form
  unfold maxLen at hcm
  have HEN := Lib.hid (callsIn_wide (n := n - 1).2 (zends_any zn (.slice A l.length cA) sv B l S W hz ho))
  unfold EndsPost at HEN
  rw [h0] at HEN
  have z0 := hzb.cell 0 (v := .string zn) rfl
  have z1 := hzb.cell 1 (v := .slice A l.length cA) rfl
  have s0 := hsb.cell 0 (v := setsV zn (.slice A l.length cA) sv) rfl
  unfold setsV zoneA worldA at HEN
  unfold setsV worldA at s0
  have hzl := hzb.lt
  have hsl := hsb.lt
  have HZ := Lib.hid hz
  obtain ⟨E, hE⟩ : ∃ E, endL S l = E := ⟨_, rfl⟩
  rw [hE] at HEN hY
  clear hE h0 hz ho
  refine callsIn_of_wp Tryz.func173 rfl trivial ?_ rfl
  simp only [Tryz.ntmps173, List.size_toArray, List.length_cons, List.length_nil, Nat.reduceAdd, Nat.reduceSub, Array.replicate_succ, Array.replicate_zero, List.push_toArray, List.append_toArray, List.nil_append, List.cons_append]
  gi_wp2
  refine ⟨trivial, fun _ => by omega, HEN.out.mono ?_⟩
  rintro o w1 ⟨⟨v, rfl, hown, -⟩, hb1⟩
  have hown1 := hown (by trivial)
  obtain ⟨A5, c5, rfl, -, -⟩ := Sl.of_own hown1
  have z11 := (hb1.cell (p := ⟨zb, 1, none⟩) hzl).trans z1
  have hzl1 : zb < w1.heap.size := Nat.lt_of_lt_of_le hzl hb1.size
  have HB1 := Lib.hid hb1
  have HOWN := Lib.hid hown1
  clear HEN z0 z1 s0 hb1 hown hown1
  gi_wp2
  obtain ⟨W2, hW2⟩ : ∃ W2, (w1.alloc (.cells #[.slice A5 E.length c5] 28)).alloc (.cells #[.int .i64 (-2199023255553)] 3) = W2 := ⟨_, rfl⟩
  obtain ⟨b0, b1, hb2, hs2⟩ := blks2 w1 _ _ _ _ W2 hW2
  rw [hW2]
  have hb02 := HB1.out.trans (hb2.mono HB1.out.size)
  have HE2 := Lib.hid b0
  have HZ2 := Lib.hid (HZ.out.below hb02)
  have HO2 := Lib.hid (ownsRow_below HOWN.out hb2)
  have hs1 := HB1.out.size
  have HS0 := Lib.hid (show SpanAt l E (w1.heap.size + 1) J O0 W2 [] O0 W2 from
    ⟨fJ _ _ _ _ hJ0 (Fr.of_below hb02 (Nat.le_refl _)), hO0.fr (Fr.of_below (T := fun _ => True) hb02 (Nat.le_refl _)), fun k h => .inl h, Fr.refl _ _, b1, Nat.zero_le _⟩)
  have HB02 := Lib.hid hb02
  clear hW2 b0 b1 hb2 hb02 z11
  gi_loopw [23] (fun iv wr => ∃ pre O, iv = .int .i64 (pre.length : Nat) ∧ SpanAt l E (w1.heap.size + 1) J O0 W2 pre O wr) (fun iv _ => l.length - (intOf iv).toNat)
  case atStart => exact ⟨[], O0, rfl, HS0.out⟩
  case round =>
    clear HS0
    obtain ⟨pre, O, rfl, hS⟩ := hrel
    have HS := Lib.hid hS
    have hcz : ∀ k, k < B → ¬ (O0 k ∨ k = w1.heap.size + 1) := fun k hk e => by
      rcases e with e | e
      · exact hK k (by omega) e
      · have := HZ.out.le; omega
    have her : ErasR wr B (.slice A l.length cA) l := hS.frm.sl HZ2.out.eras HZ2.out.le hcz
    have how := hS.frm.own HO2.out (fun g hg e => by
      have h5 := HOWN.out.lt g hg
      rcases e with e | e
      · have := hO0 _ e; omega
      · omega)
    have heb : Blk wr w1.heap.size 28 #[.slice A5 E.length c5] := HE2.out.fr hS.frm (fun e => by
      rcases e with e | e
      · have := hO0 _ e; omega
      · omega)
    have hfb := hS.fr
    have hws := hS.frm.size
    have hlen := hS.len
    by_cases hlt : pre.length < l.length
    · have hd : decide ((pre.length : Int) < (l.length : Int)) = true := decide_eq_true (by omega)
      obtain ⟨bb, o, c', e, hbb, hc⟩ := her.cells (by omega)
      cases e
      have hx := hc pre.length hlt
      have hgx : l.getD pre.length default = l[pre.length] := by rw [List.getD_eq_getElem?_getD, List.getElem?_eq_getElem hlt]; rfl
      obtain ⟨x, hxk⟩ : ∃ x, l[pre.length] = x := ⟨_, rfl⟩
      rw [hxk] at hx hgx
      obtain ⟨c0, c1, c2, c3, c4, c5, c6, c7, c8, c9, c10, c11⟩ := hx
      have hbw : bb < wr.heap.size := by have := HZ2.out.le; omega
      have hA3 := Blk.new wr 42 #[.int .i64 x.n.off, .string x.ru, .int .i64 x.n.save, .string x.fm, .bool x.en, .int .i64 x.n.year, .int .i64 x.n.month, .int .i64 x.n.dk, .int .i64 x.n.dw, .int .i64 x.n.dn, .int .i64 x.n.sec, .int .i64 x.n.ak]
      have hb3 : Below wr.heap.size wr (wr.alloc (.cells #[.int .i64 x.n.off, .string x.ru, .int .i64 x.n.save, .string x.fm, .bool x.en, .int .i64 x.n.year, .int .i64 x.n.month, .int .i64 x.n.dk, .int .i64 x.n.dw, .int .i64 x.n.dn, .int .i64 x.n.sec, .int .i64 x.n.ak] 42)) := (Below.refl _ _).alloc (Nat.le_refl _) _
      have HSP := Lib.hid (callsIn_wide (n := n - 1).2 (span_at w1.heap.size (w1.heap.size + 1) pre.length (fromV E pre.length) E _ wr.heap.size (wr.alloc (.cells #[.int .i64 x.n.off, .string x.ru, .int .i64 x.n.save, .string x.fm, .bool x.en, .int .i64 x.n.year, .int .i64 x.n.month, .int .i64 x.n.dk, .int .i64 x.n.dw, .int .i64 x.n.dn, .int .i64 x.n.sec, .int .i64 x.n.ak] 42)) (heb.alloc _) (hfb.alloc _) ((Sl.of_own how).below hb3) hb3.size))
      obtain ⟨fv, hfv⟩ : ∃ f, fromV E pre.length = f := ⟨_, rfl⟩
      obtain ⟨tv, htv⟩ : ∃ f, toV E pre.length = f := ⟨_, rfl⟩
      rw [hfv, htv] at HSP
      have HFB := Lib.hid hfb
      have HGX := Lib.hid hgx
      have HFV := Lib.hid hfv
      have HTV := Lib.hid htv
      have hfl := hfb.lt
      clear hc hxk hgx her how heb hfb hfv htv hS
      gi_wp2
      refine ⟨trivial, fun _ => by omega, HSP.out.mono ?_⟩
      rintro o w4 ⟨rfl, hb4⟩
      have hA4 := hA3.below hb4 hA3.lt
      have HB4 := Lib.hid (hb3.trans (hb4.mono hb3.size))
      have hl4 := hA4.lt
      clear hb3 hb4 hA3 HSP c0 c1 c2 c3 c4 c5 c6 c7 c8 c9 c10 c11
      have hT := Blk.new w4 80 #[.int .i64 fv, .int .i64 tv]
      have HB5 := Lib.hid (HB4.out.alloc HB4.out.size (.cells #[.int .i64 fv, .int .i64 tv] 80))
      have hF5 := HFB.out.below HB5.out HFB.out.lt
      obtain ⟨w5, hw5⟩ : ∃ w5, w4.alloc (.cells #[.int .i64 fv, .int .i64 tv] 80) = w5 := ⟨_, rfl⟩
      have hA5 := hA4.alloc (.cells #[.int .i64 fv, .int .i64 tv] 80)
      rw [hw5] at hT HB5 hF5 hA5
      have e0 := hA5.cell 0 (v := .int .i64 x.n.off) rfl
      have e1 := hA5.cell 1 (v := .string x.ru) rfl
      have e2 := hA5.cell 2 (v := .int .i64 x.n.save) rfl
      have e3 := hA5.cell 3 (v := .string x.fm) rfl
      have e4 := hA5.cell 4 (v := .bool x.en) rfl
      have e5 := hA5.cell 5 (v := .int .i64 x.n.year) rfl
      have e6 := hA5.cell 6 (v := .int .i64 x.n.month) rfl
      have e7 := hA5.cell 7 (v := .int .i64 x.n.dk) rfl
      have e8 := hA5.cell 8 (v := .int .i64 x.n.dw) rfl
      have e9 := hA5.cell 9 (v := .int .i64 x.n.dn) rfl
      have e10 := hA5.cell 10 (v := .int .i64 x.n.sec) rfl
      have e11 := hA5.cell 11 (v := .int .i64 x.n.ak) rfl
      have t0 := hT.cell 0 (v := .int .i64 fv) rfl
      have t1 := hT.cell 1 (v := .int .i64 tv) rfl
      have ht5 := hT.lt
      have hsame : ∀ k, k < B2 → w5.heap[k]? = Wb.heap[k]? := fun k hk => by
        have h1 := HB02.out.block k (by omega)
        have h2 := HS.out.frm.block k (by have := HB02.out.size; omega) (fun e => by
          rcases e with e | e
          · exact hK k hk e
          · omega)
        have h3 := HB5.out.block k (by have := HB02.out.size; have := HS.out.frm.size; omega)
        rw [h3, h2, h1]
        exact hWb k hk
      obtain ⟨fn, tmps, assign, body, hyd, hR⟩ := hY pre pre.length (fun _ => False) O w5 (fJ _ _ _ _ HS.out.j (Fr.of_below HB5.out (Nat.le_refl _))) (HS.out.bd.fr (Fr.of_below (T := fun _ => True) HB5.out (Nat.le_refl _))) (fun _ h => h.elim) (fun _ h => h.elim) ⟨fun _ h => h, rfl, hlt, hsame⟩
      unfold encS at hyd
      rw [HGX.out, HFV.out, HTV.out] at hyd
      unfold EraF.val eraA at hyd
      gi_wp2
      refine ⟨fun _ => by omega, hR.mono ?_⟩
      rintro o W5 ⟨O5, hx5, hbd5, hf5, hend⟩
      clear hyd hR e0 e1 e2 e3 e4 e5 e6 e7 e8 e9 e10 e11 t0 t1 hA4 hA5 hw5
      have hs5 := HB5.out.size
      have hOw : ∀ k, O k → k < wr.heap.size := HS.out.bd
      have hnfb : ¬ O (w1.heap.size + 1) := fun e => by
        rcases HS.out.ext _ e with e | e
        · have := hO0 _ e; omega
        · omega
      have hext : ∀ k, O5 k → O0 k ∨ W2.heap.size ≤ k := fun k h => by
        rcases hx5 k h with h | h | h
        · exact HS.out.ext k h
        · exact h.elim
        · exact .inr (by omega)
      have hfr5 : Fr (fun k => O0 k ∨ k = w1.heap.size + 1) W2 W5 := ((HS.out.frm.then (Fr.of_below HB5.out (Nat.le_refl _))).trans hf5 fun k hk => by
        rcases hk with hk | hk
        · rcases HS.out.ext k hk with h | h
          · exact .inl (.inl h)
          · exact .inr h
        · exact hk.elim)
      rcases hend with ⟨rfl, hJ5⟩ | ⟨rfl, hJx5⟩
      · have hT5 := hT.fr hf5 (fun e => by
          rcases e with e | e
          · have := hOw _ e; omega
          · exact e)
        have hF6 := hF5.fr hf5 (fun e => by
          rcases e with e | e
          · exact hnfb e
          · exact e)
        have t1 := hT5.cell 1 (v := .int .i64 tv) rfl
        have f0 := hF6.frozen 0
        have g0 := hF6.cell 0 (v := .int .i64 (fromV E pre.length)) rfl
        have HF6 := Lib.hid hF6
        have HJ5 := Lib.hid hJ5
        clear hT hF5 hT5 hF6 hJ5
        gi_wp2
        refine ⟨⟨pre ++ [pre.length], O5, ?_, ?_⟩, ?_⟩
        · rw [List.length_append]; rfl
        · refine ⟨fJ _ _ _ _ HJ5.out (Fr.setCell _ 0 _ fun e => ?_), hbd5.fr (Fr.setCell (T := fun _ => True) _ 0 _ trivial), hext, hfr5.then (Fr.setCell _ 0 _ (.inr rfl)), ?_, ?_⟩
          · rcases hx5 _ e with h | h | h
            · exact hnfb h
            · exact h
            · omega
          · have h := HF6.out.set 0 (.int .i64 tv)
            rw [List.length_append, List.length_singleton, fromV_succ, HTV.out]
            exact h
          · rw [List.length_append]
            exact hlt
        · show l.length - _ < l.length - _
          simp [intOf]
          omega
      · gi_wp2
        refine bodyPost_end (results_none rfl _ _ _) rfl ?_
        refine ⟨⟨_, rfl⟩, O5, fun k h => ?_, hbd5, ((Fr.of_below (T := fun k => O0 k ∨ False) HB02.out (Nat.le_refl _)).trans hfr5 fun k hk => ?_), .inr ⟨pre ++ [pre.length], ?_, hJx5⟩⟩
        · rcases hext k h with h | h
          · exact .inl h
          · exact .inr (by omega)
        · rcases hk with hk | hk
          · exact .inl (.inl hk)
          · exact .inr (by omega)
        · show (pre ++ [pre.length]).length ≤ l.length
          rw [List.length_append]
          exact hlt
    · have he : pre.length = l.length := by omega
      have hd : decide ((pre.length : Int) < (l.length : Int)) = false := decide_eq_false (by omega)
      clear her how heb hfb hS
      have HEQ := Lib.hid he
      clear he
      gi_wp2
      refine bodyPost_end (results_none rfl _ _ _) rfl ?_
      refine ⟨⟨_, rfl⟩, O, fun k h => ?_, HS.out.bd, ((Fr.of_below (T := fun k => O0 k ∨ False) HB02.out (Nat.le_refl _)).trans HS.out.frm fun k hk => ?_), .inl ⟨pre, HEQ.out, HS.out.j⟩⟩
      · rcases HS.out.ext k h with h | h
        · exact .inl h
        · exact .inr (by omega)
      · rcases hk with hk | hk
        · exact .inl (.inl hk)
        · exact .inr (by omega)
theorem spansZ_iter (n : Nat) (hn : 2 ≤ n) (zb sb B B2 : Nat) (Wb : World) (zn : ByteArray) (ev sv : Value) (l : List EraF) (S : List SetF) (W : World)
    (hzb : Blk W zb 24 #[.string zn, ev]) (hsb : Blk W sb 90 #[setsV zn ev sv]) (hz : ZW W B ev sv l S) (ho : ZOk l S) (h0 : errZ S l = 0) (hBB : B ≤ B2) (hB2 : B2 ≤ W.heap.size) (hWb : ∀ k, k < B2 → W.heap[k]? = Wb.heap[k]?) :
    Iter Fence.wide n Tryz.prog 173 #[.pointer (some ⟨zb, 0, none⟩), .pointer (some ⟨sb, 0, none⟩)] (encS l (endL S l)) (RS l B2 Wb) (fun xs => xs.length = l.length) (fun pre => pre.length ≤ l.length) (fun k => k < B2) (fun _ => False) W :=
  fun lp J Jx fJ _ hY O hJ hO hK => spansZ_in n hn lp zb sb B B2 Wb zn ev sv l S W hzb hsb hz ho h0 hBB hB2 hWb J Jx fJ hY O hJ hO hK
/-- Spans itself. -/
theorem spansZ_any (w : World) (zn : ByteArray) (ev sv : Value) :
    Calls Tryz.prog 148 #[zoneA zn ev, setsV zn ev sv] w fun o w' => o = .returned (.func (.func 173) #[] #[.pointer (some ⟨w.heap.size, 0, none⟩), .pointer (some ⟨w.heap.size + 1, 0, none⟩)]) ∧ Below w.heap.size w w' ∧
      Blk w' w.heap.size 24 #[.string zn, ev] ∧ Blk w' (w.heap.size + 1) 90 #[setsV zn ev sv] ∧ w'.heap.size = w.heap.size + 2 := by
  have hz0 := (Blk.new w 24 #[.string zn, ev]).alloc (.cells #[setsV zn ev sv] 90)
  have hs0 := Blk.new (w.alloc (.cells #[.string zn, ev] 24)) 90 #[setsV zn ev sv]
  rw [World.size_alloc] at hs0
  have HB := Lib.hid (((Below.refl w.heap.size w).alloc (Nat.le_refl _) (.cells #[.string zn, ev] 24)).alloc (by simp) (.cells #[setsV zn ev sv] 90))
  have HH := Lib.hid (And.intro hz0 hs0)
  clear hz0 hs0
  unfold setsV zoneA worldA at *
  go_enter Tryz.func148, Tryz.ntmps148
  go_wp2_with fail
  go_ret
  exact ⟨rfl, HB.out, HH.out.1, HH.out.2, by simp⟩
end Go.Proofs.YteekjfgjmccdnaaGreatDoor
end

section
/- HStepM: Layer 14 at any zone: from which instants on a zone may show something else (plain). -/
namespace Go.Proofs.YteekjfgjmccdnaaGreatDoor
open Go Go.RowKit Go.Shelf

/-- What era k gives. -/
def eraT (S : List SetF) (l : List EraF) (fr to : Int) (k : Nat) : List Chg :=
  if toV (endL S l) k - 1 ≤ fr ∨ to < fromV (endL S l) k then [] else
    (if fr < fromV (endL S l) k then [⟨fromV (endL S l) k, locW (l.getD k default) (ruleE S (l.getD k default)) (fromV (endL S l) k)⟩] else []) ++
      turnsL (l.getD k default) (ruleE S (l.getD k default)) (max fr (fromV (endL S l) k)) (min to (toV (endL S l) k - 1))
def stepsL (S : List SetF) (l : List EraF) (fr to : Int) : List Chg := (List.range l.length).flatMap (eraT S l fr to)
theorem firedN_nil {off fr to : Int} : ∀ {n : Nat}, firedN [] off fr to n none = []
  | 0 => rfl
  | _ + 1 => rfl
theorem turnsL_nil (x : EraF) (fr to : Int) : turnsL x [] fr to = [] := by
  unfold turnsL firedF
  have h : behindF [] (fr - 180000) = none := rfl
  rw [h, firedN_nil]
  rfl
section
variable {S : List SetF} {l : List EraF} {fr to : Int} {k : Nat}
theorem stepsF_succ : (List.range (k + 1)).flatMap (eraT S l fr to) = (List.range k).flatMap (eraT S l fr to) ++ eraT S l fr to k := by
  rw [List.range_succ, List.flatMap_append]
  simp
theorem stepsL_split (hk : k < l.length) : ∃ rest, stepsL S l fr to = (List.range k).flatMap (eraT S l fr to) ++ (eraT S l fr to k ++ rest) := by
  obtain ⟨m, hm⟩ : ∃ m, l.length = k + 1 + m := ⟨l.length - (k + 1), by omega⟩
  refine ⟨((List.range m).map (k + 1 + ·)).flatMap (eraT S l fr to), ?_⟩
  unfold stepsL
  rw [hm, List.range_add, List.flatMap_append, stepsF_succ, List.append_assoc]
theorem eraT_skip (h : toV (endL S l) k - 1 ≤ fr ∨ to < fromV (endL S l) k) : eraT S l fr to k = [] := by unfold eraT; rw [if_pos h]
theorem eraT_at (h : ¬ (toV (endL S l) k - 1 ≤ fr ∨ to < fromV (endL S l) k)) (h2 : fr < fromV (endL S l) k) : eraT S l fr to k = ⟨fromV (endL S l) k, locW (l.getD k default) (ruleE S (l.getD k default)) (fromV (endL S l) k)⟩ :: turnsL (l.getD k default) (ruleE S (l.getD k default)) (max fr (fromV (endL S l) k)) (min to (toV (endL S l) k - 1)) := by
  unfold eraT
  rw [if_neg h, if_pos h2]
  rfl
theorem eraT_in (h : ¬ (toV (endL S l) k - 1 ≤ fr ∨ to < fromV (endL S l) k)) (h2 : ¬ fr < fromV (endL S l) k) : eraT S l fr to k = turnsL (l.getD k default) (ruleE S (l.getD k default)) (max fr (fromV (endL S l) k)) (min to (toV (endL S l) k - 1)) := by
  unfold eraT
  rw [if_neg h, if_neg h2]
  rfl
theorem toV_in (hE : ∀ e ∈ endL S l, -9000000000000000000 ≤ e ∧ e ≤ 9000000000000000000) (k : Nat) : -9000000000000000000 ≤ toV (endL S l) k ∧ toV (endL S l) k ≤ 9000000000000000000 := by
  by_cases h : k < (endL S l).length
  · rw [toV_at h]
    exact hE _ (List.getElem_mem h)
  · rw [toV_out (by omega)]
    constructor <;> decide
theorem fromV_in (hE : ∀ e ∈ endL S l, -9000000000000000000 ≤ e ∧ e ≤ 9000000000000000000) (k : Nat) : -9000000000000000000 ≤ fromV (endL S l) k ∧ fromV (endL S l) k ≤ 9000000000000000000 := by
  unfold fromV
  split
  · constructor <;> decide
  · exact toV_in hE _
/-- What Check tells of an era. -/
theorem errZ_off (h : errZ S l = 0) (hk : k < l.length) : (-90000 < l[k].n.off ∧ l[k].n.off < 90000) ∧ (-90000 < l[k].n.save ∧ l[k].n.save < 90000) := by
  have h1 := (errZ_zero h).2.2.1 k hk
  rw [errAt_eq hk] at h1
  unfold errE at h1
  split at h1
  · split at h1
    · rename_i h2
      unfold withinB at h2
      simp only [Bool.and_eq_true, decide_eq_true_eq] at h2
      omega
    · cases h1
  · rename_i hn
    exact absurd h1 hn
end
end Go.Proofs.YteekjfgjmccdnaaGreatDoor
end

section
/- HShown: Layer 14 at any zone: rules, shown, first, walked. -/
namespace Go.Proofs.YteekjfgjmccdnaaGreatDoor
open Go Go.RowKit Go.Shelf
set_option maxRecDepth 100000

set_option maxHeartbeats 2000000 in
theorem shown_any (w : World) (x : EraF) (B : Nat) (v : Value) (R : List Rul) (hm : Tryz.MaxL w) (hs : x.fm.size < 4294967281) (hrw : RW w B v R) (hok : RuOk R) (i : Int) (ho : -1000000000000000 ≤ x.n.off ∧ x.n.off ≤ 1000000000000000) (hi : -4500000000000 ≤ i) (hi2 : i ≤ 9000000000000000000) (hsum : sumOk x.n x.ru R i) :
    Calls Tryz.prog 150 #[x.val, v, .int .i64 i] w fun o w' => o = .returned (chgA ⟨i, locW x R i⟩) ∧ Below w.heap.size w w' := by
  have hb0 : Below w.heap.size w ((w.alloc (.cells (eraC x.n x.ru x.fm x.en) 42)).alloc (.cells #[.int .i64 0, .int .i64 0, .bool false, .string ⟨#[]⟩] 76)) := ((Below.refl w.heap.size w).alloc (Nat.le_refl _) _).alloc (by simp) _
  have hr0 := Blk.new (w.alloc (.cells (eraC x.n x.ru x.fm x.en) 42)) 76 #[.int .i64 0, .int .i64 0, .bool false, .string ⟨#[]⟩]
  rw [World.size_alloc] at hr0
  have HW := Lib.hid (zwithin_any _ x.n x.ru x.fm x.en B v R (hm.below hb0 (Nat.le_refl _)) hs (hrw.below hb0) hok i ho hi hi2 hsum)
  obtain ⟨err, he⟩ := zwithinV_loc x R i
  rw [he] at HW
  obtain ⟨⟨yo, yd, ys⟩, hy⟩ : ∃ y, locW x R i = y := ⟨_, rfl⟩
  rw [hy] at HW ⊢
  have HB := Lib.hid hb0
  have HR := Lib.hid hr0
  clear he hy hb0 hr0 hrw
  unfold locA at HW
  unfold EraF.val eraA chgA
  unfold eraA at HW
  unfold eraC at HB HR HW
  go_enter Tryz.func150, Tryz.ntmps150
  go_wp2_with fail
  refine HW.out.mono ?_
  rintro o w1 ⟨rfl, hb⟩
  have hr1' := HR.out.below hb HR.out.lt
  have HB1 := Lib.hid (HB.out.trans (hb.mono HB.out.size))
  have HR1 := Lib.hid hr1'
  have r0 := hr1'.cell 0 (v := .int .i64 0) rfl
  have r1 := hr1'.cell 1 (v := .int .i64 0) rfl
  have r2 := hr1'.cell 2 (v := .bool false) rfl
  have r3 := hr1'.cell 3 (v := .string ⟨#[]⟩) rfl
  have f0 := hr1'.frozen 0
  have f1 := hr1'.frozen 1
  have f2 := hr1'.frozen 2
  have f3 := hr1'.frozen 3
  have hrl := hr1'.lt
  clear hb hr1' HW
  go_wp2_with fail
  have hw := ((((HR1.out.set 0 (.int .i64 i)).set 1 (.int .i64 yo)).set 2 (.bool yd)).set 3 (.string ys)).alloc (.cells #[.int .i64 yo, .bool yd, .string ys] 48)
  refine bodyPost_ret (v := .agg #[.int .i64 i, .int .i64 yo, .bool yd, .string ys]) ?_ rfl ⟨rfl, (below_set4 HB1.out (by omega) _ _ _ _).alloc (by have := HB1.out.size; simp; omega) _⟩
  have c0 := hw.cell 0 (v := .int .i64 i) rfl
  have c1 := hw.cell 1 (v := .int .i64 yo) rfl
  have c2 := hw.cell 2 (v := .bool yd) rfl
  have c3 := hw.cell 3 (v := .string ys) rfl
  simp [results, Tryz.f150, go_sem, c0, c1, c2, c3]
/-- The rules of an era, as the table asks for them. -/
theorem rulesT_any (w : World) (zn : ByteArray) (ev sv : Value) (B : Nat) (S : List SetF) (hs : SetsR w B sv S) (hB : B ≤ w.heap.size) (x : EraF) :
    Calls Tryz.prog 149 #[x.val, setsV zn ev sv] w fun o w' => o = .returned (rvalE S x) ∧ Below w.heap.size w w' := by
  have hb0 := (Below.refl w.heap.size w).alloc (Nat.le_refl _) (.cells (eraC x.n x.ru x.fm x.en) 42)
  have HO := Lib.hid (fun (W : World) (hb : Below w.heap.size w W) => wof_any W zn ev sv B S (hs.below (hb.mono hB)) (Nat.le_trans hB hb.size) x.ru)
  unfold worldA at HO
  unfold setsV EraF.val eraA worldA
  by_cases hr0 : x.ru.size = 0
  · have hem : (x.ru.toList == []) = true := by rw [emp_size, decide_eq_true hr0]
    have HV := Lib.hid (show rvalE S x = .slice none 0 0 by unfold rvalE; rw [if_pos hr0])
    clear hr0 hs
    go_enter Tryz.func149, Tryz.ntmps149
    go_wp2_with fail
    go_ret
    exact ⟨by rw [HV.out]; rfl, (Below.refl _ _).alloc (Nat.le_refl _) _⟩
  · have hem : (x.ru.toList == []) = false := by rw [emp_size, decide_eq_false hr0]
    have HV := Lib.hid (show rvalE S x = ofVal S x.ru by unfold rvalE; rw [if_neg hr0])
    unfold eraC at hb0
    have HB := Lib.hid hb0
    clear hr0 hs hb0
    go_enter Tryz.func149, Tryz.ntmps149
    go_wp2_with fail
    refine (HO.out _ HB.out).mono ?_
    rintro o w1 ⟨rfl, hb⟩
    have HB1 := Lib.hid (HB.out.trans (hb.mono HB.out.size))
    clear hb
    go_wp2_with fail
    go_ret
    exact ⟨by rw [HV.out]; rfl, HB1.out⟩
end Go.Proofs.YteekjfgjmccdnaaGreatDoor
end

section
/- HSame: What was there ahead of a loop stays as it was: words for it. -/
namespace Go.Proofs.YteekjfgjmccdnaaGreatDoor
open Go Go.RowKit Go.Shelf

/-- The blocks below B2 hold in W what they hold in Wb. -/
def SameB (B2 : Nat) (Wb W : World) : Prop := B2 ≤ Wb.heap.size ∧ ∀ k, k < B2 → W.heap[k]? = Wb.heap[k]?
section
variable {B2 : Nat} {Wb W W' : World}
theorem SameB.size (h : SameB B2 Wb W) : B2 ≤ W.heap.size := by
  rcases Nat.eq_zero_or_pos B2 with h0 | h0
  · omega
  · have h1 := h.2 (B2 - 1) (by omega)
    rw [Array.getElem?_eq_getElem (show B2 - 1 < Wb.heap.size by have := h.1; omega)] at h1
    have := (Array.getElem?_eq_some_iff.1 h1).1
    omega
theorem SameB.refl (h : B2 ≤ Wb.heap.size) : SameB B2 Wb Wb := ⟨h, fun _ _ => rfl⟩
theorem SameB.trans {V : World} (h : SameB B2 Wb W) (h' : SameB B2 W V) : SameB B2 Wb V := ⟨h.1, fun k hk => (h'.2 k hk).trans (h.2 k hk)⟩
theorem SameB.cell (h : SameB B2 Wb W) {p : Addr} (hp : p.block < B2) : W.cell? p = Wb.cell? p := World.cell?_of_block (h.2 p.block hp)
theorem SameB.sl (h : SameB B2 Wb W) {B sz n : Nat} {v : Value} {xs : List Value} (hs : Sl Wb B sz v n xs) (hB : B ≤ B2) : Sl W B sz v n xs := hs.keep fun p hp => h.cell (by omega)
theorem SameB.ahead (h : SameB B2 Wb W) (ha : Ahead Wb) (hB : 0 < B2) : Ahead W := fun k hk => (h.cell (p := ⟨0, k, none⟩) hB).trans (ha k hk)
theorem SameB.maxl (h : SameB B2 Wb W) (hm : Tryz.MaxL Wb) {w0 : World} (h0 : Tryz.MaxL w0) (hB : w0.heap.size ≤ B2) : Tryz.MaxL W := by
  obtain ⟨m, hc⟩ := hm
  obtain ⟨m0, hc0⟩ := h0
  have := World.block_lt_of_cell? w0 _ hc0
  exact ⟨m, (h.cell (Nat.lt_of_lt_of_le this hB)).trans hc⟩
theorem SameB.rw_ (h : SameB B2 Wb W) {B : Nat} {v : Value} {l : List Rul} (hr : RW Wb B v l) (hB : B ≤ B2) : RW W B v l :=
  ⟨h.sl hr.ruls hB, h.ahead hr.ahead (Nat.lt_of_lt_of_le hr.tab hB), hr.tab, Nat.le_trans hB h.size⟩
theorem SameB.zw (h : SameB B2 Wb W) {B : Nat} {ev sv : Value} {l : List EraF} {S : List SetF} (hz : ZW Wb B ev sv l S) (hB : B ≤ B2) {w0 : World} (h0 : Tryz.MaxL w0) (hB0 : w0.heap.size ≤ B2) : ZW W B ev sv l S :=
  ⟨h.sl hz.eras hB, ⟨h.sl hz.sets.1 hB, fun s hs => h.sl (hz.sets.2 s hs) hB⟩, h.ahead hz.ahead (Nat.lt_of_lt_of_le hz.tab hB), hz.tab, h.maxl hz.maxl h0 hB0, Nat.le_trans hB h.size⟩
theorem SameB.then_below (h : SameB B2 Wb W) {B : Nat} (hb : Below B W W') (hB : B2 ≤ B) : SameB B2 Wb W' := ⟨h.1, fun k hk => (hb.block k (by omega)).trans (h.2 k hk)⟩
theorem SameB.then_fr (h : SameB B2 Wb W) {T : Nat → Prop} (hf : Fr T W W') (hT : ∀ k, k < B2 → ¬ T k) : SameB B2 Wb W' := ⟨h.1, fun k hk => (hf.block k (by have := h.size; omega) (hT k hk)).trans (h.2 k hk)⟩
end
/-- A round of another loop, called within a round. -/
theorem roundIn_in {P : Program} {a b l l' : Nat} {f : FuncId} {tmps : Array Value} {assign body : Code} {w : World} {R : Ending → World → Prop} (h : RoundIn Fence.wide a P l' f tmps assign body w R) : RoundIn (Fence.wide.inRound l) b P l' f tmps assign body w R :=
  ⟨trivial, fun c cs _ => h.2 c cs (room_wide _)⟩
end Go.Proofs.YteekjfgjmccdnaaGreatDoor
end

section
/- HTurns: Layer 14 at any zone: the firings of an era that turn something, one by one, walked. -/
namespace Go.Proofs.YteekjfgjmccdnaaGreatDoor
open Go Go.RowKit Go.Shelf
attribute [local go_sem] Oper.semAt_some
set_option maxRecDepth 100000

theorem turns_any (w : World) (x : EraF) (v : Value) (A : Option Addr) (m c : Nat) (hv : v = .slice A m c) (fr to : Int) :
    Calls Tryz.prog 151 #[x.val, v, .int .i64 fr, .int .i64 to] w fun o w' => o = .returned (.func (.func 175) #[] #[.pointer (some ⟨w.heap.size, 0, none⟩), .pointer (some ⟨w.heap.size + 1, 0, none⟩), .pointer (some ⟨w.heap.size + 2, 0, none⟩), .pointer (some ⟨w.heap.size + 3, 0, none⟩)]) ∧ Below w.heap.size w w' ∧
      Blk w' w.heap.size 42 (eraC x.n x.ru x.fm x.en) ∧ Blk w' (w.heap.size + 1) 52 #[v] ∧ Blk w' (w.heap.size + 2) 3 #[.int .i64 fr] ∧ Blk w' (w.heap.size + 3) 3 #[.int .i64 to] ∧ w'.heap.size = w.heap.size + 4 := by
  subst hv
  have h1 := (((Blk.new w 42 (eraC x.n x.ru x.fm x.en)).alloc (.cells #[.slice A m c] 52)).alloc (.cells #[.int .i64 fr] 3)).alloc (.cells #[.int .i64 to] 3)
  have h2 := ((Blk.new (w.alloc (.cells (eraC x.n x.ru x.fm x.en) 42)) 52 #[.slice A m c]).alloc (.cells #[.int .i64 fr] 3)).alloc (.cells #[.int .i64 to] 3)
  have h3 := (Blk.new ((w.alloc (.cells (eraC x.n x.ru x.fm x.en) 42)).alloc (.cells #[.slice A m c] 52)) 3 #[.int .i64 fr]).alloc (.cells #[.int .i64 to] 3)
  have h4 := Blk.new (((w.alloc (.cells (eraC x.n x.ru x.fm x.en) 42)).alloc (.cells #[.slice A m c] 52)).alloc (.cells #[.int .i64 fr] 3)) 3 #[.int .i64 to]
  simp only [World.size_alloc] at h2 h3 h4
  have HB := Lib.hid (((((Below.refl w.heap.size w).alloc (Nat.le_refl _) (.cells (eraC x.n x.ru x.fm x.en) 42)).alloc (by simp) (.cells #[.slice A m c] 52)).alloc (by simp; omega) (.cells #[.int .i64 fr] 3)).alloc (by simp; omega) (.cells #[.int .i64 to] 3))
  have HH := Lib.hid (And.intro h1 (And.intro h2 (And.intro h3 h4)))
  clear h1 h2 h3 h4
  unfold EraF.val eraA
  unfold eraC at HB HH ⊢
  go_enter Tryz.func151, Tryz.ntmps151
  go_wp2_with fail
  go_ret
  exact ⟨rfl, HB.out, HH.out.1, HH.out.2.1, HH.out.2.2.1, HH.out.2.2.2, by simp⟩
/-- What is told of a change: it is the next one, and what was there ahead of the loop is as it was. -/
def RC (L : List Chg) (B2 : Nat) (Wb : World) (pre : List Chg) (c : Chg) (D : Nat → Prop) (W : World) : Prop := (∀ j, ¬ D j) ∧ (∃ rest, L = pre ++ c :: rest) ∧ SameB B2 Wb W
def encC (c : Chg) : Array Value := #[chgA c]
/-- The loop over the firings: what it keeps, and how it may be left. -/
def TuI (eb lb : Nat) (v : Value) (yb nb lp : Nat) (x : EraF) (R : List Rul) (now0 : Chg) (s0 : Nat) (O0 : Nat → Prop) (J : List Chg → (Nat → Prop) → World → Prop) (pre : List (Int × Fir)) (O : Nat → Prop) (W : World) : Prop :=
  ∃ Oj out now, (∀ k, Oj k → O k) ∧ J out Oj W ∧ (O yb ∧ O nb) ∧ (¬ Oj yb ∧ ¬ Oj nb) ∧ (∀ k, Oj k → O0 k ∨ s0 ≤ k) ∧ Blk W yb 172 #[.func (.yield lp) #[] #[]] ∧ ChgB W nb now ∧ (∀ rest, turnsF x R now0 (pre ++ rest) = out ++ turnsF x R now rest) ∧ (-9000000000000000000 ≤ now.at_ ∧ now.at_ ≤ 9000000000000000000) ∧ ((O eb ∧ O lb) ∧ (¬ Oj eb ∧ ¬ Oj lb) ∧ Blk W eb 42 (eraC x.n x.ru x.fm x.en) ∧ Blk W lb 52 #[v])
def TuX (x : EraF) (R : List Rul) (now0 : Chg) (s0 : Nat) (O0 : Nat → Prop) (J Jx : List Chg → (Nat → Prop) → World → Prop) (c : Code) (pre : List (Int × Fir)) (O : Nat → Prop) (W : World) : Prop :=
  ∃ Oj out, (∀ k, Oj k → O k) ∧ (∀ k, Oj k → O0 k ∨ s0 ≤ k) ∧ ((c = .exit 0 ∧ J out Oj W ∧ ∀ rest, turnsF x R now0 (pre ++ rest) = out) ∨ (c = .ret ∧ Jx out Oj W ∧ ∀ rest, ∃ r2, turnsF x R now0 (pre ++ rest) = out ++ r2))
section
variable {eb lb : Nat} {v : Value} {yb nb lp s0 : Nat} {x : EraF} {R : List Rul} {now0 : Chg} {O0 : Nat → Prop} {J Jx : List Chg → (Nat → Prop) → World → Prop}
theorem tuI_feet (fJ : Feet J) : Feet (TuI eb lb v yb nb lp x R now0 s0 O0 J) := by
  rintro pre O W W' ⟨Oj, out, now, h1, h2, ⟨o1, o2⟩, h3, h4, h5, h6, h7, h8, ⟨o3, o4⟩, h9, ha, hb⟩ hf
  exact ⟨Oj, out, now, h1, fJ _ _ _ _ h2 (hf.mono fun k hk => .inl fun h => hk (h1 k h)), ⟨o1, o2⟩, h3, h4, h5.fr hf (fun h => h o1), Blk.fr h6 hf (fun h => h o2), h7, h8, ⟨o3, o4⟩, h9, ha.fr hf (fun h => h o3), hb.fr hf (fun h => h o4)⟩
theorem tuX_feet (fJ : Feet J) (fx : Feet Jx) (c : Code) : Feet (TuX x R now0 s0 O0 J Jx c) := by
  rintro pre O W W' ⟨Oj, out, h1, h2, h3⟩ hf
  refine ⟨Oj, out, h1, h2, ?_⟩
  rcases h3 with ⟨hc, hJ, hr⟩ | ⟨hc, hJ, hr⟩
  · exact .inl ⟨hc, fJ _ _ _ _ hJ (hf.mono fun k hk => .inl fun h => hk (h1 k h)), hr⟩
  · exact .inr ⟨hc, fx _ _ _ _ hJ (hf.mono fun k hk => .inl fun h => hk (h1 k h)), hr⟩
end
set_option maxHeartbeats 8000000 in
theorem turns_iter (n : Nat) (hn : 4 ≤ n) (eb lb fb tb B B2 : Nat) (Wb w0 : World) (x : EraF) (v : Value) (R : List Rul) (fr to : Int) (W : World)
    (heb : Blk W eb 42 (eraC x.n x.ru x.fm x.en)) (hlb : Blk W lb 52 #[v]) (hfb : Blk W fb 3 #[.int .i64 fr]) (htb : Blk W tb 3 #[.int .i64 to]) (hrw : RW W B v R) (hok : RuOk R) (hlet : letOk R) (hm : Tryz.MaxL W)
    (hs : x.fm.size < 4294967281) (ho : -1000000000000000 ≤ x.n.off ∧ x.n.off ≤ 1000000000000000) (hsv : -90000 < x.n.save ∧ x.n.save < 90000) (hfr : -4500000000000 ≤ fr ∧ fr ≤ 4500000000000) (hto : -4500000000000 ≤ to ∧ to ≤ 4500000000000)
    (hbs : B2 ≤ eb ∧ B2 ≤ lb ∧ B ≤ B2) (hB2 : B2 ≤ W.heap.size) (hWb : SameB B2 Wb W) (hm0 : Tryz.MaxL w0) (hw0 : w0.heap.size ≤ B2) :
    Iter Fence.wide n Tryz.prog 175 #[.pointer (some ⟨eb, 0, none⟩), .pointer (some ⟨lb, 0, none⟩), .pointer (some ⟨fb, 0, none⟩), .pointer (some ⟨tb, 0, none⟩)] encC (RC (turnsL x R fr to) B2 Wb) (fun xs => xs = turnsL x R fr to) (fun pre => ∃ rest, turnsL x R fr to = pre ++ rest) (fun k => (k = eb ∨ k = lb) ∨ k < B2) (fun k => k = eb ∨ k = lb) W := by
  intro lp J Jx fJ fx hY O0 hJ0 hO0 hK
  obtain ⟨A, cp, rfl, hlc, hcm⟩ := hrw.ruls.form
  obtain ⟨heB, hlB, hBB⟩ := hbs
  show CallsIn Fence.wide n Tryz.prog 175 #[.func (.yield lp) #[] #[], .pointer (some ⟨eb, 0, none⟩), .pointer (some ⟨lb, 0, none⟩), .pointer (some ⟨fb, 0, none⟩), .pointer (some ⟨tb, 0, none⟩)] W _
  refine callsIn_of_wp_marks Tryz.func175 rfl trivial ?_ rfl
  simp only [Tryz.ntmps175, List.size_toArray, List.length_cons, List.length_nil, Nat.reduceAdd, Nat.reduceSub, Array.replicate_succ, Array.replicate_zero, List.push_toArray, List.append_toArray, List.nil_append, List.cons_append]
  have hby : Below W.heap.size W (W.alloc (.cells #[.func (.yield lp) #[] #[]] 172)) := (Below.refl _ _).alloc (Nat.le_refl _) _
  have HS := Lib.hid (callsIn_wide (n := n - 1).2 (shown_any (W.alloc (.cells #[.func (.yield lp) #[] #[]] 172)) x B (.slice A R.length cp) R (hm.below hby (Nat.le_refl _)) hs (hrw.below hby) hok fr ho (by omega) (by omega) (sum_ok hok hlet hsv)))
  obtain ⟨⟨yo, yd, ys⟩, hy⟩ : ∃ y, locW x R fr = y := ⟨_, rfl⟩
  rw [hy] at HS
  unfold EraF.val eraA chgA at HS
  have HY0 := Lib.hid hy
  have HEB := Lib.hid heb
  have HLB := Lib.hid hlb
  have HFB := Lib.hid hfb
  have HTB := Lib.hid htb
  have HRW := Lib.hid hrw
  have HWB := Lib.hid hWb
  have HMX := Lib.hid hm
  have e0 := heb.cell 0 (v := .int .i64 x.n.off) rfl
  have e1 := heb.cell 1 (v := .string x.ru) rfl
  have e2 := heb.cell 2 (v := .int .i64 x.n.save) rfl
  have e3 := heb.cell 3 (v := .string x.fm) rfl
  have e4 := heb.cell 4 (v := .bool x.en) rfl
  have e5 := heb.cell 5 (v := .int .i64 x.n.year) rfl
  have e6 := heb.cell 6 (v := .int .i64 x.n.month) rfl
  have e7 := heb.cell 7 (v := .int .i64 x.n.dk) rfl
  have e8 := heb.cell 8 (v := .int .i64 x.n.dw) rfl
  have e9 := heb.cell 9 (v := .int .i64 x.n.dn) rfl
  have e10 := heb.cell 10 (v := .int .i64 x.n.sec) rfl
  have e11 := heb.cell 11 (v := .int .i64 x.n.ak) rfl
  have l0 := hlb.cell 0 (v := .slice A R.length cp) rfl
  have f0 := hfb.cell 0 (v := .int .i64 fr) rfl
  have hel := heb.lt
  have hll := hlb.lt
  have hfl := hfb.lt
  have htl := htb.lt
  clear heb hlb hfb htb hrw hWb hm hy
  gi_wp2
  refine wpIn_scope ?_
  gi_wp2
  refine ⟨trivial, fun _ => by omega, HS.out.mono ?_⟩
  rintro o w1 ⟨rfl, hb1⟩
  have hb01 := hby.trans (hb1.mono hby.size)
  have hy1 : Blk w1 W.heap.size 172 #[.func (.yield lp) #[] #[]] := (Blk.new W 172 #[.func (.yield lp) #[] #[]]).below hb1 (by simp)
  have hs1 : W.heap.size < w1.heap.size := hy1.lt
  have he1 := HEB.out.below hb01 hel
  have hl1 := HLB.out.below hb01 hll
  have hf1 := HFB.out.below hb01 hfl
  have ht1 := HTB.out.below hb01 htl
  have HB01 := Lib.hid hb01
  have HY1 := Lib.hid hy1
  have q0 := he1.cell 0 (v := .int .i64 x.n.off) rfl
  have ql := hl1.cell 0 (v := .slice A R.length cp) rfl
  have qf := hf1.cell 0 (v := .int .i64 fr) rfl
  have qt := ht1.cell 0 (v := .int .i64 to) rfl
  clear hb1 hby hb01 hy1 he1 hl1 hf1 ht1 HS e0 e1 e2 e3 e4 e5 e6 e7 e8 e9 e10 e11 l0 f0
  have hnow := Blk.new w1 76 #[.int .i64 fr, .int .i64 yo, .bool yd, .string ys]
  have HB02 := Lib.hid (HB01.out.alloc HB01.out.size (.cells #[.int .i64 fr, .int .i64 yo, .bool yd, .string ys] 76))
  have HY2 := Lib.hid (HY1.out.alloc (.cells #[.int .i64 fr, .int .i64 yo, .bool yd, .string ys] 76))
  have HF := Lib.hid (callsIn_wide (n := n - 1).2 (fired_any (w1.alloc (.cells #[.int .i64 fr, .int .i64 yo, .bool yd, .string ys] 76)) (.slice A R.length cp) A R.length cp rfl x.n.off fr to))
  have HN2 := Lib.hid hnow
  have hs2 : w1.heap.size < (w1.alloc (.cells #[.int .i64 fr, .int .i64 yo, .bool yd, .string ys] 76)).heap.size := by simp
  obtain ⟨W2, hW2⟩ : ∃ W2, w1.alloc (.cells #[.int .i64 fr, .int .i64 yo, .bool yd, .string ys] 76) = W2 := ⟨_, rfl⟩
  rw [hW2] at HB02 HY2 HF HN2 hs2
  have HE2 := Lib.hid (HEB.out.below HB02.out hel)
  have HL2 := Lib.hid (HLB.out.below HB02.out hll)
  have HF2 := Lib.hid (HFB.out.below HB02.out hfl)
  have HT2 := Lib.hid (HTB.out.below HB02.out htl)
  have q0 := HE2.out.cell 0 (v := .int .i64 x.n.off) rfl
  have ql := HL2.out.cell 0 (v := .slice A R.length cp) rfl
  have qf := HF2.out.cell 0 (v := .int .i64 fr) rfl
  have qt := HT2.out.cell 0 (v := .int .i64 to) rfl
  clear hnow
  gi_wp2
  refine wpIn_label ?_
  gi_wp2
  refine ⟨trivial, fun _ => by omega, HF.out.mono ?_⟩
  rintro o w3 ⟨rfl, hb3, g0, g1, g2, g3⟩
  clear hW2 q0 ql qf qt HF
  have HB03 := Lib.hid (HB02.out.trans (hb3.mono HB02.out.size))
  have HY3 := Lib.hid (HY2.out.below hb3 HY2.out.lt)
  have HN3 := Lib.hid (HN2.out.below hb3 HN2.out.lt)
  have HC3 := Lib.hid (And.intro g0 (And.intro g1 (And.intro g2 g3)))
  have hs3 := g3.lt
  have hs23 := hb3.size
  clear hb3 g0 g1 g2 g3
  gi_wp2
  refine range_own (α := Int × Fir) rfl (by omega) (gf := 116) (lb := #[.pointer (some ⟨W2.heap.size, 0, none⟩), .pointer (some ⟨W2.heap.size + 2, 0, none⟩), .pointer (some ⟨W2.heap.size + 3, 0, none⟩), .pointer (some ⟨W2.heap.size + 1, 0, none⟩)]) rfl trivial (enters_of Tryz.func116 (by kernel_rfl) rfl)
    (encs := encF) (R := RF R x.n.off fr to B2 w3) (K := fun k => KF W2.heap.size (W2.heap.size + 2) (W2.heap.size + 3) (W2.heap.size + 1) B k ∨ k < B2)
    (fun V hV => fired_iter2 (n - 1) (by omega) _ _ _ _ B B2 w3 _ R x.n.off fr to V (HC3.out.1.below hV HC3.out.1.lt) (HC3.out.2.2.1.below hV HC3.out.2.2.1.lt) (HC3.out.2.2.2.below hV HC3.out.2.2.2.lt) (HC3.out.2.1.below hV HC3.out.2.1.lt) ((HRW.out.below HB03.out).below hV) hok.yr hok.sv ho (by omega) (by omega) (by have := hV.size; have := HB03.out.size; omega) (fun k hk => hV.block k (by have := HB03.out.size; omega)))
    (fun _ => rfl) (TuI eb lb (.slice A R.length cp) W.heap.size w1.heap.size lp x R ⟨fr, locW x R fr⟩ W.heap.size O0 J) (TuX x R ⟨fr, locW x R fr⟩ W.heap.size O0 J Jx) (tuI_feet fJ) (tuX_feet fJ fx)
    (fun k => O0 k ∨ k = W.heap.size ∨ k = w1.heap.size ∨ k = eb ∨ k = lb) ⟨O0, [], ⟨fr, locW x R fr⟩, fun k h => .inl h, fJ _ _ _ _ hJ0 (Fr.of_below HB03.out (Nat.le_refl _)), ⟨.inr (.inl rfl), .inr (.inr (.inl rfl))⟩, ⟨fun e => by have := hO0 _ e; omega, fun e => by have := hO0 _ e; omega⟩, fun k h => .inl h, HY3.out, by rw [HY0.out]; exact HN3.out, fun rest => rfl, by constructor <;> simp only <;> omega, ⟨.inr (.inr (.inr (.inl rfl))), .inr (.inr (.inr (.inr rfl)))⟩, ⟨hK _ (.inl (.inl rfl)), hK _ (.inl (.inr rfl))⟩, HEB.out.below HB03.out hel, HLB.out.below HB03.out hll⟩
    (fun k hk => by have := HB03.out.size; rcases hk with h | h | h | h | h; have := hO0 _ h; all_goals omega) (fun k hk => by unfold KF at hk; have := HRW.out.le; have := HB03.out.size; omega) (fun k hk h => ?_) ?round ?done ?stop
  · rcases hk with hk | hk
    · unfold KF at hk
      have := HRW.out.le
      have h1 := HB03.out.size
      rcases h with h | h | h | h | h
      · have := hO0 _ h
        rcases hk with hk | hk | hk | hk | hk
        · omega
        · omega
        · omega
        · omega
        · exact hK k (.inr (by omega)) h
      · omega
      · omega
      · omega
      · omega
    · rcases h with h | h | h | h | h
      · exact hK k (.inr hk) h
      · omega
      · omega
      · omega
      · omega
  case round =>
    intro l2 pre y O D V hI hBO hBD hDO hR nOl nDl hlow hltl
    obtain ⟨at_, f⟩ := y
    obtain ⟨hnD, ⟨rest, hrest⟩, hsame⟩ := hR
    have hsb : SameB B2 w3 V := ⟨by have := HB03.out.size; omega, hsame⟩
    have hat : fr < at_ ∧ at_ ≤ to := firedF_in (x := (at_, f)) (by rw [hrest]; simp)
    have HREST := Lib.hid hrest
    have HBO := Lib.hid hBO
    have hVs := hsb.size
    unfold encF firA
    clear hI hBO hBD hDO hrest hsame
    gi_wp2
    refine ⟨Below.refl _ _, ?_⟩
    intro Vb hfb hIb _
    obtain ⟨Oj, out, now, hsub, hJ, ⟨oy, on⟩, ⟨ny, nn⟩, hext, hyb, hnb, hall, ⟨hna1, hna2⟩, ⟨oe, ol⟩, ⟨ne, nl⟩, he3, hl3⟩ := hIb
    have hsb2 := hsb.then_fr hfb (fun k hk e => by have := HB03.out.size; omega)
    have HE3 := Lib.hid he3
    have HL3 := Lib.hid hl3
    have HSH := Lib.hid ((wide1 l2).calls (n := n - 1 - 1 - 1) (shown_any Vb x B (.slice A R.length cp) R (hsb2.maxl (HMX.out.below HB03.out (Nat.le_refl _)) hm0 hw0) hs (hsb2.rw_ (HRW.out.below HB03.out) hBB) hok at_ ho (by omega) (by omega) (sum_ok hok hlet hsv)))
    obtain ⟨y, hy⟩ : ∃ y, locW x R at_ = y := ⟨_, rfl⟩
    rw [hy] at HSH
    have HYL := Lib.hid hy
    have HSB := Lib.hid hsb2
    have HJ := Lib.hid hJ
    have HYB := Lib.hid hyb
    have HNB := Lib.hid hnb
    have HALL := Lib.hid hall
    have HSUB := Lib.hid hsub
    have HEXT := Lib.hid hext
    have HBB := Lib.hid (HBO.out.fr hfb)
    have e0 := he3.cell 0 (v := .int .i64 x.n.off) rfl
    have e1 := he3.cell 1 (v := .string x.ru) rfl
    have e2 := he3.cell 2 (v := .int .i64 x.n.save) rfl
    have e3 := he3.cell 3 (v := .string x.fm) rfl
    have e4 := he3.cell 4 (v := .bool x.en) rfl
    have e5 := he3.cell 5 (v := .int .i64 x.n.year) rfl
    have e6 := he3.cell 6 (v := .int .i64 x.n.month) rfl
    have e7 := he3.cell 7 (v := .int .i64 x.n.dk) rfl
    have e8 := he3.cell 8 (v := .int .i64 x.n.dw) rfl
    have e9 := he3.cell 9 (v := .int .i64 x.n.dn) rfl
    have e10 := he3.cell 10 (v := .int .i64 x.n.sec) rfl
    have e11 := he3.cell 11 (v := .int .i64 x.n.ak) rfl
    have l0 := hl3.cell 0 (v := .slice A R.length cp) rfl
    have hebl := he3.lt
    have hlbl := hl3.lt
    have hnbl := Blk.lt hnb
    have hybl := hyb.lt
    unfold EraF.val eraA chgA at HSH
    clear hy hsb hsb2 hJ hyb hnb hall hsub hext he3 hl3 hfb
    gi_wp2
    refine ⟨trivial, fun _ => by omega, HSH.out.mono ?_⟩
    rintro o v4 ⟨rfl, hb4⟩
    have HB4 := Lib.hid hb4
    have hn4 := Blk.below HNB.out hb4 (Blk.lt HNB.out)
    have n0 := Blk.cell hn4 0 (v := .int .i64 now.at_) rfl
    have n1 := Blk.cell hn4 1 (v := .int .i64 now.loc.off) rfl
    have n2 := Blk.cell hn4 2 (v := .bool now.loc.dst) rfl
    have n3 := Blk.cell hn4 3 (v := .string now.loc.abbr) rfl
    have hn4l := Blk.lt hn4
    clear hb4 hn4 HSH e0 e1 e2 e3 e4 e5 e6 e7 e8 e9 e10 e11 l0
    cases hq : locE y now.loc with
    | true =>
      have hyn := locE_iff.1 hq
      have HQ := Lib.hid hq
      subst hyn
      clear hq
      have HW := Lib.hid (HB4.out.alloc HB4.out.size (.cells #[.int .i64 at_, .int .i64 now.loc.off, .bool now.loc.dst, .string now.loc.abbr] 76))
      by_cases h2 : max now.at_ 64060588800 + 12680582400 < at_
      · have hd : decide (max now.at_ 64060588800 + 12680582400 < at_) = true := decide_eq_true h2
        have HE := Lib.hid (show ∀ rest, turnsF x R ⟨fr, locW x R fr⟩ ((pre ++ [(at_, f)]) ++ rest) = out from fun rest => by
          rw [List.append_assoc, HALL.out]
          show out ++ turnsF x R now ((at_, f) :: rest) = out
          rw [turnsF_end (by rw [HYL.out]; exact HQ.out) h2, List.append_nil])
        clear h2
        gi_wp2
        exact ⟨O, fun k h => .inl h, HBB.out.fr (Fr.of_below (T := fun _ => True) HW.out (Nat.le_refl _)), Fr.of_below HW.out (Nat.le_refl _), Oj, out, HSUB.out, HEXT.out, .inl ⟨rfl, fJ _ _ _ _ HJ.out (Fr.of_below HW.out (Nat.le_refl _)), HE.out⟩⟩
      · have hd : decide (max now.at_ 64060588800 + 12680582400 < at_) = false := decide_eq_false h2
        have HE := Lib.hid (show ∀ rest, turnsF x R ⟨fr, locW x R fr⟩ ((pre ++ [(at_, f)]) ++ rest) = out ++ turnsF x R now rest from fun rest => by
          rw [List.append_assoc, HALL.out]
          show out ++ turnsF x R now ((at_, f) :: rest) = _
          rw [turnsF_same (by rw [HYL.out]; exact HQ.out) h2])
        clear h2
        gi_wp2
        exact ⟨O, fun k h => .inl h, HBB.out.fr (Fr.of_below (T := fun _ => True) HW.out (Nat.le_refl _)), Fr.of_below HW.out (Nat.le_refl _), Oj, out, now, HSUB.out, fJ _ _ _ _ HJ.out (Fr.of_below HW.out (Nat.le_refl _)), ⟨oy, on⟩, ⟨ny, nn⟩, HEXT.out, HYB.out.below HW.out HYB.out.lt, Blk.below HNB.out HW.out (Blk.lt HNB.out), HE.out, ⟨hna1, hna2⟩, ⟨oe, ol⟩, ⟨ne, nl⟩, HE3.out.below HW.out HE3.out.lt, HL3.out.below HW.out HL3.out.lt⟩
    | false =>
      have HQ := Lib.hid hq
      have hq3 := hq
      unfold locE at hq3
      rw [decide_eq_false_iff_not] at hq3
      clear hq
      have hy4 := HYB.out.below HB4.out HYB.out.lt
      have y0 := hy4.cell 0 (v := .func (.yield lp) #[] #[]) rfl
      have hy4l := hy4.lt
      have hn4 := Blk.below HNB.out HB4.out (Blk.lt HNB.out)
      have g0 := Blk.frozen hn4 0
      have g1 := Blk.frozen hn4 1
      have g2 := Blk.frozen hn4 2
      have g3 := Blk.frozen hn4 3
      have hcase : (y.off == now.loc.off) = false ∨ ((y.off == now.loc.off) = true ∧ (y.dst == now.loc.dst) = false) ∨ ((y.off == now.loc.off) = true ∧ (y.dst == now.loc.dst) = true ∧ (y.abbr.toList == now.loc.abbr.toList) = false) := by
        by_cases h1 : y.off = now.loc.off
        · by_cases h2 : y.dst = now.loc.dst
          · exact .inr (.inr ⟨by simpa using h1, by simpa using h2, beq_eq_false_iff_ne.2 fun h3 => hq3 ⟨h1, h2, h3⟩⟩)
          · exact .inr (.inl ⟨by simpa using h1, by simpa using h2⟩)
        · exact .inl (by simpa using h1)
      have hF5 : Fr (fun k => k = w1.heap.size) Vb (((((v4.setCell ⟨w1.heap.size, 0, none⟩ (.int .i64 at_)).setCell ⟨w1.heap.size, 1, none⟩ (.int .i64 y.off)).setCell ⟨w1.heap.size, 2, none⟩ (.bool y.dst)).setCell ⟨w1.heap.size, 3, none⟩ (.string y.abbr)).alloc (.cells #[.int .i64 at_, .int .i64 y.off, .bool y.dst, .string y.abbr] 76)) := ((Fr.of_below HB4.out (Nat.le_refl _)).then (fr_set4 (T := fun k => k = w1.heap.size) v4 rfl _ _ _ _)).then (Fr.alloc _ _)
      have hN5 : ChgB (((((v4.setCell ⟨w1.heap.size, 0, none⟩ (.int .i64 at_)).setCell ⟨w1.heap.size, 1, none⟩ (.int .i64 y.off)).setCell ⟨w1.heap.size, 2, none⟩ (.bool y.dst)).setCell ⟨w1.heap.size, 3, none⟩ (.string y.abbr)).alloc (.cells #[.int .i64 at_, .int .i64 y.off, .bool y.dst, .string y.abbr] 76)) w1.heap.size ⟨at_, y⟩ := Blk.alloc ((((Blk.set hn4 0 (.int .i64 at_)).set 1 (.int .i64 y.off)).set 2 (.bool y.dst)).set 3 (.string y.abbr)) (.cells #[.int .i64 at_, .int .i64 y.off, .bool y.dst, .string y.abbr] 76)
      have hC5 := Blk.new ((((v4.setCell ⟨w1.heap.size, 0, none⟩ (.int .i64 at_)).setCell ⟨w1.heap.size, 1, none⟩ (.int .i64 y.off)).setCell ⟨w1.heap.size, 2, none⟩ (.bool y.dst)).setCell ⟨w1.heap.size, 3, none⟩ (.string y.abbr)) 76 #[.int .i64 at_, .int .i64 y.off, .bool y.dst, .string y.abbr]
      rw [show ((((v4.setCell ⟨w1.heap.size, 0, none⟩ (.int .i64 at_)).setCell ⟨w1.heap.size, 1, none⟩ (.int .i64 y.off)).setCell ⟨w1.heap.size, 2, none⟩ (.bool y.dst)).setCell ⟨w1.heap.size, 3, none⟩ (.string y.abbr)).heap.size = v4.heap.size by simp] at hC5
      obtain ⟨v5, hv5⟩ : ∃ v, ((((v4.setCell ⟨w1.heap.size, 0, none⟩ (.int .i64 at_)).setCell ⟨w1.heap.size, 1, none⟩ (.int .i64 y.off)).setCell ⟨w1.heap.size, 2, none⟩ (.bool y.dst)).setCell ⟨w1.heap.size, 3, none⟩ (.string y.abbr)).alloc (.cells #[.int .i64 at_, .int .i64 y.off, .bool y.dst, .string y.abbr] 76) = v := ⟨_, rfl⟩
      rw [hv5] at hF5 hN5 hC5
      have HF5 := Lib.hid hF5
      have HN5 := Lib.hid hN5
      have HY5 := Lib.hid (HYB.out.fr hF5 (by omega))
      have hs5 := hF5.size
      have y5 := HY5.out.cell 0 (v := .func (.yield lp) #[] #[]) rfl
      have k0 := hC5.cell 0 (v := .int .i64 at_) rfl
      have k1 := hC5.cell 1 (v := .int .i64 y.off) rfl
      have k2 := hC5.cell 2 (v := .bool y.dst) rfl
      have k3 := hC5.cell 3 (v := .string y.abbr) rfl
      have hyl5 := HY5.out.lt
      have hcl5 := hC5.lt
      have HSB5 := Lib.hid (((HWB.out.then_below HB03.out hB2).trans HSB.out).then_fr hF5 (fun k hk e => by omega))
      have HT := Lib.hid (show ∀ rest, turnsF x R ⟨fr, locW x R fr⟩ ((pre ++ [(at_, f)]) ++ rest) = (out ++ [⟨at_, y⟩]) ++ turnsF x R ⟨at_, y⟩ rest from fun rest => by
        rw [List.append_assoc, HALL.out]
        show out ++ turnsF x R now ((at_, f) :: rest) = _
        rw [turnsF_turn (by show locE (locW x R at_) now.loc = false; rw [HYL.out]; exact HQ.out)]
        show out ++ ⟨at_, locW x R at_⟩ :: turnsF x R ⟨at_, locW x R at_⟩ rest = _
        rw [HYL.out, List.append_assoc]
        rfl)
      have hnext : ∃ rest, turnsL x R fr to = out ++ ⟨at_, y⟩ :: rest := ⟨turnsF x R ⟨at_, y⟩ rest, by
        have h := HT.out rest
        rw [List.append_assoc, List.append_assoc] at h
        unfold turnsL
        rw [HREST.out]
        exact h⟩
      obtain ⟨fn, tmps, assign, body, hyd, hR⟩ := hY out ⟨at_, y⟩ (fun _ => False) Oj v5 (fJ _ _ _ _ HJ.out (hF5.mono fun k hk => .inl fun h => by subst hk; exact nn h)) (fun k h => Nat.lt_of_lt_of_le (HBB.out k (HSUB.out k h)) hs5) (fun _ h => h.elim) (fun _ h => h.elim) ⟨fun _ h => h, hnext, HSB5.out⟩
      unfold encC chgA at hyd
      simp only at hyd
      have HY2 := Lib.hid hR
      clear hy4 hn4 hq3 hF5 hN5 hC5 hR hnext
      rcases hcase with c1 | ⟨c1, c2⟩ | ⟨c1, c2, c3⟩
      all_goals
        gi_wp2
        refine ⟨fun _ => by omega, (roundIn_in HY2.out).mono ?_⟩
        rintro o v6 ⟨O6, hx6, hbd6, hf6, hend⟩
        have hN6 := Blk.fr HN5.out hf6 (fun e => e.elim nn id)
        have hY6 := HY5.out.fr hf6 (fun e => e.elim ny id)
        have hE6 := (HE3.out.fr HF5.out (by omega)).fr hf6 (fun e => e.elim ne id)
        have hL6 := (HL3.out.fr HF5.out (by omega)).fr hf6 (fun e => e.elim nl id)
        have hext6 : ∀ k, O6 k → O0 k ∨ W.heap.size ≤ k := fun k h => by
          rcases hx6 k h with h | h | h
          · exact HEXT.out k h
          · exact h.elim
          · exact .inr (by omega)
        have hno6 : ∀ k, k ≤ w1.heap.size → ¬ Oj k → ¬ O6 k := fun k hk hn h => by
          rcases hx6 k h with h | h | h
          · exact hn h
          · exact h
          · omega
        have hO' : ∀ k, (O k ∨ O6 k) → O k ∨ D k ∨ Vb.heap.size ≤ k := fun k h => by
          rcases h with h | h
          · exact .inl h
          · rcases hx6 k h with h | h | h
            · exact .inl (HSUB.out k h)
            · exact h.elim
            · exact .inr (.inr (by omega))
        have hfr6 : Fr (fun k => O k ∨ D k) Vb v6 := ((HF5.out.mono (T' := fun k => O k ∨ D k) fun k hk => .inl (.inl (by subst hk; exact on))).then (hf6.mono (T' := fun k => O k ∨ D k) fun k hk => .inl (.inl (HSUB.out k (hk.elim id False.elim)))))
        have hbd' : Bd (fun k => O k ∨ O6 k) v6 := fun k h => by
          rcases h with h | h
          · exact (HBB.out.fr hfr6) k h
          · exact hbd6 k h
        clear hyd
        rcases hend with ⟨rfl, hJ6⟩ | ⟨rfl, hJx6⟩
        · gi_wp2
          exact ⟨fun k => O k ∨ O6 k, hO', hbd', hfr6, O6, out ++ [⟨at_, y⟩], ⟨at_, y⟩, fun k h => .inr h, hJ6, ⟨.inl oy, .inl on⟩, ⟨hno6 _ (by omega) ny, hno6 _ (Nat.le_refl _) nn⟩, hext6, hY6, hN6, HT.out, (by constructor <;> simp only <;> omega), ⟨.inl oe, .inl ol⟩, ⟨hno6 _ (by omega) ne, hno6 _ (by omega) nl⟩, hE6, hL6⟩
        · gi_wp2
          exact ⟨fun k => O k ∨ O6 k, hO', hbd', hfr6, O6, out ++ [⟨at_, y⟩], fun k h => .inr h, hext6, .inr ⟨rfl, hJx6, fun rest => ⟨turnsF x R ⟨at_, y⟩ rest, HT.out rest⟩⟩⟩
  case done =>
    intro D xs O V hD hS hI hO hBO hOD hfr hK2
    obtain ⟨Oj, out, now, hsub, hJ, -, -, hext, -, -, hall, -, -⟩ := hI
    have hout : out = turnsL x R fr to := by
      have h := hall []
      rw [List.append_nil, hS] at h
      unfold turnsL
      rw [h]
      exact (List.append_nil out).symm
    have HK2 := Lib.hid hK2
    have HOUT := Lib.hid hout
    have HJ := Lib.hid hJ
    have HFR := Lib.hid (((Fr.of_below (T := fun k => O0 k ∨ (k = eb ∨ k = lb)) HB03.out (Nat.le_refl _)).trans hfr fun k hk => by
      rcases hk with (hk | hk | hk | hk | hk) | hk
      · exact .inl (.inl hk)
      · exact .inr (by omega)
      · exact .inr (by omega)
      · exact .inl (.inr (.inl hk))
      · exact .inl (.inr (.inr hk))
      · exact hk.elim))
    have hDl : D < V.heap.size := (Array.getElem?_eq_some_iff.1 hK2).1
    have hDw : W.heap.size ≤ D := by have := HB03.out.size; omega
    have hnD : ¬ Oj D := fun h => hOD (hsub D h)
    clear hS hfr hK2 hall hout hJ
    gi_wp2
    simp only [Exit.noGoto]
    refine ⟨by simp, .inl ⟨_, _, rfl, run_takeDeferred HK2.out, ?_⟩⟩
    refine ⟨_, results_none rfl _ _ _, ?_⟩
    exact ⟨⟨_, rfl⟩, Oj, hext, fun k h => Nat.lt_of_lt_of_le (hBO k (hsub k h)) (Nat.le_of_eq (fin_size V D _).symm), HFR.out.trans (Fr.putObj (T := fun k => k = D) V _ rfl) (fun k hk => .inr (by omega)), .inl ⟨out, HOUT.out, fJ _ _ _ _ HJ.out (Fr.putObj V _ hnD)⟩⟩
  case stop =>
    intro D c pre O V hD hS hX hO hBO hOD hfr hK2
    obtain ⟨rest, hrest⟩ := hS
    obtain ⟨Oj, out, hsub, hext, hX⟩ := hX
    have HK2 := Lib.hid hK2
    have HFR := Lib.hid (((Fr.of_below (T := fun k => O0 k ∨ (k = eb ∨ k = lb)) HB03.out (Nat.le_refl _)).trans hfr fun k hk => by
      rcases hk with (hk | hk | hk | hk | hk) | hk
      · exact .inl (.inl hk)
      · exact .inr (by omega)
      · exact .inr (by omega)
      · exact .inl (.inr (.inl hk))
      · exact .inl (.inr (.inr hk))
      · exact hk.elim))
    have hDl : D < V.heap.size := (Array.getElem?_eq_some_iff.1 hK2).1
    have hDw : W.heap.size ≤ D := by have := HB03.out.size; omega
    have hnD : ¬ Oj D := fun h => hOD (hsub D h)
    have HREST := Lib.hid hrest
    clear hfr hK2 hrest
    rcases hX with ⟨rfl, hJ, hr⟩ | ⟨rfl, hJ, hr⟩
    · have HOUT := Lib.hid (show out = turnsL x R fr to by
        unfold turnsL
        rw [HREST.out]
        exact (hr rest).symm)
      have HJ := Lib.hid hJ
      clear hr hJ
      gi_wp2
      simp only [Exit.noGoto]
      refine ⟨by simp, .inl ⟨_, _, rfl, run_takeDeferred HK2.out, ?_⟩⟩
      refine ⟨_, results_none rfl _ _ _, ?_⟩
      exact ⟨⟨_, rfl⟩, Oj, hext, fun k h => Nat.lt_of_lt_of_le (hBO k (hsub k h)) (Nat.le_of_eq (fin_size V D _).symm), HFR.out.trans (Fr.putObj (T := fun k => k = D) V _ rfl) (fun k hk => .inr (by omega)), .inl ⟨out, HOUT.out, fJ _ _ _ _ HJ.out (Fr.putObj V _ hnD)⟩⟩
    · obtain ⟨r2, hr2⟩ := hr rest
      have HOUT := Lib.hid (show ∃ rest, turnsL x R fr to = out ++ rest from ⟨r2, by
        unfold turnsL
        rw [HREST.out]
        exact hr2⟩)
      have HJ := Lib.hid hJ
      clear hr hr2 hJ
      gi_wp2
      simp only [Exit.noGoto]
      refine ⟨by simp, .inl ⟨_, _, rfl, run_takeDeferred HK2.out, ?_⟩⟩
      refine ⟨_, results_none rfl _ _ _, ?_⟩
      exact ⟨⟨_, rfl⟩, Oj, hext, fun k h => Nat.lt_of_lt_of_le (hBO k (hsub k h)) (Nat.le_of_eq (fin_size V D _).symm), HFR.out.trans (Fr.putObj (T := fun k => k = D) V _ rfl) (fun k hk => .inr (by omega)), .inr ⟨out, HOUT.out, fx _ _ _ _ HJ.out (Fr.putObj V _ hnD)⟩⟩
end Go.Proofs.YteekjfgjmccdnaaGreatDoor
end

section
/- EnvY: A region that draws its order, within a fence, whose round of the loop (the call of its yield) comes behind all that looks, and ahead of all that only reckons: each operation's value is known ahead. -/
namespace Go.Proofs.YteekjfgjmccdnaaGreatDoor
open Go Go.RowKit

section
variable {P : Program} {n : Nat} {ops : Array Oper}
/-- Operation i stands behind j, at last. -/
def reachB (ops : Array Oper) (j : Nat) : Nat → Nat → Bool
  | 0, _ => false
  | f + 1, i => depB ops i j || (List.range i).any fun k => depB ops i k && reachB ops j f k
/-- What is asked of the region itself. y: the round. -/
def envYB (ops : Array Oper) (D : List Nat) (y : Nat) : Bool :=
  envB ops D && decide (y < ops.size) && (List.range ops.size).all fun i => if i < y then reachB ops i ops.size y else if y < i then reachB ops y ops.size i else true
theorem reachB_shut {L : Nat → Bool} (h : ShutI ops L) {j : Nat} : ∀ {f i : Nat}, reachB ops j f i = true → L i = true → L j = true
  | 0, _, hr, _ => by cases hr
  | f + 1, i, hr, hi => by
    unfold reachB at hr
    rw [Bool.or_eq_true] at hr
    rcases hr with h1 | h1
    · exact h i j h1 hi
    · obtain ⟨k, _, h2⟩ := List.any_eq_true.1 h1
      rw [Bool.and_eq_true] at h2
      exact reachB_shut h h2.2 (h i k h2.1 hi)
def PureStep (P : Program) (ops : Array Oper) (fin : Act) (o : Oper) (v : Value) : Prop :=
  (Region.wanted o (yielded ops fin.tmps) = false ∧ v = undef) ∨ (Region.wanted o (yielded ops fin.tmps) = true ∧ ∀ w, (execOp fin.eval o).run P w = .ok (.value v) w)
def PureSteps (P : Program) (ops : Array Oper) (fin : Act) : List Oper → List Value → Prop
  | o :: l, v :: V => PureStep P ops fin o v ∧ PureSteps P ops fin l V
  | [], [] => True
  | _, _ => False
def YieldStep (F : Fence) (n : Nat) (P : Program) (ops : Array Oper) (fin : Bool → Act) (w0 : World) (Z : Bool → World → Prop) (o : Oper) : Prop :=
  (∀ b, Region.wanted o (yielded ops (fin b).tmps) = true) ∧ ∀ w, Below w0.heap.size w0 w → ∃ l f tmps assign body, (∀ b, (execOp (fin b).eval o).run P w = .ok (.round l f tmps assign body) w) ∧ RoundIn F (n - 1) P l f tmps assign body w fun e w' => ∃ b, e = .returned (.bool b) ∧ Z b w'
def EnvYSteps (F : Fence) (n : Nat) (P : Program) (ops : Array Oper) (fin : Bool → Act) (w0 : World) (Z : Bool → World → Prop) (V2 : Bool → List Value) : List Oper → List Value → Prop
  | o :: l, v :: V => (∀ b, EnvStep P ops (fin b) w0 o v) ∧ EnvYSteps F n P ops fin w0 Z V2 l V
  | o :: l, [] => YieldStep F n P ops fin w0 Z o ∧ ∀ b, PureSteps P ops (fin b) l (V2 b)
  | [], _ => False
theorem pureSteps_len {fin : Act} : ∀ {l : List Oper} {V : List Value}, PureSteps P ops fin l V → V.length = l.length
  | [], [], _ => rfl
  | [], _ :: _, h => h.elim
  | _ :: _, [], h => h.elim
  | _ :: l, _ :: V, h => by simp [pureSteps_len h.2]
theorem pureSteps_at {fin : Act} : ∀ {l : List Oper} {V : List Value}, PureSteps P ops fin l V → ∀ {j : Nat} {o : Oper}, l[j]? = some o → PureStep P ops fin o (V.getD j undef)
  | [], _, _, _, _, h => by simp at h
  | _ :: _, [], hs, _, _, _ => hs.elim
  | x :: l, v :: V, hs, 0, o, h => by
    simp only [List.getElem?_cons_zero, Option.some.injEq] at h
    subst h
    exact hs.1
  | x :: l, v :: V, hs, j + 1, o, h => by
    rw [List.getElem?_cons_succ] at h
    simpa using pureSteps_at hs.2 h
theorem envYSteps_len {F : Fence} {fin : Bool → Act} {w0 : World} {Z : Bool → World → Prop} {V2 : Bool → List Value} : ∀ {l : List Oper} {V : List Value}, EnvYSteps F n P ops fin w0 Z V2 l V → ∀ b, V.length + 1 + (V2 b).length = l.length
  | [], _, h, _ => by cases h
  | _ :: _, [], h, b => by simp [pureSteps_len (h.2 b)]; omega
  | _ :: l, _ :: V, h, b => by have := envYSteps_len h.2 b; simp only [List.length_cons]; omega
theorem envYSteps_at {F : Fence} {fin : Bool → Act} {w0 : World} {Z : Bool → World → Prop} {V2 : Bool → List Value} : ∀ {l : List Oper} {V : List Value}, EnvYSteps F n P ops fin w0 Z V2 l V → ∀ {j : Nat} {o : Oper}, l[j]? = some o →
    (j < V.length → ∀ b, EnvStep P ops (fin b) w0 o (V.getD j undef)) ∧ (j = V.length → YieldStep F n P ops fin w0 Z o) ∧ (V.length < j → ∀ b, PureStep P ops (fin b) o ((V ++ .bool b :: V2 b).getD j undef))
  | [], _, h, _, _, _ => by cases h
  | x :: l, [], hs, 0, o, h => by
    simp only [List.getElem?_cons_zero, Option.some.injEq] at h
    subst h
    exact ⟨fun h => absurd h (Nat.not_lt_zero _), fun _ => hs.1, fun h => absurd h (Nat.lt_irrefl _)⟩
  | x :: l, [], hs, j + 1, o, h => by
    rw [List.getElem?_cons_succ] at h
    exact ⟨fun h => absurd h (Nat.not_lt_zero _), (fun h => by simp at h), fun _ b => by simpa using pureSteps_at (hs.2 b) h⟩
  | x :: l, v :: V, hs, 0, o, h => by
    simp only [List.getElem?_cons_zero, Option.some.injEq] at h
    subst h
    exact ⟨fun _ b => hs.1 b, (fun h => by simp at h), (fun h => absurd h (Nat.not_lt_zero _))⟩
  | x :: l, v :: V, hs, j + 1, o, h => by
    rw [List.getElem?_cons_succ] at h
    have h2 := envYSteps_at hs.2 h
    refine ⟨fun hj b => ?_, fun hj => ?_, fun hj b => ?_⟩
    · simpa using h2.1 (by simpa using hj) b
    · exact h2.2.1 (by simpa using hj)
    · simpa using h2.2.2 (by simpa using hj) b
/-- A REGION THAT DRAWS ITS ORDER, WITH A ROUND OF THE LOOP IN IT, WITHIN A FENCE. D: each operation's slot; V: what those ahead of the round yield; V2 b: those behind it, if the round yields b. -/
theorem wpIn_envY {F : Fence} (hF : Wide F) {id : Nat} {l : List Oper} {Q : Exit → Act → World → Prop} {a : Act} {w : World} (hm : P.follows .mixedOrders = true) (D : List Nat) (V : List Value) (V2 : Bool → List Value) (Z : Bool → World → Prop)
    (hb : envYB l.toArray D V.length = true) {fin : Bool → Act} (hfin : ∀ b, putAll a D (V ++ .bool b :: V2 b) = fin b)
    (hstep : EnvYSteps F n P l.toArray fin w Z V2 l V) (hend : ∀ b w', Z b w' → Q .normal (fin b) w') : (Code.region id l.toArray true).wpIn F n P Q a w := by
  unfold envYB at hb
  simp only [Bool.and_eq_true, decide_eq_true_eq] at hb
  obtain ⟨⟨hb, hy⟩, hreach⟩ := hb
  have hb0 := hb
  unfold envB at hb
  rw [Bool.and_eq_true] at hb
  obtain ⟨hi, hb⟩ := hb
  have hi' := hi
  simp only [invB, Bool.and_eq_true, decide_eq_true_eq] at hi'
  obtain ⟨⟨-, hlen⟩, hnd⟩ := hi'
  have hlen : D.length = l.length := by simpa using hlen
  have hV : ∀ b, (V ++ .bool b :: V2 b).length = D.length := fun b => by
    have := envYSteps_len hstep b
    simp only [List.length_append, List.length_cons]
    omega
  have hsame1 : ∀ b b' i, i < V.length → (V ++ .bool b :: V2 b).getD i undef = (V ++ .bool b' :: V2 b').getD i undef := fun b b' i h => by
    rw [List.getD_eq_getElem?_getD, List.getD_eq_getElem?_getD, List.getElem?_append_left h, List.getElem?_append_left h]
  have hVi : ∀ b i, i < V.length → (V ++ .bool b :: V2 b).getD i undef = V.getD i undef := fun b i h => by
    rw [List.getD_eq_getElem?_getD, List.getD_eq_getElem?_getD, List.getElem?_append_left h]
  have hVy : ∀ b, (V ++ .bool b :: V2 b).getD V.length undef = .bool b := fun b => by
    rw [List.getD_eq_getElem?_getD, List.getElem?_append_right (Nat.le_refl _), Nat.sub_self]
    rfl
  have hfinp : ∀ b, frameOf a D (valOf D (V ++ .bool b :: V2 b)) = fin b := fun b => by
    rw [← hfin]
    exact putAll_eq D _ a _ (hV b) fun i hi => by unfold valOf; rw [idxOf_getD hnd hi]
  have hpre : ∀ {L : Nat → Bool}, ShutI l.toArray L → L V.length = true → ∀ i, i < V.length → L i = true := fun hsh hL i hi => by
    have h1 := List.all_eq_true.1 hreach i (List.mem_range.2 (by omega))
    rw [if_pos hi] at h1
    exact reachB_shut hsh h1 hL
  have hsuf : ∀ i, V.length < i → i < l.length → reachB l.toArray V.length l.toArray.size i = true := fun i hi hil => by
    have h1 := List.all_eq_true.1 hreach i (List.mem_range.2 (by simpa using hil))
    rw [if_neg (by omega), if_pos hi] at h1
    exact h1
  refine wpIn_inv hm D (fun L x w' => ∃ b, (∀ i, i < D.length → L i = true → x (D.getD i 0) = (V ++ .bool b :: V2 b).getD i undef) ∧ (L V.length = false → Below w.heap.size w w') ∧ (L V.length = true → Z b w')) hi (fun x => ⟨true, (fun i _ h => by cases h), (fun _ => (Below.refl _ _).drew), fun h => by cases h⟩) ?_ ?_
  · have main : ∀ (i : Nat) (o : Oper), l[i]? = some o → StepI F n P l.toArray a D (fun L x w' => ∃ b, (∀ i, i < D.length → L i = true → x (D.getD i 0) = (V ++ .bool b :: V2 b).getD i undef) ∧ (L V.length = false → Below w.heap.size w w') ∧ (L V.length = true → Z b w')) i o := by
      intro k o hlk L x w1 R hI hsh hLk hr hR
      obtain ⟨b, hx, hbw, hz⟩ := hI
      have hkl : k < l.length := (List.getElem?_eq_some_iff.1 hlk).1
      have ho : l.toArray[k]? = some o := by simpa using hlk
      have hkD : k < D.length := by omega
      obtain ⟨s1, s2, s3⟩ := envYSteps_at hstep hlk
      have hb1 := List.all_eq_true.1 hb k (List.mem_range.2 (by simpa using hkl))
      rw [ho] at hb1
      simp only [Bool.and_eq_true] at hb1
      obtain ⟨⟨hop, hdst⟩, hlook⟩ := hb1
      have hndf : ∀ c, o.op ≠ .defer c := fun c hc => by rw [hc] at hop; cases hop
      have hnsl : ∀ cs b, o.op ≠ .select cs b := fun c b hc => by rw [hc] at hop; cases hop
      have hsame : ∀ s, s ∈ o.looksAt l.toArray → (frameOf a D x).tmps[s]? = (fin b).tmps[s]? := by
        intro s hs
        rw [← hfinp, frameOf_tmps, frameOf_tmps]
        by_cases hD : s ∈ D
        · have := List.all_eq_true.1 hlook s hs
          rw [Bool.or_eq_true] at this
          rcases this with h | h
          · simp [hD] at h
          · obtain ⟨j, hj, hj2⟩ := List.any_eq_true.1 h
            rw [Bool.and_eq_true] at hj2
            obtain ⟨hjs, hje⟩ := hj2
            have hjs : D.getD j 0 = s := by simpa using hjs
            have hjk := List.mem_range.1 hj
            have h1 := hx j (by omega) (hr j hje)
            rw [hjs] at h1
            have h2 : x s = valOf D (V ++ .bool b :: V2 b) s := by
              have e : D.idxOf s = j := by rw [← hjs]; exact idxOf_getD hnd (by omega)
              unfold valOf
              rw [e]
              exact h1
            rw [h2]
        · simp [hD]
      have hev : ∀ y ∈ o.op.operands, (frameOf a D x).eval y = (fin b).eval y := by
        intro y hy
        cases y with
        | tmp s =>
          have h1 := hsame s (List.mem_append_left _ (List.mem_filterMap.2 ⟨.tmp s, by simpa using hy, rfl⟩))
          show (frameOf a D x).tmps.getD s undef = (fin b).tmps.getD s undef
          simp only [Array.getD_eq_getD_getElem?, h1]
        | _ => rfl
      have hex := execOp_congr (ρ := (frameOf a D x).eval) (ρ' := (fin b).eval) o hnsl hev
      have hwa : Region.wanted o (yielded l.toArray (frameOf a D x).tmps) = Region.wanted o (yielded l.toArray (fin b).tmps) := by
        unfold Region.wanted
        cases hg : o.guard with
        | none => rfl
        | some g =>
          obtain ⟨g, b'⟩ := g
          dsimp only
          unfold yielded
          cases hd : (l.toArray[g]?).bind (·.dst) with
          | none => rfl
          | some d =>
            have h1 := hsame d (List.mem_append_right _ (by rw [hg]; show d ∈ ((l.toArray[g]?).bind (·.dst)).toList; rw [hd]; simp))
            simp only [Option.bind_some, h1]
      have hdst : o.dst = some (D.getD k 0) := by simpa using hdst
      have hmem : D.getD k 0 ∈ D := by rw [List.getD_eq_getElem?_getD, List.getElem?_eq_getElem hkD]; exact List.getElem_mem hkD
      have hput : ∀ v, (frameOf a D x).put o.dst v = frameOf a D (upd x (D.getD k 0) v) := fun v => by rw [hdst]; exact frameOf_put D x a _ hmem v
      have hslot : ∀ i, i < D.length → i ≠ k → D.getD i 0 ≠ D.getD k 0 := fun i hiD hik e => by
        rw [List.getD_eq_getElem?_getD, List.getD_eq_getElem?_getD, List.getElem?_eq_getElem hiD, List.getElem?_eq_getElem hkD] at e
        simp only [Option.getD_some] at e
        have hpw := List.pairwise_iff_getElem.1 hnd
        rcases Nat.lt_or_ge i k with h | h
        · exact hpw i k hiD hkD h e
        · exact hpw k i hkD hiD (by omega) e.symm
      have hmore : ∀ i, i ≠ k → more L k i = L i := fun i hik => by unfold more; rw [decide_eq_false hik]; rfl
      have hmk : more L k k = true := by unfold more; simp
      unfold wpListIn
      rw [hwa]
      rcases Nat.lt_trichotomy k V.length with hky | hky | hky
      · -- ahead of the round
        have hLy : L V.length = false := by
          cases h : L V.length with
          | false => rfl
          | true => rw [hpre hsh h k hky] at hLk; cases hLk
        have hmy : more L k V.length = false := by rw [hmore _ (by omega)]; exact hLy
        have hnew : ∀ w', Below w1.heap.size w1 w' → ∃ b', (∀ i, i < D.length → more L k i = true → upd x (D.getD k 0) (V.getD k undef) (D.getD i 0) = (V ++ .bool b' :: V2 b').getD i undef) ∧ (more L k V.length = false → Below w.heap.size w w') ∧ (more L k V.length = true → Z b' w') := fun w' hb' => by
          refine ⟨b, fun i hiD hm => ?_, fun _ => (hbw hLy).trans (hb'.mono (hbw hLy).size), fun h => by rw [hmy] at h; cases h⟩
          by_cases hik : i = k
          · subst hik; rw [upd_same, hVi b i hky]
          · rw [hmore i hik] at hm
            rw [upd_other x _ (hslot i hiD hik)]
            exact hx i hiD hm
        rcases s1 hky b with ⟨h1, h2⟩ | ⟨h1, h2⟩
        · rw [if_neg (by rw [h1]; simp)]
          refine ⟨fun f _ => hF.fn f, ?_⟩
          rw [hput, ← h2]
          exact hR _ _ (hnew w1 (Below.refl _ _))
        · rw [if_pos h1]
          refine ⟨fun f _ => hF.fn f, ?_⟩
          rw [Oper.semAt_plain F _ o hndf, hex]
          have h3 := h2 w1 (hbw hLy)
          generalize (execOp (fin b).eval o).run P w1 = r at h3
          cases r with
          | halt hh w' => exact h3.elim
          | ok nx w' =>
            cases nx with
            | value u =>
              obtain ⟨rfl, hb'⟩ := h3
              rw [Oper.uponIn_value, hput]
              exact hR _ _ (hnew w' hb')
            | enter f args =>
              obtain ⟨rfl, hc⟩ := h3
              rw [Oper.uponIn_enter]
              refine ⟨(fun h => by rw [hF.depth] at h; cases h), (hF.calls hc).mono ?_⟩
              rintro e w'' ⟨rfl, hb'⟩
              show wpListIn F n P l.toArray _ [] ((frameOf a D x).put o.dst (V.getD k undef)) w''
              rw [hput]
              exact hR _ _ (hnew w'' hb')
            | _ => exact h3.elim
      · -- the round
        obtain ⟨h1, h2⟩ := s2 hky
        rw [hky] at hLk
        obtain ⟨lp, f, tmps, assign, body, hrun, hround⟩ := h2 w1 (hbw hLk)
        rw [if_pos (h1 b)]
        refine ⟨fun f _ => hF.fn f, ?_⟩
        rw [Oper.semAt_plain F _ o hndf, hex, hrun b, Oper.uponIn_round]
        refine ⟨(fun h => by rw [hF.depth] at h; cases h), hround.mono ?_⟩
        rintro e w'' ⟨b', rfl, hz'⟩
        show wpListIn F n P l.toArray _ [] ((frameOf a D x).put o.dst (.bool b')) w''
        rw [hput]
        refine hR _ _ ⟨b', fun i hiD hm => ?_, (fun h => by rw [← hky, hmk] at h; cases h), fun _ => hz'⟩
        by_cases hik : i = k
        · subst hik; rw [upd_same, hky, hVy]
        · rw [hmore i hik] at hm
          have hiy : i < V.length := by
            rcases Nat.lt_or_ge i V.length with h | h
            · exact h
            · have h5 := reachB_shut hsh (hsuf i (by omega) (by omega)) hm
              rw [hLk] at h5
              cases h5
          rw [upd_other x _ (hslot i hiD hik), hsame1 b' b i hiy]
          exact hx i hiD hm
      · -- behind the round
        have hLy : L V.length = true := by
          have h5 := hsuf k hky hkl
          rw [show l.toArray.size = l.toArray.size - 1 + 1 by omega] at h5
          unfold reachB at h5
          rw [Bool.or_eq_true] at h5
          rcases h5 with h6 | h6
          · unfold depB at h6
            rw [ho] at h6
            exact hr _ h6
          · obtain ⟨j, _, h7⟩ := List.any_eq_true.1 h6
            rw [Bool.and_eq_true] at h7
            have h8 := h7.1
            unfold depB at h8
            rw [ho] at h8
            exact reachB_shut hsh h7.2 (hr _ h8)
        have hmy : more L k V.length = true := by rw [hmore _ (by omega)]; exact hLy
        have hnew : ∃ b', (∀ i, i < D.length → more L k i = true → upd x (D.getD k 0) ((V ++ .bool b :: V2 b).getD k undef) (D.getD i 0) = (V ++ .bool b' :: V2 b').getD i undef) ∧ (more L k V.length = false → Below w.heap.size w w1) ∧ (more L k V.length = true → Z b' w1) := by
          refine ⟨b, fun i hiD hm => ?_, (fun h => by rw [hmy] at h; cases h), fun _ => hz hLy⟩
          by_cases hik : i = k
          · subst hik; rw [upd_same]
          · rw [hmore i hik] at hm
            rw [upd_other x _ (hslot i hiD hik)]
            exact hx i hiD hm
        rcases s3 hky b with ⟨h1, h2⟩ | ⟨h1, h2⟩
        · rw [if_neg (by rw [h1]; simp)]
          refine ⟨fun f _ => hF.fn f, ?_⟩
          rw [hput, ← h2]
          exact hR _ _ hnew
        · rw [if_pos h1]
          refine ⟨fun f _ => hF.fn f, ?_⟩
          rw [Oper.semAt_plain F _ o hndf, hex, h2 w1, Oper.uponIn_value, hput]
          exact hR _ _ hnew
    have all : ∀ (m : List Oper) (k : Nat), (∀ j, m[j]? = l[k + j]?) → StepsI F n P l.toArray a D (fun L x w' => ∃ b, (∀ i, i < D.length → L i = true → x (D.getD i 0) = (V ++ .bool b :: V2 b).getD i undef) ∧ (L V.length = false → Below w.heap.size w w') ∧ (L V.length = true → Z b w')) k m := by
      intro m
      induction m with
      | nil => intro k _; trivial
      | cons o m ih =>
        intro k hk
        exact ⟨main k o (by simpa using (hk 0).symm), ih (k + 1) fun j => by have := hk (j + 1); simpa [Nat.add_assoc, Nat.add_comm 1 j] using this⟩
    exact all l 0 fun j => by simp
  · rintro x w' L hL ⟨b, h1, -, h3⟩
    have e : frameOf a D x = fin b := by
      rw [← hfinp]
      refine frameOf_congr D _ _ a fun s hs => ?_
      obtain ⟨j, hj, rfl⟩ := List.getElem_of_mem hs
      have h4 := h1 j hj (hL j (by simpa using (by omega : j < l.length)))
      rw [List.getD_eq_getElem?_getD, List.getElem?_eq_getElem hj] at h4
      have h4 : x D[j] = (V ++ .bool b :: V2 b).getD j undef := h4
      unfold valOf
      rw [List.Nodup.idxOf_getElem hnd j hj]
      exact h4
    rw [e]
    exact hend b w' (h3 (hL _ hy))
end
end Go.Proofs.YteekjfgjmccdnaaGreatDoor
end
