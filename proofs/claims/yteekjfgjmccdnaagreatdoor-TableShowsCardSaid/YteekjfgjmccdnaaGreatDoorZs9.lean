/-
  What was there ahead of a loop stays as it was: words for it.
-/
import Derived.Test.YteekjfgjmccdnaaGreatDoorZs8
set_option maxHeartbeats 16000000
set_option maxRecDepth 100000
namespace Go.Proofs.YteekjfgjmccdnaaGreatDoor
section -- GSpans
open Go Go.RowKit Go.Shelf
attribute [local go_sem] Oper.semAt_some
def toV (E : List Int) (k : Nat) : Int := E.getD k 2199023255553
def fromV (E : List Int) (k : Nat) : Int := if k = 0 then -2199023255553 else toV E (k - 1)
theorem toV_at {E : List Int} {k : Nat} (h : k < E.length) : toV E k = E[k] := by unfold toV; rw [List.getD_eq_getElem?_getD, List.getElem?_eq_getElem h]; rfl
theorem toV_out {E : List Int} {k : Nat} (h : E.length ≤ k) : toV E k = 2199023255553 := by unfold toV; rw [List.getD_eq_getElem?_getD, List.getElem?_eq_none h]; rfl
theorem fromV_succ (E : List Int) (k : Nat) : fromV E (k + 1) = toV E k := by unfold fromV; rw [if_neg (by omega)]; rfl
theorem span_at (eb fb i : Nat) (a : Int) (E : List Int) (v : Value) (B : Nat) (w : World) (he : Blk w eb 28 #[v]) (hf : Blk w fb 3 #[.int .i64 a]) (hv : Nums w B v E) (hB : B ≤ w.heap.size) :
   Calls Tryz.prog 174 #[.int .i64 i, .pointer (some ⟨eb, 0, none⟩), .pointer (some ⟨fb, 0, none⟩)] w fun o w' => o = .returned (.agg #[.int .i64 a, .int .i64 (toV E i)]) ∧ Below w.heap.size w w' := by
 obtain ⟨A, c, rfl, hlc, hcm⟩ := hv.form
 unfold maxLen at hcm
 have c0 := he.cell 0 (v := .slice A E.length c) rfl
 have c1 := hf.cell 0 (v := .int .i64 a) rfl
 have h0 := he.lt
 have h1 := hf.lt
 have hn0 : eb ≠ w.heap.size := by omega
 have hn1 : fb ≠ w.heap.size := by omega
 clear he hf
 by_cases hlt : i < E.length
 · have hd : decide ((i : Int) < (E.length : Int)) = true := decide_eq_true (by omega)
   obtain ⟨bb, o, c', e, hbb, hc⟩ := hv.cells (by omega)
   cases e
   have k0 := hc i hlt
   have hbw : bb < w.heap.size := by omega
   have HT := Lib.hid (toV_at hlt)
   obtain ⟨n, hn⟩ : ∃ n, E[i] = n := ⟨_, rfl⟩
   rw [hn] at k0 HT
   rw [HT.out]
   clear hc hn hv
   go_enter Tryz.func174, Tryz.ntmps174
   go_wp2_with fail
   refine bodyPost_ret (v := .agg #[.int .i64 a, .int .i64 n]) ?_ rfl ⟨rfl, (Below.refl _ _).alloc (Nat.le_refl _) _⟩
   have hB := Blk.new w 80 #[.int .i64 a, .int .i64 n]
   have d0 := hB.cell 0 (v := .int .i64 a) rfl
   have d1 := hB.cell 1 (v := .int .i64 n) rfl
   simp [results, Tryz.f174, go_sem, d0, d1]
 · have hd : decide ((i : Int) < (E.length : Int)) = false := decide_eq_false (by omega)
   rw [toV_out (by omega)]
   clear hv
   go_enter Tryz.func174, Tryz.ntmps174
   go_wp2_with fail
   refine bodyPost_ret (v := .agg #[.int .i64 a, .int .i64 2199023255553]) ?_ rfl ⟨rfl, (Below.refl _ _).alloc (Nat.le_refl _) _⟩
   have hB := Blk.new w 80 #[.int .i64 a, .int .i64 2199023255553]
   have d0 := hB.cell 0 (v := .int .i64 a) rfl
   have d1 := hB.cell 1 (v := .int .i64 2199023255553) rfl
   simp [results, Tryz.f174, go_sem, d0, d1]
def encS (l : List EraF) (E : List Int) (k : Nat) : Array Value := #[(l.getD k default).val, .agg #[.int .i64 (fromV E k), .int .i64 (toV E k)]]
structure SpanAt (l : List EraF) (E : List Int) (fb : Nat) (J : List Nat → (Nat → Prop) → World → Prop) (O0 : Nat → Prop) (W2 : World) (pre : List Nat) (O : Nat → Prop) (wr : World) : Prop where
 j : J pre O wr
 bd : Bd O wr
 ext : ∀ k, O k → O0 k ∨ W2.heap.size ≤ k
 frm : Fr (fun k => O0 k ∨ k = fb) W2 wr
 fr : Blk wr fb 3 #[.int .i64 (fromV E pre.length)]
 len : pre.length ≤ l.length
def RS (l : List EraF) (B2 : Nat) (Wb : World) (pre : List Nat) (x : Nat) (D : Nat → Prop) (W : World) : Prop := (∀ j, ¬ D j) ∧ x = pre.length ∧ x < l.length ∧ ∀ k, k < B2 → W.heap[k]? = Wb.heap[k]?
theorem spansZ_in (n : Nat) (hn : 2 ≤ n) (lp zb sb B B2 : Nat) (Wb : World) (zn : ByteArray) (ev sv : Value) (l : List EraF) (S : List SetF) (W : World)
   (hzb : Blk W zb 24 #[.string zn, ev]) (hsb : Blk W sb 90 #[setsV zn ev sv]) (hz : ZW W B ev sv l S) (ho : ZOk l S) (h0 : errZ S l = 0) (hBB : B ≤ B2) (hB2 : B2 ≤ W.heap.size) (hWb : ∀ k, k < B2 → W.heap[k]? = Wb.heap[k]?)
   (J Jx : List Nat → (Nat → Prop) → World → Prop) (fJ : Feet J) (hY : RoundsIn Fence.wide (n - 1) Tryz.prog lp (encS l (endL S l)) (RS l B2 Wb) J Jx)
   (O0 : Nat → Prop) (hJ0 : J [] O0 W) (hO0 : Bd O0 W) (hK : ∀ k, k < B2 → ¬ O0 k) :
   CallsIn Fence.wide n Tryz.prog 173 #[.func (.yield lp) #[] #[], .pointer (some ⟨zb, 0, none⟩), .pointer (some ⟨sb, 0, none⟩)] W (IterEnd (fun xs => xs.length = l.length) (fun pre => pre.length ≤ l.length) J Jx O0 (fun _ => False) W) := by
 obtain ⟨A, cA, rfl, hlc, hcm⟩ := hz.eras.form
 unfold maxLen at hcm
 have HEN := Lib.hid (callsIn_wide (n := n - 1).2 (zends_any zn (.slice A l.length cA) sv B l S W hz ho))
 unfold EndsPost at HEN
 rw [h0] at HEN
 have z0 := hzb.cell 0 (v := .string zn) rfl
 have z1 := hzb.cell 1 (v := .slice A l.length cA) rfl
 have s0 := hsb.cell 0 (v := setsV zn (.slice A l.length cA) sv) rfl
 unfold setsV zoneA worldA at HEN
 unfold setsV worldA at s0
 have hzl := hzb.lt
 have hsl := hsb.lt
 have HZ := Lib.hid hz
 obtain ⟨E, hE⟩ : ∃ E, endL S l = E := ⟨_, rfl⟩
 rw [hE] at HEN hY
 clear hE h0 hz ho
 refine callsIn_of_wp Tryz.func173 rfl trivial ?_ rfl
 simp only [Tryz.ntmps173, List.size_toArray, List.length_cons, List.length_nil, Nat.reduceAdd, Nat.reduceSub, Array.replicate_succ, Array.replicate_zero, List.push_toArray, List.append_toArray, List.nil_append, List.cons_append]
 gi_wp2
 refine ⟨trivial, fun _ => by omega, HEN.out.mono ?_⟩
 rintro o w1 ⟨⟨v, rfl, hown, -⟩, hb1⟩
 have hown1 := hown (by trivial)
 obtain ⟨A5, c5, rfl, -, -⟩ := Sl.of_own hown1
 have z11 := (hb1.cell (p := ⟨zb, 1, none⟩) hzl).trans z1
 have hzl1 : zb < w1.heap.size := Nat.lt_of_lt_of_le hzl hb1.size
 have HB1 := Lib.hid hb1
 have HOWN := Lib.hid hown1
 clear HEN z0 z1 s0 hb1 hown hown1
 gi_wp2
 obtain ⟨W2, hW2⟩ : ∃ W2, (w1.alloc (.cells #[.slice A5 E.length c5] 28)).alloc (.cells #[.int .i64 (-2199023255553)] 3) = W2 := ⟨_, rfl⟩
 obtain ⟨b0, b1, hb2, hs2⟩ := blks2 w1 _ _ _ _ W2 hW2
 rw [hW2]
 have hb02 := HB1.out.trans (hb2.mono HB1.out.size)
 have HE2 := Lib.hid b0
 have HZ2 := Lib.hid (HZ.out.below hb02)
 have HO2 := Lib.hid (ownsRow_below HOWN.out hb2)
 have hs1 := HB1.out.size
 have HS0 := Lib.hid (show SpanAt l E (w1.heap.size + 1) J O0 W2 [] O0 W2 from
   ⟨fJ _ _ _ _ hJ0 (Fr.of_below hb02 (Nat.le_refl _)), hO0.fr (Fr.of_below (T := fun _ => True) hb02 (Nat.le_refl _)), fun k h => .inl h, Fr.refl _ _, b1, Nat.zero_le _⟩)
 have HB02 := Lib.hid hb02
 clear hW2 b0 b1 hb2 hb02 z11
 gi_loopw [23] (fun iv wr => ∃ pre O, iv = .int .i64 (pre.length : Nat) ∧ SpanAt l E (w1.heap.size + 1) J O0 W2 pre O wr) (fun iv _ => l.length - (intOf iv).toNat)
 case atStart => exact ⟨[], O0, rfl, HS0.out⟩
 case round =>
   clear HS0
   obtain ⟨pre, O, rfl, hS⟩ := hrel
   have HS := Lib.hid hS
   have hcz : ∀ k, k < B → ¬ (O0 k ∨ k = w1.heap.size + 1) := fun k hk e => by
     rcases e with e | e
     · exact hK k (by omega) e
     · have := HZ.out.le; omega
   have her : ErasR wr B (.slice A l.length cA) l := hS.frm.sl HZ2.out.eras HZ2.out.le hcz
   have how := hS.frm.own HO2.out (fun g hg e => by
     have h5 := HOWN.out.lt g hg
     rcases e with e | e
     · have := hO0 _ e; omega
     · omega)
   have heb : Blk wr w1.heap.size 28 #[.slice A5 E.length c5] := HE2.out.fr hS.frm (fun e => by
     rcases e with e | e
     · have := hO0 _ e; omega
     · omega)
   have hfb := hS.fr
   have hws := hS.frm.size
   have hlen := hS.len
   by_cases hlt : pre.length < l.length
   · have hd : decide ((pre.length : Int) < (l.length : Int)) = true := decide_eq_true (by omega)
     obtain ⟨bb, o, c', e, hbb, hc⟩ := her.cells (by omega)
     cases e
     have hx := hc pre.length hlt
     have hgx : l.getD pre.length default = l[pre.length] := by rw [List.getD_eq_getElem?_getD, List.getElem?_eq_getElem hlt]; rfl
     obtain ⟨x, hxk⟩ : ∃ x, l[pre.length] = x := ⟨_, rfl⟩
     rw [hxk] at hx hgx
     obtain ⟨c0, c1, c2, c3, c4, c5, c6, c7, c8, c9, c10, c11⟩ := hx
     have hbw : bb < wr.heap.size := by have := HZ2.out.le; omega
     have hA3 := Blk.new wr 42 #[.int .i64 x.n.off, .string x.ru, .int .i64 x.n.save, .string x.fm, .bool x.en, .int .i64 x.n.year, .int .i64 x.n.month, .int .i64 x.n.dk, .int .i64 x.n.dw, .int .i64 x.n.dn, .int .i64 x.n.sec, .int .i64 x.n.ak]
     have hb3 : Below wr.heap.size wr (wr.alloc (.cells #[.int .i64 x.n.off, .string x.ru, .int .i64 x.n.save, .string x.fm, .bool x.en, .int .i64 x.n.year, .int .i64 x.n.month, .int .i64 x.n.dk, .int .i64 x.n.dw, .int .i64 x.n.dn, .int .i64 x.n.sec, .int .i64 x.n.ak] 42)) := (Below.refl _ _).alloc (Nat.le_refl _) _
     have HSP := Lib.hid (callsIn_wide (n := n - 1).2 (span_at w1.heap.size (w1.heap.size + 1) pre.length (fromV E pre.length) E _ wr.heap.size (wr.alloc (.cells #[.int .i64 x.n.off, .string x.ru, .int .i64 x.n.save, .string x.fm, .bool x.en, .int .i64 x.n.year, .int .i64 x.n.month, .int .i64 x.n.dk, .int .i64 x.n.dw, .int .i64 x.n.dn, .int .i64 x.n.sec, .int .i64 x.n.ak] 42)) (heb.alloc _) (hfb.alloc _) ((Sl.of_own how).below hb3) hb3.size))
     obtain ⟨fv, hfv⟩ : ∃ f, fromV E pre.length = f := ⟨_, rfl⟩
     obtain ⟨tv, htv⟩ : ∃ f, toV E pre.length = f := ⟨_, rfl⟩
     rw [hfv, htv] at HSP
     have HFB := Lib.hid hfb
     have HGX := Lib.hid hgx
     have HFV := Lib.hid hfv
     have HTV := Lib.hid htv
     have hfl := hfb.lt
     clear hc hxk hgx her how heb hfb hfv htv hS
     gi_wp2
     refine ⟨trivial, fun _ => by omega, HSP.out.mono ?_⟩
     rintro o w4 ⟨rfl, hb4⟩
     have hA4 := hA3.below hb4 hA3.lt
     have HB4 := Lib.hid (hb3.trans (hb4.mono hb3.size))
     have hl4 := hA4.lt
     clear hb3 hb4 hA3 HSP c0 c1 c2 c3 c4 c5 c6 c7 c8 c9 c10 c11
     have hT := Blk.new w4 80 #[.int .i64 fv, .int .i64 tv]
     have HB5 := Lib.hid (HB4.out.alloc HB4.out.size (.cells #[.int .i64 fv, .int .i64 tv] 80))
     have hF5 := HFB.out.below HB5.out HFB.out.lt
     obtain ⟨w5, hw5⟩ : ∃ w5, w4.alloc (.cells #[.int .i64 fv, .int .i64 tv] 80) = w5 := ⟨_, rfl⟩
     have hA5 := hA4.alloc (.cells #[.int .i64 fv, .int .i64 tv] 80)
     rw [hw5] at hT HB5 hF5 hA5
     have e0 := hA5.cell 0 (v := .int .i64 x.n.off) rfl
     have e1 := hA5.cell 1 (v := .string x.ru) rfl
     have e2 := hA5.cell 2 (v := .int .i64 x.n.save) rfl
     have e3 := hA5.cell 3 (v := .string x.fm) rfl
     have e4 := hA5.cell 4 (v := .bool x.en) rfl
     have e5 := hA5.cell 5 (v := .int .i64 x.n.year) rfl
     have e6 := hA5.cell 6 (v := .int .i64 x.n.month) rfl
     have e7 := hA5.cell 7 (v := .int .i64 x.n.dk) rfl
     have e8 := hA5.cell 8 (v := .int .i64 x.n.dw) rfl
     have e9 := hA5.cell 9 (v := .int .i64 x.n.dn) rfl
     have e10 := hA5.cell 10 (v := .int .i64 x.n.sec) rfl
     have e11 := hA5.cell 11 (v := .int .i64 x.n.ak) rfl
     have t0 := hT.cell 0 (v := .int .i64 fv) rfl
     have t1 := hT.cell 1 (v := .int .i64 tv) rfl
     have ht5 := hT.lt
     have hsame : ∀ k, k < B2 → w5.heap[k]? = Wb.heap[k]? := fun k hk => by
       have h1 := HB02.out.block k (by omega)
       have h2 := HS.out.frm.block k (by have := HB02.out.size; omega) (fun e => by
         rcases e with e | e
         · exact hK k hk e
         · omega)
       have h3 := HB5.out.block k (by have := HB02.out.size; have := HS.out.frm.size; omega)
       rw [h3, h2, h1]
       exact hWb k hk
     obtain ⟨fn, tmps, assign, body, hyd, hR⟩ := hY pre pre.length (fun _ => False) O w5 (fJ _ _ _ _ HS.out.j (Fr.of_below HB5.out (Nat.le_refl _))) (HS.out.bd.fr (Fr.of_below (T := fun _ => True) HB5.out (Nat.le_refl _))) (fun _ h => h.elim) (fun _ h => h.elim) ⟨fun _ h => h, rfl, hlt, hsame⟩
     unfold encS at hyd
     rw [HGX.out, HFV.out, HTV.out] at hyd
     unfold EraF.val eraA at hyd
     gi_wp2
     refine ⟨fun _ => by omega, hR.mono ?_⟩
     rintro o W5 ⟨O5, hx5, hbd5, hf5, hend⟩
     clear hyd hR e0 e1 e2 e3 e4 e5 e6 e7 e8 e9 e10 e11 t0 t1 hA4 hA5 hw5
     have hs5 := HB5.out.size
     have hOw : ∀ k, O k → k < wr.heap.size := HS.out.bd
     have hnfb : ¬ O (w1.heap.size + 1) := fun e => by
       rcases HS.out.ext _ e with e | e
       · have := hO0 _ e; omega
       · omega
     have hext : ∀ k, O5 k → O0 k ∨ W2.heap.size ≤ k := fun k h => by
       rcases hx5 k h with h | h | h
       · exact HS.out.ext k h
       · exact h.elim
       · exact .inr (by omega)
     have hfr5 : Fr (fun k => O0 k ∨ k = w1.heap.size + 1) W2 W5 := ((HS.out.frm.then (Fr.of_below HB5.out (Nat.le_refl _))).trans hf5 fun k hk => by
       rcases hk with hk | hk
       · rcases HS.out.ext k hk with h | h
         · exact .inl (.inl h)
         · exact .inr h
       · exact hk.elim)
     rcases hend with ⟨rfl, hJ5⟩ | ⟨rfl, hJx5⟩
     · have hT5 := hT.fr hf5 (fun e => by
         rcases e with e | e
         · have := hOw _ e; omega
         · exact e)
       have hF6 := hF5.fr hf5 (fun e => by
         rcases e with e | e
         · exact hnfb e
         · exact e)
       have t1 := hT5.cell 1 (v := .int .i64 tv) rfl
       have f0 := hF6.frozen 0
       have g0 := hF6.cell 0 (v := .int .i64 (fromV E pre.length)) rfl
       have HF6 := Lib.hid hF6
       have HJ5 := Lib.hid hJ5
       clear hT hF5 hT5 hF6 hJ5
       gi_wp2
       refine ⟨⟨pre ++ [pre.length], O5, ?_, ?_⟩, ?_⟩
       · rw [List.length_append]; rfl
       · refine ⟨fJ _ _ _ _ HJ5.out (Fr.setCell _ 0 _ fun e => ?_), hbd5.fr (Fr.setCell (T := fun _ => True) _ 0 _ trivial), hext, hfr5.then (Fr.setCell _ 0 _ (.inr rfl)), ?_, ?_⟩
         · rcases hx5 _ e with h | h | h
           · exact hnfb h
           · exact h
           · omega
         · have h := HF6.out.set 0 (.int .i64 tv)
           rw [List.length_append, List.length_singleton, fromV_succ, HTV.out]
           exact h
         · rw [List.length_append]
           exact hlt
       · show l.length - _ < l.length - _
         simp [intOf]
         omega
     · gi_wp2
       refine bodyPost_end (results_none rfl _ _ _) rfl ?_
       refine ⟨⟨_, rfl⟩, O5, fun k h => ?_, hbd5, ((Fr.of_below (T := fun k => O0 k ∨ False) HB02.out (Nat.le_refl _)).trans hfr5 fun k hk => ?_), .inr ⟨pre ++ [pre.length], ?_, hJx5⟩⟩
       · rcases hext k h with h | h
         · exact .inl h
         · exact .inr (by omega)
       · rcases hk with hk | hk
         · exact .inl (.inl hk)
         · exact .inr (by omega)
       · show (pre ++ [pre.length]).length ≤ l.length
         rw [List.length_append]
         exact hlt
   · have he : pre.length = l.length := by omega
     have hd : decide ((pre.length : Int) < (l.length : Int)) = false := decide_eq_false (by omega)
     clear her how heb hfb hS
     have HEQ := Lib.hid he
     clear he
     gi_wp2
     refine bodyPost_end (results_none rfl _ _ _) rfl ?_
     refine ⟨⟨_, rfl⟩, O, fun k h => ?_, HS.out.bd, ((Fr.of_below (T := fun k => O0 k ∨ False) HB02.out (Nat.le_refl _)).trans HS.out.frm fun k hk => ?_), .inl ⟨pre, HEQ.out, HS.out.j⟩⟩
     · rcases HS.out.ext k h with h | h
       · exact .inl h
       · exact .inr (by omega)
     · rcases hk with hk | hk
       · exact .inl (.inl hk)
       · exact .inr (by omega)
theorem spansZ_iter (n : Nat) (hn : 2 ≤ n) (zb sb B B2 : Nat) (Wb : World) (zn : ByteArray) (ev sv : Value) (l : List EraF) (S : List SetF) (W : World)
   (hzb : Blk W zb 24 #[.string zn, ev]) (hsb : Blk W sb 90 #[setsV zn ev sv]) (hz : ZW W B ev sv l S) (ho : ZOk l S) (h0 : errZ S l = 0) (hBB : B ≤ B2) (hB2 : B2 ≤ W.heap.size) (hWb : ∀ k, k < B2 → W.heap[k]? = Wb.heap[k]?) :
   Iter Fence.wide n Tryz.prog 173 #[.pointer (some ⟨zb, 0, none⟩), .pointer (some ⟨sb, 0, none⟩)] (encS l (endL S l)) (RS l B2 Wb) (fun xs => xs.length = l.length) (fun pre => pre.length ≤ l.length) (fun k => k < B2) (fun _ => False) W :=
 fun lp J Jx fJ _ hY O hJ hO hK => spansZ_in n hn lp zb sb B B2 Wb zn ev sv l S W hzb hsb hz ho h0 hBB hB2 hWb J Jx fJ hY O hJ hO hK
theorem spansZ_any (w : World) (zn : ByteArray) (ev sv : Value) :
   Calls Tryz.prog 148 #[zoneA zn ev, setsV zn ev sv] w fun o w' => o = .returned (.func (.func 173) #[] #[.pointer (some ⟨w.heap.size, 0, none⟩), .pointer (some ⟨w.heap.size + 1, 0, none⟩)]) ∧ Below w.heap.size w w' ∧
     Blk w' w.heap.size 24 #[.string zn, ev] ∧ Blk w' (w.heap.size + 1) 90 #[setsV zn ev sv] ∧ w'.heap.size = w.heap.size + 2 := by
 have hz0 := (Blk.new w 24 #[.string zn, ev]).alloc (.cells #[setsV zn ev sv] 90)
 have hs0 := Blk.new (w.alloc (.cells #[.string zn, ev] 24)) 90 #[setsV zn ev sv]
 rw [World.size_alloc] at hs0
 have HB := Lib.hid (((Below.refl w.heap.size w).alloc (Nat.le_refl _) (.cells #[.string zn, ev] 24)).alloc (by simp) (.cells #[setsV zn ev sv] 90))
 have HH := Lib.hid (And.intro hz0 hs0)
 clear hz0 hs0
 unfold setsV zoneA worldA at *
 go_enter Tryz.func148, Tryz.ntmps148
 go_wp2_with fail
 go_ret
 exact ⟨rfl, HB.out, HH.out.1, HH.out.2, by simp⟩
end
section -- HStepM
open Go Go.RowKit Go.Shelf
def eraT (S : List SetF) (l : List EraF) (fr to : Int) (k : Nat) : List Chg :=
 if toV (endL S l) k - 1 ≤ fr ∨ to < fromV (endL S l) k then [] else
   (if fr < fromV (endL S l) k then [⟨fromV (endL S l) k, locW (l.getD k default) (ruleE S (l.getD k default)) (fromV (endL S l) k)⟩] else []) ++
     turnsL (l.getD k default) (ruleE S (l.getD k default)) (max fr (fromV (endL S l) k)) (min to (toV (endL S l) k - 1))
def stepsL (S : List SetF) (l : List EraF) (fr to : Int) : List Chg := (List.range l.length).flatMap (eraT S l fr to)
theorem firedN_nil {off fr to : Int} : ∀ {n : Nat}, firedN [] off fr to n none = []
 | 0 => rfl
 | _ + 1 => rfl
theorem turnsL_nil (x : EraF) (fr to : Int) : turnsL x [] fr to = [] := by
 unfold turnsL firedF
 have h : behindF [] (fr - 180000) = none := rfl
 rw [h, firedN_nil]
 rfl
section
variable {S : List SetF} {l : List EraF} {fr to : Int} {k : Nat}
theorem stepsF_succ : (List.range (k + 1)).flatMap (eraT S l fr to) = (List.range k).flatMap (eraT S l fr to) ++ eraT S l fr to k := by
 rw [List.range_succ, List.flatMap_append]
 simp
theorem stepsL_split (hk : k < l.length) : ∃ rest, stepsL S l fr to = (List.range k).flatMap (eraT S l fr to) ++ (eraT S l fr to k ++ rest) := by
 obtain ⟨m, hm⟩ : ∃ m, l.length = k + 1 + m := ⟨l.length - (k + 1), by omega⟩
 refine ⟨((List.range m).map (k + 1 + ·)).flatMap (eraT S l fr to), ?_⟩
 unfold stepsL
 rw [hm, List.range_add, List.flatMap_append, stepsF_succ, List.append_assoc]
theorem eraT_skip (h : toV (endL S l) k - 1 ≤ fr ∨ to < fromV (endL S l) k) : eraT S l fr to k = [] := by unfold eraT; rw [if_pos h]
theorem eraT_at (h : ¬ (toV (endL S l) k - 1 ≤ fr ∨ to < fromV (endL S l) k)) (h2 : fr < fromV (endL S l) k) : eraT S l fr to k = ⟨fromV (endL S l) k, locW (l.getD k default) (ruleE S (l.getD k default)) (fromV (endL S l) k)⟩ :: turnsL (l.getD k default) (ruleE S (l.getD k default)) (max fr (fromV (endL S l) k)) (min to (toV (endL S l) k - 1)) := by
 unfold eraT
 rw [if_neg h, if_pos h2]
 rfl
theorem eraT_in (h : ¬ (toV (endL S l) k - 1 ≤ fr ∨ to < fromV (endL S l) k)) (h2 : ¬ fr < fromV (endL S l) k) : eraT S l fr to k = turnsL (l.getD k default) (ruleE S (l.getD k default)) (max fr (fromV (endL S l) k)) (min to (toV (endL S l) k - 1)) := by
 unfold eraT
 rw [if_neg h, if_neg h2]
 rfl
theorem toV_in (hE : ∀ e ∈ endL S l, -9000000000000000000 ≤ e ∧ e ≤ 9000000000000000000) (k : Nat) : -9000000000000000000 ≤ toV (endL S l) k ∧ toV (endL S l) k ≤ 9000000000000000000 := by
 by_cases h : k < (endL S l).length
 · rw [toV_at h]
   exact hE _ (List.getElem_mem h)
 · rw [toV_out (by omega)]
   constructor <;> decide
theorem fromV_in (hE : ∀ e ∈ endL S l, -9000000000000000000 ≤ e ∧ e ≤ 9000000000000000000) (k : Nat) : -9000000000000000000 ≤ fromV (endL S l) k ∧ fromV (endL S l) k ≤ 9000000000000000000 := by
 unfold fromV
 split
 · constructor <;> decide
 · exact toV_in hE _
theorem errZ_off (h : errZ S l = 0) (hk : k < l.length) : (-90000 < l[k].n.off ∧ l[k].n.off < 90000) ∧ (-90000 < l[k].n.save ∧ l[k].n.save < 90000) := by
 have h1 := (errZ_zero h).2.2.1 k hk
 rw [errAt_eq hk] at h1
 unfold errE at h1
 split at h1
 · split at h1
   · rename_i h2
     unfold withinB at h2
     simp only [Bool.and_eq_true, decide_eq_true_eq] at h2
     omega
   · cases h1
 · rename_i hn
   exact absurd h1 hn
end
end
section -- HShown
open Go Go.RowKit Go.Shelf
theorem shown_any (w : World) (x : EraF) (B : Nat) (v : Value) (R : List Rul) (hm : Tryz.MaxL w) (hs : x.fm.size < 4294967281) (hrw : RW w B v R) (hok : RuOk R) (i : Int) (ho : -1000000000000000 ≤ x.n.off ∧ x.n.off ≤ 1000000000000000) (hi : -4500000000000 ≤ i) (hi2 : i ≤ 9000000000000000000) (hsum : sumOk x.n x.ru R i) :
   Calls Tryz.prog 150 #[x.val, v, .int .i64 i] w fun o w' => o = .returned (chgA ⟨i, locW x R i⟩) ∧ Below w.heap.size w w' := by
 have hb0 : Below w.heap.size w ((w.alloc (.cells (eraC x.n x.ru x.fm x.en) 42)).alloc (.cells #[.int .i64 0, .int .i64 0, .bool false, .string ⟨#[]⟩] 76)) := ((Below.refl w.heap.size w).alloc (Nat.le_refl _) _).alloc (by simp) _
 have hr0 := Blk.new (w.alloc (.cells (eraC x.n x.ru x.fm x.en) 42)) 76 #[.int .i64 0, .int .i64 0, .bool false, .string ⟨#[]⟩]
 rw [World.size_alloc] at hr0
 have HW := Lib.hid (zwithin_any _ x.n x.ru x.fm x.en B v R (hm.below hb0 (Nat.le_refl _)) hs (hrw.below hb0) hok i ho hi hi2 hsum)
 obtain ⟨err, he⟩ := zwithinV_loc x R i
 rw [he] at HW
 obtain ⟨⟨yo, yd, ys⟩, hy⟩ : ∃ y, locW x R i = y := ⟨_, rfl⟩
 rw [hy] at HW ⊢
 have HB := Lib.hid hb0
 have HR := Lib.hid hr0
 clear he hy hb0 hr0 hrw
 unfold locA at HW
 unfold EraF.val eraA chgA
 unfold eraA at HW
 unfold eraC at HB HR HW
 go_enter Tryz.func150, Tryz.ntmps150
 go_wp2_with fail
 refine HW.out.mono ?_
 rintro o w1 ⟨rfl, hb⟩
 have hr1' := HR.out.below hb HR.out.lt
 have HB1 := Lib.hid (HB.out.trans (hb.mono HB.out.size))
 have HR1 := Lib.hid hr1'
 have r0 := hr1'.cell 0 (v := .int .i64 0) rfl
 have r1 := hr1'.cell 1 (v := .int .i64 0) rfl
 have r2 := hr1'.cell 2 (v := .bool false) rfl
 have r3 := hr1'.cell 3 (v := .string ⟨#[]⟩) rfl
 have f0 := hr1'.frozen 0
 have f1 := hr1'.frozen 1
 have f2 := hr1'.frozen 2
 have f3 := hr1'.frozen 3
 have hrl := hr1'.lt
 clear hb hr1' HW
 go_wp2_with fail
 have hw := ((((HR1.out.set 0 (.int .i64 i)).set 1 (.int .i64 yo)).set 2 (.bool yd)).set 3 (.string ys)).alloc (.cells #[.int .i64 yo, .bool yd, .string ys] 48)
 refine bodyPost_ret (v := .agg #[.int .i64 i, .int .i64 yo, .bool yd, .string ys]) ?_ rfl ⟨rfl, (below_set4 HB1.out (by omega) _ _ _ _).alloc (by have := HB1.out.size; simp; omega) _⟩
 have c0 := hw.cell 0 (v := .int .i64 i) rfl
 have c1 := hw.cell 1 (v := .int .i64 yo) rfl
 have c2 := hw.cell 2 (v := .bool yd) rfl
 have c3 := hw.cell 3 (v := .string ys) rfl
 simp [results, Tryz.f150, go_sem, c0, c1, c2, c3]
theorem rulesT_any (w : World) (zn : ByteArray) (ev sv : Value) (B : Nat) (S : List SetF) (hs : SetsR w B sv S) (hB : B ≤ w.heap.size) (x : EraF) :
   Calls Tryz.prog 149 #[x.val, setsV zn ev sv] w fun o w' => o = .returned (rvalE S x) ∧ Below w.heap.size w w' := by
 have hb0 := (Below.refl w.heap.size w).alloc (Nat.le_refl _) (.cells (eraC x.n x.ru x.fm x.en) 42)
 have HO := Lib.hid (fun (W : World) (hb : Below w.heap.size w W) => wof_any W zn ev sv B S (hs.below (hb.mono hB)) (Nat.le_trans hB hb.size) x.ru)
 unfold worldA at HO
 unfold setsV EraF.val eraA worldA
 by_cases hr0 : x.ru.size = 0
 · have hem : (x.ru.toList == []) = true := by rw [emp_size, decide_eq_true hr0]
   have HV := Lib.hid (show rvalE S x = .slice none 0 0 by unfold rvalE; rw [if_pos hr0])
   clear hr0 hs
   go_enter Tryz.func149, Tryz.ntmps149
   go_wp2_with fail
   go_ret
   exact ⟨by rw [HV.out]; rfl, (Below.refl _ _).alloc (Nat.le_refl _) _⟩
 · have hem : (x.ru.toList == []) = false := by rw [emp_size, decide_eq_false hr0]
   have HV := Lib.hid (show rvalE S x = ofVal S x.ru by unfold rvalE; rw [if_neg hr0])
   unfold eraC at hb0
   have HB := Lib.hid hb0
   clear hr0 hs hb0
   go_enter Tryz.func149, Tryz.ntmps149
   go_wp2_with fail
   refine (HO.out _ HB.out).mono ?_
   rintro o w1 ⟨rfl, hb⟩
   have HB1 := Lib.hid (HB.out.trans (hb.mono HB.out.size))
   clear hb
   go_wp2_with fail
   go_ret
   exact ⟨by rw [HV.out]; rfl, HB1.out⟩
end
section -- GRows
open Go Go.RowKit Go.Shelf
structure RowF where
 v : Value
 D : List FrI
 letter : ByteArray
instance : Inhabited RowF := ⟨⟨.slice none 0 0, [], ⟨#[]⟩⟩⟩
def RowF.cells (r : RowF) : List Value := [r.v, .string r.letter]
theorem infoRow : (Tryz.prog.info? 121).map (fun i => (i.zero, i.size, i.bytes)) = some (some (.agg #[.slice none 0 0, .string ⟨#[]⟩]), 2, 40) := by kernel_rfl
theorem rule_right {S : List SetF} (h : ∀ s ∈ S, rightB s.l = true) (x : EraF) : rightB (ruleE S x) = true := by
 unfold ruleE
 split
 · exact right_nil
 · exact set_right h x.ru
structure RowOk (S : List SetF) (x : EraF) (r : RowF) : Prop where
 right : RightR (ruleE S x) (r.D.map FrI.f)
 letter : r.letter = letV (ruleE S x)
 len : r.D.length ≤ 100000
 bd : ∀ y ∈ r.D, (-1000000000000000 ≤ y.f.nominal ∧ y.f.nominal ≤ 1000000000000000) ∧ -1000000000000000 ≤ y.f.save ∧ y.f.save ≤ 1000000000000000
theorem rowOk_of {S : List SetF} (hS : ∀ s ∈ S, rightB s.l = true) {x : EraF} {r : RowF} (hst : Stab Fir.nominal (genL (ruleE S x) 1890 2110) (r.D.map FrI.f)) (hl : r.letter = letV (ruleE S x)) : RowOk S x r := by
 obtain ⟨A, hA, hs, -⟩ := right_yes (rule_right hS x)
 have e := hst.unique hs
 obtain ⟨h1, h2⟩ := D_ok (rule_right hS x) hst
 exact ⟨by rw [e]; exact hA, hl, h1, h2⟩
theorem rowOk_nil {S : List SetF} (hS : ∀ s ∈ S, rightB s.l = true) {x : EraF} (h0 : x.ru.size = 0) : RowOk S x ⟨.slice none 0 0, [], ⟨#[]⟩⟩ := by
 have e : ruleE S x = [] := by unfold ruleE; rw [if_pos h0]
 refine rowOk_of hS ?_ ?_
 · rw [e]; exact Stab.nil
 · rw [e]; rfl
theorem own_ne {W : World} {X : Nat} {t e : TypeId} {cs : Array Value} {base sz n : Nat} {u : Value} {xs : List Value} (hx : Blk W X t cs) (ho : W.ownsRow base e sz u n xs) (hte : t ≠ e) : u.ownBlock ≠ some X := fun h => by
 rcases ho.2 with ⟨rfl, _⟩ | ⟨g, cap, cur, rfl, hb, hg, -⟩
 · cases h
 · have h1 : g = X := by injection h
   subst h1
   unfold Blk at hx
   rw [hx] at hg
   injection hg with hg
   injection hg with _ hg
   exact hte hg
theorem frisN_grown {W W' : World} {v u : Value} {D : List FrI} {base sz n : Nat} {xs : List Value} (h : FrisN W v D) (ho : W.ownsRow base 121 sz u n xs) (hg : W.grownBy W' u.ownBlock) : FrisN W' v D := by
 have hne : ∀ (b : Nat) (cs : Array Value) (fr : Nat × Nat), W.heap[b]? = some (Obj.cells cs 129 fr) → W'.heap[b]? = W.heap[b]? := fun b cs fr hb => by
   refine hg.block b (Array.getElem?_eq_some_iff.1 hb).1 fun e => ?_
   rcases ho.2 with ⟨rfl, _⟩ | ⟨g, cap, cur, rfl, hb2, hg2, -⟩
   · cases e
   · have h1 : b = g := by injection e
     subst h1
     rw [hb] at hg2
     injection hg2 with hg2
     injection hg2 with _ hg2
     revert hg2
     decide
 obtain ⟨⟨A, c, rfl, h1, h2, hl, hc⟩, hty⟩ := h
 refine ⟨⟨A, c, rfl, h1, h2, hl, fun hn => ?_⟩, hty.kept hne⟩
 obtain ⟨b, o, rfl, hb, hcc⟩ := hc hn
 obtain ⟨cs, fr, hbt⟩ := hty b o _ _ rfl
 exact ⟨b, o, rfl, Nat.lt_of_lt_of_le hb hg.size, fun j y hy => (World.cell?_of_block (hne b cs fr hbt)).trans (hcc j y hy)⟩
def RowsM (W : World) (u : Value) (R : List RowF) : Prop := Sl W W.heap.size 2 u R.length (R.flatMap RowF.cells) ∧ ∀ r ∈ R, FrisN W r.v r.D
theorem RowsM.below {W W' : World} {u : Value} {R : List RowF} (h : RowsM W u R) (hb : Below W.heap.size W W') : RowsM W' u R := ⟨Sl.more (Sl.below h.1 hb) hb.size, fun r hr => (h.2 r hr).below hb⟩
theorem RowsM.form {W : World} {u : Value} {R : List RowF} (h : RowsM W u R) : ∃ A c, u = .slice A R.length c ∧ R.length ≤ c ∧ c ≤ maxLen := by obtain ⟨A, c, e, h1, h2, _⟩ := h.1; exact ⟨A, c, e, h1, h2⟩
theorem RowsM.cells {W : World} {u : Value} {R : List RowF} (h : RowsM W u R) (hl : 0 < R.length) : ∃ b o c, u = .slice (some ⟨b, o, none⟩) R.length c ∧ b < W.heap.size ∧ ∀ i (hi : i < R.length), W.cell? ⟨b, o + i * 2, none⟩ = some R[i].v ∧ W.cell? ⟨b, o + i * 2 + 1, none⟩ = some (.string R[i].letter) := by
 obtain ⟨b, o, c, e, hb, hc⟩ := Sl.at_ h.1 hl
 refine ⟨b, o, c, e, hb, fun i hi => ?_⟩
 have hk : ∀ k u, k < 2 → (RowF.cells R[i])[k]? = some u → W.cell? ⟨b, o + i * 2 + k, none⟩ = some u := fun k u hk hu => by
   rw [Nat.add_assoc]
   exact hc _ u (by rw [flat_at RowF.cells 2 R (fun a _ => rfl) i k hi hk]; exact hu)
 exact ⟨hk 0 _ (by omega) rfl, hk 1 _ (by omega) rfl⟩
def RowsPost (w : World) (S : List SetF) (l : List EraF) (o : Ending) (w' : World) : Prop :=
 (∃ u R, o = .returned u ∧ R.length = l.length ∧ (∀ i (h : i < R.length) (h2 : i < l.length), RowOk S l[i] R[i]) ∧ RowsM w' u R) ∧ Below w.heap.size w w'
theorem rows_any (zn : ByteArray) (ev sv : Value) (B : Nat) (l : List EraF) (S : List SetF) (w : World) (hz : ZW w B ev sv l S) (hS : ∀ s ∈ S, rightB s.l = true) (hl : l.length ≤ 1000000) :
   Calls Tryz.prog 62 #[worldA zn ev sv] w (RowsPost w S l) := by
 obtain ⟨A, cA, rfl, hlc, hcm⟩ := hz.eras.form
 obtain ⟨A2, cS, rfl, -, -⟩ := hz.sets.form
 unfold maxLen at hcm
 have hb0 : Below w.heap.size w (w.alloc (.cells #[.string zn, .slice A l.length cA, .slice A2 S.length cS] 27)) := (Below.refl w.heap.size w).alloc (Nat.le_refl _) _
 have HX := Lib.hid (Blk.new w 27 #[.string zn, .slice A l.length cA, .slice A2 S.length cS])
 have HB := Lib.hid hb0
 have HZ0 := Lib.hid hz
 have HS := Lib.hid hS
 obtain ⟨i0, hi0, hz0, hz1, hz2⟩ := info_parts infoRow
 clear hz hb0 hS
 unfold worldA
 go_enter Tryz.func62, Tryz.ntmps62
 go_wp2_with fail
 obtain ⟨W0, hW0⟩ : ∃ W, w.alloc (.cells #[.string zn, .slice A l.length cA, .slice A2 S.length cS] 27) = W := ⟨_, rfl⟩
 rw [hW0] at HX HB
 try simp only [hW0]
 clear hW0
 go_loopw [3, 4] (fun u iv wr => ∃ R : List RowF, R.length ≤ l.length ∧ iv = .int .i64 R.length ∧ wr.ownsRow w.heap.size 121 2 u R.length (R.flatMap RowF.cells) ∧ (∀ r ∈ R, FrisN wr r.v r.D) ∧ (∀ i (h : i < R.length) (h2 : i < l.length), RowOk S l[i] R[i]) ∧ Blk wr w.heap.size 27 #[.string zn, .slice A l.length cA, .slice A2 S.length cS] ∧ Below w.heap.size w wr) (fun _ iv _ => l.length - (intOf iv).toNat)
 case atStart => exact ⟨[], Nat.zero_le _, rfl, World.ownsRow_nil _ _ _ _, fun _ h => absurd h List.not_mem_nil, fun i h => absurd h (Nat.not_lt_zero i), HX.out, HB.out⟩
 case round =>
   obtain ⟨R, hR, rfl, hown, hfs, hro, hxb, hbw⟩ := hrel
   have HOW := Lib.hid hown
   have HFS := Lib.hid hfs
   have HRO := Lib.hid hro
   have HXW := Lib.hid hxb
   have HBW := Lib.hid hbw
   have HZW := Lib.hid (HZ0.out.below hbw)
   obtain ⟨A5, c5, hu⟩ := (Sl.of_own hown).form
   subst hu
   have hws := hbw.size
   have hxl := HXW.out.lt
   have x0 := HXW.out.cell 0 (v := .string zn) rfl
   have x1 := HXW.out.cell 1 (v := .slice A l.length cA) rfl
   have x2 := HXW.out.cell 2 (v := .slice A2 S.length cS) rfl
   clear hown hfs hro hxb hbw
   by_cases hlt : R.length < l.length
   · have hd : decide ((R.length : Int) < (l.length : Int)) = true := decide_eq_true (by omega)
     obtain ⟨bb, o, c', e, hbb, hc⟩ := HZW.out.eras.cells (by omega)
     cases e
     have hx := hc _ hlt
     have hbbl : bb < wr.heap.size := by have := HZW.out.le; omega
     obtain ⟨x, hxk⟩ : ∃ x, l[R.length] = x := ⟨_, rfl⟩
     rw [hxk] at hx
     have HXK := Lib.hid hxk
     obtain ⟨c0, c1, c2, c3, c4, c5, c6, c7, c8, c9, c10, c11⟩ := hx
     have HBI2 := Lib.hid ((Below.refl wr.heap.size wr).alloc (Nat.le_refl _) (.cells #[.slice none 0 0, .string ⟨#[]⟩] 121))
     have HR2 := Lib.hid (Blk.new wr 121 #[.slice none 0 0, .string ⟨#[]⟩])
     have HRL := Lib.hid (show R.length ≤ 1000000 by omega)
     clear hc hxk c0 c2 c3 c4 c5 c6 c7 c8 c9 c10 c11
     by_cases hru : x.ru.size = 0
     · have hem : (x.ru.toList == []) = true := by rw [emp_size, decide_eq_true hru]
       have HROK := Lib.hid (rowOk_nil HS.out hru)
       obtain ⟨rr, hrr⟩ : ∃ r : RowF, (⟨.slice none 0 0, [], ⟨#[]⟩⟩ : RowF) = r := ⟨_, rfl⟩
       have HRR := Lib.hid (show FrisN (wr.alloc (.cells #[.slice none 0 0, .string ⟨#[]⟩] 121)) rr.v rr.D by rw [← hrr]; exact ⟨Sl.nil _ _ _, TyF.nil _ _ _⟩)
       have HRV := Lib.hid (show rr.v = .slice none 0 0 ∧ rr.letter = ⟨#[]⟩ by rw [← hrr]; exact ⟨rfl, rfl⟩)
       rw [hrr] at HROK
       have HBI5 := HBI2
       clear hru hrr
       have HOW5 := Lib.hid (ownsRow_below HOW.out HBI5.out)
       have HB5 := Lib.hid (HBW.out.trans (HBI5.out.mono HBW.out.size))
       have HX5 := Lib.hid (HXW.out.below HBI5.out HXW.out.lt)
       have hsz5 := HB5.out.size
       go_wp2_with (at_builtin; go_loud (refine wpList_append_own _ rfl _ _ 57 rfl w.heap.size 121 i0 (.agg #[.slice none 0 0, .string ⟨#[]⟩]) 2 40 Tryz.underlying57 hi0 hz0 hz1 hz2 rfl (by decide) _ R.length _ rfl (HOW5.out.alloc _) ⟨wr.heap.size + 1, 0, none⟩ 1 1 [.slice none 0 0, .string ⟨#[]⟩] rfl rfl (fun j y hy => by rw [Addr.add_lit, Nat.zero_add]; first | exact (cell_new2 _ _ _ _ _ j).trans (by simpa using hy) | exact (cell_new _ _ _ _ j).trans (by simpa using hy)) (by simp [Value.oneCell']) (by unfold maxLen; omega) (by omega) (by simp; omega) ?_); intro v' w1 hown' hgrow _)
       go_roundw
       case rel =>
         refine ⟨R ++ [rr], ?_, by rw [List.length_append]; go_num, ?_, ?_, ?_, ?_, below_push HB5.out HOW5.out hgrow⟩
         · rw [List.length_append]; exact hlt
         · rw [List.length_append, List.flatMap_append]
           simpa [RowF.cells, HRV.out] using hown'
         · intro r hr
           have ho := HOW5.out.alloc (.cells #[.slice none 0 0, .string ⟨#[]⟩] 121)
           have hab : Below (wr.alloc (.cells #[.slice none 0 0, .string ⟨#[]⟩] 121)).heap.size (wr.alloc (.cells #[.slice none 0 0, .string ⟨#[]⟩] 121)) ((wr.alloc (.cells #[.slice none 0 0, .string ⟨#[]⟩] 121)).alloc (.cells #[.slice none 0 0, .string ⟨#[]⟩] 121)) := (Below.refl _ _).alloc (Nat.le_refl _) _
           rcases List.mem_append.1 hr with hr | hr
           · exact frisN_grown (((HFS.out r hr).below HBI5.out).below hab) ho hgrow
           · obtain rfl : r = rr := by simpa using hr
             exact frisN_grown (HRR.out.below hab) ho hgrow
         · intro i h h2
           rcases Nat.lt_or_ge i R.length with g | g
           · rw [List.getElem_append_left g]; exact HRO.out i g h2
           · have : i = R.length := by rw [List.length_append] at h; simp at h; omega
             subst this
             rw [List.getElem_append_right (Nat.le_refl _)]
             simp only [Nat.sub_self, List.getElem_cons_zero]
             rw [HXK.out]; exact HROK.out
         · exact (HX5.out.alloc (.cells #[.slice none 0 0, .string ⟨#[]⟩] 121)).grown hgrow (own_ne (HX5.out.alloc (.cells #[.slice none 0 0, .string ⟨#[]⟩] 121)) (HOW5.out.alloc (.cells #[.slice none 0 0, .string ⟨#[]⟩] 121)) (by decide))
       case measure => first | (simp [intOf]; done) | (simp [intOf]; omega)
     · have hem : (x.ru.toList == []) = false := by rw [emp_size, decide_eq_false hru]
       have HRE := Lib.hid (show ruleE S x = ofRul S x.ru by unfold ruleE; rw [if_neg hru])
       clear hru
       go_wp2_with fail
       obtain ⟨W5, hW5⟩ : ∃ W, wr.alloc (.cells #[.slice none 0 0, .string ⟨#[]⟩] 121) = W := ⟨_, rfl⟩
       rw [hW5] at HBI2 HR2
       try simp only [hW5]
       clear hW5
       have HZ5 := Lib.hid (HZW.out.below (below_drewN HBI2.out 1))
       have HX5_ := Lib.hid (HXW.out.below HBI2.out HXW.out.lt)
       have hx5l := HX5_.out.lt
       have x0 := HX5_.out.cell 0 (v := .string zn) rfl
       have x1 := HX5_.out.cell 1 (v := .slice (some ⟨bb, o, none⟩) l.length cA) rfl
       have x2 := HX5_.out.cell 2 (v := .slice A2 S.length cS) rfl
       have c1 := (HBI2.out.cell (p := ⟨bb, o + R.length * 12 + 1, none⟩) (by show bb < _; have := HZW.out.le; omega)).trans c1
       have HOF := Lib.hid (wof_any _ zn (.slice (some ⟨bb, o, none⟩) l.length cA) (.slice A2 S.length cS) B S HZ5.out.sets HZ5.out.le x.ru)
       obtain ⟨A3, c3', e3⟩ := ofVal_form HZ5.out.sets x.ru
       have HRU := Lib.hid (HZ5.out.sets.of_ruls x.ru)
       rw [e3] at HOF HRU
       unfold worldA at HOF
       refine wp_text (by kernel_rfl) (by kernel_rfl) ?_
       intro K hK
       go_wp2_with fail
       refine HOF.out.mono ?_
       rintro e w6 ⟨rfl, hb⟩
       have HB6 := Lib.hid ((below_drewN (Below.refl W5.heap.size W5) 1).trans hb)
       have HR6 := Lib.hid (HRU.out.below (hb.mono HZ5.out.le))
       have hs6 := HB6.out.size
       clear hb x0 x1 x2 c1 HOF HZ5 HRU
       go_wp2_with fail
       refine (rof_any w6 B _ (ofRul S x.ru) HR6.out (by have := HZW.out.le; have := HBI2.out.size; omega) (right_small (set_right HS.out x.ru))).mono ?_
       rintro e w7 ⟨u, D, rfl, hst, hfr, hb⟩
       have HB7 := Lib.hid (HB6.out.trans (hb.mono hs6))
       have hr7 := (HR2.out.below HB6.out HR2.out.lt).below hb (Nat.lt_of_lt_of_le HR2.out.lt hs6)
       have HR7 := Lib.hid hr7
       have HFR := Lib.hid hfr
       have hr7l := hr7.lt
       have r0 := hr7.cell 0 (v := .slice none 0 0) rfl
       have r1 := hr7.cell 1 (v := .string ⟨#[]⟩) rfl
       have f0 := hr7.frozen 0
       have f1 := hr7.frozen 1
       have HROK := Lib.hid (show RowOk S x ⟨u, D, letV (ofRul S x.ru)⟩ from rowOk_of HS.out (by rw [HRE.out]; exact hst) (by rw [HRE.out]))
       obtain ⟨A6, c6', rfl, -, -⟩ := hfr.1.form
       clear hb hr7 hst hfr
       go_wp2_with fail
       refine ⟨by simp [goodB, fits, plainPair, isSeqV, quiet, Act.eval], ?_⟩
       obtain ⟨rr, hrr⟩ : ∃ r : RowF, (⟨.slice A6 D.length c6', D, letV (ofRul S x.ru)⟩ : RowF) = r := ⟨_, rfl⟩
       have hf8 := (Fr.setCell (T := fun k => k = wr.heap.size) w7 0 (.slice A6 D.length c6') rfl).then (Fr.setCell (b := wr.heap.size) _ 1 (.string (letV (ofRul S x.ru))) rfl)
       have hn8 : FrisN ((w7.setCell ⟨wr.heap.size, 0, none⟩ (.slice A6 D.length c6')).setCell ⟨wr.heap.size, 1, none⟩ (.string (letV (ofRul S x.ru)))) (.slice A6 D.length c6') D :=
         ⟨fris_other HFR.out.1 HR7.out rfl rfl hf8 (by simp), HFR.out.2.kept fun b cs fr h1 => hf8.block b (Array.getElem?_eq_some_iff.1 h1).1 (fun e => by have h2 := HR7.out; subst e; unfold Blk at h2; rw [h1] at h2; injection h2 with h2; injection h2 with _ h2; revert h2; decide)⟩
       have hb8 : Below wr.heap.size wr ((w7.setCell ⟨wr.heap.size, 0, none⟩ (.slice A6 D.length c6')).setCell ⟨wr.heap.size, 1, none⟩ (.string (letV (ofRul S x.ru)))) := ((HBI2.out.trans (HB7.out.mono HBI2.out.size)).setCell (Nat.le_refl _) _).setCell (Nat.le_refl _) _
       have hr8 := (HR7.out.set 0 (.slice A6 D.length c6')).set 1 (.string (letV (ofRul S x.ru)))
       obtain ⟨w8, hw8⟩ : ∃ W, (w7.setCell ⟨wr.heap.size, 0, none⟩ (.slice A6 D.length c6')).setCell ⟨wr.heap.size, 1, none⟩ (.string (letV (ofRul S x.ru))) = W := ⟨_, rfl⟩
       rw [hw8] at hn8 hb8 hr8 ⊢
       have HRR := Lib.hid (show FrisN w8 rr.v rr.D by rw [← hrr]; exact hn8)
       have HRV := Lib.hid (show rr.v = .slice A6 D.length c6' ∧ rr.letter = letV (ofRul S x.ru) by rw [← hrr]; exact ⟨rfl, rfl⟩)
       rw [hrr] at HROK
       have HBI5 := Lib.hid hb8
       have r0 := hr8.cell 0 (v := .slice A6 D.length c6') rfl
       have r1 := hr8.cell 1 (v := .string (letV (ofRul S x.ru))) rfl
       have hr8l := hr8.lt
       clear hrr hf8 hn8 hb8 hr8 hw8 f0 f1 hr7l
       have HOW5 := Lib.hid (ownsRow_below HOW.out HBI5.out)
       have HB5 := Lib.hid (HBW.out.trans (HBI5.out.mono HBW.out.size))
       have HX5 := Lib.hid (HXW.out.below HBI5.out HXW.out.lt)
       have hsz5 := HB5.out.size
       go_wp2_with (at_builtin; go_loud (refine wpList_append_own _ rfl _ _ 57 rfl w.heap.size 121 i0 (.agg #[.slice none 0 0, .string ⟨#[]⟩]) 2 40 Tryz.underlying57 hi0 hz0 hz1 hz2 rfl (by decide) _ R.length _ rfl (HOW5.out.alloc _) ⟨w8.heap.size, 0, none⟩ 1 1 [.slice A6 D.length c6', .string (letV (ofRul S x.ru))] rfl rfl (fun j y hy => by rw [Addr.add_lit, Nat.zero_add]; first | exact (cell_new2 _ _ _ _ _ j).trans (by simpa using hy) | exact (cell_new _ _ _ _ j).trans (by simpa using hy)) (by simp [Value.oneCell']) (by unfold maxLen; omega) (by omega) (by simp; omega) ?_); intro v' w1 hown' hgrow _)
       go_roundw
       case rel =>
         refine ⟨R ++ [rr], ?_, by rw [List.length_append]; go_num, ?_, ?_, ?_, ?_, below_push HB5.out HOW5.out hgrow⟩
         · rw [List.length_append]; exact hlt
         · rw [List.length_append, List.flatMap_append]
           simpa [RowF.cells, HRV.out] using hown'
         · intro r hr
           have ho := HOW5.out.alloc (.cells #[.slice A6 D.length c6', .string (letV (ofRul S x.ru))] 121)
           have hab : Below (w8).heap.size (w8) ((w8).alloc (.cells #[.slice A6 D.length c6', .string (letV (ofRul S x.ru))] 121)) := (Below.refl _ _).alloc (Nat.le_refl _) _
           rcases List.mem_append.1 hr with hr | hr
           · exact frisN_grown (((HFS.out r hr).below HBI5.out).below hab) ho hgrow
           · obtain rfl : r = rr := by simpa using hr
             exact frisN_grown (HRR.out.below hab) ho hgrow
         · intro i h h2
           rcases Nat.lt_or_ge i R.length with g | g
           · rw [List.getElem_append_left g]; exact HRO.out i g h2
           · have : i = R.length := by rw [List.length_append] at h; simp at h; omega
             subst this
             rw [List.getElem_append_right (Nat.le_refl _)]
             simp only [Nat.sub_self, List.getElem_cons_zero]
             rw [HXK.out]; exact HROK.out
         · exact (HX5.out.alloc (.cells #[.slice A6 D.length c6', .string (letV (ofRul S x.ru))] 121)).grown hgrow (own_ne (HX5.out.alloc (.cells #[.slice A6 D.length c6', .string (letV (ofRul S x.ru))] 121)) (HOW5.out.alloc (.cells #[.slice A6 D.length c6', .string (letV (ofRul S x.ru))] 121)) (by decide))
       case measure => first | (simp [intOf]; done) | (simp [intOf]; omega)
   · obtain he : R.length = l.length := by omega
     have hd : decide ((R.length : Int) < (l.length : Int)) = false := decide_eq_false (by omega)
     have HLE := Lib.hid he
     clear he
     go_wp2_with fail
     go_ret
     exact ⟨⟨_, R, rfl, HLE.out, HRO.out, Sl.of_own HOW.out, HFS.out⟩, HBW.out⟩
end
section -- ANear
open Go Go.RowKit Go.Shelf
def nearB (i : Int) : Bool := decide (-2366841600 < i ∧ i < 3944678400)
theorem nearB_iff {i : Int} : nearB i = true ↔ -2366841600 < i ∧ i < 3944678400 := by unfold nearB; exact decide_eq_true_iff
theorem near_any (i : Int) (w : World) : Calls Tryz.prog 32 #[.int .i64 i] w fun o w' => o = .returned (.bool (nearB i)) ∧ w' = w := by
 by_cases h1 : -2366841600 < i
 · have d1 : decide (-2366841600 < i) = true := decide_eq_true h1
   by_cases h2 : i < 3944678400
   · have HV := Lib.hid (show nearB i = true by unfold nearB; rw [decide_eq_true_eq]; omega)
     have d2 : decide (i < 3944678400) = true := decide_eq_true h2
     go_enter Tryz.func32, Tryz.ntmps32
     go_wp2_with fail
     go_ret
     exact ⟨by rw [HV.out]; rfl, rfl⟩
   · have HV := Lib.hid (show nearB i = false by unfold nearB; rw [decide_eq_false_iff_not]; omega)
     have d2 : decide (i < 3944678400) = false := decide_eq_false h2
     go_enter Tryz.func32, Tryz.ntmps32
     go_wp2_with fail
     go_ret
     exact ⟨by rw [HV.out]; rfl, rfl⟩
 · have HV := Lib.hid (show nearB i = false by unfold nearB; rw [decide_eq_false_iff_not]; omega)
   have d1 : decide (-2366841600 < i) = false := decide_eq_false h1
   go_enter Tryz.func32, Tryz.ntmps32
   go_wp2_with fail
   go_ret
   exact ⟨by rw [HV.out]; rfl, rfl⟩
end
section -- GShowM
open Go Go.RowKit Go.Shelf
theorem showV_err {f : ByteArray} {off : Int} {dst : Bool} {letter : ByteArray} (h : (kindR f.data.toList).2 = 0) : (showV f off dst letter).2 = 0 ∨ showV f off dst letter = (⟨#[]⟩, 10) := by
 unfold showV
 rw [if_pos h]
 split
 · exact .inl rfl
 · split
   · split
     · exact .inl rfl
     · exact .inr rfl
   · split
     · exact .inl rfl
     · exact .inl rfl
end
section -- HChangeM
open Go Go.RowKit Go.Shelf
def errOf : Value → Int
 | .tuple ⟨[_, .int _ e]⟩ => e
 | _ => 0
def locZ (S : List SetF) (l : List EraF) (i : Int) : Loc := if errZ S l ≠ 0 then .zero else if i < -2199023255552 ∨ 2199023255552 < i then .zero else locW (atX S l i) (ruleE S (atX S l i)) i
def errI (S : List SetF) (l : List EraF) (i : Int) : Int := errOf (atZ S l i)
theorem atZ_loc (S : List SetF) (l : List EraF) (i : Int) : atZ S l i = .tuple #[locA (locZ S l i), .int .i64 (errI S l i)] := by
 unfold errI locZ atZ
 split
 · rfl
 · split
   · rfl
   · obtain ⟨err, he⟩ := zwithinV_loc (atX S l i) (ruleE S (atX S l i)) i
     rw [he]
     rfl
def dropF : Loc → List Chg → List Chg
 | _, [] => []
 | now, c :: t => bif locE c.loc now then dropF now t else c :: dropF c.loc t
def changesL (S : List SetF) (l : List EraF) (fr to : Int) : List Chg :=
 if errI S l (max fr (-2199023255552)) = 0 then dropF (locZ S l (max fr (-2199023255552))) (stepsL S l (max fr (-2199023255552)) to) else []
theorem dropF_same {now : Loc} {c : Chg} {t : List Chg} (h : locE c.loc now = true) : dropF now (c :: t) = dropF now t := by
 show (bif locE c.loc now then _ else _) = _
 rw [h, cond_true]
theorem dropF_turn {now : Loc} {c : Chg} {t : List Chg} (h : locE c.loc now = false) : dropF now (c :: t) = c :: dropF c.loc t := by
 show (bif locE c.loc now then _ else _) = _
 rw [h, cond_false]
theorem zfirst_any (zn : ByteArray) (ev sv : Value) (B : Nat) (l : List EraF) (S : List SetF) (i : Int) (w : World) (hz : ZW w B ev sv l S) (ho : ZOk l S) (hlt : ∀ s ∈ S, letOk s.l) :
   Calls Tryz.prog 78 #[zoneA zn ev, setsV zn ev sv, .int .i64 i] w fun o w' => o = .returned (.tuple #[chgA ⟨i, locZ S l i⟩, .int .i64 (errI S l i)]) ∧ Below w.heap.size w w' := by
 obtain ⟨Ae, ce, rfl, -, -⟩ := hz.eras.form
 have hb0 : Below w.heap.size w ((w.alloc (.cells #[.string zn, .slice Ae l.length ce] 24)).alloc (.cells #[.int .i64 0, .int .i64 0, .bool false, .string ⟨#[]⟩] 76)) := ((Below.refl _ _).alloc (Nat.le_refl _) _).alloc (by simp) _
 have hr0 := Blk.new (w.alloc (.cells #[.string zn, .slice Ae l.length ce] 24)) 76 #[.int .i64 0, .int .i64 0, .bool false, .string ⟨#[]⟩]
 rw [World.size_alloc] at hr0
 have HC := Lib.hid (zat_any zn (.slice Ae l.length ce) sv B l S i _ (hz.below hb0) ho hlt)
 rw [atZ_loc] at HC
 obtain ⟨er, her⟩ : ∃ e, errI S l i = e := ⟨_, rfl⟩
 obtain ⟨⟨yo, yd, ys⟩, hy⟩ : ∃ y, locZ S l i = y := ⟨_, rfl⟩
 rw [hy, her] at HC ⊢
 unfold locA zoneA at HC
 unfold chgA zoneA
 obtain ⟨sz, hsz⟩ : ∃ v, setsV zn (.slice Ae l.length ce) sv = v := ⟨_, rfl⟩
 rw [hsz] at HC ⊢
 have HR0 := Lib.hid hr0
 have HB0 := Lib.hid hb0
 clear hz ho hlt hy her hsz hb0 hr0
 go_enter Tryz.func78, Tryz.ntmps78
 go_wp2_with fail
 refine HC.out.mono ?_
 rintro o w1 ⟨rfl, hb⟩
 have hr1 := HR0.out.below hb HR0.out.lt
 have hb1 := HB0.out.trans (hb.mono HB0.out.size)
 have hl1 := hr1.lt
 have r0 := hr1.cell 0 (v := .int .i64 0) rfl
 have r1 := hr1.cell 1 (v := .int .i64 0) rfl
 have r2 := hr1.cell 2 (v := .bool false) rfl
 have r3 := hr1.cell 3 (v := .string ⟨#[]⟩) rfl
 have f0 := hr1.frozen 0
 have f1 := hr1.frozen 1
 have f2 := hr1.frozen 2
 have f3 := hr1.frozen 3
 have HR := Lib.hid hr1
 have HB := Lib.hid hb1
 clear hb hr1 hb1 HC
 go_wp2_with fail
 have HW := ((((HR.out.set 0 (.int .i64 i)).set 1 (.int .i64 yo)).set 2 (.bool yd)).set 3 (.string ys)).alloc (.cells #[.int .i64 yo, .bool yd, .string ys] 48)
 refine bodyPost_ret (v := .tuple #[.agg #[.int .i64 i, .int .i64 yo, .bool yd, .string ys], .int .i64 er]) ?_ rfl ⟨rfl, (below_set4 HB.out (Nat.le_add_right _ _) _ _ _ _).alloc (by have := HB.out.size; simpa using this) _⟩
 have c0 := HW.cell 0 (v := .int .i64 i) rfl
 have c1 := HW.cell 1 (v := .int .i64 yo) rfl
 have c2 := HW.cell 2 (v := .bool yd) rfl
 have c3 := HW.cell 3 (v := .string ys) rfl
 simp [results, Tryz.f78, go_sem, c0, c1, c2, c3]
end
section -- HErr
open Go Go.RowKit Go.Shelf
theorem ruleE_right {S : List SetF} (h : ∀ s ∈ S, rightB s.l = true) {x : EraF} (hx : x.ru.size ≠ 0) : rightB (ruleE S x) = true := by
 unfold ruleE
 rw [if_neg hx]
 exact set_right h _
theorem saves_small {S : List SetF} (h : ∀ s ∈ S, rightB s.l = true) {x : EraF} (hs : -90000 < x.n.save ∧ x.n.save < 90000) (i : Int) : -90000 < (savesV x.n x.ru (ruleE S x) i).1 ∧ (savesV x.n x.ru (ruleE S x) i).1 < 90000 := by
 unfold savesV
 split
 · exact hs
 · rename_i hx
   split
   · rename_i f hf
     obtain ⟨A, hA, -, -⟩ := right_yes (ruleE_right h hx)
     have := hA.save_all (latestF_mem hf)
     show -90000 < f.save ∧ f.save < 90000
     omega
   · show (-90000 : Int) < 0 ∧ (0 : Int) < 90000
     omega
theorem errI_few {S : List SetF} {l : List EraF} (h : errZ S l = 0) (hs : ∀ s ∈ S, rightB s.l = true) {i : Int} (h1 : -2199023255552 ≤ i) (h2 : i ≤ 2199023255552) : errI S l i = 0 := by
 obtain ⟨h0, -, hat, -⟩ := errZ_zero h
 have hk := eraI_le (endL S l) i
 rw [length_endL] at hk
 have hkl : eraI (endL S l) i < l.length := by omega
 have hax : atX S l i = l[eraI (endL S l) i] := by unfold atX; rw [List.getD_eq_getElem?_getD, List.getElem?_eq_getElem hkl]; rfl
 have her := hat _ hkl
 rw [errAt_eq hkl] at her
 obtain ⟨hkn, hof, hsv, -⟩ := errE_zero her
 have hsm := saves_small hs hsv i
 unfold errI atZ
 rw [if_neg (fun e => e h), if_neg (by omega), hax]
 unfold zwithinV
 rcases showV_err (off := l[eraI (endL S l) i].n.off + (savesV l[eraI (endL S l) i].n l[eraI (endL S l) i].ru (ruleE S l[eraI (endL S l) i]) i).1) (dst := dstB (savesV l[eraI (endL S l) i].n l[eraI (endL S l) i].ru (ruleE S l[eraI (endL S l) i]) i).1) (letter := (savesV l[eraI (endL S l) i].n l[eraI (endL S l) i].ru (ruleE S l[eraI (endL S l) i]) i).2) hkn with h3 | h3
 · rw [h3]
   rfl
 · exfalso
   unfold showV at h3
   rw [if_pos hkn] at h3
   split at h3
   · have h4 : (0 : Int) = 10 := congrArg Prod.snd h3
     omega
   · split at h3
     · rw [if_pos (by omega)] at h3
       have h4 : (0 : Int) = 10 := congrArg Prod.snd h3
       omega
     · split at h3
       · split at h3
         · have h4 : (0 : Int) = 10 := congrArg Prod.snd h3
           omega
         · have h4 : (0 : Int) = 10 := congrArg Prod.snd h3
           omega
       · have h4 : (0 : Int) = 10 := congrArg Prod.snd h3
         omega
theorem endL_few {S : List SetF} {l : List EraF} (h : errZ S l = 0) (hs : ∀ s ∈ S, rightB s.l = true) : ∀ e ∈ endL S l, -9000000000000000000 ≤ e ∧ e ≤ 9000000000000000000 := by
 intro e he
 obtain ⟨i, hi, rfl⟩ := List.getElem_of_mem he
 have hil := hi
 rw [length_endL] at hil
 obtain ⟨h0, -, hat, -⟩ := errZ_zero h
 have hE := endL_at (S := S) (l := l) (i := i) (by omega)
 rw [List.getElem?_eq_getElem hi] at hE
 have hE := Option.some.inj hE
 have her := hat i (by omega)
 rw [errAt_eq (by omega), decide_eq_false (by omega)] at her
 obtain ⟨-, hof, hsv, hen, -, hno⟩ := errE_zero her
 have hn := nomV_in (hno hen)
 rw [hE]
 unfold endN
 split
 · omega
 · split
   · omega
   · split
     · omega
     · rename_i hx
       have := endSave_in (right_sv (ruleE_right hs hx)) l[i].n.off (nomV l[i].n)
       omega
theorem dropF_len : ∀ {L : List Chg} {now : Loc}, (dropF now L).length ≤ L.length
 | [], _ => Nat.le_refl _
 | c :: t, now => by
   cases h : locE c.loc now with
   | true =>
     rw [dropF_same h]
     exact Nat.le_trans dropF_len (Nat.le_succ _)
   | false =>
     rw [dropF_turn h]
     exact Nat.succ_le_succ dropF_len
theorem turnsF_len {x : EraF} {R : List Rul} : ∀ {L : List (Int × Fir)} {now : Chg}, (turnsF x R now L).length ≤ L.length
 | [], _ => Nat.le_refl _
 | y :: t, now => by
   cases h : locE (locW x R y.1) now.loc with
   | true =>
     by_cases h2 : max now.at_ 64060588800 + 12680582400 < y.1
     · rw [turnsF_end h h2]
       exact Nat.zero_le _
     · rw [turnsF_same h h2]
       exact Nat.le_trans turnsF_len (Nat.le_succ _)
   | false =>
     rw [turnsF_turn h]
     exact Nat.succ_le_succ turnsF_len
theorem row_few {R : List Rul} {A : List Fir} (h : RightR R A) : A.length ≤ 10000000000 := by
 by_cases h0 : A.length = 0
 · omega
 · have hl : A.length - 1 < A.length := by omega
   have h3 := h.count (A.length - 1) hl
   obtain ⟨r, hr, y, y1, y2, hy, e⟩ := (h.mem _).1 (List.getElem_mem hl)
   rw [e] at h3
   have g := (firOf_in hy).2
   have e1 := yearV_mono (show y + 1 ≤ 2111 by omega)
   have e2 : yearV 2111 = 51499 := by decide
   omega
theorem turnsL_len {x : EraF} {R : List Rul} {a b : Int} (hR : R = [] ∨ rightB R = true) (ho : -90000 < x.n.off ∧ x.n.off < 90000) (ha : -2199023255552 ≤ a) (hb : b ≤ 4000000000) : (turnsL x R a b).length ≤ 10000000000 := by
 rcases hR with rfl | hR
 · rw [turnsL_nil]
   exact Nat.zero_le _
 · unfold turnsL
   refine Nat.le_trans turnsF_len ?_
   by_cases hab : a ≤ b
   · obtain ⟨A, hA, -, -⟩ := right_yes hR
     rw [fired_row hA ho (by omega) hab (by unfold capN; omega)]
     unfold segA
     refine Nat.le_trans (List.length_filterMap_le _ _) ?_
     rw [List.length_range']
     exact row_few hA
   · have hn : firedF R x.n.off a b = [] := List.eq_nil_iff_forall_not_mem.2 fun y hy => by
       have := firedF_in hy
       omega
     rw [hn]
     exact Nat.zero_le _
theorem changesL_len {S : List SetF} {l : List EraF} {to : Int} (h : errZ S l = 0) (hs : ∀ s ∈ S, rightB s.l = true) (hl : l.length ≤ 4) (h2 : to ≤ 4000000000) : (changesL S l (-2199023255552) to).length ≤ 1000000000000 := by
 have key : ∀ k, k ≤ l.length → ((List.range k).flatMap (eraT S l (-2199023255552) to)).length ≤ k * 10000000001 := by
   intro k
   induction k with
   | zero => intro _; simp
   | succ k ih =>
     intro hk
     rw [stepsF_succ, List.length_append]
     have h1 := ih (by omega)
     have h3 : (eraT S l (-2199023255552) to k).length ≤ 10000000001 := by
       have hgx : l.getD k default = l[k] := by rw [List.getD_eq_getElem?_getD, List.getElem?_eq_getElem (show k < l.length by omega)]; rfl
       have hof := (errZ_off h (show k < l.length by omega)).1
       have hR : ruleE S l[k] = [] ∨ rightB (ruleE S l[k]) = true := by
         by_cases hx : l[k].ru.size = 0
         · left
           unfold ruleE
           rw [if_pos hx]
         · exact .inr (ruleE_right hs hx)
       unfold eraT
       rw [hgx]
       split
       · exact Nat.zero_le _
       · rw [List.length_append]
         have h5 := turnsL_len (x := l[k]) hR hof (a := max (-2199023255552) (fromV (endL S l) k)) (b := min to (toV (endL S l) k - 1)) (by omega) (by omega)
         split
         · simp only [List.length_singleton]
           omega
         · simp only [List.length_nil]
           omega
     omega
 have h4 := key l.length (Nat.le_refl _)
 unfold changesL
 split
 · refine Nat.le_trans dropF_len ?_
   rw [show max (-2199023255552 : Int) (-2199023255552) = -2199023255552 by omega]
   unfold stepsL
   omega
 · exact Nat.zero_le _
end
section -- HSpecM
open Go Go.RowKit Go.Shelf
def RiseC : List Chg → Prop := List.Pairwise fun c d => c.at_ < d.at_
structure Wk (g : Int → Loc) (a b : Int) (L : List Chg) : Prop where
 rise : RiseC L
 mem : ∀ c ∈ L, (a < c.at_ ∧ c.at_ ≤ b) ∧ c.loc = g c.at_
 all : ∀ i, a < i → i ≤ b → g i ≠ g (i - 1) → ∃ c ∈ L, c.at_ = i
structure Rep (g : Int → Loc) (a b : Int) (L : List Chg) : Prop where
 wk : Wk g a b L
 turn : ∀ c ∈ L, g c.at_ ≠ g (c.at_ - 1)
theorem wk_nil {g : Int → Loc} {a b : Int} (h : b ≤ a) : Wk g a b [] where
 rise := List.Pairwise.nil
 mem := fun c hc => by cases hc
 all := fun i h1 h2 _ => by omega
theorem Wk.append {g : Int → Loc} {a b c : Int} {L M : List Chg} (h : Wk g a b L) (h2 : Wk g (max a b) c M) (hbc : b ≤ c) : Wk g a c (L ++ M) where
 rise := List.pairwise_append.2 ⟨h.rise, h2.rise, fun x hx y hy => by
   have := (h.mem x hx).1
   have := (h2.mem y hy).1
   omega⟩
 mem := fun x hx => by
   rcases List.mem_append.1 hx with hx | hx
   · have := h.mem x hx
     exact ⟨⟨by omega, by omega⟩, this.2⟩
   · have := h2.mem x hx
     exact ⟨⟨by omega, by omega⟩, this.2⟩
 all := fun i h3 h4 ht => by
   by_cases hi : i ≤ b
   · obtain ⟨x, hx, e⟩ := h.all i h3 hi ht
     exact ⟨x, List.mem_append_left _ hx, e⟩
   · obtain ⟨x, hx, e⟩ := h2.all i (by omega) h4 ht
     exact ⟨x, List.mem_append_right _ hx, e⟩
theorem Wk.congr {g g' : Int → Loc} {a b : Int} {L : List Chg} (h : Wk g a b L) (hg : ∀ i, a ≤ i → i ≤ b → g i = g' i) : Wk g' a b L where
 rise := h.rise
 mem := fun c hc => by
   have := h.mem c hc
   exact ⟨this.1, by rw [this.2, hg _ (by omega) (by omega)]⟩
 all := fun i h1 h2 ht => h.all i h1 h2 (by rw [hg i (by omega) h2, hg (i - 1) (by omega) (by omega)]; exact ht)
theorem still_of {g : Int → Loc} {a b : Int} (h : ∀ i, a < i → i ≤ b → g i = g (i - 1)) : ∀ (n : Nat), a + n ≤ b → g (a + n) = g a
 | 0, _ => by rw [show a + ((0 : Nat) : Int) = a by omega]
 | n + 1, hn => by
   rw [h _ (by omega) hn, show a + ((n + 1 : Nat) : Int) - 1 = a + n by omega]
   exact still_of h n (by omega)
theorem Wk.head_still {g : Int → Loc} {a b : Int} {c : Chg} {t : List Chg} (h : Wk g a b (c :: t)) : g (c.at_ - 1) = g a := by
 have hc := (h.mem c List.mem_cons_self).1
 have h2 := still_of (g := g) (a := a) (b := c.at_ - 1) (fun i h1 h2 => Classical.byContradiction fun ht => by
   obtain ⟨d, hd, e⟩ := h.all i h1 (by omega) ht
   rcases List.mem_cons.1 hd with rfl | hd
   · omega
   · have := (List.pairwise_cons.1 h.rise).1 d hd
     omega) (c.at_ - 1 - a).toNat (by omega)
 rw [← h2]
 congr 1
 omega
theorem Wk.tail {g : Int → Loc} {a b : Int} {c : Chg} {t : List Chg} (h : Wk g a b (c :: t)) : Wk g c.at_ b t where
 rise := (List.pairwise_cons.1 h.rise).2
 mem := fun d hd => by
   have h1 := (List.pairwise_cons.1 h.rise).1 d hd
   have h2 := h.mem d (List.mem_cons_of_mem _ hd)
   exact ⟨⟨h1, h2.1.2⟩, h2.2⟩
 all := fun i h1 h2 ht => by
   have hc := (h.mem c List.mem_cons_self).1
   obtain ⟨d, hd, e⟩ := h.all i (by omega) h2 ht
   rcases List.mem_cons.1 hd with rfl | hd
   · omega
   · exact ⟨d, hd, e⟩
theorem dropF_rep {g : Int → Loc} {b : Int} : ∀ {L : List Chg} {a : Int}, Wk g a b L → Rep g a b (dropF (g a) L)
 | [], a, h => ⟨h, fun c hc => by cases hc⟩
 | c :: t, a, h => by
   have hst := h.head_still
   have hc := h.mem c List.mem_cons_self
   have ih := dropF_rep h.tail
   rw [← hc.2] at ih
   have hgap : ∀ i, a < i → i ≤ b → g i ≠ g (i - 1) → i = c.at_ ∨ c.at_ < i := fun i h1 h2 ht => by
     obtain ⟨d, hd, e⟩ := h.all i h1 h2 ht
     rcases List.mem_cons.1 hd with rfl | hd
     · exact .inl e.symm
     · have := (List.pairwise_cons.1 h.rise).1 d hd
       omega
   cases he : locE c.loc (g a) with
   | true =>
     have e := locE_iff.1 he
     rw [dropF_same he]
     rw [e] at ih
     refine ⟨⟨ih.wk.rise, fun d hd => ?_, fun i h1 h2 ht => ?_⟩, ih.turn⟩
     · have := ih.wk.mem d hd
       exact ⟨⟨by omega, this.1.2⟩, this.2⟩
     · rcases hgap i h1 h2 ht with rfl | h3
       · exact absurd (by rw [← hc.2, hst, e]) ht
       · exact ih.wk.all i h3 h2 ht
   | false =>
     have e : c.loc ≠ g a := fun e => by rw [locE_iff.2 e] at he; cases he
     rw [dropF_turn he]
     refine ⟨⟨List.pairwise_cons.2 ⟨fun d hd => (ih.wk.mem d hd).1.1, ih.wk.rise⟩, fun d hd => ?_, fun i h1 h2 ht => ?_⟩, fun d hd => ?_⟩
     · rcases List.mem_cons.1 hd with rfl | hd
       · exact hc
       · have := ih.wk.mem d hd
         exact ⟨⟨by omega, this.1.2⟩, this.2⟩
     · rcases hgap i h1 h2 ht with rfl | h3
       · exact ⟨c, List.mem_cons_self, rfl⟩
       · obtain ⟨d, hd, e2⟩ := ih.wk.all i h3 h2 ht
         exact ⟨d, List.mem_cons_of_mem _ hd, e2⟩
     · rcases List.mem_cons.1 hd with rfl | hd
       · rw [hst, ← hc.2]
         exact e
       · exact ih.turn d hd
theorem dropF_append : ∀ (L : List Chg) (now : Loc) (M : List Chg), ∃ now', dropF now (L ++ M) = dropF now L ++ dropF now' M
 | [], now, M => ⟨now, rfl⟩
 | c :: t, now, M => by
   rw [List.cons_append]
   cases h : locE c.loc now with
   | true =>
     rw [dropF_same h, dropF_same h]
     exact dropF_append t now M
   | false =>
     rw [dropF_turn h, dropF_turn h]
     obtain ⟨n', e⟩ := dropF_append t c.loc M
     exact ⟨n', by rw [e]; rfl⟩
theorem dropF_sub : ∀ {L : List Chg} {now : Loc} {c : Chg}, c ∈ dropF now L → c ∈ L
 | [], _, _, h => h
 | d :: t, now, c, h => by
   cases he : locE d.loc now with
   | true =>
     rw [dropF_same he] at h
     exact List.mem_cons_of_mem _ (dropF_sub h)
   | false =>
     rw [dropF_turn he] at h
     rcases List.mem_cons.1 h with rfl | h
     · exact List.mem_cons_self
     · exact List.mem_cons_of_mem _ (dropF_sub h)
end
section -- HSpecZ
open Go Go.RowKit Go.Shelf
theorem getD_atZ {E : List Int} {j : Nat} (hj : j < E.length) : E.getD j 0 = E[j] := by rw [List.getD_eq_getElem?_getD, List.getElem?_eq_getElem hj]; rfl
section
variable {l : List Rul} {A : List Fir}
theorem RightR.saved (h : RightR l A) (f : Fir) : -90000 < savedF l f ∧ savedF l f < 90000 := by
 unfold savedF
 cases hg : aheadF l f.nominal with
 | none => exact (by decide : (-90000 : Int) < 0 ∧ (0 : Int) < 90000)
 | some g => exact h.save_all (ahead_mem hg).1
theorem firedN_low (h : RightR l A) {off fr to : Int} (ho : -90000 < off ∧ off < 90000) : ∀ (n : Nat) (o : Option Fir) (s : Int), (∀ f, o = some f → s ≤ f.nominal) → ∀ y ∈ firedN l off fr to n o, s - 179998 ≤ y.1
 | 0, _, _, _, y, hy => by cases hy
 | _ + 1, none, _, _, y, hy => by cases hy
 | n + 1, some f, s, hs, y, hy => by
   have h1 := hs f rfl
   have h2 := instF_in (f := f) ho (h.saved f)
   have ih := firedN_low h (fr := fr) (to := to) ho n (behindF l (f.nominal + 1)) s (fun g hg => by have := (behind_mem hg).2; omega) y
   unfold firedN at hy
   split at hy
   · split at hy
     · exact ih hy
     · rcases List.mem_cons.1 hy with rfl | hy
       · show s - 179998 ≤ instF f off (savedF l f)
         omega
       · exact ih hy
   · cases hy
theorem segA_in {off fr to : Int} {j n : Nat} {y : Int × Fir} (h : y ∈ segA A off fr to j n) : ∃ i, j ≤ i ∧ i < j + n ∧ ∃ hi : i < A.length, y = (instA A off i, A[i]) ∧ fr < instA A off i ∧ instA A off i ≤ to := by
 unfold segA at h
 obtain ⟨i, hi, e⟩ := List.mem_filterMap.1 h
 rw [List.mem_range'_1] at hi
 split at e
 · rename_i hc
   obtain ⟨f, hf, rfl⟩ := Option.map_eq_some_iff.1 e
   obtain ⟨hl, rfl⟩ := List.getElem?_eq_some_iff.1 hf
   exact ⟨i, hi.1, by omega, hl, rfl, hc⟩
 · cases e
theorem segA_has {off fr to : Int} {j n i : Nat} (hi : i < A.length) (h1 : j ≤ i) (h2 : i < j + n) (h3 : fr < instA A off i) (h4 : instA A off i ≤ to) : (instA A off i, A[i]) ∈ segA A off fr to j n := by
 unfold segA
 refine List.mem_filterMap.2 ⟨i, List.mem_range'_1.2 ⟨h1, by omega⟩, ?_⟩
 rw [if_pos ⟨h3, h4⟩, List.getElem?_eq_getElem hi]
 rfl
theorem segA_rise (h : RightR l A) {off fr to : Int} (ho : -90000 < off ∧ off < 90000) : ∀ (n j : Nat), (segA A off fr to j n).Pairwise fun x y => x.1 < y.1
 | 0, _ => List.Pairwise.nil
 | n + 1, j => by
   rw [segA_succ]
   refine List.pairwise_append.2 ⟨?_, segA_rise h ho n (j + 1), fun x hx y hy => ?_⟩
   · split
     · exact List.pairwise_singleton _ _
     · exact List.Pairwise.nil
   · split at hx
     · rename_i z e
       have hxz := List.mem_singleton.1 hx
       split at e
       · obtain ⟨f, hf, rfl⟩ := Option.map_eq_some_iff.1 e
         obtain ⟨i, i1, -, hi, rfl, -⟩ := segA_in hy
         rw [hxz]
         exact h.inst_lt ho (show j < i by omega) hi
       · cases e
     · cases hx
theorem firedN_cut (h : RightR l A) {off fr b T : Int} (ho : -90000 < off ∧ off < 90000) (hb : b + 180000 < capN) (hbT : b ≤ T) : ∀ (n j : Nat) (o : Option Fir), CurA A j o → A.length - j < n → ∃ F, firedN l off fr T n o = segA A off fr b j (A.length - j) ++ F ∧ ∀ y ∈ F, b < y.1
 | 0, j, o, _, hn => absurd hn (by omega)
 | n + 1, j, o, hcur, hn => by
   rcases hcur with ⟨hj, hcap, rfl⟩ | ⟨hfar, hout⟩
   · have hin := h.inst_in ho hj
     have hs := saved_row h hj (by omega) (h.low (List.getElem_mem _))
     have hnext : CurA A (j + 1) (behindF l (A[j].nominal + 1)) := behind_cur h (cut_behind h hj) (by have := h.low (List.getElem_mem hj); omega) (by omega)
     obtain ⟨F, hF, hF2⟩ := firedN_cut (fr := fr) h ho hb hbT n (j + 1) _ hnext (by omega)
     rw [show A.length - j = (A.length - (j + 1)) + 1 by omega, segA_succ, List.getElem?_eq_getElem hj]
     unfold firedN
     rw [hs, ← instA_at hj, hF]
     have hno : ¬ instA A off j ≤ b → segA A off fr b (j + 1) (A.length - (j + 1)) = [] := fun hlt => segA_nil (fun i hi hl => by
       have h1 := h.inst_lt ho (show j < i by omega) hl
       omega)
     by_cases hle : A[j].nominal ≤ T + 180000
     · rw [if_pos hle]
       by_cases hout : instA A off j ≤ fr ∨ T < instA A off j
       · rw [if_pos hout, if_neg (by omega)]
         exact ⟨F, rfl, hF2⟩
       · rw [if_neg hout]
         by_cases hbb : instA A off j ≤ b
         · rw [if_pos (by omega)]
           exact ⟨F, rfl, hF2⟩
         · rw [if_neg (by omega), hno hbb]
           exact ⟨(instA A off j, A[j]) :: F, rfl, fun y hy => by
             rcases List.mem_cons.1 hy with rfl | hy
             · show b < instA A off j
               omega
             · exact hF2 y hy⟩
     · rw [if_neg hle, if_neg (by omega), hno (by omega)]
       exact ⟨[], rfl, fun y hy => by cases hy⟩
   · rw [segA_nil (fun i hi hl => by
       have h1 := h.inst_in ho hl
       by_cases e : i = j
       · subst e; have := hfar hl; omega
       · have h2 := h.rise (show j < i by omega) hl
         have h3 := hfar (by omega)
         omega)]
     exact ⟨_, rfl, fun y hy => by
       have := firedN_low h ho (n + 1) o capN hout y hy
       omega⟩
theorem fired_cut (h : RightR l A) {off fr b T : Int} (ho : -90000 < off ∧ off < 90000) (h1 : -3217862419200 ≤ fr - 180000) (h2 : fr ≤ b) (hb : b + 180000 < capN) (hbT : b ≤ T) : ∃ F, firedF l off fr T = segA A off fr b 0 A.length ++ F ∧ ∀ y ∈ F, b < y.1 := by
 obtain ⟨k, hk⟩ := h.cut (fr - 180000)
 have hlen : A.length - k < (T + 180001 + farN).toNat := by
   have hcap := row_few h
   unfold farN
   omega
 obtain ⟨F, hF, hF2⟩ := firedN_cut (fr := fr) h ho hb hbT _ k _ (behind_cur h hk h1 (by omega)) hlen
 refine ⟨F, ?_, hF2⟩
 unfold firedF
 rw [hF]
 have hsplit : ∀ (m j : Nat), (∀ i, i < m → i + j < A.length → ¬ (fr < instA A off (i + j) ∧ instA A off (i + j) ≤ b)) → ∀ n, segA A off fr b j (m + n) = segA A off fr b (j + m) n := by
   intro m
   induction m with
   | zero => intro j _ n; rw [Nat.zero_add]; rfl
   | succ m ih =>
     intro j hj n
     rw [show m + 1 + n = (m + n) + 1 by omega, segA_succ, ih (j + 1) (fun i hi hl => by have := hj (i + 1) (by omega) (by omega); rwa [show i + 1 + j = i + (j + 1) by omega] at this) n, show j + 1 + m = j + (m + 1) by omega]
     by_cases hl : j < A.length
     · have := hj 0 (by omega) (by omega)
       rw [Nat.zero_add] at this
       rw [if_neg this]
       rfl
     · rw [List.getElem?_eq_none (by omega), Option.map_none, ite_self]
       rfl
 have := hsplit k 0 (fun i hi hl => by
   have hl2 : i < A.length := by omega
   have g := (hk.2 i hl2).1 hi
   have e := h.inst_in ho hl2
   rw [nomA_at hl2] at g
   rw [Nat.add_zero]
   omega) (A.length - k)
 rw [show k + (A.length - k) = A.length by have := hk.1; omega, Nat.zero_add] at this
 rw [this]
end
theorem locW_still {x : EraF} {R : List Rul} {A : List Fir} (h : RightR R A) (ho : -90000 < x.n.off ∧ x.n.off < 90000) {i : Int} (h1 : -3217862419200 < i) (h2 : i + 180001 ≤ capN) (hno : ∀ j, j < A.length → instA A x.n.off j ≠ i) : locW x R i = locW x R (i - 1) := by
 obtain ⟨k, hc⟩ := h.icut ho (i + 1)
 have hc2 : Cut A (instA A x.n.off) (i - 1 + 1) k := ⟨hc.1, fun j hj => by
   have := hc.2 j hj
   have := hno j hj
   omega⟩
 have e : savesV x.n x.ru R i = savesV x.n x.ru R (i - 1) := by
   unfold savesV
   split
   · rfl
   · rw [latest_row h ho (by omega) h2 hc, latest_row h ho (by omega) (by omega) hc2]
 unfold locW
 rw [e]
theorem turnsF_cut {x : EraF} {R : List Rul} : ∀ (F : List (Int × Fir)) (now : Chg) (G : List (Int × Fir)), (∀ y ∈ F, y.1 ≤ 60000000000) → ∃ now', turnsF x R now (F ++ G) = dropF now.loc (F.map fun y => ⟨y.1, locW x R y.1⟩) ++ turnsF x R now' G
 | [], now, G, _ => ⟨now, rfl⟩
 | y :: t, now, G, h => by
   have hy := h y List.mem_cons_self
   rw [List.cons_append, List.map_cons]
   cases he : locE (locW x R y.1) now.loc with
   | true =>
     rw [turnsF_same he (by omega), dropF_same he]
     exact turnsF_cut t now G fun z hz => h z (List.mem_cons_of_mem _ hz)
   | false =>
     rw [turnsF_turn he, dropF_turn he]
     obtain ⟨n', e⟩ := turnsF_cut t ⟨y.1, locW x R y.1⟩ G fun z hz => h z (List.mem_cons_of_mem _ hz)
     exact ⟨n', by rw [e]; rfl⟩
theorem turnsF_sub {x : EraF} {R : List Rul} : ∀ {F : List (Int × Fir)} {now c : Chg}, c ∈ turnsF x R now F → ∃ y ∈ F, c.at_ = y.1
 | [], _, _, h => by cases h
 | y :: t, now, c, h => by
   cases he : locE (locW x R y.1) now.loc with
   | true =>
     by_cases h2 : max now.at_ 64060588800 + 12680582400 < y.1
     · rw [turnsF_end he h2] at h
       cases h
     · rw [turnsF_same he h2] at h
       obtain ⟨z, hz, e⟩ := turnsF_sub h
       exact ⟨z, List.mem_cons_of_mem _ hz, e⟩
   | false =>
     rw [turnsF_turn he] at h
     rcases List.mem_cons.1 h with rfl | h
     · exact ⟨y, List.mem_cons_self, rfl⟩
     · obtain ⟨z, hz, e⟩ := turnsF_sub h
       exact ⟨z, List.mem_cons_of_mem _ hz, e⟩
theorem turnsL_cut {x : EraF} {R : List Rul} {A : List Fir} (h : RightR R A) (ho : -90000 < x.n.off ∧ x.n.off < 90000) {fr b T : Int} (h1 : -2199023255553 ≤ fr) (hb : b ≤ 4200000000) (hbT : b ≤ T) :
   ∃ P Q, turnsL x R fr T = P ++ Q ∧ Wk (locW x R) fr b P ∧ ∀ c ∈ Q, b < c.at_ := by
 by_cases hfb : fr ≤ b
 · obtain ⟨F, hF, hF2⟩ := fired_cut h ho (by omega) hfb (by unfold capN; omega) hbT
   unfold turnsL
   rw [hF]
   obtain ⟨n', e⟩ := turnsF_cut (x := x) (R := R) (segA A x.n.off fr b 0 A.length) ⟨fr, locW x R fr⟩ F (fun y hy => by
     obtain ⟨i, -, -, hi, rfl, -, h4⟩ := segA_in hy
     show instA A x.n.off i ≤ 60000000000
     omega)
   refine ⟨_, _, e, (dropF_rep ⟨?_, fun c hc => ?_, fun i h3 h4 ht => ?_⟩).wk, fun c hc => ?_⟩
   · unfold RiseC
     rw [List.pairwise_map]
     exact segA_rise h ho _ _
   · obtain ⟨y, hy, rfl⟩ := List.mem_map.1 hc
     obtain ⟨i, -, -, hi, rfl, h3, h4⟩ := segA_in hy
     exact ⟨⟨h3, h4⟩, rfl⟩
   · have hex : ∃ j, j < A.length ∧ instA A x.n.off j = i := Classical.byContradiction fun hn => ht (locW_still h ho (by omega) (by unfold capN; omega) fun j hj e => hn ⟨j, hj, e⟩)
     obtain ⟨j, hj, rfl⟩ := hex
     exact ⟨⟨instA A x.n.off j, locW x R (instA A x.n.off j)⟩, List.mem_map.2 ⟨(instA A x.n.off j, A[j]), segA_has hj (by omega) (by omega) h3 h4, rfl⟩, rfl⟩
   · obtain ⟨y, hy, e⟩ := turnsF_sub hc
     rw [e]
     exact hF2 y hy
 · refine ⟨[], turnsL x R fr T, rfl, wk_nil (by omega), fun c hc => ?_⟩
   obtain ⟨y, hy, e⟩ := turnsF_sub hc
   have := firedF_in hy
   omega
theorem turnsL_in {x : EraF} {R : List Rul} {fr T : Int} {c : Chg} (h : c ∈ turnsL x R fr T) : fr < c.at_ ∧ c.at_ ≤ T := by
 obtain ⟨y, hy, e⟩ := turnsF_sub h
 rw [e]
 exact firedF_in hy
theorem endLoop_save {m : Int} : ∀ {xs : List (Int × Fir)} {sv : Int}, (-90000 < sv ∧ sv < 90000) → (∀ x ∈ xs, -90000 < x.2.save ∧ x.2.save < 90000) → -90000 < endLoop m sv xs ∧ endLoop m sv xs < 90000
 | [], _, h, _ => h
 | x :: t, sv, h, h2 => by
   unfold endLoop
   split
   · exact h
   · exact endLoop_save (h2 x List.mem_cons_self) fun y hy => h2 y (List.mem_cons_of_mem _ hy)
theorem endSave_few {R : List Rul} {A : List Fir} (h : RightR R A) (off n : Int) : -90000 < endSave R off n ∧ endSave R off n < 90000 := by
 unfold endSave
 refine endLoop_save ?_ fun x hx => h.save_all (firedF_mem hx)
 cases hl : latestF R off (n - 360000) with
 | none => exact (by decide : (-90000 : Int) < 0 ∧ (0 : Int) < 90000)
 | some f => exact h.save_all (latestF_mem hl)
structure FewZ (S : List SetF) (l : List EraF) : Prop where
 err : errZ S l = 0
 few : fewB l S = true
section
variable {S : List SetF} {l : List EraF}
theorem FewZ.right (h : FewZ S l) (x : EraF) : ∃ A, RightR (ruleE S x) A := by
 obtain ⟨A, hA, -, -⟩ := right_yes (rule_right (fewB_iff.1 h.few).2.1 x)
 exact ⟨A, hA⟩
theorem FewZ.pos (h : FewZ S l) : 0 < l.length := by
 have := (errZ_zero h.err).1
 omega
theorem FewZ.off (h : FewZ S l) {k : Nat} (hk : k < l.length) : -90000 < l[k].n.off ∧ l[k].n.off < 90000 := (errZ_off h.err hk).1
theorem FewZ.ends (h : FewZ S l) : ∀ e ∈ endL S l, -2501000000 ≤ e ∧ e ≤ 4001000000 := by
 intro e he
 obtain ⟨i, hi, rfl⟩ := List.getElem_of_mem he
 have hil := hi
 rw [length_endL] at hil
 obtain ⟨h0, -, hat, -⟩ := errZ_zero h.err
 have hE := endL_at (S := S) (l := l) (i := i) (by omega)
 rw [List.getElem?_eq_getElem hi] at hE
 have hE := Option.some.inj hE
 have her := hat i (by omega)
 rw [errAt_eq (by omega), decide_eq_false (by omega)] at her
 obtain ⟨-, hof, hsv, hen, -, hno⟩ := errE_zero her
 have hn := nomV_in (hno hen)
 have hok := eraFew_end ((fewB_iff.1 h.few).1 l[i] (List.getElem_mem _)) hen
 have hnm : -2500000000 ≤ nomV l[i].n ∧ nomV l[i].n ≤ 4000000000 := by
   rcases hok.nom_in with g | g
   · exact g
   · rw [← hok.nomB_eq hn.2.2, hno hen] at g
     cases g
 obtain ⟨A, hA⟩ := h.right l[i]
 have hsv2 := endSave_few hA l[i].n.off (nomV l[i].n)
 rw [hE]
 unfold endN
 split
 · omega
 · split
   · omega
   · split <;> omega
theorem FewZ.lt (h : FewZ S l) : ∀ (d i : Nat), i + d + 1 < (endL S l).length → (endL S l).getD i 0 < (endL S l).getD (i + d + 1) 0
 | 0, i, hj => riseI_iff.1 (errZ_zero h.err).2.2.2 i hj
 | d + 1, i, hj => by
   have h1 := h.lt d i (by omega)
   have h2 := riseI_iff.1 (errZ_zero h.err).2.2.2 (i + d + 1) hj
   rw [show i + (d + 1) + 1 = i + d + 1 + 1 by omega]
   omega
theorem FewZ.mono (h : FewZ S l) {i j : Nat} (hij : i < j) (hj : j < (endL S l).length) : (endL S l)[i] < (endL S l)[j] := by
 have := h.lt (j - i - 1) i (by omega)
 rw [show i + (j - i - 1) + 1 = j by omega, getD_atZ (by omega), getD_atZ hj] at this
 exact this
theorem FewZ.to_lt (h : FewZ S l) (k : Nat) (hk : k < l.length) : fromV (endL S l) k < toV (endL S l) k := by
 have hle := length_endL S l
 have hto : ∀ (j : Nat), -2501000000 ≤ toV (endL S l) j := fun j => by
   by_cases hj : j < (endL S l).length
   · rw [toV_at hj]
     exact (h.ends _ (List.getElem_mem _)).1
   · rw [toV_out (by omega)]
     omega
 unfold fromV
 split
 · have := hto k
   omega
 · rw [toV_at (show k - 1 < (endL S l).length by omega)]
   by_cases hj : k < (endL S l).length
   · rw [toV_at hj]
     exact h.mono (by omega) hj
   · rw [toV_out (by omega)]
     have := (h.ends _ (List.getElem_mem (show k - 1 < (endL S l).length by omega))).2
     omega
theorem FewZ.era (h : FewZ S l) {k : Nat} (hk : k < l.length) {i : Int} (h1 : fromV (endL S l) k ≤ i) (h2 : i < toV (endL S l) k) : eraI (endL S l) i = k := by
 have hle := length_endL S l
 have hno : ∀ j (hj : j < (endL S l).length), j < k → ¬ i < (endL S l)[j] := fun j hj hjk => by
   unfold fromV at h1
   rw [if_neg (by omega), toV_at (show k - 1 < (endL S l).length by omega)] at h1
   by_cases e : j = k - 1
   · subst e
     omega
   · have := h.mono (show j < k - 1 by omega) (show k - 1 < (endL S l).length by omega)
     omega
 by_cases hj : k < (endL S l).length
 · rw [toV_at hj] at h2
   exact eraI_at hj hno h2
 · rw [eraI_none (fun j hj2 => hno j hj2 (by omega))]
   omega
theorem FewZ.loc (h : FewZ S l) {k : Nat} (hk : k < l.length) {i : Int} (h1 : fromV (endL S l) k ≤ i) (h2 : i < toV (endL S l) k) (h3 : -2199023255552 ≤ i) (h4 : i ≤ 2199023255552) : locZ S l i = locW l[k] (ruleE S l[k]) i := by
 have hax : atX S l i = l[k] := by unfold atX; rw [h.era hk h1 h2, List.getD_eq_getElem?_getD, List.getElem?_eq_getElem hk]; rfl
 unfold locZ
 rw [if_neg (fun e => e h.err), if_neg (by omega), hax]
theorem eraT_mem {fr T : Int} {k : Nat} {c : Chg} (hlt : fromV (endL S l) k < toV (endL S l) k) (hc : c ∈ eraT S l fr T k) : (fr < c.at_ ∧ fromV (endL S l) k ≤ c.at_) ∧ c.at_ ≤ T ∧ c.at_ < toV (endL S l) k := by
 unfold eraT at hc
 split at hc
 · cases hc
 · rcases List.mem_append.1 hc with hc | hc
   · split at hc
     · rw [List.mem_singleton] at hc
       subst hc
       show (fr < fromV (endL S l) k ∧ fromV (endL S l) k ≤ fromV (endL S l) k) ∧ fromV (endL S l) k ≤ T ∧ fromV (endL S l) k < toV (endL S l) k
       omega
     · cases hc
   · have := turnsL_in hc
     omega
theorem eraT_cut (h : FewZ S l) {fr to T : Int} (hfr : -2199023255552 ≤ fr) (hto : to ≤ 4200000000) (hT : to ≤ T) {k : Nat} (hk : k < l.length) :
   ∃ P Q, eraT S l fr T k = P ++ Q ∧ Wk (locZ S l) (max fr (min to (fromV (endL S l) k - 1))) (min to (toV (endL S l) k - 1)) P ∧ (∀ c ∈ Q, to < c.at_) := by
 have hlt := h.to_lt k hk
 have hmem := fun c (hc : c ∈ eraT S l fr T k) => eraT_mem hlt hc
 by_cases h1 : to < fromV (endL S l) k
 · exact ⟨[], eraT S l fr T k, rfl, wk_nil (by omega), fun c hc => by have := hmem c hc; omega⟩
 · by_cases h2 : to ≤ fr
   · exact ⟨[], eraT S l fr T k, rfl, wk_nil (by omega), fun c hc => by have := hmem c hc; omega⟩
   · by_cases h3 : toV (endL S l) k - 1 ≤ fr
     · exact ⟨[], [], eraT_skip (.inl h3), wk_nil (by omega), fun c hc => by cases hc⟩
     · obtain ⟨A, hA⟩ := h.right l[k]
       have hgx : l.getD k default = l[k] := by rw [List.getD_eq_getElem?_getD, List.getElem?_eq_getElem hk]; rfl
       obtain ⟨P, Q, e, hP, hQ⟩ := turnsL_cut hA (h.off hk) (fr := max fr (fromV (endL S l) k)) (b := min to (toV (endL S l) k - 1)) (T := min T (toV (endL S l) k - 1)) (by omega) (by omega) (by omega)
       have hQ2 : ∀ c ∈ Q, to < c.at_ := fun c hc => by
         have g := hQ c hc
         have g2 := turnsL_in (show c ∈ turnsL l[k] (ruleE S l[k]) (max fr (fromV (endL S l) k)) (min T (toV (endL S l) k - 1)) by rw [e]; exact List.mem_append_right _ hc)
         omega
       by_cases h4 : fr < fromV (endL S l) k
       · rw [eraT_at (by omega) h4, hgx, e]
         refine ⟨⟨fromV (endL S l) k, locW l[k] (ruleE S l[k]) (fromV (endL S l) k)⟩ :: P, Q, rfl, ?_, hQ2⟩
         have hP2 : Wk (locZ S l) (fromV (endL S l) k) (min to (toV (endL S l) k - 1)) P := by
           rw [show max fr (fromV (endL S l) k) = fromV (endL S l) k by omega] at hP
           exact hP.congr fun i i1 i2 => (h.loc hk i1 (by omega) (by omega) (by omega)).symm
         have h5 : Wk (locZ S l) (max fr (min to (fromV (endL S l) k - 1))) (fromV (endL S l) k) [⟨fromV (endL S l) k, locW l[k] (ruleE S l[k]) (fromV (endL S l) k)⟩] := by
           refine ⟨List.pairwise_singleton _ _, fun c hc => ?_, fun i i1 i2 _ => ?_⟩
           · rw [List.mem_singleton] at hc
             subst hc
             refine ⟨?_, (h.loc hk (Int.le_refl _) hlt (by omega) (by omega)).symm⟩
             show max fr (min to (fromV (endL S l) k - 1)) < fromV (endL S l) k ∧ fromV (endL S l) k ≤ fromV (endL S l) k
             omega
           · exact ⟨_, List.mem_singleton.2 rfl, show fromV (endL S l) k = i by omega⟩
         have h6 := h5.append (M := P) (c := min to (toV (endL S l) k - 1)) (by rw [show max (max fr (min to (fromV (endL S l) k - 1))) (fromV (endL S l) k) = fromV (endL S l) k by omega]; exact hP2) (by omega)
         exact h6
       · rw [eraT_in (by omega) h4, hgx, e]
         refine ⟨P, Q, rfl, ?_, hQ2⟩
         rw [show max fr (fromV (endL S l) k) = fr by omega] at hP
         rw [show max fr (min to (fromV (endL S l) k - 1)) = fr by omega]
         exact hP.congr fun i i1 i2 => (h.loc hk (by omega) (by omega) (by omega) (by omega)).symm
theorem stepsL_cut (h : FewZ S l) {fr to T : Int} (hfr : -2199023255552 ≤ fr) (hto : to ≤ 4200000000) (hT : to ≤ T) : ∀ (k : Nat), k ≤ l.length →
   ∃ P Q, (List.range k).flatMap (eraT S l fr T) = P ++ Q ∧ Wk (locZ S l) fr (min to (fromV (endL S l) k - 1)) P ∧ (∀ c ∈ Q, to < c.at_) ∧ (Q ≠ [] → to < fromV (endL S l) k)
 | 0, _ => ⟨[], [], rfl, wk_nil (by unfold fromV; rw [if_pos rfl]; omega), fun c hc => (by cases hc), fun e => absurd rfl e⟩
 | k + 1, hk => by
   obtain ⟨P, Q, e, hP, hQ, hQ2⟩ := stepsL_cut h hfr hto hT k (by omega)
   have hlt := h.to_lt k (by omega)
   rw [stepsF_succ, e, fromV_succ]
   by_cases hq : Q = []
   · obtain ⟨P2, Q2, e2, hP3, hQ3⟩ := eraT_cut h hfr hto hT (show k < l.length by omega)
     rw [e2, hq, List.append_nil, ← List.append_assoc]
     refine ⟨P ++ P2, Q2, rfl, hP.append hP3 (by omega), hQ3, fun hne => ?_⟩
     obtain ⟨c, hc⟩ := List.exists_mem_of_ne_nil _ hne
     have g := eraT_mem (fr := fr) (T := T) hlt (show c ∈ eraT S l fr T k by rw [e2]; exact List.mem_append_right _ hc)
     have := hQ3 c hc
     omega
   · have hlt2 := hQ2 hq
     refine ⟨P, Q ++ eraT S l fr T k, by rw [List.append_assoc], ?_, fun c hc => ?_, fun _ => by omega⟩
     · rw [show min to (toV (endL S l) k - 1) = min to (fromV (endL S l) k - 1) by omega]
       exact hP
     · rcases List.mem_append.1 hc with hc | hc
       · exact hQ c hc
       · have := eraT_mem hlt hc
         omega
theorem changes_spec (h : FewZ S l) {fr to T : Int} (hfr : fr ≤ 4200000000) (hto : to ≤ 4200000000) (hT : to ≤ T) :
   ∃ P Q, changesL S l fr T = P ++ Q ∧ Rep (locZ S l) (max fr (-2199023255552)) to P ∧ ∀ c ∈ Q, to < c.at_ := by
 have he : errI S l (max fr (-2199023255552)) = 0 := errI_few h.err (fewB_iff.1 h.few).2.1 (by omega) (by omega)
 obtain ⟨P, Q, e, hP, hQ, -⟩ := stepsL_cut h (fr := max fr (-2199023255552)) (by omega) hto hT l.length (Nat.le_refl _)
 have hfv : fromV (endL S l) l.length = 2199023255553 := by
   have := h.pos
   unfold fromV
   rw [if_neg (by omega), toV_out (by rw [length_endL]; omega)]
 rw [hfv, show min to (2199023255553 - 1) = to by omega] at hP
 unfold changesL
 rw [if_pos he]
 unfold stepsL
 rw [e]
 obtain ⟨n', e2⟩ := dropF_append P (locZ S l (max fr (-2199023255552))) Q
 exact ⟨_, _, e2, dropF_rep hP, fun c hc => hQ c (dropF_sub hc)⟩
theorem changes_rep (h : FewZ S l) {fr to : Int} (hfr : fr ≤ 4200000000) (hto : to ≤ 4200000000) : Rep (locZ S l) (max fr (-2199023255552)) to (changesL S l fr to) := by
 obtain ⟨P, Q, e, hP, hQ⟩ := changes_spec h hfr hto (Int.le_refl to)
 have hq : Q = [] := List.eq_nil_iff_forall_not_mem.2 fun c hc => by
   have g := hQ c hc
   have hm : c ∈ changesL S l fr to := by rw [e]; exact List.mem_append_right _ hc
   unfold changesL at hm
   split at hm
   · have hm := dropF_sub hm
     unfold stepsL at hm
     obtain ⟨k, hk, hm⟩ := List.mem_flatMap.1 hm
     have := eraT_mem (h.to_lt k (List.mem_range.1 hk)) hm
     omega
   · cases hm
 rw [e, hq, List.append_nil]
 exact hP
end
end
section -- HPut
open Go Go.RowKit Go.Shelf
end
section -- HRefM
open Go Go.RowKit Go.Shelf
structure RowsZ (S : List SetF) (l : List EraF) (R : List RowF) : Prop where
 len : R.length = l.length
 ok : ∀ i (h : i < R.length) (h2 : i < l.length), RowOk S l[i] R[i]
section
variable {S : List SetF} {l : List EraF} {R : List RowF}
theorem FewZ.kind (h : FewZ S l) {k : Nat} (hk : k < l.length) : (kindR l[k].fm.data.toList).2 = 0 := by
 have her := (errZ_zero h.err).2.2.1 k hk
 rw [errAt_eq hk] at her
 exact (errE_zero her).1
theorem FewZ.save (h : FewZ S l) {k : Nat} (hk : k < l.length) : -90000 < l[k].n.save ∧ l[k].n.save < 90000 := (errZ_off h.err hk).2
end
end
section -- EnvA
open Go Go.RowKit
section
variable {P : Program} {n : Nat} {ops : Array Oper}
def envAB (ops : Array Oper) (D : List Nat) (al st : Nat) : Bool :=
 envSB ops D st && decide (al < ops.size) && decide (al ≠ st) && (match ops[st]? with | some o => o.after.any fun e => Region.binds .any e && e.on == al | none => false)
def EnvAStep (P : Program) (ops : Array Oper) (fin : Value → Act) (w0 : World) (t : TypeId) (zs cs : Array Value) (o : Oper) (v : Value) : Bool → Bool → Prop
 | true, _ => (∀ p, Region.wanted o (yielded ops (fin p).tmps) = true) ∧ ∀ p w, Below w0.heap.size w0 w → (execOp (fin p).eval o).run P w = .ok (.value (.pointer (some ⟨w.heap.size, 0, none⟩))) (w.alloc (.cells zs t))
 | false, true => (∀ p, Region.wanted o (yielded ops (fin p).tmps) = true) ∧ ∀ b w, Blk w b t zs → ∃ w', (execOp (fin (.pointer (some ⟨b, 0, none⟩))).eval o).run P w = .ok .skip w' ∧ Fr (fun k => k = b) w w' ∧ Blk w' b t cs
 | false, false => ∀ p, EnvStep P ops (fin p) w0 o v
def EnvASteps (P : Program) (ops : Array Oper) (fin : Value → Act) (w0 : World) (t : TypeId) (zs cs : Array Value) (al st : Nat) : Nat → List Oper → List Value → Prop
 | k, o :: l, v :: V => EnvAStep P ops fin w0 t zs cs o v (k == al) (k == st) ∧ EnvASteps P ops fin w0 t zs cs al st (k + 1) l V
 | _, [], [] => True
 | _, _, _ => False
theorem envASteps_at {fin : Value → Act} {w0 : World} {t : TypeId} {zs cs : Array Value} {al st : Nat} : ∀ {l : List Oper} {V : List Value} {k : Nat}, EnvASteps P ops fin w0 t zs cs al st k l V → ∀ {j : Nat} {o : Oper}, l[j]? = some o → EnvAStep P ops fin w0 t zs cs o (V.getD j undef) (k + j == al) (k + j == st)
 | [], _, _, _, _, _, h => by simp at h
 | _ :: _, [], _, hs, _, _, _ => hs.elim
 | x :: l, v :: V, k, hs, 0, o, h => by
   simp only [List.getElem?_cons_zero, Option.some.injEq] at h
   subst h
   exact hs.1
 | x :: l, v :: V, k, hs, j + 1, o, h => by
   rw [List.getElem?_cons_succ] at h
   have := envASteps_at hs.2 h
   rw [show k + 1 + j = k + (j + 1) by omega] at this
   simpa using this
theorem envASteps_len {fin : Value → Act} {w0 : World} {t : TypeId} {zs cs : Array Value} {al st : Nat} : ∀ {l : List Oper} {V : List Value} {k : Nat}, EnvASteps P ops fin w0 t zs cs al st k l V → V.length = l.length
 | [], [], _, _ => rfl
 | [], _ :: _, _, h => h.elim
 | _ :: _, [], _, h => h.elim
 | _ :: l, _ :: V, _, h => by simp [envASteps_len h.2]
theorem getD_setU {V : List Value} {al i : Nat} (p : Value) (h : al < V.length) : (V.set al p).getD i undef = if al = i then p else V.getD i undef := by
 rw [List.getD_eq_getElem?_getD, List.getElem?_set, List.getD_eq_getElem?_getD]
 split
 · rename_i e
   subst e
   rfl
 · rfl
def EnvAI (w : World) (D : List Nat) (V : List Value) (t : TypeId) (zs cs : Array Value) (al st : Nat) (L : Nat → Bool) (x : Nat → Value) (w' : World) : Prop :=
 Below w.heap.size w w' ∧ ∃ p, (∀ i, i < D.length → L i = true → x (D.getD i 0) = (V.set al p).getD i undef) ∧ (L al = true → ∃ b, p = .pointer (some ⟨b, 0, none⟩) ∧ w.heap.size ≤ b ∧ Blk w' b t (if L st = true then cs else zs)) ∧ (L al = false → L st = false)
theorem wpIn_envA {F : Fence} (hF : Wide F) {id : Nat} {l : List Oper} {Q : Exit → Act → World → Prop} {a : Act} {w : World} (hm : P.follows .mixedOrders = true) (D : List Nat) (V : List Value) (al st : Nat) (t : TypeId) (zs cs : Array Value)
   (hb : envAB l.toArray D al st = true) (hsz : a.tmps.size ≤ D.getD st 0) (hstD : st < D.length) {fin : Value → Act} (hfin : ∀ p, putAll a D (V.set al p) = fin p)
   (hstep : EnvASteps P l.toArray fin w t zs cs al st 0 l V) (hend : ∀ b w', Below w.heap.size w w' → w.heap.size ≤ b → Blk w' b t cs → Q .normal (fin (.pointer (some ⟨b, 0, none⟩))) w') : (Code.region id l.toArray true).wpIn F n P Q a w := by
 unfold envAB at hb
 simp only [Bool.and_eq_true, decide_eq_true_eq] at hb
 obtain ⟨⟨⟨hb, hal⟩, hne⟩, hedge⟩ := hb
 unfold envSB at hb
 rw [Bool.and_eq_true] at hb
 obtain ⟨hi, hb⟩ := hb
 have hi' := hi
 simp only [invB, Bool.and_eq_true, decide_eq_true_eq] at hi'
 obtain ⟨⟨-, hlen⟩, hnd⟩ := hi'
 have hV : V.length = D.length := by rw [envASteps_len hstep, hlen]; simp
 have halV : al < V.length := by rw [hV, hlen]; exact hal
 have hfinp : ∀ p, frameOf a D (valOf D (V.set al p)) = fin p := fun p => by
   rw [← hfin]
   exact putAll_eq D _ a _ (by rw [List.length_set]; exact hV) fun i hi => by unfold valOf; rw [idxOf_getD hnd hi]
 refine wpIn_inv hm D (EnvAI w D V t zs cs al st) hi (fun x => ⟨(Below.refl _ _).drew, undef, (fun i _ h => by cases h), (fun h => by cases h), fun _ => rfl⟩) ?_ ?_
 · have main : ∀ (i : Nat) (o : Oper), l[i]? = some o → StepI F n P l.toArray a D (EnvAI w D V t zs cs al st) i o := by
     intro k o hlk L x w1 R hI hsh hLk hr hR
     obtain ⟨hbw, p, hx, hblk, hord⟩ := hI
     have hkl : k < l.length := (List.getElem?_eq_some_iff.1 hlk).1
     have ho : l.toArray[k]? = some o := by simpa using hlk
     have hkD : k < D.length := by rw [hlen]; simpa using hkl
     have hst1 := envASteps_at hstep hlk
     rw [Nat.zero_add] at hst1
     have hb1 := List.all_eq_true.1 hb k (List.mem_range.2 (by simpa using hkl))
     rw [ho] at hb1
     simp only [Bool.and_eq_true] at hb1
     obtain ⟨⟨hop, hdst⟩, hlook⟩ := hb1
     have hndf : ∀ c, o.op ≠ .defer c := fun c hc => by rw [hc] at hop; cases hop
     have hnsl : ∀ cs b, o.op ≠ .select cs b := fun c b hc => by rw [hc] at hop; cases hop
     have hsame : ∀ s, s ∈ o.looksAt l.toArray → (frameOf a D x).tmps[s]? = (fin p).tmps[s]? := by
       intro s hs
       rw [← hfinp, frameOf_tmps, frameOf_tmps]
       by_cases hD : s ∈ D
       · have := List.all_eq_true.1 hlook s hs
         rw [Bool.or_eq_true] at this
         rcases this with h | h
         · simp [hD] at h
         · obtain ⟨j, hj, hj2⟩ := List.any_eq_true.1 h
           rw [Bool.and_eq_true] at hj2
           obtain ⟨hjs, hje⟩ := hj2
           have hjs : D.getD j 0 = s := by simpa using hjs
           have hjk := List.mem_range.1 hj
           have h1 := hx j (by omega) (hr j hje)
           rw [hjs] at h1
           have h2 : x s = valOf D (V.set al p) s := by
             have e : D.idxOf s = j := by rw [← hjs]; exact idxOf_getD hnd (by omega)
             unfold valOf
             rw [e]
             exact h1
           rw [h2]
       · simp [hD]
     have hev : ∀ y ∈ o.op.operands, (frameOf a D x).eval y = (fin p).eval y := by
       intro y hy
       cases y with
       | tmp s =>
         have h1 := hsame s (List.mem_append_left _ (List.mem_filterMap.2 ⟨.tmp s, by simpa using hy, rfl⟩))
         show (frameOf a D x).tmps.getD s undef = (fin p).tmps.getD s undef
         simp only [Array.getD_eq_getD_getElem?, h1]
       | _ => rfl
     have hex := execOp_congr (ρ := (frameOf a D x).eval) (ρ' := (fin p).eval) o hnsl hev
     have hwa : Region.wanted o (yielded l.toArray (frameOf a D x).tmps) = Region.wanted o (yielded l.toArray (fin p).tmps) := by
       unfold Region.wanted
       cases hg : o.guard with
       | none => rfl
       | some g =>
         obtain ⟨g, b⟩ := g
         dsimp only
         unfold yielded
         cases hd : (l.toArray[g]?).bind (·.dst) with
         | none => rfl
         | some d =>
           have h1 := hsame d (List.mem_append_right _ (by rw [hg]; show d ∈ ((l.toArray[g]?).bind (·.dst)).toList; rw [hd]; simp))
           simp only [Option.bind_some, h1]
     have hmem : D.getD k 0 ∈ D := by rw [List.getD_eq_getElem?_getD, List.getElem?_eq_getElem hkD]; exact List.getElem_mem hkD
     have hslot : ∀ i, i < D.length → i ≠ k → D.getD i 0 ≠ D.getD k 0 := fun i hiD hik e => by
       rw [List.getD_eq_getElem?_getD, List.getD_eq_getElem?_getD, List.getElem?_eq_getElem hiD, List.getElem?_eq_getElem hkD] at e
       simp only [Option.getD_some] at e
       have hpw := List.pairwise_iff_getElem.1 hnd
       rcases Nat.lt_or_ge i k with h | h
       · exact hpw i k hiD hkD h e
       · exact hpw k i hkD hiD (by omega) e.symm
     have hmore : ∀ i, i ≠ k → more L k i = L i := fun i hik => by unfold more; rw [decide_eq_false hik]; rfl
     have hmk : more L k k = true := by unfold more; simp
     unfold wpListIn
     rw [hwa]
     by_cases hka : k = al
     · subst hka
       rw [beq_self_eq_true] at hst1
       obtain ⟨h1, h2⟩ := hst1
       rw [if_pos (h1 p)]
       refine ⟨fun f _ => hF.fn f, ?_⟩
       rw [Oper.semAt_plain F _ o hndf, hex, h2 p w1 hbw, Oper.uponIn_value]
       rw [if_neg hne] at hdst
       have hdst : o.dst = some (D.getD k 0) := by simpa using hdst
       rw [hdst, frameOf_put D x a _ hmem]
       have hLs : L st = false := hord hLk
       refine hR _ _ ⟨hbw.alloc hbw.size _, .pointer (some ⟨w1.heap.size, 0, none⟩), fun i hiD hm => ?_, fun _ => ⟨_, rfl, hbw.size, ?_⟩, fun h => ?_⟩
       · rw [getD_setU _ halV]
         by_cases hik : i = k
         · subst hik; rw [upd_same, if_pos rfl]
         · rw [hmore i hik] at hm
           have h3 := hx i hiD hm
           rw [getD_setU _ halV, if_neg (fun e => hik e.symm)] at h3
           rw [upd_other x _ (hslot i hiD hik), if_neg (fun e => hik e.symm), h3]
       · rw [hmore st (fun e => hne e.symm), hLs, if_neg (by decide)]
         exact Blk.new w1 t zs
       · rw [hmk] at h; cases h
     · rw [show (k == al) = false by simpa using hka] at hst1
       have hma : more L k al = L al := hmore al (fun e => hka e.symm)
       by_cases hks : k = st
       · subst hks
         rw [beq_self_eq_true] at hst1
         obtain ⟨h1, h2⟩ := hst1
         have hLa : L al = true := by
           rw [ho] at hedge
           exact hr al hedge
         obtain ⟨b, rfl, hbb, hB⟩ := hblk hLa
         rw [hLk, if_neg (by decide)] at hB
         rw [if_pos (h1 _)]
         refine ⟨fun f _ => hF.fn f, ?_⟩
         obtain ⟨w', hrun, hfr, hB'⟩ := h2 b w1 hB
         rw [Oper.semAt_plain F _ o hndf, hex, hrun]
         rw [if_pos rfl] at hdst
         have hdn : o.dst = none := by simpa using hdst
         rw [Oper.uponIn_skip, hdn]
         have e : (frameOf a D x).put none undef = frameOf a D (upd x (D.getD k 0) (V.getD k undef)) := by
           show frameOf a D x = _
           have h1 : (frameOf a D x).tmps = (frameOf a D (upd x (D.getD k 0) (V.getD k undef))).tmps := by
             apply Array.ext_getElem?
             intro s
             rw [frameOf_tmps, frameOf_tmps]
             by_cases hs : s < a.tmps.size
             · rw [upd_other x _ (show s ≠ D.getD k 0 by omega)]
             · simp [hs]
           have h2 : (frameOf a D x).defers = (frameOf a D (upd x (D.getD k 0) (V.getD k undef))).defers := by rw [frameOf_defers, frameOf_defers]
           generalize frameOf a D x = p1 at h1 h2
           generalize frameOf a D (upd x (D.getD k 0) (V.getD k undef)) = q1 at h1 h2
           cases p1
           cases q1
           simp only at h1 h2
           subst h1 h2
           rfl
         rw [e]
         refine hR _ _ ⟨hbw.trans (hfr.below hbw.size (fun j hj e => by omega)), .pointer (some ⟨b, 0, none⟩), fun i hiD hm => ?_, fun _ => ⟨b, rfl, hbb, ?_⟩, fun h => ?_⟩
         · by_cases hik : i = k
           · subst hik; rw [upd_same, getD_setU _ halV, if_neg (fun e => hka e.symm)]
           · rw [hmore i hik] at hm
             rw [upd_other x _ (hslot i hiD hik)]
             exact hx i hiD hm
         · rw [hmk, if_pos rfl]; exact hB'
         · rw [hma, hLa] at h; cases h
       · rw [show (k == st) = false by simpa using hks] at hst1
         have hms : more L k st = L st := hmore st (fun e => hks e.symm)
         rw [if_neg hks] at hdst
         have hdst : o.dst = some (D.getD k 0) := by simpa using hdst
         have hput : ∀ v, (frameOf a D x).put o.dst v = frameOf a D (upd x (D.getD k 0) v) := fun v => by
           rw [hdst]
           exact frameOf_put D x a _ hmem v
         have hvk : (V.set al p).getD k undef = V.getD k undef := by rw [getD_setU _ halV, if_neg (fun e => hka e.symm)]
         have hnew : ∀ w', Below w1.heap.size w1 w' → EnvAI w D V t zs cs al st (more L k) (upd x (D.getD k 0) (V.getD k undef)) w' := fun w' hb' => by
           refine ⟨hbw.trans (hb'.mono hbw.size), p, fun i hiD hm => ?_, fun h => ?_, fun h => ?_⟩
           · by_cases hik : i = k
             · subst hik; rw [upd_same, hvk]
             · rw [hmore i hik] at hm
               rw [upd_other x _ (hslot i hiD hik)]
               exact hx i hiD hm
           · rw [hma] at h
             obtain ⟨b, hp, hbb, hB⟩ := hblk h
             refine ⟨b, hp, hbb, ?_⟩
             rw [hms]
             exact hB.below hb' hB.lt
           · rw [hma] at h; rw [hms]; exact hord h
         rcases hst1 p with ⟨h1, h2⟩ | ⟨h1, h2⟩
         · rw [if_neg (by rw [h1]; simp)]
           refine ⟨fun f _ => hF.fn f, ?_⟩
           rw [hput, ← h2]
           exact hR _ _ (hnew w1 (Below.refl _ _))
         · rw [if_pos h1]
           refine ⟨fun f _ => hF.fn f, ?_⟩
           rw [Oper.semAt_plain F _ o hndf, hex]
           have h3 := h2 w1 hbw
           generalize (execOp (fin p).eval o).run P w1 = r at h3
           cases r with
           | halt hh w' => exact h3.elim
           | ok nx w' =>
             cases nx with
             | value u =>
               obtain ⟨rfl, hb'⟩ := h3
               rw [Oper.uponIn_value, hput]
               exact hR _ _ (hnew w' hb')
             | enter f args =>
               obtain ⟨rfl, hc⟩ := h3
               rw [Oper.uponIn_enter]
               refine ⟨(fun h => by rw [hF.depth] at h; cases h), (hF.calls hc).mono ?_⟩
               rintro e w'' ⟨rfl, hb'⟩
               show wpListIn F n P l.toArray _ [] ((frameOf a D x).put o.dst (V.getD k undef)) w''
               rw [hput]
               exact hR _ _ (hnew w'' hb')
             | _ => exact h3.elim
   have all : ∀ (m : List Oper) (k : Nat), (∀ j, m[j]? = l[k + j]?) → StepsI F n P l.toArray a D (EnvAI w D V t zs cs al st) k m := by
     intro m
     induction m with
     | nil => intro k _; trivial
     | cons o m ih =>
       intro k hk
       exact ⟨main k o (by simpa using (hk 0).symm), ih (k + 1) fun j => by have := hk (j + 1); simpa [Nat.add_assoc, Nat.add_comm 1 j] using this⟩
   exact all l 0 fun j => by simp
 · rintro x w' L hL ⟨h1, p, h2, h3, -⟩
   obtain ⟨b, rfl, hbb, hB⟩ := h3 (hL al (by simpa using hal))
   rw [hL st (by omega), if_pos rfl] at hB
   have e : frameOf a D x = fin (.pointer (some ⟨b, 0, none⟩)) := by
     rw [← hfinp]
     refine frameOf_congr D _ _ a fun s hs => ?_
     obtain ⟨j, hj, rfl⟩ := List.getElem_of_mem hs
     have h4 := h2 j hj (hL j (by omega))
     rw [List.getD_eq_getElem?_getD, List.getElem?_eq_getElem hj] at h4
     have h4 : x D[j] = (V.set al (.pointer (some ⟨b, 0, none⟩))).getD j undef := h4
     unfold valOf
     rw [List.Nodup.idxOf_getElem hnd j hj]
     exact h4
   rw [e]
   exact hend b w' h1 hbb hB
theorem wp_envA {id : Nat} {l : List Oper} {Q : Exit → Act → World → Prop} {a : Act} {w : World} (hm : P.follows .mixedOrders = true) (D : List Nat) (V : List Value) (al st : Nat) (t : TypeId) (zs cs : Array Value)
   (hb : envAB l.toArray D al st = true) (hsz : a.tmps.size ≤ D.getD st 0) (hstD : st < D.length) {fin : Value → Act} (hfin : ∀ p, putAll a D (V.set al p) = fin p)
   (hstep : EnvASteps P l.toArray fin w t zs cs al st 0 l V) (hend : ∀ b w', Below w.heap.size w w' → w.heap.size ≤ b → Blk w' b t cs → Q .normal (fin (.pointer (some ⟨b, 0, none⟩))) w') : (Code.region id l.toArray true).wp P Q a w :=
 (wpIn_wide (n := 8)).1 (wpIn_envA wide0 hm D V al st t zs cs hb hsz hstD hfin hstep hend)
end
end
section -- HRat
open Go Go.RowKit Go.Shelf
end
section -- HSame
open Go Go.RowKit Go.Shelf
def SameB (B2 : Nat) (Wb W : World) : Prop := B2 ≤ Wb.heap.size ∧ ∀ k, k < B2 → W.heap[k]? = Wb.heap[k]?
section
variable {B2 : Nat} {Wb W W' : World}
theorem SameB.size (h : SameB B2 Wb W) : B2 ≤ W.heap.size := by
 rcases Nat.eq_zero_or_pos B2 with h0 | h0
 · omega
 · have h1 := h.2 (B2 - 1) (by omega)
   rw [Array.getElem?_eq_getElem (show B2 - 1 < Wb.heap.size by have := h.1; omega)] at h1
   have := (Array.getElem?_eq_some_iff.1 h1).1
   omega
theorem SameB.refl (h : B2 ≤ Wb.heap.size) : SameB B2 Wb Wb := ⟨h, fun _ _ => rfl⟩
theorem SameB.trans {V : World} (h : SameB B2 Wb W) (h' : SameB B2 W V) : SameB B2 Wb V := ⟨h.1, fun k hk => (h'.2 k hk).trans (h.2 k hk)⟩
theorem SameB.cell (h : SameB B2 Wb W) {p : Addr} (hp : p.block < B2) : W.cell? p = Wb.cell? p := World.cell?_of_block (h.2 p.block hp)
theorem SameB.sl (h : SameB B2 Wb W) {B sz n : Nat} {v : Value} {xs : List Value} (hs : Sl Wb B sz v n xs) (hB : B ≤ B2) : Sl W B sz v n xs := hs.keep fun p hp => h.cell (by omega)
theorem SameB.ahead (h : SameB B2 Wb W) (ha : Ahead Wb) (hB : 0 < B2) : Ahead W := fun k hk => (h.cell (p := ⟨0, k, none⟩) hB).trans (ha k hk)
theorem SameB.maxl (h : SameB B2 Wb W) (hm : Tryz.MaxL Wb) {w0 : World} (h0 : Tryz.MaxL w0) (hB : w0.heap.size ≤ B2) : Tryz.MaxL W := by
 obtain ⟨m, hc⟩ := hm
 obtain ⟨m0, hc0⟩ := h0
 have := World.block_lt_of_cell? w0 _ hc0
 exact ⟨m, (h.cell (Nat.lt_of_lt_of_le this hB)).trans hc⟩
theorem SameB.rw_ (h : SameB B2 Wb W) {B : Nat} {v : Value} {l : List Rul} (hr : RW Wb B v l) (hB : B ≤ B2) : RW W B v l :=
 ⟨h.sl hr.ruls hB, h.ahead hr.ahead (Nat.lt_of_lt_of_le hr.tab hB), hr.tab, Nat.le_trans hB h.size⟩
theorem SameB.zw (h : SameB B2 Wb W) {B : Nat} {ev sv : Value} {l : List EraF} {S : List SetF} (hz : ZW Wb B ev sv l S) (hB : B ≤ B2) {w0 : World} (h0 : Tryz.MaxL w0) (hB0 : w0.heap.size ≤ B2) : ZW W B ev sv l S :=
 ⟨h.sl hz.eras hB, ⟨h.sl hz.sets.1 hB, fun s hs => h.sl (hz.sets.2 s hs) hB⟩, h.ahead hz.ahead (Nat.lt_of_lt_of_le hz.tab hB), hz.tab, h.maxl hz.maxl h0 hB0, Nat.le_trans hB h.size⟩
theorem SameB.then_below (h : SameB B2 Wb W) {B : Nat} (hb : Below B W W') (hB : B2 ≤ B) : SameB B2 Wb W' := ⟨h.1, fun k hk => (hb.block k (by omega)).trans (h.2 k hk)⟩
theorem SameB.then_fr (h : SameB B2 Wb W) {T : Nat → Prop} (hf : Fr T W W') (hT : ∀ k, k < B2 → ¬ T k) : SameB B2 Wb W' := ⟨h.1, fun k hk => (hf.block k (by have := h.size; omega) (hT k hk)).trans (h.2 k hk)⟩
end
theorem roundIn_in {P : Program} {a b l l' : Nat} {f : FuncId} {tmps : Array Value} {assign body : Code} {w : World} {R : Ending → World → Prop} (h : RoundIn Fence.wide a P l' f tmps assign body w R) : RoundIn (Fence.wide.inRound l) b P l' f tmps assign body w R :=
 ⟨trivial, fun c cs _ => h.2 c cs (room_wide _)⟩
end
end Go.Proofs.YteekjfgjmccdnaaGreatDoor
