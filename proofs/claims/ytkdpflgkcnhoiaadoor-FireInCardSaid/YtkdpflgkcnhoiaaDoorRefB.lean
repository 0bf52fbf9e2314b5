/-
  Layer 11's reference walked: a firing put into a row.
-/
import Derived.Test.YtkdpflgkcnhoiaaDoorFireIn
import Derived.Test.YtkdpflgkcnhoiaaDoorSrt
namespace Go.Proofs.YtkdpflgkcnhoiaaDoor
open Go Go.RowKit Go.Shelf
set_option maxRecDepth 100000

/-- A firing and its rule's place. -/
structure FrI where
  f : Fir
  i : Int
def friV (x : FrI) : List Value := [.int .i64 x.f.nominal, .int .i64 x.f.kind, .int .i64 x.f.save, .int .i64 x.i, .string x.f.letter]
def friA (x : FrI) : Value := .agg #[.int .i64 x.f.nominal, .int .i64 x.f.kind, .int .i64 x.f.save, .int .i64 x.i, .string x.f.letter]
def frisV (l : List FrI) : List Value := l.flatMap friV
theorem length_frisV (l : List FrI) : (frisV l).length = l.length * 5 := by
  induction l with
  | nil => rfl
  | cons c l ih => simp only [frisV, List.flatMap_cons, List.length_append, List.length_cons, friV, List.length_nil] at ih ⊢; omega
theorem frisV_append (l m : List FrI) : frisV (l ++ m) = frisV l ++ frisV m := by simp [frisV]
theorem frisV_at (l : List FrI) (i : Nat) (h : i < l.length) (k : Nat) (hk : k < 5) : (frisV l)[i * 5 + k]? = (friV l[i])[k]? := by
  induction l generalizing i with
  | nil => exact absurd h (by simp)
  | cons c l ih =>
    rcases i with _ | i
    · rw [Nat.zero_mul, Nat.zero_add]
      show (friV c ++ frisV l)[k]? = _
      rw [List.getElem?_append_left (by simp [friV]; omega)]
      rfl
    · have := ih i (by simpa using h)
      show (friV c ++ frisV l)[(i + 1) * 5 + k]? = _
      rw [List.getElem?_append_right (by simp [friV]; omega), show (i + 1) * 5 + k - (friV c).length = i * 5 + k by simp [friV]; omega, this]
      rfl
theorem frisV_one (l : List FrI) : ∀ u ∈ frisV l, u.oneCell' = true := by
  intro u hu
  unfold frisV at hu
  obtain ⟨c, -, hc⟩ := List.mem_flatMap.1 hu
  simp [friV] at hc
  rcases hc with rfl | rfl | rfl | rfl | rfl <;> rfl
/-- A slice of them. -/
def Fris (w : World) (B : Nat) (v : Value) (l : List FrI) : Prop := Sl w B 5 v l.length (frisV l)
section
variable {w w' : World} {B B' : Nat} {v : Value} {l : List FrI}
theorem Fris.form (h : Fris w B v l) : ∃ A c, v = .slice A l.length c ∧ l.length ≤ c ∧ c ≤ maxLen := by
  obtain ⟨A, c, rfl, h1, h2, -⟩ := h
  exact ⟨A, c, rfl, h1, h2⟩
theorem Fris.below (h : Fris w B v l) (hb : Below B w w') : Fris w' B v l := Sl.below h hb
theorem Fris.cells (h : Fris w B v l) (hl : 0 < l.length) : ∃ b o c, v = .slice (some ⟨b, o, none⟩) l.length c ∧ b < B ∧ ∀ i (hi : i < l.length), w.cell? ⟨b, o + i * 5, none⟩ = some (.int .i64 (l[i]).f.nominal) ∧ w.cell? ⟨b, o + i * 5 + 1, none⟩ = some (.int .i64 (l[i]).f.kind) ∧ w.cell? ⟨b, o + i * 5 + 2, none⟩ = some (.int .i64 (l[i]).f.save) ∧ w.cell? ⟨b, o + i * 5 + 3, none⟩ = some (.int .i64 (l[i]).i) ∧ w.cell? ⟨b, o + i * 5 + 4, none⟩ = some (.string (l[i]).f.letter) := by
  obtain ⟨b, o, c, e, hb, hc⟩ := Sl.at_ h hl
  refine ⟨b, o, c, e, hb, fun i hi => ?_⟩
  have hk : ∀ k u, k < 5 → (friV l[i])[k]? = some u → w.cell? ⟨b, o + i * 5 + k, none⟩ = some u := fun k u hk hu => by
    rw [Nat.add_assoc]
    exact hc _ u (by rw [frisV_at l i hi k hk]; exact hu)
  exact ⟨hk 0 _ (by omega) rfl, hk 1 _ (by omega) rfl, hk 2 _ (by omega) rfl, hk 3 _ (by omega) rfl, hk 4 _ (by omega) rfl⟩
/-- The beginning of a slice, and what is behind it. -/
theorem Fris.front {A : Option Addr} {c n : Nat} (h : Fris w B (.slice A l.length c) l) (hn : n ≤ l.length) : Fris w B (.slice A n c) (l.take n) := by
  obtain ⟨A', c', e, h1, h2, h3, h4⟩ := h
  injection e with e1 e2 e3
  subst e1 e3
  have hl : (l.take n).length = n := by rw [List.length_take]; omega
  unfold Fris
  rw [hl]
  refine ⟨_, _, rfl, by omega, h2, by rw [length_frisV, hl], fun hp => ?_⟩
  obtain ⟨b, o, rfl, hb, hc⟩ := h4 (by omega)
  refine ⟨b, o, rfl, hb, fun j u hu => hc j u ?_⟩
  rw [← List.take_append_drop n l, frisV_append, List.getElem?_append_left (List.getElem?_eq_some_iff.1 hu).1]
  exact hu
theorem Fris.back {A : Option Addr} {c n : Nat} (h : Fris w B (.slice A l.length c) l) (hn : n ≤ l.length) : Fris w B (.slice (if c = n then A else A.map (·.add (n * 5))) (l.length - n) (c - n)) (l.drop n) := by
  obtain ⟨A', c', e, h1, h2, h3, h4⟩ := h
  injection e with e1 e2 e3
  subst e1 e3
  have hl : (l.drop n).length = l.length - n := List.length_drop
  unfold Fris
  rw [hl]
  refine ⟨_, _, rfl, by omega, by omega, by rw [length_frisV, hl], fun hp => ?_⟩
  obtain ⟨b, o, rfl, hb, hc⟩ := h4 (by omega)
  rw [if_neg (by omega)]
  refine ⟨b, o + n * 5, by simp [Addr.add_lit], hb, fun j u hu => ?_⟩
  rw [Nat.add_assoc]
  refine hc _ u ?_
  rw [← List.take_append_drop n l, frisV_append, List.getElem?_append_right (by rw [length_frisV, List.length_take]; omega), length_frisV, List.length_take, Nat.min_eq_left hn, Nat.add_sub_cancel_left]
  exact hu
end
theorem Fris.backM {w : World} {B : Nat} {l : List FrI} {A : Option Addr} {c n : Nat} (h : Fris w B (.slice A l.length c) l) (hn : n ≤ l.length) : Sl w B 5 (.slice (if c = n then A else A.map (·.add (n * 5))) (l.length - n) (c - n)) (l.length - n) (frisV (l.drop n)) := by
  have h0 := h.back hn
  unfold Fris at h0
  rwa [List.length_drop] at h0
theorem infoFri : (Tryd.prog.info? 37).map (fun i => (i.zero, i.size, i.bytes)) = some (some (.agg #[.int .i64 0, .int .i64 0, .int .i64 0, .int .i64 0, .string ⟨#[]⟩]), 5, 48) := by kernel_rfl
/-- What put leaves. -/
def PutPost (w : World) (l : List FrI) (x : FrI) (e : Ending) (w' : World) : Prop := ∃ u A C, e = .returned u ∧ l = A ++ C ∧ (∀ a ∈ A, a.f.nominal ≤ x.f.nominal) ∧ (∀ c ∈ C, x.f.nominal < c.f.nominal) ∧ Fris w' w'.heap.size u (A ++ x :: C) ∧ Below w.heap.size w w'
set_option maxHeartbeats 2000000 in
theorem put_any (w : World) (B : Nat) (v : Value) (l : List FrI) (x : FrI) (hv : Fris w B v l) (hB : B ≤ w.heap.size) (hl : l.length ≤ 100000) (hi : ∀ y ∈ l, y.i ≤ x.i) (hs : l.Pairwise (fun a b => a.f.nominal ≤ b.f.nominal)) :
    Calls Tryd.prog 17 #[v, friA x] w (PutPost w l x) := by
  obtain ⟨i0, hi0, hz0, hz1, hz2⟩ := info_parts infoFri
  have HB0 := Lib.hid ((Below.refl w.heap.size w).alloc (Nat.le_refl _) (.cells #[.int .i64 x.f.nominal, .int .i64 x.f.kind, .int .i64 x.f.save, .int .i64 x.i, .string x.f.letter] 37))
  have hx := Blk.new w 37 #[.int .i64 x.f.nominal, .int .i64 x.f.kind, .int .i64 x.f.save, .int .i64 x.i, .string x.f.letter]
  have HXB := Lib.hid hx
  have HV := Lib.hid (hv.below (HB0.out.mono hB))
  obtain ⟨A, c, rfl, hlc, hcm⟩ := hv.form
  unfold maxLen at hcm
  have HI := Lib.hid (fun k (hk : k < l.length) => hi l[k] (List.getElem_mem hk))
  have HS := Lib.hid hs
  clear hv hi hs
  unfold friA
  go_enter Tryd.func17, Tryd.ntmps17
  go_wp2_with fail
  obtain ⟨W0, hW0⟩ : ∃ W, w.alloc (.cells #[.int .i64 x.f.nominal, .int .i64 x.f.kind, .int .i64 x.f.save, .int .i64 x.i, .string x.f.letter] 37) = W := ⟨_, rfl⟩
  rw [hW0] at HB0 HXB HV ⊢
  clear hW0 hx
  go_loopw [5] (fun nv wr => ∃ n : Nat, n ≤ l.length ∧ nv = .int .i64 n ∧ (∀ k (hk : k < l.length), n ≤ k → x.f.nominal < (l[k]).f.nominal) ∧ Below W0.heap.size W0 wr) (fun nv _ => (intOf nv).toNat)
  case atStart => exact ⟨l.length, Nat.le_refl _, rfl, fun k hk h => by omega, Below.refl _ _⟩
  case round =>
    obtain ⟨n, hn, rfl, hbig, hbw⟩ := hrel
    have HBG := Lib.hid hbig
    have HBW := Lib.hid hbw
    have hxr := HXB.out.below hbw HXB.out.lt
    have hvr := HV.out.below (B := B) (hbw.mono (Nat.le_trans hB HB0.out.size))
    have hws := hbw.size
    clear hbig hbw
    have HVR := Lib.hid hvr
    have HXR := Lib.hid hxr
    have x0 : wr.cell? ⟨w.heap.size, 0, none⟩ = some (.int .i64 x.f.nominal) := hxr.cell 0 rfl
    have x1 : wr.cell? ⟨w.heap.size, 1, none⟩ = some (.int .i64 x.f.kind) := hxr.cell 1 rfl
    have x2 : wr.cell? ⟨w.heap.size, 2, none⟩ = some (.int .i64 x.f.save) := hxr.cell 2 rfl
    have x3 : wr.cell? ⟨w.heap.size, 3, none⟩ = some (.int .i64 x.i) := hxr.cell 3 rfl
    have x4 : wr.cell? ⟨w.heap.size, 4, none⟩ = some (.string x.f.letter) := hxr.cell 4 rfl
    by_cases h0 : n = 0
    · have hd : decide ((0 : Int) < (n : Int)) = false := decide_eq_false (by omega)
      have hd3 : decide (0 < n) = false := decide_eq_false (by omega)
      have HAC := Lib.hid (show (∀ a ∈ l.take n, a.f.nominal ≤ x.f.nominal) ∧ (∀ c ∈ l.drop n, x.f.nominal < c.f.nominal) from ⟨fun a ha => by rw [h0] at ha; simp at ha, fun c hc => by
        rw [h0] at hc
        obtain ⟨k, hk, rfl⟩ := List.getElem_of_mem (by simpa using hc)
        exact HBG.out k hk (by omega)⟩)
      clear h0
      go_wp2_with fail
      refine wp_env (fin := ?fnZ) (by kernel_rfl) [9, 10, 11, 12, 13, 14, 15, 16, 17, 18, 19, 20, 21, 22, 23, 24, 25, 26, 27, 28, 29, 30, 31, 32, 33, 34, 35, 36, 37, 38, 39, 40, 41, 42, 43, 44, 45, 46, 47, 48, 49]
        [.int .i64 n, .bool false, .bool false, undef, undef, undef, undef, undef, undef, undef, undef, undef, undef, undef, undef, undef, undef, undef, undef, undef, undef, undef, undef, undef, undef, undef, undef, undef, undef, undef, undef, undef, undef, undef, undef, undef, undef, undef, undef, undef, .bool false] (by kernel_rfl) ?finZ ?stepsZ ?nextZ
      case finZ =>
        simp only [putAll, Act.put, List.setIfInBounds_toArray, List.set_cons_succ, List.set_cons_zero]
        rfl
      case stepsZ =>
        refine ⟨.inr ⟨by kernel_rfl, fun w1_ hB_ => ?_⟩, .inr ⟨by kernel_rfl, fun w1_ hB_ => ?_⟩, .inr ⟨by kernel_rfl, fun w1_ hB_ => ?_⟩, .inl ⟨by kernel_rfl, rfl⟩, .inl ⟨by kernel_rfl, rfl⟩, .inl ⟨by kernel_rfl, rfl⟩, .inl ⟨by kernel_rfl, rfl⟩, .inl ⟨by kernel_rfl, rfl⟩, .inl ⟨by kernel_rfl, rfl⟩, .inl ⟨by kernel_rfl, rfl⟩, .inl ⟨by kernel_rfl, rfl⟩, .inl ⟨by kernel_rfl, rfl⟩, .inl ⟨by kernel_rfl, rfl⟩, .inl ⟨by kernel_rfl, rfl⟩, .inl ⟨by kernel_rfl, rfl⟩, .inl ⟨by kernel_rfl, rfl⟩, .inl ⟨by kernel_rfl, rfl⟩, .inl ⟨by kernel_rfl, rfl⟩, .inl ⟨by kernel_rfl, rfl⟩, .inl ⟨by kernel_rfl, rfl⟩, .inl ⟨by kernel_rfl, rfl⟩, .inl ⟨by kernel_rfl, rfl⟩, .inl ⟨by kernel_rfl, rfl⟩, .inl ⟨by kernel_rfl, rfl⟩, .inl ⟨by kernel_rfl, rfl⟩, .inl ⟨by kernel_rfl, rfl⟩, .inl ⟨by kernel_rfl, rfl⟩, .inl ⟨by kernel_rfl, rfl⟩, .inl ⟨by kernel_rfl, rfl⟩, .inl ⟨by kernel_rfl, rfl⟩, .inl ⟨by kernel_rfl, rfl⟩, .inl ⟨by kernel_rfl, rfl⟩, .inl ⟨by kernel_rfl, rfl⟩, .inl ⟨by kernel_rfl, rfl⟩, .inl ⟨by kernel_rfl, rfl⟩, .inl ⟨by kernel_rfl, rfl⟩, .inl ⟨by kernel_rfl, rfl⟩, .inl ⟨by kernel_rfl, rfl⟩, .inl ⟨by kernel_rfl, rfl⟩, .inl ⟨by kernel_rfl, rfl⟩, .inr ⟨by kernel_rfl, fun w1_ hB_ => ?_⟩, trivial⟩
        all_goals
          go_simp
          first
            | exact ⟨rfl, Below.refl _ _⟩
            | (rw [decide_eq_true (by omega)]; exact ⟨rfl, Below.refl _ _⟩)
            | (rw [decide_eq_false (by omega)]; exact ⟨rfl, Below.refl _ _⟩)
            | (rw [if_pos (by omega)]; exact ⟨rfl, Below.refl _ _⟩)
            | (rw [IntWalk.i64_in _ (by omega)]; exact ⟨rfl, Below.refl _ _⟩)
            | done
      case nextZ =>
      clear hd hd3
      intro w5 hb5
      have HB5 := Lib.hid (HBW.out.trans (hb5.mono HBW.out.size))
      have HVR := Lib.hid (HVR.out.below (B := B) (hb5.mono (Nat.le_trans hB (Nat.le_trans HB0.out.size HBW.out.size))))
      have HXR := Lib.hid (HXR.out.below hb5 (Nat.lt_of_lt_of_le HXB.out.lt HBW.out.size))
      have hws5 := hb5.size
      have HWW5 := Lib.hid (HB0.out.trans (HB5.out.mono HB0.out.size))
      have hs5 := HWW5.out.size
      have HFRN := Lib.hid (show Sl w5 B 5 (.slice A n c) n (frisV (l.take n)) by have := HVR.out.front hn; unfold Fris at this; rwa [List.length_take, Nat.min_eq_left hn] at this)
      clear hb5 x0 x1 x2 x3 x4
      go_wp2_with first
        | (at_builtin; refine wpList_append_sl rfl _ _ 33 rfl w.heap.size 37 i0 (.agg #[.int .i64 0, .int .i64 0, .int .i64 0, .int .i64 0, .string ⟨#[]⟩]) 5 48 Tryd.underlying33 hi0 hz0 hz1 hz2 rfl (by decide) (.slice none 0 0) 0 [] rfl (World.ownsRow_nil _ _ _ _) _ B n _ rfl HFRN.out (frisV_one _) (by unfold maxLen; omega) (by omega) hs5 ?_; intro v7 w7 hown7 hgrow7; have hb7 : Below w5.heap.size w5 w7 := (Below.refl _ _).grown hgrow7 (Nat.le_refl _) (fun k e => by cases e); have HB7 := Lib.hid (HWW5.out.trans (hb7.mono hs5)); have HX7 := Lib.hid (HXR.out.below hb7 HXR.out.lt); have HV7 := Lib.hid (HVR.out.below (B := B) (hb7.mono (Nat.le_trans hB hs5))); have HOW7 := Lib.hid hown7; clear hb7 hown7 hgrow7; have x0 := HX7.out.cell 0 (v := .int .i64 x.f.nominal) rfl; have x1 := HX7.out.cell 1 (v := .int .i64 x.f.kind) rfl; have x2 := HX7.out.cell 2 (v := .int .i64 x.f.save) rfl; have x3 := HX7.out.cell 3 (v := .int .i64 x.i) rfl; have x4 := HX7.out.cell 4 (v := .string x.f.letter) rfl; have hs7 := HB7.out.size)
        | (at_builtin; have _t := HOW7; refine wpList_append_own _ rfl _ _ 33 rfl w.heap.size 37 i0 (.agg #[.int .i64 0, .int .i64 0, .int .i64 0, .int .i64 0, .string ⟨#[]⟩]) 5 48 Tryd.underlying33 hi0 hz0 hz1 hz2 rfl (by decide) v7 (0 + n) _ rfl (HOW7.out.alloc _) ⟨w7.heap.size, 0, none⟩ 1 1 (friV x) rfl rfl (fun j y hy => by rw [Addr.add_lit, Nat.zero_add]; exact (cell_new w7 _ _ _ j).trans (by simpa [friV] using hy)) (by simp [friV, Value.oneCell']) (by unfold maxLen; omega) (by omega) (by simp; omega) ?_; intro v8 w8 hown8 hgrow8 hnil8; go_loud (have HB8 := Lib.hid ((HB7.out.alloc hs7 _).grown hgrow8 (by simp; omega) (fun g e => (HOW7.out.lt g e).1)); have HV8 := Lib.hid (HV7.out.below (B := B) ((((Below.refl B w7).alloc (Nat.le_trans hB hs7) _)).grown hgrow8 (by simp; omega) (fun g e => Nat.le_trans hB (HOW7.out.lt g e).1))); have HOW8 := Lib.hid hown8; have hs8 := HB8.out.size; have HBKN := Lib.hid (HV8.out.backM hn); clear hown8 hgrow8 hnil8 x0 x1 x2 x3 x4))
        | (at_builtin; have _t := HOW8; go_loud (refine wpList_append_sl rfl _ _ 33 rfl w.heap.size 37 i0 (.agg #[.int .i64 0, .int .i64 0, .int .i64 0, .int .i64 0, .string ⟨#[]⟩]) 5 48 Tryd.underlying33 hi0 hz0 hz1 hz2 rfl (by decide) v8 (0 + n + 1) _ rfl HOW8.out _ B (l.length - n) _ rfl HBKN.out (frisV_one _) (by unfold maxLen; omega) (by omega) hs8 ?_); intro v9 w9 hown9 hgrow9)
      all_goals
        go_ret
        have hb9 := HB8.out.grown hgrow9 hs8 (fun g e => (HOW8.out.lt g e).1)
        refine ⟨v9, l.take n, l.drop n, rfl, (List.take_append_drop n l).symm, HAC.out.1, HAC.out.2, ?_, hb9⟩
        have h := Sl.of_own hown9
        unfold Fris
        rw [List.nil_append, show 0 + n + 1 + (l.length - n) = (l.take n ++ x :: l.drop n).length by simp; omega] at h
        rw [show frisV (l.take n ++ x :: l.drop n) = frisV (l.take n) ++ friV x ++ frisV (l.drop n) by simp [frisV]]
        exact h
    · obtain ⟨p, hp⟩ : ∃ p, n = p + 1 := ⟨n - 1, by omega⟩
      have hd : decide ((0 : Int) < (n : Int)) = true := decide_eq_true (by omega)
      have e1 : (n : Int) - 1 = (p : Int) := by omega
      have hpl : p < l.length := by omega
      obtain ⟨b, o, c', e, hb, hc⟩ := hvr.cells (by omega)
      cases e
      obtain ⟨d0, -, -, d3, -⟩ := hc p hpl
      have d0' : wr.cell? ⟨b, o + p * 5, none⟩ = some (.int .i64 (l[p]).f.nominal) := d0
      have d3' : wr.cell? ⟨b, o + p * 5 + 3, none⟩ = some (.int .i64 (l[p]).i) := d3
      have hii := HI.out p hpl
      obtain ⟨y, hy⟩ : ∃ y, l[p] = y := ⟨_, rfl⟩
      rw [hy] at d0' d3' hii
      have HY := Lib.hid hy
      have hbw_ : b < wr.heap.size := Nat.lt_of_lt_of_le hb (Nat.le_trans hB (Nat.le_trans HB0.out.size hws))
      have hww_ : w.heap.size < wr.heap.size := Nat.lt_of_lt_of_le HXB.out.lt hws
      have HCELL := Lib.hid (fun (W : World) (h : Below wr.heap.size wr W) => show W.cell? ⟨b, o + p * 5, none⟩ = some (.int .i64 y.f.nominal) ∧ W.cell? ⟨b, o + p * 5 + 3, none⟩ = some (.int .i64 y.i) ∧ W.cell? ⟨w.heap.size, 0, none⟩ = some (.int .i64 x.f.nominal) ∧ W.cell? ⟨w.heap.size, 3, none⟩ = some (.int .i64 x.i) from ⟨(h.cell hbw_).trans d0', (h.cell hbw_).trans d3', (h.cell hww_).trans x0, (h.cell hww_).trans x3⟩)
      clear hc d0 d3 hy hbw_ hww_ d0' d3'
      by_cases hgt : x.f.nominal < y.f.nominal
      · have hg : decide (x.f.nominal < y.f.nominal) = true := decide_eq_true hgt
        have HP := Lib.hid hp
        clear hp
        go_wp2_with fail
        refine wp_env (fin := ?fnG) (by kernel_rfl) [9, 10, 11, 12, 13, 14, 15, 16, 17, 18, 19, 20, 21, 22, 23, 24, 25, 26, 27, 28, 29, 30, 31, 32, 33, 34, 35, 36, 37, 38, 39, 40, 41, 42, 43, 44, 45, 46, 47, 48, 49]
          [.int .i64 n, .bool true, .bool true, .slice (some ⟨b, o, none⟩) l.length c, .int .i64 n, .int .i64 p, .pointer (some ⟨b, o + p * 5, none⟩), .pointer (some ⟨b, o + p * 5, none⟩), .pointer (some ⟨b, o + p * 5, none⟩), .int .i64 y.f.nominal, .pointer (some ⟨w.heap.size, 0, none⟩), .pointer (some ⟨w.heap.size, 0, none⟩), .int .i64 x.f.nominal, .bool true, .bool true, undef, undef, undef, undef, undef, undef, undef, undef, undef, undef, undef, undef, undef, undef, undef, undef, undef, undef, undef, undef, undef, undef, undef, undef, .bool true, .bool true] (by kernel_rfl) ?finG ?stepsG ?nextG
        case finG =>
          simp only [putAll, Act.put, List.setIfInBounds_toArray, List.set_cons_succ, List.set_cons_zero]
          rfl
        case stepsG =>
          refine ⟨.inr ⟨by kernel_rfl, fun w1_ hB_ => ?_⟩, .inr ⟨by kernel_rfl, fun w1_ hB_ => ?_⟩, .inr ⟨by kernel_rfl, fun w1_ hB_ => ?_⟩, .inr ⟨by kernel_rfl, fun w1_ hB_ => ?_⟩, .inr ⟨by kernel_rfl, fun w1_ hB_ => ?_⟩, .inr ⟨by kernel_rfl, fun w1_ hB_ => ?_⟩, .inr ⟨by kernel_rfl, fun w1_ hB_ => ?_⟩, .inr ⟨by kernel_rfl, fun w1_ hB_ => ?_⟩, .inr ⟨by kernel_rfl, fun w1_ hB_ => ?_⟩, .inr ⟨by kernel_rfl, fun w1_ hB_ => ?_⟩, .inr ⟨by kernel_rfl, fun w1_ hB_ => ?_⟩, .inr ⟨by kernel_rfl, fun w1_ hB_ => ?_⟩, .inr ⟨by kernel_rfl, fun w1_ hB_ => ?_⟩, .inr ⟨by kernel_rfl, fun w1_ hB_ => ?_⟩, .inr ⟨by kernel_rfl, fun w1_ hB_ => ?_⟩, .inl ⟨by kernel_rfl, rfl⟩, .inl ⟨by kernel_rfl, rfl⟩, .inl ⟨by kernel_rfl, rfl⟩, .inl ⟨by kernel_rfl, rfl⟩, .inl ⟨by kernel_rfl, rfl⟩, .inl ⟨by kernel_rfl, rfl⟩, .inl ⟨by kernel_rfl, rfl⟩, .inl ⟨by kernel_rfl, rfl⟩, .inl ⟨by kernel_rfl, rfl⟩, .inl ⟨by kernel_rfl, rfl⟩, .inl ⟨by kernel_rfl, rfl⟩, .inl ⟨by kernel_rfl, rfl⟩, .inl ⟨by kernel_rfl, rfl⟩, .inl ⟨by kernel_rfl, rfl⟩, .inl ⟨by kernel_rfl, rfl⟩, .inl ⟨by kernel_rfl, rfl⟩, .inl ⟨by kernel_rfl, rfl⟩, .inl ⟨by kernel_rfl, rfl⟩, .inl ⟨by kernel_rfl, rfl⟩, .inl ⟨by kernel_rfl, rfl⟩, .inl ⟨by kernel_rfl, rfl⟩, .inl ⟨by kernel_rfl, rfl⟩, .inl ⟨by kernel_rfl, rfl⟩, .inl ⟨by kernel_rfl, rfl⟩, .inr ⟨by kernel_rfl, fun w1_ hB_ => ?_⟩, .inr ⟨by kernel_rfl, fun w1_ hB_ => ?_⟩, trivial⟩
          all_goals
            obtain ⟨d0_, d3_, q0_, q3_⟩ := HCELL.out w1_ hB_
            go_simp
            first
              | exact ⟨rfl, Below.refl _ _⟩
              | (rw [decide_eq_true (by omega)]; exact ⟨rfl, Below.refl _ _⟩)
              | (rw [decide_eq_false (by omega)]; exact ⟨rfl, Below.refl _ _⟩)
              | (rw [if_pos (by omega)]; exact ⟨rfl, Below.refl _ _⟩)
              | (rw [IntWalk.i64_in _ (by omega)]; exact ⟨rfl, Below.refl _ _⟩)
              | done
        case nextG =>
        intro w5 hb5
        have HB5 := Lib.hid (HBW.out.trans (hb5.mono HBW.out.size))
        clear hb5
        go_wp2_with fail
        go_roundw
        case rel => exact ⟨p, by omega, by first | rfl | go_num, fun k hk h => by
          rcases Nat.lt_or_ge p k with h1 | h1
          · exact HBG.out k hk (by have := HP.out; omega)
          · have : k = p := by omega
            subst this
            rw [HY.out]
            exact hgt, HB5.out⟩
        case measure => have := HP.out; simp [intOf]; omega
      · have hg : decide (x.f.nominal < y.f.nominal) = false := decide_eq_false hgt
        have hg3 : decide (x.i < y.i) = false := decide_eq_false (by omega)
        have HAC := Lib.hid (show (∀ a ∈ l.take n, a.f.nominal ≤ x.f.nominal) ∧ (∀ c ∈ l.drop n, x.f.nominal < c.f.nominal) from ⟨fun a ha => by
          rw [hp] at ha
          have h1 := take_le (key := fun y : FrI => y.f.nominal) HS.out hpl a ha
          rw [HY.out] at h1
          omega, fun c hc => by
          obtain ⟨k, hk, rfl⟩ := List.getElem_of_mem hc
          rw [List.getElem_drop]
          exact HBG.out _ _ (by omega)⟩)
        clear hp
        by_cases heq : y.f.nominal = x.f.nominal
        · have hg2 : (y.f.nominal == x.f.nominal) = true := by simpa using heq
          go_wp2_with fail
          refine wp_env (fin := ?fnE) (by kernel_rfl) [9, 10, 11, 12, 13, 14, 15, 16, 17, 18, 19, 20, 21, 22, 23, 24, 25, 26, 27, 28, 29, 30, 31, 32, 33, 34, 35, 36, 37, 38, 39, 40, 41, 42, 43, 44, 45, 46, 47, 48, 49]
            [.int .i64 n, .bool true, .bool true, .slice (some ⟨b, o, none⟩) l.length c, .int .i64 n, .int .i64 p, .pointer (some ⟨b, o + p * 5, none⟩), .pointer (some ⟨b, o + p * 5, none⟩), .pointer (some ⟨b, o + p * 5, none⟩), .int .i64 y.f.nominal, .pointer (some ⟨w.heap.size, 0, none⟩), .pointer (some ⟨w.heap.size, 0, none⟩), .int .i64 x.f.nominal, .bool false, .bool false, .slice (some ⟨b, o, none⟩) l.length c, .int .i64 n, .int .i64 p, .pointer (some ⟨b, o + p * 5, none⟩), .pointer (some ⟨b, o + p * 5, none⟩), .pointer (some ⟨b, o + p * 5, none⟩), .int .i64 y.f.nominal, .pointer (some ⟨w.heap.size, 0, none⟩), .pointer (some ⟨w.heap.size, 0, none⟩), .int .i64 x.f.nominal, .bool true, .bool true, .slice (some ⟨b, o, none⟩) l.length c, .int .i64 n, .int .i64 p, .pointer (some ⟨b, o + p * 5, none⟩), .pointer (some ⟨b, o + p * 5, none⟩), .pointer (some ⟨b, o + p * 5 + 3, none⟩), .int .i64 y.i, .pointer (some ⟨w.heap.size, 0, none⟩), .pointer (some ⟨w.heap.size, 3, none⟩), .int .i64 x.i, .bool false, .bool false, .bool false, .bool false] (by kernel_rfl) ?finE ?stepsE ?nextE
          case finE =>
            simp only [putAll, Act.put, List.setIfInBounds_toArray, List.set_cons_succ, List.set_cons_zero]
            rfl
          case stepsE =>
            refine ⟨.inr ⟨by kernel_rfl, fun w1_ hB_ => ?_⟩, .inr ⟨by kernel_rfl, fun w1_ hB_ => ?_⟩, .inr ⟨by kernel_rfl, fun w1_ hB_ => ?_⟩, .inr ⟨by kernel_rfl, fun w1_ hB_ => ?_⟩, .inr ⟨by kernel_rfl, fun w1_ hB_ => ?_⟩, .inr ⟨by kernel_rfl, fun w1_ hB_ => ?_⟩, .inr ⟨by kernel_rfl, fun w1_ hB_ => ?_⟩, .inr ⟨by kernel_rfl, fun w1_ hB_ => ?_⟩, .inr ⟨by kernel_rfl, fun w1_ hB_ => ?_⟩, .inr ⟨by kernel_rfl, fun w1_ hB_ => ?_⟩, .inr ⟨by kernel_rfl, fun w1_ hB_ => ?_⟩, .inr ⟨by kernel_rfl, fun w1_ hB_ => ?_⟩, .inr ⟨by kernel_rfl, fun w1_ hB_ => ?_⟩, .inr ⟨by kernel_rfl, fun w1_ hB_ => ?_⟩, .inr ⟨by kernel_rfl, fun w1_ hB_ => ?_⟩, .inr ⟨by kernel_rfl, fun w1_ hB_ => ?_⟩, .inr ⟨by kernel_rfl, fun w1_ hB_ => ?_⟩, .inr ⟨by kernel_rfl, fun w1_ hB_ => ?_⟩, .inr ⟨by kernel_rfl, fun w1_ hB_ => ?_⟩, .inr ⟨by kernel_rfl, fun w1_ hB_ => ?_⟩, .inr ⟨by kernel_rfl, fun w1_ hB_ => ?_⟩, .inr ⟨by kernel_rfl, fun w1_ hB_ => ?_⟩, .inr ⟨by kernel_rfl, fun w1_ hB_ => ?_⟩, .inr ⟨by kernel_rfl, fun w1_ hB_ => ?_⟩, .inr ⟨by kernel_rfl, fun w1_ hB_ => ?_⟩, .inr ⟨by kernel_rfl, fun w1_ hB_ => ?_⟩, .inr ⟨by kernel_rfl, fun w1_ hB_ => ?_⟩, .inr ⟨by kernel_rfl, fun w1_ hB_ => ?_⟩, .inr ⟨by kernel_rfl, fun w1_ hB_ => ?_⟩, .inr ⟨by kernel_rfl, fun w1_ hB_ => ?_⟩, .inr ⟨by kernel_rfl, fun w1_ hB_ => ?_⟩, .inr ⟨by kernel_rfl, fun w1_ hB_ => ?_⟩, .inr ⟨by kernel_rfl, fun w1_ hB_ => ?_⟩, .inr ⟨by kernel_rfl, fun w1_ hB_ => ?_⟩, .inr ⟨by kernel_rfl, fun w1_ hB_ => ?_⟩, .inr ⟨by kernel_rfl, fun w1_ hB_ => ?_⟩, .inr ⟨by kernel_rfl, fun w1_ hB_ => ?_⟩, .inr ⟨by kernel_rfl, fun w1_ hB_ => ?_⟩, .inr ⟨by kernel_rfl, fun w1_ hB_ => ?_⟩, .inr ⟨by kernel_rfl, fun w1_ hB_ => ?_⟩, .inr ⟨by kernel_rfl, fun w1_ hB_ => ?_⟩, trivial⟩
            all_goals
              obtain ⟨d0_, d3_, q0_, q3_⟩ := HCELL.out w1_ hB_
              go_simp
              first
                | exact ⟨rfl, Below.refl _ _⟩
                | (rw [decide_eq_true (by omega)]; exact ⟨rfl, Below.refl _ _⟩)
                | (rw [decide_eq_false (by omega)]; exact ⟨rfl, Below.refl _ _⟩)
                | (rw [if_pos (by omega)]; exact ⟨rfl, Below.refl _ _⟩)
                | (rw [IntWalk.i64_in _ (by omega)]; exact ⟨rfl, Below.refl _ _⟩)
                | done
          case nextE =>
          clear hd hg hg2 hg3 heq hgt e1
          obtain ⟨A, hA⟩ : ∃ A, (some ⟨b, o, none⟩ : Option Addr) = A := ⟨_, rfl⟩
          rw [hA] at HVR ⊢
          clear hA
          intro w5 hb5
          have HB5 := Lib.hid (HBW.out.trans (hb5.mono HBW.out.size))
          have HVR := Lib.hid (HVR.out.below (B := B) (hb5.mono (Nat.le_trans hB (Nat.le_trans HB0.out.size HBW.out.size))))
          have HXR := Lib.hid (HXR.out.below hb5 (Nat.lt_of_lt_of_le HXB.out.lt HBW.out.size))
          have hws5 := hb5.size
          have HWW5 := Lib.hid (HB0.out.trans (HB5.out.mono HB0.out.size))
          have hs5 := HWW5.out.size
          have HFRN := Lib.hid (show Sl w5 B 5 (.slice A n c) n (frisV (l.take n)) by have := HVR.out.front hn; unfold Fris at this; rwa [List.length_take, Nat.min_eq_left hn] at this)
          clear hb5 x0 x1 x2 x3 x4
          go_wp2_with first
            | (at_builtin; refine wpList_append_sl rfl _ _ 33 rfl w.heap.size 37 i0 (.agg #[.int .i64 0, .int .i64 0, .int .i64 0, .int .i64 0, .string ⟨#[]⟩]) 5 48 Tryd.underlying33 hi0 hz0 hz1 hz2 rfl (by decide) (.slice none 0 0) 0 [] rfl (World.ownsRow_nil _ _ _ _) _ B n _ rfl HFRN.out (frisV_one _) (by unfold maxLen; omega) (by omega) hs5 ?_; intro v7 w7 hown7 hgrow7; have hb7 : Below w5.heap.size w5 w7 := (Below.refl _ _).grown hgrow7 (Nat.le_refl _) (fun k e => by cases e); have HB7 := Lib.hid (HWW5.out.trans (hb7.mono hs5)); have HX7 := Lib.hid (HXR.out.below hb7 HXR.out.lt); have HV7 := Lib.hid (HVR.out.below (B := B) (hb7.mono (Nat.le_trans hB hs5))); have HOW7 := Lib.hid hown7; clear hb7 hown7 hgrow7; have x0 := HX7.out.cell 0 (v := .int .i64 x.f.nominal) rfl; have x1 := HX7.out.cell 1 (v := .int .i64 x.f.kind) rfl; have x2 := HX7.out.cell 2 (v := .int .i64 x.f.save) rfl; have x3 := HX7.out.cell 3 (v := .int .i64 x.i) rfl; have x4 := HX7.out.cell 4 (v := .string x.f.letter) rfl; have hs7 := HB7.out.size)
            | (at_builtin; have _t := HOW7; refine wpList_append_own _ rfl _ _ 33 rfl w.heap.size 37 i0 (.agg #[.int .i64 0, .int .i64 0, .int .i64 0, .int .i64 0, .string ⟨#[]⟩]) 5 48 Tryd.underlying33 hi0 hz0 hz1 hz2 rfl (by decide) v7 (0 + n) _ rfl (HOW7.out.alloc _) ⟨w7.heap.size, 0, none⟩ 1 1 (friV x) rfl rfl (fun j y hy => by rw [Addr.add_lit, Nat.zero_add]; exact (cell_new w7 _ _ _ j).trans (by simpa [friV] using hy)) (by simp [friV, Value.oneCell']) (by unfold maxLen; omega) (by omega) (by simp; omega) ?_; intro v8 w8 hown8 hgrow8 hnil8; go_loud (have HB8 := Lib.hid ((HB7.out.alloc hs7 _).grown hgrow8 (by simp; omega) (fun g e => (HOW7.out.lt g e).1)); have HV8 := Lib.hid (HV7.out.below (B := B) ((((Below.refl B w7).alloc (Nat.le_trans hB hs7) _)).grown hgrow8 (by simp; omega) (fun g e => Nat.le_trans hB (HOW7.out.lt g e).1))); have HOW8 := Lib.hid hown8; have hs8 := HB8.out.size; have HBKN := Lib.hid (HV8.out.backM hn); clear hown8 hgrow8 hnil8 x0 x1 x2 x3 x4))
            | (at_builtin; have _t := HOW8; go_loud (refine wpList_append_sl rfl _ _ 33 rfl w.heap.size 37 i0 (.agg #[.int .i64 0, .int .i64 0, .int .i64 0, .int .i64 0, .string ⟨#[]⟩]) 5 48 Tryd.underlying33 hi0 hz0 hz1 hz2 rfl (by decide) v8 (0 + n + 1) _ rfl HOW8.out _ B (l.length - n) _ rfl HBKN.out (frisV_one _) (by unfold maxLen; omega) (by omega) hs8 ?_); intro v9 w9 hown9 hgrow9)
          all_goals
            go_ret
            have hb9 := HB8.out.grown hgrow9 hs8 (fun g e => (HOW8.out.lt g e).1)
            refine ⟨v9, l.take n, l.drop n, rfl, (List.take_append_drop n l).symm, HAC.out.1, HAC.out.2, ?_, hb9⟩
            have h := Sl.of_own hown9
            unfold Fris
            rw [List.nil_append, show 0 + n + 1 + (l.length - n) = (l.take n ++ x :: l.drop n).length by simp; omega] at h
            rw [show frisV (l.take n ++ x :: l.drop n) = frisV (l.take n) ++ friV x ++ frisV (l.drop n) by simp [frisV]]
            exact h
        · have hg2 : (y.f.nominal == x.f.nominal) = false := by simpa using heq
          go_wp2_with fail
          refine wp_env (fin := ?fnL) (by kernel_rfl) [9, 10, 11, 12, 13, 14, 15, 16, 17, 18, 19, 20, 21, 22, 23, 24, 25, 26, 27, 28, 29, 30, 31, 32, 33, 34, 35, 36, 37, 38, 39, 40, 41, 42, 43, 44, 45, 46, 47, 48, 49]
            [.int .i64 n, .bool true, .bool true, .slice (some ⟨b, o, none⟩) l.length c, .int .i64 n, .int .i64 p, .pointer (some ⟨b, o + p * 5, none⟩), .pointer (some ⟨b, o + p * 5, none⟩), .pointer (some ⟨b, o + p * 5, none⟩), .int .i64 y.f.nominal, .pointer (some ⟨w.heap.size, 0, none⟩), .pointer (some ⟨w.heap.size, 0, none⟩), .int .i64 x.f.nominal, .bool false, .bool false, .slice (some ⟨b, o, none⟩) l.length c, .int .i64 n, .int .i64 p, .pointer (some ⟨b, o + p * 5, none⟩), .pointer (some ⟨b, o + p * 5, none⟩), .pointer (some ⟨b, o + p * 5, none⟩), .int .i64 y.f.nominal, .pointer (some ⟨w.heap.size, 0, none⟩), .pointer (some ⟨w.heap.size, 0, none⟩), .int .i64 x.f.nominal, .bool false, .bool false, undef, undef, undef, undef, undef, undef, undef, undef, undef, undef, undef, .bool false, .bool false, .bool false] (by kernel_rfl) ?finL ?stepsL ?nextL
          case finL =>
            simp only [putAll, Act.put, List.setIfInBounds_toArray, List.set_cons_succ, List.set_cons_zero]
            rfl
          case stepsL =>
            refine ⟨.inr ⟨by kernel_rfl, fun w1_ hB_ => ?_⟩, .inr ⟨by kernel_rfl, fun w1_ hB_ => ?_⟩, .inr ⟨by kernel_rfl, fun w1_ hB_ => ?_⟩, .inr ⟨by kernel_rfl, fun w1_ hB_ => ?_⟩, .inr ⟨by kernel_rfl, fun w1_ hB_ => ?_⟩, .inr ⟨by kernel_rfl, fun w1_ hB_ => ?_⟩, .inr ⟨by kernel_rfl, fun w1_ hB_ => ?_⟩, .inr ⟨by kernel_rfl, fun w1_ hB_ => ?_⟩, .inr ⟨by kernel_rfl, fun w1_ hB_ => ?_⟩, .inr ⟨by kernel_rfl, fun w1_ hB_ => ?_⟩, .inr ⟨by kernel_rfl, fun w1_ hB_ => ?_⟩, .inr ⟨by kernel_rfl, fun w1_ hB_ => ?_⟩, .inr ⟨by kernel_rfl, fun w1_ hB_ => ?_⟩, .inr ⟨by kernel_rfl, fun w1_ hB_ => ?_⟩, .inr ⟨by kernel_rfl, fun w1_ hB_ => ?_⟩, .inr ⟨by kernel_rfl, fun w1_ hB_ => ?_⟩, .inr ⟨by kernel_rfl, fun w1_ hB_ => ?_⟩, .inr ⟨by kernel_rfl, fun w1_ hB_ => ?_⟩, .inr ⟨by kernel_rfl, fun w1_ hB_ => ?_⟩, .inr ⟨by kernel_rfl, fun w1_ hB_ => ?_⟩, .inr ⟨by kernel_rfl, fun w1_ hB_ => ?_⟩, .inr ⟨by kernel_rfl, fun w1_ hB_ => ?_⟩, .inr ⟨by kernel_rfl, fun w1_ hB_ => ?_⟩, .inr ⟨by kernel_rfl, fun w1_ hB_ => ?_⟩, .inr ⟨by kernel_rfl, fun w1_ hB_ => ?_⟩, .inr ⟨by kernel_rfl, fun w1_ hB_ => ?_⟩, .inr ⟨by kernel_rfl, fun w1_ hB_ => ?_⟩, .inl ⟨by kernel_rfl, rfl⟩, .inl ⟨by kernel_rfl, rfl⟩, .inl ⟨by kernel_rfl, rfl⟩, .inl ⟨by kernel_rfl, rfl⟩, .inl ⟨by kernel_rfl, rfl⟩, .inl ⟨by kernel_rfl, rfl⟩, .inl ⟨by kernel_rfl, rfl⟩, .inl ⟨by kernel_rfl, rfl⟩, .inl ⟨by kernel_rfl, rfl⟩, .inl ⟨by kernel_rfl, rfl⟩, .inl ⟨by kernel_rfl, rfl⟩, .inr ⟨by kernel_rfl, fun w1_ hB_ => ?_⟩, .inr ⟨by kernel_rfl, fun w1_ hB_ => ?_⟩, .inr ⟨by kernel_rfl, fun w1_ hB_ => ?_⟩, trivial⟩
            all_goals
              obtain ⟨d0_, d3_, q0_, q3_⟩ := HCELL.out w1_ hB_
              go_simp
              first
                | exact ⟨rfl, Below.refl _ _⟩
                | (rw [decide_eq_true (by omega)]; exact ⟨rfl, Below.refl _ _⟩)
                | (rw [decide_eq_false (by omega)]; exact ⟨rfl, Below.refl _ _⟩)
                | (rw [if_pos (by omega)]; exact ⟨rfl, Below.refl _ _⟩)
                | (rw [IntWalk.i64_in _ (by omega)]; exact ⟨rfl, Below.refl _ _⟩)
                | done
          case nextL =>
          clear hd hg hg2 hg3 heq hgt e1
          obtain ⟨A, hA⟩ : ∃ A, (some ⟨b, o, none⟩ : Option Addr) = A := ⟨_, rfl⟩
          rw [hA] at HVR ⊢
          clear hA
          intro w5 hb5
          have HB5 := Lib.hid (HBW.out.trans (hb5.mono HBW.out.size))
          have HVR := Lib.hid (HVR.out.below (B := B) (hb5.mono (Nat.le_trans hB (Nat.le_trans HB0.out.size HBW.out.size))))
          have HXR := Lib.hid (HXR.out.below hb5 (Nat.lt_of_lt_of_le HXB.out.lt HBW.out.size))
          have hws5 := hb5.size
          have HWW5 := Lib.hid (HB0.out.trans (HB5.out.mono HB0.out.size))
          have hs5 := HWW5.out.size
          have HFRN := Lib.hid (show Sl w5 B 5 (.slice A n c) n (frisV (l.take n)) by have := HVR.out.front hn; unfold Fris at this; rwa [List.length_take, Nat.min_eq_left hn] at this)
          clear hb5 x0 x1 x2 x3 x4
          go_wp2_with first
            | (at_builtin; refine wpList_append_sl rfl _ _ 33 rfl w.heap.size 37 i0 (.agg #[.int .i64 0, .int .i64 0, .int .i64 0, .int .i64 0, .string ⟨#[]⟩]) 5 48 Tryd.underlying33 hi0 hz0 hz1 hz2 rfl (by decide) (.slice none 0 0) 0 [] rfl (World.ownsRow_nil _ _ _ _) _ B n _ rfl HFRN.out (frisV_one _) (by unfold maxLen; omega) (by omega) hs5 ?_; intro v7 w7 hown7 hgrow7; have hb7 : Below w5.heap.size w5 w7 := (Below.refl _ _).grown hgrow7 (Nat.le_refl _) (fun k e => by cases e); have HB7 := Lib.hid (HWW5.out.trans (hb7.mono hs5)); have HX7 := Lib.hid (HXR.out.below hb7 HXR.out.lt); have HV7 := Lib.hid (HVR.out.below (B := B) (hb7.mono (Nat.le_trans hB hs5))); have HOW7 := Lib.hid hown7; clear hb7 hown7 hgrow7; have x0 := HX7.out.cell 0 (v := .int .i64 x.f.nominal) rfl; have x1 := HX7.out.cell 1 (v := .int .i64 x.f.kind) rfl; have x2 := HX7.out.cell 2 (v := .int .i64 x.f.save) rfl; have x3 := HX7.out.cell 3 (v := .int .i64 x.i) rfl; have x4 := HX7.out.cell 4 (v := .string x.f.letter) rfl; have hs7 := HB7.out.size)
            | (at_builtin; have _t := HOW7; refine wpList_append_own _ rfl _ _ 33 rfl w.heap.size 37 i0 (.agg #[.int .i64 0, .int .i64 0, .int .i64 0, .int .i64 0, .string ⟨#[]⟩]) 5 48 Tryd.underlying33 hi0 hz0 hz1 hz2 rfl (by decide) v7 (0 + n) _ rfl (HOW7.out.alloc _) ⟨w7.heap.size, 0, none⟩ 1 1 (friV x) rfl rfl (fun j y hy => by rw [Addr.add_lit, Nat.zero_add]; exact (cell_new w7 _ _ _ j).trans (by simpa [friV] using hy)) (by simp [friV, Value.oneCell']) (by unfold maxLen; omega) (by omega) (by simp; omega) ?_; intro v8 w8 hown8 hgrow8 hnil8; go_loud (have HB8 := Lib.hid ((HB7.out.alloc hs7 _).grown hgrow8 (by simp; omega) (fun g e => (HOW7.out.lt g e).1)); have HV8 := Lib.hid (HV7.out.below (B := B) ((((Below.refl B w7).alloc (Nat.le_trans hB hs7) _)).grown hgrow8 (by simp; omega) (fun g e => Nat.le_trans hB (HOW7.out.lt g e).1))); have HOW8 := Lib.hid hown8; have hs8 := HB8.out.size; have HBKN := Lib.hid (HV8.out.backM hn); clear hown8 hgrow8 hnil8 x0 x1 x2 x3 x4))
            | (at_builtin; have _t := HOW8; go_loud (refine wpList_append_sl rfl _ _ 33 rfl w.heap.size 37 i0 (.agg #[.int .i64 0, .int .i64 0, .int .i64 0, .int .i64 0, .string ⟨#[]⟩]) 5 48 Tryd.underlying33 hi0 hz0 hz1 hz2 rfl (by decide) v8 (0 + n + 1) _ rfl HOW8.out _ B (l.length - n) _ rfl HBKN.out (frisV_one _) (by unfold maxLen; omega) (by omega) hs8 ?_); intro v9 w9 hown9 hgrow9)
          all_goals
            go_ret
            have hb9 := HB8.out.grown hgrow9 hs8 (fun g e => (HOW8.out.lt g e).1)
            refine ⟨v9, l.take n, l.drop n, rfl, (List.take_append_drop n l).symm, HAC.out.1, HAC.out.2, ?_, hb9⟩
            have h := Sl.of_own hown9
            unfold Fris
            rw [List.nil_append, show 0 + n + 1 + (l.length - n) = (l.take n ++ x :: l.drop n).length by simp; omega] at h
            rw [show frisV (l.take n ++ x :: l.drop n) = frisV (l.take n) ++ friV x ++ frisV (l.drop n) by simp [frisV]]
            exact h
end Go.Proofs.YtkdpflgkcnhoiaaDoor
