/-
  Rules that save nothing: Clone, IndexFunc, DeleteFunc walked.
-/
import Derived.Test.YtkdpflgkcnhoiaaDoorRulB
import Derived.Test.YtkdpflgkcnhoiaaDoorFireIn
import Derived.Lib.SliceRun
namespace Go.Proofs.YtkdpflgkcnhoiaaDoor
open Go Go.RowKit Go.Shelf
set_option maxRecDepth 100000

theorem infoRul : (Tryd.prog.info? 46).map (fun i => (i.zero, i.size, i.bytes)) = some (some (.agg #[.string ⟨#[]⟩, .int .i64 0, .int .i64 0, .int .i64 0, .int .i64 0, .int .i64 0, .int .i64 0, .int .i64 0, .int .i64 0, .int .i64 0, .string ⟨#[]⟩]), 11, 104) := by kernel_rfl
/-- Rules in memory of a call's own. -/
def OwnR (w : World) (base : Nat) (v : Value) (l : List Rul) : Prop := w.ownsRow base 46 11 v l.length (rulsV l)
theorem OwnR.cases {w : World} {base : Nat} {v : Value} {l : List Rul} (h : OwnR w base v l) : (v = .slice none 0 0 ∧ l = []) ∨ ∃ g cap, v = .slice (some ⟨g, 0, none⟩) l.length cap ∧ RwR w base g cap l.length l := by
  rcases h.2 with ⟨h0, hn⟩ | ⟨g, cap, cur, h0, hbg, hg, hnc, hcm2, hcs, htk⟩
  · exact .inl ⟨h0, List.eq_nil_of_length_eq_zero hn⟩
  · subst h0
    exact .inr ⟨g, cap, rfl, rfl, h⟩
set_option maxHeartbeats 1000000 in
theorem rclone_any (w : World) (B : Nat) (v : Value) (l : List Rul) (hv : Ruls w B v l) (hB : B ≤ w.heap.size) (hl : l.length ≤ 100000) :
    Calls Tryd.prog 21 #[v] w fun e w' => ∃ u, e = .returned u ∧ OwnR w' w.heap.size u l ∧ Below w.heap.size w w' := by
  obtain ⟨i0, hi, hz0, hz1, hz2⟩ := info_parts infoRul
  have q22 : ∀ (w : World) (a : Option Addr) (n c n' c' : Nat), (binOp .eql 22 (.slice a n c) (.slice none n' c')).run Tryd.prog w = .ok (.bool a.isNone) w := fun w a n c n' c' => Lib.run_eql_slice_nil w _ _ a n c n' c' Tryd.underlying22
  obtain ⟨A, c, rfl, hlc, hcm⟩ := hv.form
  have HV := Lib.hid hv
  rcases A with _ | ad
  · have h0 : l = [] := by
      rcases Nat.eq_zero_or_pos l.length with h | h
      · exact List.eq_nil_of_length_eq_zero h
      · obtain ⟨b, o, c', e, -, -⟩ := hv.cells h
        cases e
    subst h0
    clear hv
    go_enter Tryd.func21, Tryd.ntmps21
    go_wp2_with fail
    go_ret
    exact ⟨_, rfl, World.ownsRow_nil _ _ _ _, Below.refl _ _⟩
  · clear hv
    unfold maxLen at hcm
    go_enter Tryd.func21, Tryd.ntmps21
    go_wp2_with (at_builtin; refine wpList_append_sl rfl _ _ 22 rfl w.heap.size 46 i0 (.agg #[.string ⟨#[]⟩, .int .i64 0, .int .i64 0, .int .i64 0, .int .i64 0, .int .i64 0, .int .i64 0, .int .i64 0, .int .i64 0, .int .i64 0, .string ⟨#[]⟩]) 11 104 Tryd.underlying22 hi hz0 hz1 hz2 rfl (by decide) _ 0 [] rfl (World.ownsRow_made w #[] 0 (Nat.le_refl _) (Nat.zero_le _) (by simp)) (.slice (some ad) l.length c) B l.length (rulsV l) rfl (Sl.alloc HV.out hB _) (rulsV_one l) (by unfold maxLen; omega) (by omega) (by simp) ?_; intro v' w1 hown hgrow)
    go_ret
    refine ⟨v', rfl, ?_, ((Below.refl _ w).alloc (Nat.le_refl _) _).grown hgrow (by simp) (fun g hg => ((World.ownsRow_made (base := w.heap.size) (e := 46) (size := 11) w #[] 0 (Nat.le_refl _) (Nat.zero_le _) (by simp)).lt g hg).1)⟩
    rw [Nat.zero_add, List.nil_append] at hown
    exact hown
set_option maxHeartbeats 1000000 in
theorem pred_any (r : Rul) (w : World) :
    Calls Tryd.prog 22 #[rulA r] w fun e w' => e = .returned (.bool (r.save != 0)) ∧ Below w.heap.size w w' := by
  have HB0 := Lib.hid ((Below.refl w.heap.size w).alloc (Nat.le_refl _) (.cells #[.string r.name, .int .i64 r.from_, .int .i64 r.to_, .int .i64 r.month, .int .i64 r.dk, .int .i64 r.dw, .int .i64 r.dn, .int .i64 r.sec, .int .i64 r.kind, .int .i64 r.save, .string r.letter] 46))
  have hx := Blk.new w 46 #[.string r.name, .int .i64 r.from_, .int .i64 r.to_, .int .i64 r.month, .int .i64 r.dk, .int .i64 r.dw, .int .i64 r.dn, .int .i64 r.sec, .int .i64 r.kind, .int .i64 r.save, .string r.letter]
  have q9 := Blk.cell hx 9 (v := .int .i64 r.save) rfl
  clear hx
  unfold rulA
  go_enter Tryd.func22, Tryd.ntmps22
  go_wp2_with fail
  go_ret
  exact ⟨rfl, HB0.out⟩
/-- Does a rule save nothing? -/
def keepB (r : Rul) : Bool := decide (r.save = 0)
def badAt (l : List Rul) : Nat := (l.takeWhile keepB).length
def idxV (l : List Rul) : Int := if badAt l < l.length then badAt l else -1
theorem badAt_spec : ∀ {l : List Rul} {k : Nat}, (∀ i (h : i < l.length), i < k → keepB l[i] = true) → (hk : k < l.length) → keepB l[k] = false → badAt l = k
  | [], k, _, hk, _ => by simp at hk
  | x :: l, 0, _, _, h => by
    have h : keepB x = false := h
    unfold badAt
    rw [List.takeWhile_cons, h]
    rfl
  | x :: l, k + 1, h1, hk, h => by
    have h0 : keepB x = true := h1 0 (by simp) (by omega)
    unfold badAt
    rw [List.takeWhile_cons, if_pos h0, List.length_cons]
    have := badAt_spec (l := l) (k := k) (fun i hi hik => by have := h1 (i + 1) (by simpa using hi) (by omega); simpa using this) (by simpa using hk) (by simpa using h)
    unfold badAt at this
    rw [this]
theorem badAt_all {l : List Rul} (h : ∀ i (h : i < l.length), keepB l[i] = true) : badAt l = l.length := by
  unfold badAt
  have : ∀ m : List Rul, (∀ x ∈ m, keepB x = true) → m.takeWhile keepB = m := fun m => by
    induction m with
    | nil => intro _; rfl
    | cons x m ih =>
      intro hm
      rw [List.takeWhile_cons, if_pos (hm x (by simp)), ih (fun y hy => hm y (by simp [hy]))]
  rw [this l (fun x hx => by obtain ⟨i, hi, rfl⟩ := List.getElem_of_mem hx; exact h i hi)]
theorem badAt_take : ∀ (l : List Rul), (l.take (badAt l)).filter keepB = l.take (badAt l) ∧ ∀ h : badAt l < l.length, keepB l[badAt l] = false
  | [] => ⟨rfl, fun h => by simp at h⟩
  | x :: l => by
    have ih := badAt_take l
    cases hx : keepB x with
    | false =>
      have e : badAt (x :: l) = 0 := by unfold badAt; rw [List.takeWhile_cons, hx]; rfl
      simp only [e]
      exact ⟨rfl, fun _ => hx⟩
    | true =>
      have e : badAt (x :: l) = badAt l + 1 := by unfold badAt; rw [List.takeWhile_cons, if_pos hx]; rfl
      simp only [e]
      refine ⟨by rw [List.take_succ_cons, List.filter_cons, if_pos hx, ih.1], fun h => ?_⟩
      exact ih.2 (by simpa using h)
theorem drop_badAt {l : List Rul} (h : badAt l < l.length) : l.take (badAt l) ++ l[badAt l] :: l.drop (badAt l + 1) = l ∧ keepB l[badAt l] = false :=
  ⟨by rw [← List.drop_eq_getElem_cons h, List.take_append_drop], (badAt_take l).2 h⟩
theorem keep_ne {r : Rul} {b : Bool} (h : keepB r = b) : (r.save != 0) = !b := by
  unfold keepB at h
  subst h
  by_cases h : r.save = 0 <;> simp [h]
set_option maxHeartbeats 2000000 in
theorem ridx_any (w : World) (B : Nat) (v : Value) (l : List Rul) (hv : Ruls w B v l) (hB : B ≤ w.heap.size) (hl : l.length ≤ 100000) :
    Calls Tryd.prog 37 #[v, .func (.func 22) #[] #[]] w fun e w' => e = .returned (.int .i64 (idxV l)) ∧ Below w.heap.size w w' := by
  obtain ⟨A, c, rfl, hlc, hcm⟩ := hv.form
  unfold maxLen at hcm
  have HV := Lib.hid hv
  clear hv
  go_enter Tryd.func37, Tryd.ntmps37
  go_wp2_with fail
  go_loopw [8] (fun iv wr => ∃ k : Nat, k ≤ l.length ∧ iv = .int .i64 k ∧ (∀ i (h : i < l.length), i < k → keepB l[i] = true) ∧ Below w.heap.size w wr) (fun iv _ => l.length - (intOf iv).toNat)
  case atStart => exact ⟨0, Nat.zero_le _, rfl, fun i h hk => by omega, Below.refl _ _⟩
  case round =>
    obtain ⟨k, hk, rfl, hall, hbw⟩ := hrel
    have HALL := Lib.hid hall
    have HBW := Lib.hid hbw
    have hws := hbw.size
    clear hall hbw
    by_cases hlt : k < l.length
    · have hd : decide ((k : Int) < (l.length : Int)) = true := decide_eq_true (by omega)
      obtain ⟨bb, o, c', e, hbb, hc⟩ := (HV.out.below (HBW.out.mono hB)).cells (by omega)
      cases e
      obtain ⟨c0, c1, c2, c3, c4, c5, c6, c7, c8, c9, c10⟩ := hc k hlt
      obtain ⟨r, hr⟩ : ∃ r, l[k] = r := ⟨_, rfl⟩
      rw [hr] at c0 c1 c2 c3 c4 c5 c6 c7 c8 c9 c10
      have HR := Lib.hid hr
      have HP := Lib.hid (pred_any r wr)
      unfold rulA at HP
      clear hc hr
      cases hkb : keepB r with
      | true =>
        rw [keep_ne hkb] at HP
        have HKB := Lib.hid hkb
        clear hkb
        go_wp2_with fail
        refine HP.out.mono ?_
        rintro e w1 ⟨rfl, hb⟩
        have HB1 := Lib.hid (HBW.out.trans (hb.mono hws))
        clear hb c0 c1 c2 c3 c4 c5 c6 c7 c8 c9 c10
        go_wp2_with fail
        go_roundw
        case rel => exact ⟨k + 1, by omega, by go_num, fun i h hik => by
          rcases Nat.lt_or_ge i k with h1 | h1
          · exact HALL.out i h h1
          · have : i = k := by omega
            subst this
            rw [HR.out]
            exact HKB.out, HB1.out⟩
        case measure => simp [intOf]; omega
      | false =>
        rw [keep_ne hkb] at HP
        have HI := Lib.hid (show idxV l = k by
          have h := badAt_spec HALL.out hlt (by rw [HR.out]; exact hkb)
          unfold idxV
          rw [h, if_pos hlt])
        clear hkb
        go_wp2_with fail
        refine HP.out.mono ?_
        rintro e w1 ⟨rfl, hb⟩
        have HB1 := Lib.hid (HBW.out.trans (hb.mono hws))
        clear hb c0 c1 c2 c3 c4 c5 c6 c7 c8 c9 c10
        go_wp2_with fail
        go_ret
        exact ⟨by rw [HI.out]; rfl, HB1.out⟩
    · have hd : decide ((k : Int) < (l.length : Int)) = false := decide_eq_false (by omega)
      have HI := Lib.hid (show idxV l = -1 by
        have h := badAt_all (l := l) (fun i h => HALL.out i h (by omega))
        unfold idxV
        rw [h, if_neg (by omega)])
      go_wp2_with fail
      go_ret
      exact ⟨by rw [HI.out]; rfl, HBW.out⟩
/-- The first rules of a row, as a row. -/
theorem RwR.front {W : World} {base g cap n k : Nat} {K Y : List Rul} (h : RwR W base g cap n (K ++ Y)) (hk : K.length = k) : RwR W base g cap k K := by
  obtain ⟨h1, h2, h3⟩ := h
  rcases h3 with ⟨h', _⟩ | ⟨g', cap', cur, h', hb, hg, hnc, hcm, hcs, htk⟩
  · simp at h'
  · simp only [Value.slice.injEq, Option.some.injEq, Addr.mk.injEq, and_true, true_and] at h'
    obtain ⟨rfl, rfl⟩ := h'
    rw [List.length_append, hk] at h1
    refine ⟨hk, by rw [length_rulsV, hk], .inr ⟨g, cap, cur, rfl, hb, hg, by omega, hcm, hcs, ?_⟩⟩
    have e := congrArg (List.take (k * 11)) htk
    rw [List.take_take, Nat.min_eq_left (by omega), rulsV_append, List.take_append_of_le_length (by rw [length_rulsV, hk]; exact Nat.le_refl _), List.take_of_length_le (l := rulsV K) (by rw [length_rulsV, hk]; exact Nat.le_refl _)] at e
    exact e
/-- What is written behind a row does not turn it. -/
theorem RwR.behind {base g cap n : Nat} {K : List Rul} : ∀ (vs : List Value) (o : Nat) {W : World}, n * 11 ≤ o → RwR W base g cap n K → RwR (W.setCells g o vs) base g cap n K ∧ Fr (fun k => k = g) W (W.setCells g o vs)
  | [], _, _, _, h => ⟨h, Fr.refl _ _⟩
  | u :: vs, o, W, ho, h => by
    have h1 := (h.2.stored o u).1
    have e : (rulsV K).set o u = rulsV K := List.set_eq_of_length_le (by rw [length_rulsV, h.1]; exact ho)
    rw [e] at h1
    obtain ⟨h2, h3⟩ := RwR.behind vs (o + 1) (by omega) (show RwR (W.setCell ⟨g, o, none⟩ u) base g cap n K from ⟨h.1, h1⟩)
    exact ⟨h2, (Fr.setCell (T := fun k => k = g) W o u rfl).then h3⟩
def zeroR : Array Value := #[.string ⟨#[]⟩, .int .i64 0, .int .i64 0, .int .i64 0, .int .i64 0, .int .i64 0, .int .i64 0, .int .i64 0, .int .i64 0, .int .i64 0, .string ⟨#[]⟩]
theorem zero_rul (w : World) : (zeroValue 46).run Tryd.prog w = .ok (.agg zeroR) w := by
  have e : Tryd.t46.zero = some (.agg zeroR) := by kernel_rfl
  simp [zeroValue, go_sem, e]
theorem clear_run {W : World} {base g cap n : Nat} {d : List Rul} (h : RwR W base g cap n d) (ty : TypeId) (o m c : Nat) (hm : 0 < m) (ho : o + m * 11 ≤ n * 11) :
    ∃ vs, (Builtin.clear_ #[22] ty #[.slice (some ⟨g, o, none⟩) m c]).run Tryd.prog W = .ok (.tuple #[]) (W.setCells g o vs) := by
  have hlen : (Builtin.zeroCells zeroR m).toList.length = m * 11 := by simp [Builtin.zeroCells, zeroR]
  have hone : ∀ u ∈ (Builtin.zeroCells zeroR m).toList, u.oneCell' = true := by
    intro u hu
    simp only [Builtin.zeroCells, Array.toList_map, List.mem_map] at hu
    obtain ⟨i, -, rfl⟩ := hu
    have hi : i % zeroR.size < 11 := Nat.mod_lt _ (by decide)
    generalize i % zeroR.size = j at hi
    have : j = 0 ∨ j = 1 ∨ j = 2 ∨ j = 3 ∨ j = 4 ∨ j = 5 ∨ j = 6 ∨ j = 7 ∨ j = 8 ∨ j = 9 ∨ j = 10 := by omega
    rcases this with rfl | rfl | rfl | rfl | rfl | rfl | rfl | rfl | rfl | rfl | rfl <;> rfl
  have hlr : (rulsV d).length = n * 11 := by rw [length_rulsV, h.1]
  have hst := run_storeCells_cells (P := Tryd.prog) g o (Builtin.zeroCells zeroR m).toList 0 W (fun j hj => by
    rw [hlen] at hj
    rw [h.2.cellAt _ (by omega), List.getElem?_eq_getElem (by omega)]
    rfl) (fun j hj => h.frozen _) hone
  refine ⟨(Builtin.zeroCells zeroR m).toList, ?_⟩
  obtain ⟨k, rfl⟩ : ∃ k, m = k + 1 := ⟨m - 1, by omega⟩
  have hu : Tryd.prog.underlying 22 = some (.slice 46) := rfl
  simp only [Nat.add_zero] at hst
  have hz := zero_rul
  unfold zeroR at hst hz ⊢
  simp [Builtin.clear_, run_underlying hu, hz, Value.cells, hst]
set_option maxHeartbeats 4000000 in
theorem rdelete_any (w : World) (base g cap n : Nat) (d : List Rul) (hR : RwR w base g cap n d) (hn : n ≤ 100000) :
    Calls Tryd.prog 20 #[.slice (some ⟨g, 0, none⟩) n cap, .func (.func 22) #[] #[]] w fun e w' => e = .returned (.slice (some ⟨g, 0, none⟩) (d.filter keepB).length cap) ∧ RwR w' base g cap (d.filter keepB).length (d.filter keepB) ∧ Fr (fun k => k = g) w w' := by
  have hroom := hR.room
  have hlen := hR.len
  unfold maxLen at hroom
  have hlt0 := hR.lt
  have HR := Lib.hid hR
  have HI := Lib.hid (ridx_any w w.heap.size (.slice (some ⟨g, 0, none⟩) n cap) d (by have := Sl.of_own hR.2; unfold Ruls; rw [hlen]; exact this) (Nat.le_refl _) (by omega))
  clear hR
  rcases Nat.lt_or_ge (badAt d) d.length with hbad | hbad
  · have HIV := Lib.hid (show idxV d = (badAt d : Nat) by unfold idxV; rw [if_pos hbad])
    rw [HIV.out] at HI
    have HK0 := Lib.hid (badAt_take d)
    obtain ⟨t, ht⟩ : ∃ t, badAt d = t := ⟨_, rfl⟩
    have htl : t < d.length := ht ▸ hbad
    have HD := Lib.hid (show d.take t ++ d[t] :: d.drop (t + 1) = d ∧ keepB d[t] = false by subst ht; exact drop_badAt hbad)
    rw [ht] at HI
    have HK0 := Lib.hid (show (d.take t).filter keepB = d.take t from ht ▸ HK0.out.1)
    clear ht HIV hbad
    have hbad := htl
    have htm : ((t : Int) == -1) = false := by simp
    go_enter Tryd.func20, Tryd.ntmps20
    go_wp2_with fail
    refine HI.out.mono ?_
    rintro e w1 ⟨rfl, hb⟩
    have HB1 := Lib.hid hb
    clear hb HI
    go_wp2_with fail
    go_loopw [5, 6] (fun kv jv wr => ∃ (j : Nat) (K : List Rul) (y : Rul) (Y : List Rul), jv = .int .i64 j ∧ kv = .int .i64 K.length ∧ j ≤ n ∧ K = (d.take j).filter keepB ∧ K.length + 1 + Y.length = j ∧ RwR wr base g cap n (K ++ y :: (Y ++ d.drop j)) ∧ Fr (fun k => k = g) w wr) (fun _ jv _ => n - (intOf jv).toNat)
    case atStart => exact ⟨t + 1, d.take t, d[t], [], by go_num, by rw [List.length_take, Nat.min_eq_left (by omega)], by omega, by rw [List.take_succ_eq_append_getElem hbad, List.filter_append, HK0.out, List.filter_cons, if_neg (by rw [HD.out.2]; decide)]; simp, by rw [List.length_take, Nat.min_eq_left (by omega)]; rfl, by
      exact (congrArg (RwR w1 base g cap n) HD.out.1).mpr (HR.out.below HB1.out), Fr.of_below HB1.out (Nat.le_refl _)⟩
    case round =>
      obtain ⟨j, K, y, Y, rfl, rfl, hj, hK, hKY, hrw, hfr⟩ := hrel
      have HKJ := Lib.hid hK
      have HRW := Lib.hid hrw
      have HFR := Lib.hid hfr
      have hws := hfr.size
      clear hK hrw hfr
      obtain ⟨k, hkl⟩ : ∃ k, K.length = k := ⟨_, rfl⟩
      rw [hkl] at hKY ⊢
      have HKL := Lib.hid hkl
      clear hkl
      by_cases hlt : j < n
      · have hd : decide ((j : Int) < (n : Int)) = true := decide_eq_true (by omega)
        have hjd : j < d.length := by omega
        obtain ⟨r, hr⟩ : ∃ r, d[j] = r := ⟨_, rfl⟩
        have hdj : d.drop j = r :: d.drop (j + 1) := by rw [List.drop_eq_getElem_cons hjd, hr]
        have htj : d.take (j + 1) = d.take j ++ [r] := by rw [List.take_succ_eq_append_getElem hjd, hr]
        obtain ⟨T, hT⟩ : ∃ T, d.drop (j + 1) = T := ⟨_, rfl⟩
        rw [hT] at hdj
        have HRX := Lib.hid (show RwR wr base g cap n ((K ++ y :: Y) ++ r :: T) by have h := HRW.out; rw [hdj] at h; simpa using h)
        have HLX := Lib.hid (show (K ++ y :: Y).length = j by simp [HKL.out]; omega)
        have HC := Lib.hid (HLX.out ▸ HRX.out.at_)
        have HTT := Lib.hid (And.intro htj hT)
        obtain ⟨c0, c1, c2, c3, c4, c5, c6, c7, c8, c9, c10⟩ := HC.out
        have HP := Lib.hid (fun W => pred_any r W)
        unfold rulA at HP
        obtain ⟨y', Y', hY⟩ : ∃ y' Y', Y ++ [r] = y' :: Y' := by
          cases Y with
          | nil => exact ⟨r, [], rfl⟩
          | cons a Y => exact ⟨a, Y ++ [r], rfl⟩
        have hYl : Y'.length = Y.length := by have := congrArg List.length hY; simpa using this.symm
        have HYY := Lib.hid hY
        clear hr hdj htj hT hY
        cases hkb : keepB r with
        | true =>
          rw [keep_ne hkb] at HP
          have HN := Lib.hid (show (d.take (j + 1)).filter keepB = K ++ [r] by rw [HTT.out.1, List.filter_append, ← HKJ.out, List.filter_cons, if_pos hkb]; rfl)
          clear hkb
          go_wp2_with fail
          refine (HP.out _).mono ?_
          rintro e w2 ⟨rfl, hb⟩
          have hbx : RulB w2 wr.heap.size r := Blk.below (Blk.new wr 46 #[.string r.name, .int .i64 r.from_, .int .i64 r.to_, .int .i64 r.month, .int .i64 r.dk, .int .i64 r.dw, .int .i64 r.dn, .int .i64 r.sec, .int .i64 r.kind, .int .i64 r.save, .string r.letter]) hb (by simp)
          have hb2 : Below wr.heap.size wr w2 := ((Below.refl _ _).alloc (Nat.le_refl _) _).trans (hb.mono (by simp))
          have HB2 := Lib.hid hb2
          have hr2 := HRX.out.below hb2
          have HR2 := Lib.hid (show RwR w2 base g cap n (K ++ y :: (Y ++ r :: T)) by simpa using hr2)
          have HLT2 := hr2.lt
          clear hb hb2 hr2 c0 c1 c2 c3 c4 c5 c6 c7 c8 c9 c10 HC
          have q0 := Blk.cell hbx 0 (v := .string r.name) rfl
          have q1 := Blk.cell hbx 1 (v := .int .i64 r.from_) rfl
          have q2 := Blk.cell hbx 2 (v := .int .i64 r.to_) rfl
          have q3 := Blk.cell hbx 3 (v := .int .i64 r.month) rfl
          have q4 := Blk.cell hbx 4 (v := .int .i64 r.dk) rfl
          have q5 := Blk.cell hbx 5 (v := .int .i64 r.dw) rfl
          have q6 := Blk.cell hbx 6 (v := .int .i64 r.dn) rfl
          have q7 := Blk.cell hbx 7 (v := .int .i64 r.sec) rfl
          have q8 := Blk.cell hbx 8 (v := .int .i64 r.kind) rfl
          have q9 := Blk.cell hbx 9 (v := .int .i64 r.save) rfl
          have q10 := Blk.cell hbx 10 (v := .string r.letter) rfl
          have hd_ := HR2.out.at_
          rw [HKL.out] at hd_
          obtain ⟨d0, d1, d2, d3, d4, d5, d6, d7, d8, d9, d10⟩ := hd_
          have fz := HR2.out.frozen
          have hkn : k < n := by omega
          have HP2 := Lib.hid (HR2.out.put r)
          rw [HKL.out] at HP2
          go_wp2_with fail
          go_roundw
          case rel => exact ⟨j + 1, K ++ [r], y', Y', by go_num, by rw [List.length_append, HKL.out]; rfl, by omega, HN.out.symm, by simp [HKL.out]; omega, by
            rw [HTT.out.2]
            have h := HP2.out
            have e : K ++ [r] ++ y' :: (Y' ++ T) = K ++ r :: (Y ++ r :: T) := by
              rw [← List.cons_append, ← HYY.out]
              simp
            rw [e]
            exact h, (HFR.out.then (Fr.of_below HB2.out (Nat.le_refl _))).then (putR_fr w2 g (k * 11) r)⟩
          case measure => simp [intOf]; omega
        | false =>
          rw [keep_ne hkb] at HP
          have HN := Lib.hid (show (d.take (j + 1)).filter keepB = K by rw [HTT.out.1, List.filter_append, ← HKJ.out, List.filter_cons, if_neg (by rw [hkb]; decide)]; simp)
          clear hkb
          go_wp2_with fail
          refine (HP.out _).mono ?_
          rintro e w2 ⟨rfl, hb⟩
          have hb2 : Below wr.heap.size wr w2 := ((Below.refl _ _).alloc (Nat.le_refl _) _).trans (hb.mono (by simp))
          have HB2 := Lib.hid hb2
          clear hb hb2 c0 c1 c2 c3 c4 c5 c6 c7 c8 c9 c10 HC
          go_wp2_with fail
          go_roundw
          case rel => exact ⟨j + 1, K, y, Y ++ [r], by go_num, by rw [HKL.out], by omega, HN.out.symm, by simp [HKL.out]; omega, by
            rw [HTT.out.2]
            have h := HRX.out.below HB2.out
            simpa using h, HFR.out.then (Fr.of_below HB2.out (Nat.le_refl _))⟩
          case measure => simp [intOf]; omega
      · obtain rfl : j = n := by omega
        have hd : decide ((j : Int) < (j : Int)) = false := decide_eq_false (by omega)
        obtain ⟨vs, hcl⟩ := clear_run HRW.out 0 (k * 11) (j - k) (cap - k) (by omega) (by omega)
        have HBH := Lib.hid (RwR.behind vs (k * 11) (Nat.le_refl _) (HRW.out.front HKL.out))
        have HKF := Lib.hid (show K = d.filter keepB by rw [HKJ.out, List.take_of_length_le (by omega)])
        have hck : ¬ cap = k := by omega
        go_wp2_with fail
        go_ret
        rw [HKF.out] at HKL HBH
        rw [HKL.out]
        exact ⟨rfl, HBH.out.1, HFR.out.then HBH.out.2⟩
  · have HIV := Lib.hid (show idxV d = -1 by unfold idxV; rw [if_neg (by omega)])
    rw [HIV.out] at HI
    have HE := Lib.hid (show d.filter keepB = d by
      have h := (badAt_take d).1
      rwa [List.take_of_length_le hbad] at h)
    rw [HE.out, hlen]
    clear HIV
    go_enter Tryd.func20, Tryd.ntmps20
    go_wp2_with fail
    refine HI.out.mono ?_
    rintro e w1 ⟨rfl, hb⟩
    have HB1 := Lib.hid hb
    clear hb HI
    go_wp2_with fail
    go_ret
    exact ⟨rfl, HR.out.below HB1.out, Fr.of_below HB1.out (Nat.le_refl _)⟩
set_option maxHeartbeats 1000000 in
theorem rstable_any (w : World) (base g cap n : Nat) (d : List Rul) (hn : n ≤ 19) (hmo : ∀ z ∈ d, mOk z) (hR : RwR w base g cap n d) :
    Calls Tryd.prog 23 #[.slice (some ⟨g, 0, none⟩) n cap, .func (.func 24) #[] #[]] w fun e w' => e = .returned (.tuple #[]) ∧ ∃ M, Stab keyR d M ∧ RwR w' base g cap n M ∧ Fr (fun k => k = g) w w' := by
  have hd : decide ((20 : Int) ≤ (n : Int)) = false := decide_eq_false (by omega)
  have hd2 : decide ((20 : Int) < (n : Int)) = false := decide_eq_false (by omega)
  have HI := Lib.hid (insertion_R w base g cap n 0 n [] d [] rfl (by rw [Nat.zero_add]; exact hR.len) (by omega) hmo (by simpa using hR))
  have HS := Lib.hid (show Calls Tryd.prog 38 #[.slice (some ⟨g, 0, none⟩) n cap, .int .i64 n, .func (.func 24) #[] #[]] w fun e w' => e = .returned (.tuple #[]) ∧ ∃ M, Stab keyR d M ∧ RwR w' base g cap n M ∧ Fr (fun k => k = g) w w' by
    go_enter Tryd.func38, Tryd.ntmps38
    go_wp2_with fail
    refine wp_loop_rounds 1 ?_
    rw [rounds_succ]
    go_wp2_with fail
    refine HI.out.mono ?_
    rintro e w1 ⟨rfl, M, hst, hrw, hfr⟩
    have H1 := Lib.hid (And.intro hst (And.intro hrw hfr))
    clear hst hrw hfr
    go_wp2_with fail
    refine wp_loop_rounds 1 ?_
    rw [rounds_succ]
    go_wp2_with fail
    go_end0
    exact ⟨rfl, M, H1.out.1, by have h := H1.out.2.1; simpa using h, H1.out.2.2⟩)
  clear hR hmo HI
  go_enter Tryd.func23, Tryd.ntmps23
  go_wp2_with fail
  refine HS.out.mono ?_
  rintro e w1 ⟨rfl, M, hst, hrw, hfr⟩
  have H1 := Lib.hid (And.intro hst (And.intro hrw hfr))
  clear hst hrw hfr
  go_wp2_with fail
  go_end0
  exact ⟨rfl, M, H1.out⟩
theorem rinsertion_nil (w : World) : Calls Tryd.prog 50 #[.slice none 0 0, .int .i64 0, .int .i64 0, .func (.func 24) #[] #[]] w fun e w' => e = .returned (.tuple #[]) ∧ Below w.heap.size w w' := by
  go_enter Tryd.func50, Tryd.ntmps50
  go_wp2_with fail
  refine wp_loop_rounds 1 ?_
  rw [rounds_succ]
  go_wp2_with fail
  go_end0
  exact ⟨rfl, Below.refl _ _⟩
theorem rstable_nil (w : World) : Calls Tryd.prog 23 #[.slice none 0 0, .func (.func 24) #[] #[]] w fun e w' => e = .returned (.tuple #[]) ∧ Below w.heap.size w w' := by
  have HI := Lib.hid (fun w => rinsertion_nil w)
  have HS := Lib.hid (show Calls Tryd.prog 38 #[.slice none 0 0, .int .i64 0, .func (.func 24) #[] #[]] w fun e w' => e = .returned (.tuple #[]) ∧ Below w.heap.size w w' by
    go_enter Tryd.func38, Tryd.ntmps38
    go_wp2_with fail
    refine wp_loop_rounds 1 ?_
    rw [rounds_succ]
    go_wp2_with fail
    refine (HI.out _).mono ?_
    rintro e w1 ⟨rfl, hb⟩
    have HB := Lib.hid hb
    clear hb
    go_wp2_with fail
    refine wp_loop_rounds 1 ?_
    rw [rounds_succ]
    go_wp2_with fail
    go_end0
    exact ⟨rfl, HB.out⟩)
  go_enter Tryd.func23, Tryd.ntmps23
  go_wp2_with fail
  refine HS.out.mono ?_
  rintro e w1 ⟨rfl, hb⟩
  have HB := Lib.hid hb
  clear hb
  go_wp2_with fail
  go_end0
  exact ⟨rfl, HB.out⟩
end Go.Proofs.YtkdpflgkcnhoiaaDoor
