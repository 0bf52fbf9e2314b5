/-
  Letter, of the program and of the reference, walked.
-/
import Derived.Test.YtkdpflgkcnhoiaaDoorRulC
namespace Go.Proofs.YtkdpflgkcnhoiaaDoor
open Go Go.RowKit Go.Shelf
set_option maxRecDepth 100000

/-- The first of the rules that save nothing. -/
def bestS (b : Option Rul) (r : Rul) : Option Rul := if keepB r then (match b with | none => some r | some x => if keyR r < keyR x then some r else some x) else b
def bestR (l : List Rul) : Option Rul := l.foldl bestS none
def letV (l : List Rul) : ByteArray := match bestR l with | some r => r.letter | none => ⟨#[]⟩
theorem bestR_next {l : List Rul} {k : Nat} (hk : k < l.length) : bestR (l.take (k + 1)) = bestS (bestR (l.take k)) l[k] := by
  unfold bestR
  rw [List.take_succ_eq_append_getElem hk, List.foldl_append]
  rfl
theorem head_best (l : List Rul) : ∀ k, k ≤ l.length → ∃ M, Stab keyR ((l.take k).filter keepB) M ∧ M.head? = bestR (l.take k)
  | 0, _ => ⟨[], Stab.nil, rfl⟩
  | k + 1, hk => by
    obtain ⟨M, hM, hh⟩ := head_best l k (by omega)
    have hkl : k < l.length := by omega
    rw [bestR_next hkl, List.take_succ_eq_append_getElem hkl, List.filter_append]
    cases hb : keepB l[k] with
    | false =>
      refine ⟨M, ?_, ?_⟩
      · rw [List.filter_cons, if_neg (by rw [hb]; decide)]
        simpa using hM
      · unfold bestS
        rw [if_neg (by rw [hb]; decide), hh]
    | true =>
      rw [List.filter_cons, if_pos hb, List.filter_nil]
      generalize l[k] = r at hb
      have hs := hM.2.1
      have e : M = M.takeWhile (fun a => decide (keyR a ≤ keyR r)) ++ M.dropWhile (fun a => decide (keyR a ≤ keyR r)) := List.takeWhile_append_dropWhile.symm
      obtain ⟨A, hA⟩ : ∃ A, M.takeWhile (fun a => decide (keyR a ≤ keyR r)) = A := ⟨_, rfl⟩
      obtain ⟨C, hC⟩ : ∃ C, M.dropWhile (fun a => decide (keyR a ≤ keyR r)) = C := ⟨_, rfl⟩
      have h1 : ∀ a ∈ A, keyR a ≤ keyR r := fun a ha => by
        rw [← hA] at ha
        have := List.all_eq_true.1 (List.all_takeWhile (l := M) (p := fun a => decide (keyR a ≤ keyR r))) a ha
        simpa using this
      rw [hA, hC] at e
      have h2 : ∀ c ∈ C, keyR r < keyR c := by
        have hsC : C.Pairwise (fun a b => keyR a ≤ keyR b) := by rw [e] at hs; exact (List.pairwise_append.1 hs).2.1
        cases hCC : C with
        | nil => simp
        | cons c0 C' =>
          have h0 : keyR r < keyR c0 := by
            have h3 := List.head?_dropWhile_not (fun a => decide (keyR a ≤ keyR r)) M
            rw [hC, hCC] at h3
            simp at h3
            exact h3
          rw [hCC] at hsC
          intro c hc
          rcases List.mem_cons.1 hc with rfl | hc
          · exact h0
          · have := (List.pairwise_cons.1 hsC).1 c hc
            omega
      refine ⟨A ++ r :: C, (e ▸ hM).put h1 h2, ?_⟩
      rw [← hh, e]
      unfold bestS
      rw [if_pos hb]
      cases A with
      | nil =>
        cases C with
        | nil => rfl
        | cons c C =>
          show some r = if keyR r < keyR c then some r else some c
          rw [if_pos (h2 c (by simp))]
      | cons a A =>
        show some a = if keyR r < keyR a then some r else some a
        rw [if_neg (by have := h1 a (by simp); omega)]
theorem head_letter {l M : List Rul} (h : Stab keyR (l.filter keepB) M) : M.head? = bestR l := by
  obtain ⟨M', hM, hh⟩ := head_best l l.length (Nat.le_refl _)
  rw [List.take_length] at hM hh
  rw [h.unique hM, hh]
set_option maxHeartbeats 1000000 in
theorem fletter_any (w : World) (B : Nat) (v : Value) (l : List Rul) (hv : Ruls w B v l) (hB : B ≤ w.heap.size) (hl : l.length ≤ 19) (hmo : ∀ z ∈ l, mOk z) :
    Calls Tryd.prog 11 #[v] w fun e w' => e = .returned (.string (letV l)) ∧ Below w.heap.size w w' := by
  have HC := Lib.hid (rclone_any w B v l hv hB (by omega))
  have HMO := Lib.hid (show ∀ z ∈ l.filter keepB, mOk z from fun z hz => hmo z (List.mem_filter.1 hz).1)
  have hfl : (l.filter keepB).length ≤ 19 := Nat.le_trans (List.length_filter_le _ _) hl
  clear hv hmo
  go_enter Tryd.func11, Tryd.ntmps11
  go_wp2_with fail
  refine HC.out.mono ?_
  rintro e w1 ⟨u, rfl, hown, hb⟩
  have HB1 := Lib.hid hb
  have hs1 := hb.size
  clear hb HC
  rcases hown.cases with ⟨rfl, rfl⟩ | ⟨g, cap, rfl, hrw⟩
  · have HI := Lib.hid (ridx_any w1 w1.heap.size (.slice none 0 0) [] (Sl.nil _ _ _) (Nat.le_refl _) (by simp))
    have HD := Lib.hid (show Calls Tryd.prog 20 #[.slice none 0 0, .func (.func 22) #[] #[]] w1 fun e w' => e = .returned (.slice none 0 0) ∧ Below w1.heap.size w1 w' by
      go_enter Tryd.func20, Tryd.ntmps20
      go_wp2_with fail
      refine HI.out.mono ?_
      rintro e w2 ⟨rfl, hb⟩
      have HB := Lib.hid hb
      clear hb
      rw [show idxV [] = -1 from rfl]
      go_wp2_with fail
      go_ret
      exact ⟨rfl, HB.out⟩)
    have HS := Lib.hid (fun W => rstable_nil W)
    clear hown
    go_wp2_with fail
    refine HD.out.mono ?_
    rintro e w2 ⟨rfl, hb⟩
    have HB2 := Lib.hid (HB1.out.trans (hb.mono hs1))
    clear hb
    go_wp2_with fail
    refine (HS.out _).mono ?_
    rintro e w3 ⟨rfl, hb⟩
    have HB3 := Lib.hid (HB2.out.trans (hb.mono HB2.out.size))
    clear hb
    go_wp2_with fail
    go_ret
    exact ⟨rfl, HB3.out⟩
  · have HLT := Lib.hid hrw.lt
    have HD := Lib.hid (rdelete_any w1 w.heap.size g cap l.length l hrw (by omega))
    obtain ⟨F, hF⟩ : ∃ F, l.filter keepB = F := ⟨_, rfl⟩
    have HF := Lib.hid hF
    rw [hF] at HD HMO hfl
    clear hown hrw hF
    go_wp2_with fail
    refine HD.out.mono ?_
    rintro e w2 ⟨rfl, hrw, hfr⟩
    have HS := Lib.hid (rstable_any w2 w.heap.size g cap F.length F hfl HMO.out hrw)
    have HB2 := Lib.hid (HB1.out.trans (hfr.below (B := w.heap.size) hs1 (fun k hk e => by have := HLT.out.1; omega)))
    clear hrw hfr HD
    go_wp2_with fail
    refine HS.out.mono ?_
    rintro e w3 ⟨rfl, M, hst, hrw, hfr⟩
    have HB3 := Lib.hid (HB2.out.trans (hfr.below (B := w.heap.size) HB2.out.size (fun k hk e => by have := HLT.out.1; omega)))
    have hml := hst.len
    have HH := Lib.hid (head_letter (HF.out ▸ hst))
    have HRW := Lib.hid hrw
    clear hst hfr HS hrw HF
    cases M with
    | nil =>
      have hF0 : F = [] := List.eq_nil_of_length_eq_zero (by simpa using hml.symm)
      subst hF0
      have HLV := Lib.hid (show letV l = ⟨#[]⟩ by unfold letV; rw [← HH.out]; rfl)
      go_wp2_with fail
      go_ret
      exact ⟨by rw [HLV.out]; rfl, HB3.out⟩
    | cons r M =>
      have hn0 : F.length ≠ 0 := by rw [← hml]; simp
      obtain ⟨n, hn⟩ : ∃ n, F.length = n + 1 := ⟨F.length - 1, by omega⟩
      have HLV := Lib.hid (show letV l = r.letter by unfold letV; rw [← HH.out]; rfl)
      rw [hn] at HRW ⊢
      have hc := RwR.at_ (A := []) HRW.out
      rw [List.length_nil, Nat.zero_mul] at hc
      obtain ⟨-, -, -, -, -, -, -, -, -, -, q10⟩ := hc
      rw [Nat.zero_add] at q10
      clear hn hml hn0
      go_wp2_with fail
      go_ret
      exact ⟨by rw [HLV.out]; rfl, HB3.out⟩
set_option maxHeartbeats 4000000 in
theorem rletter_any (w : World) (B : Nat) (v : Value) (l : List Rul) (hv : Ruls w B v l) (hB : B ≤ w.heap.size) (hl : l.length ≤ 100000) (hmo : ∀ z ∈ l, mOk z) :
    Calls Tryd.prog 12 #[v] w fun e w' => e = .returned (.string (letV l)) ∧ Below w.heap.size w w' := by
  obtain ⟨A, c, rfl, hlc, hcm⟩ := hv.form
  unfold maxLen at hcm
  have HV := Lib.hid hv
  have HMO := Lib.hid (fun k (hk : k < l.length) => hmo l[k] (List.getElem_mem hk))
  clear hv hmo
  go_enter Tryd.func12, Tryd.ntmps12
  go_wp2_with fail
  go_loopw [3, 4] (fun bv iv wr => ∃ k : Nat, k ≤ l.length ∧ iv = .int .i64 k ∧ ((bv = .int .i64 (-1) ∧ bestR (l.take k) = none) ∨ ∃ (b : Nat) (hb : b < l.length), b < k ∧ bv = .int .i64 b ∧ bestR (l.take k) = some l[b]) ∧ Below w.heap.size w wr) (fun _ iv _ => l.length - (intOf iv).toNat)
  case atStart => exact ⟨0, Nat.zero_le _, rfl, .inl ⟨rfl, rfl⟩, Below.refl _ _⟩
  case round =>
    obtain ⟨k, hk, rfl, hbest, hbw⟩ := hrel
    have HBW := Lib.hid hbw
    have hws := hbw.size
    clear hbw
    by_cases hlt : k < l.length
    · have hd : decide ((k : Int) < (l.length : Int)) = true := decide_eq_true (by omega)
      obtain ⟨bb, o, c', e, hbb, hc⟩ := (HV.out.below (HBW.out.mono hB)).cells (by omega)
      cases e
      obtain ⟨c0, c1, c2, c3, c4, c5, c6, c7, c8, c9, c10⟩ := hc k hlt
      have HCC := Lib.hid hc
      have hbr : bb < wr.heap.size := by omega
      have HNX := Lib.hid (bestR_next hlt)
      have hmr := HMO.out k hlt
      obtain ⟨r, hr⟩ : ∃ r, l[k] = r := ⟨_, rfl⟩
      rw [hr] at c0 c1 c2 c3 c4 c5 c6 c7 c8 c9 c10 HNX hmr
      have HR := Lib.hid hr
      clear hc hr
      cases hkb : keepB r with
      | false =>
        have hs0 : (r.save != 0) = true := keep_ne hkb
        have HBN := Lib.hid (show bestR (l.take (k + 1)) = bestR (l.take k) by rw [HNX.out]; unfold bestS; rw [if_neg (by rw [hkb]; decide)])
        clear hkb
        rcases hbest with ⟨rfl, hbn⟩ | ⟨b, hbl, hbk, rfl, hbs⟩
        · have HBE := Lib.hid hbn
          clear hbn
          go_wp2_with fail
          go_roundw
          case rel => exact ⟨k + 1, by omega, by go_num, .inl ⟨rfl, by rw [HBN.out]; exact HBE.out⟩, HBW.out⟩
          case measure => simp [intOf]; omega
        · have HBE := Lib.hid hbs
          clear hbs
          go_wp2_with fail
          go_roundw
          case rel => exact ⟨k + 1, by omega, by go_num, .inr ⟨b, hbl, by omega, rfl, by rw [HBN.out]; exact HBE.out⟩, HBW.out⟩
          case measure => simp [intOf]; omega
      | true =>
        have hs0 : (r.save != 0) = false := keep_ne hkb
        have HBK := Lib.hid (show bestR (l.take (k + 1)) = (match bestR (l.take k) with | none => some r | some x => if keyR r < keyR x then some r else some x) ∧ ∀ (h : bestR (l.take k) = none ∨ ∃ x, bestR (l.take k) = some x ∧ keyR r < keyR x), bestR (l.take (k + 1)) = some l[k] from by
          have e : bestR (l.take (k + 1)) = (match bestR (l.take k) with | none => some r | some x => if keyR r < keyR x then some r else some x) := by rw [HNX.out]; unfold bestS; rw [if_pos hkb]
          refine ⟨e, fun h => ?_⟩
          rw [e, HR.out]
          rcases h with h | ⟨x, h, hx⟩
          · rw [h]
          · rw [h]
            simp only [if_pos hx])
        clear hkb
        rcases hbest with ⟨rfl, hbn⟩ | ⟨b, hbl, hbk, rfl, hbs⟩
        · have HBS := Lib.hid hbn
          clear hbn
          go_wp2_with fail
          refine wp_env (fin := ?fnN) (by kernel_rfl) [17, 18, 19, 20, 21, 22, 23, 24, 25, 26, 27, 28, 29, 30, 31, 32, 33, 34, 35, 36, 37, 38, 39, 40, 41, 42, 43, 44, 45, 46, 47, 48, 49, 50, 51, 52, 53, 54, 55, 56, 57]
            [.int .i64 (-1), .bool true, .bool true, undef, undef, undef, undef, undef, undef, undef, undef, undef, undef, undef, .bool true, .bool true, undef, undef, undef, undef, undef, undef, undef, undef, undef, undef, undef, undef, undef, undef, undef, undef, undef, undef, undef, undef, undef, undef, undef, undef, .bool true] (by kernel_rfl) ?finN ?stepsN ?nextN
          case finN =>
            simp only [putAll, Act.put, List.setIfInBounds_toArray, List.set_cons_succ, List.set_cons_zero]
            rfl
          case stepsN =>
            refine ⟨.inr ⟨by kernel_rfl, fun w1_ hB_ => ?_⟩, .inr ⟨by kernel_rfl, fun w1_ hB_ => ?_⟩, .inr ⟨by kernel_rfl, fun w1_ hB_ => ?_⟩, .inl ⟨by kernel_rfl, rfl⟩, .inl ⟨by kernel_rfl, rfl⟩, .inl ⟨by kernel_rfl, rfl⟩, .inl ⟨by kernel_rfl, rfl⟩, .inl ⟨by kernel_rfl, rfl⟩, .inl ⟨by kernel_rfl, rfl⟩, .inl ⟨by kernel_rfl, rfl⟩, .inl ⟨by kernel_rfl, rfl⟩, .inl ⟨by kernel_rfl, rfl⟩, .inl ⟨by kernel_rfl, rfl⟩, .inl ⟨by kernel_rfl, rfl⟩, .inr ⟨by kernel_rfl, fun w1_ hB_ => ?_⟩, .inr ⟨by kernel_rfl, fun w1_ hB_ => ?_⟩, .inl ⟨by kernel_rfl, rfl⟩, .inl ⟨by kernel_rfl, rfl⟩, .inl ⟨by kernel_rfl, rfl⟩, .inl ⟨by kernel_rfl, rfl⟩, .inl ⟨by kernel_rfl, rfl⟩, .inl ⟨by kernel_rfl, rfl⟩, .inl ⟨by kernel_rfl, rfl⟩, .inl ⟨by kernel_rfl, rfl⟩, .inl ⟨by kernel_rfl, rfl⟩, .inl ⟨by kernel_rfl, rfl⟩, .inl ⟨by kernel_rfl, rfl⟩, .inl ⟨by kernel_rfl, rfl⟩, .inl ⟨by kernel_rfl, rfl⟩, .inl ⟨by kernel_rfl, rfl⟩, .inl ⟨by kernel_rfl, rfl⟩, .inl ⟨by kernel_rfl, rfl⟩, .inl ⟨by kernel_rfl, rfl⟩, .inl ⟨by kernel_rfl, rfl⟩, .inl ⟨by kernel_rfl, rfl⟩, .inl ⟨by kernel_rfl, rfl⟩, .inl ⟨by kernel_rfl, rfl⟩, .inl ⟨by kernel_rfl, rfl⟩, .inl ⟨by kernel_rfl, rfl⟩, .inl ⟨by kernel_rfl, rfl⟩, .inr ⟨by kernel_rfl, fun w1_ hB_ => ?_⟩, trivial⟩
            all_goals
              go_simp
              first
                | exact ⟨rfl, Below.refl _ _⟩
                | (rw [decide_eq_true (by omega)]; exact ⟨rfl, Below.refl _ _⟩)
                | (rw [decide_eq_false (by omega)]; exact ⟨rfl, Below.refl _ _⟩)
                | (rw [if_pos (by omega)]; exact ⟨rfl, Below.refl _ _⟩)
                | (rw [IntWalk.i64_in _ (by omega)]; exact ⟨rfl, Below.refl _ _⟩)
                | done
          case nextN =>
          have HBN := Lib.hid (HBK.out.2 (.inl HBS.out))
          intro w5 hb5
          have HB5 := Lib.hid (HBW.out.trans (hb5.mono hws))
          clear hb5 c0 c1 c2 c3 c4 c5 c6 c7 c8 c9 c10
          go_wp2_with fail
          go_roundw
          case rel => exact ⟨k + 1, by omega, by go_num, .inr ⟨k, by omega, by omega, rfl, HBN.out⟩, HB5.out⟩
          case measure => simp [intOf]; omega
        · obtain ⟨x, hx⟩ : ∃ x, l[b] = x := ⟨_, rfl⟩
          have hcb := HCC.out b hbl
          have hmx := HMO.out b hbl
          rw [hx] at hcb hmx hbs
          have HBS := Lib.hid hbs
          have HX := Lib.hid hx
          have HBO := Lib.hid (fun (h : ¬ keyR r < keyR x) => show bestR (l.take (k + 1)) = some l[b] by rw [HBK.out.1, HBS.out, HX.out]; simp only [if_neg h])
          obtain ⟨-, x1, -, x3, -⟩ := hcb
          have HCELL := Lib.hid (fun (W : World) (h : Below wr.heap.size wr W) => show W.cell? ⟨bb, o + k * 11 + 1, none⟩ = some (.int .i64 r.from_) ∧ W.cell? ⟨bb, o + k * 11 + 3, none⟩ = some (.int .i64 r.month) ∧ W.cell? ⟨bb, o + b * 11 + 1, none⟩ = some (.int .i64 x.from_) ∧ W.cell? ⟨bb, o + b * 11 + 3, none⟩ = some (.int .i64 x.month) from ⟨(h.cell hbr).trans c1, (h.cell hbr).trans c3, (h.cell hbr).trans x1, (h.cell hbr).trans x3⟩)
          have hb0 : decide ((b : Int) < 0) = false := decide_eq_false (by omega)
          unfold mOk at hmr hmx
          have hb2 : b < l.length := hbl
          clear hx hbs x1 x3
          by_cases h1 : r.from_ < x.from_
          · have g1 : decide (r.from_ < x.from_) = true := decide_eq_true h1
            have hky : keyR r < keyR x := by unfold keyR; omega
            have HKY := Lib.hid hky
            clear hky
            go_wp2_with fail
            refine wp_env (fin := ?fnL) (by kernel_rfl) [17, 18, 19, 20, 21, 22, 23, 24, 25, 26, 27, 28, 29, 30, 31, 32, 33, 34, 35, 36, 37, 38, 39, 40, 41, 42, 43, 44, 45, 46, 47, 48, 49, 50, 51, 52, 53, 54, 55, 56, 57]
              [.int .i64 b, .bool false, .bool false, .slice (some ⟨bb, o, none⟩) l.length c, .int .i64 k, .pointer (some ⟨bb, o + k * 11, none⟩), .pointer (some ⟨bb, o + k * 11 + 1, none⟩), .int .i64 r.from_, .slice (some ⟨bb, o, none⟩) l.length c, .int .i64 b, .pointer (some ⟨bb, o + b * 11, none⟩), .pointer (some ⟨bb, o + b * 11 + 1, none⟩), .int .i64 x.from_, .bool true, .bool true, .bool true, undef, undef, undef, undef, undef, undef, undef, undef, undef, undef, undef, undef, undef, undef, undef, undef, undef, undef, undef, undef, undef, undef, undef, undef, .bool true] (by kernel_rfl) ?finL ?stepsL ?nextL
            case finL =>
              simp only [putAll, Act.put, List.setIfInBounds_toArray, List.set_cons_succ, List.set_cons_zero]
              rfl
            case stepsL =>
              refine ⟨.inr ⟨by kernel_rfl, fun w1_ hB_ => ?_⟩, .inr ⟨by kernel_rfl, fun w1_ hB_ => ?_⟩, .inr ⟨by kernel_rfl, fun w1_ hB_ => ?_⟩, .inr ⟨by kernel_rfl, fun w1_ hB_ => ?_⟩, .inr ⟨by kernel_rfl, fun w1_ hB_ => ?_⟩, .inr ⟨by kernel_rfl, fun w1_ hB_ => ?_⟩, .inr ⟨by kernel_rfl, fun w1_ hB_ => ?_⟩, .inr ⟨by kernel_rfl, fun w1_ hB_ => ?_⟩, .inr ⟨by kernel_rfl, fun w1_ hB_ => ?_⟩, .inr ⟨by kernel_rfl, fun w1_ hB_ => ?_⟩, .inr ⟨by kernel_rfl, fun w1_ hB_ => ?_⟩, .inr ⟨by kernel_rfl, fun w1_ hB_ => ?_⟩, .inr ⟨by kernel_rfl, fun w1_ hB_ => ?_⟩, .inr ⟨by kernel_rfl, fun w1_ hB_ => ?_⟩, .inr ⟨by kernel_rfl, fun w1_ hB_ => ?_⟩, .inr ⟨by kernel_rfl, fun w1_ hB_ => ?_⟩, .inl ⟨by kernel_rfl, rfl⟩, .inl ⟨by kernel_rfl, rfl⟩, .inl ⟨by kernel_rfl, rfl⟩, .inl ⟨by kernel_rfl, rfl⟩, .inl ⟨by kernel_rfl, rfl⟩, .inl ⟨by kernel_rfl, rfl⟩, .inl ⟨by kernel_rfl, rfl⟩, .inl ⟨by kernel_rfl, rfl⟩, .inl ⟨by kernel_rfl, rfl⟩, .inl ⟨by kernel_rfl, rfl⟩, .inl ⟨by kernel_rfl, rfl⟩, .inl ⟨by kernel_rfl, rfl⟩, .inl ⟨by kernel_rfl, rfl⟩, .inl ⟨by kernel_rfl, rfl⟩, .inl ⟨by kernel_rfl, rfl⟩, .inl ⟨by kernel_rfl, rfl⟩, .inl ⟨by kernel_rfl, rfl⟩, .inl ⟨by kernel_rfl, rfl⟩, .inl ⟨by kernel_rfl, rfl⟩, .inl ⟨by kernel_rfl, rfl⟩, .inl ⟨by kernel_rfl, rfl⟩, .inl ⟨by kernel_rfl, rfl⟩, .inl ⟨by kernel_rfl, rfl⟩, .inl ⟨by kernel_rfl, rfl⟩, .inr ⟨by kernel_rfl, fun w1_ hB_ => ?_⟩, trivial⟩
              all_goals
                obtain ⟨r1, r3, x1, x3⟩ := HCELL.out w1_ hB_
                go_simp
                first
                  | exact ⟨rfl, Below.refl _ _⟩
                  | (rw [decide_eq_true (by omega)]; exact ⟨rfl, Below.refl _ _⟩)
                  | (rw [decide_eq_false (by omega)]; exact ⟨rfl, Below.refl _ _⟩)
                  | (rw [if_pos (by omega)]; exact ⟨rfl, Below.refl _ _⟩)
                  | (rw [IntWalk.i64_in _ (by omega)]; exact ⟨rfl, Below.refl _ _⟩)
                  | done
            case nextL =>
            have HBN := Lib.hid (HBK.out.2 (.inr ⟨x, HBS.out, HKY.out⟩))
            intro w5 hb5
            have HB5 := Lib.hid (HBW.out.trans (hb5.mono hws))
            clear hb5 c0 c1 c2 c3 c4 c5 c6 c7 c8 c9 c10
            go_wp2_with fail
            go_roundw
            case rel => exact ⟨k + 1, by omega, by go_num, .inr ⟨k, by omega, by omega, rfl, HBN.out⟩, HB5.out⟩
            case measure => simp [intOf]; omega
          · have g1 : decide (r.from_ < x.from_) = false := decide_eq_false h1
            by_cases h2 : r.from_ = x.from_
            · have g2 : (r.from_ == x.from_) = true := by simpa using h2
              by_cases h3 : r.month < x.month
              · have g3 : decide (r.month < x.month) = true := decide_eq_true h3
                have hky : keyR r < keyR x := by unfold keyR; omega
                have HKY := Lib.hid hky
                clear hky h2
                go_wp2_with fail
                refine wp_env (fin := ?fnM) (by kernel_rfl) [17, 18, 19, 20, 21, 22, 23, 24, 25, 26, 27, 28, 29, 30, 31, 32, 33, 34, 35, 36, 37, 38, 39, 40, 41, 42, 43, 44, 45, 46, 47, 48, 49, 50, 51, 52, 53, 54, 55, 56, 57]
                  [.int .i64 b, .bool false, .bool false, .slice (some ⟨bb, o, none⟩) l.length c, .int .i64 k, .pointer (some ⟨bb, o + k * 11, none⟩), .pointer (some ⟨bb, o + k * 11 + 1, none⟩), .int .i64 r.from_, .slice (some ⟨bb, o, none⟩) l.length c, .int .i64 b, .pointer (some ⟨bb, o + b * 11, none⟩), .pointer (some ⟨bb, o + b * 11 + 1, none⟩), .int .i64 x.from_, .bool false, .bool false, .bool false, .slice (some ⟨bb, o, none⟩) l.length c, .int .i64 k, .pointer (some ⟨bb, o + k * 11, none⟩), .pointer (some ⟨bb, o + k * 11 + 1, none⟩), .int .i64 r.from_, .slice (some ⟨bb, o, none⟩) l.length c, .int .i64 b, .pointer (some ⟨bb, o + b * 11, none⟩), .pointer (some ⟨bb, o + b * 11 + 1, none⟩), .int .i64 x.from_, .bool true, .bool true, .slice (some ⟨bb, o, none⟩) l.length c, .int .i64 k, .pointer (some ⟨bb, o + k * 11, none⟩), .pointer (some ⟨bb, o + k * 11 + 3, none⟩), .int .i64 r.month, .slice (some ⟨bb, o, none⟩) l.length c, .int .i64 b, .pointer (some ⟨bb, o + b * 11, none⟩), .pointer (some ⟨bb, o + b * 11 + 3, none⟩), .int .i64 x.month, .bool true, .bool true, .bool true] (by kernel_rfl) ?finM ?stepsM ?nextM
                case finM =>
                  simp only [putAll, Act.put, List.setIfInBounds_toArray, List.set_cons_succ, List.set_cons_zero]
                  rfl
                case stepsM =>
                  refine ⟨.inr ⟨by kernel_rfl, fun w1_ hB_ => ?_⟩, .inr ⟨by kernel_rfl, fun w1_ hB_ => ?_⟩, .inr ⟨by kernel_rfl, fun w1_ hB_ => ?_⟩, .inr ⟨by kernel_rfl, fun w1_ hB_ => ?_⟩, .inr ⟨by kernel_rfl, fun w1_ hB_ => ?_⟩, .inr ⟨by kernel_rfl, fun w1_ hB_ => ?_⟩, .inr ⟨by kernel_rfl, fun w1_ hB_ => ?_⟩, .inr ⟨by kernel_rfl, fun w1_ hB_ => ?_⟩, .inr ⟨by kernel_rfl, fun w1_ hB_ => ?_⟩, .inr ⟨by kernel_rfl, fun w1_ hB_ => ?_⟩, .inr ⟨by kernel_rfl, fun w1_ hB_ => ?_⟩, .inr ⟨by kernel_rfl, fun w1_ hB_ => ?_⟩, .inr ⟨by kernel_rfl, fun w1_ hB_ => ?_⟩, .inr ⟨by kernel_rfl, fun w1_ hB_ => ?_⟩, .inr ⟨by kernel_rfl, fun w1_ hB_ => ?_⟩, .inr ⟨by kernel_rfl, fun w1_ hB_ => ?_⟩, .inr ⟨by kernel_rfl, fun w1_ hB_ => ?_⟩, .inr ⟨by kernel_rfl, fun w1_ hB_ => ?_⟩, .inr ⟨by kernel_rfl, fun w1_ hB_ => ?_⟩, .inr ⟨by kernel_rfl, fun w1_ hB_ => ?_⟩, .inr ⟨by kernel_rfl, fun w1_ hB_ => ?_⟩, .inr ⟨by kernel_rfl, fun w1_ hB_ => ?_⟩, .inr ⟨by kernel_rfl, fun w1_ hB_ => ?_⟩, .inr ⟨by kernel_rfl, fun w1_ hB_ => ?_⟩, .inr ⟨by kernel_rfl, fun w1_ hB_ => ?_⟩, .inr ⟨by kernel_rfl, fun w1_ hB_ => ?_⟩, .inr ⟨by kernel_rfl, fun w1_ hB_ => ?_⟩, .inr ⟨by kernel_rfl, fun w1_ hB_ => ?_⟩, .inr ⟨by kernel_rfl, fun w1_ hB_ => ?_⟩, .inr ⟨by kernel_rfl, fun w1_ hB_ => ?_⟩, .inr ⟨by kernel_rfl, fun w1_ hB_ => ?_⟩, .inr ⟨by kernel_rfl, fun w1_ hB_ => ?_⟩, .inr ⟨by kernel_rfl, fun w1_ hB_ => ?_⟩, .inr ⟨by kernel_rfl, fun w1_ hB_ => ?_⟩, .inr ⟨by kernel_rfl, fun w1_ hB_ => ?_⟩, .inr ⟨by kernel_rfl, fun w1_ hB_ => ?_⟩, .inr ⟨by kernel_rfl, fun w1_ hB_ => ?_⟩, .inr ⟨by kernel_rfl, fun w1_ hB_ => ?_⟩, .inr ⟨by kernel_rfl, fun w1_ hB_ => ?_⟩, .inr ⟨by kernel_rfl, fun w1_ hB_ => ?_⟩, .inr ⟨by kernel_rfl, fun w1_ hB_ => ?_⟩, trivial⟩
                  all_goals
                    obtain ⟨r1, r3, x1, x3⟩ := HCELL.out w1_ hB_
                    go_simp
                    first
                      | exact ⟨rfl, Below.refl _ _⟩
                      | (rw [decide_eq_true (by omega)]; exact ⟨rfl, Below.refl _ _⟩)
                      | (rw [decide_eq_false (by omega)]; exact ⟨rfl, Below.refl _ _⟩)
                      | (rw [if_pos (by omega)]; exact ⟨rfl, Below.refl _ _⟩)
                      | (rw [IntWalk.i64_in _ (by omega)]; exact ⟨rfl, Below.refl _ _⟩)
                      | done
                case nextM =>
                have HBN := Lib.hid (HBK.out.2 (.inr ⟨x, HBS.out, HKY.out⟩))
                intro w5 hb5
                have HB5 := Lib.hid (HBW.out.trans (hb5.mono hws))
                clear hb5 c0 c1 c2 c3 c4 c5 c6 c7 c8 c9 c10
                go_wp2_with fail
                go_roundw
                case rel => exact ⟨k + 1, by omega, by go_num, .inr ⟨k, by omega, by omega, rfl, HBN.out⟩, HB5.out⟩
                case measure => simp [intOf]; omega
              · have g3 : decide (r.month < x.month) = false := decide_eq_false h3
                have hky : ¬ keyR r < keyR x := by unfold keyR; omega
                have HKY := Lib.hid hky
                clear hky h2
                go_wp2_with fail
                refine wp_env (fin := ?fnS) (by kernel_rfl) [17, 18, 19, 20, 21, 22, 23, 24, 25, 26, 27, 28, 29, 30, 31, 32, 33, 34, 35, 36, 37, 38, 39, 40, 41, 42, 43, 44, 45, 46, 47, 48, 49, 50, 51, 52, 53, 54, 55, 56, 57]
                  [.int .i64 b, .bool false, .bool false, .slice (some ⟨bb, o, none⟩) l.length c, .int .i64 k, .pointer (some ⟨bb, o + k * 11, none⟩), .pointer (some ⟨bb, o + k * 11 + 1, none⟩), .int .i64 r.from_, .slice (some ⟨bb, o, none⟩) l.length c, .int .i64 b, .pointer (some ⟨bb, o + b * 11, none⟩), .pointer (some ⟨bb, o + b * 11 + 1, none⟩), .int .i64 x.from_, .bool false, .bool false, .bool false, .slice (some ⟨bb, o, none⟩) l.length c, .int .i64 k, .pointer (some ⟨bb, o + k * 11, none⟩), .pointer (some ⟨bb, o + k * 11 + 1, none⟩), .int .i64 r.from_, .slice (some ⟨bb, o, none⟩) l.length c, .int .i64 b, .pointer (some ⟨bb, o + b * 11, none⟩), .pointer (some ⟨bb, o + b * 11 + 1, none⟩), .int .i64 x.from_, .bool true, .bool true, .slice (some ⟨bb, o, none⟩) l.length c, .int .i64 k, .pointer (some ⟨bb, o + k * 11, none⟩), .pointer (some ⟨bb, o + k * 11 + 3, none⟩), .int .i64 r.month, .slice (some ⟨bb, o, none⟩) l.length c, .int .i64 b, .pointer (some ⟨bb, o + b * 11, none⟩), .pointer (some ⟨bb, o + b * 11 + 3, none⟩), .int .i64 x.month, .bool false, .bool false, .bool false] (by kernel_rfl) ?finS ?stepsS ?nextS
                case finS =>
                  simp only [putAll, Act.put, List.setIfInBounds_toArray, List.set_cons_succ, List.set_cons_zero]
                  rfl
                case stepsS =>
                  refine ⟨.inr ⟨by kernel_rfl, fun w1_ hB_ => ?_⟩, .inr ⟨by kernel_rfl, fun w1_ hB_ => ?_⟩, .inr ⟨by kernel_rfl, fun w1_ hB_ => ?_⟩, .inr ⟨by kernel_rfl, fun w1_ hB_ => ?_⟩, .inr ⟨by kernel_rfl, fun w1_ hB_ => ?_⟩, .inr ⟨by kernel_rfl, fun w1_ hB_ => ?_⟩, .inr ⟨by kernel_rfl, fun w1_ hB_ => ?_⟩, .inr ⟨by kernel_rfl, fun w1_ hB_ => ?_⟩, .inr ⟨by kernel_rfl, fun w1_ hB_ => ?_⟩, .inr ⟨by kernel_rfl, fun w1_ hB_ => ?_⟩, .inr ⟨by kernel_rfl, fun w1_ hB_ => ?_⟩, .inr ⟨by kernel_rfl, fun w1_ hB_ => ?_⟩, .inr ⟨by kernel_rfl, fun w1_ hB_ => ?_⟩, .inr ⟨by kernel_rfl, fun w1_ hB_ => ?_⟩, .inr ⟨by kernel_rfl, fun w1_ hB_ => ?_⟩, .inr ⟨by kernel_rfl, fun w1_ hB_ => ?_⟩, .inr ⟨by kernel_rfl, fun w1_ hB_ => ?_⟩, .inr ⟨by kernel_rfl, fun w1_ hB_ => ?_⟩, .inr ⟨by kernel_rfl, fun w1_ hB_ => ?_⟩, .inr ⟨by kernel_rfl, fun w1_ hB_ => ?_⟩, .inr ⟨by kernel_rfl, fun w1_ hB_ => ?_⟩, .inr ⟨by kernel_rfl, fun w1_ hB_ => ?_⟩, .inr ⟨by kernel_rfl, fun w1_ hB_ => ?_⟩, .inr ⟨by kernel_rfl, fun w1_ hB_ => ?_⟩, .inr ⟨by kernel_rfl, fun w1_ hB_ => ?_⟩, .inr ⟨by kernel_rfl, fun w1_ hB_ => ?_⟩, .inr ⟨by kernel_rfl, fun w1_ hB_ => ?_⟩, .inr ⟨by kernel_rfl, fun w1_ hB_ => ?_⟩, .inr ⟨by kernel_rfl, fun w1_ hB_ => ?_⟩, .inr ⟨by kernel_rfl, fun w1_ hB_ => ?_⟩, .inr ⟨by kernel_rfl, fun w1_ hB_ => ?_⟩, .inr ⟨by kernel_rfl, fun w1_ hB_ => ?_⟩, .inr ⟨by kernel_rfl, fun w1_ hB_ => ?_⟩, .inr ⟨by kernel_rfl, fun w1_ hB_ => ?_⟩, .inr ⟨by kernel_rfl, fun w1_ hB_ => ?_⟩, .inr ⟨by kernel_rfl, fun w1_ hB_ => ?_⟩, .inr ⟨by kernel_rfl, fun w1_ hB_ => ?_⟩, .inr ⟨by kernel_rfl, fun w1_ hB_ => ?_⟩, .inr ⟨by kernel_rfl, fun w1_ hB_ => ?_⟩, .inr ⟨by kernel_rfl, fun w1_ hB_ => ?_⟩, .inr ⟨by kernel_rfl, fun w1_ hB_ => ?_⟩, trivial⟩
                  all_goals
                    obtain ⟨r1, r3, x1, x3⟩ := HCELL.out w1_ hB_
                    go_simp
                    first
                      | exact ⟨rfl, Below.refl _ _⟩
                      | (rw [decide_eq_true (by omega)]; exact ⟨rfl, Below.refl _ _⟩)
                      | (rw [decide_eq_false (by omega)]; exact ⟨rfl, Below.refl _ _⟩)
                      | (rw [if_pos (by omega)]; exact ⟨rfl, Below.refl _ _⟩)
                      | (rw [IntWalk.i64_in _ (by omega)]; exact ⟨rfl, Below.refl _ _⟩)
                      | done
                case nextS =>
                have HBN := Lib.hid (HBO.out HKY.out)
                intro w5 hb5
                have HB5 := Lib.hid (HBW.out.trans (hb5.mono hws))
                clear hb5 c0 c1 c2 c3 c4 c5 c6 c7 c8 c9 c10
                go_wp2_with fail
                go_roundw
                case rel => exact ⟨k + 1, by omega, by go_num, .inr ⟨b, hbl, by omega, rfl, HBN.out⟩, HB5.out⟩
                case measure => simp [intOf]; omega
            · have g2 : (r.from_ == x.from_) = false := by simpa using h2
              have hky : ¬ keyR r < keyR x := by unfold keyR; omega
              have HKY := Lib.hid hky
              clear hky
              go_wp2_with fail
              refine wp_env (fin := ?fnG) (by kernel_rfl) [17, 18, 19, 20, 21, 22, 23, 24, 25, 26, 27, 28, 29, 30, 31, 32, 33, 34, 35, 36, 37, 38, 39, 40, 41, 42, 43, 44, 45, 46, 47, 48, 49, 50, 51, 52, 53, 54, 55, 56, 57]
                [.int .i64 b, .bool false, .bool false, .slice (some ⟨bb, o, none⟩) l.length c, .int .i64 k, .pointer (some ⟨bb, o + k * 11, none⟩), .pointer (some ⟨bb, o + k * 11 + 1, none⟩), .int .i64 r.from_, .slice (some ⟨bb, o, none⟩) l.length c, .int .i64 b, .pointer (some ⟨bb, o + b * 11, none⟩), .pointer (some ⟨bb, o + b * 11 + 1, none⟩), .int .i64 x.from_, .bool false, .bool false, .bool false, .slice (some ⟨bb, o, none⟩) l.length c, .int .i64 k, .pointer (some ⟨bb, o + k * 11, none⟩), .pointer (some ⟨bb, o + k * 11 + 1, none⟩), .int .i64 r.from_, .slice (some ⟨bb, o, none⟩) l.length c, .int .i64 b, .pointer (some ⟨bb, o + b * 11, none⟩), .pointer (some ⟨bb, o + b * 11 + 1, none⟩), .int .i64 x.from_, .bool false, .bool false, undef, undef, undef, undef, undef, undef, undef, undef, undef, undef, undef, .bool false, .bool false] (by kernel_rfl) ?finG ?stepsG ?nextG
              case finG =>
                simp only [putAll, Act.put, List.setIfInBounds_toArray, List.set_cons_succ, List.set_cons_zero]
                rfl
              case stepsG =>
                refine ⟨.inr ⟨by kernel_rfl, fun w1_ hB_ => ?_⟩, .inr ⟨by kernel_rfl, fun w1_ hB_ => ?_⟩, .inr ⟨by kernel_rfl, fun w1_ hB_ => ?_⟩, .inr ⟨by kernel_rfl, fun w1_ hB_ => ?_⟩, .inr ⟨by kernel_rfl, fun w1_ hB_ => ?_⟩, .inr ⟨by kernel_rfl, fun w1_ hB_ => ?_⟩, .inr ⟨by kernel_rfl, fun w1_ hB_ => ?_⟩, .inr ⟨by kernel_rfl, fun w1_ hB_ => ?_⟩, .inr ⟨by kernel_rfl, fun w1_ hB_ => ?_⟩, .inr ⟨by kernel_rfl, fun w1_ hB_ => ?_⟩, .inr ⟨by kernel_rfl, fun w1_ hB_ => ?_⟩, .inr ⟨by kernel_rfl, fun w1_ hB_ => ?_⟩, .inr ⟨by kernel_rfl, fun w1_ hB_ => ?_⟩, .inr ⟨by kernel_rfl, fun w1_ hB_ => ?_⟩, .inr ⟨by kernel_rfl, fun w1_ hB_ => ?_⟩, .inr ⟨by kernel_rfl, fun w1_ hB_ => ?_⟩, .inr ⟨by kernel_rfl, fun w1_ hB_ => ?_⟩, .inr ⟨by kernel_rfl, fun w1_ hB_ => ?_⟩, .inr ⟨by kernel_rfl, fun w1_ hB_ => ?_⟩, .inr ⟨by kernel_rfl, fun w1_ hB_ => ?_⟩, .inr ⟨by kernel_rfl, fun w1_ hB_ => ?_⟩, .inr ⟨by kernel_rfl, fun w1_ hB_ => ?_⟩, .inr ⟨by kernel_rfl, fun w1_ hB_ => ?_⟩, .inr ⟨by kernel_rfl, fun w1_ hB_ => ?_⟩, .inr ⟨by kernel_rfl, fun w1_ hB_ => ?_⟩, .inr ⟨by kernel_rfl, fun w1_ hB_ => ?_⟩, .inr ⟨by kernel_rfl, fun w1_ hB_ => ?_⟩, .inr ⟨by kernel_rfl, fun w1_ hB_ => ?_⟩, .inl ⟨by kernel_rfl, rfl⟩, .inl ⟨by kernel_rfl, rfl⟩, .inl ⟨by kernel_rfl, rfl⟩, .inl ⟨by kernel_rfl, rfl⟩, .inl ⟨by kernel_rfl, rfl⟩, .inl ⟨by kernel_rfl, rfl⟩, .inl ⟨by kernel_rfl, rfl⟩, .inl ⟨by kernel_rfl, rfl⟩, .inl ⟨by kernel_rfl, rfl⟩, .inl ⟨by kernel_rfl, rfl⟩, .inl ⟨by kernel_rfl, rfl⟩, .inr ⟨by kernel_rfl, fun w1_ hB_ => ?_⟩, .inr ⟨by kernel_rfl, fun w1_ hB_ => ?_⟩, trivial⟩
                all_goals
                  obtain ⟨r1, r3, x1, x3⟩ := HCELL.out w1_ hB_
                  go_simp
                  first
                    | exact ⟨rfl, Below.refl _ _⟩
                    | (rw [decide_eq_true (by omega)]; exact ⟨rfl, Below.refl _ _⟩)
                    | (rw [decide_eq_false (by omega)]; exact ⟨rfl, Below.refl _ _⟩)
                    | (rw [if_pos (by omega)]; exact ⟨rfl, Below.refl _ _⟩)
                    | (rw [IntWalk.i64_in _ (by omega)]; exact ⟨rfl, Below.refl _ _⟩)
                    | done
              case nextG =>
              have HBN := Lib.hid (HBO.out HKY.out)
              intro w5 hb5
              have HB5 := Lib.hid (HBW.out.trans (hb5.mono hws))
              clear hb5 c0 c1 c2 c3 c4 c5 c6 c7 c8 c9 c10
              go_wp2_with fail
              go_roundw
              case rel => exact ⟨k + 1, by omega, by go_num, .inr ⟨b, hbl, by omega, rfl, HBN.out⟩, HB5.out⟩
              case measure => simp [intOf]; omega
    · obtain rfl : k = l.length := by omega
      have hd : decide ((l.length : Int) < (l.length : Int)) = false := decide_eq_false (by omega)
      rw [List.take_length] at hbest
      rcases hbest with ⟨rfl, hbn⟩ | ⟨b, hbl, hbk, rfl, hbs⟩
      · have HLV := Lib.hid (show letV l = ⟨#[]⟩ by unfold letV; rw [hbn])
        clear hbn
        go_wp2_with fail
        go_ret
        exact ⟨by rw [HLV.out]; rfl, HBW.out⟩
      · obtain ⟨bb, o, c', e, hbb, hc⟩ := (HV.out.below (HBW.out.mono hB)).cells (by omega)
        cases e
        obtain ⟨-, -, -, -, -, -, -, -, -, -, c10⟩ := hc b hbl
        have HLV := Lib.hid (show letV l = l[b].letter by unfold letV; rw [hbs])
        obtain ⟨x, hx⟩ : ∃ x, l[b] = x := ⟨_, rfl⟩
        rw [hx] at c10 HLV
        have hb0 : decide ((b : Int) < 0) = false := decide_eq_false (by omega)
        clear hc hx hbs
        go_wp2_with fail
        go_ret
        exact ⟨by rw [HLV.out]; rfl, HBW.out⟩
end Go.Proofs.YtkdpflgkcnhoiaaDoor
