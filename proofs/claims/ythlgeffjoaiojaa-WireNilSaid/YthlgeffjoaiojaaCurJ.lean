/-
  Layer 5's law: what a call answers, by the reference.
-/
import Derived.Test.YthlgeffjoaiojaaCurI
import Derived.Test.YthlgeffjoaiojaaCurH
namespace Go.Proofs.Ythlgeffjoaiojaa
open Go Go.RowKit

theorem unzig_eq (m : Nat) : (if m % 2 = 0 then ((m / 2 : Nat) : Int) else -((m / 2 : Nat) : Int) - 1) = unzig m := rfl
theorem fval_drop_le (l : List UInt8) : ∀ j, fval (l.drop j) ≤ fval l := by
  induction l with
  | nil => intro j; simp
  | cons y l ih =>
    intro j
    rcases j with _ | j
    · simp
    · rw [List.drop_succ_cons]; have := ih j; simp only [fval]; omega
theorem fval_drop {l : List UInt8} {p : Nat} (h : p < l.length) : fval (l.drop p) = l[p].toNat + 256 * fval (l.drop (p + 1)) := by
  rw [List.drop_eq_getElem_cons h]; rfl
theorem fval_eight {r : List UInt8} (h : 7 < r.length) : 9223372036854775808 ≤ fval (r.take 8) ↔ 127 < r[7].toNat := by
  have h1 : fval (r.take 8) = fval (r.take 7) + 256 ^ 7 * r[7].toNat := by
    rw [show (8 : Nat) = 7 + 1 from rfl, List.take_succ_eq_append_getElem h, fval_append, List.length_take, Nat.min_eq_left (by omega)]
  have h2 := fval_lt (r.take 7)
  rw [List.length_take, Nat.min_eq_left (by omega)] at h2
  omega
theorem fval_seven {r : List UInt8} {n : Nat} (hn : n ≤ 7) : fval (r.take n) < 9223372036854775808 := by
  have h2 := fval_lt (r.take n)
  have h3 : (256 : Nat) ^ (r.take n).length ≤ 256 ^ 7 := Nat.pow_le_pow_right (by decide) (by rw [List.length_take]; omega)
  omega

/-- What the law's reading answers. -/
def LawRead (w : World) (r : List UInt8) (ask n : Int) (e : Ending) (w' : World) : Prop :=
  (∃ A' N c', e = .returned (.tuple #[.int .i64 (ansOf ask n r).2.2, .slice A' N c', .int .i64 (ansOf ask n r).2.1, .int .i64 (ansOf ask n r).1]) ∧ Bytes w' w'.heap.size (.slice A' N c') (doesB ask n 0 r)) ∧ Below w.heap.size w w'
theorem law_err {w w' : World} {r : List UInt8} {ask n : Int} {e : Nat} (h : (ansOf ask n r).1 = e) (hz : (ansOf ask n r).2 = (0, 0)) (hd : doesB ask n 0 r = []) (hb : Below w.heap.size w w') :
    LawRead w r ask n (.returned (.tuple #[.int .i64 0, .slice none 0 0, .int .i64 0, .int .i64 e])) w' :=
  ⟨⟨none, 0, 0, by rw [hz, h]; rfl, by rw [hd]; exact Bytes.nil _ _⟩, hb⟩
theorem law_num {w w' : World} {r : List UInt8} {ask n : Int} {m : Nat} {x : Int} (h : ansOf ask n r = (0, m, x)) (hd : doesB ask n 0 r = []) (hb : Below w.heap.size w w') :
    LawRead w r ask n (.returned (.tuple #[.int .i64 x, .slice none 0 0, .int .i64 m, .int .i64 0])) w' :=
  ⟨⟨none, 0, 0, by rw [h]; rfl, by rw [hd]; exact Bytes.nil _ _⟩, hb⟩
theorem results_tmp4 {fn : Func} {t u v x : Tmp} (h : fn.results = #[.tmp t, .tmp u, .tmp v, .tmp x]) (tmps : Array Value) (P : Program) (w : World) :
    (results fn tmps).run P w = .ok (.tuple #[tmps.getD t undef, tmps.getD u undef, tmps.getD v undef, tmps.getD x undef]) w := by
  simp [results, h]

set_option maxRecDepth 4000 in
set_option maxHeartbeats 2000000 in
theorem law_read (w : World) (v : Value) (r : List UInt8) (hv : Bytes w w.heap.size v r) (hl : r.length ≤ 1000000) (ask n : Int) (ha : -9223372036854775808 ≤ ask ∧ ask ≤ 9223372036854775807) (hn : -9223372036854775808 ≤ n ∧ n ≤ 9223372036854775807) :
    Calls Try.prog 20 #[v, .agg #[.int .i64 ask, .int .i64 n]] w (LawRead w r ask n) := by
  have hw1 : Below w.heap.size w (w.alloc (.cells #[.int .i64 ask, .int .i64 n] 38)) := (Below.refl _ _).alloc (Nat.le_refl _) _
  have c0 : (w.alloc (.cells #[.int .i64 ask, .int .i64 n] 38)).cell? ⟨w.heap.size, 0, none⟩ = some (.int .i64 ask) := by rw [cell_new]; rfl
  have c1 : (w.alloc (.cells #[.int .i64 ask, .int .i64 n] 38)).cell? ⟨w.heap.size, 1, none⟩ = some (.int .i64 n) := by rw [cell_new]; rfl
  have hsz : (w.alloc (.cells #[.int .i64 ask, .int .i64 n] 38)).heap.size = w.heap.size + 1 := by simp
  have hv1 := (hv.alloc (Nat.le_refl _) (.cells #[.int .i64 ask, .int .i64 n] 38)).more (show w.heap.size ≤ (w.alloc (.cells #[.int .i64 ask, .int .i64 n] 38)).heap.size by omega)
  have HW := Lib.hid hw1
  have HSZ := Lib.hid hsz
  clear hw1 hsz
  by_cases ha01 : ask = 0 ∨ ask = 1
  · have HR := Lib.hid (read_ref _ v r hv1 hl)
    have hd : doesB ask n 0 r = [] := by unfold doesB; rw [if_pos (by omega)]
    have HQ := Lib.hid (numOf_lt r)
    obtain ⟨e, many, m, hq⟩ : ∃ e many m, numOf r = (e, many, m) := ⟨_, _, _, rfl⟩
    have HQE := Lib.hid hq
    have hlt := HQ.out
    rw [hq] at hlt
    dsimp only at hlt
    have HD := Lib.hid hd
    clear hd hq hv hv1
    rcases ha01 with rfl | rfl
    · go_enter Try.func20, Try.ntmps20
      go_wp2_with fail
      refine HR.out.mono ?_
      rintro e' w2 ⟨⟨u, rfl, hu⟩, hb2⟩
      rw [HQE.out] at hu ⊢
      dsimp only at hu ⊢
      have HB2 := Lib.hid (HW.out.trans (hb2.mono (by rw [HSZ.out]; omega)))
      have hcell := (hb2.cell (p := ⟨w.heap.size, 0, none⟩) (by rw [HSZ.out]; simp)).trans c0
      by_cases he : e = 0
      · subst he
        have hu' := hu rfl
        have HU := Lib.hid hu'
        obtain ⟨b, o, c, rfl, hbB, hc⟩ := hu'.at_ (by omega)
        have hcc : 64 ≤ c := by
          obtain ⟨_, _, e, h1, -⟩ := HU.out
          cases e
          omega
        have hcx := hc 63 _ (bitsL_at (show 63 < 64 by omega))
        clear hc hu hu' hb2
        rcases Nat.lt_or_ge m 9223372036854775808 with h | h
        · have hA : ansOf 0 n r = (0, many, (m : Int)) := by
            show ansUint r = _
            simp only [ansUint, HQE.out]
            rw [if_neg (by omega)]
          have HA := Lib.hid hA
          have HN := Lib.hid (number_ref 64 m (by omega) w2 _ HU.out)
          rw [Nat.mod_eq_of_lt h] at HN
          rw [show m / 2 ^ 63 % 2 = 0 by rw [Nat.div_eq_of_lt h]] at hcx
          clear hA
          go_wp2_with fail
          refine HN.out.mono ?_
          rintro e' w3 ⟨rfl, hb3⟩
          go_wp2_with fail
          (try simp only [Exit.inBlock, Exit.then])
          refine bodyPost_ret (results_tmp4 rfl _ _ _) rfl ?_
          exact law_num HA.out HD.out (HB2.out.trans (hb3.mono HB2.out.size))
        · have hA : ansOf 0 n r = (11, 0, 0) := by
            show ansUint r = _
            simp only [ansUint, HQE.out]
            rw [if_pos ⟨trivial, h⟩]
          have HA := Lib.hid hA
          rw [show m / 2 ^ 63 % 2 = 1 by omega] at hcx
          clear hA
          go_wp2_with fail
          (try simp only [Exit.inBlock, Exit.then])
          refine bodyPost_ret (results_tmp4 rfl _ _ _) rfl ?_
          exact law_err (e := 11) (by rw [HA.out]) (by rw [HA.out]) HD.out HB2.out
      · have hA : (ansOf 0 n r).1 = e := by
          show (ansUint r).1 = _
          simp only [ansUint, HQE.out]
          rw [if_neg (by omega)]
        have hZ : (ansOf 0 n r).2 = (0, 0) := ansUint_zero (r := r) (fun h => he (hA.symm.trans h))
        have HP := Lib.hid (law_err hA hZ HD.out HB2.out)
        have hne : ((e : Int) != 0) = true := by rw [bne_iff_ne]; omega
        clear hA hZ hu
        go_wp2_with fail
        (try simp only [Exit.inBlock, Exit.then])
        refine bodyPost_ret (results_tmp4 rfl _ _ _) rfl ?_
        exact HP.out
    · go_enter Try.func20, Try.ntmps20
      go_wp2_with fail
      refine HR.out.mono ?_
      rintro e' w2 ⟨⟨u, rfl, hu⟩, hb2⟩
      rw [HQE.out] at hu ⊢
      dsimp only at hu ⊢
      have HB2 := Lib.hid (HW.out.trans (hb2.mono (by rw [HSZ.out]; omega)))
      have hcell := (hb2.cell (p := ⟨w.heap.size, 0, none⟩) (by rw [HSZ.out]; simp)).trans c0
      by_cases he : e = 0
      · subst he
        have hA : ansOf 1 n r = (0, many, unzig m) := by
          show ansInt r = _
          simp only [ansInt, HQE.out]
        have HA := Lib.hid hA
        have HN := Lib.hid (back_ref m (by have h := HQ.out; rw [HQE.out] at h; exact h) w2 _ (hu rfl))
        rw [unzig_eq] at HN
        clear hA hu hb2
        go_wp2_with fail
        refine HN.out.mono ?_
        rintro e' w3 ⟨rfl, hb3⟩
        go_wp2_with fail
        (try simp only [Exit.inBlock, Exit.then])
        refine bodyPost_ret (results_tmp4 rfl _ _ _) rfl ?_
        exact law_num HA.out HD.out (HB2.out.trans (hb3.mono HB2.out.size))
      · have hA : (ansOf 1 n r).1 = e := by
          show (ansInt r).1 = _
          simp only [ansInt, HQE.out]
        have hZ : (ansOf 1 n r).2 = (0, 0) := ansInt_zero (r := r) (fun h => he (hA.symm.trans h))
        have HP := Lib.hid (law_err hA hZ HD.out HB2.out)
        have hne : ((e : Int) != 0) = true := by rw [bne_iff_ne]; omega
        clear hA hZ hu
        go_wp2_with fail
        (try simp only [Exit.inBlock, Exit.then])
        refine bodyPost_ret (results_tmp4 rfl _ _ _) rfl ?_
        exact HP.out
  · have e0 : (ask == 0) = false := by rw [beq_eq_false_iff_ne]; omega
    have e1 : (ask == 1) = false := by rw [beq_eq_false_iff_ne]; omega
    obtain ⟨A, c, rfl, hKc, hcm, -, hA⟩ := hv1
    unfold maxLen at hcm
    have HA := Lib.hid hA; clear hA
    have HV := Lib.hid hv
    clear hv
    have hb : Below w.heap.size w (w.alloc (.cells #[.int .i64 ask, .int .i64 n] 38)) := HW.out
    by_cases ha2 : ask = 2
    · subst ha2
      have hd : doesB 2 n 0 r = [] := rfl
      have hAns : ansOf 2 n r = ansFixed n r := rfl
      have HD := Lib.hid hd
      clear hd
      by_cases h0 : n < 1
      · have hA : ansOf 2 n r = (1, 0, 0) := by rw [hAns]; simp only [ansFixed]; rw [if_pos (.inl h0)]
        have HP := Lib.hid (law_err (by rw [hA]) (by rw [hA]) HD.out hb : LawRead w r 2 n (.returned (.tuple #[.int .i64 0, .slice none 0 0, .int .i64 0, .int .i64 (1 : Nat)])) _)
        clear hA hAns
        rcases (show n < 0 ∨ 0 ≤ n by omega) with h00 | h00 <;> (
          go_enter Try.func20, Try.ntmps20
          go_wp2_with fail
          (try simp only [Exit.inBlock, Exit.then])
          refine bodyPost_ret (results_tmp4 rfl _ _ _) rfl ?_
          exact HP.out)
      by_cases h8 : 8 < n
      · have hA : ansOf 2 n r = (1, 0, 0) := by rw [hAns]; simp only [ansFixed]; rw [if_pos (.inr h8)]
        have HP := Lib.hid (law_err (by rw [hA]) (by rw [hA]) HD.out hb : LawRead w r 2 n (.returned (.tuple #[.int .i64 0, .slice none 0 0, .int .i64 0, .int .i64 (1 : Nat)])) _)
        clear hA hAns
        go_enter Try.func20, Try.ntmps20
        go_wp2_with fail
        (try simp only [Exit.inBlock, Exit.then])
        refine bodyPost_ret (results_tmp4 rfl _ _ _) rfl ?_
        exact HP.out
      by_cases h1 : (r.length : Int) < n
      · have hA : ansOf 2 n r = (20, 0, 0) := by rw [hAns]; simp only [ansFixed]; rw [if_neg (by omega), if_pos h1]
        have HP := Lib.hid (law_err (by rw [hA]) (by rw [hA]) HD.out hb : LawRead w r 2 n (.returned (.tuple #[.int .i64 0, .slice none 0 0, .int .i64 0, .int .i64 (20 : Nat)])) _)
        clear hA hAns
        go_enter Try.func20, Try.ntmps20
        go_wp2_with fail
        (try simp only [Exit.inBlock, Exit.then])
        refine bodyPost_ret (results_tmp4 rfl _ _ _) rfl ?_
        exact HP.out
      obtain ⟨s, rfl⟩ := Int.eq_ofNat_of_zero_le (show 0 ≤ n by omega)
      have hs1 : 1 ≤ s := by omega
      have hs8 : s ≤ 8 := by omega
      have hsr : s ≤ r.length := by omega
      have hAns2 : ansOf 2 s r = if 9223372036854775808 ≤ fval (r.take s) then (11, 0, 0) else (0, s, (fval (r.take s) : Int)) := by
        rw [hAns]; simp only [ansFixed, Int.toNat_natCast]; rw [if_neg (by omega), if_neg (by omega)]
      obtain ⟨b, o, rfl, hbB, hcell⟩ := HA.out (by omega)
      have HC : Hid (∀ j (h : j < r.length), (w.alloc (.cells #[.int .i64 2, .int .i64 (s : Nat)] 38)).cell? ⟨b, o + j, none⟩ = some (.int .u8 (r[j].toNat : Int))) := fun j h => hcell j _ (bytesV_at r j h)
      clear hcell h0 h8 h1 hAns
      by_cases h9 : s = 8 ∧ 9223372036854775808 ≤ fval (r.take s)
      · obtain ⟨rfl, h9⟩ := h9
        have hA : ansOf 2 (8 : Nat) r = (11, 0, 0) := by rw [hAns2, if_pos h9]
        have HP := Lib.hid (law_err (by rw [hA]) (by rw [hA]) HD.out hb : LawRead w r 2 (8 : Nat) (.returned (.tuple #[.int .i64 0, .slice none 0 0, .int .i64 0, .int .i64 (11 : Nat)])) _)
        have h7 := (fval_eight (show 7 < r.length by omega)).1 h9
        have hcx := HC.out 7 (by omega)
        have hy := (r[7]).toNat_lt
        generalize (r[7]).toNat = y at *
        clear hA hAns2 h9 HC hb HW HSZ
        rw [show ((8 : Nat) : Int) = 8 from rfl] at c0 c1 hcx HP ⊢
        go_enter Try.func20, Try.ntmps20
        go_wp2_with fail
        (try simp only [Exit.inBlock, Exit.then])
        refine bodyPost_ret (results_tmp4 rfl _ _ _) rfl ?_
        exact HP.out
      · have hlt : fval (r.take s) < 9223372036854775808 := by
          rcases Nat.lt_or_ge s 8 with h | h
          · exact fval_seven (by omega)
          · omega
        have hA : ansOf 2 s r = (0, s, (fval (r.take s) : Int)) := by rw [hAns2, if_neg (by omega)]
        have HP : Hid (∀ q w', Below w.heap.size w w' → LawRead w r 2 s (.returned (.tuple #[.int .i64 (fval (r.take s)), .slice none 0 0, .int .i64 (s : Nat), .int .i64 0])) (World.drewN w' q)) := fun q w' hb => law_num hA HD.out (below_drewN hb q)
        have hls : (r.take s).length = s := by rw [List.length_take]; omega
        have HT : Hid (∀ p (h : p < s), fval ((r.take s).drop p) = (r[p]'(by omega)).toNat + 256 * fval ((r.take s).drop (p + 1)) ∧ fval ((r.take s).drop p) ≤ fval (r.take s)) := fun p h => by
          have h1 := fval_drop (l := r.take s) (p := p) (by omega)
          rw [List.getElem_take] at h1
          exact ⟨h1, fval_drop_le _ _⟩
        have HEnd : Hid (fval ((r.take s).drop s) = 0) := by show _ = _; rw [List.drop_of_length_le (by omega)]; rfl
        have H7 : Hid (s = 8 → ∃ h : 7 < r.length, (r[7]).toNat ≤ 127) := fun h => by
          subst h
          refine ⟨by omega, Nat.le_of_not_lt fun h => ?_⟩
          have := (fval_eight (show 7 < r.length by omega)).2 h
          omega
        clear hA hAns2 h9
        rcases (show s < 8 ∨ s = 8 by omega) with h8 | h8
        · have h8' : ((s : Int) == 8) = false := by rw [beq_eq_false_iff_ne]; omega
          go_enter Try.func20, Try.ntmps20
          go_wp2_with fail
          go_loopw [11, 12] (fun x i wr => ∃ j a : Nat, j ≤ s ∧ i = .int .i64 ((j : Int) - 1) ∧ x = .int .i64 a ∧ a = fval ((r.take s).drop j) ∧ Below (w.heap.size + 1) (w.alloc (.cells #[.int .i64 2, .int .i64 s] 38)) wr) (fun _ i _ => (intOf i + 1).toNat)
          case atStart => exact ⟨s, 0, Nat.le_refl _, rfl, rfl, HEnd.out.symm, Below.refl _ _⟩
          case round =>
            obtain ⟨j, a, hj, rfl, rfl, ha, hbl⟩ := hrel
            have c1' := (hbl.cell (p := ⟨w.heap.size, 1, none⟩) (by simp)).trans c1
            rcases Nat.eq_zero_or_pos j with rfl | hj0
            · rw [List.drop_zero] at ha
              subst ha
              have HP2 : ∀ q, Hid _ := fun q => HP.out q wr (HW.out.trans (hbl.mono (by omega)))
              rw [show ((0 : Nat) : Int) - 1 = -1 from rfl]
              generalize fval (r.take s) = z at *
              go_wp2_with fail
              go_quiet (fail)
              go_wp2_with fail
              (try simp only [Exit.inBlock, Exit.then])
              refine bodyPost_ret (results_tmp4 rfl _ _ _) rfl ?_
              exact (HP2 nq).out
            · obtain ⟨p, rfl⟩ : ∃ p, j = p + 1 := ⟨j - 1, by omega⟩
              obtain ⟨ht1, ht2⟩ := HT.out p (by omega)
              rw [← ha] at ht1
              have hcp := (hbl.cell (p := ⟨b, o + p, none⟩) (by have := HSZ.out; simp only []; omega)).trans (HC.out p (by omega))
              have hyp := (r[p]).toNat_lt
              generalize (r[p]).toNat = yp at *
              rw [show (((p + 1 : Nat) : Int) - 1) = (p : Int) by omega]
              obtain ⟨z, hz⟩ : ∃ z, fval ((r.take s).drop p) = z := ⟨_, rfl⟩
              rw [hz] at ht1 ht2
              have HZ := Lib.hid hz.symm
              have hz2 : 256 * a + yp < 9223372036854775808 := by omega
              have HT1 := Lib.hid ht1
              clear hz ha ht1 ht2
              go_wp2_with fail
              go_roundw
              case rel => exact ⟨p, z, by omega, by go_num, by rw [HT1.out]; go_num, HZ.out, hbl⟩
              case measure => first | (simp [intOf]; done) | (simp [intOf]; omega)
        · subst h8
          obtain ⟨h7, hy7⟩ := H7.out rfl
          have hcx := HC.out 7 (by omega)
          have hy := (r[7]).toNat_lt
          generalize (r[7]).toNat = y at *
          rw [show ((8 : Nat) : Int) = 8 from rfl] at c0 c1 hcx HP ⊢
          go_enter Try.func20, Try.ntmps20
          go_wp2_with fail
          go_loopw [11, 12] (fun x i wr => ∃ j a : Nat, j ≤ 8 ∧ i = .int .i64 ((j : Int) - 1) ∧ x = .int .i64 a ∧ a = fval ((r.take 8).drop j) ∧ Below (w.heap.size + 1) (w.alloc (.cells #[.int .i64 2, .int .i64 8] 38)) wr) (fun _ i _ => (intOf i + 1).toNat)
          case atStart => exact ⟨8, 0, Nat.le_refl _, rfl, rfl, HEnd.out.symm, Below.refl _ _⟩
          case round =>
            obtain ⟨j, a, hj, rfl, rfl, ha, hbl⟩ := hrel
            have c1' := (hbl.cell (p := ⟨w.heap.size, 1, none⟩) (by simp)).trans c1
            rcases Nat.eq_zero_or_pos j with rfl | hj0
            · rw [List.drop_zero] at ha
              subst ha
              have HP2 : ∀ q, Hid _ := fun q => HP.out q wr (HW.out.trans (hbl.mono (by omega)))
              rw [show ((0 : Nat) : Int) - 1 = -1 from rfl]
              generalize fval (r.take 8) = z at *
              go_wp2_with fail
              go_quiet (fail)
              go_wp2_with fail
              (try simp only [Exit.inBlock, Exit.then])
              refine bodyPost_ret (results_tmp4 rfl _ _ _) rfl ?_
              exact (HP2 nq).out
            · obtain ⟨p, rfl⟩ : ∃ p, j = p + 1 := ⟨j - 1, by omega⟩
              obtain ⟨ht1, ht2⟩ := HT.out p (by omega)
              rw [← ha] at ht1
              have hcp := (hbl.cell (p := ⟨b, o + p, none⟩) (by have := HSZ.out; simp only []; omega)).trans (HC.out p (by omega))
              have hyp := (r[p]).toNat_lt
              generalize (r[p]).toNat = yp at *
              rw [show (((p + 1 : Nat) : Int) - 1) = (p : Int) by omega]
              obtain ⟨z, hz⟩ : ∃ z, fval ((r.take 8).drop p) = z := ⟨_, rfl⟩
              rw [hz] at ht1 ht2
              have HZ := Lib.hid hz.symm
              have hz2 : 256 * a + yp < 9223372036854775808 := by omega
              have HT1 := Lib.hid ht1
              clear hz ha ht1 ht2
              go_wp2_with fail
              go_roundw
              case rel => exact ⟨p, z, by omega, by go_num, by rw [HT1.out]; go_num, HZ.out, hbl⟩
              case measure => first | (simp [intOf]; done) | (simp [intOf]; omega)
    · have e2 : (ask == 2) = false := by rw [beq_eq_false_iff_ne]; exact ha2
      have e2' : (ask != 2) = true := by rw [bne_iff_ne]; exact ha2
      have hAns : ansOf ask n r = if n < 0 then (1, 0, 0) else if (r.length : Int) < n then (20, 0, 0) else (0, n.toNat, 0) := by
        unfold ansOf; rw [if_neg (by omega), if_neg (by omega), if_neg ha2]; rfl
      have hDoes : doesB ask n 0 r = cutN n 0 r := by unfold doesB; rw [if_neg (by omega)]
      by_cases h0 : n < 0
      · have hA : ansOf ask n r = (1, 0, 0) := by rw [hAns, if_pos h0]
        have hD : doesB ask n 0 r = [] := by rw [hDoes]; unfold cutN ansBytes; rw [if_pos h0]; simp
        have HP := Lib.hid (law_err (by rw [hA]) (by rw [hA]) hD hb : LawRead w r ask n (.returned (.tuple #[.int .i64 0, .slice none 0 0, .int .i64 0, .int .i64 (1 : Nat)])) _)
        clear hA hAns hD hDoes
        go_enter Try.func20, Try.ntmps20
        go_wp2_with fail
        (try simp only [Exit.inBlock, Exit.then])
        refine bodyPost_ret (results_tmp4 rfl _ _ _) rfl ?_
        exact HP.out
      by_cases h1 : (r.length : Int) < n
      · have hA : ansOf ask n r = (20, 0, 0) := by rw [hAns, if_neg h0, if_pos h1]
        have hD : doesB ask n 0 r = [] := by rw [hDoes]; unfold cutN ansBytes; rw [if_neg h0, if_pos h1]; simp
        have HP := Lib.hid (law_err (by rw [hA]) (by rw [hA]) hD hb : LawRead w r ask n (.returned (.tuple #[.int .i64 0, .slice none 0 0, .int .i64 0, .int .i64 (20 : Nat)])) _)
        clear hA hAns hD hDoes
        go_enter Try.func20, Try.ntmps20
        go_wp2_with fail
        (try simp only [Exit.inBlock, Exit.then])
        refine bodyPost_ret (results_tmp4 rfl _ _ _) rfl ?_
        exact HP.out
      obtain ⟨s, rfl⟩ := Int.eq_ofNat_of_zero_le (show 0 ≤ n by omega)
      have hA : ansOf ask s r = (0, s, 0) := by rw [hAns, if_neg h0, if_neg h1]; rfl
      have hD : doesB ask s 0 r = r.take s := by rw [hDoes]; unfold cutN ansBytes; rw [if_neg h0, if_neg h1]; simp
      have HP : Hid (∀ q, LawRead w r ask s (.returned (.tuple #[.int .i64 0, .slice A s c, .int .i64 (s : Nat), .int .i64 0])) (World.drewN (w.alloc (.cells #[.int .i64 ask, .int .i64 (s : Nat)] 38)) q)) := fun q =>
        ⟨⟨A, s, c, by rw [hA]; rfl, by rw [hD]; exact ((HV.out.take (by omega)).alloc (Nat.le_refl _) _).more (by simp)⟩, below_drewN hb q⟩
      have hsr : s ≤ r.length := by omega
      clear hA hAns hD hDoes h0 h1
      rcases A with _ | ⟨b, o, t⟩ <;> (
        go_enter Try.func20, Try.ntmps20
        go_wp2_with fail
        go_quiet (fail)
        go_wp2_with fail
        (try simp only [Exit.inBlock, Exit.then])
        refine bodyPost_ret (results_tmp4 rfl _ _ _) rfl ?_
        exact HP.out nq)
end Go.Proofs.Ythlgeffjoaiojaa
