/-
  Layer 5's cursor: its four readings, and the law's call of one of them.
-/
import Derived.Test.YthlgeffjoaiojaaCurE
namespace Go.Proofs.Ythlgeffjoaiojaa
open Go Go.RowKit

/-- A cursor that goes through bytes. -/
def Cur (w : World) (cb : Nat) (l : List UInt8) (k e : Nat) : Prop := ∃ v, CurAt w cb v k e ∧ Bytes w cb v l ∧ cb < w.heap.size ∧ k ≤ l.length
theorem Cur.belowC {w w' : World} {cb B : Nat} {l : List UInt8} {k e : Nat} (h : Cur w cb l k e) (hb : Below B w w') (hB : cb < B) : Cur w' cb l k e := by
  obtain ⟨v, h1, h2, h3, h4⟩ := h
  exact ⟨v, h1.below hb hB, Sl.keep h2 (fun p hp => hb.cell (Nat.lt_trans hp hB)), Nat.lt_of_lt_of_le h3 hb.size, h4⟩
theorem cur_drewN {w : World} {cb : Nat} {l : List UInt8} {k e : Nat} (h : Cur w cb l k e) (m : Nat) : Cur (w.drewN m) cb l k e := by
  obtain ⟨v, h1, h2, h3, h4⟩ := h
  exact ⟨v, h1.drewN m, h2, h3, h4⟩
theorem ans_le_num (r : List UInt8) : (numOf r).2.1 ≤ r.length := by
  simp only [numOf]
  split
  · exact Nat.zero_le _
  · split
    · split
      · exact Nat.zero_le _
      · simpa
    · exact Nat.zero_le _
theorem num_zero {r : List UInt8} (h : (numOf r).1 ≠ 0) : (numOf r).2 = (0, 0) := by
  revert h
  simp only [numOf]
  split
  · intro _; rfl
  · split
    · split
      · intro _; rfl
      · intro h; exact absurd rfl h
    · intro _; rfl
/-- What a call asks for, of the bytes that are left. -/
def ansOf (ask n : Int) (r : List UInt8) : Nat × Nat × Int := if ask = 0 then ansUint r else if ask = 1 then ansInt r else if ask = 2 then ansFixed n r else ansBytes n r
theorem ansUint_le (r : List UInt8) : (ansUint r).2.1 ≤ r.length := by simp only [ansUint]; split <;> first | exact Nat.zero_le _ | exact ans_le_num r
theorem ansInt_le (r : List UInt8) : (ansInt r).2.1 ≤ r.length := ans_le_num r
theorem ansFixed_le (n : Int) (r : List UInt8) : (ansFixed n r).2.1 ≤ r.length := by
  simp only [ansFixed]
  split
  · exact Nat.zero_le _
  · split
    · exact Nat.zero_le _
    · split
      · exact Nat.zero_le _
      · show n.toNat ≤ _; omega
theorem ansBytes_le (n : Int) (r : List UInt8) : (ansBytes n r).2.1 ≤ r.length := by
  simp only [ansBytes]
  split
  · exact Nat.zero_le _
  · split
    · exact Nat.zero_le _
    · show n.toNat ≤ _; omega
theorem ans_le (ask n : Int) (r : List UInt8) : (ansOf ask n r).2.1 ≤ r.length := by
  unfold ansOf
  split
  · exact ansUint_le r
  · split
    · exact ansInt_le r
    · split
      · exact ansFixed_le n r
      · exact ansBytes_le n r
theorem ansUint_zero {r : List UInt8} (h : (ansUint r).1 ≠ 0) : (ansUint r).2 = (0, 0) := by
  revert h
  simp only [ansUint]
  split
  · intro _; rfl
  · intro h; have := num_zero h; rw [this]; rfl
theorem ansInt_zero {r : List UInt8} (h : (ansInt r).1 ≠ 0) : (ansInt r).2 = (0, 0) := by
  have := num_zero h; simp only [ansInt, this]; rfl
theorem ansFixed_zero {n : Int} {r : List UInt8} (h : (ansFixed n r).1 ≠ 0) : (ansFixed n r).2 = (0, 0) := by
  revert h
  simp only [ansFixed]
  split
  · intro _; rfl
  · split
    · intro _; rfl
    · split
      · intro _; rfl
      · intro h; exact absurd rfl h
theorem ansBytes_zero {n : Int} {r : List UInt8} (h : (ansBytes n r).1 ≠ 0) : (ansBytes n r).2 = (0, 0) := by
  revert h
  simp only [ansBytes]
  split
  · intro _; rfl
  · split
    · intro _; rfl
    · intro h; exact absurd rfl h
theorem below_low {w w' : World} {B C : Nat} (h : Below B w w') (hC : C ≤ B) : Below C w w' := ⟨h.os, h.tape, h.output, h.size, fun j hj => h.block j (Nat.lt_of_lt_of_le hj hC)⟩
/-- A cursor's step, as its caller sees it. -/
theorem stepped_cur {w w1 w' : World} {cb : Nat} {v : Value} {l : List UInt8} {k e : Nat} {A : Nat × Nat × Int} {r : Ending} (h : Stepped w1 cb v k e A r w') (hb : Bytes w cb v l) (hw : Below w.heap.size w w1) (hcb : cb < w.heap.size) (hk : k ≤ l.length) (hA : A.2.1 ≤ (l.drop k).length) :
    r = .returned (.int .i64 (stepN e A)) ∧ Cur w' cb l (stepK e A k) (stepE e A) ∧ Below cb w w' := by
  obtain ⟨h1, h2, h3⟩ := h
  have hB1 : Below cb w w1 := ⟨hw.os, hw.tape, hw.output, hw.size, fun j hj => hw.block j (by omega)⟩
  have hB2 : Below cb w1 w' := ⟨h3.os, h3.tape, h3.output, h3.size, fun j hj => h3.block j (by have := hw.size; omega) (fun e => by cases e; omega)⟩
  have hB := hB1.trans hB2
  rw [List.length_drop] at hA
  exact ⟨h1, ⟨v, h2, hb.below hB, Nat.lt_of_lt_of_le hcb hB.size, by unfold stepK; split <;> omega⟩, hB⟩

/-- Memory with a cursor's name boxed. -/
theorem box_below (w : World) (u : Value) (t : TypeId) : Below w.heap.size w (w.alloc (.cells #[u] t)) := (Below.refl _ _).alloc (Nat.le_refl _) _

set_option maxHeartbeats 1000000 in
theorem curUint_any {w : World} {cb : Nat} {l : List UInt8} {k e : Nat} (h : Cur w cb l k e) (hl : l.length ≤ 1000000) :
    Calls Try.prog 25 #[.pointer (some ⟨cb, 0, none⟩)] w fun r w' => r = .returned (.int .i64 (stepN e (ansUint (l.drop k)))) ∧ Cur w' cb l (stepK e (ansUint (l.drop k)) k) (stepE e (ansUint (l.drop k))) ∧ Below cb w w' := by
  obtain ⟨v, hc, hb, hcb, hk⟩ := h
  have hw1 := box_below w (.pointer (some ⟨cb, 0, none⟩)) 32
  have hle := ansUint_le (l.drop k)
  have hrl : (l.drop k).length = l.length - k := List.length_drop
  have HR := Lib.hid (read_any (hc.below hw1 hcb) (by simp; omega) 35 (by simp) #[.pointer (some ⟨w.heap.size, 0, none⟩)] (ansUint (l.drop k)) (by omega)
    (fun _ => uintC_any (hc.below hw1 hcb) (by simp; omega) ((hb.below (below_low hw1 (Nat.le_of_lt hcb))).more (by simp; omega)) hk hl w.heap.size (by rw [cell_new]; rfl)))
  have HS := Lib.hid (fun r w' (h : Stepped _ cb v k e (ansUint (l.drop k)) r w') => stepped_cur h hb hw1 hcb hk hle)
  generalize ansUint (l.drop k) = A at *
  clear hc hb hrl hle hw1
  go_enter Try.func25, Try.ntmps25
  go_wp2_with fail
  refine HR.out.mono ?_
  intro r w' hS
  obtain ⟨rfl, h2, h3⟩ := HS.out r w' hS
  go_wp2_with fail
  go_ret
  exact ⟨rfl, h2, h3⟩
set_option maxHeartbeats 1000000 in
theorem curInt_any {w : World} {cb : Nat} {l : List UInt8} {k e : Nat} (h : Cur w cb l k e) (hl : l.length ≤ 1000000) :
    Calls Try.prog 24 #[.pointer (some ⟨cb, 0, none⟩)] w fun r w' => r = .returned (.int .i64 (stepN e (ansInt (l.drop k)))) ∧ Cur w' cb l (stepK e (ansInt (l.drop k)) k) (stepE e (ansInt (l.drop k))) ∧ Below cb w w' := by
  obtain ⟨v, hc, hb, hcb, hk⟩ := h
  have hw1 := box_below w (.pointer (some ⟨cb, 0, none⟩)) 32
  have hle := ansInt_le (l.drop k)
  have hrl : (l.drop k).length = l.length - k := List.length_drop
  have HR := Lib.hid (read_any (hc.below hw1 hcb) (by simp; omega) 33 (by simp) #[.pointer (some ⟨w.heap.size, 0, none⟩)] (ansInt (l.drop k)) (by omega)
    (fun _ => intC_any (hc.below hw1 hcb) (by simp; omega) ((hb.below (below_low hw1 (Nat.le_of_lt hcb))).more (by simp; omega)) hk hl w.heap.size (by rw [cell_new]; rfl)))
  have HS := Lib.hid (fun r w' (h : Stepped _ cb v k e (ansInt (l.drop k)) r w') => stepped_cur h hb hw1 hcb hk hle)
  generalize ansInt (l.drop k) = A at *
  clear hc hb hrl hle hw1
  go_enter Try.func24, Try.ntmps24
  go_wp2_with fail
  refine HR.out.mono ?_
  intro r w' hS
  obtain ⟨rfl, h2, h3⟩ := HS.out r w' hS
  go_wp2_with fail
  go_ret
  exact ⟨rfl, h2, h3⟩

theorem cell_new2 (w : World) (u u' : Value) (t t' : TypeId) : ((w.alloc (.cells #[u] t)).alloc (.cells #[u'] t')).cell? ⟨w.heap.size, 0, none⟩ = some u ∧ ((w.alloc (.cells #[u] t)).alloc (.cells #[u'] t')).cell? ⟨w.heap.size + 1, 0, none⟩ = some u' := by
  constructor
  · rw [World.cell?_alloc_lt _ _ _ (by simp), cell_new]; rfl
  · simp
theorem box2_below (w : World) (u u' : Value) (t t' : TypeId) : Below w.heap.size w ((w.alloc (.cells #[u] t)).alloc (.cells #[u'] t')) := ((Below.refl _ _).alloc (Nat.le_refl _) _).alloc (by simp) _

set_option maxHeartbeats 1000000 in
theorem curFixed_any {w : World} {cb : Nat} {l : List UInt8} {k e : Nat} (h : Cur w cb l k e) (hl : l.length ≤ 1000000) (n : Int) (hn : -9223372036854775808 ≤ n ∧ n ≤ 9223372036854775807) :
    Calls Try.prog 26 #[.pointer (some ⟨cb, 0, none⟩), .int .i64 n] w fun r w' => r = .returned (.int .i64 (stepN e (ansFixed n (l.drop k)))) ∧ Cur w' cb l (stepK e (ansFixed n (l.drop k)) k) (stepE e (ansFixed n (l.drop k))) ∧ Below cb w w' := by
  obtain ⟨v, hc, hb, hcb, hk⟩ := h
  have hw1 := box2_below w (.pointer (some ⟨cb, 0, none⟩)) (.int .i64 n) 32 3
  have hle := ansFixed_le n (l.drop k)
  have hrl : (l.drop k).length = l.length - k := List.length_drop
  have HR := Lib.hid (read_any (hc.below hw1 hcb) (by simp; omega) 36 (by simp) #[.pointer (some ⟨w.heap.size + 1, 0, none⟩), .pointer (some ⟨w.heap.size, 0, none⟩)] (ansFixed n (l.drop k)) (by omega)
    (fun _ => fixedC_any (hc.below hw1 hcb) ((hb.below (below_low hw1 (Nat.le_of_lt hcb))).more (by simp; omega)) hk hl n hn w.heap.size (w.heap.size + 1) (cell_new2 w _ _ _ _).1 (cell_new2 w _ _ _ _).2))
  have HS := Lib.hid (fun r w' (h : Stepped _ cb v k e (ansFixed n (l.drop k)) r w') => stepped_cur h hb hw1 hcb hk hle)
  generalize ansFixed n (l.drop k) = A at *
  clear hc hb hrl hle hw1
  go_enter Try.func26, Try.ntmps26
  go_wp2_with fail
  refine HR.out.mono ?_
  intro r w' hS
  obtain ⟨rfl, h2, h3⟩ := HS.out r w' hS
  go_wp2_with fail
  go_ret
  exact ⟨rfl, h2, h3⟩

/-- The bytes that are answered. -/
def cutN (n : Int) (e : Nat) (r : List UInt8) : List UInt8 := if e = 0 ∧ (ansBytes n r).1 = 0 then r.take n.toNat else []
theorem bytes_cut {w : World} {cb b o len c k n : Nat} {l : List UInt8} (h : Bytes w cb (.slice (some ⟨b, o, none⟩) len c) l) (hl : len = l.length) (hkn : k + n ≤ l.length) (h0 : 0 < l.length) : Bytes w cb (.slice (some ⟨b, o + k, none⟩) n n) ((l.drop k).take n) := by
  subst hl
  obtain ⟨A, c', e, h1, h2, -, hA⟩ := h
  cases e
  obtain ⟨b', o', e, hB, hc⟩ := hA h0
  cases e
  have hr : ((l.drop k).take n).length = n := by rw [List.length_take, List.length_drop]; omega
  unfold Bytes
  rw [hr]
  refine Sl.mk_ (Nat.le_refl _) (by omega) (by rw [length_bytesV, hr, Nat.mul_one]) hB (fun j u hu => ?_)
  have hj : j < n := by
    have := (List.getElem?_eq_some_iff.1 hu).1
    rw [length_bytesV, hr] at this
    exact this
  rw [bytesV_at _ _ (by rw [hr]; exact hj)] at hu
  rw [Nat.add_assoc]
  refine hc (k + j) u ?_
  rw [bytesV_at _ _ (by omega), ← hu]
  simp

set_option maxHeartbeats 1000000 in
theorem curBytes_any {w : World} {cb : Nat} {l : List UInt8} {k e : Nat} (h : Cur w cb l k e) (hl : l.length ≤ 1000000) (n : Int) (hn : -9223372036854775808 ≤ n ∧ n ≤ 9223372036854775807) :
    Calls Try.prog 27 #[.pointer (some ⟨cb, 0, none⟩), .int .i64 n] w fun r w' => (∃ A' N, r = .returned (.slice A' N N) ∧ Bytes w' cb (.slice A' N N) (cutN n e (l.drop k))) ∧ Cur w' cb l (stepK e (ansBytes n (l.drop k)) k) (stepE e (ansBytes n (l.drop k))) ∧ Below cb w w' := by
  obtain ⟨v, hc, hb, hcb, hk⟩ := h
  have hw1 := box2_below w (.pointer (some ⟨cb, 0, none⟩)) (.int .i64 n) 32 3
  have hle := ansBytes_le n (l.drop k)
  have hrl : (l.drop k).length = l.length - k := List.length_drop
  obtain ⟨A0, c, rfl, hlc, hcm⟩ := hb.form
  unfold maxLen at hcm
  have hat := Lib.hid (at_any (hc.below hw1 hcb))
  have HR := Lib.hid (read_any (hc.below hw1 hcb) (by simp; omega) 37 (by simp) #[.pointer (some ⟨w.heap.size + 1, 0, none⟩), .pointer (some ⟨w.heap.size, 0, none⟩)] (ansBytes n (l.drop k)) (by omega)
    (fun _ => bytesC_any (hc.below hw1 hcb) hk hl n hn w.heap.size (w.heap.size + 1) (l.drop k) hrl (cell_new2 w _ _ _ _).1 (cell_new2 w _ _ _ _).2))
  have hcell := (cell_new2 w (.pointer (some ⟨cb, 0, none⟩)) (.int .i64 n) 32 3).1
  have HS := Lib.hid (fun r w' (h : Stepped _ cb _ k e (ansBytes n (l.drop k)) r w') => And.intro (stepped_cur h hb hw1 hcb hk hle) h)
  have HB := Lib.hid hb
  clear hb
  have HC := Lib.hid hc
  clear hc
  have hAns : ansBytes n (l.drop k) = if n < 0 then (1, 0, 0) else if ((l.drop k).length : Int) < n then (20, 0, 0) else (0, n.toNat, 0) := rfl
  have HA := Lib.hid hAns
  clear hAns
  go_enter Try.func27, Try.ntmps27
  go_wp2_with fail
  refine hat.out.mono ?_
  rintro r w1 ⟨rfl, rfl⟩
  go_wp2_with fail
  refine HR.out.mono ?_
  intro r w' hS
  obtain ⟨⟨rfl, h2, h3⟩, -, hcu, hgr⟩ := HS.out r w' hS
  have hcell' : w'.cell? ⟨w.heap.size, 0, none⟩ = some (.pointer (some ⟨cb, 0, none⟩)) := (World.cell?_of_block (hgr.block w.heap.size (by simp <;> omega) (fun e => by cases e; omega))).trans hcell
  have herr := Lib.hid (err_any hcu)
  by_cases hz : e = 0 ∧ (ansBytes n (l.drop k)).1 = 0
  · obtain ⟨he, hz⟩ := hz
    subst he
    have hAn := HA.out
    split at hAn
    · rw [hAn] at hz; exact absurd hz (by decide)
    split at hAn
    · rw [hAn] at hz; exact absurd hz (by decide)
    rename_i hn0 hn1
    obtain ⟨m, rfl⟩ := Int.eq_ofNat_of_zero_le (show 0 ≤ n by omega)
    have hkm : k + m ≤ l.length := by omega
    have hE : stepE 0 (ansBytes m (l.drop k)) = 0 := by simp [stepE, hz]
    have hK : stepK 0 (ansBytes m (l.drop k)) k = k + m := by simp [stepK, hAn]
    have hCut : cutN m 0 (l.drop k) = (l.drop k).take m := by simp [cutN, hz]
    have HP := Lib.hid (And.intro h2 h3)
    rw [hE, hK] at hcu
    rw [hE] at herr
    have HCut := Lib.hid hCut
    obtain ⟨c0, c1, c2, f0, f1, f2⟩ := hcu
    generalize stepN 0 (ansBytes m (l.drop k)) = sN at *
    clear hAn hz hE hK hCut hcell h2 h3 hgr c2 f0 f1 f2
    rcases Nat.eq_zero_or_pos m with hm0 | hm0
    · have HN : Hid ((l.drop k).take m = []) := by show _ = _; rw [hm0]; rfl
      clear hle hrl
      have HBe : ∀ q A', Hid (Bytes (w'.drewN q) cb (.slice A' 0 0) (cutN m 0 (l.drop k)) ∧ Cur (w'.drewN q) cb l (stepK 0 (ansBytes m (l.drop k)) k) (stepE 0 (ansBytes m (l.drop k))) ∧ Below cb w (w'.drewN q)) := fun q A' =>
        ⟨by rw [HCut.out, HN.out]; exact ⟨_, _, rfl, Nat.le_refl _, by decide, rfl, fun h => absurd h (by decide)⟩, cur_drewN HP.out.1 q, below_drewN HP.out.2 q⟩
      generalize l.length = len at *
      subst hm0
      rcases A0 with _ | ⟨b, o, t⟩
      · go_wp2_with fail
        refine herr.out.mono ?_
        rintro r w2 ⟨rfl, rfl⟩
        go_wp2_with fail
        go_quiet (fail)
        go_wp2_with fail
        go_ret
        exact ⟨⟨_, _, rfl, (HBe nq _).out.1⟩, (HBe nq none).out.2⟩
      · go_wp2_with fail
        refine herr.out.mono ?_
        rintro r w2 ⟨rfl, rfl⟩
        go_wp2_with fail
        go_quiet (fail)
        go_wp2_with fail
        go_ret
        exact ⟨⟨_, _, rfl, (HBe nq _).out.1⟩, (HBe nq none).out.2⟩
    · have h0 : 0 < l.length := by omega
      obtain ⟨b, o, c', e, hB, -⟩ := Sl.at_ HB.out h0
      cases e
      have hbc := (bytes_cut HB.out rfl hkm h0).below HP.out.2
      have HBe : ∀ q, Hid (Bytes (w'.drewN q) cb (.slice (some ⟨b, o + k, none⟩) m m) (cutN m 0 (l.drop k)) ∧ Cur (w'.drewN q) cb l (stepK 0 (ansBytes m (l.drop k)) k) (stepE 0 (ansBytes m (l.drop k))) ∧ Below cb w (w'.drewN q)) := fun q =>
        ⟨by rw [HCut.out]; exact hbc, cur_drewN HP.out.1 q, below_drewN HP.out.2 q⟩
      clear hbc hle hrl
      generalize l.length = len at *
      go_wp2_with fail
      refine herr.out.mono ?_
      rintro r w2 ⟨rfl, rfl⟩
      go_wp2_with fail
      go_quiet (fail)
      go_wp2_with fail
      go_ret
      exact ⟨⟨_, k + m - k, rfl, by rw [Nat.add_sub_cancel_left]; exact (HBe nq).out.1⟩, (HBe nq).out.2⟩
  · have hE : (((stepE e (ansBytes n (l.drop k)) : Nat) : Int) != 0) = true := by
      rw [bne_iff_ne]
      intro h
      apply hz
      simp only [stepE] at h
      split at h
      · exact ⟨‹_›, by omega⟩
      · omega
    have HCut := Lib.hid (show cutN n e (l.drop k) = [] by simp only [cutN]; rw [if_neg hz])
    have HP := Lib.hid (And.intro h2 h3)
    obtain ⟨e2, he2⟩ : ∃ e2, stepE e (ansBytes n (l.drop k)) = e2 := ⟨_, rfl⟩
    rw [he2] at hE herr
    clear hz hcu h2 h3
    go_wp2_with fail
    refine herr.out.mono ?_
    rintro r w2 ⟨rfl, rfl⟩
    go_wp2_with fail
    go_ret
    exact ⟨⟨none, 0, rfl, by rw [HCut.out]; exact Bytes.nil _ _⟩, HP.out⟩
end Go.Proofs.Ythlgeffjoaiojaa
