/-
  Layer 14's Cut, walked.
-/
import Derived.Test.YtekeaphbmkfogaaGreatDoorTBehind
import Derived.Test.YtekeaphbmkfogaaGreatDoorAppend
import Derived.Maps.AppendAt
import Derived.Lib.MinMax
import Derived.Lib.SlicesMore
namespace Go.Proofs.YtekeaphbmkfogaaGreatDoor
open Go Go.RowKit Go.Shelf
set_option maxRecDepth 100000

theorem info_parts {P : Program} {t : TypeId} {z : Value} {a b : Nat} (h : (P.info? t).map (fun i => (i.zero, i.size, i.bytes)) = some (some z, a, b)) : ∃ i, P.info? t = some i ∧ i.zero = some z ∧ i.size = a ∧ i.bytes = b := by
  cases hi : P.info? t with
  | none => rw [hi] at h; simp at h
  | some i =>
    rw [hi] at h
    simp only [Option.map_some, Option.some.injEq, Prod.mk.injEq] at h
    exact ⟨i, rfl, h.1, h.2.1, h.2.2⟩
theorem infoChg : (Tryz.prog.info? 45).map (fun i => (i.zero, i.size, i.bytes)) = some (some (.agg #[.int .i64 0, .int .i64 0, .bool false, .string ⟨#[]⟩]), 4, 40) := by kernel_rfl
theorem chgsV_one (l : List Chg) : ∀ u ∈ chgsV l, u.oneCell' = true := by
  intro u hu
  unfold chgsV at hu
  obtain ⟨c, -, hc⟩ := List.mem_flatMap.1 hu
  simp [chgV] at hc
  rcases hc with rfl | rfl | rfl | rfl <;> rfl
theorem cell_new2 (w : World) (o : Obj) (C : Array Value) (t : TypeId) (fr : Nat × Nat) (i : Nat) : ((w.alloc o).alloc (.cells C t fr)).cell? ⟨w.heap.size + 1, i, none⟩ = C[i]? := by
  have := cell_new (w.alloc o) C t fr i
  rwa [World.size_alloc] at this
/-- A row of the call's own is as it was behind a call that makes memory. -/
theorem ownsRow_below {w W : World} {base : Nat} {e : TypeId} {sz n : Nat} {v : Value} {xs : List Value} (h : w.ownsRow base e sz v n xs) (hb : Below w.heap.size w W) : W.ownsRow base e sz v n xs := (Fr.of_below (T := fun _ => False) hb (Nat.le_refl _)).own h (fun _ _ h => h)
/-- Changes in memory that a call has made. -/
def ChgPost (w : World) (l : List Chg) (e : Ending) (w' : World) : Prop := ∃ v, e = .returned v ∧ Chgs w' w'.heap.size v l ∧ Below w.heap.size w w'
set_option maxHeartbeats 1000000 in
theorem clone_any (w : World) (B : Nat) (v : Value) (l : List Chg) (hv : Chgs w B v l) (hB : B ≤ w.heap.size) (hl : l.length ≤ 1000) :
    Calls Tryz.prog 41 #[v] w (ChgPost w l) := by
  obtain ⟨i0, hi, hz0, hz1, hz2⟩ := info_parts infoChg
  have q22 : ∀ (w : World) (a : Option Addr) (n c n' c' : Nat), (binOp .eql 36 (.slice a n c) (.slice none n' c')).run Tryz.prog w = .ok (.bool a.isNone) w := fun w a n c n' c' => Lib.run_eql_slice_nil w _ _ a n c n' c' Tryz.underlying36
  obtain ⟨A, c, rfl, hlc, hcm⟩ := hv.form
  have HV := Lib.hid hv
  rcases A with _ | ad
  · have h0 : l = [] := by
      rcases Nat.eq_zero_or_pos l.length with h | h
      · exact List.eq_nil_of_length_eq_zero h
      · obtain ⟨b, o, c', e, -, -⟩ := hv.cells h
        cases e
    subst h0
    clear hv
    go_enter Tryz.func41, Tryz.ntmps41
    go_wp2_with fail
    go_ret
    exact ⟨_, rfl, Sl.nil _ _ _, Below.refl _ _⟩
  · clear hv
    unfold maxLen at hcm
    go_enter Tryz.func41, Tryz.ntmps41
    go_wp2_with (at_builtin; refine wpList_append_sl rfl _ _ 36 rfl w.heap.size 45 i0 (.agg #[.int .i64 0, .int .i64 0, .bool false, .string ⟨#[]⟩]) 4 40 Tryz.underlying36 hi hz0 hz1 hz2 rfl (by decide) _ 0 [] rfl (World.ownsRow_made w #[] 0 (Nat.le_refl _) (Nat.zero_le _) (by simp)) (.slice (some ad) l.length c) B l.length (chgsV l) rfl (Sl.alloc HV.out hB _) (chgsV_one l) (by unfold maxLen; omega) (by omega) (by simp) ?_; intro v' w1 hown hgrow)
    go_ret
    refine ⟨v', rfl, ?_, ((Below.refl _ w).alloc (Nat.le_refl _) _).grown hgrow (by simp) (fun g hg => ((World.ownsRow_made (base := w.heap.size) (e := 45) (size := 4) w #[] 0 (Nat.le_refl _) (Nat.zero_le _) (by simp)).lt g hg).1)⟩
    rw [Nat.zero_add, List.nil_append] at hown
    exact Sl.of_own hown
theorem chgs_cut {W : World} {B : Nat} {A : Option Addr} {c : Nat} {l : List Chg} (h : Chgs W B (.slice A l.length c) l) {n k : Nat} (h1 : n ≤ k) (h2 : k ≤ l.length) :
    Chgs W B (.slice (if c = n then A else A.map (·.add (n * 4))) (k - n) (c - n)) ((l.drop n).take (k - n)) := by
  obtain ⟨A', c', hv, g1, g2, -, hc⟩ := h
  injection hv with ha _ hcc
  subst ha; subst hcc
  have hlen : ((l.drop n).take (k - n)).length = k - n := by simp; omega
  have hcv : (chgsV ((l.drop n).take (k - n))).length = (k - n) * 4 := by rw [length_chgsV, hlen]
  unfold Chgs
  rw [hlen]
  refine ⟨_, _, rfl, by omega, by omega, hcv, fun hp => ?_⟩
  obtain ⟨b, o, rfl, hb, hc⟩ := hc (by omega)
  rw [if_neg (by omega)]
  refine ⟨b, o + n * 4, by simp [Addr.add_lit], hb, fun j u hu => ?_⟩
  have hj : j < (k - n) * 4 := by
    rw [← hcv]
    exact (List.getElem?_eq_some_iff.1 hu).1
  have e : l = l.take n ++ ((l.drop n).take (k - n) ++ (l.drop n).drop (k - n)) := by rw [List.take_append_drop, List.take_append_drop]
  have e2 : (chgsV l)[n * 4 + j]? = some u := by
    rw [e, chgsV_append, chgsV_append, List.getElem?_append_right (by rw [length_chgsV, List.length_take, Nat.min_eq_left (by omega)]; omega), length_chgsV, List.length_take, Nat.min_eq_left (by omega), Nat.add_sub_cancel_left, List.getElem?_append_left (by rw [hcv]; exact hj)]
    exact hu
  rw [Nat.add_assoc]
  exact hc _ u e2
/-- What is cut out of changes. -/
def cutL (l : List Chg) (a b : Int) : List Chg := (if bh l a = 0 then [] else [⟨a, (l.getD (bh l a - 1) .zero).loc⟩]) ++ (l.drop (bh l a)).take (max (bh l a) (bh l b) - bh l a)
set_option maxHeartbeats 2000000 in
theorem cut_any (w : World) (B : Nat) (v : Value) (l : List Chg) (a b : Int) (hv : Chgs w B v l) (hB : B ≤ w.heap.size) (hl : l.length ≤ 61) (hr : Rising l) :
    Calls Tryz.prog 22 #[v, .int .i64 a, .int .i64 b] w (ChgPost w (cutL l a b)) := by
  obtain ⟨i0, hi, hz0, hz1, hz2⟩ := info_parts infoChg
  have HAT := Lib.hid (tat_any w B v l a hv hB hl hr)
  have HBH := Lib.hid (fun (W : World) (i : Int) (hb : Below w.heap.size w W) => behind_any W B v l i (hv.below (hb.mono hB)) (Nat.le_trans hB hb.size) hl hr)
  have hla := bh_le l a
  have hlb := bh_le l b
  obtain ⟨A, c, rfl, hlc, hcm⟩ := hv.form
  have HV := Lib.hid hv
  unfold maxLen at hcm
  clear hv
  obtain ⟨n, hn⟩ : ∃ n, bh l a = n := ⟨_, rfl⟩
  obtain ⟨m, hm⟩ : ∃ m, bh l b = m := ⟨_, rfl⟩
  rw [hn] at hla
  rw [hm] at hlb
  have HN := Lib.hid hn
  have HM := Lib.hid hm
  have HBA := Lib.hid (fun W hb => by have := HBH.out W a hb; rw [HN.out] at this; exact this)
  have HBB := Lib.hid (fun W hb => by have := HBH.out W b hb; rw [HM.out] at this; exact this)
  obtain ⟨k, hk⟩ : ∃ k, max n m = k := ⟨_, rfl⟩
  have hkn : n ≤ k := by omega
  have hkl : k ≤ l.length := by omega
  have hkc : k ≤ c := by omega
  have HK := Lib.hid hk
  obtain ⟨X, hX⟩ : ∃ X, (l.drop n).take (k - n) = X := ⟨_, rfl⟩
  have HX := Lib.hid hX
  have hX61 : X.length ≤ 61 := by rw [← hX]; simp; omega
  have HCUT := Lib.hid (show cutL l a b = (if n = 0 then [] else [⟨a, (l.getD (n - 1) .zero).loc⟩]) ++ X by unfold cutL; rw [HN.out, HM.out, HK.out, HX.out])
  have hmx : max (n : Int) (m : Int) = (k : Int) := by omega
  clear hn hm hk HBH hX
  by_cases h0 : n = 0
  · have HA := Lib.hid (show atV l a = (.zero, 16) by unfold atV; rw [HN.out, if_pos h0])
    rw [HA.out] at HAT
    have H0 := Lib.hid h0
    clear h0
    unfold locA Loc.zero at HAT
    go_enter Tryz.func22, Tryz.ntmps22
    go_wp2_with fail
    refine HAT.out.mono ?_
    rintro o w1 ⟨rfl, hb1⟩
    have hb2 := hb1.alloc hb1.size (.cells #[.int .i64 0, .bool false, .string ⟨#[]⟩] 42)
    have HB2 := Lib.hid hb2
    clear hb1 hb2 HAT
    go_wp2_with fail
    refine (HBA.out _ HB2.out).mono ?_
    rintro o w3 ⟨rfl, hb⟩
    have HB3 := Lib.hid (HB2.out.trans (hb.mono HB2.out.size))
    clear hb HB2
    go_wp2_with fail
    refine (HBA.out _ HB3.out).mono ?_
    rintro o w4 ⟨rfl, hb⟩
    have HB4 := Lib.hid (HB3.out.trans (hb.mono HB3.out.size))
    clear hb HB3
    go_wp2_with fail
    refine (HBB.out _ HB4.out).mono ?_
    rintro o w5 ⟨rfl, hb⟩
    have HB5 := Lib.hid (HB4.out.trans (hb.mono HB4.out.size))
    clear hb HB4
    have hs5 := HB5.out.size
    by_cases hcn : c = n
    · have HS := Lib.hid (show Chgs w B (.slice A 0 0) X by
        have := chgs_cut HV.out hkn hkl
        rwa [HX.out, if_pos hcn, show c - n = 0 by omega, show k - n = 0 by omega] at this)
      subst hcn
      go_wp2_with fail
      refine (clone_any _ B _ _ (HS.out.below (HB5.out.mono hB)) (by omega) (by omega)).mono ?_
      rintro o w6 ⟨v6, rfl, hv6, hb6⟩
      have HB6 := Lib.hid (HB5.out.trans (hb6.mono HB5.out.size))
      have HV6 := Lib.hid hv6
      have hs6 := HB6.out.size
      clear hb6 hv6
      go_wp2_with (at_builtin; refine wpList_append_sl rfl _ _ 36 rfl w.heap.size 45 i0 (.agg #[.int .i64 0, .int .i64 0, .bool false, .string ⟨#[]⟩]) 4 40 Tryz.underlying36 hi hz0 hz1 hz2 rfl (by decide) (.slice none 0 0) 0 [] rfl (World.ownsRow_nil _ _ _ _) v6 w6.heap.size _ _ rfl HV6.out (chgsV_one _) (by unfold maxLen; omega) (by omega) hs6 ?_; intro v7 w7 hown hgrow)
      go_ret
      refine ⟨v7, rfl, ?_, HB6.out.grown hgrow hs6 (fun g e => (((World.ownsRow_nil w6 w.heap.size 45 4)).lt g e).1)⟩
      rw [HCUT.out, if_pos H0.out, List.nil_append]
      have := Sl.of_own hown
      unfold Chgs
      rw [Nat.zero_add, List.nil_append] at this
      exact this
    · have HS := Lib.hid (show Chgs w B (.slice (A.map (·.add (n * 4))) (k - n) (c - n)) X by
        have := chgs_cut HV.out hkn hkl
        rwa [HX.out, if_neg hcn] at this)
      go_wp2_with fail
      refine (clone_any _ B _ _ (HS.out.below (HB5.out.mono hB)) (by omega) (by omega)).mono ?_
      rintro o w6 ⟨v6, rfl, hv6, hb6⟩
      have HB6 := Lib.hid (HB5.out.trans (hb6.mono HB5.out.size))
      have HV6 := Lib.hid hv6
      have hs6 := HB6.out.size
      clear hb6 hv6
      go_wp2_with (at_builtin; refine wpList_append_sl rfl _ _ 36 rfl w.heap.size 45 i0 (.agg #[.int .i64 0, .int .i64 0, .bool false, .string ⟨#[]⟩]) 4 40 Tryz.underlying36 hi hz0 hz1 hz2 rfl (by decide) (.slice none 0 0) 0 [] rfl (World.ownsRow_nil _ _ _ _) v6 w6.heap.size _ _ rfl HV6.out (chgsV_one _) (by unfold maxLen; omega) (by omega) hs6 ?_; intro v7 w7 hown hgrow)
      go_ret
      refine ⟨v7, rfl, ?_, HB6.out.grown hgrow hs6 (fun g e => (((World.ownsRow_nil w6 w.heap.size 45 4)).lt g e).1)⟩
      rw [HCUT.out, if_pos H0.out, List.nil_append]
      have := Sl.of_own hown
      unfold Chgs
      rw [Nat.zero_add, List.nil_append] at this
      exact this
  · obtain ⟨j, hj⟩ : ∃ j, n = j + 1 := ⟨n - 1, by omega⟩
    have hjl : j < l.length := by omega
    have hj1 : n - 1 = j := by omega
    have hA := show atV l a = ((l[j]).loc, 0) by unfold atV; rw [HN.out, if_neg h0, hj1, getD_at hjl]
    have hcut2 := HCUT.out
    rw [if_neg h0, hj1, getD_at hjl] at hcut2
    clear hj hj1
    rw [hA] at HAT
    clear HCUT hA
    obtain ⟨x, hx⟩ : ∃ x, (l[j]).loc = x := ⟨_, rfl⟩
    rw [hx] at HAT hcut2
    have HCUT := Lib.hid hcut2
    clear hx hcut2 h0
    unfold locA at HAT
    go_enter Tryz.func22, Tryz.ntmps22
    go_wp2_with fail
    refine HAT.out.mono ?_
    rintro o w1 ⟨rfl, hb1⟩
    have hb2 := hb1.alloc hb1.size (.cells #[.int .i64 x.off, .bool x.dst, .string x.abbr] 42)
    have HB2 := Lib.hid hb2
    have hs1 := hb1.size
    clear hb1 hb2 HAT
    go_wp2_with (at_builtin; refine wpList_append_own _ rfl _ _ 36 rfl w.heap.size 45 i0 (.agg #[.int .i64 0, .int .i64 0, .bool false, .string ⟨#[]⟩]) 4 40 Tryz.underlying36 hi hz0 hz1 hz2 rfl (by decide) (.slice none 0 0) 0 [] rfl (World.ownsRow_nil _ _ _ _) ⟨w1.heap.size + 1, 0, none⟩ 1 1 (chgV ⟨a, x⟩) rfl rfl (fun j y hy => by rw [Addr.add_lit, Nat.zero_add, cell_new2]; simpa [chgV] using hy) (by simp [chgV, Value.oneCell']) (by unfold maxLen; omega) (by omega) (by simp; omega) ?_; intro v2 w2 hown2 hgrow2 hnil2)
    have hB3 : Below w.heap.size w w2 := ((HB2.out.alloc HB2.out.size _)).grown hgrow2 (by simp; omega) (fun g e => by simp [Value.ownBlock] at e)
    have HB3 := Lib.hid hB3
    clear HB2 hB3 hgrow2 hnil2
    refine (HBA.out _ HB3.out).mono ?_
    rintro o w4 ⟨rfl, hb⟩
    have HB4 := Lib.hid (HB3.out.trans (hb.mono HB3.out.size))
    have hown4 := ownsRow_below hown2 hb
    clear hb
    go_wp2_with fail
    refine (HBA.out _ HB4.out).mono ?_
    rintro o w4b ⟨rfl, hb⟩
    have HB4b := Lib.hid (HB4.out.trans (hb.mono HB4.out.size))
    have hown4b := ownsRow_below hown4 hb
    clear hb
    go_wp2_with fail
    refine (HBB.out _ HB4b.out).mono ?_
    rintro o w5 ⟨rfl, hb⟩
    have HB5 := Lib.hid (HB4b.out.trans (hb.mono HB4b.out.size))
    have HOW := Lib.hid (ownsRow_below hown4b hb)
    clear hb hown2 hown4 hown4b HB3 HB4 HB4b
    have hs5 := HB5.out.size
    by_cases hcn : c = n
    · have HS := Lib.hid (show Chgs w B (.slice A 0 0) X by
        have := chgs_cut HV.out hkn hkl
        rwa [HX.out, if_pos hcn, show c - n = 0 by omega, show k - n = 0 by omega] at this)
      subst hcn
      go_wp2_with fail
      refine (clone_any _ B _ _ (HS.out.below (HB5.out.mono hB)) (by omega) (by omega)).mono ?_
      rintro o w6 ⟨v6, rfl, hv6, hb6⟩
      have HB6 := Lib.hid (HB5.out.trans (hb6.mono HB5.out.size))
      have HV6 := Lib.hid hv6
      have hs6 := HB6.out.size
      have HOW6 := Lib.hid (ownsRow_below HOW.out hb6)
      clear hb6 hv6
      go_wp2_with (at_builtin; refine wpList_append_sl rfl _ _ 36 rfl w.heap.size 45 i0 (.agg #[.int .i64 0, .int .i64 0, .bool false, .string ⟨#[]⟩]) 4 40 Tryz.underlying36 hi hz0 hz1 hz2 rfl (by decide) v2 (0 + 1) ([] ++ chgV ⟨a, x⟩) rfl HOW6.out v6 w6.heap.size _ _ rfl HV6.out (chgsV_one _) (by unfold maxLen; omega) (by omega) hs6 ?_; intro v7 w7 hown hgrow)
      go_ret
      refine ⟨v7, rfl, ?_, HB6.out.grown hgrow hs6 (fun g e => (HOW6.out.lt g e).1)⟩
      rw [HCUT.out]
      have := Sl.of_own hown
      unfold Chgs
      rw [show (([⟨a, x⟩] : List Chg) ++ X).length = 0 + 1 + X.length by simp; omega]
      exact this
    · have HS := Lib.hid (show Chgs w B (.slice (A.map (·.add (n * 4))) (k - n) (c - n)) X by
        have := chgs_cut HV.out hkn hkl
        rwa [HX.out, if_neg hcn] at this)
      go_wp2_with fail
      refine (clone_any _ B _ _ (HS.out.below (HB5.out.mono hB)) (by omega) (by omega)).mono ?_
      rintro o w6 ⟨v6, rfl, hv6, hb6⟩
      have HB6 := Lib.hid (HB5.out.trans (hb6.mono HB5.out.size))
      have HV6 := Lib.hid hv6
      have hs6 := HB6.out.size
      have HOW6 := Lib.hid (ownsRow_below HOW.out hb6)
      clear hb6 hv6
      go_wp2_with (at_builtin; refine wpList_append_sl rfl _ _ 36 rfl w.heap.size 45 i0 (.agg #[.int .i64 0, .int .i64 0, .bool false, .string ⟨#[]⟩]) 4 40 Tryz.underlying36 hi hz0 hz1 hz2 rfl (by decide) v2 (0 + 1) ([] ++ chgV ⟨a, x⟩) rfl HOW6.out v6 w6.heap.size _ _ rfl HV6.out (chgsV_one _) (by unfold maxLen; omega) (by omega) hs6 ?_; intro v7 w7 hown hgrow)
      go_ret
      refine ⟨v7, rfl, ?_, HB6.out.grown hgrow hs6 (fun g e => (HOW6.out.lt g e).1)⟩
      rw [HCUT.out]
      have := Sl.of_own hown
      unfold Chgs
      rw [show (([⟨a, x⟩] : List Chg) ++ X).length = 0 + 1 + X.length by simp; omega]
      exact this
end Go.Proofs.YtekeaphbmkfogaaGreatDoor
