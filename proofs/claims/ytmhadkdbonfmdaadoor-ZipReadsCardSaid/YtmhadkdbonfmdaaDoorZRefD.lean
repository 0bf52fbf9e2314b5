/-
  The answers of layer 16's reference: sums, the file.
-/
import Derived.Test.YtmhadkdbonfmdaaDoorZRefB
import Derived.Test.YtmhadkdbonfmdaaDoorZRSum
namespace Go.Proofs.YtmhadkdbonfmdaaDoor
open Go Go.RowKit Go.Shelf
set_option maxRecDepth 100000

/-- Rows of bytes, one behind the other. -/
def Datas (w : World) (B : Nat) (v : Value) (ll : List (List UInt8)) : Prop := ∃ vs, Sl w B 1 v ll.length vs ∧ ∀ (i : Nat) (h : i < ll.length), ∃ dv, vs[i]? = some dv ∧ Bytes w B dv ll[i]
theorem Datas.form {w : World} {B : Nat} {v : Value} {ll : List (List UInt8)} (h : Datas w B v ll) : ∃ A c, v = .slice A ll.length c ∧ ll.length ≤ c ∧ c ≤ maxLen := by
  obtain ⟨vs, ⟨A, c, rfl, h1, h2, -⟩, -⟩ := h
  exact ⟨A, c, rfl, h1, h2⟩
theorem Datas.below {w w' : World} {B : Nat} {v : Value} {ll : List (List UInt8)} (h : Datas w B v ll) (hb : Below B w w') : Datas w' B v ll := by
  obtain ⟨vs, h1, h2⟩ := h
  refine ⟨vs, h1.below hb, fun i hi => ?_⟩
  obtain ⟨dv, h4, h5⟩ := h2 i hi
  exact ⟨dv, h4, h5.below hb⟩
theorem Datas.more {w : World} {B B' : Nat} {v : Value} {ll : List (List UInt8)} (h : Datas w B v ll) (hB : B ≤ B') : Datas w B' v ll := by
  obtain ⟨vs, h1, h2⟩ := h
  refine ⟨vs, h1.more hB, fun i hi => ?_⟩
  obtain ⟨dv, h4, h5⟩ := h2 i hi
  exact ⟨dv, h4, h5.more hB⟩
theorem Datas.at_ {w : World} {B : Nat} {A : Option Addr} {n c : Nat} {ll : List (List UInt8)} (h : Datas w B (.slice A n c) ll) {i : Nat} (hi : i < ll.length) :
    ∃ b o dv, A = some ⟨b, o, none⟩ ∧ b < B ∧ w.cell? ⟨b, o + i, none⟩ = some dv ∧ Bytes w B dv ll[i] := by
  obtain ⟨vs, h1, h2⟩ := h
  obtain ⟨dv, h3, h4⟩ := h2 i hi
  obtain ⟨b, o, c, hv, hb, hc⟩ := h1.at_ (by omega)
  cases hv
  exact ⟨b, o, dv, rfl, hb, hc i _ h3, h4⟩
theorem datas_nil (w : World) (B : Nat) : Datas w B (.slice none 0 0) [] := ⟨[], Sl.nil _ _ _, fun i h => absurd h (by simp)⟩

theorem natsV_take_succ (l : List Nat) (k : Nat) (h : k < l.length) : natsV (l.take (k + 1)) = natsV (l.take k) ++ [.int .i64 (l[k] : Nat)] := by
  rw [List.take_succ_eq_append_getElem h, natsV_append]
  rfl

set_option maxHeartbeats 1000000 in
theorem rsums_any (w : World) (v : Value) (ll : List (List UInt8)) (hv : Datas w w.heap.size v ll) (hl : ll.length ≤ 1000) (hd : ∀ d ∈ ll, d.length ≤ 100000) :
    Calls Tryd.prog 16 #[v] w (Rets fun v' w' => Sl w' w'.heap.size 1 v' ll.length (natsV (ll.map crcOf)) ∧ Below w.heap.size w w') := by
  obtain ⟨i0, hi, hz0, hz1, hz2⟩ := info_parts infoInt
  obtain ⟨A, c, rfl, hlc, hcm⟩ := hv.form
  unfold maxLen at hcm
  have HV := Lib.hid hv
  have HD := Lib.hid hd
  clear hv hd
  go_enter Tryd.func16, Tryd.ntmps16
  go_wp2_with fail
  go_loopw [3, 4] (fun x i wr => ∃ k : Nat, k ≤ ll.length ∧ i = .int .i64 k ∧ wr.ownsRow w.heap.size 3 1 x k (natsV ((ll.map crcOf).take k)) ∧ Below w.heap.size w wr) (fun _ i _ => ll.length - (intOf i).toNat)
  case atStart => exact ⟨0, by omega, rfl, World.ownsRow_nil _ _ _ _, Below.refl _ _⟩
  case round =>
    obtain ⟨k, hk, rfl, hown, hbel⟩ := hrel
    by_cases hlt : k < ll.length
    · obtain ⟨b, o, dv, rfl, hbB, hc, hy⟩ := HV.out.at_ hlt
      have hcell := (hbel.cell (p := ⟨b, o + k, none⟩) hbB).trans hc
      have HT := Lib.hid (natsV_take_succ (ll.map crcOf) k (by simpa using hlt))
      have he : (ll.map crcOf)[k]'(by simpa using hlt) = crcOf ll[k] := by simp
      rw [he] at HT
      have hcl := crcOf_lt ll[k]
      have HS := Lib.hid (rsum_any wr wr.heap.size dv ll[k] ((hy.below hbel).more hbel.size) (Nat.le_refl _) (HD.out _ (List.getElem_mem hlt)))
      have e2 : sums 4294967295 ll[k] ^^^ 4294967295 = crcOf ll[k] := rfl
      rw [e2] at HS
      clear he e2 hc hy
      generalize crcOf ll[k] = cr at *
      go_wp2_with fail
      refine HS.out.mono ?_
      rintro e w4 ⟨rfl, hb4⟩
      have hown4 := own_below hown hb4
      have hbel4 := hbel.trans (hb4.mono hbel.size)
      have hs4 := hbel4.size
      go_wp2_with (at_builtin; refine wpList_append_own _ rfl _ _ 26 rfl (w.heap.size) 3 i0 (.int .i64 0) 1 8 Tryd.underlying26 hi hz0 hz1 hz2 rfl (by decide) _ _ _ rfl (hown4.alloc _) ⟨w4.heap.size, 0, none⟩ 1 1 [.int .i64 (cr : Nat)] rfl rfl (cell_one_new _ _ _) (by simp [Value.oneCell']) (by unfold maxLen; omega) (by omega) (by simp; omega) ?_; intro v5 w5 hown5 hgrow5 _)
      go_roundw
      case rel =>
        refine ⟨k + 1, by omega, by go_num, ?_, (hbel4.alloc hs4 _).grown hgrow5 (by simp; omega) (fun g hg => (hown4.lt g hg).1)⟩
        rw [HT.out]
        exact hown5
      case measure => first | (simp [intOf]; done) | (simp [intOf]; omega)
    · obtain rfl : k = ll.length := by omega
      rw [show ll.length = (ll.map crcOf).length by simp, List.take_length] at hown
      rw [List.length_map] at hown
      go_wp2_with fail
      go_ret
      exact ⟨_, rfl, Sl.of_own hown, hbel⟩

theorem new_fld1 (w : World) (cs : Array Value) (t : TypeId) (fr : Nat × Nat) (l : List (Nat × Nat)) (n k : Nat) (hk : k = w.heap.size) (h : cs.toList = fldV l) (hn : n = l.length * 2) (hm : n ≤ maxLen) :
    Sl (w.alloc (.cells cs t fr)) (w.alloc (.cells cs t fr)).heap.size 1 (.slice (some ⟨k, 0, none⟩) n n) (l.length * 2) (fldV l) := by
  subst hn
  subst hk
  have := Sl.new w (fldV l) t fr (l.length * 2) 1 (by rw [length_fldV, Nat.mul_one]) hm
  obtain rfl : cs = (fldV l).toArray := by rw [← h]
  simpa using this
theorem out_take' (l : List Tri) (k : Nat) (h : k < l.length) : outL (l.take (k + 1)) = ((outL (l.take k) ++ fld (hdF (l[k]).2.2 (l[k]).2.1.length (l[k]).1.length)) ++ (l[k]).1) ++ (l[k]).2.1 := by
  rw [List.take_succ_eq_append_getElem h, out_snoc, hdL]
  simp only [List.append_assoc]
theorem list_take' (l : List Tri) (k : Nat) (h : k < l.length) : listL 0 (l.take (k + 1)) = (listL 0 (l.take k) ++ fld (rowF (l[k]).2.2 (l[k]).2.1.length (l[k]).1.length (outL (l.take k)).length)) ++ (l[k]).1 := by
  rw [List.take_succ_eq_append_getElem h, list_snoc, rowL, List.append_assoc]
theorem out_le' (l : List Tri) (k : Nat) : (outL (l.take k)).length ≤ (outL l).length := by
  conv => rhs; rw [← List.take_append_drop k l, outL_append, List.length_append]
  omega
theorem list_le' (l : List Tri) (k : Nat) : (listL 0 (l.take k)).length ≤ (listL 0 l).length := by
  conv => rhs; rw [← List.take_append_drop k l, listL_append, List.length_append]
  omega
theorem length_fld_rowF (s n m a : Nat) : (fld (rowF s n m a)).length = 46 := by simp [length_fld, rowF, comF]
theorem length_fld_hdF (s n m : Nat) : (fld (hdF s n m)).length = 30 := by simp [length_fld, hdF, comF]
theorem rowF_ok {s n m a : Nat} (h1 : s < 4294967296) (h2 : n < 4294967296) (h3 : m < 65536) (h4 : a < 4294967296) : FldOk (rowF s n m a) :=
  fldOk_cons (fld4 (by decide)) (fldOk_cons (fld2 (by decide)) (fldOk_cons (fld2 (by decide)) (fldOk_cons (fld2 (by decide)) (fldOk_cons (fld2 (by decide)) (fldOk_cons (fld2 (by decide)) (fldOk_cons (fld2 (by decide)) (fldOk_cons (fld4 h1) (fldOk_cons (fld4 h2) (fldOk_cons (fld4 h2) (fldOk_cons (fld2 h3) (fldOk_cons (fld2 (by decide))
    (fldOk_cons (fld2 (by decide)) (fldOk_cons (fld2 (by decide)) (fldOk_cons (fld2 (by decide)) (fldOk_cons (fld4 (by decide)) (fldOk_cons (fld4 h4) fldOk_nil))))))))))))))))
theorem hdF_ok {s n m : Nat} (h1 : s < 4294967296) (h2 : n < 4294967296) (h3 : m < 65536) : FldOk (hdF s n m) :=
  fldOk_cons (fld4 (by decide)) (fldOk_cons (fld2 (by decide)) (fldOk_cons (fld2 (by decide)) (fldOk_cons (fld2 (by decide)) (fldOk_cons (fld2 (by decide)) (fldOk_cons (fld2 (by decide)) (fldOk_cons (fld4 h1) (fldOk_cons (fld4 h2) (fldOk_cons (fld4 h2) (fldOk_cons (fld2 h3) (fldOk_cons (fld2 (by decide)) fldOk_nil))))))))))

set_option maxHeartbeats 4000000 in
theorem rfile_any (w : World) (va vb vc : Value) (ts : List Tri) (ha : Sl w w.heap.size 1 va ts.length (strsV (ts.map (·.1)))) (hb : Datas w w.heap.size vb (ts.map (·.2.1))) (hc : Sl w w.heap.size 1 vc ts.length (natsV (ts.map (·.2.2)))) (hf : ∀ t ∈ ts, Fits t) (hl : ts.length ≤ 1000) (hsz : (fileL ts).length ≤ 1000000) :
    Calls Tryd.prog 15 #[va, vb, vc] w (Rets fun v' w' => Bytes w' w'.heap.size v' (fileL ts) ∧ Below w.heap.size w w') := by
  obtain ⟨i0, hi, hz0, hz1, hz2⟩ := info_parts infoByte
  obtain ⟨A, c, rfl, hac, hacm, -, hA⟩ := ha
  obtain ⟨A', c', rfl, hbc, hbcm⟩ := hb.form
  obtain ⟨A2, c2, rfl, hcc, hccm, -, hC⟩ := hc
  unfold maxLen at hacm hbcm hccm
  have hlb : (ts.map (·.2.1)).length = ts.length := by simp
  rw [hlb] at hb hbc ⊢
  have HA := Lib.hid hA
  have HB := Lib.hid hb
  have HC := Lib.hid hC
  have HF := Lib.hid hf
  have hfl := length_fileL ts
  clear hA hb hC hf hlb
  go_enter Tryd.func15, Tryd.ntmps15
  go_wp2_with fail
  go_loopw [7, 8, 9] (fun x y i wr => ∃ k : Nat, k ≤ ts.length ∧ i = .int .i64 k ∧ wr.ownsRow w.heap.size 5 1 x (outL (ts.take k)).length (bytesV (outL (ts.take k))) ∧ wr.ownsRow w.heap.size 5 1 y (listL 0 (ts.take k)).length (bytesV (listL 0 (ts.take k))) ∧ Apart x y ∧ Below w.heap.size w wr) (fun _ _ i _ => ts.length - (intOf i).toNat)
  case atStart => exact ⟨0, by omega, rfl, World.ownsRow_nil _ _ _ _, World.ownsRow_nil _ _ _ _, Apart.nil_left _, Below.refl _ _⟩
  case round =>
    obtain ⟨k, hk, rfl, hox, hoy, hap, hbel⟩ := hrel
    have hs := hbel.size
    obtain ⟨A5, c5, rfl⟩ := (Sl.of_own hox).form
    obtain ⟨A6, c6, rfl⟩ := (Sl.of_own hoy).form
    have hol := out_le' ts k
    have hll := list_le' ts k
    by_cases hlt : k < ts.length
    · obtain ⟨b1, o1, rfl, hb1, hc1⟩ := HA.out (by omega)
      obtain ⟨b2, o2, dv, rfl, hb2, hc2, hy⟩ := HB.out.at_ (i := k) (by simpa using hlt)
      obtain ⟨b3, o3, rfl, hb3, hc3⟩ := HC.out (by omega)
      have hc1 := hc1 k _ (strsV_at _ k (by simpa using hlt))
      have hc3 := hc3 k _ (natsV_at _ k (by simpa using hlt))
      simp only [List.getElem_map] at hc1 hc3 hy
      obtain ⟨f1, f2, f3⟩ := HF.out ts[k] (List.getElem_mem hlt)
      have HTO := Lib.hid (out_take' ts k hlt)
      have HTL := Lib.hid (list_take' ts k hlt)
      have hol2 := out_le' ts (k + 1)
      have hll2 := list_le' ts (k + 1)
      rw [HTO.out] at hol2
      rw [HTL.out] at hll2
      obtain ⟨A9, c9, rfl, -, hm9⟩ := hy.form
      unfold maxLen at hm9
      have HN : ∀ W, Below w.heap.size w W → W.cell? ⟨b1, o1 + k, none⟩ = some (str (ts[k]).1) := fun W hW => (hW.cell (p := ⟨b1, o1 + k, none⟩) hb1).trans hc1
      have HD : ∀ W, Below w.heap.size w W → W.cell? ⟨b2, o2 + k, none⟩ = some (.slice A9 (ts[k]).2.1.length c9) := fun W hW => (hW.cell (p := ⟨b2, o2 + k, none⟩) hb2).trans hc2
      have HS : ∀ W, Below w.heap.size w W → W.cell? ⟨b3, o3 + k, none⟩ = some (.int .i64 (ts[k]).2.2) := fun W hW => (hW.cell (p := ⟨b3, o3 + k, none⟩) hb3).trans hc3
      have HYD : ∀ W, Below w.heap.size w W → Hid (Bytes W W.heap.size (.slice A9 (ts[k]).2.1.length c9) (ts[k]).2.1) := fun W hW => bytes_below hy hW
      clear hc1 hc2 hc3 hy
      generalize outL (ts.take k) = acc at *
      generalize listL 0 (ts.take k) = lst at *
      generalize (ts[k]).1 = name at *
      generalize (ts[k]).2.1 = data at *
      generalize (ts[k]).2.2 = cr at *
      simp only [List.length_append, length_fld_rowF, length_fld_hdF] at hol2 hll2
      have n0 := HN wr hbel
      have d0 := HD wr hbel
      have s0 := HS wr hbel
      have hst := str_size name
      go_wp2_with fail
      refine wp_text (by kernel_rfl) (by kernel_rfl) ?_
      intro R hR
      go_wp2_with fail
      apply Calls.mono
      · exact rfields_any _ _ (rowF cr data.length name.length acc.length) (Sl.drew (new_fld1 wr _ _ _ (rowF cr data.length name.length acc.length) 34 _ rfl rfl rfl (by decide))) (by simp [rowF, comF]) (rowF_ok f1 f2 f3 (by omega))
      rintro e w3 ⟨v3, rfl, hv3, hb3⟩
      have hbr3 := (bump wr _).trans ((Below.refl _ _).drew.trans (hb3.mono (by simp)))
      have hbel3 := hbel.trans (hbr3.mono hs)
      have hox3 := own_below hox hbr3
      have hoy3 := own_below hoy hbr3
      have hlr := length_fld_rowF cr data.length name.length acc.length
      have hlh := length_fld_hdF cr data.length name.length
      generalize fld (rowF cr data.length name.length acc.length) = rw' at *
      generalize hhd : fld (hdF cr data.length name.length) = hd' at *
      clear hb3 n0 d0 s0
      go_wp2_with (at_builtin; go_loud (refine wpList_append_sl_at rfl _ _ 32 rfl w.heap.size 5 i0 (.int .u8 0) 1 1 Tryd.underlying32 hi hz0 hz1 hz2 rfl (by decide) (.slice A6 lst.length c6) lst.length (bytesV lst) rfl hoy3 v3 w3.heap.size rw'.length (bytesV rw') rfl hv3 (bytesV_one' _) (by unfold maxLen; omega) (by omega) hbel3.size ?_); intro v4 w4 hoy4 hgrow4 hloc4)
      refine ⟨by simp [goodB, fits, plainPair, isSeqV, quiet, Act.eval], ?_⟩
      have hox4 := hap.symm.kept hox3 hgrow4
      have hap4 : Apart v4 (.slice A5 acc.length c5) := hap.symm.moved hox3 hloc4
      have hbel4 := hbel3.grown hgrow4 hbel3.size (fun g hg => (hoy3.lt g hg).1)
      have hoy4' := own_more hoy4
      have n4 := HN w4 hbel4
      obtain ⟨v5, w5, hrun5, hv5, hb5⟩ := conv_bytes w4 name (by omega)
      have hbel5 := hbel4.trans (hb5.mono hbel4.size)
      have hox5 := own_below hox4 hb5
      have hoy5 := own_below hoy4' hb5
      have hl5 : (lst ++ rw').length = lst.length + rw'.length := List.length_append
      clear hox3 hoy3 hoy4 hgrow4 hloc4 hox4 hoy4' hv3
      go_wp2_with (at_builtin; go_loud (refine wpList_append_sl_at rfl _ _ 32 rfl w.heap.size 5 i0 (.int .u8 0) 1 1 Tryd.underlying32 hi hz0 hz1 hz2 rfl (by decide) v4 (lst ++ rw').length (bytesV (lst ++ rw')) rfl hoy5 v5 w5.heap.size name.length (bytesV name) rfl hv5 (bytesV_one' _) (by unfold maxLen; omega) (by omega) hbel5.size ?_); intro v6 w6 hoy6 hgrow6 hloc6)
      have hox6 := hap4.kept hox5 hgrow6
      have hap6 : Apart v6 (.slice A5 acc.length c5) := hap4.moved hox5 hloc6
      have hbel6 := hbel5.grown hgrow6 hbel5.size (fun g hg => (hoy5.lt g hg).1)
      have hoy6' := own_more hoy6
      have n6 := HN w6 hbel6
      have s6 := HS w6 hbel6
      clear hox5 hoy5 hoy6 hgrow6 hloc6 hv5 hrun5 n4
      go_wp2_with fail
      refine wp_text (by kernel_rfl) (by kernel_rfl) ?_
      intro R hR
      go_wp2_with fail
      apply Calls.mono
      · exact rfields_any _ _ (hdF cr data.length name.length) (Sl.drew (new_fld1 w6 _ _ _ (hdF cr data.length name.length) 22 _ rfl rfl rfl (by decide))) (by simp [hdF, comF]) (hdF_ok f1 f2 f3)
      rintro e w7 ⟨v7, rfl, hv7, hb7⟩
      rw [hhd] at hv7
      have hbr7 := (bump w6 _).trans ((Below.refl _ _).drew.trans (hb7.mono (by simp)))
      have hbel7 := hbel6.trans (hbr7.mono hbel6.size)
      have hox7 := own_below hox6 hbr7
      have hoy7 := own_below hoy6' hbr7
      clear hb7 n6 s6 hox6 hoy6'
      go_wp2_with (at_builtin; go_loud (refine wpList_append_sl_at rfl _ _ 32 rfl w.heap.size 5 i0 (.int .u8 0) 1 1 Tryd.underlying32 hi hz0 hz1 hz2 rfl (by decide) (.slice A5 acc.length c5) acc.length (bytesV acc) rfl hox7 v7 w7.heap.size hd'.length (bytesV hd') rfl hv7 (bytesV_one' _) (by unfold maxLen; omega) (by omega) hbel7.size ?_); intro v8 w8 hox8 hgrow8 hloc8)
      refine ⟨by simp [goodB, fits, plainPair, isSeqV, quiet, Act.eval], ?_⟩
      have hoy8 := hap6.symm.kept hoy7 hgrow8
      have hap8 : Apart v8 v6 := hap6.symm.moved hoy7 hloc8
      have hbel8 := hbel7.grown hgrow8 hbel7.size (fun g hg => (hox7.lt g hg).1)
      have hox8' := own_more hox8
      have n8 := HN w8 hbel8
      obtain ⟨v9, w9, hrun9, hv9, hb9⟩ := conv_bytes w8 name (by omega)
      have hbel9 := hbel8.trans (hb9.mono hbel8.size)
      have hox9 := own_below hox8' hb9
      have hoy9 := own_below hoy8 hb9
      have hl9 : (acc ++ hd').length = acc.length + hd'.length := List.length_append
      have hl10 : (acc ++ hd' ++ name).length = (acc ++ hd').length + name.length := List.length_append
      clear hox7 hoy7 hox8 hgrow8 hloc8 hox8' hoy8 hv7
      have tok1 : True := trivial
      go_wp2_with (first | (at_builtin; have _t := tok1; go_loud (refine wpList_append_sl_at rfl _ _ 32 rfl w.heap.size 5 i0 (.int .u8 0) 1 1 Tryd.underlying32 hi hz0 hz1 hz2 rfl (by decide) v8 (acc ++ hd').length (bytesV (acc ++ hd')) rfl hox9 v9 w9.heap.size name.length (bytesV name) rfl hv9 (bytesV_one' _) (by unfold maxLen; omega) (by omega) hbel9.size ?_); intro v10 w10 hox10 hgrow10 hloc10; clear tok1; have hoy10 := hap8.kept hoy9 hgrow10; have hap10 : Apart v10 v6 := hap8.moved hoy9 hloc10; have hbel10 := hbel9.grown hgrow10 hbel9.size (fun g hg => (hox9.lt g hg).1); have hox10' := own_more hox10; have d10 := HD w10 hbel10; have HD10 := HYD w10 hbel10; clear hox9 hoy9 hox10 hgrow10 hloc10) | (at_builtin; go_loud (refine wpList_append_sl_at rfl _ _ 32 rfl w.heap.size 5 i0 (.int .u8 0) 1 1 Tryd.underlying32 hi hz0 hz1 hz2 rfl (by decide) v10 (acc ++ hd' ++ name).length (bytesV (acc ++ hd' ++ name)) rfl hox10' (.slice A9 data.length c9) w10.heap.size data.length (bytesV data) rfl HD10.out (bytesV_one' _) (by unfold maxLen; omega) (by omega) hbel10.size ?_); intro v11 w11 hox11 hgrow11 hloc11))
      have hoy11 := hap10.kept hoy10 hgrow11
      have hap11 : Apart v11 v6 := hap10.moved hoy10 hloc11
      have hbel11 := hbel10.grown hgrow11 hbel10.size (fun g hg => (hox10'.lt g hg).1)
      go_roundw
      case rel =>
        refine ⟨k + 1, by omega, by go_num, ?_, ?_, hap11, hbel11⟩
        · rw [HTO.out]; exact own_more hox11
        · rw [HTL.out]; exact hoy11
      case measure => first | (simp [intOf]; done) | (simp [intOf]; omega)
    · obtain rfl : k = ts.length := by omega
      have e : ts.take ts.length = ts := List.take_length
      rw [e] at hox hoy ⊢
      have HFL : Hid ((outL ts ++ listL 0 ts) ++ fld (endF ts.length (listL 0 ts).length (outL ts).length) = fileL ts) := by
        show _ = _
        simp only [fileL, restL, endL, List.append_assoc]
      have hle := length_endL ts.length (listL 0 ts).length (outL ts).length
      unfold endL at hle
      have hys := Sl.of_own hoy
      clear hol hll hlt HF HA HB HC
      generalize outL ts = acc at *
      generalize listL 0 ts = lst at *
      have hl2 : (acc ++ lst).length = acc.length + lst.length := List.length_append
      go_wp2_with (at_builtin; go_loud (refine wpList_append_sl_at rfl _ _ 32 rfl w.heap.size 5 i0 (.int .u8 0) 1 1 Tryd.underlying32 hi hz0 hz1 hz2 rfl (by decide) (.slice A5 acc.length c5) acc.length (bytesV acc) rfl hox (.slice A6 lst.length c6) wr.heap.size lst.length (bytesV lst) rfl hys (bytesV_one' _) (by unfold maxLen; omega) (by omega) hs ?_); intro v4 w4 hox4 hgrow4 hloc4)
      have hbel4 := hbel.grown hgrow4 hs (fun g hg => (hox.lt g hg).1)
      have hox4' := own_more hox4
      refine Calls.mono (rfields_any _ _ (endF ts.length lst.length acc.length) (new_fld1 w4 _ _ _ (endF ts.length lst.length acc.length) 16 _ rfl rfl rfl (by decide)) (by simp [endF]) (endF_ok (by omega) (by omega) (by omega))) ?_
      rintro e w7 ⟨v7, rfl, hv7, hb7⟩
      have hbr7 := (bump w4 _).trans (hb7.mono (by simp))
      have hbel7 := hbel4.trans (hbr7.mono hbel4.size)
      have hox7 := own_below hox4' hbr7
      generalize fld (endF ts.length lst.length acc.length) = en at *
      clear hb7 hox4'
      go_wp2_with (at_builtin; go_loud (refine wpList_append_sl_at rfl _ _ 32 rfl w.heap.size 5 i0 (.int .u8 0) 1 1 Tryd.underlying32 hi hz0 hz1 hz2 rfl (by decide) v4 (acc ++ lst).length (bytesV (acc ++ lst)) rfl hox7 v7 w7.heap.size en.length (bytesV en) rfl hv7 (bytesV_one' _) (by unfold maxLen; omega) (by omega) hbel7.size ?_); intro v8 w8 hox8 hgrow8 hloc8)
      go_ret
      refine ⟨_, rfl, ?_, hbel7.grown hgrow8 hbel7.size (fun g hg => (hox7.lt g hg).1)⟩
      rw [← HFL.out]
      exact bytes_of_own (own_more hox8) rfl
end Go.Proofs.YtmhadkdbonfmdaaDoor
