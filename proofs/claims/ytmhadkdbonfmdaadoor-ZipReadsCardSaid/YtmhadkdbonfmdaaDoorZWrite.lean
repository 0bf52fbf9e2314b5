/-
  Layer 16: Write, walked.
-/
import Derived.Test.YtmhadkdbonfmdaaDoorZCheck
namespace Go.Proofs.YtmhadkdbonfmdaaDoor
open Go Go.RowKit Go.Shelf
set_option maxRecDepth 100000

section
variable {P : Program} {w : World}
theorem run_append_sl_at (base : Nat) (t ty e : TypeId) (i : TypeInfo) (z : Value) (size bytes : Nat) (ht : P.underlying t = some (.slice e)) (hi : P.info? e = some i) (hz : i.zero = some z)
    (hsize : i.size = size) (hby : i.bytes = bytes) (hzs : z.cells.size = size) (hsz : 0 < size)
    (v : Value) (n : Nat) (xs : List Value) (hown : w.ownsRow base e size v n xs)
    (x : Value) (B m : Nat) (ys : List Value) (hx : Sl w B size x m ys) (h1 : ∀ u ∈ ys, u.oneCell' = true)
    (h63 : n + m ≤ maxLen) (hbytes : (n + m) * bytes ≤ 140737488355328) (hbase : base ≤ w.heap.size) :
    ∃ v' w', (Builtin.append_ #[t, t] ty #[v, x]).run P w = .ok v' w' ∧ w'.ownsRow base e size v' (n + m) (xs ++ ys) ∧ w.grownBy w' v.ownBlock ∧ (v'.ownBlock = v.ownBlock ∨ v'.ownBlock = some w.heap.size) := by
  obtain ⟨A, c, rfl, hmc, hcm, hl, hc⟩ := hx
  rcases A with _ | ad
  · have hm : m = 0 := by
      rcases Nat.eq_zero_or_pos m with h | h
      · exact h
      · obtain ⟨_, _, e, _⟩ := hc h
        cases e
    subst hm
    have hy : ys = [] := List.eq_nil_of_length_eq_zero (by simpa using hl)
    subst hy
    refine ⟨v, w, run_append_none_any base t ty e i size ht hi v n c xs hown, by simpa using hown, ⟨rfl, rfl, rfl, Nat.le_refl _, fun _ _ _ => rfl⟩, .inl rfl⟩
  · obtain ⟨v', w', h2, h3, h4, -, h5⟩ := run_append_own_at (P := P) w base t ty e i z size bytes ht hi hz hsize hby hzs hsz v n xs hown ad m c ys hl (fun j u hu => by
      rcases Nat.eq_zero_or_pos m with h | h
      · subst h
        have hy : ys = [] := List.eq_nil_of_length_eq_zero (by simpa using hl)
        subst hy
        cases hu
      · obtain ⟨b, o, e, _, hcc⟩ := hc h
        cases e
        rw [Addr.add_lit]
        exact hcc j u hu) h1 h63 hbytes hbase
    exact ⟨v', w', h2, h3, h4, h5⟩
theorem wpList_append_sl_at {ops : Array Oper} {rest : List Oper} {o : Oper} {a : Act} {Q : Exit → Act → World → Prop} (hgd : o.guard = none) (s x : Operand) (t : TypeId)
    (ho : o.op = .call { callee := .builtin .append, args := #[s, x], argTypes := #[t, t] })
    (base : Nat) (e : TypeId) (i : TypeInfo) (z : Value) (size bytes : Nat) (ht : P.underlying t = some (.slice e)) (hi : P.info? e = some i) (hz : i.zero = some z)
    (hsize : i.size = size) (hby : i.bytes = bytes) (hzs : z.cells.size = size) (hsz : 0 < size)
    (v : Value) (n : Nat) (xs : List Value) (hs : a.eval s = v) (hown : w.ownsRow base e size v n xs)
    (y : Value) (B m : Nat) (ys : List Value) (hx : a.eval x = y) (hsl : Sl w B size y m ys) (h1 : ∀ u ∈ ys, u.oneCell' = true)
    (h63 : n + m ≤ maxLen) (hbytes : (n + m) * bytes ≤ 140737488355328) (hbase : base ≤ w.heap.size)
    (h : ∀ v' w', w'.ownsRow base e size v' (n + m) (xs ++ ys) → w.grownBy w' v.ownBlock → (v'.ownBlock = v.ownBlock ∨ v'.ownBlock = some w.heap.size) → wpList P ops Q rest (a.put o.dst v') w') : wpList P ops Q (o :: rest) a w := by
  refine wpList_plain hgd fun K hK => ?_
  obtain ⟨v', w', hr, h2, h3, h4⟩ := run_append_sl_at (P := P) (w := w) base t o.type e i z size bytes ht hi hz hsize hby hzs hsz v n xs hown y B m ys hsl h1 h63 hbytes hbase
  unfold Oper.wp execOp
  simp only [ho, resolve, invoke, builtin, Sem.run_bind, Sem.run_pure, Result.andThen_ok, List.map_toArray, List.map_cons, List.map_nil, hs, hx, hr]
  exact hK _ _ (h v' w' h2 h3 h4)
end
/-- Two rows of the call's own lie in two blocks. -/
def Apart (v u : Value) : Prop := ∀ g, v.ownBlock = some g → u.ownBlock ≠ some g
theorem Apart.symm {v u : Value} (h : Apart v u) : Apart u v := fun g hg hv => h g hv hg
theorem Apart.nil_left (u : Value) : Apart (.slice none 0 0) u := fun g h => by cases h
theorem Apart.kept {w w' : World} {base : Nat} {e : TypeId} {sz n : Nat} {v u : Value} {xs : List Value} (h : Apart v u) (ho : w.ownsRow base e sz u n xs) (hg : w.grownBy w' v.ownBlock) : w'.ownsRow base e sz u n xs := by
  refine ho.kept hg ?_
  rcases hu : u.ownBlock with _ | g
  · exact .inl rfl
  · exact .inr fun e => h g e.symm hu
theorem Apart.moved {w : World} {base : Nat} {e : TypeId} {sz n : Nat} {v v' u : Value} {xs : List Value} (h : Apart v u) (ho : w.ownsRow base e sz u n xs) (hl : v'.ownBlock = v.ownBlock ∨ v'.ownBlock = some w.heap.size) : Apart v' u := by
  rcases hl with hl | hl
  · intro g hg; rw [hl] at hg; exact h g hg
  · intro g hg hu
    rw [hl] at hg
    cases hg
    have := (ho.lt _ hu).2
    omega
/-- Members with their sums. -/
def tris (l : List Mem) : List Tri := l.map fun m => (m.1, m.2, crcOf m.2)
theorem length_tris (l : List Mem) : (tris l).length = l.length := by simp [tris]
theorem tris_take (l : List Mem) (k : Nat) (h : k < l.length) : tris (l.take (k + 1)) = tris (l.take k) ++ [((l[k]).1, (l[k]).2, crcOf (l[k]).2)] := by
  unfold tris
  rw [List.take_succ_eq_append_getElem h, List.map_append]
  rfl
theorem out_take (l : List Mem) (k : Nat) (h : k < l.length) : outL (tris (l.take (k + 1))) = (outL (tris (l.take k)) ++ hdL ((l[k]).1, (l[k]).2, crcOf (l[k]).2)) ++ (l[k]).2 := by
  rw [tris_take l k h, out_snoc]
theorem list_take (l : List Mem) (k : Nat) (h : k < l.length) : listL 0 (tris (l.take (k + 1))) = listL 0 (tris (l.take k)) ++ rowL ((l[k]).1, (l[k]).2, crcOf (l[k]).2) (outL (tris (l.take k))).length := by
  rw [tris_take l k h, list_snoc]
theorem out_le (l : List Mem) (k : Nat) : (outL (tris (l.take k))).length ≤ (outL (tris l)).length := by
  have h : tris (l.take k) ++ tris (l.drop k) = tris l := by unfold tris; rw [← List.map_append, List.take_append_drop]
  rw [← h, outL_append, List.length_append]; omega
theorem list_le (l : List Mem) (k : Nat) : (listL 0 (tris (l.take k))).length ≤ (listL 0 (tris l)).length := by
  have h : tris (l.take k) ++ tris (l.drop k) = tris l := by unfold tris; rw [← List.map_append, List.take_append_drop]
  rw [← h, listL_append, List.length_append]; omega
theorem check_ok {l : List Mem} (h : checkL (sizes l) = 0) : l.length ≤ 64 ∧ (∀ m ∈ l, nameOk m.1 = true ∧ m.2.length ≤ 4194304) ∧ (names l).Nodup := by
  by_cases h1 : 64 < l.length
  · rw [check_many h1] at h; cases h
  · cases h2 : l.any fun m => !nameOk m.1 with
    | true => rw [check_name h1 h2] at h; cases h
    | false =>
      by_cases h3 : (names l).Nodup
      · rw [check_size h1 h2 h3] at h
        split at h
        · cases h
        · rename_i h4
          refine ⟨by omega, fun m hm => ⟨?_, ?_⟩, h3⟩
          · have := List.any_eq_false.1 h2 m hm
            simpa using this
          · refine Nat.le_of_not_lt fun h5 => h4 (List.any_eq_true.2 ⟨m, hm, decide_eq_true h5⟩)
      · rw [check_there h1 h2 h3] at h; cases h
theorem nameOk_len {x : List UInt8} (h : nameOk x = true) : 1 ≤ x.length ∧ x.length ≤ 64 := by
  simp only [nameOk, Bool.and_eq_true, decide_eq_true_eq] at h
  exact h.1

theorem boxes3 (w : World) (u0 u1 u2 : Value) (t t2 : TypeId) (W : World) (h : (w.alloc (.cells #[u0, u1] t)).alloc (.cells #[u2] t2) = W) :
    W.cell? ⟨w.heap.size, 0, none⟩ = some u0 ∧ W.cell? ⟨w.heap.size, 1, none⟩ = some u1 ∧ W.cell? ⟨w.heap.size + 1, 0, none⟩ = some u2 ∧ Below w.heap.size w W ∧ W.heap.size = w.heap.size + 2 := by
  subst h
  have e : w.heap.size + 1 = (w.alloc (.cells #[u0, u1] t)).heap.size := by simp
  refine ⟨?_, ?_, ?_, (bump w _).trans ((bump _ _).mono (by simp)), by simp⟩
  · rw [World.cell?_alloc_lt _ _ _ (show w.heap.size < _ by simp), cell_new]; rfl
  · rw [World.cell?_alloc_lt _ _ _ (show w.heap.size < _ by simp), cell_new]; rfl
  · rw [e, cell_new]; rfl
/-- What an append leaves as it was. -/
theorem grown_cell {w0 w w' : World} {base : Nat} {e : TypeId} {sz n : Nat} {v : Value} {xs : List Value} (ho : w0.ownsRow base e sz v n xs) (hg : w.grownBy w' v.ownBlock) {b i : Nat} (h0 : w0.heap.size ≤ b) (hb : b < w.heap.size) :
    w'.cell? ⟨b, i, none⟩ = w.cell? ⟨b, i, none⟩ :=
  World.cell?_of_block (hg.block b hb (fun e => by have := (ho.lt _ e.symm).2; omega))

set_option maxHeartbeats 2000000 in
theorem write_any (w : World) (v : Value) (l : List Mem) (hv : Mems w w.heap.size v l) (hl : l.length ≤ 100000) (hsz : (fileL (tris l)).length ≤ 1000000) (hF : Fours w) :
    Calls Tryd.prog 12 #[v] w fun e w' => (∃ rv, e = .returned (.tuple #[rv, .int .i64 (checkL (sizes l) : Nat)]) ∧ Bytes w' w'.heap.size rv (if checkL (sizes l) = 0 then fileL (tris l) else [])) ∧ Below w.heap.size w w' := by
  obtain ⟨i0, hi, hz0, hz1, hz2⟩ := info_parts infoByte
  have HC := Lib.hid (check_any w v l hv hl)
  obtain ⟨A, c, rfl, hlc, hcm⟩ := hv.form
  unfold maxLen at hcm
  have HV := Lib.hid hv
  have HF := Lib.hid hF
  clear hv hF
  by_cases hok : checkL (sizes l) = 0
  · obtain ⟨h64, hall, -⟩ := check_ok hok
    have HALL := Lib.hid hall
    rw [hok] at HC ⊢
    rw [if_pos rfl]
    have hfl := length_fileL (tris l)
    go_enter Tryd.func12, Tryd.ntmps12
    go_wp2_with fail
    refine HC.out.mono ?_
    rintro e w1 ⟨rfl, hb1⟩
    have HV1 := Lib.hid ((HV.out.below hb1).more hb1.size)
    have HF1 := Lib.hid (HF.out.below hb1)
    clear HV HF HC hall hok
    go_wp2_with fail
    go_loopw [5, 6, 17] (fun x y i wr => ∃ k : Nat, k ≤ l.length ∧ i = .int .i64 k ∧ wr.ownsRow w1.heap.size 5 1 x (outL (tris (l.take k))).length (bytesV (outL (tris (l.take k)))) ∧ wr.ownsRow w1.heap.size 5 1 y (listL 0 (tris (l.take k))).length (bytesV (listL 0 (tris (l.take k)))) ∧ Apart x y ∧ Below w1.heap.size w1 wr) (fun _ _ i _ => l.length - (intOf i).toNat)
    case atStart => exact ⟨0, by omega, rfl, World.ownsRow_nil _ _ _ _, World.ownsRow_nil _ _ _ _, Apart.nil_left _, Below.refl _ _⟩
    case round =>
      obtain ⟨k, hk, rfl, hox, hoy, hap, hbel⟩ := hrel
      have hs := hbel.size
      obtain ⟨A5, c5, rfl⟩ := (Sl.of_own hox).form
      obtain ⟨A6, c6, rfl⟩ := (Sl.of_own hoy).form
      have hol := out_le l k
      have hll := list_le l k
      by_cases hlt : k < l.length
      · obtain ⟨b, o, rfl, hbB, hc0, hn, dv, hc1, hy⟩ := HV1.out.at_ hlt
        obtain ⟨hnok, hdl⟩ := HALL.out l[k] (List.getElem_mem hlt)
        have hnl := nameOk_len hnok
        have hd0 := (hbel.cell (p := ⟨b, o + k * 2, none⟩) hbB).trans hc0
        have hd1 := (hbel.cell (p := ⟨b, o + k * 2 + 1, none⟩) hbB).trans hc1
        have HTO := Lib.hid (out_take l k hlt)
        have HTL := Lib.hid (list_take l k hlt)
        have hol2 := out_le l (k + 1)
        have hll2 := list_le l (k + 1)
        rw [HTO.out] at hol2
        rw [HTL.out] at hll2
        have HYD : ∀ W, Below w1.heap.size w1 W → Hid (Bytes W W.heap.size dv (l[k]).2) := fun W hW => bytes_below hy hW
        obtain ⟨A2, c2, rfl, -, hm2⟩ := hy.form
        unfold maxLen at hm2
        clear hc0 hc1 hy hn hnok
        generalize outL (tris (l.take k)) = acc at *
        generalize listL 0 (tris (l.take k)) = lst at *
        generalize (l[k]).1 = name at *
        generalize (l[k]).2 = data at *
        simp only [List.length_append, length_hdL, length_rowL] at hol2 hll2
        have hcl := crcOf_lt data
        have HS : ∀ W, Below w1.heap.size w1 W → ∀ g, W.cell? ⟨g, 0, none⟩ = some (.slice A2 data.length c2) → Hid (Calls Tryd.prog 22 #[.slice (some ⟨g, 0, none⟩) 1 1] W fun e w' => e = .returned (.int .i64 (crcOf data : Nat)) ∧ W = w') := fun W hW g hg =>
          sum1 W g _ _ data hg (HYD W hW).out (HF1.out.below hW)
        generalize crcOf data = cr at *
        go_wp2_with fail
        generalize hw2 : (wr.alloc (.cells #[str name, .slice A2 data.length c2] 45)).alloc (.cells #[.slice A2 data.length c2] 32) = w2
        obtain ⟨hA2, hB2, hG2, hb2, hs2⟩ := boxes3 _ _ _ _ _ _ _ hw2
        have hbel2 := hbel.trans (hb2.mono hs)
        clear hw2
        refine (HS w2 hbel2 _ hG2).out.mono ?_
        rintro e ww ⟨rfl, rfl⟩
        clear HS hG2
        go_wp2_with fail
        refine (row_any w2 name data _ cr acc.length (HYD w2 hbel2).out hcl hdl (by omega) (by omega)).mono ?_
        rintro e w3 ⟨v3, rfl, hv3, hb3⟩
        have hbr3 : Below wr.heap.size wr w3 := hb2.trans (hb3.mono hb2.size)
        have hbel3 := hbel2.trans (hb3.mono hbel2.size)
        have hs3 := hb3.size
        have hsz3 := hbr3.size
        have hlt3 : wr.heap.size < w3.heap.size := by omega
        have hA3 : w3.cell? ⟨wr.heap.size, 0, none⟩ = some (str name) := (hb3.cell (p := ⟨wr.heap.size, 0, none⟩) (show wr.heap.size < w2.heap.size by omega)).trans hA2
        have hB3 : w3.cell? ⟨wr.heap.size, 1, none⟩ = some (.slice A2 data.length c2) := (hb3.cell (p := ⟨wr.heap.size, 1, none⟩) (show wr.heap.size < w2.heap.size by omega)).trans hB2
        have hox3 := own_below hox hbr3
        have hoy3 := own_below hoy hbr3
        have hlr : (rowL (name, data, cr) acc.length).length = 46 + name.length := length_rowL _ _
        have hlh : (hdL (name, data, cr)).length = 30 + name.length := length_hdL _
        generalize rowL (name, data, cr) acc.length = rw' at *
        generalize hhd : hdL (name, data, cr) = hd' at *
        clear hA2 hB2 hb2 hbel2 hs2
        go_wp2_with (at_builtin; go_loud (refine wpList_append_sl_at rfl _ _ 32 rfl w1.heap.size 5 i0 (.int .u8 0) 1 1 Tryd.underlying32 hi hz0 hz1 hz2 rfl (by decide) (.slice A6 lst.length c6) lst.length (bytesV lst) rfl hoy3 v3 w3.heap.size rw'.length (bytesV rw') rfl hv3 (bytesV_one' _) (by unfold maxLen; omega) (by omega) (by omega) ?_); intro v4 w4 hoy4 hgrow4 hloc4; have hox4 := hap.symm.kept hox3 hgrow4; have hap4 : Apart v4 (.slice A5 acc.length c5) := hap.symm.moved hox3 hloc4; have hbel4 := hbel3.grown hgrow4 hbel3.size (fun g hg => (hoy.lt g hg).1); have hs4 := hgrow4.size; have hA4 := (grown_cell hoy hgrow4 (b := wr.heap.size) (i := 0) (Nat.le_refl _) (by omega)).trans hA3; have hB4 := (grown_cell hoy hgrow4 (b := wr.heap.size) (i := 1) (Nat.le_refl _) (by omega)).trans hB3; clear hA3 hB3 hox3 hoy3 hgrow4 hloc4 hap)
        refine (head_any w4 name data _ cr (HYD w4 hbel4).out hcl hdl (by omega)).mono ?_
        rintro e w5 ⟨v5, rfl, hv5, hb5⟩
        rw [hhd] at hv5
        have hbel5 := hbel4.trans (hb5.mono hbel4.size)
        have hA5 := (hb5.cell (p := ⟨wr.heap.size, 0, none⟩) (show wr.heap.size < w4.heap.size by omega)).trans hA4
        have hB5 := (hb5.cell (p := ⟨wr.heap.size, 1, none⟩) (show wr.heap.size < w4.heap.size by omega)).trans hB4
        have hox5 := own_below hox4 hb5
        have hoy5 := own_below hoy4 hb5
        have hs5 := hb5.size
        clear hA4 hB4 hox4 hoy4 hbel4
        have tok1 : True := trivial
        go_wp2_with (first | (at_builtin; have _t := tok1; go_loud (refine wpList_append_sl_at rfl _ _ 32 rfl w1.heap.size 5 i0 (.int .u8 0) 1 1 Tryd.underlying32 hi hz0 hz1 hz2 rfl (by decide) (.slice A5 acc.length c5) acc.length (bytesV acc) rfl hox5 v5 w5.heap.size hd'.length (bytesV hd') rfl hv5 (bytesV_one' _) (by unfold maxLen; omega) (by omega) hbel5.size ?_; intro v6 w6 hox6 hgrow6 hloc6; have hoy6 := hap4.symm.kept hoy5 hgrow6; have hap6 : Apart v6 v4 := hap4.symm.moved hoy5 hloc6; have hbel6 := hbel5.grown hgrow6 hbel5.size (fun g hg => (hox.lt g hg).1); have hs6 := hgrow6.size; have hA6 := (grown_cell hox hgrow6 (b := wr.heap.size) (i := 0) (Nat.le_refl _) (by omega)).trans hA5; have hB6 := (grown_cell hox hgrow6 (b := wr.heap.size) (i := 1) (Nat.le_refl _) (by omega)).trans hB5; have HD6 := HYD w6 hbel6; have hox6' := own_more hox6; have hll6 : (acc ++ hd').length = acc.length + hd'.length := List.length_append; clear hA5 hB5 hox5 hoy5 hbel5 hgrow6 hloc6 hap4 hox6); clear tok1) | (at_builtin; (refine wpList_append_sl_at rfl _ _ 32 rfl w1.heap.size 5 i0 (.int .u8 0) 1 1 Tryd.underlying32 hi hz0 hz1 hz2 rfl (by decide) v6 (acc ++ hd').length (bytesV (acc ++ hd')) rfl hox6' (.slice A2 data.length c2) w6.heap.size data.length (bytesV data) rfl HD6.out (bytesV_one' _) (by unfold maxLen; omega) (by omega) hbel6.size ?_); intro v7 w7 hox7 hgrow7 hloc7))
        have hoy7 := hap6.kept hoy6 hgrow7
        have hap7 : Apart v7 v4 := hap6.moved hoy6 hloc7
        have hbel7 := hbel6.grown hgrow7 hbel6.size (fun g hg => (hox6'.lt g hg).1)
        go_roundw
        case rel =>
          refine ⟨k + 1, by omega, by go_num, ?_, ?_, hap7, hbel7⟩
          · rw [HTO.out]; exact own_more hox7
          · rw [HTL.out]; exact own_more hoy7
        case measure => first | (simp [intOf]; done) | (simp [intOf]; omega)
      · obtain rfl : k = l.length := by omega
        have e : l.take l.length = l := List.take_length
        rw [e] at hox hoy
        have htl := length_tris l
        have HX := Lib.hid (Sl.of_own hox)
        have HY := Lib.hid (Sl.of_own hoy)
        have HFLAT : Hid ([outL (tris l), listL 0 (tris l), endL l.length (listL 0 (tris l)).length (outL (tris l)).length].flatten = fileL (tris l)) := by
          show _ = _
          simp only [fileL, restL, htl, List.flatten_cons, List.flatten_nil, List.append_nil]
        clear hol hll hox hoy hlt HALL hap
        go_wp2_with fail
        refine (end_any wr l.length (listL 0 (tris l)).length (outL (tris l)).length (by omega) (by omega) (by omega)).mono ?_
        rintro e w2 ⟨v2, rfl, hv2, hb2⟩
        have hX2 := (HX.out.below hb2).more hb2.size
        have hY2 := (HY.out.below hb2).more hb2.size
        obtain ⟨A7, c7, rfl, -, -⟩ := Bytes.form hv2
        have HP := Lib.hid (parts3 (t := 32) (fr := (0, 0)) hX2 hY2 hv2)
        have hbel2 := hbel.trans (hb2.mono hs)
        have hlen : [outL (tris l), listL 0 (tris l), endL l.length (listL 0 (tris l)).length (outL (tris l)).length].flatten.length ≤ 10000000 := by rw [HFLAT.out]; omega
        have HL := Lib.hid hlen
        clear hlen hX2 hY2 hv2
        go_wp2_with fail
        refine (concat_parts _ _ _ HP.out (show 3 ≤ 10 by decide) HL.out).mono ?_
        rintro e w3 ⟨v3, rfl, hv3, hb3⟩
        rw [HFLAT.out] at hv3
        have hbel3 : Below w.heap.size w w3 := hb1.trans ((hbel2.trans (((bump w2 _).trans (hb3.mono (by simp))).mono hbel2.size)).mono hb1.size)
        go_wp2_with fail
        go_ret2
        exact ⟨⟨_, rfl, hv3⟩, hbel3⟩
  · rw [if_neg hok]
    generalize checkL (sizes l) = n at *
    have hne : ((n : Int) != 0) = true := by rw [bne_iff_ne]; omega
    go_enter Tryd.func12, Tryd.ntmps12
    go_wp2_with fail
    refine HC.out.mono ?_
    rintro e w1 ⟨rfl, hb1⟩
    go_wp2_with fail
    go_ret2
    exact ⟨⟨_, rfl, Bytes.nil _ _⟩, hb1⟩
end Go.Proofs.YtmhadkdbonfmdaaDoor
