/-
  Layer 16: the law ZipGrows: how much longer the file of one member more is; and the walk.
-/
import Derived.BigQuiet
import Derived.Test.YtmhadkdbonfmdaaDoorZBack
namespace Go.Proofs.YtmhadkdbonfmdaaDoor
open Go Go.RowKit Go.Shelf
set_option maxRecDepth 100000

/-- One member more. -/
theorem tris_snoc (l : List Mem) (m : Mem) : tris (l ++ [m]) = tris l ++ [(m.1, m.2, crcOf m.2)] := by simp [tris]
theorem grows_len (l : List Mem) (m : Mem) : (fileL (tris (l ++ [m]))).length = (fileL (tris l)).length + 76 + 2 * m.1.length + m.2.length := by
  rw [tris_snoc, length_fileL, length_fileL, out_snoc, list_snoc]
  simp only [List.length_append, length_hdL, length_rowL]
  omega
theorem file_take (l : List Tri) (r : List Tri) : (fileL (l ++ r)).take (outL l).length = outL l := by
  rw [fileL, outL_append, List.append_assoc, List.take_left]
def heads (l : List Mem) : Nat := (l.map fun m => 30 + m.1.length + m.2.length).sum
theorem heads_out (l : List Mem) : (outL (tris l)).length = heads l := by
  rw [length_outL, heads, tris, List.map_map]
  rfl
theorem heads_take (l : List Mem) (k : Nat) (h : k < l.length) : heads (l.take (k + 1)) = heads (l.take k) + 30 + (l[k]).1.length + (l[k]).2.length := by
  rw [List.take_succ_eq_append_getElem h]
  simp only [heads, List.map_append, List.sum_append, List.map_cons, List.map_nil, List.sum_cons, List.sum_nil]
  omega
theorem heads_le (l : List Mem) (k : Nat) : heads (l.take k) ≤ heads l := by
  conv => rhs; rw [← List.take_append_drop k l]
  simp only [heads, List.map_append, List.sum_append]
  omega
/-- Each cell of members is one. -/
theorem mems_cells {w : World} {B : Nat} {v : Value} {xs : List Value} {l : List Mem} (h1 : Sl w B 2 v l.length xs) (h2 : ∀ (i : Nat) (h : i < l.length), xs[i * 2]? = some (str (l[i]).1) ∧ (l[i]).1.length ≤ maxLen ∧ ∃ dv, xs[i * 2 + 1]? = some dv ∧ Bytes w B dv (l[i]).2) : ∀ u ∈ xs, u.oneCell' = true := by
  intro u hu
  obtain ⟨j, hj, rfl⟩ := List.getElem_of_mem hu
  have hl := h1.len
  have hd : j / 2 < l.length := by omega
  obtain ⟨a, -, dv, b, hb⟩ := h2 (j / 2) hd
  rcases Nat.mod_two_eq_zero_or_one j with h | h
  · have e : j / 2 * 2 = j := by omega
    rw [e, List.getElem?_eq_getElem hj] at a
    rw [Option.some.inj a]
    rfl
  · have e : j / 2 * 2 + 1 = j := by omega
    rw [e, List.getElem?_eq_getElem hj] at b
    rw [Option.some.inj b]
    obtain ⟨A, c, rfl, -⟩ := hb.form
    rfl
/-- One member in a world. -/
theorem mems_snoc {w : World} {B : Nat} {v dv : Value} {xs : List Value} {l : List Mem} {m : Mem} (h2 : ∀ (i : Nat) (h : i < l.length), xs[i * 2]? = some (str (l[i]).1) ∧ (l[i]).1.length ≤ maxLen ∧ ∃ dv, xs[i * 2 + 1]? = some dv ∧ Bytes w B dv (l[i]).2)
    (hx : xs.length = l.length * 2) (hm : m.1.length ≤ maxLen) (hd : Bytes w B dv m.2) (h : Sl w B 2 v (l.length + 1) (xs ++ [str m.1, dv])) : Mems w B v (l ++ [m]) := by
  refine ⟨xs ++ [str m.1, dv], by rw [List.length_append]; exact h, fun i hi => ?_⟩
  rw [List.length_append, List.length_singleton] at hi
  rcases Nat.lt_or_ge i l.length with hc | hc
  · obtain ⟨a, b, dv', c, d⟩ := h2 i hc
    rw [List.getElem_append_left hc]
    exact ⟨by rw [List.getElem?_append_left (by omega)]; exact a, b, dv', by rw [List.getElem?_append_left (by omega)]; exact c, d⟩
  · obtain rfl : i = l.length := by omega
    rw [List.getElem_append_right (Nat.le_refl _)]
    simp only [Nat.sub_self, List.getElem_cons_zero]
    exact ⟨by rw [List.getElem?_append_right (by omega), hx, Nat.sub_self]; rfl, hm, dv, by rw [List.getElem?_append_right (by omega), hx, show l.length * 2 + 1 - l.length * 2 = 1 by omega]; rfl, hd⟩
theorem mems_one {w : World} {dv : Value} {m : Mem} {t : TypeId} {fr : Nat × Nat} (hm : m.1.length ≤ maxLen) (hd : Bytes w w.heap.size dv m.2) :
    Mems (w.alloc (.cells #[str m.1, dv] t fr)) (w.heap.size + 1) (.slice (some ⟨w.heap.size, 0, none⟩) 1 1) [m] := by
  have hb : Bytes (w.alloc (.cells #[str m.1, dv] t fr)) (w.heap.size + 1) dv m.2 := (hd.alloc (Nat.le_refl _) _).more (by omega)
  refine mems_snoc (l := []) (xs := []) (fun i h => absurd h (by simp)) rfl hm hb ?_
  exact Sl.mk_ (by decide) (by decide) (by simp) (by omega) fun j u hj => by
    rw [Nat.zero_add, cell_new]
    simpa using hj

set_option maxHeartbeats 4000000 in
theorem grows_walk (w : World) (v : Value) (l : List Mem) (name : List UInt8) (dv : Value) (data : List UInt8) (hv : Mems w w.heap.size v l) (hn : name.length ≤ maxLen) (hd : Bytes w w.heap.size dv data) (hF : Fours w) :
    Calls Tryd.prog 7 #[v, .agg #[str name, dv]] w fun e w' => e = .returned (.bool true) ∧ Below w.heap.size w w' := by
  obtain ⟨i0, hi, hz0, hz1, hz2⟩ := info_parts infoMem
  obtain ⟨A, c, rfl, hlc, hcm⟩ := hv.form
  obtain ⟨A', c', rfl, hdc, hdm⟩ := hd.form
  have hs := str_size name
  have HV := Lib.hid hv
  have HD := Lib.hid hd
  have HF := Lib.hid hF
  have HAW : ∀ W, Below w.heap.size w W → Hid (Calls Tryd.prog 9 #[] W fun e w' => e = .returned (.bool true) ∧ Below W.heap.size W w') := fun W hW => awake_any W (HF.out.below hW)
  have hbel0 : Below w.heap.size w (w.alloc (.cells #[str name, .slice A' data.length c'] 45)) := (Below.refl _ _).alloc (Nat.le_refl _) _
  have hcell0 := cell_new w #[str name, .slice A' data.length c'] 45 (0, 0)
  have HFEW := Lib.hid (few_any (w.alloc (.cells #[str name, .slice A' data.length c'] 45)) _ l ((hv.below hbel0).more hbel0.size))
  have HNL := Lib.hid hn
  unfold maxLen at hcm hdm hn
  clear hv hd hF
  generalize hw0 : w.alloc (.cells #[str name, .slice A' data.length c'] 45) = w0 at *
  have hh0 : w0.heap.size = w.heap.size + 1 := by rw [← hw0]; simp
  have c0 := hcell0 0
  have c1 := hcell0 1
  simp only [List.getElem?_toArray, List.getElem?_cons_zero, List.getElem?_cons_succ] at c0 c1
  cases hf : fewL l with
  | false =>
    rw [hf] at HFEW
    go_enter Tryd.func7, Tryd.ntmps7
    go_wp2_with fail
    refine HFEW.out.mono ?_
    rintro e ww ⟨rfl, rfl⟩
    go_wp2_with fail
    refine (HAW _ hbel0).out.mono ?_
    rintro e wz ⟨rfl, hbz⟩
    go_wp2_with fail
    go_ret
    exact ⟨rfl, (hbel0).trans (hbz.mono (hbel0).size)⟩
  | true =>
    rw [hf] at HFEW
    have hbel1 : Below w.heap.size w (w0.alloc (.cells #[str name, .slice A' data.length c'] 45)) := hbel0.alloc (by omega) _
    have hone : Mems (w0.alloc (.cells #[str name, .slice A' data.length c'] 45)) (w0.heap.size + 1) (.slice (some ⟨w0.heap.size, 0, none⟩) 1 1) [(name, data)] :=
      mems_one HNL.out ((HD.out.below hbel0).more hbel0.size)
    have HFEW1 := Lib.hid (few_any (w0.alloc (.cells #[str name, .slice A' data.length c'] 45)) _ [(name, data)] (by simpa using hone))
    rw [hh0] at HFEW1
    clear hone
    generalize hw1 : w0.alloc (.cells #[str name, .slice A' data.length c'] 45) = w1 at *
    cases hf1 : fewL [(name, data)] with
    | false =>
      rw [hf1] at HFEW1
      go_enter Tryd.func7, Tryd.ntmps7
      go_wp2_with fail
      refine HFEW.out.mono ?_
      rintro e ww ⟨rfl, rfl⟩
      go_wp2_with fail
      refine HFEW1.out.mono ?_
      rintro e ww ⟨rfl, rfl⟩
      go_wp2_with fail
      refine (HAW _ hbel1).out.mono ?_
      rintro e wz ⟨rfl, hbz⟩
      go_wp2_with fail
      go_ret
      exact ⟨rfl, (hbel1).trans (hbz.mono (hbel1).size)⟩
    | true =>
      rw [hf1] at HFEW1
      have hfl := file_few hf
      have hl70 : l.length ≤ 70 := by simp only [fewL, Bool.and_eq_true, decide_eq_true_eq] at hf; exact hf.2
      have hn80 : name.length ≤ 80 ∧ data.length ≤ 200 := by simpa [fewL] using hf1
      have hbz1 : Below w0.heap.size w0 w1 := by rw [← hw1]; exact (Below.refl _ _).alloc (Nat.le_refl _) _
      have HWR : ∀ W v' l', Below w.heap.size w W → Mems W W.heap.size v' l' → l'.length ≤ 100000 → (fileL (tris l')).length ≤ 1000000 → Hid (Calls Tryd.prog 12 #[v'] W fun e w' => (∃ rv, e = .returned (.tuple #[rv, .int .i64 (checkL (sizes l') : Nat)]) ∧ Bytes w' w'.heap.size rv (if checkL (sizes l') = 0 then fileL (tris l') else [])) ∧ Below W.heap.size W w') := fun W v' l' hW hm h1 h2 => write_any W v' l' hm h1 h2 (HF.out.below hW)
      have HW := HWR w1 _ l hbel1 ((HV.out.below hbel1).more hbel1.size) (by omega) (by omega)
      have hlen2 := grows_len l (name, data)
      have HW2 := fun W v' (hW : Below w.heap.size w W) (hm : Mems W W.heap.size v' (l ++ [(name, data)])) => HWR W v' _ hW hm (by simp; omega) (by rw [hlen2]; dsimp only; omega)
      have HX : Hid (checkL (sizes l) = 0 → checkL (sizes (l ++ [(name, data)])) = 0 → (if checkL (sizes (l ++ [(name, data)])) = 0 then fileL (tris (l ++ [(name, data)])) else []).length = (if checkL (sizes l) = 0 then fileL (tris l) else []).length + 76 + 2 * name.length + data.length ∧ 22 ≤ (if checkL (sizes l) = 0 then fileL (tris l) else []).length ∧ heads l ≤ (if checkL (sizes l) = 0 then fileL (tris l) else []).length ∧ (if checkL (sizes l) = 0 then fileL (tris l) else []).take (heads l) = (if checkL (sizes (l ++ [(name, data)])) = 0 then fileL (tris (l ++ [(name, data)])) else []).take (heads l)) := fun e1 e2 => by
        rw [if_pos e1, if_pos e2]
        refine ⟨hlen2, by rw [length_fileL]; omega, by rw [← heads_out, length_fileL]; omega, ?_⟩
        have h1 := file_take (tris l) []
        rw [List.append_nil] at h1
        rw [tris_snoc, ← heads_out, file_take, h1]
      have HE : Hid (checkL (sizes (l ++ [(name, data)])) ≠ 0 → (if checkL (sizes (l ++ [(name, data)])) = 0 then fileL (tris (l ++ [(name, data)])) else []) = []) := fun h => if_neg h
      have hbl : (if checkL (sizes l) = 0 then fileL (tris l) else []).length ≤ 100000 := by
        split
        · omega
        · exact Nat.zero_le _
      have hbl2 : (if checkL (sizes (l ++ [(name, data)])) = 0 then fileL (tris (l ++ [(name, data)])) else []).length ≤ 200000 := by
        split
        · rw [hlen2]; dsimp only; omega
        · exact Nat.zero_le _
      clear hlen2 HWR hfl
      generalize (if checkL (sizes l) = 0 then fileL (tris l) else []) = b at *
      generalize (if checkL (sizes (l ++ [(name, data)])) = 0 then fileL (tris (l ++ [(name, data)])) else []) = b2 at *
      generalize checkL (sizes l) = ck at *
      generalize checkL (sizes (l ++ [(name, data)])) = ck2 at *
      go_enter Tryd.func7, Tryd.ntmps7
      go_wp2_with fail
      refine HFEW.out.mono ?_
      rintro e ww ⟨rfl, rfl⟩
      go_wp2_with fail
      refine HFEW1.out.mono ?_
      rintro e ww ⟨rfl, rfl⟩
      go_wp2_with fail
      refine HW.out.mono ?_
      rintro e w2 ⟨⟨v2, rfl, hv2⟩, hb2⟩
      obtain ⟨A2, c2, rfl, hc2, hc2m⟩ := hv2.form
      have hbel2 := hbel1.trans (hb2.mono hbel1.size)
      have hbz2 := hbz1.trans (hb2.mono hbz1.size)
      obtain ⟨xs, hx1, hx2⟩ := HV.out
      have hsl2 := (hx1.below hbel2).more hbel2.size
      have hxl := hx1.len
      have hone := mems_cells hx1 hx2
      have HX2 := Lib.hid hx2
      clear hx2
      have HB2 := Lib.hid hv2
      clear hv2
      have tok1 : True := trivial
      go_wp2_with (first | (at_builtin; have _t := tok1; refine wpList_append_sl rfl _ _ 22 rfl w2.heap.size 45 i0 (.agg #[.string ⟨#[]⟩, .slice none 0 0]) 2 40 Tryd.underlying22 hi hz0 hz1 hz2 rfl (by decide) (.slice none 0 0) 0 [] rfl (World.ownsRow_nil _ _ _ _) (.slice A l.length c) w2.heap.size l.length xs rfl hsl2 hone (by unfold maxLen; omega) (by omega) (Nat.le_refl _) ?_; intro v5 w5 hown5 hgrow5; clear tok1; simp only [Nat.zero_add, List.nil_append] at hown5; have hb5 : Below w2.heap.size w2 w5 := (Below.refl w2.heap.size w2).grown hgrow5 (Nat.le_refl _) (fun k hk => by simp [Value.ownBlock] at hk); have hbz5 := hbz2.trans (hb5.mono hbz2.size); have d0 := (hbz5.cell (p := ⟨w.heap.size, 0, none⟩) (by show w.heap.size < _; omega)).trans c0; have d1 := (hbz5.cell (p := ⟨w.heap.size, 1, none⟩) (by show w.heap.size < _; omega)).trans c1; have hs5 := hb5.size) | (at_builtin; refine wpList_append_sl rfl _ _ 22 rfl w2.heap.size 45 i0 (.agg #[.string ⟨#[]⟩, .slice none 0 0]) 2 40 Tryd.underlying22 hi hz0 hz1 hz2 rfl (by decide) v5 l.length xs rfl (hown5.alloc _) (.slice (some ⟨w5.heap.size, 0, none⟩) 1 1) (w5.heap.size + 1) 1 [str name, .slice A' data.length c'] rfl (Sl.mk_ (by decide) (by decide) rfl (by omega) (fun j u hj => by rw [Nat.zero_add, cell_new]; simpa using hj)) (by simp [Value.oneCell', str]) (by unfold maxLen; omega) (by omega) (by simp; omega) ?_; intro v6 w6 hown6 hgrow6))
      have hbel5 := hbel2.trans (hb5.mono hbel2.size)
      have hba : Below w5.heap.size w5 (w5.alloc (.cells #[str name, .slice A' data.length c'] 45)) := (Below.refl _ _).alloc (Nat.le_refl _) _
      have hsa := hba.size
      have hb26 : Below w2.heap.size w2 w6 := (hb5.trans (hba.mono hs5)).grown hgrow6 (by omega) (fun g hg => (hown5.lt g hg).1)
      have hbel6 := hbel2.trans (hb26.mono hbel2.size)
      have hbz6 := hbz2.trans (hb26.mono hbz2.size)
      have hm6 : Mems w6 w6.heap.size v6 (l ++ [(name, data)]) := mems_snoc (fun i hi => let ⟨a, b, dv, c, d⟩ := HX2.out i hi; ⟨a, b, dv, c, (d.below hbel6).more hbel6.size⟩) hxl HNL.out ((HD.out.below hbel6).more hbel6.size) (Sl.of_own hown6)
      have HW6 := HW2 w6 v6 hbel6 hm6
      have hb26' := hb26
      clear hown5 hown6 hgrow5 hgrow6 hba HW2 hm6 hsl2 d0 d1
      refine HW6.out.mono ?_
      rintro e w7 ⟨⟨v7, rfl, hv7⟩, hb7⟩
      obtain ⟨A7, c7, rfl, hc7, hc7m⟩ := hv7.form
      have hbel7 := hbel6.trans (hb7.mono hbel6.size)
      have hb27 := hb26.trans (hb7.mono hb26.size)
      have hbz7 := hbz6.trans (hb7.mono hbz6.size)
      have e0 := (hbz7.cell (p := ⟨w.heap.size, 0, none⟩) (by show w.heap.size < _; omega)).trans c0
      have e1 := (hbz7.cell (p := ⟨w.heap.size, 1, none⟩) (by show w.heap.size < _; omega)).trans c1
      have HB7 := Lib.hid ((HB2.out.below hb27).more hb27.size)
      have HC7 := Lib.hid hv7
      clear hv7 HB2 HW6
      by_cases hk : ck = 0
      rotate_left
      · have hne : ((ck : Int) != 0) = true := by rw [bne_iff_ne]; omega
        go_wp2_with fail
        refine (HAW _ hbel7).out.mono ?_
        rintro e wz ⟨rfl, hbz⟩
        go_wp2_with fail
        go_ret
        exact ⟨rfl, (hbel7).trans (hbz.mono (hbel7).size)⟩
      by_cases hk2 : ck2 = 0
      rotate_left
      · have hne : ((ck2 : Int) != 0) = true := by rw [bne_iff_ne]; omega
        subst hk
        have he := HE.out hk2
        subst he
        go_wp2_with fail
        refine (HAW _ hbel7).out.mono ?_
        rintro e wz ⟨rfl, hbz⟩
        go_wp2_with fail
        go_ret
        exact ⟨rfl, (hbel7).trans (hbz.mono (hbel7).size)⟩
      obtain ⟨l1, l2, l3, l4⟩ := HX.out hk hk2
      subst hk
      subst hk2
      have HL4 := Lib.hid l4
      clear l4 HX HE
      go_wp2_with fail
      have HHL := fun k => Lib.hid (heads_le l k)
      have HHT := fun k h => Lib.hid (heads_take l k h)
      have HH0 : heads (l.take l.length) = heads l := by rw [List.take_length]
      go_loopw [10, 11] (fun n i wr => ∃ k : Nat, k ≤ l.length ∧ i = .int .i64 k ∧ n = .int .i64 (heads (l.take k) : Nat) ∧ Below w7.heap.size w7 wr) (fun _ i _ => l.length - (intOf i).toNat)
      case atStart => exact ⟨0, by omega, rfl, rfl, Below.refl _ _⟩
      case round =>
        obtain ⟨k, hk, rfl, rfl, hbw⟩ := hrel
        have hle := (HHL k).out
        by_cases hlt : k < l.length
        · obtain ⟨b', o, rfl, hbB, hd0, hnn, dv, hd1, hy⟩ := HV.out.at_ hlt
          have hbw' := hbel7.trans (hbw.mono hbel7.size)
          have f0 := (hbw'.cell (p := ⟨b', o + k * 2, none⟩) hbB).trans hd0
          have f1 := (hbw'.cell (p := ⟨b', o + k * 2 + 1, none⟩) hbB).trans hd1
          obtain ⟨A9, c9, rfl, -, -⟩ := hy.form
          have hst := str_size (l[k]).1
          have HT := HHT k hlt
          have hle2 := (HHL (k + 1)).out
          rw [HT.out] at hle2
          clear hd0 hd1 hy hnn
          generalize (l[k]).1 = nm at *
          generalize (l[k]).2 = dt at *
          generalize heads (l.take k) = hd at *
          go_wp2_with fail
          go_quiet (fail)
          go_wp2_with fail
          go_roundw
          case rel => exact ⟨k + 1, by omega, by go_num, by rw [HT.out]; go_num, below_drewN hbw _⟩
          case measure => first | (simp [intOf]; done) | (simp [intOf]; omega)
        · obtain rfl : k = l.length := by omega
          rw [HH0] at *
          have hbw' := hbel7.trans (hbw.mono hbel7.size)
          have hba := (HB7.out.below hbw |>.more hbw.size).take (n := heads l) (by omega)
          have hbc := (HC7.out.below hbw |>.more hbw.size).take (n := heads l) (by omega)
          rw [← HL4.out] at hbc
          have HBS := Lib.hid (bytes_same wr.drew _ _ _ hba hbc)
          clear hba hbc
          generalize heads l = hd at *
          go_wp2_with fail
          refine wp_text (by kernel_rfl) (by kernel_rfl) ?_
          intro R hR
          go_wp2_with fail
          refine HBS.out.mono ?_
          rintro e w8 ⟨rfl, hb8⟩
          have hbel8 : Below w.heap.size w w8 := hbw'.drew.trans (hb8.mono hbw'.size)
          go_wp2_with fail
          refine (HAW w8 hbel8).out.mono ?_
          rintro e w9 ⟨rfl, hb9⟩
          go_wp2_with fail
          refine ⟨by simp [goodB, fits, plainPair, isSeqV, quiet, Act.eval], ?_⟩
          go_wp2_with fail
          go_ret
          exact ⟨rfl, hbel8.trans (hb9.mono hbel8.size)⟩
end Go.Proofs.YtmhadkdbonfmdaaDoor
