/-
  Layer 16: the law ZipWrites, walked.
-/
import Derived.Test.YtmhadkdbonfmdaaDoorZParts
import Derived.Test.YtmhadkdbonfmdaaDoorZBack
namespace Go.Proofs.YtmhadkdbonfmdaaDoor
open Go Go.RowKit Go.Shelf
set_option maxRecDepth 100000

theorem sizes_fst (l : List Mem) : (sizes l).map (·.1) = l.map (·.1) := by simp [sizes]
theorem sizes_snd (l : List Mem) : (sizes l).map (·.2) = l.map fun m => m.2.length := by simp [sizes]
theorem tris_fst (l : List Mem) : (tris l).map (·.1) = l.map (·.1) := by simp [tris]
theorem tris_snd (l : List Mem) : (tris l).map (·.2.1) = l.map (·.2) := by simp [tris]
theorem tris_sum (l : List Mem) : (tris l).map (·.2.2) = (l.map (·.2)).map crcOf := by simp [tris]
theorem few_all {l : List Mem} (h : fewL l = true) : l.length ≤ 70 ∧ ∀ m ∈ l, m.1.length ≤ 80 ∧ m.2.length ≤ 200 := by
  simp only [fewL, Bool.and_eq_true, decide_eq_true_eq, List.all_eq_true] at h
  exact ⟨h.2, h.1⟩

set_option maxHeartbeats 4000000 in
theorem writes_walk (w : World) (v : Value) (l : List Mem) (hv : Mems w w.heap.size v l) (hF : Fours w) :
    Calls Tryd.prog 3 #[v] w fun e w' => e = .returned (.bool true) ∧ Below w.heap.size w w' := by
  obtain ⟨A, c, rfl, hlc, hcm⟩ := hv.form
  unfold maxLen at hcm
  have HV := Lib.hid hv
  have HF := Lib.hid hF
  have HFEW := Lib.hid (few_any w _ l hv)
  have HAW : ∀ W, Below w.heap.size w W → Hid (Calls Tryd.prog 9 #[] W fun e w' => e = .returned (.bool true) ∧ Below W.heap.size W w') := fun W hW => awake_any W (HF.out.below hW)
  clear hF
  cases hf : fewL l with
  | false =>
    rw [hf] at HFEW
    clear hv
    go_enter Tryd.func3, Tryd.ntmps3
    go_wp2_with fail
    refine HFEW.out.mono ?_
    rintro e ww ⟨rfl, rfl⟩
    go_wp2_with fail
    refine (HAW _ (Below.refl w.heap.size w)).out.mono ?_
    rintro e wz ⟨rfl, hbz⟩
    go_wp2_with fail
    go_ret
    exact ⟨rfl, ((Below.refl w.heap.size w)).trans (hbz.mono ((Below.refl w.heap.size w)).size)⟩
  | true =>
    rw [hf] at HFEW
    have hfl := file_few hf
    obtain ⟨h70, hall⟩ := few_all hf
    have HPARTS := Lib.hid (parts_any w _ l hv (by omega))
    have HCHK : ∀ W a b, Sl W W.heap.size 1 a l.length (strsV (l.map (·.1))) → Sl W W.heap.size 1 b l.length (natsV (l.map fun m => m.2.length)) → Hid (Calls Tryd.prog 11 #[a, b] W fun e w' => e = .returned (.int .i64 (checkL (sizes l) : Nat)) ∧ Below W.heap.size W w') := fun W a b ha hb => by
      have hsl : (sizes l).length = l.length := by simp [sizes]
      exact rcheck_any W a b (sizes l) (by rw [hsl, sizes_fst]; exact ha) (by rw [hsl, sizes_snd]; exact hb) (by omega)
        (fun x hx => by
          rw [sizes_fst] at hx
          obtain ⟨m, hm, rfl⟩ := List.mem_map.1 hx
          have := (hall m hm).1
          unfold maxLen
          omega)
        (fun x hx => by
          rw [sizes_snd] at hx
          obtain ⟨m, hm, rfl⟩ := List.mem_map.1 hx
          have := (hall m hm).2
          omega)
    have HSUMS : ∀ W cv, Datas W W.heap.size cv (l.map (·.2)) → Hid (Calls Tryd.prog 16 #[cv] W (Rets fun v' w' => Sl w' w'.heap.size 1 v' l.length (natsV ((l.map (·.2)).map crcOf)) ∧ Below W.heap.size W w')) := fun W cv hc => by
      have h := rsums_any W cv _ hc (by simp; omega) (fun d hd => by
        obtain ⟨m, hm, rfl⟩ := List.mem_map.1 hd
        have := (hall m hm).2
        omega)
      rw [List.length_map] at h
      exact h
    have HFILE : checkL (sizes l) = 0 → ∀ W a b s, Sl W W.heap.size 1 a l.length (strsV (l.map (·.1))) → Datas W W.heap.size b (l.map (·.2)) → Sl W W.heap.size 1 s l.length (natsV ((l.map (·.2)).map crcOf)) → Hid (Calls Tryd.prog 15 #[a, b, s] W (Rets fun v' w' => Bytes w' w'.heap.size v' (fileL (tris l)) ∧ Below W.heap.size W w')) := fun hck W a b s ha hb hs =>
      rfile_any W a b s (tris l) (by rw [length_tris, tris_fst]; exact ha) (by rw [tris_snd]; exact hb) (by rw [length_tris, tris_sum]; exact hs) (tris_fits hck) (by rw [length_tris]; omega) (by omega)
    have HWR := fun W (hW : Below w.heap.size w W) => Lib.hid (write_any W _ l ((HV.out.below hW).more hW.size) (by omega) (by omega) (HF.out.below hW))
    have HCK := fun W (hW : Below w.heap.size w W) => Lib.hid (check_any W _ l ((HV.out.below hW).more hW.size) (by omega))
    clear hv hall
    by_cases hck : checkL (sizes l) = 0
    · have HFILE := HFILE hck
      rw [hck] at HCHK
      simp only [hck, if_true] at HWR HCK
      generalize fileL (tris l) = b at *
      generalize l.map (·.1) = ns at *
      generalize (l.map fun m => m.2.length) = zs at *
      generalize l.map (·.2) = ds at *
      generalize ds.map crcOf = ss at *
      go_enter Tryd.func3, Tryd.ntmps3
      go_wp2_with fail
      refine HFEW.out.mono ?_
      rintro e ww ⟨rfl, rfl⟩
      go_wp2_with fail
      refine HPARTS.out.mono ?_
      rintro e w1 ⟨⟨av, bv, cv, rfl, ha, hb, hc⟩, hb1⟩
      go_wp2_with fail
      refine (HCHK w1 av bv ha hb).out.mono ?_
      rintro e w2 ⟨rfl, hb2⟩
      have hbel2 := hb1.trans (hb2.mono hb1.size)
      go_wp2_with fail
      refine (HWR w2 hbel2).out.mono ?_
      rintro e w3 ⟨⟨v3, rfl, hv3⟩, hb3⟩
      obtain ⟨A3, c3, rfl, -, -⟩ := hv3.form
      have hbel3 := hbel2.trans (hb3.mono hbel2.size)
      go_wp2_with fail
      refine (HCK w3 hbel3).out.mono ?_
      rintro e w4 ⟨rfl, hb4⟩
      have hbel4 := hbel3.trans (hb4.mono hbel3.size)
      have hb14 := (hb2.trans (hb3.mono hb2.size)).trans (hb4.mono (Nat.le_trans hb2.size hb3.size))
      have hc4 := (hc.below hb14).more hb14.size
      go_wp2_with fail
      refine (HSUMS w4 cv hc4).out.mono ?_
      rintro e w5 ⟨v5, rfl, hv5, hb5⟩
      have hbel5 := hbel4.trans (hb5.mono hbel4.size)
      have hb15 := hb14.trans (hb5.mono hb14.size)
      go_wp2_with fail
      refine (HFILE w5 av cv v5 ((ha.below hb15).more hb15.size) ((hc.below hb15).more hb15.size) hv5).out.mono ?_
      rintro e w6 ⟨v6, rfl, hv6, hb6⟩
      have hbel6 := hbel5.trans (hb6.mono hbel5.size)
      have hb36 := (hb4.trans (hb5.mono hb4.size)).trans (hb6.mono (Nat.le_trans hb4.size hb5.size))
      have HBS := Lib.hid (bytes_same w6 _ v6 b ((hv3.below hb36).more hb36.size) hv6)
      go_wp2_with fail
      refine HBS.out.mono ?_
      rintro e w7 ⟨rfl, hb7⟩
      have hbel7 := hbel6.trans (hb7.mono hbel6.size)
      go_wp2_with fail
      refine (HAW _ hbel7).out.mono ?_
      rintro e wz ⟨rfl, hbz⟩
      go_wp2_with fail
      go_ret
      exact ⟨rfl, (hbel7).trans (hbz.mono (hbel7).size)⟩
    · have hne : (((checkL (sizes l) : Nat) : Int) != 0) = true := by rw [bne_iff_ne]; omega
      simp only [if_neg hck] at HWR
      clear HFILE
      generalize checkL (sizes l) = ck at *
      generalize l.map (·.1) = ns at *
      generalize (l.map fun m => m.2.length) = zs at *
      generalize l.map (·.2) = ds at *
      go_enter Tryd.func3, Tryd.ntmps3
      go_wp2_with fail
      refine HFEW.out.mono ?_
      rintro e ww ⟨rfl, rfl⟩
      go_wp2_with fail
      refine HPARTS.out.mono ?_
      rintro e w1 ⟨⟨av, bv, cv, rfl, ha, hb, hc⟩, hb1⟩
      go_wp2_with fail
      refine (HCHK w1 av bv ha hb).out.mono ?_
      rintro e w2 ⟨rfl, hb2⟩
      have hbel2 := hb1.trans (hb2.mono hb1.size)
      go_wp2_with fail
      refine (HWR w2 hbel2).out.mono ?_
      rintro e w3 ⟨⟨v3, rfl, hv3⟩, hb3⟩
      obtain ⟨A3, c3, rfl, -, -⟩ := hv3.form
      have hbel3 := hbel2.trans (hb3.mono hbel2.size)
      go_wp2_with fail
      refine (HCK w3 hbel3).out.mono ?_
      rintro e w4 ⟨rfl, hb4⟩
      have hbel4 := hbel3.trans (hb4.mono hbel3.size)
      go_wp2_with fail
      refine (HAW _ hbel4).out.mono ?_
      rintro e wz ⟨rfl, hbz⟩
      go_wp2_with fail
      go_ret
      exact ⟨rfl, (hbel4).trans (hbz.mono (hbel4).size)⟩
end Go.Proofs.YtmhadkdbonfmdaaDoor
