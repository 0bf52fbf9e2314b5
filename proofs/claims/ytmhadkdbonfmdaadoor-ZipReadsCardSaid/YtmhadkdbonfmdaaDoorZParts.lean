/-
  Layer 16's laws: parts.
-/
import Derived.Test.YtmhadkdbonfmdaaDoorZRefC
import Derived.Test.YtmhadkdbonfmdaaDoorZRefD
namespace Go.Proofs.YtmhadkdbonfmdaaDoor
open Go Go.RowKit Go.Shelf
set_option maxRecDepth 100000

theorem infoBs : (Tryd.prog.info? 32).map (fun i => (i.zero, i.size, i.bytes)) = some (some (.slice none 0 0), 1, 24) := by kernel_rfl
theorem mems_split {w : World} {B : Nat} {v : Value} {l : List Mem} (h : Mems w B v l) : ∃ (A : Option Addr) (c : Nat) (dvs : List Value), v = .slice A l.length c ∧ c ≤ maxLen ∧ dvs.length = l.length ∧ (∀ u ∈ dvs, u.oneCell' = true) ∧ (∀ (i : Nat) (hi : i < l.length) (hd : i < dvs.length), ∃ b o, A = some ⟨b, o, none⟩ ∧ b < B ∧ w.cell? ⟨b, o + i * 2, none⟩ = some (str (l[i]).1) ∧ w.cell? ⟨b, o + i * 2 + 1, none⟩ = some dvs[i]) ∧ ∀ (i : Nat) (hi : i < l.length) (hd : i < dvs.length), Bytes w B dvs[i] (l[i]).2 := by
  obtain ⟨xs, hs, hx⟩ := h
  have hk : ∀ i : Nat, ∃ dv, ∀ h : i < l.length, xs[i * 2 + 1]? = some dv ∧ Bytes w B dv (l[i]).2 := fun i => by
    by_cases h : i < l.length
    · obtain ⟨-, -, dv, h1, h2⟩ := hx i h
      exact ⟨dv, fun _ => ⟨h1, h2⟩⟩
    · exact ⟨undef, fun h' => absurd h' h⟩
  obtain ⟨D, hD⟩ := Classical.axiomOfChoice hk
  have hs' := hs
  obtain ⟨A, c, rfl, h1, h2, -⟩ := hs
  refine ⟨A, c, (List.range l.length).map D, rfl, h2, by simp, fun u hu => ?_, fun i hi hd => ?_, fun i hi hd => ?_⟩
  · obtain ⟨i, hi, rfl⟩ := List.mem_map.1 hu
    obtain ⟨-, hb⟩ := hD i (List.mem_range.1 hi)
    obtain ⟨A, c, e, -⟩ := hb.form
    rw [e]
    rfl
  · obtain ⟨b, o, c', hv, hb, hc⟩ := hs'.at_ (by omega)
    cases hv
    obtain ⟨h3, h4⟩ := hD i hi
    refine ⟨b, o, rfl, hb, hc _ _ (hx i hi).1, ?_⟩
    rw [show o + i * 2 + 1 = o + (i * 2 + 1) by omega]
    simp only [List.getElem_map, List.getElem_range]
    exact hc _ _ h3
  · simp only [List.getElem_map, List.getElem_range]
    exact (hD i hi).2
theorem one_new (w : World) (u : Value) (t : TypeId) (fr : Nat × Nat) : Sl (w.alloc (.cells #[u] t fr)) (w.heap.size + 1) 1 (.slice (some ⟨w.heap.size, 0, none⟩) 1 1) 1 [u] :=
  Sl.mk_ (by decide) (by decide) rfl (by omega) fun j u hj => by
    rw [Nat.zero_add, cell_new]
    simpa using hj
theorem strsV_take_succ (l : Row) (k : Nat) (h : k < l.length) : strsV (l.take (k + 1)) = strsV (l.take k) ++ [str l[k]] := by
  rw [List.take_succ_eq_append_getElem h, strsV_append]
  rfl

set_option maxHeartbeats 4000000 in
theorem parts_any (w : World) (v : Value) (l : List Mem) (hv : Mems w w.heap.size v l) (hl : l.length ≤ 1000) :
    Calls Tryd.prog 10 #[v] w fun e w' => (∃ a b c, e = .returned (.tuple #[a, b, c]) ∧ Sl w' w'.heap.size 1 a l.length (strsV (l.map (·.1))) ∧ Sl w' w'.heap.size 1 b l.length (natsV (l.map fun m => m.2.length)) ∧ Datas w' w'.heap.size c (l.map (·.2))) ∧ Below w.heap.size w w' := by
  obtain ⟨i1, hi1, hz1, hs1, hb1⟩ := info_parts infoStr
  obtain ⟨i2, hi2, hz2, hs2, hb2⟩ := info_parts infoInt
  obtain ⟨i3, hi3, hz3, hs3, hb3⟩ := info_parts infoBs
  obtain ⟨A, c, dvs, rfl, hcm, hdl, hone, hcells, hbytes⟩ := mems_split hv
  obtain ⟨hlc⟩ : Nonempty (l.length ≤ c) := by obtain ⟨A', c', e, h1, -⟩ := hv.form; cases e; exact ⟨h1⟩
  unfold maxLen at hcm
  have HC := Lib.hid hcells
  have HB := Lib.hid hbytes
  have H1 := Lib.hid hone
  clear hv hcells hbytes hone
  go_enter Tryd.func10, Tryd.ntmps10
  go_wp2_with fail
  go_loopw [5, 6, 7, 8] (fun x y z i wr => ∃ k : Nat, k ≤ l.length ∧ i = .int .i64 k ∧ wr.ownsRow w.heap.size 9 1 x k (strsV ((l.map (·.1)).take k)) ∧ wr.ownsRow w.heap.size 3 1 y k (natsV ((l.map fun m => m.2.length).take k)) ∧ wr.ownsRow w.heap.size 32 1 z k (dvs.take k) ∧ Apart x y ∧ Apart x z ∧ Apart y z ∧ Below w.heap.size w wr) (fun _ _ _ i _ => l.length - (intOf i).toNat)
  case atStart => exact ⟨0, by omega, rfl, World.ownsRow_nil _ _ _ _, World.ownsRow_nil _ _ _ _, World.ownsRow_nil _ _ _ _, Apart.nil_left _, Apart.nil_left _, Apart.nil_left _, Below.refl _ _⟩
  case round =>
    obtain ⟨k, hk, rfl, hox, hoy, hoz, apxy, apxz, apyz, hbel⟩ := hrel
    have hs := hbel.size
    by_cases hlt : k < l.length
    · have hkd : k < dvs.length := by omega
      obtain ⟨b, o, rfl, hbB, hc0, hc1⟩ := HC.out k hlt hkd
      have hy := HB.out k hlt hkd
      have HT1 := Lib.hid (strsV_take_succ (l.map (·.1)) k (by simpa using hlt))
      have HT2 := Lib.hid (natsV_take_succ (l.map fun m => m.2.length) k (by simpa using hlt))
      have HT3 := Lib.hid (List.take_succ_eq_append_getElem hkd)
      simp only [List.getElem_map] at HT1 HT2
      have HN : ∀ W, Below w.heap.size w W → W.cell? ⟨b, o + k * 2, none⟩ = some (str (l[k]).1) := fun W hW => (hW.cell (p := ⟨b, o + k * 2, none⟩) hbB).trans hc0
      have HD : ∀ W, Below w.heap.size w W → W.cell? ⟨b, o + k * 2 + 1, none⟩ = some dvs[k] := fun W hW => (hW.cell (p := ⟨b, o + k * 2 + 1, none⟩) hbB).trans hc1
      obtain ⟨A9, c9, e9, -, hm9⟩ := hy.form
      unfold maxLen at hm9
      rw [e9] at HD HT3
      clear hc0 hc1 hy e9
      have n0 := HN wr hbel
      generalize (l[k]).1 = name at *
      generalize (l[k]).2.length = dn at *
      generalize strsV ((l.map (·.1)).take k) = sx at *
      generalize natsV ((l.map fun m => m.2.length).take k) = sy at *
      generalize dvs.take k = sz at *
      have tok1 : True := trivial
      have tok2 : True := trivial
      go_wp2_with (first | (at_builtin; have _t := tok1; go_loud (refine wpList_append_sl_at rfl _ _ 25 rfl w.heap.size 9 i1 (.string ⟨#[]⟩) 1 16 Tryd.underlying25 hi1 hz1 hs1 hb1 rfl (by decide) u5 k sx rfl (hox.alloc _) (.slice (some ⟨wr.heap.size, 0, none⟩) 1 1) (wr.heap.size + 1) 1 [str name] rfl (one_new _ _ _ _) (by simp [Value.oneCell']) (by unfold maxLen; omega) (by omega) (by simp; omega) ?_); intro v1 w1 hx1 grow1 loc1; clear tok1; have hoy1 := apxy.kept (hoy.alloc _) grow1; have hoz1 := apxz.kept (hoz.alloc _) grow1; have ap1y : Apart v1 u6 := apxy.moved (hoy.alloc _) loc1; have ap1z : Apart v1 u7 := apxz.moved (hoz.alloc _) loc1; have hbel1 := (hbel.alloc hs _).grown grow1 (by simp; omega) (fun g hg => (hox.lt g hg).1); have hs1' := hbel1.size; have d1 := HD w1 hbel1; clear hox hoy hoz grow1 loc1 n0) | (at_builtin; have _t := tok2; go_loud (refine wpList_append_sl_at rfl _ _ 26 rfl w.heap.size 3 i2 (.int .i64 0) 1 8 Tryd.underlying26 hi2 hz2 hs2 hb2 rfl (by decide) u6 k sy rfl (hoy1.alloc _) (.slice (some ⟨w1.heap.size, 0, none⟩) 1 1) (w1.heap.size + 1) 1 [.int .i64 dn] rfl (one_new _ _ _ _) (by simp [Value.oneCell']) (by unfold maxLen; omega) (by omega) (by simp; omega) ?_); intro v2 w2 hy2 grow2 loc2; clear tok2; have hx2 := ap1y.symm.kept (hx1.alloc _) grow2; have hoz2 := apyz.kept (hoz1.alloc _) grow2; have ap21 : Apart v2 v1 := ap1y.symm.moved (hx1.alloc _) loc2; have ap2z : Apart v2 u7 := apyz.moved (hoz1.alloc _) loc2; have hbel2 := (hbel1.alloc hs1' _).grown grow2 (by simp; omega) (fun g hg => (hoy1.lt g hg).1); have hs2' := hbel2.size; have d2 := HD w2 hbel2; clear hx1 hoy1 hoz1 grow2 loc2 d1) | (at_builtin; go_loud (refine wpList_append_sl_at rfl _ _ 27 rfl w.heap.size 32 i3 (.slice none 0 0) 1 24 Tryd.underlying27 hi3 hz3 hs3 hb3 rfl (by decide) u7 k sz rfl (hoz2.alloc _) (.slice (some ⟨w2.heap.size, 0, none⟩) 1 1) (w2.heap.size + 1) 1 [.slice A9 dn c9] rfl (one_new _ _ _ _) (by simp [Value.oneCell']) (by unfold maxLen; omega) (by omega) (by simp; omega) ?_); intro v3 w3 hz3' grow3 loc3))
      have hx3 := ap1z.symm.kept (hx2.alloc _) grow3
      have hy3 := ap2z.symm.kept (hy2.alloc _) grow3
      have ap31 : Apart v3 v1 := ap1z.symm.moved (hx2.alloc _) loc3
      have ap32 : Apart v3 v2 := ap2z.symm.moved (hy2.alloc _) loc3
      have hbel3 := (hbel2.alloc hs2' _).grown grow3 (by simp; omega) (fun g hg => (hoz2.lt g hg).1)
      go_roundw
      case rel => exact ⟨k + 1, by omega, by go_num, by rw [HT1.out]; exact hx3, by rw [HT2.out]; exact hy3, by rw [HT3.out]; exact hz3', ap21.symm, ap31.symm, ap32.symm, hbel3⟩
      case measure => first | (simp [intOf]; done) | (simp [intOf]; omega)
    · obtain rfl : k = l.length := by omega
      have t1 : (l.map (·.1)).take l.length = l.map (·.1) := List.take_of_length_le (by simp)
      have t2 : (l.map fun m => m.2.length).take l.length = l.map fun m => m.2.length := List.take_of_length_le (by simp)
      have t3 : dvs.take l.length = dvs := List.take_of_length_le (by omega)
      rw [t1] at hox
      rw [t2] at hoy
      rw [t3] at hoz
      have h1 := Lib.hid (Sl.of_own hox)
      have h2 := Lib.hid (Sl.of_own hoy)
      have h3 := Lib.hid (Sl.of_own hoz)
      clear t1 t2 t3 hox hoy hoz
      go_wp2_with fail
      go_ret3
      refine ⟨⟨_, _, _, rfl, h1.out, h2.out, dvs, by rw [List.length_map]; exact h3.out, fun i hi => ?_⟩, hbel⟩
      have hi' : i < l.length := by simpa using hi
      exact ⟨dvs[i]'(by omega), List.getElem?_eq_getElem (by omega), by
        simp only [List.getElem_map]
        exact bytes_below (HB.out i hi' (by omega)) hbel⟩
end Go.Proofs.YtmhadkdbonfmdaaDoor
