/-
  Layer 17: the law's 'awake'.
-/
import Derived.Test.YtlkoddohplcmnaaPoolG
namespace Go.Proofs.Ytlkoddohplcmnaa
open Go Go.RowKit Go.Maps Go.WideMaps

theorem PoolAt.later {w w' : World} {T : Nat → Prop} {pb : Nat} {row : Row} (h : PoolAt w T pb row) (hb : Below w.heap.size w w') : PoolAt w' T pb row := h.keep fun k hk _ => hb.block k hk
theorem PoolAt.bound {w : World} {T : Nat → Prop} {pb : Nat} {row : Row} (h : PoolAt w T pb row) : PoolAt w (fun k => T k ∧ k < w.heap.size) pb row := by
  have hp := h.size
  obtain ⟨mb, vl, D, c0, c1, f0, hrow, hmap, hag, hne, hg, tp, tm, hnd, hx, hl⟩ := h
  exact ⟨mb, vl, D, c0, c1, f0, hrow, hmap, hag, hne, fun g e => ⟨(hg g e).1, (hg g e).2.1, (hg g e).2.2, (hrow.lt g e).2⟩, ⟨tp, hp⟩, ⟨tm, hmap.lt⟩, hnd, hx, hl⟩
theorem same_is {w : World} {T : Nat → Prop} {pb : Nat} {row : Row} {v : Value} (h : PoolAt w T pb row) (hv : Strs w w.heap.size v row) :
    Calls Try.prog 15 #[.pointer (some ⟨pb, 0, none⟩), v] w fun e w' => e = .returned (.bool true) ∧ Below w.heap.size w w' := same_any h.bound hv (fun _ hk => hk.2)
theorem sorted_any {w : World} {T : Nat → Prop} {pb : Nat} {row : Row} (h : PoolAt w T pb row) (hrl : row.length ≤ 1000) :
    Calls Try.prog 17 #[.pointer (some ⟨pb, 0, none⟩)] w fun e w' => (∃ sb pv, e = .returned (.tuple #[.pointer (some ⟨sb, 0, none⟩), pv]) ∧ PoolAt w' (From w.heap.size) sb (sortL row) ∧
      Sl w' w'.heap.size 1 pv row.length (row.map fun x => .int .i64 (idx (sortL row) x : Nat))) ∧ Below w.heap.size w w' :=
  sorted_of _ row h.nodup h.lens hrl fun _ hb => all_any (h.later hb)
/-- A literal of texts. -/
theorem new_strs (w : World) (cs : Array Value) (t : TypeId) (l : Row) (n : Nat) (h : cs.toList = strsV l) (hn : n = l.length) (hm : n ≤ maxLen) :
    Strs (w.alloc (.cells cs t)) (w.alloc (.cells cs t)).heap.size (.slice (some ⟨w.heap.size, 0, none⟩) n n) l := by
  subst hn
  have := Sl.new w (strsV l) t (0, 0) l.length 1 (by rw [length_strsV, Nat.mul_one]) hm
  obtain rfl : cs = (strsV l).toArray := by rw [← h]
  unfold Strs
  rw [World.size_alloc]
  exact this
theorem sortL_ab : sortL [[98], [97]] = [[97], [98]] := by
  simp [sortL, List.mergeSort, List.MergeSort.Internal.splitInTwo, List.merge]
  decide
theorem ofL_bab : ofL [[98], [97], [98]] = [[98], [97]] := by decide

set_option maxHeartbeats 1000000 in
theorem awake_walk (w : World) : Calls Try.prog 10 #[] w fun e w' => e = .returned (.bool true) ∧ Below w.heap.size w w' := by
  go_enter Try.func10, Try.ntmps10
  go_wp2_with fail
  have b0 : Below w.heap.size w (w.alloc (.cells #[str [98], str [97], str [98]] 9)) := (Below.refl _ _).alloc (Nat.le_refl _) _
  refine (new_any (l := [[98], [97], [98]]) (new_strs w _ _ _ 3 rfl rfl (by decide)) (by decide) (by decide)).mono ?_
  rintro e w1 ⟨pb, rfl, hp1, hb1⟩
  rw [ofL_bab] at hp1
  have b1 := b0.trans (hb1.mono b0.size)
  have HP1 := Lib.hid hp1
  clear hp1 b0
  go_wp2_with fail
  refine (sorted_any HP1.out (by decide)).mono ?_
  rintro e w2 ⟨⟨sb, pv, rfl, hp2, hpv⟩, hb2⟩
  rw [sortL_ab] at hp2 hpv
  have b2 := b1.trans (hb2.mono b1.size)
  have HP2 := Lib.hid hp2
  have HPV := Lib.hid hpv
  rw [show ([[98], [97]] : Row).map (fun x => Value.int .i64 (idx [[97], [98]] x : Nat)) = [.int .i64 1, .int .i64 0] by simp [show idx [[97], [98]] [98] = 1 by decide, show idx [[97], [98]] [97] = 0 by decide]] at hpv
  obtain ⟨b, o, c, rfl, hbB, hc⟩ := hpv.at_ (by decide)
  have k0 := hc 0 _ rfl
  have k1 := hc 1 _ rfl
  clear hp2 hc hpv HPV
  go_wp2_with fail
  have b3 : Below w2.heap.size w2 (w2.alloc (.cells #[str [98], str [97]] 9)) := (Below.refl _ _).alloc (Nat.le_refl _) _
  refine (same_is ((HP1.out.later hb2).later b3) (new_strs w2 _ _ _ 2 rfl rfl (by decide))).mono ?_
  rintro e w4 ⟨rfl, hb4⟩
  have b4 := b3.trans (hb4.mono b3.size)
  go_wp2_with fail
  have b5 : Below w4.heap.size w4 (w4.alloc (.cells #[str [97], str [98]] 9)) := (Below.refl _ _).alloc (Nat.le_refl _) _
  refine (same_is ((HP2.out.later b4).later b5) (new_strs w4 _ _ _ 2 rfl rfl (by decide))).mono ?_
  rintro e w6 ⟨rfl, hb6⟩
  have b6 := b4.trans ((b5.trans (hb6.mono b5.size)).mono b4.size)
  have j0 := (b6.cell (p := ⟨b, o + 0, none⟩) hbB).trans k0
  have j1 := (b6.cell (p := ⟨b, o + 1, none⟩) hbB).trans k1
  rw [Nat.add_zero] at j0
  clear k0 k1
  go_wp2_with fail
  go_ret
  exact ⟨rfl, b2.trans (b6.mono b2.size)⟩
end Go.Proofs.Ytlkoddohplcmnaa
