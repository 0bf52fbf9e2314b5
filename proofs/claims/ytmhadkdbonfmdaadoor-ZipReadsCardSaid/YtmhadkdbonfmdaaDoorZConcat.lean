/-
  slices.Grow and slices.Concat at bytes.
-/
import Derived.Test.YtmhadkdbonfmdaaDoorZHeads
import Derived.Test.YtmhadkdbonfmdaaDoorZShelf
import Derived.Test.YtmhadkdbonfmdaaDoorWalkB
namespace Go.Proofs.YtmhadkdbonfmdaaDoor
open Go Go.RowKit Go.Shelf
set_option maxRecDepth 100000

theorem own_base {w : World} {base base' : Nat} {e : TypeId} {sz n : Nat} {v : Value} {xs : List Value} (h : w.ownsRow base e sz v n xs) (hb : base' ≤ base) : w.ownsRow base' e sz v n xs := by
  refine ⟨h.1, ?_⟩
  rcases h.2 with h | ⟨g, cap, cur, h1, h2, h3⟩
  · exact .inl h
  · exact .inr ⟨g, cap, cur, h1, by omega, h3⟩
theorem grow_any (w : World) (n : Nat) (hn : n ≤ 100000000) :
    Calls Tryd.prog 43 #[.slice none 0 0, .int .i64 n] w (Rets fun v' w' => w'.ownsRow w.heap.size 5 1 v' 0 [] ∧ Below w.heap.size w w') := by
  rcases Nat.eq_zero_or_pos n with h | h
  · subst h
    refine (Any8.slices_Grow_room Tryd.growB none 0 0 0 w (Nat.le_refl _) (by decide) (by decide) (by decide)).mono ?_
    rintro e w' ⟨rfl, rfl⟩
    exact ⟨_, rfl, World.ownsRow_nil _ _ _ _, Below.refl _ _⟩
  · obtain ⟨i0, hi, hz0, hz1, hz2⟩ := info_parts infoByte
    refine (Any8.slices_Grow_grow Tryd.growB i0 (.int .u8 0) hi hz0 (by omega) none 0 0 n [] w (Nat.le_refl _) (by omega) (by rw [hz2]; omega) (by omega) (by simp) (fun _ => rfl) (fun a h => by cases h)).mono ?_
    rintro e w' ⟨rfl, rfl⟩
    refine ⟨_, rfl, ⟨by simp, .inr ⟨w.heap.size, _, _, rfl, Nat.le_refl _, heap_alloc_new w.drew _, Nat.zero_le _, grownCap_le_maxLen w (0 + n) 0 _ (by unfold maxLen; omega), ?_, by simp⟩⟩, ((Below.refl _ _).drew).alloc (Nat.le_refl _) _⟩
    have hge := grownCap_ge w (0 + n) 0 5
    have hcs : (Value.int .u8 0).cells.size = 1 := rfl
    simp only [Array.size_append, List.size_toArray, size_zeroCells, hcs, List.length_nil]
    show _ = grownCap w (0 + n) 0 5 * 1
    rw [show Tryd.growB_ren.t 25 = 5 from rfl]
    omega

set_option maxHeartbeats 1000000 in
theorem concat_any (w : World) (B : Nat) (v : Value) (vs : List Value) (ll : List (List UInt8)) (hv : Sl w B 1 v ll.length vs) (hB : B ≤ w.heap.size)
    (hb : ∀ (i : Nat) (h : i < ll.length), ∃ u, vs[i]? = some u ∧ Bytes w B u ll[i]) (hm : ll.length ≤ 10) (hm' : ll.flatten.length ≤ 10000000) :
    Calls Tryd.prog 25 #[v] w (Rets fun v' w' => Bytes w' w'.heap.size v' ll.flatten ∧ Below w.heap.size w w') := by
  obtain ⟨i0, hi, hz0, hz1, hz2⟩ := info_parts infoByte
  obtain ⟨A, c, rfl, -, -, -, hA⟩ := hv
  have HB := Lib.hid hb; clear hb
  have HA := Lib.hid hA; clear hA
  have HLE : ∀ k, Hid ((ll.take k).flatten.length ≤ 10000000) := fun k => by
    have h : (ll.take k).flatten ++ (ll.drop k).flatten = ll.flatten := by rw [← List.flatten_append, List.take_append_drop]
    have := congrArg List.length h
    rw [List.length_append] at this
    show _ ≤ _
    omega
  go_enter Tryd.func25, Tryd.ntmps25
  go_wp2_with fail
  go_loopw [3, 11] (fun s i wr => ∃ k : Nat, k ≤ ll.length ∧ i = .int .i64 k ∧ s = .int .i64 ((ll.take k).flatten.length : Nat) ∧ Below w.heap.size w wr) (fun _ i _ => ll.length - (intOf i).toNat)
  case atStart => exact ⟨0, by omega, rfl, rfl, Below.refl _ _⟩
  case round =>
    obtain ⟨k, hk, rfl, rfl, hbel⟩ := hrel
    have hlen := (HLE k).out
    by_cases hlt : k < ll.length
    · obtain ⟨b, o, rfl, hbB, hc⟩ := HA.out (by omega)
      obtain ⟨u, hu, hby⟩ := HB.out k hlt
      have hc1 := (hbel.cell (p := ⟨b, o + k, none⟩) (show b < w.heap.size by omega)).trans (hc k _ hu)
      obtain ⟨A2, c2, rfl, hl2, hm2⟩ := hby.form
      have HT := Lib.hid (flatten_take ll k hlt)
      have hlen2 := (HLE (k + 1)).out
      rw [HT.out, List.length_append] at hlen2
      unfold maxLen at hm2
      clear hc hby
      generalize hfx : ll[k] = fx at *
      generalize hacc : (ll.take k).flatten = acc at *
      go_wp2_with fail
      go_roundw
      case rel => exact ⟨k + 1, by omega, by go_num, by rw [HT.out, List.length_append]; go_num, hbel⟩
      case measure => first | (simp [intOf]; done) | (simp [intOf]; omega)
    · obtain rfl : k = ll.length := by omega
      have e : (ll.take ll.length).flatten = ll.flatten := by rw [List.take_length]
      rw [e]
      rw [e] at hlen
      clear e hlt
      generalize hN : ll.flatten.length = N at *
      go_wp2_with fail
      refine (grow_any _ N (by omega)).mono ?_
      rintro e w2 ⟨v2, rfl, hown2, hb2⟩
      have hown2 := own_base hown2 hbel.size
      have hbel2 := hbel.trans (hb2.mono hbel.size)
      have HO2 := Lib.hid hown2
      have HB2 := Lib.hid hbel2
      clear hown2 hbel2 hbel hb2
      go_wp2_with fail
      go_loopw [6, 27] (fun x i wr => ∃ k : Nat, k ≤ ll.length ∧ i = .int .i64 k ∧ wr.ownsRow w.heap.size 5 1 x (ll.take k).flatten.length (bytesV (ll.take k).flatten) ∧ Below w.heap.size w wr) (fun _ i _ => ll.length - (intOf i).toNat)
      case atStart => exact ⟨0, by omega, rfl, HO2.out, HB2.out⟩
      case round =>
        obtain ⟨k, hk, rfl, hown, hbel⟩ := hrel
        have hlen := (HLE k).out
        by_cases hlt : k < ll.length
        · obtain ⟨b, o, rfl, hbB, hc⟩ := HA.out (by omega)
          obtain ⟨u, hu, hby⟩ := HB.out k hlt
          have hc1 := (hbel.cell (p := ⟨b, o + k, none⟩) (show b < w.heap.size by omega)).trans (hc k _ hu)
          have hby2 := (hby.more hB).below hbel
          obtain ⟨A2, c2, rfl, hl2, hm2⟩ := hby.form
          have HT := Lib.hid (flatten_take ll k hlt)
          have hlen2 := (HLE (k + 1)).out
          rw [HT.out, List.length_append] at hlen2
          unfold maxLen at hm2
          clear hc hby
          generalize hfx : ll[k] = fx at *
          generalize hacc : (ll.take k).flatten = acc at *
          have HX := Lib.hid hby2
          clear hby2
          have hs := hbel.size
          go_wp2_with (at_builtin; refine wpList_append_sl rfl _ _ 32 rfl w.heap.size 5 i0 (.int .u8 0) 1 1 Tryd.underlying32 hi hz0 hz1 hz2 rfl (by decide) u6 acc.length (bytesV acc) rfl hown (.slice A2 fx.length c2) w.heap.size fx.length (bytesV fx) rfl HX.out (bytesV_one' _) (by unfold maxLen; omega) (by omega) hs ?_; intro v5 w5 hown5 hgrow5)
          go_roundw
          case rel =>
            refine ⟨k + 1, by omega, by go_num, ?_, hbel.grown hgrow5 hs (fun g hg => (hown.lt g hg).1)⟩
            rw [HT.out]
            exact own_more hown5
          case measure => first | (simp [intOf]; done) | (simp [intOf]; omega)
        · obtain rfl : k = ll.length := by omega
          have e : (ll.take ll.length).flatten = ll.flatten := by rw [List.take_length]
          rw [e] at hown
          clear e
          have HR := Lib.hid (bytes_of_own hown rfl)
          go_wp2_with fail
          go_ret
          exact ⟨_, rfl, HR.out, hbel⟩
end Go.Proofs.YtmhadkdbonfmdaaDoor
