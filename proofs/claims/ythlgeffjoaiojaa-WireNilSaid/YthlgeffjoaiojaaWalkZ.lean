/-
  The reference of layer 5, walked: Turned, Pieces.
-/
import Derived.Test.YthlgeffjoaiojaaWalkY
namespace Go.Proofs.Ythlgeffjoaiojaa
open Go Go.RowKit

theorem own_below {w w' : World} {base : Nat} {e : TypeId} {sz n : Nat} {v : Value} {xs : List Value} (h : w.ownsRow base e sz v n xs) (hb : Below w.heap.size w w') : w'.ownsRow base e sz v n xs := by
  refine ⟨h.1, ?_⟩
  rcases h.2 with ⟨rfl, h0⟩ | ⟨g, cap, cur, hv, hg0, hg, hr⟩
  · exact .inl ⟨rfl, h0⟩
  · exact .inr ⟨g, cap, cur, hv, hg0, (hb.block g (Array.getElem?_eq_some_iff.1 hg).1).trans hg, hr⟩
theorem own_one (w : World) (x : Value) (e : TypeId) : (w.alloc (.cells #[x] e)).ownsRow w.heap.size e 1 (.slice (some ⟨w.heap.size, 0, none⟩) 1 1) 1 [x] :=
  ⟨rfl, .inr ⟨w.heap.size, 1, #[x], rfl, Nat.le_refl _, heap_alloc_new w _, Nat.le_refl _, by decide, rfl, rfl⟩⟩

theorem natsV_one (l : List Nat) : ∀ u ∈ natsV l, u.oneCell' = true := by
  intro u hu
  obtain ⟨_, _, rfl⟩ := List.mem_map.1 hu
  rfl

set_option maxHeartbeats 1000000 in
theorem rturned_any (n : Int) (hn : -9223372036854775808 ≤ n ∧ n ≤ 9223372036854775807) (w : World) :
    Calls Try.prog 14 #[.int .i64 n] w (Rets fun v' w' => Sl w' w'.heap.size 1 v' 64 (natsV (bitsL 64 (zig n))) ∧ Below w.heap.size w w') := by
  obtain ⟨i0, hi, hz0, hz1, hz2⟩ := info_parts infoInt
  rcases Int.lt_or_le n 0 with h | h
  · obtain ⟨k, hk⟩ := Int.eq_ofNat_of_zero_le (show 0 ≤ -(n + 1) by omega)
    have HP := Lib.hid (rbits_any k (by omega))
    have HB := Lib.hid (show 1 :: bitsL 63 k = bitsL 64 (zig n) by rw [bitsL_cons _ _ _ (by omega)]; congr 1; have := zig_neg h; omega)
    obtain rfl : n = -(k : Int) - 1 := by omega
    have hk1 : k < 9223372036854775808 := by omega
    clear hn h hk
    go_enter Try.func14, Try.ntmps14
    go_wp2_with fail
    refine (HP.out _).mono ?_
    rintro e w' ⟨v', rfl, hv, hb⟩
    obtain ⟨b, o, c, rfl, hbB, hc⟩ := hv.at_ (by decide)
    have hown := own_below (own_one w (.int .i64 1) 3) hb
    have hsz : w.heap.size < w'.heap.size := by have := hb.size; rw [World.size_alloc] at this; exact this
    have HC := Lib.hid hc; clear hc
    go_wp2_with (at_builtin; go_loud (refine wpList_append_own _ rfl _ _ 24 rfl w.heap.size 3 i0 (.int .i64 0) 1 8 Try.underlying24 hi hz0 hz1 hz2 rfl (by decide) _ _ _ rfl hown ⟨b, o, none⟩ 63 c (natsV (bitsL 63 k)) rfl (by rw [length_natsV, length_bitsL]) (fun j u hu => by rw [Addr.add_lit]; exact HC.out j u hu) (natsV_one _) (by unfold maxLen; omega) (by omega) (by omega) ?_); intro v' w1 hown' hgrow _)
    go_ret
    refine ⟨_, rfl, ?_, (((Below.refl _ _).alloc (Nat.le_refl _) _).trans (hb.mono (by simp))).grown hgrow (by omega) (fun g hg => (hown.lt g hg).1)⟩
    rw [← HB.out]
    exact Sl.of_own hown'
  · obtain ⟨k, rfl⟩ := Int.eq_ofNat_of_zero_le h
    have HP := Lib.hid (rbits_any k (by omega))
    have HB := Lib.hid (show 0 :: bitsL 63 k = bitsL 64 (zig (k : Int)) by rw [bitsL_cons _ _ _ (by omega), zig_nonneg]; rfl)
    have hk1 : k < 9223372036854775808 := by omega
    clear hn h
    go_enter Try.func14, Try.ntmps14
    go_wp2_with fail
    refine (HP.out _).mono ?_
    rintro e w' ⟨v', rfl, hv, hb⟩
    obtain ⟨b, o, c, rfl, hbB, hc⟩ := hv.at_ (by decide)
    have hown := own_below (own_one w (.int .i64 0) 3) hb
    have hsz : w.heap.size < w'.heap.size := by have := hb.size; rw [World.size_alloc] at this; exact this
    have HC := Lib.hid hc; clear hc
    go_wp2_with (at_builtin; go_loud (refine wpList_append_own _ rfl _ _ 24 rfl w.heap.size 3 i0 (.int .i64 0) 1 8 Try.underlying24 hi hz0 hz1 hz2 rfl (by decide) _ _ _ rfl hown ⟨b, o, none⟩ 63 c (natsV (bitsL 63 k)) rfl (by rw [length_natsV, length_bitsL]) (fun j u hu => by rw [Addr.add_lit]; exact HC.out j u hu) (natsV_one _) (by unfold maxLen; omega) (by omega) (by omega) ?_); intro v' w1 hown' hgrow _)
    go_ret
    refine ⟨_, rfl, ?_, (((Below.refl _ _).alloc (Nat.le_refl _) _).trans (hb.mono (by simp))).grown hgrow (by omega) (fun g hg => (hown.lt g hg).1)⟩
    rw [← HB.out]
    exact Sl.of_own hown'
end Go.Proofs.Ythlgeffjoaiojaa
