/-
  The answers of layer 16's reference: fields, sums.
-/
import Derived.Test.YtmhadkdbonfmdaaDoorZRefA
namespace Go.Proofs.YtmhadkdbonfmdaaDoor
open Go Go.RowKit Go.Shelf
set_option maxRecDepth 100000

set_option maxHeartbeats 1000000 in
theorem rfields_any (w : World) (v : Value) (l : List (Nat × Nat)) (hv : Sl w w.heap.size 1 v (l.length * 2) (fldV l)) (hl : l.length ≤ 100) (hok : FldOk l) :
    Calls Tryd.prog 34 #[v] w (Rets fun v' w' => Bytes w' w'.heap.size v' (fld l) ∧ Below w.heap.size w w') := by
  obtain ⟨i0, hi, hz0, hz1, hz2⟩ := info_parts infoByte
  obtain ⟨A, c, rfl, hlc, hcm, -, hA⟩ := hv
  unfold maxLen at hcm
  have HA := Lib.hid hA
  have HO := Lib.hid hok
  have HLE : ∀ k, Hid ((fld (l.take k)).length ≤ 800) := fun k => by
    have h1 := fld_le (l.take k) fun p hp => hok p (List.mem_of_mem_take hp)
    have h2 := List.length_take_le k l
    show _ ≤ _
    have h3 : (l.take k).length ≤ l.length := by rw [List.length_take]; omega
    omega
  clear hA hok
  go_enter Tryd.func34, Tryd.ntmps34
  go_wp2_with fail
  go_loopw [3, 4] (fun x i wr => ∃ k : Nat, k ≤ l.length ∧ i = .int .i64 (k * 2 : Nat) ∧ wr.ownsRow w.heap.size 5 1 x (fld (l.take k)).length (bytesV (fld (l.take k))) ∧ Below w.heap.size w wr) (fun _ i _ => l.length * 2 - (intOf i).toNat)
  case atStart => exact ⟨0, by omega, rfl, World.ownsRow_nil _ _ _ _, Below.refl _ _⟩
  case round =>
    obtain ⟨k, hk, rfl, hown, hbel⟩ := hrel
    have hlen := (HLE k).out
    by_cases hlt : k < l.length
    · obtain ⟨b, o, rfl, hbB, hc⟩ := HA.out (by omega)
      obtain ⟨h1, h2⟩ := fldV_at l k hlt
      obtain ⟨p1, p2, p3⟩ := HO.out l[k] (List.getElem_mem hlt)
      have hc1 := (hbel.cell (p := ⟨b, o + k * 2, none⟩) hbB).trans (hc _ _ h1)
      have hc2 := (hbel.cell (p := ⟨b, o + (k * 2 + 1), none⟩) hbB).trans (hc (k * 2 + 1) _ h2)
      have HT := Lib.hid (fld_take l k hlt)
      have hlen2 := (HLE (k + 1)).out
      rw [HT.out] at hlen2
      have HF : ∀ W, Hid (Calls Tryd.prog 54 #[.int .i64 (l[k].1 : Nat), .int .i64 (l[k].2 : Nat)] W (Rets fun v' w' => Bytes w' w'.heap.size v' (fixedL l[k].1 l[k].2) ∧ Below W.heap.size W w')) := fun W => by
        have hp : (256 : Nat) ^ l[k].2 ≤ 256 ^ 4 := Nat.pow_le_pow_right (by decide) p2
        have := rfixed_any (l[k].1 : Nat) (l[k].2 : Nat) (by omega) (by omega) W
        rw [fixedB_some p1 (by omega) p3] at this
        exact this
      clear h1 h2 p1 p2 p3 hc
      generalize fixedL l[k].1 l[k].2 = fx at *
      generalize l[k].1 = n at *
      generalize l[k].2 = s at *
      generalize hacc : fld (l.take k) = acc at *
      rw [List.length_append] at hlen2
      go_wp2_with fail
      refine wp_text (by kernel_rfl) (by kernel_rfl) ?_
      intro R hR
      go_wp2_with fail
      refine (HF _).out.mono ?_
      rintro e w4 ⟨v4, rfl, hv4, hb4⟩
      have hb4' : Below wr.heap.size wr w4 := ((Below.refl _ _).drew).trans (hb4.mono (Nat.le_refl _))
      have hown4 := own_below hown hb4'
      have hbel4 := hbel.trans (hb4'.mono hbel.size)
      have hs4 := hbel4.size
      go_wp2_with (at_builtin; refine wpList_append_sl rfl _ _ 32 rfl w.heap.size 5 i0 (.int .u8 0) 1 1 Tryd.underlying32 hi hz0 hz1 hz2 rfl (by decide) u3 acc.length (bytesV acc) rfl hown4 v4 w4.heap.size fx.length (bytesV fx) rfl hv4 (bytesV_one' _) (by unfold maxLen; omega) (by omega) hs4 ?_; intro v5 w5 hown5 hgrow5)
      refine ⟨by simp [goodB, fits, plainPair, isSeqV, quiet, Act.eval], ?_⟩
      go_wp2_with fail
      go_roundw
      case rel =>
        refine ⟨k + 1, by omega, by go_num, ?_, hbel4.grown hgrow5 hs4 (fun g hg => (hown4.lt g hg).1)⟩
        rw [HT.out, List.length_append, bytesV_append]
        exact hown5
      case measure => first | (simp [intOf]; done) | (simp [intOf]; omega)
    · obtain rfl : k = l.length := by omega
      have HL := Lib.hid (fld_take_all l)
      go_wp2_with fail
      go_ret
      refine ⟨_, rfl, ?_, hbel⟩
      rw [HL.out] at hown
      exact bytes_of_own hown rfl
end Go.Proofs.YtmhadkdbonfmdaaDoor
