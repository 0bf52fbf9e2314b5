/-
  Layer 16: fields, walked.
-/
import Derived.Test.YtmhadkdbonfmdaaDoorZMath
import Derived.Test.YtmhadkdbonfmdaaDoorZFix
import Derived.Test.YtmhadkdbonfmdaaDoorAppend
import Derived.Test.YtmhadkdbonfmdaaDoorInv
namespace Go.Proofs.YtmhadkdbonfmdaaDoor
open Go Go.RowKit Go.Shelf
set_option maxRecDepth 100000

theorem bytesV_one' (l : List UInt8) : ∀ u ∈ bytesV l, u.oneCell' = true := by
  intro u hu
  simp only [bytesV, List.mem_map] at hu
  obtain ⟨x, _, rfl⟩ := hu
  rfl
/-- Pairs of numbers as cells. -/
def fldV (l : List (Nat × Nat)) : List Value := l.flatMap fun p => [.int .i64 (p.1 : Nat), .int .i64 (p.2 : Nat)]
theorem length_fldV (l : List (Nat × Nat)) : (fldV l).length = l.length * 2 := by
  induction l with
  | nil => rfl
  | cons a l ih => simp only [fldV, List.flatMap_cons, List.length_append, List.length_cons, List.length_nil] at ih ⊢; omega
theorem fldV_at (l : List (Nat × Nat)) (i : Nat) (h : i < l.length) : (fldV l)[i * 2]? = some (.int .i64 ((l[i]).1 : Nat)) ∧ (fldV l)[i * 2 + 1]? = some (.int .i64 ((l[i]).2 : Nat)) := by
  induction l generalizing i with
  | nil => simp at h
  | cons a l ih =>
    cases i with
    | zero => simp [fldV]
    | succ i =>
      have := ih i (by simpa using h)
      simp only [fldV, List.flatMap_cons, List.getElem_cons_succ] at this ⊢
      rw [show (i + 1) * 2 = i * 2 + 1 + 1 by omega]
      simpa using this
/-- Fields that may be. -/
def FldOk (l : List (Nat × Nat)) : Prop := ∀ p ∈ l, 1 ≤ p.2 ∧ p.2 ≤ 4 ∧ p.1 < 256 ^ p.2
theorem fld_take (l : List (Nat × Nat)) (k : Nat) (h : k < l.length) : fld (l.take (k + 1)) = fld (l.take k) ++ fixedL (l[k]).1 (l[k]).2 := by
  rw [List.take_succ_eq_append_getElem h, fld_append]
  simp [fld]
theorem fld_take_all (l : List (Nat × Nat)) : fld (l.take l.length) = fld l := by rw [List.take_length]
theorem fld_le (l : List (Nat × Nat)) (h : FldOk l) : (fld l).length ≤ 8 * l.length := by
  induction l with
  | nil => simp [fld]
  | cons p l ih =>
    have := ih fun q hq => h q (by simp [hq])
    have := (h p (by simp)).2.1
    rw [fld_cons, List.length_append, length_fixedL, List.length_cons]
    omega

set_option maxHeartbeats 1000000 in
theorem fields_any (w : World) (v : Value) (l : List (Nat × Nat)) (hv : Sl w w.heap.size 2 v l.length (fldV l)) (hl : l.length ≤ 100) (hok : FldOk l) :
    Calls Tryd.prog 41 #[v] w (Rets fun v' w' => Bytes w' w'.heap.size v' (fld l) ∧ Below w.heap.size w w') := by
  obtain ⟨i0, hi, hz0, hz1, hz2⟩ := info_parts infoByte
  obtain ⟨A, c, rfl, hlc, hcm, -, hA⟩ := hv
  unfold maxLen at hcm
  have HA := Lib.hid hA
  have HO := Lib.hid hok
  have HLE : ∀ k, Hid ((fld (l.take k)).length ≤ 800) := fun k => by
    have h1 := fld_le (l.take k) fun p hp => hok p (List.mem_of_mem_take hp)
    have h2 := List.length_take_le k l
    show _ ≤ _
    have h3 : (l.take k).length ≤ l.length := by rw [List.length_take]; omega
    omega
  clear hA hok
  go_enter Tryd.func41, Tryd.ntmps41
  go_wp2_with fail
  go_loopw [3, 8] (fun x i wr => ∃ k : Nat, k ≤ l.length ∧ i = .int .i64 k ∧ wr.ownsRow w.heap.size 5 1 x (fld (l.take k)).length (bytesV (fld (l.take k))) ∧ Below w.heap.size w wr) (fun _ i _ => l.length - (intOf i).toNat)
  case atStart => exact ⟨0, by omega, rfl, World.ownsRow_nil _ _ _ _, Below.refl _ _⟩
  case round =>
    obtain ⟨k, hk, rfl, hown, hbel⟩ := hrel
    have hlen := (HLE k).out
    by_cases hlt : k < l.length
    · obtain ⟨b, o, rfl, hbB, hc⟩ := HA.out (by omega)
      obtain ⟨h1, h2⟩ := fldV_at l k hlt
      obtain ⟨p1, p2, p3⟩ := HO.out l[k] (List.getElem_mem hlt)
      have hc1 := (hbel.cell (p := ⟨b, o + k * 2, none⟩) hbB).trans (hc _ _ h1)
      have hc2 := (hbel.cell (p := ⟨b, o + k * 2 + 1, none⟩) hbB).trans (hc (k * 2 + 1) _ h2)
      have HT := Lib.hid (fld_take l k hlt)
      have hlen2 := (HLE (k + 1)).out
      rw [HT.out] at hlen2
      have HF : ∀ W, Hid (Calls Tryd.prog 63 #[.int .i64 (l[k].1 : Nat), .int .i64 (l[k].2 : Nat)] W (Rets fun v' w' => Bytes w' w'.heap.size v' (fixedL l[k].1 l[k].2) ∧ Below W.heap.size W w')) := fun W => by
        have hp : (256 : Nat) ^ l[k].2 ≤ 256 ^ 4 := Nat.pow_le_pow_right (by decide) p2
        have := fixed_any (l[k].1 : Nat) (l[k].2 : Nat) (by omega) (by omega) W
        rw [fixedB_some p1 (by omega) p3] at this
        exact this
      clear h1 h2 p1 p2 p3 hc
      generalize fixedL l[k].1 l[k].2 = fx at *
      generalize l[k].1 = n at *
      generalize l[k].2 = s at *
      generalize hacc : fld (l.take k) = acc at *
      rw [List.length_append] at hlen2
      go_wp2_with fail
      refine (HF _).out.mono ?_
      rintro e w4 ⟨v4, rfl, hv4, hb4⟩
      have hb4' : Below wr.heap.size wr w4 := ((Below.refl _ _).alloc (Nat.le_refl _) _).trans (hb4.mono (by simp))
      have hown4 := own_below hown hb4'
      have hbel4 := hbel.trans (hb4'.mono hbel.size)
      have hs4 := hbel4.size
      go_wp2_with (at_builtin; refine wpList_append_sl rfl _ _ 32 rfl w.heap.size 5 i0 (.int .u8 0) 1 1 Tryd.underlying32 hi hz0 hz1 hz2 rfl (by decide) u3 acc.length (bytesV acc) rfl hown4 v4 w4.heap.size fx.length (bytesV fx) rfl hv4 (bytesV_one' _) (by unfold maxLen; omega) (by omega) hs4 ?_; intro v5 w5 hown5 hgrow5)
      go_roundw
      case rel =>
        refine ⟨k + 1, by omega, by go_num, ?_, hbel4.grown hgrow5 hs4 (fun g hg => (hown4.lt g hg).1)⟩
        rw [HT.out, List.length_append, bytesV_append]
        exact hown5
      case measure => first | (simp [intOf]; done) | (simp [intOf]; omega)
    · obtain rfl : k = l.length := by omega
      have HL := Lib.hid (fld_take_all l)
      go_wp2_with fail
      go_ret
      refine ⟨_, rfl, ?_, hbel⟩
      rw [HL.out] at hown
      exact bytes_of_own hown rfl
end Go.Proofs.YtmhadkdbonfmdaaDoor
