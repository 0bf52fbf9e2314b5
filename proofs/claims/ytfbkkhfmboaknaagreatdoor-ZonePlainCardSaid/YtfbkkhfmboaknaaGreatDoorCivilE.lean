/-
  Layer 8 walked: Check of a day of a month; days from one on.
-/
import Derived.Test.YtfbkkhfmboaknaaGreatDoorCivilC
import Derived.Test.YtfbkkhfmboaknaaGreatDoorTextIn
import Derived.OwnWalkIn
import Derived.TacticsInMore
import Derived.LoopNIn
import Derived.LoopIn
import Derived.BigRegionIn
namespace Go.Proofs.YtfbkkhfmboaknaaGreatDoor
open Go Go.RowKit Go.Shelf
attribute [local go_sem] Oper.semAt_some
set_option maxRecDepth 100000

def dayA (k wk n : Int) : Value := .agg #[.int .i64 k, .int .i64 wk, .int .i64 n]
def dayOkB (k wk n : Int) : Bool := decide ((k = 0 ∧ 1 ≤ n ∧ n ≤ 31 ∧ wk = 0) ∨ (k = 1 ∧ n = 0 ∧ 0 ≤ wk ∧ wk < 7) ∨ ((k = 2 ∨ k = 3) ∧ 1 ≤ n ∧ n ≤ 31 ∧ 0 ≤ wk ∧ wk < 7))
set_option maxHeartbeats 2000000 in
theorem dfcheck_any (k wk n : Int) (w : World) :
    Calls Tryz.prog 29 #[dayA k wk n] w fun e w' => e = .returned (.int .i64 (if dayOkB k wk n then 0 else 10)) ∧ Below w.heap.size w w' := by
  have HB0 := Lib.hid (fun (o : Obj) => (Below.refl w.heap.size w).alloc (Nat.le_refl _) o)
  have HQ0 := Blk.new w 48 #[.int .i64 k, .int .i64 wk, .int .i64 n]
  have q0 := HQ0.cell 0 (v := .int .i64 k) rfl
  have q1 := HQ0.cell 1 (v := .int .i64 wk) rfl
  have q2 := HQ0.cell 2 (v := .int .i64 n) rfl
  obtain ⟨V, hV⟩ : ∃ V : Int, (if dayOkB k wk n then 0 else 10) = V := ⟨_, rfl⟩
  rw [hV]
  have HV := Lib.hid (show (if (k = 0 ∧ 1 ≤ n ∧ n ≤ 31 ∧ wk = 0) ∨ (k = 1 ∧ n = 0 ∧ 0 ≤ wk ∧ wk < 7) ∨ ((k = 2 ∨ k = 3) ∧ 1 ≤ n ∧ n ≤ 31 ∧ 0 ≤ wk ∧ wk < 7) then (0 : Int) else 10) = V by
    rw [← hV]
    unfold dayOkB
    simp only [decide_eq_true_eq])
  clear hV
  clear HQ0
  unfold dayA
  by_cases h1 : 1 ≤ n
  · by_cases h2 : 0 ≤ wk
    ·
      go_enter Tryz.func29, Tryz.ntmps29
      go_wp2_with fail
      go_quiet (fail)
      go_wp2_with fail
      all_goals
        go_ret
        refine ⟨?_, below_drewN (HB0.out _) _⟩
        have hv := HV.out
        simp only [beq_iff_eq, bne_iff_ne, beq_eq_false_iff_ne, ne_eq, decide_eq_true_eq, decide_eq_false_iff_not, Bool.and_eq_true, Bool.or_eq_true, Bool.not_eq_true', Bool.not_eq_false', Bool.and_eq_false_iff, Bool.or_eq_false_iff] at *
        split at hv
        all_goals first | (rw [← hv]; rfl) | (exfalso; omega) | done
    · have hd2 : decide (0 ≤ wk) = false := decide_eq_false h2
      go_enter Tryz.func29, Tryz.ntmps29
      go_wp2_with fail
      go_quiet (fail)
      go_wp2_with fail
      all_goals
        go_ret
        refine ⟨?_, below_drewN (HB0.out _) _⟩
        have hv := HV.out
        simp only [beq_iff_eq, bne_iff_ne, beq_eq_false_iff_ne, ne_eq, decide_eq_true_eq, decide_eq_false_iff_not, Bool.and_eq_true, Bool.or_eq_true, Bool.not_eq_true', Bool.not_eq_false', Bool.and_eq_false_iff, Bool.or_eq_false_iff] at *
        split at hv
        all_goals first | (rw [← hv]; rfl) | (exfalso; omega) | done
  · have hd1 : decide (1 ≤ n) = false := decide_eq_false h1
    by_cases h2 : 0 ≤ wk
    ·
      go_enter Tryz.func29, Tryz.ntmps29
      go_wp2_with fail
      go_quiet (fail)
      go_wp2_with fail
      all_goals
        go_ret
        refine ⟨?_, below_drewN (HB0.out _) _⟩
        have hv := HV.out
        simp only [beq_iff_eq, bne_iff_ne, beq_eq_false_iff_ne, ne_eq, decide_eq_true_eq, decide_eq_false_iff_not, Bool.and_eq_true, Bool.or_eq_true, Bool.not_eq_true', Bool.not_eq_false', Bool.and_eq_false_iff, Bool.or_eq_false_iff] at *
        split at hv
        all_goals first | (rw [← hv]; rfl) | (exfalso; omega) | done
    · have hd2 : decide (0 ≤ wk) = false := decide_eq_false h2
      go_enter Tryz.func29, Tryz.ntmps29
      go_wp2_with fail
      go_quiet (fail)
      go_wp2_with fail
      all_goals
        go_ret
        refine ⟨?_, below_drewN (HB0.out _) _⟩
        have hv := HV.out
        simp only [beq_iff_eq, bne_iff_ne, beq_eq_false_iff_ne, ne_eq, decide_eq_true_eq, decide_eq_false_iff_not, Bool.and_eq_true, Bool.or_eq_true, Bool.not_eq_true', Bool.not_eq_false', Bool.and_eq_false_iff, Bool.or_eq_false_iff] at *
        split at hv
        all_goals first | (rw [← hv]; rfl) | (exfalso; omega) | done
set_option maxHeartbeats 1000000 in
theorem from_any (a st : Int) (w : World) : Calls Tryz.prog 97 #[.int .i64 a, .int .i64 st] w fun e w' => e = .returned (.func (.func 122) #[] #[.pointer (some ⟨w.heap.size, 0, none⟩), .pointer (some ⟨w.heap.size + 1, 0, none⟩)]) ∧ Below w.heap.size w w' ∧ w'.heap.size = w.heap.size + 2 ∧
    Blk w' w.heap.size 3 #[.int .i64 a] ∧ Blk w' (w.heap.size + 1) 3 #[.int .i64 st] := by
  have h1 := Blk.new w 3 #[.int .i64 a]
  have h2 := Blk.new (w.alloc (.cells #[.int .i64 a] 3)) 3 #[.int .i64 st]
  simp only [World.size_alloc] at h2
  have HB := Lib.hid (show Below w.heap.size w ((w.alloc (.cells #[.int .i64 a] 3)).alloc (.cells #[.int .i64 st] 3)) from ((Below.refl _ _).alloc (Nat.le_refl _) _).alloc (by simp) _)
  have HH := Lib.hid (show _ ∧ _ from ⟨h1.alloc (.cells #[.int .i64 st] 3), h2⟩)
  clear h1 h2
  go_enter Tryz.func97, Tryz.ntmps97
  go_wp2_with fail
  go_ret
  exact ⟨rfl, HB.out, by simp, HH.out⟩
def encD (f : Nat → Int) (k : Nat) : Array Value := #[.int .i64 (f k)]
set_option maxHeartbeats 2000000 in
theorem from1_in (n : Nat) (hn : 2 ≤ n) (lp db sb : Nat) (f : Nat → Int) (st : Int) (W : World) (hf : ∀ k, f (k + 1) = f k + st) (hb : ∀ k, k ≤ 7 → -100000000 ≤ f k ∧ f k ≤ 100000000) (hst : -1 ≤ st ∧ st ≤ 1)
    (hd : Blk W db 3 #[.int .i64 (f 0)]) (hs : Blk W sb 3 #[.int .i64 st]) (hne : db ≠ sb)
    (J Jx : List Nat → (Nat → Prop) → World → Prop) (fJ : Feet J) (hY : RoundsIn Fence.wide (n - 1) Tryz.prog lp (encD f) (fun pre k D _ => (∀ j, ¬ D j) ∧ k = pre.length ∧ k < 7) J Jx)
    (O0 : Nat → Prop) (h0 : J [] O0 W) (hO0 : Bd O0 W) (hK : ∀ k, (k = db ∨ k = sb) → ¬ O0 k) :
    CallsIn Fence.wide n Tryz.prog 122 #[.func (.yield lp) #[] #[], .pointer (some ⟨db, 0, none⟩), .pointer (some ⟨sb, 0, none⟩)] W (IterEnd (fun xs : List Nat => xs.length = 7) (fun _ => True) J Jx O0 (fun k => k = db) W) := by
  have HD := Lib.hid hd
  have HS := Lib.hid hs
  refine callsIn_of_wp Tryz.func122 rfl trivial ?_ rfl
  simp only [Tryz.ntmps122, List.size_toArray, List.length_cons, List.length_nil, Nat.reduceAdd, Nat.reduceSub, Array.replicate_succ, Array.replicate_zero, List.push_toArray, List.append_toArray, List.nil_append, List.cons_append]
  gi_wp2
  gi_loopw [4] (fun iv wr => ∃ (pre : List Nat) (O : Nat → Prop), iv = .int .i64 (pre.length : Nat) ∧ pre.length ≤ 7 ∧ J pre O wr ∧ Bd O wr ∧ (∀ k, O k → O0 k ∨ W.heap.size ≤ k) ∧ Fr (fun k => O0 k ∨ k = db) W wr ∧ Blk wr db 3 #[.int .i64 (f pre.length)] ∧ Blk wr sb 3 #[.int .i64 st]) (fun iv _ => 7 - (intOf iv).toNat)
  case atStart => exact ⟨[], O0, rfl, by simp, h0, hO0, fun k h => .inl h, Fr.refl _ _, HD.out, HS.out⟩
  case round =>
    obtain ⟨pre, O, rfl, hle, hJ, hbd, hex, hfr, hbd1, hbs1⟩ := hrel
    have HJ := Lib.hid hJ
    have HBD := Lib.hid hbd
    have HEX := Lib.hid hex
    have HFR := Lib.hid hfr
    have HD1 := Lib.hid hbd1
    have HS1 := Lib.hid hbs1
    have qd := hbd1.cell 0 (v := .int .i64 (f pre.length)) rfl
    clear hJ hbd hex hfr hbd1 hbs1
    by_cases hlt : pre.length < 7
    · have hOn : ∀ k, (k = db ∨ k = sb) → ¬ O k := fun k hk ho => by
        rcases HEX.out k ho with h | h
        · exact hK k hk h
        · have h1 := HD.out.lt
          have h2 := HS.out.lt
          rcases hk with rfl | rfl <;> omega
      have hnx := hf pre.length
      have hb1 := hb pre.length (by omega)
      have hb2 := hb (pre.length + 1) (by omega)
      gi_wp2
      obtain ⟨fn, tmps, assign, body, hyd, hR⟩ := hY pre pre.length (fun _ => False) O wr HJ.out HBD.out (fun _ h => h.elim) (fun _ h => h.elim) ⟨fun _ h => h, rfl, hlt⟩
      unfold encD at hyd
      rw [hyd]
      gi_wp2
      refine ⟨fun _ => by omega, hR.mono ?_⟩
      rintro e W5 ⟨O5, hx5, hbd5, hf5, (⟨rfl, hJ5⟩ | ⟨rfl, hJx5⟩)⟩
      · have hd5 := HD1.out.fr hf5 (fun e => by rcases e with e | e; exact hOn _ (.inl rfl) e; exact e)
        have hs5 := HS1.out.fr hf5 (fun e => by rcases e with e | e; exact hOn _ (.inr rfl) e; exact e)
        have qd := hd5.cell 0 (v := .int .i64 (f pre.length)) rfl
        have qs := hs5.cell 0 (v := .int .i64 st) rfl
        have qf := hd5.frozen 0
        have HD5 := Lib.hid hd5
        have HS5 := Lib.hid hs5
        have hdl := hd5.lt
        clear hd5 hs5 hyd hR
        gi_wp2
        have hls : (pre ++ [pre.length]).length = pre.length + 1 := by simp
        have nO5 : ∀ k, (k = db ∨ k = sb) → ¬ O5 k := fun k hk ho => by
          rcases hx5 k ho with h | h | h
          · exact hOn k hk h
          · exact h
          · have h1 := HD1.out.lt
            have h2 := HS1.out.lt
            rcases hk with rfl | rfl <;> omega
        refine ⟨⟨pre ++ [pre.length], O5, by rw [hls]; go_num, by omega, fJ _ _ _ _ hJ5 ((Fr.setCell (T := fun k => k = db) W5 0 _ rfl).mono fun k hk => .inl fun hO => nO5 _ (.inl hk) hO), hbd5.fr (Fr.setCell (T := fun k => k = db) W5 0 _ rfl), fun k hk => ?_, ?_, ?_, HS5.out.other hne.symm 0 _⟩, by simp only [intOf]; omega⟩
        · rcases hx5 k hk with h | h | h
          · exact HEX.out k h
          · exact h.elim
          · have := HFR.out.size; exact .inr (by omega)
        · refine (HFR.out.trans hf5 fun k hk => ?_).then (Fr.setCell W5 0 _ (.inr rfl))
          rcases hk with h | h
          · rcases HEX.out k h with h | h
            · exact .inl (.inl h)
            · exact .inr h
          · exact h.elim
        · rw [hls, hnx]
          exact HD5.out.set 0 _
      · gi_wp2
        refine bodyPost_end (results_none rfl _ _ _) rfl ?_
        refine ⟨⟨_, rfl⟩, O5, fun k hk => ?_, hbd5, HFR.out.trans hf5 fun k hk => ?_, .inr ⟨_, trivial, hJx5⟩⟩
        · rcases hx5 k hk with h | h | h
          · exact HEX.out k h
          · exact h.elim
          · have := HFR.out.size; exact .inr (by omega)
        · rcases hk with h | h
          · rcases HEX.out k h with h | h
            · exact .inl (.inl h)
            · exact .inr h
          · exact h.elim
    · have h7 : pre.length = 7 := by omega
      gi_wp2
      refine bodyPost_end (results_none rfl _ _ _) rfl ?_
      exact ⟨⟨_, rfl⟩, O, HEX.out, HBD.out, HFR.out, .inl ⟨pre, h7, HJ.out⟩⟩
theorem from1_iter (n : Nat) (hn : 2 ≤ n) (db sb : Nat) (f : Nat → Int) (st : Int) (W : World) (hf : ∀ k, f (k + 1) = f k + st) (hb : ∀ k, k ≤ 7 → -100000000 ≤ f k ∧ f k ≤ 100000000) (hst : -1 ≤ st ∧ st ≤ 1)
    (hd : Blk W db 3 #[.int .i64 (f 0)]) (hs : Blk W sb 3 #[.int .i64 st]) (hne : db ≠ sb) :
    Iter Fence.wide n Tryz.prog 122 #[.pointer (some ⟨db, 0, none⟩), .pointer (some ⟨sb, 0, none⟩)] (encD f) (fun pre k D _ => (∀ j, ¬ D j) ∧ k = pre.length ∧ k < 7) (fun xs => xs.length = 7) (fun _ => True) (fun k => k = db ∨ k = sb) (fun k => k = db) W :=
  fun lp J Jx fJ _ hY O h0 hO hK => from1_in n hn lp db sb f st W hf hb hst hd hs hne J Jx fJ hY O h0 hO hK
end Go.Proofs.YtfbkkhfmboaknaaGreatDoor
