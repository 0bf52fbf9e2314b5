/-
  Layer 11's law: are rules small? The chapter's example.
-/
import Derived.Test.YtkdpflgkcnhoiaaDoorFireIn
namespace Go.Proofs.YtkdpflgkcnhoiaaDoor
open Go Go.RowKit Go.Shelf
set_option maxRecDepth 100000

def smallR (r : Rul) : Bool := decide (1900 ≤ r.from_ ∧ r.from_ ≤ 2100 ∧ r.from_ ≤ r.to_ ∧ 1 ≤ r.month ∧ r.month ≤ 12 ∧ -172800 ≤ r.sec ∧ r.sec ≤ 259200 ∧ 0 ≤ r.kind ∧ r.kind ≤ 2) && dayOkB r.dk r.dw r.dn
def smallB (l : List Rul) : Bool := l.all smallR && decide (l.length ≤ 6)
theorem small_no {l : List Rul} {k : Nat} (hk : k < l.length) (h : smallR l[k] = false) : smallB l = false := by
  unfold smallB
  rw [Bool.and_eq_false_iff]
  left
  rw [List.all_eq_false]
  exact ⟨l[k], List.getElem_mem hk, by rw [h]; decide⟩
theorem small_yes {l : List Rul} (h : ∀ k (hk : k < l.length), smallR l[k] = true) : smallB l = decide (l.length ≤ 6) := by
  unfold smallB
  rw [List.all_eq_true.2 (fun r hr => by obtain ⟨k, hk, rfl⟩ := List.getElem_of_mem hr; exact h k hk), Bool.true_and]
set_option maxHeartbeats 4000000 in
theorem small_any (w : World) (B : Nat) (v : Value) (l : List Rul) (hv : Ruls w B v l) (hB : B ≤ w.heap.size) :
    Calls Tryd.prog 5 #[v] w fun e w' => e = .returned (.bool (smallB l)) ∧ Below w.heap.size w w' := by
  obtain ⟨A, c, rfl, hlc, hcm⟩ := hv.form
  unfold maxLen at hcm
  have HV := Lib.hid hv
  clear hv
  go_enter Tryd.func5, Tryd.ntmps5
  go_wp2_with fail
  go_loopw [3] (fun iv wr => ∃ k : Nat, k ≤ l.length ∧ iv = .int .i64 k ∧ (∀ j (hj : j < l.length), j < k → smallR l[j] = true) ∧ Below w.heap.size w wr) (fun iv _ => l.length - (intOf iv).toNat)
  case atStart => exact ⟨0, Nat.zero_le _, rfl, fun j _ h => by omega, Below.refl _ _⟩
  case round =>
    obtain ⟨k, hk, rfl, hsm, hbw⟩ := hrel
    have HSM := Lib.hid hsm
    have HBW := Lib.hid hbw
    have hws := hbw.size
    clear hsm hbw
    by_cases hlt : k < l.length
    · have hd : decide ((k : Int) < (l.length : Int)) = true := decide_eq_true (by omega)
      obtain ⟨bb, o, c', e, hbb, hc⟩ := (HV.out.below (HBW.out.mono hB)).cells (by omega)
      cases e
      obtain ⟨c0, c1, c2, c3, c4, c5, c6, c7, c8, c9, c10⟩ := hc k hlt
      have HNO := Lib.hid (small_no hlt)
      have HYES := Lib.hid (fun (h : smallR l[k] = true) => show ∀ j (hj : j < l.length), j < k + 1 → smallR l[j] = true from fun j hj hjk => by
        rcases Nat.lt_or_ge j k with h1 | h1
        · exact HSM.out j hj h1
        · have : j = k := by omega
          subst this
          exact h)
      obtain ⟨r, hr⟩ : ∃ r, l[k] = r := ⟨_, rfl⟩
      rw [hr] at c0 c1 c2 c3 c4 c5 c6 c7 c8 c9 c10 HNO HYES
      have HDF := Lib.hid (dfcheck_any r.dk r.dw r.dn (wr.alloc (.cells #[.string r.name, .int .i64 r.from_, .int .i64 r.to_, .int .i64 r.month, .int .i64 r.dk, .int .i64 r.dw, .int .i64 r.dn, .int .i64 r.sec, .int .i64 r.kind, .int .i64 r.save, .string r.letter] 46)))
      unfold dayA at HDF
      clear hr hc
      have hc : True := trivial
      by_cases h1 : r.from_ < 1900
      ·
        have HS := Lib.hid (HNO.out (by unfold smallR; simp only [Bool.and_eq_false_iff, decide_eq_false_iff_not]; left; omega))
        clear hc
        go_wp2_with fail
        go_ret
        exact ⟨by rw [HS.out]; rfl, HBW.out.alloc hws _⟩
      · by_cases h2 : 2100 < r.from_
        ·
          have HS := Lib.hid (HNO.out (by unfold smallR; simp only [Bool.and_eq_false_iff, decide_eq_false_iff_not]; left; omega))
          clear hc
          go_wp2_with fail
          go_ret
          exact ⟨by rw [HS.out]; rfl, HBW.out.alloc hws _⟩
        · by_cases h3 : r.to_ < r.from_
          ·
            have HS := Lib.hid (HNO.out (by unfold smallR; simp only [Bool.and_eq_false_iff, decide_eq_false_iff_not]; left; omega))
            clear hc
            go_wp2_with fail
            go_ret
            exact ⟨by rw [HS.out]; rfl, HBW.out.alloc hws _⟩
          · by_cases h4 : r.month < 1
            ·
              have HS := Lib.hid (HNO.out (by unfold smallR; simp only [Bool.and_eq_false_iff, decide_eq_false_iff_not]; left; omega))
              clear hc
              go_wp2_with fail
              go_ret
              exact ⟨by rw [HS.out]; rfl, HBW.out.alloc hws _⟩
            · by_cases h5 : 12 < r.month
              ·
                have HS := Lib.hid (HNO.out (by unfold smallR; simp only [Bool.and_eq_false_iff, decide_eq_false_iff_not]; left; omega))
                clear hc
                go_wp2_with fail
                go_ret
                exact ⟨by rw [HS.out]; rfl, HBW.out.alloc hws _⟩
              · by_cases h6 : r.sec < -172800
                ·
                  have HS := Lib.hid (HNO.out (by unfold smallR; simp only [Bool.and_eq_false_iff, decide_eq_false_iff_not]; left; omega))
                  clear hc
                  go_wp2_with fail
                  go_ret
                  exact ⟨by rw [HS.out]; rfl, HBW.out.alloc hws _⟩
                · by_cases h7 : 259200 < r.sec
                  ·
                    have HS := Lib.hid (HNO.out (by unfold smallR; simp only [Bool.and_eq_false_iff, decide_eq_false_iff_not]; left; omega))
                    clear hc
                    go_wp2_with fail
                    go_ret
                    exact ⟨by rw [HS.out]; rfl, HBW.out.alloc hws _⟩
                  · by_cases h8 : r.kind < 0
                    ·
                      have HS := Lib.hid (HNO.out (by unfold smallR; simp only [Bool.and_eq_false_iff, decide_eq_false_iff_not]; left; omega))
                      clear hc
                      go_wp2_with fail
                      go_ret
                      exact ⟨by rw [HS.out]; rfl, HBW.out.alloc hws _⟩
                    · by_cases h9 : 2 < r.kind
                      ·
                        have HS := Lib.hid (HNO.out (by unfold smallR; simp only [Bool.and_eq_false_iff, decide_eq_false_iff_not]; left; omega))
                        clear hc
                        go_wp2_with fail
                        go_ret
                        exact ⟨by rw [HS.out]; rfl, HBW.out.alloc hws _⟩
                      · have HR0 := Lib.hid (show decide (1900 ≤ r.from_ ∧ r.from_ ≤ 2100 ∧ r.from_ ≤ r.to_ ∧ 1 ≤ r.month ∧ r.month ≤ 12 ∧ -172800 ≤ r.sec ∧ r.sec ≤ 259200 ∧ 0 ≤ r.kind ∧ r.kind ≤ 2) = true by rw [decide_eq_true_eq]; omega)
                        cases hok : dayOkB r.dk r.dw r.dn with
                        | false =>
                          have HS := Lib.hid (HNO.out (by unfold smallR; rw [hok, Bool.and_false]))
                          rw [hok] at HDF
                          simp only [Bool.false_eq_true, if_false] at HDF
                          clear hok
                          go_wp2_with fail
                          refine HDF.out.mono ?_
                          rintro e w2 ⟨rfl, hb⟩
                          have HB2 := Lib.hid ((HBW.out.alloc hws _).trans (hb.mono (by simp; omega)))
                          clear hb
                          go_wp2_with fail
                          go_ret
                          exact ⟨by rw [HS.out]; rfl, HB2.out⟩
                        | true =>
                          have HS := Lib.hid (HYES.out (by unfold smallR; rw [hok, HR0.out]; rfl))
                          rw [hok] at HDF
                          simp only [if_true] at HDF
                          clear hok
                          go_wp2_with fail
                          refine HDF.out.mono ?_
                          rintro e w2 ⟨rfl, hb⟩
                          have HB2 := Lib.hid ((HBW.out.alloc hws _).trans (hb.mono (by simp; omega)))
                          clear hb
                          go_wp2_with fail
                          go_roundw
                          case rel => exact ⟨k + 1, by omega, by go_num, HS.out, HB2.out⟩
                          case measure => first | (simp [intOf]; done) | (simp [intOf]; omega)
    · obtain rfl : k = l.length := by omega
      have HS := Lib.hid (small_yes (fun k hk => HSM.out k hk hk))
      by_cases h6 : l.length ≤ 6
      · rw [decide_eq_true h6] at HS
        go_wp2_with fail
        go_ret
        exact ⟨by rw [HS.out]; simp; omega, HBW.out⟩
      · rw [decide_eq_false h6] at HS
        go_wp2_with fail
        go_ret
        exact ⟨by rw [HS.out]; simp; omega, HBW.out⟩
end Go.Proofs.YtkdpflgkcnhoiaaDoor
