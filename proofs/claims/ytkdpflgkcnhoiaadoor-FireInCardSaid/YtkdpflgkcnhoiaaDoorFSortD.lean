/-
  Sorting rows of firings, walked: all of it.
-/
import Derived.Test.YtkdpflgkcnhoiaaDoorFSortC
namespace Go.Proofs.YtkdpflgkcnhoiaaDoor
open Go Go.RowKit Go.Shelf
set_option maxRecDepth 100000

/-- The blocks that begin from lo on, ahead of hi, are sorted. -/
def SB (bs lo hi : Nat) (d : List Fir) : Prop := ∀ t, lo ≤ t * bs → t * bs < hi → FSorted ((d.drop (t * bs)).take bs)
theorem seg_left {P X : List Fir} {i c : Nat} (h : i + c ≤ P.length) : ((P ++ X).drop i).take c = (P.drop i).take c := by
  rw [List.drop_append_of_le_length (by omega), List.take_append_of_le_length (by rw [List.length_drop]; omega)]
theorem seg_right {P X : List Fir} {i c : Nat} (h : P.length ≤ i) : ((P ++ X).drop i).take c = (X.drop (i - P.length)).take c := by
  rw [List.drop_append, List.drop_eq_nil_of_le h, List.nil_append]
theorem SB.left {bs hi : Nat} {P X Y : List Fir} (h : SB bs 0 hi (P ++ X)) (hm : ∃ q, hi = q * bs) (hl : hi = P.length) : SB bs 0 hi (P ++ Y) := fun t h1 h2 => by
  obtain ⟨q, hq⟩ := hm
  have : t < q := by
    rcases Nat.lt_or_ge t q with h | h
    · exact h
    · have := Nat.mul_le_mul_right bs h
      omega
  have h3 : (t + 1) * bs ≤ q * bs := Nat.mul_le_mul_right bs this
  rw [Nat.add_mul, Nat.one_mul] at h3
  have h4 := h t h1 h2
  rw [seg_left (by omega)] at h4 ⊢
  exact h4
theorem SB.more {bs a : Nat} {P B S : List Fir} (h : SB bs 0 a (P ++ (B ++ S))) (ha : P.length = a) (hm : ∃ q, a = q * bs) (hB : FSorted B) (hl : B.length = bs ∨ S = []) (hbs : 0 < bs) (hle : B.length ≤ bs) : SB bs 0 (a + B.length) (P ++ (B ++ S)) := fun t h1 h2 => by
  rcases Nat.lt_or_ge (t * bs) a with h3 | h3
  · exact h t h1 h3
  · obtain ⟨q, hq⟩ := hm
    have htq : t = q := by
      rcases Nat.lt_trichotomy t q with h4 | h4 | h4
      · have := Nat.mul_lt_mul_of_pos_right h4 hbs
        omega
      · exact h4
      · have h5 : (q + 1) * bs ≤ t * bs := Nat.mul_le_mul_right bs h4
        rw [Nat.add_mul, Nat.one_mul] at h5
        omega
    subst htq
    rw [seg_right (by omega), show t * bs - P.length = 0 by omega, List.drop_zero]
    rcases hl with hl | rfl
    · rw [List.take_append_of_le_length (by omega), List.take_of_length_le (by omega)]
      exact hB
    · rw [List.append_nil, List.take_of_length_le hle]
      exact hB
theorem SB.rest {bs lo hi : Nat} {P X Y S : List Fir} (h : SB bs lo hi (P ++ (X ++ S))) (hl : X.length = Y.length) (hlo : (P ++ X).length ≤ lo) : SB bs lo hi (P ++ (Y ++ S)) := fun t h1 h2 => by
  have h3 := h t h1 h2
  rw [← List.append_assoc, seg_right (by omega)] at h3
  rw [← List.append_assoc, seg_right (by rw [List.length_append] at hlo ⊢; omega), show (P ++ Y).length = (P ++ X).length by rw [List.length_append, List.length_append, hl]]
  exact h3
theorem SB.at_ {bs lo hi a : Nat} {P X : List Fir} (h : SB bs lo hi (P ++ X)) (ha : P.length = a) (hm : ∃ q, a = q * bs) (h1 : lo ≤ a) (h2 : a < hi) : FSorted (X.take bs) := by
  obtain ⟨q, hq⟩ := hm
  have h3 := h q (by omega) (by omega)
  rw [seg_right (by omega), show q * bs - P.length = 0 by omega, List.drop_zero] at h3
  exact h3
theorem SB.mono {bs lo lo' hi : Nat} {d : List Fir} (h : SB bs lo hi d) (hl : lo ≤ lo') : SB bs lo' hi d := fun t h1 h2 => h t (by omega) h2
set_option maxHeartbeats 4000000 in
theorem stable_F (W0 : World) (base g cap n : Nat) (d : List Fir) (hn : n ≤ 1000000) (hR : RwF W0 base g cap n d) :
    Calls Tryd.prog 27 #[.slice (some ⟨g, 0, none⟩) n cap, .int .i64 n, .func (.func 15) #[] #[]] W0 fun e w' => e = .returned (.tuple #[]) ∧ ∃ M, Stab Fir.nominal d M ∧ RwF w' base g cap n M ∧ Fr (fun k => k = g) W0 w' := by
  have HR := Lib.hid hR
  clear hR
  go_enter Tryd.func27, Tryd.ntmps27
  go_wp2_with fail
  go_loopw [7, 8] (fun av bv wr => ∃ (a b q : Nat) (D : List Fir), av = .int .i64 a ∧ bv = .int .i64 b ∧ a = q * 20 ∧ b = a + 20 ∧ a ≤ n ∧ Keeps Fir.nominal d D ∧ SB 20 0 a D ∧ RwF wr base g cap n D ∧ Fr (fun k => k = g) W0 wr) (fun _ bv _ => n + 21 - (intOf bv).toNat)
  case atStart => exact ⟨0, 20, 0, d, rfl, rfl, rfl, rfl, Nat.zero_le _, Keeps.refl _, fun t h1 h2 => by omega, HR.out, Fr.refl _ _⟩
  case round =>
    obtain ⟨a, b, q, D, rfl, rfl, hq, hb, han, hk, hsb, hrw, hfr⟩ := hrel
    have HK := Lib.hid hk
    have HSB := Lib.hid hsb
    have HRW := Lib.hid hrw
    have HFR := Lib.hid hfr
    have HQ := Lib.hid hq
    have HBA := Lib.hid hb
    clear hk hsb hrw hfr hq hb HR
    by_cases hlt : b ≤ n
    · have hd : decide ((b : Int) ≤ (n : Int)) = true := decide_eq_true (by omega)
      have hlD := HRW.out.len
      obtain ⟨P, B, S, rfl, lP, lB⟩ : ∃ P B S, D = P ++ (B ++ S) ∧ P.length = a ∧ B.length = 20 := ⟨D.take a, (D.drop a).take 20, (D.drop a).drop 20, by rw [List.take_append_drop, List.take_append_drop], by rw [List.length_take]; omega, by rw [List.length_take, List.length_drop]; have := HBA.out; omega⟩
      have HI := Lib.hid (insertion_F wr base g cap n a b P B S lP (by rw [lB, HBA.out]) (by omega) HRW.out)
      have HL := Lib.hid (And.intro lP lB)
      clear hlD lP lB
      go_wp2_with fail
      refine HI.out.mono ?_
      rintro e w1 ⟨rfl, M, hst, hrw1, hfr1⟩
      have H1 := Lib.hid (And.intro hst (And.intro hrw1 hfr1))
      clear hst hrw1 hfr1 HI
      go_wp2_with fail
      go_roundw
      case rel =>
        have hMl := H1.out.1.len
        exact ⟨b, b + 20, q + 1, P ++ (M ++ S), rfl, by go_num, by have := HQ.out; have := HBA.out; omega, rfl, hlt, HK.out.trans ((Keeps.refl P).append (H1.out.1.keeps.append (Keeps.refl S))), by
          have h := (HSB.out.left ⟨q, HQ.out⟩ HL.out.1.symm (Y := M ++ S)).more HL.out.1 ⟨q, HQ.out⟩ H1.out.1.2.1 (.inl (by rw [hMl]; exact HL.out.2)) (by omega) (by rw [hMl, HL.out.2]; exact Nat.le_refl _)
          rw [hMl, HL.out.2, ← HBA.out] at h
          exact h, H1.out.2.1, HFR.out.then H1.out.2.2⟩
      case measure => simp [intOf]; omega
    · have hd : decide ((b : Int) ≤ (n : Int)) = false := decide_eq_false (by omega)
      have hlD := HRW.out.len
      obtain ⟨P, B, rfl, lP⟩ : ∃ P B, D = P ++ B ∧ P.length = a := ⟨D.take a, D.drop a, (List.take_append_drop _ _).symm, by rw [List.length_take]; omega⟩
      have lB : B.length < 20 := by rw [List.length_append] at hlD; have := HBA.out; omega
      have lBn : a + B.length = n := by rw [List.length_append] at hlD; omega
      have HI := Lib.hid (insertion_F wr base g cap n a n P B [] lP lBn (by omega) (by rw [List.append_nil]; exact HRW.out))
      have HL := Lib.hid (And.intro lP (And.intro lB lBn))
      clear hlD lP lB lBn
      go_wp2_with fail
      refine HI.out.mono ?_
      rintro e w1 ⟨rfl, M, hst, hrw1, hfr1⟩
      rw [List.append_nil] at hrw1
      have H1 := Lib.hid (show Keeps Fir.nominal d (P ++ M) ∧ SB 20 0 n (P ++ M) ∧ RwF w1 base g cap n (P ++ M) ∧ Fr (fun k => k = g) W0 w1 from ⟨HK.out.trans ((Keeps.refl P).append hst.keeps), by
        have hMl := hst.len
        have h0 : SB 20 0 a (P ++ (M ++ [])) := HSB.out.left ⟨q, HQ.out⟩ HL.out.1.symm (Y := M ++ [])
        have h := h0.more HL.out.1 ⟨q, HQ.out⟩ hst.2.1 (.inr rfl) (by omega) (by rw [hMl]; have := HL.out.2.1; omega)
        rw [hMl, HL.out.2.2, List.append_nil] at h
        exact h, hrw1, HFR.out.then hfr1⟩)
      generalize P ++ M = D at *
      clear hst hrw1 hfr1 HI HK HSB HRW HFR HQ HBA HL
      go_wp2_with fail
      go_loopw [6] (fun sv wr => ∃ (bs : Nat) (D : List Fir), sv = .int .i64 bs ∧ 0 < bs ∧ bs ≤ 2 * n + 20 ∧ Keeps Fir.nominal d D ∧ SB bs 0 n D ∧ RwF wr base g cap n D ∧ Fr (fun k => k = g) W0 wr) (fun sv _ => n - (intOf sv).toNat)
      case atStart => exact ⟨20, D, rfl, by omega, by omega, H1.out.1, H1.out.2.1, H1.out.2.2.1, H1.out.2.2.2⟩
      case round =>
        obtain ⟨bs, D, rfl, hbs, hbs2, hk, hsb, hrw, hfr⟩ := hrel
        have HK := Lib.hid hk
        have HSB := Lib.hid hsb
        have HRW := Lib.hid hrw
        have HFR := Lib.hid hfr
        clear hk hsb hrw hfr H1
        by_cases hlt : bs < n
        · have hd3 : decide ((bs : Int) < (n : Int)) = true := decide_eq_true (by omega)
          obtain ⟨c, hc⟩ : ∃ c, c = 2 * bs := ⟨_, rfl⟩
          have e1 : (2 : Int) * (bs : Int) = (c : Int) := by omega
          have e2 : (bs : Int) * 2 = (c : Int) := by omega
          have hc2 : c ≤ 2 * n + 20 := by omega
          have HC := Lib.hid hc
          clear hc
          go_wp2_with fail
          go_loopw [7, 8] (fun av bv wi => ∃ (a b q : Nat) (D : List Fir), av = .int .i64 a ∧ bv = .int .i64 b ∧ a = q * c ∧ b = a + c ∧ a ≤ n ∧ Keeps Fir.nominal d D ∧ SB c 0 a D ∧ SB bs a n D ∧ RwF wi base g cap n D ∧ Fr (fun k => k = g) W0 wi) (fun _ bv _ => n + c + 1 - (intOf bv).toNat)
          case atStart => exact ⟨0, c, 0, D, rfl, rfl, by omega, by omega, Nat.zero_le _, HK.out, fun t h1 h2 => by omega, HSB.out, HRW.out, HFR.out⟩
          case round =>
            obtain ⟨a, b, q, D, rfl, rfl, hq, hb, han, hk, hs1, hs2, hrw, hfr⟩ := hrel
            have HK2 := Lib.hid hk
            have HS1 := Lib.hid hs1
            have HS2 := Lib.hid hs2
            have HRI := Lib.hid hrw
            have HFI := Lib.hid hfr
            have HQ := Lib.hid hq
            have HBA := Lib.hid hb
            have HQ2 := Lib.hid (show a = (q * 2) * bs by rw [hq, HC.out, Nat.mul_assoc])
            have HQ3 := Lib.hid (show a + bs = (q * 2 + 1) * bs by rw [Nat.add_mul, Nat.one_mul, ← HQ2.out])
            have hcp : 0 < c := by have := HC.out; omega
            clear hk hs1 hs2 hrw hfr hq hb
            by_cases hlt2 : b ≤ n
            · have hd4 : decide ((b : Int) ≤ (n : Int)) = true := decide_eq_true (by omega)
              have hlD := HRI.out.len
              obtain ⟨P, L, R, S, rfl, lP, lL, lR⟩ : ∃ P L R S, D = P ++ (L ++ (R ++ S)) ∧ P.length = a ∧ L.length = bs ∧ R.length = bs := ⟨D.take a, (D.drop a).take bs, ((D.drop a).drop bs).take bs, ((D.drop a).drop bs).drop bs, by rw [List.take_append_drop, List.take_append_drop, List.take_append_drop], by rw [List.length_take]; omega, by rw [List.length_take, List.length_drop]; have := HBA.out; have := HC.out; omega, by rw [List.length_take, List.length_drop, List.length_drop]; have := HBA.out; have := HC.out; omega⟩
              obtain ⟨m, hm⟩ : ∃ m, a + bs = m := ⟨_, rfl⟩
              have e3 : (a : Int) + (bs : Int) = (m : Int) := by omega
              have sL : FSorted L := by
                have h := HS2.out.at_ lP ⟨_, HQ2.out⟩ (Nat.le_refl _) (by have := HBA.out; omega)
                rw [List.take_append_of_le_length (by omega), List.take_of_length_le (by omega)] at h
                exact h
              have sR : FSorted R := by
                have h0 := HS2.out
                rw [← List.append_assoc] at h0
                have h := h0.at_ (a := a + bs) (by rw [List.length_append, lP, lL]) ⟨_, HQ3.out⟩ (by omega) (by have := HBA.out; have := HC.out; omega)
                rw [List.take_append_of_le_length (by omega), List.take_of_length_le (by omega)] at h
                exact h
              have HI := Lib.hid (symMerge_F base g cap n (by omega) (b + 1) wr a m b P L R S lP (by omega) (by have := HBA.out; have := HC.out; omega) (by omega) (by omega) (by omega) sL sR HRI.out)
              have HL := Lib.hid (And.intro lP (And.intro lL lR))
              have hmn : m ≤ n := by have := HBA.out; have := HC.out; omega
              clear hlD lP lL lR sL sR hm
              go_wp2_with fail
              refine HI.out.mono ?_
              rintro e w1 ⟨rfl, M, hst, hrw1, hfr1⟩
              have H1 := Lib.hid (And.intro hst (And.intro hrw1 hfr1))
              clear hst hrw1 hfr1 HI
              go_wp2_with fail
              go_roundw
              case rel =>
                have hMl := H1.out.1.len
                have hMl2 : M.length = c := by rw [hMl, List.length_append]; have := HL.out.2; have := HC.out; omega
                have hK3 : Keeps Fir.nominal (P ++ (L ++ (R ++ S))) (P ++ (M ++ S)) := by
                  have h := (Keeps.refl (key := Fir.nominal) P).append (H1.out.1.keeps.append (Keeps.refl S))
                  rwa [List.append_assoc L] at h
                exact ⟨b, b + c, q + 1, P ++ (M ++ S), rfl, by go_num, by rw [Nat.add_mul, Nat.one_mul, ← HQ.out, HBA.out], rfl, hlt2, HK2.out.trans hK3, by
                  have h := (HS1.out.left ⟨q, HQ.out⟩ HL.out.1.symm (Y := M ++ S)).more HL.out.1 ⟨q, HQ.out⟩ H1.out.1.2.1 (.inl hMl2) hcp (by omega)
                  rw [hMl2, ← HBA.out] at h
                  exact h, by
                  have h0 := HS2.out
                  rw [← List.append_assoc L] at h0
                  exact (h0.mono (lo' := b) (by have := HBA.out; omega)).rest (by rw [hMl]) (by rw [List.length_append, List.length_append]; have := HL.out; have := HBA.out; have := HC.out; omega), H1.out.2.1, HFI.out.then H1.out.2.2⟩
              case measure => simp [intOf]; omega
            · have hd4 : decide ((b : Int) ≤ (n : Int)) = false := decide_eq_false (by omega)
              have hlD := HRI.out.len
              obtain ⟨m, hm⟩ : ∃ m, a + bs = m := ⟨_, rfl⟩
              have e3 : (a : Int) + (bs : Int) = (m : Int) := by omega
              by_cases hmn : m < n
              · have hd5 : decide ((m : Int) < (n : Int)) = true := decide_eq_true (by omega)
                obtain ⟨P, L, R, rfl, lP, lL⟩ : ∃ P L R, D = P ++ (L ++ R) ∧ P.length = a ∧ L.length = bs := ⟨D.take a, (D.drop a).take bs, (D.drop a).drop bs, by rw [List.take_append_drop, List.take_append_drop], by rw [List.length_take]; omega, by rw [List.length_take, List.length_drop]; omega⟩
                have lR : R.length + m = n := by simp only [List.length_append] at hlD; omega
                have sL : FSorted L := by
                  have h := HS2.out.at_ lP ⟨_, HQ2.out⟩ (Nat.le_refl _) (by omega)
                  rw [List.take_append_of_le_length (by omega), List.take_of_length_le (by omega)] at h
                  exact h
                have sR : FSorted R := by
                  have h0 := HS2.out
                  rw [← List.append_assoc] at h0
                  have h := h0.at_ (a := a + bs) (by rw [List.length_append, lP, lL]) ⟨_, HQ3.out⟩ (by omega) (by omega)
                  rw [List.take_of_length_le (by have := HBA.out; have := HC.out; omega)] at h
                  exact h
                have HI := Lib.hid (symMerge_F base g cap n (by omega) (n + 1) wr a m n P L R [] lP (by omega) (by omega) (by omega) (by omega) (by omega) sL sR (by rw [List.append_nil]; exact HRI.out))
                have HL := Lib.hid (And.intro lP (And.intro lL lR))
                clear hlD lP lL lR sL sR hm
                go_wp2_with fail
                refine HI.out.mono ?_
                rintro e w1 ⟨rfl, M, hst, hrw1, hfr1⟩
                have H1 := Lib.hid (And.intro hst (And.intro hrw1 hfr1))
                clear hst hrw1 hfr1 HI
                go_wp2_with fail
                go_roundw
                case rel =>
                  have hMl := H1.out.1.len
                  have hMl2 : a + M.length = n := by rw [hMl, List.length_append]; have := HL.out.2; omega
                  exact ⟨c, P ++ M, rfl, hcp, hc2, HK2.out.trans ((Keeps.refl P).append H1.out.1.keeps), by
                    have h := (HS1.out.left ⟨q, HQ.out⟩ HL.out.1.symm (Y := M ++ [])).more HL.out.1 ⟨q, HQ.out⟩ H1.out.1.2.1 (.inr rfl) hcp (by have := HBA.out; omega)
                    rw [hMl2, List.append_nil] at h
                    exact h, by have h := H1.out.2.1; rwa [List.append_nil] at h, HFI.out.then H1.out.2.2⟩
                case measure => have := HC.out; simp [intOf]; omega
              · have hd5 : decide ((m : Int) < (n : Int)) = false := decide_eq_false (by omega)
                obtain ⟨P, L, rfl, lP⟩ : ∃ P L, D = P ++ L ∧ P.length = a := ⟨D.take a, D.drop a, (List.take_append_drop _ _).symm, by rw [List.length_take]; omega⟩
                have lL : a + L.length = n := by rw [List.length_append] at hlD; omega
                have sL : FSorted L := by
                  rcases Nat.lt_or_ge a n with h1 | h1
                  · have h := HS2.out.at_ lP ⟨_, HQ2.out⟩ (Nat.le_refl _) h1
                    rw [List.take_of_length_le (by omega)] at h
                    exact h
                  · rw [List.eq_nil_of_length_eq_zero (show L.length = 0 by omega)]
                    exact List.Pairwise.nil
                have HSN := Lib.hid (show SB c 0 n (P ++ L) by
                  have h := (HS1.out.left ⟨q, HQ.out⟩ lP.symm (Y := L ++ [])).more lP ⟨q, HQ.out⟩ sL (.inr rfl) hcp (by have := HC.out; omega)
                  rw [lL, List.append_nil] at h
                  exact h)
                clear hlD lP lL sL hm
                go_wp2_with fail
                go_roundw
                case rel => exact ⟨c, P ++ L, rfl, hcp, hc2, HK2.out, HSN.out, HRI.out, HFI.out⟩
                case measure => have := HC.out; simp [intOf]; omega
        · have hd3 : decide ((bs : Int) < (n : Int)) = false := decide_eq_false (by omega)
          have HST := Lib.hid (show Stab Fir.nominal d D from HK.out.stab (by
            have hl := HRW.out.len
            rcases Nat.eq_zero_or_pos n with h | h
            · rw [List.eq_nil_of_length_eq_zero (show D.length = 0 by omega)]
              exact List.Pairwise.nil
            · have h1 := HSB.out 0 (by omega) (by omega)
              rw [Nat.zero_mul, List.drop_zero, List.take_of_length_le (by omega)] at h1
              exact h1))
          go_wp2_with fail
          go_end0
          exact ⟨rfl, D, HST.out, HRW.out, HFR.out⟩
theorem sortStable_F (W0 : World) (base g cap n : Nat) (d : List Fir) (hn : n ≤ 1000000) (hR : RwF W0 base g cap n d) :
    Calls Tryd.prog 14 #[.slice (some ⟨g, 0, none⟩) n cap, .func (.func 15) #[] #[]] W0 fun e w' => e = .returned (.tuple #[]) ∧ ∃ M, Stab Fir.nominal d M ∧ RwF w' base g cap n M ∧ Fr (fun k => k = g) W0 w' := by
  have HS := Lib.hid (stable_F W0 base g cap n d hn hR)
  clear hR
  go_enter Tryd.func14, Tryd.ntmps14
  go_wp2_with fail
  refine HS.out.mono ?_
  rintro e w1 ⟨rfl, M, h⟩
  have H := Lib.hid h
  clear h
  go_wp2_with fail
  go_end0
  exact ⟨rfl, M, H.out⟩
end Go.Proofs.YtkdpflgkcnhoiaaDoor
