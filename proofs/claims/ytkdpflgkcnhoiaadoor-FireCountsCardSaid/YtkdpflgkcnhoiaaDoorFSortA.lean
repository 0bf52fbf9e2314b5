/-
  Sorting rows of firings, walked: insertion, exchanges of ranges, turns.
-/
import Derived.Test.YtkdpflgkcnhoiaaDoorFBase
namespace Go.Proofs.YtkdpflgkcnhoiaaDoor
open Go Go.RowKit Go.Shelf
set_option maxRecDepth 100000

/-- What the order of firings answers. -/
def cmpZ (a b : Int) : Int := if a < b then -1 else if a > b then 1 else 0
theorem cmpZ_lt (a b : Int) : (cmpZ a b < 0) = (a < b) := by
  unfold cmpZ
  split
  · simp; assumption
  · split <;> simp <;> omega
theorem isNaN_any (a : Int) (w : World) : Calls Tryd.prog 39 #[.int .i64 a] w fun e w' => e = .returned (.bool false) ∧ w' = w := by
  go_enter Tryd.func39, Tryd.ntmps39
  go_wp2_with fail
  go_ret
  exact ⟨rfl, rfl⟩
set_option maxHeartbeats 1000000 in
theorem cmpInt_any (a b : Int) (w : World) :
    Calls Tryd.prog 26 #[.int .i64 a, .int .i64 b] w fun e w' => e = .returned (.int .i64 (cmpZ a b)) ∧ w' = w := by
  have HN := Lib.hid (fun (a : Int) W => isNaN_any a W)
  by_cases h1 : a < b
  · have HV := Lib.hid (show cmpZ a b = -1 by unfold cmpZ; rw [if_pos h1])
    have hd : decide (a < b) = true := decide_eq_true h1
    go_enter Tryd.func26, Tryd.ntmps26
    go_wp2_with fail
    refine (HN.out _ _).mono ?_
    rintro e w1 ⟨rfl, rfl⟩
    go_wp2_with fail
    refine (HN.out _ _).mono ?_
    rintro e w1 ⟨rfl, rfl⟩
    go_wp2_with fail
    go_ret
    exact ⟨by rw [HV.out]; rfl, rfl⟩
  · have hd : decide (a < b) = false := decide_eq_false h1
    by_cases h2 : b < a
    · have HV := Lib.hid (show cmpZ a b = 1 by unfold cmpZ; rw [if_neg h1, if_pos h2])
      have he : decide (b < a) = true := decide_eq_true h2
      go_enter Tryd.func26, Tryd.ntmps26
      go_wp2_with fail
      refine (HN.out _ _).mono ?_
      rintro e w1 ⟨rfl, rfl⟩
      go_wp2_with fail
      refine (HN.out _ _).mono ?_
      rintro e w1 ⟨rfl, rfl⟩
      go_wp2_with fail
      go_ret
      exact ⟨by rw [HV.out]; rfl, rfl⟩
    · have HV := Lib.hid (show cmpZ a b = 0 by unfold cmpZ; rw [if_neg h1, if_neg h2])
      have he : decide (b < a) = false := decide_eq_false h2
      go_enter Tryd.func26, Tryd.ntmps26
      go_wp2_with fail
      refine (HN.out _ _).mono ?_
      rintro e w1 ⟨rfl, rfl⟩
      go_wp2_with fail
      refine (HN.out _ _).mono ?_
      rintro e w1 ⟨rfl, rfl⟩
      go_wp2_with fail
      go_ret
      exact ⟨by rw [HV.out]; rfl, rfl⟩
set_option maxHeartbeats 1000000 in
theorem order_any (x y : Fir) (w : World) :
    Calls Tryd.prog 15 #[firA x, firA y] w fun e w' => e = .returned (.int .i64 (cmpZ x.nominal y.nominal)) ∧ Below w.heap.size w w' := by
  have hb0 : Below w.heap.size w ((w.alloc (.cells #[.int .i64 x.nominal, .int .i64 x.kind, .int .i64 x.save, .string x.letter] 31)).alloc (.cells #[.int .i64 y.nominal, .int .i64 y.kind, .int .i64 y.save, .string y.letter] 31)) := ((Below.refl _ _).alloc (Nat.le_refl _) _).alloc (by simp) _
  have HC := Lib.hid (fun W => cmpInt_any x.nominal y.nominal W)
  have h1 := (Blk.new w 31 #[.int .i64 x.nominal, .int .i64 x.kind, .int .i64 x.save, .string x.letter]).alloc (.cells #[.int .i64 y.nominal, .int .i64 y.kind, .int .i64 y.save, .string y.letter] 31)
  have h2 := Blk.new (w.alloc (.cells #[.int .i64 x.nominal, .int .i64 x.kind, .int .i64 x.save, .string x.letter] 31)) 31 #[.int .i64 y.nominal, .int .i64 y.kind, .int .i64 y.save, .string y.letter]
  rw [World.size_alloc] at h2
  have c0 := h1.cell 0 (v := .int .i64 x.nominal) rfl
  have c1 := h2.cell 0 (v := .int .i64 y.nominal) rfl
  clear h1 h2
  generalize cmpZ x.nominal y.nominal = z at *
  unfold firA
  go_enter Tryd.func15, Tryd.ntmps15
  go_wp2_with fail
  refine (HC.out _).mono ?_
  rintro e w1 ⟨rfl, rfl⟩
  go_wp2_with fail
  go_ret
  exact ⟨rfl, hb0⟩

set_option maxHeartbeats 4000000 in
theorem insertion_F (W0 : World) (base g cap n a b : Nat) (P B S : List Fir) (ha : P.length = a) (hb : a + B.length = b) (hn : n ≤ 1000000000) (hR : RwF W0 base g cap n (P ++ (B ++ S))) :
    Calls Tryd.prog 40 #[.slice (some ⟨g, 0, none⟩) n cap, .int .i64 a, .int .i64 b, .func (.func 15) #[] #[]] W0 fun e w' => e = .returned (.tuple #[]) ∧ ∃ M, Stab Fir.nominal B M ∧ RwF w' base g cap n (P ++ (M ++ S)) ∧ Fr (fun k => k = g) W0 w' := by
  have hroom := hR.room
  have hlen := hR.len
  unfold maxLen at hroom
  simp only [List.length_append] at hlen
  have HR := Lib.hid hR
  clear hR
  obtain ⟨m, hm⟩ : ∃ m, B.length = m := ⟨_, rfl⟩
  rw [ha, hm] at hlen
  rw [hm] at hb
  have HA := Lib.hid ha
  have HM := Lib.hid hm
  clear ha hm
  go_enter Tryd.func40, Tryd.ntmps40
  go_wp2_with fail
  go_loopw [8] (fun iv wr => ∃ (k i : Nat) (M : List Fir), 1 ≤ k ∧ (k ≤ m ∨ k = 1) ∧ i = a + k ∧ iv = .int .i64 i ∧ Stab Fir.nominal (B.take k) M ∧ RwF wr base g cap n (P ++ (M ++ (B.drop k ++ S))) ∧ Fr (fun k => k = g) W0 wr) (fun iv _ => b - (intOf iv).toNat)
  case atStart => exact ⟨1, a + 1, B.take 1, by omega, by omega, rfl, by go_num, by
    rcases B with _ | ⟨x, B⟩
    · exact Stab.nil
    · exact Stab.one x, by rw [← List.append_assoc (B.take 1), List.take_append_drop]; exact HR.out, Fr.refl _ _⟩
  case round =>
    obtain ⟨k, i, M, hk1, hk, hik, rfl, hst, hrw, hfr⟩ := hrel
    have HST := Lib.hid hst
    have HRW := Lib.hid hrw
    have HFR := Lib.hid hfr
    have hml := hst.len
    rw [List.length_take, HM.out] at hml
    clear hst hrw hfr
    have HIK := Lib.hid hik
    have hin : i ≤ n + 1 := by omega
    by_cases hlt : i < b
    · have hlt' : (i : Int) < (b : Int) := by omega
      have hd : decide ((i : Int) < (b : Int)) = true := decide_eq_true hlt'
      have hkm : k < m := by omega
      have hMk : M.length = k := by omega
      have hib : i = a + M.length := by omega
      have HIB := Lib.hid hib
      clear hik hib hml
      have hkB : k < B.length := by rw [HM.out]; exact hkm
      obtain ⟨x, hx⟩ : ∃ x, B[k] = x := ⟨_, rfl⟩
      obtain ⟨T, hT⟩ : ∃ T, B.drop (k + 1) ++ S = T := ⟨_, rfl⟩
      have HD := Lib.hid (show B.drop k ++ S = x :: T by rw [List.drop_eq_getElem_cons hkB, hx, List.cons_append, hT])
      have HTK := Lib.hid (show B.take (k + 1) = B.take k ++ [x] by rw [List.take_succ_eq_append_getElem hkB, hx])
      have HT := Lib.hid hT
      rw [HD.out] at HRW
      clear hx hT
      go_wp2_with fail
      go_loopw [9] (fun jv wi => ∃ (j : Nat) (U V : List Fir), j = a + U.length ∧ jv = .int .i64 j ∧ U ++ V = M ∧ (∀ v ∈ V, x.nominal < v.nominal) ∧ RwF wi base g cap n (P ++ (U ++ x :: (V ++ T))) ∧ Fr (fun k => k = g) W0 wi) (fun jv _ => (intOf jv).toNat)
      case atStart => exact ⟨i, M, [], HIB.out, rfl, List.append_nil _, fun v hv => by simp at hv, HRW.out, HFR.out⟩
      case round =>
        obtain ⟨j, Us, V, hj, rfl, hUV, hV, hrw, hfr⟩ := hrel
        have HUV := Lib.hid hUV
        have HV := Lib.hid hV
        have HRI := Lib.hid hrw
        have HFI := Lib.hid hfr
        have hlM : Us.length + V.length = M.length := by rw [← hUV, List.length_append]
        clear hUV hV hrw hfr
        rcases List.eq_nil_or_concat Us with rfl | ⟨U', y, rfl⟩
        · obtain rfl : j = a := by simpa using hj
          clear hj
          go_wp2_with fail
          refine wp_env (fin := ?fnn) (by kernel_rfl) [18, 19, 20, 21, 22, 23, 24, 25, 26, 27, 28, 29, 30, 31, 32, 33, 34]
            [.int .i64 j, .int .i64 j, .bool false, .bool false, undef, undef, undef, undef, undef, undef, undef, undef, undef, undef, undef, undef, .bool false] (by kernel_rfl) ?finn ?stepsn ?nextn
          case finn =>
            simp only [putAll, Act.put, List.setIfInBounds_toArray, List.set_cons_succ, List.set_cons_zero]
            rfl
          case stepsn =>
            refine ⟨.inr ⟨by kernel_rfl, fun w1_ hB_ => ?_⟩, .inr ⟨by kernel_rfl, fun w1_ hB_ => ?_⟩, .inr ⟨by kernel_rfl, fun w1_ hB_ => ?_⟩, .inr ⟨by kernel_rfl, fun w1_ hB_ => ?_⟩, .inl ⟨by kernel_rfl, rfl⟩, .inl ⟨by kernel_rfl, rfl⟩, .inl ⟨by kernel_rfl, rfl⟩, .inl ⟨by kernel_rfl, rfl⟩, .inl ⟨by kernel_rfl, rfl⟩, .inl ⟨by kernel_rfl, rfl⟩, .inl ⟨by kernel_rfl, rfl⟩, .inl ⟨by kernel_rfl, rfl⟩, .inl ⟨by kernel_rfl, rfl⟩, .inl ⟨by kernel_rfl, rfl⟩, .inl ⟨by kernel_rfl, rfl⟩, .inl ⟨by kernel_rfl, rfl⟩, .inr ⟨by kernel_rfl, fun w1_ hB_ => ?_⟩, trivial⟩
            all_goals
              clear hB_
              go_simp
              first
                | exact ⟨rfl, Below.refl _ _⟩
                | exact ⟨rfl, HCMP.out w1_⟩
                | (rw [IntWalk.i64_in _ (by omega)]; exact ⟨rfl, Below.refl _ _⟩)
                | (rw [decide_eq_true (by omega)]; exact ⟨rfl, Below.refl _ _⟩)
                | (rw [decide_eq_false (by omega)]; exact ⟨rfl, Below.refl _ _⟩)
                | (rw [if_pos (by omega)]; exact ⟨rfl, Below.refl _ _⟩)
                | done
          case nextn =>
          intro w7 hb7
          have HB7 := Lib.hid hb7
          clear hb7
          go_wp2_with fail
          go_roundw
          case rel => exact ⟨k + 1, i + 1, x :: M, by omega, by omega, by have := HIK.out; omega, by go_num, by
            rw [HTK.out]
            have e := HUV.out
            rw [List.nil_append] at e
            exact Stab.put (A := []) (B := M) HST.out (by simp) (by rw [← e]; exact HV.out), by
            have e := HUV.out
            have h := HRI.out
            rw [List.nil_append] at e h
            rw [← HT.out, e] at h
            exact h.below HB7.out, HFI.out.then (Fr.of_below HB7.out (Nat.le_refl _))⟩
          case measure => first | (simp [intOf]; done) | (simp [intOf]; omega)
        · rw [List.concat_eq_append] at *
          have e1 := HRI.out
          rw [List.append_assoc U', ← List.append_assoc P, List.singleton_append] at e1
          have HE := Lib.hid e1
          have HE2 := Lib.hid (show RwF wr base g cap n ((P ++ (U' ++ [y])) ++ x :: (V ++ T)) by have h := HRI.out; rw [← List.append_assoc] at h; exact h)
          clear e1
          obtain ⟨p, hp⟩ : ∃ p, (P ++ U').length = p := ⟨_, rfl⟩
          have hp2 : (P ++ (U' ++ [y])).length = p + 1 := by rw [← hp]; simp only [List.length_append, List.length_cons, List.length_nil]; omega
          have hpa : a ≤ p := by rw [← hp, List.length_append, HA.out]; omega
          have hpn : p + 1 < n := by
            have h := HE2.out.len
            rw [List.length_append, hp2, List.length_cons] at h
            omega
          obtain rfl : j = p + 1 := by
            rw [hj, ← hp]; simp only [List.length_append, List.length_cons, List.length_nil, HA.out]; omega
          rw [show ((p + 1 : Nat) : Int) = (p : Int) + 1 from rfl]
          have HCY := Lib.hid HE.out.at_
          have HCX := Lib.hid HE2.out.at_
          have HFZ := Lib.hid (fun j => HE.out.frozen j)
          rw [hp] at HCY
          rw [hp2] at HCX
          have HP := Lib.hid hp
          have HP2 := Lib.hid hp2
          clear hp hp2 hj
          have HCMP := Lib.hid (fun W => order_any x y W)
          unfold firA at HCMP
          have HCZ := Lib.hid (cmpZ_lt x.nominal y.nominal)
          obtain ⟨z, hz⟩ : ∃ z, cmpZ x.nominal y.nominal = z := ⟨_, rfl⟩
          rw [hz] at HCMP HCZ
          clear hz
          have HK := Lib.hid (fun (W : World) (h : Below wr.heap.size wr W) => show (_ ∧ _ ∧ _ ∧ _) ∧ (_ ∧ _ ∧ _ ∧ _) from ⟨HP2.out ▸ (HE2.out.below h).at_, HP.out ▸ (HE.out.below h).at_⟩)
          by_cases hxy : x.nominal < y.nominal
          · have hz : z < 0 := by rw [HCZ.out]; exact hxy
            go_wp2_with fail
            refine wp_env (fin := ?fnt) (by kernel_rfl) [18, 19, 20, 21, 22, 23, 24, 25, 26, 27, 28, 29, 30, 31, 32, 33, 34]
              [.int .i64 ((p : Int) + 1), .int .i64 a, .bool true, .bool true, .func (.func 15) #[] #[], .slice (some ⟨g, 0, none⟩) n cap, .int .i64 ((p : Int) + 1), .pointer (some ⟨g, (p + 1) * 4, none⟩), firA x, .slice (some ⟨g, 0, none⟩) n cap, .int .i64 ((p : Int) + 1), .int .i64 p, .pointer (some ⟨g, p * 4, none⟩), firA y, .int .i64 z, .bool true, .bool true] (by kernel_rfl) ?fint ?stepst ?nextt
            case fint =>
              simp only [putAll, Act.put, List.setIfInBounds_toArray, List.set_cons_succ, List.set_cons_zero]
              rfl
            case stepst =>
              unfold firA
              refine ⟨.inr ⟨by kernel_rfl, fun w1_ hB_ => ?_⟩, .inr ⟨by kernel_rfl, fun w1_ hB_ => ?_⟩, .inr ⟨by kernel_rfl, fun w1_ hB_ => ?_⟩, .inr ⟨by kernel_rfl, fun w1_ hB_ => ?_⟩, .inr ⟨by kernel_rfl, fun w1_ hB_ => ?_⟩, .inr ⟨by kernel_rfl, fun w1_ hB_ => ?_⟩, .inr ⟨by kernel_rfl, fun w1_ hB_ => ?_⟩, .inr ⟨by kernel_rfl, fun w1_ hB_ => ?_⟩, .inr ⟨by kernel_rfl, fun w1_ hB_ => ?_⟩, .inr ⟨by kernel_rfl, fun w1_ hB_ => ?_⟩, .inr ⟨by kernel_rfl, fun w1_ hB_ => ?_⟩, .inr ⟨by kernel_rfl, fun w1_ hB_ => ?_⟩, .inr ⟨by kernel_rfl, fun w1_ hB_ => ?_⟩, .inr ⟨by kernel_rfl, fun w1_ hB_ => ?_⟩, .inr ⟨by kernel_rfl, fun w1_ hB_ => ?_⟩, .inr ⟨by kernel_rfl, fun w1_ hB_ => ?_⟩, .inr ⟨by kernel_rfl, fun w1_ hB_ => ?_⟩, trivial⟩
              all_goals
                obtain ⟨⟨c0, c1, c2, c3⟩, ⟨d0, d1, d2, d3⟩⟩ := HK.out w1_ hB_
                clear hB_
                go_simp
                first
                  | exact ⟨rfl, Below.refl _ _⟩
                  | exact ⟨rfl, HCMP.out w1_⟩
                  | (rw [IntWalk.i64_in _ (by omega)]; exact ⟨rfl, Below.refl _ _⟩)
                  | (rw [decide_eq_true (by omega)]; exact ⟨rfl, Below.refl _ _⟩)
                  | (rw [decide_eq_false (by omega)]; exact ⟨rfl, Below.refl _ _⟩)
                  | (rw [if_pos (by omega)]; exact ⟨rfl, Below.refl _ _⟩)
                  | done
            case nextt =>
            intro w7 hb7
            have HB7 := Lib.hid hb7
            have HE7 := Lib.hid (HE.out.below hb7)
            have HE7' := Lib.hid (HE2.out.below hb7)
            clear hb7
            have ⟨c0, c1, c2, c3⟩ := HP2.out ▸ HE7'.out.at_
            have ⟨d0, d1, d2, d3⟩ := HP.out ▸ HE7.out.at_
            have fz := HE7.out.frozen
            go_wp2_with fail
            have HSW := Lib.hid (RwF.swap (Q := []) HE7.out)
            obtain ⟨wa, hwa⟩ : ∃ W, putF w7.drew g ((p + 1) * 4) y = W := ⟨_, rfl⟩
            obtain ⟨wb, hwb⟩ : ∃ W, putF w7.drew g (p * 4) x = W := ⟨_, rfl⟩
            obtain ⟨wc, hwc⟩ : ∃ W, putF wa g (p * 4) x = W := ⟨_, rfl⟩
            obtain ⟨wd, hwd⟩ : ∃ W, putF wb g ((p + 1) * 4) y = W := ⟨_, rfl⟩
            have HSX := HSW.out
            rw [HP.out, List.length_nil, Nat.add_zero] at HSX
            rw [hwa, hwb, hwc, hwd] at HSX
            obtain ⟨sA, sB, sC, sD, fC, fD⟩ := HSX
            have HSA := Lib.hid (show ((_ ∧ _ ∧ _ ∧ _) ∧ ∀ j, _) from ⟨HP.out ▸ sA.at_, fun j => sA.frozen j⟩)
            have HSB := Lib.hid (show ((_ ∧ _ ∧ _ ∧ _) ∧ ∀ j, _) from ⟨by have h := sB; rw [List.nil_append, show P ++ U' ++ x :: x :: (V ++ T) = (P ++ (U' ++ [x])) ++ x :: (V ++ T) by simp] at h; have h := h.at_; rw [show (P ++ (U' ++ [x])).length = p + 1 by rw [← HP.out]; simp only [List.length_append, List.length_cons, List.length_nil]; omega] at h; exact h, fun j => sB.frozen j⟩)
            have HSE := Lib.hid (fun w8 (h8 : w8 = wc ∨ w8 = wd) => show RwF w8 base g cap n (P ++ U' ++ x :: (y :: (V ++ T))) ∧ Fr (fun k => k = g) w7 w8 by rcases h8 with rfl | rfl; exact ⟨sC, fC⟩; exact ⟨sD, fD⟩)
            clear sA sB sC sD fC fD
            refine wp_envW (fin := ?fns) (by kernel_rfl) [37, 38, 39, 40, 41, 42, 43, 44, 45, 46, 47, 48, 49, 50, 51, 900, 52, 901]
              [.slice (some ⟨g, 0, none⟩) n cap, .int .i64 ((p : Int) + 1), .slice (some ⟨g, 0, none⟩) n cap, .int .i64 ((p : Int) + 1), .int .i64 p, .slice (some ⟨g, 0, none⟩) n cap, .int .i64 ((p : Int) + 1), .int .i64 p, .pointer (some ⟨g, p * 4, none⟩), firA y, .slice (some ⟨g, 0, none⟩) n cap, .int .i64 ((p : Int) + 1), .pointer (some ⟨g, (p + 1) * 4, none⟩), firA x, .pointer (some ⟨g, (p + 1) * 4, none⟩), undef, .pointer (some ⟨g, p * 4, none⟩), undef] 15 17 _ _ wa wb wc wd (by kernel_rfl) rfl rfl (by simp) (by simp) (by decide) ?fins ?stepss ?sas ?sbs ?scs ?sds ?nexts
            case fins =>
              simp only [putAll, Act.put, List.setIfInBounds_toArray, List.set_cons_succ, List.set_cons_zero]
              rfl
            case stepss =>
              unfold firA
              refine ⟨.inr (.inr ⟨by kernel_rfl, fun w1_ hB_ => ?_⟩), .inr (.inr ⟨by kernel_rfl, fun w1_ hB_ => ?_⟩), .inr (.inr ⟨by kernel_rfl, fun w1_ hB_ => ?_⟩), .inr (.inr ⟨by kernel_rfl, fun w1_ hB_ => ?_⟩), .inr (.inr ⟨by kernel_rfl, fun w1_ hB_ => ?_⟩), .inr (.inr ⟨by kernel_rfl, fun w1_ hB_ => ?_⟩), .inr (.inr ⟨by kernel_rfl, fun w1_ hB_ => ?_⟩), .inr (.inr ⟨by kernel_rfl, fun w1_ hB_ => ?_⟩), .inr (.inr ⟨by kernel_rfl, fun w1_ hB_ => ?_⟩), .inr (.inr ⟨by kernel_rfl, fun w1_ hB_ => ?_⟩), .inr (.inr ⟨by kernel_rfl, fun w1_ hB_ => ?_⟩), .inr (.inr ⟨by kernel_rfl, fun w1_ hB_ => ?_⟩), .inr (.inr ⟨by kernel_rfl, fun w1_ hB_ => ?_⟩), .inr (.inr ⟨by kernel_rfl, fun w1_ hB_ => ?_⟩), .inr (.inr ⟨by kernel_rfl, fun w1_ hB_ => ?_⟩), .inl rfl, .inr (.inr ⟨by kernel_rfl, fun w1_ hB_ => ?_⟩), .inl rfl, trivial⟩
              all_goals
                first
                  | (go_simp; done)
                  | (go_simp; rfl)
                  | (obtain rfl := hB_ (by kernel_rfl); go_simp; done)
                  | (obtain rfl := hB_ (by kernel_rfl); go_simp; rfl)
                  | (go_simp; intro hh_; exfalso; omega)
                  | (go_simp; intro hh_; exfalso; have := hh_ (by omega); omega)
                  | (go_simp; rw [IntWalk.i64_in _ (by omega)] <;> rfl)
                  | (go_simp; rw [if_pos (by omega)] <;> rfl)
                  | (go_simp; done)
            case sas =>
              rw [← hwa]
              unfold putF firA
              go_simp
              first | done | rfl | done
            case sbs =>
              rw [← hwb]
              unfold putF firA
              go_simp
              first | done | rfl | done
            case scs =>
              obtain ⟨⟨e0, e1, e2, e3⟩, ef⟩ := HSA.out
              rw [← hwc]
              unfold putF firA
              go_simp
              first | done | rfl | done
            case sds =>
              obtain ⟨⟨e0, e1, e2, e3⟩, ef⟩ := HSB.out
              rw [← hwd]
              unfold putF firA
              go_simp
              first | done | rfl | done
            case nexts =>
            rintro w8 h8
            have H8 := Lib.hid (HSE.out w8 h8)
            clear h8
            go_wp2_with fail
            go_roundw
            case rel => exact ⟨p, U', y :: V, by
              have := HP.out
              rw [List.length_append, HA.out] at this
              omega, by go_num, by have := HUV.out; simpa using this, fun v hv => by
              rcases List.mem_cons.1 hv with rfl | hv
              · exact hxy
              · exact HV.out v hv, by have h := H8.out.1; rw [List.append_assoc] at h; exact h, (HFI.out.then (Fr.of_below HB7.out (Nat.le_refl _))).then H8.out.2⟩
            case measure => first | (simp [intOf]; done) | (simp [intOf]; omega)
          · have hz : ¬ z < 0 := by rw [HCZ.out]; exact hxy
            go_wp2_with fail
            refine wp_env (fin := ?fnf) (by kernel_rfl) [18, 19, 20, 21, 22, 23, 24, 25, 26, 27, 28, 29, 30, 31, 32, 33, 34]
              [.int .i64 ((p : Int) + 1), .int .i64 a, .bool true, .bool true, .func (.func 15) #[] #[], .slice (some ⟨g, 0, none⟩) n cap, .int .i64 ((p : Int) + 1), .pointer (some ⟨g, (p + 1) * 4, none⟩), firA x, .slice (some ⟨g, 0, none⟩) n cap, .int .i64 ((p : Int) + 1), .int .i64 p, .pointer (some ⟨g, p * 4, none⟩), firA y, .int .i64 z, .bool false, .bool false] (by kernel_rfl) ?finf ?stepsf ?nextf
            case finf =>
              simp only [putAll, Act.put, List.setIfInBounds_toArray, List.set_cons_succ, List.set_cons_zero]
              rfl
            case stepsf =>
              unfold firA
              refine ⟨.inr ⟨by kernel_rfl, fun w1_ hB_ => ?_⟩, .inr ⟨by kernel_rfl, fun w1_ hB_ => ?_⟩, .inr ⟨by kernel_rfl, fun w1_ hB_ => ?_⟩, .inr ⟨by kernel_rfl, fun w1_ hB_ => ?_⟩, .inr ⟨by kernel_rfl, fun w1_ hB_ => ?_⟩, .inr ⟨by kernel_rfl, fun w1_ hB_ => ?_⟩, .inr ⟨by kernel_rfl, fun w1_ hB_ => ?_⟩, .inr ⟨by kernel_rfl, fun w1_ hB_ => ?_⟩, .inr ⟨by kernel_rfl, fun w1_ hB_ => ?_⟩, .inr ⟨by kernel_rfl, fun w1_ hB_ => ?_⟩, .inr ⟨by kernel_rfl, fun w1_ hB_ => ?_⟩, .inr ⟨by kernel_rfl, fun w1_ hB_ => ?_⟩, .inr ⟨by kernel_rfl, fun w1_ hB_ => ?_⟩, .inr ⟨by kernel_rfl, fun w1_ hB_ => ?_⟩, .inr ⟨by kernel_rfl, fun w1_ hB_ => ?_⟩, .inr ⟨by kernel_rfl, fun w1_ hB_ => ?_⟩, .inr ⟨by kernel_rfl, fun w1_ hB_ => ?_⟩, trivial⟩
              all_goals
                obtain ⟨⟨c0, c1, c2, c3⟩, ⟨d0, d1, d2, d3⟩⟩ := HK.out w1_ hB_
                clear hB_
                go_simp
                first
                  | exact ⟨rfl, Below.refl _ _⟩
                  | exact ⟨rfl, HCMP.out w1_⟩
                  | (rw [IntWalk.i64_in _ (by omega)]; exact ⟨rfl, Below.refl _ _⟩)
                  | (rw [decide_eq_true (by omega)]; exact ⟨rfl, Below.refl _ _⟩)
                  | (rw [decide_eq_false (by omega)]; exact ⟨rfl, Below.refl _ _⟩)
                  | (rw [if_pos (by omega)]; exact ⟨rfl, Below.refl _ _⟩)
                  | done
            case nextf =>
            intro w7 hb7
            have HB7 := Lib.hid hb7
            clear hb7
            go_wp2_with fail
            go_roundw
            case rel => exact ⟨k + 1, i + 1, (U' ++ [y]) ++ x :: V, by omega, by omega, by have := HIK.out; omega, by go_num, by
              rw [HTK.out]
              refine Stab.put (by rw [HUV.out]; exact HST.out) (fun u hu => ?_) HV.out
              have hs := HST.out.2.1
              rw [← HUV.out, List.append_assoc, List.pairwise_append] at hs
              rcases List.mem_append.1 hu with hu | hu
              · have := hs.2.2 u hu y (by simp)
                omega
              · rw [List.mem_singleton.1 hu]
                omega, by
              have h := HRI.out
              rw [← HT.out] at h
              have h := h.below HB7.out
              simpa [List.append_assoc] using h, HFI.out.then (Fr.of_below HB7.out (Nat.le_refl _))⟩
            case measure => first | (simp [intOf]; done) | (simp [intOf]; omega)
    · go_wp2_with fail
      have hkd : B.drop k = [] := List.drop_eq_nil_of_le (by rw [HM.out]; omega)
      have hkt : B.take k = B := List.take_of_length_le (by rw [HM.out]; omega)
      have h1 := HRW.out
      have h2 := HST.out
      rw [hkd, List.nil_append] at h1
      rw [hkt] at h2
      go_end0
      exact ⟨rfl, M, h2, h1, HFR.out⟩
set_option maxHeartbeats 4000000 in
theorem swapRange_F (W0 : World) (base g cap n a b m : Nat) (P A Q B S : List Fir) (cv : Value) (ha : P.length = a) (hm : A.length = m) (hm2 : B.length = m) (hb : a + m + Q.length = b) (hn : n ≤ 1000000000) (hR : RwF W0 base g cap n (P ++ (A ++ (Q ++ (B ++ S))))) :
    Calls Tryd.prog 56 #[.slice (some ⟨g, 0, none⟩) n cap, .int .i64 a, .int .i64 b, .int .i64 m, cv] W0 fun e w' => e = .returned (.tuple #[]) ∧ RwF w' base g cap n (P ++ (B ++ (Q ++ (A ++ S)))) ∧ Fr (fun k => k = g) W0 w' := by
  have hroom := hR.room
  have hlen := hR.len
  unfold maxLen at hroom
  simp only [List.length_append] at hlen
  rw [ha, hm, hm2] at hlen
  have HR := Lib.hid hR
  have HAL := Lib.hid (And.intro ha (And.intro hm (And.intro hm2 hb)))
  clear hR ha hm hm2
  go_enter Tryd.func56, Tryd.ntmps56
  go_wp2_with fail
  go_loopw [10] (fun iv wr => ∃ k : Nat, k ≤ m ∧ iv = .int .i64 k ∧ RwF wr base g cap n (P ++ (B.take k ++ (A.drop k ++ (Q ++ (A.take k ++ (B.drop k ++ S)))))) ∧ Fr (fun k => k = g) W0 wr) (fun iv _ => m - (intOf iv).toNat)
  case atStart => exact ⟨0, Nat.zero_le _, rfl, HR.out, Fr.refl _ _⟩
  case round =>
    obtain ⟨k, hk, rfl, hrw, hfr⟩ := hrel
    have HRW := Lib.hid hrw
    have HFR := Lib.hid hfr
    clear hrw hfr
    by_cases hlt : k < m
    · have hkA : k < A.length := by rw [HAL.out.2.1]; exact hlt
      have hkB : k < B.length := by rw [HAL.out.2.2.1]; exact hlt
      obtain ⟨y, hy⟩ : ∃ y, A[k] = y := ⟨_, rfl⟩
      obtain ⟨x, hx⟩ : ∃ x, B[k] = x := ⟨_, rfl⟩
      have eA : A.drop k = y :: A.drop (k + 1) := by rw [List.drop_eq_getElem_cons hkA, hy]
      have eB : B.drop k = x :: B.drop (k + 1) := by rw [List.drop_eq_getElem_cons hkB, hx]
      have tA : A.take (k + 1) = A.take k ++ [y] := by rw [List.take_succ_eq_append_getElem hkA, hy]
      have tB : B.take (k + 1) = B.take k ++ [x] := by rw [List.take_succ_eq_append_getElem hkB, hx]
      have lA : (A.drop (k + 1)).length = m - (k + 1) := by rw [List.length_drop, HAL.out.2.1]
      have lA2 : (A.take k).length = k := by rw [List.length_take, HAL.out.2.1]; omega
      have lB2 : (B.take k).length = k := by rw [List.length_take, HAL.out.2.2.1]; omega
      have h1 := HRW.out
      rw [eA, eB] at h1
      generalize hAd : A.drop (k + 1) = Ad at *
      generalize hBd : B.drop (k + 1) = Bd at *
      generalize A.take k = At at *
      generalize B.take k = Bt at *
      have HTA := Lib.hid (And.intro tA (And.intro tB (And.intro hAd hBd)))
      clear hAd hBd
      have HW := Lib.hid (show RwF wr base g cap n ((P ++ Bt) ++ y :: ((Ad ++ (Q ++ At)) ++ x :: (Bd ++ S))) by simpa using h1)
      obtain ⟨p, hp⟩ : ∃ p, p = a + k := ⟨_, rfl⟩
      obtain ⟨q, hq⟩ : ∃ q, q = b + k := ⟨_, rfl⟩
      have HLP := Lib.hid (show (P ++ Bt).length = p by rw [List.length_append, HAL.out.1, lB2, hp])
      have HLQ := Lib.hid (show (P ++ Bt).length + 1 + (Ad ++ (Q ++ At)).length = q by
        rw [HLP.out]
        simp only [List.length_append]
        omega)
      have ep : (a : Int) + (k : Int) = (p : Int) := by omega
      have eq : (b : Int) + (k : Int) = (q : Int) := by omega
      have hqn : q < n := by have h := HW.out.len; simp only [List.length_append, List.length_cons] at h; rw [HAL.out.1] at h; omega
      have hpq : p < q := by omega
      clear eA eB tA tB h1 lA lA2 lB2 hp hq hb hy hx HRW
      go_wp2_with fail
      have ⟨d0, d1, d2, d3⟩ := HLP.out ▸ HW.out.at_
      have ⟨c0, c1, c2, c3⟩ := HLQ.out ▸ HW.out.at2
      have fz := HW.out.frozen
      have HSW := Lib.hid (RwF.swap HW.out)
      obtain ⟨wa, hwa⟩ : ∃ W, putF wr.drew g (q * 4) y = W := ⟨_, rfl⟩
      obtain ⟨wb, hwb⟩ : ∃ W, putF wr.drew g (p * 4) x = W := ⟨_, rfl⟩
      obtain ⟨wc, hwc⟩ : ∃ W, putF wa g (p * 4) x = W := ⟨_, rfl⟩
      obtain ⟨wd, hwd⟩ : ∃ W, putF wb g (q * 4) y = W := ⟨_, rfl⟩
      have HSX := HSW.out
      rw [HLQ.out, HLP.out] at HSX
      rw [hwa, hwb, hwc, hwd] at HSX
      obtain ⟨sA, sB, sC, sD, fC, fD⟩ := HSX
      have HSA := Lib.hid (show ((_ ∧ _ ∧ _ ∧ _) ∧ ∀ j, _) from ⟨HLP.out ▸ sA.at_, fun j => sA.frozen j⟩)
      have HSB := Lib.hid (show ((_ ∧ _ ∧ _ ∧ _) ∧ ∀ j, _) from ⟨HLQ.out ▸ sB.at2, fun j => sB.frozen j⟩)
      have HSE := Lib.hid (fun w8 (h8 : w8 = wc ∨ w8 = wd) => show RwF w8 base g cap n _ ∧ Fr (fun k => k = g) wr w8 by rcases h8 with rfl | rfl; exact ⟨sC, fC⟩; exact ⟨sD, fD⟩)
      clear sA sB sC sD fC fD
      refine wp_envW (fin := ?fns) (by kernel_rfl) [16, 17, 18, 19, 20, 21, 22, 23, 24, 25, 26, 27, 28, 29, 30, 31, 32, 33, 34, 35, 36, 901, 37, 900]
        [.slice (some ⟨g, 0, none⟩) n cap, .int .i64 a, .int .i64 k, .int .i64 p, .slice (some ⟨g, 0, none⟩) n cap, .int .i64 b, .int .i64 k, .int .i64 q, .slice (some ⟨g, 0, none⟩) n cap, .int .i64 b, .int .i64 k, .int .i64 q, .pointer (some ⟨g, q * 4, none⟩), firA x, .slice (some ⟨g, 0, none⟩) n cap, .int .i64 a, .int .i64 k, .int .i64 p, .pointer (some ⟨g, p * 4, none⟩), firA y, .pointer (some ⟨g, p * 4, none⟩), undef, .pointer (some ⟨g, q * 4, none⟩), undef] 23 21 _ _ wa wb wc wd (by kernel_rfl) rfl rfl (by simp) (by simp) (by decide) ?fins ?stepss ?sas ?sbs ?scs ?sds ?nexts
      case fins =>
        simp only [putAll, Act.put, List.setIfInBounds_toArray, List.set_cons_succ, List.set_cons_zero]
        rfl
      case stepss =>
        unfold firA
        refine ⟨.inr (.inr ⟨by kernel_rfl, fun w1_ hB_ => ?_⟩), .inr (.inr ⟨by kernel_rfl, fun w1_ hB_ => ?_⟩), .inr (.inr ⟨by kernel_rfl, fun w1_ hB_ => ?_⟩), .inr (.inr ⟨by kernel_rfl, fun w1_ hB_ => ?_⟩), .inr (.inr ⟨by kernel_rfl, fun w1_ hB_ => ?_⟩), .inr (.inr ⟨by kernel_rfl, fun w1_ hB_ => ?_⟩), .inr (.inr ⟨by kernel_rfl, fun w1_ hB_ => ?_⟩), .inr (.inr ⟨by kernel_rfl, fun w1_ hB_ => ?_⟩), .inr (.inr ⟨by kernel_rfl, fun w1_ hB_ => ?_⟩), .inr (.inr ⟨by kernel_rfl, fun w1_ hB_ => ?_⟩), .inr (.inr ⟨by kernel_rfl, fun w1_ hB_ => ?_⟩), .inr (.inr ⟨by kernel_rfl, fun w1_ hB_ => ?_⟩), .inr (.inr ⟨by kernel_rfl, fun w1_ hB_ => ?_⟩), .inr (.inr ⟨by kernel_rfl, fun w1_ hB_ => ?_⟩), .inr (.inr ⟨by kernel_rfl, fun w1_ hB_ => ?_⟩), .inr (.inr ⟨by kernel_rfl, fun w1_ hB_ => ?_⟩), .inr (.inr ⟨by kernel_rfl, fun w1_ hB_ => ?_⟩), .inr (.inr ⟨by kernel_rfl, fun w1_ hB_ => ?_⟩), .inr (.inr ⟨by kernel_rfl, fun w1_ hB_ => ?_⟩), .inr (.inr ⟨by kernel_rfl, fun w1_ hB_ => ?_⟩), .inr (.inr ⟨by kernel_rfl, fun w1_ hB_ => ?_⟩), .inl rfl, .inr (.inr ⟨by kernel_rfl, fun w1_ hB_ => ?_⟩), .inl rfl, trivial⟩
        all_goals
          first
            | (go_simp; done)
            | (go_simp; rfl)
            | (obtain rfl := hB_ (by kernel_rfl); go_simp; done)
            | (obtain rfl := hB_ (by kernel_rfl); go_simp; rfl)
            | (go_simp; intro hh_; exfalso; omega)
            | (go_simp; intro hh_; exfalso; have := hh_ (by omega); omega)
            | (go_simp; rw [IntWalk.i64_in _ (by omega)] <;> rfl)
            | (go_simp; rw [if_pos (by omega)] <;> rfl)
            | (go_simp; done)
      case sas =>
        rw [← hwa]
        unfold putF firA
        go_simp
        first | done | rfl | done
      case sbs =>
        rw [← hwb]
        unfold putF firA
        go_simp
        first | done | rfl | done
      case scs =>
        obtain ⟨⟨e0, e1, e2, e3⟩, ef⟩ := HSA.out
        rw [← hwc]
        unfold putF firA
        go_simp
        first | done | rfl | done
      case sds =>
        obtain ⟨⟨e0, e1, e2, e3⟩, ef⟩ := HSB.out
        rw [← hwd]
        unfold putF firA
        go_simp
        first | done | rfl | done
      case nexts =>
      rintro w8 h8
      have H8 := Lib.hid (HSE.out w8 h8)
      clear h8
      go_wp2_with fail
      go_roundw
      case rel => exact ⟨k + 1, by omega, by go_num, by have h := H8.out.1; rw [HTA.out.1, HTA.out.2.1, HTA.out.2.2.1, HTA.out.2.2.2]; simpa using h, HFR.out.then H8.out.2⟩
      case measure => first | (simp [intOf]; done) | (simp [intOf]; omega)
    · have h1 := HRW.out
      have e1 : B.take k = B := List.take_of_length_le (by rw [HAL.out.2.2.1]; omega)
      have e2 : A.take k = A := List.take_of_length_le (by rw [HAL.out.2.1]; omega)
      have e3 : A.drop k = [] := List.drop_eq_nil_of_le (by rw [HAL.out.2.1]; omega)
      have e4 : B.drop k = [] := List.drop_eq_nil_of_le (by rw [HAL.out.2.2.1]; omega)
      rw [e1, e2, e3, e4] at h1
      clear e1 e2 e3 e4
      go_wp2_with fail
      go_end0
      exact ⟨rfl, by simpa using h1, HFR.out⟩
set_option maxHeartbeats 4000000 in
theorem rotate_F (W0 : World) (base g cap n a m b : Nat) (P U V S : List Fir) (cv : Value) (ha : P.length = a) (hm : a + U.length = m) (hb : m + V.length = b) (hu : 0 < U.length) (hv : 0 < V.length) (hn : n ≤ 1000000000) (hR : RwF W0 base g cap n (P ++ (U ++ (V ++ S)))) :
    Calls Tryd.prog 52 #[.slice (some ⟨g, 0, none⟩) n cap, .int .i64 a, .int .i64 m, .int .i64 b, cv] W0 fun e w' => e = .returned (.tuple #[]) ∧ RwF w' base g cap n (P ++ (V ++ (U ++ S))) ∧ Fr (fun k => k = g) W0 w' := by
  have hlen := hR.len
  simp only [List.length_append] at hlen
  rw [ha] at hlen
  obtain ⟨i0, hi0⟩ : ∃ i, U.length = i := ⟨_, rfl⟩
  obtain ⟨j0, hj0⟩ : ∃ j, V.length = j := ⟨_, rfl⟩
  have HR := Lib.hid hR
  have HAL := Lib.hid (And.intro ha (And.intro hi0 hj0))
  rw [hi0] at hm hlen hu
  rw [hj0] at hb hlen hv
  have e1 : (m : Int) - (a : Int) = (i0 : Int) := by omega
  have e2 : (b : Int) - (m : Int) = (j0 : Int) := by omega
  have hbn : b ≤ n := by omega
  have HM := Lib.hid hm
  clear hR ha hi0 hj0 hm hb hlen
  go_enter Tryd.func52, Tryd.ntmps52
  go_wp2_with fail
  go_loopw [10, 11] (fun iv jv wr => ∃ (i j : Nat) (P' U' V' S' : List Fir), iv = .int .i64 i ∧ jv = .int .i64 j ∧ 0 < i ∧ 0 < j ∧ i ≤ m ∧ m + j ≤ n ∧ U'.length = i ∧ V'.length = j ∧ P'.length + i = m ∧ RwF wr base g cap n (P' ++ (U' ++ (V' ++ S'))) ∧ P' ++ (V' ++ (U' ++ S')) = P ++ (V ++ (U ++ S)) ∧ Fr (fun k => k = g) W0 wr) (fun iv jv _ => (intOf iv).toNat + (intOf jv).toNat)
  case atStart => exact ⟨i0, j0, P, U, V, S, rfl, rfl, hu, hv, by have := HM.out; omega, by omega, HAL.out.2.1, HAL.out.2.2, by rw [HAL.out.1]; exact HM.out, HR.out, rfl, Fr.refl _ _⟩
  case round =>
    obtain ⟨i, j, P', U', V', S', rfl, rfl, hi, hj, him, hjn, hU, hV, hP, hrw, heq, hfr⟩ := hrel
    have HRW := Lib.hid hrw
    have HFR := Lib.hid hfr
    have HEQ := Lib.hid heq
    have HL := Lib.hid (And.intro hU (And.intro hV hP))
    clear hrw hfr heq hU hV hP HR
    obtain ⟨s, hs⟩ : ∃ s, m - i = s := ⟨_, rfl⟩
    have e3 : (m : Int) - (i : Int) = (s : Int) := by omega
    have HPS := Lib.hid (show P'.length = s by have := HL.out.2.2; omega)
    have hsm : s + i = m := by omega
    clear hs e1 e2
    by_cases hlt : j < i
    · have hd1 : ((i : Int) != (j : Int)) = true := by simp; omega
      have hd2 : decide ((j : Int) < (i : Int)) = true := decide_eq_true (by omega)
      obtain ⟨U1, U2, rfl, l1, l2⟩ : ∃ U1 U2, U' = U1 ++ U2 ∧ U1.length = j ∧ U2.length = i - j := ⟨U'.take j, U'.drop j, (List.take_append_drop j U').symm, by rw [List.length_take, HL.out.1]; omega, by rw [List.length_drop, HL.out.1]⟩
      have HC := Lib.hid (swapRange_F wr base g cap n s m j P' U1 U2 V' S' cv HPS.out l1 HL.out.2.1 (by omega) hn (by have h := HRW.out; simpa using h))
      have HLL := Lib.hid (And.intro l1 l2)
      clear l1 l2
      have e4 : (i : Int) - (j : Int) = ((i - j : Nat) : Int) := by omega
      go_wp2_with fail
      refine HC.out.mono ?_
      rintro e w1 ⟨rfl, hrw1, hfr1⟩
      have H1 := Lib.hid (And.intro hrw1 hfr1)
      clear hrw1 hfr1 HC
      go_wp2_with fail
      go_roundw
      case rel => exact ⟨i - j, j, P' ++ V', U2, U1, S', by first | rfl | go_num, rfl, by omega, hj, by omega, hjn, HLL.out.2, HLL.out.1, by rw [List.length_append, HPS.out, HL.out.2.1]; omega, by have h := H1.out.1; simpa using h, by
        rw [← HEQ.out]
        simp, HFR.out.then H1.out.2⟩
      case measure => simp [intOf]; omega
    · by_cases hlt2 : i < j
      · have hd1 : ((i : Int) != (j : Int)) = true := by simp; omega
        have hd2 : decide ((j : Int) < (i : Int)) = false := decide_eq_false (by omega)
        obtain ⟨r, hr⟩ : ∃ r, m + j - i = r := ⟨_, rfl⟩
        have e4 : (j : Int) - (i : Int) = ((j - i : Nat) : Int) := by omega
        have e5 : (m : Int) + (j : Int) - (i : Int) = (r : Int) := by omega
        obtain ⟨V1, V2, rfl, l1, l2⟩ : ∃ V1 V2, V' = V1 ++ V2 ∧ V1.length = j - i ∧ V2.length = i := ⟨V'.take (j - i), V'.drop (j - i), (List.take_append_drop (j - i) V').symm, by rw [List.length_take, HL.out.2.1]; omega, by rw [List.length_drop, HL.out.2.1]; omega⟩
        have HC := Lib.hid (swapRange_F wr base g cap n s r i P' U' V1 V2 S' cv HPS.out HL.out.1 l2 (by omega) hn (by have h := HRW.out; simpa using h))
        have HLL := Lib.hid (And.intro l1 l2)
        clear l1 l2
        clear hr
        go_wp2_with fail
        refine HC.out.mono ?_
        rintro e w1 ⟨rfl, hrw1, hfr1⟩
        have H1 := Lib.hid (And.intro hrw1 hfr1)
        clear hrw1 hfr1 HC
        go_wp2_with fail
        go_roundw
        case rel => exact ⟨i, j - i, P', V2, V1, U' ++ S', rfl, by first | rfl | go_num, hi, by omega, him, by omega, HLL.out.2, HLL.out.1, by have := HL.out.2.2; omega, by have h := H1.out.1; simpa using h, by
          rw [← HEQ.out]
          simp, HFR.out.then H1.out.2⟩
        case measure => simp [intOf]; omega
      · obtain rfl : i = j := by omega
        have hd1 : ((i : Int) != (i : Int)) = false := by simp
        have HC := Lib.hid (swapRange_F wr base g cap n s m i P' U' [] V' S' cv HPS.out HL.out.1 HL.out.2.1 (by rw [List.length_nil]; omega) hn HRW.out)
        go_wp2_with fail
        refine HC.out.mono ?_
        rintro e w1 ⟨rfl, hrw1, hfr1⟩
        have H1 := Lib.hid (And.intro hrw1 hfr1)
        clear hrw1 hfr1 HC
        go_wp2_with fail
        go_end0
        exact ⟨rfl, by have h := H1.out.1; rw [List.nil_append, HEQ.out] at h; exact h, HFR.out.then H1.out.2⟩
end Go.Proofs.YtkdpflgkcnhoiaaDoor
