/-
  Insertion over rules, walked.
-/
import Derived.Test.YtkdpflgkcnhoiaaDoorRulA
namespace Go.Proofs.YtkdpflgkcnhoiaaDoor
open Go Go.RowKit Go.Shelf
set_option maxRecDepth 100000

def Fact.ints (a b : Int) : Fact := ⟨fun v w => Sl w w.heap.size 1 v 2 [.int .i64 a, .int .i64 b], fun _ _ _ h hb => (h.below hb).more hb.size⟩
set_option maxHeartbeats 2000000 in
theorem order2_any (x y : Rul) (w : World) :
    Calls Tryd.prog 24 #[rulA x, rulA y] w fun e w' => e = .returned (.int .i64 (cmp2 x y)) ∧ Below w.heap.size w w' := by
  have h1 : RulB ((w.alloc (.cells #[.string x.name, .int .i64 x.from_, .int .i64 x.to_, .int .i64 x.month, .int .i64 x.dk, .int .i64 x.dw, .int .i64 x.dn, .int .i64 x.sec, .int .i64 x.kind, .int .i64 x.save, .string x.letter] 46)).alloc (.cells #[.string y.name, .int .i64 y.from_, .int .i64 y.to_, .int .i64 y.month, .int .i64 y.dk, .int .i64 y.dw, .int .i64 y.dn, .int .i64 y.sec, .int .i64 y.kind, .int .i64 y.save, .string y.letter] 46)) w.heap.size x := (Blk.new w 46 _).alloc _
  have h2 : RulB ((w.alloc (.cells #[.string x.name, .int .i64 x.from_, .int .i64 x.to_, .int .i64 x.month, .int .i64 x.dk, .int .i64 x.dw, .int .i64 x.dn, .int .i64 x.sec, .int .i64 x.kind, .int .i64 x.save, .string x.letter] 46)).alloc (.cells #[.string y.name, .int .i64 y.from_, .int .i64 y.to_, .int .i64 y.month, .int .i64 y.dk, .int .i64 y.dw, .int .i64 y.dn, .int .i64 y.sec, .int .i64 y.kind, .int .i64 y.save, .string y.letter] 46)) (w.heap.size + 1) y := by
    have := Blk.new (w.alloc (.cells #[.string x.name, .int .i64 x.from_, .int .i64 x.to_, .int .i64 x.month, .int .i64 x.dk, .int .i64 x.dw, .int .i64 x.dn, .int .i64 x.sec, .int .i64 x.kind, .int .i64 x.save, .string x.letter] 46)) 46 #[.string y.name, .int .i64 y.from_, .int .i64 y.to_, .int .i64 y.month, .int .i64 y.dk, .int .i64 y.dw, .int .i64 y.dn, .int .i64 y.sec, .int .i64 y.kind, .int .i64 y.save, .string y.letter]
    rwa [World.size_alloc] at this
  have hb0 : Below w.heap.size w ((w.alloc (.cells #[.string x.name, .int .i64 x.from_, .int .i64 x.to_, .int .i64 x.month, .int .i64 x.dk, .int .i64 x.dw, .int .i64 x.dn, .int .i64 x.sec, .int .i64 x.kind, .int .i64 x.save, .string x.letter] 46)).alloc (.cells #[.string y.name, .int .i64 y.from_, .int .i64 y.to_, .int .i64 y.month, .int .i64 y.dk, .int .i64 y.dw, .int .i64 y.dn, .int .i64 y.sec, .int .i64 y.kind, .int .i64 y.save, .string y.letter] 46)) := ((Below.refl _ _).alloc (Nat.le_refl _) _).alloc (by simp) _
  have HC := Lib.hid (fun a b W => cmpInt_any a b W)
  have HV := Lib.hid (show orV (cmpZ x.from_ y.from_) (cmpZ x.month y.month) = cmp2 x y from rfl)
  unfold rulA
  obtain ⟨z1, hz1⟩ : ∃ z, cmpZ x.from_ y.from_ = z := ⟨_, rfl⟩
  obtain ⟨z2, hz2⟩ : ∃ z, cmpZ x.month y.month = z := ⟨_, rfl⟩
  obtain ⟨z, hz⟩ : ∃ z, cmp2 x y = z := ⟨_, rfl⟩
  rw [hz1, hz2, hz] at HV
  rw [hz]
  have HZ := Lib.hid (And.intro hz1 hz2)
  clear hz1 hz2 hz
  go_enter Tryd.func24, Tryd.ntmps24
  go_wp2_with fail
  obtain ⟨W0, hW0⟩ : ∃ W, (w.alloc (.cells #[.string x.name, .int .i64 x.from_, .int .i64 x.to_, .int .i64 x.month, .int .i64 x.dk, .int .i64 x.dw, .int .i64 x.dn, .int .i64 x.sec, .int .i64 x.kind, .int .i64 x.save, .string x.letter] 46)).alloc (.cells #[.string y.name, .int .i64 y.from_, .int .i64 y.to_, .int .i64 y.month, .int .i64 y.dk, .int .i64 y.dw, .int .i64 y.dn, .int .i64 y.sec, .int .i64 y.kind, .int .i64 y.save, .string y.letter] 46) = W := ⟨_, rfl⟩
  rw [hW0] at h1 h2 hb0 ⊢
  clear hW0
  have H1 := Lib.hid h1
  have H2 := Lib.hid h2
  have HB0 := Lib.hid hb0
  clear h1 h2 hb0
  refine wp_inv (by kernel_rfl) [5, 6, 7, 8, 9, 10, 11, 12, 13, 14, 15, 16, 4]
    [.is (.pointer (some ⟨w.heap.size, 1, none⟩)), .is (.int .i64 x.from_), .is (.pointer (some ⟨w.heap.size + 1, 1, none⟩)), .is (.int .i64 y.from_), .is (.int .i64 z1), .is (.pointer (some ⟨w.heap.size, 3, none⟩)), .is (.int .i64 x.month), .is (.pointer (some ⟨w.heap.size + 1, 3, none⟩)), .is (.int .i64 y.month), .is (.int .i64 z2), Fact.ints z1 z2, .is (.int .i64 z), .is (.int .i64 z)] (by kernel_rfl) ⟨?_, ?_, ?_, ?_, ?_, ?_, ?_, ?_, ?_, ?_, ?_, ?_, ?_, trivial⟩ ?_
  · intro x_ w1_ R hB_ hf hR
    clear hB_ hf
    simp only [frameOf, upd, List.foldl_cons, List.foldl_nil, Act.put, List.setIfInBounds_toArray, List.set_cons_succ, List.set_cons_zero] at hR ⊢
    go_wp2_with fail
    exact hR _ _ rfl (Below.refl _ _)
  · intro x_ w1_ R hB_ hf hR
    have h0 : x_ 5 = .pointer (some ⟨w.heap.size, 1, none⟩) := hf 0 (by kernel_rfl)
    have q0 := Blk.cell (Blk.below H1.out hB_ (Blk.lt H1.out)) 1 (v := .int .i64 x.from_) rfl
    clear hB_ hf
    simp only [frameOf, upd, List.foldl_cons, List.foldl_nil, Act.put, List.setIfInBounds_toArray, List.set_cons_succ, List.set_cons_zero] at hR ⊢
    simp only [h0] at hR ⊢
    go_wp2_with fail
    exact hR _ _ rfl (Below.refl _ _)
  · intro x_ w1_ R hB_ hf hR
    clear hB_ hf
    simp only [frameOf, upd, List.foldl_cons, List.foldl_nil, Act.put, List.setIfInBounds_toArray, List.set_cons_succ, List.set_cons_zero] at hR ⊢
    go_wp2_with fail
    exact hR _ _ rfl (Below.refl _ _)
  · intro x_ w1_ R hB_ hf hR
    have h0 : x_ 7 = .pointer (some ⟨w.heap.size + 1, 1, none⟩) := hf 2 (by kernel_rfl)
    have q0 := Blk.cell (Blk.below H2.out hB_ (Blk.lt H2.out)) 1 (v := .int .i64 y.from_) rfl
    clear hB_ hf
    simp only [frameOf, upd, List.foldl_cons, List.foldl_nil, Act.put, List.setIfInBounds_toArray, List.set_cons_succ, List.set_cons_zero] at hR ⊢
    simp only [h0] at hR ⊢
    go_wp2_with fail
    exact hR _ _ rfl (Below.refl _ _)
  · intro x_ w1_ R hB_ hf hR
    have h0 : x_ 6 = .int .i64 x.from_ := hf 1 (by kernel_rfl)
    have h1 : x_ 8 = .int .i64 y.from_ := hf 3 (by kernel_rfl)
    have HCC := Lib.hid (HC.out x.from_ y.from_ w1_)
    rw [HZ.out.1] at HCC
    clear hB_ hf
    simp only [frameOf, upd, List.foldl_cons, List.foldl_nil, Act.put, List.setIfInBounds_toArray, List.set_cons_succ, List.set_cons_zero] at hR ⊢
    simp only [h0, h1] at hR ⊢
    go_wp2_with fail
    refine HCC.out.mono ?_
    rintro e w2_ ⟨rfl, rfl⟩
    clear HCC
    go_wp2_with fail
    exact hR _ _ rfl (Below.refl _ _)
  · intro x_ w1_ R hB_ hf hR
    clear hB_ hf
    simp only [frameOf, upd, List.foldl_cons, List.foldl_nil, Act.put, List.setIfInBounds_toArray, List.set_cons_succ, List.set_cons_zero] at hR ⊢
    go_wp2_with fail
    exact hR _ _ rfl (Below.refl _ _)
  · intro x_ w1_ R hB_ hf hR
    have h0 : x_ 10 = .pointer (some ⟨w.heap.size, 3, none⟩) := hf 5 (by kernel_rfl)
    have q0 := Blk.cell (Blk.below H1.out hB_ (Blk.lt H1.out)) 3 (v := .int .i64 x.month) rfl
    clear hB_ hf
    simp only [frameOf, upd, List.foldl_cons, List.foldl_nil, Act.put, List.setIfInBounds_toArray, List.set_cons_succ, List.set_cons_zero] at hR ⊢
    simp only [h0] at hR ⊢
    go_wp2_with fail
    exact hR _ _ rfl (Below.refl _ _)
  · intro x_ w1_ R hB_ hf hR
    clear hB_ hf
    simp only [frameOf, upd, List.foldl_cons, List.foldl_nil, Act.put, List.setIfInBounds_toArray, List.set_cons_succ, List.set_cons_zero] at hR ⊢
    go_wp2_with fail
    exact hR _ _ rfl (Below.refl _ _)
  · intro x_ w1_ R hB_ hf hR
    have h0 : x_ 12 = .pointer (some ⟨w.heap.size + 1, 3, none⟩) := hf 7 (by kernel_rfl)
    have q0 := Blk.cell (Blk.below H2.out hB_ (Blk.lt H2.out)) 3 (v := .int .i64 y.month) rfl
    clear hB_ hf
    simp only [frameOf, upd, List.foldl_cons, List.foldl_nil, Act.put, List.setIfInBounds_toArray, List.set_cons_succ, List.set_cons_zero] at hR ⊢
    simp only [h0] at hR ⊢
    go_wp2_with fail
    exact hR _ _ rfl (Below.refl _ _)
  · intro x_ w1_ R hB_ hf hR
    have h0 : x_ 11 = .int .i64 x.month := hf 6 (by kernel_rfl)
    have h1 : x_ 13 = .int .i64 y.month := hf 8 (by kernel_rfl)
    have HCC := Lib.hid (HC.out x.month y.month w1_)
    rw [HZ.out.2] at HCC
    clear hB_ hf
    simp only [frameOf, upd, List.foldl_cons, List.foldl_nil, Act.put, List.setIfInBounds_toArray, List.set_cons_succ, List.set_cons_zero] at hR ⊢
    simp only [h0, h1] at hR ⊢
    go_wp2_with fail
    refine HCC.out.mono ?_
    rintro e w2_ ⟨rfl, rfl⟩
    clear HCC
    go_wp2_with fail
    exact hR _ _ rfl (Below.refl _ _)
  · intro x_ w1_ R hB_ hf hR
    have h0 : x_ 9 = .int .i64 z1 := hf 4 (by kernel_rfl)
    have h1 : x_ 14 = .int .i64 z2 := hf 9 (by kernel_rfl)
    have hl_ := w1_.heap.size
    clear hB_ hf
    simp only [frameOf, upd, List.foldl_cons, List.foldl_nil, Act.put, List.setIfInBounds_toArray, List.set_cons_succ, List.set_cons_zero] at hR ⊢
    simp only [h0, h1] at hR ⊢
    go_wp2_with fail
    exact hR _ _ (Sl.mk_ (by decide) (by decide) rfl (by simp) (fun j u hu => (cell_new w1_ _ _ _ _).trans (by simpa using hu))) ((Below.refl _ _).alloc (Nat.le_refl _) _)
  · intro x_ w1_ R hB_ hf hR
    have HO := Lib.hid (or_any w1_ w1_.heap.size (x_ 15) z1 z2 (hf 10 (by kernel_rfl)))
    rw [HV.out] at HO
    clear hB_ hf
    simp only [frameOf, upd, List.foldl_cons, List.foldl_nil, Act.put, List.setIfInBounds_toArray, List.set_cons_succ, List.set_cons_zero] at hR ⊢
    go_wp2_with fail
    refine HO.out.mono ?_
    rintro e w2_ ⟨rfl, rfl⟩
    clear HO
    go_wp2_with fail
    exact hR _ _ rfl (Below.refl _ _)
  · intro x_ w1_ R hB_ hf hR
    have h0 : x_ 16 = .int .i64 z := hf 11 (by kernel_rfl)
    clear hB_ hf
    simp only [frameOf, upd, List.foldl_cons, List.foldl_nil, Act.put, List.setIfInBounds_toArray, List.set_cons_succ, List.set_cons_zero] at hR ⊢
    simp only [h0] at hR ⊢
    go_wp2_with fail
    exact hR _ _ rfl (Below.refl _ _)
  intro x_ w8 hB8 hf8
  have h4 : x_ 4 = .int .i64 z := hf8 12 (by decide)
  simp only [frameOf, upd, List.foldl_cons, List.foldl_nil, Act.put, List.setIfInBounds_toArray, List.set_cons_succ, List.set_cons_zero]
  rw [h4]
  have HB8 := Lib.hid (HB0.out.trans (hB8.mono HB0.out.size))
  clear hB8 hf8
  go_wp2_with fail
  go_ret
  exact ⟨rfl, HB8.out⟩
set_option maxHeartbeats 4000000 in
theorem insertion_R (W0 : World) (base g cap n a b : Nat) (P B S : List Rul) (ha : P.length = a) (hb : a + B.length = b) (hn : n ≤ 1000000000) (hmo : ∀ z ∈ B, mOk z) (hR : RwR W0 base g cap n (P ++ (B ++ S))) :
    Calls Tryd.prog 50 #[.slice (some ⟨g, 0, none⟩) n cap, .int .i64 a, .int .i64 b, .func (.func 24) #[] #[]] W0 fun e w' => e = .returned (.tuple #[]) ∧ ∃ M, Stab keyR B M ∧ RwR w' base g cap n (P ++ (M ++ S)) ∧ Fr (fun k => k = g) W0 w' := by
  have hroom := hR.room
  have hlen := hR.len
  unfold maxLen at hroom
  simp only [List.length_append] at hlen
  have HR := Lib.hid hR
  have HMB := Lib.hid hmo
  clear hR hmo
  obtain ⟨m, hm⟩ : ∃ m, B.length = m := ⟨_, rfl⟩
  rw [ha, hm] at hlen
  rw [hm] at hb
  have HA := Lib.hid ha
  have HM := Lib.hid hm
  clear ha hm
  go_enter Tryd.func50, Tryd.ntmps50
  go_wp2_with fail
  go_loopw [8] (fun iv wr => ∃ (k i : Nat) (M : List Rul), 1 ≤ k ∧ (k ≤ m ∨ k = 1) ∧ i = a + k ∧ iv = .int .i64 i ∧ Stab keyR (B.take k) M ∧ RwR wr base g cap n (P ++ (M ++ (B.drop k ++ S))) ∧ Fr (fun k => k = g) W0 wr) (fun iv _ => b - (intOf iv).toNat)
  case atStart => exact ⟨1, a + 1, B.take 1, by omega, by omega, rfl, by go_num, by
    rcases B with _ | ⟨x, B⟩
    · exact Stab.nil
    · exact Stab.one x, by rw [← List.append_assoc (B.take 1), List.take_append_drop]; exact HR.out, Fr.refl _ _⟩
  case round =>
    obtain ⟨k, i, M, hk1, hk, hik, rfl, hst, hrw, hfr⟩ := hrel
    have HST := Lib.hid hst
    have HRW := Lib.hid hrw
    have HFR := Lib.hid hfr
    have hml := hst.len
    rw [List.length_take, HM.out] at hml
    clear hst hrw hfr
    have HIK := Lib.hid hik
    have hin : i ≤ n + 1 := by omega
    by_cases hlt : i < b
    · have hlt' : (i : Int) < (b : Int) := by omega
      have hd : decide ((i : Int) < (b : Int)) = true := decide_eq_true hlt'
      have hkm : k < m := by omega
      have hMk : M.length = k := by omega
      have hib : i = a + M.length := by omega
      have HIB := Lib.hid hib
      clear hik hib hml
      have hkB : k < B.length := by rw [HM.out]; exact hkm
      obtain ⟨x, hx⟩ : ∃ x, B[k] = x := ⟨_, rfl⟩
      obtain ⟨T, hT⟩ : ∃ T, B.drop (k + 1) ++ S = T := ⟨_, rfl⟩
      have HD := Lib.hid (show B.drop k ++ S = x :: T by rw [List.drop_eq_getElem_cons hkB, hx, List.cons_append, hT])
      have HTK := Lib.hid (show B.take (k + 1) = B.take k ++ [x] by rw [List.take_succ_eq_append_getElem hkB, hx])
      have HT := Lib.hid hT
      rw [HD.out] at HRW
      have HMX := Lib.hid (show mOk x from by rw [← hx]; exact HMB.out _ (List.getElem_mem hkB))
      clear hx hT
      go_wp2_with fail
      go_loopw [9] (fun jv wi => ∃ (j : Nat) (U V : List Rul), j = a + U.length ∧ jv = .int .i64 j ∧ U ++ V = M ∧ (∀ v ∈ V, keyR x < keyR v) ∧ RwR wi base g cap n (P ++ (U ++ x :: (V ++ T))) ∧ Fr (fun k => k = g) W0 wi) (fun jv _ => (intOf jv).toNat)
      case atStart => exact ⟨i, M, [], HIB.out, rfl, List.append_nil _, fun v hv => by simp at hv, HRW.out, HFR.out⟩
      case round =>
        obtain ⟨j, Us, V, hj, rfl, hUV, hV, hrw, hfr⟩ := hrel
        have HUV := Lib.hid hUV
        have HV := Lib.hid hV
        have HRI := Lib.hid hrw
        have HFI := Lib.hid hfr
        have hlM : Us.length + V.length = M.length := by rw [← hUV, List.length_append]
        clear hUV hV hrw hfr
        rcases List.eq_nil_or_concat Us with rfl | ⟨U', y, rfl⟩
        · obtain rfl : j = a := by simpa using hj
          clear hj
          go_wp2_with fail
          refine wp_env (fin := ?fnn) (by kernel_rfl) [18, 19, 20, 21, 22, 23, 24, 25, 26, 27, 28, 29, 30, 31, 32, 33, 34]
            [.int .i64 j, .int .i64 j, .bool false, .bool false, undef, undef, undef, undef, undef, undef, undef, undef, undef, undef, undef, undef, .bool false] (by kernel_rfl) ?finn ?stepsn ?nextn
          case finn =>
            simp only [putAll, Act.put, List.setIfInBounds_toArray, List.set_cons_succ, List.set_cons_zero]
            rfl
          case stepsn =>
            refine ⟨.inr ⟨by kernel_rfl, fun w1_ hB_ => ?_⟩, .inr ⟨by kernel_rfl, fun w1_ hB_ => ?_⟩, .inr ⟨by kernel_rfl, fun w1_ hB_ => ?_⟩, .inr ⟨by kernel_rfl, fun w1_ hB_ => ?_⟩, .inl ⟨by kernel_rfl, rfl⟩, .inl ⟨by kernel_rfl, rfl⟩, .inl ⟨by kernel_rfl, rfl⟩, .inl ⟨by kernel_rfl, rfl⟩, .inl ⟨by kernel_rfl, rfl⟩, .inl ⟨by kernel_rfl, rfl⟩, .inl ⟨by kernel_rfl, rfl⟩, .inl ⟨by kernel_rfl, rfl⟩, .inl ⟨by kernel_rfl, rfl⟩, .inl ⟨by kernel_rfl, rfl⟩, .inl ⟨by kernel_rfl, rfl⟩, .inl ⟨by kernel_rfl, rfl⟩, .inr ⟨by kernel_rfl, fun w1_ hB_ => ?_⟩, trivial⟩
            all_goals
              clear hB_
              go_simp
              first
                | exact ⟨rfl, Below.refl _ _⟩
                | exact ⟨rfl, HCMP.out w1_⟩
                | (rw [IntWalk.i64_in _ (by omega)]; exact ⟨rfl, Below.refl _ _⟩)
                | (rw [decide_eq_true (by omega)]; exact ⟨rfl, Below.refl _ _⟩)
                | (rw [decide_eq_false (by omega)]; exact ⟨rfl, Below.refl _ _⟩)
                | (rw [if_pos (by omega)]; exact ⟨rfl, Below.refl _ _⟩)
                | done
          case nextn =>
          intro w7 hb7
          have HB7 := Lib.hid hb7
          clear hb7
          go_wp2_with fail
          go_roundw
          case rel => exact ⟨k + 1, i + 1, x :: M, by omega, by omega, by have := HIK.out; omega, by go_num, by
            rw [HTK.out]
            have e := HUV.out
            rw [List.nil_append] at e
            exact Stab.put (A := []) (B := M) HST.out (by simp) (by rw [← e]; exact HV.out), by
            have e := HUV.out
            have h := HRI.out
            rw [List.nil_append] at e h
            rw [← HT.out, e] at h
            exact h.below HB7.out, HFI.out.then (Fr.of_below HB7.out (Nat.le_refl _))⟩
          case measure => first | (simp [intOf]; done) | (simp [intOf]; omega)
        · rw [List.concat_eq_append] at *
          have e1 := HRI.out
          rw [List.append_assoc U', ← List.append_assoc P, List.singleton_append] at e1
          have HE := Lib.hid e1
          have HE2 := Lib.hid (show RwR wr base g cap n ((P ++ (U' ++ [y])) ++ x :: (V ++ T)) by have h := HRI.out; rw [← List.append_assoc] at h; exact h)
          clear e1
          obtain ⟨p, hp⟩ : ∃ p, (P ++ U').length = p := ⟨_, rfl⟩
          have hp2 : (P ++ (U' ++ [y])).length = p + 1 := by rw [← hp]; simp only [List.length_append, List.length_cons, List.length_nil]; omega
          have hpa : a ≤ p := by rw [← hp, List.length_append, HA.out]; omega
          have hpn : p + 1 < n := by
            have h := HE2.out.len
            rw [List.length_append, hp2, List.length_cons] at h
            omega
          obtain rfl : j = p + 1 := by
            rw [hj, ← hp]; simp only [List.length_append, List.length_cons, List.length_nil, HA.out]; omega
          rw [show ((p + 1 : Nat) : Int) = (p : Int) + 1 from rfl]
          have HCY := Lib.hid HE.out.at_
          have HCX := Lib.hid HE2.out.at_
          have HFZ := Lib.hid (fun j => HE.out.frozen j)
          rw [hp] at HCY
          rw [hp2] at HCX
          have HP := Lib.hid hp
          have HP2 := Lib.hid hp2
          clear hp hp2 hj
          have HCMP := Lib.hid (fun W => order2_any x y W)
          unfold rulA at HCMP
          have hmx : mOk x := HMX.out
          have hmy : mOk y := HMB.out y (List.mem_of_mem_take (HST.out.1.mem_iff.1 (by rw [← HUV.out]; simp)))
          have HCZ := Lib.hid (cmp2_lt hmx hmy)
          obtain ⟨z, hz⟩ : ∃ z, cmp2 x y = z := ⟨_, rfl⟩
          rw [hz] at HCMP HCZ
          clear hz hmx hmy
          have HK := Lib.hid (fun (W : World) (h : Below wr.heap.size wr W) => show RulC W g ((p + 1) * 11) x ∧ RulC W g (p * 11) y from ⟨HP2.out ▸ (HE2.out.below h).at_, HP.out ▸ (HE.out.below h).at_⟩)
          by_cases hxy : keyR x < keyR y
          · have hz : z < 0 := by rw [HCZ.out]; exact hxy
            go_wp2_with fail
            refine wp_env (fin := ?fnt) (by kernel_rfl) [18, 19, 20, 21, 22, 23, 24, 25, 26, 27, 28, 29, 30, 31, 32, 33, 34]
              [.int .i64 ((p : Int) + 1), .int .i64 a, .bool true, .bool true, .func (.func 24) #[] #[], .slice (some ⟨g, 0, none⟩) n cap, .int .i64 ((p : Int) + 1), .pointer (some ⟨g, (p + 1) * 11, none⟩), rulA x, .slice (some ⟨g, 0, none⟩) n cap, .int .i64 ((p : Int) + 1), .int .i64 p, .pointer (some ⟨g, p * 11, none⟩), rulA y, .int .i64 z, .bool true, .bool true] (by kernel_rfl) ?fint ?stepst ?nextt
            case fint =>
              simp only [putAll, Act.put, List.setIfInBounds_toArray, List.set_cons_succ, List.set_cons_zero]
              rfl
            case stepst =>
              unfold rulA
              refine ⟨.inr ⟨by kernel_rfl, fun w1_ hB_ => ?_⟩, .inr ⟨by kernel_rfl, fun w1_ hB_ => ?_⟩, .inr ⟨by kernel_rfl, fun w1_ hB_ => ?_⟩, .inr ⟨by kernel_rfl, fun w1_ hB_ => ?_⟩, .inr ⟨by kernel_rfl, fun w1_ hB_ => ?_⟩, .inr ⟨by kernel_rfl, fun w1_ hB_ => ?_⟩, .inr ⟨by kernel_rfl, fun w1_ hB_ => ?_⟩, .inr ⟨by kernel_rfl, fun w1_ hB_ => ?_⟩, .inr ⟨by kernel_rfl, fun w1_ hB_ => ?_⟩, .inr ⟨by kernel_rfl, fun w1_ hB_ => ?_⟩, .inr ⟨by kernel_rfl, fun w1_ hB_ => ?_⟩, .inr ⟨by kernel_rfl, fun w1_ hB_ => ?_⟩, .inr ⟨by kernel_rfl, fun w1_ hB_ => ?_⟩, .inr ⟨by kernel_rfl, fun w1_ hB_ => ?_⟩, .inr ⟨by kernel_rfl, fun w1_ hB_ => ?_⟩, .inr ⟨by kernel_rfl, fun w1_ hB_ => ?_⟩, .inr ⟨by kernel_rfl, fun w1_ hB_ => ?_⟩, trivial⟩
              all_goals
                obtain ⟨⟨c0, c1, c2, c3, c4, c5, c6, c7, c8, c9, c10⟩, ⟨d0, d1, d2, d3, d4, d5, d6, d7, d8, d9, d10⟩⟩ := HK.out w1_ hB_
                clear hB_
                go_simp
                first
                  | exact ⟨rfl, Below.refl _ _⟩
                  | exact ⟨rfl, HCMP.out w1_⟩
                  | (rw [IntWalk.i64_in _ (by omega)]; exact ⟨rfl, Below.refl _ _⟩)
                  | (rw [decide_eq_true (by omega)]; exact ⟨rfl, Below.refl _ _⟩)
                  | (rw [decide_eq_false (by omega)]; exact ⟨rfl, Below.refl _ _⟩)
                  | (rw [if_pos (by omega)]; exact ⟨rfl, Below.refl _ _⟩)
                  | done
            case nextt =>
            intro w7 hb7
            have HB7 := Lib.hid hb7
            have HE7 := Lib.hid (HE.out.below hb7)
            have HE7' := Lib.hid (HE2.out.below hb7)
            clear hb7
            have ⟨c0, c1, c2, c3, c4, c5, c6, c7, c8, c9, c10⟩ := HP2.out ▸ HE7'.out.at_
            have ⟨d0, d1, d2, d3, d4, d5, d6, d7, d8, d9, d10⟩ := HP.out ▸ HE7.out.at_
            have fz := HE7.out.frozen
            go_wp2_with fail
            have HSW := Lib.hid (RwR.swap (Q := []) HE7.out)
            obtain ⟨wa, hwa⟩ : ∃ W, putR w7.drew g ((p + 1) * 11) y = W := ⟨_, rfl⟩
            obtain ⟨wb, hwb⟩ : ∃ W, putR w7.drew g (p * 11) x = W := ⟨_, rfl⟩
            obtain ⟨wc, hwc⟩ : ∃ W, putR wa g (p * 11) x = W := ⟨_, rfl⟩
            obtain ⟨wd, hwd⟩ : ∃ W, putR wb g ((p + 1) * 11) y = W := ⟨_, rfl⟩
            have HSX := HSW.out
            rw [HP.out, List.length_nil, Nat.add_zero] at HSX
            rw [hwa, hwb, hwc, hwd] at HSX
            obtain ⟨sA, sB, sC, sD, fC, fD⟩ := HSX
            have HSA := Lib.hid (show (RulC wa g (p * 11) y ∧ ∀ j, _) from ⟨HP.out ▸ sA.at_, fun j => sA.frozen j⟩)
            have HSB := Lib.hid (show (RulC wb g ((p + 1) * 11) x ∧ ∀ j, _) from ⟨by have h := sB; rw [List.nil_append, show P ++ U' ++ x :: x :: (V ++ T) = (P ++ (U' ++ [x])) ++ x :: (V ++ T) by simp] at h; have h := h.at_; rw [show (P ++ (U' ++ [x])).length = p + 1 by rw [← HP.out]; simp only [List.length_append, List.length_cons, List.length_nil]; omega] at h; exact h, fun j => sB.frozen j⟩)
            have HSE := Lib.hid (fun w8 (h8 : w8 = wc ∨ w8 = wd) => show RwR w8 base g cap n (P ++ U' ++ x :: (y :: (V ++ T))) ∧ Fr (fun k => k = g) w7 w8 by rcases h8 with rfl | rfl; exact ⟨sC, fC⟩; exact ⟨sD, fD⟩)
            clear sA sB sC sD fC fD
            refine wp_envW (fin := ?fns) (by kernel_rfl) [37, 38, 39, 40, 41, 42, 43, 44, 45, 46, 47, 48, 49, 50, 51, 900, 52, 901]
              [.slice (some ⟨g, 0, none⟩) n cap, .int .i64 ((p : Int) + 1), .slice (some ⟨g, 0, none⟩) n cap, .int .i64 ((p : Int) + 1), .int .i64 p, .slice (some ⟨g, 0, none⟩) n cap, .int .i64 ((p : Int) + 1), .int .i64 p, .pointer (some ⟨g, p * 11, none⟩), rulA y, .slice (some ⟨g, 0, none⟩) n cap, .int .i64 ((p : Int) + 1), .pointer (some ⟨g, (p + 1) * 11, none⟩), rulA x, .pointer (some ⟨g, (p + 1) * 11, none⟩), undef, .pointer (some ⟨g, p * 11, none⟩), undef] 15 17 _ _ wa wb wc wd (by kernel_rfl) rfl rfl (by simp) (by simp) (by decide) ?fins ?stepss ?sas ?sbs ?scs ?sds ?nexts
            case fins =>
              simp only [putAll, Act.put, List.setIfInBounds_toArray, List.set_cons_succ, List.set_cons_zero]
              rfl
            case stepss =>
              unfold rulA
              refine ⟨.inr (.inr ⟨by kernel_rfl, fun w1_ hB_ => ?_⟩), .inr (.inr ⟨by kernel_rfl, fun w1_ hB_ => ?_⟩), .inr (.inr ⟨by kernel_rfl, fun w1_ hB_ => ?_⟩), .inr (.inr ⟨by kernel_rfl, fun w1_ hB_ => ?_⟩), .inr (.inr ⟨by kernel_rfl, fun w1_ hB_ => ?_⟩), .inr (.inr ⟨by kernel_rfl, fun w1_ hB_ => ?_⟩), .inr (.inr ⟨by kernel_rfl, fun w1_ hB_ => ?_⟩), .inr (.inr ⟨by kernel_rfl, fun w1_ hB_ => ?_⟩), .inr (.inr ⟨by kernel_rfl, fun w1_ hB_ => ?_⟩), .inr (.inr ⟨by kernel_rfl, fun w1_ hB_ => ?_⟩), .inr (.inr ⟨by kernel_rfl, fun w1_ hB_ => ?_⟩), .inr (.inr ⟨by kernel_rfl, fun w1_ hB_ => ?_⟩), .inr (.inr ⟨by kernel_rfl, fun w1_ hB_ => ?_⟩), .inr (.inr ⟨by kernel_rfl, fun w1_ hB_ => ?_⟩), .inr (.inr ⟨by kernel_rfl, fun w1_ hB_ => ?_⟩), .inl rfl, .inr (.inr ⟨by kernel_rfl, fun w1_ hB_ => ?_⟩), .inl rfl, trivial⟩
              all_goals
                first
                  | (go_simp; done)
                  | (go_simp; rfl)
                  | (obtain rfl := hB_ (by kernel_rfl); go_simp; done)
                  | (obtain rfl := hB_ (by kernel_rfl); go_simp; rfl)
                  | (go_simp; intro hh_; exfalso; omega)
                  | (go_simp; intro hh_; exfalso; have := hh_ (by omega); omega)
                  | (go_simp; rw [IntWalk.i64_in _ (by omega)] <;> rfl)
                  | (go_simp; rw [if_pos (by omega)] <;> rfl)
                  | (go_simp; done)
            case sas =>
              rw [← hwa]
              unfold putR rulA
              go_simp
              first | done | rfl | done
            case sbs =>
              rw [← hwb]
              unfold putR rulA
              go_simp
              first | done | rfl | done
            case scs =>
              obtain ⟨⟨e0, e1, e2, e3, e4, e5, e6, e7, e8, e9, e10⟩, ef⟩ := HSA.out
              rw [← hwc]
              unfold putR rulA
              go_simp
              first | done | rfl | done
            case sds =>
              obtain ⟨⟨e0, e1, e2, e3, e4, e5, e6, e7, e8, e9, e10⟩, ef⟩ := HSB.out
              rw [← hwd]
              unfold putR rulA
              go_simp
              first | done | rfl | done
            case nexts =>
            rintro w8 h8
            have H8 := Lib.hid (HSE.out w8 h8)
            clear h8
            go_wp2_with fail
            go_roundw
            case rel => exact ⟨p, U', y :: V, by
              have := HP.out
              rw [List.length_append, HA.out] at this
              omega, by go_num, by have := HUV.out; simpa using this, fun v hv => by
              rcases List.mem_cons.1 hv with rfl | hv
              · exact hxy
              · exact HV.out v hv, by have h := H8.out.1; rw [List.append_assoc] at h; exact h, (HFI.out.then (Fr.of_below HB7.out (Nat.le_refl _))).then H8.out.2⟩
            case measure => first | (simp [intOf]; done) | (simp [intOf]; omega)
          · have hz : ¬ z < 0 := by rw [HCZ.out]; exact hxy
            go_wp2_with fail
            refine wp_env (fin := ?fnf) (by kernel_rfl) [18, 19, 20, 21, 22, 23, 24, 25, 26, 27, 28, 29, 30, 31, 32, 33, 34]
              [.int .i64 ((p : Int) + 1), .int .i64 a, .bool true, .bool true, .func (.func 24) #[] #[], .slice (some ⟨g, 0, none⟩) n cap, .int .i64 ((p : Int) + 1), .pointer (some ⟨g, (p + 1) * 11, none⟩), rulA x, .slice (some ⟨g, 0, none⟩) n cap, .int .i64 ((p : Int) + 1), .int .i64 p, .pointer (some ⟨g, p * 11, none⟩), rulA y, .int .i64 z, .bool false, .bool false] (by kernel_rfl) ?finf ?stepsf ?nextf
            case finf =>
              simp only [putAll, Act.put, List.setIfInBounds_toArray, List.set_cons_succ, List.set_cons_zero]
              rfl
            case stepsf =>
              unfold rulA
              refine ⟨.inr ⟨by kernel_rfl, fun w1_ hB_ => ?_⟩, .inr ⟨by kernel_rfl, fun w1_ hB_ => ?_⟩, .inr ⟨by kernel_rfl, fun w1_ hB_ => ?_⟩, .inr ⟨by kernel_rfl, fun w1_ hB_ => ?_⟩, .inr ⟨by kernel_rfl, fun w1_ hB_ => ?_⟩, .inr ⟨by kernel_rfl, fun w1_ hB_ => ?_⟩, .inr ⟨by kernel_rfl, fun w1_ hB_ => ?_⟩, .inr ⟨by kernel_rfl, fun w1_ hB_ => ?_⟩, .inr ⟨by kernel_rfl, fun w1_ hB_ => ?_⟩, .inr ⟨by kernel_rfl, fun w1_ hB_ => ?_⟩, .inr ⟨by kernel_rfl, fun w1_ hB_ => ?_⟩, .inr ⟨by kernel_rfl, fun w1_ hB_ => ?_⟩, .inr ⟨by kernel_rfl, fun w1_ hB_ => ?_⟩, .inr ⟨by kernel_rfl, fun w1_ hB_ => ?_⟩, .inr ⟨by kernel_rfl, fun w1_ hB_ => ?_⟩, .inr ⟨by kernel_rfl, fun w1_ hB_ => ?_⟩, .inr ⟨by kernel_rfl, fun w1_ hB_ => ?_⟩, trivial⟩
              all_goals
                obtain ⟨⟨c0, c1, c2, c3, c4, c5, c6, c7, c8, c9, c10⟩, ⟨d0, d1, d2, d3, d4, d5, d6, d7, d8, d9, d10⟩⟩ := HK.out w1_ hB_
                clear hB_
                go_simp
                first
                  | exact ⟨rfl, Below.refl _ _⟩
                  | exact ⟨rfl, HCMP.out w1_⟩
                  | (rw [IntWalk.i64_in _ (by omega)]; exact ⟨rfl, Below.refl _ _⟩)
                  | (rw [decide_eq_true (by omega)]; exact ⟨rfl, Below.refl _ _⟩)
                  | (rw [decide_eq_false (by omega)]; exact ⟨rfl, Below.refl _ _⟩)
                  | (rw [if_pos (by omega)]; exact ⟨rfl, Below.refl _ _⟩)
                  | done
            case nextf =>
            intro w7 hb7
            have HB7 := Lib.hid hb7
            clear hb7
            go_wp2_with fail
            go_roundw
            case rel => exact ⟨k + 1, i + 1, (U' ++ [y]) ++ x :: V, by omega, by omega, by have := HIK.out; omega, by go_num, by
              rw [HTK.out]
              refine Stab.put (by rw [HUV.out]; exact HST.out) (fun u hu => ?_) HV.out
              have hs := HST.out.2.1
              rw [← HUV.out, List.append_assoc, List.pairwise_append] at hs
              rcases List.mem_append.1 hu with hu | hu
              · have := hs.2.2 u hu y (by simp)
                omega
              · rw [List.mem_singleton.1 hu]
                omega, by
              have h := HRI.out
              rw [← HT.out] at h
              have h := h.below HB7.out
              simpa [List.append_assoc] using h, HFI.out.then (Fr.of_below HB7.out (Nat.le_refl _))⟩
            case measure => first | (simp [intOf]; done) | (simp [intOf]; omega)
    · go_wp2_with fail
      have hkd : B.drop k = [] := List.drop_eq_nil_of_le (by rw [HM.out]; omega)
      have hkt : B.take k = B := List.take_of_length_le (by rw [HM.out]; omega)
      have h1 := HRW.out
      have h2 := HST.out
      rw [hkd, List.nil_append] at h1
      rw [hkt] at h2
      go_end0
      exact ⟨rfl, M, h2, h1, HFR.out⟩
end Go.Proofs.YtkdpflgkcnhoiaaDoor
