/-
  Layer 16: the law ZipTurns: what is read of a file that is turned, shorter, or longer; and the walk.
-/
import Derived.Test.YtmhadkdbonfmdaaDoorZBack
namespace Go.Proofs.YtmhadkdbonfmdaaDoor
open Go Go.RowKit Go.Shelf
set_option maxRecDepth 100000

theorem ofInt_u8 (a : Nat) (ha : a < 256) : (BitVec.ofInt 8 (a : Int)).toNat = a := by
  rw [BitVec.toNat_ofInt]; omega
theorem u8_xor_nat (a b : Nat) (ha : a < 256) (hb : b < 256) : bits .xor .u8 (a : Int) (b : Int) = ((a ^^^ b : Nat) : Int) := by
  have hx : a ^^^ b < 2 ^ 8 := Nat.xor_lt_two_pow (by omega) (by omega)
  show IntKind.u8.wrap ((BitVec.ofInt 8 (a : Int) ^^^ BitVec.ofInt 8 (b : Int)).toNat : Int) = _
  rw [BitVec.toNat_xor, ofInt_u8 a ha, ofInt_u8 b hb, IntKind.wrap_u8]
  omega
/-- The file of ten members. -/
theorem file_ten {l : List Mem} (h : fewL l = true) (h10 : l.length ≤ 10) : (fileL (tris l)).length ≤ 5000 := by
  simp only [fewL, Bool.and_eq_true, decide_eq_true_eq, List.all_eq_true] at h
  obtain ⟨h1, h2⟩ := h
  rw [length_fileL, length_outL, length_listL]
  have key : ∀ l : List Mem, (∀ m ∈ l, m.1.length ≤ 80 ∧ m.2.length ≤ 200) → ((tris l).map sizeT).sum ≤ 310 * l.length ∧ ((tris l).map fun t => 46 + t.1.length).sum ≤ 126 * l.length := by
    intro l
    induction l with
    | nil => intro _; exact ⟨Nat.le_refl _, Nat.le_refl _⟩
    | cons m l ih =>
      intro h
      obtain ⟨a, b⟩ := ih fun m hm => h m (by simp [hm])
      obtain ⟨c, d⟩ := h m (by simp)
      simp only [tris, List.map_cons, List.sum_cons, sizeT, List.length_cons] at a b ⊢
      omega
  obtain ⟨a, b⟩ := key l h1
  omega
theorem file_22 (l : List Tri) : 22 ≤ (fileL l).length := by rw [length_fileL]; omega
theorem turn_read {l : List Mem} {k er : Nat} {ms : List Mem} (hc : checkL (sizes l) = 0) (hb : (fileL (tris l)).length ≤ 5000) (hk : k / 8 < (fileL (tris l)).length) (hr : ReadP (flipBit (fileL (tris l)) k) er ms) : ms = [] ∧ (er = 12 ∨ er = 21) := by
  rcases Nat.eq_zero_or_pos er with h0 | h0
  · subst h0
    rcases hr with ⟨ts, g, e, hs, h1, h2⟩ | ⟨ts, g, e, hs, h1, h2⟩ | ⟨hn, h1, h2⟩
    · have n1 := good_len g
      have n2 := good_len (tris_good hc)
      exact absurd e.symm (fun e => (flip_file (tris_fits hc) g.1 (tris_sums l) hs (by omega) (by omega) (by omega) hk e).elim)
    · cases h1
    · cases h1
  · exact read_err hr (by omega)
theorem short_read {l : List Mem} {n er : Nat} {ms : List Mem} (hc : checkL (sizes l) = 0) (hn : n < (fileL (tris l)).length) (hr : ReadP ((fileL (tris l)).take n) er ms) : er = 12 ∧ ms = [] := by
  have key : ¬ IsFile ((fileL (tris l)).take n) := fun ⟨ts, g, e⟩ => by
    have := (file_prefix (x := (fileL (tris l)).drop n) g.1 (tris_fits hc) (by rw [← e, List.take_append_drop])).2
    have h := congrArg List.length this
    rw [List.length_drop] at h
    simp only [List.length_nil] at h
    omega
  rcases hr with ⟨ts, g, e, hs, h1, h2⟩ | ⟨ts, g, e, hs, h1, h2⟩ | ⟨hn, h1, h2⟩
  · exact absurd ⟨ts, g, e⟩ key
  · exact absurd ⟨ts, g, e⟩ key
  · exact ⟨h1, h2⟩
theorem long_read {l : List Mem} {more : List UInt8} {er : Nat} {ms : List Mem} (hc : checkL (sizes l) = 0) (hn : 0 < more.length) (hr : ReadP (fileL (tris l) ++ more) er ms) : er = 12 ∧ ms = [] := by
  have key : ¬ IsFile (fileL (tris l) ++ more) := fun ⟨ts, g, e⟩ => by
    have := (file_prefix (tris_fits hc) g.1 e).2
    subst this
    exact absurd hn (by simp)
  rcases hr with ⟨ts, g, e, hs, h1, h2⟩ | ⟨ts, g, e, hs, h1, h2⟩ | ⟨hn, h1, h2⟩
  · exact absurd ⟨ts, g, e⟩ key
  · exact absurd ⟨ts, g, e⟩ key
  · exact ⟨h1, h2⟩
/-- Which bit is turned. -/
theorem which_bit (a n : Int) (hn : 0 < n) : ∃ r : Int, a.tmod n = r ∧ 0 < r + n ∧ r < n ∧ ∃ k : Nat, (r + n).tmod n = k ∧ (k : Int) < n := by
  have h1 := Int.tmod_lt_of_pos a hn
  have h2 : -n < a.tmod n := by
    rcases Int.le_total 0 a with h | h
    · have := Int.tmod_nonneg n h
      omega
    · have h3 := Int.tmod_nonneg n (show 0 ≤ -a by omega)
      have h4 := Int.tmod_lt_of_pos (-a) hn
      rw [Int.neg_tmod] at h3 h4
      omega
  refine ⟨_, rfl, by omega, h1, ((a.tmod n + n).tmod n).toNat, ?_, ?_⟩
  · have := Int.tmod_nonneg n (show 0 ≤ a.tmod n + n by omega)
    omega
  · have h5 := Int.tmod_lt_of_pos (a.tmod n + n) hn
    have := Int.tmod_nonneg n (show 0 ≤ a.tmod n + n by omega)
    omega
theorem flip_at (b : List UInt8) (k : Nat) (h : k / 8 < b.length) : bytesV (flipBit b k) = (bytesV b).set (k / 8) (.int .u8 (((b[k / 8]).toNat ^^^ 2 ^ (k % 8) : Nat) : Int)) := by
  have hp : k % 8 < 8 := Nat.mod_lt _ (by decide)
  have h1 : 2 ^ (k % 8) < 2 ^ 8 := Nat.pow_lt_pow_right (by decide) hp
  have hget : b.getD (k / 8) 0 = b[k / 8] := by simp [List.getD, h]
  rw [flipBit, hget]
  simp only [bytesV, List.map_set, UInt8.toNat_xor, UInt8.toNat_ofNat', Nat.mod_eq_of_lt h1]

set_option maxHeartbeats 4000000 in
theorem zipturns_walk (w : World) (v : Value) (l : List Mem) (at' : Int) (u : Value) (more : List UInt8) (hv : Mems w w.heap.size v l) (_ : -9223372036854775808 ≤ at' ∧ at' ≤ 9223372036854775807) (hu : Bytes w w.heap.size u more) (hF : Fours w) :
    Calls Tryd.prog 6 #[v, .int .i64 at', u] w fun e w' => e = .returned (.bool true) ∧ Below w.heap.size w w' := by
  obtain ⟨i0, hi, hz0, hz1, hz2⟩ := info_parts infoByte
  obtain ⟨A, c, rfl, hlc, hcm⟩ := hv.form
  obtain ⟨A', c', rfl, hbc, hbm⟩ := hu.form
  unfold maxLen at hcm hbm
  have HV := Lib.hid hv
  have HU := Lib.hid hu
  have HF := Lib.hid hF
  have HFEW := Lib.hid (few_any w _ l hv)
  clear hv hu hF
  have HAW : ∀ W, Below w.heap.size w W → Hid (Calls Tryd.prog 9 #[] W fun e w' => e = .returned (.bool true) ∧ Below W.heap.size W w') := fun W hW => awake_any W (HF.out.below hW)
  cases hf : fewL l with
  | false =>
    rw [hf] at HFEW
    go_enter Tryd.func6, Tryd.ntmps6
    go_wp2_with fail
    refine HFEW.out.mono ?_
    rintro e ww ⟨rfl, rfl⟩
    go_wp2_with fail
    refine (HAW w (Below.refl _ _)).out.mono ?_
    rintro e w2 ⟨rfl, hb2⟩
    go_wp2_with fail
    go_ret
    exact ⟨rfl, hb2⟩
  | true =>
    rw [hf] at HFEW
    by_cases hin : l.length ≤ 10 ∧ 1 ≤ more.length ∧ more.length ≤ 10
    rotate_left
    · have h' : 10 < l.length ∨ (l.length ≤ 10 ∧ more.length = 0) ∨ (l.length ≤ 10 ∧ 1 ≤ more.length ∧ 10 < more.length) := by omega
      clear hin
      have h'' : decide (10 < (l.length : Int)) = true ∨ (decide (10 < (l.length : Int)) = false ∧ decide ((more.length : Int) < 1) = true) ∨ (decide (10 < (l.length : Int)) = false ∧ decide ((more.length : Int) < 1) = false ∧ decide (10 < (more.length : Int)) = true) := by
        simp only [decide_eq_true_eq, decide_eq_false_iff_not]
        omega
      clear h'
      rcases h'' with h | ⟨h1, h⟩ | ⟨h1, h2, h⟩
      all_goals
        go_enter Tryd.func6, Tryd.ntmps6
        go_wp2_with fail
        refine HFEW.out.mono ?_
        rintro e ww ⟨rfl, rfl⟩
        go_wp2_with fail
        refine (HAW w (Below.refl _ _)).out.mono ?_
        rintro e w2 ⟨rfl, hb2⟩
        go_wp2_with fail
        go_ret
        exact ⟨rfl, hb2⟩
    · obtain ⟨h10, hm1, hm10⟩ := hin
      have d1 : decide (10 < (l.length : Int)) = false := by rw [decide_eq_false_iff_not]; omega
      have d2 : decide ((more.length : Int) < 1) = false := by rw [decide_eq_false_iff_not]; omega
      have d3 : decide (10 < (more.length : Int)) = false := by rw [decide_eq_false_iff_not]; omega
      have hfl := file_ten hf h10
      have hf22 := file_22 (tris l)
      have HW := Lib.hid (write_any w _ l HV.out (by omega) (by omega) HF.out)
      by_cases hck : checkL (sizes l) = 0
      rotate_left
      · have hne : (((checkL (sizes l) : Nat) : Int) == 0) = false := by rw [beq_eq_false_iff_ne]; omega
        rw [if_neg hck] at HW
        clear hfl hf22
        generalize checkL (sizes l) = ck at *
        go_enter Tryd.func6, Tryd.ntmps6
        go_wp2_with fail
        refine HFEW.out.mono ?_
        rintro e ww ⟨rfl, rfl⟩
        go_wp2_with fail
        refine HW.out.mono ?_
        rintro e w4 ⟨⟨v2, rfl, hv2⟩, hb4⟩
        obtain ⟨A2, c2, rfl, -, -⟩ := hv2.form
        go_wp2_with fail
        refine (HAW w4 hb4).out.mono ?_
        rintro e w8 ⟨rfl, hb8⟩
        go_wp2_with fail
        go_ret
        exact ⟨rfl, hb4.trans (hb8.mono hb4.size)⟩
      · rw [hck, if_pos rfl] at HW
        have HT := fun k er ms (h : k / 8 < (fileL (tris l)).length) => turn_read (er := er) (ms := ms) hck hfl h
        have HS := fun n er ms (h : n < (fileL (tris l)).length) => short_read (er := er) (ms := ms) hck h
        have HL := fun er ms => long_read (er := er) (ms := ms) hck hm1
        have HT := Lib.hid HT
        have HS := Lib.hid HS
        have HL := Lib.hid HL
        clear hck
        generalize fileL (tris l) = b at *
        obtain ⟨r, hr1, hr2, hr3, k, hk1, hk2⟩ := which_bit at' (8 * (b.length : Int)) (by omega)
        go_enter Tryd.func6, Tryd.ntmps6
        go_wp2_with fail
        refine HFEW.out.mono ?_
        rintro e ww ⟨rfl, rfl⟩
        go_wp2_with fail
        refine HW.out.mono ?_
        rintro e w2 ⟨⟨v2, rfl, hv2⟩, hb2⟩
        obtain ⟨A2, c2, rfl, hc2, hc2m⟩ := hv2.form
        have HV2 := Lib.hid hv2
        clear hv2 HW
        have hq : k / 8 < b.length := by omega
        have hp : k % 8 < 8 := Nat.mod_lt _ (by decide)
        have hqq : (k : Int) / 8 = ((k / 8 : Nat) : Int) := by omega
        have hqp : (k : Int) % 8 = ((k % 8 : Nat) : Int) := by omega
        have HFA := Lib.hid (flip_at b k hq)
        have hx := (b[k / 8]).toNat_lt
        have HTT := Lib.hid (fun er ms => HT.out k er ms hq)
        have HSS := Lib.hid (fun er ms => HS.out (k / 8) er ms hq)
        have hfll := length_flipBit b k
        generalize flipBit b k = fb at *
        have HG := Lib.hid (show (bytesV b)[k / 8]? = some (.int .u8 ((b[k / 8]).toNat : Int)) from bytesV_at b _ hq)
        generalize (b[k / 8]).toNat = x at *
        generalize k / 8 = q at *
        generalize k % 8 = p at *
        clear HT HS
        go_wp2_with fail
        go_loopw [11, 12] (fun bt i wr => ∃ t : Nat, t ≤ p ∧ i = .int .i64 t ∧ bt = .int .u8 (2 ^ t : Nat) ∧ w2 = wr) (fun _ i _ => p - (intOf i).toNat)
        case atStart => exact ⟨0, by omega, rfl, rfl, rfl⟩
        case round =>
          obtain ⟨t, ht, rfl, rfl, rfl⟩ := hrel
          by_cases hlt : t < p
          · have HP2 := Lib.hid (Nat.pow_succ (n := 2) (m := t))
            have hp2 : 2 ^ t ≤ 2 ^ 6 := Nat.pow_le_pow_right (by decide) (by omega)
            generalize 2 ^ t = z at *
            go_wp2_with fail
            go_roundw
            case rel => exact ⟨t + 1, by omega, by go_num, by rw [HP2.out]; go_num, trivial⟩
            case measure => first | (simp [intOf]; done) | (simp [intOf]; omega)
          · obtain rfl : t = p := by omega
            have hp2 : 2 ^ t ≤ 2 ^ 7 := Nat.pow_le_pow_right (by decide) (by omega)
            generalize 2 ^ t = z at *
            have hxz := u8_xor_nat x z hx (by omega)
            go_wp2_with (at_builtin; refine wpList_append_sl rfl _ _ 32 rfl w2.heap.size 5 i0 (.int .u8 0) 1 1 Tryd.underlying32 hi hz0 hz1 hz2 rfl (by decide) (.slice none 0 0) 0 [] rfl (World.ownsRow_nil _ _ _ _) (.slice A2 b.length c2) w2.heap.size b.length (bytesV b) rfl HV2.out (bytesV_one' _) (by unfold maxLen; omega) (by omega) (Nat.le_refl _) ?_; intro v5 w5 hown5 hgrow5; simp only [Nat.zero_add, List.nil_append] at hown5; obtain ⟨g, cp, rfl, hg1, hg2⟩ := own_at hown5 (by omega); have hcq := own_cell hown5 _ _ HG.out; have hfq := own_free hown5 q)
            have hbel5 : Below w.heap.size w w5 := hb2.trans (((Below.refl w2.heap.size w2).grown hgrow5 (Nat.le_refl _) (fun k hk => by simp [Value.ownBlock] at hk)).mono hb2.size)
            have hown6 := own_set hown5 q (.int .u8 ((x ^^^ z : Nat) : Int))
            have hbel6 : Below w.heap.size w (w5.setCell ⟨g, q, none⟩ (.int .u8 ((x ^^^ z : Nat) : Int))) := hbel5.setCell (Nat.le_trans hb2.size hg1) _
            rw [← HFA.out] at hown6
            have hbf := bytes_of_own hown6 hfll.symm
            have hb2g : Bytes (w5.setCell ⟨g, q, none⟩ (.int .u8 ((x ^^^ z : Nat) : Int))) w2.heap.size (.slice A2 b.length c2) b := HV2.out.below (((Below.refl w2.heap.size w2).grown hgrow5 (Nat.le_refl _) (fun k hk => by simp [Value.ownBlock] at hk)).setCell hg1 _)
            have hle6 : w2.heap.size ≤ (w5.setCell ⟨g, q, none⟩ (.int .u8 ((x ^^^ z : Nat) : Int))).heap.size := by have := hgrow5.size; simpa using this
            generalize (w5.setCell ⟨g, q, none⟩ (.int .u8 ((x ^^^ z : Nat) : Int))) = w6 at *
            refine (readz_any w6 _ fb hbf (by omega) (HF.out.below hbel6)).mono ?_
            rintro e w7 ⟨⟨v7, er7, ms7, rfl, hm7, hr7⟩, hb7⟩
            obtain ⟨rfl, he7⟩ := HTT.out _ _ hr7
            have hne7 : ((er7 : Int) != 0) = true := by rw [bne_iff_ne]; omega
            obtain ⟨A7, c7, rfl, -, -⟩ := hm7.form
            have hbel7 := hbel6.trans (hb7.mono hbel6.size)
            have hb7g : Bytes w7 w7.heap.size (.slice A2 b.length c2) b := (hb2g.below (hb7.mono hle6)).more (Nat.le_trans hle6 hb7.size)
            have HB7 := Lib.hid hb7g
            have hle7 := Nat.le_trans hle6 hb7.size
            clear hr7 he7 hm7 hb7g hb2g hbf hown6 hcq hfq hown5 hgrow5 hb7 HFA
            go_wp2_with fail
            have htk := HB7.out.take (n := q) (by omega)
            have hlt7 : (b.take q).length = q := by rw [List.length_take]; omega
            refine (readz_any w7 _ (b.take q) htk (by omega) (HF.out.below hbel7)).mono ?_
            rintro e w8 ⟨⟨v8, er8, ms8, rfl, hm8, hr8⟩, hb8⟩
            obtain ⟨rfl, rfl⟩ := HSS.out _ _ hr8
            obtain ⟨A8, c8, rfl, -, -⟩ := hm8.form
            have hbel8 := hbel7.trans (hb8.mono hbel7.size)
            have HB8 := Lib.hid ((HB7.out.below hb8).more hb8.size)
            have hle8 := Nat.le_trans hle7 hb8.size
            clear hr8 hm8 hb8 htk HB7 HSS
            have tok1 : True := trivial
            go_wp2_with (first | (at_builtin; have _t := tok1; refine wpList_append_sl rfl _ _ 32 rfl w8.heap.size 5 i0 (.int .u8 0) 1 1 Tryd.underlying32 hi hz0 hz1 hz2 rfl (by decide) (.slice none 0 0) 0 [] rfl (World.ownsRow_nil _ _ _ _) (.slice A2 b.length c2) w8.heap.size b.length (bytesV b) rfl HB8.out (bytesV_one' _) (by unfold maxLen; omega) (by omega) (Nat.le_refl _) ?_; intro v9 w9 hown9 hgrow9; clear tok1; simp only [Nat.zero_add, List.nil_append] at hown9; have hbel9 : Below w.heap.size w w9 := hbel8.trans (((Below.refl w8.heap.size w8).grown hgrow9 (Nat.le_refl _) (fun k hk => by simp [Value.ownBlock] at hk)).mono hbel8.size); have hs9 := hgrow9.size) | (at_builtin; refine wpList_append_sl rfl _ _ 32 rfl w8.heap.size 5 i0 (.int .u8 0) 1 1 Tryd.underlying32 hi hz0 hz1 hz2 rfl (by decide) v9 b.length (bytesV b) rfl hown9 (.slice A' more.length c') w9.heap.size more.length (bytesV more) rfl ((HU.out.below hbel9).more hbel9.size) (bytesV_one' _) (by unfold maxLen; omega) (by omega) hs9 ?_; intro v10 w10 hown10 hgrow10))
            have hbel10 : Below w.heap.size w w10 := hbel9.grown hgrow10 hbel9.size (fun g hg => Nat.le_trans hbel8.size (hown9.lt g hg).1)
            have hbl : Bytes w10 w10.heap.size v10 (b ++ more) := bytes_of_own (own_more hown10) rfl
            clear hown9 hown10 hgrow9 hgrow10
            refine (readz_any w10 _ (b ++ more) hbl (by rw [List.length_append]; omega) (HF.out.below hbel10)).mono ?_
            rintro e w11 ⟨⟨v11, er11, ms11, rfl, hm11, hr11⟩, hb11⟩
            obtain ⟨rfl, rfl⟩ := HL.out _ _ hr11
            obtain ⟨A11, c11, rfl, -, -⟩ := hm11.form
            have hbel11 := hbel10.trans (hb11.mono hbel10.size)
            clear hr11 hm11 hb11 hbl
            go_wp2_with fail
            refine (HAW w11 hbel11).out.mono ?_
            rintro e w12 ⟨rfl, hb12⟩
            go_wp2_with fail
            go_ret
            exact ⟨rfl, hbel11.trans (hb12.mono hbel11.size)⟩
end Go.Proofs.YtmhadkdbonfmdaaDoor
