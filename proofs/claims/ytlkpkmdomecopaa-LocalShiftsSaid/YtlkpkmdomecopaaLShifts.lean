/-
  Layer 20: the law LocalShifts, walked.
-/
import Derived.Test.YtlkpkmdomecopaaSerialC
import Derived.Test.YtlkpkmdomecopaaLAwake
import Derived.Test.YtlkpkmdomecopaaLFacts
namespace Go.Proofs.Ytlkpkmdomecopaa
open Go Go.RowKit Go.Shelf
set_option maxRecDepth 100000

def more1 (m : Int) (c : Chg) : Chg := ⟨c.at_, ⟨c.loc.off + m, c.loc.dst, c.loc.abbr⟩⟩
def moreL (m : Int) (l : List Chg) : List Chg := l.map (more1 m)
theorem moreL_len (m : Int) (l : List Chg) : (moreL m l).length = l.length := by simp [moreL]
theorem moreL_at (m : Int) (l : List Chg) (i : Nat) (h : i < l.length) : (moreL m l)[i]'(by rw [moreL_len]; exact h) = more1 m l[i] := by simp [moreL]
theorem more_row {l : List Chg} (h : Row l) {m : Int} (h1 : -90000 < m) (h2 : m < 90000) (ho : ∀ j (hj : j < l.length), -90000 < (l[j]).loc.off ∧ (l[j]).loc.off < 90000) : Row (moreL m l) := by
  refine ⟨by rw [moreL_len]; exact h.pos, by rw [moreL_len]; exact h.few, fun i hi => ?_, ?_, fun i hi => ?_⟩
  · rw [moreL_len] at hi
    rw [moreL_at m l i hi]
    have := h.off i hi
    have := ho i hi
    simp only [more1]
    omega
  · rw [moreL_at m l 0 h.pos]
    exact h.first
  · rw [moreL_len] at hi
    rw [moreL_at m l i (by omega), moreL_at m l (i + 1) hi]
    exact h.rise i hi
theorem more_all {l : List Chg} {m s : Int} : allL (moreL m l) (s + m) = allL l s := by
  have e1 : ∀ k, k < l.length → tAt (moreL m l) (s + m) k = tAt l s k := fun k hk => by
    unfold tAt
    rw [locAt_in (show k < (moreL m l).length by rw [moreL_len]; exact hk), locAt_in hk, moreL_at m l k hk]
    simp only [more1]
    omega
  have e2 : ∀ k, k < l.length → shows (moreL m l) (s + m) k = shows l s k := fun k hk => by
    have hk' : k < (moreL m l).length := by rw [moreL_len]; exact hk
    rw [Bool.eq_iff_iff, shows_iff hk, shows_iff hk', moreL_at m l k hk]
    simp only [more1, moreL_len]
    constructor
    · rintro ⟨a, b⟩
      refine ⟨by omega, fun h => ?_⟩
      have := b h
      rw [moreL_at m l (k + 1) h] at this
      simp only [more1] at this
      omega
    · rintro ⟨a, b⟩
      refine ⟨by omega, fun h => ?_⟩
      rw [moreL_at m l (k + 1) h]
      have := b h
      simp only [more1]
      omega
  unfold allL allOf
  rw [moreL_len]
  have h1 : (List.range' 0 l.length).filter (shows (moreL m l) (s + m)) = (List.range' 0 l.length).filter (shows l s) := List.filter_congr fun k hk => e2 k (by rw [List.mem_range'_1] at hk; omega)
  rw [h1]
  refine List.map_congr_left fun k hk => ?_
  rw [List.mem_filter, List.mem_range'_1] at hk
  exact e1 k (by omega)
/-- What is found of both. -/
theorem more_found {l : List Chg} {m s : Int} {f g : Fnd} (hf : found l s false f) (hg : found (moreL m l) (s + m) false g) : g.kind = f.kind ∧ (f.kind ≠ 3 → g.at_ = f.at_) := by
  unfold found at hf hg
  rw [more_all] at hg
  generalize allL l s = L at *
  rcases L with _ | ⟨t, _ | ⟨t2, q⟩⟩
  · obtain ⟨_, _, _, _, _, _, _, rfl⟩ := hf
    obtain ⟨_, _, _, _, _, _, _, rfl⟩ := hg
    exact ⟨rfl, fun h => absurd rfl h⟩
  · dsimp only at hf hg
    rw [hf, hg]
    exact ⟨rfl, fun _ => rfl⟩
  · dsimp only at hf hg
    simp only [Bool.false_eq_true, if_false] at hf hg
    rw [hf, hg]
    exact ⟨rfl, fun _ => rfl⟩
theorem cell_new2 (w : World) (o : Obj) (C : Array Value) (t : TypeId) (fr : Nat × Nat) (i : Nat) : ((w.alloc o).alloc (.cells C t fr)).cell? ⟨w.heap.size + 1, i, none⟩ = C[i]? := by
  have := cell_new (w.alloc o) C t fr i
  rwa [World.size_alloc] at this
theorem infoChg : (Try.prog.info? 34).map (fun i => (i.zero, i.size, i.bytes)) = some (some (.agg #[.int .i64 0, .int .i64 0, .bool false, .string ⟨#[]⟩]), 4, 40) := by kernel_rfl
set_option maxHeartbeats 4000000 in
theorem shifts_walk (w : World) (v : Value) (l : List Chg) (s m : Int) (hv : Chgs w w.heap.size v l) (_ : -9223372036854775808 ≤ s ∧ s ≤ 9223372036854775807) (_ : -9223372036854775808 ≤ m ∧ m ≤ 9223372036854775807) :
    Calls Try.prog 5 #[v, .int .i64 s, .int .i64 m] w fun e w' => e = .returned (.bool true) ∧ Below w.heap.size w w' := by
  have HV := Lib.hid hv
  have HR := Lib.hid (right_any w _ v l hv)
  obtain ⟨A, c, rfl, hlc, hcm⟩ := hv.form
  unfold maxLen at hcm
  clear hv
  cases hrb : rightB l with
  | false =>
    rw [hrb] at HR
    clear hrb
    go_enter Try.func5, Try.ntmps5
    go_wp2_with fail
    refine HR.out.mono ?_
    rintro e w1 ⟨rfl, hb1⟩
    go_wp2_with fail
    refine (awake_any _).mono ?_
    rintro e wz ⟨rfl, hbz⟩
    go_wp2_with fail
    go_ret
    exact ⟨rfl, (hb1).trans (hbz.mono (hb1).size)⟩
  | true =>
    have hrow := (rightB_iff l).1 hrb
    rw [hrb] at HR
    clear hrb
    by_cases hin : -1099511627776 ≤ s ∧ s ≤ 1099511627776 ∧ -90000 < m ∧ m < 90000
    · obtain ⟨s1, s2, m1, m2⟩ := hin
      obtain ⟨i0, hi, hz0, hz1, hz2⟩ := info_parts infoChg
      have hl60 := hrow.few
      go_enter Try.func5, Try.ntmps5
      go_wp2_with fail
      refine HR.out.mono ?_
      rintro e w1 ⟨rfl, hb1⟩
      go_wp2_with fail
      go_loopw [7, 8] (fun u i wr => ∃ k : Nat, k ≤ l.length ∧ i = .int .i64 k ∧ (∀ j (hj : j < l.length), j < k → -90000 < (l[j]).loc.off ∧ (l[j]).loc.off < 90000) ∧ wr.ownsRow w.heap.size 34 4 u k (chgsV (moreL m (l.take k))) ∧ Below w.heap.size w wr) (fun _ i _ => l.length - (intOf i).toNat)
      case atStart => exact ⟨0, by omega, rfl, fun j _ h => by omega, World.ownsRow_nil _ _ _ _, hb1⟩
      case round =>
        obtain ⟨k, hk, rfl, hs, hown, hbw⟩ := hrel
        have HS := Lib.hid hs
        have HOW := Lib.hid hown
        clear hs hown hb1
        by_cases hlt : k < l.length
        · obtain ⟨b, o, c', e, hb, hc⟩ := HV.out.cells (by omega)
          cases e
          obtain ⟨c0, c1, c2, c3⟩ := hc k hlt
          have d0 := (hbw.cell (p := ⟨b, o + k * 4, none⟩) hb).trans c0
          have d1 := (hbw.cell (p := ⟨b, o + k * 4 + 1, none⟩) hb).trans c1
          have d2 := (hbw.cell (p := ⟨b, o + k * 4 + 2, none⟩) hb).trans c2
          have d3 := (hbw.cell (p := ⟨b, o + k * 4 + 3, none⟩) hb).trans c3
          clear hc c0 c1 c2 c3
          have HT := Lib.hid (show chgsV (moreL m (l.take (k + 1))) = chgsV (moreL m (l.take k)) ++ chgV (more1 m l[k]) by
            unfold moreL
            rw [List.take_succ_eq_append_getElem hlt, List.map_append]
            simp [chgsV])
          have HN := Lib.hid (show -90000 < (l[k]).loc.off → (l[k]).loc.off < 90000 → ∀ j (hj : j < l.length), j < k + 1 → -90000 < (l[j]).loc.off ∧ (l[j]).loc.off < 90000 from fun h1 h2 j hj h4 => by
            rcases Nat.lt_or_ge j k with h5 | h5
            · exact HS.out j hj h5
            · obtain rfl : j = k := by omega
              exact ⟨h1, h2⟩)
          have hbl : b < wr.heap.size := by have := hbw.size; omega
          have hws := hbw.size
          generalize l[k] = x at *
          by_cases f1 : x.loc.off ≤ -90000
          ·
              go_wp2_with fail
              refine (awake_any _).mono ?_
              rintro e wz ⟨rfl, hbz⟩
              have BLz := (hbw).trans (hbz.mono (hbw).size)
              go_wp2_with fail
              go_ret
              exact ⟨rfl, BLz⟩
          · by_cases f2 : 90000 ≤ x.loc.off
            ·
              go_wp2_with fail
              refine (awake_any _).mono ?_
              rintro e wz ⟨rfl, hbz⟩
              have BLz := (hbw).trans (hbz.mono (hbw).size)
              go_wp2_with fail
              go_ret
              exact ⟨rfl, BLz⟩
            · go_wp2_with (at_builtin; refine wpList_append_own _ rfl _ _ 22 rfl w.heap.size 34 i0 (.agg #[.int .i64 0, .int .i64 0, .bool false, .string ⟨#[]⟩]) 4 40 Try.underlying22 hi hz0 hz1 hz2 rfl (by decide) _ k _ rfl ((HOW.out.alloc _).alloc _) ⟨wr.heap.size + 1, 0, none⟩ 1 1 (chgV (more1 m x)) rfl rfl (fun j y hy => by rw [Addr.add_lit, Nat.zero_add, cell_new2]; simpa [chgV, more1] using hy) (by simp [chgV, Value.oneCell']) (by unfold maxLen; omega) (by omega) (by simp; omega) ?_; intro v2 w2 hown2 hgrow2 hnil2)
              go_roundw
              case rel => exact ⟨k + 1, by omega, by go_num, HN.out (by omega) (by omega), by rw [HT.out]; exact hown2, ((hbw.alloc hws _).alloc (by simp; omega) _).grown hgrow2 (by simp; omega) (fun g e => (HOW.out.lt g e).1)⟩
              case measure => first | (simp [intOf]; done) | (simp [intOf]; omega)
        · obtain rfl : k = l.length := by omega
          rw [List.take_length] at HOW
          have HV2 : Hid (Chgs wr wr.heap.size _ (moreL m l)) := Lib.hid (by unfold Chgs; rw [moreL_len]; exact Sl.of_own HOW.out)
          obtain ⟨A7, c7, hform, -, -⟩ := HV2.out.form
          subst hform
          have HMR := Lib.hid (more_row hrow m1 m2 fun j hj => HS.out j hj hj)
          clear HR HS HOW
          go_wp2_with fail
          refine (find_yes wr w.heap.size (.slice A l.length c) l s false (HV.out.below hbw) hbw.size hrow (by omega) (by omega)).mono ?_
          rintro e w2 ⟨⟨f2, rfl, hf2⟩, hb2⟩
          have HF2 := Lib.hid hf2
          have hfb := Blk.new w2 36 #[.int .i64 f2.kind, .int .i64 f2.at_, .int .i64 f2.chg.at_, .int .i64 f2.chg.loc.off, .bool f2.chg.loc.dst, .string f2.chg.loc.abbr]
          have hbf := hb2.alloc hb2.size (.cells #[.int .i64 f2.kind, .int .i64 f2.at_, .int .i64 f2.chg.at_, .int .i64 f2.chg.loc.off, .bool f2.chg.loc.dst, .string f2.chg.loc.abbr] 36)
          unfold fndA
          clear hf2
          go_wp2_with fail
          obtain ⟨W2, hW2⟩ : ∃ W, w2.alloc (.cells #[.int .i64 f2.kind, .int .i64 f2.at_, .int .i64 f2.chg.at_, .int .i64 f2.chg.loc.off, .bool f2.chg.loc.dst, .string f2.chg.loc.abbr] 36) = W := ⟨_, rfl⟩
          rw [hW2] at hfb hbf ⊢
          have FL2 : w2.heap.size < W2.heap.size := by rw [← hW2]; simp
          clear hW2
          have hz2' := hb2.size
          refine (find_yes W2 wr.heap.size _ (moreL m l) (s + m) false (HV2.out.below hbf) hbf.size HMR.out (by omega) (by omega)).mono ?_
          rintro e w3 ⟨⟨f3, rfl, hf3⟩, hb3⟩
          obtain ⟨k1, k2⟩ := more_found HF2.out hf3
          have FB2 : FndB w3 w2.heap.size f2 := hfb.below hb3 FL2
          obtain ⟨a0, a1, a2, a3, a4, a5⟩ := FndB.cells FB2
          have FL3 := FB2.lt
          have BL3 : Below w.heap.size w (w3.alloc (.cells #[.int .i64 f3.kind, .int .i64 f3.at_, .int .i64 f3.chg.at_, .int .i64 f3.chg.loc.off, .bool f3.chg.loc.dst, .string f3.chg.loc.abbr] 36)) := (hbw.trans (hbf.mono hbw.size)).trans ((hb3.alloc hb3.size _).mono (Nat.le_trans hbw.size hbf.size))
          clear FB2 hf3 hfb
          unfold fndA
          rw [k1] at BL3 ⊢
          by_cases h3 : f2.kind = 3
          · rw [h3] at a0 BL3 ⊢
            go_wp2_with fail
            refine (awake_any _).mono ?_
            rintro e wz ⟨rfl, hbz⟩
            go_wp2_with fail
            go_ret
            exact ⟨rfl, (BL3).trans (hbz.mono (BL3).size)⟩
          · have h4 := k2 h3
            have h5 : ((f2.kind : Int) == 3) = false := by rw [beq_eq_false_iff_ne]; omega
            rw [h4] at BL3 ⊢
            go_wp2_with fail
            refine (awake_any _).mono ?_
            rintro e wz ⟨rfl, hbz⟩
            go_wp2_with fail
            go_ret
            exact ⟨rfl, (BL3).trans (hbz.mono (BL3).size)⟩
    · by_cases g1 : s < -1099511627776
      · go_enter Try.func5, Try.ntmps5
        go_wp2_with fail
        refine HR.out.mono ?_
        rintro e w1 ⟨rfl, hb1⟩
        go_wp2_with fail
        refine (awake_any _).mono ?_
        rintro e wz ⟨rfl, hbz⟩
        go_wp2_with fail
        go_ret
        exact ⟨rfl, (hb1).trans (hbz.mono (hb1).size)⟩
      · by_cases g2 : 1099511627776 < s
        · go_enter Try.func5, Try.ntmps5
          go_wp2_with fail
          refine HR.out.mono ?_
          rintro e w1 ⟨rfl, hb1⟩
          go_wp2_with fail
          refine (awake_any _).mono ?_
          rintro e wz ⟨rfl, hbz⟩
          go_wp2_with fail
          go_ret
          exact ⟨rfl, (hb1).trans (hbz.mono (hb1).size)⟩
        · by_cases g3 : m ≤ -90000
          · go_enter Try.func5, Try.ntmps5
            go_wp2_with fail
            refine HR.out.mono ?_
            rintro e w1 ⟨rfl, hb1⟩
            go_wp2_with fail
            refine (awake_any _).mono ?_
            rintro e wz ⟨rfl, hbz⟩
            go_wp2_with fail
            go_ret
            exact ⟨rfl, (hb1).trans (hbz.mono (hb1).size)⟩
          · have g4 : 90000 ≤ m := by omega
            go_enter Try.func5, Try.ntmps5
            go_wp2_with fail
            refine HR.out.mono ?_
            rintro e w1 ⟨rfl, hb1⟩
            go_wp2_with fail
            refine (awake_any _).mono ?_
            rintro e wz ⟨rfl, hbz⟩
            go_wp2_with fail
            go_ret
            exact ⟨rfl, (hb1).trans (hbz.mono (hb1).size)⟩
end Go.Proofs.Ytlkpkmdomecopaa
