/-
  Layer 16: Check, walked.
-/
import Derived.Deep.AppendLies
import Derived.Test.YtmhadkdbonfmdaaDoorZCheckA
namespace Go.Proofs.YtmhadkdbonfmdaaDoor
open Go Go.RowKit Go.Shelf Go.Sort
set_option maxRecDepth 100000

/-- Members' names. -/
def names (l : List Mem) : Row := l.map (·.1)
theorem length_names (l : List Mem) : (names l).length = l.length := by simp [names]
theorem names_take (l : List Mem) (k : Nat) (h : k < l.length) : names (l.take (k + 1)) = names (l.take k) ++ [(l[k]).1] := by
  unfold names
  rw [List.take_succ_eq_append_getElem h, List.map_append]
  rfl
def sizes (l : List Mem) : List (List UInt8 × Nat) := l.map fun m => (m.1, m.2.length)
theorem check_many {l : List Mem} (h : 64 < l.length) : checkL (sizes l) = 14 := by unfold checkL; rw [if_pos (by simpa [sizes] using h)]
theorem check_name {l : List Mem} (h : ¬ 64 < l.length) (h1 : (l.any fun m => !nameOk m.1) = true) : checkL (sizes l) = 23 := by
  unfold checkL
  rw [if_neg (by simpa [sizes] using h), if_pos]
  rw [sizes, List.any_map]; exact h1
theorem check_there {l : List Mem} (h : ¬ 64 < l.length) (h1 : (l.any fun m => !nameOk m.1) = false) (h2 : ¬ (names l).Nodup) : checkL (sizes l) = 15 := by
  unfold checkL
  have e1 : ((sizes l).any fun m => !nameOk m.1) = false := by rw [sizes, List.any_map]; exact h1
  have e2 : (sizes l).map (·.1) = names l := by simp [sizes, names]
  rw [if_neg (by simpa [sizes] using h), e1, if_neg (by simp), if_pos (by rw [e2]; exact h2)]
theorem check_size {l : List Mem} (h : ¬ 64 < l.length) (h1 : (l.any fun m => !nameOk m.1) = false) (h2 : (names l).Nodup) : checkL (sizes l) = if (l.any fun m => decide (4194304 < m.2.length)) = true then 22 else 0 := by
  unfold checkL
  have e1 : ((sizes l).any fun m => !nameOk m.1) = false := by rw [sizes, List.any_map]; exact h1
  have e2 : (sizes l).map (·.1) = names l := by simp [sizes, names]
  have e3 : ((sizes l).any fun m => decide (4194304 < m.2)) = l.any fun m => decide (4194304 < m.2.length) := by rw [sizes, List.any_map]; rfl
  rw [if_neg (by simpa [sizes] using h), e1, if_neg (by simp), if_neg (by rw [e2]; exact fun hh => hh h2), e3]

/-- The closure that asks all members. -/
theorem wrong_any (w : World) (v : Value) (l : List Mem) (g : Nat) (hg : w.cell? ⟨g, 0, none⟩ = some v) (hv : Mems w w.heap.size v l) (F : Nat) (hF : F = 30 ∨ F = 33) (p : Mem → Bool) (hp : Asks F p) :
    Calls Tryd.prog 27 #[.func (.func F) #[] #[], .pointer (some ⟨g, 0, none⟩)] w fun e w' => e = .returned (.bool (l.any p)) ∧ Below w.heap.size w w' := by
  have HX := Lib.hid (contains_any w v l hv F hF p hp)
  clear hv hp hF
  go_enter Tryd.func27, Tryd.ntmps27
  go_wp2_with fail
  refine HX.out.mono ?_
  rintro e w2 ⟨rfl, hb2⟩
  go_wp2_with fail
  go_ret
  exact ⟨rfl, hb2⟩
/-- slices.Compact of a sorted row of texts. -/
theorem compact_any {w : World} {base : Nat} {v : Value} {l : Row} (h : w.ownsRow base 9 1 v l.length (strsV l)) (hl : l.length ≤ 100000) :
    Calls Tryd.prog 32 #[v] w fun e w' => (∃ A c, e = .returned (.slice A (Lib.compact l).length c)) ∧ (base ≤ w.heap.size → Below base w w') := by
  rcases h.2 with ⟨rfl, h0⟩ | ⟨g, cap, cur, rfl, hbase, hb, h1, h2, h3, h4⟩
  · have hl0 : l = [] := List.eq_nil_of_length_eq_zero h0
    subst hl0
    exact (Tryd.slices_Compact_string_empty none 0 w).mono fun e w' ⟨he, hw⟩ => ⟨⟨none, 0, he⟩, fun _ => by subst hw; exact Below.refl _ _⟩
  · have hH : Holds encStr w g 0 l.toArray := holds_of_block hb (by simpa [strsV] using h4)
    refine (Tryd.slices_Compact_string g 0 cap l w hH (by omega) h1).mono ?_
    rintro e w' ⟨he, q, rfl⟩
    refine ⟨⟨_, _, he⟩, fun hbs => ?_⟩
    have hg := grownBy_sorted (w := w) (g := g) (n := q) (os := #[]) (Lib.compact l ++ List.replicate (l.length - (Lib.compact l).length) []).toArray
    rw [grow_empty] at hg
    exact (Below.refl base w).grown hg hbs (fun r e => by cases e; exact hbase)
theorem cell_one_at (w : World) (x : Value) (t : TypeId) (k : Nat) (hk : k = w.heap.size) : ∀ j u, [x][j]? = some u → (w.alloc (.cells #[x] t)).cell? ((⟨k, 0, none⟩ : Addr).add j) = some u := by
  subst hk
  exact cell_one_new w x t
theorem nodup_less (l : Row) : decide ((Lib.compact (sortL l)).length < l.length) = decide (¬ l.Nodup) := by
  rw [decide_eq_decide]
  exact compact_less l

set_option maxHeartbeats 2000000 in
theorem check_any (w : World) (v : Value) (l : List Mem) (hv : Mems w w.heap.size v l) (hl : l.length ≤ 100000) :
    Calls Tryd.prog 13 #[v] w fun e w' => e = .returned (.int .i64 (checkL (sizes l) : Nat)) ∧ Below w.heap.size w w' := by
  obtain ⟨i0, hi, hz0, hz1, hz2⟩ := info_parts infoStr
  obtain ⟨A, c, rfl, hlc, hcm⟩ := hv.form
  unfold maxLen at hcm
  have HV := Lib.hid hv
  clear hv
  go_enter Tryd.func13, Tryd.ntmps13
  go_wp2_with fail
  generalize hw1 : w.alloc (.cells #[.slice A l.length c] 22) = w1
  have hs1 : w.heap.size < w1.heap.size := by rw [← hw1]; simp
  have hb1 : Below w.heap.size w w1 := by rw [← hw1]; exact bump _ _
  have hg1 : w1.cell? ⟨w.heap.size, 0, none⟩ = some (.slice A l.length c) := by rw [← hw1, cell_new]; rfl
  have HV1 := Lib.hid ((HV.out.below hb1).more hb1.size)
  clear hw1 HV
  go_wp2_with fail
  go_loopw [3, 10] (fun x i wr => ∃ k : Nat, k ≤ l.length ∧ i = .int .i64 k ∧ wr.ownsRow w1.heap.size 9 1 x k (strsV (names (l.take k))) ∧ Below w1.heap.size w1 wr) (fun _ i _ => l.length - (intOf i).toNat)
  case atStart => exact ⟨0, by omega, rfl, World.ownsRow_nil _ _ _ _, Below.refl _ _⟩
  case round =>
    obtain ⟨k, hk, rfl, hown, hbel⟩ := hrel
    have hs := hbel.size
    by_cases hlt : k < l.length
    · obtain ⟨b, o, rfl, hbB, hc0, hn, dv, hc1, hy⟩ := HV1.out.at_ hlt
      have hd0 := (hbel.cell (p := ⟨b, o + k * 2, none⟩) hbB).trans hc0
      have hd1 := (hbel.cell (p := ⟨b, o + k * 2 + 1, none⟩) hbB).trans hc1
      have HT := Lib.hid (names_take l k hlt)
      obtain ⟨A2, c2, rfl, -, -⟩ := hy.form
      clear hc0 hc1 hy hn
      generalize names (l.take k) = acc at *
      generalize (l[k]).1 = name at *
      go_wp2_with (at_builtin; refine wpList_append_own _ rfl _ _ 25 rfl w1.heap.size 9 i0 (.string ⟨#[]⟩) 1 16 Tryd.underlying25 hi hz0 hz1 hz2 rfl (by decide) u3 k (strsV acc) rfl (own_below hown (((Below.refl _ _).alloc (Nat.le_refl _) _).alloc (by simp) _)) ⟨wr.heap.size + 1, 0, none⟩ 1 1 [str name] rfl rfl (cell_one_at _ _ _ (wr.heap.size + 1) (by simp)) (by simp [Value.oneCell']) (by unfold maxLen; omega) (by omega) (by simp; omega) ?_; intro v3 w3 hown3 hgrow3 _)
      have hb3 : Below w1.heap.size w1 w3 := ((hbel.alloc hs _).alloc (by simp; omega) _).grown hgrow3 (by simp; omega) (fun g hg => (hown.lt g hg).1)
      go_roundw
      case rel => exact ⟨k + 1, by omega, by go_num, by rw [HT.out, strsV_append]; exact hown3, hb3⟩
      case measure => first | (simp [intOf]; done) | (simp [intOf]; omega)
    · obtain rfl : k = l.length := by omega
      have e : names (l.take l.length) = names l := by rw [List.take_length]
      rw [e] at hown
      have hlen := length_names l
      have hown' : wr.ownsRow w1.heap.size 9 1 u3 (names l).length (strsV (names l)) := by rw [hlen]; exact hown
      have HSO := Lib.hid (sort_any hown' (by omega))
      have HO := Lib.hid hown'
      clear e hown hlt hown'
      go_wp2_with fail
      refine HSO.out.mono ?_
      rintro e w4 ⟨rfl, hown4, hgrow4⟩
      have hb4 : Below w1.heap.size w1 w4 := hbel.grown hgrow4 hs (fun g hg => (HO.out.lt g hg).1)
      have hs4 := hb4.size
      have hg4 : w4.cell? ⟨w.heap.size, 0, none⟩ = some (.slice A l.length c) := (hb4.cell (p := ⟨w.heap.size, 0, none⟩) hs1).trans hg1
      have HV4 := Lib.hid ((HV1.out.below hb4).more hb4.size)
      have hbw4 : Below w.heap.size w w4 := hb1.trans (hb4.mono hb1.size)
      have HO4 := Lib.hid hown4
      have hg1' := Lib.hid hg1
      clear hown4 HSO HO hgrow4 hg1 hbel hs
      by_cases hbig : 64 < l.length
      · have HR := Lib.hid (check_many hbig)
        go_wp2_with fail
        go_ret
        exact ⟨by rw [HR.out]; rfl, hbw4⟩
      · have HW := Lib.hid (wrong_any w4 _ l _ hg4 HV4.out _ (.inl rfl) _ asks_name)
        cases hn : l.any fun m => !nameOk m.1 with
        | true =>
          rw [hn] at HW
          have HR := Lib.hid (check_name hbig hn)
          go_wp2_with fail
          refine HW.out.mono ?_
          rintro e w5 ⟨rfl, hb5⟩
          go_wp2_with fail
          go_ret
          exact ⟨by rw [HR.out]; rfl, hbw4.trans (hb5.mono hbw4.size)⟩
        | false =>
          rw [hn] at HW
          go_wp2_with fail
          refine HW.out.mono ?_
          rintro e w5 ⟨rfl, hb5⟩
          have hg5 : w5.cell? ⟨w.heap.size, 0, none⟩ = some (.slice A l.length c) := (hb5.cell (p := ⟨w.heap.size, 0, none⟩) (show w.heap.size < w4.heap.size by omega)).trans hg4
          have HO5 : Hid (w5.ownsRow w1.heap.size 9 1 u3 (sortL (names l)).length (strsV (sortL (names l)))) := by
            show World.ownsRow _ _ _ _ _ _ _
            rw [sortL_len]
            exact own_below HO4.out hb5
          have HV5 := Lib.hid ((HV4.out.below hb5).more hb5.size)
          have hbw5 : Below w.heap.size w w5 := hbw4.trans (hb5.mono hbw4.size)
          have hbb5 : Below w1.heap.size w1 w5 := hb4.trans (hb5.mono hb4.size)
          have hs5 := hbb5.size
          clear HW hb5 hg4 HV4 HO4
          by_cases hnd : (names l).Nodup
          · have HR := Lib.hid (check_size hbig hn hnd)
            have hq : ¬ (Lib.compact (sortL (names l))).length < l.length := by
              have := compact_less (names l)
              rw [hlen] at this
              rw [this]
              exact fun h => h hnd
            have HASK := Lib.hid (asks_size)
            go_wp2_with fail
            go_region_with (go_at_call 32; refine (compact_any (w := w5.drew) HO5.out (by rw [sortL_len]; omega)).mono ?_; rintro e w6 ⟨⟨A6, c6, rfl⟩, hb6⟩; have hbb6 : Below w1.heap.size w1 w6 := (hbb5.drew).trans (hb6 hs5); have hg6 : w6.cell? ⟨w.heap.size, 0, none⟩ = some (.slice A l.length c) := (hbb6.cell (p := ⟨w.heap.size, 0, none⟩) hs1).trans hg1'.out)
            all_goals
              generalize (Lib.compact (sortL (names l))).length = q at *
              have HW6 := Lib.hid (wrong_any w6 _ l _ hg6 ((HV1.out.below hbb6).more hbb6.size) _ (.inr rfl) _ HASK.out)
              have hbw6 : Below w.heap.size w w6 := hb1.trans (hbb6.mono hb1.size)
              cases hz : l.any fun m => decide (4194304 < m.2.length) with
              | true =>
                rw [hz] at HW6 HR
                go_wp2_with fail
                refine HW6.out.mono ?_
                rintro e w7 ⟨rfl, hb7⟩
                go_wp2_with fail
                go_ret
                exact ⟨by rw [HR.out]; rfl, hbw6.trans (hb7.mono hbw6.size)⟩
              | false =>
                rw [hz] at HW6 HR
                go_wp2_with fail
                refine HW6.out.mono ?_
                rintro e w7 ⟨rfl, hb7⟩
                go_wp2_with fail
                go_ret
                exact ⟨by rw [HR.out]; rfl, hbw6.trans (hb7.mono hbw6.size)⟩
          · have HR := Lib.hid (check_there hbig hn hnd)
            have hq : (Lib.compact (sortL (names l))).length < l.length := by
              have := compact_less (names l)
              rw [hlen] at this
              exact this.2 hnd
            go_wp2_with fail
            go_region_with (go_at_call 32; refine (compact_any (w := w5.drew) HO5.out (by rw [sortL_len]; omega)).mono ?_; rintro e w6 ⟨⟨A6, c6, rfl⟩, hb6⟩; have hbb6 : Below w1.heap.size w1 w6 := (hbb5.drew).trans (hb6 hs5); have hg6 : w6.cell? ⟨w.heap.size, 0, none⟩ = some (.slice A l.length c) := (hbb6.cell (p := ⟨w.heap.size, 0, none⟩) hs1).trans hg1'.out)
            all_goals
              generalize (Lib.compact (sortL (names l))).length = q at *
              go_wp2_with fail
              go_ret
              exact ⟨by rw [HR.out]; rfl, hb1.trans (hbb6.mono hb1.size)⟩
end Go.Proofs.YtmhadkdbonfmdaaDoor
