/-
  Layer 17: the reference's Sorted.
-/
import Derived.Sort.Walk0
import Derived.Laws.Strings
import Derived.Test.YtlkoddohplcmnaaPoolJ
namespace Go.Proofs.Ytlkoddohplcmnaa
open Go Go.RowKit Go.Maps Go.WideMaps

def insL (out : Row) (x : List UInt8) : Row := out.takeWhile (fun y => Op.bytesLess y x) ++ x :: out.dropWhile (fun y => Op.bytesLess y x)
def refSort (l : Row) : Row := l.foldl insL []
theorem refSort_snoc (l : Row) (x : List UInt8) : refSort (l ++ [x]) = insL (refSort l) x := by simp [refSort]
theorem insL_eq (out : Row) (x : List UInt8) : ∀ k, k ≤ out.length → (∀ i (hi : i < out.length), i < k → Op.bytesLess out[i] x = true) → (∀ hk : k < out.length, Op.bytesLess out[k] x = false) → insL out x = out.take k ++ x :: out.drop k := by
  unfold insL
  induction out with
  | nil => intro k _ _ _; simp
  | cons y out ih =>
    intro k hk h1 h2
    rcases Nat.eq_zero_or_pos k with rfl | hp
    · have := h2 (by simp)
      simp only [List.getElem_cons_zero] at this
      simp [this]
    · obtain ⟨m, rfl⟩ : ∃ m, k = m + 1 := ⟨k - 1, by omega⟩
      have hy : Op.bytesLess y x = true := h1 0 (by simp) (by omega)
      have := ih m (by simpa using hk) (fun i hi him => by have := h1 (i + 1) (by simpa using hi) (by omega); simpa using this) (fun hm => by have := h2 (by simpa using hm); simpa using this)
      simp [hy, this]
theorem insL_len (out : Row) (x : List UInt8) : (insL out x).length = out.length + 1 := by
  unfold insL
  have := congrArg List.length (List.takeWhile_append_dropWhile (p := fun y => Op.bytesLess y x) (l := out))
  rw [List.length_append] at this
  simp
  omega
theorem insL_perm (out : Row) (x : List UInt8) : (insL out x).Perm (x :: out) := by
  unfold insL
  refine List.perm_middle.trans ?_
  rw [List.takeWhile_append_dropWhile]
theorem insL_sorted {out : Row} {x : List UInt8} (h : out.Pairwise (· ≤ ·)) : (insL out x).Pairwise (· ≤ ·) := by
  unfold insL
  induction out with
  | nil => simp
  | cons y out ih =>
    rw [List.pairwise_cons] at h
    rcases Bool.eq_false_or_eq_true (Op.bytesLess y x) with hy | hy
    · have hyx : y < x := by rwa [bytesLess_eq, decide_eq_true_eq] at hy
      simp only [List.takeWhile_cons, List.dropWhile_cons, hy, if_true, List.cons_append]
      rw [List.pairwise_cons]
      refine ⟨fun z hz => ?_, ih h.2⟩
      have hz' := (insL_perm out x).mem_iff.1 (show z ∈ insL out x from hz)
      rcases List.mem_cons.1 hz' with rfl | hz'
      · exact List.le_of_lt hyx
      · exact h.1 z hz'
    · have hyx : x ≤ y := by rw [bytesLess_eq, decide_eq_false_iff_not] at hy; exact List.not_lt.1 hy
      simp only [List.takeWhile_cons, List.dropWhile_cons, hy, Bool.false_eq_true, if_false, List.nil_append]
      rw [List.pairwise_cons]
      refine ⟨fun z hz => ?_, List.pairwise_cons.2 h⟩
      rcases List.mem_cons.1 hz with rfl | hz
      · exact hyx
      · exact List.le_trans hyx (h.1 z hz)
theorem refSort_facts (l : Row) : (refSort l).Perm l ∧ (refSort l).Pairwise (· ≤ ·) := by
  have key : ∀ (l acc : Row), acc.Pairwise (· ≤ ·) → (l.foldl insL acc).Perm (acc ++ l) ∧ (l.foldl insL acc).Pairwise (· ≤ ·) := by
    intro l
    induction l with
    | nil => intro acc h; simpa using h
    | cons x l ih =>
      intro acc h
      obtain ⟨h1, h2⟩ := ih (insL acc x) (insL_sorted h)
      refine ⟨h1.trans ?_, h2⟩
      exact ((insL_perm acc x).append_right l).trans List.perm_middle.symm
  simpa [refSort] using key l [] List.Pairwise.nil
theorem refSort_sort (l : Row) : refSort l = sortL l := by
  have tr : ∀ a b c : List UInt8, decide (a ≤ b) = true → decide (b ≤ c) = true → decide (a ≤ c) = true := fun a b c h1 h2 => by simp only [decide_eq_true_eq] at *; exact List.le_trans h1 h2
  have to : ∀ a b : List UInt8, (decide (a ≤ b) || decide (b ≤ a)) = true := fun a b => by simp only [Bool.or_eq_true, decide_eq_true_eq]; exact List.le_total a b
  obtain ⟨h1, h2⟩ := refSort_facts l
  refine List.Perm.eq_of_pairwise (le := fun a b => decide (a ≤ b) = true) (fun a b _ _ h1 h2 => ?_) (h2.imp (fun h => decide_eq_true h)) (List.pairwise_mergeSort tr to l) (h1.trans (List.mergeSort_perm l _).symm)
  simp only [decide_eq_true_eq] at h1 h2
  exact List.le_antisymm h1 h2
theorem refSort_len (l : Row) : (refSort l).length = l.length := (refSort_facts l).1.length_eq

theorem own_take {w : World} {base : Nat} {e : TypeId} {g n c k : Nat} {l : Row} (h : w.ownsRow base e 1 (.slice (some ⟨g, 0, none⟩) n c) n (strsV l)) (hl : l.length = n) (hk : k ≤ n) : Sl w w.heap.size 1 (.slice (some ⟨g, 0, none⟩) k c) k (strsV (l.take k)) := by
  obtain ⟨A', c', hv, h1, h2, h3, hc⟩ := Sl.of_own h
  cases hv
  refine ⟨_, c, rfl, by omega, h2, by rw [length_strsV, List.length_take]; omega, fun hp => ?_⟩
  obtain ⟨b, o, e, hb, hcc⟩ := hc (by omega)
  cases e
  refine ⟨g, 0, rfl, hb, fun j u hu => hcc j u ?_⟩
  have e : strsV (l.take k) = (strsV l).take k := by simp [strsV]
  rw [e, List.getElem?_take] at hu
  split at hu
  · exact hu
  · cases hu
theorem own_drop {w : World} {base : Nat} {e : TypeId} {g n c k o m c' : Nat} {l : Row} (h : w.ownsRow base e 1 (.slice (some ⟨g, 0, none⟩) n c) n (strsV l)) (hl : l.length = n) (hm : m = n - k) (ho : k < n → o = k) (hc1 : m ≤ c') (hc2 : c' ≤ maxLen) : Sl w w.heap.size 1 (.slice (some ⟨g, o, none⟩) m c') m (strsV (l.drop k)) := by
  obtain ⟨A', c'', hv, h1, h2, h3, hc⟩ := Sl.of_own h
  cases hv
  subst hm
  refine ⟨_, c', rfl, hc1, hc2, by rw [length_strsV, List.length_drop, hl, Nat.mul_one], fun hp => ?_⟩
  obtain rfl := ho (by omega)
  obtain ⟨b, o', e, hb, hcc⟩ := hc (by omega)
  cases e
  refine ⟨g, o, rfl, hb, fun j u hu => ?_⟩
  have e : strsV (l.drop o) = (strsV l).drop o := by simp [strsV]
  rw [e, List.getElem?_drop] at hu
  have := hcc _ u hu
  rwa [Nat.zero_add] at this
theorem own_base {w : World} {base base' : Nat} {e : TypeId} {v : Value} {n : Nat} {xs : List Value} (h : w.ownsRow base' e 1 v n xs) (hb : base ≤ base') : w.ownsRow base e 1 v n xs := by
  refine ⟨h.1, ?_⟩
  rcases h.2 with hn | ⟨g, cap, cur, hv, hbb, rest⟩
  · exact .inl hn
  · exact .inr ⟨g, cap, cur, hv, Nat.le_trans hb hbb, rest⟩

set_option maxRecDepth 10000 in
set_option maxHeartbeats 2000000 in
theorem sorted_ref {w : World} {v : Value} {l : Row} (hv : Strs w w.heap.size v l) (hl : l.length ≤ 10000) :
    Calls Try.prog 19 #[v] w (Rets fun v' w' => Strs w' w'.heap.size v' (refSort l) ∧ Below w.heap.size w w') := by
  obtain ⟨i0, hi, hz0, hz1, hz2⟩ := info_parts infoStr
  have HV := Lib.hid hv
  obtain ⟨A, c, rfl, hlc, hcm⟩ := strs_len hv
  unfold maxLen at hcm
  clear hv
  go_enter Try.func19, Try.ntmps19
  go_wp2_with fail
  go_loopw [3, 4] (fun u i wr => ∃ j : Nat, j ≤ l.length ∧ i = .int .i64 j ∧ wr.ownsRow w.heap.size 9 1 u (refSort (l.take j)).length (strsV (refSort (l.take j))) ∧ Below w.heap.size w wr) (fun _ i _ => l.length - (intOf i).toNat)
  case atStart => exact ⟨0, by omega, rfl, World.ownsRow_nil _ _ _ _, Below.refl _ _⟩
  case round =>
    obtain ⟨j, hj, rfl, ho, hbel⟩ := hrel
    have HO := Lib.hid ho
    have hform := (Sl.of_own ho).form
    obtain ⟨A2, c2, rfl⟩ := hform
    rcases (show j = l.length ∨ j < l.length by omega) with hje | hjl
    · subst hje
      have hS := strs_of_own (base := w.heap.size) (e := 9) ho
      rw [List.take_length] at hS
      have HS := Lib.hid hS
      clear hS ho HO
      go_wp2_with fail
      go_ret
      refine ⟨_, rfl, ?_, hbel⟩
      have := HS.out
      rwa [List.take_length] at *
    · obtain ⟨b, o, c', hAe, hbB, hc⟩ := HV.out.at_ (by omega)
      cases hAe
      have hc0 := hc j _ (strsV_at l j hjl)
      have hcell := (hbel.cell (p := ⟨b, o + j, none⟩) hbB).trans hc0
      have HS := Lib.hid (show refSort (l.take (j + 1)) = insL (refSort (l.take j)) l[j] by rw [List.take_succ_eq_append_getElem hjl, refSort_snoc])
      have hlen := refSort_len (l.take j)
      rw [List.length_take, Nat.min_eq_left hj] at hlen
      clear hc ho
      generalize l[j] = x at *
      generalize refSort (l.take j) = row at *
      rw [hlen] at HO
      rw [hlen]
      go_wp2_with fail
      go_loopw [5] (fun q ws => ∃ k : Nat, k ≤ j ∧ q = .int .i64 k ∧ (∀ i (hi : i < row.length), i < k → Op.bytesLess row[i] x = true) ∧ ws.ownsRow w.heap.size 9 1 (.slice A2 j c2) j (strsV row) ∧ Below w.heap.size w ws) (fun q _ => j - (intOf q).toNat)
      case atStart => exact ⟨0, by omega, rfl, fun _ _ h => absurd h (by omega), HO.out, hbel⟩
      case round =>
        obtain ⟨k, hk, rfl, hall, ho2, hbel2⟩ := hrel
        have HALL := Lib.hid hall
        have HO2 := Lib.hid ho2
        have hcell2 := (hbel2.cell (p := ⟨b, o + j, none⟩) hbB).trans hc0
        clear hall
        by_cases hkj : k < j
        · obtain ⟨g, cc, e, hg1, hg2⟩ := own_at ho2 (by omega)
          cases e
          have hcg := own_cell ho2 k _ (strsV_at row k (by omega))
          clear ho2
          obtain ⟨y, hy⟩ : ∃ y, row[k] = y := ⟨_, rfl⟩
          rw [hy] at hcg
          rcases Bool.eq_false_or_eq_true (Op.bytesLess y x) with hyx | hyx
          · have HN : Hid (∀ i (hi : i < row.length), i < k + 1 → Op.bytesLess row[i] x = true) := fun i hi h => by
              rcases Nat.lt_or_ge i k with h2 | h2
              · exact HALL.out i hi h2
              · obtain rfl : i = k := by omega
                rw [hy]; exact hyx
            clear hy
            go_wp2_with fail
            go_quiet (fail)
            go_wp2_with fail
            go_roundw
            case rel => exact ⟨k + 1, by omega, by go_num, HN.out, HO2.out, below_drewN hbel2 _⟩
            case measure => first | (simp [intOf]; done) | (simp [intOf]; omega)
          · have HIN := Lib.hid (insL_eq row x k (by omega) HALL.out (fun _ => by rw [hy]; exact hyx))
            clear hy
            obtain ⟨-, -, hjc⟩ : ∃ _ : True, True ∧ (j ≤ c2 ∧ c2 ≤ maxLen) := by
              obtain ⟨A', c', hv, h1, h2, -⟩ := Sl.of_own HO2.out
              cases hv
              exact ⟨trivial, trivial, h1, h2⟩
            unfold maxLen at hjc
            go_wp2_with fail
            go_quiet (fail)
            have HO3 := Lib.hid (show (wr.drewN nq).ownsRow w.heap.size 9 1 _ j (strsV row) from HO2.out)
            have hbel3 := below_drewN hbel2 nq
            obtain ⟨W0, hW0⟩ : ∃ W0, wr.drewN nq = W0 := ⟨_, rfl⟩
            rw [hW0] at HO3 hbel3 ⊢
            have hcell3 := (hbel3.cell (p := ⟨b, o + j, none⟩) hbB).trans hc0
            have hs3 := hbel3.size
            clear hW0
            have tok1 : True := trivial
            have tok2 : True := trivial
            go_wp2_with (first
              | (at_builtin; have _t := tok1; refine wpList_append_sl rfl _ _ 22 rfl W0.heap.size 9 i0 (.string ⟨#[]⟩) 1 16 Try.underlying22 hi hz0 hz1 hz2 rfl (by decide) (.slice none 0 0) 0 [] rfl (World.ownsRow_nil _ _ _ _) (.slice (some ⟨g, 0, none⟩) k c2) W0.heap.size k (strsV (row.take k)) rfl (own_take HO3.out hlen (by omega)) (strsV_one _) (by unfold maxLen; omega) (by omega) (Nat.le_refl _) ?_; intro v4 w4 hown4 hgrow4; clear tok1; rw [Nat.zero_add, List.nil_append] at hown4; have hB4 : Below W0.heap.size W0 w4 := (Below.refl _ _).grown hgrow4 (Nat.le_refl _) (fun g e => by simp [Value.ownBlock] at e); have hs4 := hB4.size; have hbel4 := hbel3.trans (hB4.mono hs3); have hcell4 := (hbel4.cell (p := ⟨b, o + j, none⟩) hbB).trans hc0)
              | (at_builtin; have _t := tok2; refine wpList_append_own _ rfl _ _ 22 rfl W0.heap.size 9 i0 (.string ⟨#[]⟩) 1 16 Try.underlying22 hi hz0 hz1 hz2 rfl (by decide) v4 k (strsV (row.take k)) rfl (hown4.alloc _) ⟨w4.heap.size, 0, none⟩ 1 1 [str x] rfl rfl (cell_one_new _ _ _) (by simp [Value.oneCell']) (by unfold maxLen; omega) (by omega) (by simp; omega) ?_; intro v5 w5 hown5 hgrow5 _; clear tok2; have hB5 : Below W0.heap.size W0 w5 := (hB4.alloc hs4 _).grown hgrow5 (by simp; omega) (fun g e => (hown4.lt g e).1); have hs5 := hB5.size)
              | (at_builtin; refine wpList_append_sl rfl _ _ 22 rfl W0.heap.size 9 i0 (.string ⟨#[]⟩) 1 16 Try.underlying22 hi hz0 hz1 hz2 rfl (by decide) v5 (k + 1) (strsV (row.take k) ++ [str x]) rfl hown5 (.slice (some ⟨g, k, none⟩) (j - k) (c2 - k)) W0.heap.size ((j - k)) (strsV (row.drop k)) rfl (Sl.below (own_drop HO3.out hlen rfl (fun _ => rfl) (by omega) (by unfold maxLen; omega)) hB5) (strsV_one _) (by unfold maxLen; omega) (by omega) hs5 ?_; intro v6 w6 hown6 hgrow6; have hB6 : Below W0.heap.size W0 w6 := hB5.grown hgrow6 hs5 (fun g e => (hown5.lt g e).1)))
            have hbel6 := hbel3.trans (hB6.mono hs3)
            have hown7 : w6.ownsRow w.heap.size 9 1 v6 (refSort (l.take (j + 1))).length (strsV (refSort (l.take (j + 1)))) := by
              rw [HS.out, insL_len, hlen, show strsV (insL row x) = (strsV (row.take k) ++ [str x]) ++ strsV (row.drop k) by rw [HIN.out]; simp [strsV]]
              have := own_base hown6 hs3
              rwa [show k + 1 + (j - k) = j + 1 by omega] at this
            go_roundw
            case rel => exact ⟨j + 1, by omega, by go_num, hown7, hbel6⟩
            case measure => first | (simp [intOf]; done) | (simp [intOf]; omega)
        · have HIN := Lib.hid (insL_eq row x k (by omega) HALL.out (fun h => absurd h (by omega)))
          obtain rfl : k = j := by omega
          obtain ⟨-, -, hjc⟩ : ∃ _ : True, True ∧ (k ≤ c2 ∧ c2 ≤ maxLen) := by
            obtain ⟨A', c', hv, h1, h2, -⟩ := Sl.of_own HO2.out
            cases hv
            exact ⟨trivial, trivial, h1, h2⟩
          unfold maxLen at hjc
          rcases ho2.2 with ⟨hn, h0⟩ | ⟨g, cap, cur, hv, -, -, -⟩
          · cases hn
            clear ho2
            rw [Nat.add_zero] at hc0
            go_wp2_with fail
            go_quiet (fail)
            have HO3 := Lib.hid (show (wr.drewN nq).ownsRow w.heap.size 9 1 _ 0 (strsV row) from HO2.out)
            have hbel3 := below_drewN hbel2 nq
            obtain ⟨W0, hW0⟩ : ∃ W0, wr.drewN nq = W0 := ⟨_, rfl⟩
            rw [hW0] at HO3 hbel3 ⊢
            have hcell3 := (hbel3.cell (p := ⟨b, o, none⟩) hbB).trans hc0
            have hs3 := hbel3.size
            clear hW0
            have tok1 : True := trivial
            have tok2 : True := trivial
            go_wp2_with (first
              | (at_builtin; have _t := tok1; refine wpList_append_sl rfl _ _ 22 rfl W0.heap.size 9 i0 (.string ⟨#[]⟩) 1 16 Try.underlying22 hi hz0 hz1 hz2 rfl (by decide) (.slice none 0 0) 0 [] rfl (World.ownsRow_nil _ _ _ _) (.slice none 0 0) W0.heap.size 0 (strsV (row.take 0)) rfl ((by rw [List.take_zero]; exact Sl.nil _ _ _)) (strsV_one _) (by unfold maxLen; omega) (by omega) (Nat.le_refl _) ?_; intro v4 w4 hown4 hgrow4; clear tok1; rw [Nat.zero_add, List.nil_append] at hown4; have hB4 : Below W0.heap.size W0 w4 := (Below.refl _ _).grown hgrow4 (Nat.le_refl _) (fun g e => by simp [Value.ownBlock] at e); have hs4 := hB4.size; have hbel4 := hbel3.trans (hB4.mono hs3); have hcell4 := (hbel4.cell (p := ⟨b, o, none⟩) hbB).trans hc0)
              | (at_builtin; have _t := tok2; refine wpList_append_own _ rfl _ _ 22 rfl W0.heap.size 9 i0 (.string ⟨#[]⟩) 1 16 Try.underlying22 hi hz0 hz1 hz2 rfl (by decide) v4 0 (strsV (row.take 0)) rfl (hown4.alloc _) ⟨w4.heap.size, 0, none⟩ 1 1 [str x] rfl rfl (cell_one_new _ _ _) (by simp [Value.oneCell']) (by unfold maxLen; omega) (by omega) (by simp; omega) ?_; intro v5 w5 hown5 hgrow5 _; clear tok2; have hB5 : Below W0.heap.size W0 w5 := (hB4.alloc hs4 _).grown hgrow5 (by simp; omega) (fun g e => (hown4.lt g e).1); have hs5 := hB5.size)
              | (at_builtin; refine wpList_append_sl rfl _ _ 22 rfl W0.heap.size 9 i0 (.string ⟨#[]⟩) 1 16 Try.underlying22 hi hz0 hz1 hz2 rfl (by decide) v5 (0 + 1) (strsV (row.take 0) ++ [str x]) rfl hown5 (.slice none 0 0) W0.heap.size (0) (strsV (row.drop 0)) rfl (Sl.below ((by rw [show row.drop 0 = [] by rw [List.drop_zero]; exact List.eq_nil_of_length_eq_zero hlen]; exact Sl.nil _ _ _)) hB5) (strsV_one _) (by unfold maxLen; omega) (by omega) hs5 ?_; intro v6 w6 hown6 hgrow6; have hB6 : Below W0.heap.size W0 w6 := hB5.grown hgrow6 hs5 (fun g e => (hown5.lt g e).1)))
            have hbel6 := hbel3.trans (hB6.mono hs3)
            have hown7 : w6.ownsRow w.heap.size 9 1 v6 (refSort (l.take (0 + 1))).length (strsV (refSort (l.take (0 + 1)))) := by
              rw [HS.out, insL_len, hlen, show strsV (insL row x) = (strsV (row.take 0) ++ [str x]) ++ strsV (row.drop 0) by rw [HIN.out]; simp [strsV]]
              have := own_base hown6 hs3
              rwa [show 0 + 1 + 0 = 0 + 1 by omega] at this
            go_roundw
            case rel => exact ⟨0 + 1, by omega, by go_num, hown7, hbel6⟩
            case measure => first | (simp [intOf]; done) | (simp [intOf]; omega)
          · cases hv
            clear ho2
            rcases (show c2 = k ∨ k < c2 by omega) with hck | hck
            · subst hck
              go_wp2_with fail
              go_quiet (fail)
              have HO3 := Lib.hid (show (wr.drewN nq).ownsRow w.heap.size 9 1 _ c2 (strsV row) from HO2.out)
              have hbel3 := below_drewN hbel2 nq
              obtain ⟨W0, hW0⟩ : ∃ W0, wr.drewN nq = W0 := ⟨_, rfl⟩
              rw [hW0] at HO3 hbel3 ⊢
              have hcell3 := (hbel3.cell (p := ⟨b, o + c2, none⟩) hbB).trans hc0
              have hs3 := hbel3.size
              clear hW0
              have tok1 : True := trivial
              have tok2 : True := trivial
              go_wp2_with (first
                | (at_builtin; have _t := tok1; refine wpList_append_sl rfl _ _ 22 rfl W0.heap.size 9 i0 (.string ⟨#[]⟩) 1 16 Try.underlying22 hi hz0 hz1 hz2 rfl (by decide) (.slice none 0 0) 0 [] rfl (World.ownsRow_nil _ _ _ _) (.slice (some ⟨g, 0, none⟩) c2 c2) W0.heap.size c2 (strsV (row.take c2)) rfl (own_take HO3.out hlen (by omega)) (strsV_one _) (by unfold maxLen; omega) (by omega) (Nat.le_refl _) ?_; intro v4 w4 hown4 hgrow4; clear tok1; rw [Nat.zero_add, List.nil_append] at hown4; have hB4 : Below W0.heap.size W0 w4 := (Below.refl _ _).grown hgrow4 (Nat.le_refl _) (fun g e => by simp [Value.ownBlock] at e); have hs4 := hB4.size; have hbel4 := hbel3.trans (hB4.mono hs3); have hcell4 := (hbel4.cell (p := ⟨b, o + c2, none⟩) hbB).trans hc0)
                | (at_builtin; have _t := tok2; refine wpList_append_own _ rfl _ _ 22 rfl W0.heap.size 9 i0 (.string ⟨#[]⟩) 1 16 Try.underlying22 hi hz0 hz1 hz2 rfl (by decide) v4 c2 (strsV (row.take c2)) rfl (hown4.alloc _) ⟨w4.heap.size, 0, none⟩ 1 1 [str x] rfl rfl (cell_one_new _ _ _) (by simp [Value.oneCell']) (by unfold maxLen; omega) (by omega) (by simp; omega) ?_; intro v5 w5 hown5 hgrow5 _; clear tok2; have hB5 : Below W0.heap.size W0 w5 := (hB4.alloc hs4 _).grown hgrow5 (by simp; omega) (fun g e => (hown4.lt g e).1); have hs5 := hB5.size)
                | (at_builtin; refine wpList_append_sl rfl _ _ 22 rfl W0.heap.size 9 i0 (.string ⟨#[]⟩) 1 16 Try.underlying22 hi hz0 hz1 hz2 rfl (by decide) v5 (c2 + 1) (strsV (row.take c2) ++ [str x]) rfl hown5 (.slice (some ⟨g, 0, none⟩) 0 0) W0.heap.size (0) (strsV (row.drop c2)) rfl (Sl.below (own_drop HO3.out hlen (by omega) (fun h => absurd h (by omega)) (by omega) (by unfold maxLen; omega)) hB5) (strsV_one _) (by unfold maxLen; omega) (by omega) hs5 ?_; intro v6 w6 hown6 hgrow6; have hB6 : Below W0.heap.size W0 w6 := hB5.grown hgrow6 hs5 (fun g e => (hown5.lt g e).1)))
              have hbel6 := hbel3.trans (hB6.mono hs3)
              have hown7 : w6.ownsRow w.heap.size 9 1 v6 (refSort (l.take (c2 + 1))).length (strsV (refSort (l.take (c2 + 1)))) := by
                rw [HS.out, insL_len, hlen, show strsV (insL row x) = (strsV (row.take c2) ++ [str x]) ++ strsV (row.drop c2) by rw [HIN.out]; simp [strsV]]
                have := own_base hown6 hs3
                rwa [show c2 + 1 + 0 = c2 + 1 by omega] at this
              go_roundw
              case rel => exact ⟨c2 + 1, by omega, by go_num, hown7, hbel6⟩
              case measure => first | (simp [intOf]; done) | (simp [intOf]; omega)
            · go_wp2_with fail
              go_quiet (fail)
              have HO3 := Lib.hid (show (wr.drewN nq).ownsRow w.heap.size 9 1 _ k (strsV row) from HO2.out)
              have hbel3 := below_drewN hbel2 nq
              obtain ⟨W0, hW0⟩ : ∃ W0, wr.drewN nq = W0 := ⟨_, rfl⟩
              rw [hW0] at HO3 hbel3 ⊢
              have hcell3 := (hbel3.cell (p := ⟨b, o + k, none⟩) hbB).trans hc0
              have hs3 := hbel3.size
              clear hW0
              have tok1 : True := trivial
              have tok2 : True := trivial
              go_wp2_with (first
                | (at_builtin; have _t := tok1; refine wpList_append_sl rfl _ _ 22 rfl W0.heap.size 9 i0 (.string ⟨#[]⟩) 1 16 Try.underlying22 hi hz0 hz1 hz2 rfl (by decide) (.slice none 0 0) 0 [] rfl (World.ownsRow_nil _ _ _ _) (.slice (some ⟨g, 0, none⟩) k c2) W0.heap.size k (strsV (row.take k)) rfl (own_take HO3.out hlen (by omega)) (strsV_one _) (by unfold maxLen; omega) (by omega) (Nat.le_refl _) ?_; intro v4 w4 hown4 hgrow4; clear tok1; rw [Nat.zero_add, List.nil_append] at hown4; have hB4 : Below W0.heap.size W0 w4 := (Below.refl _ _).grown hgrow4 (Nat.le_refl _) (fun g e => by simp [Value.ownBlock] at e); have hs4 := hB4.size; have hbel4 := hbel3.trans (hB4.mono hs3); have hcell4 := (hbel4.cell (p := ⟨b, o + k, none⟩) hbB).trans hc0)
                | (at_builtin; have _t := tok2; refine wpList_append_own _ rfl _ _ 22 rfl W0.heap.size 9 i0 (.string ⟨#[]⟩) 1 16 Try.underlying22 hi hz0 hz1 hz2 rfl (by decide) v4 k (strsV (row.take k)) rfl (hown4.alloc _) ⟨w4.heap.size, 0, none⟩ 1 1 [str x] rfl rfl (cell_one_new _ _ _) (by simp [Value.oneCell']) (by unfold maxLen; omega) (by omega) (by simp; omega) ?_; intro v5 w5 hown5 hgrow5 _; clear tok2; have hB5 : Below W0.heap.size W0 w5 := (hB4.alloc hs4 _).grown hgrow5 (by simp; omega) (fun g e => (hown4.lt g e).1); have hs5 := hB5.size)
                | (at_builtin; refine wpList_append_sl rfl _ _ 22 rfl W0.heap.size 9 i0 (.string ⟨#[]⟩) 1 16 Try.underlying22 hi hz0 hz1 hz2 rfl (by decide) v5 (k + 1) (strsV (row.take k) ++ [str x]) rfl hown5 (.slice (some ⟨g, k, none⟩) 0 (c2 - k)) W0.heap.size (0) (strsV (row.drop k)) rfl (Sl.below (own_drop HO3.out hlen (by omega) (fun h => absurd h (by omega)) (by omega) (by unfold maxLen; omega)) hB5) (strsV_one _) (by unfold maxLen; omega) (by omega) hs5 ?_; intro v6 w6 hown6 hgrow6; have hB6 : Below W0.heap.size W0 w6 := hB5.grown hgrow6 hs5 (fun g e => (hown5.lt g e).1)))
              have hbel6 := hbel3.trans (hB6.mono hs3)
              have hown7 : w6.ownsRow w.heap.size 9 1 v6 (refSort (l.take (k + 1))).length (strsV (refSort (l.take (k + 1)))) := by
                rw [HS.out, insL_len, hlen, show strsV (insL row x) = (strsV (row.take k) ++ [str x]) ++ strsV (row.drop k) by rw [HIN.out]; simp [strsV]]
                have := own_base hown6 hs3
                rwa [show k + 1 + 0 = k + 1 by omega] at this
              go_roundw
              case rel => exact ⟨k + 1, by omega, by go_num, hown7, hbel6⟩
              case measure => first | (simp [intOf]; done) | (simp [intOf]; omega)
end Go.Proofs.Ytlkoddohplcmnaa
