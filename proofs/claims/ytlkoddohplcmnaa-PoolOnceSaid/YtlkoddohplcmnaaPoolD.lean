/-
  Layer 17: All, and the iterator over a row of texts.
-/
import Derived.RangeFuncNested
import Derived.RangeFuncBound
import Derived.RangeFuncCalls
import Derived.RangeFuncLeaves
import Derived.RangeFuncFrom
import Derived.Shelf.Abstract
import Derived.Shelf.RegionOpen
import Derived.OwnWalkIn
import Derived.TacticsInMore
import Derived.LoopNIn
import Derived.LoopIn
import Derived.Test.YtlkoddohplcmnaaPoolC
import Derived.Test.YtlkoddohplcmnaaShelf
namespace Go.Proofs.Ytlkoddohplcmnaa
open Go Go.RowKit Go.Maps Go.WideMaps Go.Shelf
attribute [local go_sem] Oper.semAt_some

theorem Strs.below {w w' : World} {B : Nat} {v : Value} {l : Row} (h : Strs w B v l) (hb : Below B w w') : Strs w' B v l := Sl.below h hb
theorem Strs.more {w : World} {B B' : Nat} {v : Value} {l : Row} (h : Strs w B v l) (hB : B ≤ B') : Strs w B' v l := Sl.more h hB
theorem strs_of_own {w : World} {base : Nat} {e : TypeId} {v : Value} {l : Row} (h : w.ownsRow base e 1 v l.length (strsV l)) : Strs w w.heap.size v l := Sl.of_own h

theorem Turned.trans1 {T : Nat → Prop} {a b c : World} (h : Turned T a b) (k : Turned T b c) : Turned T a c :=
  ⟨k.os.trans h.os, k.tape.trans h.tape, k.output.trans h.output, Nat.le_trans h.size k.size, fun j hj hT => (k.block j (Nat.lt_of_lt_of_le hj h.size) hT).trans (h.block j hj hT)⟩
theorem Turned.of_below {T : Nat → Prop} {a b : World} (h : Below a.heap.size a b) : Turned T a b := ⟨h.os, h.tape, h.output, h.size, fun k hk _ => h.block k hk⟩
/-- slices.Clone of texts. -/
theorem clone_any {w : World} {v : Value} {l : Row} (h : Strs w w.heap.size v l) (hl : l.length ≤ 100000) :
    Calls Try.prog 27 #[v] w fun e w' => ∃ v', e = .returned v' ∧ w'.ownsRow w.heap.size 9 1 v' l.length (strsV l) ∧ Below w.heap.size w w' := by
  obtain ⟨A, c, rfl, h1, h2, -, hA⟩ := h
  rcases A with _ | ad
  · have h0 : l.length = 0 := by
      rcases Nat.eq_zero_or_pos l.length with h | h
      · exact h
      · obtain ⟨_, _, e, _⟩ := hA h
        cases e
    have hl0 : l = [] := List.eq_nil_of_length_eq_zero h0
    subst hl0
    exact (Try.slices_Clone_string_nil _ _ w).mono fun e w' ⟨he, hw⟩ => ⟨_, he, World.ownsRow_nil _ _ _ _, hw ▸ Below.refl _ _⟩
  · rcases Nat.eq_zero_or_pos l.length with h0 | h0
    · have hl0 : l = [] := List.eq_nil_of_length_eq_zero h0
      subst hl0
      exact (Try.slices_Clone_string_zero ad c w).mono fun e w' ⟨v', he, ho, _, hb⟩ => ⟨v', he, ho, hb⟩
    · obtain ⟨b, o, e, hB, hc⟩ := hA h0
      cases e
      refine (Try.slices_Clone_string b o l.length c (l.map fun x => ⟨x.toArray⟩) w (by simp) (by omega) (fun j hj => ?_)).mono fun e w' ⟨v', he, ho, _, hb⟩ => ⟨v', he, ?_, hb⟩
      · have hj' : j < l.length := by simpa using hj
        rw [hc j _ (strsV_at l j hj')]
        simp [List.getD, hj']
      · have e : (((l.map fun x => (⟨x.toArray⟩ : ByteArray)).take l.length).map Value.string) = strsV l := by
          rw [List.take_of_length_le (by simp), List.map_map]
          rfl
        rw [e] at ho
        exact ho

theorem own_lt {w : World} {base B : Nat} {e : TypeId} {v : Value} {l : Row} (h : w.ownsRow base e 1 v l.length (strsV l)) (hB : ∀ g, v.ownBlock = some g → g < B) : Strs w B v l := by
  refine Sl.keep (w := w) ?_ (fun p _ => rfl)
  have hs := Sl.of_own h
  obtain ⟨A, c, rfl, h1, h2, h3, h4⟩ := hs
  refine ⟨A, c, rfl, h1, h2, h3, fun hp => ?_⟩
  obtain ⟨b, o, e, hb, hc⟩ := h4 hp
  refine ⟨b, o, e, ?_, hc⟩
  obtain ⟨g, c', e', _, hg⟩ := own_at h hp
  cases e
  cases e'
  exact hB _ rfl
def AllPost (base : Nat) (w : World) (row : Row) (e : Ending) (w' : World) : Prop := ∃ B vs, e = .returned (.func (.func 33) #[] #[.pointer (some ⟨B, 0, none⟩)]) ∧
  w'.cell? ⟨B, 0, none⟩ = some vs ∧ (w'.ownsRow base 9 1 vs row.length (strsV row) ∧ ∀ g, vs.ownBlock = some g → g < B) ∧ w.heap.size ≤ B ∧ B < w'.heap.size ∧ Below w.heap.size w w'
set_option maxHeartbeats 400000 in
theorem sall_any {w : World} {base : Nat} {v : Value} {l : Row} (h : w.ownsRow base 9 1 v l.length (strsV l)) :
    Calls Try.prog 29 #[v] w (AllPost base w l) := by
  have HP : Hid (AllPost base w l (.returned (.func (.func 33) #[] #[.pointer (some ⟨w.heap.size, 0, none⟩)])) (w.alloc (.cells #[v] 22))) :=
    ⟨w.heap.size, v, rfl, by rw [cell_new]; rfl, ⟨h.alloc _, fun g e => (h.lt g e).2⟩, Nat.le_refl _, by simp, (Below.refl _ _).alloc (Nat.le_refl _) _⟩
  obtain ⟨A, c, rfl⟩ := (Sl.of_own h).form
  go_enter Try.func29, Try.ntmps29
  go_wp2_with fail
  go_ret
  exact HP.out
theorem AllPost.after {base : Nat} {w w1 w' : World} {row : Row} {e : Ending} (h : AllPost base w1 row e w') (hb : Below w.heap.size w w1) : AllPost base w row e w' := by
  obtain ⟨B, vs, h1, h2, h3, h4, h5, h6⟩ := h
  exact ⟨B, vs, h1, h2, h3, Nat.le_trans hb.size h4, h5, hb.trans (h6.mono hb.size)⟩
theorem PoolAt.strs {w : World} {T : Nat → Prop} {pb : Nat} {row : Row} (h : PoolAt w T pb row) : ∃ vl, w.cell? ⟨pb, 0, none⟩ = some vl ∧ Strs w w.heap.size vl row ∧ row.length ≤ 100000 := by
  obtain ⟨mb, vl, D, c0, _, _, hrow, _, _, _, _, _, _, _, _, hl⟩ := h
  exact ⟨vl, c0, Sl.of_own hrow, hl⟩

set_option maxHeartbeats 400000 in
theorem all_any {w : World} {T : Nat → Prop} {pb : Nat} {row : Row} (h : PoolAt w T pb row) :
    Calls Try.prog 23 #[.pointer (some ⟨pb, 0, none⟩)] w (AllPost w.heap.size w row) := by
  obtain ⟨vl, c0, hs, hl⟩ := h.strs
  have HC := Lib.hid (clone_any hs hl)
  obtain ⟨A, c, rfl, -, -⟩ := hs
  go_enter Try.func23, Try.ntmps23
  go_wp2_with fail
  refine HC.out.mono ?_
  rintro e w1 ⟨v1, rfl, ho1, hb1⟩
  have HS := Lib.hid (sall_any ho1)
  obtain ⟨A1, c1, rfl, -, -⟩ := strs_of_own ho1
  go_wp2_with fail
  refine HS.out.mono ?_
  rintro e w2 hp
  have HP := Lib.hid (hp.after hb1)
  obtain ⟨B, vs, rfl, -⟩ := hp
  go_wp2_with fail
  go_ret
  exact HP.out
set_option maxHeartbeats 400000 in
theorem all_nil (w : World) : Calls Try.prog 23 #[.pointer none] w (AllPost w.heap.size w []) := by
  have HS := Lib.hid (sall_any (w := w) (base := w.heap.size) (v := .slice none 0 0) (l := []) (World.ownsRow_nil _ _ _ _))
  go_enter Try.func23, Try.ntmps23
  go_wp2_with fail
  refine HS.out.mono ?_
  rintro e w2 hp
  have HP := Lib.hid hp
  obtain ⟨B, vs, rfl, -⟩ := hp
  go_wp2_with fail
  go_ret
  exact HP.out

theorem take_fin {n k : Nat} (h : k < n) : (List.finRange n).take (k + 1) = (List.finRange n).take k ++ [⟨k, h⟩] := by
  rw [List.take_succ_eq_append_getElem (by simpa using h)]
  simp
theorem grown_drewN (W : World) (n : Nat) (row : Option Nat) : W.grownBy (W.drewN n) row := ⟨rfl, rfl, rfl, Nat.le_refl _, fun _ _ _ => rfl⟩
/-- What a round is handed. -/
def encS (r : Row) (k : _root_.Fin r.length) : Array Value := #[.int .i64 (k.1 : Int), str r[k.1]]

set_option maxRecDepth 100000 in
set_option maxHeartbeats 2000000 in
theorem all1_in (n : Nat) (hn : 1 ≤ n) (lp B : Nat) (T : Nat → Prop) (vs : Value) (l : Row) (hlm : l.length ≤ 100000)
    (J Jx : List (_root_.Fin l.length) → World → Prop)
    (hY : ∀ pre x W, J pre W → pre.length < l.length → YieldAt Fence.wide (n - 1) Try.prog lp (encS l x) W fun e W' =>
      (e = .returned (.bool true) ∧ J (pre ++ [x]) W' ∧ Turned T W W') ∨ (e = .returned (.bool false) ∧ Jx (pre ++ [x]) W'))
    (W : World) (hB : W.cell? ⟨B, 0, none⟩ = some vs) (hb : ∀ W', Turned T W W' → Strs W' W'.heap.size vs l) (h0 : J [] W) :
    CallsIn Fence.wide n Try.prog 33 #[.func (.yield lp) #[] #[], .pointer (some ⟨B, 0, none⟩)] W fun e W' => (∃ v, e = .returned v) ∧
      ((∃ ys, ys = List.finRange l.length ∧ J ys W') ∨ (∃ pre, pre <+: List.finRange l.length ∧ Jx pre W')) := by
  obtain ⟨A, c, rfl, hlc, hcm⟩ : ∃ A c, vs = .slice A l.length c ∧ l.length ≤ c ∧ c ≤ maxLen := by
    obtain ⟨A, c, e, h1, h2, -⟩ := hb W (Turned.refl _ _)
    exact ⟨A, c, e, h1, h2⟩
  unfold maxLen at hcm
  have HA := Lib.hid hb; clear hb
  refine callsIn_of_wp Try.func33 rfl trivial ?_ rfl
  simp only [Try.ntmps33, List.size_toArray, List.length_cons, List.length_nil, Nat.reduceAdd, Nat.reduceSub, Array.replicate_succ, Array.replicate_zero, List.push_toArray, List.append_toArray, List.nil_append, List.cons_append]
  gi_wp2
  gi_loopw [7] (fun i wr => ∃ j : Nat, j ≤ l.length ∧ i = .int .i64 j ∧ J ((List.finRange l.length).take j) wr ∧ Turned T W wr) (fun i _ => l.length - (intOf i).toNat)
  case atStart => exact ⟨0, Nat.zero_le _, rfl, h0, Turned.refl _ _⟩
  case round =>
    obtain ⟨j, hj, rfl, hJs, hnx⟩ := hrel
    by_cases hjl : j < l.length
    · obtain ⟨A', c', hAe, _, _, _, hc0⟩ := HA.out wr hnx
      cases hAe
      obtain ⟨b, o, hAe, hbB, hc⟩ := hc0 (by omega)
      subst hAe
      obtain ⟨fn, tmps, assign, body, hy, hR⟩ := hY _ ⟨j, hjl⟩ wr hJs (by rw [List.length_take, List.length_finRange]; omega)
      rw [← take_fin hjl] at hR
      unfold encS at hy
      dsimp only at hy
      have hcx := hc j _ (strsV_at l j hjl)
      clear hJs hc hc0
      generalize l[j] = x at *
      gi_wp2
      refine hR.mono ?_
      rintro e W3 (⟨rfl, hJ3, hk3⟩ | ⟨rfl, hJx3⟩)
      · gi_wp2
        go_roundw
        case rel => exact ⟨j + 1, by omega, by go_num, hJ3, hnx.trans1 hk3⟩
        case measure => simp [intOf]; omega
      · gi_wp2
        refine bodyPost_ret (results_none rfl _ _ _) rfl ?_
        exact ⟨⟨_, rfl⟩, .inr ⟨_, List.take_prefix _ _, hJx3⟩⟩
    · obtain rfl : j = l.length := by omega
      rw [List.take_of_length_le (by simp)] at hJs
      gi_wp2
      go_end0
      exact ⟨⟨_, rfl⟩, .inl ⟨_, rfl, hJs⟩⟩

/-- The iterator's contract. -/
theorem all1_stops (n : Nat) (hn : 1 ≤ n) (B : Nat) (T : Nat → Prop) (vs : Value) (l : Row) (hlm : l.length ≤ 100000) (w : World) (hB : B < w.heap.size)
    (hc0 : w.cell? ⟨B, 0, none⟩ = some vs) (hb : ∀ W', Turned T w W' → Strs W' W'.heap.size vs l) :
    SeqStopsK Fence.wide n Try.prog 33 #[.pointer (some ⟨B, 0, none⟩)] (encS l) (Turned T) (fun ys => ys = List.finRange l.length) (fun pre => pre <+: List.finRange l.length) l.length w := fun lp J Jx W hW _ _ hY h0 =>
  all1_in n hn lp B T vs l hlm J Jx hY W ((hW.cell (p := ⟨B, 0, none⟩) hB).trans hc0) (fun W' h => hb W' ((Turned.of_below hW).trans1 h)) h0
/-- A row that is not of T's blocks stays. -/
theorem stays {w : World} {base B : Nat} {T : Nat → Prop} {v : Value} {l : Row} (h : w.ownsRow base 9 1 v l.length (strsV l)) (hB : ∀ g, v.ownBlock = some g → g < B) (hBw : B ≤ w.heap.size) (hT : ∀ k, base ≤ k → k < B → ¬ T k) : ∀ W', Turned T w W' → Strs W' W'.heap.size v l := by
  intro W' ht
  refine strs_of_own (base := base) (e := 9) ⟨h.1, ?_⟩
  rcases h.2 with hn | ⟨g, cap, cur, rfl, hb, hgg, rest⟩
  · exact .inl hn
  · refine .inr ⟨g, cap, cur, rfl, hb, ?_, rest⟩
    have hgB := hB g rfl
    rw [ht.block g (by omega) (hT g hb hgB)]
    exact hgg
theorem turnedK_b {w : World} {T : Nat → Prop} (hT : ∀ k, w.heap.size ≤ k → T k) (W : World) (l : Nat) (o o' : Obj) (hl : w.heap.size ≤ l) (_ : W.heap[l]? = some o) (_ : o.isCells = false) (_ : o.isWalk = false) : Turned T W (W.putObj l o') :=
  Turned.grown (grownBy_putObj' W l o') (fun g e => by cases e; exact hT _ hl)
theorem ownFrom_turned {β : Type} {B : Nat} {T : Nat → Prop} {w₀ : World} (hT : ∀ k, B ≤ k → T k) : OwnFrom B (fun (_ : β) W => Turned T w₀ W) :=
  fun _ _ _ _ hs hg hr => hs.trans1 (Turned.grown hg (fun g e => hT g (hr g e).1))
theorem own_kept {W W' : World} {base : Nat} {e : TypeId} {v : Value} {n : Nat} {xs : List Value} {row : Option Nat} (h : W.ownsRow base e 1 v n xs) (hg : W.grownBy W' row) (hr : ∀ r, row = some r → ∃ o : Obj, W.heap[r]? = some o ∧ o.isCells = false) : W'.ownsRow base e 1 v n xs := by
  refine ⟨h.1, ?_⟩
  rcases h.2 with hn | ⟨g, cap, cur, rfl, hb, hgg, rest⟩
  · exact .inl hn
  · refine .inr ⟨g, cap, cur, rfl, hb, ?_, rest⟩
    rw [hg.block g (Array.getElem?_eq_some_iff.1 hgg).1 (fun e => by
      obtain ⟨o, ho, hc⟩ := hr g e.symm
      rw [hgg] at ho
      cases ho
      simp [Obj.isCells] at hc)]
    exact hgg
end Go.Proofs.Ytlkoddohplcmnaa
