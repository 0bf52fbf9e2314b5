/-
  Layer 16: Read's list of all, one member more: what its drawn region keeps.
-/
import Derived.Test.YtmhadkdbonfmdaaDoorZReadA
import Derived.Test.YtmhadkdbonfmdaaDoorInvIn
import Derived.OwnWalkIn
namespace Go.Proofs.YtmhadkdbonfmdaaDoor
open Go Go.RowKit Go.Shelf
set_option maxRecDepth 100000

theorem list_bound (ts : List Tri) : ∀ a, (listL a ts).length ≤ 46 * ts.length + tot ts := by
  induction ts with
  | nil => intro a; simp [listL]
  | cons t ts ih =>
    intro a
    have := ih (a + sizeT t)
    simp only [listL, List.length_append, length_rowL, List.length_cons, tot, List.map_cons, List.sum_cons, sizeT] at this ⊢
    omega
theorem sums_snoc {ts : List Tri} {t : Tri} : SumsOk (ts ++ [t]) ↔ SumsOk ts ∧ t.2.2 = crcOf t.2.1 := by
  unfold SumsOk
  constructor
  · intro h
    exact ⟨fun s hs => h s (by simp [hs]), h t (by simp)⟩
  · rintro ⟨h1, h2⟩ s hs
    rcases List.mem_append.1 hs with hs | hs
    · exact h1 s hs
    · obtain rfl : s = t := by simpa using hs
      exact h2
theorem rm_snoc {n : Nat} {w : World} {v vo vl : Value} {er : Nat} {W : World} {pre : List Fnd} {x : Fnd} (h : RM n w v vo (pre.length + 1) (fndV pre ++ [str x.1.1, dvF x]) vl (listL 0 (trisF pre) ++ rowL x.1 (tot (trisF pre))) (tot (trisF pre) + sizeT x.1) er (pre ++ [x]) W) :
    RM n w v vo (pre ++ [x]).length (fndV (pre ++ [x])) vl (listL 0 (trisF (pre ++ [x]))) (tot (trisF (pre ++ [x]))) er (pre ++ [x]) W := by
  have e1 : (pre ++ [x]).length = pre.length + 1 := by simp
  have e2 : fndV (pre ++ [x]) = fndV pre ++ [str x.1.1, dvF x] := by simp [fndV]
  have e3 : listL 0 (trisF (pre ++ [x])) = listL 0 (trisF pre) ++ rowL x.1 (tot (trisF pre)) := by rw [trisF_snoc, list_snoc, ← tot_out]
  have e4 : tot (trisF (pre ++ [x])) = tot (trisF pre) + sizeT x.1 := by rw [trisF_snoc, tot_snoc]
  rw [e1, e2, e3, e4]
  exact h
/-- The members that were found, as members. -/
theorem mems_of_rm {n : Nat} {w : World} {v vo vl : Value} {yl : List UInt8} {at_ er : Nat} {W : World} {pre : List Fnd} (h : RM n w v vo pre.length (fndV pre) vl yl at_ er pre W) (hs : ∀ t ∈ trisF pre, Fits t) : Mems W W.heap.size vo (memT (trisF pre)) := by
  have e1 : (memT (trisF pre)).length = pre.length := by simp [memT, trisF]
  have e2 : memT (trisF pre) = pre.map fun x => (x.1.1, x.1.2.1) := by simp [memT, trisF]
  have hc : ∀ (pre : List Fnd) (i : Nat) (hi : i < pre.length), (fndV pre)[i * 2]? = some (str (pre[i]).1.1) ∧ (fndV pre)[i * 2 + 1]? = some (dvF pre[i]) := by
    intro pre
    induction pre with
    | nil => intro i hi; simp at hi
    | cons x pre ih =>
      intro i hi
      cases i with
      | zero => simp [fndV]
      | succ i =>
        have := ih i (by simpa using hi)
        simp only [fndV, List.flatMap_cons, List.getElem_cons_succ] at this ⊢
        rw [show (i + 1) * 2 = i * 2 + 1 + 1 by omega]
        simpa using this
  refine ⟨fndV pre, by rw [e1]; exact Sl.of_own h.ro, fun i hi => ?_⟩
  have hi' : i < pre.length := by omega
  have hm : (memT (trisF pre))[i] = ((pre[i]).1.1, (pre[i]).1.2.1) := by simp [e2]
  rw [hm]
  obtain ⟨h1, h2⟩ := hc pre i hi'
  refine ⟨h1, ?_, _, h2, bytes_of_own (h.da _ (List.getElem_mem hi')).1 rfl⟩
  have := (hs (pre[i]).1 (by simp only [trisF]; exact List.mem_map.2 ⟨_, List.getElem_mem hi', rfl⟩)).2.2
  unfold maxLen
  dsimp only
  omega
theorem rm_fin {n : Nat} {w : World} {v vo vl : Value} {no : Nat} {xo : List Value} {yl : List UInt8} {at_ er D : Nat} {W : World} {ds : List Fnd} (h : RM n w v vo no xo vl yl at_ er ds W) (hw : n ≤ w.heap.size) (hD : n + 6 ≤ D) (hK : W.heap[D]? = some (.deferred (some []))) : RM n w v vo no xo vl yl at_ er ds (W.putObj D (.deferred none)) :=
  h.grC (grC_of_grown (grownBy_putObj' W D (.deferred none)) (fun r e => by cases e; exact ⟨hD, _, hK, rfl⟩)) hw
theorem mems_nil (w : World) (B : Nat) : Mems w B (.slice none 0 0) [] := ⟨[], Sl.nil _ _ _, fun i h => absurd h (by simp)⟩
theorem bytes_empty {w : World} {B c : Nat} {A : Option Addr} (hc : c ≤ maxLen) : Bytes w B (.slice A 0 c) [] := ⟨A, c, rfl, Nat.zero_le _, hc, rfl, fun h => absurd h (by simp)⟩
theorem parts2 {w : World} {t : TypeId} {fr : Nat × Nat} {u0 u1 : Value} {l0 l1 : List UInt8} (h0 : Bytes w w.heap.size u0 l0) (h1 : Bytes w w.heap.size u1 l1) :
    Parts (w.alloc (.cells #[u0, u1] t fr)) (.slice (some ⟨w.heap.size, 0, none⟩) 2 2) [l0, l1] :=
  new_parts w [u0, u1] [l0, l1] t fr 2 rfl rfl (show 2 ≤ 10 by decide) (fun i h1' h2' => by
    rcases i with _ | _ | i
    · exact h0
    · exact h1
    · have h1' : i + 1 + 1 < 2 := h1'; omega)
/-- An append whose run is known. -/
theorem wpListIn_append_run {F : Fence} {n : Nat} {P : Program} {w : World} {ops : Array Oper} {rest : List Oper} {o : Oper} {a : Act} {Q : Exit → Act → World → Prop} (hg : o.guard = none) (s x : Operand) (t : TypeId)
    (ho : o.op = .call { callee := .builtin .append, args := #[s, x], argTypes := #[t, t] }) {v y v' : Value} {w' : World} (hs : a.eval s = v) (hx : a.eval x = y) (hr : (Builtin.append_ #[t, t] o.type #[v, y]).run P w = .ok v' w')
    (h : wpListIn F n P ops Q rest (a.put o.dst v') w') : wpListIn F n P ops Q (o :: rest) a w := by
  refine wpListIn_plain hg fun K hK => ?_
  unfold Oper.wpIn
  refine ⟨by simp [Oper.about, ho, resolve, Target.leads, Sem.run_pure], ?_⟩
  rw [Oper.semAt_plain F _ _ (by rw [ho]; intro c hc'; cases hc')]
  simp [execOp, ho, resolve, invoke, builtin, hs, hx, hr, Result.andThen]
  exact hK _ _ h

section
variable {n : Nat} {w : World} {v vo vl : Value} {er : Nat} {W : World} {no at_ f sum : Nat} {xo : List Value} {yl row : List UInt8} {ds : List Fnd} {bx : Array Value} {agg : Value}
def FsL (f sum at_ : Nat) (vl agg : Value) (row : List UInt8) : List Fact := [.is vl, .is (.pointer (some ⟨f, 0, none⟩)), .is agg, .is (.pointer (some ⟨f, 2, none⟩)), .is (.int .i64 (sum : Nat)), .is (.int .i64 (at_ : Nat)), .bytes row]
def DL : List Nat := [42, 43, 44, 45, 46, 47, 48, 49, 1000]
/-- What holds while the region's operations come up. -/
def InvL (n : Nat) (w : World) (v vo : Value) (no : Nat) (xo : List Value) (vl : Value) (yl : List UInt8) (at_ er : Nat) (ds : List Fnd) (f : Nat) (bx : Array Value) (W : World) (row : List UInt8) (agg : Value) (sum : Nat) (L : Nat → Bool) (x : Nat → Value) (u : World) : Prop :=
  (L 7 = false → BB n w v vo no xo vl yl at_ er ds f bx W u ∧ ∀ i, i < 7 → L i = true → ((FsL f sum at_ vl agg row).getD i .any).p (x (DL.getD i 0)) u) ∧
  (L 7 = true → L 8 = false → ∃ Wb vl', BB n w v vo no xo vl yl at_ er ds f bx W Wb ∧ Wb.grownBy u vl.ownBlock ∧ u.ownsRow (n + 9) 5 1 vl' (yl ++ row).length (bytesV (yl ++ row)) ∧ (vl'.ownBlock = vl.ownBlock ∨ vl'.ownBlock = some Wb.heap.size) ∧ x 49 = vl') ∧
  (L 8 = true → ∃ vl', BB n w v vo no xo vl' (yl ++ row) at_ er ds f bx W u)
theorem invL_small {L : Nat → Bool} {x : Nat → Value} {u u' : World} {y : Value} {i : Nat} (hI : InvL n w v vo no xo vl yl at_ er ds f bx W row agg sum L x u) (hi : i < 7) (h7 : L 7 = false) (h8 : L 8 = false) (hw : n ≤ w.heap.size)
    (hv : ((FsL f sum at_ vl agg row).getD i .any).p y u') (hb : Below u.heap.size u u') : InvL n w v vo no xo vl yl at_ er ds f bx W row agg sum (more L i) (upd x (DL.getD i 0) y) u' := by
  obtain ⟨h1, h2⟩ := hI.1 h7
  have m7 : more L i 7 = false := by unfold more; rw [h7, decide_eq_false (by omega)]; rfl
  have m8 : more L i 8 = false := by unfold more; rw [h8, decide_eq_false (by omega)]; rfl
  refine ⟨fun _ => ⟨h1.made hb hw, fun j hj hL => ?_⟩, fun h => (by rw [m7] at h; cases h), fun h => (by rw [m8] at h; cases h)⟩
  by_cases hji : j = i
  · subst hji; rw [upd_same]; exact hv
  · have hL' : L j = true := by unfold more at hL; rw [decide_eq_false hji] at hL; simpa using hL
    have hne : DL.getD j 0 ≠ DL.getD i 0 := by
      have key : ∀ a : _root_.Fin 7, ∀ b : _root_.Fin 7, a ≠ b → DL.getD a 0 ≠ DL.getD b 0 := by decide
      exact key ⟨j, hj⟩ ⟨i, hi⟩ (fun e => hji (by simpa using congrArg _root_.Fin.val e))
    rw [upd_other x y hne]
    exact (Fact.keep _) _ _ _ (h2 j hj hL') hb
theorem invL_start {x : Nat → Value} {u : World} (h : BB n w v vo no xo vl yl at_ er ds f bx W u) : InvL n w v vo no xo vl yl at_ er ds f bx W row agg sum (fun _ => false) x u :=
  ⟨fun _ => ⟨h, fun _ _ h => by cases h⟩, fun h => (by cases h), fun h => (by cases h)⟩
theorem BB.drew {Wk : World} (h : BB n w v vo no xo vl yl at_ er ds f bx W Wk) (hw : n ≤ w.heap.size) : BB n w v vo no xo vl yl at_ er ds f bx W Wk.drew := h.made ((Below.refl _ _).drew) hw
theorem more_same (L : Nat → Bool) (i : Nat) : more L i i = true := by simp [more]
theorem more_other {L : Nat → Bool} {i j : Nat} (h : j ≠ i) : more L i j = L j := by simp [more, h]
theorem notYet {ops : Array Oper} {L : Nat → Bool} (hs : ShutI ops L) {i j : Nat} (h : depB ops j i = true) (hi : L i = false) : L j = false := by
  cases hj : L j with
  | false => rfl
  | true => rw [hs j i h hj] at hi; cases hi
theorem list_append {u : World} {y : Value} (hb : BB n w v vo no xo vl yl at_ er ds f bx W u) (g1 : Bytes u u.heap.size y row) (hl : yl.length + row.length ≤ 10000000) :
    ∃ v5 u5, (Builtin.append_ #[32, 32] 32 #[vl, y]).run Tryd.prog u = .ok v5 u5 ∧ u5.ownsRow (n + 9) 5 1 v5 (yl ++ row).length (bytesV (yl ++ row)) ∧ u.grownBy u5 vl.ownBlock ∧ (v5.ownBlock = vl.ownBlock ∨ v5.ownBlock = some u.heap.size) := by
  obtain ⟨i0, hi, hz0, hz1, hz2⟩ := info_parts infoByte
  have hs := (Array.getElem?_eq_some_iff.1 hb.b).1
  have hfb := hb.fb
  obtain ⟨v5, u5, hrun, how, hgr, hlo⟩ := run_append_sl_at (P := Tryd.prog) (w := u) (n + 9) 32 32 5 i0 (.int .u8 0) 1 1 Tryd.underlying32 hi hz0 hz1 hz2 rfl (by decide) vl yl.length (bytesV yl) hb.m.rl y u.heap.size row.length (bytesV row) g1 (bytesV_one' _) (by unfold maxLen; omega) (by omega) (by omega)
  exact ⟨v5, u5, hrun, own_more how, hgr, hlo⟩
/-- The members' row, one member more. -/
theorem out_append {u : World} {name data : List UInt8} {A : Option Addr} {c : Nat} {t : TypeId} (hb : BB n w v vo no xo vl yl at_ er ds f bx W u) (hno : no ≤ 100) :
    ∃ v5 u5, (Builtin.append_ #[22, 22] 22 #[vo, .slice (some ⟨u.heap.size, 0, none⟩) 1 1]).run Tryd.prog (u.alloc (.cells #[str name, .slice A data.length c] t)) = .ok v5 u5 ∧ u5.ownsRow (n + 9) 45 2 v5 (no + 1) (xo ++ [str name, .slice A data.length c]) ∧
      (u.alloc (.cells #[str name, .slice A data.length c] t)).grownBy u5 vo.ownBlock ∧ (v5.ownBlock = vo.ownBlock ∨ v5.ownBlock = some (u.alloc (.cells #[str name, .slice A data.length c] t)).heap.size) := by
  obtain ⟨i0, hi, hz0, hz1, hz2⟩ := info_parts infoMem
  have hs := (Array.getElem?_eq_some_iff.1 hb.b).1
  have hfb := hb.fb
  obtain ⟨v5, u5, h2, h3, h4, -, h5⟩ := run_append_own_at (P := Tryd.prog) (u.alloc (.cells #[str name, .slice A data.length c] t)) (n + 9) 22 22 45 i0 (.agg #[.string ⟨#[]⟩, .slice none 0 0]) 2 40 Tryd.underlying22 hi hz0 hz1 hz2 rfl (by decide) vo no xo (own_below hb.m.ro (bump u _)) ⟨u.heap.size, 0, none⟩ 1 1 [str name, .slice A data.length c] rfl (fun j y hy => by
      rw [Addr.add_lit, Nat.zero_add, cell_new]
      simpa using hy) (by simp [Value.oneCell']) (by unfold maxLen; omega) (by omega) (by simp; omega)
  exact ⟨v5, u5, h2, h3, h4, h5⟩
end
end Go.Proofs.YtmhadkdbonfmdaaDoor
