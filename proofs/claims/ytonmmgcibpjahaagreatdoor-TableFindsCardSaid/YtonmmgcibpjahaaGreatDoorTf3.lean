/-
  Layer 14's law: the chapter's example.
-/
import Derived.Deep.RegionHeld3
import Derived.RangeFuncNested
import Derived.RangeFuncBound
import Derived.RangeFuncCalls
import Derived.RangeFuncLeaves
import Derived.RangeFuncFrom
import Derived.OwnWalkIn
import Derived.TacticsInMore
import Derived.LoopNIn
import Derived.LoopIn
import Derived.Lib.MinMax
import Derived.Deep.QuietTactic
import Derived.BigQuiet
import Derived.WalkKit
import Derived.Test.YtonmmgcibpjahaaGreatDoorChecked
import Derived.Lib.Hide
import Derived.IntWalk
import Derived.Lib.Strings
import Derived.Test.YtonmmgcibpjahaaGreatDoorTf2
section
/- FuncEq: Function values held against nil. -/
namespace Go.Proofs.YtonmmgcibpjahaaGreatDoor
open Go Go.RowKit
theorem run_equalIn_func {P : Program} (w : World) (d : Nat) (t : TypeId) {ps rs : Array TypeId} {b : Bool} (f : Fn) (ts cs : Array Value) (h : P.underlying t = some (.func ps rs b)) : (Op.equalIn (d + 1) t (.func f ts cs) .nilFunc).run P w = .ok false w := by
  simp [Op.equalIn, run_underlying h]
theorem run_eql_func_nil {P : Program} (w : World) (t : TypeId) {ps rs : Array TypeId} {b : Bool} (f : Fn) (ts cs : Array Value) (h : P.underlying t = some (.func ps rs b)) : (binOp .eql t (.func f ts cs) .nilFunc).run P w = .ok (.bool false) w := by
  simp only [binOp]
  simp [show Op.equal t (.func f ts cs) .nilFunc = Op.equalIn (9999 + 1) t (.func f ts cs) .nilFunc from rfl, run_equalIn_func w 9999 t f ts cs h]
theorem run_equalIn_nilFunc {P : Program} (w : World) (d : Nat) (t : TypeId) {ps rs : Array TypeId} {b : Bool} (h : P.underlying t = some (.func ps rs b)) : (Op.equalIn (d + 1) t .nilFunc .nilFunc).run P w = .ok true w := by
  simp [Op.equalIn, run_underlying h]
theorem run_eql_nilFunc {P : Program} (w : World) (t : TypeId) {ps rs : Array TypeId} {b : Bool} (h : P.underlying t = some (.func ps rs b)) : (binOp .eql t .nilFunc .nilFunc).run P w = .ok (.bool true) w := by
  simp only [binOp]
  simp [show Op.equal t .nilFunc .nilFunc = Op.equalIn (9999 + 1) t .nilFunc .nilFunc from rfl, run_equalIn_nilFunc w 9999 t h]
end Go.Proofs.YtonmmgcibpjahaaGreatDoor
end

section
/- NEra: Eras in memory; what an era without rules that does not end shows, walked. -/
namespace Go.Proofs.YtonmmgcibpjahaaGreatDoor
open Go Go.RowKit Go.Shelf
set_option maxRecDepth 100000

/-- An era, but for its rules' name, its format, and when it ends. -/
structure EraN where
  off : Int
  save : Int
  year : Int
  month : Int
  dk : Int
  dw : Int
  dn : Int
  sec : Int
  ak : Int
/-- The cells of an era without rules that does not end. -/
def eraP (e : EraN) (f : ByteArray) : List Value := [.int .i64 e.off, .string ⟨#[]⟩, .int .i64 e.save, .string f, .bool false, .int .i64 e.year, .int .i64 e.month, .int .i64 e.dk, .int .i64 e.dw, .int .i64 e.dn, .int .i64 e.sec, .int .i64 e.ak]
def eraPA (e : EraN) (f : ByteArray) : Value := .agg (eraP e f).toArray
def withinB (n : Int) : Bool := decide (-90000 < n) && decide (n < 90000)
/-- What is wrong with it, as the last one. -/
def errP (e : EraN) (f : List UInt8) : Int := if (kindR f).2 = 0 then (if withinB e.off && withinB e.save then 0 else 10) else (kindR f).2
theorem kindR_cases (f : List UInt8) : (kindR f).2 = 0 ∨ kindR f = (0, 12) := by
  unfold kindR
  split
  · exact .inr rfl
  · exact .inl rfl
theorem errP_off {e : EraN} {f : List UInt8} (h : (kindR f).2 = 0) (g : withinB e.off = false) : errP e f = 10 := by unfold errP; rw [if_pos h, g]; rfl
theorem errP_save {e : EraN} {f : List UInt8} (h : (kindR f).2 = 0) (g : withinB e.save = false) : errP e f = 10 := by unfold errP; rw [if_pos h, g, Bool.and_false]; rfl
theorem errP_ok {e : EraN} {f : List UInt8} (h : (kindR f).2 = 0) (g1 : withinB e.off = true) (g2 : withinB e.save = true) : errP e f = 0 := by unfold errP; rw [if_pos h, g1, g2]; rfl
theorem errP_form {e : EraN} {f : List UInt8} (h : kindR f = (0, 12)) : errP e f = 12 := by unfold errP; rw [h]; rfl
theorem errP_cases (e : EraN) (f : List UInt8) : errP e f = 0 ∨ errP e f = 10 ∨ errP e f = 12 := by
  rcases kindR_cases f with h | h
  · cases g1 : withinB e.off
    · exact .inr (.inl (errP_off h g1))
    · cases g2 : withinB e.save
      · exact .inr (.inl (errP_save h g2))
      · exact .inl (errP_ok h g1 g2)
  · exact .inr (.inr (errP_form h))
theorem errP_zero {e : EraN} {f : List UInt8} (h : errP e f = 0) : (kindR f).2 = 0 ∧ withinB e.off = true ∧ withinB e.save = true := by
  rcases kindR_cases f with h0 | h0
  · cases g1 : withinB e.off
    · rw [errP_off h0 g1] at h; cases h
    · cases g2 : withinB e.save
      · rw [errP_save h0 g2] at h; cases h
      · exact ⟨h0, rfl, rfl⟩
  · rw [errP_form h0] at h; cases h
theorem within_any (n : Int) (w : World) : Calls Tryz.prog 71 #[.int .i64 n] w fun o w' => o = .returned (.bool (withinB n)) ∧ w = w' := by
  unfold withinB
  by_cases h : -90000 < n
  · have h2 : decide (-90000 < n) = true := by simpa using h
    rw [h2]
    clear h2
    go_enter Tryz.func71, Tryz.ntmps71
    go_wp2_with fail
    go_ret
    exact ⟨by simp, rfl⟩
  · have h2 : decide (-90000 < n) = false := by simpa using h
    rw [h2]
    go_enter Tryz.func71, Tryz.ntmps71
    go_wp2_with fail
    go_ret
    exact ⟨rfl, rfl⟩
theorem within_at (n : Int) (b : Bool) (h : withinB n = b) (w : World) : Calls Tryz.prog 71 #[.int .i64 n] w fun o w' => o = .returned (.bool b) ∧ w = w' := by
  subst h; exact within_any n w
set_option maxHeartbeats 1000000 in
theorem saves_plain (e : EraN) (f : ByteArray) (l : Value) (i : Int) (w : World) :
    Calls Tryz.prog 53 #[eraPA e f, l, .int .i64 i] w fun o w' => o = .returned (.tuple #[.int .i64 e.save, .string ⟨#[]⟩]) ∧ Below w.heap.size w w' := by
  unfold eraPA eraP
  go_enter Tryz.func53, Tryz.ntmps53
  go_wp2_with fail
  go_ret2
  exact ⟨rfl, (Below.refl _ _).alloc (Nat.le_refl _) _⟩
theorem of_plain (sv : Value) (e : EraN) (f : ByteArray) (w : World) :
    Calls Tryz.prog 48 #[sv, eraPA e f] w fun o w' => o = .returned (.slice none 0 0) ∧ Below w.heap.size w w' := by
  unfold eraPA eraP
  go_enter Tryz.func48, Tryz.ntmps48
  go_wp2_with fail
  go_ret
  exact ⟨rfl, (Below.refl _ _).alloc (Nat.le_refl _) _⟩
set_option maxHeartbeats 1000000 in
theorem check_plain (e : EraN) (f : ByteArray) (w : World) (hs : f.size < 4294967281) (hm : Tryz.MaxL w) :
    Calls Tryz.prog 47 #[eraPA e f, .bool true] w fun o w' => o = .returned (.int .i64 (errP e f.data.toList)) ∧ Below w.heap.size w w' := by
  unfold eraPA eraP
  have hb0 := (Below.refl w.heap.size w).alloc (Nat.le_refl _) (.cells #[.int .i64 e.off, .string ⟨#[]⟩, .int .i64 e.save, .string f, .bool false, .int .i64 e.year, .int .i64 e.month, .int .i64 e.dk, .int .i64 e.dw, .int .i64 e.dn, .int .i64 e.sec, .int .i64 e.ak] 54)
  have hblk := Blk.new w 54 #[.int .i64 e.off, .string ⟨#[]⟩, .int .i64 e.save, .string f, .bool false, .int .i64 e.year, .int .i64 e.month, .int .i64 e.dk, .int .i64 e.dw, .int .i64 e.dn, .int .i64 e.sec, .int .i64 e.ak]
  rcases kindR_cases f.data.toList with h | h
  · have HK := fun W => kind_at f hs _ _ (show kindR f.data.toList = ((kindR f.data.toList).1, 0) by rw [← h]) W
    have H0 := Lib.hid h
    clear h
    generalize (kindR f.data.toList).1 = k at HK
    go_enter Tryz.func47, Tryz.ntmps47
    go_wp2_with fail
    refine (HK _ (hm.below hb0 (Nat.le_refl _))).mono ?_
    rintro o w1 ⟨rfl, hb⟩
    have hbl := hblk.below hb hblk.lt
    have q0 := hbl.cell 0 (v := .int .i64 e.off) rfl
    have q1 := hbl.cell 1 (v := .string ⟨#[]⟩) rfl
    have q2 := hbl.cell 2 (v := .int .i64 e.save) rfl
    have q4 := hbl.cell 4 (v := .bool false) rfl
    have HB := Lib.hid (hb0.trans (hb.mono hb0.size))
    clear hb hb0 hblk hbl hm
    cases g1 : withinB e.off
    · have H1 := within_at e.off _ g1
      go_wp2_with fail
      refine (H1 _).mono ?_
      rintro o w2 ⟨rfl, rfl⟩
      go_wp2_with fail
      go_ret
      exact ⟨by rw [errP_off H0.out g1]; rfl, HB.out⟩
    · have H1 := within_at e.off _ g1
      go_wp2_with fail
      refine (H1 _).mono ?_
      rintro o w2 ⟨rfl, rfl⟩
      cases g2 : withinB e.save
      · have H2 := within_at e.save _ g2
        go_wp2_with fail
        refine (H2 _).mono ?_
        rintro o w2 ⟨rfl, rfl⟩
        go_wp2_with fail
        go_ret
        exact ⟨by rw [errP_save H0.out g2]; rfl, HB.out⟩
      · have H2 := within_at e.save _ g2
        go_wp2_with fail
        refine (H2 _).mono ?_
        rintro o w2 ⟨rfl, rfl⟩
        go_wp2_with fail
        go_ret
        exact ⟨by rw [errP_ok H0.out g1 g2]; rfl, HB.out⟩
  · have HK := fun W => kind_at f hs _ _ h W
    have H0 := Lib.hid h
    clear h
    go_enter Tryz.func47, Tryz.ntmps47
    go_wp2_with fail
    refine (HK _ (hm.below hb0 (Nat.le_refl _))).mono ?_
    rintro o w1 ⟨rfl, hb⟩
    have HB := Lib.hid (hb0.trans (hb.mono hb0.size))
    clear hb hb0 hblk hm
    go_wp2_with fail
    go_ret
    exact ⟨by rw [errP_form H0.out]; rfl, HB.out⟩
/-- A zone of one such era, in memory. -/
def oneZ (nm : ByteArray) (b : Nat) : Value := .agg #[.string nm, .slice (some ⟨b, 0, none⟩) 1 1]
abbrev OneE (W : World) (b : Nat) (e : EraN) (f : ByteArray) : Prop := Blk W b 54 (eraP e f).toArray
theorem OneE.cells {W : World} {b : Nat} {e : EraN} {f : ByteArray} (h : OneE W b e f) : W.cell? ⟨b, 0, none⟩ = some (.int .i64 e.off) ∧ W.cell? ⟨b, 1, none⟩ = some (.string ⟨#[]⟩) ∧ W.cell? ⟨b, 2, none⟩ = some (.int .i64 e.save) ∧ W.cell? ⟨b, 3, none⟩ = some (.string f) ∧
    W.cell? ⟨b, 4, none⟩ = some (.bool false) ∧ W.cell? ⟨b, 5, none⟩ = some (.int .i64 e.year) ∧ W.cell? ⟨b, 6, none⟩ = some (.int .i64 e.month) ∧ W.cell? ⟨b, 7, none⟩ = some (.int .i64 e.dk) ∧ W.cell? ⟨b, 8, none⟩ = some (.int .i64 e.dw) ∧ W.cell? ⟨b, 9, none⟩ = some (.int .i64 e.dn) ∧ W.cell? ⟨b, 10, none⟩ = some (.int .i64 e.sec) ∧ W.cell? ⟨b, 11, none⟩ = some (.int .i64 e.ak) :=
  ⟨Blk.cell h 0 rfl, Blk.cell h 1 rfl, Blk.cell h 2 rfl, Blk.cell h 3 rfl, Blk.cell h 4 rfl, Blk.cell h 5 rfl, Blk.cell h 6 rfl, Blk.cell h 7 rfl, Blk.cell h 8 rfl, Blk.cell h 9 rfl, Blk.cell h 10 rfl, Blk.cell h 11 rfl⟩
set_option maxHeartbeats 2000000 in
theorem checkZ_one (nm : ByteArray) (b : Nat) (g : Fn) (ts cs : Array Value) (e : EraN) (f : ByteArray) (w : World) (hs : f.size < 4294967281) (hm : Tryz.MaxL w) (he : OneE w b e f) :
    Calls Tryz.prog 16 #[oneZ nm b, .func g ts cs] w fun o w' => o = .returned (.int .i64 (errP e f.data.toList)) ∧ Below w.heap.size w w' := by
  unfold oneZ
  have heq := fun (w : World) => run_eql_func_nil w 111 g ts cs Tryz.underlying111
  have hb0 := Blk.new w 24 #[.string nm, .slice (some ⟨b, 0, none⟩) 1 1]
  go_enter Tryz.func16, Tryz.ntmps16
  go_wp2_with fail
  have hbl : b < w.heap.size := Blk.lt he
  obtain ⟨c0, c1, c2, c3, c4, c5, c6, c7, c8, c9, c10, c11⟩ := he.cells
  have hbz : b ≠ w.heap.size := Nat.ne_of_lt hbl
  refine wp_loop_rounds 2 ?_
  rw [rounds_succ]
  go_wp2_with fail
  rw [rounds_succ]
  go_wp2_with fail
  refine wp_loop_rounds 2 ?_
  rw [rounds_succ]
  go_wp2_with fail
  have hbw : Below w.heap.size w (((w.alloc (.cells #[.string nm, .slice (some ⟨b, 0, none⟩) 1 1] 24)).alloc (.cells (eraP e f).toArray 54)).alloc (.cells (eraP e f).toArray 54)) := (((Below.refl _ _).alloc (Nat.le_refl _) _).alloc (by simp) _).alloc (by simp; omega) _
  have HC := Lib.hid (check_plain e f _ hs (hm.below hbw (Nat.le_refl _)))
  unfold eraPA eraP at HC
  unfold eraP at hbw
  refine HC.out.mono ?_
  rintro o w1 ⟨rfl, hb⟩
  clear HC
  have hz := ((hb0.alloc (.cells (eraP e f).toArray 54)).alloc (.cells (eraP e f).toArray 54))
  unfold eraP at hz
  have hz1 := hz.below hb hz.lt
  have z1 := hz1.cell 1 (v := .slice (some ⟨b, 0, none⟩) 1 1) rfl
  have HB := Lib.hid (hbw.trans (hb.mono hbw.size))
  clear hbw hb hz hz1 c0 c1 c2 c3 c4 c5 c6 c7 c8 c9 c10 c11
  rcases errP_cases e f.data.toList with h | h
  · have H0 := Lib.hid h
    rw [h]
    clear h
    go_wp2_with fail
    rw [rounds_succ]
    go_wp2_with fail
    refine wp_loop_rounds 1 ?_
    rw [rounds_succ]
    go_wp2_with fail
    go_ret
    exact ⟨by rw [H0.out]; rfl, HB.out⟩
  · have he2 : (errP e f.data.toList != 0) = true := by rcases h with h | h <;> rw [h] <;> rfl
    clear h
    go_wp2_with fail
    go_ret
    exact ⟨rfl, HB.out⟩
end Go.Proofs.YtonmmgcibpjahaaGreatDoor
end

section
/- EnvS: A region that draws its order, with one operation that writes into memory that nobody else in it looks at: each operation's value is known ahead. -/
namespace Go.Proofs.YtonmmgcibpjahaaGreatDoor
open Go Go.RowKit

section
variable {P : Program} {n : Nat} {ops : Array Oper}
/-- What is asked of the region itself. st: the operation that writes. -/
def envSB (ops : Array Oper) (D : List Nat) (st : Nat) : Bool :=
  invB ops D && (List.range ops.size).all fun i => match ops[i]? with
    | some o => (match o.op with | .defer .. => false | .select .. => false | _ => true) && (if i = st then o.dst.isNone else o.dst == some (D.getD i 0)) &&
      (o.looksAt ops).all fun s => !D.contains s || (List.range i).any fun j => D.getD j 0 == s && o.after.any fun e => Region.binds .any e && e.on == j
    | none => true
/-- What one operation does. T: the blocks that the one that writes turns; p: what it leaves. -/
def envSRes (P : Program) (T : Nat → Prop) (p : World → Prop) (st : Bool) (v : Value) (w : World) : Result Next → Prop
  | .ok (.value u) w' => st = false ∧ u = v ∧ Below w.heap.size w w'
  | .ok .skip w' => st = true ∧ v = undef ∧ Fr T w w' ∧ p w'
  | .ok (.enter f args) w' => st = false ∧ w' = w ∧ Calls P f args w fun e w'' => e = .returned v ∧ Below w.heap.size w w''
  | _ => False
def EnvSStep (P : Program) (ops : Array Oper) (fin : Act) (w0 : World) (T : Nat → Prop) (p : World → Prop) (st : Bool) (o : Oper) (v : Value) : Prop :=
  (Region.wanted o (yielded ops fin.tmps) = false ∧ v = undef ∧ st = false) ∨ (Region.wanted o (yielded ops fin.tmps) = true ∧ ∀ w, (st = true → Below w0.heap.size w0 w) → Fr T w0 w → envSRes P T p st v w ((execOp fin.eval o).run P w))
def EnvSSteps (P : Program) (ops : Array Oper) (fin : Act) (w0 : World) (T : Nat → Prop) (p : World → Prop) : Nat → Nat → List Oper → List Value → Prop
  | st, k, o :: l, v :: V => EnvSStep P ops fin w0 T p (k == st) o v ∧ EnvSSteps P ops fin w0 T p st (k + 1) l V
  | _, _, [], [] => True
  | _, _, _, _ => False
theorem envSSteps_at {fin : Act} {w0 : World} {T : Nat → Prop} {p : World → Prop} {st : Nat} : ∀ {l : List Oper} {V : List Value} {k : Nat}, EnvSSteps P ops fin w0 T p st k l V → ∀ {j : Nat} {o : Oper}, l[j]? = some o → EnvSStep P ops fin w0 T p (k + j == st) o (V.getD j undef)
  | [], _, _, _, _, _, h => by simp at h
  | _ :: _, [], _, hs, _, _, _ => hs.elim
  | x :: l, v :: V, k, hs, 0, o, h => by
    simp only [List.getElem?_cons_zero, Option.some.injEq] at h
    subst h
    exact hs.1
  | x :: l, v :: V, k, hs, j + 1, o, h => by
    rw [List.getElem?_cons_succ] at h
    have := envSSteps_at hs.2 h
    rw [show k + 1 + j = k + (j + 1) by omega] at this
    simpa using this
theorem envSSteps_len {fin : Act} {w0 : World} {T : Nat → Prop} {p : World → Prop} {st : Nat} : ∀ {l : List Oper} {V : List Value} {k : Nat}, EnvSSteps P ops fin w0 T p st k l V → V.length = l.length
  | [], [], _, _ => rfl
  | [], _ :: _, _, h => h.elim
  | _ :: _, [], _, h => h.elim
  | _ :: l, _ :: V, _, h => by simp [envSSteps_len h.2]
/-- A REGION THAT DRAWS ITS ORDER, WITH ONE OPERATION THAT WRITES, WITHIN A FENCE. D: each operation's slot (the writing one's: one that the frame has not); V: what it yields; fin: the frame in the end. -/
theorem wpIn_envS {F : Fence} (hF : Wide F) {id : Nat} {l : List Oper} {Q : Exit → Act → World → Prop} {a : Act} {w : World} (hm : P.follows .mixedOrders = true) (D : List Nat) (V : List Value) (st : Nat) (T : Nat → Prop) (p : World → Prop) (hp : ∀ W W', p W → Below W.heap.size W W' → p W')
    (hb : envSB l.toArray D st = true) (hst : st < D.length) (hsz : a.tmps.size ≤ D.getD st 0) {fin : Act} (hfin : putAll a D V = fin)
    (hstep : EnvSSteps P l.toArray fin w T p st 0 l V) (hend : ∀ w', Fr T w w' → p w' → Q .normal fin w') : (Code.region id l.toArray true).wpIn F n P Q a w := by
  unfold envSB at hb
  rw [Bool.and_eq_true] at hb
  obtain ⟨hi, hb⟩ := hb
  have hi' := hi
  simp only [invB, Bool.and_eq_true, decide_eq_true_eq] at hi'
  obtain ⟨⟨-, hlen⟩, hnd⟩ := hi'
  have hV : V.length = D.length := by rw [envSSteps_len hstep, hlen]; simp
  have hfin : frameOf a D (valOf D V) = fin := by
    rw [← hfin]
    exact putAll_eq D V a _ hV fun i hi => by unfold valOf; rw [idxOf_getD hnd hi]
  refine wpIn_inv hm D (fun L x w' => Fr T w w' ∧ (∀ i, i < D.length → L i = true → x (D.getD i 0) = V.getD i undef) ∧ (L st = true → p w') ∧ (L st = false → Below w.heap.size w w')) hi (fun x => ⟨Fr.of_below ((Below.refl w.heap.size w).drew) (Nat.le_refl _), (fun i _ h => by cases h), (fun h => by cases h), (fun _ => (Below.refl _ _).drew)⟩) ?_ ?_
  · have main : ∀ (i : Nat) (o : Oper), l[i]? = some o → StepI F n P l.toArray a D (fun L x w' => Fr T w w' ∧ (∀ i, i < D.length → L i = true → x (D.getD i 0) = V.getD i undef) ∧ (L st = true → p w') ∧ (L st = false → Below w.heap.size w w')) i o := by
      intro k o hlk L x w1 R hI hsh hLk hr hR
      obtain ⟨hfr, hx, hpL, hbL⟩ := hI
      have hkl : k < l.length := (List.getElem?_eq_some_iff.1 hlk).1
      have ho : l.toArray[k]? = some o := by simpa using hlk
      have hkD : k < D.length := by rw [hlen]; simpa using hkl
      have hst1 := envSSteps_at hstep hlk
      rw [Nat.zero_add] at hst1
      have hb1 := List.all_eq_true.1 hb k (List.mem_range.2 (by simpa using hkl))
      rw [ho] at hb1
      simp only [Bool.and_eq_true] at hb1
      obtain ⟨⟨hop, hdst⟩, hlook⟩ := hb1
      have hndf : ∀ c, o.op ≠ .defer c := fun c hc => by rw [hc] at hop; cases hop
      have hnsl : ∀ cs b, o.op ≠ .select cs b := fun c b hc => by rw [hc] at hop; cases hop
      have hsame : ∀ s, s ∈ o.looksAt l.toArray → (frameOf a D x).tmps[s]? = fin.tmps[s]? := by
        intro s hs
        rw [← hfin, frameOf_tmps, frameOf_tmps]
        by_cases hD : s ∈ D
        · have := List.all_eq_true.1 hlook s hs
          rw [Bool.or_eq_true] at this
          rcases this with h | h
          · simp [hD] at h
          · obtain ⟨j, hj, hj2⟩ := List.any_eq_true.1 h
            rw [Bool.and_eq_true] at hj2
            obtain ⟨hjs, hje⟩ := hj2
            have hjs : D.getD j 0 = s := by simpa using hjs
            have hjk := List.mem_range.1 hj
            have h1 := hx j (by omega) (hr j hje)
            rw [hjs] at h1
            have h2 : x s = valOf D V s := by
              have e : D.idxOf s = j := by rw [← hjs]; exact idxOf_getD hnd (by omega)
              unfold valOf
              rw [e]
              exact h1
            rw [h2]
        · simp [hD]
      have hev : ∀ y ∈ o.op.operands, (frameOf a D x).eval y = fin.eval y := by
        intro y hy
        cases y with
        | tmp s =>
          have h1 := hsame s (List.mem_append_left _ (List.mem_filterMap.2 ⟨.tmp s, by simpa using hy, rfl⟩))
          show (frameOf a D x).tmps.getD s undef = fin.tmps.getD s undef
          simp only [Array.getD_eq_getD_getElem?, h1]
        | _ => rfl
      have hex := execOp_congr (ρ := (frameOf a D x).eval) (ρ' := fin.eval) o hnsl hev
      have hwa : Region.wanted o (yielded l.toArray (frameOf a D x).tmps) = Region.wanted o (yielded l.toArray fin.tmps) := by
        unfold Region.wanted
        cases hg : o.guard with
        | none => rfl
        | some g =>
          obtain ⟨g, b⟩ := g
          dsimp only
          unfold yielded
          cases hd : (l.toArray[g]?).bind (·.dst) with
          | none => rfl
          | some d =>
            have h1 := hsame d (List.mem_append_right _ (by rw [hg]; show d ∈ ((l.toArray[g]?).bind (·.dst)).toList; rw [hd]; simp))
            simp only [Option.bind_some, h1]
      have hmem : D.getD k 0 ∈ D := by rw [List.getD_eq_getElem?_getD, List.getElem?_eq_getElem hkD]; exact List.getElem_mem hkD
      have hnew : ∀ w', Fr T w w' → ((k == st) = true → p w') → (∀ W, p w1 → (k == st) = false → Below w1.heap.size w1 W → p W) → ((k == st) = false → Below w1.heap.size w1 w') →
          (Fr T w w' ∧ (∀ i, i < D.length → more L k i = true → upd x (D.getD k 0) (V.getD k undef) (D.getD i 0) = V.getD i undef) ∧ (more L k st = true → p w') ∧ (more L k st = false → Below w.heap.size w w')) := by
        intro w' h1 h2 h3 h4
        refine ⟨h1, fun i hiD hm => ?_, fun hm => ?_, fun hm => ?_⟩
        · by_cases hik : i = k
          · subst hik; rw [upd_same]
          · have hne : D.getD i 0 ≠ D.getD k 0 := by
              rw [List.getD_eq_getElem?_getD, List.getD_eq_getElem?_getD, List.getElem?_eq_getElem hiD, List.getElem?_eq_getElem hkD]
              intro e
              simp only [Option.getD_some] at e
              have hpw := List.pairwise_iff_getElem.1 hnd
              rcases Nat.lt_or_ge i k with h | h
              · exact hpw i k hiD hkD h e
              · exact hpw k i hkD hiD (by omega) e.symm
            rw [upd_other x _ hne]
            have : L i = true := by
              unfold more at hm
              rw [decide_eq_false hik] at hm
              simpa using hm
            exact hx i hiD this
        · cases hks : (k == st) with
          | true => exact h2 hks
          | false =>
            have hne : ¬ st = k := (fun e => by subst e; simp at hks)
            have : L st = true := by
              unfold more at hm
              rw [decide_eq_false hne] at hm
              simpa using hm
            exact h3 w' (hpL this) hks (h4 hks)
        · unfold more at hm
          rw [Bool.or_eq_false_iff] at hm
          have hne : ¬ st = k := of_decide_eq_false hm.1
          have hB := hbL hm.2
          exact hB.trans ((h4 (by simpa using (fun e => hne e.symm))).mono hB.size)
      unfold wpListIn
      rw [hwa]
      have hput : (k == st) = false → ∀ v, (frameOf a D x).put o.dst v = frameOf a D (upd x (D.getD k 0) v) := fun hks v => by
        rw [if_neg (fun e => by subst e; simp at hks)] at hdst
        have hdst : o.dst = some (D.getD k 0) := by simpa using hdst
        rw [hdst]
        exact frameOf_put D x a _ hmem v
      rcases hst1 with ⟨h1, h2, h3⟩ | ⟨h1, h2⟩
      · rw [if_neg (by rw [h1]; simp)]
        refine ⟨fun f _ => hF.fn f, ?_⟩
        rw [hput h3, ← h2]
        exact hR _ _ (hnew w1 hfr (fun h => by rw [h3] at h; cases h) (fun W hpw _ hbW => hp _ _ hpw hbW) (fun _ => Below.refl _ _))
      · rw [if_pos h1]
        refine ⟨fun f _ => hF.fn f, ?_⟩
        rw [Oper.semAt_plain F _ o hndf, hex]
        have hks0 : (k == st) = true → L st = false := fun h => by
          have e : k = st := by simpa using h
          rw [← e]
          exact hLk
        have h3 := h2 w1 (fun h => hbL (hks0 h)) hfr
        generalize (execOp fin.eval o).run P w1 = r at h3
        cases r with
        | halt hh w' => exact h3.elim
        | ok nx w' =>
          cases nx with
          | value u =>
            obtain ⟨hks, rfl, hbw⟩ := h3
            rw [Oper.uponIn_value, hput hks]
            exact hR _ _ (hnew w' (hfr.then (Fr.of_below hbw (Nat.le_refl _))) (fun h => by rw [hks] at h; cases h) (fun W hpw _ hbW => hp _ _ hpw hbW) (fun _ => hbw))
          | skip =>
            obtain ⟨hks, hvu, hfw, hpw'⟩ := h3
            have hkst : k = st := by simpa using hks
            subst hkst
            rw [if_pos rfl] at hdst
            have hdn : o.dst = none := by simpa using hdst
            rw [Oper.uponIn_skip, hdn]
            have e : (frameOf a D x).put none undef = frameOf a D (upd x (D.getD k 0) (V.getD k undef)) := by
              show frameOf a D x = _
              have h1 : (frameOf a D x).tmps = (frameOf a D (upd x (D.getD k 0) (V.getD k undef))).tmps := by
                apply Array.ext_getElem?
                intro s
                rw [frameOf_tmps, frameOf_tmps]
                by_cases hs : s < a.tmps.size
                · rw [upd_other x _ (show s ≠ D.getD k 0 by omega)]
                · simp [hs]
              have h2 : (frameOf a D x).defers = (frameOf a D (upd x (D.getD k 0) (V.getD k undef))).defers := by rw [frameOf_defers, frameOf_defers]
              generalize frameOf a D x = p1 at h1 h2
              generalize frameOf a D (upd x (D.getD k 0) (V.getD k undef)) = q1 at h1 h2
              cases p1
              cases q1
              simp only at h1 h2
              subst h1 h2
              rfl
            rw [e]
            exact hR _ _ (hnew w' (hfr.then hfw) (fun _ => hpw') (fun W _ h => by simp at h) (fun h => by simp at h))
          | enter f args =>
            obtain ⟨hks, rfl, hc⟩ := h3
            rw [Oper.uponIn_enter]
            refine ⟨(fun h => by rw [hF.depth] at h; cases h), (hF.calls hc).mono ?_⟩
            rintro e w'' ⟨rfl, hbw⟩
            show wpListIn F n P l.toArray _ [] ((frameOf a D x).put o.dst (V.getD k undef)) w''
            rw [hput hks]
            exact hR _ _ (hnew w'' (hfr.then (Fr.of_below hbw (Nat.le_refl _))) (fun h => by rw [hks] at h; cases h) (fun W hpw _ hbW => hp _ _ hpw hbW) (fun _ => hbw))
          | _ => exact h3.elim
    have all : ∀ (m : List Oper) (k : Nat), (∀ j, m[j]? = l[k + j]?) → StepsI F n P l.toArray a D (fun L x w' => Fr T w w' ∧ (∀ i, i < D.length → L i = true → x (D.getD i 0) = V.getD i undef) ∧ (L st = true → p w') ∧ (L st = false → Below w.heap.size w w')) k m := by
      intro m
      induction m with
      | nil => intro k _; trivial
      | cons o m ih =>
        intro k hk
        exact ⟨main k o (by simpa using (hk 0).symm), ih (k + 1) fun j => by have := hk (j + 1); simpa [Nat.add_assoc, Nat.add_comm 1 j] using this⟩
    exact all l 0 fun j => by simp
  · rintro x w' L hL ⟨h1, h2, h3, -⟩
    have e : frameOf a D x = fin := by
      rw [← hfin]
      refine frameOf_congr D _ _ a fun s hs => ?_
      obtain ⟨j, hj, rfl⟩ := List.getElem_of_mem hs
      have h4 := h2 j hj (hL j (by omega))
      rw [List.getD_eq_getElem?_getD, List.getElem?_eq_getElem hj] at h4
      have h4 : x D[j] = V.getD j undef := h4
      unfold valOf
      rw [List.Nodup.idxOf_getElem hnd j hj]
      exact h4
    rw [e]
    exact hend w' h1 (h3 (hL st (by omega)))
/-- The same, in no fence. -/
theorem wp_envS {id : Nat} {l : List Oper} {Q : Exit → Act → World → Prop} {a : Act} {w : World} (hm : P.follows .mixedOrders = true) (D : List Nat) (V : List Value) (st : Nat) (T : Nat → Prop) (p : World → Prop) (hp : ∀ W W', p W → Below W.heap.size W W' → p W')
    (hb : envSB l.toArray D st = true) (hst : st < D.length) (hsz : a.tmps.size ≤ D.getD st 0) {fin : Act} (hfin : putAll a D V = fin)
    (hstep : EnvSSteps P l.toArray fin w T p st 0 l V) (hend : ∀ w', Fr T w w' → p w' → Q .normal fin w') : (Code.region id l.toArray true).wp P Q a w :=
  (wpIn_wide (n := 8)).1 (wpIn_envS wide0 hm D V st T p hp hb hst hsz hfin hstep hend)
end
end Go.Proofs.YtonmmgcibpjahaaGreatDoor
end

section
/- NAt: Layer 13's At at a zone of one era without rules, walked. -/
namespace Go.Proofs.YtonmmgcibpjahaaGreatDoor
open Go Go.RowKit Go.Shelf
set_option maxRecDepth 100000

set_option maxHeartbeats 1000000 in
theorem ends_one (nm : ByteArray) (b : Nat) (g : Fn) (ts cs : Array Value) (e : EraN) (f : ByteArray) (w : World) (hs : f.size < 4294967281) (hm : Tryz.MaxL w) (he : OneE w b e f) :
    Calls Tryz.prog 18 #[oneZ nm b, .func g ts cs] w fun o w' => o = .returned (.tuple #[.slice none 0 0, .int .i64 (errP e f.data.toList)]) ∧ Below w.heap.size w w' := by
  have hb0 := (Below.refl w.heap.size w).alloc (Nat.le_refl _) (.cells #[.string nm, .slice (some ⟨b, 0, none⟩) 1 1] 24)
  have hz0 := Blk.new w 24 #[.string nm, .slice (some ⟨b, 0, none⟩) 1 1]
  have HC := Lib.hid (checkZ_one nm b g ts cs e f _ hs (hm.below hb0 (Nat.le_refl _)) (Blk.below he hb0 (Blk.lt he)))
  unfold oneZ at HC ⊢
  go_enter Tryz.func18, Tryz.ntmps18
  go_wp2_with fail
  refine HC.out.mono ?_
  rintro o w1 ⟨rfl, hb⟩
  have hz1 := hz0.below hb hz0.lt
  have z1 := hz1.cell 1 (v := .slice (some ⟨b, 0, none⟩) 1 1) rfl
  have HB := Lib.hid (hb0.trans (hb.mono hb0.size))
  clear HC hb hb0 hz0 hz1
  rcases errP_cases e f.data.toList with h | h
  · have H0 := Lib.hid h
    rw [h]
    clear h
    go_wp2_with fail
    refine wp_loop_rounds 1 ?_
    rw [rounds_succ]
    go_wp2_with fail
    go_ret2
    exact ⟨by rw [H0.out]; rfl, HB.out⟩
  · have he2 : (errP e f.data.toList != 0) = true := by rcases h with h | h <;> rw [h] <;> rfl
    clear h
    go_wp2_with fail
    go_ret2
    exact ⟨rfl, HB.out⟩
theorem era_none (i : Int) (w : World) : Calls Tryz.prog 23 #[.slice none 0 0, .int .i64 i] w fun o w' => o = .returned (.int .i64 0) ∧ w = w' := by
  go_enter Tryz.func23, Tryz.ntmps23
  go_wp2_with fail
  refine wp_loop_rounds 1 ?_
  rw [rounds_succ]
  go_wp2_with fail
  go_ret
  exact ⟨rfl, rfl⟩
/-- What Show answers, wherever. -/
def Shows (f : ByteArray) (off : Int) (dst : Bool) (letter s : ByteArray) (err : Int) : Prop := ∀ W, Tryz.MaxL W → Calls Tryz.prog 54 #[.string f, .int .i64 off, .bool dst, .string letter] W fun o w' => o = .returned (.tuple #[.string s, .int .i64 err]) ∧ Below W.heap.size W w'
def dstB (n : Int) : Bool := n != 0
/-- What Within answers. -/
def withinR (off : Int) (dst : Bool) (s : ByteArray) (err : Int) : Value := if err = 0 then .tuple #[.agg #[.int .i64 off, .bool dst, .string s], .int .i64 0] else .tuple #[.agg #[.int .i64 0, .bool false, .string ⟨#[]⟩], .int .i64 err]
theorem withinB_iff {n : Int} : withinB n = true ↔ -90000 < n ∧ n < 90000 := by simp [withinB]
set_option maxHeartbeats 1000000 in
theorem within_plain (e : EraN) (f : ByteArray) (l : Value) (i : Int) (w : World) (hm : Tryz.MaxL w) (h1 : withinB e.off = true) (h2 : withinB e.save = true) (s : ByteArray) (err : Int) (hsh : Shows f (e.off + e.save) (dstB e.save) ⟨#[]⟩ s err) :
    Calls Tryz.prog 25 #[eraPA e f, l, .int .i64 i] w fun o w' => o = .returned (withinR (e.off + e.save) (dstB e.save) s err) ∧ Below w.heap.size w w' := by
  obtain ⟨b1, b2⟩ := withinB_iff.1 h1
  obtain ⟨b3, b4⟩ := withinB_iff.1 h2
  clear h1 h2
  have HS := fun W => saves_plain e f l i W
  have HSH := Lib.hid hsh
  clear hsh
  have hb0 : Below w.heap.size w ((w.alloc (.cells (eraP e f).toArray 54)).alloc (.cells #[.int .i64 0, .bool false, .string ⟨#[]⟩] 41)) := ((Below.refl _ _).alloc (Nat.le_refl _) _).alloc (by simp) _
  have he0 := (Blk.new w 54 (eraP e f).toArray).alloc (.cells #[.int .i64 0, .bool false, .string ⟨#[]⟩] 41)
  have hr0 := Blk.new (w.alloc (.cells (eraP e f).toArray 54)) 41 #[.int .i64 0, .bool false, .string ⟨#[]⟩]
  rw [World.size_alloc] at hr0
  unfold eraPA at HS ⊢
  unfold eraP at HS hb0 he0 hr0 ⊢
  have hm0 := hm.below hb0 (Nat.le_refl _)
  go_enter Tryz.func25, Tryz.ntmps25
  go_wp2_with fail
  refine (HS _).mono ?_
  rintro o w1 ⟨rfl, hb⟩
  have hm1 := hm0.below hb (Nat.le_refl _)
  have he1 := he0.below hb he0.lt
  have hr1 := hr0.below hb hr0.lt
  have hb1 := hb0.trans (hb.mono hb0.size)
  have q0 := he1.cell 0 (v := .int .i64 e.off) rfl
  have q3 := he1.cell 3 (v := .string f) rfl
  clear hb hb0 he0 hr0 hm0 HS hm
  unfold dstB at HSH
  have HM := Lib.hid hm1
  have HE := Lib.hid he1
  have HR := Lib.hid hr1
  have HB := Lib.hid hb1
  clear hm1 he1 hr1 hb1
  go_wp2_with fail
  refine (HSH.out _ HM.out).mono ?_
  rintro o w2 ⟨rfl, hb⟩
  have he2 := HE.out.below hb HE.out.lt
  have hr2 := HR.out.below hb HR.out.lt
  have HB2 := Lib.hid (HB.out.trans (hb.mono HB.out.size))
  have q0' := he2.cell 0 (v := .int .i64 e.off) rfl
  have r0 := hr2.cell 0 (v := .int .i64 0) rfl
  have r1 := hr2.cell 1 (v := .bool false) rfl
  have r2 := hr2.cell 2 (v := .string ⟨#[]⟩) rfl
  have rf0 := hr2.frozen 0
  have rf1 := hr2.frozen 1
  have rf2 := hr2.frozen 2
  have HR2 := Lib.hid hr2
  clear hb he2 hr2 q0 q3 HM HE HR HB HSH
  by_cases h0 : err = 0
  · subst h0
    go_wp2_with fail
    refine bodyPost_ret (v := .tuple #[.agg #[.int .i64 (e.off + e.save), .bool (e.save != 0), .string s], .int .i64 0]) ?_ rfl ⟨rfl, ((HB2.out.setCell (Nat.le_add_right _ _) _).setCell (Nat.le_add_right _ _) _).setCell (Nat.le_add_right _ _) _⟩
    have HW := ((HR2.out.set 0 (.int .i64 (e.off + e.save))).set 1 (.bool (e.save != 0))).set 2 (.string s)
    have c0 := HW.cell 0 (v := .int .i64 (e.off + e.save)) rfl
    have c1 := HW.cell 1 (v := .bool (e.save != 0)) rfl
    have c2 := HW.cell 2 (v := .string s) rfl
    simp [results, Tryz.f25, go_sem, c0, c1, c2]
  · have h1 : (err != 0) = true := by simpa using h0
    have h2 := Lib.hid h0
    clear h0
    go_wp2_with fail
    refine bodyPost_ret (v := .tuple #[.agg #[.int .i64 (0), .bool (false), .string ⟨#[]⟩], .int .i64 err]) ?_ rfl ⟨by unfold withinR; rw [if_neg h2.out], ((HB2.out.setCell (Nat.le_add_right _ _) _).setCell (Nat.le_add_right _ _) _).setCell (Nat.le_add_right _ _) _⟩
    have HW := ((HR2.out.set 0 (.int .i64 (0))).set 1 (.bool (false))).set 2 (.string ⟨#[]⟩)
    have c0 := HW.cell 0 (v := .int .i64 (0)) rfl
    have c1 := HW.cell 1 (v := .bool (false)) rfl
    have c2 := HW.cell 2 (v := .string ⟨#[]⟩) rfl
    simp [results, Tryz.f25, go_sem, c0, c1, c2]

set_option maxHeartbeats 1000000 in
theorem at_one (nm : ByteArray) (b : Nat) (g : Fn) (ts cs : Array Value) (e : EraN) (f : ByteArray) (i : Int) (w : World) (hs : f.size < 4294967281) (hm : Tryz.MaxL w) (he : OneE w b e f) (h1 : -2199023255552 ≤ i) (h2 : i ≤ 2199023255552) (h0 : errP e f.data.toList = 0) (s : ByteArray) (err : Int) (hsh : Shows f (e.off + e.save) (dstB e.save) ⟨#[]⟩ s err) :
    Calls Tryz.prog 20 #[oneZ nm b, .func g ts cs, .int .i64 i] w fun o w' => o = .returned (withinR (e.off + e.save) (dstB e.save) s err) ∧ Below w.heap.size w w' := by
  obtain ⟨-, g1, g2⟩ := errP_zero h0
  have hb0 : Below w.heap.size w ((w.alloc (.cells #[.string nm, .slice (some ⟨b, 0, none⟩) 1 1] 24)).alloc (.cells #[.int .i64 0, .bool false, .string ⟨#[]⟩] 41)) := ((Below.refl _ _).alloc (Nat.le_refl _) _).alloc (by simp) _
  have hz0 := (Blk.new w 24 #[.string nm, .slice (some ⟨b, 0, none⟩) 1 1]).alloc (.cells #[.int .i64 0, .bool false, .string ⟨#[]⟩] 41)
  have hr0 := Blk.new (w.alloc (.cells #[.string nm, .slice (some ⟨b, 0, none⟩) 1 1] 24)) 41 #[.int .i64 0, .bool false, .string ⟨#[]⟩]
  rw [World.size_alloc] at hr0
  have hm0s := hm
  have hm0 := hm.below hb0 (Nat.le_refl _)
  have he0 : OneE _ b e f := Blk.below he hb0 (Blk.lt he)
  have HC := Lib.hid (ends_one nm b g ts cs e f _ hs hm0 he0)
  rw [h0] at HC
  have hbl := Blk.lt he
  unfold oneZ at HC ⊢
  clear h0
  go_enter Tryz.func20, Tryz.ntmps20
  go_wp2_with fail
  refine HC.out.mono ?_
  rintro o w1 ⟨rfl, hb⟩
  have hm1 := hm0.below hb (Nat.le_refl _)
  have hz1 := hz0.below hb hz0.lt
  have hr1 := hr0.below hb hr0.lt
  have hb1 := hb0.trans (hb.mono hb0.size)
  have he1 : OneE _ b e f := Blk.below he0 hb (Blk.lt he0)
  have z1 := hz1.cell 1 (v := .slice (some ⟨b, 0, none⟩) 1 1) rfl
  obtain ⟨c0, c1, c2, c3, c4, c5, c6, c7, c8, c9, c10, c11⟩ := he1.cells
  clear hb hb0 he0 hr0 hm0 hm hz0 hz1 he HC
  have HM := Lib.hid hm1
  have HR := Lib.hid hr1
  have HB := Lib.hid hb1
  clear hm1 he1 hr1 hb1
  go_wp2_with fail
  have HM0 := Lib.hid hm0s
  have hbl1 : b < w1.heap.size := Nat.lt_of_lt_of_le hbl HB.out.size
  have hzl1 : w.heap.size < w1.heap.size := by have := HR.out.lt; omega
  have hzl2 : w.heap.size + 1 < w1.heap.size := HR.out.lt
  go_region_held3 (fun w' => w'.cell? ⟨w.heap.size, 1, none⟩ = some (.slice (some ⟨b, 0, none⟩) 1 1) ∧ w'.cell? ⟨b, 0, none⟩ = some (.int .i64 e.off) ∧ w'.cell? ⟨b, 1, none⟩ = some (.string ⟨#[]⟩) ∧ w'.cell? ⟨b, 2, none⟩ = some (.int .i64 e.save) ∧ w'.cell? ⟨b, 3, none⟩ = some (.string f) ∧ w'.cell? ⟨b, 4, none⟩ = some (.bool false) ∧ w'.cell? ⟨b, 5, none⟩ = some (.int .i64 e.year) ∧ w'.cell? ⟨b, 6, none⟩ = some (.int .i64 e.month) ∧ w'.cell? ⟨b, 7, none⟩ = some (.int .i64 e.dk) ∧ w'.cell? ⟨b, 8, none⟩ = some (.int .i64 e.dw) ∧ w'.cell? ⟨b, 9, none⟩ = some (.int .i64 e.dn) ∧ w'.cell? ⟨b, 10, none⟩ = some (.int .i64 e.sec) ∧ w'.cell? ⟨b, 11, none⟩ = some (.int .i64 e.ak)) (first | exact ⟨z1, c0, c1, c2, c3, c4, c5, c6, c7, c8, c9, c10, c11⟩ | go_keep)
    (first | (go_at_call 23; refine (era_none _ _).mono ?_; rintro o w' ⟨rfl, rfl⟩))
  all_goals
    rename_i K0 hK0 hh
    clear hh
    refine hK0 _ _ ?_
    clear hK0
    go_wp2_with fail
    have hb6 : Below w.heap.size w (w1.alloc (.cells #[.int .i64 e.off, .string ⟨#[]⟩, .int .i64 e.save, .string f, .bool false, .int .i64 e.year, .int .i64 e.month, .int .i64 e.dk, .int .i64 e.dw, .int .i64 e.dn, .int .i64 e.sec, .int .i64 e.ak] 54)).drew := (HB.out.alloc HB.out.size _).drew
    have he6 : OneE (w1.alloc (.cells #[.int .i64 e.off, .string ⟨#[]⟩, .int .i64 e.save, .string f, .bool false, .int .i64 e.year, .int .i64 e.month, .int .i64 e.dk, .int .i64 e.dw, .int .i64 e.dn, .int .i64 e.sec, .int .i64 e.ak] 54)).drew w1.heap.size e f := Blk.new w1 54 (eraP e f).toArray
    have hr6 : Blk (w1.alloc (.cells #[.int .i64 e.off, .string ⟨#[]⟩, .int .i64 e.save, .string f, .bool false, .int .i64 e.year, .int .i64 e.month, .int .i64 e.dk, .int .i64 e.dw, .int .i64 e.dn, .int .i64 e.sec, .int .i64 e.ak] 54)).drew (w.heap.size + 1) 41 #[.int .i64 0, .bool false, .string ⟨#[]⟩] := HR.out.alloc _
    obtain ⟨W6, hW6⟩ : ∃ W, (w1.alloc (.cells #[.int .i64 e.off, .string ⟨#[]⟩, .int .i64 e.save, .string f, .bool false, .int .i64 e.year, .int .i64 e.month, .int .i64 e.dk, .int .i64 e.dw, .int .i64 e.dn, .int .i64 e.sec, .int .i64 e.ak] 54)).drew = W := ⟨_, rfl⟩
    rw [hW6] at hb6 he6 hr6 ⊢
    clear hW6 c0 c1 c2 c3 c4 c5 c6 c7 c8 c9 c10 c11 z1 HM HR HB
    have HB6 := Lib.hid hb6
    have HE6 := Lib.hid he6
    have HR6 := Lib.hid hr6
    clear hb6 he6 hr6
    by_cases h0 : err = 0
    · have OF := fun W => of_plain (.func g ts cs) e f W
      have WI := fun W hm => within_plain e f (.slice none 0 0) i W hm g1 g2 s err hsh
      unfold withinR at WI
      simp only [if_pos h0] at WI
      unfold eraPA eraP dstB at WI
      unfold eraPA eraP at OF
      refine wp_envS (fin := ?fnA) (by kernel_rfl) [35, 36, 37, 38, 39, 40, 41, 42, 99, 7]
        [.agg #[.int .i64 e.off, .string ⟨#[]⟩, .int .i64 e.save, .string f, .bool false, .int .i64 e.year, .int .i64 e.month, .int .i64 e.dk, .int .i64 e.dw, .int .i64 e.dn, .int .i64 e.sec, .int .i64 e.ak], .func g ts cs, .agg #[.int .i64 e.off, .string ⟨#[]⟩, .int .i64 e.save, .string f, .bool false, .int .i64 e.year, .int .i64 e.month, .int .i64 e.dk, .int .i64 e.dw, .int .i64 e.dn, .int .i64 e.sec, .int .i64 e.ak], .slice none 0 0, .int .i64 i, .tuple #[.agg #[.int .i64 (e.off + e.save), .bool (e.save != 0), .string s], .int .i64 0], .agg #[.int .i64 (e.off + e.save), .bool (e.save != 0), .string s], .int .i64 0, undef, .int .i64 0] 8 (fun k => k = w.heap.size + 1) (fun W => Blk W (w.heap.size + 1) 41 #[.int .i64 (e.off + e.save), .bool (e.save != 0), .string s]) (fun W W' h hb => Blk.below h hb (Blk.lt h)) (by kernel_rfl) (by decide) (by simp) ?finA ?stepsA ?nextA
      case finA =>
        simp only [putAll, Act.put, List.setIfInBounds_toArray, List.set_cons_succ, List.set_cons_zero, List.set_nil]
        try rfl
      case stepsA =>
        refine ⟨?_, ?_, ?_, ?_, ?_, ?_, ?_, ?_, ?_, ?_, trivial⟩
        all_goals
          refine .inr ⟨by kernel_rfl, fun w1_ hB_ hF_ => ?_⟩
          have he7 : OneE w1_ w1.heap.size e f := Blk.fr HE6.out hF_ (by omega)
          have hb7 := HB6.out.trans (hF_.below HB6.out.size (fun k hk => by omega))
          have hm7 := HM0.out.below hb7 (Nat.le_refl _)
          obtain ⟨c0, c1, c2, c3, c4, c5, c6, c7, c8, c9, c10, c11⟩ := he7.cells
          first
            | (go_simp; first | exact ⟨rfl, rfl, Below.refl _ _⟩ | exact ⟨rfl, rfl, OF _⟩ | exact ⟨rfl, rfl, WI _ hm7⟩)
            | (have hr7 := HR6.out.below (hB_ rfl) HR6.out.lt; have f0 := hr7.frozen 0; have f1 := hr7.frozen 1; have f2 := hr7.frozen 2; have r0 := hr7.cell 0 (v := .int .i64 0) rfl; have r1 := hr7.cell 1 (v := .bool false) rfl; have r2 := hr7.cell 2 (v := .string ⟨#[]⟩) rfl; go_simp; exact ⟨rfl, rfl, fr_set3 (T := fun k => k = w.heap.size + 1) _ rfl _ _ _, ((hr7.set 0 _).set 1 _).set 2 _⟩)
      case nextA =>
        intro W8 hF8 hR8
        have hb8 := HB6.out.trans (hF8.below HB6.out.size (fun k hk => by omega))
        go_wp2_with fail
        refine bodyPost_ret (v := .tuple #[.agg #[.int .i64 (e.off + e.save), .bool (e.save != 0), .string s], .int .i64 0]) ?_ rfl ⟨by rw [h0]; rfl, hb8⟩
        have c0 := hR8.cell 0 (v := .int .i64 (e.off + e.save)) rfl
        have c1 := hR8.cell 1 (v := .bool (e.save != 0)) rfl
        have c2 := hR8.cell 2 (v := .string s) rfl
        simp [results, Tryz.f20, go_sem, c0, c1, c2]
    · have OF := fun W => of_plain (.func g ts cs) e f W
      have WI := fun W hm => within_plain e f (.slice none 0 0) i W hm g1 g2 s err hsh
      unfold withinR at WI
      simp only [if_neg h0] at WI
      unfold eraPA eraP at WI
      unfold eraPA eraP at OF
      refine wp_envS (fin := ?fnB) (by kernel_rfl) [35, 36, 37, 38, 39, 40, 41, 42, 99, 7]
        [.agg #[.int .i64 e.off, .string ⟨#[]⟩, .int .i64 e.save, .string f, .bool false, .int .i64 e.year, .int .i64 e.month, .int .i64 e.dk, .int .i64 e.dw, .int .i64 e.dn, .int .i64 e.sec, .int .i64 e.ak], .func g ts cs, .agg #[.int .i64 e.off, .string ⟨#[]⟩, .int .i64 e.save, .string f, .bool false, .int .i64 e.year, .int .i64 e.month, .int .i64 e.dk, .int .i64 e.dw, .int .i64 e.dn, .int .i64 e.sec, .int .i64 e.ak], .slice none 0 0, .int .i64 i, .tuple #[.agg #[.int .i64 0, .bool false, .string ⟨#[]⟩], .int .i64 err], .agg #[.int .i64 0, .bool false, .string ⟨#[]⟩], .int .i64 err, undef, .int .i64 err] 8 (fun k => k = w.heap.size + 1) (fun W => Blk W (w.heap.size + 1) 41 #[.int .i64 0, .bool false, .string ⟨#[]⟩]) (fun W W' h hb => Blk.below h hb (Blk.lt h)) (by kernel_rfl) (by decide) (by simp) ?finB ?stepsB ?nextB
      case finB =>
        simp only [putAll, Act.put, List.setIfInBounds_toArray, List.set_cons_succ, List.set_cons_zero, List.set_nil]
        try rfl
      case stepsB =>
        refine ⟨?_, ?_, ?_, ?_, ?_, ?_, ?_, ?_, ?_, ?_, trivial⟩
        all_goals
          refine .inr ⟨by kernel_rfl, fun w1_ hB_ hF_ => ?_⟩
          have he7 : OneE w1_ w1.heap.size e f := Blk.fr HE6.out hF_ (by omega)
          have hb7 := HB6.out.trans (hF_.below HB6.out.size (fun k hk => by omega))
          have hm7 := HM0.out.below hb7 (Nat.le_refl _)
          obtain ⟨c0, c1, c2, c3, c4, c5, c6, c7, c8, c9, c10, c11⟩ := he7.cells
          first
            | (go_simp; first | exact ⟨rfl, rfl, Below.refl _ _⟩ | exact ⟨rfl, rfl, OF _⟩ | exact ⟨rfl, rfl, WI _ hm7⟩)
            | (have hr7 := HR6.out.below (hB_ rfl) HR6.out.lt; have f0 := hr7.frozen 0; have f1 := hr7.frozen 1; have f2 := hr7.frozen 2; have r0 := hr7.cell 0 (v := .int .i64 0) rfl; have r1 := hr7.cell 1 (v := .bool false) rfl; have r2 := hr7.cell 2 (v := .string ⟨#[]⟩) rfl; go_simp; exact ⟨rfl, rfl, fr_set3 (T := fun k => k = w.heap.size + 1) _ rfl _ _ _, ((hr7.set 0 _).set 1 _).set 2 _⟩)
      case nextB =>
        intro W8 hF8 hR8
        have hb8 := HB6.out.trans (hF8.below HB6.out.size (fun k hk => by omega))
        go_wp2_with fail
        refine bodyPost_ret (v := .tuple #[.agg #[.int .i64 (0), .bool (false), .string ⟨#[]⟩], .int .i64 err]) ?_ rfl ⟨by unfold withinR; rw [if_neg h0], hb8⟩
        have c0 := hR8.cell 0 (v := .int .i64 (0)) rfl
        have c1 := hR8.cell 1 (v := .bool (false)) rfl
        have c2 := hR8.cell 2 (v := .string ⟨#[]⟩) rfl
        simp [results, Tryz.f20, go_sem, c0, c1, c2]
end Go.Proofs.YtonmmgcibpjahaaGreatDoor
end

section
/- NSpans: Layer 13's Spans at a zone of one era without rules, walked. -/
namespace Go.Proofs.YtonmmgcibpjahaaGreatDoor
open Go Go.RowKit Go.Shelf
attribute [local go_sem] Oper.semAt_some
set_option maxRecDepth 100000

theorem span_last (eb fb : Nat) (a : Int) (w : World) (he : Blk w eb 28 #[.slice none 0 0]) (hf : Blk w fb 3 #[.int .i64 a]) :
    Calls Tryz.prog 61 #[.int .i64 0, .pointer (some ⟨eb, 0, none⟩), .pointer (some ⟨fb, 0, none⟩)] w fun o w' => o = .returned (.agg #[.int .i64 a, .int .i64 2199023255553]) ∧ Below w.heap.size w w' := by
  have c0 := he.cell 0 (v := .slice none 0 0) rfl
  have c1 := hf.cell 0 (v := .int .i64 a) rfl
  have h0 := he.lt
  have h1 := hf.lt
  have hn0 : eb ≠ w.heap.size := by omega
  have hn1 : fb ≠ w.heap.size := by omega
  clear he hf
  go_enter Tryz.func61, Tryz.ntmps61
  go_wp2_with fail
  refine bodyPost_ret (v := .agg #[.int .i64 a, .int .i64 2199023255553]) ?_ rfl ⟨rfl, (Below.refl _ _).alloc (Nat.le_refl _) _⟩
  have hB := Blk.new w 80 #[.int .i64 a, .int .i64 2199023255553]
  have d0 := hB.cell 0 (v := .int .i64 a) rfl
  have d1 := hB.cell 1 (v := .int .i64 2199023255553) rfl
  simp [results, Tryz.f61, go_sem, d0, d1]
set_option maxHeartbeats 2000000 in
theorem spans1_one (n : Nat) (hn : 2 ≤ n) (zb sb b : Nat) (nm : ByteArray) (g : Fn) (ts cs : Array Value) (e : EraN) (f : ByteArray) (W : World) (hs : f.size < 4294967281) (hm : Tryz.MaxL W) (h0 : errP e f.data.toList = 0)
    (hz : Blk W zb 24 #[.string nm, .slice (some ⟨b, 0, none⟩) 1 1]) (hsb : Blk W sb 111 #[.func g ts cs]) (he : OneE W b e f) :
    Iter Fence.wide n Tryz.prog 60 #[.pointer (some ⟨zb, 0, none⟩), .pointer (some ⟨sb, 0, none⟩)] (fun _ : Unit => #[eraPA e f, .agg #[.int .i64 (-2199023255553), .int .i64 2199023255553]]) (fun pre _ D _ => pre = [] ∧ ∀ j, ¬ D j) (fun xs => xs.length = 1) (fun _ => True) (fun _ => False) (fun _ => False) W := by
  intro lp J Jx fJ fx hY O hJ hO _
  have HEN := Lib.hid (callsIn_wide (n := n - 1).2 (ends_one nm b g ts cs e f W hs hm he))
  rw [h0] at HEN
  unfold oneZ at HEN
  have z0 := hz.cell 0 (v := .string nm) rfl
  have z1 := hz.cell 1 (v := .slice (some ⟨b, 0, none⟩) 1 1) rfl
  have s0 := hsb.cell 0 (v := .func g ts cs) rfl
  have hzl := hz.lt
  show CallsIn Fence.wide n Tryz.prog 60 #[.func (.yield lp) #[] #[], .pointer (some ⟨zb, 0, none⟩), .pointer (some ⟨sb, 0, none⟩)] W _
  refine callsIn_of_wp Tryz.func60 rfl trivial ?_ rfl
  simp only [Tryz.ntmps60, List.size_toArray, List.length_cons, List.length_nil, Nat.reduceAdd, Nat.reduceSub, Array.replicate_succ, Array.replicate_zero, List.push_toArray, List.append_toArray, List.nil_append, List.cons_append]
  gi_wp2
  refine ⟨trivial, fun _ => by omega, HEN.out.mono ?_⟩
  rintro o w1 ⟨rfl, hb1⟩
  have z11 := (hb1.cell (p := ⟨zb, 1, none⟩) hzl).trans z1
  have hzl1 : zb < w1.heap.size := Nat.lt_of_lt_of_le hzl hb1.size
  have he1 : OneE w1 b e f := Blk.below he hb1 (Blk.lt he)
  obtain ⟨c0, c1, c2, c3, c4, c5, c6, c7, c8, c9, c10, c11⟩ := he1.cells
  have hbl1 : b < w1.heap.size := Blk.lt he1
  have HW1 := Lib.hid hb1
  clear HEN z0 z1 s0 hb1 he1
  gi_wp2
  refine wpIn_loop_rounds 2 ?_
  rw [roundsIn_succ]
  gi_wp2
  have hE1 := Blk.new w1 28 #[.slice none 0 0]
  have hF1 := Blk.new (w1.alloc (.cells #[.slice none 0 0] 28)) 3 #[.int .i64 (-2199023255553)]
  have hA1 := Blk.new ((w1.alloc (.cells #[.slice none 0 0] 28)).alloc (.cells #[.int .i64 (-2199023255553)] 3)) 54 (eraP e f).toArray
  simp only [World.size_alloc] at hF1 hA1
  have hE2 := (hE1.alloc (.cells #[.int .i64 (-2199023255553)] 3)).alloc (.cells (eraP e f).toArray 54)
  have hF2 := hF1.alloc (.cells (eraP e f).toArray 54)
  have hb2 : Below W.heap.size W (((w1.alloc (.cells #[.slice none 0 0] 28)).alloc (.cells #[.int .i64 (-2199023255553)] 3)).alloc (.cells (eraP e f).toArray 54)) :=
    ((HW1.out.alloc HW1.out.size _).alloc (by have := HW1.out.size; simp; omega) _).alloc (by have := HW1.out.size; simp; omega) _
  clear hE1 hF1
  unfold eraP at hE2 hF2 hA1 hb2
  refine ⟨trivial, fun _ => by omega, (callsIn_wide.2 (span_last _ _ _ _ hE2 hF2)).mono ?_⟩
  rintro o w3 ⟨rfl, hb3⟩
  have hF3 := hF2.below hb3 hF2.lt
  have hA3 : OneE w3 (w1.heap.size + 1 + 1) e f := hA1.below hb3 hA1.lt
  have hb4 := hb2.trans (hb3.mono hb2.size)
  have hs1 := HW1.out.size
  have hl3 : w1.heap.size + 1 + 1 < w3.heap.size := Blk.lt hA3
  clear hE2 hF2 hA1 hb2 hb3 c0 c1 c2 c3 c4 c5 c6 c7 c8 c9 c10 c11
  obtain ⟨c0, c1, c2, c3, c4, c5, c6, c7, c8, c9, c10, c11⟩ := hA3.cells
  have HF3 := Lib.hid hF3
  have HB4 := Lib.hid hb4
  clear hF3 hA3 hb4
  gi_wp2
  have hT := Blk.new w3 80 #[.int .i64 (-2199023255553), .int .i64 2199023255553]
  have hF4 := HF3.out.alloc (.cells #[.int .i64 (-2199023255553), .int .i64 2199023255553] 80)
  have hb5 : Below W.heap.size W (w3.alloc (.cells #[.int .i64 (-2199023255553), .int .i64 2199023255553] 80)) := HB4.out.alloc HB4.out.size _
  obtain ⟨w4, hw4⟩ : ∃ w4, w3.alloc (.cells #[.int .i64 (-2199023255553), .int .i64 2199023255553] 80) = w4 := ⟨_, rfl⟩
  rw [hw4] at hT hF4 hb5 ⊢
  clear hw4 HF3 HB4 c0 c1 c2 c3 c4 c5 c6 c7 c8 c9 c10 c11
  obtain ⟨fn, tmps, assign, body, hyd, hR⟩ := hY [] () (fun _ => False) O w4 (fJ _ _ _ _ hJ (Fr.of_below hb5 (Nat.le_refl _))) (hO.fr (Fr.of_below (T := fun _ => True) hb5 (Nat.le_refl _))) (fun _ h => h.elim) (fun _ h => h.elim) ⟨rfl, fun _ h => h⟩
  unfold eraPA eraP at hyd
  rw [hyd]
  gi_wp2
  refine ⟨fun _ => by omega, hR.mono ?_⟩
  rintro o W5 ⟨O5, hx5, hbd5, hf5, (⟨rfl, hJ5⟩ | ⟨rfl, hJx5⟩)⟩
  · have hw4s : w3.heap.size < w4.heap.size := hT.lt
    have hO1 : ∀ k, W.heap.size ≤ k → ¬ (O k ∨ False) := fun k hk h => by
      rcases h with h | h
      · have := hO k h; omega
      · exact h
    have hT5 := hT.fr hf5 (hO1 _ (by omega))
    have hF5 := hF4.fr hf5 (hO1 _ (by omega))
    have d1 := hT5.cell 1 (v := .int .i64 2199023255553) rfl
    have f0 := hF5.cell 0 (v := .int .i64 (-2199023255553)) rfl
    have ff := hF5.frozen 0
    clear hT5 hF5 hT hF4 hyd hR
    gi_wp2
    rw [roundsIn_succ]
    gi_wp2
    refine bodyPost_end (results_none rfl _ _ _) rfl ?_
    refine ⟨⟨_, rfl⟩, O5, fun k h => ?_, hbd5.fr (Fr.setCell (T := fun _ => True) _ 0 _ trivial), ?_, .inl ⟨[()], rfl, fJ _ _ _ _ hJ5 (Fr.setCell _ 0 _ ?_)⟩⟩
    · rcases hx5 k h with h | h | h
      · exact .inl h
      · exact h.elim
      · exact .inr (by omega)
    · have h1 : Fr (fun k => k = w1.heap.size + 1) W5 (W5.setCell ⟨w1.heap.size + 1, 0, none⟩ (.int .i64 2199023255553)) := Fr.setCell _ 0 _ rfl
      exact ((Fr.of_below hb5 (Nat.le_refl _)).then hf5).trans h1 (fun k hk => .inr (by omega))
    · intro h
      rcases hx5 _ h with h | h | h
      · exact hO1 _ (by omega) (.inl h)
      · exact h
      · omega
  · gi_wp2
    refine bodyPost_end (results_none rfl _ _ _) rfl ?_
    refine ⟨⟨_, rfl⟩, O5, fun k h => ?_, hbd5, (Fr.of_below hb5 (Nat.le_refl _)).then hf5, .inr ⟨[()], trivial, hJx5⟩⟩
    have hw4s := hT.lt
    rcases hx5 k h with h | h | h
    · exact .inl h
    · exact h.elim
    · exact .inr (by omega)
theorem spans_any (z sv : Value) (nm : ByteArray) (b : Nat) (g : Fn) (ts cs : Array Value) (w : World) (hz : z = oneZ nm b) (hsv : sv = .func g ts cs) :
    Calls Tryz.prog 30 #[z, sv] w fun o w' => o = .returned (.func (.func 60) #[] #[.pointer (some ⟨w.heap.size, 0, none⟩), .pointer (some ⟨w.heap.size + 1, 0, none⟩)]) ∧ Below w.heap.size w w' ∧
      Blk w' w.heap.size 24 #[.string nm, .slice (some ⟨b, 0, none⟩) 1 1] ∧ Blk w' (w.heap.size + 1) 111 #[.func g ts cs] := by
  subst hz hsv
  have hz0 := (Blk.new w 24 #[.string nm, .slice (some ⟨b, 0, none⟩) 1 1]).alloc (.cells #[.func g ts cs] 111)
  have hs0 := Blk.new (w.alloc (.cells #[.string nm, .slice (some ⟨b, 0, none⟩) 1 1] 24)) 111 #[.func g ts cs]
  rw [World.size_alloc] at hs0
  unfold oneZ
  go_enter Tryz.func30, Tryz.ntmps30
  go_wp2_with fail
  go_ret
  exact ⟨rfl, ((Below.refl _ _).alloc (Nat.le_refl _) _).alloc (by simp) _, hz0, hs0⟩
end Go.Proofs.YtonmmgcibpjahaaGreatDoor
end

section
/- TSteps: Layer 14's steps at a zone of one era without rules: there is none. -/
namespace Go.Proofs.YtonmmgcibpjahaaGreatDoor
open Go Go.RowKit Go.Shelf
attribute [local go_sem] Oper.semAt_some
set_option maxRecDepth 100000

theorem rules_plain (sv : Value) (e : EraN) (f : ByteArray) (w : World) :
    Calls Tryz.prog 124 #[eraPA e f, sv] w fun o w' => o = .returned (.slice none 0 0) ∧ Below w.heap.size w w' := by
  unfold eraPA eraP
  go_enter Tryz.func124, Tryz.ntmps124
  go_wp2_with fail
  go_ret
  exact ⟨rfl, (Below.refl _ _).alloc (Nat.le_refl _) _⟩
/-- What the loop over the eras keeps. -/
def StI (sb fb tb : Nat) (sv : Value) (a t : Int) (J : (Nat → Prop) → World → Prop) (Oa : Nat → Prop) (_ : List Unit) (O : Nat → Prop) (W : World) : Prop :=
  (∀ k, Oa k → O k) ∧ (O sb ∧ O fb ∧ O tb) ∧ J Oa W ∧ Blk W sb 111 #[sv] ∧ Blk W fb 3 #[.int .i64 a] ∧ Blk W tb 3 #[.int .i64 t]
theorem stI_feet (sb fb tb : Nat) (sv : Value) (a t : Int) (J : (Nat → Prop) → World → Prop) (hJ : ∀ O W W', J O W → Fr (fun k => ¬ O k) W W' → J O W') (Oa : Nat → Prop) : Feet (StI sb fb tb sv a t J Oa) := by
  rintro pre O W W' ⟨h0, ⟨o1, o2, o3⟩, h1, h2, h3, h4⟩ hf
  exact ⟨h0, ⟨o1, o2, o3⟩, hJ _ _ _ h1 (hf.mono fun k hk => .inl fun h => hk (h0 k h)), h2.fr hf (fun h => h o1), h3.fr hf (fun h => h o2), h4.fr hf (fun h => h o3)⟩
set_option maxHeartbeats 2000000 in
theorem steps1_none (n : Nat) (hn : 4 ≤ n) (zb sb fb tb b : Nat) (nm : ByteArray) (g : Fn) (ts cs : Array Value) (e : EraN) (f : ByteArray) (a t : Int) (W : World) (hs : f.size < 4294967281) (hm : Tryz.MaxL W) (h0 : errP e f.data.toList = 0)
    (ha : -2199023255552 ≤ a) (ha2 : a < 2199023255552) (ht : -2199023255552 ≤ t) (ht2 : t ≤ 2199023255552)
    (hz : Blk W zb 24 #[.string nm, .slice (some ⟨b, 0, none⟩) 1 1]) (hsb : Blk W sb 111 #[.func g ts cs]) (hfb : Blk W fb 3 #[.int .i64 a]) (htb : Blk W tb 3 #[.int .i64 t]) (he : OneE W b e f) (encs : Nat → Array Value) (R : List Nat → Nat → (Nat → Prop) → World → Prop) :
    Iter Fence.wide n Tryz.prog 123 #[.pointer (some ⟨zb, 0, none⟩), .pointer (some ⟨sb, 0, none⟩), .pointer (some ⟨fb, 0, none⟩), .pointer (some ⟨tb, 0, none⟩)] encs R (fun xs : List Nat => xs = []) (fun _ => False) (fun k => k = sb ∨ k = fb ∨ k = tb) (fun k => k = sb ∨ k = fb ∨ k = tb) W := by
  intro lp J Jx fJ fx hY O hJ hO hK
  have z0 := hz.cell 0 (v := .string nm) rfl
  have z1 := hz.cell 1 (v := .slice (some ⟨b, 0, none⟩) 1 1) rfl
  have s0 := hsb.cell 0 (v := .func g ts cs) rfl
  have hzl := hz.lt
  have hsl := hsb.lt
  show CallsIn Fence.wide n Tryz.prog 123 #[.func (.yield lp) #[] #[], .pointer (some ⟨zb, 0, none⟩), .pointer (some ⟨sb, 0, none⟩), .pointer (some ⟨fb, 0, none⟩), .pointer (some ⟨tb, 0, none⟩)] W _
  refine callsIn_of_wp_marks Tryz.func123 rfl trivial ?_ rfl
  simp only [Tryz.ntmps123, List.size_toArray, List.length_cons, List.length_nil, Nat.reduceAdd, Nat.reduceSub, Array.replicate_succ, Array.replicate_zero, List.push_toArray, List.append_toArray, List.nil_append, List.cons_append]
  gi_wp2
  refine wpIn_scope ?_
  gi_wp2
  refine wpIn_label ?_
  gi_wp2
  have hb1 : Below W.heap.size W (W.alloc (.cells #[.func (.yield lp) #[] #[]] 160)) := (Below.refl _ _).alloc (Nat.le_refl _) _
  have hm1 := hm.below hb1 (Nat.le_refl _)
  have he1 : OneE _ b e f := Blk.below he hb1 (Blk.lt he)
  have hsb1 := hsb.below hb1 hsb.lt
  have hfb1 := hfb.below hb1 hfb.lt
  have htb1 := htb.below hb1 htb.lt
  have hfl := hfb.lt
  have htl := htb.lt
  have HFJ := Lib.hid fJ
  obtain ⟨W1, hW1⟩ : ∃ W1, W.alloc (.cells #[.func (.yield lp) #[] #[]] 160) = W1 := ⟨_, rfl⟩
  have hz1s : W.heap.size < W1.heap.size := by rw [← hW1]; simp
  rw [hW1] at hb1 hm1 he1 hsb1 hfb1 htb1 ⊢
  clear hW1 z0 z1 s0
  refine ⟨trivial, fun _ => by omega, (callsIn_wide.2 (spans_any _ _ nm b g ts cs _ rfl rfl)).mono ?_⟩
  rintro o w2 ⟨rfl, hb2, hz2, hs2⟩
  have hm2 := hm1.below hb2 (Nat.le_refl _)
  have he2 : OneE w2 b e f := Blk.below he1 hb2 (Blk.lt he1)
  have hsb2 := hsb1.below hb2 hsb1.lt
  have hfb2 := hfb1.below hb2 hfb1.lt
  have htb2 := htb1.below hb2 htb1.lt
  have hbw := hb1.trans (hb2.mono hb1.size)
  gi_wp2
  refine range_own (α := Unit) rfl (by omega) (gf := 60) (lb := #[.pointer (some ⟨W1.heap.size, 0, none⟩), .pointer (some ⟨W1.heap.size + 1, 0, none⟩)]) rfl trivial (enters_of Tryz.func60 (by kernel_rfl) rfl)
    (fun W' hW' => spans1_one (n - 1) (by omega) _ _ b nm g ts cs e f W' hs (hm2.below hW' (Nat.le_refl _)) h0 (hz2.below hW' hz2.lt) (hs2.below hW' hs2.lt) (Blk.below he2 hW' (Blk.lt he2)))
    (fun _ => rfl) (StI sb fb tb (.func g ts cs) a t (J []) O) (fun _ _ _ _ => False) (stI_feet sb fb tb (.func g ts cs) a t (J []) (fun O W W' h hf => fJ [] O W W' h hf) O) (fun _ _ _ _ _ h _ => h) (fun k => O k ∨ k = sb ∨ k = fb ∨ k = tb)
    ⟨fun k h => .inl h, ⟨.inr (.inl rfl), .inr (.inr (.inl rfl)), .inr (.inr (.inr rfl))⟩, fJ _ _ _ _ hJ (Fr.of_below hbw (Nat.le_refl _)), hsb2, hfb2, htb2⟩ (fun k hk => ?_) (fun k hk => hk.elim) (fun k hk => hk.elim) ?round ?done ?stop
  · have := hbw.size
    rcases hk with h | h | h | h
    · have := hO k h; omega
    · omega
    · omega
    · omega
  case stop =>
    intro _ _ _ _ _ _ _ h
    exact h.elim
  case round =>
    intro lp2 pre k O2 D W3 hI hBO hBD hDO hR nOl nDl hlow hltl
    obtain ⟨-, hnD⟩ := hR
    clear hI hBD hDO
    unfold eraPA eraP
    gi_wp2
    have hA := (Blk.new W3 54 #[.int .i64 e.off, .string ⟨#[]⟩, .int .i64 e.save, .string f, .bool false, .int .i64 e.year, .int .i64 e.month, .int .i64 e.dk, .int .i64 e.dw, .int .i64 e.dn, .int .i64 e.sec, .int .i64 e.ak]).alloc (.cells #[.int .i64 (-2199023255553), .int .i64 2199023255553] 80)
    have hT := Blk.new (W3.alloc (.cells #[.int .i64 e.off, .string ⟨#[]⟩, .int .i64 e.save, .string f, .bool false, .int .i64 e.year, .int .i64 e.month, .int .i64 e.dk, .int .i64 e.dw, .int .i64 e.dn, .int .i64 e.sec, .int .i64 e.ak] 54)) 80 #[.int .i64 (-2199023255553), .int .i64 2199023255553]
    rw [World.size_alloc] at hT
    have hbel2 : Below W3.heap.size W3 ((W3.alloc (.cells #[.int .i64 e.off, .string ⟨#[]⟩, .int .i64 e.save, .string f, .bool false, .int .i64 e.year, .int .i64 e.month, .int .i64 e.dk, .int .i64 e.dw, .int .i64 e.dn, .int .i64 e.sec, .int .i64 e.ak] 54)).alloc (.cells #[.int .i64 (-2199023255553), .int .i64 2199023255553] 80)) := ((Below.refl _ _).alloc (Nat.le_refl _) _).alloc (by simp) _
    refine ⟨hbel2, ?_⟩
    intro Wb hfb3 hIb _
    obtain ⟨hI0, ⟨o1, o2, o3⟩, hJb, hsbb, hfbb, htbb⟩ := hIb
    have hAb : OneE Wb W3.heap.size e f := hA.fr hfb3 (by omega)
    have hTb := hT.fr hfb3 (by omega)
    have hBO2 := hBO.fr ((Fr.of_below (T := fun k => k = lp2) hbel2 (Nat.le_refl _)).then hfb3)
    have s0 := hsbb.cell 0 (v := .func g ts cs) rfl
    have f0 := hfbb.cell 0 (v := .int .i64 a) rfl
    have t0 := htbb.cell 0 (v := .int .i64 t) rfl
    have d0 := hTb.cell 0 (v := .int .i64 (-2199023255553)) rfl
    have d1 := hTb.cell 1 (v := .int .i64 2199023255553) rfl
    obtain ⟨c0, c1, c2, c3, c4, c5, c6, c7, c8, c9, c10, c11⟩ := hAb.cells
    have g1 : decide (2199023255552 ≤ a) = false := by simpa using ha2
    have g2 : decide (t < -2199023255553) = false := by simp; omega
    have g3 : decide (a < -2199023255553) = false := by simp; omega
    have hnn := fun w : World => (show (binOp .eql 60 (.slice none 0 0) (.slice none 0 0)).run Tryz.prog w = .ok (.bool true) w by kernel_rfl)
    have RU := fun W => rules_plain (.func g ts cs) e f W
    unfold eraPA eraP at RU
    have HJB := Lib.hid hJb
    have HTB := Lib.hid hTb
    have HFB := Lib.hid hfbb
    have HBO := Lib.hid hBO2
    have HI0 := Lib.hid hI0
    have HSB := Lib.hid hsbb
    have HTT := Lib.hid htbb
    clear hJb hTb hfbb hBO2 hI0 hsbb htbb hA hT hbel2 hfb3 hAb hBO hJ hO hK hY fJ fx
    gi_wp2
    refine ⟨trivial, fun _ => by omega, ((callsIn_wide.2 (RU Wb)).inRound lp2).mono ?_⟩
    rintro o w5 ⟨rfl, hb5⟩
    clear RU c0 c1 c2 c3 c4 c5 c6 c7 c8 c9 c10 c11 s0 f0 t0 d0 d1
    have HB5 := Lib.hid hb5
    clear hb5
    gi_wp2
    refine wpIn_env (fin := ?fnS) (wide1 lp2) (by kernel_rfl) [29, 30, 31, 32, 33, 34, 35, 36, 37, 38, 39, 40, 41, 42]
      [.pointer (some ⟨W3.heap.size + 1, 0, none⟩), .int .i64 (-2199023255553), .int .i64 a, .bool false, .bool false, undef, undef, undef, undef, undef, undef, undef, undef, .bool false] (by kernel_rfl) ?finS ?stepsS ?nextS
    case finS =>
      simp only [putAll, Act.put, List.setIfInBounds_toArray, List.set_cons_succ, List.set_cons_zero]
      rfl
    case stepsS =>
      refine ⟨?_, ?_, ?_, ?_, ?_, ?_, ?_, ?_, ?_, ?_, ?_, ?_, ?_, ?_, trivial⟩
      all_goals
        first
          | exact .inl ⟨by kernel_rfl, rfl⟩
          | (refine .inr ⟨by kernel_rfl, fun w1_ hB_ => ?_⟩
             have hbb := HB5.out.trans (hB_.mono HB5.out.size)
             have d0 := (HTB.out.below hbb HTB.out.lt).cell 0 (v := .int .i64 (-2199023255553)) rfl
             have f0 := (HFB.out.below hbb HFB.out.lt).cell 0 (v := .int .i64 a) rfl
             go_simp
             exact ⟨rfl, Below.refl _ _⟩)
    case nextS =>
      intro w6 hb6
      have hb7 := HB5.out.trans (hb6.mono HB5.out.size)
      clear hb6
      gi_wp2
      have hf7 : Fr (fun k => O2 k ∨ D k) Wb w6 := Fr.of_below hb7 (Nat.le_refl _)
      refine ⟨O2, fun k h => .inl h, HBO.out.fr hf7, hf7, HI0.out, ⟨o1, o2, o3⟩, ?_, HSB.out.below hb7 HSB.out.lt, HFB.out.below hb7 HFB.out.lt, HTT.out.below hb7 HTT.out.lt⟩
      exact HFJ.out [] _ _ _ HJB.out (Fr.of_below hb7 (Nat.le_refl _))
  case done =>
    intro D xs O2 W3 hD hS hI hO2 hBO hOD hfr hK2
    obtain ⟨hI0, -, hJ3, hs3, hf3, ht3⟩ := hI
    gi_wp2
    refine ⟨by simp, .inl ⟨_, _, rfl, run_takeDeferred hK2, ?_⟩⟩
    have hbs := hbw.size
    have hfw : Fr (fun k => O k ∨ (k = sb ∨ k = fb ∨ k = tb)) W W3 := (Fr.of_below hbw (Nat.le_refl _)).then (hfr.mono fun k hk => by
      rcases hk with h | h
      · exact .inl h
      · exact h.elim)
    have hfp : Fr (fun k => k = D) W3 (W3.putObj D (.deferred none)) := Fr.putObj _ _ rfl
    have hnD : ¬ O D := fun h => by have := hO D h; omega
    exact ⟨.tuple #[], results_none rfl _ _ _, ⟨_, rfl⟩, O, fun k h => .inl h, (hO.fr hfw).fr hfp, hfw.trans hfp (fun k hk => .inr (by omega)), .inl ⟨[], rfl, fJ _ _ _ _ hJ3 (Fr.putObj _ _ hnD)⟩⟩
end Go.Proofs.YtonmmgcibpjahaaGreatDoor
end

section
/- TChanges: Layer 14's changes at a zone of one era without rules: there is none; and Make. -/
namespace Go.Proofs.YtonmmgcibpjahaaGreatDoor
open Go Go.RowKit Go.Shelf
attribute [local go_sem] Oper.semAt_some
set_option maxRecDepth 100000

set_option maxHeartbeats 1000000 in
theorem first_one (nm : ByteArray) (b : Nat) (g : Fn) (ts cs : Array Value) (e : EraN) (f : ByteArray) (i : Int) (w : World) (hs : f.size < 4294967281) (hm : Tryz.MaxL w) (he : OneE w b e f) (h1 : -2199023255552 ≤ i) (h2 : i ≤ 2199023255552) (h0 : errP e f.data.toList = 0) (s : ByteArray) (hsh : Shows f (e.off + e.save) (dstB e.save) ⟨#[]⟩ s 0) :
    Calls Tryz.prog 62 #[oneZ nm b, .func g ts cs, .int .i64 i] w fun o w' => o = .returned (.tuple #[.agg #[.int .i64 i, .int .i64 (e.off + e.save), .bool (dstB e.save), .string s], .int .i64 0]) ∧ Below w.heap.size w w' := by
  have hb0 : Below w.heap.size w ((w.alloc (.cells #[.string nm, .slice (some ⟨b, 0, none⟩) 1 1] 24)).alloc (.cells #[.int .i64 0, .int .i64 0, .bool false, .string ⟨#[]⟩] 90)) := ((Below.refl _ _).alloc (Nat.le_refl _) _).alloc (by simp) _
  have hr0 := Blk.new (w.alloc (.cells #[.string nm, .slice (some ⟨b, 0, none⟩) 1 1] 24)) 90 #[.int .i64 0, .int .i64 0, .bool false, .string ⟨#[]⟩]
  rw [World.size_alloc] at hr0
  have hm0 := hm.below hb0 (Nat.le_refl _)
  have he0 : OneE _ b e f := Blk.below he hb0 (Blk.lt he)
  have HC := Lib.hid (at_one nm b g ts cs e f i _ hs hm0 he0 h1 h2 h0 s 0 hsh)
  unfold withinR at HC
  simp only [if_pos] at HC
  unfold oneZ at HC ⊢
  clear hm0 he0
  generalize dstB e.save = d at *
  generalize e.off + e.save = off at *
  go_enter Tryz.func62, Tryz.ntmps62
  go_wp2_with fail
  refine HC.out.mono ?_
  rintro o w1 ⟨rfl, hb⟩
  have hr1 := hr0.below hb hr0.lt
  have hb1 := hb0.trans (hb.mono hb0.size)
  have hl1 := hr1.lt
  have r0 := hr1.cell 0 (v := .int .i64 0) rfl
  have r1 := hr1.cell 1 (v := .int .i64 0) rfl
  have r2 := hr1.cell 2 (v := .bool false) rfl
  have r3 := hr1.cell 3 (v := .string ⟨#[]⟩) rfl
  have f0 := hr1.frozen 0
  have f1 := hr1.frozen 1
  have f2 := hr1.frozen 2
  have f3 := hr1.frozen 3
  have HR := Lib.hid hr1
  have HB := Lib.hid hb1
  clear hb hb0 hr0 hr1 hb1 HC
  go_wp2_with fail
  have HW := ((((HR.out.set 0 (.int .i64 i)).set 1 (.int .i64 off)).set 2 (.bool d)).set 3 (.string s)).alloc (.cells #[.int .i64 off, .bool d, .string s] 41)
  refine bodyPost_ret (v := .tuple #[.agg #[.int .i64 i, .int .i64 off, .bool d, .string s], .int .i64 0]) ?_ rfl ⟨rfl, (below_set4 HB.out (Nat.le_add_right _ _) _ _ _ _).alloc (by have := HB.out.size; simpa using this) _⟩
  have c0 := HW.cell 0 (v := .int .i64 i) rfl
  have c1 := HW.cell 1 (v := .int .i64 off) rfl
  have c2 := HW.cell 2 (v := .bool d) rfl
  have c3 := HW.cell 3 (v := .string s) rfl
  simp [results, Tryz.f62, go_sem, c0, c1, c2, c3]
theorem steps_any (nm : ByteArray) (b : Nat) (g : Fn) (ts cs : Array Value) (a t : Int) (w : World) :
    Calls Tryz.prog 90 #[oneZ nm b, .func g ts cs, .int .i64 a, .int .i64 t] w fun o w' => o = .returned (.func (.func 123) #[] #[.pointer (some ⟨w.heap.size, 0, none⟩), .pointer (some ⟨w.heap.size + 1, 0, none⟩), .pointer (some ⟨w.heap.size + 2, 0, none⟩), .pointer (some ⟨w.heap.size + 3, 0, none⟩)]) ∧ Below w.heap.size w w' ∧
      Blk w' w.heap.size 24 #[.string nm, .slice (some ⟨b, 0, none⟩) 1 1] ∧ Blk w' (w.heap.size + 1) 111 #[.func g ts cs] ∧ Blk w' (w.heap.size + 2) 3 #[.int .i64 a] ∧ Blk w' (w.heap.size + 3) 3 #[.int .i64 t] := by
  have b0 := Blk.new w 24 #[.string nm, .slice (some ⟨b, 0, none⟩) 1 1]
  have b1 := Blk.new (w.alloc (.cells #[.string nm, .slice (some ⟨b, 0, none⟩) 1 1] 24)) 111 #[.func g ts cs]
  have b2 := Blk.new ((w.alloc (.cells #[.string nm, .slice (some ⟨b, 0, none⟩) 1 1] 24)).alloc (.cells #[.func g ts cs] 111)) 3 #[.int .i64 a]
  have b3 := Blk.new (((w.alloc (.cells #[.string nm, .slice (some ⟨b, 0, none⟩) 1 1] 24)).alloc (.cells #[.func g ts cs] 111)).alloc (.cells #[.int .i64 a] 3)) 3 #[.int .i64 t]
  simp only [World.size_alloc] at b1 b2 b3
  have HA := Lib.hid (And.intro (((b0.alloc (.cells #[.func g ts cs] 111)).alloc (.cells #[.int .i64 a] 3)).alloc (.cells #[.int .i64 t] 3)) (And.intro ((b1.alloc (.cells #[.int .i64 a] 3)).alloc (.cells #[.int .i64 t] 3)) (And.intro (b2.alloc (.cells #[.int .i64 t] 3)) b3)))
  clear b0 b1 b2 b3
  unfold oneZ
  go_enter Tryz.func90, Tryz.ntmps90
  go_wp2_with fail
  go_ret
  exact ⟨rfl, ((((Below.refl _ _).alloc (Nat.le_refl _) _).alloc (by simp) _).alloc (by simp; omega) _).alloc (by simp; omega) _, HA.out⟩
theorem changes_any (nm : ByteArray) (b : Nat) (g : Fn) (ts cs : Array Value) (a t : Int) (w : World) :
    Calls Tryz.prog 63 #[oneZ nm b, .func g ts cs, .int .i64 a, .int .i64 t] w fun o w' => o = .returned (.func (.func 89) #[] #[.pointer (some ⟨w.heap.size + 2, 0, none⟩), .pointer (some ⟨w.heap.size, 0, none⟩), .pointer (some ⟨w.heap.size + 1, 0, none⟩), .pointer (some ⟨w.heap.size + 3, 0, none⟩)]) ∧ Below w.heap.size w w' ∧
      Blk w' w.heap.size 24 #[.string nm, .slice (some ⟨b, 0, none⟩) 1 1] ∧ Blk w' (w.heap.size + 1) 111 #[.func g ts cs] ∧ Blk w' (w.heap.size + 2) 3 #[.int .i64 a] ∧ Blk w' (w.heap.size + 3) 3 #[.int .i64 t] := by
  have b0 := Blk.new w 24 #[.string nm, .slice (some ⟨b, 0, none⟩) 1 1]
  have b1 := Blk.new (w.alloc (.cells #[.string nm, .slice (some ⟨b, 0, none⟩) 1 1] 24)) 111 #[.func g ts cs]
  have b2 := Blk.new ((w.alloc (.cells #[.string nm, .slice (some ⟨b, 0, none⟩) 1 1] 24)).alloc (.cells #[.func g ts cs] 111)) 3 #[.int .i64 a]
  have b3 := Blk.new (((w.alloc (.cells #[.string nm, .slice (some ⟨b, 0, none⟩) 1 1] 24)).alloc (.cells #[.func g ts cs] 111)).alloc (.cells #[.int .i64 a] 3)) 3 #[.int .i64 t]
  simp only [World.size_alloc] at b1 b2 b3
  have HA := Lib.hid (And.intro (((b0.alloc (.cells #[.func g ts cs] 111)).alloc (.cells #[.int .i64 a] 3)).alloc (.cells #[.int .i64 t] 3)) (And.intro ((b1.alloc (.cells #[.int .i64 a] 3)).alloc (.cells #[.int .i64 t] 3)) (And.intro (b2.alloc (.cells #[.int .i64 t] 3)) b3)))
  clear b0 b1 b2 b3
  unfold oneZ
  go_enter Tryz.func63, Tryz.ntmps63
  go_wp2_with fail
  go_ret
  exact ⟨rfl, ((((Below.refl _ _).alloc (Nat.le_refl _) _).alloc (by simp) _).alloc (by simp; omega) _).alloc (by simp; omega) _, HA.out⟩
set_option maxHeartbeats 2000000 in
theorem changes1_none (n : Nat) (hn : 6 ≤ n) (zb sb fb tb b : Nat) (nm : ByteArray) (g : Fn) (ts cs : Array Value) (e : EraN) (f : ByteArray) (a t : Int) (W : World) (hs : f.size < 4294967281) (hgm : ∀ W', Below fb W W' → Tryz.MaxL W') (h0 : errP e f.data.toList = 0)
    (ha : -2199023255552 ≤ a) (ha2 : a < 2199023255552) (ht : -2199023255552 ≤ t) (ht2 : t ≤ 2199023255552) (s : ByteArray) (hsh : Shows f (e.off + e.save) (dstB e.save) ⟨#[]⟩ s 0)
    (hz : Blk W zb 24 #[.string nm, .slice (some ⟨b, 0, none⟩) 1 1]) (hsb : Blk W sb 111 #[.func g ts cs]) (hfb : Blk W fb 3 #[.int .i64 a]) (htb : Blk W tb 3 #[.int .i64 t]) (hzf : zb < fb) (hsf : sb < fb) (htf : tb ≠ fb) (hbf : b < fb) (he : OneE W b e f) (encs : Nat → Array Value) (R : List Nat → Nat → (Nat → Prop) → World → Prop) :
    Iter Fence.wide n Tryz.prog 89 #[.pointer (some ⟨fb, 0, none⟩), .pointer (some ⟨zb, 0, none⟩), .pointer (some ⟨sb, 0, none⟩), .pointer (some ⟨tb, 0, none⟩)] encs R (fun xs : List Nat => xs = []) (fun _ => False) (fun k => k = fb) (fun k => k = fb) W := by
  intro lp J Jx fJ fx hY O hJ hO hK
  have z0 := hz.cell 0 (v := .string nm) rfl
  have z1 := hz.cell 1 (v := .slice (some ⟨b, 0, none⟩) 1 1) rfl
  have s0 := hsb.cell 0 (v := .func g ts cs) rfl
  have f0 := hfb.cell 0 (v := .int .i64 a) rfl
  have ff := hfb.frozen 0
  have hmax : max a (-2199023255552) = a := by omega
  show CallsIn Fence.wide n Tryz.prog 89 #[.func (.yield lp) #[] #[], .pointer (some ⟨fb, 0, none⟩), .pointer (some ⟨zb, 0, none⟩), .pointer (some ⟨sb, 0, none⟩), .pointer (some ⟨tb, 0, none⟩)] W _
  refine callsIn_of_wp_marks Tryz.func89 rfl trivial ?_ rfl
  simp only [Tryz.ntmps89, List.size_toArray, List.length_cons, List.length_nil, Nat.reduceAdd, Nat.reduceSub, Array.replicate_succ, Array.replicate_zero, List.push_toArray, List.append_toArray, List.nil_append, List.cons_append]
  have hfl := hfb.lt
  have hzl := hz.lt
  have hsl := hsb.lt
  have htl := htb.lt
  have hzn : zb ≠ fb := by omega
  have hsn : sb ≠ fb := by omega
  have t0 := htb.cell 0 (v := .int .i64 t) rfl
  have hnz : zb ≠ W.heap.size := by omega
  have HMAX := Lib.hid hmax
  gi_wp2
  refine wpIn_scope ?_
  gi_wp2
  have hF1 : Fr (fun k => k = fb) W ((W.setCell ⟨fb, 0, none⟩ (.int .i64 a)).alloc (.cells #[.func (.yield lp) #[] #[]] 160)) := (Fr.setCell (T := fun k => k = fb) _ 0 _ rfl).then (Fr.alloc _ _)
  have hfb1 := (hfb.set 0 (.int .i64 a)).alloc (.cells #[.func (.yield lp) #[] #[]] 160)
  obtain ⟨W1, hW1⟩ : ∃ W1, (W.setCell ⟨fb, 0, none⟩ (.int .i64 a)).alloc (.cells #[.func (.yield lp) #[] #[]] 160) = W1 := ⟨_, rfl⟩
  have hs1 : W.heap.size < W1.heap.size := by rw [← hW1]; simp
  rw [hW1] at hF1 hfb1 ⊢
  clear hW1 z0 z1 s0 f0 ff t0 hmax
  have hm1 : Tryz.MaxL W1 := hgm _ (hF1.below (by omega) (fun k hk h => by omega))
  have hz1 := hz.fr hF1 hzn
  have hsb1 := hsb.fr hF1 hsn
  have htb1 := htb.fr hF1 htf
  have he1 : OneE W1 b e f := Blk.fr he hF1 (by omega)
  have hJ1 : J [] O W1 := fJ _ _ _ _ hJ (hF1.mono fun k hk => .inl (hK k hk))
  refine ⟨trivial, fun _ => by omega, (callsIn_wide.2 (first_one nm b g ts cs e f a _ hs hm1 he1 ha (by omega) h0 s hsh)).mono ?_⟩
  rintro o w2 ⟨rfl, hb2⟩
  have hm2 := hm1.below hb2 (Nat.le_refl _)
  have hz2 := hz1.below hb2 hz1.lt
  have hsb2 := hsb1.below hb2 hsb1.lt
  have htb2 := htb1.below hb2 htb1.lt
  have hfb2 := hfb1.below hb2 hfb1.lt
  have he2 : OneE w2 b e f := Blk.below he1 hb2 (Blk.lt he1)
  have hJ2 : J [] O w2 := fJ _ _ _ _ hJ1 (Fr.of_below hb2 (Nat.le_refl _))
  have hF2 : Fr (fun k => k = fb) W w2 := hF1.then (Fr.of_below hb2 (Nat.le_refl _))
  clear hz1 hsb1 htb1 hfb1 he1 hJ1 hm1 hF1
  have z0 := hz2.cell 0 (v := .string nm) rfl
  have z1 := hz2.cell 1 (v := .slice (some ⟨b, 0, none⟩) 1 1) rfl
  have s0 := hsb2.cell 0 (v := .func g ts cs) rfl
  have f0 := hfb2.cell 0 (v := .int .i64 a) rfl
  have t0 := htb2.cell 0 (v := .int .i64 t) rfl
  have lz := hz2.lt
  have ls := hsb2.lt
  have lf := hfb2.lt
  have lt_ := htb2.lt
  generalize dstB e.save = d at *
  generalize e.off + e.save = off at *
  have hb2s := hb2.size
  gi_wp2
  refine wpIn_label ?_
  gi_wp2
  have hb3 : Below w2.heap.size w2 (w2.alloc (.cells #[.int .i64 a, .int .i64 off, .bool d, .string s] 90)) := (Below.refl _ _).alloc (Nat.le_refl _) _
  obtain ⟨w3, hw3⟩ : ∃ w3, w2.alloc (.cells #[.int .i64 a, .int .i64 off, .bool d, .string s] 90) = w3 := ⟨_, rfl⟩
  rw [hw3] at hb3 ⊢
  clear hw3 z0 z1 s0 f0 t0
  refine ⟨trivial, fun _ => by omega, (callsIn_wide.2 (steps_any nm b g ts cs a t w3)).mono ?_⟩
  rintro o w4 ⟨rfl, hb4, hz4, hsb4, hfb4, htb4⟩
  have hb24 := hb3.trans (hb4.mono hb3.size)
  have hm4 := hm2.below hb24 (Nat.le_refl _)
  have he4 : OneE w4 b e f := Blk.below he2 hb24 (Blk.lt he2)
  have hJ4 : J [] O w4 := fJ _ _ _ _ hJ2 (Fr.of_below hb24 (Nat.le_refl _))
  have hF4 : Fr (fun k => k = fb) W w4 := hF2.then (Fr.of_below hb24 (Nat.le_refl _))
  have hs3 := hb3.size
  have hs4 := hF4.size
  have hO4 : Bd O w4 := hO.fr hF4
  have hOn : ∀ k, W.heap.size ≤ k → ¬ O k := fun k hk h => by have := hO k h; omega
  have HJ4 := Lib.hid hJ4
  clear hb3 hb4 hb24 hJ2 hF2
  gi_wp2
  refine range_own (α := Nat) rfl (by omega) (gf := 123) (lb := #[.pointer (some ⟨w3.heap.size, 0, none⟩), .pointer (some ⟨w3.heap.size + 1, 0, none⟩), .pointer (some ⟨w3.heap.size + 2, 0, none⟩), .pointer (some ⟨w3.heap.size + 3, 0, none⟩)]) rfl trivial (enters_of Tryz.func123 (by kernel_rfl) rfl)
    (encs := fun _ => #[undef]) (R := fun _ _ _ _ => False)
    (fun W' hW' => steps1_none (n - 1) (by omega) _ _ _ _ b nm g ts cs e f a t W' hs (hm4.below hW' (Nat.le_refl _)) h0 ha ha2 ht ht2 (hz4.below hW' hz4.lt) (hsb4.below hW' hsb4.lt) (hfb4.below hW' hfb4.lt) (htb4.below hW' htb4.lt) (Blk.below he4 hW' (Blk.lt he4)) _ _)
    (fun _ => rfl) (fun _ O2 W' => (∀ k, O k → O2 k) ∧ J [] O W') (fun _ _ _ _ => False) ?feet (fun _ _ _ _ _ h _ => h) O ⟨fun k h => h, HJ4.out⟩ hO4 (fun k hk => ?_) (fun k hk => ?_) ?round ?done ?stop
  case feet =>
    rintro _ O2 W' W'' ⟨h1, h2⟩ hf
    exact ⟨h1, fJ _ _ _ _ h2 (hf.mono fun k hk => .inl fun h => hk (h1 k h))⟩
  · have := htb4.lt
    rcases hk with h | h | h <;> omega
  · exact hOn k (by rcases hk with h | h | h <;> omega)
  case stop =>
    intro _ _ _ _ _ _ h
    exact h.elim
  case round =>
    intro lp2 pre k O2 D W3 hI hBO hBD hDO hR
    exact hR.elim
  case done =>
    intro D xs O2 W3 hD hS hI hO2 hBO hOD hfr hK2
    obtain ⟨-, hJ3⟩ := hI
    gi_wp2
    refine ⟨by simp, .inl ⟨_, _, rfl, run_takeDeferred hK2, ?_⟩⟩
    have hfw : Fr (fun k => O k ∨ k = fb) W W3 := (hF4.mono fun k hk => .inl (.inr hk)).trans hfr (fun k hk => by
      rcases hk with h | h
      · exact .inl (.inl h)
      · exact .inr (by rcases h with h | h | h <;> omega))
    have hfp : Fr (fun k => k = D) W3 (W3.putObj D (.deferred none)) := Fr.putObj _ _ rfl
    have hnD : ¬ O D := hOn D (by omega)
    exact ⟨.tuple #[], results_none rfl _ _ _, ⟨_, rfl⟩, O, fun k h => .inl h, (hO.fr hfw).fr hfp, hfw.trans hfp (fun k hk => .inr (by omega)), .inl ⟨[], rfl, fJ _ _ _ _ hJ3 (Fr.putObj _ _ hnD)⟩⟩
end Go.Proofs.YtonmmgcibpjahaaGreatDoor
end

section
/- TMake: Layer 14's Make at a zone of one era without rules: its table has one row. -/
namespace Go.Proofs.YtonmmgcibpjahaaGreatDoor
open Go Go.RowKit Go.Shelf
set_option maxRecDepth 100000

/-- A table of one row. -/
def MakeOne (w : World) (i off : Int) (d : Bool) (s : ByteArray) (o : Ending) (w' : World) : Prop :=
  ∃ blk, w.heap.size ≤ blk ∧ o = .returned (.tuple #[.slice (some ⟨blk, 0, none⟩) 1 1, .int .i64 0]) ∧ Blk w' blk 90 #[.int .i64 i, .int .i64 off, .bool d, .string s] ∧ Below w.heap.size w w'
set_option maxHeartbeats 2000000 in
theorem make_one (nm : ByteArray) (b : Nat) (g : Fn) (ts cs : Array Value) (e : EraN) (f : ByteArray) (t : Int) (w : World) (hs : f.size < 4294967281) (hm : Tryz.MaxL w) (he : OneE w b e f) (h1 : -2199023255552 ≤ t) (h2 : t ≤ 2199023255552) (h0 : errP e f.data.toList = 0) (s : ByteArray) (hsh : Shows f (e.off + e.save) (dstB e.save) ⟨#[]⟩ s 0) :
    Calls Tryz.prog 33 #[oneZ nm b, .func g ts cs, .int .i64 t] w (MakeOne w (-2199023255552) (e.off + e.save) (dstB e.save) s) := by
  have hb0 : Below w.heap.size w (w.alloc (.cells #[.string nm, .slice (some ⟨b, 0, none⟩) 1 1] 24)) := (Below.refl _ _).alloc (Nat.le_refl _) _
  have hz0 := Blk.new w 24 #[.string nm, .slice (some ⟨b, 0, none⟩) 1 1]
  have hm0 := hm.below hb0 (Nat.le_refl _)
  have he0 : OneE _ b e f := Blk.below he hb0 (Blk.lt he)
  have HC := Lib.hid (checkZ_one nm b g ts cs e f _ hs hm0 he0)
  rw [h0] at HC
  unfold oneZ at HC ⊢
  refine (callsIn_wide (n := 12)).1 ?_
  refine callsIn_of_wp_marks Tryz.func33 rfl trivial ?_ rfl
  simp only [Tryz.ntmps33, List.size_toArray, List.length_cons, List.length_nil, Nat.reduceAdd, Nat.reduceSub, Array.replicate_succ, Array.replicate_zero, List.push_toArray, List.append_toArray, List.nil_append, List.cons_append]
  refine wpIn_wide.2 ?_
  go_wp2_with fail
  refine HC.out.mono ?_
  rintro o w1 ⟨rfl, hb⟩
  have hm1 := hm0.below hb (Nat.le_refl _)
  have he1 : OneE w1 b e f := Blk.below he0 hb (Blk.lt he0)
  have hz1 := hz0.below hb hz0.lt
  have hb1 := hb0.trans (hb.mono hb0.size)
  have z0 := hz1.cell 0 (v := .string nm) rfl
  have z1 := hz1.cell 1 (v := .slice (some ⟨b, 0, none⟩) 1 1) rfl
  clear HC hb hb0 hz0 hm0 he0
  have HM := Lib.hid hm1
  have HE := Lib.hid he1
  have HZ := Lib.hid hz1
  have HB := Lib.hid hb1
  clear hm1 he1 hz1 hb1
  go_wp2_with fail
  refine (first_one nm b g ts cs e f (-2199023255552) _ hs HM.out HE.out (by omega) (by omega) h0 s hsh).mono ?_
  rintro o w2 ⟨rfl, hb⟩
  have HM2 := Lib.hid (HM.out.below hb (Nat.le_refl _))
  have he2 : OneE w2 b e f := Blk.below HE.out hb (Blk.lt HE.out)
  have HE2 := Lib.hid he2
  have hz2 := HZ.out.below hb HZ.out.lt
  have HB2 := Lib.hid (HB.out.trans (hb.mono HB.out.size))
  have lz := hz2.lt
  clear z0 z1 hb HM HE HZ HB he2
  have z0 := hz2.cell 0 (v := .string nm) rfl
  have z1 := hz2.cell 1 (v := .slice (some ⟨b, 0, none⟩) 1 1) rfl
  have HZ2 := Lib.hid hz2
  clear hz2
  have HSH := Lib.hid hsh
  clear hsh
  generalize hd : dstB e.save = d at *
  generalize hoff : e.off + e.save = off at *
  have HD := Lib.hid hd
  have HOFF := Lib.hid hoff
  clear hd hoff
  have lz1 : w.heap.size < w2.heap.size + 1 := by omega
  have lz2 : w.heap.size < w2.heap.size + 1 + 1 := by omega
  go_wp2_with fail
  have hb3 : Below w2.heap.size w2 (((w2.alloc (.cells #[.int .i64 (-2199023255552), .int .i64 off, .bool d, .string s] 90)).alloc (.cells #[.int .i64 (-2199023255552), .int .i64 off, .bool d, .string s] 90)).alloc (.cells #[.slice (some ⟨w2.heap.size + 1, 0, none⟩) 1 1] 85)) := (((Below.refl _ _).alloc (Nat.le_refl _) _).alloc (by simp) _).alloc (by simp; omega) _
  have hR := Blk.new (w2.alloc (.cells #[.int .i64 (-2199023255552), .int .i64 off, .bool d, .string s] 90)) 90 #[.int .i64 (-2199023255552), .int .i64 off, .bool d, .string s]
  have hT := Blk.new ((w2.alloc (.cells #[.int .i64 (-2199023255552), .int .i64 off, .bool d, .string s] 90)).alloc (.cells #[.int .i64 (-2199023255552), .int .i64 off, .bool d, .string s] 90)) 85 #[.slice (some ⟨w2.heap.size + 1, 0, none⟩) 1 1]
  have hR3 := hR.alloc (.cells #[.slice (some ⟨w2.heap.size + 1, 0, none⟩) 1 1] 85)
  simp only [World.size_alloc] at hR3 hT
  obtain ⟨w3, hw3⟩ : ∃ w3, (((w2.alloc (.cells #[.int .i64 (-2199023255552), .int .i64 off, .bool d, .string s] 90)).alloc (.cells #[.int .i64 (-2199023255552), .int .i64 off, .bool d, .string s] 90)).alloc (.cells #[.slice (some ⟨w2.heap.size + 1, 0, none⟩) 1 1] 85)) = w3 := ⟨_, rfl⟩
  rw [hw3] at hb3 hR3 hT ⊢
  clear hw3 hR z0 z1
  refine (changes_any nm b g ts cs (-2199023255552) t w3).mono ?_
  rintro o w4 ⟨rfl, hb4, hz4, hsb4, hfb4, htb4⟩
  have hb24 := hb3.trans (hb4.mono hb3.size)
  have hm4 := HM2.out.below hb24 (Nat.le_refl _)
  have he4 : OneE w4 b e f := Blk.below HE2.out hb24 (Blk.lt HE2.out)
  have hbl3 : b < w3.heap.size := Nat.lt_of_lt_of_le (Blk.lt HE2.out) hb3.size
  have hR4 := hR3.below hb4 hR3.lt
  have hT4 := hT.below hb4 hT.lt
  have hb04 := HB2.out.trans (hb24.mono HB2.out.size)
  have hs3 := hb3.size
  have htl := hT.lt
  have hm3 := HM2.out.below hb3 (Nat.le_refl _)
  have hs44 := htb4.lt
  clear hb24 hb3 hR3 hT HZ2 HM2 HE2
  go_wp2_with fail
  refine (wpIn_wide (n := 12)).1 ?_
  refine range_own (α := Nat) rfl (by omega) (gf := 89) (lb := #[.pointer (some ⟨w3.heap.size + 2, 0, none⟩), .pointer (some ⟨w3.heap.size, 0, none⟩), .pointer (some ⟨w3.heap.size + 1, 0, none⟩), .pointer (some ⟨w3.heap.size + 3, 0, none⟩)]) rfl trivial (enters_of Tryz.func89 (by kernel_rfl) rfl)
    (encs := fun _ => #[undef]) (R := fun _ _ _ _ => False)
    (fun W' hW' => changes1_none 11 (by omega) _ _ _ _ b nm g ts cs e f (-2199023255552) t W' hs (fun W'' hb'' => hm3.below ((hb4.trans ((hW'.mono (Nat.le_of_lt (by omega))).trans (hb''.mono (by omega)))).mono (Nat.le_refl _)) (Nat.le_refl _)) h0 (by omega) (by omega) h1 h2 s (by rw [HOFF.out, HD.out]; exact HSH.out) (hz4.below hW' hz4.lt) (hsb4.below hW' hsb4.lt) (hfb4.below hW' hfb4.lt) (htb4.below hW' htb4.lt) (by omega) (by omega) (by omega) (by omega) (Blk.below he4 hW' (Blk.lt he4)) _ _)
    (fun _ => rfl) (fun _ _ _ => True) (fun _ _ _ _ => False) (fun _ _ _ _ h _ => h) (fun _ _ _ _ _ h _ => h) (fun _ => False) trivial (fun k hk => hk.elim) (fun k hk => ?_) (fun _ _ h => h) ?round ?done ?stop
  · have := hfb4.lt
    omega
  case stop =>
    intro _ _ _ _ _ _ h
    exact h.elim
  case round =>
    intro lp2 pre k O2 D W3 hI hBO hBD hDO hR
    exact hR.elim
  case done =>
    intro D xs O2 W3 hD hS hI hO2 hBO hOD hfr hK2
    have hF : Fr (fun k => k = w3.heap.size + 2) w4 W3 := hfr.mono fun k hk => by
      rcases hk with h | h
      · exact h.elim
      · exact .inl h
    have hR5 := hR4.fr hF (by omega)
    have hT5 := hT4.fr hF (by omega)
    have t0 := hT5.cell 0 (v := .slice (some ⟨w2.heap.size + 1, 0, none⟩) 1 1) rfl
    have hb5 := hb04.trans (hF.below hb04.size (fun k hk h => by omega))
    have HK := Lib.hid hK2
    have HR5 := Lib.hid hR5
    have HB5 := Lib.hid hb5
    clear hF hR5 hT5 hb5 hfr hK2 hR4 hT4 hb04
    have hl2 : w.heap.size < w2.heap.size := lz
    clear lz lz1 lz2
    go_wp2_with fail
    refine ⟨by simp, .inl ⟨_, _, rfl, run_takeDeferred HK.out, ?_⟩⟩
    refine ⟨.tuple #[.slice (some ⟨w2.heap.size + 1, 0, none⟩) 1 1, .int .i64 0], by simp [results, Tryz.f33, go_sem], w2.heap.size + 1, by omega, rfl, ?_, fin_below HB5.out (by omega)⟩
    exact HR5.out.fr (Fr.putObj (T := fun k => k = D) _ _ rfl) (by omega)
/-- The same, of what is in memory behind it. -/
theorem MakeOne.below {w w' W : World} {i off : Int} {d : Bool} {s : ByteArray} {o : Ending} (h : MakeOne w i off d s o w') (hb : Below w'.heap.size w' W) : MakeOne w i off d s o W := by
  obtain ⟨blk, h1, h2, h3, h4⟩ := h
  exact ⟨blk, h1, h2, h3.below hb h3.lt, h4.trans (hb.mono h4.size)⟩
end Go.Proofs.YtonmmgcibpjahaaGreatDoor
end

section
/- TMath: Changes in a row: plain. -/
namespace Go.Proofs.YtonmmgcibpjahaaGreatDoor

/-- What clocks show. -/
structure Loc where
  off : Int
  dst : Bool
  abbr : ByteArray
/-- A change. -/
structure Chg where
  at_ : Int
  loc : Loc
def Loc.zero : Loc := ⟨0, false, ⟨#[]⟩⟩
def Chg.zero : Chg := ⟨0, .zero⟩
instance : Inhabited Loc := ⟨.zero⟩
instance : Inhabited Chg := ⟨.zero⟩

/-- The last change that is not behind an instant is the k-th one. -/
def IsAt (l : List Chg) (i : Int) (k : Nat) : Prop := ∃ h : k < l.length, (l[k]).at_ ≤ i ∧ ∀ j (hj : j < l.length), k < j → i < (l[j]).at_
def Rising (l : List Chg) : Prop := ∀ i (h : i + 1 < l.length), (l[i]).at_ < (l[i + 1]).at_
theorem Rising.lt {l : List Chg} (h : Rising l) : ∀ {i j : Nat} (hj : j < l.length) (hij : i < j), (l[i]).at_ < (l[j]).at_ := by
  intro i j hj hij
  induction j with
  | zero => omega
  | succ j ih =>
    have h1 := h j hj
    rcases Nat.lt_or_ge i j with h2 | h2
    · have := ih (by omega) h2; omega
    · obtain rfl : i = j := by omega
      exact h1
theorem Rising.le {l : List Chg} (h : Rising l) {i j : Nat} (hj : j < l.length) (hij : i ≤ j) : (l[i]).at_ ≤ (l[j]).at_ := by
  rcases Nat.lt_or_ge i j with h1 | h1
  · have := h.lt hj h1; omega
  · obtain rfl : i = j := by omega
    omega
theorem Rising.not_before {l : List Chg} (h : Rising l) {i j : Nat} (hi : i < l.length) (hj : j < l.length) (hlt : (l[i]).at_ < (l[j]).at_) : i < j := by
  rcases Nat.lt_or_ge i j with h1 | h1
  · exact h1
  · have := h.le hi h1; omega
theorem isAt_unique {l : List Chg} {i : Int} {k m : Nat} (h : IsAt l i k) (h' : IsAt l i m) : k = m := by
  obtain ⟨h1, h2, h3⟩ := h
  obtain ⟨g1, g2, g3⟩ := h'
  rcases Nat.lt_trichotomy k m with h | h | h
  · have := h3 m g1 h; omega
  · exact h
  · have := g3 k h1 h; omega
/-- The last change of the first n that is not behind an instant. -/
theorem isAt_some {l : List Chg} {i : Int} (h0 : ∃ h : 0 < l.length, (l[0]).at_ ≤ i) : ∃ k, IsAt l i k := by
  obtain ⟨h, h0⟩ := h0
  have key : ∀ n, n < l.length → ∃ k, k ≤ n ∧ ∃ hk : k < l.length, (l[k]).at_ ≤ i ∧ ∀ j (hj : j < l.length), k < j → j ≤ n → i < (l[j]).at_ := by
    intro n
    induction n with
    | zero => intro _; exact ⟨0, Nat.le_refl _, h, h0, fun j _ h1 h2 => by omega⟩
    | succ n ih =>
      intro hn
      obtain ⟨k, hk, hkl, h1, h2⟩ := ih (by omega)
      by_cases hc : (l[n + 1]).at_ ≤ i
      · exact ⟨n + 1, Nat.le_refl _, hn, hc, fun j _ h3 h4 => by omega⟩
      · refine ⟨k, by omega, hkl, h1, fun j hj h3 h4 => ?_⟩
        rcases Nat.lt_or_ge n j with h5 | h5
        · obtain rfl : j = n + 1 := by omega
          omega
        · exact h2 j hj h3 h5
  obtain ⟨k, hk, hkl, h1, h2⟩ := key (l.length - 1) (by omega)
  exact ⟨k, hkl, h1, fun j hj h3 => h2 j hj h3 (by omega)⟩
theorem isAt_next {l : List Chg} (hr : Rising l) {i : Int} {k : Nat} (h : k < l.length) (h1 : (l[k]).at_ ≤ i) (h2 : ∀ h : k + 1 < l.length, i < (l[k + 1]).at_) : IsAt l i k :=
  ⟨h, h1, fun j hj hkj => by
    have := h2 (by omega)
    have := hr.le hj (show k + 1 ≤ j by omega)
    omega⟩

end Go.Proofs.YtonmmgcibpjahaaGreatDoor
end

section
/- TBase: Changes in memory. -/
namespace Go.Proofs.YtonmmgcibpjahaaGreatDoor
open Go Go.RowKit

def locV (x : Loc) : List Value := [.int .i64 x.off, .bool x.dst, .string x.abbr]
def chgV (c : Chg) : List Value := [.int .i64 c.at_, .int .i64 c.loc.off, .bool c.loc.dst, .string c.loc.abbr]
def locA (x : Loc) : Value := .agg #[.int .i64 x.off, .bool x.dst, .string x.abbr]
def chgA (c : Chg) : Value := .agg #[.int .i64 c.at_, .int .i64 c.loc.off, .bool c.loc.dst, .string c.loc.abbr]
def chgsV (l : List Chg) : List Value := l.flatMap chgV
theorem length_chgsV (l : List Chg) : (chgsV l).length = l.length * 4 := by
  induction l with
  | nil => rfl
  | cons c l ih => simp only [chgsV, List.flatMap_cons, List.length_append, List.length_cons, chgV, List.length_nil] at ih ⊢; omega
theorem chgsV_at (l : List Chg) (i : Nat) (h : i < l.length) : (chgsV l)[i * 4]? = some (.int .i64 (l[i]).at_) ∧ (chgsV l)[i * 4 + 1]? = some (.int .i64 (l[i]).loc.off) ∧ (chgsV l)[i * 4 + 2]? = some (.bool (l[i]).loc.dst) ∧ (chgsV l)[i * 4 + 3]? = some (.string (l[i]).loc.abbr) := by
  induction l generalizing i with
  | nil => exact absurd h (by simp)
  | cons c l ih =>
    rcases i with _ | i
    · exact ⟨rfl, rfl, rfl, rfl⟩
    · have := ih i (by simpa using h)
      rw [show (i + 1) * 4 = i * 4 + 1 + 1 + 1 + 1 by omega]
      exact this
theorem chgsV_append (l m : List Chg) : chgsV (l ++ m) = chgsV l ++ chgsV m := by simp [chgsV]
/-- A slice of changes. -/
def Chgs (w : World) (B : Nat) (v : Value) (l : List Chg) : Prop := Sl w B 4 v l.length (chgsV l)
section
variable {w w' : World} {B B' : Nat} {v : Value} {l : List Chg}
theorem Chgs.form (h : Chgs w B v l) : ∃ A c, v = .slice A l.length c ∧ l.length ≤ c ∧ c ≤ maxLen := by
  obtain ⟨A, c, rfl, h1, h2, -⟩ := h
  exact ⟨A, c, rfl, h1, h2⟩
theorem Chgs.more (h : Chgs w B v l) (hB : B ≤ B') : Chgs w B' v l := Sl.more h hB
theorem Chgs.below (h : Chgs w B v l) (hb : Below B w w') : Chgs w' B v l := Sl.below h hb
theorem Chgs.drewN (h : Chgs w B v l) (n : Nat) : Chgs (w.drewN n) B v l := h
/-- The cells of the i-th one. -/
theorem Chgs.cells (h : Chgs w B v l) (hl : 0 < l.length) : ∃ b o c, v = .slice (some ⟨b, o, none⟩) l.length c ∧ b < B ∧ ∀ i (hi : i < l.length), w.cell? ⟨b, o + i * 4, none⟩ = some (.int .i64 (l[i]).at_) ∧ w.cell? ⟨b, o + i * 4 + 1, none⟩ = some (.int .i64 (l[i]).loc.off) ∧
    w.cell? ⟨b, o + i * 4 + 2, none⟩ = some (.bool (l[i]).loc.dst) ∧ w.cell? ⟨b, o + i * 4 + 3, none⟩ = some (.string (l[i]).loc.abbr) := by
  obtain ⟨b, o, c, e, hb, hc⟩ := Sl.at_ h hl
  refine ⟨b, o, c, e, hb, fun i hi => ?_⟩
  obtain ⟨h0, h1, h2, h3⟩ := chgsV_at l i hi
  exact ⟨hc _ _ h0, by rw [Nat.add_assoc]; exact hc _ _ h1, by rw [Nat.add_assoc]; exact hc _ _ h2, by rw [Nat.add_assoc]; exact hc _ _ h3⟩
end
/-- A box that holds what clocks show; one that holds a change. -/
abbrev LocB (W : World) (b : Nat) (x : Loc) : Prop := Blk W b 41 #[.int .i64 x.off, .bool x.dst, .string x.abbr]
abbrev ChgB (W : World) (b : Nat) (c : Chg) : Prop := Blk W b 90 #[.int .i64 c.at_, .int .i64 c.loc.off, .bool c.loc.dst, .string c.loc.abbr]
theorem LocB.cells {W : World} {b : Nat} {x : Loc} (h : LocB W b x) : W.cell? ⟨b, 0, none⟩ = some (.int .i64 x.off) ∧ W.cell? ⟨b, 1, none⟩ = some (.bool x.dst) ∧ W.cell? ⟨b, 2, none⟩ = some (.string x.abbr) :=
  ⟨h.cell 0 rfl, h.cell 1 rfl, h.cell 2 rfl⟩
theorem ChgB.cells {W : World} {b : Nat} {c : Chg} (h : ChgB W b c) : W.cell? ⟨b, 0, none⟩ = some (.int .i64 c.at_) ∧ W.cell? ⟨b, 1, none⟩ = some (.int .i64 c.loc.off) ∧ W.cell? ⟨b, 2, none⟩ = some (.bool c.loc.dst) ∧ W.cell? ⟨b, 3, none⟩ = some (.string c.loc.abbr) :=
  ⟨h.cell 0 rfl, h.cell 1 rfl, h.cell 2 rfl, h.cell 3 rfl⟩
theorem LocB.set {W : World} {b : Nat} {x : Loc} (h : LocB W b x) (y : Loc) : LocB (((W.setCell ⟨b, 0, none⟩ (.int .i64 y.off)).setCell ⟨b, 1, none⟩ (.bool y.dst)).setCell ⟨b, 2, none⟩ (.string y.abbr)) b y := ((Blk.set h 0 _).set 1 _).set 2 _
theorem ChgB.set {W : World} {b : Nat} {c : Chg} (h : ChgB W b c) (d : Chg) : ChgB ((((W.setCell ⟨b, 0, none⟩ (.int .i64 d.at_)).setCell ⟨b, 1, none⟩ (.int .i64 d.loc.off)).setCell ⟨b, 2, none⟩ (.bool d.loc.dst)).setCell ⟨b, 3, none⟩ (.string d.loc.abbr)) b d := (((Blk.set h 0 _).set 1 _).set 2 _).set 3 _
end Go.Proofs.YtonmmgcibpjahaaGreatDoor
end

section
/- TRise: Layer 20: the references' parts, walked. -/
namespace Go.Proofs.YtonmmgcibpjahaaGreatDoor
open Go Go.RowKit
set_option maxRecDepth 100000

open Go Go.RowKit
set_option maxRecDepth 100000

theorem dn2 (w : World) (n m : Nat) : ∃ q, (w.drewN n).drewN m = w.drewN q := ⟨n + m, World.drewN_drewN ..⟩
/-- Do the first k pairs rise? -/
def RiseTo (l : List Chg) (k : Nat) : Prop := ∀ i (h : i + 1 < l.length), i + 1 < k → (l[i]).at_ < (l[i + 1]).at_
def riseB (l : List Chg) : Bool := decide (∀ i : _root_.Fin l.length, ∀ h : i.1 + 1 < l.length, (l[i.1]).at_ < (l[i.1 + 1]).at_)
theorem riseB_iff (l : List Chg) : riseB l = true ↔ Rising l := by
  unfold riseB
  rw [decide_eq_true_iff]
  exact ⟨fun h i hi => h ⟨i, by omega⟩ hi, fun h i hi => h i.1 hi⟩
theorem riseB_yes {l : List Chg} (h : Rising l) : riseB l = true := (riseB_iff l).2 h
theorem riseB_no {l : List Chg} {i : Nat} (h : i + 1 < l.length) (hn : ¬ (l[i]).at_ < (l[i + 1]).at_) : riseB l = false := by
  cases hb : riseB l with
  | false => rfl
  | true => exact absurd ((riseB_iff l).1 hb i h) hn
set_option maxHeartbeats 1000000 in
theorem rise_any (w : World) (B : Nat) (v : Value) (l : List Chg) (hv : Chgs w B v l) :
    Calls Tryz.prog 41 #[v] w fun e w' => e = .returned (.bool (riseB l)) ∧ ∃ n, w' = w.drewN n := by
  obtain ⟨A, c, rfl, hlc, hcm⟩ := hv.form
  unfold maxLen at hcm
  have HV := Lib.hid hv
  clear hv
  go_enter Tryz.func41, Tryz.ntmps41
  go_wp2_with fail
  go_loopw [3] (fun i wr => ∃ k : Nat, 1 ≤ k ∧ (k ≤ l.length ∨ k = 1) ∧ i = .int .i64 k ∧ RiseTo l k ∧ ∃ n, wr = w.drewN n) (fun i _ => l.length - (intOf i).toNat)
  case atStart => exact ⟨1, by omega, by omega, rfl, fun i _ h => by omega, 0, rfl⟩
  case round =>
    obtain ⟨k, hk1, hk, rfl, hr, n, rfl⟩ := hrel
    have HR := Lib.hid hr
    clear hr
    by_cases hlt : k < l.length
    · obtain ⟨j, rfl⟩ : ∃ j, k = j + 1 := ⟨k - 1, by omega⟩
      obtain ⟨b, o, c', e, -, hc⟩ := HV.out.cells (by omega)
      cases e
      have c1 := (hc (j + 1) hlt).1
      have c0 := (hc j (by omega)).1
      have HNO := Lib.hid (riseB_no hlt)
      clear hc
      have HX := Lib.hid (show ∀ h : (l[j]).at_ < (l[j + 1]).at_, RiseTo l (j + 1 + 1) from fun h i hi h2 => by
        rcases Nat.lt_or_ge (i + 1) (j + 1) with h3 | h3
        · exact HR.out i hi h3
        · obtain rfl : i = j := by omega
          exact h)
      generalize (l[j + 1]).at_ = a1 at *
      generalize (l[j]).at_ = a0 at *
      have e1 : ((j + 1 : Nat) : Int) - 1 = (j : Nat) := by omega
      rw [show (((j + 1 : Nat)) : Int) = (j : Int) + 1 from by omega] at *
      by_cases hcmp : a0 < a1
      · go_wp2_with fail
        go_quiet (fail)
        go_wp2_with fail
        go_roundw
        case rel => exact ⟨j + 1 + 1, by omega, by omega, by go_num, HX.out hcmp, _, rfl⟩
        case measure => first | (simp [intOf]; done) | (simp [intOf]; omega)
      · have HB := Lib.hid (HNO.out hcmp)
        go_wp2_with fail
        go_quiet (fail)
        go_wp2_with fail
        go_ret
        exact ⟨by rw [HB.out]; rfl, dn2 w _ _⟩
    · have HB := Lib.hid (riseB_yes (l := l) (fun i hi => HR.out i hi (by omega)))
      go_wp2_with fail
      go_ret
      exact ⟨by rw [HB.out]; rfl, _, rfl⟩
end Go.Proofs.YtonmmgcibpjahaaGreatDoor
end

section
/- TSame: Layer 14's law: are two rows of changes one? -/
namespace Go.Proofs.YtonmmgcibpjahaaGreatDoor
open Go Go.RowKit
set_option maxRecDepth 100000

/-- Whether two changes are one, as the walk says it. -/
def chgEq (c d : Chg) : Bool := decide (c.at_ = d.at_ ∧ c.loc.off = d.loc.off ∧ c.loc.dst = d.loc.dst ∧ c.loc.abbr.toList = d.loc.abbr.toList)
def SameTo (l m : List Chg) (k : Nat) : Prop := ∀ i (h : i < l.length) (h' : i < m.length), i < k → chgEq l[i] m[i] = true
def sameB (l m : List Chg) : Bool := decide (l.length = m.length) && decide (∀ i : _root_.Fin l.length, ∀ h : i.1 < m.length, chgEq l[i.1] m[i.1] = true)
theorem SameTo.next {l m : List Chg} {k : Nat} {x y : Chg} {hl : k < l.length} {hm : k < m.length} (h : SameTo l m k) (hx : l[k] = x) (hy : m[k] = y) (hq : chgEq x y = true) : SameTo l m (k + 1) := by
  intro i h1 h2 hi
  by_cases hik : i = k
  · subst hik; rw [hx, hy]; exact hq
  · exact h i h1 h2 (by omega)
theorem same_no {l m : List Chg} {k : Nat} {x y : Chg} {hl : k < l.length} {hm : k < m.length} (hx : l[k] = x) (hy : m[k] = y) (hq : chgEq x y = false) : sameB l m = false := by
  unfold sameB
  rw [Bool.and_eq_false_iff]
  right
  refine decide_eq_false fun h => ?_
  have := h ⟨k, hl⟩ hm
  rw [show l[(⟨k, hl⟩ : _root_.Fin l.length).1] = x from hx, hy, hq] at this
  cases this
theorem same_yes {l m : List Chg} (hlen : l.length = m.length) (h : ∀ i (h : i < l.length) (h' : i < m.length), chgEq l[i] m[i] = true) : sameB l m = true := by
  unfold sameB
  rw [decide_eq_true hlen, Bool.true_and, decide_eq_true_eq]
  exact fun i h' => h i.1 i.2 h'
theorem same_len {l m : List Chg} (h : ¬ l.length = m.length) : sameB l m = false := by unfold sameB; rw [decide_eq_false h]; rfl
theorem chgEq_iff {c d : Chg} : chgEq c d = true ↔ c = d := by
  unfold chgEq
  rw [decide_eq_true_eq]
  constructor
  · rintro ⟨h1, h2, h3, h4⟩
    obtain ⟨a, o, b, ⟨s⟩⟩ := c
    obtain ⟨a', o', b', ⟨s'⟩⟩ := d
    simp only at h1 h2 h3 h4
    subst h1 h2 h3
    have e : (⟨s⟩ : ByteArray) = ⟨s'⟩ := by
      rw [Lib.toList_data, Lib.toList_data] at h4
      have : s = s' := Array.toList_inj.1 h4
      rw [this]
    rw [e]
  · rintro rfl; exact ⟨rfl, rfl, rfl, rfl⟩
theorem sameB_iff {l m : List Chg} : sameB l m = true ↔ l = m := by
  constructor
  · intro h
    unfold sameB at h
    rw [Bool.and_eq_true, decide_eq_true_eq, decide_eq_true_eq] at h
    exact List.ext_getElem h.1 fun i h1 h2 => chgEq_iff.1 (h.2 ⟨i, h1⟩ h2)
  · rintro rfl
    exact same_yes rfl fun i h h' => chgEq_iff.2 rfl
set_option maxHeartbeats 1000000 in
theorem same_any (w : World) (B : Nat) (v u : Value) (l m : List Chg) (hv : Chgs w B v l) (hu : Chgs w B u m) (hB : B ≤ w.heap.size) :
    Calls Tryz.prog 36 #[v, u] w fun e w' => e = .returned (.bool (sameB l m)) ∧ Below w.heap.size w w' := by
  obtain ⟨A, c, rfl, hlc, hcm⟩ := hv.form
  obtain ⟨A2, c2, rfl, hlc2, hcm2⟩ := hu.form
  unfold maxLen at hcm hcm2
  have HV := Lib.hid hv
  have HU := Lib.hid hu
  clear hv hu
  by_cases hlen : l.length = m.length
  · have HL := Lib.hid hlen
    rw [← hlen] at HU ⊢
    clear hlen hlc2
    go_enter Tryz.func36, Tryz.ntmps36
    go_wp2_with fail
    go_loopw [5] (fun i wr => ∃ k : Nat, k ≤ l.length ∧ i = .int .i64 k ∧ SameTo l m k ∧ Below w.heap.size w wr) (fun i _ => l.length - (intOf i).toNat)
    case atStart => exact ⟨0, Nat.zero_le _, rfl, fun i _ _ h => by omega, Below.refl _ _⟩
    case round =>
      obtain ⟨k, hk, rfl, hr, hb⟩ := hrel
      have HR := Lib.hid hr
      clear hr
      by_cases hlt : k < l.length
      · obtain ⟨b, o, c', e, -, hc⟩ := HV.out.cells (by omega)
        cases e
        have hmk : k < m.length := by rw [← HL.out]; exact hlt
        obtain ⟨b2, o2, c2', e, -, hc2⟩ := HU.out.cells (by omega)
        rw [← HL.out] at e
        cases e
        clear hc hc2
        have hl0 : 0 < l.length := by omega
        have hm0 : 0 < m.length := by omega
        have HB := Lib.hid hb
        clear hb
        have HC := Lib.hid (fun (W : World) (h : Below wr.heap.size wr W) => show (_ ∧ _ ∧ _ ∧ _) ∧ (_ ∧ _ ∧ _ ∧ _) by
          have hbW := (HB.out.trans (h.mono HB.out.size)).mono hB
          obtain ⟨_, _, _, e1, -, h1⟩ := (HV.out.below hbW).cells hl0
          cases e1
          obtain ⟨_, _, _, e2, -, h2⟩ := (HU.out.below hbW).cells hm0
          rw [← HL.out] at e2
          cases e2
          exact ⟨h1 k hlt, h2 k hmk⟩)
        obtain ⟨x, hx⟩ : ∃ x, l[k] = x := ⟨_, rfl⟩
        obtain ⟨y, hy⟩ : ∃ y, m[k] = y := ⟨_, rfl⟩
        rw [hx, hy] at HC
        have HX := Lib.hid hx
        have HY := Lib.hid hy
        clear hx hy
        go_wp2_with fail
        cases hq : chgEq x y
        · have HQ := Lib.hid hq
          clear hq
          refine wp_env (fin := ?fnA) (by kernel_rfl) [17, 18, 19, 20, 21, 22, 23, 24, 25]
            [.slice (some ⟨b, o, none⟩) l.length c, .int .i64 k, .pointer (some ⟨b, o + k * 4, none⟩), chgA x, .slice (some ⟨b2, o2, none⟩) l.length c2, .int .i64 k, .pointer (some ⟨b2, o2 + k * 4, none⟩), chgA y, .bool true] (by kernel_rfl) ?finA ?stepsA ?nextA
          case finA =>
            simp only [putAll, Act.put, List.setIfInBounds_toArray, List.set_cons_succ, List.set_cons_zero]
            rfl
          case stepsA =>
            unfold chgA
            refine ⟨?_, ?_, ?_, ?_, ?_, ?_, ?_, ?_, ?_, trivial⟩
            all_goals
              refine .inr ⟨by kernel_rfl, fun w1_ hB_ => ?_⟩
              obtain ⟨⟨c0, c1, c2_, c3⟩, ⟨d0, d1, d2, d3⟩⟩ := HC.out w1_ hB_
              go_simp
              first
                | exact ⟨rfl, Below.refl _ _⟩
                | (have hq := HQ.out
                   unfold chgEq at hq
                   simp only [decide_eq_false_iff_not] at hq
                   repeat' split
                   all_goals first | exact ⟨rfl, Below.refl _ _⟩ | (exfalso; simp_all; done))
          case nextA =>
          intro w2 hb2
          have hb3 := HB.out.trans (hb2.mono HB.out.size)
          clear hb2
          go_wp2_with fail
          go_ret
          exact ⟨by rw [same_no (HX.out) (HY.out) HQ.out]; rfl, hb3⟩
        · have HQ := Lib.hid hq
          clear hq
          refine wp_env (fin := ?fnB) (by kernel_rfl) [17, 18, 19, 20, 21, 22, 23, 24, 25]
            [.slice (some ⟨b, o, none⟩) l.length c, .int .i64 k, .pointer (some ⟨b, o + k * 4, none⟩), chgA x, .slice (some ⟨b2, o2, none⟩) l.length c2, .int .i64 k, .pointer (some ⟨b2, o2 + k * 4, none⟩), chgA y, .bool false] (by kernel_rfl) ?finB ?stepsB ?nextB
          case finB =>
            simp only [putAll, Act.put, List.setIfInBounds_toArray, List.set_cons_succ, List.set_cons_zero]
            rfl
          case stepsB =>
            unfold chgA
            refine ⟨?_, ?_, ?_, ?_, ?_, ?_, ?_, ?_, ?_, trivial⟩
            all_goals
              refine .inr ⟨by kernel_rfl, fun w1_ hB_ => ?_⟩
              obtain ⟨⟨c0, c1, c2_, c3⟩, ⟨d0, d1, d2, d3⟩⟩ := HC.out w1_ hB_
              go_simp
              first
                | exact ⟨rfl, Below.refl _ _⟩
                | (have hq := HQ.out
                   unfold chgEq at hq
                   simp only [decide_eq_true_eq] at hq
                   repeat' split
                   all_goals first | exact ⟨rfl, Below.refl _ _⟩ | (exfalso; simp_all; done))
          case nextB =>
          intro w2 hb2
          have hb3 := HB.out.trans (hb2.mono HB.out.size)
          clear hb2
          go_wp2_with fail
          go_roundw
          case rel => exact ⟨k + 1, by omega, by go_num, SameTo.next HR.out HX.out HY.out HQ.out, hb3⟩
          case measure => first | (simp [intOf]; done) | (simp [intOf]; omega)
      · have HS := Lib.hid (same_yes HL.out (fun i h h' => HR.out i h h' (by omega)))
        go_wp2_with fail
        go_ret
        exact ⟨by rw [HS.out]; rfl, hb⟩
  · have HS := Lib.hid (same_len hlen)
    go_enter Tryz.func36, Tryz.ntmps36
    go_wp2_with fail
    go_ret
    exact ⟨by rw [HS.out]; rfl, Below.refl _ _⟩
end Go.Proofs.YtonmmgcibpjahaaGreatDoor
end

section
/- TAwake: Layer 14's law: the chapter's example. -/
namespace Go.Proofs.YtonmmgcibpjahaaGreatDoor
open Go Go.RowKit Go.Shelf
set_option maxRecDepth 100000

def cetE : EraN := ⟨3600, 0, 0, 0, 0, 0, 0, 0, 0⟩
def cetS : ByteArray := ⟨#[67, 69, 84]⟩
theorem cet_kind : kindR cetS.data.toList = (0, 0) := by kernel_rfl
theorem cet_err : errP cetE cetS.data.toList = 0 := by kernel_rfl
theorem cet_shows : Shows cetS (cetE.off + cetE.save) (dstB cetE.save) ⟨#[]⟩ cetS 0 := fun W hm => show_plain cetS _ _ _ W (by decide) hm cet_kind
def cetC : Chg := ⟨-2199023255552, 3600, false, cetS⟩
theorem chgs_one {W : World} {b B : Nat} {c : Chg} (h : Blk W b 90 (chgV c).toArray) (hB : b < B) : Chgs W B (.slice (some ⟨b, 0, none⟩) 1 1) [c] := by
  refine ⟨some ⟨b, 0, none⟩, 1, rfl, Nat.le_refl _, by decide, rfl, fun _ => ⟨b, 0, rfl, hB, fun j u hj => ?_⟩⟩
  rw [Nat.zero_add]
  exact h.cell j (by simpa [chgsV] using hj)
set_option maxHeartbeats 2000000 in
theorem awake_any (w : World) (hm : Tryz.MaxL w) : Calls Tryz.prog 32 #[] w fun e w' => e = .returned (.bool true) ∧ Below w.heap.size w w' := by
  have HM := Lib.hid hm
  clear hm
  go_enter Tryz.func32, Tryz.ntmps32
  have hb0 : Below w.heap.size w ((w.alloc (.cells (eraP cetE cetS).toArray 54)).alloc (.cells #[.string ⟨#[88]⟩, .slice (some ⟨w.heap.size, 0, none⟩) 1 1, .slice none 0 0] 27)) := ((Below.refl _ _).alloc (Nat.le_refl _) _).alloc (by simp) _
  have he0 : OneE ((w.alloc (.cells (eraP cetE cetS).toArray 54)).alloc (.cells #[.string ⟨#[88]⟩, .slice (some ⟨w.heap.size, 0, none⟩) 1 1, .slice none 0 0] 27)) w.heap.size cetE cetS := (Blk.new w 54 (eraP cetE cetS).toArray).alloc _
  have HC := Lib.hid (make_one ⟨#[88]⟩ w.heap.size (.func 17) #[.agg #[.string ⟨#[88]⟩, .slice (some ⟨w.heap.size, 0, none⟩) 1 1, .slice none 0 0]] #[] cetE cetS 2199023255552 _ (by decide) (HM.out.below hb0 (Nat.le_refl _)) he0 (by omega) (by omega) cet_err cetS cet_shows)
  unfold oneZ eraP cetE cetS at HC
  unfold eraP cetE cetS at hb0
  clear he0
  go_wp2_with fail
  refine HC.out.mono ?_
  rintro o w1 ⟨blk, h1, rfl, h3, h4⟩
  have HB := Lib.hid h3
  have HL := Lib.hid h4
  have h3l := h3.lt
  clear h3 h4 HC
  go_wp2_with fail
  have hR : Blk w1 blk 90 (chgV cetC).toArray := HB.out
  have hb1 : Below w1.heap.size w1 (w1.alloc (.cells (chgV cetC).toArray 90)) := (Below.refl _ _).alloc (Nat.le_refl _) _
  have hs : (w1.alloc (.cells (chgV cetC).toArray 90)).heap.size = w1.heap.size + 1 := World.size_alloc ..
  have HS := Lib.hid (same_any (w1.alloc (.cells (chgV cetC).toArray 90)) (w1.heap.size + 1) _ _ [cetC] [cetC] (chgs_one (hR.below hb1 hR.lt) (by omega)) (chgs_one (Blk.new w1 90 (chgV cetC).toArray) (by omega)) (by omega))
  rw [sameB_iff.2 rfl] at HS
  refine HS.out.mono ?_
  rintro o w2 ⟨rfl, hb2⟩
  have hbw := (hb0.trans (HL.out.mono hb0.size))
  have hb3 := hbw.trans ((hb1.trans (hb2.mono hb1.size)).mono hbw.size)
  clear hb2 hbw hb1 hb0 hs hR HS
  go_wp2_with fail
  go_ret
  exact ⟨rfl, hb3⟩
end Go.Proofs.YtonmmgcibpjahaaGreatDoor
end
