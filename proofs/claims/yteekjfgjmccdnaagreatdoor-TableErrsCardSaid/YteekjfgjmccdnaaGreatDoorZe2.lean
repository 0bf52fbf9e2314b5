/-
  A range over a function whose round begins by writing into memory of the loop's own (a variable that stands outside).
-/
import Derived.Deep.RegionHeld3
import Derived.Lib.CountLaws
import Derived.Deep.QuietTactic
import Derived.BigQuiet
import Derived.Shelf.RegionOpen
import Derived.WalkKit
import Derived.WalkSpells
import Derived.WalkLawsBesides
import Derived.Lib.Hide
import Derived.Lib.Walk
import Derived.Lib.MinMax
import Derived.IntWalk
import Derived.Test.YteekjfgjmccdnaaGreatDoorChecked
import Derived.OwnWalkIn
import Derived.TacticsInMore
import Derived.LoopNIn
import Derived.LoopIn
import Derived.BigRegionIn
import Derived.Test.YteekjfgjmccdnaaGreatDoorZe1
section
/- NEra: Eras in memory; what an era without rules that does not end shows, walked. -/
namespace Go.Proofs.YteekjfgjmccdnaaGreatDoor
open Go Go.RowKit Go.Shelf
set_option maxRecDepth 100000

/-- An era, but for its rules' name, its format, and when it ends. -/
structure EraN where
  off : Int
  save : Int
  year : Int
  month : Int
  dk : Int
  dw : Int
  dn : Int
  sec : Int
  ak : Int
/-- The cells of an era without rules that does not end. -/
def eraP (e : EraN) (f : ByteArray) : List Value := [.int .i64 e.off, .string ⟨#[]⟩, .int .i64 e.save, .string f, .bool false, .int .i64 e.year, .int .i64 e.month, .int .i64 e.dk, .int .i64 e.dw, .int .i64 e.dn, .int .i64 e.sec, .int .i64 e.ak]
def eraPA (e : EraN) (f : ByteArray) : Value := .agg (eraP e f).toArray
def withinB (n : Int) : Bool := decide (-90000 < n) && decide (n < 90000)
/-- What is wrong with it, as the last one. -/
def errP (e : EraN) (f : List UInt8) : Int := if (kindR f).2 = 0 then (if withinB e.off && withinB e.save then 0 else 10) else (kindR f).2
theorem kindR_cases (f : List UInt8) : (kindR f).2 = 0 ∨ kindR f = (0, 12) := by
  unfold kindR
  split
  · exact .inr rfl
  · exact .inl rfl
theorem errP_off {e : EraN} {f : List UInt8} (h : (kindR f).2 = 0) (g : withinB e.off = false) : errP e f = 10 := by unfold errP; rw [if_pos h, g]; rfl
theorem errP_save {e : EraN} {f : List UInt8} (h : (kindR f).2 = 0) (g : withinB e.save = false) : errP e f = 10 := by unfold errP; rw [if_pos h, g, Bool.and_false]; rfl
theorem errP_ok {e : EraN} {f : List UInt8} (h : (kindR f).2 = 0) (g1 : withinB e.off = true) (g2 : withinB e.save = true) : errP e f = 0 := by unfold errP; rw [if_pos h, g1, g2]; rfl
theorem errP_form {e : EraN} {f : List UInt8} (h : kindR f = (0, 12)) : errP e f = 12 := by unfold errP; rw [h]; rfl
theorem errP_cases (e : EraN) (f : List UInt8) : errP e f = 0 ∨ errP e f = 10 ∨ errP e f = 12 := by
  rcases kindR_cases f with h | h
  · cases g1 : withinB e.off
    · exact .inr (.inl (errP_off h g1))
    · cases g2 : withinB e.save
      · exact .inr (.inl (errP_save h g2))
      · exact .inl (errP_ok h g1 g2)
  · exact .inr (.inr (errP_form h))
theorem errP_zero {e : EraN} {f : List UInt8} (h : errP e f = 0) : (kindR f).2 = 0 ∧ withinB e.off = true ∧ withinB e.save = true := by
  rcases kindR_cases f with h0 | h0
  · cases g1 : withinB e.off
    · rw [errP_off h0 g1] at h; cases h
    · cases g2 : withinB e.save
      · rw [errP_save h0 g2] at h; cases h
      · exact ⟨h0, rfl, rfl⟩
  · rw [errP_form h0] at h; cases h
theorem within_any (n : Int) (w : World) : Calls Tryz.prog 107 #[.int .i64 n] w fun o w' => o = .returned (.bool (withinB n)) ∧ w = w' := by
  unfold withinB
  by_cases h : -90000 < n
  · have h2 : decide (-90000 < n) = true := by simpa using h
    rw [h2]
    clear h2
    go_enter Tryz.func107, Tryz.ntmps107
    go_wp2_with fail
    go_ret
    exact ⟨by simp, rfl⟩
  · have h2 : decide (-90000 < n) = false := by simpa using h
    rw [h2]
    go_enter Tryz.func107, Tryz.ntmps107
    go_wp2_with fail
    go_ret
    exact ⟨rfl, rfl⟩
theorem within_at (n : Int) (b : Bool) (h : withinB n = b) (w : World) : Calls Tryz.prog 107 #[.int .i64 n] w fun o w' => o = .returned (.bool b) ∧ w = w' := by
  subst h; exact within_any n w
set_option maxHeartbeats 1000000 in
theorem saves_plain (e : EraN) (f : ByteArray) (l : Value) (i : Int) (w : World) :
    Calls Tryz.prog 89 #[eraPA e f, l, .int .i64 i] w fun o w' => o = .returned (.tuple #[.int .i64 e.save, .string ⟨#[]⟩]) ∧ Below w.heap.size w w' := by
  unfold eraPA eraP
  go_enter Tryz.func89, Tryz.ntmps89
  go_wp2_with fail
  go_ret2
  exact ⟨rfl, (Below.refl _ _).alloc (Nat.le_refl _) _⟩
theorem of_plain (sv : Value) (e : EraN) (f : ByteArray) (w : World) :
    Calls Tryz.prog 45 #[sv, eraPA e f] w fun o w' => o = .returned (.slice none 0 0) ∧ Below w.heap.size w w' := by
  unfold eraPA eraP
  go_enter Tryz.func45, Tryz.ntmps45
  go_wp2_with fail
  go_ret
  exact ⟨rfl, (Below.refl _ _).alloc (Nat.le_refl _) _⟩
set_option maxHeartbeats 1000000 in
theorem check_plain (e : EraN) (f : ByteArray) (w : World) (hs : f.size < 4294967281) (hm : Tryz.MaxL w) :
    Calls Tryz.prog 66 #[eraPA e f, .bool true] w fun o w' => o = .returned (.int .i64 (errP e f.data.toList)) ∧ Below w.heap.size w w' := by
  unfold eraPA eraP
  have hb0 := (Below.refl w.heap.size w).alloc (Nat.le_refl _) (.cells #[.int .i64 e.off, .string ⟨#[]⟩, .int .i64 e.save, .string f, .bool false, .int .i64 e.year, .int .i64 e.month, .int .i64 e.dk, .int .i64 e.dw, .int .i64 e.dn, .int .i64 e.sec, .int .i64 e.ak] 42)
  have hblk := Blk.new w 42 #[.int .i64 e.off, .string ⟨#[]⟩, .int .i64 e.save, .string f, .bool false, .int .i64 e.year, .int .i64 e.month, .int .i64 e.dk, .int .i64 e.dw, .int .i64 e.dn, .int .i64 e.sec, .int .i64 e.ak]
  rcases kindR_cases f.data.toList with h | h
  · have HK := fun W => kind_at f hs _ _ (show kindR f.data.toList = ((kindR f.data.toList).1, 0) by rw [← h]) W
    have H0 := Lib.hid h
    clear h
    generalize (kindR f.data.toList).1 = k at HK
    go_enter Tryz.func66, Tryz.ntmps66
    go_wp2_with fail
    refine (HK _ (hm.below hb0 (Nat.le_refl _))).mono ?_
    rintro o w1 ⟨rfl, hb⟩
    have hbl := hblk.below hb hblk.lt
    have q0 := hbl.cell 0 (v := .int .i64 e.off) rfl
    have q1 := hbl.cell 1 (v := .string ⟨#[]⟩) rfl
    have q2 := hbl.cell 2 (v := .int .i64 e.save) rfl
    have q4 := hbl.cell 4 (v := .bool false) rfl
    have HB := Lib.hid (hb0.trans (hb.mono hb0.size))
    clear hb hb0 hblk hbl hm
    cases g1 : withinB e.off
    · have H1 := within_at e.off _ g1
      go_wp2_with fail
      refine (H1 _).mono ?_
      rintro o w2 ⟨rfl, rfl⟩
      go_wp2_with fail
      go_ret
      exact ⟨by rw [errP_off H0.out g1]; rfl, HB.out⟩
    · have H1 := within_at e.off _ g1
      go_wp2_with fail
      refine (H1 _).mono ?_
      rintro o w2 ⟨rfl, rfl⟩
      cases g2 : withinB e.save
      · have H2 := within_at e.save _ g2
        go_wp2_with fail
        refine (H2 _).mono ?_
        rintro o w2 ⟨rfl, rfl⟩
        go_wp2_with fail
        go_ret
        exact ⟨by rw [errP_save H0.out g2]; rfl, HB.out⟩
      · have H2 := within_at e.save _ g2
        go_wp2_with fail
        refine (H2 _).mono ?_
        rintro o w2 ⟨rfl, rfl⟩
        go_wp2_with fail
        go_ret
        exact ⟨by rw [errP_ok H0.out g1 g2]; rfl, HB.out⟩
  · have HK := fun W => kind_at f hs _ _ h W
    have H0 := Lib.hid h
    clear h
    go_enter Tryz.func66, Tryz.ntmps66
    go_wp2_with fail
    refine (HK _ (hm.below hb0 (Nat.le_refl _))).mono ?_
    rintro o w1 ⟨rfl, hb⟩
    have HB := Lib.hid (hb0.trans (hb.mono hb0.size))
    clear hb hb0 hblk hm
    go_wp2_with fail
    go_ret
    exact ⟨by rw [errP_form H0.out]; rfl, HB.out⟩
/-- A zone of one such era, in memory. -/
def oneZ (nm : ByteArray) (b : Nat) : Value := .agg #[.string nm, .slice (some ⟨b, 0, none⟩) 1 1]
abbrev OneE (W : World) (b : Nat) (e : EraN) (f : ByteArray) : Prop := Blk W b 42 (eraP e f).toArray
theorem OneE.cells {W : World} {b : Nat} {e : EraN} {f : ByteArray} (h : OneE W b e f) : W.cell? ⟨b, 0, none⟩ = some (.int .i64 e.off) ∧ W.cell? ⟨b, 1, none⟩ = some (.string ⟨#[]⟩) ∧ W.cell? ⟨b, 2, none⟩ = some (.int .i64 e.save) ∧ W.cell? ⟨b, 3, none⟩ = some (.string f) ∧
    W.cell? ⟨b, 4, none⟩ = some (.bool false) ∧ W.cell? ⟨b, 5, none⟩ = some (.int .i64 e.year) ∧ W.cell? ⟨b, 6, none⟩ = some (.int .i64 e.month) ∧ W.cell? ⟨b, 7, none⟩ = some (.int .i64 e.dk) ∧ W.cell? ⟨b, 8, none⟩ = some (.int .i64 e.dw) ∧ W.cell? ⟨b, 9, none⟩ = some (.int .i64 e.dn) ∧ W.cell? ⟨b, 10, none⟩ = some (.int .i64 e.sec) ∧ W.cell? ⟨b, 11, none⟩ = some (.int .i64 e.ak) :=
  ⟨Blk.cell h 0 rfl, Blk.cell h 1 rfl, Blk.cell h 2 rfl, Blk.cell h 3 rfl, Blk.cell h 4 rfl, Blk.cell h 5 rfl, Blk.cell h 6 rfl, Blk.cell h 7 rfl, Blk.cell h 8 rfl, Blk.cell h 9 rfl, Blk.cell h 10 rfl, Blk.cell h 11 rfl⟩
set_option maxHeartbeats 2000000 in
theorem checkZ_one (nm : ByteArray) (b : Nat) (g : Fn) (ts cs : Array Value) (e : EraN) (f : ByteArray) (w : World) (hs : f.size < 4294967281) (hm : Tryz.MaxL w) (he : OneE w b e f) :
    Calls Tryz.prog 25 #[oneZ nm b, .func g ts cs] w fun o w' => o = .returned (.int .i64 (errP e f.data.toList)) ∧ Below w.heap.size w w' := by
  unfold oneZ
  have heq := fun (w : World) => run_eql_func_nil w 90 g ts cs Tryz.underlying90
  have hb0 := Blk.new w 24 #[.string nm, .slice (some ⟨b, 0, none⟩) 1 1]
  go_enter Tryz.func25, Tryz.ntmps25
  go_wp2_with fail
  have hbl : b < w.heap.size := Blk.lt he
  obtain ⟨c0, c1, c2, c3, c4, c5, c6, c7, c8, c9, c10, c11⟩ := he.cells
  have hbz : b ≠ w.heap.size := Nat.ne_of_lt hbl
  refine wp_loop_rounds 2 ?_
  rw [rounds_succ]
  go_wp2_with fail
  rw [rounds_succ]
  go_wp2_with fail
  refine wp_loop_rounds 2 ?_
  rw [rounds_succ]
  go_wp2_with fail
  have hbw : Below w.heap.size w (((w.alloc (.cells #[.string nm, .slice (some ⟨b, 0, none⟩) 1 1] 24)).alloc (.cells (eraP e f).toArray 42)).alloc (.cells (eraP e f).toArray 42)) := (((Below.refl _ _).alloc (Nat.le_refl _) _).alloc (by simp) _).alloc (by simp; omega) _
  have HC := Lib.hid (check_plain e f _ hs (hm.below hbw (Nat.le_refl _)))
  unfold eraPA eraP at HC
  unfold eraP at hbw
  refine HC.out.mono ?_
  rintro o w1 ⟨rfl, hb⟩
  clear HC
  have hz := ((hb0.alloc (.cells (eraP e f).toArray 42)).alloc (.cells (eraP e f).toArray 42))
  unfold eraP at hz
  have hz1 := hz.below hb hz.lt
  have z1 := hz1.cell 1 (v := .slice (some ⟨b, 0, none⟩) 1 1) rfl
  have HB := Lib.hid (hbw.trans (hb.mono hbw.size))
  clear hbw hb hz hz1 c0 c1 c2 c3 c4 c5 c6 c7 c8 c9 c10 c11
  rcases errP_cases e f.data.toList with h | h
  · have H0 := Lib.hid h
    rw [h]
    clear h
    go_wp2_with fail
    rw [rounds_succ]
    go_wp2_with fail
    refine wp_loop_rounds 1 ?_
    rw [rounds_succ]
    go_wp2_with fail
    go_ret
    exact ⟨by rw [H0.out]; rfl, HB.out⟩
  · have he2 : (errP e f.data.toList != 0) = true := by rcases h with h | h <;> rw [h] <;> rfl
    clear h
    go_wp2_with fail
    go_ret
    exact ⟨rfl, HB.out⟩
end Go.Proofs.YteekjfgjmccdnaaGreatDoor
end

section
/- EnvS: A region that draws its order, with one operation that writes into memory that nobody else in it looks at: each operation's value is known ahead. -/
namespace Go.Proofs.YteekjfgjmccdnaaGreatDoor
open Go Go.RowKit

section
variable {P : Program} {n : Nat} {ops : Array Oper}
/-- What is asked of the region itself. st: the operation that writes. -/
def envSB (ops : Array Oper) (D : List Nat) (st : Nat) : Bool :=
  invB ops D && (List.range ops.size).all fun i => match ops[i]? with
    | some o => (match o.op with | .defer .. => false | .select .. => false | _ => true) && (if i = st then o.dst.isNone else o.dst == some (D.getD i 0)) &&
      (o.looksAt ops).all fun s => !D.contains s || (List.range i).any fun j => D.getD j 0 == s && o.after.any fun e => Region.binds .any e && e.on == j
    | none => true
/-- What one operation does. T: the blocks that the one that writes turns; p: what it leaves. -/
def envSRes (P : Program) (T : Nat → Prop) (p : World → Prop) (st : Bool) (v : Value) (w : World) : Result Next → Prop
  | .ok (.value u) w' => st = false ∧ u = v ∧ Below w.heap.size w w'
  | .ok .skip w' => st = true ∧ v = undef ∧ Fr T w w' ∧ p w'
  | .ok (.enter f args) w' => st = false ∧ w' = w ∧ Calls P f args w fun e w'' => e = .returned v ∧ Below w.heap.size w w''
  | _ => False
def EnvSStep (P : Program) (ops : Array Oper) (fin : Act) (w0 : World) (T : Nat → Prop) (p : World → Prop) (st : Bool) (o : Oper) (v : Value) : Prop :=
  (Region.wanted o (yielded ops fin.tmps) = false ∧ v = undef ∧ st = false) ∨ (Region.wanted o (yielded ops fin.tmps) = true ∧ ∀ w, (st = true → Below w0.heap.size w0 w) → Fr T w0 w → envSRes P T p st v w ((execOp fin.eval o).run P w))
def EnvSSteps (P : Program) (ops : Array Oper) (fin : Act) (w0 : World) (T : Nat → Prop) (p : World → Prop) : Nat → Nat → List Oper → List Value → Prop
  | st, k, o :: l, v :: V => EnvSStep P ops fin w0 T p (k == st) o v ∧ EnvSSteps P ops fin w0 T p st (k + 1) l V
  | _, _, [], [] => True
  | _, _, _, _ => False
theorem envSSteps_at {fin : Act} {w0 : World} {T : Nat → Prop} {p : World → Prop} {st : Nat} : ∀ {l : List Oper} {V : List Value} {k : Nat}, EnvSSteps P ops fin w0 T p st k l V → ∀ {j : Nat} {o : Oper}, l[j]? = some o → EnvSStep P ops fin w0 T p (k + j == st) o (V.getD j undef)
  | [], _, _, _, _, _, h => by simp at h
  | _ :: _, [], _, hs, _, _, _ => hs.elim
  | x :: l, v :: V, k, hs, 0, o, h => by
    simp only [List.getElem?_cons_zero, Option.some.injEq] at h
    subst h
    exact hs.1
  | x :: l, v :: V, k, hs, j + 1, o, h => by
    rw [List.getElem?_cons_succ] at h
    have := envSSteps_at hs.2 h
    rw [show k + 1 + j = k + (j + 1) by omega] at this
    simpa using this
theorem envSSteps_len {fin : Act} {w0 : World} {T : Nat → Prop} {p : World → Prop} {st : Nat} : ∀ {l : List Oper} {V : List Value} {k : Nat}, EnvSSteps P ops fin w0 T p st k l V → V.length = l.length
  | [], [], _, _ => rfl
  | [], _ :: _, _, h => h.elim
  | _ :: _, [], _, h => h.elim
  | _ :: l, _ :: V, _, h => by simp [envSSteps_len h.2]
/-- A REGION THAT DRAWS ITS ORDER, WITH ONE OPERATION THAT WRITES, WITHIN A FENCE. D: each operation's slot (the writing one's: one that the frame has not); V: what it yields; fin: the frame in the end. -/
theorem wpIn_envS {F : Fence} (hF : Wide F) {id : Nat} {l : List Oper} {Q : Exit → Act → World → Prop} {a : Act} {w : World} (hm : P.follows .mixedOrders = true) (D : List Nat) (V : List Value) (st : Nat) (T : Nat → Prop) (p : World → Prop) (hp : ∀ W W', p W → Below W.heap.size W W' → p W')
    (hb : envSB l.toArray D st = true) (hst : st < D.length) (hsz : a.tmps.size ≤ D.getD st 0) {fin : Act} (hfin : putAll a D V = fin)
    (hstep : EnvSSteps P l.toArray fin w T p st 0 l V) (hend : ∀ w', Fr T w w' → p w' → Q .normal fin w') : (Code.region id l.toArray true).wpIn F n P Q a w := by
  unfold envSB at hb
  rw [Bool.and_eq_true] at hb
  obtain ⟨hi, hb⟩ := hb
  have hi' := hi
  simp only [invB, Bool.and_eq_true, decide_eq_true_eq] at hi'
  obtain ⟨⟨-, hlen⟩, hnd⟩ := hi'
  have hV : V.length = D.length := by rw [envSSteps_len hstep, hlen]; simp
  have hfin : frameOf a D (valOf D V) = fin := by
    rw [← hfin]
    exact putAll_eq D V a _ hV fun i hi => by unfold valOf; rw [idxOf_getD hnd hi]
  refine wpIn_inv hm D (fun L x w' => Fr T w w' ∧ (∀ i, i < D.length → L i = true → x (D.getD i 0) = V.getD i undef) ∧ (L st = true → p w') ∧ (L st = false → Below w.heap.size w w')) hi (fun x => ⟨Fr.of_below ((Below.refl w.heap.size w).drew) (Nat.le_refl _), (fun i _ h => by cases h), (fun h => by cases h), (fun _ => (Below.refl _ _).drew)⟩) ?_ ?_
  · have main : ∀ (i : Nat) (o : Oper), l[i]? = some o → StepI F n P l.toArray a D (fun L x w' => Fr T w w' ∧ (∀ i, i < D.length → L i = true → x (D.getD i 0) = V.getD i undef) ∧ (L st = true → p w') ∧ (L st = false → Below w.heap.size w w')) i o := by
      intro k o hlk L x w1 R hI hsh hLk hr hR
      obtain ⟨hfr, hx, hpL, hbL⟩ := hI
      have hkl : k < l.length := (List.getElem?_eq_some_iff.1 hlk).1
      have ho : l.toArray[k]? = some o := by simpa using hlk
      have hkD : k < D.length := by rw [hlen]; simpa using hkl
      have hst1 := envSSteps_at hstep hlk
      rw [Nat.zero_add] at hst1
      have hb1 := List.all_eq_true.1 hb k (List.mem_range.2 (by simpa using hkl))
      rw [ho] at hb1
      simp only [Bool.and_eq_true] at hb1
      obtain ⟨⟨hop, hdst⟩, hlook⟩ := hb1
      have hndf : ∀ c, o.op ≠ .defer c := fun c hc => by rw [hc] at hop; cases hop
      have hnsl : ∀ cs b, o.op ≠ .select cs b := fun c b hc => by rw [hc] at hop; cases hop
      have hsame : ∀ s, s ∈ o.looksAt l.toArray → (frameOf a D x).tmps[s]? = fin.tmps[s]? := by
        intro s hs
        rw [← hfin, frameOf_tmps, frameOf_tmps]
        by_cases hD : s ∈ D
        · have := List.all_eq_true.1 hlook s hs
          rw [Bool.or_eq_true] at this
          rcases this with h | h
          · simp [hD] at h
          · obtain ⟨j, hj, hj2⟩ := List.any_eq_true.1 h
            rw [Bool.and_eq_true] at hj2
            obtain ⟨hjs, hje⟩ := hj2
            have hjs : D.getD j 0 = s := by simpa using hjs
            have hjk := List.mem_range.1 hj
            have h1 := hx j (by omega) (hr j hje)
            rw [hjs] at h1
            have h2 : x s = valOf D V s := by
              have e : D.idxOf s = j := by rw [← hjs]; exact idxOf_getD hnd (by omega)
              unfold valOf
              rw [e]
              exact h1
            rw [h2]
        · simp [hD]
      have hev : ∀ y ∈ o.op.operands, (frameOf a D x).eval y = fin.eval y := by
        intro y hy
        cases y with
        | tmp s =>
          have h1 := hsame s (List.mem_append_left _ (List.mem_filterMap.2 ⟨.tmp s, by simpa using hy, rfl⟩))
          show (frameOf a D x).tmps.getD s undef = fin.tmps.getD s undef
          simp only [Array.getD_eq_getD_getElem?, h1]
        | _ => rfl
      have hex := execOp_congr (ρ := (frameOf a D x).eval) (ρ' := fin.eval) o hnsl hev
      have hwa : Region.wanted o (yielded l.toArray (frameOf a D x).tmps) = Region.wanted o (yielded l.toArray fin.tmps) := by
        unfold Region.wanted
        cases hg : o.guard with
        | none => rfl
        | some g =>
          obtain ⟨g, b⟩ := g
          dsimp only
          unfold yielded
          cases hd : (l.toArray[g]?).bind (·.dst) with
          | none => rfl
          | some d =>
            have h1 := hsame d (List.mem_append_right _ (by rw [hg]; show d ∈ ((l.toArray[g]?).bind (·.dst)).toList; rw [hd]; simp))
            simp only [Option.bind_some, h1]
      have hmem : D.getD k 0 ∈ D := by rw [List.getD_eq_getElem?_getD, List.getElem?_eq_getElem hkD]; exact List.getElem_mem hkD
      have hnew : ∀ w', Fr T w w' → ((k == st) = true → p w') → (∀ W, p w1 → (k == st) = false → Below w1.heap.size w1 W → p W) → ((k == st) = false → Below w1.heap.size w1 w') →
          (Fr T w w' ∧ (∀ i, i < D.length → more L k i = true → upd x (D.getD k 0) (V.getD k undef) (D.getD i 0) = V.getD i undef) ∧ (more L k st = true → p w') ∧ (more L k st = false → Below w.heap.size w w')) := by
        intro w' h1 h2 h3 h4
        refine ⟨h1, fun i hiD hm => ?_, fun hm => ?_, fun hm => ?_⟩
        · by_cases hik : i = k
          · subst hik; rw [upd_same]
          · have hne : D.getD i 0 ≠ D.getD k 0 := by
              rw [List.getD_eq_getElem?_getD, List.getD_eq_getElem?_getD, List.getElem?_eq_getElem hiD, List.getElem?_eq_getElem hkD]
              intro e
              simp only [Option.getD_some] at e
              have hpw := List.pairwise_iff_getElem.1 hnd
              rcases Nat.lt_or_ge i k with h | h
              · exact hpw i k hiD hkD h e
              · exact hpw k i hkD hiD (by omega) e.symm
            rw [upd_other x _ hne]
            have : L i = true := by
              unfold more at hm
              rw [decide_eq_false hik] at hm
              simpa using hm
            exact hx i hiD this
        · cases hks : (k == st) with
          | true => exact h2 hks
          | false =>
            have hne : ¬ st = k := (fun e => by subst e; simp at hks)
            have : L st = true := by
              unfold more at hm
              rw [decide_eq_false hne] at hm
              simpa using hm
            exact h3 w' (hpL this) hks (h4 hks)
        · unfold more at hm
          rw [Bool.or_eq_false_iff] at hm
          have hne : ¬ st = k := of_decide_eq_false hm.1
          have hB := hbL hm.2
          exact hB.trans ((h4 (by simpa using (fun e => hne e.symm))).mono hB.size)
      unfold wpListIn
      rw [hwa]
      have hput : (k == st) = false → ∀ v, (frameOf a D x).put o.dst v = frameOf a D (upd x (D.getD k 0) v) := fun hks v => by
        rw [if_neg (fun e => by subst e; simp at hks)] at hdst
        have hdst : o.dst = some (D.getD k 0) := by simpa using hdst
        rw [hdst]
        exact frameOf_put D x a _ hmem v
      rcases hst1 with ⟨h1, h2, h3⟩ | ⟨h1, h2⟩
      · rw [if_neg (by rw [h1]; simp)]
        refine ⟨fun f _ => hF.fn f, ?_⟩
        rw [hput h3, ← h2]
        exact hR _ _ (hnew w1 hfr (fun h => by rw [h3] at h; cases h) (fun W hpw _ hbW => hp _ _ hpw hbW) (fun _ => Below.refl _ _))
      · rw [if_pos h1]
        refine ⟨fun f _ => hF.fn f, ?_⟩
        rw [Oper.semAt_plain F _ o hndf, hex]
        have hks0 : (k == st) = true → L st = false := fun h => by
          have e : k = st := by simpa using h
          rw [← e]
          exact hLk
        have h3 := h2 w1 (fun h => hbL (hks0 h)) hfr
        generalize (execOp fin.eval o).run P w1 = r at h3
        cases r with
        | halt hh w' => exact h3.elim
        | ok nx w' =>
          cases nx with
          | value u =>
            obtain ⟨hks, rfl, hbw⟩ := h3
            rw [Oper.uponIn_value, hput hks]
            exact hR _ _ (hnew w' (hfr.then (Fr.of_below hbw (Nat.le_refl _))) (fun h => by rw [hks] at h; cases h) (fun W hpw _ hbW => hp _ _ hpw hbW) (fun _ => hbw))
          | skip =>
            obtain ⟨hks, hvu, hfw, hpw'⟩ := h3
            have hkst : k = st := by simpa using hks
            subst hkst
            rw [if_pos rfl] at hdst
            have hdn : o.dst = none := by simpa using hdst
            rw [Oper.uponIn_skip, hdn]
            have e : (frameOf a D x).put none undef = frameOf a D (upd x (D.getD k 0) (V.getD k undef)) := by
              show frameOf a D x = _
              have h1 : (frameOf a D x).tmps = (frameOf a D (upd x (D.getD k 0) (V.getD k undef))).tmps := by
                apply Array.ext_getElem?
                intro s
                rw [frameOf_tmps, frameOf_tmps]
                by_cases hs : s < a.tmps.size
                · rw [upd_other x _ (show s ≠ D.getD k 0 by omega)]
                · simp [hs]
              have h2 : (frameOf a D x).defers = (frameOf a D (upd x (D.getD k 0) (V.getD k undef))).defers := by rw [frameOf_defers, frameOf_defers]
              generalize frameOf a D x = p1 at h1 h2
              generalize frameOf a D (upd x (D.getD k 0) (V.getD k undef)) = q1 at h1 h2
              cases p1
              cases q1
              simp only at h1 h2
              subst h1 h2
              rfl
            rw [e]
            exact hR _ _ (hnew w' (hfr.then hfw) (fun _ => hpw') (fun W _ h => by simp at h) (fun h => by simp at h))
          | enter f args =>
            obtain ⟨hks, rfl, hc⟩ := h3
            rw [Oper.uponIn_enter]
            refine ⟨(fun h => by rw [hF.depth] at h; cases h), (hF.calls hc).mono ?_⟩
            rintro e w'' ⟨rfl, hbw⟩
            show wpListIn F n P l.toArray _ [] ((frameOf a D x).put o.dst (V.getD k undef)) w''
            rw [hput hks]
            exact hR _ _ (hnew w'' (hfr.then (Fr.of_below hbw (Nat.le_refl _))) (fun h => by rw [hks] at h; cases h) (fun W hpw _ hbW => hp _ _ hpw hbW) (fun _ => hbw))
          | _ => exact h3.elim
    have all : ∀ (m : List Oper) (k : Nat), (∀ j, m[j]? = l[k + j]?) → StepsI F n P l.toArray a D (fun L x w' => Fr T w w' ∧ (∀ i, i < D.length → L i = true → x (D.getD i 0) = V.getD i undef) ∧ (L st = true → p w') ∧ (L st = false → Below w.heap.size w w')) k m := by
      intro m
      induction m with
      | nil => intro k _; trivial
      | cons o m ih =>
        intro k hk
        exact ⟨main k o (by simpa using (hk 0).symm), ih (k + 1) fun j => by have := hk (j + 1); simpa [Nat.add_assoc, Nat.add_comm 1 j] using this⟩
    exact all l 0 fun j => by simp
  · rintro x w' L hL ⟨h1, h2, h3, -⟩
    have e : frameOf a D x = fin := by
      rw [← hfin]
      refine frameOf_congr D _ _ a fun s hs => ?_
      obtain ⟨j, hj, rfl⟩ := List.getElem_of_mem hs
      have h4 := h2 j hj (hL j (by omega))
      rw [List.getD_eq_getElem?_getD, List.getElem?_eq_getElem hj] at h4
      have h4 : x D[j] = V.getD j undef := h4
      unfold valOf
      rw [List.Nodup.idxOf_getElem hnd j hj]
      exact h4
    rw [e]
    exact hend w' h1 (h3 (hL st (by omega)))
/-- The same, in no fence. -/
theorem wp_envS {id : Nat} {l : List Oper} {Q : Exit → Act → World → Prop} {a : Act} {w : World} (hm : P.follows .mixedOrders = true) (D : List Nat) (V : List Value) (st : Nat) (T : Nat → Prop) (p : World → Prop) (hp : ∀ W W', p W → Below W.heap.size W W' → p W')
    (hb : envSB l.toArray D st = true) (hst : st < D.length) (hsz : a.tmps.size ≤ D.getD st 0) {fin : Act} (hfin : putAll a D V = fin)
    (hstep : EnvSSteps P l.toArray fin w T p st 0 l V) (hend : ∀ w', Fr T w w' → p w' → Q .normal fin w') : (Code.region id l.toArray true).wp P Q a w :=
  (wpIn_wide (n := 8)).1 (wpIn_envS wide0 hm D V st T p hp hb hst hsz hfin hstep hend)
end
end Go.Proofs.YteekjfgjmccdnaaGreatDoor
end

section
/- NAt: Layer 13's At at a zone of one era without rules, walked. -/
namespace Go.Proofs.YteekjfgjmccdnaaGreatDoor
open Go Go.RowKit Go.Shelf
set_option maxRecDepth 100000

set_option maxHeartbeats 1000000 in
theorem ends_one (nm : ByteArray) (b : Nat) (g : Fn) (ts cs : Array Value) (e : EraN) (f : ByteArray) (w : World) (hs : f.size < 4294967281) (hm : Tryz.MaxL w) (he : OneE w b e f) :
    Calls Tryz.prog 14 #[oneZ nm b, .func g ts cs] w fun o w' => o = .returned (.tuple #[.slice none 0 0, .int .i64 (errP e f.data.toList)]) ∧ Below w.heap.size w w' := by
  have hb0 := (Below.refl w.heap.size w).alloc (Nat.le_refl _) (.cells #[.string nm, .slice (some ⟨b, 0, none⟩) 1 1] 24)
  have hz0 := Blk.new w 24 #[.string nm, .slice (some ⟨b, 0, none⟩) 1 1]
  have HC := Lib.hid (checkZ_one nm b g ts cs e f _ hs (hm.below hb0 (Nat.le_refl _)) (Blk.below he hb0 (Blk.lt he)))
  unfold oneZ at HC ⊢
  go_enter Tryz.func14, Tryz.ntmps14
  go_wp2_with fail
  refine HC.out.mono ?_
  rintro o w1 ⟨rfl, hb⟩
  have hz1 := hz0.below hb hz0.lt
  have z1 := hz1.cell 1 (v := .slice (some ⟨b, 0, none⟩) 1 1) rfl
  have HB := Lib.hid (hb0.trans (hb.mono hb0.size))
  clear HC hb hb0 hz0 hz1
  rcases errP_cases e f.data.toList with h | h
  · have H0 := Lib.hid h
    rw [h]
    clear h
    go_wp2_with fail
    refine wp_loop_rounds 1 ?_
    rw [rounds_succ]
    go_wp2_with fail
    go_ret2
    exact ⟨by rw [H0.out]; rfl, HB.out⟩
  · have he2 : (errP e f.data.toList != 0) = true := by rcases h with h | h <;> rw [h] <;> rfl
    clear h
    go_wp2_with fail
    go_ret2
    exact ⟨rfl, HB.out⟩
theorem era_none (i : Int) (w : World) : Calls Tryz.prog 50 #[.slice none 0 0, .int .i64 i] w fun o w' => o = .returned (.int .i64 0) ∧ w = w' := by
  go_enter Tryz.func50, Tryz.ntmps50
  go_wp2_with fail
  refine wp_loop_rounds 1 ?_
  rw [rounds_succ]
  go_wp2_with fail
  go_ret
  exact ⟨rfl, rfl⟩
/-- What Show answers, wherever. -/
def Shows (f : ByteArray) (off : Int) (dst : Bool) (letter s : ByteArray) (err : Int) : Prop := ∀ W, Tryz.MaxL W → Calls Tryz.prog 73 #[.string f, .int .i64 off, .bool dst, .string letter] W fun o w' => o = .returned (.tuple #[.string s, .int .i64 err]) ∧ Below W.heap.size W w'
def dstB (n : Int) : Bool := n != 0
/-- What Within answers. -/
def withinR (off : Int) (dst : Bool) (s : ByteArray) (err : Int) : Value := if err = 0 then .tuple #[.agg #[.int .i64 off, .bool dst, .string s], .int .i64 0] else .tuple #[.agg #[.int .i64 0, .bool false, .string ⟨#[]⟩], .int .i64 err]
theorem withinB_iff {n : Int} : withinB n = true ↔ -90000 < n ∧ n < 90000 := by simp [withinB]
set_option maxHeartbeats 1000000 in
theorem within_plain (e : EraN) (f : ByteArray) (l : Value) (i : Int) (w : World) (hm : Tryz.MaxL w) (h1 : withinB e.off = true) (h2 : withinB e.save = true) (s : ByteArray) (err : Int) (hsh : Shows f (e.off + e.save) (dstB e.save) ⟨#[]⟩ s err) :
    Calls Tryz.prog 51 #[eraPA e f, l, .int .i64 i] w fun o w' => o = .returned (withinR (e.off + e.save) (dstB e.save) s err) ∧ Below w.heap.size w w' := by
  obtain ⟨b1, b2⟩ := withinB_iff.1 h1
  obtain ⟨b3, b4⟩ := withinB_iff.1 h2
  clear h1 h2
  have HS := fun W => saves_plain e f l i W
  have HSH := Lib.hid hsh
  clear hsh
  have hb0 : Below w.heap.size w ((w.alloc (.cells (eraP e f).toArray 42)).alloc (.cells #[.int .i64 0, .bool false, .string ⟨#[]⟩] 48)) := ((Below.refl _ _).alloc (Nat.le_refl _) _).alloc (by simp) _
  have he0 := (Blk.new w 42 (eraP e f).toArray).alloc (.cells #[.int .i64 0, .bool false, .string ⟨#[]⟩] 48)
  have hr0 := Blk.new (w.alloc (.cells (eraP e f).toArray 42)) 48 #[.int .i64 0, .bool false, .string ⟨#[]⟩]
  rw [World.size_alloc] at hr0
  unfold eraPA at HS ⊢
  unfold eraP at HS hb0 he0 hr0 ⊢
  have hm0 := hm.below hb0 (Nat.le_refl _)
  go_enter Tryz.func51, Tryz.ntmps51
  go_wp2_with fail
  refine (HS _).mono ?_
  rintro o w1 ⟨rfl, hb⟩
  have hm1 := hm0.below hb (Nat.le_refl _)
  have he1 := he0.below hb he0.lt
  have hr1 := hr0.below hb hr0.lt
  have hb1 := hb0.trans (hb.mono hb0.size)
  have q0 := he1.cell 0 (v := .int .i64 e.off) rfl
  have q3 := he1.cell 3 (v := .string f) rfl
  clear hb hb0 he0 hr0 hm0 HS hm
  unfold dstB at HSH
  have HM := Lib.hid hm1
  have HE := Lib.hid he1
  have HR := Lib.hid hr1
  have HB := Lib.hid hb1
  clear hm1 he1 hr1 hb1
  go_wp2_with fail
  refine (HSH.out _ HM.out).mono ?_
  rintro o w2 ⟨rfl, hb⟩
  have he2 := HE.out.below hb HE.out.lt
  have hr2 := HR.out.below hb HR.out.lt
  have HB2 := Lib.hid (HB.out.trans (hb.mono HB.out.size))
  have q0' := he2.cell 0 (v := .int .i64 e.off) rfl
  have r0 := hr2.cell 0 (v := .int .i64 0) rfl
  have r1 := hr2.cell 1 (v := .bool false) rfl
  have r2 := hr2.cell 2 (v := .string ⟨#[]⟩) rfl
  have rf0 := hr2.frozen 0
  have rf1 := hr2.frozen 1
  have rf2 := hr2.frozen 2
  have HR2 := Lib.hid hr2
  clear hb he2 hr2 q0 q3 HM HE HR HB HSH
  by_cases h0 : err = 0
  · subst h0
    go_wp2_with fail
    refine bodyPost_ret (v := .tuple #[.agg #[.int .i64 (e.off + e.save), .bool (e.save != 0), .string s], .int .i64 0]) ?_ rfl ⟨rfl, ((HB2.out.setCell (Nat.le_add_right _ _) _).setCell (Nat.le_add_right _ _) _).setCell (Nat.le_add_right _ _) _⟩
    have HW := ((HR2.out.set 0 (.int .i64 (e.off + e.save))).set 1 (.bool (e.save != 0))).set 2 (.string s)
    have c0 := HW.cell 0 (v := .int .i64 (e.off + e.save)) rfl
    have c1 := HW.cell 1 (v := .bool (e.save != 0)) rfl
    have c2 := HW.cell 2 (v := .string s) rfl
    simp [results, Tryz.f51, go_sem, c0, c1, c2]
  · have h1 : (err != 0) = true := by simpa using h0
    have h2 := Lib.hid h0
    clear h0
    go_wp2_with fail
    refine bodyPost_ret (v := .tuple #[.agg #[.int .i64 (0), .bool (false), .string ⟨#[]⟩], .int .i64 err]) ?_ rfl ⟨by unfold withinR; rw [if_neg h2.out], ((HB2.out.setCell (Nat.le_add_right _ _) _).setCell (Nat.le_add_right _ _) _).setCell (Nat.le_add_right _ _) _⟩
    have HW := ((HR2.out.set 0 (.int .i64 (0))).set 1 (.bool (false))).set 2 (.string ⟨#[]⟩)
    have c0 := HW.cell 0 (v := .int .i64 (0)) rfl
    have c1 := HW.cell 1 (v := .bool (false)) rfl
    have c2 := HW.cell 2 (v := .string ⟨#[]⟩) rfl
    simp [results, Tryz.f51, go_sem, c0, c1, c2]

set_option maxHeartbeats 1000000 in
theorem at_one (nm : ByteArray) (b : Nat) (g : Fn) (ts cs : Array Value) (e : EraN) (f : ByteArray) (i : Int) (w : World) (hs : f.size < 4294967281) (hm : Tryz.MaxL w) (he : OneE w b e f) (h1 : -2199023255552 ≤ i) (h2 : i ≤ 2199023255552) (h0 : errP e f.data.toList = 0) (s : ByteArray) (err : Int) (hsh : Shows f (e.off + e.save) (dstB e.save) ⟨#[]⟩ s err) :
    Calls Tryz.prog 19 #[oneZ nm b, .func g ts cs, .int .i64 i] w fun o w' => o = .returned (withinR (e.off + e.save) (dstB e.save) s err) ∧ Below w.heap.size w w' := by
  obtain ⟨-, g1, g2⟩ := errP_zero h0
  have hb0 : Below w.heap.size w ((w.alloc (.cells #[.string nm, .slice (some ⟨b, 0, none⟩) 1 1] 24)).alloc (.cells #[.int .i64 0, .bool false, .string ⟨#[]⟩] 48)) := ((Below.refl _ _).alloc (Nat.le_refl _) _).alloc (by simp) _
  have hz0 := (Blk.new w 24 #[.string nm, .slice (some ⟨b, 0, none⟩) 1 1]).alloc (.cells #[.int .i64 0, .bool false, .string ⟨#[]⟩] 48)
  have hr0 := Blk.new (w.alloc (.cells #[.string nm, .slice (some ⟨b, 0, none⟩) 1 1] 24)) 48 #[.int .i64 0, .bool false, .string ⟨#[]⟩]
  rw [World.size_alloc] at hr0
  have hm0s := hm
  have hm0 := hm.below hb0 (Nat.le_refl _)
  have he0 : OneE _ b e f := Blk.below he hb0 (Blk.lt he)
  have HC := Lib.hid (ends_one nm b g ts cs e f _ hs hm0 he0)
  rw [h0] at HC
  have hbl := Blk.lt he
  unfold oneZ at HC ⊢
  clear h0
  go_enter Tryz.func19, Tryz.ntmps19
  go_wp2_with fail
  refine HC.out.mono ?_
  rintro o w1 ⟨rfl, hb⟩
  have hm1 := hm0.below hb (Nat.le_refl _)
  have hz1 := hz0.below hb hz0.lt
  have hr1 := hr0.below hb hr0.lt
  have hb1 := hb0.trans (hb.mono hb0.size)
  have he1 : OneE _ b e f := Blk.below he0 hb (Blk.lt he0)
  have z1 := hz1.cell 1 (v := .slice (some ⟨b, 0, none⟩) 1 1) rfl
  obtain ⟨c0, c1, c2, c3, c4, c5, c6, c7, c8, c9, c10, c11⟩ := he1.cells
  clear hb hb0 he0 hr0 hm0 hm hz0 hz1 he HC
  have HM := Lib.hid hm1
  have HR := Lib.hid hr1
  have HB := Lib.hid hb1
  clear hm1 he1 hr1 hb1
  go_wp2_with fail
  have HM0 := Lib.hid hm0s
  have hbl1 : b < w1.heap.size := Nat.lt_of_lt_of_le hbl HB.out.size
  have hzl1 : w.heap.size < w1.heap.size := by have := HR.out.lt; omega
  have hzl2 : w.heap.size + 1 < w1.heap.size := HR.out.lt
  go_region_held3 (fun w' => w'.cell? ⟨w.heap.size, 1, none⟩ = some (.slice (some ⟨b, 0, none⟩) 1 1) ∧ w'.cell? ⟨b, 0, none⟩ = some (.int .i64 e.off) ∧ w'.cell? ⟨b, 1, none⟩ = some (.string ⟨#[]⟩) ∧ w'.cell? ⟨b, 2, none⟩ = some (.int .i64 e.save) ∧ w'.cell? ⟨b, 3, none⟩ = some (.string f) ∧ w'.cell? ⟨b, 4, none⟩ = some (.bool false) ∧ w'.cell? ⟨b, 5, none⟩ = some (.int .i64 e.year) ∧ w'.cell? ⟨b, 6, none⟩ = some (.int .i64 e.month) ∧ w'.cell? ⟨b, 7, none⟩ = some (.int .i64 e.dk) ∧ w'.cell? ⟨b, 8, none⟩ = some (.int .i64 e.dw) ∧ w'.cell? ⟨b, 9, none⟩ = some (.int .i64 e.dn) ∧ w'.cell? ⟨b, 10, none⟩ = some (.int .i64 e.sec) ∧ w'.cell? ⟨b, 11, none⟩ = some (.int .i64 e.ak)) (first | exact ⟨z1, c0, c1, c2, c3, c4, c5, c6, c7, c8, c9, c10, c11⟩ | go_keep)
    (first | (go_at_call 50; refine (era_none _ _).mono ?_; rintro o w' ⟨rfl, rfl⟩))
  all_goals
    rename_i K0 hK0 hh
    clear hh
    refine hK0 _ _ ?_
    clear hK0
    go_wp2_with fail
    have hb6 : Below w.heap.size w (w1.alloc (.cells #[.int .i64 e.off, .string ⟨#[]⟩, .int .i64 e.save, .string f, .bool false, .int .i64 e.year, .int .i64 e.month, .int .i64 e.dk, .int .i64 e.dw, .int .i64 e.dn, .int .i64 e.sec, .int .i64 e.ak] 42)).drew := (HB.out.alloc HB.out.size _).drew
    have he6 : OneE (w1.alloc (.cells #[.int .i64 e.off, .string ⟨#[]⟩, .int .i64 e.save, .string f, .bool false, .int .i64 e.year, .int .i64 e.month, .int .i64 e.dk, .int .i64 e.dw, .int .i64 e.dn, .int .i64 e.sec, .int .i64 e.ak] 42)).drew w1.heap.size e f := Blk.new w1 42 (eraP e f).toArray
    have hr6 : Blk (w1.alloc (.cells #[.int .i64 e.off, .string ⟨#[]⟩, .int .i64 e.save, .string f, .bool false, .int .i64 e.year, .int .i64 e.month, .int .i64 e.dk, .int .i64 e.dw, .int .i64 e.dn, .int .i64 e.sec, .int .i64 e.ak] 42)).drew (w.heap.size + 1) 48 #[.int .i64 0, .bool false, .string ⟨#[]⟩] := HR.out.alloc _
    obtain ⟨W6, hW6⟩ : ∃ W, (w1.alloc (.cells #[.int .i64 e.off, .string ⟨#[]⟩, .int .i64 e.save, .string f, .bool false, .int .i64 e.year, .int .i64 e.month, .int .i64 e.dk, .int .i64 e.dw, .int .i64 e.dn, .int .i64 e.sec, .int .i64 e.ak] 42)).drew = W := ⟨_, rfl⟩
    rw [hW6] at hb6 he6 hr6 ⊢
    clear hW6 c0 c1 c2 c3 c4 c5 c6 c7 c8 c9 c10 c11 z1 HM HR HB
    have HB6 := Lib.hid hb6
    have HE6 := Lib.hid he6
    have HR6 := Lib.hid hr6
    clear hb6 he6 hr6
    by_cases h0 : err = 0
    · have OF := fun W => of_plain (.func g ts cs) e f W
      have WI := fun W hm => within_plain e f (.slice none 0 0) i W hm g1 g2 s err hsh
      unfold withinR at WI
      simp only [if_pos h0] at WI
      unfold eraPA eraP dstB at WI
      unfold eraPA eraP at OF
      refine wp_envS (fin := ?fnA) (by kernel_rfl) [35, 36, 37, 38, 39, 40, 41, 42, 99, 7]
        [.agg #[.int .i64 e.off, .string ⟨#[]⟩, .int .i64 e.save, .string f, .bool false, .int .i64 e.year, .int .i64 e.month, .int .i64 e.dk, .int .i64 e.dw, .int .i64 e.dn, .int .i64 e.sec, .int .i64 e.ak], .func g ts cs, .agg #[.int .i64 e.off, .string ⟨#[]⟩, .int .i64 e.save, .string f, .bool false, .int .i64 e.year, .int .i64 e.month, .int .i64 e.dk, .int .i64 e.dw, .int .i64 e.dn, .int .i64 e.sec, .int .i64 e.ak], .slice none 0 0, .int .i64 i, .tuple #[.agg #[.int .i64 (e.off + e.save), .bool (e.save != 0), .string s], .int .i64 0], .agg #[.int .i64 (e.off + e.save), .bool (e.save != 0), .string s], .int .i64 0, undef, .int .i64 0] 8 (fun k => k = w.heap.size + 1) (fun W => Blk W (w.heap.size + 1) 48 #[.int .i64 (e.off + e.save), .bool (e.save != 0), .string s]) (fun W W' h hb => Blk.below h hb (Blk.lt h)) (by kernel_rfl) (by decide) (by simp) ?finA ?stepsA ?nextA
      case finA =>
        simp only [putAll, Act.put, List.setIfInBounds_toArray, List.set_cons_succ, List.set_cons_zero, List.set_nil]
        try rfl
      case stepsA =>
        refine ⟨?_, ?_, ?_, ?_, ?_, ?_, ?_, ?_, ?_, ?_, trivial⟩
        all_goals
          refine .inr ⟨by kernel_rfl, fun w1_ hB_ hF_ => ?_⟩
          have he7 : OneE w1_ w1.heap.size e f := Blk.fr HE6.out hF_ (by omega)
          have hb7 := HB6.out.trans (hF_.below HB6.out.size (fun k hk => by omega))
          have hm7 := HM0.out.below hb7 (Nat.le_refl _)
          obtain ⟨c0, c1, c2, c3, c4, c5, c6, c7, c8, c9, c10, c11⟩ := he7.cells
          first
            | (go_simp; first | exact ⟨rfl, rfl, Below.refl _ _⟩ | exact ⟨rfl, rfl, OF _⟩ | exact ⟨rfl, rfl, WI _ hm7⟩)
            | (have hr7 := HR6.out.below (hB_ rfl) HR6.out.lt; have f0 := hr7.frozen 0; have f1 := hr7.frozen 1; have f2 := hr7.frozen 2; have r0 := hr7.cell 0 (v := .int .i64 0) rfl; have r1 := hr7.cell 1 (v := .bool false) rfl; have r2 := hr7.cell 2 (v := .string ⟨#[]⟩) rfl; go_simp; exact ⟨rfl, rfl, fr_set3 (T := fun k => k = w.heap.size + 1) _ rfl _ _ _, ((hr7.set 0 _).set 1 _).set 2 _⟩)
      case nextA =>
        intro W8 hF8 hR8
        have hb8 := HB6.out.trans (hF8.below HB6.out.size (fun k hk => by omega))
        go_wp2_with fail
        refine bodyPost_ret (v := .tuple #[.agg #[.int .i64 (e.off + e.save), .bool (e.save != 0), .string s], .int .i64 0]) ?_ rfl ⟨by rw [h0]; rfl, hb8⟩
        have c0 := hR8.cell 0 (v := .int .i64 (e.off + e.save)) rfl
        have c1 := hR8.cell 1 (v := .bool (e.save != 0)) rfl
        have c2 := hR8.cell 2 (v := .string s) rfl
        simp [results, Tryz.f19, go_sem, c0, c1, c2]
    · have OF := fun W => of_plain (.func g ts cs) e f W
      have WI := fun W hm => within_plain e f (.slice none 0 0) i W hm g1 g2 s err hsh
      unfold withinR at WI
      simp only [if_neg h0] at WI
      unfold eraPA eraP at WI
      unfold eraPA eraP at OF
      refine wp_envS (fin := ?fnB) (by kernel_rfl) [35, 36, 37, 38, 39, 40, 41, 42, 99, 7]
        [.agg #[.int .i64 e.off, .string ⟨#[]⟩, .int .i64 e.save, .string f, .bool false, .int .i64 e.year, .int .i64 e.month, .int .i64 e.dk, .int .i64 e.dw, .int .i64 e.dn, .int .i64 e.sec, .int .i64 e.ak], .func g ts cs, .agg #[.int .i64 e.off, .string ⟨#[]⟩, .int .i64 e.save, .string f, .bool false, .int .i64 e.year, .int .i64 e.month, .int .i64 e.dk, .int .i64 e.dw, .int .i64 e.dn, .int .i64 e.sec, .int .i64 e.ak], .slice none 0 0, .int .i64 i, .tuple #[.agg #[.int .i64 0, .bool false, .string ⟨#[]⟩], .int .i64 err], .agg #[.int .i64 0, .bool false, .string ⟨#[]⟩], .int .i64 err, undef, .int .i64 err] 8 (fun k => k = w.heap.size + 1) (fun W => Blk W (w.heap.size + 1) 48 #[.int .i64 0, .bool false, .string ⟨#[]⟩]) (fun W W' h hb => Blk.below h hb (Blk.lt h)) (by kernel_rfl) (by decide) (by simp) ?finB ?stepsB ?nextB
      case finB =>
        simp only [putAll, Act.put, List.setIfInBounds_toArray, List.set_cons_succ, List.set_cons_zero, List.set_nil]
        try rfl
      case stepsB =>
        refine ⟨?_, ?_, ?_, ?_, ?_, ?_, ?_, ?_, ?_, ?_, trivial⟩
        all_goals
          refine .inr ⟨by kernel_rfl, fun w1_ hB_ hF_ => ?_⟩
          have he7 : OneE w1_ w1.heap.size e f := Blk.fr HE6.out hF_ (by omega)
          have hb7 := HB6.out.trans (hF_.below HB6.out.size (fun k hk => by omega))
          have hm7 := HM0.out.below hb7 (Nat.le_refl _)
          obtain ⟨c0, c1, c2, c3, c4, c5, c6, c7, c8, c9, c10, c11⟩ := he7.cells
          first
            | (go_simp; first | exact ⟨rfl, rfl, Below.refl _ _⟩ | exact ⟨rfl, rfl, OF _⟩ | exact ⟨rfl, rfl, WI _ hm7⟩)
            | (have hr7 := HR6.out.below (hB_ rfl) HR6.out.lt; have f0 := hr7.frozen 0; have f1 := hr7.frozen 1; have f2 := hr7.frozen 2; have r0 := hr7.cell 0 (v := .int .i64 0) rfl; have r1 := hr7.cell 1 (v := .bool false) rfl; have r2 := hr7.cell 2 (v := .string ⟨#[]⟩) rfl; go_simp; exact ⟨rfl, rfl, fr_set3 (T := fun k => k = w.heap.size + 1) _ rfl _ _ _, ((hr7.set 0 _).set 1 _).set 2 _⟩)
      case nextB =>
        intro W8 hF8 hR8
        have hb8 := HB6.out.trans (hF8.below HB6.out.size (fun k hk => by omega))
        go_wp2_with fail
        refine bodyPost_ret (v := .tuple #[.agg #[.int .i64 (0), .bool (false), .string ⟨#[]⟩], .int .i64 err]) ?_ rfl ⟨by unfold withinR; rw [if_neg h0], hb8⟩
        have c0 := hR8.cell 0 (v := .int .i64 (0)) rfl
        have c1 := hR8.cell 1 (v := .bool (false)) rfl
        have c2 := hR8.cell 2 (v := .string ⟨#[]⟩) rfl
        simp [results, Tryz.f19, go_sem, c0, c1, c2]
end Go.Proofs.YteekjfgjmccdnaaGreatDoor
end

section
/- ARefK: Layer 12's formats: the reference's way, byte by byte, is the program's. -/
namespace Go.Proofs.YteekjfgjmccdnaaGreatDoor
open Go Go.RowKit Go.Shelf

def letB (x : UInt8) : Bool := abcB.contains x
/-- The reference's scan, from the i-th byte on. -/
def scanR (n : Nat) : Nat → List UInt8 → Int × Nat → Option (Int × Nat)
  | _, [], st => some st
  | i, x :: t, st => if letB x then scanR n (i + 1) t st
    else if st.1 ≠ 0 then none
    else if x = 47 ∧ 0 < i ∧ i + 1 < n then scanR n (i + 1) t (3, i)
    else if x = 37 ∧ t.head? = some 115 then scanR n (i + 1) t (1, i)
    else if x = 37 ∧ t.head? = some 122 then scanR n (i + 1) t (2, i)
    else none
def refK (f : List UInt8) : Int × Nat := if f = [] ∨ 64 < f.length then (-1, 0) else match scanR f.length 0 f (0, 0) with | none => (-1, 0) | some st => st
/-- How many bytes are no letters. -/
def odd (f : List UInt8) : Nat := f.countP fun x => !letB x
theorem odd_append (a b : List UInt8) : odd (a ++ b) = odd a + odd b := List.countP_append
theorem odd_zero {f : List UInt8} : odd f = 0 ↔ ∀ x ∈ f, letB x = true := by
  unfold odd
  rw [List.countP_eq_zero]
  constructor
  · intro h x hx
    have := h x hx
    simpa using this
  · intro h x hx
    rw [h x hx]; decide
theorem odd_cons (x : UInt8) (f : List UInt8) : odd (x :: f) = (if letB x then 0 else 1) + odd f := by
  unfold odd
  rw [List.countP_cons]
  cases letB x <;> simp <;> omega
theorem scan_letters {n : Nat} : ∀ (a : List UInt8) (i : Nat) (r : List UInt8) (st : Int × Nat), odd a = 0 → scanR n i (a ++ r) st = scanR n (i + a.length) r st
  | [], i, r, st, _ => rfl
  | x :: a, i, r, st, h => by
    rw [odd_cons] at h
    have hx : letB x = true := by cases hb : letB x <;> rw [hb] at h <;> simp at h ⊢
    rw [hx] at h
    show scanR n i (x :: (a ++ r)) st = _
    rw [scanR, if_pos hx, scan_letters a (i + 1) r st (by simpa using h)]
    congr 1
    simp; omega
theorem scan_none {n : Nat} : ∀ (t : List UInt8) (i : Nat) (st : Int × Nat), st.1 ≠ 0 → odd t ≠ 0 → scanR n i t st = none
  | [], _, _, _, h => absurd rfl h
  | x :: t, i, st, hs, h => by
    rw [scanR]
    cases hx : letB x with
    | true =>
      rw [if_pos rfl]
      rw [odd_cons, hx] at h
      exact scan_none t (i + 1) st hs (by simpa using h)
    | false => rw [if_neg (by decide), if_pos hs]
/-- The first byte that is no letter. -/
theorem odd_split : ∀ {f : List UInt8}, odd f ≠ 0 → ∃ a x t, f = a ++ x :: t ∧ odd a = 0 ∧ letB x = false
  | [], h => absurd rfl h
  | x :: f, h => by
    cases hx : letB x with
    | false => exact ⟨[], x, f, rfl, rfl, hx⟩
    | true =>
      rw [odd_cons, hx] at h
      obtain ⟨a, y, t, e, h1, h2⟩ := odd_split (f := f) (by simpa using h)
      exact ⟨x :: a, y, t, by rw [e]; rfl, by rw [odd_cons, hx, h1]; rfl, h2⟩
theorem dropWhile_nil {p : UInt8 → Bool} : ∀ {l : List UInt8}, l.dropWhile p = [] ↔ ∀ x ∈ l, p x = true
  | [] => ⟨fun _ x hx => (by cases hx), fun _ => rfl⟩
  | y :: l => by
    rw [List.dropWhile_cons]
    cases hy : p y with
    | true =>
      rw [if_pos rfl, dropWhile_nil]
      exact ⟨fun h x hx => by rcases List.mem_cons.1 hx with rfl | hx; exact hy; exact h x hx, fun h x hx => h x (by simp [hx])⟩
    | false =>
      rw [if_neg (by decide)]
      exact ⟨fun h => (by cases h), fun h => by have := h y (by simp); rw [hy] at this; exact absurd this (by decide)⟩
theorem trim_nil {l : List UInt8} : Lib.trimS l abcB = [] ↔ odd l = 0 := by
  rw [odd_zero]
  unfold Lib.trimS Lib.trimLeftS Lib.trimRightS
  constructor
  · intro h x hx
    have h2 : ∀ y ∈ (l.reverse.dropWhile (abcB.contains ·)).reverse, abcB.contains y = true := fun y hy => by
      rw [dropWhile_nil] at h
      exact h y hy
    have h3 : l.reverse.dropWhile (abcB.contains ·) = [] := by
      cases hd : l.reverse.dropWhile (abcB.contains ·) with
      | nil => rfl
      | cons z zs =>
        have hz := h2 z (by rw [hd]; simp)
        have := List.head_dropWhile_not (abcB.contains ·) (l := l.reverse) (by rw [hd]; simp)
        simp only [hd, List.head_cons] at this
        rw [this] at hz
        exact absurd hz (by decide)
    rw [dropWhile_nil] at h3
    exact h3 x (by simpa using hx)
  · intro h
    have h3 : l.reverse.dropWhile (abcB.contains ·) = [] := by
      rw [dropWhile_nil]
      intro x hx
      exact h x (by simpa using hx)
    rw [h3]
    rfl
/-- Where a mark stands. -/
theorem mark_at {f m : List UInt8} (h : Lib.contains f m = true) : ∃ i : Nat, Lib.index f m = i ∧ f = f.take i ++ m ++ f.drop (i + m.length) ∧ i + m.length ≤ f.length := by
  unfold Lib.contains at h
  rw [decide_eq_true_eq] at h
  rcases Lib.index_spec f m with ⟨h1, -⟩ | ⟨i, h1, h2, h3, -⟩
  · omega
  · have hr := Lib.index_room f m h
    have hl : i + m.length ≤ f.length := by omega
    refine ⟨i, h1, ?_, hl⟩
    rw [Lib.occAt_iff_take f m i hl] at h3
    have h4 : (f.drop i).take m.length = m := by simpa using h3
    conv => lhs; rw [← List.take_append_drop i f]
    rw [List.append_assoc]
    congr 1
    conv => lhs; rw [← List.take_append_drop m.length (f.drop i), h4, List.drop_drop]
theorem rep_at {f m new : List UInt8} {i : Nat} (hm : m ≠ new) (hi : Lib.index f m = i) : Lib.replace f m new 1 = f.take i ++ new ++ f.drop (i + m.length) := by
  unfold Lib.replace
  rw [if_neg (by simpa using hm)]
  have hc : 1 ≤ Lib.count f m := by
    unfold Lib.count
    rw [Lib.countFrom, if_neg (by rw [hi]; simp)]
    omega
  have hn : Lib.replaceNum f m 1 = 1 := by
    unfold Lib.replaceNum
    rw [if_neg (by omega)]
    rfl
  rw [hn, Lib.replaceK_hit m new 0 f i hi]
  rfl
/-- The mark of a kind. -/
def markK (k : Int) : List UInt8 := if k = 1 then [37, 115] else if k = 2 then [37, 122] else [47]
theorem contains_of {a m b : List UInt8} : Lib.contains (a ++ m ++ b) m = true := by
  unfold Lib.contains
  rw [decide_eq_true_eq]
  rcases Lib.index_spec (a ++ m ++ b) m with ⟨-, h2⟩ | ⟨i, h1, -⟩
  · exfalso
    have := h2 a.length (by simp)
    unfold Lib.occAt at this
    rw [List.append_assoc, List.drop_left] at this
    have h3 : m.isPrefixOf (m ++ b) = true := by rw [List.isPrefixOf_iff_prefix]; exact List.prefix_append m b
    rw [h3] at this
    exact absurd this (by decide)
  · omega
theorem odd_mark {f m : List UInt8} (hm : odd m = 1) (h : Lib.contains f m = true) : ∃ i : Nat, Lib.index f m = i ∧ f = f.take i ++ m ++ f.drop (i + m.length) ∧ i + m.length ≤ f.length ∧ odd f = odd (f.take i ++ f.drop (i + m.length)) + 1 := by
  obtain ⟨i, h1, h2, h3⟩ := mark_at h
  refine ⟨i, h1, h2, h3, ?_⟩
  conv => lhs; rw [h2]
  rw [odd_append, odd_append, odd_append, hm]
  omega
theorem m1 : odd [37, 115] = 1 := by decide
theorem m2 : odd [37, 122] = 1 := by decide
theorem m3 : odd [47] = 1 := by decide
theorem scan_bad {n : Nat} {f : List UInt8} (h : 2 ≤ odd f) : scanR n 0 f (0, 0) = none := by
  obtain ⟨a, x, t, e, ha, hx⟩ := odd_split (f := f) (by omega)
  have ht : odd t ≠ 0 := by
    rw [e, odd_append, odd_cons, ha, hx] at h
    simp at h
    omega
  rw [e, scan_letters a 0 _ _ ha, scanR, hx, if_neg (by decide), if_neg (by simp)]
  split
  · exact scan_none t _ _ (by simp) ht
  · split
    · exact scan_none t _ _ (by simp) ht
    · split
      · exact scan_none t _ _ (by simp) ht
      · rfl
theorem scan_all {n i : Nat} {t : List UInt8} {st : Int × Nat} (h : odd t = 0) : scanR n i t st = some st := by
  have := scan_letters (n := n) t i [] st h
  rw [List.append_nil] at this
  rw [this]
  rfl
theorem refK_in {f : List UInt8} (h0 : f ≠ []) (h1 : ¬ 64 < f.length) : refK f = match scanR f.length 0 f (0, 0) with | none => (-1, 0) | some st => st := by
  unfold refK
  rw [if_neg (by intro h; rcases h with h | h; exact h0 h; exact h1 h)]
theorem last_ne {f : List UInt8} (h : odd f = 0) : (f.headD 0 == 47) = false ∧ (f.getLastD 0 == 47) = false := by
  rw [odd_zero] at h
  have h47 : letB 47 = false := by decide
  constructor
  · cases f with
    | nil => rfl
    | cons x t =>
      have := h x (by simp)
      cases hq : ((x :: t).headD 0 == 47) with
      | false => rfl
      | true =>
        have e : x = 47 := by simpa using hq
        rw [e, h47] at this; exact absurd this (by decide)
  · cases hq : (f.getLastD 0 == 47) with
    | false => rfl
    | true =>
      exfalso
      cases f with
      | nil => exact absurd hq (by decide)
      | cons x t =>
        have hm : (x :: t).getLastD 0 ∈ (x :: t) := List.getLast_mem (List.cons_ne_nil x t)
        have := h _ hm
        rw [show (x :: t).getLastD 0 = 47 by simpa using hq, h47] at this
        exact absurd this (by decide)
/-- Both ways tell the same kind, and where the mark stands. -/
theorem refK_of (f : List UInt8) : (kindR f = (0, 12) ∧ refK f = (-1, 0)) ∨ ∃ (k : Int) (at_ : Nat), kindR f = (k, 0) ∧ refK f = (k, at_) ∧ ((k = 0 ∧ at_ = 0) ∨ (1 ≤ k ∧ k ≤ 3 ∧ f = f.take at_ ++ markK k ++ f.drop (at_ + (markK k).length) ∧ Lib.index f (markK k) = at_ ∧ at_ + (markK k).length ≤ f.length)) := by
  by_cases h0 : f = []
  · exact .inl ⟨kindR_bad (bad_empty h0), by unfold refK; rw [if_pos (.inl h0)]⟩
  by_cases h1 : 64 < f.length
  · exact .inl ⟨kindR_bad (bad_long h1), by unfold refK; rw [if_pos (.inr h1)]⟩
  rw [refK_in h0 h1]
  have no : ∀ m, odd m = 1 → odd f = 0 → Lib.contains f m = false := fun m hm hf => by
    cases hc : Lib.contains f m with
    | false => rfl
    | true => obtain ⟨i, -, -, -, h⟩ := odd_mark hm hc; omega
  have bad2 : 2 ≤ odd f → kindR f = (0, 12) := fun h2 => by
    have key : ∃ k p, kindP f = (k, p) ∧ odd p ≠ 0 := by
      unfold kindP
      by_cases c1 : Lib.contains f [37, 115] = true
      · obtain ⟨i, e1, -, -, e4⟩ := odd_mark m1 c1
        rw [if_pos c1]
        exact ⟨_, _, rfl, by rw [rep_at (by simp) e1, List.append_nil]; have := e4; simp only [List.length_cons, List.length_nil] at this ⊢; omega⟩
      · rw [if_neg c1]
        by_cases c2 : Lib.contains f [37, 122] = true
        · obtain ⟨i, e1, -, -, e4⟩ := odd_mark m2 c2
          rw [if_pos c2]
          exact ⟨_, _, rfl, by rw [rep_at (by simp) e1, List.append_nil]; have := e4; simp only [List.length_cons, List.length_nil] at this ⊢; omega⟩
        · rw [if_neg c2]
          by_cases c3 : Lib.contains f [47] = true
          · obtain ⟨i, e1, -, -, e4⟩ := odd_mark m3 c3
            rw [if_pos c3]
            exact ⟨_, _, rfl, by rw [rep_at (by simp) e1, List.append_nil]; have := e4; simp only [List.length_cons, List.length_nil] at this ⊢; omega⟩
          · rw [if_neg c3]
            exact ⟨_, _, rfl, by omega⟩
    obtain ⟨k, p, hk, hp⟩ := key
    exact kindR_bad (bad_trim hk (fun h => hp (trim_nil.1 h)))
  rcases (show odd f = 0 ∨ odd f = 1 ∨ 2 ≤ odd f by omega) with hN | hN | hN
  · have hk : kindP f = (0, f) := by unfold kindP; rw [no _ m1 hN, no _ m2 hN, no _ m3 hN]; rfl
    refine .inr ⟨0, 0, kindR_ok (bad_not hk h0 h1 (edge_not hk (by decide)) (trim_nil.2 hN)) hk, ?_, .inl ⟨rfl, rfl⟩⟩
    rw [scan_all hN]
  · have parts : ∀ (m : List UInt8) (i : Nat), odd m = 1 → f = f.take i ++ m ++ f.drop (i + m.length) → odd (f.take i) = 0 ∧ odd (f.drop (i + m.length)) = 0 := fun m i hm e => by
      have h : odd f = odd (f.take i) + odd m + odd (f.drop (i + m.length)) := by
        conv => lhs; rw [e]
        rw [odd_append, odd_append]
      omega
    have scan2 : ∀ (k : Int) (c : UInt8) (i : Nat), letB c = true → (k = 1 ∧ c = 115 ∨ k = 2 ∧ c = 122) → i + 2 ≤ f.length → f = f.take i ++ [37, c] ++ f.drop (i + [37, c].length) → odd [37, c] = 1 → scanR f.length 0 f (0, 0) = some (k, i) := fun k c i hc hk hl e ho => by
      obtain ⟨o1, o2⟩ := parts _ i ho e
      have htl : (f.take i).length = i := by rw [List.length_take]; omega
      have hst : scanR f.length 0 f (0, 0) = scanR f.length 0 (f.take i ++ (37 :: c :: f.drop (i + [37, c].length))) (0, 0) := by
        congr 1
        conv => lhs; rw [e]
        simp
      have h37 : letB 37 = false := by decide
      have htt : odd (c :: f.drop (i + [37, c].length)) = 0 := by rw [odd_cons, hc, o2]; rfl
      rw [hst, scan_letters _ _ _ _ o1, htl, Nat.zero_add, scanR, h37, if_neg (by decide), if_neg (by simp), if_neg (by simp)]
      rcases hk with ⟨rfl, rfl⟩ | ⟨rfl, rfl⟩
      · rw [if_pos ⟨rfl, rfl⟩]
        exact scan_all htt
      · rw [if_neg (by simp), if_pos ⟨rfl, rfl⟩]
        exact scan_all htt
    by_cases c1 : Lib.contains f [37, 115] = true
    · obtain ⟨i, e1, e2, e3, e4⟩ := odd_mark m1 c1
      have hk : kindP f = (1, Lib.replace f [37, 115] [] 1) := by unfold kindP; rw [if_pos c1]
      refine .inr ⟨1, i, kindR_ok (bad_not hk h0 h1 (edge_not hk (by decide)) (trim_nil.2 (by rw [rep_at (by simp) e1, List.append_nil]; omega))) hk, ?_, .inr ⟨by decide, by decide, e2, e1, e3⟩⟩
      rw [scan2 1 115 i (by decide) (.inl ⟨rfl, rfl⟩) e3 e2 m1]
    · by_cases c2 : Lib.contains f [37, 122] = true
      · obtain ⟨i, e1, e2, e3, e4⟩ := odd_mark m2 c2
        have hk : kindP f = (2, Lib.replace f [37, 122] [] 1) := by unfold kindP; rw [if_neg c1, if_pos c2]
        refine .inr ⟨2, i, kindR_ok (bad_not hk h0 h1 (edge_not hk (by decide)) (trim_nil.2 (by rw [rep_at (by simp) e1, List.append_nil]; omega))) hk, ?_, .inr ⟨by decide, by decide, e2, e1, e3⟩⟩
        rw [scan2 2 122 i (by decide) (.inr ⟨rfl, rfl⟩) e3 e2 m2]
      · by_cases c3 : Lib.contains f [47] = true
        · obtain ⟨i, e1, e2, e3, e4⟩ := odd_mark m3 c3
          have hk : kindP f = (3, Lib.replace f [47] [] 1) := by unfold kindP; rw [if_neg c1, if_neg c2, if_pos c3]
          obtain ⟨o1, o2⟩ := parts _ i m3 e2
          have e3' : i + 1 ≤ f.length := e3
          have htl : (f.take i).length = i := by rw [List.length_take]; omega
          have hst : scanR f.length 0 f (0, 0) = scanR f.length i (47 :: f.drop (i + [(47 : UInt8)].length)) (0, 0) := by
            have hst : scanR f.length 0 f (0, 0) = scanR f.length 0 (f.take i ++ (47 :: f.drop (i + [(47 : UInt8)].length))) (0, 0) := by
              congr 1
              conv => lhs; rw [e2]
              simp
            rw [hst, scan_letters _ _ _ _ o1, htl, Nat.zero_add]
          have h47 : letB 47 = false := by decide
          have htrim : Lib.trimS (Lib.replace f [47] [] 1) abcB = [] := trim_nil.2 (by rw [rep_at (by simp) e1, List.append_nil]; omega)
          by_cases hin : 0 < i ∧ i + 1 < f.length
          · have hedge : edgeB f = false := by
              unfold edgeB
              rw [hk]
              have a1 : (f.headD 0 == 47) = false := by
                have := (last_ne o1).1
                rw [e2]
                cases hti : f.take i with
                | nil => rw [hti] at htl; simp at htl; omega
                | cons y ys => rw [hti] at this; simpa using this
              have a2 : (f.getLastD 0 == 47) = false := by
                have := (last_ne o2).2
                have hne : f.drop (i + [(47 : UInt8)].length) ≠ [] := by
                  intro h
                  have h2 := congrArg List.length h
                  rw [List.length_drop] at h2
                  simp at h2
                  omega
                rw [e2]
                cases hti : f.drop (i + [(47 : UInt8)].length) with
                | nil => exact absurd hti hne
                | cons y ys =>
                  rw [hti] at this
                  rw [List.getLastD_eq_getLast?, List.getLast?_append, List.getLast?_eq_some_getLast (by simp), Option.some_or, Option.getD_some]
                  rw [List.getLastD_eq_getLast?, List.getLast?_eq_some_getLast (by simp), Option.getD_some] at this
                  exact this
              rw [a1, a2]
              rfl
            refine .inr ⟨3, i, kindR_ok (bad_not hk h0 h1 hedge htrim) hk, ?_, .inr ⟨by decide, by decide, e2, e1, e3⟩⟩
            rw [hst, scanR, h47, if_neg (by decide), if_neg (by simp), if_pos ⟨rfl, hin.1, hin.2⟩, scan_all o2]
          · refine .inl ⟨kindR_bad (bad_edge ?_), ?_⟩
            · unfold edgeB
              rw [hk]
              have : f.headD 0 = 47 ∨ f.getLastD 0 = 47 := by
                by_cases hi0 : i = 0
                · left
                  rw [e2, hi0]
                  rfl
                · right
                  have hd : f.drop (i + [(47 : UInt8)].length) = [] := by
                    rw [List.drop_eq_nil_iff]
                    show f.length ≤ i + 1
                    omega
                  rw [e2, hd, List.append_nil, List.getLastD_eq_getLast?, List.getLast?_append]
                  rfl
              rcases this with h | h <;> rw [h] <;> simp
            · rw [hst, scanR, h47, if_neg (by decide), if_neg (by simp), if_neg (fun h => hin ⟨h.2.1, h.2.2⟩), if_neg (by simp), if_neg (by simp)]
        · obtain ⟨a, x, t, e, ha, hx⟩ := odd_split (f := f) (by omega)
          have hk : kindP f = (0, f) := by unfold kindP; rw [if_neg c1, if_neg c2, if_neg c3]
          refine .inl ⟨kindR_bad (bad_trim hk (fun h => by rw [trim_nil] at h; omega)), ?_⟩
          have hst : scanR f.length 0 f (0, 0) = scanR f.length 0 (a ++ x :: t) (0, 0) := by congr 1
          have n47 : x ≠ 47 := fun h => c3 (by rw [e, h, show a ++ 47 :: t = a ++ [47] ++ t by simp]; exact contains_of)
          have n115 : ¬ (x = 37 ∧ t.head? = some 115) := fun ⟨h, h2⟩ => c1 (by
            cases t with
            | nil => cases h2
            | cons y ys =>
              have : y = 115 := by simpa using h2
              rw [e, h, this, show a ++ 37 :: 115 :: ys = a ++ [37, 115] ++ ys by simp]; exact contains_of)
          have n122 : ¬ (x = 37 ∧ t.head? = some 122) := fun ⟨h, h2⟩ => c2 (by
            cases t with
            | nil => cases h2
            | cons y ys =>
              have : y = 122 := by simpa using h2
              rw [e, h, this, show a ++ 37 :: 122 :: ys = a ++ [37, 122] ++ ys by simp]; exact contains_of)
          rw [hst, scan_letters _ _ _ _ ha, scanR, hx, if_neg (by decide), if_neg (by simp), if_neg (fun h => n47 h.1), if_neg n115, if_neg n122]
  · exact .inl ⟨bad2 hN, by rw [scan_bad hN]⟩
theorem index_out {f m : List UInt8} (h : Lib.contains f m = false) : Lib.index f m = -1 := by
  have hge := Lib.index_ge f m
  unfold Lib.contains at h
  rw [decide_eq_false_iff_not] at h
  omega
theorem count_out {f m : List UInt8} (hm : odd m = 1) (h : odd f = 0) : Lib.count f m = 0 := by
  refine Lib.count_miss (index_out ?_)
  cases hc : Lib.contains f m with
  | false => rfl
  | true => obtain ⟨i, -, -, -, h2⟩ := odd_mark hm hc; omega
/-- A format with %s has one. -/
theorem count_one {f : List UInt8} (h : kindR f = (1, 0)) : Lib.count f [37, 115] ≤ 1 := by
  cases c1 : Lib.contains f [37, 115] with
  | false => rw [Lib.count_miss (index_out c1)]; omega
  | true =>
    obtain ⟨i, e1, e2, e3, e4⟩ := odd_mark m1 c1
    rw [Lib.count_hit (by simp) e1]
    have hk : kindP f = (1, Lib.replace f [37, 115] [] 1) := by unfold kindP; rw [if_pos c1]
    have hb : Lib.trimS (Lib.replace f [37, 115] [] 1) abcB = [] := by
      apply Classical.byContradiction
      intro hne
      rw [kindR_bad (bad_trim hk hne)] at h
      cases h
    rw [trim_nil, rep_at (by simp) e1, List.append_nil, odd_append] at hb
    rw [count_out m1 (by omega)]
    omega
end Go.Proofs.YteekjfgjmccdnaaGreatDoor
end

section
/- CMath: The calendar, as numbers: what layer 2 answers. -/
namespace Go.Proofs.YteekjfgjmccdnaaGreatDoor
open Go
set_option maxRecDepth 100000

/-- How many days of a year are ahead of each month. -/
def aheadV : Nat → Int
  | 0 => 0 | 1 => 31 | 2 => 59 | 3 => 90 | 4 => 120 | 5 => 151 | 6 => 181 | 7 => 212 | 8 => 243 | 9 => 273 | 10 => 304 | 11 => 334 | _ => 365
/-- Has a year 366 days? -/
def leapB (y : Int) : Bool := decide (y % 4 = 0 ∧ (y % 100 ≠ 0 ∨ y % 400 = 0))
def leapsV (y : Int) : Int := if leapB y then 1 else 0
theorem leapsV_in (y : Int) : 0 ≤ leapsV y ∧ leapsV y ≤ 1 := by unfold leapsV; split <;> omega
def yearV (y : Int) : Int := (y - 1) * 365 + (y - 1) / 4 - (y - 1) / 100 + (y - 1) / 400 - 719162
def startV (y m : Int) : Int := aheadV (m - 1).toNat + if 2 < m then leapsV y else 0
def lenV (y m : Int) : Int := aheadV m.toNat - aheadV (m - 1).toNat + if m = 2 then leapsV y else 0
def ymB (y m : Int) : Bool := decide (-100000 ≤ y ∧ y ≤ 100000 ∧ 1 ≤ m ∧ m ≤ 12)
def longV (y m : Int) : Int × Int := if ymB y m then (lenV y m, 0) else (0, 10)
def dateB (y m d : Int) : Bool := ymB y m && decide (1 ≤ d ∧ d ≤ lenV y m)
def dayV (y m d : Int) : Int := yearV y + startV y m + d - 1
def weekV (n : Int) : Int := (n % 7 + 4) % 7
theorem tmod_zero (a b : Int) : a.tmod b = 0 ↔ a % b = 0 := ⟨fun h => Int.emod_eq_zero_of_dvd (Int.dvd_of_tmod_eq_zero h), fun h => Int.tmod_eq_zero_of_dvd (Int.dvd_of_emod_eq_zero h)⟩
theorem aheadV_in (k : Nat) : 0 ≤ aheadV k ∧ aheadV k ≤ 365 := by
  unfold aheadV
  split <;> omega
theorem lenV_in {y m : Int} (h1 : 1 ≤ m) (h2 : m ≤ 12) : 28 ≤ lenV y m ∧ lenV y m ≤ 31 := by
  have hl := leapsV_in y
  unfold lenV
  rcases (by omega : m = 1 ∨ m = 2 ∨ m = 3 ∨ m = 4 ∨ m = 5 ∨ m = 6 ∨ m = 7 ∨ m = 8 ∨ m = 9 ∨ m = 10 ∨ m = 11 ∨ m = 12) with h | h | h | h | h | h | h | h | h | h | h | h <;> subst h <;> simp [aheadV] <;> omega
theorem startV_in (y m : Int) : 0 ≤ startV y m ∧ startV y m ≤ 366 := by
  have hl := leapsV_in y
  have ha := aheadV_in (m - 1).toNat
  unfold startV
  split <;> omega
theorem startV_next {y m : Int} (h1 : 1 ≤ m) (h2 : m < 12) : startV y (m + 1) = startV y m + lenV y m := by
  have hl := leapsV_in y
  unfold lenV startV
  rcases (by omega : m = 1 ∨ m = 2 ∨ m = 3 ∨ m = 4 ∨ m = 5 ∨ m = 6 ∨ m = 7 ∨ m = 8 ∨ m = 9 ∨ m = 10 ∨ m = 11) with h | h | h | h | h | h | h | h | h | h | h <;> subst h <;> simp [aheadV] <;> omega
theorem startV_dec {y : Int} : startV y 12 + lenV y 12 = 365 + leapsV y := by
  unfold lenV startV
  simp [aheadV]
  omega
theorem yearV_in {y : Int} (h1 : -100001 ≤ y) (h2 : y ≤ 100001) : -40000000 ≤ yearV y ∧ yearV y ≤ 40000000 := by
  unfold yearV
  omega
theorem dateB_in {y m d : Int} (h : dateB y m d = true) : -100000 ≤ y ∧ y ≤ 100000 ∧ 1 ≤ m ∧ m ≤ 12 ∧ 1 ≤ d ∧ d ≤ lenV y m := by
  unfold dateB ymB at h
  simp only [Bool.and_eq_true, decide_eq_true_eq] at h
  exact ⟨h.1.1, h.1.2.1, h.1.2.2.1, h.1.2.2.2, h.2.1, h.2.2⟩
theorem dayV_in {y m d : Int} (h : dateB y m d = true) : -50000000 ≤ dayV y m d ∧ dayV y m d ≤ 50000000 := by
  obtain ⟨a, b, c, e, f, g⟩ := dateB_in h
  have h1 := yearV_in (y := y) (by omega) (by omega)
  have h2 := startV_in y m
  have h3 := lenV_in (y := y) c e
  unfold dayV
  omega
theorem weekV_in (n : Int) : 0 ≤ weekV n ∧ weekV n ≤ 6 := by unfold weekV; omega
/-- The quotient, rounded down, as layer 1 computes it. -/
theorem floor_eq {a b : Int} (hb : 0 < b) : a / b = if a.tmod b ≠ 0 ∧ a < 0 then a.tdiv b - 1 else a.tdiv b := by
  have hs : b.sign = 1 := Int.sign_eq_one_of_pos hb
  rw [Int.tdiv_eq_ediv, hs]
  by_cases h0 : a.tmod b = 0
  · rw [if_neg (by omega), if_pos (Or.inr (Int.dvd_of_tmod_eq_zero h0))]
    omega
  · have hd : ¬ b ∣ a := fun h => h0 (Int.tmod_eq_zero_of_dvd h)
    by_cases ha : a < 0
    · rw [if_pos ⟨h0, ha⟩, if_neg (by rintro (h | h); omega; exact hd h)]
      omega
    · rw [if_neg (by omega), if_pos (Or.inl (by omega))]
      omega
theorem mod_eq {a b : Int} (hb : 0 < b) : a % b = if a.tmod b ≠ 0 ∧ a.tmod b < 0 then a.tmod b + b else a.tmod b := by
  have h2 := Int.tmod_eq_emod (a := a) (b := b)
  have h5 := Int.emod_nonneg a (show b ≠ 0 by omega)
  have h6 := Int.emod_lt_of_pos a hb
  have h7 := Int.lt_tmod_of_pos a hb
  by_cases h0 : a.tmod b = 0
  · rw [if_neg (by omega), h0]
    exact (tmod_zero a b).1 h0
  · have hd : ¬ b ∣ a := fun h => h0 (Int.tmod_eq_zero_of_dvd h)
    by_cases ha : 0 ≤ a
    · rw [if_pos (Or.inl ha)] at h2
      rw [if_neg (by omega)]
      omega
    · rw [if_neg (by rintro (h | h); exact ha h; exact hd h)] at h2
      rw [if_pos (by omega)]
      omega
end Go.Proofs.YteekjfgjmccdnaaGreatDoor
end

section
/- Civil: Layers 1 and 2 walked: quotients, the calendar. -/
namespace Go.Proofs.YteekjfgjmccdnaaGreatDoor
open Go Go.RowKit Go.Shelf
set_option maxRecDepth 100000

theorem div_ge {a b : Int} (hb : 0 < b) (ha : a ≤ 0) : a ≤ a / b := by
  refine (Int.le_ediv_iff_mul_le hb).2 ?_
  have : a * b ≤ a * 1 := Int.mul_le_mul_of_nonpos_left ha (show (1 : Int) ≤ b by omega)
  omega
set_option maxHeartbeats 1000000 in
theorem leap_any (y : Int) (w : World) :
    Calls Tryz.prog 154 #[.int .i64 y] w fun e w' => e = .returned (.bool (leapB y)) ∧ w' = w := by
  have z4 := tmod_zero y 4
  have z1 := tmod_zero y 100
  have z0 := tmod_zero y 400
  by_cases h4 : y.tmod 4 = 0
  · by_cases h1 : y.tmod 100 = 0
    · by_cases h0 : y.tmod 400 = 0
      · have HL := Lib.hid (show leapB y = true by unfold leapB; rw [decide_eq_true_eq]; omega)
        clear z4 z1 z0
        go_enter Tryz.func154, Tryz.ntmps154
        go_wp2_with fail
        go_ret
        exact ⟨by rw [HL.out]; rfl, rfl⟩
      · have HL := Lib.hid (show leapB y = false by unfold leapB; rw [decide_eq_false_iff_not]; omega)
        have e0 : (y.tmod 400 == 0) = false := by simpa using h0
        clear z4 z1 z0
        go_enter Tryz.func154, Tryz.ntmps154
        go_wp2_with fail
        go_ret
        exact ⟨by rw [HL.out]; rfl, rfl⟩
    · have HL := Lib.hid (show leapB y = true by unfold leapB; rw [decide_eq_true_eq]; omega)
      have e1 : (y.tmod 100 != 0) = true := by simpa using h1
      clear z4 z1 z0
      go_enter Tryz.func154, Tryz.ntmps154
      go_wp2_with fail
      go_ret
      exact ⟨by rw [HL.out]; rfl, rfl⟩
  · have HL := Lib.hid (show leapB y = false by unfold leapB; rw [decide_eq_false_iff_not]; omega)
    have e4 : (y.tmod 4 == 0) = false := by simpa using h4
    clear z4 z1 z0
    go_enter Tryz.func154, Tryz.ntmps154
    go_wp2_with fail
    go_ret
    exact ⟨by rw [HL.out]; rfl, rfl⟩
theorem leaps_any (y : Int) (w : World) :
    Calls Tryz.prog 123 #[.int .i64 y] w fun e w' => e = .returned (.int .i64 (leapsV y)) ∧ w' = w := by
  have HL := Lib.hid (leap_any y w)
  cases h : leapB y
  · have HV := Lib.hid (show leapsV y = 0 by unfold leapsV; rw [h]; rfl)
    rw [h] at HL
    clear h
    go_enter Tryz.func123, Tryz.ntmps123
    go_wp2_with fail
    refine HL.out.mono ?_
    rintro e w1 ⟨rfl, rfl⟩
    go_wp2_with fail
    go_ret
    exact ⟨by rw [HV.out]; rfl, rfl⟩
  · have HV := Lib.hid (show leapsV y = 1 by unfold leapsV; rw [h]; rfl)
    rw [h] at HL
    clear h
    go_enter Tryz.func123, Tryz.ntmps123
    go_wp2_with fail
    refine HL.out.mono ?_
    rintro e w1 ⟨rfl, rfl⟩
    go_wp2_with fail
    go_ret
    exact ⟨by rw [HV.out]; rfl, rfl⟩
set_option maxHeartbeats 1000000 in
theorem div_any (a b : Int) (hb : 0 < b) (ha : -9223372036854775808 ≤ a) (ha2 : a ≤ 9223372036854775807) (w : World) :
    Calls Tryz.prog 48 #[.int .i64 a, .int .i64 b] w fun e w' => e = .returned (.tuple #[.int .i64 (a / b), .int .i64 0]) ∧ w' = w := by
  have hF := floor_eq (a := a) hb
  have hG := fun h => div_ge (a := a) hb h
  have e1 : (b == 0) = false := by simp; omega
  have e2 : (b == -1) = false := by simp; omega
  have e3 : decide (b < 0) = false := by simp; omega
  by_cases h : a.tmod b = 0
  · rw [if_neg (by omega)] at hF
    rw [hF]
    have e4 : (a.tmod b != 0) = false := by simpa using h
    clear hF hG h
    go_enter Tryz.func48, Tryz.ntmps48
    go_wp2_with fail
    refine bodyPost_ret (v := .tuple #[.int .i64 (a.tdiv b), .int .i64 0]) ?_ rfl ⟨rfl, rfl⟩
    simp [results, Tryz.f48, go_sem, *]
  · have e4 : (a.tmod b != 0) = true := by simpa using h
    by_cases h2 : a < 0
    · rw [if_pos ⟨h, h2⟩] at hF
      have hg := hG (by omega)
      have hq : wrap64 (a.tdiv b - 1) = a.tdiv b - 1 := IntWalk.wrap64_in _ (by
        have := Int.ediv_neg_of_neg_of_pos h2 hb
        omega)
      rw [hF]
      have e5 : decide (a < 0) = true := decide_eq_true h2
      clear hF hG h hg h2
      go_enter Tryz.func48, Tryz.ntmps48
      go_wp2_with fail
      refine bodyPost_ret (v := .tuple #[.int .i64 (a.tdiv b - 1), .int .i64 0]) ?_ rfl ⟨rfl, rfl⟩
      simp [results, Tryz.f48, go_sem, *]
    · rw [if_neg (by omega)] at hF
      rw [hF]
      have e5 : decide (a < 0) = false := decide_eq_false h2
      clear hF hG h h2
      go_enter Tryz.func48, Tryz.ntmps48
      go_wp2_with fail
      refine bodyPost_ret (v := .tuple #[.int .i64 (a.tdiv b), .int .i64 0]) ?_ rfl ⟨rfl, rfl⟩
      simp [results, Tryz.f48, go_sem, *]
theorem floor_any (a b : Int) (hb : 0 < b) (ha : -9223372036854775808 ≤ a) (ha2 : a ≤ 9223372036854775807) (w : World) :
    Calls Tryz.prog 87 #[.int .i64 a, .int .i64 b] w fun e w' => e = .returned (.int .i64 (a / b)) ∧ w' = w := by
  have HD := Lib.hid (div_any a b hb ha ha2 w)
  generalize a / b = q at *
  go_enter Tryz.func87, Tryz.ntmps87
  go_wp2_with fail
  refine HD.out.mono ?_
  rintro e w1 ⟨rfl, rfl⟩
  go_wp2_with fail
  go_ret
  exact ⟨rfl, rfl⟩
set_option maxHeartbeats 1000000 in
theorem mod_any (a b : Int) (hb : 0 < b) (hb2 : b < 4611686018427387904) (w : World) :
    Calls Tryz.prog 177 #[.int .i64 a, .int .i64 b] w fun e w' => e = .returned (.tuple #[.int .i64 (a % b), .int .i64 0]) ∧ w' = w := by
  have hF := mod_eq (a := a) hb
  have h6 := Int.lt_tmod_of_pos a hb
  have h7 := Int.tmod_lt_of_pos a hb
  have e1 : (b == 0) = false := by simp; omega
  have e3 : decide (b < 0) = false := by simp; omega
  by_cases h : a.tmod b = 0
  · rw [if_neg (by omega)] at hF
    rw [hF]
    have e4 : (a.tmod b != 0) = false := by simpa using h
    clear hF h h6 h7
    go_enter Tryz.func177, Tryz.ntmps177
    go_wp2_with fail
    refine bodyPost_ret (v := .tuple #[.int .i64 (a.tmod b), .int .i64 0]) ?_ rfl ⟨rfl, rfl⟩
    simp [results, Tryz.f177, go_sem, *]
  · have e4 : (a.tmod b != 0) = true := by simpa using h
    by_cases h2 : a.tmod b < 0
    · rw [if_pos ⟨h, h2⟩] at hF
      have hq : wrap64 (a.tmod b + b) = a.tmod b + b := IntWalk.wrap64_in _ ⟨by omega, by omega⟩
      rw [hF]
      have e5 : decide (a.tmod b < 0) = true := decide_eq_true h2
      clear hF h h2 h6 h7
      go_enter Tryz.func177, Tryz.ntmps177
      go_wp2_with fail
      refine bodyPost_ret (v := .tuple #[.int .i64 (a.tmod b + b), .int .i64 0]) ?_ rfl ⟨rfl, rfl⟩
      simp [results, Tryz.f177, go_sem, *]
    · rw [if_neg (by omega)] at hF
      rw [hF]
      have e5 : decide (a.tmod b < 0) = false := decide_eq_false h2
      clear hF h h2 h6 h7
      go_enter Tryz.func177, Tryz.ntmps177
      go_wp2_with fail
      refine bodyPost_ret (v := .tuple #[.int .i64 (a.tmod b), .int .i64 0]) ?_ rfl ⟨rfl, rfl⟩
      simp [results, Tryz.f177, go_sem, *]
theorem weekday_any (n : Int) (w : World) :
    Calls Tryz.prog 153 #[.int .i64 n] w fun e w' => e = .returned (.int .i64 (weekV n)) ∧ w' = w := by
  have HD := Lib.hid (mod_any n 7 (by omega) (by omega) w)
  have h1 : 0 ≤ n % 7 := by omega
  have h2 : n % 7 < 7 := by omega
  have HV := Lib.hid (show weekV n = (n % 7 + 4) % 7 from rfl)
  generalize n % 7 = q at *
  go_enter Tryz.func153, Tryz.ntmps153
  go_wp2_with fail
  refine HD.out.mono ?_
  rintro e w1 ⟨rfl, rfl⟩
  go_wp2_with fail
  go_ret
  exact ⟨by rw [HV.out]; rfl, rfl⟩
set_option maxHeartbeats 1000000 in
theorem year_any (y : Int) (h1 : -100001 ≤ y) (h2 : y ≤ 100001) (w : World) :
    Calls Tryz.prog 86 #[.int .i64 y] w fun e w' => e = .returned (.int .i64 (yearV y)) ∧ w' = w := by
  have H4 := Lib.hid (floor_any (y - 1) 4 (by omega) (by omega) (by omega) w)
  have H1 := Lib.hid (floor_any (y - 1) 100 (by omega) (by omega) (by omega) w)
  have H0 := Lib.hid (floor_any (y - 1) 400 (by omega) (by omega) (by omega) w)
  have HV := Lib.hid (show yearV y = (y - 1) * 365 + (y - 1) / 4 - (y - 1) / 100 + (y - 1) / 400 - 719162 from rfl)
  have b4 : -100002 ≤ (y - 1) / 4 ∧ (y - 1) / 4 ≤ 100002 := by omega
  have b1 : -100002 ≤ (y - 1) / 100 ∧ (y - 1) / 100 ≤ 100002 := by omega
  have b0 : -100002 ≤ (y - 1) / 400 ∧ (y - 1) / 400 ≤ 100002 := by omega
  have b3 : -100002 ≤ (y - 1) ∧ (y - 1) ≤ 100002 := by omega
  generalize (y - 1) / 4 = q4 at *
  generalize (y - 1) / 100 = q1 at *
  generalize (y - 1) / 400 = q0 at *
  go_enter Tryz.func86, Tryz.ntmps86
  go_wp2_with fail
  refine H4.out.mono ?_
  rintro e w1 ⟨rfl, rfl⟩
  go_wp2_with fail
  refine H1.out.mono ?_
  rintro e w1 ⟨rfl, rfl⟩
  go_wp2_with fail
  refine H0.out.mono ?_
  rintro e w1 ⟨rfl, rfl⟩
  go_wp2_with fail
  go_ret
  exact ⟨by rw [HV.out]; rfl, rfl⟩
end Go.Proofs.YteekjfgjmccdnaaGreatDoor
end

section
/- CivilB: Layer 2 walked: how long a month is, which day a date is. -/
namespace Go.Proofs.YteekjfgjmccdnaaGreatDoor
open Go Go.RowKit Go.Shelf
set_option maxRecDepth 100000

/-- The package's table reads as its text lays it. -/
def Ahead (w : World) : Prop := ∀ k, k < 13 → w.cell? ⟨0, k, none⟩ = some (.int .i64 (aheadV k))
theorem Ahead.below {B : Nat} {w w' : World} (h : Ahead w) (hb : Below B w w') (hB : w.heap.size ≤ B) : Ahead w' := fun k hk =>
  (hb.cell (Nat.lt_of_lt_of_le (World.block_lt_of_cell? w _ (h k hk)) hB)).trans (h k hk)
theorem aheadV_at (m : Int) (h1 : 1 ≤ m) (h2 : m ≤ 12) : ∃ k : Nat, m = (k : Int) + 1 ∧ k < 12 := ⟨(m - 1).toNat, by omega, by omega⟩
set_option maxHeartbeats 1000000 in
theorem start_any (y m : Int) (h1 : 1 ≤ m) (h2 : m ≤ 12) (w : World) (ha : Ahead w) :
    Calls Tryz.prog 88 #[.int .i64 y, .int .i64 m] w fun e w' => e = .returned (.int .i64 (startV y m)) ∧ w' = w := by
  obtain ⟨k, rfl, hk⟩ := aheadV_at m h1 h2
  have c := ha k (by omega)
  have HL := Lib.hid (leaps_any y w)
  have hl := leapsV_in y
  have hv := aheadV_in k
  have HV := Lib.hid (show startV y (k + 1) = aheadV k + if 2 < (k : Int) + 1 then leapsV y else 0 by unfold startV; rw [show ((k : Int) + 1 - 1).toNat = k by omega])
  have e1 : (k : Int) + 1 - 1 = k := by omega
  generalize aheadV k = a at *
  generalize leapsV y = q at *
  clear ha h1 h2
  by_cases h : 2 < (k : Int) + 1
  · rw [if_pos h] at HV
    go_enter Tryz.func88, Tryz.ntmps88
    go_wp2_with fail
    refine HL.out.mono ?_
    rintro e w1 ⟨rfl, rfl⟩
    go_wp2_with fail
    go_ret
    exact ⟨by rw [HV.out]; rfl, rfl⟩
  · rw [if_neg h, Int.add_zero] at HV
    go_enter Tryz.func88, Tryz.ntmps88
    go_wp2_with fail
    go_ret
    exact ⟨by rw [HV.out]; rfl, rfl⟩
set_option maxHeartbeats 1000000 in
theorem long_any (y m : Int) (w : World) (ha : Ahead w) :
    Calls Tryz.prog 91 #[.int .i64 y, .int .i64 m] w fun e w' => e = .returned (.tuple #[.int .i64 (longV y m).1, .int .i64 (longV y m).2]) ∧ ∃ n, w' = w.drewN n := by
  by_cases h : ymB y m = true
  · have hE : longV y m = (lenV y m, 0) := by unfold longV; rw [if_pos h]
    rw [hE]
    unfold ymB at h
    rw [decide_eq_true_eq] at h
    obtain ⟨h1, h2, h3, h4⟩ := h
    obtain ⟨k, rfl, hk⟩ := aheadV_at m h3 h4
    have c := ha k (by omega)
    have d := ha (k + 1) (by omega)
    have HL := Lib.hid (fun W => leaps_any y W)
    have hl := leapsV_in y
    have hv := aheadV_in k
    have hu := aheadV_in (k + 1)
    have HV := Lib.hid (show lenV y (k + 1) = aheadV (k + 1) - aheadV k + if (k : Int) + 1 = 2 then leapsV y else 0 by unfold lenV; rw [show ((k : Int) + 1 - 1).toNat = k by omega, show ((k : Int) + 1).toNat = k + 1 by omega])
    have e1 : (k : Int) + 1 - 1 = k := by omega
    clear hE
    generalize aheadV k = a at *
    generalize aheadV (k + 1) = b at *
    generalize leapsV y = q at *
    clear ha h3 h4
    by_cases h : (k : Int) + 1 = 2
    · rw [if_pos h] at HV
      obtain rfl : k = 1 := by omega
      go_enter Tryz.func91, Tryz.ntmps91
      go_wp2_with fail
      go_quiet (fail)
      go_wp2_with fail
      refine (HL.out _).mono ?_
      rintro e w1 ⟨rfl, rfl⟩
      go_wp2_with fail
      refine bodyPost_ret (v := .tuple #[.int .i64 (b - a + q), .int .i64 0]) ?_ rfl ⟨by rw [HV.out], _, rfl⟩
      simp [results, Tryz.f91, go_sem]
    · rw [if_neg h, Int.add_zero] at HV
      have hk1 : ((k : Int) + 1 == 2) = false := by simpa using h
      go_enter Tryz.func91, Tryz.ntmps91
      go_wp2_with fail
      go_quiet (fail)
      go_wp2_with fail
      refine bodyPost_ret (v := .tuple #[.int .i64 (b - a), .int .i64 0]) ?_ rfl ⟨by rw [HV.out], _, rfl⟩
      simp [results, Tryz.f91, go_sem]
  · have hE : longV y m = (0, 10) := by unfold longV; rw [if_neg h]
    rw [hE]
    have HE : ∀ c : Array Value, c = #[.int .i64 0, .int .i64 10] → c = #[.int .i64 (0, (10 : Int)).1, .int .i64 ((0 : Int), (10 : Int)).2] := fun c h => h
    unfold ymB at h
    rw [decide_eq_true_eq] at h
    by_cases h1 : y < -100000
    · clear h
      go_enter Tryz.func91, Tryz.ntmps91
      go_wp2_with fail
      refine bodyPost_ret (v := .tuple #[.int .i64 0, .int .i64 10]) ?_ rfl ⟨rfl, 0, rfl⟩
      simp [results, Tryz.f91, go_sem]
    · by_cases h2 : 100000 < y
      · clear h
        go_enter Tryz.func91, Tryz.ntmps91
        go_wp2_with fail
        refine bodyPost_ret (v := .tuple #[.int .i64 0, .int .i64 10]) ?_ rfl ⟨rfl, 0, rfl⟩
        simp [results, Tryz.f91, go_sem]
      · by_cases h3 : m < 1
        · clear h
          go_enter Tryz.func91, Tryz.ntmps91
          go_wp2_with fail
          refine bodyPost_ret (v := .tuple #[.int .i64 0, .int .i64 10]) ?_ rfl ⟨rfl, 0, rfl⟩
          simp [results, Tryz.f91, go_sem]
        · have h4 : 12 < m := by omega
          clear h
          go_enter Tryz.func91, Tryz.ntmps91
          go_wp2_with fail
          refine bodyPost_ret (v := .tuple #[.int .i64 0, .int .i64 10]) ?_ rfl ⟨rfl, 0, rfl⟩
          simp [results, Tryz.f91, go_sem]
end Go.Proofs.YteekjfgjmccdnaaGreatDoor
end

section
/- CivilC: Layer 2 walked: Check, Days. -/
namespace Go.Proofs.YteekjfgjmccdnaaGreatDoor
open Go Go.RowKit Go.Shelf
set_option maxRecDepth 100000

def dateA (y m d : Int) : Value := .agg #[.int .i64 y, .int .i64 m, .int .i64 d]
def checkV (y m d : Int) : Int := if dateB y m d then 0 else 10
set_option maxHeartbeats 1000000 in
theorem dcheck_any (y m d : Int) (w : World) (ha : Ahead w) :
    Calls Tryz.prog 155 #[dateA y m d] w fun e w' => e = .returned (.int .i64 (checkV y m d)) ∧ Below w.heap.size w w' := by
  have HB0 := Lib.hid ((Below.refl w.heap.size w).alloc (Nat.le_refl _) (.cells #[.int .i64 y, .int .i64 m, .int .i64 d] 44))
  have HQ0 := Blk.new w 44 #[.int .i64 y, .int .i64 m, .int .i64 d]
  have HL := Lib.hid (long_any y m (w.alloc (.cells #[.int .i64 y, .int .i64 m, .int .i64 d] 44)) (ha.below HB0.out (Nat.le_refl _)))
  have HD := Lib.hid (fun n => (HQ0.drewN n).cell 2 (v := .int .i64 d) rfl)
  clear HQ0
  unfold dateA
  by_cases h : ymB y m = true
  · have hE : longV y m = (lenV y m, 0) := by unfold longV; rw [if_pos h]
    rw [hE] at HL
    have HV := Lib.hid (show checkV y m d = if 1 ≤ d ∧ d ≤ lenV y m then 0 else 10 by unfold checkV dateB; rw [h, Bool.true_and]; simp only [decide_eq_true_eq])
    clear hE h
    generalize lenV y m = l at *
    by_cases h1 : 1 ≤ d
    · by_cases h2 : d ≤ l
      · rw [if_pos ⟨h1, h2⟩] at HV
        go_enter Tryz.func155, Tryz.ntmps155
        go_wp2_with fail
        refine HL.out.mono ?_
        rintro e w1 ⟨rfl, n, rfl⟩
        have d2 := HD.out n
        have HB1 := Lib.hid (below_drewN HB0.out n)
        go_wp2_with fail
        go_ret
        exact ⟨by rw [HV.out]; rfl, HB1.out⟩
      · rw [if_neg (by omega)] at HV
        go_enter Tryz.func155, Tryz.ntmps155
        go_wp2_with fail
        refine HL.out.mono ?_
        rintro e w1 ⟨rfl, n, rfl⟩
        have d2 := HD.out n
        have HB1 := Lib.hid (below_drewN HB0.out n)
        go_wp2_with fail
        go_ret
        exact ⟨by rw [HV.out]; rfl, HB1.out⟩
    · rw [if_neg (by omega)] at HV
      go_enter Tryz.func155, Tryz.ntmps155
      go_wp2_with fail
      refine HL.out.mono ?_
      rintro e w1 ⟨rfl, n, rfl⟩
      have d2 := HD.out n
      have HB1 := Lib.hid (below_drewN HB0.out n)
      go_wp2_with fail
      go_ret
      exact ⟨by rw [HV.out]; rfl, HB1.out⟩
  · have hE : longV y m = (0, 10) := by unfold longV; rw [if_neg h]
    rw [hE] at HL
    have HV := Lib.hid (show checkV y m d = 10 by unfold checkV dateB; rw [Bool.eq_false_iff.2 h]; rfl)
    clear hE h
    go_enter Tryz.func155, Tryz.ntmps155
    go_wp2_with fail
    refine HL.out.mono ?_
    rintro e w1 ⟨rfl, n, rfl⟩
    have d2 := HD.out n
    have HB1 := Lib.hid (below_drewN HB0.out n)
    go_wp2_with fail
    go_ret
    exact ⟨by rw [HV.out]; rfl, HB1.out⟩
set_option maxHeartbeats 1000000 in
theorem days_any (y m d : Int) (w : World) (ha : Ahead w) :
    Calls Tryz.prog 124 #[dateA y m d] w fun e w' => e = .returned (if dateB y m d then .tuple #[.int .i64 (dayV y m d), .int .i64 0] else .tuple #[.int .i64 0, .int .i64 10]) ∧ Below w.heap.size w w' := by
  have HB0 := Lib.hid ((Below.refl w.heap.size w).alloc (Nat.le_refl _) (.cells #[.int .i64 y, .int .i64 m, .int .i64 d] 44))
  have HQ0 := Lib.hid (Blk.new w 44 #[.int .i64 y, .int .i64 m, .int .i64 d])
  have HA := Lib.hid (ha.below HB0.out (Nat.le_refl _))
  have HL := Lib.hid (dcheck_any y m d _ HA.out)
  unfold checkV at HL
  unfold dateA at *
  cases h : dateB y m d
  · rw [h] at HL
    clear h
    go_enter Tryz.func124, Tryz.ntmps124
    go_wp2_with fail
    refine HL.out.mono ?_
    rintro e w1 ⟨rfl, hb⟩
    have HB1 := Lib.hid (HB0.out.trans (hb.mono HB0.out.size))
    clear hb
    go_wp2_with fail
    refine bodyPost_ret (v := .tuple #[.int .i64 0, .int .i64 10]) ?_ rfl ⟨rfl, HB1.out⟩
    simp [results, Tryz.f124, go_sem]
  · rw [h] at HL
    obtain ⟨h1, h2, h3, h4, h5, h6⟩ := dateB_in h
    have hy := yearV_in (y := y) (by omega) (by omega)
    have hs := startV_in y m
    have hlen := lenV_in (y := y) h3 h4
    have HY := Lib.hid (fun W => year_any y (by omega) (by omega) W)
    have HS := Lib.hid (fun W ha => start_any y m h3 h4 W ha)
    have HV := Lib.hid (show dayV y m d = yearV y + startV y m + d - 1 from rfl)
    clear h
    generalize dayV y m d = v at *
    generalize yearV y = a at *
    generalize startV y m = b at *
    generalize lenV y m = c at *
    go_enter Tryz.func124, Tryz.ntmps124
    go_wp2_with fail
    refine HL.out.mono ?_
    rintro e w1 ⟨rfl, hb⟩
    have HB1 := Lib.hid (HB0.out.trans (hb.mono HB0.out.size))
    have hQ1 := HQ0.out.below hb HQ0.out.lt
    have HA1 := Lib.hid (HA.out.below hb (Nat.le_refl _))
    have q0 := hQ1.cell 0 (v := .int .i64 y) rfl
    have q1 := hQ1.cell 1 (v := .int .i64 m) rfl
    have q2 := hQ1.cell 2 (v := .int .i64 d) rfl
    clear hb hQ1
    go_wp2_with fail
    go_quiet (first
      | (go_at_call 86; exact Calls.quiet_of_same (HY.out _))
      | (go_at_call 88; exact Calls.quiet_of_same (HS.out _ HA1.out)))
    go_wp2_with fail
    refine bodyPost_ret (v := .tuple #[.int .i64 v, .int .i64 0]) ?_ rfl ⟨rfl, below_drewN HB1.out _⟩
    rw [HV.out]
    simp [results, Tryz.f124, go_sem]
end Go.Proofs.YteekjfgjmccdnaaGreatDoor
end

section
/- CMathB: The calendar, as numbers: which date a day is. -/
namespace Go.Proofs.YteekjfgjmccdnaaGreatDoor
open Go
set_option maxRecDepth 100000

/-- The month of a day of a year (counted from 0 on), no later than the k-th. -/
def monV (y n : Int) : Nat → Int
  | 0 => 0
  | k + 1 => if n < startV y ((k : Int) + 1) then monV y n k else (k : Int) + 1
/-- Which year a day is in, and which day of it, from 0 on. -/
def ofC (n : Int) : Int := (n + 719162) / 146097
def ofE (n : Int) : Int := min ((n + 719162 - ofC n * 146097) / 36524) 3
def ofO (n : Int) : Int := (n + 719162 - ofC n * 146097 - ofE n * 36524) / 1461
def ofY (n : Int) : Int := min ((n + 719162 - ofC n * 146097 - ofE n * 36524 - ofO n * 1461) / 365) 3
def ofR (n : Int) : Int := n + 719162 - ofC n * 146097 - ofE n * 36524 - ofO n * 1461 - ofY n * 365
def ofYear (n : Int) : Int := ofC n * 400 + ofE n * 100 + ofO n * 4 + ofY n + 1
theorem startV_one (y : Int) : startV y 1 = 0 := by unfold startV; simp [aheadV]
theorem startV_mono {y : Int} : ∀ (k : Nat) {j : Nat}, k < 12 → j ≤ k → startV y ((j : Int) + 1) ≤ startV y ((k : Int) + 1)
  | 0, j, _, h => by obtain rfl : j = 0 := by omega
                     exact Int.le_refl _
  | k + 1, j, hk, h => by
    by_cases e : j = k + 1
    · subst e; exact Int.le_refl _
    · have h1 := startV_mono (y := y) k (j := j) (by omega) (by omega)
      have h2 := startV_next (y := y) (m := (k : Int) + 1) (by omega) (by omega)
      have h3 := lenV_in (y := y) (m := (k : Int) + 1) (by omega) (by omega)
      rw [show ((k + 1 : Nat) : Int) + 1 = (k : Int) + 1 + 1 by omega]
      omega
theorem monV_spec {y n : Int} (h0 : 0 ≤ n) : ∀ (k : Nat), 1 ≤ k → k ≤ 12 → 1 ≤ monV y n k ∧ monV y n k ≤ k ∧ startV y (monV y n k) ≤ n ∧ (monV y n k < k → n < startV y (monV y n k + 1))
  | 0, h, _ => by omega
  | k + 1, _, hk => by
    unfold monV
    by_cases h : n < startV y ((k : Int) + 1)
    · rw [if_pos h]
      have hk1 : 1 ≤ k := by
        rcases k with _ | k
        · rw [show ((0 : Nat) : Int) + 1 = 1 from rfl, startV_one] at h
          omega
        · omega
      obtain ⟨a, b, c, d⟩ := monV_spec (y := y) h0 k hk1 (by omega)
      refine ⟨a, by omega, c, fun _ => ?_⟩
      by_cases e : monV y n k < k
      · exact d e
      · rw [show monV y n k = (k : Int) by omega]
        exact h
    · rw [if_neg h]
      exact ⟨by omega, by omega, by omega, fun h => by omega⟩
theorem of_parts (n : Int) : 0 ≤ ofE n ∧ ofE n ≤ 3 ∧ 0 ≤ ofO n ∧ ofO n ≤ 24 ∧ 0 ≤ ofY n ∧ ofY n ≤ 3 ∧ 0 ≤ ofR n ∧ ofR n ≤ 365 ∧ (ofR n = 365 → ofY n = 3 ∧ (ofO n = 24 → ofE n = 3)) := by
  unfold ofR ofY ofO ofE ofC
  omega
theorem of_back (n : Int) : yearV (ofYear n) + ofR n = n := by
  have h := of_parts n
  have hr : ofR n = n + 719162 - ofC n * 146097 - ofE n * 36524 - ofO n * 1461 - ofY n * 365 := rfl
  unfold yearV ofYear
  generalize ofE n = e at *
  generalize ofO n = o at *
  generalize ofY n = y at *
  generalize ofC n = c at *
  generalize ofR n = r at *
  have h4 : (c * 400 + e * 100 + o * 4 + y + 1 - 1) / 4 = c * 100 + e * 25 + o := by omega
  have h1 : (c * 400 + e * 100 + o * 4 + y + 1 - 1) / 100 = c * 4 + e := by omega
  have h0 : (c * 400 + e * 100 + o * 4 + y + 1 - 1) / 400 = c := by omega
  rw [h4, h1, h0]
  omega
theorem of_rest (n : Int) : ofR n < 365 + leapsV (ofYear n) := by
  have h := of_parts n
  have hl := leapsV_in (ofYear n)
  by_cases h5 : ofR n = 365
  · have hy := h.2.2.2.2.2.2.2.2 h5
    have : leapB (ofYear n) = true := by
      unfold leapB ofYear
      rw [decide_eq_true_eq]
      generalize ofE n = e at *
      generalize ofO n = o at *
      generalize ofC n = c at *
      by_cases h24 : o = 24
      · have := hy.2 h24
        omega
      · omega
    unfold leapsV
    rw [if_pos this]
    omega
  · omega
theorem yearV_mono {a b : Int} (h : a ≤ b) : yearV a ≤ yearV b := by unfold yearV; omega
theorem yearV_next (y : Int) : yearV (y + 1) = yearV y + 365 + leapsV y := by
  unfold yearV leapsV leapB
  split <;> simp only [decide_eq_true_eq] at * <;> omega
/-- The date of a day. -/
def ofMon (n : Int) : Int := monV (ofYear n) (ofR n) 12
def ofDay (n : Int) : Int := ofR n - startV (ofYear n) (ofMon n) + 1
theorem of_date {n : Int} (h1 : -37243778 ≤ n) (h2 : n < 35805088) : dateB (ofYear n) (ofMon n) (ofDay n) = true ∧ dayV (ofYear n) (ofMon n) (ofDay n) = n := by
  have hb := of_back n
  have hr := of_rest n
  have hp := of_parts n
  have hy : -100000 ≤ ofYear n ∧ ofYear n ≤ 100000 := by
    have h3 := yearV_next (ofYear n)
    have h4 := yearV_mono (a := ofYear n + 1) (b := -100000)
    have h5 := yearV_mono (a := 100001) (b := ofYear n)
    have e1 : yearV (-100000) = -37243778 := by decide
    have e2 : yearV 100001 = 35805088 := by decide
    omega
  obtain ⟨m1, m2, m3, m4⟩ := monV_spec (y := ofYear n) (n := ofR n) (by omega) 12 (by omega) (by omega)
  have hm : monV (ofYear n) (ofR n) 12 = ofMon n := rfl
  rw [hm] at m1 m2 m3 m4
  have m2 : ofMon n ≤ 12 := m2
  have hd : ofR n < startV (ofYear n) (ofMon n) + lenV (ofYear n) (ofMon n) := by
    by_cases e : ofMon n < 12
    · rw [← startV_next (by omega) e]
      exact m4 e
    · rw [show ofMon n = 12 by omega, startV_dec]
      exact hr
  constructor
  · unfold dateB ymB ofDay
    rw [Bool.and_eq_true, decide_eq_true_eq, decide_eq_true_eq]
    omega
  · unfold dayV ofDay
    omega
end Go.Proofs.YteekjfgjmccdnaaGreatDoor
end

section
/- CivilD: Layer 2 walked: Of. -/
namespace Go.Proofs.YteekjfgjmccdnaaGreatDoor
open Go Go.RowKit Go.Shelf
set_option maxRecDepth 100000

set_option maxHeartbeats 4000000 in
theorem of_any (n : Int) (h1 : -37243778 ≤ n) (h2 : n < 35805088) (w : World) (ha : Ahead w) :
    Calls Tryz.prog 49 #[.int .i64 n] w fun e w' => e = .returned (.tuple #[dateA (ofYear n) (ofMon n) (ofDay n), .int .i64 0]) ∧ Below w.heap.size w w' := by
  have e1 : yearV (-100000) = -37243778 := by decide
  have e2 : yearV 100001 = 35805088 := by decide
  have HY1 := Lib.hid (fun W => year_any (-100000) (by omega) (by omega) W)
  have HY2 := Lib.hid (fun W => year_any 100001 (by omega) (by omega) W)
  rw [e1] at HY1
  rw [e2] at HY2
  have HF := Lib.hid (fun W => floor_any (n + 719162) 146097 (by omega) (by omega) (by omega) W)
  have hc : 0 ≤ n + 719162 - ofC n * 146097 ∧ n + 719162 - ofC n * 146097 < 146097 ∧ -260 ≤ ofC n ∧ ofC n ≤ 260 := by unfold ofC; omega
  rw [show (n + 719162) / 146097 = ofC n from rfl] at HF
  clear e1 e2
  go_enter Tryz.func49, Tryz.ntmps49
  go_wp2_with fail
  refine (HY1.out _).mono ?_
  rintro e w1 ⟨rfl, rfl⟩
  go_wp2_with fail
  refine (HY2.out _).mono ?_
  rintro e w1 ⟨rfl, rfl⟩
  go_wp2_with fail
  refine (HF.out _).mono ?_
  rintro e w1 ⟨rfl, rfl⟩
  go_wp2_with fail
  have eE : min ((n + 719162 - ofC n * 146097) / 36524) 3 = ofE n := rfl
  have eO : (n + 719162 - ofC n * 146097 - ofE n * 36524) / 1461 = ofO n := rfl
  have eY : min ((n + 719162 - ofC n * 146097 - ofE n * 36524 - ofO n * 1461) / 365) 3 = ofY n := rfl
  have eR : n + 719162 - ofC n * 146097 - ofE n * 36524 - ofO n * 1461 - ofY n * 365 = ofR n := rfl
  have eN : ofC n * 400 + ofE n * 100 + ofO n * 4 + ofY n + 1 = ofYear n := rfl
  rw [eE, eO, eY, eR, eN]
  have hp := of_parts n
  have hr0 := hp.2.2.2.2.2.2.1
  have hr1 := hp.2.2.2.2.2.2.2.1
  have HOM := Lib.hid (show ofMon n = monV (ofYear n) (ofR n) 12 from rfl)
  have HOD := Lib.hid (show ofDay n = ofR n - startV (ofYear n) (ofMon n) + 1 from rfl)
  clear hp hc eE eO eY eR eN HY1 HY2 HF
  have hb0 := (Blk.new w 44 #[.int .i64 0, .int .i64 0, .int .i64 0]).alloc (.cells #[.int .i64 (ofYear n), .int .i64 12, .int .i64 0] 44)
  have hb1 := Blk.new (w.alloc (.cells #[.int .i64 0, .int .i64 0, .int .i64 0] 44)) 44 #[.int .i64 (ofYear n), .int .i64 12, .int .i64 0]
  rw [World.size_alloc] at hb1
  have HI := Lib.hid (And.intro hb0 hb1)
  clear hb0 hb1
  generalize hY : ofYear n = Y at *
  generalize ofR n = R at *
  generalize hM : ofMon n = M at *
  generalize hD : ofDay n = D at *
  have HYMD := Lib.hid (And.intro hY (And.intro hM hD))
  clear hY hM hD
  go_loopw [65] (fun _ wr => ∃ k : Nat, k < 12 ∧ Below w.heap.size w wr ∧ Blk wr w.heap.size 44 #[.int .i64 0, .int .i64 0, .int .i64 0] ∧ Blk wr (w.heap.size + 1) 44 #[.int .i64 Y, .int .i64 ((k : Int) + 1), .int .i64 0] ∧ monV Y R 12 = monV Y R (k + 1)) (fun _ wr => (intOf ((wr.cell? ⟨w.heap.size + 1, 1, none⟩).getD undef)).toNat)
  case atStart => exact ⟨11, by omega, ((Below.refl _ _).alloc (Nat.le_refl _) _).alloc (by simp) _, HI.out.1, HI.out.2, rfl⟩
  case round =>
    obtain ⟨k, hk, hbw, hres, hbox, hmon⟩ := hrel
    have HB := Lib.hid hbw
    have HRS := Lib.hid hres
    have HBX := Lib.hid hbox
    have HST := Lib.hid (start_any Y ((k : Int) + 1) (by omega) (by omega) wr (ha.below hbw (Nat.le_refl _)))
    have c0 := hbox.cell 0 (v := .int .i64 Y) rfl
    have c1 := hbox.cell 1 (v := .int .i64 ((k : Int) + 1)) rfl
    have c2 := hbox.cell 2 (v := .int .i64 0) rfl
    have f1 := hbox.frozen 1
    have f2 := hbox.frozen 2
    have r0 := hres.cell 0 (v := .int .i64 0) rfl
    have r1 := hres.cell 1 (v := .int .i64 0) rfl
    have r2 := hres.cell 2 (v := .int .i64 0) rfl
    have g0 := hres.frozen 0
    have g1 := hres.frozen 1
    have g2 := hres.frozen 2
    have hsz := hbox.lt
    have hs := startV_in Y ((k : Int) + 1)
    have HMN := Lib.hid hmon
    have HS1 := Lib.hid (startV_one Y)
    obtain ⟨s, hsv⟩ : ∃ s, startV Y ((k : Int) + 1) = s := ⟨_, rfl⟩
    rw [hsv] at HST hs
    have HSV := Lib.hid hsv
    clear hbw hres hbox hmon hsv
    go_wp2_with fail
    refine HST.out.mono ?_
    rintro e w1 ⟨rfl, rfl⟩
    by_cases hlt : R < s
    · rcases k with _ | k
      · have h1 := HSV.out
        rw [show ((0 : Nat) : Int) + 1 = 1 from rfl, HS1.out] at h1
        omega
      · have HM2 := Lib.hid (show monV Y R 12 = monV Y R (k + 1) by
          rw [HMN.out]
          show (if R < startV Y (((k + 1 : Nat) : Int) + 1) then monV Y R (k + 1) else _) = _
          rw [HSV.out, if_pos hlt])
        have e1 : ((k + 1 : Nat) : Int) + 1 - 1 = (k : Int) + 1 := by omega
        go_wp2_with fail
        go_roundw
        case rel => exact ⟨k, by omega, HB.out.setCell (by show w.heap.size ≤ w.heap.size + 1; omega) _, HRS.out.other (by omega) _ _, by have h := HBX.out.set 1 (.int .i64 ((k : Int) + 1)); exact h, HM2.out⟩
        case measure =>
          rw [(HBX.out.set 1 (.int .i64 ((k : Int) + 1))).cell 1 (v := .int .i64 ((k : Int) + 1)) rfl, c1]
          simp only [Option.getD_some, intOf]
          omega
    · have HM2 := Lib.hid (show M = (k : Int) + 1 by
        rw [HOM.out, HMN.out]
        show (if R < startV Y ((k : Int) + 1) then monV Y R k else _) = _
        rw [HSV.out, if_neg hlt])
      have HD2 := Lib.hid (show D = R - s + 1 by rw [HOD.out, HM2.out, HSV.out])
      go_wp2_with fail
      refine (HST.out).mono ?_
      rintro e w1 ⟨rfl, rfl⟩
      go_wp2_with fail
      have hbx := HBX.out.set 2 (.int .i64 (R - s + 1))
      have HW := (((HRS.out.other (show w.heap.size ≠ w.heap.size + 1 by omega) 2 (.int .i64 (R - s + 1))).set 0 (.int .i64 Y)).set 1 (.int .i64 ((k : Int) + 1))).set 2 (.int .i64 (R - s + 1))
      have hbf := below_set3 (HB.out.setCell (show w.heap.size ≤ w.heap.size + 1 by omega) (p := ⟨w.heap.size + 1, 2, none⟩) (.int .i64 (R - s + 1))) (Nat.le_refl w.heap.size) (.int .i64 Y) (.int .i64 ((k : Int) + 1)) (.int .i64 (R - s + 1))
      refine bodyPost_ret (v := .tuple #[dateA Y ((k : Int) + 1) (R - s + 1), .int .i64 0]) ?_ rfl ⟨by rw [HYMD.out.1, HYMD.out.2.1, HYMD.out.2.2, HM2.out, HD2.out], hbf⟩
      have w0 := HW.cell 0 (v := .int .i64 Y) rfl
      have w1 := HW.cell 1 (v := .int .i64 ((k : Int) + 1)) rfl
      have w2 := HW.cell 2 (v := .int .i64 (R - s + 1)) rfl
      simp [results, Tryz.f49, go_sem, w0, w1, w2, dateA]
theorem of_out (n : Int) (h : ¬ (-37243778 ≤ n ∧ n < 35805088)) (w : World) :
    Calls Tryz.prog 49 #[.int .i64 n] w fun e w' => e = .returned (.tuple #[dateA 0 0 0, .int .i64 10]) ∧ Below w.heap.size w w' := by
  have e1 : yearV (-100000) = -37243778 := by decide
  have e2 : yearV 100001 = 35805088 := by decide
  have HY1 := Lib.hid (fun W => year_any (-100000) (by omega) (by omega) W)
  have HY2 := Lib.hid (fun W => year_any 100001 (by omega) (by omega) W)
  rw [e1] at HY1
  rw [e2] at HY2
  have hb0 := Blk.new w 44 #[.int .i64 0, .int .i64 0, .int .i64 0]
  have r0 := hb0.cell 0 (v := .int .i64 0) rfl
  have r1 := hb0.cell 1 (v := .int .i64 0) rfl
  have r2 := hb0.cell 2 (v := .int .i64 0) rfl
  have g0 := hb0.frozen 0
  have g1 := hb0.frozen 1
  have g2 := hb0.frozen 2
  have HI := Lib.hid hb0
  clear hb0 e1 e2
  by_cases h1 : n < -37243778
  · clear h
    go_enter Tryz.func49, Tryz.ntmps49
    go_wp2_with fail
    refine (HY1.out _).mono ?_
    rintro e w1 ⟨rfl, rfl⟩
    go_wp2_with fail
    all_goals try (refine (HY2.out _).mono ?_; rintro e w1 ⟨rfl, rfl⟩; go_wp2_with fail)
    refine bodyPost_ret (v := .tuple #[dateA 0 0 0, .int .i64 10]) ?_ rfl ⟨rfl, (Below.refl _ _).alloc (Nat.le_refl _) _⟩
    simp [results, Tryz.f49, go_sem, dateA]
  · have h2 : 35805088 ≤ n := by omega
    clear h
    go_enter Tryz.func49, Tryz.ntmps49
    go_wp2_with fail
    refine (HY1.out _).mono ?_
    rintro e w1 ⟨rfl, rfl⟩
    go_wp2_with fail
    all_goals try (refine (HY2.out _).mono ?_; rintro e w1 ⟨rfl, rfl⟩; go_wp2_with fail)
    refine bodyPost_ret (v := .tuple #[dateA 0 0 0, .int .i64 10]) ?_ rfl ⟨rfl, (Below.refl _ _).alloc (Nat.le_refl _) _⟩
    simp [results, Tryz.f49, go_sem, dateA]
end Go.Proofs.YteekjfgjmccdnaaGreatDoor
end

section
/- CivilE: Layer 8 walked: Check of a day of a month; days from one on. -/
namespace Go.Proofs.YteekjfgjmccdnaaGreatDoor
open Go Go.RowKit Go.Shelf
attribute [local go_sem] Oper.semAt_some
set_option maxRecDepth 100000

def dayA (k wk n : Int) : Value := .agg #[.int .i64 k, .int .i64 wk, .int .i64 n]
def dayOkB (k wk n : Int) : Bool := decide ((k = 0 ∧ 1 ≤ n ∧ n ≤ 31 ∧ wk = 0) ∨ (k = 1 ∧ n = 0 ∧ 0 ≤ wk ∧ wk < 7) ∨ ((k = 2 ∨ k = 3) ∧ 1 ≤ n ∧ n ≤ 31 ∧ 0 ≤ wk ∧ wk < 7))
set_option maxHeartbeats 2000000 in
theorem dfcheck_any (k wk n : Int) (w : World) :
    Calls Tryz.prog 46 #[dayA k wk n] w fun e w' => e = .returned (.int .i64 (if dayOkB k wk n then 0 else 10)) ∧ Below w.heap.size w w' := by
  have HB0 := Lib.hid (fun (o : Obj) => (Below.refl w.heap.size w).alloc (Nat.le_refl _) o)
  have HQ0 := Blk.new w 36 #[.int .i64 k, .int .i64 wk, .int .i64 n]
  have q0 := HQ0.cell 0 (v := .int .i64 k) rfl
  have q1 := HQ0.cell 1 (v := .int .i64 wk) rfl
  have q2 := HQ0.cell 2 (v := .int .i64 n) rfl
  obtain ⟨V, hV⟩ : ∃ V : Int, (if dayOkB k wk n then 0 else 10) = V := ⟨_, rfl⟩
  rw [hV]
  have HV := Lib.hid (show (if (k = 0 ∧ 1 ≤ n ∧ n ≤ 31 ∧ wk = 0) ∨ (k = 1 ∧ n = 0 ∧ 0 ≤ wk ∧ wk < 7) ∨ ((k = 2 ∨ k = 3) ∧ 1 ≤ n ∧ n ≤ 31 ∧ 0 ≤ wk ∧ wk < 7) then (0 : Int) else 10) = V by
    rw [← hV]
    unfold dayOkB
    simp only [decide_eq_true_eq])
  clear hV
  clear HQ0
  unfold dayA
  by_cases h1 : 1 ≤ n
  · by_cases h2 : 0 ≤ wk
    ·
      go_enter Tryz.func46, Tryz.ntmps46
      go_wp2_with fail
      go_quiet (fail)
      go_wp2_with fail
      all_goals
        go_ret
        refine ⟨?_, below_drewN (HB0.out _) _⟩
        have hv := HV.out
        simp only [beq_iff_eq, beq_eq_false_iff_ne, ne_eq, decide_eq_true_eq, decide_eq_false_iff_not, Bool.not_eq_true', Bool.not_eq_false'] at *
        split at hv
        all_goals first | (rw [← hv]; rfl) | (exfalso; omega) | done
    · have hd2 : decide (0 ≤ wk) = false := decide_eq_false h2
      go_enter Tryz.func46, Tryz.ntmps46
      go_wp2_with fail
      go_quiet (fail)
      go_wp2_with fail
      all_goals
        go_ret
        refine ⟨?_, below_drewN (HB0.out _) _⟩
        have hv := HV.out
        simp only [beq_iff_eq, beq_eq_false_iff_ne, ne_eq, decide_eq_false_iff_not, Bool.not_eq_true', Bool.not_eq_false'] at *
        split at hv
        all_goals first | (rw [← hv]; rfl) | (exfalso; omega) | done
  · have hd1 : decide (1 ≤ n) = false := decide_eq_false h1
    by_cases h2 : 0 ≤ wk
    ·
      go_enter Tryz.func46, Tryz.ntmps46
      go_wp2_with fail
      go_quiet (fail)
      go_wp2_with fail
      all_goals
        go_ret
        refine ⟨?_, below_drewN (HB0.out _) _⟩
        have hv := HV.out
        simp only [beq_iff_eq, beq_eq_false_iff_ne, ne_eq, decide_eq_true_eq, decide_eq_false_iff_not, Bool.not_eq_true', Bool.not_eq_false'] at *
        split at hv
        all_goals first | (rw [← hv]; rfl) | (exfalso; omega) | done
    · have hd2 : decide (0 ≤ wk) = false := decide_eq_false h2
      go_enter Tryz.func46, Tryz.ntmps46
      go_wp2_with fail
      go_quiet (fail)
      go_wp2_with fail
      all_goals
        go_ret
        refine ⟨?_, below_drewN (HB0.out _) _⟩
        have hv := HV.out
        simp only [beq_iff_eq, beq_eq_false_iff_ne, ne_eq, decide_eq_false_iff_not] at *
        split at hv
        all_goals first | (rw [← hv]; rfl) | (exfalso; omega) | done
set_option maxHeartbeats 1000000 in
theorem from_any (a st : Int) (w : World) : Calls Tryz.prog 152 #[.int .i64 a, .int .i64 st] w fun e w' => e = .returned (.func (.func 176) #[] #[.pointer (some ⟨w.heap.size, 0, none⟩), .pointer (some ⟨w.heap.size + 1, 0, none⟩)]) ∧ Below w.heap.size w w' ∧ w'.heap.size = w.heap.size + 2 ∧
    Blk w' w.heap.size 3 #[.int .i64 a] ∧ Blk w' (w.heap.size + 1) 3 #[.int .i64 st] := by
  have h1 := Blk.new w 3 #[.int .i64 a]
  have h2 := Blk.new (w.alloc (.cells #[.int .i64 a] 3)) 3 #[.int .i64 st]
  simp only [World.size_alloc] at h2
  have HB := Lib.hid (show Below w.heap.size w ((w.alloc (.cells #[.int .i64 a] 3)).alloc (.cells #[.int .i64 st] 3)) from ((Below.refl _ _).alloc (Nat.le_refl _) _).alloc (by simp) _)
  have HH := Lib.hid (show _ ∧ _ from ⟨h1.alloc (.cells #[.int .i64 st] 3), h2⟩)
  clear h1 h2
  go_enter Tryz.func152, Tryz.ntmps152
  go_wp2_with fail
  go_ret
  exact ⟨rfl, HB.out, by simp, HH.out⟩
def encD (f : Nat → Int) (k : Nat) : Array Value := #[.int .i64 (f k)]
set_option maxHeartbeats 2000000 in
theorem from1_in (n : Nat) (hn : 2 ≤ n) (lp db sb : Nat) (f : Nat → Int) (st : Int) (W : World) (hf : ∀ k, f (k + 1) = f k + st) (hb : ∀ k, k ≤ 7 → -100000000 ≤ f k ∧ f k ≤ 100000000) (hst : -1 ≤ st ∧ st ≤ 1)
    (hd : Blk W db 3 #[.int .i64 (f 0)]) (hs : Blk W sb 3 #[.int .i64 st]) (hne : db ≠ sb)
    (J Jx : List Nat → (Nat → Prop) → World → Prop) (fJ : Feet J) (hY : RoundsIn Fence.wide (n - 1) Tryz.prog lp (encD f) (fun pre k D _ => (∀ j, ¬ D j) ∧ k = pre.length ∧ k < 7) J Jx)
    (O0 : Nat → Prop) (h0 : J [] O0 W) (hO0 : Bd O0 W) (hK : ∀ k, (k = db ∨ k = sb) → ¬ O0 k) :
    CallsIn Fence.wide n Tryz.prog 176 #[.func (.yield lp) #[] #[], .pointer (some ⟨db, 0, none⟩), .pointer (some ⟨sb, 0, none⟩)] W (IterEnd (fun xs : List Nat => xs.length = 7) (fun _ => True) J Jx O0 (fun k => k = db) W) := by
  have HD := Lib.hid hd
  have HS := Lib.hid hs
  refine callsIn_of_wp Tryz.func176 rfl trivial ?_ rfl
  simp only [Tryz.ntmps176, List.size_toArray, List.length_cons, List.length_nil, Nat.reduceAdd, Nat.reduceSub, Array.replicate_succ, Array.replicate_zero, List.push_toArray, List.append_toArray, List.nil_append, List.cons_append]
  gi_wp2
  gi_loopw [4] (fun iv wr => ∃ (pre : List Nat) (O : Nat → Prop), iv = .int .i64 (pre.length : Nat) ∧ pre.length ≤ 7 ∧ J pre O wr ∧ Bd O wr ∧ (∀ k, O k → O0 k ∨ W.heap.size ≤ k) ∧ Fr (fun k => O0 k ∨ k = db) W wr ∧ Blk wr db 3 #[.int .i64 (f pre.length)] ∧ Blk wr sb 3 #[.int .i64 st]) (fun iv _ => 7 - (intOf iv).toNat)
  case atStart => exact ⟨[], O0, rfl, by simp, h0, hO0, fun k h => .inl h, Fr.refl _ _, HD.out, HS.out⟩
  case round =>
    obtain ⟨pre, O, rfl, hle, hJ, hbd, hex, hfr, hbd1, hbs1⟩ := hrel
    have HJ := Lib.hid hJ
    have HBD := Lib.hid hbd
    have HEX := Lib.hid hex
    have HFR := Lib.hid hfr
    have HD1 := Lib.hid hbd1
    have HS1 := Lib.hid hbs1
    have qd := hbd1.cell 0 (v := .int .i64 (f pre.length)) rfl
    clear hJ hbd hex hfr hbd1 hbs1
    by_cases hlt : pre.length < 7
    · have hOn : ∀ k, (k = db ∨ k = sb) → ¬ O k := fun k hk ho => by
        rcases HEX.out k ho with h | h
        · exact hK k hk h
        · have h1 := HD.out.lt
          have h2 := HS.out.lt
          rcases hk with rfl | rfl <;> omega
      have hnx := hf pre.length
      have hb1 := hb pre.length (by omega)
      have hb2 := hb (pre.length + 1) (by omega)
      gi_wp2
      obtain ⟨fn, tmps, assign, body, hyd, hR⟩ := hY pre pre.length (fun _ => False) O wr HJ.out HBD.out (fun _ h => h.elim) (fun _ h => h.elim) ⟨fun _ h => h, rfl, hlt⟩
      unfold encD at hyd
      rw [hyd]
      gi_wp2
      refine ⟨fun _ => by omega, hR.mono ?_⟩
      rintro e W5 ⟨O5, hx5, hbd5, hf5, (⟨rfl, hJ5⟩ | ⟨rfl, hJx5⟩)⟩
      · have hd5 := HD1.out.fr hf5 (fun e => by rcases e with e | e; exact hOn _ (.inl rfl) e; exact e)
        have hs5 := HS1.out.fr hf5 (fun e => by rcases e with e | e; exact hOn _ (.inr rfl) e; exact e)
        have qd := hd5.cell 0 (v := .int .i64 (f pre.length)) rfl
        have qs := hs5.cell 0 (v := .int .i64 st) rfl
        have qf := hd5.frozen 0
        have HD5 := Lib.hid hd5
        have HS5 := Lib.hid hs5
        have hdl := hd5.lt
        clear hd5 hs5 hyd hR
        gi_wp2
        have hls : (pre ++ [pre.length]).length = pre.length + 1 := by simp
        have nO5 : ∀ k, (k = db ∨ k = sb) → ¬ O5 k := fun k hk ho => by
          rcases hx5 k ho with h | h | h
          · exact hOn k hk h
          · exact h
          · have h1 := HD1.out.lt
            have h2 := HS1.out.lt
            rcases hk with rfl | rfl <;> omega
        refine ⟨⟨pre ++ [pre.length], O5, by rw [hls]; go_num, by omega, fJ _ _ _ _ hJ5 ((Fr.setCell (T := fun k => k = db) W5 0 _ rfl).mono fun k hk => .inl fun hO => nO5 _ (.inl hk) hO), hbd5.fr (Fr.setCell (T := fun k => k = db) W5 0 _ rfl), fun k hk => ?_, ?_, ?_, HS5.out.other hne.symm 0 _⟩, by simp only [intOf]; omega⟩
        · rcases hx5 k hk with h | h | h
          · exact HEX.out k h
          · exact h.elim
          · have := HFR.out.size; exact .inr (by omega)
        · refine (HFR.out.trans hf5 fun k hk => ?_).then (Fr.setCell W5 0 _ (.inr rfl))
          rcases hk with h | h
          · rcases HEX.out k h with h | h
            · exact .inl (.inl h)
            · exact .inr h
          · exact h.elim
        · rw [hls, hnx]
          exact HD5.out.set 0 _
      · gi_wp2
        refine bodyPost_end (results_none rfl _ _ _) rfl ?_
        refine ⟨⟨_, rfl⟩, O5, fun k hk => ?_, hbd5, HFR.out.trans hf5 fun k hk => ?_, .inr ⟨_, trivial, hJx5⟩⟩
        · rcases hx5 k hk with h | h | h
          · exact HEX.out k h
          · exact h.elim
          · have := HFR.out.size; exact .inr (by omega)
        · rcases hk with h | h
          · rcases HEX.out k h with h | h
            · exact .inl (.inl h)
            · exact .inr h
          · exact h.elim
    · have h7 : pre.length = 7 := by omega
      gi_wp2
      refine bodyPost_end (results_none rfl _ _ _) rfl ?_
      exact ⟨⟨_, rfl⟩, O, HEX.out, HBD.out, HFR.out, .inl ⟨pre, h7, HJ.out⟩⟩
theorem from1_iter (n : Nat) (hn : 2 ≤ n) (db sb : Nat) (f : Nat → Int) (st : Int) (W : World) (hf : ∀ k, f (k + 1) = f k + st) (hb : ∀ k, k ≤ 7 → -100000000 ≤ f k ∧ f k ≤ 100000000) (hst : -1 ≤ st ∧ st ≤ 1)
    (hd : Blk W db 3 #[.int .i64 (f 0)]) (hs : Blk W sb 3 #[.int .i64 st]) (hne : db ≠ sb) :
    Iter Fence.wide n Tryz.prog 176 #[.pointer (some ⟨db, 0, none⟩), .pointer (some ⟨sb, 0, none⟩)] (encD f) (fun pre k D _ => (∀ j, ¬ D j) ∧ k = pre.length ∧ k < 7) (fun xs => xs.length = 7) (fun _ => True) (fun k => k = db ∨ k = sb) (fun k => k = db) W :=
  fun lp J Jx fJ _ hY O h0 hO hK => from1_in n hn lp db sb f st W hf hb hst hd hs hne J Jx fJ hY O h0 hO hK
end Go.Proofs.YteekjfgjmccdnaaGreatDoor
end

section
/- FrmS: A range over a function whose round begins by writing into memory of the loop's own (a variable that stands outside). -/
namespace Go.Proofs.YteekjfgjmccdnaaGreatDoor
open Go Go.RowKit

section
variable {F : Fence} {n : Nat} {P : Program}
theorem range_own_set {α : Type} {g : Operand} {ps : Array Tmp} {assign body : Code} {Q : Exit → Act → World → Prop} {a : Act} {w : World}
    (hro : F.round = none) (h1 : 1 ≤ n) {gf : Nat} {lb : Array Value} (hg : a.eval g = .func (.func gf) #[] lb) (hFg : F.fn gf) (eg : ∀ args w, (callFunc gf args).run P w = .ok (.enter gf args) w)
    {encs : α → Array Value} {R : List α → α → (Nat → Prop) → World → Prop} {S Sp : List α → Prop} {K M : Nat → Prop}
    (hseq : ∀ W, Below w.heap.size w W → Iter F (n - 1) P gf lb encs R S Sp K M W) (hps : ∀ x, (encs x).size = ps.size)
    (I : List α → (Nat → Prop) → World → Prop) (Ix : Code → List α → (Nat → Prop) → World → Prop) (hI : Feet I) (hIx : ∀ c, Feet (Ix c)) (Ip : List α → α → (Nat → Prop) → World → Prop) (hIp : ∀ x, Feet (fun pre => Ip pre x)) (O0 : Nat → Prop) (h0 : I [] O0 w) (hO0 : Bd O0 w) (hM : Bd K w) (hMO : ∀ k, K k → ¬ O0 k)
    (hround : ∀ (l : Nat) (pre : List α) (x : α) (O D : Nat → Prop) (W : World), I pre O W → Bd O W → Bd D W → (∀ k, D k → ¬ O k) → R pre x D W → ¬ O l → ¬ D l → w.heap.size < l → l < W.heap.size →
      assign.wpIn (F.inRound l) (n - 1 - 1) P (Exit.then (fun a' Wa => (Fr O W Wa ∧ Ip pre x O Wa) ∧ ∀ Wb, Fr (fun k => k = l) Wa Wb → Ip pre x O Wb → (∃ r, Wb.heap[l]? = some (.loop r)) → body.wpIn (F.inRound l) (n - 1 - 1) P (leftO I Ix (pre ++ [x]) O D Wb) a' Wb) (fun _ _ _ => False))
        { tmps := (ps.zip (encs x)).foldl (fun t (p, v) => t.setIfInBounds p v) a.tmps, defers := [] } W)
    (hdone : ∀ (B : Nat) (xs : List α) (O : Nat → Prop) (W : World), w.heap.size ≤ B → S xs → I xs O W → (∀ k, O k → O0 k ∨ w.heap.size ≤ k) → Bd O W → ¬ O B → Fr (fun k => O0 k ∨ M k) w W → W.heap[B]? = some (.deferred (some [])) → Q .normal { a with defers := { target := .collected B, args := #[] } :: a.defers } W)
    (hstop : ∀ (B : Nat) (c : Code) (pre : List α) (O : Nat → Prop) (W : World), w.heap.size ≤ B → Sp pre → Ix c pre O W → (∀ k, O k → O0 k ∨ w.heap.size ≤ k) → Bd O W → ¬ O B → Fr (fun k => O0 k ∨ M k) w W → W.heap[B]? = some (.deferred (some [])) → c.wpIn F n P Q { a with defers := { target := .collected B, args := #[] } :: a.defers } W) :
    (Code.rangeFunc g ps assign body).wpIn F n P Q a w := by
  refine wpIn_rangeFunc fun fn hfn => ?_
  rw [hro]
  generalize hT : w.heap.size = T at *
  generalize hrec : (fun (st : LoopState) (pe : Option Code) => ({ state := st, pending := pe, fn := fn, tmps := a.tmps, params := ps, assign := assign, body := body, defers := T } : Loop)) = rec
  have er : ∀ st pe, ({ state := st, pending := pe, fn := fn, tmps := a.tmps, params := ps, assign := assign, body := body, defers := T } : Loop) = rec st pe := fun st pe => by rw [← hrec]
  have rs : ∀ st pe, (rec st pe).state = st := fun st pe => by rw [← hrec]
  have rp : ∀ st pe, (rec st pe).params = ps := fun st pe => by rw [← hrec]
  have rb : ∀ st pe, ({ rec st pe with state := .busy } : Loop) = rec .busy pe := fun st pe => by rw [← hrec]
  generalize hW1 : (w.alloc (.deferred (some []))).alloc (.loop (rec .ready none)) = W1
  have hs1 : W1.heap.size = T + 2 := by rw [← hW1]; simp [hT]
  have hl1 : W1.heap[T + 1]? = some (.loop (rec .ready none)) := by
    have := World.alloc_heap_new (w.alloc (.deferred (some []))) (.loop (rec .ready none))
    rw [World.size_alloc, hT] at this
    rw [← hW1]
    exact this
  have hd1 : W1.heap[T]? = some (.deferred (some [])) := by
    have h := World.alloc_heap_new w (.deferred (some []))
    rw [hT] at h
    rw [← hW1]
    exact (Below.heap_alloc _ _ _ (by simp [hT])).trans h
  have hb1 : Below T w W1 := by
    rw [← hW1]
    exact ((Below.refl _ w).alloc (by omega) _).alloc (by simp; omega) _
  have hf1 : ∀ X, Fr X w W1 := fun X => Fr.of_below hb1 (by omega)
  have en := run_enterLoop_outer (P := P) (w := w) fn a.tmps ps assign body
  rw [hT, er .ready none, hW1] at en
  refine ⟨T + 1, [{ target := .collected T, args := #[] }], W1, { target := .fn (.func gf) lb, args := #[.func (.yield (T + 1)) #[] #[]] }, W1, gf, #[.func (.yield (T + 1)) #[] #[]] ++ lb, W1, en, ?_, ?_, ?_, fun _ => h1, ?_⟩
  · simp only [resolve, hg]
    simp [go_sem]
  · intro f' hf'
    simp [Target.leads] at hf'
    rw [← hf']
    exact hFg
  · simp [invoke, go_sem, eg]
  have bO0 : ∀ k, O0 k → k < T := fun k hk => by have := hO0 k hk; omega
  have bM : ∀ k, K k → k < T := fun k hk => by have := hM k hk; omega
  refine (hseq W1 hb1 (T + 1)
    (fun pre O W => I pre (fun k => O k ∧ k ≠ T ∧ k ≠ T + 1) W ∧ O T ∧ O (T + 1) ∧ T + 2 ≤ W.heap.size ∧ W.heap[T + 1]? = some (.loop (rec .ready none)) ∧ W.heap[T]? = some (.deferred (some [])))
    (fun pre O W => (∃ c, Ix c pre (fun k => O k ∧ k ≠ T ∧ k ≠ T + 1) W ∧ W.heap[T + 1]? = some (.loop (rec .done (some c)))) ∧ O T ∧ O (T + 1) ∧ T + 2 ≤ W.heap.size ∧ W.heap[T]? = some (.deferred (some []))) ?feetJ ?feetX ?round
    (fun k => O0 k ∨ k = T ∨ k = T + 1) ⟨?i0, .inr (.inl rfl), .inr (.inr rfl), by omega, hl1, hd1⟩ ?bd (fun k hm h => by have := bM k hm; rcases h with h | h | h; exact hMO k hm h; omega; omega)).mono ?behind
  case feetJ =>
    rintro s O W W' ⟨hi, hT0, hT1, hs, hl, hd⟩ hf
    refine ⟨hI _ _ _ _ hi (hf.mono fun k hk => .inl fun h => hk h.1), hT0, hT1, Nat.le_trans hs hf.size, hf.at_ hl (by simpa using hT1), hf.at_ hd (by simpa using hT0)⟩
  case feetX =>
    rintro s O W W' ⟨⟨c, hi, hl⟩, hT0, hT1, hs, hd⟩ hf
    refine ⟨⟨c, hIx c _ _ _ _ hi (hf.mono fun k hk => .inl fun h => hk h.1), hf.at_ hl (by simpa using hT1)⟩, hT0, hT1, Nat.le_trans hs hf.size, hf.at_ hd (by simpa using hT0)⟩
  case i0 =>
    have e : (fun k => (O0 k ∨ k = T ∨ k = T + 1) ∧ k ≠ T ∧ k ≠ T + 1) = O0 := by
      funext k
      apply propext
      constructor
      · rintro ⟨h | h | h, h1, h2⟩
        · exact h
        · exact absurd h h1
        · exact absurd h h2
      · intro h
        have := bO0 k h
        exact ⟨.inl h, by omega, by omega⟩
    rw [e]
    exact hI _ _ _ _ h0 (hf1 _)
  case bd =>
    intro k hk
    rcases hk with hk | hk | hk
    · have := bO0 k hk; omega
    · omega
    · omega
  case round =>
    rintro pre x D O V ⟨hi, hT0, hT1, hsz, hlV, hkV⟩ hBO hBD hDO hR
    have hltV : T + 1 < V.heap.size := (Array.getElem?_eq_some_iff.1 hlV).1
    have hy := run_yield (P := P) (args := encs x) hlV (by rw [rp]; exact hps x)
    have hDT : ¬ D T := fun h => hDO T h hT0
    have hDT1 : ¬ D (T + 1) := fun h => hDO (T + 1) h hT1
    have e1 : (rec .ready none).fn = fn ∧ (rec .ready none).tmps = a.tmps ∧ (rec .ready none).assign = assign ∧ (rec .ready none).body = body := by rw [← hrec]; exact ⟨rfl, rfl, rfl, rfl⟩
    rw [e1.1, e1.2.1, e1.2.2.1, e1.2.2.2, rp] at hy
    refine ⟨fn, _, assign, body, hy, roundIn_of_wpIn hfn (wpIn_mono (hround (T + 1) pre x _ D V hi (fun k hk => hBO k hk.1) hBD (fun k hk h => hDO k hk h.1) hR (fun h => h.2.2 rfl) hDT1 (by omega) hltV) ?_)⟩
    rintro e a' Va hVa
    cases e with
    | normal => ?_
    | ret => exact hVa.elim
    | exit id => exact hVa.elim
    | goto t => exact hVa.elim
    | panic ch => exact hVa.elim
    | outgrown => exact hVa.elim
    obtain ⟨⟨hbV, hip⟩, hbody⟩ := hVa
    have hl := hbV.at_ hlV (fun h => h.2.2 rfl)
    have hk := hbV.at_ hkV (fun h => h.2.1 rfl)
    have hlt : T + 1 < Va.heap.size := Nat.lt_of_lt_of_le hltV hbV.size
    have hbr := run_beginRound (P := P) hl (rs _ _)
    rw [rb] at hbr
    refine ⟨_, hbr, ?_⟩
    generalize hB : Va.putObj (T + 1) (.loop (rec .busy none)) = Bz at hbr
    have hlB : Bz.heap[T + 1]? = some (.loop (rec .busy none)) := by rw [← hB]; exact World.putObj_heap_same hlt
    have hkB : Bz.heap[T]? = some (.deferred (some [])) := by rw [← hB]; exact (World.putObj_heap_other (by omega)).trans hk
    have hAB : ∀ X : Nat → Prop, X (T + 1) → Fr X Va Bz := fun X hX => by rw [← hB]; exact Fr.putObj _ _ hX
    have hVB : ∀ X : Nat → Prop, X (T + 1) → (∀ k, O k → X k) → Fr X V Bz := fun X hX hOX => (hbV.mono fun k hk => .inl (hOX k hk.1)).then (hAB X hX)
    have hsB : V.heap.size ≤ Bz.heap.size := (hVB (fun _ => True) trivial fun _ _ => trivial).size
    have hiB : Ip pre x (fun k => O k ∧ k ≠ T ∧ k ≠ T + 1) Bz := hIp x _ _ _ _ hip (hAB _ (fun h => h.2.2 rfl))
    refine wpIn_mono (hbody Bz (hAB _ rfl) hiB ⟨_, hlB⟩) ?_
    rintro e a3 W3 ⟨O3, hx3, hb3, hf3, hp⟩
    have hl3 : W3.heap[T + 1]? = some (.loop (rec .busy none)) := hf3.at_ hlB (fun h => by rcases h with h | h; exact h.2.2 rfl; exact hDT1 h)
    have hk3 : W3.heap[T]? = some (.deferred (some [])) := hf3.at_ hkB (fun h => by rcases h with h | h; exact h.2.1 rfl; exact hDT h)
    have n3 : ∀ k, O3 k → k ≠ T ∧ k ≠ T + 1 := fun k hk => by
      rcases hx3 k hk with h | h | h
      · exact ⟨h.2.1, h.2.2⟩
      · exact ⟨fun e => hDT (e ▸ h), fun e => hDT1 (e ▸ h)⟩
      · constructor <;> omega
    have eO : (fun k => (O3 k ∨ k = T ∨ k = T + 1) ∧ k ≠ T ∧ k ≠ T + 1) = O3 := by
      funext k
      apply propext
      constructor
      · rintro ⟨h | h | h, h1, h2⟩
        · exact h
        · exact absurd h h1
        · exact absurd h h2
      · intro h
        exact ⟨.inl h, n3 k h⟩
    have hxO : ∀ k, (O3 k ∨ k = T ∨ k = T + 1) → O k ∨ D k ∨ V.heap.size ≤ k := fun k hk => by
      rcases hk with hk | rfl | rfl
      · rcases hx3 k hk with h | h | h
        · exact .inl h.1
        · exact .inr (.inl h)
        · exact .inr (.inr (by omega))
      · exact .inl hT0
      · exact .inl hT1
    have hs3 := hf3.size
    have fin : ∀ (jump : Option Code), ∃ W4, (Instr.endRound (T + 1) jump).run P W3 = .ok (.bool jump.isNone) W4 ∧ W4.heap[T + 1]? = some (.loop (rec (if jump.isNone then .ready else .done) jump)) ∧ W4.heap[T]? = some (.deferred (some [])) ∧ T + 2 ≤ W4.heap.size ∧ (∀ X : Nat → Prop, X (T + 1) → Fr X W3 W4) := fun jump => by
      have hr := run_endRound (P := P) jump hl3
      have hh : ({ rec .busy none with state := (if jump.isNone then LoopState.ready else .done), pending := jump } : Loop) = rec (if jump.isNone then .ready else .done) jump := by rw [← hrec]
      rw [hh] at hr
      exact ⟨_, hr, World.putObj_heap_same (Array.getElem?_eq_some_iff.1 hl3).1, (World.putObj_heap_other (by omega)).trans hk3, by simp [World.putObj]; omega, fun X hX => Fr.putObj _ _ hX⟩
    have hfV : ∀ W4, (∀ X : Nat → Prop, X (T + 1) → Fr X W3 W4) → Fr (fun k => O k ∨ D k) V W4 := fun W4 h4 =>
      ((hVB (fun k => O k ∨ D k) (.inl hT1) fun k h => .inl h).trans hf3 (fun k hk => by rcases hk with hk | hk; exact .inl (.inl hk.1); exact .inl (.inr hk))).then (h4 _ (.inl hT1))
    have hbd : ∀ W4, (∀ X : Nat → Prop, X (T + 1) → Fr X W3 W4) → Bd (fun k => O3 k ∨ k = T ∨ k = T + 1) W4 := fun W4 h4 k hk => by
      have h5 := (h4 (fun _ => True) trivial).size
      rcases hk with hk | hk | hk
      · have := hb3 k hk; omega
      · omega
      · omega
    have n5 : ∀ k, ¬ ¬ O3 k → k ≠ T + 1 := fun k h => (n3 k (Classical.not_not.1 h)).2
    have keep : ∀ W4, (∀ X : Nat → Prop, X (T + 1) → Fr X W3 W4) → Fr (fun k => ¬ O3 k) W3 W4 := fun W4 h4 => h4 _ (fun h => (n3 _ h).2 rfl)
    cases e with
    | normal =>
      obtain ⟨W4, hr, hl4, hk4, hs4, h4⟩ := fin none
      exact ⟨_, _, hr, _, hxO, hbd _ h4, hfV _ h4, .inl ⟨rfl, by rw [eO]; exact hI _ _ _ _ hp (keep _ h4), .inr (.inl rfl), .inr (.inr rfl), hs4, hl4, hk4⟩⟩
    | ret =>
      obtain ⟨W4, hr, hl4, hk4, hs4, h4⟩ := fin (some .ret)
      exact ⟨_, _, hr, _, hxO, hbd _ h4, hfV _ h4, .inr ⟨rfl, ⟨_, by rw [eO]; exact hIx _ _ _ _ _ hp (keep _ h4), hl4⟩, .inr (.inl rfl), .inr (.inr rfl), hs4, hk4⟩⟩
    | exit id =>
      obtain ⟨W4, hr, hl4, hk4, hs4, h4⟩ := fin (some (.exit id))
      exact ⟨_, _, hr, _, hxO, hbd _ h4, hfV _ h4, .inr ⟨rfl, ⟨_, by rw [eO]; exact hIx _ _ _ _ _ hp (keep _ h4), hl4⟩, .inr (.inl rfl), .inr (.inr rfl), hs4, hk4⟩⟩
    | goto t =>
      obtain ⟨W4, hr, hl4, hk4, hs4, h4⟩ := fin (some (.goto t))
      exact ⟨_, _, hr, _, hxO, hbd _ h4, hfV _ h4, .inr ⟨rfl, ⟨_, by rw [eO]; exact hIx _ _ _ _ _ hp (keep _ h4), hl4⟩, .inr (.inl rfl), .inr (.inr rfl), hs4, hk4⟩⟩
    | panic ch => exact hp.elim
    | outgrown => exact hp.elim
  case behind =>
    rintro e W2 ⟨⟨v, rfl⟩, O2, hx2, hb2, hf2, h⟩
    have hfw : ∀ W4, (∀ X : Nat → Prop, X (T + 1) → Fr X W2 W4) → Fr (fun k => O0 k ∨ M k) w W4 := fun W4 h4 =>
      ((hf1 (fun k => O0 k ∨ M k)).trans hf2 (fun k hk => by
        rcases hk with (hk | hk | hk) | hk
        · exact .inl (.inl hk)
        · exact .inr (by omega)
        · exact .inr (by omega)
        · exact .inl (.inr hk))).trans (h4 (fun k => k = T + 1) rfl) (fun k hk => .inr (by omega))
    have hx : ∀ k, (O2 k ∧ k ≠ T ∧ k ≠ T + 1) → O0 k ∨ T ≤ k := fun k hk => by
      rcases hx2 k hk.1 with (h | h | h) | h
      · exact .inl h
      · exact .inr (by omega)
      · exact .inr (by omega)
      · exact .inr (by omega)
    have hput : ∀ (o : Obj), ∀ X : Nat → Prop, X (T + 1) → Fr X W2 (W2.putObj (T + 1) o) := fun o X hX => Fr.putObj _ _ hX
    rcases h with ⟨xs, hS, hi, hT0, hT1, hsz, hl, hk⟩ | ⟨pre, hSp, ⟨c, hi, hl⟩, hT0, hT1, hsz, hk⟩
    · have hr := run_endLoop (P := P) hl (by rw [rs]; simp)
      have hpe : (rec .ready none).pending = none := by rw [← hrec]
      rw [hpe] at hr
      exact ⟨none, _, hr, hdone _ xs _ _ (Nat.le_refl _) hS (hI _ _ _ _ hi (hput _ _ (fun h => h.2.2 rfl))) hx (fun k hk => by have := hb2 k hk.1; simpa [World.putObj] using this) (fun h => h.2.1 rfl) (hfw _ (hput _)) ((World.putObj_heap_other (by omega)).trans hk)⟩
    · have hr := run_endLoop (P := P) hl (by rw [rs]; simp)
      have hpe : (rec .done (some c)).pending = some c := by rw [← hrec]
      rw [hpe] at hr
      exact ⟨some c, _, hr, hstop _ c pre _ _ (Nat.le_refl _) hSp (hIx c _ _ _ _ hi (hput _ _ (fun h => h.2.2 rfl))) hx (fun k hk => by have := hb2 k hk.1; simpa [World.putObj] using this) (fun h => h.2.1 rfl) (hfw _ (hput _)) ((World.putObj_heap_other (by omega)).trans hk)⟩
end
end Go.Proofs.YteekjfgjmccdnaaGreatDoor
end
