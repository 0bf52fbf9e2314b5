/-
  Layer 14 (plain): what a table shows is what the zone shows, up to its end.
-/
import Derived.Lib.MinMax
import Derived.Deep.QuietTactic
import Derived.BigQuiet
import Derived.WalkKit
import Derived.Test.YteekjfgjmccdnaaGreatDoorChecked
import Derived.Lib.Hide
import Derived.IntWalk
import Derived.Lib.Strings
import Derived.Test.YteekjfgjmccdnaaGreatDoorZs10
set_option maxHeartbeats 16000000
set_option maxRecDepth 100000
namespace Go.Proofs.YteekjfgjmccdnaaGreatDoor
section -- HMake
open Go Go.RowKit Go.Shelf
attribute [local go_sem] Oper.semAt_some
def makeErr (S : List SetF) (l : List EraF) (to : Int) : Int :=
 if errZ S l ≠ 0 then errZ S l else if to < -2199023255552 ∨ 2199023255552 < to then 10 else errI S l (-2199023255552)
def tabL (S : List SetF) (l : List EraF) (to : Int) : List Chg := ⟨-2199023255552, locZ S l (-2199023255552)⟩ :: changesL S l (-2199023255552) to
def MakeEnd (S : List SetF) (l : List EraF) (to : Int) (w : World) (o : Ending) (w' : World) : Prop :=
 (∃ v, o = .returned (.tuple #[v, .int .i64 (makeErr S l to)]) ∧ (makeErr S l to = 0 → Chgs w' w'.heap.size v (tabL S l to)) ∧ (makeErr S l to ≠ 0 → v = .slice none 0 0)) ∧ Below w.heap.size w w'
theorem infoChgH : (Tryz.prog.info? 76).map (fun i => (i.zero, i.size, i.bytes)) = some (some (.agg #[.int .i64 0, .int .i64 0, .bool false, .string ⟨#[]⟩]), 4, 40) := by kernel_rfl
def MkI (ob base : Nat) (c0 : Chg) (pre : List Chg) (O : Nat → Prop) (W : World) : Prop :=
 ∃ v, O ob ∧ Blk W ob 81 #[v] ∧ W.ownsRow base 76 4 v (c0 :: pre).length (chgsV (c0 :: pre)) ∧ ∀ g, v.ownBlock = some g → O g ∧ g ≠ ob
theorem mkI_feet (ob base : Nat) (c0 : Chg) : Feet (MkI ob base c0) := by
 rintro pre O W W' ⟨v, h3, h4, h5, h6⟩ hf
 exact ⟨v, h3, h4.fr hf (fun h => h h3), hf.own h5 (fun g hg h => h (h6 g hg).1), h6⟩
theorem MkI.push {ob base : Nat} {c0 c : Chg} {pre : List Chg} {O : Nat → Prop} {W W1 W2 : World} {v v' : Value} (hBO : Bd O W) (ho1 : O ob)
   (h1 : Below W.heap.size W W1) (hv : Blk W ob 81 #[v]) (hvo : ∀ g, v.ownBlock = some g → O g ∧ g ≠ ob) (hg : W1.grownBy W2 v.ownBlock) (ho : W2.ownsRow base 76 4 v' ((c0 :: pre).length + 1) (chgsV (c0 :: pre) ++ chgV c))
   (hl : v'.ownBlock = v.ownBlock ∨ v'.ownBlock = some W1.heap.size) :
   ∃ O', (∀ k, O' k → O k ∨ W.heap.size ≤ k) ∧ Bd O' (W2.setCell ⟨ob, 0, none⟩ v') ∧ Fr O W (W2.setCell ⟨ob, 0, none⟩ v') ∧ MkI ob base c0 (pre ++ [c]) O' (W2.setCell ⟨ob, 0, none⟩ v') := by
 have hob := hv.lt
 have hs1 := h1.size
 have hvn : v'.ownBlock ≠ some ob := by
   rcases hl with e | e
   · rw [e]; exact fun e => (hvo _ e).2 rfl
   · rw [e]; exact fun e => by cases e; omega
 have n2 : v.ownBlock ≠ some ob := fun e => (hvo _ e).2 rfl
 have g2 : Blk W2 ob 81 #[v] := (hv.below h1 hob).grown hg n2
 refine ⟨fun k => O k ∨ v'.ownBlock = some k, ?_, ?_, ?_, v', .inl ho1, g2.set 0 v', ?_, fun g hg' => ⟨.inr hg', fun e => hvn (by rw [hg', e])⟩⟩
 · intro k hk
   rcases hk with hk | hk
   · exact .inl hk
   · rcases hl with e | e
     · rw [e] at hk; exact .inl (hvo k hk).1
     · rw [e] at hk; cases hk; exact .inr hs1
 · intro k hk
   have hsz : (W2.setCell ⟨ob, 0, none⟩ v').heap.size = W2.heap.size := by simp
   rw [hsz]
   rcases hk with hk | hk
   · have := hBO k hk; have := hg.size; omega
   · exact (ho.lt _ hk).2
 · exact (((Fr.of_below h1 (Nat.le_refl _)).then (Fr.grown hg (fun g e => .inl (hvo g e).1))).then (Fr.setCell _ 0 _ ho1))
 · have e1 : c0 :: (pre ++ [c]) = (c0 :: pre) ++ [c] := rfl
   rw [e1, chgsV_append, List.length_append, List.length_singleton, show chgsV [c] = chgV c by simp [chgsV]]
   exact Fr.own (Fr.setCell (T := fun k => k = ob) W2 0 v' rfl) ho (fun g hg' e => hvn (by rw [hg', e]))
theorem own_one (w : World) (c : Chg) (base : Nat) (hb : base ≤ w.heap.size) : (w.alloc (.cells #[.int .i64 c.at_, .int .i64 c.loc.off, .bool c.loc.dst, .string c.loc.abbr] 76)).ownsRow base 76 4 (.slice (some ⟨w.heap.size, 0, none⟩) 1 1) 1 (chgsV [c]) :=
 ⟨by simp [chgsV, chgV], .inr ⟨w.heap.size, 1, _, rfl, hb, World.alloc_heap_new _ _, Nat.le_refl _, by decide, rfl, by simp [chgsV, chgV]⟩⟩
theorem zmake_any (zn : ByteArray) (ev sv : Value) (l : List EraF) (S : List SetF) (to : Int) (B : Nat) (w : World) (hz : ZW w B ev sv l S) (ho : ZOk l S) (hlet : ∀ s ∈ S, letOk s.l)
   (hE : errZ S l = 0 → ∀ e ∈ endL S l, -9000000000000000000 ≤ e ∧ e ≤ 9000000000000000000) (hcl : -2199023255552 ≤ to → to ≤ 2199023255552 → (changesL S l (-2199023255552) to).length ≤ 1000000000000) :
   Calls Tryz.prog 38 #[zoneA zn ev, setsV zn ev sv, .int .i64 to] w (MakeEnd S l to w) := by
 obtain ⟨Ae, ce, he, -, -⟩ := hz.eras.form
 have HEV := Lib.hid he
 have hb0 : Below w.heap.size w (w.alloc (.cells #[.string zn, ev] 24)) := (Below.refl _ _).alloc (Nat.le_refl _) _
 have hz0 := Blk.new w 24 #[.string zn, ev]
 have HC := Lib.hid (zcheckZ_any zn ev sv B l S _ (hz.below hb0) ho)
 obtain ⟨sz, hsz⟩ : ∃ v, setsV zn ev sv = v := ⟨_, rfl⟩
 have HSZ := Lib.hid hsz
 obtain ⟨eZ, heZ⟩ : ∃ e, errZ S l = e := ⟨_, rfl⟩
 rw [hsz, heZ] at HC
 rw [hsz]
 have HEZ := Lib.hid heZ
 rw [he] at hz0 HC hb0 ⊢
 unfold zoneA at HC ⊢
 have HZ := Lib.hid hz
 have HO := Lib.hid ho
 have HLT := Lib.hid hlet
 have HEI := Lib.hid hE
 have HCLN := Lib.hid hcl
 have HB0 := Lib.hid hb0
 have HZ0 := Lib.hid hz0
 clear he hsz heZ hz ho hlet hE hcl hb0 hz0
 refine (callsIn_wide (n := 14)).1 ?_
 refine callsIn_of_wp_marks Tryz.func38 rfl trivial ?_ rfl
 simp only [Tryz.ntmps38, List.size_toArray, List.length_cons, List.length_nil, Nat.reduceAdd, Nat.reduceSub, Array.replicate_succ, Array.replicate_zero, List.push_toArray, List.append_toArray, List.nil_append, List.cons_append]
 refine wpIn_wide.2 ?_
 go_wp2_with fail
 refine HC.out.mono ?_
 rintro o w1 ⟨rfl, hb⟩
 have HB1 := Lib.hid (HB0.out.trans (hb.mono HB0.out.size))
 have HZ1 := Lib.hid (HZ0.out.below hb HZ0.out.lt)
 have hs1 := HZ1.out.lt
 have z0 := HZ1.out.cell 0 (v := .string zn) rfl
 have z1 := HZ1.out.cell 1 (v := .slice Ae l.length ce) rfl
 clear HC hb
 by_cases h0 : eZ = 0
 · subst h0
   by_cases hr1 : to < -2199023255552
   · have d1 : decide (to < -2199023255552) = true := decide_eq_true hr1
     have HER := Lib.hid (show makeErr S l to = 10 by unfold makeErr; rw [HEZ.out, if_neg (by simp), if_pos (.inl hr1)])
     go_wp2_with fail
     refine ⟨.tuple #[.slice none 0 0, .int .i64 (10)], by simp [results, Tryz.f38, go_sem], ⟨_, by rw [HER.out], fun h => absurd (HER.out.symm.trans h) (by decide), fun _ => rfl⟩, HB1.out⟩
   · by_cases hr2 : 2199023255552 < to
     · have d1 : decide (to < -2199023255552) = false := decide_eq_false hr1
       have d2 : decide (2199023255552 < to) = true := decide_eq_true hr2
       have HER := Lib.hid (show makeErr S l to = 10 by unfold makeErr; rw [HEZ.out, if_neg (by simp), if_pos (.inr hr2)])
       go_wp2_with fail
       refine ⟨.tuple #[.slice none 0 0, .int .i64 (10)], by simp [results, Tryz.f38, go_sem], ⟨_, by rw [HER.out], fun h => absurd (HER.out.symm.trans h) (by decide), fun _ => rfl⟩, HB1.out⟩
     · have d1 : decide (to < -2199023255552) = false := decide_eq_false hr1
       have d2 : decide (2199023255552 < to) = false := decide_eq_false hr2
       have HER := Lib.hid (show makeErr S l to = errI S l (-2199023255552) by unfold makeErr; rw [HEZ.out, if_neg (by simp), if_neg (by omega)])
       have HFI := Lib.hid (zfirst_any zn ev sv B l S (-2199023255552) w1 (HZ.out.below HB1.out) HO.out HLT.out)
       rw [HSZ.out, HEV.out] at HFI
       unfold zoneA at HFI
       obtain ⟨⟨yo, yd, ys⟩, hy⟩ : ∃ y, locZ S l (-2199023255552) = y := ⟨_, rfl⟩
       obtain ⟨er, her⟩ : ∃ e, errI S l (-2199023255552) = e := ⟨_, rfl⟩
       rw [hy, her] at HFI
       rw [her] at HER
       unfold chgA at HFI
       have HY := Lib.hid hy
       have HTO := Lib.hid (show -2199023255552 ≤ to ∧ to ≤ 2199023255552 by omega)
       clear hy her hr1 hr2
       go_wp2_with fail
       refine HFI.out.mono ?_
       rintro o w2 ⟨rfl, hb⟩
       have HB2 := Lib.hid (HB1.out.trans (hb.mono HB1.out.size))
       have HZ2 := Lib.hid (HZ1.out.below hb hs1)
       have hs2 := HZ2.out.lt
       clear z0 z1 hb HFI
       have z0 := HZ2.out.cell 0 (v := .string zn) rfl
       have z1 := HZ2.out.cell 1 (v := .slice Ae l.length ce) rfl
       by_cases he0 : er = 0
       · subst he0
         have lz1 : w.heap.size < w2.heap.size + 1 := by omega
         have lz2 : w.heap.size < w2.heap.size + 1 + 1 := by omega
         have HOW := Lib.hid (own_one (w2.alloc (.cells #[.int .i64 (-2199023255552), .int .i64 yo, .bool yd, .string ys] 76)) ⟨-2199023255552, ⟨yo, yd, ys⟩⟩ w.heap.size (by simp; omega))
         have HT := Lib.hid (Blk.new ((w2.alloc (.cells #[.int .i64 (-2199023255552), .int .i64 yo, .bool yd, .string ys] 76)).alloc (.cells #[.int .i64 (-2199023255552), .int .i64 yo, .bool yd, .string ys] 76)) 81 #[.slice (some ⟨w2.heap.size + 1, 0, none⟩) 1 1])
         have HB3 := Lib.hid ((((Below.refl w2.heap.size w2).alloc (Nat.le_refl _) (.cells #[.int .i64 (-2199023255552), .int .i64 yo, .bool yd, .string ys] 76)).alloc (by simp) (.cells #[.int .i64 (-2199023255552), .int .i64 yo, .bool yd, .string ys] 76)).alloc (by simp; omega) (.cells #[.slice (some ⟨w2.heap.size + 1, 0, none⟩) 1 1] 81))
         have HO3 := Lib.hid (HOW.out.alloc (.cells #[.slice (some ⟨w2.heap.size + 1, 0, none⟩) 1 1] 81))
         have hs3 : ((((w2.alloc (.cells #[.int .i64 (-2199023255552), .int .i64 yo, .bool yd, .string ys] 76)).alloc (.cells #[.int .i64 (-2199023255552), .int .i64 yo, .bool yd, .string ys] 76)).alloc (.cells #[.slice (some ⟨w2.heap.size + 1, 0, none⟩) 1 1] 81))).heap.size = w2.heap.size + 3 := by simp
         simp only [World.size_alloc] at HT HO3
         have HS3 := Lib.hid hs3
         clear hs3
         go_wp2_with fail
         obtain ⟨w3, hw3⟩ : ∃ w3, (((w2.alloc (.cells #[.int .i64 (-2199023255552), .int .i64 yo, .bool yd, .string ys] 76)).alloc (.cells #[.int .i64 (-2199023255552), .int .i64 yo, .bool yd, .string ys] 76)).alloc (.cells #[.slice (some ⟨w2.heap.size + 1, 0, none⟩) 1 1] 81)) = w3 := ⟨_, rfl⟩
         rw [hw3] at HB3 HT HO3 HS3 ⊢
         clear hw3 z0 z1 lz1 lz2
         have HCH := Lib.hid (zchanges_any w3 zn ev sv (-2199023255552) to)
         rw [HSZ.out, HEV.out] at HCH
         unfold zoneA at HCH
         refine HCH.out.mono ?_
         rintro o w4 ⟨rfl, hb4, g0, g1, g2, g3, hs4⟩
         have HB4 := Lib.hid ((HB2.out.trans (HB3.out.mono (by omega))).trans (hb4.mono (by have := HS3.out; omega)))
         have HC4 := Lib.hid (And.intro g0 (And.intro g1 (And.intro g2 g3)))
         have HT4 := Lib.hid (HT.out.below hb4 HT.out.lt)
         have HO4 := Lib.hid (ownsRow_below HO3.out hb4)
         have HS4 := Lib.hid hs4
         clear hb4 g0 g1 g2 g3 hs4 HCH
         go_wp2_with fail
         have h23 := HS3.out
         have h44 := HS4.out
         have hle := HZ.out.le
         refine (wpIn_wide (n := 14)).1 ?_
         refine range_own (α := Chg) rfl (by omega) (gf := 118) (lb := #[.pointer (some ⟨w3.heap.size + 2, 0, none⟩), .pointer (some ⟨w3.heap.size, 0, none⟩), .pointer (some ⟨w3.heap.size + 1, 0, none⟩), .pointer (some ⟨w3.heap.size + 3, 0, none⟩)]) rfl trivial (enters_of Tryz.func118 (by kernel_rfl) rfl)
           (encs := encC) (R := RC (changesL S l (-2199023255552) to) w.heap.size w4) (K := fun k => k = w3.heap.size + 2 ∨ k < w.heap.size)
           (fun V hV => changes_iter 13 (by omega) _ _ _ _ B w.heap.size w4 w zn ev sv l S (-2199023255552) to V (by rw [HEV.out]; exact HC4.out.1.below hV HC4.out.1.lt) (by rw [HSZ.out]; exact HC4.out.2.1.below hV HC4.out.2.1.lt) (HC4.out.2.2.1.below hV HC4.out.2.2.1.lt) (HC4.out.2.2.2.below hV HC4.out.2.2.2.lt) ((HZ.out.below HB4.out).below hV) HO.out HLT.out HEI.out (by omega) (by have := HTO.out; omega) ⟨by omega, by omega, by omega, by omega, by omega⟩ (by have := hV.size; omega) ((SameB.refl (by omega)).then_below hV (by omega)) HZ.out.maxl (Nat.le_refl _))
           (fun _ => rfl) (MkI (w2.heap.size + 1 + 1) w.heap.size ⟨-2199023255552, ⟨yo, yd, ys⟩⟩) (fun _ _ _ _ => False) (mkI_feet _ _ _) (fun _ _ _ _ _ h _ => h)
           (fun k => k = w2.heap.size + 1 + 1 ∨ k = w2.heap.size + 1) ⟨_, .inl rfl, HT4.out, HO4.out, fun g hg => by cases hg; exact ⟨.inr rfl, by show w2.heap.size + 1 ≠ _; omega⟩⟩
           (fun k hk => by omega) (fun k hk => by omega) (fun k hk => by omega) ?round ?done ?stop
         case stop =>
           intro _ _ _ _ _ _ _ h
           exact h.elim
         case round =>
           intro lp pre c O D V hI hBO hBD hDO hR nOl nDl hlow hltl
           obtain ⟨ca, ⟨co, cd, cs⟩⟩ := c
           obtain ⟨hnD, ⟨rest, hrest⟩, hsame⟩ := hR
           have hcl := HCLN.out HTO.out.1 HTO.out.2
           rw [hrest, List.length_append, List.length_cons] at hcl
           have hpl : pre.length + 1 ≤ 1000000000000 := by omega
           have HBO := Lib.hid hBO
           have HCV := Lib.hid (Blk.new V 76 #[.int .i64 ca, .int .i64 co, .bool cd, .string cs])
           have HBV := Lib.hid ((Below.refl V.heap.size V).alloc (Nat.le_refl _) (.cells #[.int .i64 ca, .int .i64 co, .bool cd, .string cs] 76))
           unfold encC chgA
           clear hI hBO hBD hDO hrest hsame hcl
           gi_wp2
           refine ⟨HBV.out, ?_⟩
           intro Vb hfb hIb _
           obtain ⟨v, o2, hobb, hown, huo⟩ := hIb
           obtain ⟨A, c5, rfl⟩ := (Sl.of_own hown).form
           have hC := HCV.out.fr hfb (by omega)
           have hVb : V.heap.size ≤ Vb.heap.size := Nat.le_trans HBV.out.size hfb.size
           have HBB := Lib.hid (show Bd O Vb from fun k h => Nat.lt_of_lt_of_le (HBO.out k h) hVb)
           have HOB := Lib.hid hobb
           have HOW := Lib.hid hown
           have HUO := Lib.hid huo
           have hwV : w.heap.size ≤ Vb.heap.size := by omega
           have hAP : ∃ v5 u5, (Builtin.append_ #[81, 81] 81 #[.slice A ((⟨-2199023255552, ⟨yo, yd, ys⟩⟩ : Chg) :: pre).length c5, .slice (some ⟨Vb.heap.size, 0, none⟩) 1 1]).run Tryz.prog (Vb.alloc (.cells #[.int .i64 ca, .int .i64 co, .bool cd, .string cs] 76)) = .ok v5 u5 ∧ u5.ownsRow w.heap.size 76 4 v5 (((⟨-2199023255552, ⟨yo, yd, ys⟩⟩ : Chg) :: pre).length + 1) (chgsV ((⟨-2199023255552, ⟨yo, yd, ys⟩⟩ : Chg) :: pre) ++ chgV ⟨ca, ⟨co, cd, cs⟩⟩) ∧
               (Vb.alloc (.cells #[.int .i64 ca, .int .i64 co, .bool cd, .string cs] 76)).grownBy u5 (Value.slice A ((⟨-2199023255552, ⟨yo, yd, ys⟩⟩ : Chg) :: pre).length c5).ownBlock ∧ (v5.ownBlock = (Value.slice A ((⟨-2199023255552, ⟨yo, yd, ys⟩⟩ : Chg) :: pre).length c5).ownBlock ∨ v5.ownBlock = some (Vb.alloc (.cells #[.int .i64 ca, .int .i64 co, .bool cd, .string cs] 76)).heap.size) := by
             obtain ⟨i0, hi, hz0, hz1, hz2⟩ := info_parts infoChgH
             obtain ⟨v5, u5, h2, h3, h4, -, h5⟩ := run_append_own_at (P := Tryz.prog) (Vb.alloc (.cells #[.int .i64 ca, .int .i64 co, .bool cd, .string cs] 76)) w.heap.size 81 81 76 i0 (.agg #[.int .i64 0, .int .i64 0, .bool false, .string ⟨#[]⟩]) 4 40 Tryz.underlying81 hi hz0 hz1 hz2 rfl (by decide) _ _ _ (HOW.out.alloc _) ⟨Vb.heap.size, 0, none⟩ 1 1 (chgV ⟨ca, ⟨co, cd, cs⟩⟩) rfl (fun j y hy => by rw [Addr.add_lit, Nat.zero_add]; exact (cell_new _ _ _ _ j).trans (by simpa [chgV] using hy)) (by simp [chgV, Value.oneCell']) (by unfold maxLen; simp only [List.length_cons]; omega) (by simp only [List.length_cons]; omega) (by simp; omega)
             exact ⟨v5, u5, h2, h3, h4, h5⟩
           obtain ⟨v5, u5, hrun, how, hgr, hlo⟩ := hAP
           have hBn : Below Vb.heap.size Vb (Vb.alloc (.cells #[.int .i64 ca, .int .i64 co, .bool cd, .string cs] 76)) := (Below.refl _ _).alloc (Nat.le_refl _) _
           obtain ⟨A5, c6, rfl⟩ := (Sl.of_own how).form
           obtain ⟨O', hx', hbd', hfr', hI'⟩ := MkI.push (base := w.heap.size) (c0 := ⟨-2199023255552, ⟨yo, yd, ys⟩⟩) (c := ⟨ca, ⟨co, cd, cs⟩⟩) (pre := pre) HBB.out o2 hBn HOB.out HUO.out hgr how hlo
           have rf5 : u5.frozen? ⟨w2.heap.size + 1 + 1, 0, none⟩ = false := ((HOB.out.alloc (.cells #[.int .i64 ca, .int .i64 co, .bool cd, .string cs] 76)).grown hgr (fun e => (HUO.out _ e).2 rfl)).frozen 0
           have rc5 := ((HOB.out.alloc (.cells #[.int .i64 ca, .int .i64 co, .bool cd, .string cs] 76)).grown hgr (fun e => (HUO.out _ e).2 rfl)).cell 0 (v := .slice A ((⟨-2199023255552, ⟨yo, yd, ys⟩⟩ : Chg) :: pre).length c5) rfl
           have HRES := Lib.hid (show leftO (MkI (w2.heap.size + 1 + 1) w.heap.size ⟨-2199023255552, ⟨yo, yd, ys⟩⟩) (fun _ _ _ _ => False) (pre ++ [⟨ca, ⟨co, cd, cs⟩⟩]) O D Vb .normal ⟨#[], []⟩ (u5.setCell ⟨w2.heap.size + 1 + 1, 0, none⟩ (.slice A5 (((⟨-2199023255552, ⟨yo, yd, ys⟩⟩ : Chg) :: pre).length + 1) c6)) from ⟨O', fun k h => by rcases hx' k h with h | h; exact .inl h; exact .inr (.inr h), hbd', hfr'.mono (fun k h => .inl (.inl h)), hI'⟩)
           have r0 : Vb.cell? ⟨w2.heap.size + 1 + 1, 0, none⟩ = some (.slice A ((⟨-2199023255552, ⟨yo, yd, ys⟩⟩ : Chg) :: pre).length c5) := HOB.out.cell 0 rfl
           have rl := HOB.out.lt
           have c0 := hC.cell 0 (v := .int .i64 ca) rfl
           have c1 := hC.cell 1 (v := .int .i64 co) rfl
           have c2 := hC.cell 2 (v := .bool cd) rfl
           have c3 := hC.cell 3 (v := .string cs) rfl
           have hcl := hC.lt
           obtain ⟨m, hm⟩ : ∃ m, ((⟨-2199023255552, ⟨yo, yd, ys⟩⟩ : Chg) :: pre).length = m := ⟨_, rfl⟩
           rw [hm] at hrun rc5 r0 HRES
           clear hx' hbd' hfr' hI' how hgr hlo hobb hown huo hC hm hfb
           gi_wp2_with (gi_at_builtin; refine wpListIn_append_run rfl _ _ _ rfl rfl rfl hrun ?_)
           exact HRES.out
         case done =>
           intro D xs O V hD hS hI hO hBO hOD hfr hK2
           obtain ⟨u, o2, hobb, hown, huo⟩ := hI
           have HTL := Lib.hid (show tabL S l to = ⟨-2199023255552, ⟨yo, yd, ys⟩⟩ :: xs by unfold tabL; rw [HY.out, hS])
           have r0 := hobb.cell 0 (v := u) rfl
           have HSL := Lib.hid (Sl.of_own hown)
           have HBL := Lib.hid (show Below w.heap.size w V from HB4.out.trans (hfr.below (by omega) (fun k hk h => by rcases h with (h | h) | h <;> omega)))
           have HK2 := Lib.hid hK2
           have rl := hobb.lt
           clear hobb hown huo hfr hO hBO hS hK2
           go_wp2_with fail
           refine ⟨by simp, .inl ⟨_, _, rfl, run_takeDeferred HK2.out, ?_⟩⟩
           refine ⟨.tuple #[u, .int .i64 0], ?_, ⟨u, by rw [HER.out], fun _ => ?_, fun h => absurd HER.out h⟩, fin_below HBL.out (by omega)⟩
           · simp [results, Tryz.f38, go_sem]
           · rw [HTL.out, fin_size]
             exact fin_sl HSL.out HK2.out
       · have hne : (er == 0) = false := beq_eq_false_iff_ne.2 he0
         go_wp2_with fail
         refine ⟨.tuple #[.slice none 0 0, .int .i64 er], by simp [results, Tryz.f38, go_sem], ⟨_, by rw [HER.out], fun h => absurd (HER.out.symm.trans h) he0, fun _ => rfl⟩, HB2.out.alloc HB2.out.size _⟩
 · have hne : (eZ == 0) = false := beq_eq_false_iff_ne.2 h0
   have HER := Lib.hid (show makeErr S l to = eZ by unfold makeErr; rw [HEZ.out, if_pos h0])
   go_wp2_with fail
   refine ⟨.tuple #[.slice none 0 0, .int .i64 (eZ)], by simp [results, Tryz.f38, go_sem], ⟨_, by rw [HER.out], fun h => absurd (HER.out.symm.trans h) (h0), fun _ => rfl⟩, HB1.out⟩
end
section -- HRch
open Go Go.RowKit Go.Shelf
section
variable {S : List SetF} {l : List EraF} {R : List RowF}
end
end
section -- HAll
open Go Go.RowKit Go.Shelf
theorem changesL_bad {S : List SetF} {l : List EraF} {fr to : Int} (h : errZ S l ≠ 0) : changesL S l fr to = [] := by
 unfold changesL
 rw [if_neg fun e => h (errI_zero e)]
end
section -- TSteps
open Go Go.RowKit Go.Shelf
attribute [local go_sem] Oper.semAt_some
theorem rules_plain (sv : Value) (e : EraN) (f : ByteArray) (w : World) :
   Calls Tryz.prog 149 #[eraPA e f, sv] w fun o w' => o = .returned (.slice none 0 0) ∧ Below w.heap.size w w' := by
 unfold eraPA eraP
 go_enter Tryz.func149, Tryz.ntmps149
 go_wp2_with fail
 go_ret
 exact ⟨rfl, (Below.refl _ _).alloc (Nat.le_refl _) _⟩
def StI (sb fb tb : Nat) (sv : Value) (a t : Int) (J : (Nat → Prop) → World → Prop) (Oa : Nat → Prop) (_ : List Unit) (O : Nat → Prop) (W : World) : Prop :=
 (∀ k, Oa k → O k) ∧ (O sb ∧ O fb ∧ O tb) ∧ J Oa W ∧ Blk W sb 90 #[sv] ∧ Blk W fb 3 #[.int .i64 a] ∧ Blk W tb 3 #[.int .i64 t]
theorem stI_feet (sb fb tb : Nat) (sv : Value) (a t : Int) (J : (Nat → Prop) → World → Prop) (hJ : ∀ O W W', J O W → Fr (fun k => ¬ O k) W W' → J O W') (Oa : Nat → Prop) : Feet (StI sb fb tb sv a t J Oa) := by
 rintro pre O W W' ⟨h0, ⟨o1, o2, o3⟩, h1, h2, h3, h4⟩ hf
 exact ⟨h0, ⟨o1, o2, o3⟩, hJ _ _ _ h1 (hf.mono fun k hk => .inl fun h => hk (h0 k h)), h2.fr hf (fun h => h o1), h3.fr hf (fun h => h o2), h4.fr hf (fun h => h o3)⟩
theorem steps1_none (n : Nat) (hn : 4 ≤ n) (zb sb fb tb b : Nat) (nm : ByteArray) (g : Fn) (ts cs : Array Value) (e : EraN) (f : ByteArray) (a t : Int) (W : World) (hs : f.size < 4294967281) (hm : Tryz.MaxL W) (h0 : errP e f.data.toList = 0)
   (ha : -2199023255552 ≤ a) (ha2 : a < 2199023255552) (ht : -2199023255552 ≤ t) (ht2 : t ≤ 2199023255552)
   (hz : Blk W zb 24 #[.string nm, .slice (some ⟨b, 0, none⟩) 1 1]) (hsb : Blk W sb 90 #[.func g ts cs]) (hfb : Blk W fb 3 #[.int .i64 a]) (htb : Blk W tb 3 #[.int .i64 t]) (he : OneE W b e f) (encs : Nat → Array Value) (R : List Nat → Nat → (Nat → Prop) → World → Prop) :
   Iter Fence.wide n Tryz.prog 147 #[.pointer (some ⟨zb, 0, none⟩), .pointer (some ⟨sb, 0, none⟩), .pointer (some ⟨fb, 0, none⟩), .pointer (some ⟨tb, 0, none⟩)] encs R (fun xs : List Nat => xs = []) (fun _ => False) (fun k => k = sb ∨ k = fb ∨ k = tb) (fun k => k = sb ∨ k = fb ∨ k = tb) W := by
 intro lp J Jx fJ fx hY O hJ hO hK
 have z0 := hz.cell 0 (v := .string nm) rfl
 have z1 := hz.cell 1 (v := .slice (some ⟨b, 0, none⟩) 1 1) rfl
 have s0 := hsb.cell 0 (v := .func g ts cs) rfl
 have hzl := hz.lt
 have hsl := hsb.lt
 show CallsIn Fence.wide n Tryz.prog 147 #[.func (.yield lp) #[] #[], .pointer (some ⟨zb, 0, none⟩), .pointer (some ⟨sb, 0, none⟩), .pointer (some ⟨fb, 0, none⟩), .pointer (some ⟨tb, 0, none⟩)] W _
 refine callsIn_of_wp_marks Tryz.func147 rfl trivial ?_ rfl
 simp only [Tryz.ntmps147, List.size_toArray, List.length_cons, List.length_nil, Nat.reduceAdd, Nat.reduceSub, Array.replicate_succ, Array.replicate_zero, List.push_toArray, List.append_toArray, List.nil_append, List.cons_append]
 gi_wp2
 refine wpIn_scope ?_
 gi_wp2
 refine wpIn_label ?_
 gi_wp2
 have hb1 : Below W.heap.size W (W.alloc (.cells #[.func (.yield lp) #[] #[]] 172)) := (Below.refl _ _).alloc (Nat.le_refl _) _
 have hm1 := hm.below hb1 (Nat.le_refl _)
 have he1 : OneE _ b e f := Blk.below he hb1 (Blk.lt he)
 have hsb1 := hsb.below hb1 hsb.lt
 have hfb1 := hfb.below hb1 hfb.lt
 have htb1 := htb.below hb1 htb.lt
 have hfl := hfb.lt
 have htl := htb.lt
 have HFJ := Lib.hid fJ
 obtain ⟨W1, hW1⟩ : ∃ W1, W.alloc (.cells #[.func (.yield lp) #[] #[]] 172) = W1 := ⟨_, rfl⟩
 have hz1s : W.heap.size < W1.heap.size := by rw [← hW1]; simp
 rw [hW1] at hb1 hm1 he1 hsb1 hfb1 htb1 ⊢
 clear hW1 z0 z1 s0
 refine ⟨trivial, fun _ => by omega, (callsIn_wide.2 (spans_any _ _ nm b g ts cs _ rfl rfl)).mono ?_⟩
 rintro o w2 ⟨rfl, hb2, hz2, hs2⟩
 have hm2 := hm1.below hb2 (Nat.le_refl _)
 have he2 : OneE w2 b e f := Blk.below he1 hb2 (Blk.lt he1)
 have hsb2 := hsb1.below hb2 hsb1.lt
 have hfb2 := hfb1.below hb2 hfb1.lt
 have htb2 := htb1.below hb2 htb1.lt
 have hbw := hb1.trans (hb2.mono hb1.size)
 gi_wp2
 refine range_own (α := Unit) rfl (by omega) (gf := 173) (lb := #[.pointer (some ⟨W1.heap.size, 0, none⟩), .pointer (some ⟨W1.heap.size + 1, 0, none⟩)]) rfl trivial (enters_of Tryz.func173 (by kernel_rfl) rfl)
   (fun W' hW' => spans1_one (n - 1) (by omega) _ _ b nm g ts cs e f W' hs (hm2.below hW' (Nat.le_refl _)) h0 (hz2.below hW' hz2.lt) (hs2.below hW' hs2.lt) (Blk.below he2 hW' (Blk.lt he2)))
   (fun _ => rfl) (StI sb fb tb (.func g ts cs) a t (J []) O) (fun _ _ _ _ => False) (stI_feet sb fb tb (.func g ts cs) a t (J []) (fun O W W' h hf => fJ [] O W W' h hf) O) (fun _ _ _ _ _ h _ => h) (fun k => O k ∨ k = sb ∨ k = fb ∨ k = tb)
   ⟨fun k h => .inl h, ⟨.inr (.inl rfl), .inr (.inr (.inl rfl)), .inr (.inr (.inr rfl))⟩, fJ _ _ _ _ hJ (Fr.of_below hbw (Nat.le_refl _)), hsb2, hfb2, htb2⟩ (fun k hk => ?_) (fun k hk => hk.elim) (fun k hk => hk.elim) ?round ?done ?stop
 · have := hbw.size
   rcases hk with h | h | h | h
   · have := hO k h; omega
   · omega
   · omega
   · omega
 case stop =>
   intro _ _ _ _ _ _ _ h
   exact h.elim
 case round =>
   intro lp2 pre k O2 D W3 hI hBO hBD hDO hR nOl nDl hlow hltl
   obtain ⟨-, hnD⟩ := hR
   clear hI hBD hDO
   unfold eraPA eraP
   gi_wp2
   have hA := (Blk.new W3 42 #[.int .i64 e.off, .string ⟨#[]⟩, .int .i64 e.save, .string f, .bool false, .int .i64 e.year, .int .i64 e.month, .int .i64 e.dk, .int .i64 e.dw, .int .i64 e.dn, .int .i64 e.sec, .int .i64 e.ak]).alloc (.cells #[.int .i64 (-2199023255553), .int .i64 2199023255553] 80)
   have hT := Blk.new (W3.alloc (.cells #[.int .i64 e.off, .string ⟨#[]⟩, .int .i64 e.save, .string f, .bool false, .int .i64 e.year, .int .i64 e.month, .int .i64 e.dk, .int .i64 e.dw, .int .i64 e.dn, .int .i64 e.sec, .int .i64 e.ak] 42)) 80 #[.int .i64 (-2199023255553), .int .i64 2199023255553]
   rw [World.size_alloc] at hT
   have hbel2 : Below W3.heap.size W3 ((W3.alloc (.cells #[.int .i64 e.off, .string ⟨#[]⟩, .int .i64 e.save, .string f, .bool false, .int .i64 e.year, .int .i64 e.month, .int .i64 e.dk, .int .i64 e.dw, .int .i64 e.dn, .int .i64 e.sec, .int .i64 e.ak] 42)).alloc (.cells #[.int .i64 (-2199023255553), .int .i64 2199023255553] 80)) := ((Below.refl _ _).alloc (Nat.le_refl _) _).alloc (by simp) _
   refine ⟨hbel2, ?_⟩
   intro Wb hfb3 hIb _
   obtain ⟨hI0, ⟨o1, o2, o3⟩, hJb, hsbb, hfbb, htbb⟩ := hIb
   have hAb : OneE Wb W3.heap.size e f := hA.fr hfb3 (by omega)
   have hTb := hT.fr hfb3 (by omega)
   have hBO2 := hBO.fr ((Fr.of_below (T := fun k => k = lp2) hbel2 (Nat.le_refl _)).then hfb3)
   have s0 := hsbb.cell 0 (v := .func g ts cs) rfl
   have f0 := hfbb.cell 0 (v := .int .i64 a) rfl
   have t0 := htbb.cell 0 (v := .int .i64 t) rfl
   have d0 := hTb.cell 0 (v := .int .i64 (-2199023255553)) rfl
   have d1 := hTb.cell 1 (v := .int .i64 2199023255553) rfl
   obtain ⟨c0, c1, c2, c3, c4, c5, c6, c7, c8, c9, c10, c11⟩ := hAb.cells
   have g1 : decide (2199023255552 ≤ a) = false := by simpa using ha2
   have g2 : decide (t < -2199023255553) = false := by simp; omega
   have g3 : decide (a < -2199023255553) = false := by simp; omega
   have hnn := fun w : World => (show (binOp .eql 52 (.slice none 0 0) (.slice none 0 0)).run Tryz.prog w = .ok (.bool true) w by kernel_rfl)
   have RU := fun W => rules_plain (.func g ts cs) e f W
   unfold eraPA eraP at RU
   have HJB := Lib.hid hJb
   have HTB := Lib.hid hTb
   have HFB := Lib.hid hfbb
   have HBO := Lib.hid hBO2
   have HI0 := Lib.hid hI0
   have HSB := Lib.hid hsbb
   have HTT := Lib.hid htbb
   clear hJb hTb hfbb hBO2 hI0 hsbb htbb hA hT hbel2 hfb3 hAb hBO hJ hO hK hY fJ fx
   gi_wp2
   refine ⟨trivial, fun _ => by omega, ((callsIn_wide.2 (RU Wb)).inRound lp2).mono ?_⟩
   rintro o w5 ⟨rfl, hb5⟩
   clear RU c0 c1 c2 c3 c4 c5 c6 c7 c8 c9 c10 c11 s0 f0 t0 d0 d1
   have HB5 := Lib.hid hb5
   clear hb5
   gi_wp2
   refine wpIn_env (fin := ?fnS) (wide1 lp2) (by kernel_rfl) [29, 30, 31, 32, 33, 34, 35, 36, 37, 38, 39, 40, 41, 42]
     [.pointer (some ⟨W3.heap.size + 1, 0, none⟩), .int .i64 (-2199023255553), .int .i64 a, .bool false, .bool false, undef, undef, undef, undef, undef, undef, undef, undef, .bool false] (by kernel_rfl) ?finS ?stepsS ?nextS
   case finS =>
     simp only [putAll, Act.put, List.setIfInBounds_toArray, List.set_cons_succ, List.set_cons_zero]
     rfl
   case stepsS =>
     refine ⟨?_, ?_, ?_, ?_, ?_, ?_, ?_, ?_, ?_, ?_, ?_, ?_, ?_, ?_, trivial⟩
     all_goals
       first
         | exact .inl ⟨by kernel_rfl, rfl⟩
         | (refine .inr ⟨by kernel_rfl, fun w1_ hB_ => ?_⟩
            have hbb := HB5.out.trans (hB_.mono HB5.out.size)
            have d0 := (HTB.out.below hbb HTB.out.lt).cell 0 (v := .int .i64 (-2199023255553)) rfl
            have f0 := (HFB.out.below hbb HFB.out.lt).cell 0 (v := .int .i64 a) rfl
            go_simp
            exact ⟨rfl, Below.refl _ _⟩)
   case nextS =>
     intro w6 hb6
     have hb7 := HB5.out.trans (hb6.mono HB5.out.size)
     clear hb6
     gi_wp2
     have hf7 : Fr (fun k => O2 k ∨ D k) Wb w6 := Fr.of_below hb7 (Nat.le_refl _)
     refine ⟨O2, fun k h => .inl h, HBO.out.fr hf7, hf7, HI0.out, ⟨o1, o2, o3⟩, ?_, HSB.out.below hb7 HSB.out.lt, HFB.out.below hb7 HFB.out.lt, HTT.out.below hb7 HTT.out.lt⟩
     exact HFJ.out [] _ _ _ HJB.out (Fr.of_below hb7 (Nat.le_refl _))
 case done =>
   intro D xs O2 W3 hD hS hI hO2 hBO hOD hfr hK2
   obtain ⟨hI0, -, hJ3, hs3, hf3, ht3⟩ := hI
   gi_wp2
   refine ⟨by simp, .inl ⟨_, _, rfl, run_takeDeferred hK2, ?_⟩⟩
   have hbs := hbw.size
   have hfw : Fr (fun k => O k ∨ (k = sb ∨ k = fb ∨ k = tb)) W W3 := (Fr.of_below hbw (Nat.le_refl _)).then (hfr.mono fun k hk => by
     rcases hk with h | h
     · exact .inl h
     · exact h.elim)
   have hfp : Fr (fun k => k = D) W3 (W3.putObj D (.deferred none)) := Fr.putObj _ _ rfl
   have hnD : ¬ O D := fun h => by have := hO D h; omega
   exact ⟨.tuple #[], results_none rfl _ _ _, ⟨_, rfl⟩, O, fun k h => .inl h, (hO.fr hfw).fr hfp, hfw.trans hfp (fun k hk => .inr (by omega)), .inl ⟨[], rfl, fJ _ _ _ _ hJ3 (Fr.putObj _ _ hnD)⟩⟩
end
section -- TChanges
open Go Go.RowKit Go.Shelf
attribute [local go_sem] Oper.semAt_some
theorem first_one (nm : ByteArray) (b : Nat) (g : Fn) (ts cs : Array Value) (e : EraN) (f : ByteArray) (i : Int) (w : World) (hs : f.size < 4294967281) (hm : Tryz.MaxL w) (he : OneE w b e f) (h1 : -2199023255552 ≤ i) (h2 : i ≤ 2199023255552) (h0 : errP e f.data.toList = 0) (s : ByteArray) (hsh : Shows f (e.off + e.save) (dstB e.save) ⟨#[]⟩ s 0) :
   Calls Tryz.prog 78 #[oneZ nm b, .func g ts cs, .int .i64 i] w fun o w' => o = .returned (.tuple #[.agg #[.int .i64 i, .int .i64 (e.off + e.save), .bool (dstB e.save), .string s], .int .i64 0]) ∧ Below w.heap.size w w' := by
 have hb0 : Below w.heap.size w ((w.alloc (.cells #[.string nm, .slice (some ⟨b, 0, none⟩) 1 1] 24)).alloc (.cells #[.int .i64 0, .int .i64 0, .bool false, .string ⟨#[]⟩] 76)) := ((Below.refl _ _).alloc (Nat.le_refl _) _).alloc (by simp) _
 have hr0 := Blk.new (w.alloc (.cells #[.string nm, .slice (some ⟨b, 0, none⟩) 1 1] 24)) 76 #[.int .i64 0, .int .i64 0, .bool false, .string ⟨#[]⟩]
 rw [World.size_alloc] at hr0
 have hm0 := hm.below hb0 (Nat.le_refl _)
 have he0 : OneE _ b e f := Blk.below he hb0 (Blk.lt he)
 have HC := Lib.hid (at_one nm b g ts cs e f i _ hs hm0 he0 h1 h2 h0 s 0 hsh)
 unfold withinR at HC
 simp only [if_pos] at HC
 unfold oneZ at HC ⊢
 clear hm0 he0
 generalize dstB e.save = d at *
 generalize e.off + e.save = off at *
 go_enter Tryz.func78, Tryz.ntmps78
 go_wp2_with fail
 refine HC.out.mono ?_
 rintro o w1 ⟨rfl, hb⟩
 have hr1 := hr0.below hb hr0.lt
 have hb1 := hb0.trans (hb.mono hb0.size)
 have hl1 := hr1.lt
 have r0 := hr1.cell 0 (v := .int .i64 0) rfl
 have r1 := hr1.cell 1 (v := .int .i64 0) rfl
 have r2 := hr1.cell 2 (v := .bool false) rfl
 have r3 := hr1.cell 3 (v := .string ⟨#[]⟩) rfl
 have f0 := hr1.frozen 0
 have f1 := hr1.frozen 1
 have f2 := hr1.frozen 2
 have f3 := hr1.frozen 3
 have HR := Lib.hid hr1
 have HB := Lib.hid hb1
 clear hb hb0 hr0 hr1 hb1 HC
 go_wp2_with fail
 have HW := ((((HR.out.set 0 (.int .i64 i)).set 1 (.int .i64 off)).set 2 (.bool d)).set 3 (.string s)).alloc (.cells #[.int .i64 off, .bool d, .string s] 48)
 refine bodyPost_ret (v := .tuple #[.agg #[.int .i64 i, .int .i64 off, .bool d, .string s], .int .i64 0]) ?_ rfl ⟨rfl, (below_set4 HB.out (Nat.le_add_right _ _) _ _ _ _).alloc (by have := HB.out.size; simpa using this) _⟩
 have c0 := HW.cell 0 (v := .int .i64 i) rfl
 have c1 := HW.cell 1 (v := .int .i64 off) rfl
 have c2 := HW.cell 2 (v := .bool d) rfl
 have c3 := HW.cell 3 (v := .string s) rfl
 simp [results, Tryz.f78, go_sem, c0, c1, c2, c3]
theorem steps_any (nm : ByteArray) (b : Nat) (g : Fn) (ts cs : Array Value) (a t : Int) (w : World) :
   Calls Tryz.prog 119 #[oneZ nm b, .func g ts cs, .int .i64 a, .int .i64 t] w fun o w' => o = .returned (.func (.func 147) #[] #[.pointer (some ⟨w.heap.size, 0, none⟩), .pointer (some ⟨w.heap.size + 1, 0, none⟩), .pointer (some ⟨w.heap.size + 2, 0, none⟩), .pointer (some ⟨w.heap.size + 3, 0, none⟩)]) ∧ Below w.heap.size w w' ∧
     Blk w' w.heap.size 24 #[.string nm, .slice (some ⟨b, 0, none⟩) 1 1] ∧ Blk w' (w.heap.size + 1) 90 #[.func g ts cs] ∧ Blk w' (w.heap.size + 2) 3 #[.int .i64 a] ∧ Blk w' (w.heap.size + 3) 3 #[.int .i64 t] := by
 have b0 := Blk.new w 24 #[.string nm, .slice (some ⟨b, 0, none⟩) 1 1]
 have b1 := Blk.new (w.alloc (.cells #[.string nm, .slice (some ⟨b, 0, none⟩) 1 1] 24)) 90 #[.func g ts cs]
 have b2 := Blk.new ((w.alloc (.cells #[.string nm, .slice (some ⟨b, 0, none⟩) 1 1] 24)).alloc (.cells #[.func g ts cs] 90)) 3 #[.int .i64 a]
 have b3 := Blk.new (((w.alloc (.cells #[.string nm, .slice (some ⟨b, 0, none⟩) 1 1] 24)).alloc (.cells #[.func g ts cs] 90)).alloc (.cells #[.int .i64 a] 3)) 3 #[.int .i64 t]
 simp only [World.size_alloc] at b1 b2 b3
 have HA := Lib.hid (And.intro (((b0.alloc (.cells #[.func g ts cs] 90)).alloc (.cells #[.int .i64 a] 3)).alloc (.cells #[.int .i64 t] 3)) (And.intro ((b1.alloc (.cells #[.int .i64 a] 3)).alloc (.cells #[.int .i64 t] 3)) (And.intro (b2.alloc (.cells #[.int .i64 t] 3)) b3)))
 clear b0 b1 b2 b3
 unfold oneZ
 go_enter Tryz.func119, Tryz.ntmps119
 go_wp2_with fail
 go_ret
 exact ⟨rfl, ((((Below.refl _ _).alloc (Nat.le_refl _) _).alloc (by simp) _).alloc (by simp; omega) _).alloc (by simp; omega) _, HA.out⟩
theorem changes_any (nm : ByteArray) (b : Nat) (g : Fn) (ts cs : Array Value) (a t : Int) (w : World) :
   Calls Tryz.prog 79 #[oneZ nm b, .func g ts cs, .int .i64 a, .int .i64 t] w fun o w' => o = .returned (.func (.func 118) #[] #[.pointer (some ⟨w.heap.size + 2, 0, none⟩), .pointer (some ⟨w.heap.size, 0, none⟩), .pointer (some ⟨w.heap.size + 1, 0, none⟩), .pointer (some ⟨w.heap.size + 3, 0, none⟩)]) ∧ Below w.heap.size w w' ∧
     Blk w' w.heap.size 24 #[.string nm, .slice (some ⟨b, 0, none⟩) 1 1] ∧ Blk w' (w.heap.size + 1) 90 #[.func g ts cs] ∧ Blk w' (w.heap.size + 2) 3 #[.int .i64 a] ∧ Blk w' (w.heap.size + 3) 3 #[.int .i64 t] := by
 have b0 := Blk.new w 24 #[.string nm, .slice (some ⟨b, 0, none⟩) 1 1]
 have b1 := Blk.new (w.alloc (.cells #[.string nm, .slice (some ⟨b, 0, none⟩) 1 1] 24)) 90 #[.func g ts cs]
 have b2 := Blk.new ((w.alloc (.cells #[.string nm, .slice (some ⟨b, 0, none⟩) 1 1] 24)).alloc (.cells #[.func g ts cs] 90)) 3 #[.int .i64 a]
 have b3 := Blk.new (((w.alloc (.cells #[.string nm, .slice (some ⟨b, 0, none⟩) 1 1] 24)).alloc (.cells #[.func g ts cs] 90)).alloc (.cells #[.int .i64 a] 3)) 3 #[.int .i64 t]
 simp only [World.size_alloc] at b1 b2 b3
 have HA := Lib.hid (And.intro (((b0.alloc (.cells #[.func g ts cs] 90)).alloc (.cells #[.int .i64 a] 3)).alloc (.cells #[.int .i64 t] 3)) (And.intro ((b1.alloc (.cells #[.int .i64 a] 3)).alloc (.cells #[.int .i64 t] 3)) (And.intro (b2.alloc (.cells #[.int .i64 t] 3)) b3)))
 clear b0 b1 b2 b3
 unfold oneZ
 go_enter Tryz.func79, Tryz.ntmps79
 go_wp2_with fail
 go_ret
 exact ⟨rfl, ((((Below.refl _ _).alloc (Nat.le_refl _) _).alloc (by simp) _).alloc (by simp; omega) _).alloc (by simp; omega) _, HA.out⟩
theorem changes1_none (n : Nat) (hn : 6 ≤ n) (zb sb fb tb b : Nat) (nm : ByteArray) (g : Fn) (ts cs : Array Value) (e : EraN) (f : ByteArray) (a t : Int) (W : World) (hs : f.size < 4294967281) (hgm : ∀ W', Below fb W W' → Tryz.MaxL W') (h0 : errP e f.data.toList = 0)
   (ha : -2199023255552 ≤ a) (ha2 : a < 2199023255552) (ht : -2199023255552 ≤ t) (ht2 : t ≤ 2199023255552) (s : ByteArray) (hsh : Shows f (e.off + e.save) (dstB e.save) ⟨#[]⟩ s 0)
   (hz : Blk W zb 24 #[.string nm, .slice (some ⟨b, 0, none⟩) 1 1]) (hsb : Blk W sb 90 #[.func g ts cs]) (hfb : Blk W fb 3 #[.int .i64 a]) (htb : Blk W tb 3 #[.int .i64 t]) (hzf : zb < fb) (hsf : sb < fb) (htf : tb ≠ fb) (hbf : b < fb) (he : OneE W b e f) (encs : Nat → Array Value) (R : List Nat → Nat → (Nat → Prop) → World → Prop) :
   Iter Fence.wide n Tryz.prog 118 #[.pointer (some ⟨fb, 0, none⟩), .pointer (some ⟨zb, 0, none⟩), .pointer (some ⟨sb, 0, none⟩), .pointer (some ⟨tb, 0, none⟩)] encs R (fun xs : List Nat => xs = []) (fun _ => False) (fun k => k = fb) (fun k => k = fb) W := by
 intro lp J Jx fJ fx hY O hJ hO hK
 have z0 := hz.cell 0 (v := .string nm) rfl
 have z1 := hz.cell 1 (v := .slice (some ⟨b, 0, none⟩) 1 1) rfl
 have s0 := hsb.cell 0 (v := .func g ts cs) rfl
 have f0 := hfb.cell 0 (v := .int .i64 a) rfl
 have ff := hfb.frozen 0
 have hmax : max a (-2199023255552) = a := by omega
 show CallsIn Fence.wide n Tryz.prog 118 #[.func (.yield lp) #[] #[], .pointer (some ⟨fb, 0, none⟩), .pointer (some ⟨zb, 0, none⟩), .pointer (some ⟨sb, 0, none⟩), .pointer (some ⟨tb, 0, none⟩)] W _
 refine callsIn_of_wp_marks Tryz.func118 rfl trivial ?_ rfl
 simp only [Tryz.ntmps118, List.size_toArray, List.length_cons, List.length_nil, Nat.reduceAdd, Nat.reduceSub, Array.replicate_succ, Array.replicate_zero, List.push_toArray, List.append_toArray, List.nil_append, List.cons_append]
 have hfl := hfb.lt
 have hzl := hz.lt
 have hsl := hsb.lt
 have htl := htb.lt
 have hzn : zb ≠ fb := by omega
 have hsn : sb ≠ fb := by omega
 have t0 := htb.cell 0 (v := .int .i64 t) rfl
 have hnz : zb ≠ W.heap.size := by omega
 have HMAX := Lib.hid hmax
 gi_wp2
 refine wpIn_scope ?_
 gi_wp2
 have hF1 : Fr (fun k => k = fb) W ((W.setCell ⟨fb, 0, none⟩ (.int .i64 a)).alloc (.cells #[.func (.yield lp) #[] #[]] 172)) := (Fr.setCell (T := fun k => k = fb) _ 0 _ rfl).then (Fr.alloc _ _)
 have hfb1 := (hfb.set 0 (.int .i64 a)).alloc (.cells #[.func (.yield lp) #[] #[]] 172)
 obtain ⟨W1, hW1⟩ : ∃ W1, (W.setCell ⟨fb, 0, none⟩ (.int .i64 a)).alloc (.cells #[.func (.yield lp) #[] #[]] 172) = W1 := ⟨_, rfl⟩
 have hs1 : W.heap.size < W1.heap.size := by rw [← hW1]; simp
 rw [hW1] at hF1 hfb1 ⊢
 clear hW1 z0 z1 s0 f0 ff t0 hmax
 have hm1 : Tryz.MaxL W1 := hgm _ (hF1.below (by omega) (fun k hk h => by omega))
 have hz1 := hz.fr hF1 hzn
 have hsb1 := hsb.fr hF1 hsn
 have htb1 := htb.fr hF1 htf
 have he1 : OneE W1 b e f := Blk.fr he hF1 (by omega)
 have hJ1 : J [] O W1 := fJ _ _ _ _ hJ (hF1.mono fun k hk => .inl (hK k hk))
 refine ⟨trivial, fun _ => by omega, (callsIn_wide.2 (first_one nm b g ts cs e f a _ hs hm1 he1 ha (by omega) h0 s hsh)).mono ?_⟩
 rintro o w2 ⟨rfl, hb2⟩
 have hm2 := hm1.below hb2 (Nat.le_refl _)
 have hz2 := hz1.below hb2 hz1.lt
 have hsb2 := hsb1.below hb2 hsb1.lt
 have htb2 := htb1.below hb2 htb1.lt
 have hfb2 := hfb1.below hb2 hfb1.lt
 have he2 : OneE w2 b e f := Blk.below he1 hb2 (Blk.lt he1)
 have hJ2 : J [] O w2 := fJ _ _ _ _ hJ1 (Fr.of_below hb2 (Nat.le_refl _))
 have hF2 : Fr (fun k => k = fb) W w2 := hF1.then (Fr.of_below hb2 (Nat.le_refl _))
 clear hz1 hsb1 htb1 hfb1 he1 hJ1 hm1 hF1
 have z0 := hz2.cell 0 (v := .string nm) rfl
 have z1 := hz2.cell 1 (v := .slice (some ⟨b, 0, none⟩) 1 1) rfl
 have s0 := hsb2.cell 0 (v := .func g ts cs) rfl
 have f0 := hfb2.cell 0 (v := .int .i64 a) rfl
 have t0 := htb2.cell 0 (v := .int .i64 t) rfl
 have lz := hz2.lt
 have ls := hsb2.lt
 have lf := hfb2.lt
 have lt_ := htb2.lt
 generalize dstB e.save = d at *
 generalize e.off + e.save = off at *
 have hb2s := hb2.size
 gi_wp2
 refine wpIn_label ?_
 gi_wp2
 have hb3 : Below w2.heap.size w2 (w2.alloc (.cells #[.int .i64 a, .int .i64 off, .bool d, .string s] 76)) := (Below.refl _ _).alloc (Nat.le_refl _) _
 obtain ⟨w3, hw3⟩ : ∃ w3, w2.alloc (.cells #[.int .i64 a, .int .i64 off, .bool d, .string s] 76) = w3 := ⟨_, rfl⟩
 rw [hw3] at hb3 ⊢
 clear hw3 z0 z1 s0 f0 t0
 refine ⟨trivial, fun _ => by omega, (callsIn_wide.2 (steps_any nm b g ts cs a t w3)).mono ?_⟩
 rintro o w4 ⟨rfl, hb4, hz4, hsb4, hfb4, htb4⟩
 have hb24 := hb3.trans (hb4.mono hb3.size)
 have hm4 := hm2.below hb24 (Nat.le_refl _)
 have he4 : OneE w4 b e f := Blk.below he2 hb24 (Blk.lt he2)
 have hJ4 : J [] O w4 := fJ _ _ _ _ hJ2 (Fr.of_below hb24 (Nat.le_refl _))
 have hF4 : Fr (fun k => k = fb) W w4 := hF2.then (Fr.of_below hb24 (Nat.le_refl _))
 have hs3 := hb3.size
 have hs4 := hF4.size
 have hO4 : Bd O w4 := hO.fr hF4
 have hOn : ∀ k, W.heap.size ≤ k → ¬ O k := fun k hk h => by have := hO k h; omega
 have HJ4 := Lib.hid hJ4
 clear hb3 hb4 hb24 hJ2 hF2
 gi_wp2
 refine range_own (α := Nat) rfl (by omega) (gf := 147) (lb := #[.pointer (some ⟨w3.heap.size, 0, none⟩), .pointer (some ⟨w3.heap.size + 1, 0, none⟩), .pointer (some ⟨w3.heap.size + 2, 0, none⟩), .pointer (some ⟨w3.heap.size + 3, 0, none⟩)]) rfl trivial (enters_of Tryz.func147 (by kernel_rfl) rfl)
   (encs := fun _ => #[undef]) (R := fun _ _ _ _ => False)
   (fun W' hW' => steps1_none (n - 1) (by omega) _ _ _ _ b nm g ts cs e f a t W' hs (hm4.below hW' (Nat.le_refl _)) h0 ha ha2 ht ht2 (hz4.below hW' hz4.lt) (hsb4.below hW' hsb4.lt) (hfb4.below hW' hfb4.lt) (htb4.below hW' htb4.lt) (Blk.below he4 hW' (Blk.lt he4)) _ _)
   (fun _ => rfl) (fun _ O2 W' => (∀ k, O k → O2 k) ∧ J [] O W') (fun _ _ _ _ => False) ?feet (fun _ _ _ _ _ h _ => h) O ⟨fun k h => h, HJ4.out⟩ hO4 (fun k hk => ?_) (fun k hk => ?_) ?round ?done ?stop
 case feet =>
   rintro _ O2 W' W'' ⟨h1, h2⟩ hf
   exact ⟨h1, fJ _ _ _ _ h2 (hf.mono fun k hk => .inl fun h => hk (h1 k h))⟩
 · have := htb4.lt
   rcases hk with h | h | h <;> omega
 · exact hOn k (by rcases hk with h | h | h <;> omega)
 case stop =>
   intro _ _ _ _ _ _ h
   exact h.elim
 case round =>
   intro lp2 pre k O2 D W3 hI hBO hBD hDO hR
   exact hR.elim
 case done =>
   intro D xs O2 W3 hD hS hI hO2 hBO hOD hfr hK2
   obtain ⟨-, hJ3⟩ := hI
   gi_wp2
   refine ⟨by simp, .inl ⟨_, _, rfl, run_takeDeferred hK2, ?_⟩⟩
   have hfw : Fr (fun k => O k ∨ k = fb) W W3 := (hF4.mono fun k hk => .inl (.inr hk)).trans hfr (fun k hk => by
     rcases hk with h | h
     · exact .inl (.inl h)
     · exact .inr (by rcases h with h | h | h <;> omega))
   have hfp : Fr (fun k => k = D) W3 (W3.putObj D (.deferred none)) := Fr.putObj _ _ rfl
   have hnD : ¬ O D := hOn D (by omega)
   exact ⟨.tuple #[], results_none rfl _ _ _, ⟨_, rfl⟩, O, fun k h => .inl h, (hO.fr hfw).fr hfp, hfw.trans hfp (fun k hk => .inr (by omega)), .inl ⟨[], rfl, fJ _ _ _ _ hJ3 (Fr.putObj _ _ hnD)⟩⟩
end
section -- TMake
open Go Go.RowKit Go.Shelf
def MakeOne (w : World) (i off : Int) (d : Bool) (s : ByteArray) (o : Ending) (w' : World) : Prop :=
 ∃ blk, w.heap.size ≤ blk ∧ o = .returned (.tuple #[.slice (some ⟨blk, 0, none⟩) 1 1, .int .i64 0]) ∧ Blk w' blk 76 #[.int .i64 i, .int .i64 off, .bool d, .string s] ∧ Below w.heap.size w w'
theorem make_one (nm : ByteArray) (b : Nat) (g : Fn) (ts cs : Array Value) (e : EraN) (f : ByteArray) (t : Int) (w : World) (hs : f.size < 4294967281) (hm : Tryz.MaxL w) (he : OneE w b e f) (h1 : -2199023255552 ≤ t) (h2 : t ≤ 2199023255552) (h0 : errP e f.data.toList = 0) (s : ByteArray) (hsh : Shows f (e.off + e.save) (dstB e.save) ⟨#[]⟩ s 0) :
   Calls Tryz.prog 38 #[oneZ nm b, .func g ts cs, .int .i64 t] w (MakeOne w (-2199023255552) (e.off + e.save) (dstB e.save) s) := by
 have hb0 : Below w.heap.size w (w.alloc (.cells #[.string nm, .slice (some ⟨b, 0, none⟩) 1 1] 24)) := (Below.refl _ _).alloc (Nat.le_refl _) _
 have hz0 := Blk.new w 24 #[.string nm, .slice (some ⟨b, 0, none⟩) 1 1]
 have hm0 := hm.below hb0 (Nat.le_refl _)
 have he0 : OneE _ b e f := Blk.below he hb0 (Blk.lt he)
 have HC := Lib.hid (checkZ_one nm b g ts cs e f _ hs hm0 he0)
 rw [h0] at HC
 unfold oneZ at HC ⊢
 refine (callsIn_wide (n := 12)).1 ?_
 refine callsIn_of_wp_marks Tryz.func38 rfl trivial ?_ rfl
 simp only [Tryz.ntmps38, List.size_toArray, List.length_cons, List.length_nil, Nat.reduceAdd, Nat.reduceSub, Array.replicate_succ, Array.replicate_zero, List.push_toArray, List.append_toArray, List.nil_append, List.cons_append]
 refine wpIn_wide.2 ?_
 go_wp2_with fail
 refine HC.out.mono ?_
 rintro o w1 ⟨rfl, hb⟩
 have hm1 := hm0.below hb (Nat.le_refl _)
 have he1 : OneE w1 b e f := Blk.below he0 hb (Blk.lt he0)
 have hz1 := hz0.below hb hz0.lt
 have hb1 := hb0.trans (hb.mono hb0.size)
 have z0 := hz1.cell 0 (v := .string nm) rfl
 have z1 := hz1.cell 1 (v := .slice (some ⟨b, 0, none⟩) 1 1) rfl
 clear HC hb hb0 hz0 hm0 he0
 have HM := Lib.hid hm1
 have HE := Lib.hid he1
 have HZ := Lib.hid hz1
 have HB := Lib.hid hb1
 clear hm1 he1 hz1 hb1
 go_wp2_with fail
 refine (first_one nm b g ts cs e f (-2199023255552) _ hs HM.out HE.out (by omega) (by omega) h0 s hsh).mono ?_
 rintro o w2 ⟨rfl, hb⟩
 have HM2 := Lib.hid (HM.out.below hb (Nat.le_refl _))
 have he2 : OneE w2 b e f := Blk.below HE.out hb (Blk.lt HE.out)
 have HE2 := Lib.hid he2
 have hz2 := HZ.out.below hb HZ.out.lt
 have HB2 := Lib.hid (HB.out.trans (hb.mono HB.out.size))
 have lz := hz2.lt
 clear z0 z1 hb HM HE HZ HB he2
 have z0 := hz2.cell 0 (v := .string nm) rfl
 have z1 := hz2.cell 1 (v := .slice (some ⟨b, 0, none⟩) 1 1) rfl
 have HZ2 := Lib.hid hz2
 clear hz2
 have HSH := Lib.hid hsh
 clear hsh
 generalize hd : dstB e.save = d at *
 generalize hoff : e.off + e.save = off at *
 have HD := Lib.hid hd
 have HOFF := Lib.hid hoff
 clear hd hoff
 have lz1 : w.heap.size < w2.heap.size + 1 := by omega
 have lz2 : w.heap.size < w2.heap.size + 1 + 1 := by omega
 go_wp2_with fail
 have hb3 : Below w2.heap.size w2 (((w2.alloc (.cells #[.int .i64 (-2199023255552), .int .i64 off, .bool d, .string s] 76)).alloc (.cells #[.int .i64 (-2199023255552), .int .i64 off, .bool d, .string s] 76)).alloc (.cells #[.slice (some ⟨w2.heap.size + 1, 0, none⟩) 1 1] 81)) := (((Below.refl _ _).alloc (Nat.le_refl _) _).alloc (by simp) _).alloc (by simp; omega) _
 have hR := Blk.new (w2.alloc (.cells #[.int .i64 (-2199023255552), .int .i64 off, .bool d, .string s] 76)) 76 #[.int .i64 (-2199023255552), .int .i64 off, .bool d, .string s]
 have hT := Blk.new ((w2.alloc (.cells #[.int .i64 (-2199023255552), .int .i64 off, .bool d, .string s] 76)).alloc (.cells #[.int .i64 (-2199023255552), .int .i64 off, .bool d, .string s] 76)) 81 #[.slice (some ⟨w2.heap.size + 1, 0, none⟩) 1 1]
 have hR3 := hR.alloc (.cells #[.slice (some ⟨w2.heap.size + 1, 0, none⟩) 1 1] 81)
 simp only [World.size_alloc] at hR3 hT
 obtain ⟨w3, hw3⟩ : ∃ w3, (((w2.alloc (.cells #[.int .i64 (-2199023255552), .int .i64 off, .bool d, .string s] 76)).alloc (.cells #[.int .i64 (-2199023255552), .int .i64 off, .bool d, .string s] 76)).alloc (.cells #[.slice (some ⟨w2.heap.size + 1, 0, none⟩) 1 1] 81)) = w3 := ⟨_, rfl⟩
 rw [hw3] at hb3 hR3 hT ⊢
 clear hw3 hR z0 z1
 refine (changes_any nm b g ts cs (-2199023255552) t w3).mono ?_
 rintro o w4 ⟨rfl, hb4, hz4, hsb4, hfb4, htb4⟩
 have hb24 := hb3.trans (hb4.mono hb3.size)
 have hm4 := HM2.out.below hb24 (Nat.le_refl _)
 have he4 : OneE w4 b e f := Blk.below HE2.out hb24 (Blk.lt HE2.out)
 have hbl3 : b < w3.heap.size := Nat.lt_of_lt_of_le (Blk.lt HE2.out) hb3.size
 have hR4 := hR3.below hb4 hR3.lt
 have hT4 := hT.below hb4 hT.lt
 have hb04 := HB2.out.trans (hb24.mono HB2.out.size)
 have hs3 := hb3.size
 have htl := hT.lt
 have hm3 := HM2.out.below hb3 (Nat.le_refl _)
 have hs44 := htb4.lt
 clear hb24 hb3 hR3 hT HZ2 HM2 HE2
 go_wp2_with fail
 refine (wpIn_wide (n := 12)).1 ?_
 refine range_own (α := Nat) rfl (by omega) (gf := 118) (lb := #[.pointer (some ⟨w3.heap.size + 2, 0, none⟩), .pointer (some ⟨w3.heap.size, 0, none⟩), .pointer (some ⟨w3.heap.size + 1, 0, none⟩), .pointer (some ⟨w3.heap.size + 3, 0, none⟩)]) rfl trivial (enters_of Tryz.func118 (by kernel_rfl) rfl)
   (encs := fun _ => #[undef]) (R := fun _ _ _ _ => False)
   (fun W' hW' => changes1_none 11 (by omega) _ _ _ _ b nm g ts cs e f (-2199023255552) t W' hs (fun W'' hb'' => hm3.below ((hb4.trans ((hW'.mono (Nat.le_of_lt (by omega))).trans (hb''.mono (by omega)))).mono (Nat.le_refl _)) (Nat.le_refl _)) h0 (by omega) (by omega) h1 h2 s (by rw [HOFF.out, HD.out]; exact HSH.out) (hz4.below hW' hz4.lt) (hsb4.below hW' hsb4.lt) (hfb4.below hW' hfb4.lt) (htb4.below hW' htb4.lt) (by omega) (by omega) (by omega) (by omega) (Blk.below he4 hW' (Blk.lt he4)) _ _)
   (fun _ => rfl) (fun _ _ _ => True) (fun _ _ _ _ => False) (fun _ _ _ _ h _ => h) (fun _ _ _ _ _ h _ => h) (fun _ => False) trivial (fun k hk => hk.elim) (fun k hk => ?_) (fun _ _ h => h) ?round ?done ?stop
 · have := hfb4.lt
   omega
 case stop =>
   intro _ _ _ _ _ _ h
   exact h.elim
 case round =>
   intro lp2 pre k O2 D W3 hI hBO hBD hDO hR
   exact hR.elim
 case done =>
   intro D xs O2 W3 hD hS hI hO2 hBO hOD hfr hK2
   have hF : Fr (fun k => k = w3.heap.size + 2) w4 W3 := hfr.mono fun k hk => by
     rcases hk with h | h
     · exact h.elim
     · exact .inl h
   have hR5 := hR4.fr hF (by omega)
   have hT5 := hT4.fr hF (by omega)
   have t0 := hT5.cell 0 (v := .slice (some ⟨w2.heap.size + 1, 0, none⟩) 1 1) rfl
   have hb5 := hb04.trans (hF.below hb04.size (fun k hk h => by omega))
   have HK := Lib.hid hK2
   have HR5 := Lib.hid hR5
   have HB5 := Lib.hid hb5
   clear hF hR5 hT5 hb5 hfr hK2 hR4 hT4 hb04
   have hl2 : w.heap.size < w2.heap.size := lz
   clear lz lz1 lz2
   go_wp2_with fail
   refine ⟨by simp, .inl ⟨_, _, rfl, run_takeDeferred HK.out, ?_⟩⟩
   refine ⟨.tuple #[.slice (some ⟨w2.heap.size + 1, 0, none⟩) 1 1, .int .i64 0], by simp [results, Tryz.f38, go_sem], w2.heap.size + 1, by omega, rfl, ?_, fin_below HB5.out (by omega)⟩
   exact HR5.out.fr (Fr.putObj (T := fun k => k = D) _ _ rfl) (by omega)
end
section -- TRise
open Go Go.RowKit
open Go Go.RowKit
end
section -- TSame
open Go Go.RowKit
def chgEq (c d : Chg) : Bool := decide (c.at_ = d.at_ ∧ c.loc.off = d.loc.off ∧ c.loc.dst = d.loc.dst ∧ c.loc.abbr.toList = d.loc.abbr.toList)
def SameTo (l m : List Chg) (k : Nat) : Prop := ∀ i (h : i < l.length) (h' : i < m.length), i < k → chgEq l[i] m[i] = true
def sameB (l m : List Chg) : Bool := decide (l.length = m.length) && decide (∀ i : _root_.Fin l.length, ∀ h : i.1 < m.length, chgEq l[i.1] m[i.1] = true)
theorem SameTo.next {l m : List Chg} {k : Nat} {x y : Chg} {hl : k < l.length} {hm : k < m.length} (h : SameTo l m k) (hx : l[k] = x) (hy : m[k] = y) (hq : chgEq x y = true) : SameTo l m (k + 1) := by
 intro i h1 h2 hi
 by_cases hik : i = k
 · subst hik; rw [hx, hy]; exact hq
 · exact h i h1 h2 (by omega)
theorem same_no {l m : List Chg} {k : Nat} {x y : Chg} {hl : k < l.length} {hm : k < m.length} (hx : l[k] = x) (hy : m[k] = y) (hq : chgEq x y = false) : sameB l m = false := by
 unfold sameB
 rw [Bool.and_eq_false_iff]
 right
 refine decide_eq_false fun h => ?_
 have := h ⟨k, hl⟩ hm
 rw [show l[(⟨k, hl⟩ : _root_.Fin l.length).1] = x from hx, hy, hq] at this
 cases this
theorem same_yes {l m : List Chg} (hlen : l.length = m.length) (h : ∀ i (h : i < l.length) (h' : i < m.length), chgEq l[i] m[i] = true) : sameB l m = true := by
 unfold sameB
 rw [decide_eq_true hlen, Bool.true_and, decide_eq_true_eq]
 exact fun i h' => h i.1 i.2 h'
theorem same_len {l m : List Chg} (h : ¬ l.length = m.length) : sameB l m = false := by unfold sameB; rw [decide_eq_false h]; rfl
theorem chgEq_iff {c d : Chg} : chgEq c d = true ↔ c = d := by
 unfold chgEq
 rw [decide_eq_true_eq]
 constructor
 · rintro ⟨h1, h2, h3, h4⟩
   obtain ⟨a, o, b, ⟨s⟩⟩ := c
   obtain ⟨a', o', b', ⟨s'⟩⟩ := d
   simp only at h1 h2 h3 h4
   subst h1 h2 h3
   have e : (⟨s⟩ : ByteArray) = ⟨s'⟩ := by
     rw [Lib.toList_data, Lib.toList_data] at h4
     have : s = s' := Array.toList_inj.1 h4
     rw [this]
   rw [e]
 · rintro rfl; exact ⟨rfl, rfl, rfl, rfl⟩
theorem sameB_iff {l m : List Chg} : sameB l m = true ↔ l = m := by
 constructor
 · intro h
   unfold sameB at h
   rw [Bool.and_eq_true, decide_eq_true_eq, decide_eq_true_eq] at h
   exact List.ext_getElem h.1 fun i h1 h2 => chgEq_iff.1 (h.2 ⟨i, h1⟩ h2)
 · rintro rfl
   exact same_yes rfl fun i h h' => chgEq_iff.2 rfl
theorem same_any (w : World) (B : Nat) (v u : Value) (l m : List Chg) (hv : Chgs w B v l) (hu : Chgs w B u m) (hB : B ≤ w.heap.size) :
   Calls Tryz.prog 39 #[v, u] w fun e w' => e = .returned (.bool (sameB l m)) ∧ Below w.heap.size w w' := by
 obtain ⟨A, c, rfl, hlc, hcm⟩ := hv.form
 obtain ⟨A2, c2, rfl, hlc2, hcm2⟩ := hu.form
 unfold maxLen at hcm hcm2
 have HV := Lib.hid hv
 have HU := Lib.hid hu
 clear hv hu
 by_cases hlen : l.length = m.length
 · have HL := Lib.hid hlen
   rw [← hlen] at HU ⊢
   clear hlen hlc2
   go_enter Tryz.func39, Tryz.ntmps39
   go_wp2_with fail
   go_loopw [5] (fun i wr => ∃ k : Nat, k ≤ l.length ∧ i = .int .i64 k ∧ SameTo l m k ∧ Below w.heap.size w wr) (fun i _ => l.length - (intOf i).toNat)
   case atStart => exact ⟨0, Nat.zero_le _, rfl, fun i _ _ h => by omega, Below.refl _ _⟩
   case round =>
     obtain ⟨k, hk, rfl, hr, hb⟩ := hrel
     have HR := Lib.hid hr
     clear hr
     by_cases hlt : k < l.length
     · obtain ⟨b, o, c', e, -, hc⟩ := HV.out.cells (by omega)
       cases e
       have hmk : k < m.length := by rw [← HL.out]; exact hlt
       obtain ⟨b2, o2, c2', e, -, hc2⟩ := HU.out.cells (by omega)
       rw [← HL.out] at e
       cases e
       clear hc hc2
       have hl0 : 0 < l.length := by omega
       have hm0 : 0 < m.length := by omega
       have HB := Lib.hid hb
       clear hb
       have HC := Lib.hid (fun (W : World) (h : Below wr.heap.size wr W) => show (_ ∧ _ ∧ _ ∧ _) ∧ (_ ∧ _ ∧ _ ∧ _) by
         have hbW := (HB.out.trans (h.mono HB.out.size)).mono hB
         obtain ⟨_, _, _, e1, -, h1⟩ := (HV.out.below hbW).cells hl0
         cases e1
         obtain ⟨_, _, _, e2, -, h2⟩ := (HU.out.below hbW).cells hm0
         rw [← HL.out] at e2
         cases e2
         exact ⟨h1 k hlt, h2 k hmk⟩)
       obtain ⟨x, hx⟩ : ∃ x, l[k] = x := ⟨_, rfl⟩
       obtain ⟨y, hy⟩ : ∃ y, m[k] = y := ⟨_, rfl⟩
       rw [hx, hy] at HC
       have HX := Lib.hid hx
       have HY := Lib.hid hy
       clear hx hy
       go_wp2_with fail
       cases hq : chgEq x y
       · have HQ := Lib.hid hq
         clear hq
         refine wp_env (fin := ?fnA) (by kernel_rfl) [17, 18, 19, 20, 21, 22, 23, 24, 25]
           [.slice (some ⟨b, o, none⟩) l.length c, .int .i64 k, .pointer (some ⟨b, o + k * 4, none⟩), chgA x, .slice (some ⟨b2, o2, none⟩) l.length c2, .int .i64 k, .pointer (some ⟨b2, o2 + k * 4, none⟩), chgA y, .bool true] (by kernel_rfl) ?finA ?stepsA ?nextA
         case finA =>
           simp only [putAll, Act.put, List.setIfInBounds_toArray, List.set_cons_succ, List.set_cons_zero]
           rfl
         case stepsA =>
           unfold chgA
           refine ⟨?_, ?_, ?_, ?_, ?_, ?_, ?_, ?_, ?_, trivial⟩
           all_goals
             refine .inr ⟨by kernel_rfl, fun w1_ hB_ => ?_⟩
             obtain ⟨⟨c0, c1, c2_, c3⟩, ⟨d0, d1, d2, d3⟩⟩ := HC.out w1_ hB_
             go_simp
             first
               | exact ⟨rfl, Below.refl _ _⟩
               | (have hq := HQ.out
                  unfold chgEq at hq
                  simp only [decide_eq_false_iff_not] at hq
                  repeat' split
                  all_goals first | exact ⟨rfl, Below.refl _ _⟩ | (exfalso; simp_all; done))
         case nextA =>
         intro w2 hb2
         have hb3 := HB.out.trans (hb2.mono HB.out.size)
         clear hb2
         go_wp2_with fail
         go_ret
         exact ⟨by rw [same_no (HX.out) (HY.out) HQ.out]; rfl, hb3⟩
       · have HQ := Lib.hid hq
         clear hq
         refine wp_env (fin := ?fnB) (by kernel_rfl) [17, 18, 19, 20, 21, 22, 23, 24, 25]
           [.slice (some ⟨b, o, none⟩) l.length c, .int .i64 k, .pointer (some ⟨b, o + k * 4, none⟩), chgA x, .slice (some ⟨b2, o2, none⟩) l.length c2, .int .i64 k, .pointer (some ⟨b2, o2 + k * 4, none⟩), chgA y, .bool false] (by kernel_rfl) ?finB ?stepsB ?nextB
         case finB =>
           simp only [putAll, Act.put, List.setIfInBounds_toArray, List.set_cons_succ, List.set_cons_zero]
           rfl
         case stepsB =>
           unfold chgA
           refine ⟨?_, ?_, ?_, ?_, ?_, ?_, ?_, ?_, ?_, trivial⟩
           all_goals
             refine .inr ⟨by kernel_rfl, fun w1_ hB_ => ?_⟩
             obtain ⟨⟨c0, c1, c2_, c3⟩, ⟨d0, d1, d2, d3⟩⟩ := HC.out w1_ hB_
             go_simp
             first
               | exact ⟨rfl, Below.refl _ _⟩
               | (have hq := HQ.out
                  unfold chgEq at hq
                  simp only [decide_eq_true_eq] at hq
                  repeat' split
                  all_goals first | exact ⟨rfl, Below.refl _ _⟩ | (exfalso; simp_all; done))
         case nextB =>
         intro w2 hb2
         have hb3 := HB.out.trans (hb2.mono HB.out.size)
         clear hb2
         go_wp2_with fail
         go_roundw
         case rel => exact ⟨k + 1, by omega, by go_num, SameTo.next HR.out HX.out HY.out HQ.out, hb3⟩
         case measure => first | (simp [intOf]; done) | (simp [intOf]; omega)
     · have HS := Lib.hid (same_yes HL.out (fun i h h' => HR.out i h h' (by omega)))
       go_wp2_with fail
       go_ret
       exact ⟨by rw [HS.out]; rfl, hb⟩
 · have HS := Lib.hid (same_len hlen)
   go_enter Tryz.func39, Tryz.ntmps39
   go_wp2_with fail
   go_ret
   exact ⟨by rw [HS.out]; rfl, Below.refl _ _⟩
end
section -- TAwake
open Go Go.RowKit Go.Shelf
def tcetE : EraN := ⟨3600, 0, 0, 0, 0, 0, 0, 0, 0⟩
def tcetS : ByteArray := ⟨#[67, 69, 84]⟩
theorem tcet_kind : kindR tcetS.data.toList = (0, 0) := by kernel_rfl
theorem tcet_err : errP tcetE tcetS.data.toList = 0 := by kernel_rfl
theorem tcet_shows : Shows tcetS (tcetE.off + tcetE.save) (dstB tcetE.save) ⟨#[]⟩ tcetS 0 := fun W hm => show_plain tcetS _ _ _ W (by decide) hm tcet_kind
def cetC : Chg := ⟨-2199023255552, 3600, false, tcetS⟩
theorem chgs_one {W : World} {b B : Nat} {c : Chg} (h : Blk W b 76 (chgV c).toArray) (hB : b < B) : Chgs W B (.slice (some ⟨b, 0, none⟩) 1 1) [c] := by
 refine ⟨some ⟨b, 0, none⟩, 1, rfl, Nat.le_refl _, by decide, rfl, fun _ => ⟨b, 0, rfl, hB, fun j u hj => ?_⟩⟩
 rw [Nat.zero_add]
 exact h.cell j (by simpa [chgsV] using hj)
theorem tawake_any (w : World) (hm : Tryz.MaxL w) : Calls Tryz.prog 37 #[] w fun e w' => e = .returned (.bool true) ∧ Below w.heap.size w w' := by
 have HM := Lib.hid hm
 clear hm
 go_enter Tryz.func37, Tryz.ntmps37
 have hb0 : Below w.heap.size w ((w.alloc (.cells (eraP tcetE tcetS).toArray 42)).alloc (.cells #[.string ⟨#[88]⟩, .slice (some ⟨w.heap.size, 0, none⟩) 1 1, .slice none 0 0] 27)) := ((Below.refl _ _).alloc (Nat.le_refl _) _).alloc (by simp) _
 have he0 : OneE ((w.alloc (.cells (eraP tcetE tcetS).toArray 42)).alloc (.cells #[.string ⟨#[88]⟩, .slice (some ⟨w.heap.size, 0, none⟩) 1 1, .slice none 0 0] 27)) w.heap.size tcetE tcetS := (Blk.new w 42 (eraP tcetE tcetS).toArray).alloc _
 have HC := Lib.hid (make_one ⟨#[88]⟩ w.heap.size (.func 15) #[.agg #[.string ⟨#[88]⟩, .slice (some ⟨w.heap.size, 0, none⟩) 1 1, .slice none 0 0]] #[] tcetE tcetS 2199023255552 _ (by decide) (HM.out.below hb0 (Nat.le_refl _)) he0 (by omega) (by omega) tcet_err tcetS tcet_shows)
 unfold oneZ eraP tcetE tcetS at HC
 unfold eraP tcetE tcetS at hb0
 clear he0
 go_wp2_with fail
 refine HC.out.mono ?_
 rintro o w1 ⟨blk, h1, rfl, h3, h4⟩
 have HB := Lib.hid h3
 have HL := Lib.hid h4
 have h3l := h3.lt
 clear h3 h4 HC
 go_wp2_with fail
 have hR : Blk w1 blk 76 (chgV cetC).toArray := HB.out
 have hb1 : Below w1.heap.size w1 (w1.alloc (.cells (chgV cetC).toArray 76)) := (Below.refl _ _).alloc (Nat.le_refl _) _
 have hs : (w1.alloc (.cells (chgV cetC).toArray 76)).heap.size = w1.heap.size + 1 := World.size_alloc ..
 have HS := Lib.hid (same_any (w1.alloc (.cells (chgV cetC).toArray 76)) (w1.heap.size + 1) _ _ [cetC] [cetC] (chgs_one (hR.below hb1 hR.lt) (by omega)) (chgs_one (Blk.new w1 76 (chgV cetC).toArray) (by omega)) (by omega))
 rw [sameB_iff.2 rfl] at HS
 refine HS.out.mono ?_
 rintro o w2 ⟨rfl, hb2⟩
 have hbw := (hb0.trans (HL.out.mono hb0.size))
 have hb3 := hbw.trans ((hb1.trans (hb2.mono hb1.size)).mono hbw.size)
 clear hb2 hbw hb1 hb0 hs hR HS
 go_wp2_with fail
 go_ret
 exact ⟨rfl, hb3⟩
end
section -- HLawM
open Go Go.RowKit Go.Shelf
theorem make_few (zn : ByteArray) (ev sv : Value) (l : List EraF) (S : List SetF) (to : Int) (B : Nat) (w : World) (hz : ZW w B ev sv l S) (hf : fewB l S = true) (ho : ZOk l S) (hlet : ∀ s ∈ S, letOk s.l)
   (h : 2199023255552 < to ∨ to ≤ 4000000000) :
   Calls Tryz.prog 38 #[zoneA zn ev, setsV zn ev sv, .int .i64 to] w (MakeEnd S l to w) :=
 zmake_any zn ev sv l S to B w hz ho hlet (fun h0 => endL_few h0 (fewB_iff.1 hf).2.1) (fun _ h2 => by
   by_cases h0 : errZ S l = 0
   · exact changesL_len h0 (fewB_iff.1 hf).2.1 (fewB_iff.1 hf).2.2.1 (by omega)
   · rw [changesL_bad h0]
     exact Nat.zero_le _)
theorem makeErr_few {S : List SetF} {l : List EraF} {to : Int} (hf : fewB l S = true) (h0 : errZ S l = 0) (h1 : -2199023255552 ≤ to) (h2 : to ≤ 2199023255552) : makeErr S l to = 0 := by
 unfold makeErr
 rw [if_neg (fun e => e h0), if_neg (by omega)]
 exact errI_few h0 (fewB_iff.1 hf).2.1 (by omega) (by omega)
end
section -- HRight
open Go Go.RowKit Go.Shelf
noncomputable def goodZ (l : List EraF) (S : List SetF) : Bool := fewB l S && decide (errZ S l = 0)
theorem good_iff {l : List EraF} {S : List SetF} : goodZ l S = true ↔ fewB l S = true ∧ errZ S l = 0 := by unfold goodZ; rw [Bool.and_eq_true, decide_eq_true_eq]
theorem few_okR {l : List EraF} {S : List SetF} (h : fewB l S = true) : ZOk l S where
 fm := fun x hx => by have := eraFew_fm ((fewB_iff.1 h).1 x hx); omega
 rul := fun s hs => right_ok ((fewB_iff.1 h).2.1 s hs)
 len := by have := (fewB_iff.1 h).2.2.1; omega
def RightPost (w : World) (l : List EraF) (S : List SetF) (o : Ending) (w' : World) : Prop :=
 (∃ u v, o = .returned (.tuple #[u, v, .bool (goodZ l S)]) ∧ (goodZ l S = true → ∃ R, RowsZ S l R ∧ RowsM w' u R ∧ Nums w' w'.heap.size v (endL S l))) ∧ Below w.heap.size w w'
theorem right14_any (w : World) (zn : ByteArray) (ev sv : Value) (B : Nat) (l : List EraF) (S : List SetF) (hz : ZW w B ev sv l S) (hfm : ∀ x ∈ l, x.fm.size < 1152921504606846976) :
   Calls Tryz.prog 23 #[worldA zn ev sv] w (RightPost w l S) := by
 obtain ⟨i0, hi, hz0, hz1, hz2⟩ := info_parts infoInt
 obtain ⟨A, cA, rfl, hlc, hcm⟩ := hz.eras.form
 obtain ⟨A2, cS, rfl, hlc2, hcm2⟩ := hz.sets.form
 unfold maxLen at hcm hcm2
 obtain ⟨W0, hW0⟩ : ∃ W, (w.alloc (.cells #[.string zn, .slice A l.length cA, .slice A2 S.length cS] 27)) = W := ⟨_, rfl⟩
 have hb0 : Below w.heap.size w W0 := by rw [← hW0]; exact (Below.refl w.heap.size w).alloc (Nat.le_refl _) _
 have HXX := Lib.hid (show Blk W0 w.heap.size 27 #[.string zn, .slice A l.length cA, .slice A2 S.length cS] by rw [← hW0]; exact Blk.new w _ _)
 have HZ0 := Lib.hid (hz.below hb0)
 have HF := Lib.hid (few_any W0 zn _ _ B l S (HZ0.out.eras) (HZ0.out.sets) HZ0.out.le hfm)
 have HB0 := Lib.hid hb0
 have HW0 := Lib.hid hW0
 have hBw := hz.le
 clear hz hb0 hW0 hfm
 unfold worldA at HF ⊢
 go_enter Tryz.func23, Tryz.ntmps23
 go_wp2_with fail
 rw [HW0.out]
 try simp only [HW0.out]
 clear HW0
 cases hf : fewB l S with
 | false =>
   rw [hf] at HF
   have HG := Lib.hid (show goodZ l S = false by unfold goodZ; rw [hf]; rfl)
   clear hf
   refine HF.out.mono ?_
   rintro o w1 ⟨rfl, hb⟩
   have HB1 := Lib.hid (HB0.out.trans (hb.mono HB0.out.size))
   clear hb
   go_wp2_with fail
   go_ret3
   exact ⟨⟨_, _, by rw [HG.out]; rfl, fun h => by rw [HG.out] at h; cases h⟩, HB1.out⟩
 | true =>
   rw [hf] at HF
   have HFEW := Lib.hid hf
   have HFW := Lib.hid (fewB_iff.1 hf)
   clear hf
   refine HF.out.mono ?_
   rintro o w1 ⟨rfl, hb⟩
   have HBL := Lib.hid hb
   have HB1 := Lib.hid (HB0.out.trans (hb.mono HB0.out.size))
   have HCK := Lib.hid (zcheckZ_any zn _ _ B l S w1 (HZ0.out.below hb) (few_okR HFEW.out))
   unfold setsV zoneA worldA at HCK
   obtain ⟨E, hE⟩ : ∃ e, errZ S l = e := ⟨_, rfl⟩
   rw [hE] at HCK
   have HE := Lib.hid hE
   have hxb := HXX.out.below (HBL.out) HXX.out.lt
   have x0 := hxb.cell 0 (v := .string zn) rfl
   have x1 := hxb.cell 1 (v := .slice A l.length cA) rfl
   have x2 := hxb.cell 2 (v := .slice A2 S.length cS) rfl
   have hxl := hxb.lt
   clear hxb
   clear hb HF hE
   by_cases hE0 : E = 0
   · subst hE0
     have HG := Lib.hid (show goodZ l S = true from good_iff.2 ⟨HFEW.out, HE.out⟩)
     have hl1 : 0 < l.length := by have := (errZ_zero HE.out).1; omega
     have hl4 : l.length ≤ 4 := HFW.out.2.2.1
     have hn0 : ((l.length : Int) == 0) = false := beq_eq_false_iff_ne.2 (by omega)
     have hn1 : (l.length == 0) = false := beq_eq_false_iff_ne.2 (by omega)
     go_wp2_with fail
     refine HCK.out.mono ?_
     rintro o w2 ⟨rfl, hb⟩
     have HBL2 := Lib.hid (HBL.out.trans (hb.mono HBL.out.size))
     have HB2 := Lib.hid (HB1.out.trans (hb.mono HB1.out.size))
     have HRW := Lib.hid (rows_any zn _ _ B l S w2 (HZ0.out.below HBL2.out) HFW.out.2.1 (by omega))
     unfold worldA RowsPost at HRW
     clear hb x0 x1 x2 hxl HCK
     have hxb := HXX.out.below (HBL2.out) HXX.out.lt
     have x0 := hxb.cell 0 (v := .string zn) rfl
     have x1 := hxb.cell 1 (v := .slice A l.length cA) rfl
     have x2 := hxb.cell 2 (v := .slice A2 S.length cS) rfl
     have hxl := hxb.lt
     clear hxb
     go_wp2_with fail
     refine HRW.out.mono ?_
     rintro o w3 ⟨⟨u, R, rfl, hRl, hRok, hRm⟩, hb⟩
     have HBL3 := Lib.hid (HBL2.out.trans (hb.mono HBL2.out.size))
     have HB3 := Lib.hid (HB2.out.trans (hb.mono HB2.out.size))
     have HRL := Lib.hid hRl
     have HRO := Lib.hid hRok
     have HRM := Lib.hid hRm
     obtain ⟨A3, c3, rfl, -, -⟩ := hRm.form
     clear hb hRl hRok hRm x0 x1 x2 hxl HRW
     go_wp2_with fail
     go_loopw [6, 7] (fun u iv wr => ∃ k : Nat, k ≤ l.length - 1 ∧ iv = .int .i64 k ∧ wr.ownsRow w3.heap.size 3 1 u k (intsV ((endL S l).take k)) ∧ Below w3.heap.size w3 wr) (fun _ iv _ => l.length - (intOf iv).toNat)
     case atStart => exact ⟨0, Nat.zero_le _, rfl, World.ownsRow_nil _ _ _ _, Below.refl _ _⟩
     case round =>
       obtain ⟨k, hk, rfl, hown, hbw⟩ := hrel
       have HOW := Lib.hid hown
       have HBW3 := Lib.hid hbw
       have HBLW := Lib.hid (HBL3.out.trans (hbw.mono HBL3.out.size))
       have hxb := HXX.out.below (HBLW.out) HXX.out.lt
       have x0 := hxb.cell 0 (v := .string zn) rfl
       have x1 := hxb.cell 1 (v := .slice A l.length cA) rfl
       have x2 := hxb.cell 2 (v := .slice A2 S.length cS) rfl
       have hxl := hxb.lt
       clear hxb
       have HZ4 := Lib.hid (HZ0.out.below HBLW.out)
       have HRM4 := Lib.hid (HRM.out.below hbw)
       obtain ⟨A5, c5, hu, -, -⟩ := Sl.of_own hown
       subst hu
       clear hown hbw
       by_cases hlt : k + 1 < l.length
       · have hd : decide ((k : Int) + 1 < (l.length : Int)) = true := decide_eq_true (by omega)
         have hlk : k < l.length := by omega
         have hRlk : k < R.length := by rw [HRL.out]; exact hlk
         obtain ⟨bb, o, c', e, hbb, hc⟩ := HZ4.out.eras.cells (by omega)
         cases e
         have hx := hc k hlk
         obtain ⟨br, orr, cr', e, hbr, hcr⟩ := HRM4.out.cells (by omega)
         cases e
         obtain ⟨rc0, rc1⟩ := hcr k hRlk
         have hdr : decide (k < R.length) = true := decide_eq_true hRlk
         have hrok := HRO.out k hRlk hlk
         have hrm : FrisN w3 R[k].v R[k].D := HRM.out.2 _ (List.getElem_mem hRlk)
         have her := (errZ_zero HE.out).2.2.1 k hlk
         rw [errAt_eq hlk, decide_eq_false (by omega)] at her
         have hen := endL_get (S := S) (l := l) (i := k) hlt
         have hfx := HFW.out.1 _ (List.getElem_mem hlk)
         have htk : (endL S l).take (k + 1) = (endL S l).take k ++ [(endL S l).getD k 0] := by
           have h9 : k < (endL S l).length := by rw [length_endL]; omega
           rw [List.take_succ_eq_append_getElem h9, List.getD_eq_getElem?_getD, List.getElem?_eq_getElem h9]
           rfl
         obtain ⟨x, hxk⟩ : ∃ x, l[k] = x := ⟨_, rfl⟩
         obtain ⟨r, hrk⟩ : ∃ r, R[k] = r := ⟨_, rfl⟩
         rw [hxk] at hx her hen hfx hrok
         rw [hrk] at rc0 rc1 hrok hrm
         obtain ⟨-, hof, hsf, hee, -, hnb⟩ := errE_zero her
         have hee2 : x.en = true := hee
         have hek := eraFew_end hfx hee2
         have hkin : 0 ≤ x.n.ak ∧ x.n.ak ≤ 2 := by have := nomV_in (hnb hee2); omega
         have hrb : rnomB x.n = true := by rw [← hek.nomB_eq hkin]; exact hnb hee2
         have hEQ := end_eq (ru := x.ru) hrok.right hof hek hrb
         rw [hEQ] at hen
         have hbd4 := below_drewN HBW3.out 1
         have HRD := Lib.hid (rend_any (wr.drewN 1) x.n x.ru x.fm true w3.heap.size r.v r.D r.letter (hrm.1.below hbd4) hbd4.size hrok.len hrok.bd hek (by omega) (by omega))
         obtain ⟨A9, c9, hv9, -, -⟩ := hrm.1.form
         rw [hv9] at HRD rc0
         rw [← hen] at HRD
         unfold eraA at HRD
         obtain ⟨ek, hekv⟩ : ∃ z, (endL S l).getD k 0 = z := ⟨_, rfl⟩
         rw [hekv] at HRD htk
         have HTK := Lib.hid htk
         have HBD4 := Lib.hid hbd4
         obtain ⟨c0, c1, c2, c3, c4, c5, c6, c7, c8, c9, c10, c11⟩ := hx
         rw [hee2] at c4
         have hul := HOW.out.lt
         clear hc hcr hxk hrk hrok hrm her hen hfx hof hsf hee hee2 hnb hek hrb hEQ hbd4 hekv htk hv9
         go_wp2_with fail
         refine wp_text (by kernel_rfl) (by kernel_rfl) ?_
         intro K hK
         go_wp2_with fail
         refine HRD.out.mono ?_
         rintro o w5 ⟨rfl, hb⟩
         have HB5 := Lib.hid (HBD4.out.trans (hb.mono HBD4.out.size))
         have HOW5 := Lib.hid (ownsRow_below HOW.out ((below_drewN (Below.refl wr.heap.size wr) 1).trans hb))
         clear hb
         go_wp2_with ((at_builtin; refine wpList_append_own _ rfl _ _ 28 rfl (w3.heap.size) 3 i0 (.int .i64 0) 1 8 Tryz.underlying28 hi hz0 hz1 hz2 rfl (by decide) _ _ _ rfl (HOW5.out.alloc _) ⟨w5.heap.size, 0, none⟩ 1 1 [.int .i64 ek] rfl rfl (cell_one_new _ _ _) (by simp [Value.oneCell']) (by unfold maxLen; omega) (by omega) (by have := HB5.out.size; simp <;> omega) ?_; intro v' w1 hown' hgrow _))
         refine ⟨by simp [goodB, fits, plainPair, isSeqV, quiet, Act.eval], ?_⟩
         go_wp2_with fail
         go_roundw
         case rel =>
           refine ⟨k + 1, by omega, by go_num, ?_, below_push HB5.out HOW5.out hgrow⟩
           rw [HTK.out, intsV_append]
           exact hown'
         case measure => first | (simp [intOf]; done) | (simp [intOf]; omega)
       · obtain rfl : k = l.length - 1 := by omega
         have hd : decide (((l.length - 1 : Nat) : Int) + 1 < (l.length : Int)) = false := decide_eq_false (by omega)
         have HOE := Lib.hid (show Nums wr wr.heap.size (.slice A5 (l.length - 1) c5) (endL S l) by
           have h := Sl.of_own HOW.out
           rw [List.take_of_length_le (by rw [length_endL]; exact Nat.le_refl _)] at h
           unfold Nums
           rw [length_endL]
           exact h)
         have HB4 := Lib.hid (HB3.out.trans (HBW3.out.mono HB3.out.size))
         go_wp2_with fail
         go_ret3
         exact ⟨⟨_, _, by rw [HG.out]; rfl, fun _ => ⟨R, ⟨HRL.out, HRO.out⟩, HRM4.out, HOE.out⟩⟩, HB4.out⟩
   · have hne : (E != 0) = true := by simpa using hE0
     have HG := Lib.hid (show goodZ l S = false by
       cases hg : goodZ l S with
       | false => rfl
       | true => exact absurd (HE.out.symm.trans (good_iff.1 hg).2) hE0)
     go_wp2_with fail
     refine HCK.out.mono ?_
     rintro o w2 ⟨rfl, hb⟩
     have HB2 := Lib.hid (HB1.out.trans (hb.mono HB1.out.size))
     clear hb HCK
     go_wp2_with fail
     go_ret3
     exact ⟨⟨_, _, by rw [HG.out]; rfl, fun h => by rw [HG.out] at h; cases h⟩, HB2.out⟩
end
section -- HJoinM
open Go Go.RowKit Go.Shelf
section
variable {S : List SetF} {l : List EraF}
end
end
section -- TBehind
open Go Go.RowKit Go.Shelf
def pB (l : List Chg) (i : Int) (k : Nat) : Bool := match l[k]? with
 | some c => decide (i < c.at_)
 | none => true
def bh (l : List Chg) (i : Int) : Nat := (List.range l.length).countP fun k => !pB l i k
theorem countP_prefix (q : Nat → Bool) (hq : ∀ k, q (k + 1) = true → q k = true) : ∀ (n : Nat), (List.range n).countP q ≤ n ∧ ∀ k, k < n → (k < (List.range n).countP q ↔ q k = true)
 | 0 => ⟨Nat.le_refl _, fun k h => by omega⟩
 | n + 1 => by
   obtain ⟨h1, h2⟩ := countP_prefix q hq n
   rw [List.range_succ, List.countP_append]
   have hdown : ∀ m k, k ≤ m → q m = true → q k = true := by
     intro m
     induction m with
     | zero => intro k hk h; have : k = 0 := by omega
               subst this; exact h
     | succ m ih =>
       intro k hk h
       rcases Nat.lt_or_ge m k with h3 | h3
       · have : k = m + 1 := by omega
         subst this; exact h
       · exact ih k h3 (hq m h)
   cases hn : q n with
   | true =>
     have hc : (List.range n).countP q = n := by
       rcases Nat.lt_or_ge ((List.range n).countP q) n with h3 | h3
       · have h4 := (h2 _ h3).2 (hdown n _ (by omega) hn)
         omega
       · omega
     have e : List.countP q [n] = 1 := by simp [hn]
     rw [e, hc]
     refine ⟨Nat.le_refl _, fun k hk => ⟨fun _ => hdown n k (by omega) hn, fun _ => by omega⟩⟩
   | false =>
     have e : List.countP q [n] = 0 := by simp [hn]
     rw [e, Nat.add_zero]
     refine ⟨by omega, fun k hk => ?_⟩
     rcases Nat.lt_or_ge k n with h3 | h3
     · exact h2 k h3
     · have : k = n := by omega
       subst this
       rw [hn]
       exact ⟨fun h => by omega, fun h => by cases h⟩
theorem bh_le (l : List Chg) (i : Int) : bh l i ≤ l.length := by
 unfold bh
 exact Nat.le_trans List.countP_le_length (by simp)
theorem bh_iff {l : List Chg} (hr : Rising l) (i : Int) {k : Nat} (hk : k < l.length) : k < bh l i ↔ (l[k]).at_ ≤ i := by
 have h := (countP_prefix (fun k => !pB l i k) (fun k h => by
   unfold pB at *
   rcases Nat.lt_or_ge (k + 1) l.length with h1 | h1
   · rw [List.getElem?_eq_getElem h1] at h
     rw [List.getElem?_eq_getElem (show k < l.length by omega)]
     have := hr k h1
     simp only [Bool.not_eq_true', decide_eq_false_iff_not] at *
     omega
   · rw [List.getElem?_eq_none h1] at h
     cases h) l.length).2 k hk
 unfold bh
 rw [h]
 unfold pB
 rw [List.getElem?_eq_getElem hk]
 simp
theorem tbehind1_any (l : List Chg) (c : Nat) (b o tb ib k : Nat) (i : Int) (W : World) (hk : k < l.length) (_ : l.length ≤ maxLen)
   (ht : W.cell? ⟨tb, 0, none⟩ = some (.slice (some ⟨b, o, none⟩) l.length c)) (hi : W.cell? ⟨ib, 0, none⟩ = some (.int .i64 i)) (hc : W.cell? ⟨b, o + k * 4, none⟩ = some (.int .i64 (l[k]).at_)) :
   Calls Tryz.prog 121 #[.int .i64 k, .pointer (some ⟨tb, 0, none⟩), .pointer (some ⟨ib, 0, none⟩)] W fun e w' => e = .returned (.bool (pB l i k)) ∧ ∃ q, w' = W.drewN q := by
 have HP := Lib.hid (show pB l i k = decide (i < (l[k]).at_) by unfold pB; rw [List.getElem?_eq_getElem hk])
 generalize (l[k]).at_ = t at *
 go_enter Tryz.func121, Tryz.ntmps121
 go_wp2_with fail
 go_quiet (fail)
 go_wp2_with fail
 go_ret
 exact ⟨by rw [HP.out]; rfl, _, rfl⟩
open Go.Sort in
theorem search_any (g : Nat) (cb : Array Value) (n : Nat) (p : Nat → Bool) (w : World) (eg : ∀ args w, (callFunc g args).run Tryz.prog w = .ok (.enter g args) w) (hsz : n < 4611686018427387904)
   (hf : ∀ (W : World) (i : Nat), Below w.heap.size w W → i < n → Calls Tryz.prog g (#[.int .i64 i] ++ cb) W fun e w' => e = .returned (.bool (p i)) ∧ ∃ q, w' = W.drewN q)
   (hmono : ∀ a b, a ≤ b → b < n → p a = true → p b = true) :
   Calls Tryz.prog 120 #[.int .i64 n, .func (.func g) #[] cb] w fun e w' => e = .returned (.int .i64 ((List.range n).countP (fun i => !p i) : Nat)) ∧ Below w.heap.size w w' := by
 refine (Any.sort_Search Tryz.laysSearch g cb n p w eg hsz (fun m os i hi => ?_) hmono).mono fun e w' ⟨h1, q, os, h2⟩ => ⟨h1, by rw [h2]; exact Go.Proofs.below_grown_sl _ _ _ _ (Nat.le_refl _)⟩
 refine (hf _ i (Go.Proofs.below_grown_sl _ _ _ _ (Nat.le_refl _)) hi).mono fun e w' ⟨h1, q, h2⟩ => ⟨h1, q, #[], by rw [h2, grow_empty]⟩
theorem tbehind_any (w : World) (B : Nat) (v : Value) (l : List Chg) (i : Int) (hv : Chgs w B v l) (hB : B ≤ w.heap.size) (hl : l.length ≤ 2000000000000) (hr : Rising l) :
   Calls Tryz.prog 80 #[v, .int .i64 i] w fun e w' => e = .returned (.int .i64 (bh l i)) ∧ Below w.heap.size w w' := by
 obtain ⟨A, c, rfl, hlc, hcm⟩ := hv.form
 have hb0 : Below w.heap.size w ((w.alloc (.cells #[.slice A l.length c] 81)).alloc (.cells #[.int .i64 i] 3)) := ((Below.refl _ _).alloc (Nat.le_refl _) _).alloc (by simp) _
 have ht := (Blk.new w 81 #[.slice A l.length c]).alloc (.cells #[.int .i64 i] 3)
 have hi := Blk.new (w.alloc (.cells #[.slice A l.length c] 81)) 3 #[.int .i64 i]
 rw [World.size_alloc] at hi
 have HS := Lib.hid (search_any 121 #[.pointer (some ⟨w.heap.size, 0, none⟩), .pointer (some ⟨w.heap.size + 1, 0, none⟩)] l.length (pB l i) ((w.alloc (.cells #[.slice A l.length c] 81)).alloc (.cells #[.int .i64 i] 3)) (enters_of Tryz.func121 (by kernel_rfl) rfl) (by omega) (fun W k hbW hk => by
     obtain ⟨b, o, c', e, -, hc⟩ := (hv.below ((hb0.trans (hbW.mono hb0.size)).mono hB)).cells (by omega)
     cases e
     exact tbehind1_any l c b o _ _ k i W hk (by unfold maxLen; omega) ((ht.below hbW ht.lt).cell 0 rfl) ((hi.below hbW hi.lt).cell 0 rfl) (hc k hk).1) (fun a b hab hb h => by
     have ha : a < l.length := by omega
     unfold pB at *
     rw [List.getElem?_eq_getElem ha] at h
     rw [List.getElem?_eq_getElem hb]
     have := hr.le hb hab
     simp only [decide_eq_true_eq] at *
     omega))
 have HB := Lib.hid hb0
 unfold maxLen at hcm
 clear hb0 ht hi hv
 go_enter Tryz.func80, Tryz.ntmps80
 go_wp2_with fail
 refine HS.out.mono ?_
 rintro o w1 ⟨rfl, hb⟩
 have hb1 := HB.out.trans (hb.mono HB.out.size)
 clear hb HS
 go_wp2_with fail
 go_ret
 exact ⟨rfl, hb1⟩
def tatV (l : List Chg) (i : Int) : Loc × Int := if bh l i = 0 then (.zero, 16) else ((l.getD (bh l i - 1) .zero).loc, 0)
def tnextV (l : List Chg) (i : Int) : Chg × Bool := if bh l i = l.length then (.zero, false) else (l.getD (bh l i) .zero, true)
def tprevV (l : List Chg) (i : Int) : Chg × Bool := if bh l i < 2 then (.zero, false) else (l.getD (bh l i - 1) .zero, true)
theorem getD_at {l : List Chg} {k : Nat} (h : k < l.length) : l.getD k .zero = l[k] := by rw [List.getD_eq_getElem?_getD, List.getElem?_eq_getElem h]; rfl
theorem tat_any (w : World) (B : Nat) (v : Value) (l : List Chg) (i : Int) (hv : Chgs w B v l) (hB : B ≤ w.heap.size) (hl : l.length ≤ 2000000000000) (hr : Rising l) :
   Calls Tryz.prog 41 #[v, .int .i64 i] w fun e w' => e = .returned (.tuple #[locA (tatV l i).1, .int .i64 (tatV l i).2]) ∧ Below w.heap.size w w' := by
 have hb0 : Below w.heap.size w (w.alloc (.cells #[.int .i64 0, .bool false, .string ⟨#[]⟩] 48)) := (Below.refl _ _).alloc (Nat.le_refl _) _
 have hr0 := Blk.new w 48 #[.int .i64 0, .bool false, .string ⟨#[]⟩]
 have HB := Lib.hid (tbehind_any _ B v l i (hv.below (hb0.mono hB)) (by simp; omega) hl hr)
 have hle := bh_le l i
 obtain ⟨A, c, rfl, hlc, hcm⟩ := hv.form
 unfold maxLen at hcm
 obtain ⟨n, hn⟩ : ∃ n, bh l i = n := ⟨_, rfl⟩
 rw [hn] at HB hle
 have HN := Lib.hid hn
 have HV := Lib.hid hv
 clear hn hv
 go_enter Tryz.func41, Tryz.ntmps41
 go_wp2_with fail
 refine HB.out.mono ?_
 rintro o w1 ⟨rfl, hb⟩
 have hb1 := hb0.trans (hb.mono hb0.size)
 have hr1 := hr0.below hb hr0.lt
 have r0 := hr1.cell 0 (v := .int .i64 0) rfl
 have r1 := hr1.cell 1 (v := .bool false) rfl
 have r2 := hr1.cell 2 (v := .string ⟨#[]⟩) rfl
 have rf0 := hr1.frozen 0
 have rf1 := hr1.frozen 1
 have rf2 := hr1.frozen 2
 have HR1 := Lib.hid hr1
 clear hb hb0 hr0 hr1 HB
 rcases n with _ | j
 · have HP := Lib.hid (show tatV l i = (.zero, 16) by unfold tatV; rw [if_pos HN.out])
   go_wp2_with fail
   have HW := ((HR1.out.set 0 (.int .i64 0)).set 1 (.bool false)).set 2 (.string ⟨#[]⟩)
   refine bodyPost_ret (v := .tuple #[locA Loc.zero, .int .i64 16]) ?_ rfl ⟨by rw [HP.out], below_set3 hb1 (Nat.le_refl _) _ _ _⟩
   have c0 := HW.cell 0 (v := .int .i64 0) rfl
   have c1 := HW.cell 1 (v := .bool false) rfl
   have c2 := HW.cell 2 (v := .string ⟨#[]⟩) rfl
   simp [results, Tryz.f41, go_sem, c0, c1, c2, locA, Loc.zero]
 · have hjl : j < l.length := by omega
   have HP := Lib.hid (show tatV l i = ((l[j]).loc, 0) by unfold tatV; rw [if_neg (by rw [HN.out]; omega), HN.out, Nat.add_sub_cancel, getD_at hjl])
   obtain ⟨b, o, c', e, -, hc⟩ := (HV.out.below (hb1.mono hB)).cells (by omega)
   cases e
   obtain ⟨-, c1, c2, c3⟩ := hc j hjl
   clear hc
   generalize (l[j]).loc = x at *
   have e1 : ((j + 1 : Nat) : Int) - 1 = (j : Nat) := by omega
   have e2 : (((j + 1 : Nat) : Int) == 0) = false := by simp; omega
   rw [show (((j + 1 : Nat)) : Int) = (j : Int) + 1 from by omega] at *
   go_wp2_with fail
   have HW := ((HR1.out.set 0 (.int .i64 x.off)).set 1 (.bool x.dst)).set 2 (.string x.abbr)
   refine bodyPost_ret (v := .tuple #[locA x, .int .i64 0]) ?_ rfl ⟨by rw [HP.out], below_set3 hb1 (Nat.le_refl _) _ _ _⟩
   have d0 := HW.cell 0 (v := .int .i64 x.off) rfl
   have d1 := HW.cell 1 (v := .bool x.dst) rfl
   have d2 := HW.cell 2 (v := .string x.abbr) rfl
   clear c1 c2 c3
   simp [results, Tryz.f41, go_sem, d0, d1, d2, locA]
theorem tnext_any (w : World) (B : Nat) (v : Value) (l : List Chg) (i : Int) (hv : Chgs w B v l) (hB : B ≤ w.heap.size) (hl : l.length ≤ 2000000000000) (hr : Rising l) :
   Calls Tryz.prog 42 #[v, .int .i64 i] w fun e w' => e = .returned (.tuple #[chgA (tnextV l i).1, .bool (tnextV l i).2]) ∧ Below w.heap.size w w' := by
 have hb0 : Below w.heap.size w (w.alloc (.cells #[.int .i64 0, .int .i64 0, .bool false, .string ⟨#[]⟩] 76)) := (Below.refl _ _).alloc (Nat.le_refl _) _
 have hr0 := Blk.new w 76 #[.int .i64 0, .int .i64 0, .bool false, .string ⟨#[]⟩]
 have HB := Lib.hid (tbehind_any _ B v l i (hv.below (hb0.mono hB)) (by simp; omega) hl hr)
 have hle := bh_le l i
 obtain ⟨A, c, rfl, hlc, hcm⟩ := hv.form
 unfold maxLen at hcm
 obtain ⟨n, hn⟩ : ∃ n, bh l i = n := ⟨_, rfl⟩
 rw [hn] at HB hle
 have HN := Lib.hid hn
 have HV := Lib.hid hv
 clear hn hv
 go_enter Tryz.func42, Tryz.ntmps42
 go_wp2_with fail
 refine HB.out.mono ?_
 rintro o w1 ⟨rfl, hb⟩
 have hb1 := hb0.trans (hb.mono hb0.size)
 have hr1 := hr0.below hb hr0.lt
 have r0 := hr1.cell 0 (v := .int .i64 0) rfl
 have r1 := hr1.cell 1 (v := .int .i64 0) rfl
 have r2 := hr1.cell 2 (v := .bool false) rfl
 have r3 := hr1.cell 3 (v := .string ⟨#[]⟩) rfl
 have rf0 := hr1.frozen 0
 have rf1 := hr1.frozen 1
 have rf2 := hr1.frozen 2
 have rf3 := hr1.frozen 3
 have HR1 := Lib.hid hr1
 clear hb hb0 hr0 hr1 HB
 by_cases hn : n = l.length
 · have HP := Lib.hid (show tnextV l i = (.zero, false) by unfold tnextV; rw [HN.out, if_pos hn])
   subst hn
   go_wp2_with fail
   have HW := (((HR1.out.set 0 (.int .i64 0)).set 1 (.int .i64 0)).set 2 (.bool false)).set 3 (.string ⟨#[]⟩)
   refine bodyPost_ret (v := .tuple #[chgA Chg.zero, .bool false]) ?_ rfl ⟨by rw [HP.out], below_set4 hb1 (Nat.le_refl _) _ _ _ _⟩
   have c0 := HW.cell 0 (v := .int .i64 0) rfl
   have c1 := HW.cell 1 (v := .int .i64 0) rfl
   have c2 := HW.cell 2 (v := .bool false) rfl
   have c3 := HW.cell 3 (v := .string ⟨#[]⟩) rfl
   simp [results, Tryz.f42, go_sem, c0, c1, c2, c3, chgA, Chg.zero, Loc.zero]
 · have hjl : n < l.length := by omega
   have HP := Lib.hid (show tnextV l i = (l[n], true) by unfold tnextV; rw [HN.out, if_neg hn, getD_at hjl])
   obtain ⟨b, o, c', e, -, hc⟩ := (HV.out.below (hb1.mono hB)).cells (by omega)
   cases e
   obtain ⟨c0, c1, c2, c3⟩ := hc n hjl
   clear hc
   generalize l[n] = x at *
   have e2 : ((n : Int) == (l.length : Int)) = false := by simp; omega
   go_wp2_with fail
   have HW := (((HR1.out.set 0 (.int .i64 x.at_)).set 1 (.int .i64 x.loc.off)).set 2 (.bool x.loc.dst)).set 3 (.string x.loc.abbr)
   refine bodyPost_ret (v := .tuple #[chgA x, .bool true]) ?_ rfl ⟨by rw [HP.out], below_set4 hb1 (Nat.le_refl _) _ _ _ _⟩
   have d0 := HW.cell 0 (v := .int .i64 x.at_) rfl
   have d1 := HW.cell 1 (v := .int .i64 x.loc.off) rfl
   have d2 := HW.cell 2 (v := .bool x.loc.dst) rfl
   have d3 := HW.cell 3 (v := .string x.loc.abbr) rfl
   clear c0 c1 c2 c3
   simp [results, Tryz.f42, go_sem, d0, d1, d2, d3, chgA]
theorem tprev_any (w : World) (B : Nat) (v : Value) (l : List Chg) (i : Int) (hv : Chgs w B v l) (hB : B ≤ w.heap.size) (hl : l.length ≤ 2000000000000) (hr : Rising l) :
   Calls Tryz.prog 43 #[v, .int .i64 i] w fun e w' => e = .returned (.tuple #[chgA (tprevV l i).1, .bool (tprevV l i).2]) ∧ Below w.heap.size w w' := by
 have hb0 : Below w.heap.size w (w.alloc (.cells #[.int .i64 0, .int .i64 0, .bool false, .string ⟨#[]⟩] 76)) := (Below.refl _ _).alloc (Nat.le_refl _) _
 have hr0 := Blk.new w 76 #[.int .i64 0, .int .i64 0, .bool false, .string ⟨#[]⟩]
 have HB := Lib.hid (tbehind_any _ B v l i (hv.below (hb0.mono hB)) (by simp; omega) hl hr)
 have hle := bh_le l i
 obtain ⟨A, c, rfl, hlc, hcm⟩ := hv.form
 unfold maxLen at hcm
 obtain ⟨n, hn⟩ : ∃ n, bh l i = n := ⟨_, rfl⟩
 rw [hn] at HB hle
 have HN := Lib.hid hn
 have HV := Lib.hid hv
 clear hn hv
 go_enter Tryz.func43, Tryz.ntmps43
 go_wp2_with fail
 refine HB.out.mono ?_
 rintro o w1 ⟨rfl, hb⟩
 have hb1 := hb0.trans (hb.mono hb0.size)
 have hr1 := hr0.below hb hr0.lt
 have r0 := hr1.cell 0 (v := .int .i64 0) rfl
 have r1 := hr1.cell 1 (v := .int .i64 0) rfl
 have r2 := hr1.cell 2 (v := .bool false) rfl
 have r3 := hr1.cell 3 (v := .string ⟨#[]⟩) rfl
 have rf0 := hr1.frozen 0
 have rf1 := hr1.frozen 1
 have rf2 := hr1.frozen 2
 have rf3 := hr1.frozen 3
 have HR1 := Lib.hid hr1
 clear hb hb0 hr0 hr1 HB
 by_cases hn : n < 2
 · have HP := Lib.hid (show tprevV l i = (.zero, false) by unfold tprevV; rw [HN.out, if_pos hn])
   have e2 : decide ((n : Int) < 2) = true := by simp; omega
   go_wp2_with fail
   have HW := (((HR1.out.set 0 (.int .i64 0)).set 1 (.int .i64 0)).set 2 (.bool false)).set 3 (.string ⟨#[]⟩)
   refine bodyPost_ret (v := .tuple #[chgA Chg.zero, .bool false]) ?_ rfl ⟨by rw [HP.out], below_set4 hb1 (Nat.le_refl _) _ _ _ _⟩
   have c0 := HW.cell 0 (v := .int .i64 0) rfl
   have c1 := HW.cell 1 (v := .int .i64 0) rfl
   have c2 := HW.cell 2 (v := .bool false) rfl
   have c3 := HW.cell 3 (v := .string ⟨#[]⟩) rfl
   simp [results, Tryz.f43, go_sem, c0, c1, c2, c3, chgA, Chg.zero, Loc.zero]
 · obtain ⟨j, rfl⟩ : ∃ j, n = j + 1 := ⟨n - 1, by omega⟩
   have hjl : j < l.length := by omega
   have HP := Lib.hid (show tprevV l i = (l[j], true) by unfold tprevV; rw [HN.out, if_neg hn, Nat.add_sub_cancel, getD_at hjl])
   obtain ⟨b, o, c', e, -, hc⟩ := (HV.out.below (hb1.mono hB)).cells (by omega)
   cases e
   obtain ⟨c0, c1, c2, c3⟩ := hc j hjl
   clear hc
   generalize l[j] = x at *
   have e1 : ((j + 1 : Nat) : Int) - 1 = (j : Nat) := by omega
   have e2 : decide (((j + 1 : Nat) : Int) < 2) = false := by simp; omega
   rw [show (((j + 1 : Nat)) : Int) = (j : Int) + 1 from by omega] at *
   go_wp2_with fail
   have HW := (((HR1.out.set 0 (.int .i64 x.at_)).set 1 (.int .i64 x.loc.off)).set 2 (.bool x.loc.dst)).set 3 (.string x.loc.abbr)
   refine bodyPost_ret (v := .tuple #[chgA x, .bool true]) ?_ rfl ⟨by rw [HP.out], below_set4 hb1 (Nat.le_refl _) _ _ _ _⟩
   have d0 := HW.cell 0 (v := .int .i64 x.at_) rfl
   have d1 := HW.cell 1 (v := .int .i64 x.loc.off) rfl
   have d2 := HW.cell 2 (v := .bool x.loc.dst) rfl
   have d3 := HW.cell 3 (v := .string x.loc.abbr) rfl
   clear c0 c1 c2 c3
   simp [results, Tryz.f43, go_sem, d0, d1, d2, d3, chgA]
end
section -- HShowT
open Go Go.RowKit Go.Shelf
structure TabOk (g : Int → Loc) (a b : Int) (T : List Chg) : Prop where
 pos : 0 < T.length
 first : ∀ h : 0 < T.length, T[0] = ⟨a, g a⟩
 rise : RiseC T
 mem : ∀ k (h : k < T.length), (a ≤ T[k].at_ ∧ (0 < k → T[k].at_ ≤ b)) ∧ T[k].loc = g T[k].at_
 turn : ∀ k (h : k + 1 < T.length), g T[k + 1].at_ ≠ g (T[k + 1].at_ - 1)
 all : ∀ i, a < i → i ≤ b → g i ≠ g (i - 1) → ∃ c ∈ T, c.at_ = i
theorem tabOk_of {g : Int → Loc} {a b : Int} {L : List Chg} (h : Rep g a b L) : TabOk g a b (⟨a, g a⟩ :: L) where
 pos := by simp
 first := fun _ => rfl
 rise := List.pairwise_cons.2 ⟨fun c hc => (h.wk.mem c hc).1.1, h.wk.rise⟩
 mem := fun k hk => by
   cases k with
   | zero => exact ⟨⟨Int.le_refl _, fun h => absurd h (by omega)⟩, rfl⟩
   | succ k =>
     have hk2 : k < L.length := by simpa using hk
     have := h.wk.mem L[k] (List.getElem_mem hk2)
     rw [List.getElem_cons_succ]
     exact ⟨⟨by omega, fun _ => this.1.2⟩, this.2⟩
 turn := fun k hk => by
   have hk2 : k < L.length := by simpa using hk
   rw [List.getElem_cons_succ]
   exact h.turn L[k] (List.getElem_mem hk2)
 all := fun i h1 h2 ht => by
   obtain ⟨c, hc, e⟩ := h.wk.all i h1 h2 ht
   exact ⟨c, List.mem_cons_of_mem _ hc, e⟩
section
variable {g : Int → Loc} {a b : Int} {T : List Chg}
theorem TabOk.lt (h : TabOk g a b T) {i j : Nat} (hij : i < j) (hj : j < T.length) : T[i].at_ < T[j].at_ := List.pairwise_iff_getElem.1 h.rise i j (by omega) hj hij
theorem TabOk.rising (h : TabOk g a b T) : Rising T := fun i hi => h.lt (by omega) hi
theorem TabOk.still (h : TabOk g a b T) {k : Nat} (hk : k < T.length) {x : Int} (h1 : T[k].at_ ≤ x) (h2 : x ≤ b) (h3 : ∀ hk1 : k + 1 < T.length, x < T[k + 1].at_) : g x = T[k].loc := by
 have hm := h.mem k hk
 have hs := still_of (g := g) (a := T[k].at_) (b := x) (fun i i1 i2 => Classical.byContradiction fun ht => by
   obtain ⟨c, hc, e⟩ := h.all i (by omega) (by omega) ht
   obtain ⟨j, hj, rfl⟩ := List.getElem_of_mem hc
   rcases Nat.lt_trichotomy j k with g1 | g1 | g1
   · have := h.lt g1 hk
     omega
   · subst g1
     omega
   · by_cases e2 : j = k + 1
     · subst e2
       have := h3 hj
       omega
     · have h4 := h3 (by omega)
       have h5 := h.lt (show k + 1 < j by omega) hj
       omega) (x - T[k].at_).toNat (by omega)
 rw [hm.2, ← hs]
 congr 1
 omega
theorem TabOk.before (h : TabOk g a b T) {k : Nat} (hk : k + 1 < T.length) : g (T[k + 1].at_ - 1) = T[k].loc := by
 have h1 := h.lt (show k < k + 1 by omega) hk
 have h2 := (h.mem (k + 1) hk).1.2 (by omega)
 exact h.still (by omega) (by omega) (by omega) fun _ => by omega
theorem TabOk.ne (h : TabOk g a b T) {k : Nat} (hk : k + 1 < T.length) : T[k + 1].loc ≠ T[k].loc := fun e => by
 have h1 := h.turn k hk
 rw [h.before hk, ← (h.mem (k + 1) hk).2] at h1
 exact h1 e
theorem TabOk.bh_pos (h : TabOk g a b T) {x : Int} (hx : a ≤ x) : 0 < bh T x := (bh_iff h.rising x h.pos).2 (by rw [h.first h.pos]; exact hx)
theorem TabOk.at_ (h : TabOk g a b T) {x : Int} (h1 : a ≤ x) (h2 : x ≤ b) : ∃ k, ∃ hk : k < T.length, bh T x = k + 1 ∧ T[k].at_ ≤ x ∧ g x = T[k].loc ∧ ∀ hk1 : k + 1 < T.length, x < T[k + 1].at_ := by
 have hp := h.bh_pos h1
 have hle := bh_le T x
 obtain ⟨k, hk⟩ : ∃ k, bh T x = k + 1 := ⟨bh T x - 1, by omega⟩
 have hkl : k < T.length := by omega
 have ha : T[k].at_ ≤ x := (bh_iff h.rising x hkl).1 (by omega)
 have hn : ∀ hk1 : k + 1 < T.length, x < T[k + 1].at_ := fun hk1 => by
   have := fun g => (bh_iff h.rising x hk1).2 g
   by_cases hh : T[k + 1].at_ ≤ x
   · have := this hh
     omega
   · omega
 exact ⟨k, hkl, hk, ha, h.still hkl ha h2 hn, hn⟩
end
theorem tabOk_zone {S : List SetF} {l : List EraF} (h : FewZ S l) {to : Int} (hto : to ≤ 4200000000) : TabOk (locZ S l) (-2199023255552) to (tabL S l to) := by
 have h2 := changes_rep h (fr := -2199023255552) (to := to) (by omega) hto
 rw [show max (-2199023255552 : Int) (-2199023255552) = -2199023255552 by omega] at h2
 exact tabOk_of h2
end
end Go.Proofs.YteekjfgjmccdnaaGreatDoor
