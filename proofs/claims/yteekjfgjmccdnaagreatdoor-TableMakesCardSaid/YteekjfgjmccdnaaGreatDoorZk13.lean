/-
  The law TableMakes of package meridianlaw14 holds: for every input the call returns true, and each argument reads afterwards as it read before.
  Conditions: none beyond the row's own (the listed package-level variables read as the row lists them; the card ties that to the text).
-/
import Derived.Test.YteekjfgjmccdnaaGreatDoorChecked
import Derived.Test.YteekjfgjmccdnaaGreatDoorRows
import Derived.Lib.LaidTab
import Derived.SizedLaws
import Derived.LaidSub
import Derived.Test.YteekjfgjmccdnaaGreatDoorCards
import Derived.Test.YteekjfgjmccdnaaGreatDoorTie
import Derived.Deep.DeepHandedRow
import Derived.Lay
import Derived.Test.YteekjfgjmccdnaaGreatDoorZk12
set_option maxHeartbeats 16000000
set_option maxRecDepth 100000
namespace Go.Proofs.YteekjfgjmccdnaaGreatDoor
section -- HMakes
open Go Go.RowKit Go.Shelf
attribute [local go_sem] Oper.semAt_some
theorem chgsV_oneH (l:List Chg):∀ u ∈ chgsV l,u.oneCell' = true:=by
 intro u hu
 unfold chgsV at hu
 obtain ⟨c,-,hc⟩:=List.mem_flatMap.1 hu
 simp [chgV] at hc
 rcases hc with rfl | rfl | rfl | rfl <;> rfl
def MakeI (nb m base:Nat) (v:Value) (xs:List Value) (pre:List Chg) (O:Nat→Prop) (W:World):Prop:=(O nb∧pre.length ≤ m∧∀ g,v.ownBlock = some g→O g)∧Blk W nb 3 #[.int .i64 ((pre.length:Nat):Int)]∧W.ownsRow base 76 4 v m xs
theorem makeI_feet (nb m base:Nat) (v:Value) (xs:List Value):Feet (MakeI nb m base v xs):=by
 intro pre O W W' h hf
 exact ⟨h.1,Blk.fr h.2.1 hf (fun e=>e h.1.1),Fr.own hf h.2.2 (fun g hg e=>e (h.1.2.2 g hg))⟩
theorem leftO_normal {α:Type} {I:List α→(Nat→Prop)→World→Prop} {Ix:Code→List α→(Nat→Prop)→World→Prop} {xs:List α} {O D O':Nat→Prop} {W:World} {a:Act} {W':World} (h1:∀ k,O' k→O k∨D k∨W.heap.size ≤ k) (h2:Bd O' W') (h3:Fr (fun k=>O k∨D k) W W') (h4:I xs O' W'):leftO I Ix xs O D W .normal a W':=⟨O',h1,h2,h3,h4⟩
theorem makeI_step {nb m base:Nat} {v:Value} {xs:List Value} {pre:List Chg} {O:Nat→Prop} {W:World} (c:Chg) (nn:Nat) (hn:pre.length = nn) (onb:O nb) (hl:nn + 1 ≤ m) (hog:∀ g,v.ownBlock = some g→O g) (hk:Blk W nb 3 #[.int .i64 ((nn:Int) + 1)]) (ho:W.ownsRow base 76 4 v m xs):MakeI nb m base v xs (pre ++ [c]) O W:=by
 have h:(pre ++ [c]).length = nn + 1:=by rw [List.length_append,List.length_singleton,hn]
 refine ⟨⟨onb,by omega,hog⟩,?_,ho⟩
 rw [h,show ((nn + 1:Nat):Int) = (nn:Int) + 1 by omega]
 exact hk
theorem own_lo {W:World} {e:TypeId} {base sz n:Nat} {u:Value} {xs:List Value} (ho:W.ownsRow base e sz u n xs):∀ g,u.ownBlock = some g→base ≤ g∧g < W.heap.size:=fun k h=>by
 rcases ho.2 with ⟨rfl,_⟩ | ⟨g,cap,cur,rfl,hb,hg,-⟩
 ·cases h
 ·have h1:g = k:=by injection h
  subst h1
  exact ⟨hb,(Array.getElem?_eq_some_iff.1 hg).1⟩
theorem makes_walk (w:World) (zn:ByteArray) (ev sv:Value) (l:List EraF) (S:List SetF) (a0 a1:Int) (he:ErasR w w.heap.size ev l) (hs:SetsR w w.heap.size sv S) (hfm:∀ x ∈ l,x.fm.size < 1152921504606846976) (hlet:∀ s ∈ S,letOk s.l)
  (h0:-9223372036854775808 ≤ a0∧a0 ≤ 9223372036854775807) (h1:-9223372036854775808 ≤ a1∧a1 ≤ 9223372036854775807) (ha:Ahead w) (htab:0 < w.heap.size) (hm:Tryz.MaxL w) :
  Calls Tryz.prog 10 #[worldA zn ev sv,.agg #[.int .i64 a0,.int .i64 a1]] w fun o w'=>o = .returned (.bool true)∧Below w.heap.size w w':=by
 obtain ⟨A,cA,rfl,hlc,hcm⟩:=he.form
 obtain ⟨A2,cS,rfl,hlc2,hcm2⟩:=hs.form
 unfold maxLen at hcm hcm2
 obtain ⟨W0,hW0⟩:∃ W,(((w.alloc (.cells #[.string zn,.slice A l.length cA,.slice A2 S.length cS] 27)).alloc (.cells #[.int .i64 a0,.int .i64 a1] 80)).alloc (.cells #[.bool false] 4)) = W:=⟨_,rfl⟩
 have hb0:Below w.heap.size w W0:=by
  rw [← hW0]
  exact (((Below.refl w.heap.size w).alloc (Nat.le_refl _) _).alloc (by simp) _).alloc (by simp;omega) _
 have hxx:Blk W0 w.heap.size 27 #[.string zn,.slice A l.length cA,.slice A2 S.length cS]:=by
  rw [← hW0]
  exact ((Blk.new w _ _).alloc _).alloc _
 have htt:Blk W0 (w.heap.size + 1) 80 #[.int .i64 a0,.int .i64 a1]:=by
  rw [← hW0]
  have h:=(Blk.new (w.alloc (.cells #[.string zn,.slice A l.length cA,.slice A2 S.length cS] 27)) 80 #[.int .i64 a0,.int .i64 a1]).alloc (.cells #[.bool false] 4)
  simpa only [World.size_alloc] using h
 have hrr:Blk W0 (w.heap.size + 2) 4 #[.bool false]:=by
  rw [← hW0]
  have h:=Blk.new ((w.alloc (.cells #[.string zn,.slice A l.length cA,.slice A2 S.length cS] 27)).alloc (.cells #[.int .i64 a0,.int .i64 a1] 80)) 4 #[.bool false]
  simpa only [World.size_alloc] using h
 have hw0s:W0.heap.size = w.heap.size + 3:=by rw [← hW0];simp
 have HXX:=Lib.hid hxx
 have HTT:=Lib.hid htt
 have HRR:=Lib.hid hrr
 have hz0:=ZW.mk (he.below hb0) (hs.below hb0) (ha.below hb0 (Nat.le_refl _)) htab (hm.below hb0 (Nat.le_refl _)) hb0.size
 have HF:=Lib.hid (right14_any W0 zn _ _ w.heap.size l S hz0 hfm)
 have HZ0:=Lib.hid hz0
 have HB0:=Lib.hid hb0
 have HLET:=Lib.hid hlet
 have HW0S:=Lib.hid hw0s
 clear hb0 hxx hrr htt he hs hm hlet hfm ha hz0 hw0s
 have HW0:=Lib.hid hW0
 clear hW0
 unfold worldA at *
 refine (callsIn_wide (n:=12)).1 ?_
 refine callsIn_of_wp_marks Tryz.func10 rfl trivial ?_ rfl
 simp only [Tryz.ntmps10,List.size_toArray,List.length_cons,List.length_nil,Nat.reduceAdd,Nat.reduceSub,Array.replicate_succ,Array.replicate_zero,List.push_toArray,List.append_toArray,List.nil_append,List.cons_append]
 refine wpIn_wide.2 ?_
 go_wp2_with fail
 rw [HW0.out]
 try simp only [HW0.out]
 clear HW0
 refine HF.out.mono ?_
 rintro o w1 ⟨⟨u,v,rfl,hR⟩,hb⟩
 have HB1:=Lib.hid hb
 cases hg:goodZ l S with
 | false =>
   clear hR hb HF hg
   go_wp2_with fail
   refine (tawake_any _ ((HZ0.out.below (HB1.out)).maxl)).mono ?_
   rintro o wz ⟨rfl,hbz⟩
   have hbz0:=(HB1.out).trans (hbz.mono (HB1.out).size)
   have hrz:=HRR.out.below hbz0 HRR.out.lt
   have gz:=hrz.frozen 0
   have cz:=hrz.cell 0 (v:=.bool false) rfl
   have HBZ:=Lib.hid (HB0.out.trans (hbz0.mono HB0.out.size))
   have HRZ:=Lib.hid hrz
   clear hbz hbz0 hrz
   go_wp2_with fail
   refine ⟨.bool true,?_,rfl,HBZ.out.setCell (by show w.heap.size ≤ w.heap.size + 1 + 1;omega) _⟩
   have hc:=(HRZ.out.set 0 (.bool true)).cell 0 (v:=.bool true) rfl
   simp [results,Tryz.f10,go_sem,hc]
 | true =>
   obtain ⟨R,hRZ,hRM,hNE⟩:=hR hg
   have HFZ:=Lib.hid (FewZ.mk (good_iff.1 hg).2 (good_iff.1 hg).1)
   have HFEW:=Lib.hid (good_iff.1 hg).1
   have HRZ0:=Lib.hid hRZ
   have HRB:=Lib.hid hRM.toB
   have HNE:=Lib.hid hNE
   obtain ⟨A3,c3,rfl,-,-⟩:=hRM.form
   obtain ⟨A4,c4,rfl,-,-⟩:=hNE.form
   obtain ⟨nE,hnE⟩:∃ n,(endL S l).length = n:=⟨_,rfl⟩
   rw [hnE] at HNE ⊢
   have HNEL:=Lib.hid hnE
   have HE1:=Lib.hid (show ErasR w1 w1.heap.size (.slice A l.length cA) l from Sl.more (HZ0.out.eras.below (HB1.out.mono (by have:=HB0.out.size;omega))) (Nat.le_trans HB0.out.size HB1.out.size))
   have HN0:=Lib.hid (fun W=>near_any a0 W)
   have HN1:=Lib.hid (fun W=>near_any a1 W)
   clear hR hb HF hg hRZ hRM hNE hnE
   have hxb:=HXX.out.below (HB1.out) HXX.out.lt
   have x0:=hxb.cell 0 (v:=.string zn) rfl
   have x1:=hxb.cell 1 (v:=.slice A l.length cA) rfl
   have x2:=hxb.cell 2 (v:=.slice A2 S.length cS) rfl
   have hxl:=hxb.lt
   have htb:=HTT.out.below (HB1.out) HTT.out.lt
   have t0:=htb.cell 0 (v:=.int .i64 a0) rfl
   have t1:=htb.cell 1 (v:=.int .i64 a1) rfl
   have htl:=htb.lt
   clear hxb htb
   cases hn0:nearB a0 with
   | false =>
     rw [hn0] at HN0
     clear hn0
     go_wp2_with fail
     refine (HN0.out _).mono ?_
     rintro o w1 ⟨rfl,rfl⟩
     go_wp2_with fail
     refine (tawake_any _ ((HZ0.out.below (HB1.out)).maxl)).mono ?_
     rintro o wz ⟨rfl,hbz⟩
     have hbz0:=(HB1.out).trans (hbz.mono (HB1.out).size)
     have hrz:=HRR.out.below hbz0 HRR.out.lt
     have gz:=hrz.frozen 0
     have cz:=hrz.cell 0 (v:=.bool false) rfl
     have HBZ:=Lib.hid (HB0.out.trans (hbz0.mono HB0.out.size))
     have HRZ:=Lib.hid hrz
     clear hbz hbz0 hrz
     go_wp2_with fail
     refine ⟨.bool true,?_,rfl,HBZ.out.setCell (by show w.heap.size ≤ w.heap.size + 1 + 1;omega) _⟩
     have hc:=(HRZ.out.set 0 (.bool true)).cell 0 (v:=.bool true) rfl
     simp [results,Tryz.f10,go_sem,hc]
   | true =>
     rw [hn0] at HN0
     have HA0:=Lib.hid (nearB_iff.1 hn0)
     clear hn0
     cases hn1:nearB a1 with
     | false =>
       rw [hn1] at HN1
       clear hn1
       go_wp2_with fail
       refine (HN0.out _).mono ?_
       rintro o w1 ⟨rfl,rfl⟩
       go_wp2_with fail
       refine (HN1.out _).mono ?_
       rintro o w1 ⟨rfl,rfl⟩
       go_wp2_with fail
       refine (tawake_any _ ((HZ0.out.below (HB1.out)).maxl)).mono ?_
       rintro o wz ⟨rfl,hbz⟩
       have hbz0:=(HB1.out).trans (hbz.mono (HB1.out).size)
       have hrz:=HRR.out.below hbz0 HRR.out.lt
       have gz:=hrz.frozen 0
       have cz:=hrz.cell 0 (v:=.bool false) rfl
       have HBZ:=Lib.hid (HB0.out.trans (hbz0.mono HB0.out.size))
       have HRZ:=Lib.hid hrz
       clear hbz hbz0 hrz
       go_wp2_with fail
       refine ⟨.bool true,?_,rfl,HBZ.out.setCell (by show w.heap.size ≤ w.heap.size + 1 + 1;omega) _⟩
       have hc:=(HRZ.out.set 0 (.bool true)).cell 0 (v:=.bool true) rfl
       simp [results,Tryz.f10,go_sem,hc]
     | true =>
       rw [hn1] at HN1
       have HA1:=Lib.hid (nearB_iff.1 hn1)
       clear hn1
       have ha0:=HA0.out
       have ha1:=HA1.out
       have HMK:=Lib.hid (make_few zn _ _ l S a1 w.heap.size w1 (HZ0.out.below HB1.out) HFEW.out (few_okR HFEW.out) HLET.out (by omega))
       unfold setsV zoneA worldA MakeEnd at HMK
       rw [makeErr_few HFEW.out HFZ.out.err (by omega) (by omega)] at HMK
       have HAT:=Lib.hid (fun (W:World) (h:Below w1.heap.size w1 W) (i:Int)=>rat_any W zn (.slice A l.length cA) (.slice A3 R.length c3) (.slice A4 nE c4) w1.heap.size l S R i (HE1.out.below h) (HRB.out.below h) (HNE.out.below h) h.size HFZ.out HRZ0.out HLET.out)
       have HCH:=Lib.hid (fun (W:World) (h:Below w1.heap.size w1 W) (f t:Int)=>rchanges_any W zn (.slice A l.length cA) (.slice A3 R.length c3) (.slice A4 nE c4) w1.heap.size l S R f t (HE1.out.below h) (HRB.out.below h) (HNE.out.below h) h.size HFZ.out HRZ0.out HLET.out)
       unfold zoneA at HAT HCH
       go_wp2_with fail
       refine (HN0.out _).mono ?_
       rintro o w1 ⟨rfl,rfl⟩
       go_wp2_with fail
       refine (HN1.out _).mono ?_
       rintro o w1 ⟨rfl,rfl⟩
       go_wp2_with fail
       refine HMK.out.mono ?_
       rintro o w2 ⟨⟨mv,rfl,hm0,-⟩,hb⟩
       have HB2:=Lib.hid (HB1.out.trans (hb.mono HB1.out.size))
       have HL2:=Lib.hid hb
       obtain ⟨T,hT⟩:∃ T,tabL S l a1 = T:=⟨_,rfl⟩
       rw [hT] at hm0
       have HT:=Lib.hid hT
       have HMV:=Lib.hid (hm0 (by first | rfl | trivial))
       obtain ⟨Am,cm,rfl,hlm,hcmm⟩:=HMV.out.form
       clear hb hm0 x0 x1 x2 hxl t0 t1 htl HMK hT
       have hxb:=HXX.out.below (HB2.out) HXX.out.lt
       have x0:=hxb.cell 0 (v:=.string zn) rfl
       have x1:=hxb.cell 1 (v:=.slice A l.length cA) rfl
       have x2:=hxb.cell 2 (v:=.slice A2 S.length cS) rfl
       have hxl:=hxb.lt
       have htb:=HTT.out.below (HB2.out) HTT.out.lt
       have t0:=htb.cell 0 (v:=.int .i64 a0) rfl
       have t1:=htb.cell 1 (v:=.int .i64 a1) rfl
       have htl:=htb.lt
       clear hxb htb
       obtain ⟨⟨xo,xd,xs⟩,hxx⟩:∃ x,refZ S l R (-2199023255552) = x:=⟨_,rfl⟩
       have HX:=Lib.hid hxx
       have HAX:=Lib.hid (HAT.out w2 HL2.out (-2199023255552))
       rw [hxx] at HAX
       unfold locA at HAX
       clear hxx
       go_wp2_with fail
       refine HAX.out.mono ?_
       rintro o w3 ⟨rfl,hb⟩
       have HB3:=Lib.hid (HB2.out.trans (hb.mono HB2.out.size))
       have HL3:=Lib.hid (HL2.out.trans (hb.mono HL2.out.size))
       have HM3:=Lib.hid (hb)
       clear hb x0 x1 x2 hxl t0 t1 htl HAX
       have HOW:=Lib.hid (own_one (w3.alloc (.cells #[.int .i64 xo,.bool xd,.string xs] 48)) ⟨-2199023255552,⟨xo,xd,xs⟩⟩ w1.heap.size (by have:=HL3.out.size;simp;omega))
       have HTB:=Lib.hid (Blk.new ((w3.alloc (.cells #[.int .i64 xo,.bool xd,.string xs] 48)).alloc (.cells #[.int .i64 (-2199023255552),.int .i64 xo,.bool xd,.string xs] 76)) 70 #[.slice (some ⟨w3.heap.size + 1,0,none⟩) 1 1])
       have HB34:=Lib.hid ((((Below.refl w3.heap.size w3).alloc (Nat.le_refl _) (.cells #[.int .i64 xo,.bool xd,.string xs] 48)).alloc (by simp) (.cells #[.int .i64 (-2199023255552),.int .i64 xo,.bool xd,.string xs] 76)).alloc (by simp;omega) (.cells #[.slice (some ⟨w3.heap.size + 1,0,none⟩) 1 1] 70))
       have HO4:=Lib.hid (HOW.out.alloc (.cells #[.slice (some ⟨w3.heap.size + 1,0,none⟩) 1 1] 70))
       simp only [World.size_alloc] at HTB HO4
       clear HOW
       go_wp2_with fail
       obtain ⟨w4,hw4⟩:∃ w4,(((w3.alloc (.cells #[.int .i64 xo,.bool xd,.string xs] 48)).alloc (.cells #[.int .i64 (-2199023255552),.int .i64 xo,.bool xd,.string xs] 76)).alloc (.cells #[.slice (some ⟨w3.heap.size + 1,0,none⟩) 1 1] 70)) = w4:=⟨_,rfl⟩
       rw [hw4] at HB34 HTB HO4 ⊢
       clear hw4
       have HB4:=Lib.hid (HB3.out.trans (HB34.out.mono HB3.out.size))
       have HL4:=Lib.hid (HL3.out.trans (HB34.out.mono HL3.out.size))
       have hs34:=HB34.out.size
       have hs13:=HL3.out.size
       have hw4l:=HTB.out.lt
       have tb0:=HTB.out.cell 0 (v:=.slice (some ⟨w3.heap.size + 1,0,none⟩) 1 1) rfl
       have tf0:=HTB.out.frozen 0
       have hxb:=HXX.out.below (HB4.out) HXX.out.lt
       have x0:=hxb.cell 0 (v:=.string zn) rfl
       have x1:=hxb.cell 1 (v:=.slice A l.length cA) rfl
       have x2:=hxb.cell 2 (v:=.slice A2 S.length cS) rfl
       have hxl:=hxb.lt
       have htb:=HTT.out.below (HB4.out) HTT.out.lt
       have t0:=htb.cell 0 (v:=.int .i64 a0) rfl
       have t1:=htb.cell 1 (v:=.int .i64 a1) rfl
       have htl:=htb.lt
       clear hxb htb
       obtain ⟨X,hXc⟩:∃ X,changesL S l (-2199023255552) a1 = X:=⟨_,rfl⟩
       have HXC:=Lib.hid hXc
       have HX4:=Lib.hid (HXX.out.below HB4.out HXX.out.lt)
       have HT4:=Lib.hid (HTT.out.below HB4.out HTT.out.lt)
       clear hXc tb0 tf0 x0 x1 x2 hxl t0 t1 htl
       refine wp_invL (fin:=?fnT) (by kernel_rfl) [54,55,56,57,58,59,60,61,62,999]
        [.is (.slice (some ⟨w3.heap.size + 1,0,none⟩) 1 1),.is (.pointer (some ⟨w.heap.size,0,none⟩)),.is (.agg #[.string zn,.slice A l.length cA]),.is (.slice A3 R.length c3),.is (.slice A4 nE c4),.is (.pointer (some ⟨w.heap.size + 1,1,none⟩)),.is (.int .i64 a1),⟨fun v W=>W.ownsRow w4.heap.size 76 4 v X.length (chgsV X)∧X.length ≤ 1000000,fun v W W' h hb=>⟨ownsRow_below h.1 hb,h.2⟩⟩] 8 (by simp) (by kernel_rfl) (by kernel_rfl) ?finT ?_ ?_
       case finT =>
        intro x_
        simp only [frameOf,List.foldl_cons,List.foldl_nil,Act.put,List.setIfInBounds_toArray,List.set_cons_succ,List.set_cons_zero,List.set_nil]
        rfl
       ·as_aux_lemma =>
         simp only [List.take_succ_cons,List.take_zero]
         refine ⟨?_,?_,?_,?_,?_,?_,?_,?_,trivial⟩
         ·intro x_ w1_ R_ hB_ hf hR
          have q0:=Blk.cell (Blk.below HTB.out (hB_) (Blk.lt HTB.out)) 0 (v:=(.slice (some ⟨w3.heap.size + 1,0,none⟩) 1 1)) rfl
          clear hf
          simp only [upd] at hR ⊢
          go_wp2_with fail
          exact hR _ _ rfl (Below.refl _ _)
         ·intro x_ w1_ R_ hB_ hf hR
          clear hf
          simp only [upd] at hR ⊢
          go_wp2_with fail
          exact hR _ _ rfl (Below.refl _ _)
         ·intro x_ w1_ R_ hB_ hf hR
          have e0:x_ 55 = .pointer (some ⟨w.heap.size,0,none⟩):=hf 1 (by kernel_rfl)
          have q0:=Blk.cell (Blk.below HX4.out (hB_) (Blk.lt HX4.out)) 0 (v:=.string zn) rfl
          have q1:=Blk.cell (Blk.below HX4.out (hB_) (Blk.lt HX4.out)) 1 (v:=.slice A l.length cA) rfl
          clear hf
          simp only [upd] at hR ⊢
          simp only [e0] at hR ⊢
          go_wp2_with fail
          exact hR _ _ rfl (Below.refl _ _)
         ·intro x_ w1_ R_ hB_ hf hR
          clear hf
          simp only [upd] at hR ⊢
          go_wp2_with fail
          exact hR _ _ rfl (Below.refl _ _)
         ·intro x_ w1_ R_ hB_ hf hR
          clear hf
          simp only [upd] at hR ⊢
          go_wp2_with fail
          exact hR _ _ rfl (Below.refl _ _)
         ·intro x_ w1_ R_ hB_ hf hR
          have q0:=Blk.cell (Blk.below HT4.out (hB_) (Blk.lt HT4.out)) 1 (v:=.int .i64 a1) rfl
          clear hf
          simp only [upd] at hR ⊢
          have hl_:=(Blk.below HT4.out hB_ HT4.out.lt).lt
          go_wp2_with fail
          exact hR _ _ rfl (Below.refl _ _)
         ·intro x_ w1_ R_ hB_ hf hR
          have e0:x_ 59 = .pointer (some ⟨w.heap.size + 1,1,none⟩):=hf 5 (by kernel_rfl)
          have q0:=Blk.cell (Blk.below HT4.out (hB_) (Blk.lt HT4.out)) 1 (v:=.int .i64 a1) rfl
          clear hf
          simp only [upd] at hR ⊢
          simp only [e0] at hR ⊢
          go_wp2_with fail
          exact hR _ _ rfl (Below.refl _ _)
         ·intro x_ w1_ R_ hB_ hf hR
          have e0:x_ 56 = .agg #[.string zn,.slice A l.length cA]:=hf 2 (by kernel_rfl)
          have e1:x_ 57 = .slice A3 R.length c3:=hf 3 (by kernel_rfl)
          have e2:x_ 58 = .slice A4 nE c4:=hf 4 (by kernel_rfl)
          have e3:x_ 60 = .int .i64 a1:=hf 6 (by kernel_rfl)
          clear hf
          simp only [upd] at hR ⊢
          simp only [e0,e1,e2,e3] at hR ⊢
          have HC5:=Lib.hid (HCH.out w1_ (HL4.out.trans (hB_.mono HL4.out.size)) (-2199023255552) a1)
          have HBS:=hB_.size
          go_wp2_with fail
          refine HC5.out.mono ?_
          rintro o w2_ ⟨⟨q,N,rfl,hq,hql,hrn,han⟩,hb⟩
          have e:=outR_eq HFZ.out HRZ0.out hrn han (fr:=-2199023255552) (to:=a1) (by omega) (by omega) (by omega)
          rw [HXC.out] at e
          rw [e] at hq hql
          clear HC5 e hrn han
          go_wp2_with fail
          exact hR _ _ ⟨own_base hq HBS,hql⟩ hb
       ·intro x5 w5 hb5 hF5
        have e0:x5 54 = (.slice (some ⟨w3.heap.size + 1,0,none⟩) 1 1):=hF5 0 (by omega)
        have e1:x5 55 = .pointer (some ⟨w.heap.size,0,none⟩):=hF5 1 (by omega)
        have e2:x5 56 = .agg #[.string zn,.slice A l.length cA]:=hF5 2 (by omega)
        have e3:x5 57 = .slice A3 R.length c3:=hF5 3 (by omega)
        have e4:x5 58 = .slice A4 nE c4:=hF5 4 (by omega)
        have e5:x5 59 = .pointer (some ⟨w.heap.size + 1,1,none⟩):=hF5 5 (by omega)
        have e6:x5 60 = .int .i64 a1:=hF5 6 (by omega)
        obtain ⟨hq,hql⟩:w5.ownsRow w4.heap.size 76 4 (x5 61) X.length (chgsV X)∧X.length ≤ 1000000:=hF5 7 (by omega)
        obtain ⟨q,hqe⟩:∃ q,x5 61 = q:=⟨_,rfl⟩
        rw [hqe] at hq
        have HQ:=Lib.hid hq
        have HT5:=Lib.hid (HTB.out.below hb5 HTB.out.lt)
        have HO5:=Lib.hid (ownsRow_below HO4.out hb5)
        have HS5:=Lib.hid (Sl.of_own HQ.out)
        have HB5:=Lib.hid (HB4.out.trans (hb5.mono HB4.out.size))
        have HL5:=Lib.hid (HL4.out.trans (hb5.mono HL4.out.size))
        have hs45:=hb5.size
        have HB45:=Lib.hid hb5
        obtain ⟨Aq,cq,rfl⟩:=(Sl.of_own HQ.out).form
        obtain ⟨ic,hic,hc0,hc1,hc2⟩:=info_parts infoChgH
        simp only [List.drop_succ_cons,List.drop_zero]
        simp only [e0,e1,e2,e3,e4,e5,e6,hqe]
        clear hb5 hq hF5 e0 e1 e2 e3 e4 e5 e6 hqe
        have tb0:=HT5.out.cell 0 (v:=(.slice (some ⟨w3.heap.size + 1,0,none⟩) 1 1)) rfl
        have tf0:=HT5.out.frozen 0
        go_wp2_with (at_builtin;go_loud (refine wpList_append_sl rfl _ _ 70 rfl w1.heap.size 76 ic (.agg #[.int .i64 0,.int .i64 0,.bool false,.string ⟨#[]⟩]) 4 40 Tryz.underlying70 hic hc0 hc1 hc2 rfl (by decide) _ 1 _ rfl HO5.out _ w5.heap.size X.length _ rfl HS5.out (chgsV_oneH X) (by unfold maxLen;omega) (by omega) (by omega) ?_);intro v6 w6 hown6 hgrow6;go_loud (
         obtain ⟨A6,c6,rfl⟩:=(Sl.of_own hown6).form
         have ht6:=HT5.out.grown hgrow6 (fun e=>by have e:=Option.some.inj (show some (w3.heap.size + 1) = some (w3.heap.size + 1 + 1) from e);omega)
         have tf6:=ht6.frozen 0
         have tb6:=ht6.cell 0 (v:=(.slice (some ⟨w3.heap.size + 1,0,none⟩) 1 1)) rfl
         have HT6:=Lib.hid ht6
         have HO6:=Lib.hid hown6
         have HG6:=Lib.hid hgrow6
         clear ht6 hown6 hgrow6 tb0 tf0))
        go_wp2_with fail
        have hb57:Below w3.heap.size w5 (w6.setCell ⟨w3.heap.size + 1 + 1,0,none⟩ (.slice A6 (1 + X.length) c6)):=(Below.grown (Below.refl w3.heap.size w5) HG6.out (by omega) (fun k e=>by have e:=Option.some.inj (show some (w3.heap.size + 1) = some k from e);omega)).setCell (by show w3.heap.size ≤ w3.heap.size + 1 + 1;omega) _
        have ho7:(w6.setCell ⟨w3.heap.size + 1 + 1,0,none⟩ (.slice A6 (1 + X.length) c6)).ownsRow w1.heap.size 76 4 (.slice A6 (1 + X.length) c6) (1 + X.length) _:=Fr.own (Fr.setCell (T:=fun k=>k = w3.heap.size + 1 + 1) w6 0 _ rfl) HO6.out (fun g hg e=>own_ne HT6.out HO6.out (by decide) (by rw [hg,e]))
        have ht7:=HT6.out.set 0 (.slice A6 (1 + X.length) c6)
        have HTE:=Lib.hid (show T = ⟨-2199023255552,⟨xo,xd,xs⟩⟩ :: X by
         rw [← HT.out]
         unfold tabL
         rw [HXC.out,← refZ_eq HFZ.out HRZ0.out (by omega) (by omega),HX.out])
        obtain ⟨w7,hw7⟩:∃ W,w6.setCell ⟨w3.heap.size + 1 + 1,0,none⟩ (.slice A6 (1 + X.length) c6) = W:=⟨_,rfl⟩
        rw [hw7] at hb57 ho7 ht7 ⊢
        have HB7:=Lib.hid (HB5.out.trans (hb57.mono HB3.out.size))
        have HL7:=Lib.hid (HL5.out.trans (hb57.mono HL3.out.size))
        have hcq:Chgs w7 w7.heap.size (.slice A6 (1 + X.length) c6) T:=by
         rw [HTE.out]
         have h:=Sl.of_own ho7
         unfold Chgs
         rw [List.length_cons,show X.length + 1 = 1 + X.length from Nat.add_comm _ _,show chgsV (⟨-2199023255552,⟨xo,xd,xs⟩⟩ :: X) = chgsV [⟨-2199023255552,⟨xo,xd,xs⟩⟩] ++ chgsV X by simp [chgsV]]
         exact h
        have hcm:Chgs w7 w7.heap.size (.slice Am T.length cm) T:=by
         have h:=((HMV.out.below HM3.out).more HM3.out.size).below (HB34.out.trans ((HB45.out.mono HB34.out.size).trans hb57))
         exact h.more (Nat.le_trans (by omega) hb57.size)
        have HSM:=Lib.hid (same_any w7 w7.heap.size (.slice Am T.length cm) (.slice A6 (1 + X.length) c6) T T hcm hcq (Nat.le_refl _))
        rw [sameB_iff.2 rfl] at HSM
        have HT7:=Lib.hid ht7
        clear hw7 hcq hcm ho7 ht7 hb57 tf6 tb6
        refine HSM.out.mono ?_
        rintro o w8 ⟨rfl,hb⟩
        have HB8:=Lib.hid (HB7.out.trans (hb.mono HB7.out.size))
        have HL8:=Lib.hid (HL7.out.trans (hb.mono HL7.out.size))
        have HT8:=Lib.hid (HT7.out.below hb HT7.out.lt)
        clear hb HSM HT7 HT6 HO6 HG6 HT5 HO5 HS5 HQ HMV HTB HO4
        have hxb:=HXX.out.below (HB8.out) HXX.out.lt
        have x0:=hxb.cell 0 (v:=.string zn) rfl
        have x1:=hxb.cell 1 (v:=.slice A l.length cA) rfl
        have x2:=hxb.cell 2 (v:=.slice A2 S.length cS) rfl
        have hxl:=hxb.lt
        have htb:=HTT.out.below (HB8.out) HTT.out.lt
        have t0:=htb.cell 0 (v:=.int .i64 a0) rfl
        have t1:=htb.cell 1 (v:=.int .i64 a1) rfl
        have htl:=htb.lt
        clear hxb htb
        have HZA:=Lib.hid (zall_any w8 zn A l.length cA _ (.slice A2 S.length cS) rfl a0)
        unfold setsV zoneA worldA at HZA
        go_wp2_with fail
        refine HZA.out.mono ?_
        rintro o w9 ⟨cb,hcb,rfl,hb,g0,g1,g2,g3,hs9⟩
        have HB9:=Lib.hid (HB8.out.trans (hb.mono HB8.out.size))
        have HL9:=Lib.hid (HL8.out.trans (hb.mono HL8.out.size))
        have HC9:=Lib.hid (And.intro g0 (And.intro g1 (And.intro g2 g3)))
        have HT9:=Lib.hid (HT8.out.below hb HT8.out.lt)
        have HS9:=Lib.hid hs9
        have hql2:∀ (W:World) (f:Fn) (ts cs:Array Value),(binOp .eql 86 (.func f ts cs) .nilFunc).run Tryz.prog W = .ok (.bool false) W:=fun W f ts cs=>run_eql_func_nil W _ f ts cs Tryz.underlying86
        clear hb g0 g1 g2 g3 hs9 x0 x1 x2 hxl t0 t1 htl HZA
        have hxb:=HXX.out.below (HB9.out) HXX.out.lt
        have x0:=hxb.cell 0 (v:=.string zn) rfl
        have x1:=hxb.cell 1 (v:=.slice A l.length cA) rfl
        have x2:=hxb.cell 2 (v:=.slice A2 S.length cS) rfl
        have hxl:=hxb.lt
        have htb:=HTT.out.below (HB9.out) HTT.out.lt
        have t0:=htb.cell 0 (v:=.int .i64 a0) rfl
        have t1:=htb.cell 1 (v:=.int .i64 a1) rfl
        have htl:=htb.lt
        clear hxb htb
        have HC2:=Lib.hid (HCH.out w9 HL9.out a0 a1)
        go_wp2_with fail
        refine HC2.out.mono ?_
        rintro o w10 ⟨⟨q2,N2,rfl,hq2,hql3,hrn,han⟩,hb⟩
        have e:=outR_eq HFZ.out HRZ0.out hrn han (fr:=a0) (to:=a1) (by omega) (by omega) (by omega)
        rw [e] at hq2 hql3
        obtain ⟨P,hP⟩:∃ P,changesL S l a0 a1 = P:=⟨_,rfl⟩
        rw [hP] at hq2 hql3
        have HQ2:=Lib.hid hq2
        obtain ⟨Ap,cp,rfl⟩:=(Sl.of_own hq2).form
        have HB10:=Lib.hid (HB9.out.trans (hb.mono HB9.out.size))
        have HT10:=Lib.hid (HT9.out.below hb HT9.out.lt)
        have HC10:=Lib.hid (And.intro (HC9.out.1.below hb HC9.out.1.lt) (And.intro (HC9.out.2.1.below hb HC9.out.2.1.lt) (And.intro (HC9.out.2.2.1.below hb HC9.out.2.2.1.lt) (HC9.out.2.2.2.below hb HC9.out.2.2.2.lt))))
        have hs910:=hb.size
        clear e hrn han hb x0 x1 x2 hxl t0 t1 htl HC2 hq2
        have tc10:=HT10.out.cell 0 rfl
        have tf10:=HT10.out.frozen 0
        have tl10:=HT10.out.lt
        go_wp2_with fail
        have h99:=Nat.le_of_eq HS9.out
        have h98:=Nat.le_of_eq HS9.out.symm
        have hw0:=Nat.le_of_eq HW0S.out
        have hw02:=Nat.le_of_eq HW0S.out.symm
        have hb3:=HB3.out.size
        have hb8:=HB8.out.size
        have hb0:=HB0.out.size
        have hrl:=HRR.out.lt
        have hwx:∃ W,(w10.setCell ⟨w3.heap.size + 1 + 1,0,none⟩ (.slice Ap P.length cp)).alloc (.cells #[.int .i64 0] 3) = W:=⟨_,rfl⟩
        have hb12:Below W0.heap.size W0 ((w10.setCell ⟨w3.heap.size + 1 + 1,0,none⟩ (.slice Ap P.length cp)).alloc (.cells #[.int .i64 0] 3)):=(HB10.out.setCell (by show W0.heap.size ≤ w3.heap.size + 1 + 1;omega) _).alloc (by have:=HB10.out.size;simpa using this) _
        have hfr12:Fr (fun k=>k = w3.heap.size + 1 + 1) w10 ((w10.setCell ⟨w3.heap.size + 1 + 1,0,none⟩ (.slice Ap P.length cp)).alloc (.cells #[.int .i64 0] 3)):=(Fr.setCell (T:=fun k=>k = w3.heap.size + 1 + 1) w10 0 _ rfl).then (Fr.alloc _ _)
        have hnb:=Blk.new (w10.setCell ⟨w3.heap.size + 1 + 1,0,none⟩ (.slice Ap P.length cp)) 3 #[.int .i64 0]
        have ht12:=(HT10.out.set 0 (.slice Ap P.length cp)).alloc (.cells #[.int .i64 0] 3)
        have hs12:((w10.setCell ⟨w3.heap.size + 1 + 1,0,none⟩ (.slice Ap P.length cp)).alloc (.cells #[.int .i64 0] 3)).heap.size = w10.heap.size + 1:=by simp
        obtain ⟨w12,hw12⟩:=hwx
        rw [hw12] at hb12 hfr12 hnb ht12 hs12 ⊢
        simp only [World.size_setCell] at hnb
        have HT12:=Lib.hid ht12
        have HB12:=Lib.hid hb12
        have hbs3:=HT9.out.lt
        have hbs8:=HT8.out.lt
        have HOW:=Lib.hid (hfr12.own HQ2.out (fun g hg e=>own_ne HT10.out HQ2.out (by decide) (by rw [hg,e])))
        have hcb9:=hcb
        have HC12:=Lib.hid (And.intro (HC10.out.1.fr hfr12 (by omega)) (And.intro (HC10.out.2.1.fr hfr12 (by omega)) (And.intro (HC10.out.2.2.1.fr hfr12 (by omega)) (HC10.out.2.2.2.fr hfr12 (by omega)))))
        have HOG:=Lib.hid (show ∀ k,(k = w10.heap.size∨(Value.slice Ap P.length cp).ownBlock = some k)→w9.heap.size ≤ k∧k < w12.heap.size from fun k hk=>by
         rcases hk with rfl | hk
         ·exact ⟨hs910,by omega⟩
         ·have:=own_lo HQ2.out k hk
          exact ⟨this.1,by omega⟩)
        clear hw12 hb12 hfr12 ht12 tc10 tf10 tl10
        obtain ⟨LL,hLL⟩:∃ L,changesL S l a0 2199023255552 = L:=⟨_,rfl⟩
        obtain ⟨Q,hQ,hQ2⟩:=changes_all HFZ.out (fr:=a0) (to:=a1) (T:=2199023255552) (by omega) (by omega) (by omega)
        rw [hLL,hP] at hQ
        have HPIN:=Lib.hid (show ∀ x ∈ P,x.at_ ≤ a1 from fun x hx=>by
         rw [← hP] at hx
         exact ((changes_rep HFZ.out (fr:=a0) (to:=a1) (by omega) (by omega)).wk.mem x hx).1.2)
        have HQ:=Lib.hid hQ
        have HQB:=Lib.hid hQ2
        have HLL:=Lib.hid hLL
        clear hP hQ hQ2 hLL
        refine (wpIn_wide (n:=12)).1 ?_
        refine range_own (α:=Chg) rfl (by omega) (gf:=118) (lb:=#[.pointer (some ⟨cb + 2,0,none⟩),.pointer (some ⟨cb,0,none⟩),.pointer (some ⟨cb + 1,0,none⟩),.pointer (some ⟨cb + 3,0,none⟩)]) rfl trivial (enters_of Tryz.func118 (by kernel_rfl) rfl)
         (encs:=encC) (R:=RC LL w8.heap.size w12) (K:=fun k=>k = cb + 2∨k < w8.heap.size)
         (fun V hV=>by
           rw [← HLL.out]
           exact changes_iter 11 (by omega) _ _ _ _ w.heap.size w8.heap.size w12 W0 zn (.slice A l.length cA) (.slice A2 S.length cS) l S a0 2199023255552 V (HC12.out.1.below hV HC12.out.1.lt) (by have h:=HC12.out.2.1.below hV HC12.out.2.1.lt;unfold setsV worldA;exact h) (HC12.out.2.2.1.below hV HC12.out.2.2.1.lt) (HC12.out.2.2.2.below hV HC12.out.2.2.2.lt) ((HZ0.out.below HB12.out).below hV) (few_okR HFEW.out) HLET.out (fun e=>endL_few e (fewB_iff.1 HFEW.out).2.1) (by omega) (by omega) ⟨by omega,by omega,by omega,by omega,by omega⟩ (by have:=hV.size;omega) ((SameB.refl (by omega)).then_below hV (by omega)) HZ0.out.maxl (by omega))
         (fun _=>rfl) (MakeI w10.heap.size P.length w9.heap.size (.slice Ap P.length cp) (chgsV P)) (fun c pre O W=>c = .exit 0∧MakeI w10.heap.size P.length w9.heap.size (.slice Ap P.length cp) (chgsV P) P O W) (makeI_feet _ _ _ _ _) (fun c pre O W W' h hf=>⟨h.1,makeI_feet _ _ _ _ _ P O W W' h.2 hf⟩)
         (fun k=>k = w10.heap.size∨(Value.slice Ap P.length cp).ownBlock = some k) ⟨⟨.inl rfl,Nat.zero_le _,fun g hg=>.inr hg⟩,hnb,HOW.out⟩ (fun k hk=>(HOG.out k hk).2) (fun k hk=>by omega) (fun k hk h=>by have:=HOG.out k h;omega) ?round ?done ?stop
        case stop=>as_aux_lemma =>
         rintro D c pre O V hD - ⟨rfl,⟨onb,-,-⟩,hnb,-⟩ hO hBO hOD hfr hK2
         have HB13:=Lib.hid (show Below W0.heap.size W0 V from HB12.out.trans (hfr.below (by omega) (fun k hk h=>by rcases h with h | h;(have h9:=HOG.out k h;omega);omega)))
         have HK2:=Lib.hid hK2
         have HDR:=Lib.hid (show D ≠ w.heap.size + 1 + 1 by omega)
         have HDW:=Lib.hid (show w.heap.size ≤ D by omega)
         have hbx:=HT12.out.fr hfr (by rintro (h | h);(have h9:=HOG.out _ h;omega);omega)
         have tc:=hbx.cell 0 (v:=.slice Ap P.length cp) rfl
         have n0:=(hnb).cell 0 (v:=.int .i64 (P.length:Nat)) rfl
         have hbxl:=hbx.lt
         have hnl:=(hnb).lt
         clear hfr hO hBO hK2 hOD hbx hnb
         try refine wpIn_wide.2 ?_
         go_wp2_with fail
         refine (tawake_any _ ((HZ0.out.below (HB13.out)).maxl)).mono ?_
         rintro o wz ⟨rfl,hbz⟩
         have hbz0:=(HB13.out).trans (hbz.mono (HB13.out).size)
         have hrz:=HRR.out.below hbz0 HRR.out.lt
         have gz:=hrz.frozen 0
         have cz:=hrz.cell 0 (v:=.bool false) rfl
         have HBZ:=Lib.hid (HB0.out.trans (hbz0.mono HB0.out.size))
         have HRZ:=Lib.hid hrz
         have HZF:=Lib.hid (fin_factsT HK2.out hbz hrz HDR.out true)
         clear hbz hbz0 hrz
         go_wp2_with fail
         refine ⟨by simp,.inl ⟨_,_,rfl,run_takeDeferred HZF.out.1,?_⟩⟩
         refine ⟨.bool true,?_,rfl,fin_below (HBZ.out.setCell (by show w.heap.size ≤ w.heap.size + 1 + 1;omega) _) HDW.out⟩
         have hc:=HZF.out.2
         simp [results,Tryz.f10,go_sem,hc]
        case done=>as_aux_lemma =>
         rintro D xs O V hD hS ⟨⟨onb,hle,-⟩,hnb,-⟩ hO hBO hOD hfr hK2
         have hxs:xs.length = P.length:=by
          have h1:xs = LL:=by rw [hS,HLL.out]
          have h2:xs.length = P.length + Q.length:=by rw [h1,HQ.out,List.length_append]
          omega
         rw [hxs] at hnb
         clear hxs hle hS
         have HB13:=Lib.hid (show Below W0.heap.size W0 V from HB12.out.trans (hfr.below (by omega) (fun k hk h=>by rcases h with h | h;(have h9:=HOG.out k h;omega);omega)))
         have HK2:=Lib.hid hK2
         have HDR:=Lib.hid (show D ≠ w.heap.size + 1 + 1 by omega)
         have HDW:=Lib.hid (show w.heap.size ≤ D by omega)
         have hbx:=HT12.out.fr hfr (by rintro (h | h);(have h9:=HOG.out _ h;omega);omega)
         have tc:=hbx.cell 0 (v:=.slice Ap P.length cp) rfl
         have n0:=(hnb).cell 0 (v:=.int .i64 (P.length:Nat)) rfl
         have hbxl:=hbx.lt
         have hnl:=(hnb).lt
         clear hfr hO hBO hK2 hOD hbx hnb
         try refine wpIn_wide.2 ?_
         go_wp2_with fail
         refine (tawake_any _ ((HZ0.out.below (HB13.out)).maxl)).mono ?_
         rintro o wz ⟨rfl,hbz⟩
         have hbz0:=(HB13.out).trans (hbz.mono (HB13.out).size)
         have hrz:=HRR.out.below hbz0 HRR.out.lt
         have gz:=hrz.frozen 0
         have cz:=hrz.cell 0 (v:=.bool false) rfl
         have HBZ:=Lib.hid (HB0.out.trans (hbz0.mono HB0.out.size))
         have HRZ:=Lib.hid hrz
         have HZF:=Lib.hid (fin_factsT HK2.out hbz hrz HDR.out true)
         clear hbz hbz0 hrz
         go_wp2_with fail
         refine ⟨by simp,.inl ⟨_,_,rfl,run_takeDeferred HZF.out.1,?_⟩⟩
         refine ⟨.bool true,?_,rfl,fin_below (HBZ.out.setCell (by show w.heap.size ≤ w.heap.size + 1 + 1;omega) _) HDW.out⟩
         have hc:=HZF.out.2
         simp [results,Tryz.f10,go_sem,hc]
        case round=>as_aux_lemma =>
         intro lp pre c O D V hI hBO hBD hDO hR nOl nDl hlow hltl
         obtain ⟨ca,⟨co,cd,cs⟩⟩:=c
         obtain ⟨hnD,⟨rest,hrest⟩,hsame⟩:=hR
         have hnx:=next_of (HQ.out.symm.trans hrest) HPIN.out HQB.out hI.1.2.1
         have HBO:=Lib.hid hBO
         have HCV:=Lib.hid (Blk.new V 76 #[.int .i64 ca,.int .i64 co,.bool cd,.string cs])
         have HBV:=Lib.hid ((Below.refl V.heap.size V).alloc (Nat.le_refl _) (.cells #[.int .i64 ca,.int .i64 co,.bool cd,.string cs] 76))
         have hwV:w8.heap.size ≤ V.heap.size:=hsame.size
         have HSM:=Lib.hid hsame
         unfold encC chgA
         clear hI hBO hBD hDO hrest hsame
         gi_wp2
         refine ⟨HBV.out,?_⟩
         intro Vb hfb hIb _ _
         obtain ⟨⟨onb,hle,hog⟩,hnb,how⟩:=hIb
         have HOGO:=Lib.hid hog
         have hVb:V.heap.size ≤ Vb.heap.size:=Nat.le_trans HBV.out.size hfb.size
         have hC:=HCV.out.fr hfb (by omega)
         have hcell:∀ q:Addr,q.block < w8.heap.size→Vb.cell? q = w12.cell? q:=fun q hq=>((hfb.cell (p:=q) (Nat.lt_of_lt_of_le (by omega) HBV.out.size) (by omega)).trans (HBV.out.cell (by omega))).trans (HSM.out.cell hq)
         have HBB2:=Lib.hid (show Bd O Vb from fun k h=>Nat.lt_of_lt_of_le (HBO.out k h) hVb)
         have htt:=HTT.out.below HB12.out HTT.out.lt
         have t1:Vb.cell? ⟨w.heap.size + 1,1,none⟩ = some (.int .i64 a1):=(hcell _ (by show w.heap.size + 1 < _;omega)).trans (htt.cell 1 rfl)
         have b0:Vb.cell? ⟨w3.heap.size + 1 + 1,0,none⟩ = some (.slice Ap P.length cp):=(hcell _ (by show w3.heap.size + 1 + 1 < _;omega)).trans (HT12.out.cell 0 rfl)
         have c0:=hC.cell 0 (v:=.int .i64 ca) rfl
         have c1:=hC.cell 1 (v:=.int .i64 co) rfl
         have c2:=hC.cell 2 (v:=.bool cd) rfl
         have c3_:=hC.cell 3 (v:=.string cs) rfl
         have hcl:=hC.lt
         have hnl:=Blk.lt hnb
         have HNB2:=Lib.hid hnb
         have HOWB:=Lib.hid how
         have HC2:=Lib.hid hC
         clear hfb hC hcell htt how hog
         rcases hnx with ⟨hgt,hpl⟩ | ⟨hle2,hpl,hpc⟩
         ·have d1:decide (a1 < ca) = true:=decide_eq_true hgt
          have HFI:=Lib.hid (show MakeI w10.heap.size P.length w9.heap.size (.slice Ap P.length cp) (chgsV P) P O Vb from ⟨⟨onb,Nat.le_refl _,HOGO.out⟩,by rw [← hpl];exact HNB2.out,HOWB.out⟩)
          clear hgt hpl hnb
          gi_wp2
          exact ⟨O,fun k h=>.inl h,HBB2.out,Fr.refl _ _,rfl,HFI.out⟩
         ·have d1:decide (a1 < ca) = false:=decide_eq_false (by omega)
          obtain ⟨nB,hnB⟩:∃ n,P.length = n:=⟨_,rfl⟩
          obtain ⟨nn,hnn⟩:∃ n,pre.length = n:=⟨_,rfl⟩
          have hvb:Chgs Vb Vb.heap.size (.slice Ap P.length cp) P:=Sl.of_own HOWB.out
          have hcmb:P.length ≤ maxLen:=by
           obtain ⟨_,_,_,hc8,hc9⟩:=hvb.form
           omega
          obtain ⟨bb,o,cc,e,hbbl,hc⟩:=Chgs.cells hvb (by omega)
          cases e
          obtain ⟨g0v,g1v,g2v,g3v⟩:=hc pre.length hpl
          rw [hpc] at g0v g1v g2v g3v
          rw [hnn] at hnb HNB2 g0v g1v g2v g3v hpl
          rw [hnB] at hpl b0 hcmb
          have HNN:=Lib.hid hnn
          have HNBL:=Lib.hid hnB
          have n0:=hnb.cell 0 (v:=.int .i64 (nn:Nat)) rfl
          simp only at g0v g1v g2v g3v
          have HG:=Lib.hid (fun (W:World) (h:Below Vb.heap.size Vb W)=>show W.cell? ⟨bb,o + nn * 4,none⟩ = some (.int .i64 ca)∧W.cell? ⟨bb,o + nn * 4 + 1,none⟩ = some (.int .i64 co)∧W.cell? ⟨bb,o + nn * 4 + 2,none⟩ = some (.bool cd)∧W.cell? ⟨bb,o + nn * 4 + 3,none⟩ = some (.string cs)∧W.cell? ⟨w10.heap.size,0,none⟩ = some (.int .i64 (nn:Nat))∧W.cell? ⟨w3.heap.size + 1 + 1,0,none⟩ = some (.slice (some ⟨bb,o,none⟩) nB cp)∧W.cell? ⟨V.heap.size,0,none⟩ = some (.int .i64 ca)∧W.cell? ⟨V.heap.size,1,none⟩ = some (.int .i64 co)∧W.cell? ⟨V.heap.size,2,none⟩ = some (.bool cd)∧W.cell? ⟨V.heap.size,3,none⟩ = some (.string cs) from
           ⟨(h.cell (p:=⟨bb,o + nn * 4,none⟩) (by show bb < _;omega)).trans g0v,(h.cell (p:=⟨bb,o + nn * 4 + 1,none⟩) (by show bb < _;omega)).trans g1v,(h.cell (p:=⟨bb,o + nn * 4 + 2,none⟩) (by show bb < _;omega)).trans g2v,(h.cell (p:=⟨bb,o + nn * 4 + 3,none⟩) (by show bb < _;omega)).trans g3v,(h.cell (p:=⟨w10.heap.size,0,none⟩) hnl).trans n0,(h.cell (p:=⟨w3.heap.size + 1 + 1,0,none⟩) (by show w3.heap.size + 1 + 1 < _;omega)).trans b0,(h.cell (p:=⟨V.heap.size,0,none⟩) hcl).trans c0,(h.cell (p:=⟨V.heap.size,1,none⟩) hcl).trans c1,(h.cell (p:=⟨V.heap.size,2,none⟩) hcl).trans c2,(h.cell (p:=⟨V.heap.size,3,none⟩) hcl).trans c3_⟩)
          have hwd:=wide1 lp
          have dge:decide ((nB:Int) ≤ (nn:Int)) = false:=decide_eq_false (by omega)
          have dge2:decide (nB ≤ nn) = false:=decide_eq_false (by omega)
          have dlt2:decide (nn < nB) = true:=decide_eq_true hpl
          have hnB2:(nn:Int) < (nB:Int):=by omega
          have hwr:wrap64 ((nn:Int) + 1) = (nn:Int) + 1:=IntWalk.wrap64_in _ (by unfold maxLen at hcmb;omega)
          clear hnn hpc hle2 hc hvb hnb hnB
          gi_wp2
          refine wpIn_env (fin:=?fnmr) (hwd) (by kernel_rfl) [96,97,98,99,100,101,102,103,104,105,106,107]
           [.int .i64 nn,.slice (some ⟨bb,o,none⟩) nB cp,.int .i64 nB,.bool false,.bool false,.agg #[.int .i64 ca,.int .i64 co,.bool cd,.string cs],.slice (some ⟨bb,o,none⟩) nB cp,.int .i64 nn,.pointer (some ⟨bb,o + nn * 4,none⟩),.agg #[.int .i64 ca,.int .i64 co,.bool cd,.string cs],.bool false,.bool false] (by kernel_rfl) ?finmr ?stepsmr ?nextmr
          case finmr =>
           simp only [putAll,Act.put,List.setIfInBounds_toArray,List.set_cons_succ,List.set_cons_zero]
           rfl
          case stepsmr =>
           refine ⟨?_,?_,?_,?_,?_,?_,?_,?_,?_,?_,?_,?_,trivial⟩
           all_goals refine .inr ⟨by kernel_rfl,fun w1_ hB_=>?_⟩
           all_goals
            obtain ⟨g0_,g1_,g2_,g3_,n0_,b0_,c0_,c1_,c2_,c3__⟩:=HG.out _ hB_
            go_simp
            first
             | exact ⟨rfl,Below.refl _ _⟩
             | done
             | ((first | rw [decide_eq_true (by omega)] | rw [decide_eq_false (by omega)] | rw [if_pos (by omega)] | rw [IntWalk.i64_in _ (by omega)]);exact ⟨rfl,Below.refl _ _⟩)
             | done
          case nextmr =>
          intro W3 hb3_
          have HB3_:=Lib.hid hb3_
          have hnb3:=HNB2.out.below hb3_ HNB2.out.lt
          have n3:=hnb3.cell 0 (v:=.int .i64 (nn:Nat)) rfl
          have nf3:=hnb3.frozen 0
          have hnl3:=hnb3.lt
          have HNB3:=Lib.hid hnb3
          have HOW3:=Lib.hid (ownsRow_below HOWB.out hb3_)
          have HNE3:=Lib.hid (own_ne HNB3.out HOW3.out (by decide))
          have HOW4:=Lib.hid (fun v:Value=>Fr.own (Fr.setCell (T:=fun k=>k = w10.heap.size) W3 0 v rfl) HOW3.out (fun g hg e=>HNE3.out (by rw [hg,e])))
          have HFI:=Lib.hid (makeI_step (W:=W3.setCell ⟨w10.heap.size,0,none⟩ (.int .i64 ((nn:Int) + 1))) ⟨ca,⟨co,cd,cs⟩⟩ nn HNN.out onb (Nat.succ_le_of_lt (by rw [HNBL.out];exact hpl)) HOGO.out (HNB3.out.set 0 (.int .i64 ((nn:Int) + 1))) (HOW4.out _))
          have HBD:=Lib.hid (show Bd O (W3.setCell ⟨w10.heap.size,0,none⟩ (.int .i64 ((nn:Int) + 1))) from (HBB2.out.fr (Fr.of_below (T:=fun _=>True) HB3_.out (Nat.le_refl _))).fr (Fr.setCell (T:=fun _=>True) _ 0 _ trivial))
          have HFR:=Lib.hid (show Fr (fun k=>O k∨D k) Vb (W3.setCell ⟨w10.heap.size,0,none⟩ (.int .i64 ((nn:Int) + 1))) from (Fr.of_below HB3_.out (Nat.le_refl _)).then (Fr.setCell _ 0 _ (.inl onb)))
          clear hb3_ hnb3 t1 b0 c0 c1 c2 c3_ n0 g0v g1v g2v g3v
          gi_wp2
          exact leftO_normal (O':=O) (fun k h=>.inl h) HBD.out HFR.out HFI.out
end
section -- FOpen
open Go Go.ChangeShapes Go.WideShapes Go.ChangeAt Go.RowKit Go.Deep
def aheadI:List Int:=[0,31,59,90,120,151,181,212,243,273,304,334,365]
theorem ahead_of {W : World} (h : laidMetH Tryz.prog [("meridian/civil.ahead", Rows.laid_meridian_civil_ahead)] W) : Ahead W := fun i hi => by
 have ht : Lib.TabIs Tryz.prog W "meridian/civil.ahead" .i64 aheadI := Lib.tabIs_of_head (rest := []) (g := 0) (by kernel_rfl) (by kernel_rfl) Tryz.underlying175 Tryz.underlying3 (by kernel_rfl) (by kernel_rfl) h
 have hc:=ht.cell (g:=0) (by kernel_rfl) i (by simpa [aheadI] using hi)
 rw [hc]
 have:i = 0∨i = 1∨i = 2∨i = 3∨i = 4∨i = 5∨i = 6∨i = 7∨i = 8∨i = 9∨i = 10∨i = 11∨i = 12:=by omega
 rcases this with h | h | h | h | h | h | h | h | h | h | h | h | h <;> subst h <;> rfl
section
variable {H:Type} {enc:TypeId × Value→H} {P:Program} {W:World} {base:Nat} {spare:MemPlace→Bool} {held:Bool}
theorem trod_struct8 {t:TypeId} {f0 f1 f2 f3 f4 f5 f6 f7:Field} {fuel:Nat} {cs:List Value} {x:DataW H × List MemPlace} (ht:P.underlying t = some (.struct #[f0,f1,f2,f3,f4,f5,f6,f7])) (h:DataW.trod enc P W 0 (fun _=>true) true fuel t cs = some x) :
  ∃ y0 y1 y2 y3 y4 y5 y6 y7 n,cs.length = P.cellsOf t∧DataW.trod enc P W 0 (fun _=>true) true n f0.type ((cs.drop f0.offset).take (P.cellsOf f0.type)) = some y0∧DataW.trod enc P W 0 (fun _=>true) true n f1.type ((cs.drop f1.offset).take (P.cellsOf f1.type)) = some y1 ∧
   DataW.trod enc P W 0 (fun _=>true) true n f2.type ((cs.drop f2.offset).take (P.cellsOf f2.type)) = some y2∧DataW.trod enc P W 0 (fun _=>true) true n f3.type ((cs.drop f3.offset).take (P.cellsOf f3.type)) = some y3∧DataW.trod enc P W 0 (fun _=>true) true n f4.type ((cs.drop f4.offset).take (P.cellsOf f4.type)) = some y4 ∧
   DataW.trod enc P W 0 (fun _=>true) true n f5.type ((cs.drop f5.offset).take (P.cellsOf f5.type)) = some y5∧DataW.trod enc P W 0 (fun _=>true) true n f6.type ((cs.drop f6.offset).take (P.cellsOf f6.type)) = some y6∧DataW.trod enc P W 0 (fun _=>true) true n f7.type ((cs.drop f7.offset).take (P.cellsOf f7.type)) = some y7:=by
 obtain ⟨xs,n,_,rfl,hl,hlen,hf⟩:=DataW.trod_struct ht h
 match xs,hlen with
 | [y0,y1,y2,y3,y4,y5,y6,y7],_=>exact ⟨y0,y1,y2,y3,y4,y5,y6,y7,n,hl,by simpa using hf 0 f0 rfl,by simpa using hf 1 f1 rfl,by simpa using hf 2 f2 rfl,by simpa using hf 3 f3 rfl,by simpa using hf 4 f4 rfl,by simpa using hf 5 f5 rfl,by simpa using hf 6 f6 rfl,by simpa using hf 7 f7 rfl⟩
end
section
variable {H:Type} {enc:TypeId × Value→H} {W:World}
theorem trod_day {n:Nat} {cs:List Value} {y:DataW H × List MemPlace} (h:DataW.trod enc Tryz.prog W 0 (fun _=>true) true n 36 cs = some y):∃ a b c:Int,cs = [.int .i64 a,.int .i64 b,.int .i64 c]:=by
 obtain ⟨y0,y1,y2,k,-,hl,h0,h1,h2⟩:=trod_struct3 Tryz.underlying36 h
 rw [show Tryz.prog.cellsOf 36 = 3 by kernel_rfl] at hl
 obtain ⟨a,e0,_,_⟩:=DataW.trod_int Tryz.underlying3 h0
 obtain ⟨b,e1,_,_⟩:=DataW.trod_int Tryz.underlying3 h1
 obtain ⟨c,e2,_,_⟩:=DataW.trod_int Tryz.underlying3 h2
 match cs,hl with
 | [v0,v1,v2],_ =>
   rw [show Tryz.prog.cellsOf 3 = 1 by kernel_rfl] at e0 e1 e2
   simp at e0 e1 e2
   subst e0 e1 e2
   exact ⟨a,b,c,rfl⟩
theorem trod_clock {n:Nat} {cs:List Value} {y:DataW H × List MemPlace} (h:DataW.trod enc Tryz.prog W 0 (fun _=>true) true n 38 cs = some y):∃ a b:Int,cs = [.int .i64 a,.int .i64 b]:=by
 obtain ⟨y0,y1,k,-,hl,h0,h1⟩:=trod_struct2 Tryz.underlying38 h
 rw [show Tryz.prog.cellsOf 38 = 2 by kernel_rfl] at hl
 obtain ⟨a,e0,_,_⟩:=DataW.trod_int Tryz.underlying3 h0
 obtain ⟨b,e1,_,_⟩:=DataW.trod_int Tryz.underlying3 h1
 match cs,hl with
 | [v0,v1],_ =>
   rw [show Tryz.prog.cellsOf 3 = 1 by kernel_rfl] at e0 e1
   simp at e0 e1
   subst e0 e1
   exact ⟨a,b,rfl⟩
theorem trod_rul {n:Nat} {cs:List Value} {y:DataW H × List MemPlace} (h:DataW.trod enc Tryz.prog W 0 (fun _=>true) true n 106 cs = some y):∃ r:Rul,cs = rulV r∧True:=by
 obtain ⟨y0,y1,y2,y3,y4,y5,y6,y7,k,hl,h0,h1,h2,h3,h4,h5,h6,h7⟩:=trod_struct8 Tryz.underlying106 h
 rw [show Tryz.prog.cellsOf 106 = 11 by kernel_rfl] at hl
 obtain ⟨nm,e0,_,_⟩:=DataW.trod_string Tryz.underlying9 h0
 obtain ⟨fr,e1,_,_⟩:=DataW.trod_int Tryz.underlying3 h1
 obtain ⟨to,e2,_,_⟩:=DataW.trod_int Tryz.underlying3 h2
 obtain ⟨mo,e3,_,_⟩:=DataW.trod_int Tryz.underlying3 h3
 obtain ⟨dk,dw,dn,e4⟩:=trod_day h4
 obtain ⟨sc,kd,e5⟩:=trod_clock h5
 obtain ⟨sv,e6,_,_⟩:=DataW.trod_int Tryz.underlying3 h6
 obtain ⟨lt,e7,_,_⟩:=DataW.trod_string Tryz.underlying9 h7
 match cs,hl with
 | [v0,v1,v2,v3,v4,v5,v6,v7,v8,v9,v10],_ =>
   rw [show Tryz.prog.cellsOf 3 = 1 by kernel_rfl] at e1 e2 e3 e6
   rw [show Tryz.prog.cellsOf 9 = 1 by kernel_rfl] at e0 e7
   rw [show Tryz.prog.cellsOf 36 = 3 by kernel_rfl] at e4
   rw [show Tryz.prog.cellsOf 38 = 2 by kernel_rfl] at e5
   simp at e0 e1 e2 e3 e4 e5 e6 e7
   obtain ⟨rfl,rfl,rfl⟩:=e4
   obtain ⟨rfl,rfl⟩:=e5
   subst e0 e1 e2 e3 e6 e7
   exact ⟨⟨nm,fr,to,mo,dk,dw,dn,sc,kd,sv,lt⟩,rfl,trivial⟩
instance:Inhabited Rul:=⟨⟨⟨#[]⟩,0,0,0,0,0,0,0,0,0,⟨#[]⟩⟩⟩
end
end
section -- AOpen
open Go Go.ChangeShapes Go.WideShapes Go.ChangeAt Go.RowKit Go.Deep
section
variable {H:Type} {enc:TypeId × Value→H} {P:Program} {W:World}
theorem trod_struct4 {t:TypeId} {f0 f1 f2 f3:Field} {fuel:Nat} {cs:List Value} {x:DataW H × List MemPlace} (ht:P.underlying t = some (.struct #[f0,f1,f2,f3])) (h:DataW.trod enc P W 0 (fun _=>true) true fuel t cs = some x) :
  ∃ y0 y1 y2 y3 n,cs.length = P.cellsOf t∧DataW.trod enc P W 0 (fun _=>true) true n f0.type ((cs.drop f0.offset).take (P.cellsOf f0.type)) = some y0∧DataW.trod enc P W 0 (fun _=>true) true n f1.type ((cs.drop f1.offset).take (P.cellsOf f1.type)) = some y1 ∧
   DataW.trod enc P W 0 (fun _=>true) true n f2.type ((cs.drop f2.offset).take (P.cellsOf f2.type)) = some y2∧DataW.trod enc P W 0 (fun _=>true) true n f3.type ((cs.drop f3.offset).take (P.cellsOf f3.type)) = some y3:=by
 obtain ⟨xs,n,_,rfl,hl,hlen,hf⟩:=DataW.trod_struct ht h
 match xs,hlen with
 | [y0,y1,y2,y3],_=>exact ⟨y0,y1,y2,y3,n,hl,by simpa using hf 0 f0 rfl,by simpa using hf 1 f1 rfl,by simpa using hf 2 f2 rfl,by simpa using hf 3 f3 rfl⟩
theorem trod_struct6 {t:TypeId} {f0 f1 f2 f3 f4 f5:Field} {fuel:Nat} {cs:List Value} {x:DataW H × List MemPlace} (ht:P.underlying t = some (.struct #[f0,f1,f2,f3,f4,f5])) (h:DataW.trod enc P W 0 (fun _=>true) true fuel t cs = some x) :
  ∃ y0 y1 y2 y3 y4 y5 n,cs.length = P.cellsOf t∧DataW.trod enc P W 0 (fun _=>true) true n f0.type ((cs.drop f0.offset).take (P.cellsOf f0.type)) = some y0∧DataW.trod enc P W 0 (fun _=>true) true n f1.type ((cs.drop f1.offset).take (P.cellsOf f1.type)) = some y1 ∧
   DataW.trod enc P W 0 (fun _=>true) true n f2.type ((cs.drop f2.offset).take (P.cellsOf f2.type)) = some y2∧DataW.trod enc P W 0 (fun _=>true) true n f3.type ((cs.drop f3.offset).take (P.cellsOf f3.type)) = some y3 ∧
   DataW.trod enc P W 0 (fun _=>true) true n f4.type ((cs.drop f4.offset).take (P.cellsOf f4.type)) = some y4∧DataW.trod enc P W 0 (fun _=>true) true n f5.type ((cs.drop f5.offset).take (P.cellsOf f5.type)) = some y5:=by
 obtain ⟨xs,n,_,rfl,hl,hlen,hf⟩:=DataW.trod_struct ht h
 match xs,hlen with
 | [y0,y1,y2,y3,y4,y5],_=>exact ⟨y0,y1,y2,y3,y4,y5,n,hl,by simpa using hf 0 f0 rfl,by simpa using hf 1 f1 rfl,by simpa using hf 2 f2 rfl,by simpa using hf 3 f3 rfl,by simpa using hf 4 f4 rfl,by simpa using hf 5 f5 rfl⟩
end
section
variable {H:Type} {enc:TypeId × Value→H} {W:World}
theorem trod_until {n:Nat} {cs:List Value} {y:DataW H × List MemPlace} (h:DataW.trod enc Tryz.prog W 0 (fun _=>true) true n 40 cs = some y):∃ a b c d e f g:Int,cs = [.int .i64 a,.int .i64 b,.int .i64 c,.int .i64 d,.int .i64 e,.int .i64 f,.int .i64 g]:=by
 obtain ⟨y0,y1,y2,y3,k,hl,h0,h1,h2,h3⟩:=trod_struct4 Tryz.underlying40 h
 rw [show Tryz.prog.cellsOf 40 = 7 by kernel_rfl] at hl
 obtain ⟨a,e0,_,_⟩:=DataW.trod_int Tryz.underlying3 h0
 obtain ⟨b,e1,_,_⟩:=DataW.trod_int Tryz.underlying3 h1
 obtain ⟨dk,dw,dn,e2⟩:=trod_day h2
 obtain ⟨sc,kd,e3⟩:=trod_clock h3
 match cs,hl with
 | [v0,v1,v2,v3,v4,v5,v6],_ =>
   rw [show Tryz.prog.cellsOf 3 = 1 by kernel_rfl] at e0 e1
   rw [show Tryz.prog.cellsOf 36 = 3 by kernel_rfl] at e2
   rw [show Tryz.prog.cellsOf 38 = 2 by kernel_rfl] at e3
   simp at e0 e1 e2 e3
   obtain ⟨rfl,rfl,rfl⟩:=e2
   obtain ⟨rfl,rfl⟩:=e3
   subst e0 e1
   exact ⟨a,b,dk,dw,dn,sc,kd,rfl⟩
theorem trod_era {n:Nat} {cs:List Value} {y:DataW H × List MemPlace} (h:DataW.trod enc Tryz.prog W 0 (fun _=>true) true n 42 cs = some y) :
  ∃ (e:EraN) (ru f:ByteArray) (en:Bool),cs = [.int .i64 e.off,.string ru,.int .i64 e.save,.string f,.bool en,.int .i64 e.year,.int .i64 e.month,.int .i64 e.dk,.int .i64 e.dw,.int .i64 e.dn,.int .i64 e.sec,.int .i64 e.ak] ∧
   (-9223372036854775808 ≤ e.off∧e.off ≤ 9223372036854775807)∧(-9223372036854775808 ≤ e.save∧e.save ≤ 9223372036854775807):=by
 obtain ⟨y0,y1,y2,y3,y4,y5,k,hl,h0,h1,h2,h3,h4,h5⟩:=trod_struct6 Tryz.underlying42 h
 rw [show Tryz.prog.cellsOf 42 = 12 by kernel_rfl] at hl
 obtain ⟨off,e0,_,w0⟩:=DataW.trod_int Tryz.underlying3 h0
 obtain ⟨ru,e1,_,_⟩:=DataW.trod_string Tryz.underlying9 h1
 obtain ⟨sv,e2,_,w2⟩:=DataW.trod_int Tryz.underlying3 h2
 obtain ⟨f,e3,_,_⟩:=DataW.trod_string Tryz.underlying9 h3
 obtain ⟨en,e4,_⟩:=DataW.trod_bool Tryz.underlying4 h4
 obtain ⟨yr,mo,dk,dw,dn,sc,kd,e5⟩:=trod_until h5
 match cs,hl with
 | [v0,v1,v2,v3,v4,v5,v6,v7,v8,v9,v10,v11],_ =>
   rw [show Tryz.prog.cellsOf 3 = 1 by kernel_rfl] at e0 e2
   rw [show Tryz.prog.cellsOf 9 = 1 by kernel_rfl] at e1 e3
   rw [show Tryz.prog.cellsOf 4 = 1 by kernel_rfl] at e4
   rw [show Tryz.prog.cellsOf 40 = 7 by kernel_rfl] at e5
   simp at e0 e1 e2 e3 e4 e5
   obtain ⟨rfl,rfl,rfl,rfl,rfl,rfl,rfl⟩:=e5
   subst e0 e1 e2 e3 e4
   exact ⟨⟨off,sv,yr,mo,dk,dw,dn,sc,kd⟩,ru,f,en,rfl,wf_i64 w0,wf_i64 w2⟩
end
end
section -- AOpenW
open Go Go.ChangeShapes Go.WideShapes Go.ChangeAt Go.RowKit Go.Deep
section
variable {H:Type} {enc:TypeId × Value→H} {P:Program} {W:World}
def Light (P:Program) (t:TypeId) (d:DataW H):Prop:=∀ k ∈ d.weights P t,k ≤ 140737488351232
theorem weightsAll_mem {e:TypeId}:∀ {l:List (DataW H)} {d:DataW H},d ∈ l→∀ k ∈ d.weights P e,k ∈ DataW.weightsAll P e l
 | x :: l,d,h,k,hk=>by
   simp only [DataW.weightsAll,List.mem_append]
   rcases List.mem_cons.1 h with rfl | h
   ·exact .inl hk
   ·exact .inr (weightsAll_mem h k hk)
theorem Light.elem {T E:TypeId} {a b:List (DataW H)} (hT:P.underlying T = some (.slice E)) (h:Light P T (.slice a b)) {d:DataW H} (hd:d ∈ a):Light P E d:=fun k hk=>by
 refine h k ?_
 simp only [DataW.weights,hT,List.mem_cons,List.mem_append]
 exact .inr (.inl (weightsAll_mem hd k hk))
theorem Light.part {T:TypeId} {fs:Array Field} {l:List (DataW H)} (hT:P.underlying T = some (.struct fs)) (h:Light P T (.agg l)) {i:Nat} {t:TypeId} {d:DataW H} (ht:(fs.toList.map (·.type))[i]? = some t) (hd:l[i]? = some d):Light P t d:=fun k hk=>by
 refine h k ?_
 simp only [DataW.weights,hT]
 exact DataW.weights_mem_each ht hd k hk
theorem Light.str {t:TypeId} {s:List UInt8} (h:Light P t (DataW.lit (H:=H) (.string s))):s.length ≤ 140737488351232:=h _ (by simp [DataW.weights])
theorem open_listW {α:Type} [Inhabited α] (f:α→List Value) (Pr:α→Prop) {T E:TypeId} {C:Nat} (hT:P.underlying T = some (.slice E)) (hC:P.cellsOf E = C) (h0:0 < C)
  (hel:∀ (n:Nat) (cs:List Value) (y:DataW H × List MemPlace),cs.length = C→DataW.trod enc P W 0 (fun _=>true) true n E cs = some y→Light P E y.1→∃ a,cs = f a∧Pr a)
  {n:Nat} {cs:List Value} {x:DataW H × List MemPlace} (h:DataW.trod enc P W 0 (fun _=>true) true n T cs = some x) (hw:Light P T x.1):∃ (v:Value) (l:List α),cs = [v]∧Sl W W.heap.size C v l.length (l.flatMap f)∧∀ a ∈ l,Pr a∧(f a).length = C:=by
 rcases open_slice hT h with ⟨rfl,_⟩ | ⟨a,len,cap,m,k,D,Pl,rfl,_,hl,hm,hmm,rfl,hx⟩
 ·exact ⟨_,[],rfl,Sl.nil _ _ _,fun a h=>by cases h⟩
 ·simp only [if_true] at hmm
  subst hmm
  have hD:∀ i,i < len→Light P E (D i):=fun i hi=>Light.elem hT hw (List.mem_map.2 ⟨i,List.mem_range.2 hi,rfl⟩)
  have each:∀ i,∃ q:α,i < len→W.cells? 0 (a.add (i * C)) C = some (f q)∧Pr q∧(f q).length = C:=fun i=>by
   by_cases hi:i < len
   ·obtain ⟨cs',h1,h2⟩:=hx i (by omega)
    rw [hC] at h1
    obtain ⟨_,hlen,_⟩:=World.cells?_some h1
    obtain ⟨q,rfl,hq⟩:=hel _ _ _ hlen h2 (hD i hi)
    exact ⟨q,fun _=>⟨h1,hq,hlen⟩⟩
   ·exact ⟨default,fun h=>absurd h hi⟩
  obtain ⟨Q,hQ⟩:=Classical.axiomOfChoice each
  have hlen:((List.range len).map Q).length = len:=by simp
  have hfl:∀ b ∈ (List.range len).map Q,Pr b∧(f b).length = C:=fun b hb=>by
   obtain ⟨i,hi,rfl⟩:=List.mem_map.1 hb
   exact ⟨(hQ i (List.mem_range.1 hi)).2.1,(hQ i (List.mem_range.1 hi)).2.2⟩
  refine ⟨_,(List.range len).map Q,rfl,?_,hfl⟩
  have hfl2:=flat_len f C _ (fun b hb=>(hfl b hb).2)
  rw [hlen] at hfl2 ⊢
  refine ⟨_,_,rfl,hl,hm,hfl2,fun hp=>?_⟩
  obtain ⟨b,o,spot⟩:=a
  obtain ⟨_,_,hc0⟩:=World.cells?_some (hQ 0 hp).1
  have h00:=hc0 0 h0
  rw [List.getElem?_eq_getElem (by rw [(hQ 0 hp).2.2];exact h0)] at h00
  have hspot:spot = none:=by simpa [Addr.add] using World.cell?_spot h00
  subst hspot
  refine ⟨b,o,rfl,?_,fun j u hu=>?_⟩
  ·have:=World.block_lt_of_cell? W _ h00
   simpa [Addr.add_lit] using this
  ·have hj:j < len * C:=by
    have:=(List.getElem?_eq_some_iff.1 hu).1
    rwa [hfl2] at this
   have hd:j / C < len:=Nat.div_lt_of_lt_mul (by rw [Nat.mul_comm];exact hj)
   have hr:j % C < C:=Nat.mod_lt _ h0
   have he:j = j / C * C + j % C:=by rw [Nat.mul_comm];exact (Nat.div_add_mod j C).symm
   obtain ⟨_,hll,hcc⟩:=World.cells?_some (hQ (j / C) hd).1
   have hc:=hcc (j % C) hr
   rw [he,flat_at f C _ (fun b hb=>(hfl b hb).2) _ _ (by rw [hlen];exact hd) hr] at hu
   simp only [List.getElem_map,List.getElem_range] at hu
   rw [he]
   have e2:(some u:Option Value) = some ((f (Q (j / C)))[j % C]'(by omega)):=by rw [← hu];exact List.getElem?_eq_getElem _
   rw [Option.some.inj e2,← List.getElem?_eq_getElem]
   simpa [Addr.add_lit,Nat.add_assoc] using hc
end
theorem ahead_in {l : List (String × DataW Unit)} {W : World} (hl : l.filter (fun x => x.1 == "meridian/civil.ahead") = [("meridian/civil.ahead", Rows.laid_meridian_civil_ahead)]) (h : laidMetH Tryz.prog l W) : Ahead W := ahead_of (by rw [← hl]; exact h.filter _)
theorem tab_in {W:World} (h:Ahead W):0 < W.heap.size:=World.block_lt_of_cell? W _ (h 0 (by decide))
section
variable {H:Type} {enc:TypeId × Value→H} {W:World}
theorem trod_rulW {n:Nat} {cs:List Value} {y:DataW H × List MemPlace} (h:DataW.trod enc Tryz.prog W 0 (fun _=>true) true n 106 cs = some y) (hw:Light Tryz.prog 106 y.1):∃ r:Rul,cs = rulV r∧r.letter.size ≤ 140737488351232:=by
 obtain ⟨r,rfl,-⟩:=trod_rul h
 refine ⟨r,rfl,?_⟩
 obtain ⟨xs,m,_,rfl,hl,hlen,hf⟩:=DataW.trod_struct Tryz.underlying106 h
 match xs,hlen with
 | [y0,y1,y2,y3,y4,y5,y6,y7],_ =>
   have h7:=hf 7 _ rfl
   obtain ⟨s,e7,e8,-⟩:=DataW.trod_string Tryz.underlying9 h7
   have h9:r.letter = s:=by
    have e9:([.string r.letter]:List Value) = [.string s]:=e7
    injection e9 with e9
    injection e9
   have h10:=Light.part Tryz.underlying106 hw (i:=7) (t:=9) (d:=y7.1) rfl rfl
   rw [e8] at h10
   have h11:=h10.str
   rw [h9,Lib.size_eq]
   exact h11
theorem trod_eraW {n:Nat} {cs:List Value} {y:DataW H × List MemPlace} (h:DataW.trod enc Tryz.prog W 0 (fun _=>true) true n 42 cs = some y) (hw:Light Tryz.prog 42 y.1):∃ x:EraF,cs = x.cells∧x.fm.size ≤ 140737488351232:=by
 obtain ⟨e,ru,f,en,rfl,-,-⟩:=trod_era h
 refine ⟨⟨e,ru,f,en⟩,rfl,?_⟩
 obtain ⟨xs,m,_,rfl,hl,hlen,hf⟩:=DataW.trod_struct Tryz.underlying42 h
 match xs,hlen with
 | [y0,y1,y2,y3,y4,y5],_ =>
   have h7:=hf 3 _ rfl
   obtain ⟨s,e7,e8,-⟩:=DataW.trod_string Tryz.underlying9 h7
   have h9:f = s:=by
    have e9:([.string f]:List Value) = [.string s]:=e7
    injection e9 with e9
    injection e9
   have h10:=Light.part Tryz.underlying42 hw (i:=3) (t:=9) (d:=y3.1) rfl rfl
   rw [e8] at h10
   have h11:=h10.str
   show f.size ≤ _
   rw [h9,Lib.size_eq]
   exact h11
theorem trod_setW {n:Nat} {cs:List Value} {y:DataW H × List MemPlace} (h:DataW.trod enc Tryz.prog W 0 (fun _=>true) true n 95 cs = some y) (hw:Light Tryz.prog 95 y.1):∃ s:SetF,cs = s.cells∧(Ruls W W.heap.size s.v s.l∧letOk s.l):=by
 obtain ⟨xs,m,_,rfl,hl,hlen,hf⟩:=DataW.trod_struct Tryz.underlying95 h
 match xs,hlen with
 | [y0,y1],_ =>
   obtain ⟨s,e0,_,-⟩:=DataW.trod_string Tryz.underlying9 (hf 0 _ rfl)
   have h1:=hf 1 _ rfl
   have h10:=Light.part Tryz.underlying95 hw (i:=1) (t:=52) (d:=y1.1) rfl rfl
   obtain ⟨v,l,e1,hs,hl2⟩:=open_listW (C:=11) rulV (fun r=>r.letter.size ≤ 140737488351232) Tryz.underlying52 (by kernel_rfl) (by decide) (fun n cs y _ hy hw=>trod_rulW hy hw) h1 h10
   rw [show Tryz.prog.cellsOf 95 = 2 by kernel_rfl] at hl
   match cs,hl with
   | [v0,v1],_ =>
     have e2:([v0]:List Value) = [.string s]:=e0
     have e3:([v1]:List Value) = [v]:=e1
     injection e2 with e2
     injection e3 with e3
     subst e2 e3
     exact ⟨⟨s,v1,l⟩,rfl,hs,fun r hr=>(hl2 r hr).1⟩
theorem open_world {r:Reach} {base:Nat} {v:Value} {d:DataW H} {p:List MemPlace} (hok:Value.okWide Tryz.prog W r base 27 v) (h:DataW.Trod enc Tryz.prog W 0 (fun _=>true) true 27 v d p) (hw:Light Tryz.prog 27 d) :
  ∃ (zn:ByteArray) (ev sv:Value) (l:List EraF) (S:List SetF),v = worldA zn ev sv∧ErasR W W.heap.size ev l∧SetsR W W.heap.size sv S∧(∀ x ∈ l,x.fm.size < 1152921504606846976)∧∀ s ∈ S,letOk s.l:=by
 have hu:Tryz.prog.underlying 27 = _:=Tryz.underlying27
 simp only [Value.okWide,hu] at hok
 obtain ⟨cs,rfl,hsz,_⟩:=hok
 obtain ⟨fuel,hg⟩:=h
 obtain ⟨xs,m,_,e0,hl,hlen,hf⟩:=DataW.trod_struct Tryz.underlying27 hg
 clear hg
 match xs,hlen with
 | [y0,y1],_ =>
   injection e0 with e0 e00
   subst e0
   have h0:=hf 0 _ rfl
   have h1:=hf 1 _ rfl
   have w0:=Light.part Tryz.underlying27 hw (i:=0) (t:=24) (d:=y0.1) rfl rfl
   have w1:=Light.part Tryz.underlying27 hw (i:=1) (t:=25) (d:=y1.1) rfl rfl
   obtain ⟨sv,S,e1,hs,hs2⟩:=open_listW (C:=2) SetF.cells (fun s=>Ruls W W.heap.size s.v s.l∧letOk s.l) Tryz.underlying25 (by kernel_rfl) (by decide) (fun n cs y _ hy hw=>trod_setW hy hw) h1 w1
   obtain ⟨zs,m2,_,e2,hl2,hlen2,hf2⟩:=DataW.trod_struct Tryz.underlying24 h0
   match zs,hlen2 with
   | [z0,z1],_ =>
     rw [e2] at w0
     obtain ⟨zn,e3,_,-⟩:=DataW.trod_string Tryz.underlying9 (hf2 0 _ rfl)
     have w2:=Light.part Tryz.underlying24 w0 (i:=1) (t:=22) (d:=z1.1) rfl rfl
     obtain ⟨ev,l,e4,he,he2⟩:=open_listW (C:=12) EraF.cells (fun x=>x.fm.size ≤ 140737488351232) Tryz.underlying22 (by kernel_rfl) (by decide) (fun n cs y _ hy hw=>trod_eraW hy hw) (hf2 1 _ rfl) w2
     rw [show Tryz.prog.cellsOf 27 = 3 by kernel_rfl] at hl
     obtain ⟨c⟩:=cs
     simp only [Value.cells] at hl
     match c,hl with
     | [v0,v1,v2],_ =>
       have q0:([v0]:List Value) = [.string zn]:=e3
       have q1:([v1]:List Value) = [ev]:=e4
       have q2:([v2]:List Value) = [sv]:=e1
       injection q0 with q0
       injection q1 with q1
       injection q2 with q2
       subst q0 q1 q2
       exact ⟨zn,v1,v2,l,S,rfl,he,⟨hs,fun s hs3=>(hs2 s hs3).1.1⟩,fun x hx=>by have:=(he2 x hx).1;omega,fun s hs3=>(hs2 s hs3).1.2⟩
end
end
end Go.Proofs.YteekjfgjmccdnaaGreatDoor
section -- RowTableMakes
namespace Go.Proofs.YteekjfgjmccdnaaGreatDoor.tableMakes
open Go.ChangeShapes Go.WideShapes Go.ChangeAt Go.RowKit
open Go.ChangeMaps (open_string shut_string)
set_option linter.unusedVariables false
theorem own:ownKnob Tryz.prog.godebug = none:=by kernel_rfl
theorem laidOut:laidOutB Tryz.prog = true:=by kernel_rfl
theorem contract (H:Type) (enc:TypeId × Value→H) (W:World) (base:Nat) (args:Array Value) (ds gs:List (DataW H)) (before:List MemPlace)
  (hval:∀ (j:Nat) t v,Tryz.f10.params[j]? = some t→args[j]? = some v→Value.okWide Tryz.prog W .any base t v)
  (hW:DataW.Whole enc Tryz.prog Tryz.f10.params.toList Rows.tableMakesSpec.vars false W args.toList ds gs before) (hwt:(DataW.weightsEach Tryz.prog (Tryz.f10.params.toList ++ (OpenSpec.ofChange Rows.tableMakesSpec).bare.plain.varTypes Tryz.prog) (ds ++ gs)).all (· ≤ reachBytes) = true) (hL:laidMetH Tryz.prog Rows.tableMakesRow.laid W) (hsh:W.ShapedOpen Tryz.prog) :
  Calls Tryz.prog 10 args W fun e W'=>∃ v,e = .returned v∧Rows.tableMakesSpec.post enc Tryz.prog Tryz.f10 false true false false W args v W':=by
 have hW':=hW
 obtain ⟨p,q,hA0,hV,rfl,hfz,hnd⟩:=hW
 have hA:DataW.TrodAll enc Tryz.prog W 0 (fun _=>true) true Tryz.f10.params.toList args.toList ds p:=hA0
 rw [Tryz.params10] at hA hval
 obtain ⟨v0,vs0,d0,ds0,p0,q0,hargs,rfl,rfl,h0,r0⟩:=trodAll_cons hA
 obtain ⟨v1,vs1,d1,ds1,p1,q1,rfl,rfl,rfl,h1,r1⟩:=trodAll_cons r0
 obtain ⟨rfl,rfl,rfl⟩:=trodAll_nil r1
 obtain rfl:args = #[v0,v1]:=by cases args;simp_all
 obtain ⟨rfl,rfl⟩:=trodVars_none hV
 have k0:=h0
 have lt0:∀ x ∈ p0,x.block < W.heap.size:=by obtain ⟨m,hm⟩:=k0;exact DataW.trod_lt m _ _ _ hm
 have lw0:Light Tryz.prog 27 d0:=fun k hk=>by have:=List.all_eq_true.1 hwt k (DataW.weights_mem_each (j:=0) (t:=27) (d:=d0) rfl rfl k hk);exact of_decide_eq_true this
 obtain ⟨zn0,ev0,sv0,l0,s0,rfl,he0,hs0,hf0,ht0⟩:=open_world (hval 0 27 v0 rfl rfl) h0 lw0
 have k1:=h1
 have lt1:∀ x ∈ p1,x.block < W.heap.size:=by obtain ⟨m,hm⟩:=k1;exact DataW.trod_lt m _ _ _ hm
 obtain ⟨a1,b1,rfl,w1,u1⟩:=open_int2 Tryz.underlying80 Tryz.underlying3 (by kernel_rfl) (by kernel_rfl) (hval 1 80 v1 rfl rfl) h1
 clear hA0
 refine (makes_walk W zn0 ev0 sv0 l0 s0 a1 b1 he0 hs0 hf0 ht0 w1 u1 (ahead_in (by kernel_rfl) hL) (tab_in (ahead_in (by kernel_rfl) hL)) (Tryz.maxL_of hsh)).mono fun e W' ⟨he,bel⟩=>?_
 subst he
 exact ⟨_,rfl,_,_,_,[],_,[],hW',trodAll_mk1 (shut_bool Tryz.underlying4 _),(trodAll_cons_mk (Below.trod laidOut (by kernel_rfl) (of_decide_eq_true (by kernel_rfl)) k0 bel lt0) (trodAll_cons_mk (Below.trod laidOut (by kernel_rfl) (of_decide_eq_true (by kernel_rfl)) k1 bel lt1) trodAll_mk0)),rfl,bel.frame _,fun h=>by cases h⟩
noncomputable def laidWorld (os:Os):World :=
 World.laidAll Tryz.prog os Rows.tableMakesRow.laid
theorem laid_met (os:Os):laidMet Tryz.prog Rows.tableMakesRow.laid ((laidWorld os).forCall (fun _ _=>0) ⟨#[],#[.agg #[.string ⟨#[]⟩,.slice none 0 0,.slice none 0 0],.agg #[.int .i64 0,.int .i64 0]],[]⟩).memory :=
 laidMet_laidAll _ (by kernel_rfl) (by kernel_rfl)
theorem reads (os:Os) {H:Type} (enc:TypeId × Value→H):∃ places,DataW.whole enc Tryz.prog ((laidWorld os).forCall (fun _ _=>0) ⟨#[],#[.agg #[.string ⟨#[]⟩,.slice none 0 0,.slice none 0 0],.agg #[.int .i64 0,.int .i64 0]],[]⟩).memory Tryz.f10.params.toList Rows.tableMakesSpec.vars false (#[.agg #[.string ⟨#[]⟩,.slice none 0 0,.slice none 0 0],.agg #[.int .i64 0,.int .i64 0]]:Array Value).toList 8 = some ([.agg [.agg [.lit (.string []),.nil],.nil],.agg [.lit (.int .i64 0),.lit (.int .i64 0)]],[],places) :=
 ⟨[],by kernel_rfl⟩
theorem lifted (os:Os) (started:os.Started) (H:Type) (enc:TypeId × Value→H) (F:Stop.Interp) :
  ReturnsInHanded {} Tryz.checked os 10 .any ((OpenSpec.ofChange Rows.tableMakesSpec).preRow enc Tryz.prog Tryz.f10 Rows.tableMakesRow.domain false Rows.tableMakesRow.laid) (((OpenSpec.ofChange Rows.tableMakesSpec).at F).post enc Tryz.prog Tryz.f10 false true false false):=by
 obtain ⟨places,hx⟩:=reads os enc
 refine returnsInHanded_of_row (C:=Tryz.checked) (s:=OpenSpec.ofChange Rows.tableMakesSpec) own started (by kernel_rfl) Tryz.func10
  (witness_row_at (enc:=enc) (C:=Tryz.checked) false (laidWorld os) #[.agg #[.string ⟨#[]⟩,.slice none 0 0,.slice none 0 0],.agg #[.int .i64 0,.int .i64 0]] (World.laidAll_os _ _ _) (by kernel_rfl) (by kernel_rfl) (by kernel_rfl)
    (OpenSpec.preRow_of_cond 8 hx (by kernel_rfl) (fun k hk=>by cases hk) (by kernel_rfl) (laid_met os))) ?_
 intro W base args ds gs before hval hW _ _ hwt hL hsh _
 exact contract H enc W base args ds gs before hval hW hwt hL hsh
theorem said:Rows.TableMakesSaid :=
 OpenClaim.holds_of_cond 10 Tryz.f10 rfl rfl rfl rfl rfl rfl rfl ⟨rfl,rfl,rfl,rfl,rfl⟩ rfl rfl rfl rfl rfl (by kernel_rfl) Tryz.func10 (by kernel_rfl)
  (of_decide_eq_true (by kernel_rfl)) (by unfold Func.isWrapper;first | (rw [if_pos (by decide +kernel)];kernel_rfl) | (rw [if_neg (by decide +kernel)];exact ⟨rfl,rfl⟩))
  (fun os started H enc _ F=>by rw [OpenClaim.pre_eq_preRow];exact lifted os started H enc F)
theorem plain (f : FuncId) (fn : Func) (hf : Tryz.pinned.checked.prog.funcNamed "meridian/meridianlaw14.TableMakes" = some f) (hfn : Tryz.pinned.checked.prog.funcs[f]? = some fn) :
  false = Tryz.pinned.checked.prog.looks []∧∀ (j:Nat) t,fn.params[j]? = some t→Tryz.pinned.checked.prog.wantsStandIn t = false:=by
 obtain rfl : f = 10 := Option.some.inj ((show Tryz.prog.funcNamed "meridian/meridianlaw14.TableMakes" = some 10 by kernel_rfl).symm.trans hf) |>.symm
 obtain rfl:fn = Tryz.f10:=(Option.some.inj (Tryz.func10.symm.trans hfn)).symm
 refine ⟨by kernel_rfl,fun j t ht=>?_⟩
 rw [Tryz.params10] at ht
 have hall:∀ t ∈ [27,80],Tryz.prog.wantsStandIn t = false:=by
  intro t ht
  simp only [List.mem_cons,List.not_mem_nil,or_false] at ht
  rcases ht with rfl | rfl
  all_goals kernel_rfl
 exact hall t (by simpa using Array.mem_of_getElem? ht)
theorem card:Rows.TableMakesCardSaid :=
 Claim7.holds_tied_plain_at .later [] _ _ _ _ said (fun _ h=>by cases h) (by kernel_rfl) (fun _ h=>by cases h) tableMakes_row_tie rfl ⟨rfl,rfl⟩ (by kernel_rfl) rfl plain (by kernel_rfl)
#print axioms card
end Go.Proofs.YteekjfgjmccdnaaGreatDoor.tableMakes
end