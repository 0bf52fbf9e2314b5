/-
  The law ZoneUnivs of package meridianlaw13 holds: for every input the call returns true, and each argument reads afterwards as it read before.
  Conditions: what is read is of bulk at most 2^20; none else beyond the row's own (the listed package-level variables read as the row lists them; the card ties that to the text).
-/
import Derived.Deep.MidRow
import Derived.Test.YteekjfgjmccdnaaGreatDoorChecked
import Derived.Test.YteekjfgjmccdnaaGreatDoorRows
import Derived.Lib.LaidTab
import Derived.SizedLaws
import Derived.LaidSub
import Derived.Test.YteekjfgjmccdnaaGreatDoorCards
import Derived.Test.YteekjfgjmccdnaaGreatDoorTie
import Derived.Deep.DeepHandedRow
import Derived.Lay
import Derived.Test.YteekjfgjmccdnaaGreatDoorZu8
set_option maxHeartbeats 16000000
set_option maxRecDepth 100000
namespace Go.Proofs.YteekjfgjmccdnaaGreatDoor
section -- VUnivs
open Go Go.RowKit Go.Shelf
attribute [local go_sem] Oper.semAt_some
def eraZ:Value:=.agg #[.int .i64 0,.string ⟨#[]⟩,.int .i64 0,.string ⟨#[]⟩,.bool false,.int .i64 0,.int .i64 0,.int .i64 0,.int .i64 0,.int .i64 0,.int .i64 0,.int .i64 0]
def eraBytes:Nat:=112
theorem infoEra:(Tryz.prog.info? 42).map (fun i=>(i.zero,i.size,i.bytes)) = some (some eraZ,12,eraBytes):=by kernel_rfl
theorem own_setV {w:World} {f:Nat} {e:TypeId} {sz n:Nat} {v:Value} {xs:List Value} (h:w.ownsRow (f + 1) e sz v n xs) (i:Nat) (u:Value):(w.setCell ⟨f,i,none⟩ u).ownsRow (f + 1) e sz v n xs:=by
 refine h.kept (row:=some f) ⟨rfl,rfl,rfl,by simp,fun j _ hr=>Below.heap_setCell w ⟨f,i,none⟩ u j (fun e=>hr (by rw [e]))⟩ ?_
 rcases hv:v.ownBlock with _ | g
 ·exact .inl rfl
 ·exact .inr fun e=>by cases e;have:=(h.lt _ hv).1;omega
theorem own_lowV {w:World} {base base':Nat} {e:TypeId} {sz n:Nat} {v:Value} {xs:List Value} (h:w.ownsRow base e sz v n xs) (hb:base' ≤ base):w.ownsRow base' e sz v n xs:=by
 obtain ⟨h1,h2⟩:=h
 refine ⟨h1,h2.imp id ?_⟩
 rintro ⟨g,cap,cur,e1,e2,e3⟩
 exact ⟨g,cap,cur,e1,Nat.le_trans hb e2,e3⟩
def univK (E:List Int) (l:List EraF) (k:Nat):List EraF:=(List.range k).map (univX E l)
theorem univK_next (E:List Int) (l:List EraF) (k:Nat):univK E l (k + 1) = univK E l k ++ [univX E l k]:=by unfold univK;rw [List.range_succ,List.map_append];rfl
def untV (y m d s:Int):Array Value:=#[.int .i64 y,.int .i64 m,.int .i64 0,.int .i64 0,.int .i64 d,.int .i64 s,.int .i64 2]
theorem blk_until {W:World} {X:Nat} {n:EraN} {ru fm:ByteArray} {en:Bool} (h:Blk W X 42 (eraC n ru fm en)) (y m d s:Int) :
  W.there X 5 7∧Blk (W.setCells X 5 (untV y m d s).toList) X 42 (eraC { n with year:=y,month:=m,dk:=0,dw:=0,dn:=d,sec:=s,ak:=2 } ru fm en)∧∀ (B:Nat) (w0:World),Below B w0 W→B ≤ X→Below B w0 (W.setCells X 5 (untV y m d s).toList):=by
 refine ⟨fun j hj=>?_,?_,fun B w0 hb hB=>?_⟩
 ·refine ⟨?_,h.frozen _⟩
  have hl:5 + j < (eraC n ru fm en).size:=by show 5 + j < 12;omega
  rw [h.cell (5 + j) (v:=(eraC n ru fm en)[5 + j]) (Array.getElem?_eq_getElem hl)]
  rfl
 ·have h2:=((((((h.set 5 (.int .i64 y)).set 6 (.int .i64 m)).set 7 (.int .i64 0)).set 8 (.int .i64 0)).set 9 (.int .i64 d)).set 10 (.int .i64 s)).set 11 (.int .i64 2)
  unfold eraC at h2 ⊢
  simp only [List.setIfInBounds_toArray,List.set_cons_zero,List.set_cons_succ] at h2
  simp only [untV,World.setCells]
  exact h2
 ·simp only [untV,World.setCells]
  exact (((((((hb.setCell hB (p:=⟨X,5,none⟩) (.int .i64 y)).setCell hB (p:=⟨X,6,none⟩) (.int .i64 m)).setCell hB (p:=⟨X,7,none⟩) (.int .i64 0)).setCell hB (p:=⟨X,8,none⟩) (.int .i64 0)).setCell hB (p:=⟨X,9,none⟩) (.int .i64 d)).setCell hB (p:=⟨X,10,none⟩) (.int .i64 s)).setCell hB (p:=⟨X,11,none⟩) (.int .i64 2))
theorem univs_walk (w:World) (zn:ByteArray) (ev sv:Value) (l:List EraF) (S:List SetF) (vl:Value) (L:List Int) (he:ErasR w w.heap.size ev l) (hs:SetsR w w.heap.size sv S) (hfm:∀ x ∈ l,x.fm.size < 4294967281) (hlet:(∀ s ∈ S,letOk s.l)∧(∀ s ∈ S,numsR s.l)∧l.length ≤ 1300000000000)
  (hL:Nums w w.heap.size vl L) (ha:Ahead w) (htab:0 < w.heap.size) (hm:Tryz.MaxL w) :
  Calls Tryz.prog 3 #[worldA zn ev sv,vl] w fun o w'=>o = .returned (.bool true)∧Below w.heap.size w w':=by
 obtain ⟨A,cA,rfl,hlc,hcm⟩:=he.form
 obtain ⟨A2,cS,rfl,hlc2,hcm2⟩:=hs.form
 obtain ⟨A3,cL,rfl,hlc3,hcm3⟩:=hL.form
 unfold maxLen at hcm hcm2 hcm3
 obtain ⟨W0,hW0⟩:∃ W,w.alloc (.cells #[.string zn,.slice A l.length cA,.slice A2 S.length cS] 27) = W:=⟨_,rfl⟩
 have hb0:Below w.heap.size w W0:=by
  rw [← hW0]
  exact (Below.refl w.heap.size w).alloc (Nat.le_refl _) _
 have hxx:Blk W0 w.heap.size 27 #[.string zn,.slice A l.length cA,.slice A2 S.length cS]:=by
  rw [← hW0]
  exact Blk.new w _ _
 have HF:=Lib.hid (fun (W:World) (h:Below W0.heap.size W0 W)=>few_any W zn _ _ w.heap.size l S ((he.below hb0).below (h.mono hb0.size)) ((hs.below hb0).below (h.mono hb0.size)) (Nat.le_trans hb0.size h.size) (fun x hx=>by have:=hfm x hx;omega))
 have HXX:=Lib.hid hxx
 have HZ0:=Lib.hid (ZW.mk (he.below hb0) (hs.below hb0) (ha.below hb0 (Nat.le_refl _)) htab (hm.below hb0 (Nat.le_refl _)) hb0.size)
 have HL0:=Lib.hid (hL.below hb0)
 have HB0:=Lib.hid hb0
 have HLET:=Lib.hid hlet.1
 have hll:l.length ≤ 1300000000000:=hlet.2.2
 have HNW:=Lib.hid (ZOkW.mk hfm hlet.2.1 hlet.2.2)
 clear hb0 hxx he hs hm hlet hfm ha hL
 have HW0:=Lib.hid hW0
 clear hW0
 cases hf:fewB l S with
 | false =>
   as_aux_lemma =>
    have HE:=Lib.hid (zends_tot zn zn _ (.slice A l.length cA) _ w.heap.size l S W0 HZ0.out HNW.out)
    rw [hf] at HF
    clear hf
    unfold EndsPostW setsV zoneA worldA at *
    go_enter Tryz.func3,Tryz.ntmps3
    go_wp2_with fail
    try rw [HW0.out]
    try simp only [HW0.out]
    clear HW0
    refine HE.out.mono ?_
    rintro o w1 ⟨⟨u5,rfl,-,-⟩,hb⟩
    have HB1:=Lib.hid hb
    clear hb HE
    have hxb:=HXX.out.below (HB1.out) HXX.out.lt
    have x0:=hxb.cell 0 (v:=.string zn) rfl
    have x1:=hxb.cell 1 (v:=.slice A l.length cA) rfl
    have x2:=hxb.cell 2 (v:=.slice A2 S.length cS) rfl
    have hxl:=hxb.lt
    clear hxb
    go_wp2_with fail
    refine (HF.out _ HB1.out).mono ?_
    rintro o w2 ⟨rfl,hb⟩
    have HB2:=Lib.hid (HB1.out.trans (hb.mono HB1.out.size))
    clear hb x0 x1 x2 hxl
    go_wp2_with fail
    refine (awake_any _ ((HZ0.out.below (HB2.out)).maxl)).mono ?_
    rintro o wz ⟨rfl,hbz⟩
    have hb9:=HB0.out.trans (((HB2.out).trans (hbz.mono (HB2.out).size)).mono HB0.out.size)
    clear hbz
    go_wp2_with fail
    go_ret
    exact ⟨rfl,hb9⟩
 | true =>
   have HFEW:=Lib.hid hf
   have hl4:l.length ≤ 4:=(fewB_iff.1 hf).2.2.1
   rw [hf] at HF
   clear hf
   have HE:=Lib.hid (zends_any zn _ _ w.heap.size l S W0 HZ0.out (few_okR HFEW.out))
   obtain ⟨E0,hE⟩:∃ e,errZ S l = e:=⟨_,rfl⟩
   unfold EndsPost setsV zoneA worldA at *
   rw [hE] at HE
   have HEE:=Lib.hid hE
   clear hE
   go_enter Tryz.func3,Tryz.ntmps3
   go_wp2_with fail
   try rw [HW0.out]
   try simp only [HW0.out]
   clear HW0
   refine HE.out.mono ?_
   rintro o w1 ⟨⟨u5,rfl,hown,-⟩,hb⟩
   have HB1:=Lib.hid hb
   have HOWN:=Lib.hid hown
   clear hb HE hown
   have hxb:=HXX.out.below (HB1.out) HXX.out.lt
   have x0:=hxb.cell 0 (v:=.string zn) rfl
   have x1:=hxb.cell 1 (v:=.slice A l.length cA) rfl
   have x2:=hxb.cell 2 (v:=.slice A2 S.length cS) rfl
   have hxl:=hxb.lt
   clear hxb
   by_cases h6:6 < L.length
   ·have hd:decide ((6:Int) < (L.length:Int)) = true:=decide_eq_true (by omega)
    clear h6
    as_aux_lemma =>
     go_wp2_with fail
     refine (HF.out _ HB1.out).mono ?_
     rintro o w2 ⟨rfl,hb⟩
     have HB2:=Lib.hid (HB1.out.trans (hb.mono HB1.out.size))
     clear hb x0 x1 x2 hxl
     go_wp2_with fail
     refine (awake_any _ ((HZ0.out.below (HB2.out)).maxl)).mono ?_
     rintro o wz ⟨rfl,hbz⟩
     have hb9:=HB0.out.trans (((HB2.out).trans (hbz.mono (HB2.out).size)).mono HB0.out.size)
     clear hbz
     go_wp2_with fail
     go_ret
     exact ⟨rfl,hb9⟩
   ·have hd:decide ((6:Int) < (L.length:Int)) = false:=decide_eq_false (by omega)
    have hL6:L.length ≤ 6:=by omega
    clear h6
    by_cases hE0:E0 = 0
    ·subst hE0
     have HFZ:=Lib.hid (FewZ.mk HEE.out HFEW.out)
     have hn1:=Sl.of_own (HOWN.out rfl)
     obtain ⟨A4,c4,e4,-,hc4⟩:=Nums.form (l:=endL S l) hn1
     subst e4
     have hpos:=HFZ.out.pos
     have hEl:(endL S l).length + 1 = l.length:=univ_len HFZ.out
     have HEU:=Lib.hid (univ_ends HFZ.out)
     have HEU0:=Lib.hid (univ_err HFZ.out)
     have HUAT:=Lib.hid (univ_at HFZ.out)
     have HUOK:=Lib.hid (univ_ok (few_okR HFEW.out) (endL S l))
     have HEND:=Lib.hid (HFZ.out.ends)
     obtain ⟨E,hE⟩:∃ e,endL S l = e:=⟨_,rfl⟩
     rw [hE] at hn1 hEl HEU HEU0 HUAT HUOK HEND ⊢
     have HN1:=Lib.hid hn1
     clear hE hn1 HOWN HFZ
     unfold maxLen at hc4
     go_wp2_with fail
     refine (HF.out _ HB1.out).mono ?_
     rintro o w2 ⟨rfl,hb⟩
     have HB2:=Lib.hid (HB1.out.trans (hb.mono HB1.out.size))
     have HN2:=Lib.hid (Nums.more (Nums.below (l:=E) HN1.out hb) hb.size)
     clear hb x0 x1 x2 hxl HF HN1 HB1
     have hxb:=HXX.out.below (HB2.out) HXX.out.lt
     have x0:=hxb.cell 0 (v:=.string zn) rfl
     have x1:=hxb.cell 1 (v:=.slice A l.length cA) rfl
     have x2:=hxb.cell 2 (v:=.slice A2 S.length cS) rfl
     have hxl:=hxb.lt
     clear hxb
     go_wp2_with fail
     obtain ⟨i0,hi,hz0,hz1,hz2⟩:=info_parts infoEra
     have hv4:=Blk.new w2 27 #[.string ⟨#[85]⟩,.slice none 0 0,.slice A2 S.length cS]
     go_loopw [8] (fun iv wr=>∃ (k:Nat) (u:Value),k ≤ l.length∧iv = .int .i64 k∧Blk wr w2.heap.size 27 #[.string ⟨#[85]⟩,u,.slice A2 S.length cS]∧wr.ownsRow (w2.heap.size + 1) 42 12 u k ((univK E l k).flatMap EraF.cells)∧Below w2.heap.size w2 wr) (fun iv _=>l.length - (intOf iv).toNat)
     case atStart=>exact ⟨0,.slice none 0 0,Nat.zero_le _,rfl,hv4,World.ownsRow_nil _ _ _ _,(Below.refl _ _).alloc (Nat.le_refl _) _⟩
     case round =>
      obtain ⟨k,u,hk,rfl,hvb,hown,hbw⟩:=hrel
      have HVB:=Lib.hid hvb
      have HOW:=Lib.hid hown
      have HBW:=Lib.hid hbw
      have HB3:=Lib.hid (HB2.out.trans (hbw.mono HB2.out.size))
      have hws:=hbw.size
      obtain ⟨A5,c5,hu,-,-⟩:=Sl.of_own hown
      subst hu
      have hxb:=HXX.out.below (HB3.out) HXX.out.lt
      have x0:=hxb.cell 0 (v:=.string zn) rfl
      have x1:=hxb.cell 1 (v:=.slice A l.length cA) rfl
      have x2:=hxb.cell 2 (v:=.slice A2 S.length cS) rfl
      have hxl:=hxb.lt
      clear hxb
      have v0:=hvb.cell 0 (v:=.string ⟨#[85]⟩) rfl
      have v1:=hvb.cell 1 (v:=.slice A5 k c5) rfl
      have v2:=hvb.cell 2 (v:=.slice A2 S.length cS) rfl
      have vf:=hvb.frozen 1
      have hvl:=hvb.lt
      clear hown hbw hvb
      by_cases hlt:k < l.length
      ·have hd:decide ((k:Int) < (l.length:Int)) = true:=decide_eq_true (by omega)
       obtain ⟨bb,o,c',e,hbb,hc⟩:=((HZ0.out.below HB3.out).eras).cells (by omega)
       cases e
       have hx:=hc k hlt
       have hbbl:bb < wr.heap.size:=by have:=HB3.out.size;have:=HB0.out.size;omega
       obtain ⟨x,hxk⟩:∃ x,l[k] = x:=⟨_,rfl⟩
       rw [hxk] at hx
       obtain ⟨c0,c1,c2,c3,c4,c5_,c6,c7,c8,c9,c10,c11⟩:=hx
       by_cases hke:k < E.length
       ·have hd2:decide ((k:Int) < (E.length:Int)) = true:=decide_eq_true (by omega)
        have HUX:=Lib.hid ((univX_cut hke hlt).trans (by rw [hxk]))
        obtain ⟨be,oe,ce,e,hbe,hce⟩:=Nums.cells (Nums.below HN2.out HBW.out) (by omega)
        cases e
        have n0:=hce k hke
        have hen:=HEND.out _ (List.getElem_mem hke)
        obtain ⟨s,hs⟩:∃ s,E[k] = s:=⟨_,rfl⟩
        rw [hs] at n0 hen HUX
        have HSP:=Lib.hid (fun (W:World) (h:Below wr.heap.size wr W)=>split_any s W (by omega) (by omega) ((HZ0.out.below HB3.out).ahead.below h (Nat.le_refl _)))
        have hx1:=Blk.new wr 42 #[.int .i64 x.n.off,.string x.ru,.int .i64 x.n.save,.string x.fm,.bool x.en,.int .i64 x.n.year,.int .i64 x.n.month,.int .i64 x.n.dk,.int .i64 x.n.dw,.int .i64 x.n.dn,.int .i64 x.n.sec,.int .i64 x.n.ak]
        have HX1:=Lib.hid hx1
        have hbx:=(Below.refl wr.heap.size wr).alloc (Nat.le_refl _) (.cells #[.int .i64 x.n.off,.string x.ru,.int .i64 x.n.save,.string x.fm,.bool x.en,.int .i64 x.n.year,.int .i64 x.n.month,.int .i64 x.n.dk,.int .i64 x.n.dw,.int .i64 x.n.dn,.int .i64 x.n.sec,.int .i64 x.n.ak] 42)
        have HBX:=Lib.hid hbx
        have hbew:be < wr.heap.size:=by omega
        unfold dateA at HSP
        unfold cutU at HUX
        obtain ⟨yy,hyy⟩:∃ y,ofYear (s / 86400) = y:=⟨_,rfl⟩
        obtain ⟨mm,hmm⟩:∃ y,ofMon (s / 86400) = y:=⟨_,rfl⟩
        obtain ⟨dd,hdd⟩:∃ y,ofDay (s / 86400) = y:=⟨_,rfl⟩
        obtain ⟨ss,hss⟩:∃ y,s - s / 86400 * 86400 = y:=⟨_,rfl⟩
        rw [hyy,hmm,hdd,hss] at HSP HUX
        clear hc hxk hx1 hbx hce hs hyy hmm hdd hss hen
        go_wp2_with fail
        refine (HSP.out _ HBX.out).mono ?_
        rintro o w5 ⟨rfl,hb5⟩
        have hx5:=(HX1.out.below hb5 HX1.out.lt).alloc (.cells #[.int .i64 yy,.int .i64 mm,.int .i64 dd] 44)
        have hbr:=(HBX.out.trans (hb5.mono HBX.out.size)).alloc (Nat.le_trans HBX.out.size hb5.size) (.cells #[.int .i64 yy,.int .i64 mm,.int .i64 dd] 44)
        have HU5:=Lib.hid (blk_until (n:=x.n) (ru:=x.ru) (fm:=x.fm) (en:=x.en) hx5 yy mm dd ss)
        have HBR:=Lib.hid hbr
        clear hx5 hbr hb5 x0 x1 x2 hxl c0 c1 c2 c3 c4 c5_ c6 c7 c8 c9 c10 c11 n0
        have hk6:k ≤ 1000000:=by omega
        go_wp2_with (first
         | (refine wpList_store_mid rfl _ _ _ rfl wr.heap.size 5 (untV yy mm dd ss) rfl rfl HU5.out.1 (by kernel_rfl) (by simp [untV,Value.oneCell']) ?_
            obtain ⟨-,hx7,hbf⟩:=HU5.out
            have hb7:=hbf _ _ HBR.out (Nat.le_refl _)
            generalize hw7:World.setCells _ _ _ _ = w7 at *
            have HX7:=Lib.hid hx7
            have HB7:=Lib.hid hb7
            have e0:=hx7.cell 0 (v:=.int .i64 x.n.off) rfl
            have e1:=hx7.cell 1 (v:=.string x.ru) rfl
            have e2:=hx7.cell 2 (v:=.int .i64 x.n.save) rfl
            have e3:=hx7.cell 3 (v:=.string x.fm) rfl
            have e4:=hx7.cell 4 (v:=.bool x.en) rfl
            have e5:=hx7.cell 5 (v:=.int .i64 yy) rfl
            have e6:=hx7.cell 6 (v:=.int .i64 mm) rfl
            have e7:=hx7.cell 7 (v:=.int .i64 0) rfl
            have e8:=hx7.cell 8 (v:=.int .i64 0) rfl
            have e9:=hx7.cell 9 (v:=.int .i64 dd) rfl
            have e10:=hx7.cell 10 (v:=.int .i64 ss) rfl
            have e11:=hx7.cell 11 (v:=.int .i64 2) rfl
            have hx7l:=hx7.lt
            have hv7:=HVB.out.below hb7 HVB.out.lt
            have HV7:=Lib.hid hv7
            have v0:=hv7.cell 0 (v:=.string ⟨#[85]⟩) rfl
            have v1:=hv7.cell 1 (v:=.slice A5 k c5) rfl
            have v2:=hv7.cell 2 (v:=.slice A2 S.length cS) rfl
            have hv7l:=hv7.lt
            have HO7:=Lib.hid (ownsRow_below HOW.out hb7)
            clear hx7 hbf hb7 hv7)
         | (at_builtin;go_loud (refine wpList_append_own _ rfl _ _ 22 rfl (w2.heap.size + 1) 42 i0 eraZ 12 eraBytes Tryz.underlying22 hi hz0 hz1 hz2 rfl (by decide) _ k _ rfl (HO7.out.alloc _) ⟨w7.heap.size,0,none⟩ 1 1 (EraF.cells ⟨{ x.n with year:=yy,month:=mm,dk:=0,dw:=0,dn:=dd,sec:=ss,ak:=2 },x.ru,x.fm,x.en⟩) rfl rfl (fun j y hy=>by rw [Addr.add_lit,Nat.zero_add];exact (cell_new _ _ _ _ j).trans (by simpa [EraF.cells,eraC] using hy)) (by simp [EraF.cells,eraC,Value.oneCell']) (by unfold maxLen;omega) (by unfold eraBytes;omega) (by simp;omega) ?_)
            intro v' w8 hown' hgrow _
            obtain ⟨A9,c9,hu9,-,-⟩:=Sl.of_own hown'
            subst hu9
            have hv8:=(HV7.out.alloc _).grown hgrow (fun e=>by have:=(HO7.out.lt _ e).1;omega)
            have HV8:=Lib.hid hv8
            have y1:=hv8.cell 1 (v:=.slice A5 k c5) rfl
            have yf:=hv8.frozen 1
            have hv8l:=hv8.lt
            have HO8:=Lib.hid hown'
            have HB8:=Lib.hid (below_push (HBW.out.trans (HB7.out.mono hws)) (own_lowV HO7.out (Nat.le_succ _)) hgrow)
            clear hv8 hgrow hown')
         )
        go_roundw
        case rel =>
         refine ⟨k + 1,.slice A9 (k + 1) c9,by omega,by go_num,HV8.out.set 1 _,?_,HB8.out.setCell (Nat.le_refl _) _⟩
         rw [univK_next,HUX.out,List.flatMap_append]
         simpa using own_setV HO8.out 1 (.slice A9 (k + 1) c9)
        case measure=>first | (simp [intOf];done) | (simp [intOf];omega)
       ·have hd2:decide ((k:Int) < (E.length:Int)) = false:=decide_eq_false (by omega)
        have HUX:=Lib.hid ((univX_last hke hlt).trans hxk)
        have hb7:=(Below.refl wr.heap.size wr).alloc (Nat.le_refl _) (.cells #[.int .i64 x.n.off,.string x.ru,.int .i64 x.n.save,.string x.fm,.bool x.en,.int .i64 x.n.year,.int .i64 x.n.month,.int .i64 x.n.dk,.int .i64 x.n.dw,.int .i64 x.n.dn,.int .i64 x.n.sec,.int .i64 x.n.ak] 42)
        have HB7:=Lib.hid hb7
        have HV7:=Lib.hid (HVB.out.below hb7 HVB.out.lt)
        have HO7:=Lib.hid (ownsRow_below HOW.out hb7)
        clear hc hxk hb7
        have hk6:k ≤ 1000000:=by omega
        go_wp2_with (first
         | (at_builtin;go_loud (refine wpList_append_own _ rfl _ _ 22 rfl (w2.heap.size + 1) 42 i0 eraZ 12 eraBytes Tryz.underlying22 hi hz0 hz1 hz2 rfl (by decide) _ k _ rfl (HO7.out.alloc _) ⟨wr.heap.size + 1,0,none⟩ 1 1 (EraF.cells ⟨x.n,x.ru,x.fm,x.en⟩) rfl rfl (fun j y hy=>by rw [Addr.add_lit,Nat.zero_add];exact (cell_new2 _ _ _ _ _ j).trans (by simpa [EraF.cells,eraC] using hy)) (by simp [EraF.cells,eraC,Value.oneCell']) (by unfold maxLen;omega) (by unfold eraBytes;omega) (by simp;omega) ?_)
            intro v' w8 hown' hgrow _
            obtain ⟨A9,c9,hu9,-,-⟩:=Sl.of_own hown'
            subst hu9
            have hv8:=(HV7.out.alloc _).grown hgrow (fun e=>by have:=(HO7.out.lt _ e).1;omega)
            have HV8:=Lib.hid hv8
            have y1:=hv8.cell 1 (v:=.slice A5 k c5) rfl
            have yf:=hv8.frozen 1
            have hv8l:=hv8.lt
            have HO8:=Lib.hid hown'
            have HB8:=Lib.hid (below_push (HBW.out.trans (HB7.out.mono hws)) (own_lowV HO7.out (Nat.le_succ _)) hgrow)
            clear hv8 hgrow hown')
         )
        go_roundw
        case rel =>
         refine ⟨k + 1,.slice A9 (k + 1) c9,by omega,by go_num,HV8.out.set 1 _,?_,HB8.out.setCell (Nat.le_refl _) _⟩
         rw [univK_next,HUX.out,List.flatMap_append]
         simpa using own_setV HO8.out 1 (.slice A9 (k + 1) c9)
        case measure=>first | (simp [intOf];done) | (simp [intOf];omega)
      ·obtain rfl:k = l.length:=by omega
       have hd:decide ((l.length:Int) < (l.length:Int)) = false:=decide_eq_false (by omega)
       have HVE:=Lib.hid (show ErasR wr wr.heap.size (.slice A5 l.length c5) (univL E l) by
        have h:=Sl.of_own HOW.out
        unfold ErasR
        rw [length_univL]
        exact h)
       obtain ⟨w3,hw3⟩:∃ x,x = wr:=⟨_,rfl⟩
       subst hw3
       have hw03:w.heap.size ≤ w3.heap.size:=by have h1:=HB3.out.size;have h2:=HB0.out.size;omega
       have hset:SetsR w3 w3.heap.size (.slice A2 S.length cS) S:=by
        have h:=(HZ0.out.below HB3.out).sets
        exact ⟨Sl.more h.1 hw03,fun s hs=>Sl.more (h.2 s hs) hw03⟩
       have HZP:=Lib.hid (ZW.mk HVE.out hset (HZ0.out.below HB3.out).ahead (by omega) (HZ0.out.below HB3.out).maxl (Nat.le_refl _))
       have HN3:=Lib.hid (Nums.more (Nums.below HN2.out HBW.out) hws)
       have HE2:=Lib.hid (zends_any ⟨#[85]⟩ _ _ w3.heap.size (univL E l) S w3 HZP.out HUOK.out)
       unfold EndsPost setsV zoneA worldA at HE2
       rw [HEU0.out,HEU.out] at HE2
       clear hk hlt hset HOW HBW HN2 HVE hws hvl
       go_wp2_with fail
       refine HE2.out.mono ?_
       rintro o w4 ⟨⟨u6,rfl,hown,-⟩,hb⟩
       have hn4:=Sl.of_own (hown (by trivial))
       obtain ⟨A6,c6,e6,-,hc6⟩:=Nums.form (l:=E) hn4
       subst e6
       unfold maxLen at hc6
       have HN6:=Lib.hid (show Nums w4 w4.heap.size (.slice A6 E.length c6) E from hn4)
       have HB4:=Lib.hid (HB3.out.trans (hb.mono HB3.out.size))
       have HN4:=Lib.hid (Nums.more (Nums.below HN3.out hb) hb.size)
       have HV4:=Lib.hid (HVB.out.below hb HVB.out.lt)
       have HZP4:=Lib.hid (HZP.out.below hb)
       clear hn4 hown hb HE2 HN3 HVB HZP x0 x1 x2 v0 v1 v2 vf hxl
       go_wp2_with fail
       go_loopw [15] (fun iv wr=>∃ q:Nat,q ≤ E.length∧iv = .int .i64 q∧Below w4.heap.size w4 wr) (fun iv _=>E.length - (intOf iv).toNat)
       case atStart=>exact ⟨0,Nat.zero_le _,rfl,Below.refl _ _⟩
       case round =>
        obtain ⟨q,hq,rfl,hbi⟩:=hrel
        have HBI:=Lib.hid hbi
        have hwsi:=hbi.size
        clear hbi
        by_cases hlq:q < E.length
        ·have hdq:decide ((q:Int) < (E.length:Int)) = true:=decide_eq_true (by omega)
         obtain ⟨b4,o4,c4',e,hb4,hcc4⟩:=(Nums.below HN4.out HBI.out).cells (by omega)
         cases e
         obtain ⟨b5,o5,c5',e,hb5,hcc5⟩:=(Nums.below HN6.out HBI.out).cells (by omega)
         cases e
         have e4:=hcc4 q hlq
         have e5:=hcc5 q hlq
         obtain ⟨n,hn⟩:∃ n,E[q] = n:=⟨_,rfl⟩
         rw [hn] at e4 e5
         have hbl4:b4 < wr.heap.size:=by omega
         have hbl5:b5 < wr.heap.size:=by omega
         clear hcc4 hcc5 hn
         go_wp2_with fail
         go_quiet (fail)
         go_wp2_with fail
         go_roundw
         case rel=>exact ⟨q + 1,by omega,by go_num,below_drewN HBI.out _⟩
         case measure=>first | (simp [intOf];done) | (simp [intOf];omega)
        ·obtain rfl:q = E.length:=by omega
         have hdq:decide ((E.length:Int) < (E.length:Int)) = false:=decide_eq_false (by omega)
         obtain ⟨w7,hw7⟩:∃ x,x = wr:=⟨_,rfl⟩
         subst hw7
         have HB7:=Lib.hid (HB4.out.trans (HBI.out.mono HB4.out.size))
         have HXX7:=Lib.hid (HXX.out.below HB7.out HXX.out.lt)
         have HZ7:=Lib.hid (HZ0.out.below HB7.out)
         have HZP7:=Lib.hid (HZP4.out.below HBI.out)
         have HV7:=Lib.hid (HV4.out.below HBI.out HV4.out.lt)
         have HL7:=Lib.hid (HL0.out.below (HB7.out.mono HB0.out.size))
         have hwl:=HXX7.out.lt
         clear hq hlq HB4 HBI HV4 HN4 HN6 HZP4
         go_wp2_with fail
         go_loopw [16] (fun iv wr=>∃ q:Nat,q ≤ L.length∧iv = .int .i64 q∧Below w7.heap.size w7 wr) (fun iv _=>L.length - (intOf iv).toNat)
         case atStart=>exact ⟨0,Nat.zero_le _,rfl,Below.refl _ _⟩
         case round =>
          obtain ⟨k,hk,rfl,hbi⟩:=hrel
          have HBI:=Lib.hid hbi
          have hws7:=hbi.size
          clear hbi
          by_cases hlt:k < L.length
          ·have hdk:decide ((k:Int) < (L.length:Int)) = true:=decide_eq_true (by omega)
           obtain ⟨bl,ol,cl',e,hbl,hcl⟩:=(HL7.out.below (HBI.out.mono (by omega))).cells (by omega)
           cases e
           have lc:=hcl k hlt
           obtain ⟨i,hi9⟩:∃ i,L[k] = i:=⟨_,rfl⟩
           rw [hi9] at lc
           have hblw:bl < wr.heap.size:=by omega
           have LC:=Lib.hid lc
           obtain ⟨a,d,s,er,hat⟩:=atZ_form S l i
           have HA1:=Lib.hid (fun (V:World) (h:Below w7.heap.size w7 V)=>zat_any zn (.slice A l.length cA) (.slice A2 S.length cS) w.heap.size l S i V (HZ7.out.below h) (few_okR HFEW.out) HLET.out)
           have HA2:=Lib.hid (fun (V:World) (h:Below w7.heap.size w7 V)=>zat_any ⟨#[85]⟩ (.slice A5 l.length c5) (.slice A2 S.length cS) w3.heap.size (univL E l) S i V (HZP7.out.below h) HUOK.out HLET.out)
           rw [HUAT.out i] at HA2
           rw [hat] at HA1 HA2
           unfold setsV zoneA worldA at HA1 HA2
           clear hcl hi9 hat lc
           go_wp2_with fail
           refine wp_envA (fin:=?fnp) (by kernel_rfl) [133,134,135,136,137,138,139,140,141,132,142,143,17,999,18]
            [.pointer (some ⟨w.heap.size,0,none⟩),.agg #[.string zn,.slice A l.length cA],.agg #[.string zn,.slice A l.length cA,.slice A2 S.length cS],.func (.func 15) #[.agg #[.string zn,.slice A l.length cA,.slice A2 S.length cS]] #[],.slice (some ⟨bl,ol,none⟩) L.length cL,.int .i64 k,.pointer (some ⟨bl,ol + k,none⟩),.int .i64 i,.tuple #[.agg #[.int .i64 a,.bool d,.string s],.int .i64 er],.tuple #[.agg #[.int .i64 a,.bool d,.string s],.int .i64 er],.agg #[.int .i64 a,.bool d,.string s],.int .i64 er,undef,undef,.int .i64 er] 12 13 48 #[.int .i64 0,.bool false,.string ⟨#[]⟩] #[.int .i64 a,.bool d,.string s] (by kernel_rfl) (by simp) (by decide) ?finp ?stepsp ?nextp
           case finp =>
            intro p_
            simp only [List.set_cons_succ,List.set_cons_zero,putAll,Act.put,List.setIfInBounds_toArray,List.set_nil]
            rfl
           case stepsp =>
            refine ⟨?_,?_,?_,?_,?_,?_,?_,?_,?_,?_,?_,?_,?alp,?stp,?_,trivial⟩
            case alp =>
             refine ⟨fun p_=>by kernel_rfl,fun p_ w1_ hB_=>?_⟩
             first | rfl | (go_simp;done) | (go_simp;rfl)
            case stp =>
             refine ⟨fun p_=>by kernel_rfl,fun b_ w1_ hb_=>⟨(((w1_.setCell ⟨b_,0,none⟩ (.int .i64 a)).setCell ⟨b_,1,none⟩ (.bool d)).setCell ⟨b_,2,none⟩ (.string s)),?_,((Fr.setCell (T:=fun k=>k = b_) w1_ 0 (.int .i64 a) rfl).then (Fr.setCell _ 1 _ rfl)).then (Fr.setCell _ 2 _ rfl),(((hb_.set 0 (.int .i64 a)).set 1 (.bool d)).set 2 (.string s))⟩⟩
             have f0_:=Blk.frozen hb_ 0
             have f1_:=Blk.frozen hb_ 1
             have f2_:=Blk.frozen hb_ 2
             have z0_:=Blk.cell hb_ 0 (v:=.int .i64 0) rfl
             have z1_:=Blk.cell hb_ 1 (v:=.bool false) rfl
             have z2_:=Blk.cell hb_ 2 (v:=.string ⟨#[]⟩) rfl
             go_simp
             try rfl
            all_goals
             intro p_
             refine .inr ⟨by kernel_rfl,fun w1_ hB_=>?_⟩
             have hB0_:=HBI.out.trans (hB_.mono HBI.out.size)
             have hxb_:=HXX7.out.below hB0_ HXX7.out.lt
             have x0_:=hxb_.cell 0 (v:=.string zn) rfl
             have x1_:=hxb_.cell 1 (v:=.slice A l.length cA) rfl
             have x2_:=hxb_.cell 2 (v:=.slice A2 S.length cS) rfl
             have lc_:=(hB_.cell (p:=⟨bl,ol + k,none⟩) hblw).trans LC.out
             go_simp
             first
              | exact ⟨rfl,Below.refl _ _⟩
              | exact ⟨rfl,HA1.out _ hB0_⟩
              | ((first | rw [decide_eq_true (by omega)] | rw [decide_eq_false (by omega)] | rw [if_pos (by omega)] | rw [IntWalk.i64_in _ (by omega)]);exact ⟨rfl,Below.refl _ _⟩)
              | done
           case nextp =>
           intro xb w11 hb11 hxb11 hX11
           have HB11:=Lib.hid (HBI.out.trans (hb11.mono HBI.out.size))
           have HX11:=Lib.hid hX11
           have LC11:=Lib.hid ((hb11.cell (p:=⟨bl,ol + k,none⟩) hblw).trans LC.out)
           have hbl11:bl < w11.heap.size:=Nat.lt_of_lt_of_le hblw hb11.size
           clear hb11 hxb11 hX11
           go_wp2_with fail
           refine wp_envA (fin:=?fnq) (by kernel_rfl) [145,146,147,148,149,150,151,152,153,144,154,155,19,999,20]
            [.pointer (some ⟨w2.heap.size,0,none⟩),.agg #[.string ⟨#[85]⟩,.slice A5 l.length c5],.agg #[.string ⟨#[85]⟩,.slice A5 l.length c5,.slice A2 S.length cS],.func (.func 15) #[.agg #[.string ⟨#[85]⟩,.slice A5 l.length c5,.slice A2 S.length cS]] #[],.slice (some ⟨bl,ol,none⟩) L.length cL,.int .i64 k,.pointer (some ⟨bl,ol + k,none⟩),.int .i64 i,.tuple #[.agg #[.int .i64 a,.bool d,.string s],.int .i64 er],.tuple #[.agg #[.int .i64 a,.bool d,.string s],.int .i64 er],.agg #[.int .i64 a,.bool d,.string s],.int .i64 er,undef,undef,.int .i64 er] 12 13 48 #[.int .i64 0,.bool false,.string ⟨#[]⟩] #[.int .i64 a,.bool d,.string s] (by kernel_rfl) (by simp) (by decide) ?finq ?stepsq ?nextq
           case finq =>
            intro p_
            simp only [List.set_cons_succ,List.set_cons_zero,putAll,Act.put,List.setIfInBounds_toArray,List.set_nil]
            rfl
           case stepsq =>
            refine ⟨?_,?_,?_,?_,?_,?_,?_,?_,?_,?_,?_,?_,?alq,?stq,?_,trivial⟩
            case alq =>
             refine ⟨fun p_=>by kernel_rfl,fun p_ w1_ hB_=>?_⟩
             first | rfl | (go_simp;done) | (go_simp;rfl)
            case stq =>
             refine ⟨fun p_=>by kernel_rfl,fun b_ w1_ hb_=>⟨(((w1_.setCell ⟨b_,0,none⟩ (.int .i64 a)).setCell ⟨b_,1,none⟩ (.bool d)).setCell ⟨b_,2,none⟩ (.string s)),?_,((Fr.setCell (T:=fun k=>k = b_) w1_ 0 (.int .i64 a) rfl).then (Fr.setCell _ 1 _ rfl)).then (Fr.setCell _ 2 _ rfl),(((hb_.set 0 (.int .i64 a)).set 1 (.bool d)).set 2 (.string s))⟩⟩
             have f0_:=Blk.frozen hb_ 0
             have f1_:=Blk.frozen hb_ 1
             have f2_:=Blk.frozen hb_ 2
             have z0_:=Blk.cell hb_ 0 (v:=.int .i64 0) rfl
             have z1_:=Blk.cell hb_ 1 (v:=.bool false) rfl
             have z2_:=Blk.cell hb_ 2 (v:=.string ⟨#[]⟩) rfl
             go_simp
             try rfl
            all_goals
             intro p_
             refine .inr ⟨by kernel_rfl,fun w1_ hB_=>?_⟩
             have hB0_:=HB11.out.trans (hB_.mono HB11.out.size)
             have hxb_:=HV7.out.below hB0_ HV7.out.lt
             have x0_:=hxb_.cell 0 (v:=.string ⟨#[85]⟩) rfl
             have x1_:=hxb_.cell 1 (v:=.slice A5 l.length c5) rfl
             have x2_:=hxb_.cell 2 (v:=.slice A2 S.length cS) rfl
             have lc_:=(hB_.cell (p:=⟨bl,ol + k,none⟩) hbl11).trans LC11.out
             go_simp
             first
              | exact ⟨rfl,Below.refl _ _⟩
              | exact ⟨rfl,HA2.out _ hB0_⟩
              | ((first | rw [decide_eq_true (by omega)] | rw [decide_eq_false (by omega)] | rw [if_pos (by omega)] | rw [IntWalk.i64_in _ (by omega)]);exact ⟨rfl,Below.refl _ _⟩)
              | done
           case nextq =>
           intro xc w12 hb12 hxc12 hX12
           have HB12:=Lib.hid (HB11.out.trans (hb12.mono HB11.out.size))
           have hx12:=HX11.out.below hb12 HX11.out.lt
           have m0:=hx12.cell 0 (v:=.int .i64 a) rfl
           have m1:=hx12.cell 1 (v:=.bool d) rfl
           have m2:=hx12.cell 2 (v:=.string s) rfl
           have p0:=hX12.cell 0 (v:=.int .i64 a) rfl
           have p1:=hX12.cell 1 (v:=.bool d) rfl
           have p2:=hX12.cell 2 (v:=.string s) rfl
           have hml:=hx12.lt
           have hpl:=hX12.lt
           clear hb12 hxc12 hX12 hx12 HA1 HA2
           go_wp2_with fail
           go_roundw
           case rel=>exact ⟨k + 1,by omega,by go_num,HB12.out⟩
           case measure=>simp [intOf];omega
          ·obtain rfl:k = L.length:=by omega
           have hdk:decide ((L.length:Int) < (L.length:Int)) = false:=decide_eq_false (by omega)
           have HB9:=Lib.hid (HB7.out.trans (HBI.out.mono HB7.out.size))
           go_wp2_with fail
           refine (awake_any _ ((HZ0.out.below (HB9.out)).maxl)).mono ?_
           rintro o wz ⟨rfl,hbz⟩
           have hb9:=HB0.out.trans (((HB9.out).trans (hbz.mono (HB9.out).size)).mono HB0.out.size)
           clear hbz
           go_wp2_with fail
           go_ret
           exact ⟨rfl,hb9⟩
    ·have he0:(E0 != 0) = true:=by simpa using hE0
     clear hE0
     as_aux_lemma =>
      go_wp2_with fail
      refine (HF.out _ HB1.out).mono ?_
      rintro o w2 ⟨rfl,hb⟩
      have HB2:=Lib.hid (HB1.out.trans (hb.mono HB1.out.size))
      clear hb x0 x1 x2 hxl
      go_wp2_with fail
      refine (awake_any _ ((HZ0.out.below (HB2.out)).maxl)).mono ?_
      rintro o wz ⟨rfl,hbz⟩
      have hb9:=HB0.out.trans (((HB2.out).trans (hbz.mono (HB2.out).size)).mono HB0.out.size)
      clear hbz
      go_wp2_with fail
      go_ret
      exact ⟨rfl,hb9⟩
end
section -- FOpen
open Go Go.ChangeShapes Go.WideShapes Go.ChangeAt Go.RowKit Go.Deep
def aheadI:List Int:=[0,31,59,90,120,151,181,212,243,273,304,334,365]
theorem ahead_of {W : World} (h : laidMetH Tryz.prog [("meridian/civil.ahead", Rows.laid_meridian_civil_ahead)] W) : Ahead W := fun i hi => by
 have ht : Lib.TabIs Tryz.prog W "meridian/civil.ahead" .i64 aheadI := Lib.tabIs_of_head (rest := []) (g := 0) (by kernel_rfl) (by kernel_rfl) Tryz.underlying175 Tryz.underlying3 (by kernel_rfl) (by kernel_rfl) h
 have hc:=ht.cell (g:=0) (by kernel_rfl) i (by simpa [aheadI] using hi)
 rw [hc]
 have:i = 0∨i = 1∨i = 2∨i = 3∨i = 4∨i = 5∨i = 6∨i = 7∨i = 8∨i = 9∨i = 10∨i = 11∨i = 12:=by omega
 rcases this with h | h | h | h | h | h | h | h | h | h | h | h | h <;> subst h <;> rfl
section
variable {H:Type} {enc:TypeId × Value→H} {P:Program} {W:World} {base:Nat} {spare:MemPlace→Bool} {held:Bool}
theorem trod_struct8 {t:TypeId} {f0 f1 f2 f3 f4 f5 f6 f7:Field} {fuel:Nat} {cs:List Value} {x:DataW H × List MemPlace} (ht:P.underlying t = some (.struct #[f0,f1,f2,f3,f4,f5,f6,f7])) (h:DataW.trod enc P W 0 (fun _=>true) true fuel t cs = some x) :
  ∃ y0 y1 y2 y3 y4 y5 y6 y7 n,cs.length = P.cellsOf t∧DataW.trod enc P W 0 (fun _=>true) true n f0.type ((cs.drop f0.offset).take (P.cellsOf f0.type)) = some y0∧DataW.trod enc P W 0 (fun _=>true) true n f1.type ((cs.drop f1.offset).take (P.cellsOf f1.type)) = some y1 ∧
   DataW.trod enc P W 0 (fun _=>true) true n f2.type ((cs.drop f2.offset).take (P.cellsOf f2.type)) = some y2∧DataW.trod enc P W 0 (fun _=>true) true n f3.type ((cs.drop f3.offset).take (P.cellsOf f3.type)) = some y3∧DataW.trod enc P W 0 (fun _=>true) true n f4.type ((cs.drop f4.offset).take (P.cellsOf f4.type)) = some y4 ∧
   DataW.trod enc P W 0 (fun _=>true) true n f5.type ((cs.drop f5.offset).take (P.cellsOf f5.type)) = some y5∧DataW.trod enc P W 0 (fun _=>true) true n f6.type ((cs.drop f6.offset).take (P.cellsOf f6.type)) = some y6∧DataW.trod enc P W 0 (fun _=>true) true n f7.type ((cs.drop f7.offset).take (P.cellsOf f7.type)) = some y7:=by
 obtain ⟨xs,n,_,rfl,hl,hlen,hf⟩:=DataW.trod_struct ht h
 match xs,hlen with
 | [y0,y1,y2,y3,y4,y5,y6,y7],_=>exact ⟨y0,y1,y2,y3,y4,y5,y6,y7,n,hl,by simpa using hf 0 f0 rfl,by simpa using hf 1 f1 rfl,by simpa using hf 2 f2 rfl,by simpa using hf 3 f3 rfl,by simpa using hf 4 f4 rfl,by simpa using hf 5 f5 rfl,by simpa using hf 6 f6 rfl,by simpa using hf 7 f7 rfl⟩
end
section
variable {H:Type} {enc:TypeId × Value→H} {W:World}
theorem trod_day {n:Nat} {cs:List Value} {y:DataW H × List MemPlace} (h:DataW.trod enc Tryz.prog W 0 (fun _=>true) true n 36 cs = some y):∃ a b c:Int,cs = [.int .i64 a,.int .i64 b,.int .i64 c]:=by
 obtain ⟨y0,y1,y2,k,-,hl,h0,h1,h2⟩:=trod_struct3 Tryz.underlying36 h
 rw [show Tryz.prog.cellsOf 36 = 3 by kernel_rfl] at hl
 obtain ⟨a,e0,_,_⟩:=DataW.trod_int Tryz.underlying3 h0
 obtain ⟨b,e1,_,_⟩:=DataW.trod_int Tryz.underlying3 h1
 obtain ⟨c,e2,_,_⟩:=DataW.trod_int Tryz.underlying3 h2
 match cs,hl with
 | [v0,v1,v2],_ =>
   rw [show Tryz.prog.cellsOf 3 = 1 by kernel_rfl] at e0 e1 e2
   simp at e0 e1 e2
   subst e0 e1 e2
   exact ⟨a,b,c,rfl⟩
theorem trod_clock {n:Nat} {cs:List Value} {y:DataW H × List MemPlace} (h:DataW.trod enc Tryz.prog W 0 (fun _=>true) true n 38 cs = some y):∃ a b:Int,cs = [.int .i64 a,.int .i64 b]:=by
 obtain ⟨y0,y1,k,-,hl,h0,h1⟩:=trod_struct2 Tryz.underlying38 h
 rw [show Tryz.prog.cellsOf 38 = 2 by kernel_rfl] at hl
 obtain ⟨a,e0,_,_⟩:=DataW.trod_int Tryz.underlying3 h0
 obtain ⟨b,e1,_,_⟩:=DataW.trod_int Tryz.underlying3 h1
 match cs,hl with
 | [v0,v1],_ =>
   rw [show Tryz.prog.cellsOf 3 = 1 by kernel_rfl] at e0 e1
   simp at e0 e1
   subst e0 e1
   exact ⟨a,b,rfl⟩
theorem trod_rul {n:Nat} {cs:List Value} {y:DataW H × List MemPlace} (h:DataW.trod enc Tryz.prog W 0 (fun _=>true) true n 106 cs = some y):∃ r:Rul,cs = rulV r∧True:=by
 obtain ⟨y0,y1,y2,y3,y4,y5,y6,y7,k,hl,h0,h1,h2,h3,h4,h5,h6,h7⟩:=trod_struct8 Tryz.underlying106 h
 rw [show Tryz.prog.cellsOf 106 = 11 by kernel_rfl] at hl
 obtain ⟨nm,e0,_,_⟩:=DataW.trod_string Tryz.underlying9 h0
 obtain ⟨fr,e1,_,_⟩:=DataW.trod_int Tryz.underlying3 h1
 obtain ⟨to,e2,_,_⟩:=DataW.trod_int Tryz.underlying3 h2
 obtain ⟨mo,e3,_,_⟩:=DataW.trod_int Tryz.underlying3 h3
 obtain ⟨dk,dw,dn,e4⟩:=trod_day h4
 obtain ⟨sc,kd,e5⟩:=trod_clock h5
 obtain ⟨sv,e6,_,_⟩:=DataW.trod_int Tryz.underlying3 h6
 obtain ⟨lt,e7,_,_⟩:=DataW.trod_string Tryz.underlying9 h7
 match cs,hl with
 | [v0,v1,v2,v3,v4,v5,v6,v7,v8,v9,v10],_ =>
   rw [show Tryz.prog.cellsOf 3 = 1 by kernel_rfl] at e1 e2 e3 e6
   rw [show Tryz.prog.cellsOf 9 = 1 by kernel_rfl] at e0 e7
   rw [show Tryz.prog.cellsOf 36 = 3 by kernel_rfl] at e4
   rw [show Tryz.prog.cellsOf 38 = 2 by kernel_rfl] at e5
   simp at e0 e1 e2 e3 e4 e5 e6 e7
   obtain ⟨rfl,rfl,rfl⟩:=e4
   obtain ⟨rfl,rfl⟩:=e5
   subst e0 e1 e2 e3 e6 e7
   exact ⟨⟨nm,fr,to,mo,dk,dw,dn,sc,kd,sv,lt⟩,rfl,trivial⟩
instance:Inhabited Rul:=⟨⟨⟨#[]⟩,0,0,0,0,0,0,0,0,0,⟨#[]⟩⟩⟩
end
end
section -- AOpen
open Go Go.ChangeShapes Go.WideShapes Go.ChangeAt Go.RowKit Go.Deep
section
variable {H:Type} {enc:TypeId × Value→H} {P:Program} {W:World}
theorem trod_struct4 {t:TypeId} {f0 f1 f2 f3:Field} {fuel:Nat} {cs:List Value} {x:DataW H × List MemPlace} (ht:P.underlying t = some (.struct #[f0,f1,f2,f3])) (h:DataW.trod enc P W 0 (fun _=>true) true fuel t cs = some x) :
  ∃ y0 y1 y2 y3 n,cs.length = P.cellsOf t∧DataW.trod enc P W 0 (fun _=>true) true n f0.type ((cs.drop f0.offset).take (P.cellsOf f0.type)) = some y0∧DataW.trod enc P W 0 (fun _=>true) true n f1.type ((cs.drop f1.offset).take (P.cellsOf f1.type)) = some y1 ∧
   DataW.trod enc P W 0 (fun _=>true) true n f2.type ((cs.drop f2.offset).take (P.cellsOf f2.type)) = some y2∧DataW.trod enc P W 0 (fun _=>true) true n f3.type ((cs.drop f3.offset).take (P.cellsOf f3.type)) = some y3:=by
 obtain ⟨xs,n,_,rfl,hl,hlen,hf⟩:=DataW.trod_struct ht h
 match xs,hlen with
 | [y0,y1,y2,y3],_=>exact ⟨y0,y1,y2,y3,n,hl,by simpa using hf 0 f0 rfl,by simpa using hf 1 f1 rfl,by simpa using hf 2 f2 rfl,by simpa using hf 3 f3 rfl⟩
theorem trod_struct6 {t:TypeId} {f0 f1 f2 f3 f4 f5:Field} {fuel:Nat} {cs:List Value} {x:DataW H × List MemPlace} (ht:P.underlying t = some (.struct #[f0,f1,f2,f3,f4,f5])) (h:DataW.trod enc P W 0 (fun _=>true) true fuel t cs = some x) :
  ∃ y0 y1 y2 y3 y4 y5 n,cs.length = P.cellsOf t∧DataW.trod enc P W 0 (fun _=>true) true n f0.type ((cs.drop f0.offset).take (P.cellsOf f0.type)) = some y0∧DataW.trod enc P W 0 (fun _=>true) true n f1.type ((cs.drop f1.offset).take (P.cellsOf f1.type)) = some y1 ∧
   DataW.trod enc P W 0 (fun _=>true) true n f2.type ((cs.drop f2.offset).take (P.cellsOf f2.type)) = some y2∧DataW.trod enc P W 0 (fun _=>true) true n f3.type ((cs.drop f3.offset).take (P.cellsOf f3.type)) = some y3 ∧
   DataW.trod enc P W 0 (fun _=>true) true n f4.type ((cs.drop f4.offset).take (P.cellsOf f4.type)) = some y4∧DataW.trod enc P W 0 (fun _=>true) true n f5.type ((cs.drop f5.offset).take (P.cellsOf f5.type)) = some y5:=by
 obtain ⟨xs,n,_,rfl,hl,hlen,hf⟩:=DataW.trod_struct ht h
 match xs,hlen with
 | [y0,y1,y2,y3,y4,y5],_=>exact ⟨y0,y1,y2,y3,y4,y5,n,hl,by simpa using hf 0 f0 rfl,by simpa using hf 1 f1 rfl,by simpa using hf 2 f2 rfl,by simpa using hf 3 f3 rfl,by simpa using hf 4 f4 rfl,by simpa using hf 5 f5 rfl⟩
end
section
variable {H:Type} {enc:TypeId × Value→H} {W:World}
theorem trod_until {n:Nat} {cs:List Value} {y:DataW H × List MemPlace} (h:DataW.trod enc Tryz.prog W 0 (fun _=>true) true n 40 cs = some y):∃ a b c d e f g:Int,cs = [.int .i64 a,.int .i64 b,.int .i64 c,.int .i64 d,.int .i64 e,.int .i64 f,.int .i64 g]:=by
 obtain ⟨y0,y1,y2,y3,k,hl,h0,h1,h2,h3⟩:=trod_struct4 Tryz.underlying40 h
 rw [show Tryz.prog.cellsOf 40 = 7 by kernel_rfl] at hl
 obtain ⟨a,e0,_,_⟩:=DataW.trod_int Tryz.underlying3 h0
 obtain ⟨b,e1,_,_⟩:=DataW.trod_int Tryz.underlying3 h1
 obtain ⟨dk,dw,dn,e2⟩:=trod_day h2
 obtain ⟨sc,kd,e3⟩:=trod_clock h3
 match cs,hl with
 | [v0,v1,v2,v3,v4,v5,v6],_ =>
   rw [show Tryz.prog.cellsOf 3 = 1 by kernel_rfl] at e0 e1
   rw [show Tryz.prog.cellsOf 36 = 3 by kernel_rfl] at e2
   rw [show Tryz.prog.cellsOf 38 = 2 by kernel_rfl] at e3
   simp at e0 e1 e2 e3
   obtain ⟨rfl,rfl,rfl⟩:=e2
   obtain ⟨rfl,rfl⟩:=e3
   subst e0 e1
   exact ⟨a,b,dk,dw,dn,sc,kd,rfl⟩
theorem trod_era {n:Nat} {cs:List Value} {y:DataW H × List MemPlace} (h:DataW.trod enc Tryz.prog W 0 (fun _=>true) true n 42 cs = some y) :
  ∃ (e:EraN) (ru f:ByteArray) (en:Bool),cs = [.int .i64 e.off,.string ru,.int .i64 e.save,.string f,.bool en,.int .i64 e.year,.int .i64 e.month,.int .i64 e.dk,.int .i64 e.dw,.int .i64 e.dn,.int .i64 e.sec,.int .i64 e.ak] ∧
   (-9223372036854775808 ≤ e.off∧e.off ≤ 9223372036854775807)∧(-9223372036854775808 ≤ e.save∧e.save ≤ 9223372036854775807):=by
 obtain ⟨y0,y1,y2,y3,y4,y5,k,hl,h0,h1,h2,h3,h4,h5⟩:=trod_struct6 Tryz.underlying42 h
 rw [show Tryz.prog.cellsOf 42 = 12 by kernel_rfl] at hl
 obtain ⟨off,e0,_,w0⟩:=DataW.trod_int Tryz.underlying3 h0
 obtain ⟨ru,e1,_,_⟩:=DataW.trod_string Tryz.underlying9 h1
 obtain ⟨sv,e2,_,w2⟩:=DataW.trod_int Tryz.underlying3 h2
 obtain ⟨f,e3,_,_⟩:=DataW.trod_string Tryz.underlying9 h3
 obtain ⟨en,e4,_⟩:=DataW.trod_bool Tryz.underlying4 h4
 obtain ⟨yr,mo,dk,dw,dn,sc,kd,e5⟩:=trod_until h5
 match cs,hl with
 | [v0,v1,v2,v3,v4,v5,v6,v7,v8,v9,v10,v11],_ =>
   rw [show Tryz.prog.cellsOf 3 = 1 by kernel_rfl] at e0 e2
   rw [show Tryz.prog.cellsOf 9 = 1 by kernel_rfl] at e1 e3
   rw [show Tryz.prog.cellsOf 4 = 1 by kernel_rfl] at e4
   rw [show Tryz.prog.cellsOf 40 = 7 by kernel_rfl] at e5
   simp at e0 e1 e2 e3 e4 e5
   obtain ⟨rfl,rfl,rfl,rfl,rfl,rfl,rfl⟩:=e5
   subst e0 e1 e2 e3 e4
   exact ⟨⟨off,sv,yr,mo,dk,dw,dn,sc,kd⟩,ru,f,en,rfl,wf_i64 w0,wf_i64 w2⟩
end
end
section -- AOpenW
open Go Go.ChangeShapes Go.WideShapes Go.ChangeAt Go.RowKit Go.Deep
section
variable {H:Type} {enc:TypeId × Value→H} {P:Program} {W:World}
def Light (P:Program) (t:TypeId) (d:DataW H):Prop:=∀ k ∈ d.weights P t,k ≤ 140737488351232
theorem weightsAll_mem {e:TypeId}:∀ {l:List (DataW H)} {d:DataW H},d ∈ l→∀ k ∈ d.weights P e,k ∈ DataW.weightsAll P e l
 | x :: l,d,h,k,hk=>by
   simp only [DataW.weightsAll,List.mem_append]
   rcases List.mem_cons.1 h with rfl | h
   ·exact .inl hk
   ·exact .inr (weightsAll_mem h k hk)
theorem Light.elem {T E:TypeId} {a b:List (DataW H)} (hT:P.underlying T = some (.slice E)) (h:Light P T (.slice a b)) {d:DataW H} (hd:d ∈ a):Light P E d:=fun k hk=>by
 refine h k ?_
 simp only [DataW.weights,hT,List.mem_cons,List.mem_append]
 exact .inr (.inl (weightsAll_mem hd k hk))
theorem Light.part {T:TypeId} {fs:Array Field} {l:List (DataW H)} (hT:P.underlying T = some (.struct fs)) (h:Light P T (.agg l)) {i:Nat} {t:TypeId} {d:DataW H} (ht:(fs.toList.map (·.type))[i]? = some t) (hd:l[i]? = some d):Light P t d:=fun k hk=>by
 refine h k ?_
 simp only [DataW.weights,hT]
 exact DataW.weights_mem_each ht hd k hk
theorem Light.str {t:TypeId} {s:List UInt8} (h:Light P t (DataW.lit (H:=H) (.string s))):s.length ≤ 140737488351232:=h _ (by simp [DataW.weights])
theorem open_listW {α:Type} [Inhabited α] (f:α→List Value) (Pr:α→Prop) {T E:TypeId} {C:Nat} (hT:P.underlying T = some (.slice E)) (hC:P.cellsOf E = C) (h0:0 < C)
  (hel:∀ (n:Nat) (cs:List Value) (y:DataW H × List MemPlace),cs.length = C→DataW.trod enc P W 0 (fun _=>true) true n E cs = some y→Light P E y.1→∃ a,cs = f a∧Pr a)
  {n:Nat} {cs:List Value} {x:DataW H × List MemPlace} (h:DataW.trod enc P W 0 (fun _=>true) true n T cs = some x) (hw:Light P T x.1):∃ (v:Value) (l:List α),cs = [v]∧Sl W W.heap.size C v l.length (l.flatMap f)∧∀ a ∈ l,Pr a∧(f a).length = C:=by
 rcases open_slice hT h with ⟨rfl,_⟩ | ⟨a,len,cap,m,k,D,Pl,rfl,_,hl,hm,hmm,rfl,hx⟩
 ·exact ⟨_,[],rfl,Sl.nil _ _ _,fun a h=>by cases h⟩
 ·simp only [if_true] at hmm
  subst hmm
  have hD:∀ i,i < len→Light P E (D i):=fun i hi=>Light.elem hT hw (List.mem_map.2 ⟨i,List.mem_range.2 hi,rfl⟩)
  have each:∀ i,∃ q:α,i < len→W.cells? 0 (a.add (i * C)) C = some (f q)∧Pr q∧(f q).length = C:=fun i=>by
   by_cases hi:i < len
   ·obtain ⟨cs',h1,h2⟩:=hx i (by omega)
    rw [hC] at h1
    obtain ⟨_,hlen,_⟩:=World.cells?_some h1
    obtain ⟨q,rfl,hq⟩:=hel _ _ _ hlen h2 (hD i hi)
    exact ⟨q,fun _=>⟨h1,hq,hlen⟩⟩
   ·exact ⟨default,fun h=>absurd h hi⟩
  obtain ⟨Q,hQ⟩:=Classical.axiomOfChoice each
  have hlen:((List.range len).map Q).length = len:=by simp
  have hfl:∀ b ∈ (List.range len).map Q,Pr b∧(f b).length = C:=fun b hb=>by
   obtain ⟨i,hi,rfl⟩:=List.mem_map.1 hb
   exact ⟨(hQ i (List.mem_range.1 hi)).2.1,(hQ i (List.mem_range.1 hi)).2.2⟩
  refine ⟨_,(List.range len).map Q,rfl,?_,hfl⟩
  have hfl2:=flat_len f C _ (fun b hb=>(hfl b hb).2)
  rw [hlen] at hfl2 ⊢
  refine ⟨_,_,rfl,hl,hm,hfl2,fun hp=>?_⟩
  obtain ⟨b,o,spot⟩:=a
  obtain ⟨_,_,hc0⟩:=World.cells?_some (hQ 0 hp).1
  have h00:=hc0 0 h0
  rw [List.getElem?_eq_getElem (by rw [(hQ 0 hp).2.2];exact h0)] at h00
  have hspot:spot = none:=by simpa [Addr.add] using World.cell?_spot h00
  subst hspot
  refine ⟨b,o,rfl,?_,fun j u hu=>?_⟩
  ·have:=World.block_lt_of_cell? W _ h00
   simpa [Addr.add_lit] using this
  ·have hj:j < len * C:=by
    have:=(List.getElem?_eq_some_iff.1 hu).1
    rwa [hfl2] at this
   have hd:j / C < len:=Nat.div_lt_of_lt_mul (by rw [Nat.mul_comm];exact hj)
   have hr:j % C < C:=Nat.mod_lt _ h0
   have he:j = j / C * C + j % C:=by rw [Nat.mul_comm];exact (Nat.div_add_mod j C).symm
   obtain ⟨_,hll,hcc⟩:=World.cells?_some (hQ (j / C) hd).1
   have hc:=hcc (j % C) hr
   rw [he,flat_at f C _ (fun b hb=>(hfl b hb).2) _ _ (by rw [hlen];exact hd) hr] at hu
   simp only [List.getElem_map,List.getElem_range] at hu
   rw [he]
   have e2:(some u:Option Value) = some ((f (Q (j / C)))[j % C]'(by omega)):=by rw [← hu];exact List.getElem?_eq_getElem _
   rw [Option.some.inj e2,← List.getElem?_eq_getElem]
   simpa [Addr.add_lit,Nat.add_assoc] using hc
end
theorem ahead_in {l : List (String × DataW Unit)} {W : World} (hl : l.filter (fun x => x.1 == "meridian/civil.ahead") = [("meridian/civil.ahead", Rows.laid_meridian_civil_ahead)]) (h : laidMetH Tryz.prog l W) : Ahead W := ahead_of (by rw [← hl]; exact h.filter _)
theorem tab_in {W:World} (h:Ahead W):0 < W.heap.size:=World.block_lt_of_cell? W _ (h 0 (by decide))
section
variable {H:Type} {enc:TypeId × Value→H} {W:World}
theorem trod_rulW {n:Nat} {cs:List Value} {y:DataW H × List MemPlace} (h:DataW.trod enc Tryz.prog W 0 (fun _=>true) true n 106 cs = some y) (hw:Light Tryz.prog 106 y.1):∃ r:Rul,cs = rulV r∧r.letter.size ≤ 140737488351232:=by
 obtain ⟨r,rfl,-⟩:=trod_rul h
 refine ⟨r,rfl,?_⟩
 obtain ⟨xs,m,_,rfl,hl,hlen,hf⟩:=DataW.trod_struct Tryz.underlying106 h
 match xs,hlen with
 | [y0,y1,y2,y3,y4,y5,y6,y7],_ =>
   have h7:=hf 7 _ rfl
   obtain ⟨s,e7,e8,-⟩:=DataW.trod_string Tryz.underlying9 h7
   have h9:r.letter = s:=by
    have e9:([.string r.letter]:List Value) = [.string s]:=e7
    injection e9 with e9
    injection e9
   have h10:=Light.part Tryz.underlying106 hw (i:=7) (t:=9) (d:=y7.1) rfl rfl
   rw [e8] at h10
   have h11:=h10.str
   rw [h9,Lib.size_eq]
   exact h11
end
end
section -- VOpen
open Go Go.ChangeShapes Go.WideShapes Go.ChangeAt Go.RowKit Go.Deep
def numR (r:Rul):Prop:=(-9223372036854775808 ≤ r.from_∧r.from_ ≤ 9223372036854775807)∧(-9223372036854775808 ≤ r.to_∧r.to_ ≤ 9223372036854775807)∧(-9223372036854775808 ≤ r.save∧r.save ≤ 9223372036854775807)
section
variable {H:Type} {enc:TypeId × Value→H} {P:Program} {W:World}
theorem open_lenW {T E:TypeId} (hT:P.underlying T = some (.slice E)) {n:Nat} {cs:List Value} {x:DataW H × List MemPlace} (h:DataW.trod enc P W 0 (fun _=>true) true n T cs = some x) (hw:Light P T x.1) {A:Option Addr} {m c:Nat} (hv:cs = [.slice A m c]):m * P.bytesOf E ≤ 140737488351232:=by
 rcases open_slice hT h with ⟨e,_⟩ | ⟨a,len,cap,m',k,D,Pl,e,_,hl,hm,hmm,rfl,hx⟩
 ·rw [hv] at e
  injection e with e
  injection e with _ e _
  subst e
  simp
 ·simp only [if_true] at hmm
  subst hmm
  rw [hv] at e
  injection e with e
  injection e with _ e _
  subst e
  have:=hw
  unfold Light at this
  simp only [DataW.weights,hT,List.length_map,List.length_range] at this
  have h2:=this _ (List.mem_cons_self)
  exact Nat.le_trans (Nat.mul_le_mul_right _ (Nat.le_add_right _ _)) h2
end
section
variable {H:Type} {enc:TypeId × Value→H} {W:World}
theorem trod_rulI {n:Nat} {cs:List Value} {y:DataW H × List MemPlace} (h:DataW.trod enc Tryz.prog W 0 (fun _=>true) true n 106 cs = some y) (hw:Light Tryz.prog 106 y.1):∃ r:Rul,cs = rulV r∧(r.letter.size ≤ 140737488351232∧numR r):=by
 obtain ⟨r,rfl,hle⟩:=trod_rulW h hw
 refine ⟨r,rfl,hle,?_⟩
 obtain ⟨xs,m,_,rfl,hl,hlen,hf⟩:=DataW.trod_struct Tryz.underlying106 h
 match xs,hlen with
 | [y0,y1,y2,y3,y4,y5,y6,y7],_ =>
   have one:∀ (a b:Int),([.int .i64 a]:List Value) = [.int .i64 b]→a = b:=fun a b e=>by injection e with e;injection e
   obtain ⟨a,e1,_,w1⟩:=DataW.trod_int Tryz.underlying3 (hf 1 _ rfl)
   obtain ⟨b,e2,_,w2⟩:=DataW.trod_int Tryz.underlying3 (hf 2 _ rfl)
   obtain ⟨c,e6,_,w6⟩:=DataW.trod_int Tryz.underlying3 (hf 6 _ rfl)
   have k1:r.from_ = a:=one _ _ e1
   have k2:r.to_ = b:=one _ _ e2
   have k6:r.save = c:=one _ _ e6
   rw [← k1] at w1
   rw [← k2] at w2
   rw [← k6] at w6
   exact ⟨wf_i64 w1,wf_i64 w2,wf_i64 w6⟩
theorem trod_setI {n:Nat} {cs:List Value} {y:DataW H × List MemPlace} (h:DataW.trod enc Tryz.prog W 0 (fun _=>true) true n 95 cs = some y) (hw:Light Tryz.prog 95 y.1):∃ s:SetF,cs = s.cells∧(Ruls W W.heap.size s.v s.l∧letOk s.l∧numsR s.l):=by
 obtain ⟨xs,m,_,rfl,hl,hlen,hf⟩:=DataW.trod_struct Tryz.underlying95 h
 match xs,hlen with
 | [y0,y1],_ =>
   obtain ⟨s,e0,_,-⟩:=DataW.trod_string Tryz.underlying9 (hf 0 _ rfl)
   have h1:=hf 1 _ rfl
   have h10:=Light.part Tryz.underlying95 hw (i:=1) (t:=52) (d:=y1.1) rfl rfl
   obtain ⟨v,l,e1,hs,hl2⟩:=open_listW (C:=11) rulV (fun r=>r.letter.size ≤ 140737488351232∧numR r) Tryz.underlying52 (by kernel_rfl) (by decide) (fun n cs y _ hy hw=>trod_rulI hy hw) h1 h10
   rw [show Tryz.prog.cellsOf 95 = 2 by kernel_rfl] at hl
   match cs,hl with
   | [v0,v1],_ =>
     have e2:([v0]:List Value) = [.string s]:=e0
     have e3:([v1]:List Value) = [v]:=e1
     injection e2 with e2
     injection e3 with e3
     subst e2 e3
     exact ⟨⟨s,v1,l⟩,rfl,hs,fun r hr=>(hl2 r hr).1.1,fun r hr=>(hl2 r hr).1.2⟩
end
end
section -- VBulk
open Go Go.ChangeShapes Go.WideShapes Go.ChangeAt Go.RowKit Go.Deep
section
variable {H:Type} {enc:TypeId × Value→H} {P:Program} {W:World}
theorem bulk_le {d:DataW H} {l:List (DataW H)} (h:d ∈ l):Rows.uptoBulk d ≤ Rows.uptoBulkAll l:=by
 induction l with
 | nil=>cases h
 | cons x r ih =>
   simp only [Rows.uptoBulkAll]
   cases List.mem_cons.1 h with
   | inl e=>subst e;omega
   | inr e=>have:=ih e;omega
theorem bulk_slice {d:DataW H} {a b:List (DataW H)} (h:d ∈ a):Rows.uptoBulk d ≤ Rows.uptoBulk (.slice a b):=by
 have:=bulk_le h
 simp only [Rows.uptoBulk]
 omega
theorem open_listU {α:Type} [Inhabited α] (f:α→List Value) (Pr:α→Prop) {T E:TypeId} {C:Nat} (hT:P.underlying T = some (.slice E)) (hC:P.cellsOf E = C) (h0:0 < C)
  (hel:∀ (n:Nat) (cs:List Value) (y:DataW H × List MemPlace),cs.length = C→DataW.trod enc P W 0 (fun _=>true) true n E cs = some y→Light P E y.1→Rows.uptoBulk y.1 ≤ 1048576→∃ a,cs = f a∧Pr a)
  {n:Nat} {cs:List Value} {x:DataW H × List MemPlace} (h:DataW.trod enc P W 0 (fun _=>true) true n T cs = some x) (hw:Light P T x.1) (hu:Rows.uptoBulk x.1 ≤ 1048576):∃ (v:Value) (l:List α),cs = [v]∧Sl W W.heap.size C v l.length (l.flatMap f)∧∀ a ∈ l,Pr a∧(f a).length = C:=by
 rcases open_slice hT h with ⟨rfl,_⟩ | ⟨a,len,cap,m,k,D,Pl,rfl,_,hl,hm,hmm,rfl,hx⟩
 ·exact ⟨_,[],rfl,Sl.nil _ _ _,fun a h=>by cases h⟩
 ·simp only [if_true] at hmm
  subst hmm
  have hD:∀ i,i < len→Light P E (D i):=fun i hi=>Light.elem hT hw (List.mem_map.2 ⟨i,List.mem_range.2 hi,rfl⟩)
  have hU:∀ i,i < len→Rows.uptoBulk (D i) ≤ 1048576:=fun i hi=>Nat.le_trans (bulk_slice (List.mem_map.2 ⟨i,List.mem_range.2 hi,rfl⟩)) hu
  have each:∀ i,∃ q:α,i < len→W.cells? 0 (a.add (i * C)) C = some (f q)∧Pr q∧(f q).length = C:=fun i=>by
   by_cases hi:i < len
   ·obtain ⟨cs',h1,h2⟩:=hx i (by omega)
    rw [hC] at h1
    obtain ⟨_,hlen,_⟩:=World.cells?_some h1
    obtain ⟨q,rfl,hq⟩:=hel _ _ _ hlen h2 (hD i hi) (hU i hi)
    exact ⟨q,fun _=>⟨h1,hq,hlen⟩⟩
   ·exact ⟨default,fun h=>absurd h hi⟩
  obtain ⟨Q,hQ⟩:=Classical.axiomOfChoice each
  have hlen:((List.range len).map Q).length = len:=by simp
  have hfl:∀ b ∈ (List.range len).map Q,Pr b∧(f b).length = C:=fun b hb=>by
   obtain ⟨i,hi,rfl⟩:=List.mem_map.1 hb
   exact ⟨(hQ i (List.mem_range.1 hi)).2.1,(hQ i (List.mem_range.1 hi)).2.2⟩
  refine ⟨_,(List.range len).map Q,rfl,?_,hfl⟩
  have hfl2:=flat_len f C _ (fun b hb=>(hfl b hb).2)
  rw [hlen] at hfl2 ⊢
  refine ⟨_,_,rfl,hl,hm,hfl2,fun hp=>?_⟩
  obtain ⟨b,o,spot⟩:=a
  obtain ⟨_,_,hc0⟩:=World.cells?_some (hQ 0 hp).1
  have h00:=hc0 0 h0
  rw [List.getElem?_eq_getElem (by rw [(hQ 0 hp).2.2];exact h0)] at h00
  have hspot:spot = none:=by simpa [Addr.add] using World.cell?_spot h00
  subst hspot
  refine ⟨b,o,rfl,?_,fun j u hu=>?_⟩
  ·have:=World.block_lt_of_cell? W _ h00
   simpa [Addr.add_lit] using this
  ·have hj:j < len * C:=by
    have:=(List.getElem?_eq_some_iff.1 hu).1
    rwa [hfl2] at this
   have hd:j / C < len:=Nat.div_lt_of_lt_mul (by rw [Nat.mul_comm];exact hj)
   have hr:j % C < C:=Nat.mod_lt _ h0
   have he:j = j / C * C + j % C:=by rw [Nat.mul_comm];exact (Nat.div_add_mod j C).symm
   obtain ⟨_,hll,hcc⟩:=World.cells?_some (hQ (j / C) hd).1
   have hc:=hcc (j % C) hr
   rw [he,flat_at f C _ (fun b hb=>(hfl b hb).2) _ _ (by rw [hlen];exact hd) hr] at hu
   simp only [List.getElem_map,List.getElem_range] at hu
   rw [he]
   have e2:(some u:Option Value) = some ((f (Q (j / C)))[j % C]'(by omega)):=by rw [← hu];exact List.getElem?_eq_getElem _
   rw [Option.some.inj e2,← List.getElem?_eq_getElem]
   simpa [Addr.add_lit,Nat.add_assoc] using hc
end
section
variable {H:Type} {enc:TypeId × Value→H} {W:World}
theorem trod_eraU {n:Nat} {cs:List Value} {y:DataW H × List MemPlace} (h:DataW.trod enc Tryz.prog W 0 (fun _=>true) true n 42 cs = some y) (hu:Rows.uptoBulk y.1 ≤ 1048576):∃ x:EraF,cs = x.cells∧x.fm.size ≤ 1048576:=by
 obtain ⟨e,ru,f,en,rfl,-,-⟩:=trod_era h
 refine ⟨⟨e,ru,f,en⟩,rfl,?_⟩
 obtain ⟨xs,m,_,rfl,hl,hlen,hf⟩:=DataW.trod_struct Tryz.underlying42 h
 match xs,hlen with
 | [y0,y1,y2,y3,y4,y5],_ =>
   have h7:=hf 3 _ rfl
   obtain ⟨s,e7,e8,-⟩:=DataW.trod_string Tryz.underlying9 h7
   have h9:f = s:=by
    have e9:([.string f]:List Value) = [.string s]:=e7
    injection e9 with e9
    injection e9
   have h10:Rows.uptoBulk y3.1 ≤ 1048576:=by simp only [List.map,Rows.uptoBulk,Rows.uptoBulkAll] at hu;omega
   rw [e8] at h10
   have h11:s.data.toList.length ≤ 1048576:=by simp only [Rows.uptoBulk] at h10;omega
   show f.size ≤ _
   rw [h9,Lib.size_eq]
   exact h11
theorem open_worldU {r:Reach} {base:Nat} {v:Value} {d:DataW H} {p:List MemPlace} (hok:Value.okWide Tryz.prog W r base 27 v) (h:DataW.Trod enc Tryz.prog W 0 (fun _=>true) true 27 v d p) (hw:Light Tryz.prog 27 d) (hu:Rows.uptoBulk d ≤ 1048576) :
  ∃ (zn:ByteArray) (ev sv:Value) (l:List EraF) (S:List SetF),v = worldA zn ev sv∧ErasR W W.heap.size ev l∧SetsR W W.heap.size sv S∧(∀ x ∈ l,x.fm.size < 4294967281)∧((∀ s ∈ S,letOk s.l)∧(∀ s ∈ S,numsR s.l)∧l.length ≤ 1300000000000):=by
 have hu:Tryz.prog.underlying 27 = _:=Tryz.underlying27
 simp only [Value.okWide,hu] at hok
 obtain ⟨cs,rfl,hsz,_⟩:=hok
 obtain ⟨fuel,hg⟩:=h
 obtain ⟨xs,m,_,e0,hl,hlen,hf⟩:=DataW.trod_struct Tryz.underlying27 hg
 clear hg
 match xs,hlen with
 | [y0,y1],_ =>
   injection e0 with e0 e00
   subst e0
   have h0:=hf 0 _ rfl
   have h1:=hf 1 _ rfl
   have u0:Rows.uptoBulk y0.1 ≤ 1048576:=by simp only [List.map,Rows.uptoBulk,Rows.uptoBulkAll] at hu;omega
   have w0:=Light.part Tryz.underlying27 hw (i:=0) (t:=24) (d:=y0.1) rfl rfl
   have w1:=Light.part Tryz.underlying27 hw (i:=1) (t:=25) (d:=y1.1) rfl rfl
   obtain ⟨sv,S,e1,hs,hs2⟩:=open_listW (C:=2) SetF.cells (fun s=>Ruls W W.heap.size s.v s.l∧letOk s.l∧numsR s.l) Tryz.underlying25 (by kernel_rfl) (by decide) (fun n cs y _ hy hw=>trod_setI hy hw) h1 w1
   obtain ⟨zs,m2,_,e2,hl2,hlen2,hf2⟩:=DataW.trod_struct Tryz.underlying24 h0
   match zs,hlen2 with
   | [z0,z1],_ =>
     rw [e2] at w0 u0
     have u2:Rows.uptoBulk z1.1 ≤ 1048576:=by simp only [List.map,Rows.uptoBulk,Rows.uptoBulkAll] at u0;omega
     obtain ⟨zn,e3,_,-⟩:=DataW.trod_string Tryz.underlying9 (hf2 0 _ rfl)
     have w2:=Light.part Tryz.underlying24 w0 (i:=1) (t:=22) (d:=z1.1) rfl rfl
     obtain ⟨ev,l,e4,he,he2⟩:=open_listU (C:=12) EraF.cells (fun x=>x.fm.size ≤ 1048576) Tryz.underlying22 (by kernel_rfl) (by decide) (fun n cs y _ hy hw hu=>trod_eraU hy hu) (hf2 1 _ rfl) w2 u2
     have hlen9:l.length ≤ 1300000000000:=by
      obtain ⟨A9,c9,e9,_,_⟩:=he.form
      have h9:=open_lenW Tryz.underlying22 (hf2 1 _ rfl) w2 (A:=A9) (m:=l.length) (c:=c9) (by first | exact e4 | (rw [e4]) | (rw [e4,e9]))
      rw [show Tryz.prog.bytesOf 42 = 112 by kernel_rfl] at h9
      omega
     rw [show Tryz.prog.cellsOf 27 = 3 by kernel_rfl] at hl
     obtain ⟨c⟩:=cs
     simp only [Value.cells] at hl
     match c,hl with
     | [v0,v1,v2],_ =>
       have q0:([v0]:List Value) = [.string zn]:=e3
       have q1:([v1]:List Value) = [ev]:=e4
       have q2:([v2]:List Value) = [sv]:=e1
       injection q0 with q0
       injection q1 with q1
       injection q2 with q2
       subst q0 q1 q2
       exact ⟨zn,v1,v2,l,S,rfl,he,⟨hs,fun s hs3=>(hs2 s hs3).1.1⟩,fun x hx=>by have:=(he2 x hx).1;omega,⟨fun s hs3=>(hs2 s hs3).1.2.1,fun s hs3=>(hs2 s hs3).1.2.2,hlen9⟩⟩
end
end
section -- GOpen
open Go Go.ChangeShapes Go.WideShapes Go.ChangeAt Go.RowKit Go.Deep
section
variable {H:Type} {enc:TypeId × Value→H} {W:World}
theorem flat_ints (l:List Int):l.flatMap (fun n=>[Value.int .i64 n]) = intsV l:=by
 induction l with
 | nil=>rfl
 | cons a t ih=>rw [List.flatMap_cons,ih];rfl
theorem open_nums {r:Reach} {base:Nat} {v:Value} {d:DataW H} {p:List MemPlace} (hok:Value.okWide Tryz.prog W r base 28 v) (h:DataW.Trod enc Tryz.prog W 0 (fun _=>true) true 28 v d p) :
  ∃ l:List Int,Nums W W.heap.size v l:=by
 obtain ⟨a,len,cap,rfl⟩:=okWide_slice Tryz.underlying28 hok
 obtain ⟨fuel,hf⟩:=h
 obtain ⟨v,l,e,hs,hl⟩:=open_list (C:=1) (fun n:Int=>[Value.int .i64 n]) (fun _=>True) Tryz.underlying28 (by kernel_rfl) (by decide) (fun n cs y _ hy=>by
  obtain ⟨a,e,_⟩:=DataW.trod_int Tryz.underlying3 hy
  exact ⟨a,e,trivial⟩) hf
 simp only [Value.cells,List.cons.injEq,and_true] at e
 subst e
 rw [flat_ints] at hs
 exact ⟨l,hs⟩
end
end
end Go.Proofs.YteekjfgjmccdnaaGreatDoor
section -- RowZoneUnivsUpto
namespace Go.Proofs.YteekjfgjmccdnaaGreatDoor.zoneUnivsUpto
open Go.ChangeShapes Go.WideShapes Go.ChangeAt Go.RowKit
open Go.ChangeMaps (open_string shut_string)
set_option linter.unusedVariables false
theorem own:ownKnob Tryz.prog.godebug = none:=by kernel_rfl
theorem laidOut:laidOutB Tryz.prog = true:=by kernel_rfl
theorem contract (H:Type) (enc:TypeId × Value→H) (W:World) (base:Nat) (args:Array Value) (ds gs:List (DataW H)) (before:List MemPlace)
  (hval:∀ (j:Nat) t v,Tryz.f3.params[j]? = some t→args[j]? = some v→Value.okWide Tryz.prog W .any base t v)
  (hW:DataW.Whole enc Tryz.prog Tryz.f3.params.toList Rows.zoneUnivsSpec.vars false W args.toList ds gs before) (hwt:(DataW.weightsEach Tryz.prog (Tryz.f3.params.toList ++ (Rows.OpenSpec.upto Rows.zoneUnivsSpec).bare.plain.varTypes Tryz.prog) (ds ++ gs)).all (· ≤ reachBytes) = true) (hL:laidMetH Tryz.prog Rows.zoneUnivsUptoRow.laid W) (hk:Rows.uptoSmall H (ds ++ gs) = true) (hsh:W.ShapedOpen Tryz.prog) :
  Calls Tryz.prog 3 args W fun e W'=>∃ v,e = .returned v∧Rows.zoneUnivsSpec.post enc Tryz.prog Tryz.f3 false true false false W args v W':=by
 have hW':=hW
 obtain ⟨p,q,hA0,hV,rfl,hfz,hnd⟩:=hW
 have hA:DataW.TrodAll enc Tryz.prog W 0 (fun _=>true) true Tryz.f3.params.toList args.toList ds p:=hA0
 rw [Tryz.params3] at hA hval
 obtain ⟨v0,vs0,d0,ds0,p0,q0,hargs,rfl,rfl,h0,r0⟩:=trodAll_cons hA
 obtain ⟨v1,vs1,d1,ds1,p1,q1,rfl,rfl,rfl,h1,r1⟩:=trodAll_cons r0
 obtain ⟨rfl,rfl,rfl⟩:=trodAll_nil r1
 obtain rfl:args = #[v0,v1]:=by cases args;simp_all
 obtain ⟨rfl,rfl⟩:=trodVars_none hV
 have k0:=h0
 have lt0:∀ x ∈ p0,x.block < W.heap.size:=by obtain ⟨m,hm⟩:=k0;exact DataW.trod_lt m _ _ _ hm
 have lw0:Light Tryz.prog 27 d0:=fun k hk=>by have:=List.all_eq_true.1 hwt k (DataW.weights_mem_each (j:=0) (t:=27) (d:=d0) rfl rfl k hk);exact of_decide_eq_true this
 have hu0:Rows.uptoBulk d0 ≤ 1048576:=Nat.le_trans (bulk_le (List.mem_append_left _ (List.mem_cons_self))) (of_decide_eq_true hk)
 obtain ⟨zn0,ev0,sv0,l0,s0,rfl,he0,hs0,hf0,ht0⟩:=open_worldU (hval 0 27 v0 rfl rfl) h0 lw0 hu0
 have k1:=h1
 have lt1:∀ x ∈ p1,x.block < W.heap.size:=by obtain ⟨m,hm⟩:=k1;exact DataW.trod_lt m _ _ _ hm
 obtain ⟨l1,w1⟩:=open_nums (hval 1 28 v1 rfl rfl) h1
 clear hA0
 refine (univs_walk W zn0 ev0 sv0 l0 s0 v1 l1 he0 hs0 hf0 ht0 w1 (ahead_in (by kernel_rfl) hL) (tab_in (ahead_in (by kernel_rfl) hL)) (Tryz.maxL_of hsh)).mono fun e W' ⟨he,bel⟩=>?_
 subst he
 exact ⟨_,rfl,_,_,_,[],_,[],hW',trodAll_mk1 (shut_bool Tryz.underlying4 _),(trodAll_cons_mk (Below.trod laidOut (by kernel_rfl) (of_decide_eq_true (by kernel_rfl)) k0 bel lt0) (trodAll_cons_mk (Below.trod laidOut (by kernel_rfl) (of_decide_eq_true (by kernel_rfl)) k1 bel lt1) trodAll_mk0)),rfl,bel.frame _,fun h=>by cases h⟩
noncomputable def laidWorld (os:Os):World :=
 World.laidAll Tryz.prog os Rows.zoneUnivsUptoRow.laid
theorem laid_met (os:Os):laidMet Tryz.prog Rows.zoneUnivsUptoRow.laid ((laidWorld os).forCall (fun _ _=>0) ⟨#[],#[.agg #[.string ⟨#[]⟩,.slice none 0 0,.slice none 0 0],.slice none 0 0],[]⟩).memory :=
 laidMet_laidAll _ (by kernel_rfl) (by kernel_rfl)
theorem reads (os:Os) {H:Type} (enc:TypeId × Value→H):∃ places,DataW.whole enc Tryz.prog ((laidWorld os).forCall (fun _ _=>0) ⟨#[],#[.agg #[.string ⟨#[]⟩,.slice none 0 0,.slice none 0 0],.slice none 0 0],[]⟩).memory Tryz.f3.params.toList Rows.zoneUnivsSpec.vars false (#[.agg #[.string ⟨#[]⟩,.slice none 0 0,.slice none 0 0],.slice none 0 0]:Array Value).toList 8 = some ([.agg [.agg [.lit (.string []),.nil],.nil],.nil],[],places) :=
 ⟨[],by kernel_rfl⟩
theorem lifted (os:Os) (started:os.Started) (H:Type) (enc:TypeId × Value→H) (F:Stop.Interp) :
  ReturnsInHanded {} Tryz.checked os 3 .any ((Rows.OpenSpec.upto Rows.zoneUnivsSpec).preRow enc Tryz.prog Tryz.f3 Rows.zoneUnivsUptoRow.domain false Rows.zoneUnivsUptoRow.laid) (((Rows.OpenSpec.upto Rows.zoneUnivsSpec).at F).post enc Tryz.prog Tryz.f3 false true false false):=by
 obtain ⟨places,hx⟩:=reads os enc
 refine returnsInHanded_of_row (C:=Tryz.checked) (s:=Rows.OpenSpec.upto Rows.zoneUnivsSpec) own started (by kernel_rfl) Tryz.func3
  (witness_row_at (enc:=enc) (C:=Tryz.checked) false (laidWorld os) #[.agg #[.string ⟨#[]⟩,.slice none 0 0,.slice none 0 0],.slice none 0 0] (World.laidAll_os _ _ _) (by kernel_rfl) (by kernel_rfl) (by kernel_rfl)
    (OpenSpec.preRow_of_cond 8 hx (by kernel_rfl) (fun k hk=>by cases hk;kernel_rfl) (by kernel_rfl) (laid_met os))) ?_
 intro W base args ds gs before hval hW _ hcond hwt hL hsh _
 exact contract H enc W base args ds gs before hval hW hwt hL (hcond _ rfl) hsh
theorem said:Rows.ZoneUnivsUptoSaid :=
 OpenClaim.holds_of_cond 3 Tryz.f3 rfl rfl rfl rfl rfl rfl rfl ⟨rfl,rfl,rfl,rfl,rfl⟩ rfl rfl rfl rfl rfl (by kernel_rfl) Tryz.func3 (by kernel_rfl)
  (of_decide_eq_true (by kernel_rfl)) (by unfold Func.isWrapper;first | (rw [if_pos (by decide +kernel)];kernel_rfl) | (rw [if_neg (by decide +kernel)];exact ⟨rfl,rfl⟩))
  (fun os started H enc _ F=>by rw [OpenClaim.pre_eq_preRow];exact lifted os started H enc F)
theorem plain (f : FuncId) (fn : Func) (hf : Tryz.pinned.checked.prog.funcNamed "meridian/meridianlaw13.ZoneUnivs" = some f) (hfn : Tryz.pinned.checked.prog.funcs[f]? = some fn) :
  false = Tryz.pinned.checked.prog.looks []∧∀ (j:Nat) t,fn.params[j]? = some t→Tryz.pinned.checked.prog.wantsStandIn t = false:=by
 obtain rfl : f = 3 := Option.some.inj ((show Tryz.prog.funcNamed "meridian/meridianlaw13.ZoneUnivs" = some 3 by kernel_rfl).symm.trans hf) |>.symm
 obtain rfl:fn = Tryz.f3:=(Option.some.inj (Tryz.func3.symm.trans hfn)).symm
 refine ⟨by kernel_rfl,fun j t ht=>?_⟩
 rw [Tryz.params3] at ht
 have hall:∀ t ∈ [27,28],Tryz.prog.wantsStandIn t = false:=by
  intro t ht
  simp only [List.mem_cons,List.not_mem_nil,or_false] at ht
  rcases ht with rfl | rfl
  all_goals kernel_rfl
 exact hall t (by simpa using Array.mem_of_getElem? ht)
theorem card:Rows.ZoneUnivsUptoCardSaid :=
 Claim7.holds_tied_plain_at .later [] _ _ _ _ said (fun _ h=>by cases h) (by kernel_rfl) (fun _ h=>by cases h) zoneUnivsUpto_row_tie rfl ⟨rfl,rfl⟩ (by kernel_rfl) rfl plain (by kernel_rfl)
#print axioms card
end Go.Proofs.YteekjfgjmccdnaaGreatDoor.zoneUnivsUpto
end