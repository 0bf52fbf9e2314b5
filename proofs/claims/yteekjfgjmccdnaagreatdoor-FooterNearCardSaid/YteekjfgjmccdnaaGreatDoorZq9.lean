/-
  A region that draws its order, operation by operation, whose last operations come behind all others in one order: the others leave what is known of their slots; the last ones are walked as they stand.
-/
import Derived.Test.YteekjfgjmccdnaaGreatDoorZq8
set_option maxHeartbeats 16000000
set_option maxRecDepth 100000
namespace Go.Proofs.YteekjfgjmccdnaaGreatDoor
section -- GRows
open Go Go.RowKit Go.Shelf
structure RowF where
 v:Value
 D:List FrI
 letter:ByteArray
instance:Inhabited RowF:=⟨⟨.slice none 0 0,[],⟨#[]⟩⟩⟩
def RowF.cells (r:RowF):List Value:=[r.v,.string r.letter]
theorem infoRow:(Tryz.prog.info? 121).map (fun i=>(i.zero,i.size,i.bytes)) = some (some (.agg #[.slice none 0 0,.string ⟨#[]⟩]),2,40):=by kernel_rfl
theorem rule_right {S:List SetF} (h:∀ s ∈ S,rightB s.l = true) (x:EraF):rightB (ruleE S x) = true:=by
 unfold ruleE
 split
 ·exact right_nil
 ·exact set_right h x.ru
structure RowOk (S:List SetF) (x:EraF) (r:RowF):Prop where
 right:RightR (ruleE S x) (r.D.map FrI.f)
 letter:r.letter = letV (ruleE S x)
 len:r.D.length ≤ 100000
 bd:∀ y ∈ r.D,(-1000000000000000 ≤ y.f.nominal∧y.f.nominal ≤ 1000000000000000)∧-1000000000000000 ≤ y.f.save∧y.f.save ≤ 1000000000000000
theorem rowOk_of {S:List SetF} (hS:∀ s ∈ S,rightB s.l = true) {x:EraF} {r:RowF} (hst:Stab Fir.nominal (genL (ruleE S x) 1890 2110) (r.D.map FrI.f)) (hl:r.letter = letV (ruleE S x)):RowOk S x r:=by
 obtain ⟨A,hA,hs,-⟩:=right_yes (rule_right hS x)
 have e:=hst.unique hs
 obtain ⟨h1,h2⟩:=D_ok (rule_right hS x) hst
 exact ⟨by rw [e];exact hA,hl,h1,h2⟩
theorem rowOk_nil {S:List SetF} (hS:∀ s ∈ S,rightB s.l = true) {x:EraF} (h0:x.ru.size = 0):RowOk S x ⟨.slice none 0 0,[],⟨#[]⟩⟩:=by
 have e:ruleE S x = []:=by unfold ruleE;rw [if_pos h0]
 refine rowOk_of hS ?_ ?_
 ·rw [e];exact Stab.nil
 ·rw [e];rfl
theorem own_ne {W:World} {X:Nat} {t e:TypeId} {cs:Array Value} {base sz n:Nat} {u:Value} {xs:List Value} (hx:Blk W X t cs) (ho:W.ownsRow base e sz u n xs) (hte:t ≠ e):u.ownBlock ≠ some X:=fun h=>by
 rcases ho.2 with ⟨rfl,_⟩ | ⟨g,cap,cur,rfl,hb,hg,-⟩
 ·cases h
 ·have h1:g = X:=by injection h
  subst h1
  unfold Blk at hx
  rw [hx] at hg
  injection hg with hg
  injection hg with _ hg
  exact hte hg
theorem frisN_grown {W W':World} {v u:Value} {D:List FrI} {base sz n:Nat} {xs:List Value} (h:FrisN W v D) (ho:W.ownsRow base 121 sz u n xs) (hg:W.grownBy W' u.ownBlock):FrisN W' v D:=by
 have hne:∀ (b:Nat) (cs:Array Value) (fr:Nat × Nat),W.heap[b]? = some (Obj.cells cs 129 fr)→W'.heap[b]? = W.heap[b]?:=fun b cs fr hb=>by
  refine hg.block b (Array.getElem?_eq_some_iff.1 hb).1 fun e=>?_
  rcases ho.2 with ⟨rfl,_⟩ | ⟨g,cap,cur,rfl,hb2,hg2,-⟩
  ·cases e
  ·have h1:b = g:=by injection e
   subst h1
   rw [hb] at hg2
   injection hg2 with hg2
   injection hg2 with _ hg2
   revert hg2
   decide
 obtain ⟨⟨A,c,rfl,h1,h2,hl,hc⟩,hty⟩:=h
 refine ⟨⟨A,c,rfl,h1,h2,hl,fun hn=>?_⟩,hty.kept hne⟩
 obtain ⟨b,o,rfl,hb,hcc⟩:=hc hn
 obtain ⟨cs,fr,hbt⟩:=hty b o _ _ rfl
 exact ⟨b,o,rfl,Nat.lt_of_lt_of_le hb hg.size,fun j y hy=>(World.cell?_of_block (hne b cs fr hbt)).trans (hcc j y hy)⟩
def RowsM (W:World) (u:Value) (R:List RowF):Prop:=Sl W W.heap.size 2 u R.length (R.flatMap RowF.cells)∧∀ r ∈ R,FrisN W r.v r.D
theorem RowsM.below {W W':World} {u:Value} {R:List RowF} (h:RowsM W u R) (hb:Below W.heap.size W W'):RowsM W' u R:=⟨Sl.more (Sl.below h.1 hb) hb.size,fun r hr=>(h.2 r hr).below hb⟩
theorem RowsM.form {W:World} {u:Value} {R:List RowF} (h:RowsM W u R):∃ A c,u = .slice A R.length c∧R.length ≤ c∧c ≤ maxLen:=by obtain ⟨A,c,e,h1,h2,_⟩:=h.1;exact ⟨A,c,e,h1,h2⟩
theorem RowsM.cells {W:World} {u:Value} {R:List RowF} (h:RowsM W u R) (hl:0 < R.length):∃ b o c,u = .slice (some ⟨b,o,none⟩) R.length c∧b < W.heap.size∧∀ i (hi:i < R.length),W.cell? ⟨b,o + i * 2,none⟩ = some R[i].v∧W.cell? ⟨b,o + i * 2 + 1,none⟩ = some (.string R[i].letter):=by
 obtain ⟨b,o,c,e,hb,hc⟩:=Sl.at_ h.1 hl
 refine ⟨b,o,c,e,hb,fun i hi=>?_⟩
 have hk:∀ k u,k < 2→(RowF.cells R[i])[k]? = some u→W.cell? ⟨b,o + i * 2 + k,none⟩ = some u:=fun k u hk hu=>by
  rw [Nat.add_assoc]
  exact hc _ u (by rw [flat_at RowF.cells 2 R (fun a _=>rfl) i k hi hk];exact hu)
 exact ⟨hk 0 _ (by omega) rfl,hk 1 _ (by omega) rfl⟩
def RowsPost (w:World) (S:List SetF) (l:List EraF) (o:Ending) (w':World):Prop :=
 (∃ u R,o = .returned u∧R.length = l.length∧(∀ i (h:i < R.length) (h2:i < l.length),RowOk S l[i] R[i])∧RowsM w' u R)∧Below w.heap.size w w'
theorem rows_any (zn:ByteArray) (ev sv:Value) (B:Nat) (l:List EraF) (S:List SetF) (w:World) (hz:ZW w B ev sv l S) (hS:∀ s ∈ S,rightB s.l = true) (hl:l.length ≤ 1000000) :
  Calls Tryz.prog 62 #[worldA zn ev sv] w (RowsPost w S l):=by
 obtain ⟨A,cA,rfl,hlc,hcm⟩:=hz.eras.form
 obtain ⟨A2,cS,rfl,-,-⟩:=hz.sets.form
 unfold maxLen at hcm
 have hb0:Below w.heap.size w (w.alloc (.cells #[.string zn,.slice A l.length cA,.slice A2 S.length cS] 27)):=(Below.refl w.heap.size w).alloc (Nat.le_refl _) _
 have HX:=Lib.hid (Blk.new w 27 #[.string zn,.slice A l.length cA,.slice A2 S.length cS])
 have HB:=Lib.hid hb0
 have HZ0:=Lib.hid hz
 have HS:=Lib.hid hS
 obtain ⟨i0,hi0,hz0,hz1,hz2⟩:=info_parts infoRow
 clear hz hb0 hS
 unfold worldA
 go_enter Tryz.func62,Tryz.ntmps62
 go_wp2_with fail
 obtain ⟨W0,hW0⟩:∃ W,w.alloc (.cells #[.string zn,.slice A l.length cA,.slice A2 S.length cS] 27) = W:=⟨_,rfl⟩
 rw [hW0] at HX HB
 try simp only [hW0]
 clear hW0
 go_loopw [3,4] (fun u iv wr=>∃ R:List RowF,R.length ≤ l.length∧iv = .int .i64 R.length∧wr.ownsRow w.heap.size 121 2 u R.length (R.flatMap RowF.cells)∧(∀ r ∈ R,FrisN wr r.v r.D)∧(∀ i (h:i < R.length) (h2:i < l.length),RowOk S l[i] R[i])∧Blk wr w.heap.size 27 #[.string zn,.slice A l.length cA,.slice A2 S.length cS]∧Below w.heap.size w wr) (fun _ iv _=>l.length - (intOf iv).toNat)
 case atStart=>exact ⟨[],Nat.zero_le _,rfl,World.ownsRow_nil _ _ _ _,fun _ h=>absurd h List.not_mem_nil,fun i h=>absurd h (Nat.not_lt_zero i),HX.out,HB.out⟩
 case round =>
  obtain ⟨R,hR,rfl,hown,hfs,hro,hxb,hbw⟩:=hrel
  have HOW:=Lib.hid hown
  have HFS:=Lib.hid hfs
  have HRO:=Lib.hid hro
  have HXW:=Lib.hid hxb
  have HBW:=Lib.hid hbw
  have HZW:=Lib.hid (HZ0.out.below hbw)
  obtain ⟨A5,c5,hu⟩:=(Sl.of_own hown).form
  subst hu
  have hws:=hbw.size
  have hxl:=HXW.out.lt
  have x0:=HXW.out.cell 0 (v:=.string zn) rfl
  have x1:=HXW.out.cell 1 (v:=.slice A l.length cA) rfl
  have x2:=HXW.out.cell 2 (v:=.slice A2 S.length cS) rfl
  clear hown hfs hro hxb hbw
  by_cases hlt:R.length < l.length
  ·have hd:decide ((R.length:Int) < (l.length:Int)) = true:=decide_eq_true (by omega)
   obtain ⟨bb,o,c',e,hbb,hc⟩:=HZW.out.eras.cells (by omega)
   cases e
   have hx:=hc _ hlt
   have hbbl:bb < wr.heap.size:=by have:=HZW.out.le;omega
   obtain ⟨x,hxk⟩:∃ x,l[R.length] = x:=⟨_,rfl⟩
   rw [hxk] at hx
   have HXK:=Lib.hid hxk
   obtain ⟨c0,c1,c2,c3,c4,c5,c6,c7,c8,c9,c10,c11⟩:=hx
   have HBI2:=Lib.hid ((Below.refl wr.heap.size wr).alloc (Nat.le_refl _) (.cells #[.slice none 0 0,.string ⟨#[]⟩] 121))
   have HR2:=Lib.hid (Blk.new wr 121 #[.slice none 0 0,.string ⟨#[]⟩])
   have HRL:=Lib.hid (show R.length ≤ 1000000 by omega)
   clear hc hxk c0 c2 c3 c4 c5 c6 c7 c8 c9 c10 c11
   by_cases hru:x.ru.size = 0
   ·have hem:(x.ru.toList == []) = true:=by rw [emp_size,decide_eq_true hru]
    have HROK:=Lib.hid (rowOk_nil HS.out hru)
    obtain ⟨rr,hrr⟩:∃ r:RowF,(⟨.slice none 0 0,[],⟨#[]⟩⟩:RowF) = r:=⟨_,rfl⟩
    have HRR:=Lib.hid (show FrisN (wr.alloc (.cells #[.slice none 0 0,.string ⟨#[]⟩] 121)) rr.v rr.D by rw [← hrr];exact ⟨Sl.nil _ _ _,TyF.nil _ _ _⟩)
    have HRV:=Lib.hid (show rr.v = .slice none 0 0∧rr.letter = ⟨#[]⟩ by rw [← hrr];exact ⟨rfl,rfl⟩)
    rw [hrr] at HROK
    have HBI5:=HBI2
    clear hru hrr
    have HOW5:=Lib.hid (ownsRow_below HOW.out HBI5.out)
    have HB5:=Lib.hid (HBW.out.trans (HBI5.out.mono HBW.out.size))
    have HX5:=Lib.hid (HXW.out.below HBI5.out HXW.out.lt)
    have hsz5:=HB5.out.size
    go_wp2_with (at_builtin;go_loud (refine wpList_append_own _ rfl _ _ 57 rfl w.heap.size 121 i0 (.agg #[.slice none 0 0,.string ⟨#[]⟩]) 2 40 Tryz.underlying57 hi0 hz0 hz1 hz2 rfl (by decide) _ R.length _ rfl (HOW5.out.alloc _) ⟨wr.heap.size + 1,0,none⟩ 1 1 [.slice none 0 0,.string ⟨#[]⟩] rfl rfl (fun j y hy=>by rw [Addr.add_lit,Nat.zero_add];first | exact (cell_new2 _ _ _ _ _ j).trans (by simpa using hy) | exact (cell_new _ _ _ _ j).trans (by simpa using hy)) (by simp [Value.oneCell']) (by unfold maxLen;omega) (by omega) (by simp;omega) ?_);intro v' w1 hown' hgrow _)
    go_roundw
    case rel =>
     refine ⟨R ++ [rr],?_,by rw [List.length_append];go_num,?_,?_,?_,?_,below_push HB5.out HOW5.out hgrow⟩
     ·rw [List.length_append];exact hlt
     ·rw [List.length_append,List.flatMap_append]
      simpa [RowF.cells,HRV.out] using hown'
     ·intro r hr
      have ho:=HOW5.out.alloc (.cells #[.slice none 0 0,.string ⟨#[]⟩] 121)
      have hab:Below (wr.alloc (.cells #[.slice none 0 0,.string ⟨#[]⟩] 121)).heap.size (wr.alloc (.cells #[.slice none 0 0,.string ⟨#[]⟩] 121)) ((wr.alloc (.cells #[.slice none 0 0,.string ⟨#[]⟩] 121)).alloc (.cells #[.slice none 0 0,.string ⟨#[]⟩] 121)):=(Below.refl _ _).alloc (Nat.le_refl _) _
      rcases List.mem_append.1 hr with hr | hr
      ·exact frisN_grown (((HFS.out r hr).below HBI5.out).below hab) ho hgrow
      ·obtain rfl:r = rr:=by simpa using hr
       exact frisN_grown (HRR.out.below hab) ho hgrow
     ·intro i h h2
      rcases Nat.lt_or_ge i R.length with g | g
      ·rw [List.getElem_append_left g];exact HRO.out i g h2
      ·have:i = R.length:=by rw [List.length_append] at h;simp at h;omega
       subst this
       rw [List.getElem_append_right (Nat.le_refl _)]
       simp only [Nat.sub_self,List.getElem_cons_zero]
       rw [HXK.out];exact HROK.out
     ·exact (HX5.out.alloc (.cells #[.slice none 0 0,.string ⟨#[]⟩] 121)).grown hgrow (own_ne (HX5.out.alloc (.cells #[.slice none 0 0,.string ⟨#[]⟩] 121)) (HOW5.out.alloc (.cells #[.slice none 0 0,.string ⟨#[]⟩] 121)) (by decide))
    case measure=>first | (simp [intOf];done) | (simp [intOf];omega)
   ·have hem:(x.ru.toList == []) = false:=by rw [emp_size,decide_eq_false hru]
    have HRE:=Lib.hid (show ruleE S x = ofRul S x.ru by unfold ruleE;rw [if_neg hru])
    clear hru
    go_wp2_with fail
    obtain ⟨W5,hW5⟩:∃ W,wr.alloc (.cells #[.slice none 0 0,.string ⟨#[]⟩] 121) = W:=⟨_,rfl⟩
    rw [hW5] at HBI2 HR2
    try simp only [hW5]
    clear hW5
    have HZ5:=Lib.hid (HZW.out.below (below_drewN HBI2.out 1))
    have HX5_:=Lib.hid (HXW.out.below HBI2.out HXW.out.lt)
    have hx5l:=HX5_.out.lt
    have x0:=HX5_.out.cell 0 (v:=.string zn) rfl
    have x1:=HX5_.out.cell 1 (v:=.slice (some ⟨bb,o,none⟩) l.length cA) rfl
    have x2:=HX5_.out.cell 2 (v:=.slice A2 S.length cS) rfl
    have c1:=(HBI2.out.cell (p:=⟨bb,o + R.length * 12 + 1,none⟩) (by show bb < _;have:=HZW.out.le;omega)).trans c1
    have HOF:=Lib.hid (wof_any _ zn (.slice (some ⟨bb,o,none⟩) l.length cA) (.slice A2 S.length cS) B S HZ5.out.sets HZ5.out.le x.ru)
    obtain ⟨A3,c3',e3⟩:=ofVal_form HZ5.out.sets x.ru
    have HRU:=Lib.hid (HZ5.out.sets.of_ruls x.ru)
    rw [e3] at HOF HRU
    unfold worldA at HOF
    refine wp_text (by kernel_rfl) (by kernel_rfl) ?_
    intro K hK
    go_wp2_with fail
    refine HOF.out.mono ?_
    rintro e w6 ⟨rfl,hb⟩
    have HB6:=Lib.hid ((below_drewN (Below.refl W5.heap.size W5) 1).trans hb)
    have HR6:=Lib.hid (HRU.out.below (hb.mono HZ5.out.le))
    have hs6:=HB6.out.size
    clear hb x0 x1 x2 c1 HOF HZ5 HRU
    go_wp2_with fail
    refine (rof_any w6 B _ (ofRul S x.ru) HR6.out (by have:=HZW.out.le;have:=HBI2.out.size;omega) (right_small (set_right HS.out x.ru))).mono ?_
    rintro e w7 ⟨u,D,rfl,hst,hfr,hb⟩
    have HB7:=Lib.hid (HB6.out.trans (hb.mono hs6))
    have hr7:=(HR2.out.below HB6.out HR2.out.lt).below hb (Nat.lt_of_lt_of_le HR2.out.lt hs6)
    have HR7:=Lib.hid hr7
    have HFR:=Lib.hid hfr
    have hr7l:=hr7.lt
    have r0:=hr7.cell 0 (v:=.slice none 0 0) rfl
    have r1:=hr7.cell 1 (v:=.string ⟨#[]⟩) rfl
    have f0:=hr7.frozen 0
    have f1:=hr7.frozen 1
    have HROK:=Lib.hid (show RowOk S x ⟨u,D,letV (ofRul S x.ru)⟩ from rowOk_of HS.out (by rw [HRE.out];exact hst) (by rw [HRE.out]))
    obtain ⟨A6,c6',rfl,-,-⟩:=hfr.1.form
    clear hb hr7 hst hfr
    go_wp2_with fail
    refine ⟨by simp [goodB,fits,plainPair,isSeqV,quiet,Act.eval],?_⟩
    obtain ⟨rr,hrr⟩:∃ r:RowF,(⟨.slice A6 D.length c6',D,letV (ofRul S x.ru)⟩:RowF) = r:=⟨_,rfl⟩
    have hf8:=(Fr.setCell (T:=fun k=>k = wr.heap.size) w7 0 (.slice A6 D.length c6') rfl).then (Fr.setCell (b:=wr.heap.size) _ 1 (.string (letV (ofRul S x.ru))) rfl)
    have hn8:FrisN ((w7.setCell ⟨wr.heap.size,0,none⟩ (.slice A6 D.length c6')).setCell ⟨wr.heap.size,1,none⟩ (.string (letV (ofRul S x.ru)))) (.slice A6 D.length c6') D :=
     ⟨fris_other HFR.out.1 HR7.out rfl rfl hf8 (by simp),HFR.out.2.kept fun b cs fr h1=>hf8.block b (Array.getElem?_eq_some_iff.1 h1).1 (fun e=>by have h2:=HR7.out;subst e;unfold Blk at h2;rw [h1] at h2;injection h2 with h2;injection h2 with _ h2;revert h2;decide)⟩
    have hb8:Below wr.heap.size wr ((w7.setCell ⟨wr.heap.size,0,none⟩ (.slice A6 D.length c6')).setCell ⟨wr.heap.size,1,none⟩ (.string (letV (ofRul S x.ru)))):=((HBI2.out.trans (HB7.out.mono HBI2.out.size)).setCell (Nat.le_refl _) _).setCell (Nat.le_refl _) _
    have hr8:=(HR7.out.set 0 (.slice A6 D.length c6')).set 1 (.string (letV (ofRul S x.ru)))
    obtain ⟨w8,hw8⟩:∃ W,(w7.setCell ⟨wr.heap.size,0,none⟩ (.slice A6 D.length c6')).setCell ⟨wr.heap.size,1,none⟩ (.string (letV (ofRul S x.ru))) = W:=⟨_,rfl⟩
    rw [hw8] at hn8 hb8 hr8 ⊢
    have HRR:=Lib.hid (show FrisN w8 rr.v rr.D by rw [← hrr];exact hn8)
    have HRV:=Lib.hid (show rr.v = .slice A6 D.length c6'∧rr.letter = letV (ofRul S x.ru) by rw [← hrr];exact ⟨rfl,rfl⟩)
    rw [hrr] at HROK
    have HBI5:=Lib.hid hb8
    have r0:=hr8.cell 0 (v:=.slice A6 D.length c6') rfl
    have r1:=hr8.cell 1 (v:=.string (letV (ofRul S x.ru))) rfl
    have hr8l:=hr8.lt
    clear hrr hf8 hn8 hb8 hr8 hw8 f0 f1 hr7l
    have HOW5:=Lib.hid (ownsRow_below HOW.out HBI5.out)
    have HB5:=Lib.hid (HBW.out.trans (HBI5.out.mono HBW.out.size))
    have HX5:=Lib.hid (HXW.out.below HBI5.out HXW.out.lt)
    have hsz5:=HB5.out.size
    go_wp2_with (at_builtin;go_loud (refine wpList_append_own _ rfl _ _ 57 rfl w.heap.size 121 i0 (.agg #[.slice none 0 0,.string ⟨#[]⟩]) 2 40 Tryz.underlying57 hi0 hz0 hz1 hz2 rfl (by decide) _ R.length _ rfl (HOW5.out.alloc _) ⟨w8.heap.size,0,none⟩ 1 1 [.slice A6 D.length c6',.string (letV (ofRul S x.ru))] rfl rfl (fun j y hy=>by rw [Addr.add_lit,Nat.zero_add];first | exact (cell_new2 _ _ _ _ _ j).trans (by simpa using hy) | exact (cell_new _ _ _ _ j).trans (by simpa using hy)) (by simp [Value.oneCell']) (by unfold maxLen;omega) (by omega) (by simp;omega) ?_);intro v' w1 hown' hgrow _)
    go_roundw
    case rel =>
     refine ⟨R ++ [rr],?_,by rw [List.length_append];go_num,?_,?_,?_,?_,below_push HB5.out HOW5.out hgrow⟩
     ·rw [List.length_append];exact hlt
     ·rw [List.length_append,List.flatMap_append]
      simpa [RowF.cells,HRV.out] using hown'
     ·intro r hr
      have ho:=HOW5.out.alloc (.cells #[.slice A6 D.length c6',.string (letV (ofRul S x.ru))] 121)
      have hab:Below (w8).heap.size (w8) ((w8).alloc (.cells #[.slice A6 D.length c6',.string (letV (ofRul S x.ru))] 121)):=(Below.refl _ _).alloc (Nat.le_refl _) _
      rcases List.mem_append.1 hr with hr | hr
      ·exact frisN_grown (((HFS.out r hr).below HBI5.out).below hab) ho hgrow
      ·obtain rfl:r = rr:=by simpa using hr
       exact frisN_grown (HRR.out.below hab) ho hgrow
     ·intro i h h2
      rcases Nat.lt_or_ge i R.length with g | g
      ·rw [List.getElem_append_left g];exact HRO.out i g h2
      ·have:i = R.length:=by rw [List.length_append] at h;simp at h;omega
       subst this
       rw [List.getElem_append_right (Nat.le_refl _)]
       simp only [Nat.sub_self,List.getElem_cons_zero]
       rw [HXK.out];exact HROK.out
     ·exact (HX5.out.alloc (.cells #[.slice A6 D.length c6',.string (letV (ofRul S x.ru))] 121)).grown hgrow (own_ne (HX5.out.alloc (.cells #[.slice A6 D.length c6',.string (letV (ofRul S x.ru))] 121)) (HOW5.out.alloc (.cells #[.slice A6 D.length c6',.string (letV (ofRul S x.ru))] 121)) (by decide))
    case measure=>first | (simp [intOf];done) | (simp [intOf];omega)
  ·obtain he:R.length = l.length:=by omega
   have hd:decide ((R.length:Int) < (l.length:Int)) = false:=decide_eq_false (by omega)
   have HLE:=Lib.hid he
   clear he
   go_wp2_with fail
   go_ret
   exact ⟨⟨_,R,rfl,HLE.out,HRO.out,Sl.of_own HOW.out,HFS.out⟩,HBW.out⟩
end
section -- ANear
open Go Go.RowKit Go.Shelf
def nearB (i:Int):Bool:=decide (-2366841600 < i∧i < 3944678400)
theorem near_any (i:Int) (w:World):Calls Tryz.prog 32 #[.int .i64 i] w fun o w'=>o = .returned (.bool (nearB i))∧w' = w:=by
 by_cases h1:-2366841600 < i
 ·have d1:decide (-2366841600 < i) = true:=decide_eq_true h1
  by_cases h2:i < 3944678400
  ·have HV:=Lib.hid (show nearB i = true by unfold nearB;rw [decide_eq_true_eq];omega)
   have d2:decide (i < 3944678400) = true:=decide_eq_true h2
   go_enter Tryz.func32,Tryz.ntmps32
   go_wp2_with fail
   go_ret
   exact ⟨by rw [HV.out];rfl,rfl⟩
  ·have HV:=Lib.hid (show nearB i = false by unfold nearB;rw [decide_eq_false_iff_not];omega)
   have d2:decide (i < 3944678400) = false:=decide_eq_false h2
   go_enter Tryz.func32,Tryz.ntmps32
   go_wp2_with fail
   go_ret
   exact ⟨by rw [HV.out];rfl,rfl⟩
 ·have HV:=Lib.hid (show nearB i = false by unfold nearB;rw [decide_eq_false_iff_not];omega)
  have d1:decide (-2366841600 < i) = false:=decide_eq_false h1
  go_enter Tryz.func32,Tryz.ntmps32
  go_wp2_with fail
  go_ret
  exact ⟨by rw [HV.out];rfl,rfl⟩
end
section -- GShowM
open Go Go.RowKit Go.Shelf
theorem showV_err {f:ByteArray} {off:Int} {dst:Bool} {letter:ByteArray} (h:(kindR f.data.toList).2 = 0):(showV f off dst letter).2 = 0∨showV f off dst letter = (⟨#[]⟩,10):=by
 unfold showV
 rw [if_pos h]
 split
 ·exact .inl rfl
 ·split
  ·split
   ·exact .inl rfl
   ·exact .inr rfl
  ·split
   ·exact .inl rfl
   ·exact .inl rfl
end
section -- HChangeM
open Go Go.RowKit Go.Shelf
def locZ (S:List SetF) (l:List EraF) (i:Int):Loc:=if errZ S l ≠ 0 then .zero else if i < -2199023255552∨2199023255552 < i then .zero else locW (atX S l i) (ruleE S (atX S l i)) i
end
section -- HErr
open Go Go.RowKit Go.Shelf
end
section -- InvT
open Go Go.RowKit
section
variable {P:Program} {ops:Array Oper}
def needs (ops:Array Oper):Nat→Nat→List Nat
 | 0,_=>[]
 | f + 1,k=>match ops[k]? with
   | some o=>(o.after.toList.filter fun e=>Region.binds .any e).flatMap fun e=>e.on :: needs ops f e.on
   | none=>[]
def tailB (ops:Array Oper) (m:Nat):Bool:=(List.range ops.size).all fun k=>decide (k < m) || (List.range k).all fun j=>(needs ops 8 k).contains j
def closedL (ops:Array Oper) (listed:Array Bool):Prop:=∀ i o,ops[i]? = some o→listed.getD i false = true→∀ e ∈ o.after,Region.binds .any e = true→listed.getD e.on false = true
theorem needs_listed {listed:Array Bool} (hc:closedL ops listed):∀ (f k:Nat),(∀ o,ops[k]? = some o→∀ e ∈ o.after,Region.binds .any e = true→listed.getD e.on false = true)→∀ j ∈ needs ops f k,listed.getD j false = true
 | 0,_,_,j,hj=>by cases hj
 | f + 1,k,h,j,hj=>by
   unfold needs at hj
   split at hj
   ·rename_i o ho
    obtain ⟨e,he,hj⟩:=List.mem_flatMap.1 hj
    rw [List.mem_filter] at he
    have h1:=h o ho e (Array.mem_toList_iff.1 he.1) he.2
    rcases List.mem_cons.1 hj with rfl | hj
    ·exact h1
    ·exact needs_listed hc f e.on (fun o' ho'=>hc e.on o' ho' h1) j hj
   ·cases hj
theorem ready_all {m:Nat} (ht:tailB ops m = true) {listed:Array Bool} (hc:closedL ops listed) {i:Nat} (hi:i ∈ Region.ready .any ops listed) (hm:m ≤ i):∀ j,j < i→listed.getD j false = true:=fun j hj=>by
 obtain ⟨-,o,ho,hall⟩:=mem_ready.1 hi
 have hin:=(Array.getElem?_eq_some_iff.1 ho).1
 unfold tailB at ht
 have h1:=List.all_eq_true.1 ht i (List.mem_range.2 hin)
 rw [decide_eq_false (by omega),Bool.false_or] at h1
 have h2:=List.all_eq_true.1 h1 j (List.mem_range.2 hj)
 rw [List.contains_iff_mem] at h2
 exact needs_listed hc 8 i (fun o' ho'=>by rw [ho] at ho';cases ho';exact hall) j h2
theorem not_listed {listed:Array Bool} {i:Nat} (h:listed.getD i true = false):listed.getD i false = false∧i < listed.size:=by
 by_cases hi:i < listed.size
 ·simp only [Array.getD,hi,dif_pos] at h ⊢
  exact ⟨h,trivial⟩
 ·simp [Array.getD,hi] at h
theorem closed_set {listed:Array Bool} (hc:closedL ops listed) {i:Nat} (hi:i ∈ Region.ready .any ops listed):closedL ops (listed.setIfInBounds i true):=fun k o ho hk e he hb=>by
 have hset:∀ x,listed.getD x false = true→(listed.setIfInBounds i true).getD x false = true:=fun x hx=>by
  rw [getD_set']
  split
  ·rfl
  ·exact hx
 rw [getD_set'] at hk
 by_cases hki:i = k∧i < listed.size
 ·obtain ⟨rfl,-⟩:=hki
  obtain ⟨-,o',ho',hall⟩:=mem_ready.1 hi
  rw [ho'] at ho
  cases ho
  exact hset _ (hall e he hb)
 ·rw [if_neg hki] at hk
  exact hset _ (hc k o ho hk e he hb)
theorem any_tail {l:List Oper} (ho:ops = l.toArray) {m:Nat} (ht:tailB ops m = true) {D:List Nat} (hb:invB ops D = true) {R0:Act→World→Prop} :
  ∀ (fuel:Nat) (listed:Array Bool) (t:Nat) (a:Act) (w:World),listed.size = ops.size→m ≤ t→t ≤ ops.size→ops.size - t ≤ fuel→closedL ops listed→(∀ j,j < ops.size→(listed.getD j false = true ↔ j < t)) →
   wpList P ops (Exit.then R0 (fun _ _ _=>False)) (l.drop t) a w→wpAny P .any ops (Exit.then R0 (fun _ _ _=>False)) fuel listed a w:=by
 have hinv:=hb
 simp only [invB,Bool.and_eq_true,decide_eq_true_eq,List.all_eq_true,List.mem_range] at hinv
 obtain ⟨⟨hinv,-⟩,-⟩:=hinv
 have hlen:ops.size = l.length:=by rw [ho];simp
 have hend:∀ {a:Act} {w:World},wpList P ops (Exit.then R0 (fun _ _ _=>False)) (l.drop ops.size) a w→R0 a w:=fun {a w} h=>by
  rw [hlen,List.drop_length] at h
  exact h
 have hnr:∀ (listed:Array Bool) (t:Nat),listed.size = ops.size→t < ops.size→(∀ j,j < ops.size→(listed.getD j false = true ↔ j < t))→t ∈ Region.ready .any ops listed:=fun listed t hsz htl hl=>by
  refine mem_ready.2 ⟨?_,_,Array.getElem?_eq_getElem htl,fun e he hbd=>?_⟩
  ·cases hx:listed.getD t true with
   | false=>rfl
   | true =>
     have:t < listed.size:=by omega
     have h1:listed.getD t false = true:=by simpa [Array.getD,this] using hx
     have:=(hl t htl).1 h1
     omega
  ·have h1:=hinv t htl
   rw [Array.getElem?_eq_getElem htl] at h1
   have h2:=Array.all_eq_true_iff_forall_mem.1 h1 e he
   simp only [hbd,Bool.not_true,Bool.false_or,decide_eq_true_eq] at h2
   exact (hl e.on (by omega)).2 h2
 intro fuel
 induction fuel with
 | zero =>
   intro listed t a w hsz hmt hts hf hc hl h
   obtain rfl:t = ops.size:=by omega
   refine ⟨?_,hend h⟩
   rcases hr:Region.ready .any ops listed with _ | ⟨i,l'⟩
   ·rfl
   ·have hi:i ∈ Region.ready .any ops listed:=by rw [hr];exact List.mem_cons_self ..
    obtain ⟨h0,o,ho,_⟩:=mem_ready.1 hi
    have hin:=(Array.getElem?_eq_some_iff.1 ho).1
    have h1:=(not_listed h0).1
    rw [(hl i hin).2 hin] at h1
    cases h1
 | succ fuel ih =>
   intro listed t a w hsz hmt hts hf hc hl h
   refine ⟨fun hr=>?_,fun i hi=>?_⟩
   ·by_cases htl:t < ops.size
    ·have:=hnr listed t hsz htl hl
     rw [hr] at this
     cases this
    ·obtain rfl:t = ops.size:=by omega
     exact hend h
   ·obtain ⟨h0,o,hio,-⟩:=mem_ready.1 hi
    have hin:=(Array.getElem?_eq_some_iff.1 hio).1
    have h1:=(not_listed h0).1
    have hit:t ≤ i:=by
     rcases Nat.lt_or_ge i t with g | g
     ·rw [(hl i hin).2 g] at h1
      cases h1
     ·exact g
    have hti:i = t:=by
     rcases Nat.lt_or_ge t i with g | g
     ·have:=(hl t (by omega)).1 (ready_all ht hc hi (by omega) t g)
      omega
     ·omega
    subst hti
    have hil:l[i]? = some o:=by rw [ho] at hio;simpa using hio
    have hdr:l.drop i = o :: l.drop (i + 1):=by
     obtain ⟨hlt,e⟩:=List.getElem?_eq_some_iff.1 hil
     rw [List.drop_eq_getElem_cons hlt,e]
    rw [hdr] at h
    have hnext:∀ (a:Act) (w:World),wpList P ops (Exit.then R0 (fun _ _ _=>False)) (l.drop (i + 1)) a w→wpAny P .any ops (Exit.then R0 (fun _ _ _=>False)) fuel (listed.setIfInBounds i true) a w:=fun a w h =>
     ih (listed.setIfInBounds i true) (i + 1) a w (by simpa using hsz) (by omega) (by omega) (by omega) (closed_set hc hi) (fun j hj=>by
      rw [getD_set']
      by_cases hji:i = j∧i < listed.size
      ·rw [if_pos hji]
       exact ⟨fun _=>by omega,fun _=>rfl⟩
      ·rw [if_neg hji,hl j hj]
       exact ⟨fun h=>by omega,fun h=>by omega⟩) h
    unfold wpOp
    rw [hio]
    unfold wpList at h
    dsimp only
    split at h
    ·rename_i hcn
     rw [if_pos hcn]
     rcases h with h | h
     ·exact .inl (Oper.wp_mono hnext h)
     ·exact .inr h
    ·rename_i hcn
     rw [if_neg hcn]
     exact hnext _ _ h
theorem any_invT {a:Act} {D:List Nat} {F:List Fact} {w0:World} {l:List Oper} (ho:ops = l.toArray) {m:Nat} (hms:m ≤ ops.size) (ht:tailB ops m = true) (hb:invB ops D = true) (hstep:Steps P ops a D F w0 0 (l.take m)) {R0:Act→World→Prop}
  (hend:∀ x w',Below w0.heap.size w0 w'→(∀ i,i < m→(F.getD i .any).p (x (D.getD i 0)) w')→wpList P ops (Exit.then R0 (fun _ _ _=>False)) (l.drop m) (frameOf a D x) w') :
  ∀ (fuel:Nat) (listed:Array Bool),listed.size = ops.size→(unlisted listed).length ≤ fuel→closedL ops listed→(∀ i,listed.getD i false = true→i < m)→∀ (x:Nat→Value) (w:World),Below w0.heap.size w0 w →
   (∀ i,listed.getD i false = true→(F.getD i .any).p (x (D.getD i 0)) w)→wpAny P .any ops (Exit.then R0 (fun _ _ _=>False)) fuel listed (frameOf a D x) w:=by
 have hinv:=hb
 simp only [invB,Bool.and_eq_true,decide_eq_true_eq,List.all_eq_true,List.mem_range] at hinv
 obtain ⟨⟨hinv,hlen⟩,hnd⟩:=hinv
 have hul:∀ (listed:Array Bool),listed.size = ops.size→(∀ j,j < ops.size→(listed.getD j false = true ↔ j < m))→ops.size - m ≤ (unlisted listed).length:=fun listed hsz hl=>by
  have e:unlisted listed = List.range' m (ops.size - m):=by
   unfold unlisted
   rw [hsz,show List.range ops.size = List.range m ++ List.range' m (ops.size - m) by
    rw [List.range_eq_range',List.range_eq_range',show ops.size = m + (ops.size - m) by omega]
    have:=List.range'_append (s:=0) (m:=m) (n:=ops.size - m) (step:=1)
    simp at this
    rw [show m + (ops.size - m) - m = ops.size - m by omega]
    exact this.symm,List.filter_append,List.filter_eq_nil_iff.2 (fun j hj=>by rw [(hl j (by have:=List.mem_range.1 hj;omega)).2 (List.mem_range.1 hj)];decide),List.nil_append,List.filter_eq_self.2 (fun j hj=>by
     have:=List.mem_range'_1.1 hj
     cases hx:listed.getD j false with
     | false=>rfl
     | true=>have:=(hl j (by omega)).1 hx;omega)]
  rw [e,List.length_range']
  exact Nat.le_refl _
 have hall:∀ (fuel:Nat) (listed:Array Bool) (x:Nat→Value) (w:World),listed.size = ops.size→(unlisted listed).length ≤ fuel→closedL ops listed→(∀ i,listed.getD i false = true→i < m)→(∀ j,j < m→listed.getD j false = true)→Below w0.heap.size w0 w →
   (∀ i,listed.getD i false = true→(F.getD i .any).p (x (D.getD i 0)) w)→wpAny P .any ops (Exit.then R0 (fun _ _ _=>False)) fuel listed (frameOf a D x) w:=fun fuel listed x w hsz hf hc hlm hml hB hF=>by
  have hl:∀ j,j < ops.size→(listed.getD j false = true ↔ j < m):=fun j _=>⟨hlm j,hml j⟩
  exact any_tail ho ht hb fuel listed m _ w hsz (Nat.le_refl _) hms (Nat.le_trans (hul listed hsz hl) hf) hc hl (hend x w hB fun i hi=>hF i (hml i hi))
 intro fuel
 induction fuel with
 | zero =>
   intro listed hsz hf hc hlm x w hB hF
   refine hall 0 listed x w hsz hf hc hlm (fun j hj=>?_) hB hF
   cases hl:listed.getD j false with
   | true=>rfl
   | false =>
     have:j ∈ unlisted listed:=by
      simp only [unlisted,List.mem_filter,List.mem_range]
      exact ⟨by omega,by rw [hl];rfl⟩
     rw [List.eq_nil_of_length_eq_zero (Nat.le_zero.1 hf)] at this
     cases this
 | succ fuel ih =>
   intro listed hsz hf hc hlm x w hB hF
   by_cases hdone:∀ j,j < m→listed.getD j false = true
   ·exact hall (fuel + 1) listed x w hsz hf hc hlm hdone hB hF
   ·have hnone:Region.ready .any ops listed = []→∀ i,i < ops.size→listed.getD i false = true:=fun hr i=>by
     induction i using Nat.strongRecOn with
     | _ i ih2 =>
       intro hi
       cases hl:listed.getD i true with
       | true =>
         have:i < listed.size:=by omega
         simpa [Array.getD,this] using hl
       | false =>
         exfalso
         have:i ∈ Region.ready .any ops listed:=mem_ready.2 ⟨hl,_,Array.getElem?_eq_getElem hi,fun e he hbd=>by
          have h1:=hinv i hi
          rw [Array.getElem?_eq_getElem hi] at h1
          have h2:=Array.all_eq_true_iff_forall_mem.1 h1 e he
          simp only [hbd,Bool.not_true,Bool.false_or,decide_eq_true_eq] at h2
          exact ih2 e.on h2 (by omega)⟩
         rw [hr] at this
         cases this
    refine ⟨fun hr=>absurd (fun j hj=>hnone hr j (by omega)) hdone,fun i hi=>?_⟩
    obtain ⟨h0,o,hio,halle⟩:=mem_ready.1 hi
    have hin:=(Array.getElem?_eq_some_iff.1 hio).1
    have him:i < m:=by
     rcases Nat.lt_or_ge i m with g | g
     ·exact g
     ·exact absurd (fun j hj=>ready_all ht hc hi g j (by omega)) hdone
    have hl:(l.take m)[i]? = some o:=by
     rw [List.getElem?_take,if_pos him]
     rw [ho] at hio
     simpa using hio
    have hst:=steps_at hstep hl
    rw [Nat.zero_add] at hst
    refine wpOp_of_list hio _ (hst x w _ hB (fun j hj=>?_) fun v w' hv hw=>ih (listed.setIfInBounds i true) (by simpa using hsz) ?_ (closed_set hc hi) (fun k hk=>?_) _ w' (hB.trans (hw.mono hB.size)) fun k hk=>?_)
    ·obtain ⟨e,he,hej⟩:=Array.any_eq_true'.1 hj
     simp only [Bool.and_eq_true,beq_iff_eq] at hej
     have:=halle e he hej.1
     rw [hej.2] at this
     exact hF j this
    ·have:=unlisted_set (listed:=listed) (i:=i) (by omega) (not_listed h0).1
     omega
    ·rw [getD_set'] at hk
     by_cases hik:i = k∧i < listed.size
     ·omega
     ·rw [if_neg hik] at hk
      exact hlm k hk
    ·rw [getD_set'] at hk
     by_cases hik:i = k
     ·subst hik
      rw [upd_same]
      exact hv
     ·rw [if_neg (fun h=>hik h.1)] at hk
      have hks:k < listed.size:=by
       refine Nat.lt_of_not_le fun h=>?_
       simp [Array.getD,show ¬ k < listed.size by omega] at hk
      have hne:D.getD k 0 ≠ D.getD i 0:=by
       rw [List.getD_eq_getElem?_getD,List.getD_eq_getElem?_getD,List.getElem?_eq_getElem (show k < D.length by omega),List.getElem?_eq_getElem (show i < D.length by omega)]
       intro e
       simp only [Option.getD_some] at e
       have hp:=List.pairwise_iff_getElem.1 hnd
       rcases Nat.lt_or_ge k i with h | h
       ·exact hp k i (by omega) (by omega) h e
       ·exact hp i k (by omega) (by omega) (by omega) e.symm
      rw [upd_other x v hne]
      exact (F.getD k .any).keep _ _ _ (hF k hk) hw
theorem wp_invT {id:Nat} {l:List Oper} {Q:Exit→Act→World→Prop} {a:Act} {w:World} (hm:P.follows .mixedOrders = true) (D:List Nat) (F:List Fact) (m:Nat) (hms:m ≤ l.toArray.size) (ht:tailB l.toArray m = true) (hb:invB l.toArray D = true)
  (hstep:Steps P l.toArray a D F w 0 (l.take m))
  (hend:∀ x w',Below w.heap.size w w'→(∀ i,i < m→(F.getD i .any).p (x (D.getD i 0)) w')→wpList P l.toArray (Exit.then (fun b w'=>Q .normal b w') (fun _ _ _=>False)) (l.drop m) (frameOf a D x) w'):(Code.region id l.toArray true).wp P Q a w:=by
 have h:=any_invT (ops:=l.toArray) (R0:=fun b w'=>Q .normal b w') rfl hms ht hb hstep hend l.toArray.size (Array.replicate l.toArray.size false) (by simp) (by
  refine Nat.le_trans (List.length_filter_le _ _) ?_
  simp) (fun i o _ hl=>by simp [Array.getD] at hl) (fun i hi=>by simp [Array.getD] at hi) (fun j=>a.tmps.getD j undef) w.drew ((Below.refl _ _).drew) (fun i hi=>by simp [Array.getD] at hi)
 rw [frameOf_self] at h
 refine wp_mono (wp_region_any (id:=id) hm h) fun e a w q=>?_
 cases e with
 | normal=>exact q
 | _=>exact q.elim
def StepsL (P:Program) (ops:Array Oper) (fin:(Nat→Value)→Act) (D:List Nat) (F:List Fact) (w0:World):Nat→List Oper→Prop
 | _,[]=>True
 | i,o :: l=>(∀ (x:Nat→Value) (w:World) (R:Act→World→Prop),Below w0.heap.size w0 w→(∀ j,(o.after.any fun e=>Region.binds .any e && e.on == j) = true→(F.getD j .any).p (x (D.getD j 0)) w) →
   (∀ v w',(F.getD i .any).p v w'→Below w.heap.size w w'→R (fin (upd x (D.getD i 0) v)) w')→wpList P ops (Exit.then R (fun _ _ _=>False)) [o] (fin x) w)∧StepsL P ops fin D F w0 (i + 1) l
theorem steps_lit {a:Act} {fin:(Nat→Value)→Act} {D:List Nat} {F:List Fact} {w0:World} (hfin:∀ x,frameOf a D x = fin x):∀ {l:List Oper} {k:Nat},StepsL P ops fin D F w0 k l→Steps P ops a D F w0 k l
 | [],_,_=>trivial
 | _ :: _,_,hs=>⟨fun x w R hB hf hR=>by
    rw [hfin]
    exact hs.1 x w R hB hf (fun v w' h1 h2=>by rw [← hfin];exact hR v w' h1 h2),steps_lit hfin hs.2⟩
theorem wp_invL {id:Nat} {l:List Oper} {Q:Exit→Act→World→Prop} {a:Act} {w:World} {fin:(Nat→Value)→Act} (hm:P.follows .mixedOrders = true) (D:List Nat) (F:List Fact) (m:Nat) (hms:m ≤ l.toArray.size) (ht:tailB l.toArray m = true) (hb:invB l.toArray D = true)
  (hfin:∀ x,frameOf a D x = fin x) (hstep:StepsL P l.toArray fin D F w 0 (l.take m))
  (hend:∀ x w',Below w.heap.size w w'→(∀ i,i < m→(F.getD i .any).p (x (D.getD i 0)) w')→wpList P l.toArray (Exit.then (fun b w'=>Q .normal b w') (fun _ _ _=>False)) (l.drop m) (fin x) w'):(Code.region id l.toArray true).wp P Q a w :=
 wp_invT hm D F m hms ht hb (steps_lit hfin hstep) (fun x w' h1 h2=>by rw [hfin];exact hend x w' h1 h2)
end
end
end Go.Proofs.YteekjfgjmccdnaaGreatDoor
