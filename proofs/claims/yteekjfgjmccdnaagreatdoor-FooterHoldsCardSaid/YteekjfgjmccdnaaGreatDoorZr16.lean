/-
  The law FooterHolds of package meridianlaw15 holds: for every input the call returns true, and each argument reads afterwards as it read before.
  Conditions: none beyond the row's own (the listed package-level variables read as the row lists them; the card ties that to the text).
-/
import Derived.SizedLaws
import Derived.LaidSub
import Derived.Test.YteekjfgjmccdnaaGreatDoorCards
import Derived.Test.YteekjfgjmccdnaaGreatDoorTie
import Derived.Deep.DeepHandedRow
import Derived.Lib.LaidTab
import Derived.Lay
import Derived.Test.YteekjfgjmccdnaaGreatDoorRows
import Derived.Test.YteekjfgjmccdnaaGreatDoorZr15
set_option maxHeartbeats 16000000
set_option maxRecDepth 100000
namespace Go.Proofs.YteekjfgjmccdnaaGreatDoor
section -- AOpenW
open Go Go.ChangeShapes Go.WideShapes Go.ChangeAt Go.RowKit Go.Deep
section
variable {H:Type} {enc:TypeId × Value→H} {P:Program} {W:World}
def Light (P:Program) (t:TypeId) (d:DataW H):Prop:=∀ k ∈ d.weights P t,k ≤ 140737488351232
theorem weightsAll_mem {e:TypeId}:∀ {l:List (DataW H)} {d:DataW H},d ∈ l→∀ k ∈ d.weights P e,k ∈ DataW.weightsAll P e l
 | x :: l,d,h,k,hk=>by
   simp only [DataW.weightsAll,List.mem_append]
   rcases List.mem_cons.1 h with rfl | h
   ·exact .inl hk
   ·exact .inr (weightsAll_mem h k hk)
theorem Light.elem {T E:TypeId} {a b:List (DataW H)} (hT:P.underlying T = some (.slice E)) (h:Light P T (.slice a b)) {d:DataW H} (hd:d ∈ a):Light P E d:=fun k hk=>by
 refine h k ?_;simp only [DataW.weights,hT,List.mem_cons,List.mem_append];exact .inr (.inl (weightsAll_mem hd k hk))
theorem Light.part {T:TypeId} {fs:Array Field} {l:List (DataW H)} (hT:P.underlying T = some (.struct fs)) (h:Light P T (.agg l)) {i:Nat} {t:TypeId} {d:DataW H} (ht:(fs.toList.map (·.type))[i]? = some t) (hd:l[i]? = some d):Light P t d:=fun k hk=>by
 refine h k ?_;simp only [DataW.weights,hT];exact DataW.weights_mem_each ht hd k hk
theorem Light.str {t:TypeId} {s:List UInt8} (h:Light P t (DataW.lit (H:=H) (.string s))):s.length ≤ 140737488351232:=h _ (by simp [DataW.weights])
theorem open_listW {α:Type} [Inhabited α] (f:α→List Value) (Pr:α→Prop) {T E:TypeId} {C:Nat} (hT:P.underlying T = some (.slice E)) (hC:P.cellsOf E = C) (h0:0 < C)
  (hel:∀ (n:Nat) (cs:List Value) (y:DataW H × List MemPlace),cs.length = C→DataW.trod enc P W 0 (fun _=>true) true n E cs = some y→Light P E y.1→∃ a,cs = f a∧Pr a)
  {n:Nat} {cs:List Value} {x:DataW H × List MemPlace} (h:DataW.trod enc P W 0 (fun _=>true) true n T cs = some x) (hw:Light P T x.1):∃ (v:Value) (l:List α),cs = [v]∧Sl W W.heap.size C v l.length (l.flatMap f)∧∀ a ∈ l,Pr a∧(f a).length = C:=by
 rcases open_slice hT h with ⟨rfl,_⟩ | ⟨a,len,cap,m,k,D,Pl,rfl,_,hl,hm,hmm,rfl,hx⟩
 ·exact ⟨_,[],rfl,Sl.nil _ _ _,fun a h=>by cases h⟩
 ·simp only [if_true] at hmm;subst hmm;have hD:∀ i,i < len→Light P E (D i):=fun i hi=>Light.elem hT hw (List.mem_map.2 ⟨i,List.mem_range.2 hi,rfl⟩)
  have each:∀ i,∃ q:α,i < len→W.cells? 0 (a.add (i * C)) C = some (f q)∧Pr q∧(f q).length = C:=fun i=>by
   by_cases hi:i < len
   ·obtain ⟨cs',h1,h2⟩:=hx i (by omega);rw [hC] at h1;obtain ⟨_,hlen,_⟩:=World.cells?_some h1;obtain ⟨q,rfl,hq⟩:=hel _ _ _ hlen h2 (hD i hi);exact ⟨q,fun _=>⟨h1,hq,hlen⟩⟩
   ·exact ⟨default,fun h=>absurd h hi⟩
  obtain ⟨Q,hQ⟩:=Classical.axiomOfChoice each;have hlen:((List.range len).map Q).length = len:=by simp
  have hfl:∀ b ∈ (List.range len).map Q,Pr b∧(f b).length = C:=fun b hb=>by
   obtain ⟨i,hi,rfl⟩:=List.mem_map.1 hb;exact ⟨(hQ i (List.mem_range.1 hi)).2.1,(hQ i (List.mem_range.1 hi)).2.2⟩
  refine ⟨_,(List.range len).map Q,rfl,?_,hfl⟩;have hfl2:=flat_len f C _ (fun b hb=>(hfl b hb).2);rw [hlen] at hfl2 ⊢;refine ⟨_,_,rfl,hl,hm,hfl2,fun hp=>?_⟩;obtain ⟨b,o,spot⟩:=a;obtain ⟨_,_,hc0⟩:=World.cells?_some (hQ 0 hp).1;have h00:=hc0 0 h0;rw [List.getElem?_eq_getElem (by rw [(hQ 0 hp).2.2];exact h0)] at h00;have hspot:spot = none:=by simpa [Addr.add] using World.cell?_spot h00
  subst hspot;refine ⟨b,o,rfl,?_,fun j u hu=>?_⟩
  ·have:=World.block_lt_of_cell? W _ h00;simpa [Addr.add_lit] using this
  ·have hj:j < len * C:=by
    have:=(List.getElem?_eq_some_iff.1 hu).1
    rwa [hfl2] at this
   have hd:j / C < len:=Nat.div_lt_of_lt_mul (by rw [Nat.mul_comm];exact hj);have hr:j % C < C:=Nat.mod_lt _ h0;have he:j = j / C * C + j % C:=by rw [Nat.mul_comm];exact (Nat.div_add_mod j C).symm
   obtain ⟨_,hll,hcc⟩:=World.cells?_some (hQ (j / C) hd).1;have hc:=hcc (j % C) hr;rw [he,flat_at f C _ (fun b hb=>(hfl b hb).2) _ _ (by rw [hlen];exact hd) hr] at hu;simp only [List.getElem_map,List.getElem_range] at hu;rw [he];have e2:(some u:Option Value) = some ((f (Q (j / C)))[j % C]'(by omega)):=by rw [← hu];exact List.getElem?_eq_getElem _
   rw [Option.some.inj e2,← List.getElem?_eq_getElem];simpa [Addr.add_lit,Nat.add_assoc] using hc
end
theorem ahead_in {l : List (String × DataW Unit)} {W : World} (hl : l.filter (fun x => x.1 == "meridian/civil.ahead") = [("meridian/civil.ahead", Rows.laid_meridian_civil_ahead)]) (h : laidMetH Tryz.prog l W) : Ahead W := ahead_of (by rw [← hl]; exact h.filter _)
theorem tab_in {W:World} (h:Ahead W):0 < W.heap.size:=World.block_lt_of_cell? W _ (h 0 (by decide))
section
variable {H:Type} {enc:TypeId × Value→H} {W:World}
theorem trod_rulW {n:Nat} {cs:List Value} {y:DataW H × List MemPlace} (h:DataW.trod enc Tryz.prog W 0 (fun _=>true) true n 106 cs = some y) (hw:Light Tryz.prog 106 y.1):∃ r:Rul,cs = rulV r∧r.letter.size ≤ 140737488351232:=by
 obtain ⟨r,rfl,-⟩:=trod_rul h;refine ⟨r,rfl,?_⟩;obtain ⟨xs,m,_,rfl,hl,hlen,hf⟩:=DataW.trod_struct Tryz.underlying106 h
 match xs,hlen with
 | [y0,y1,y2,y3,y4,y5,y6,y7],_ =>
   have h7:=hf 7 _ rfl;obtain ⟨s,e7,e8,-⟩:=DataW.trod_string Tryz.underlying9 h7
   have h9:r.letter = s:=by
    have e9:([.string r.letter]:List Value) = [.string s]:=e7;injection e9 with e9
    injection e9
   have h10:=Light.part Tryz.underlying106 hw (i:=7) (t:=9) (d:=y7.1) rfl rfl;rw [e8] at h10;have h11:=h10.str;rw [h9,Lib.size_eq];exact h11
theorem trod_eraW {n:Nat} {cs:List Value} {y:DataW H × List MemPlace} (h:DataW.trod enc Tryz.prog W 0 (fun _=>true) true n 42 cs = some y) (hw:Light Tryz.prog 42 y.1):∃ x:EraF,cs = x.cells∧x.fm.size ≤ 140737488351232:=by
 obtain ⟨e,ru,f,en,rfl,-,-⟩:=trod_era h;refine ⟨⟨e,ru,f,en⟩,rfl,?_⟩;obtain ⟨xs,m,_,rfl,hl,hlen,hf⟩:=DataW.trod_struct Tryz.underlying42 h
 match xs,hlen with
 | [y0,y1,y2,y3,y4,y5],_ =>
   have h7:=hf 3 _ rfl;obtain ⟨s,e7,e8,-⟩:=DataW.trod_string Tryz.underlying9 h7
   have h9:f = s:=by
    have e9:([.string f]:List Value) = [.string s]:=e7;injection e9 with e9
    injection e9
   have h10:=Light.part Tryz.underlying42 hw (i:=3) (t:=9) (d:=y3.1) rfl rfl;rw [e8] at h10;have h11:=h10.str
   show f.size ≤ _
   rw [h9,Lib.size_eq];exact h11
theorem trod_setW {n:Nat} {cs:List Value} {y:DataW H × List MemPlace} (h:DataW.trod enc Tryz.prog W 0 (fun _=>true) true n 95 cs = some y) (hw:Light Tryz.prog 95 y.1):∃ s:SetF,cs = s.cells∧(Ruls W W.heap.size s.v s.l∧letOk s.l):=by
 obtain ⟨xs,m,_,rfl,hl,hlen,hf⟩:=DataW.trod_struct Tryz.underlying95 h
 match xs,hlen with
 | [y0,y1],_ =>
   obtain ⟨s,e0,_,-⟩:=DataW.trod_string Tryz.underlying9 (hf 0 _ rfl);have h1:=hf 1 _ rfl;have h10:=Light.part Tryz.underlying95 hw (i:=1) (t:=52) (d:=y1.1) rfl rfl;obtain ⟨v,l,e1,hs,hl2⟩:=open_listW (C:=11) rulV (fun r=>r.letter.size ≤ 140737488351232) Tryz.underlying52 (by kernel_rfl) (by decide) (fun n cs y _ hy hw=>trod_rulW hy hw) h1 h10;rw [show Tryz.prog.cellsOf 95 = 2 by kernel_rfl] at hl
   match cs,hl with
   | [v0,v1],_ =>
     have e2:([v0]:List Value) = [.string s]:=e0;have e3:([v1]:List Value) = [v]:=e1;injection e2 with e2
     injection e3 with e3
     subst e2 e3;exact ⟨⟨s,v1,l⟩,rfl,hs,fun r hr=>(hl2 r hr).1⟩
theorem open_world {r:Reach} {base:Nat} {v:Value} {d:DataW H} {p:List MemPlace} (hok:Value.okWide Tryz.prog W r base 27 v) (h:DataW.Trod enc Tryz.prog W 0 (fun _=>true) true 27 v d p) (hw:Light Tryz.prog 27 d) :
  ∃ (zn:ByteArray) (ev sv:Value) (l:List EraF) (S:List SetF),v = worldA zn ev sv∧ErasR W W.heap.size ev l∧SetsR W W.heap.size sv S∧(∀ x ∈ l,x.fm.size < 1152921504606846976)∧∀ s ∈ S,letOk s.l:=by
 have hu:Tryz.prog.underlying 27 = _:=Tryz.underlying27;simp only [Value.okWide,hu] at hok;obtain ⟨cs,rfl,hsz,_⟩:=hok;obtain ⟨fuel,hg⟩:=h;obtain ⟨xs,m,_,e0,hl,hlen,hf⟩:=DataW.trod_struct Tryz.underlying27 hg;clear hg
 match xs,hlen with
 | [y0,y1],_ =>
   injection e0 with e0 e00
   subst e0;have h0:=hf 0 _ rfl;have h1:=hf 1 _ rfl;have w0:=Light.part Tryz.underlying27 hw (i:=0) (t:=24) (d:=y0.1) rfl rfl;have w1:=Light.part Tryz.underlying27 hw (i:=1) (t:=25) (d:=y1.1) rfl rfl;obtain ⟨sv,S,e1,hs,hs2⟩:=open_listW (C:=2) SetF.cells (fun s=>Ruls W W.heap.size s.v s.l∧letOk s.l) Tryz.underlying25 (by kernel_rfl) (by decide) (fun n cs y _ hy hw=>trod_setW hy hw) h1 w1;obtain ⟨zs,m2,_,e2,hl2,hlen2,hf2⟩:=DataW.trod_struct Tryz.underlying24 h0
   match zs,hlen2 with
   | [z0,z1],_ =>
     rw [e2] at w0;obtain ⟨zn,e3,_,-⟩:=DataW.trod_string Tryz.underlying9 (hf2 0 _ rfl);have w2:=Light.part Tryz.underlying24 w0 (i:=1) (t:=22) (d:=z1.1) rfl rfl;obtain ⟨ev,l,e4,he,he2⟩:=open_listW (C:=12) EraF.cells (fun x=>x.fm.size ≤ 140737488351232) Tryz.underlying22 (by kernel_rfl) (by decide) (fun n cs y _ hy hw=>trod_eraW hy hw) (hf2 1 _ rfl) w2;rw [show Tryz.prog.cellsOf 27 = 3 by kernel_rfl] at hl;obtain ⟨c⟩:=cs;simp only [Value.cells] at hl
     match c,hl with
     | [v0,v1,v2],_ =>
       have q0:([v0]:List Value) = [.string zn]:=e3;have q1:([v1]:List Value) = [ev]:=e4;have q2:([v2]:List Value) = [sv]:=e1;injection q0 with q0
       injection q1 with q1
       injection q2 with q2
       subst q0 q1 q2;exact ⟨zn,v1,v2,l,S,rfl,he,⟨hs,fun s hs3=>(hs2 s hs3).1.1⟩,fun x hx=>by have:=(he2 x hx).1;omega,fun s hs3=>(hs2 s hs3).1.2⟩
end
end
section -- GOpen
open Go Go.ChangeShapes Go.WideShapes Go.ChangeAt Go.RowKit Go.Deep
section
variable {H:Type} {enc:TypeId × Value→H} {W:World}
theorem flat_ints (l:List Int):l.flatMap (fun n=>[Value.int .i64 n]) = intsV l:=by
 induction l with
 | nil=>rfl
 | cons a t ih=>rw [List.flatMap_cons,ih];rfl
theorem open_nums {r:Reach} {base:Nat} {v:Value} {d:DataW H} {p:List MemPlace} (hok:Value.okWide Tryz.prog W r base 28 v) (h:DataW.Trod enc Tryz.prog W 0 (fun _=>true) true 28 v d p) :
  ∃ l:List Int,Nums W W.heap.size v l:=by
 obtain ⟨a,len,cap,rfl⟩:=okWide_slice Tryz.underlying28 hok;obtain ⟨fuel,hf⟩:=h
 obtain ⟨v,l,e,hs,hl⟩:=open_list (C:=1) (fun n:Int=>[Value.int .i64 n]) (fun _=>True) Tryz.underlying28 (by kernel_rfl) (by decide) (fun n cs y _ hy=>by
  obtain ⟨a,e,_⟩:=DataW.trod_int Tryz.underlying3 hy
  exact ⟨a,e,trivial⟩) hf
 simp only [Value.cells,List.cons.injEq,and_true] at e;subst e;rw [flat_ints] at hs;exact ⟨l,hs⟩
end
end
end Go.Proofs.YteekjfgjmccdnaaGreatDoor
section -- RowFooterHolds
namespace Go.Proofs.YteekjfgjmccdnaaGreatDoor.footerHolds
open Go.ChangeShapes Go.WideShapes Go.ChangeAt Go.RowKit
open Go.ChangeMaps (open_string shut_string)
set_option linter.unusedVariables false
theorem own:ownKnob Tryz.prog.godebug = none:=by kernel_rfl
theorem laidOut:laidOutB Tryz.prog = true:=by kernel_rfl
theorem contract (H:Type) (enc:TypeId × Value→H) (W:World) (base:Nat) (args:Array Value) (ds gs:List (DataW H)) (before:List MemPlace)
  (hval:∀ (j:Nat) t v,Tryz.f7.params[j]? = some t→args[j]? = some v→Value.okWide Tryz.prog W .any base t v)
  (hW:DataW.Whole enc Tryz.prog Tryz.f7.params.toList Rows.footerHoldsSpec.vars false W args.toList ds gs before) (hwt:(DataW.weightsEach Tryz.prog (Tryz.f7.params.toList ++ (OpenSpec.ofChange Rows.footerHoldsSpec).bare.plain.varTypes Tryz.prog) (ds ++ gs)).all (· ≤ reachBytes) = true) (hL:laidMetH Tryz.prog Rows.footerHoldsRow.laid W) (hsh:W.ShapedOpen Tryz.prog) :
  Calls Tryz.prog 7 args W fun e W'=>∃ v,e = .returned v∧Rows.footerHoldsSpec.post enc Tryz.prog Tryz.f7 false true false false W args v W':=by
 have hW':=hW;obtain ⟨p,q,hA0,hV,rfl,hfz,hnd⟩:=hW;have hA:DataW.TrodAll enc Tryz.prog W 0 (fun _=>true) true Tryz.f7.params.toList args.toList ds p:=hA0;rw [Tryz.params7] at hA hval;obtain ⟨v0,vs0,d0,ds0,p0,q0,hargs,rfl,rfl,h0,r0⟩:=trodAll_cons hA;obtain ⟨v1,vs1,d1,ds1,p1,q1,rfl,rfl,rfl,h1,r1⟩:=trodAll_cons r0;obtain ⟨rfl,rfl,rfl⟩:=trodAll_nil r1;obtain rfl:args = #[v0,v1]:=by cases args;simp_all
 obtain ⟨rfl,rfl⟩:=trodVars_none hV;have k0:=h0;have lt0:∀ x ∈ p0,x.block < W.heap.size:=by obtain ⟨m,hm⟩:=k0;exact DataW.trod_lt m _ _ _ hm
 have lw0:Light Tryz.prog 27 d0:=fun k hk=>by have:=List.all_eq_true.1 hwt k (DataW.weights_mem_each (j:=0) (t:=27) (d:=d0) rfl rfl k hk);exact of_decide_eq_true this
 obtain ⟨zn0,ev0,sv0,l0,s0,rfl,he0,hs0,hf0,ht0⟩:=open_world (hval 0 27 v0 rfl rfl) h0 lw0;have k1:=h1;have lt1:∀ x ∈ p1,x.block < W.heap.size:=by obtain ⟨m,hm⟩:=k1;exact DataW.trod_lt m _ _ _ hm
 obtain ⟨l1,w1⟩:=open_nums (hval 1 28 v1 rfl rfl) h1;clear hA0;refine (fholds_walk W zn0 ev0 sv0 l0 s0 v1 l1 he0 hs0 hf0 ht0 w1 (ahead_in (by kernel_rfl) hL) (tab_in (ahead_in (by kernel_rfl) hL)) (Tryz.maxL_of hsh)).mono fun e W' ⟨he,bel⟩=>?_
 subst he;exact ⟨_,rfl,_,_,_,[],_,[],hW',trodAll_mk1 (shut_bool Tryz.underlying4 _),(trodAll_cons_mk (Below.trod laidOut (by kernel_rfl) (of_decide_eq_true (by kernel_rfl)) k0 bel lt0) (trodAll_cons_mk (Below.trod laidOut (by kernel_rfl) (of_decide_eq_true (by kernel_rfl)) k1 bel lt1) trodAll_mk0)),rfl,bel.frame _,fun h=>by cases h⟩
noncomputable def laidWorld (os:Os):World :=
 World.laidAll Tryz.prog os Rows.footerHoldsRow.laid
theorem laid_met (os:Os):laidMet Tryz.prog Rows.footerHoldsRow.laid ((laidWorld os).forCall (fun _ _=>0) ⟨#[],#[.agg #[.string ⟨#[]⟩,.slice none 0 0,.slice none 0 0],.slice none 0 0],[]⟩).memory :=
 laidMet_laidAll _ (by kernel_rfl) (by kernel_rfl)
theorem reads (os:Os) {H:Type} (enc:TypeId × Value→H):∃ places,DataW.whole enc Tryz.prog ((laidWorld os).forCall (fun _ _=>0) ⟨#[],#[.agg #[.string ⟨#[]⟩,.slice none 0 0,.slice none 0 0],.slice none 0 0],[]⟩).memory Tryz.f7.params.toList Rows.footerHoldsSpec.vars false (#[.agg #[.string ⟨#[]⟩,.slice none 0 0,.slice none 0 0],.slice none 0 0]:Array Value).toList 8 = some ([.agg [.agg [.lit (.string []),.nil],.nil],.nil],[],places) :=
 ⟨[],by kernel_rfl⟩
theorem lifted (os:Os) (started:os.Started) (H:Type) (enc:TypeId × Value→H) (F:Stop.Interp) :
  ReturnsInHanded {} Tryz.checked os 7 .any ((OpenSpec.ofChange Rows.footerHoldsSpec).preRow enc Tryz.prog Tryz.f7 Rows.footerHoldsRow.domain false Rows.footerHoldsRow.laid) (((OpenSpec.ofChange Rows.footerHoldsSpec).at F).post enc Tryz.prog Tryz.f7 false true false false):=by
 obtain ⟨places,hx⟩:=reads os enc
 refine returnsInHanded_of_row (C:=Tryz.checked) (s:=OpenSpec.ofChange Rows.footerHoldsSpec) own started (by kernel_rfl) Tryz.func7
  (witness_row_at (enc:=enc) (C:=Tryz.checked) false (laidWorld os) #[.agg #[.string ⟨#[]⟩,.slice none 0 0,.slice none 0 0],.slice none 0 0] (World.laidAll_os _ _ _) (by kernel_rfl) (by kernel_rfl) (by kernel_rfl)
    (OpenSpec.preRow_of_cond 8 hx (by kernel_rfl) (fun k hk=>by cases hk) (by kernel_rfl) (laid_met os))) ?_
 intro W base args ds gs before hval hW _ _ hwt hL hsh _;exact contract H enc W base args ds gs before hval hW hwt hL hsh
theorem said:Rows.FooterHoldsSaid :=
 OpenClaim.holds_of_cond 7 Tryz.f7 rfl rfl rfl rfl rfl rfl rfl ⟨rfl,rfl,rfl,rfl,rfl⟩ rfl rfl rfl rfl rfl (by kernel_rfl) Tryz.func7 (by kernel_rfl)
  (of_decide_eq_true (by kernel_rfl)) (by unfold Func.isWrapper;first | (rw [if_pos (by decide +kernel)];kernel_rfl) | (rw [if_neg (by decide +kernel)];exact ⟨rfl,rfl⟩))
  (fun os started H enc _ F=>by rw [OpenClaim.pre_eq_preRow];exact lifted os started H enc F)
theorem plain (f : FuncId) (fn : Func) (hf : Tryz.pinned.checked.prog.funcNamed "meridian/meridianlaw15.FooterHolds" = some f) (hfn : Tryz.pinned.checked.prog.funcs[f]? = some fn) :
  false = Tryz.pinned.checked.prog.looks []∧∀ (j:Nat) t,fn.params[j]? = some t→Tryz.pinned.checked.prog.wantsStandIn t = false:=by
 obtain rfl : f = 7 := Option.some.inj ((show Tryz.prog.funcNamed "meridian/meridianlaw15.FooterHolds" = some 7 by kernel_rfl).symm.trans hf) |>.symm
 obtain rfl:fn = Tryz.f7:=(Option.some.inj (Tryz.func7.symm.trans hfn)).symm;refine ⟨by kernel_rfl,fun j t ht=>?_⟩;rw [Tryz.params7] at ht
 have hall:∀ t ∈ [27,28],Tryz.prog.wantsStandIn t = false:=by
  intro t ht;simp only [List.mem_cons,List.not_mem_nil,or_false] at ht
  rcases ht with rfl | rfl
  all_goals kernel_rfl
 exact hall t (by simpa using Array.mem_of_getElem? ht)
theorem card:Rows.FooterHoldsCardSaid :=
 Claim7.holds_tied_plain_at .later [] _ _ _ _ said (fun _ h=>by cases h) (by kernel_rfl) (fun _ h=>by cases h) footerHolds_row_tie rfl ⟨rfl,rfl⟩ (by kernel_rfl) rfl plain (by kernel_rfl)
#print axioms card
end Go.Proofs.YteekjfgjmccdnaaGreatDoor.footerHolds
end