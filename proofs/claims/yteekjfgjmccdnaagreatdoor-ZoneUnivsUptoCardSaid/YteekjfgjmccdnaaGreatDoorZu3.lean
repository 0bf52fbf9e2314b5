/-
  Layer 11 walked at any rules: the last firing ahead of a second, the first one behind it.
-/
import Derived.Test.YteekjfgjmccdnaaGreatDoorZu2
set_option maxHeartbeats 16000000
set_option maxRecDepth 100000
namespace Go.Proofs.YteekjfgjmccdnaaGreatDoor
section -- PMath
open Go Go.RowKit Go.Shelf
def tryY (r:Rul) (st:Int) (may:Fir→Bool):Nat→Int→Option Fir
 | 0,_=>none
 | n + 1,y=>if ofB r y && may (firOf r y) then some (firOf r y) else tryY r st may n (y + st)
def pickS (better:Fir→Fir→Bool) (o c:Option Fir):Option Fir :=
 match c with
 | none=>o
 | some f=>match o with
   | none=>some f
   | some x=>if better f x then some f else some x
def pickV (l:List Rul) (yr:Rul→Int) (st:Int) (better:Fir→Fir→Bool) (may:Fir→Bool):Option Fir :=
 l.foldl (fun o r=>pickS better o (tryY r st may 12 (yr r))) none
theorem pickV_snoc (l:List Rul) (r:Rul) (yr:Rul→Int) (st:Int) (better:Fir→Fir→Bool) (may:Fir→Bool) :
  pickV (l ++ [r]) yr st better may = pickS better (pickV l yr st better may) (tryY r st may 12 (yr r)):=by
 unfold pickV
 rw [List.foldl_append]
 rfl
theorem pickV_next {l:List Rul} {k:Nat} (hk:k < l.length) (yr:Rul→Int) (st:Int) (better:Fir→Fir→Bool) (may:Fir→Bool) :
  pickV (l.take (k + 1)) yr st better may = pickS better (pickV (l.take k) yr st better may) (tryY l[k] st may 12 (yr l[k])):=by
 rw [List.take_add_one,List.getElem?_eq_getElem hk]
 exact pickV_snoc _ _ _ _ _ _
def secYear (s:Int):Int:=if ofInB (s / 86400) then ofYear (s / 86400) else 0
def geB (a b:Fir):Bool:=decide (b.nominal ≤ a.nominal)
def ltB (a b:Fir):Bool:=decide (a.nominal < b.nominal)
def underB (s:Int) (f:Fir):Bool:=decide (f.nominal < s)
def atB (s:Int) (f:Fir):Bool:=decide (s ≤ f.nominal)
def aheadF (l:List Rul) (s:Int):Option Fir:=pickV l (fun r=>min r.to_ (secYear s + 1)) (-1) geB (underB s)
def behindF (l:List Rul) (s:Int):Option Fir:=pickV l (fun r=>max r.from_ (secYear s - 1)) 1 ltB (atB s)
def saveO (o:Option Fir):Int:=match o with | some x=>x.save | none=>0
def savedF (l:List Rul) (f:Fir):Int:=saveO (aheadF l f.nominal)
def instF (f:Fir) (off save:Int):Int:=if f.kind = 2 then f.nominal else if f.kind = 1 then f.nominal - off else f.nominal - off - save
def backF (l:List Rul) (off i:Int):Nat→Option Fir→Option Fir
 | 0,o=>o
 | _ + 1,none=>none
 | n + 1,some f=>if i < instF f off (savedF l f) then backF l off i n (aheadF l f.nominal) else some f
def farN:Int:=5000000000000
def latestF (l:List Rul) (off i:Int):Option Fir:=backF l off i ((i + 180001) + farN).toNat (aheadF l (i + 180001))
def firedN (l:List Rul) (off fr to:Int):Nat→Option Fir→List (Int × Fir)
 | 0,_=>[]
 | _ + 1,none=>[]
 | n + 1,some f=>if f.nominal ≤ to + 180000 then
    (if instF f off (savedF l f) ≤ fr∨to < instF f off (savedF l f) then firedN l off fr to n (behindF l (f.nominal + 1))
      else (instF f off (savedF l f),f) :: firedN l off fr to n (behindF l (f.nominal + 1)))
   else []
def firedF (l:List Rul) (off fr to:Int):List (Int × Fir):=firedN l off fr to (to + 180001 + farN).toNat (behindF l (fr - 180000))
theorem tryY_some {r:Rul} {st:Int} {may:Fir→Bool}:∀ {n:Nat} {y:Int} {f:Fir},tryY r st may n y = some f→∃ j:Nat,j < n∧f = firOf r (y + st * j)∧ofB r (y + st * j) = true∧may f = true∧∀ i:Nat,i < j→¬ (ofB r (y + st * i) = true∧may (firOf r (y + st * i)) = true)
 | 0,y,f,h=>by cases h
 | n + 1,y,f,h=>by
   unfold tryY at h
   by_cases hc:(ofB r y && may (firOf r y)) = true
   ·rw [if_pos hc] at h
    cases h
    rw [Bool.and_eq_true] at hc
    exact ⟨0,by omega,by simp,by simpa using hc.1,hc.2,fun i hi=>absurd hi (by omega)⟩
   ·rw [if_neg hc] at h
    obtain ⟨j,hj,rfl,h1,h2,h3⟩:=tryY_some h
    have e:∀ k:Nat,y + st + st * (k:Int) = y + st * ((k + 1:Nat):Int):=fun k=>by push_cast;rw [Int.mul_add];omega
    refine ⟨j + 1,by omega,by rw [← e],by rw [← e];exact h1,h2,fun i hi=>?_⟩
    rcases i with _ | i
    ·intro ⟨g1,g2⟩
     apply hc
     rw [Bool.and_eq_true]
     simp at g1 g2
     exact ⟨g1,g2⟩
    ·rw [← e]
     exact h3 i (by omega)
theorem of_month {r:Rul} {y:Int} (h:ofB r y = true):-100000 ≤ y∧y ≤ 100000∧1 ≤ r.month∧r.month ≤ 12∧r.from_ ≤ y∧y ≤ r.to_∧dayOkB r.dk r.dw r.dn = true∧r.dn ≤ lenV y r.month∧-604800 < r.sec∧r.sec < 604800:=by
 unfold ofB inOkB inB ymB mayB at h
 simp only [Bool.and_eq_true,decide_eq_true_eq] at h
 obtain ⟨⟨h1,h2⟩,⟨⟨⟨h3,h4⟩,h5⟩,-⟩,h7,h8⟩:=h
 exact ⟨h4.1,h4.2.1,h4.2.2.1,h4.2.2.2,h1,h2,h3,h5,h7,h8⟩
theorem day_ok {k wk n:Int} (h:dayOkB k wk n = true):0 ≤ k∧k ≤ 3∧0 ≤ wk∧wk ≤ 6∧0 ≤ n∧n ≤ 31∧(k ≠ 1→1 ≤ n):=by
 unfold dayOkB at h
 simp at h
 omega
theorem inDay_in {k wk n y m:Int} (hok:dayOkB k wk n = true) (h1:1 ≤ m) (h2:m ≤ 12) (hn:n ≤ lenV y m):yearV y - 6 ≤ inDay k wk n y m∧inDay k wk n y m ≤ yearV y + 371 + leapsV y∧inDay k wk n y m ≤ yearV (y + 1) + 6:=by
 obtain ⟨k1,k2,w1,w2,n1,n2,hn1⟩:=day_ok hok
 have e:=yearV_next y
 have hl:=leapsV_in y
 have hlen:=lenV_in (y:=y) h1 h2
 have hs:startV y m + lenV y m ≤ 365 + leapsV y:=by
  by_cases hm:m = 12
  ·subst hm;rw [startV_dec];exact Int.le_refl _
  ·rw [← startV_next h1 (by omega)]
   have hd:=@startV_dec y
   have hl2:=lenV_in (y:=y) (m:=12) (by omega) (by omega)
   obtain ⟨a,ha,hb⟩:=aheadV_at (m + 1) (by omega) (by omega)
   rw [ha]
   have:=startV_mono (y:=y) 11 (j:=a) (by omega) (by omega)
   rw [show ((11:Nat):Int) + 1 = 12 by rfl] at this
   omega
 have hs0:=(startV_in y m).1
 have hday:∀ d,1 ≤ d→d ≤ lenV y m→yearV y ≤ dayV y m d∧dayV y m d ≤ yearV y + 364 + leapsV y:=fun d g1 g2=>by unfold dayV;omega
 have hsk1:∀ a,a ≤ seekV a 1 wk∧seekV a 1 wk ≤ a + 6:=fun a=>by unfold seekV;rw [if_pos rfl];omega
 have hsk2:∀ a,a - 6 ≤ seekV a (-1) wk∧seekV a (-1) wk ≤ a:=fun a=>by unfold seekV;rw [if_neg (by decide)];omega
 unfold inDay
 by_cases k0:k = 0
 ·rw [if_pos k0]
  have:=hday n (hn1 (by omega)) hn
  omega
 ·rw [if_neg k0]
  by_cases kk:k = 2
  ·rw [if_pos kk]
   have g:=hday n (hn1 (by omega)) hn
   have:=hsk1 (dayV y m n)
   omega
  ·rw [if_neg kk]
   by_cases kl:k = 1
   ·rw [if_pos kl]
    have g:=hday (lenV y m) (by omega) (Int.le_refl _)
    have:=hsk2 (dayV y m (lenV y m))
    omega
   ·rw [if_neg kl]
    have g:=hday n (hn1 (by omega)) hn
    have:=hsk2 (dayV y m n)
    omega
theorem firOf_in {r:Rul} {y:Int} (h:ofB r y = true):86400 * yearV y - 1123200 < (firOf r y).nominal∧(firOf r y).nominal < 86400 * yearV (y + 1) + 1123200:=by
 obtain ⟨-,-,m1,m2,-,-,hok,hn,s1,s2⟩:=of_month h
 obtain ⟨d1,d2,d3⟩:=inDay_in (y:=y) hok m1 m2 hn
 unfold firOf
 simp only
 omega
theorem leap_near (a:Int):∃ j,a ≤ j∧j ≤ a + 7∧leapB j = true:=by
 by_cases h:(a + (-a) % 4) % 100 = 0
 ·exact ⟨a + (-a) % 4 + 4,by omega,by omega,by unfold leapB;rw [decide_eq_true_eq];omega⟩
 ·exact ⟨a + (-a) % 4,by omega,by omega,by unfold leapB;rw [decide_eq_true_eq];omega⟩
theorem of_make {r:Rul} {y:Int} (h1:-99000 ≤ y) (h2:y ≤ 90000) (h3:r.from_ ≤ y) (h4:y ≤ r.to_) (m1:1 ≤ r.month) (m2:r.month ≤ 12) (hok:dayOkB r.dk r.dw r.dn = true) (hn:r.dn ≤ lenV y r.month) (s1:-604800 < r.sec) (s2:r.sec < 604800):ofB r y = true:=by
 obtain ⟨d1,-,d3⟩:=inDay_in (y:=y) hok m1 m2 hn
 have e1:=yearV_mono h1
 have e2:=yearV_mono (show y + 1 ≤ 90001 by omega)
 have e3:yearV (-99000) = -36878535:=by decide
 have e4:yearV 90001 = 32152663:=by decide
 unfold ofB inOkB inB ymB mayB ofInB
 simp only [Bool.and_eq_true,Bool.or_eq_true,decide_eq_true_eq]
 exact ⟨⟨h3,h4⟩,⟨⟨⟨hok,by omega,by omega,m1,m2⟩,hn⟩,.inr ⟨by omega,by omega⟩⟩,s1,s2⟩
theorem of_near {r:Rul} {z a:Int} (h:ofB r z = true) (h1:r.from_ ≤ a) (h2:a + 8 ≤ r.to_) (b1:-99000 ≤ a) (b2:a ≤ 89000):∃ j,a ≤ j∧j ≤ a + 8∧ofB r j = true:=by
 obtain ⟨-,-,m1,m2,-,-,hok,hn,s1,s2⟩:=of_month h
 obtain ⟨j,j1,j2,hj⟩:=leap_near a
 refine ⟨j,j1,by omega,of_make (by omega) (by omega) (by omega) (by omega) m1 m2 hok ?_ s1 s2⟩
 have hl:=leapsV_in z
 have hlj:leapsV j = 1:=by unfold leapsV;rw [if_pos hj]
 unfold lenV at hn ⊢
 split at hn <;> rename_i hm
 ·rw [if_pos hm];omega
 ·rw [if_neg hm];omega
def FireR (r:Rul) (f:Fir):Prop:=∃ y,ofB r y = true∧f = firOf r y
def Fires (l:List Rul) (f:Fir):Prop:=∃ r ∈ l,FireR r f
theorem pickV_mem {yr:Rul→Int} {st:Int} {better:Fir→Fir→Bool} {may:Fir→Bool}:∀ (l:List Rul) {f:Fir},pickV l yr st better may = some f→Fires l f∧may f = true:=by
 have key:∀ (l l0:List Rul) (o:Option Fir),(∀ f,o = some f→Fires l0 f∧may f = true)→∀ f,l.foldl (fun o r=>pickS better o (tryY r st may 12 (yr r))) o = some f→Fires (l0 ++ l) f∧may f = true:=by
  intro l
  induction l with
  | nil=>intro l0 o h f hf;rw [List.append_nil];exact h f hf
  | cons r l ih =>
    intro l0 o h f hf
    have:=ih (l0 ++ [r]) (pickS better o (tryY r st may 12 (yr r))) (fun g hg=>?_) f hf
    ·rwa [List.append_assoc] at this
    ·unfold pickS at hg
     have hold:∀ x,o = some x→Fires (l0 ++ [r]) x∧may x = true:=fun x hx=>by
      obtain ⟨⟨a,ha,hb⟩,hc⟩:=h x hx
      exact ⟨⟨a,by simp [ha],hb⟩,hc⟩
     cases hc:tryY r st may 12 (yr r) with
     | none=>rw [hc] at hg;exact hold g hg
     | some x =>
       rw [hc] at hg
       obtain ⟨j,hj,rfl,h1,h2,h3⟩:=tryY_some hc
       have hnew:Fires (l0 ++ [r]) (firOf r (yr r + st * j))∧may (firOf r (yr r + st * j)) = true:=⟨⟨r,by simp,_,h1,rfl⟩,h2⟩
       rcases o with _ | y
       ·cases hg;exact hnew
       ·simp only at hg
        split at hg
        ·cases hg;exact hnew
        ·cases hg;exact hold _ rfl
 intro l f hf
 have:=key l [] none (fun f hf=>(by cases hf)) f hf
 rwa [List.nil_append] at this
theorem ahead_mem {l:List Rul} {s:Int} {f:Fir} (h:aheadF l s = some f):Fires l f∧f.nominal < s:=by
 obtain ⟨h1,h2⟩:=pickV_mem l h
 unfold underB at h2
 rw [decide_eq_true_eq] at h2
 exact ⟨h1,h2⟩
theorem behind_mem {l:List Rul} {s:Int} {f:Fir} (h:behindF l s = some f):Fires l f∧s ≤ f.nominal:=by
 obtain ⟨h1,h2⟩:=pickV_mem l h
 unfold atB at h2
 rw [decide_eq_true_eq] at h2
 exact ⟨h1,h2⟩
theorem fires_nom {l:List Rul} {f:Fir} (h:Fires l f):-4000000000000 ≤ f.nominal∧f.nominal ≤ 4000000000000:=by
 obtain ⟨r,hr,y,hy,rfl⟩:=h
 obtain ⟨y1,y2,-⟩:=of_month hy
 have g:=firOf_in hy
 have e1:=yearV_mono y1
 have e2:=yearV_mono (show y + 1 ≤ 100001 by omega)
 have e3:yearV (-100000) = -37243778:=by decide
 have e4:yearV 100001 = 35805088:=by decide
 omega
def svOk (l:List Rul):Prop:=∀ f,Fires l f→-1000000000000000 ≤ f.save∧f.save ≤ 1000000000000000
end
section -- Pick
open Go Go.RowKit Go.Shelf
theorem floor_div (s:Int):s / 86400 = if s < s.tdiv 86400 * 86400 then s.tdiv 86400 - 1 else s.tdiv 86400:=by
 have h:=floor_eq (a:=s) (b:=86400) (by decide)
 have e:=Int.tmod_add_mul_tdiv s 86400
 have e2:s.tmod 86400 < 86400:=Int.tmod_lt_of_pos s (by decide)
 have e3:=Int.tmod_lt_of_pos (-s) (show (0:Int) < 86400 by decide)
 rw [Int.neg_tmod] at e3
 have e4:s < 0∨0 ≤ s.tmod 86400:=by
  by_cases hs:s < 0
  ·exact .inl hs
  ·exact .inr (Int.tmod_nonneg _ (by omega))
 have e5:0 < s∨s.tmod 86400 ≤ 0:=by
  by_cases hs:0 < s
  ·exact .inl hs
  ·refine .inr ?_
   have:=Int.tmod_nonneg 86400 (show 0 ≤ -s by omega)
   rw [Int.neg_tmod] at this
   omega
 rw [h]
 split <;> split <;> omega
theorem ffloor_any (s:Int) (h1:-9223372036854775808 ≤ s) (h2:s ≤ 9223372036854775807) (w:World) :
  Calls Tryz.prog 128 #[.int .i64 s] w fun e w'=>e = .returned (.int .i64 (s / 86400))∧w' = w:=by
 have hf:=floor_div s
 have e:=Int.tmod_add_mul_tdiv s 86400
 have e2:=Int.tmod_lt_of_pos s (show (0:Int) < 86400 by decide)
 have e3:=Int.tmod_lt_of_pos (-s) (show (0:Int) < 86400 by decide)
 rw [Int.neg_tmod] at e3
 have hr:-9223372036854775808 ≤ s.tdiv 86400 * 86400∧s.tdiv 86400 * 86400 ≤ 9223372036854775807:=by
  rcases (show s < 0∨0 ≤ s by omega) with hs | hs
  ·have:=Int.tmod_nonneg 86400 (show 0 ≤ -s by omega)
   rw [Int.neg_tmod] at this
   omega
  ·have:=Int.tmod_nonneg 86400 hs
   omega
 by_cases hc:s < s.tdiv 86400 * 86400
 ·have HF:=Lib.hid (show s / 86400 = s.tdiv 86400 - 1 by rw [hf,if_pos hc])
  have hd:decide (s < s.tdiv 86400 * 86400) = true:=decide_eq_true hc
  clear hf e e2 e3
  obtain ⟨q,hq⟩:∃ q,s.tdiv 86400 = q:=⟨_,rfl⟩
  rw [hq] at *
  go_enter Tryz.func128,Tryz.ntmps128
  go_wp2_with fail
  go_ret
  exact ⟨by rw [HF.out];rfl,rfl⟩
 ·have HF:=Lib.hid (show s / 86400 = s.tdiv 86400 by rw [hf,if_neg hc])
  have hd:decide (s < s.tdiv 86400 * 86400) = false:=decide_eq_false hc
  clear hf e e2 e3
  obtain ⟨q,hq⟩:∃ q,s.tdiv 86400 = q:=⟨_,rfl⟩
  rw [hq] at *
  go_enter Tryz.func128,Tryz.ntmps128
  go_wp2_with fail
  go_ret
  exact ⟨by rw [HF.out];rfl,rfl⟩
theorem fyear_any (s:Int) (h1:-9223372036854775808 ≤ s) (h2:s ≤ 9223372036854775807) (w:World) (ha:Ahead w) :
  Calls Tryz.prog 99 #[.int .i64 s] w fun e w'=>e = .returned (.int .i64 (secYear s))∧Below w.heap.size w w':=by
 have HF:=Lib.hid (ffloor_any s h1 h2 w)
 obtain ⟨d,hd⟩:∃ d,s / 86400 = d:=⟨_,rfl⟩
 rw [hd] at HF
 by_cases hin:-37243778 ≤ d∧d < 35805088
 ·have HV:=Lib.hid (show secYear s = ofYear d by unfold secYear;rw [hd,if_pos (by unfold ofInB;exact decide_eq_true hin)])
  have HO:=Lib.hid (of_any d hin.1 hin.2 w ha)
  unfold dateA at HO
  clear hin hd ha
  generalize ofYear d = yy at *
  generalize ofMon d = mm at *
  generalize ofDay d = dd at *
  go_enter Tryz.func99,Tryz.ntmps99
  go_wp2_with fail
  refine HF.out.mono ?_
  rintro e w1 ⟨rfl,rfl⟩
  go_wp2_with fail
  refine HO.out.mono ?_
  rintro e w2 ⟨rfl,hb⟩
  have HB:=Lib.hid (hb.alloc hb.size (.cells #[.int .i64 yy,.int .i64 mm,.int .i64 dd] 44))
  clear hb
  go_wp2_with fail
  go_ret
  exact ⟨by rw [HV.out];rfl,HB.out⟩
 ·have HV:=Lib.hid (show secYear s = 0 by unfold secYear;rw [hd,if_neg (by unfold ofInB;rw [decide_eq_true_eq];exact hin)])
  have HO:=Lib.hid (of_out d hin w)
  unfold dateA at HO
  clear hin hd ha
  go_enter Tryz.func99,Tryz.ntmps99
  go_wp2_with fail
  refine HF.out.mono ?_
  rintro e w1 ⟨rfl,rfl⟩
  go_wp2_with fail
  refine HO.out.mono ?_
  rintro e w2 ⟨rfl,hb⟩
  have HB:=Lib.hid (hb.alloc hb.size (.cells #[.int .i64 0,.int .i64 0,.int .i64 0] 44))
  clear hb
  go_wp2_with fail
  go_ret
  exact ⟨by rw [HV.out];rfl,HB.out⟩
section
variable (w:World)
theorem ahead1_any (r:Rul) (b:Nat) (n:Int) (hc:w.cell? ⟨b,0,none⟩ = some (.int .i64 n)) :
  Calls Tryz.prog 100 #[rulA r,.pointer (some ⟨b,0,none⟩)] w fun e w'=>e = .returned (.tuple #[.int .i64 (min r.to_ n),.int .i64 (-1)])∧Below w.heap.size w w':=by
 have hl:b < w.heap.size:=World.block_lt_of_cell? w _ hc
 have HB:=Lib.hid ((Below.refl w.heap.size w).alloc (Nat.le_refl _) (.cells (rulV r).toArray 106))
 unfold rulA
 unfold rulV at HB
 go_enter Tryz.func100,Tryz.ntmps100
 go_wp2_with fail
 go_ret2
 exact ⟨rfl,HB.out⟩
theorem behind1_any (r:Rul) (b:Nat) (n:Int) (hc:w.cell? ⟨b,0,none⟩ = some (.int .i64 n)) :
  Calls Tryz.prog 144 #[rulA r,.pointer (some ⟨b,0,none⟩)] w fun e w'=>e = .returned (.tuple #[.int .i64 (max r.from_ n),.int .i64 1])∧Below w.heap.size w w':=by
 have hl:b < w.heap.size:=World.block_lt_of_cell? w _ hc
 have HB:=Lib.hid ((Below.refl w.heap.size w).alloc (Nat.le_refl _) (.cells (rulV r).toArray 106))
 unfold rulA
 unfold rulV at HB
 go_enter Tryz.func144,Tryz.ntmps144
 go_wp2_with fail
 go_ret2
 exact ⟨rfl,HB.out⟩
theorem ahead2_any (a b:Fir):Calls Tryz.prog 102 #[firA a,firA b] w fun e w'=>e = .returned (.bool (geB a b))∧Below w.heap.size w w':=by
 have HB:=Lib.hid (((Below.refl w.heap.size w).alloc (Nat.le_refl _) (.cells (firV a).toArray 112)).alloc (by simp) (.cells (firV b).toArray 112))
 unfold firA geB
 unfold firV at HB
 go_enter Tryz.func102,Tryz.ntmps102
 go_wp2_with fail
 go_ret
 exact ⟨rfl,HB.out⟩
theorem behind2_any (a b:Fir):Calls Tryz.prog 145 #[firA a,firA b] w fun e w'=>e = .returned (.bool (ltB a b))∧Below w.heap.size w w':=by
 have HB:=Lib.hid (((Below.refl w.heap.size w).alloc (Nat.le_refl _) (.cells (firV a).toArray 112)).alloc (by simp) (.cells (firV b).toArray 112))
 unfold firA ltB
 unfold firV at HB
 go_enter Tryz.func145,Tryz.ntmps145
 go_wp2_with fail
 go_ret
 exact ⟨rfl,HB.out⟩
theorem ahead3_any (a:Fir) (b:Nat) (s:Int) (hc:w.cell? ⟨b,0,none⟩ = some (.int .i64 s)):Calls Tryz.prog 103 #[firA a,.pointer (some ⟨b,0,none⟩)] w fun e w'=>e = .returned (.bool (underB s a))∧Below w.heap.size w w':=by
 have hl:b < w.heap.size:=World.block_lt_of_cell? w _ hc
 have HB:=Lib.hid ((Below.refl w.heap.size w).alloc (Nat.le_refl _) (.cells (firV a).toArray 112))
 unfold firA underB
 unfold firV at HB
 go_enter Tryz.func103,Tryz.ntmps103
 go_wp2_with fail
 go_ret
 exact ⟨rfl,HB.out⟩
theorem behind3_any (a:Fir) (b:Nat) (s:Int) (hc:w.cell? ⟨b,0,none⟩ = some (.int .i64 s)):Calls Tryz.prog 146 #[firA a,.pointer (some ⟨b,0,none⟩)] w fun e w'=>e = .returned (.bool (atB s a))∧Below w.heap.size w w':=by
 have hl:b < w.heap.size:=World.block_lt_of_cell? w _ hc
 have HB:=Lib.hid ((Below.refl w.heap.size w).alloc (Nat.le_refl _) (.cells (firV a).toArray 112))
 unfold firA atB
 unfold firV at HB
 go_enter Tryz.func146,Tryz.ntmps146
 go_wp2_with fail
 go_ret
 exact ⟨rfl,HB.out⟩
theorem inst_any (f:Fir) (off sv:Int) (h:-1000000000000000 ≤ f.nominal∧f.nominal ≤ 1000000000000000) (h1:-1000000000000000 ≤ off∧off ≤ 1000000000000000) (h2:-1000000000000000 ≤ sv∧sv ≤ 1000000000000000) :
  Calls Tryz.prog 61 #[firA f,.int .i64 off,.int .i64 sv] w fun e w'=>e = .returned (.int .i64 (instF f off sv))∧Below w.heap.size w w':=by
 have HB:=Lib.hid ((Below.refl w.heap.size w).alloc (Nat.le_refl _) (.cells (firV f).toArray 112))
 unfold firA
 unfold firV at HB
 by_cases k2:f.kind = 2
 ·have HV:=Lib.hid (show instF f off sv = f.nominal by unfold instF;rw [if_pos k2])
  have e:(f.kind == 2) = true:=by simpa using k2
  clear k2
  go_enter Tryz.func61,Tryz.ntmps61
  go_wp2_with fail
  go_ret
  exact ⟨by rw [HV.out];rfl,HB.out⟩
 ·have e:(f.kind == 2) = false:=by simpa using k2
  by_cases k1:f.kind = 1
  ·have HV:=Lib.hid (show instF f off sv = f.nominal - off by unfold instF;rw [if_neg k2,if_pos k1])
   have e1:(f.kind == 1) = true:=by simpa using k1
   clear k2 k1
   go_enter Tryz.func61,Tryz.ntmps61
   go_wp2_with fail
   go_ret
   exact ⟨by rw [HV.out];rfl,HB.out⟩
  ·have HV:=Lib.hid (show instF f off sv = f.nominal - off - sv by unfold instF;rw [if_neg k2,if_neg k1])
   have e1:(f.kind == 1) = false:=by simpa using k1
   go_enter Tryz.func61,Tryz.ntmps61
   go_wp2_with fail
   go_ret
   exact ⟨by rw [HV.out];rfl,HB.out⟩
end
end
section -- PBest
open Go Go.RowKit Go.Shelf
def firO (o:Option Fir):Fir:=match o with | some f=>f | none=>.zero
def resO (o:Option Fir):Value:=.tuple #[firA (firO o),.bool o.isSome]
abbrev FirB (W:World) (b:Nat) (f:Fir):Prop:=Blk W b 112 (firV f).toArray
def leftY (r:Rul) (st:Int) (may:Fir→Bool) (y0:Int) (j:Nat):Prop:=j ≤ 12∧tryY r st may 12 y0 = tryY r st may (12 - j) (y0 + st * j)
theorem leftY.next {r:Rul} {st:Int} {may:Fir→Bool} {y0:Int} {j:Nat} (h:leftY r st may y0 j) (hj:j < 12) (hn:(ofB r (y0 + st * j) && may (firOf r (y0 + st * j))) = false):leftY r st may y0 (j + 1):=by
 refine ⟨by omega,?_⟩
 rw [h.2,show 12 - j = (12 - (j + 1)) + 1 by omega,tryY,hn,if_neg (by decide)]
 congr 1
 push_cast
 rw [Int.mul_add]
 omega
theorem leftY.hit {r:Rul} {st:Int} {may:Fir→Bool} {y0:Int} {j:Nat} (h:leftY r st may y0 j) (hj:j < 12) (hn:(ofB r (y0 + st * j) && may (firOf r (y0 + st * j))) = true):tryY r st may 12 y0 = some (firOf r (y0 + st * j)):=by
 rw [h.2,show 12 - j = (12 - (j + 1)) + 1 by omega,tryY,hn,if_pos rfl]
theorem leftY.out {r:Rul} {st:Int} {may:Fir→Bool} {y0:Int} (h:leftY r st may y0 12):tryY r st may 12 y0 = none:=by
 rw [h.2];rfl
theorem best_Ahead (w:World) (B:Nat) (v:Value) (l:List Rul) (hv:Ruls w B v l) (hB:B ≤ w.heap.size) (ha:Ahead w) (b1 b3:Nat) (yr:Rul→Int) (st:Int) (better:Fir→Fir→Bool) (may:Fir→Bool)
  (hst:-1 ≤ st∧st ≤ 1) (hyr:∀ r ∈ l,-4000000000000000000 ≤ yr r∧yr r ≤ 4000000000000000000)
  (hy:∀ r ∈ l,∀ W,Below w.heap.size w W→Calls Tryz.prog 100 #[rulA r,.pointer (some ⟨b1,0,none⟩)] W fun e W'=>e = .returned (.tuple #[.int .i64 (yr r),.int .i64 st])∧Below W.heap.size W W')
  (hb:∀ a b W,Calls Tryz.prog 102 #[firA a,firA b] W fun e W'=>e = .returned (.bool (better a b))∧Below W.heap.size W W')
  (hm:∀ f W,Below w.heap.size w W→Calls Tryz.prog 103 #[firA f,.pointer (some ⟨b3,0,none⟩)] W fun e W'=>e = .returned (.bool (may f))∧Below W.heap.size W W') :
  Calls Tryz.prog 101 #[v,.func (.func 100) #[] #[.pointer (some ⟨b1,0,none⟩)],.func (.func 102) #[] #[],.func (.func 103) #[] #[.pointer (some ⟨b3,0,none⟩)]] w fun e w'=>e = .returned (resO (pickV l yr st better may))∧Below w.heap.size w w':=by
 have HV:=Lib.hid hv
 have HA:=Lib.hid ha
 have HY:=Lib.hid hy
 have HBT:=Lib.hid hb
 have HM:=Lib.hid hm
 have HYR:=Lib.hid hyr
 obtain ⟨A,c,rfl,hlc,hcm⟩:=hv.form
 unfold maxLen at hcm
 have HB0:=Lib.hid (((Below.refl w.heap.size w).alloc (Nat.le_refl _) (.cells (firV .zero).toArray 112)).alloc (by simp) (.cells (firV .zero).toArray 112))
 have ho0:=Blk.new (w.alloc (.cells (firV .zero).toArray 112)) 112 (firV .zero).toArray
 have hr0:=(Blk.new w 112 (firV .zero).toArray).alloc (.cells (firV .zero).toArray 112)
 rw [World.size_alloc] at ho0
 have HO0:=Lib.hid (show FirB _ _ (firO (pickV (l.take 0) yr st better may)) from ho0)
 have HR0:=Lib.hid hr0
 clear hv ha hy hb hm hyr ho0 hr0
 unfold firV Fir.zero at HB0 HR0
 unfold firV Fir.zero at HO0
 go_enter Tryz.func101,Tryz.ntmps101
 go_wp2_with fail
 go_step3
 go_wp2_with fail
 go_step3
 go_wp2_with fail
 go_loopw [11,20] (fun fv iv wr=>∃ k:Nat,k ≤ l.length∧iv = .int .i64 k∧fv = .bool (pickV (l.take k) yr st better may).isSome∧FirB wr (w.heap.size + 1) (firO (pickV (l.take k) yr st better may))∧FirB wr w.heap.size .zero∧Below w.heap.size w wr) (fun _ iv _=>l.length - (intOf iv).toNat)
 case atStart=>exact ⟨0,Nat.zero_le _,rfl,rfl,HO0.out,HR0.out,HB0.out⟩
 case round =>
  clear HO0 HR0 HB0
  obtain ⟨k,hk,rfl,rfl,hfb,hf0,hbw⟩:=hrel
  obtain ⟨o,ho⟩:∃ o,pickV (l.take k) yr st better may = o:=⟨_,rfl⟩
  rw [ho] at hfb ⊢
  have HFB:=Lib.hid hfb
  have HF0:=Lib.hid hf0
  have HBW:=Lib.hid hbw
  have hws:=hbw.size
  have hfl:=Blk.lt hfb
  clear hfb hf0 hbw
  by_cases hlt:k < l.length
  ·have hd:decide ((k:Int) < (l.length:Int)) = true:=decide_eq_true (by omega)
   obtain ⟨bb,o1,c',e,hbb,hc⟩:=(HV.out.below (HBW.out.mono hB)).cells (by omega)
   cases e
   obtain ⟨c0,c1,c2,c3,c4,c5,c6,c7,c8,c9,c10⟩:=hc k hlt
   have HNX:=Lib.hid (pickV_next hlt yr st better may)
   rw [ho] at HNX
   have hyk:=HY.out l[k] (List.getElem_mem hlt)
   have hyrk:=HYR.out l[k] (List.getElem_mem hlt)
   obtain ⟨r,hr⟩:∃ r,l[k] = r:=⟨_,rfl⟩
   rw [hr] at c0 c1 c2 c3 c4 c5 c6 c7 c8 c9 c10 HNX hyk hyrk
   have HYK:=Lib.hid hyk
   have HO:=Lib.hid ho
   obtain ⟨y0,hy0⟩:∃ y0,yr r = y0:=⟨_,rfl⟩
   rw [hy0] at hyrk HYK HNX
   clear hc hr hyk ho hy0
   unfold rulA at HYK
   go_wp2_with fail
   refine (HYK.out _ ?b1).mono ?_
   case b1=>exact HBW.out.alloc hws _
   rintro e w2 ⟨rfl,hb⟩
   have HR2:=Lib.hid (show RulB w2 wr.heap.size r from Blk.below (Blk.new wr _ _) hb (Blk.lt (Blk.new wr _ _)))
   have hb2:Below w.heap.size w w2:=(HBW.out.alloc hws _).trans (hb.mono (by rw [World.size_alloc];omega))
   have HB2:=Lib.hid hb2
   have HFB2:=Lib.hid (show FirB w2 (w.heap.size + 1) (firO o) from Blk.below (Blk.alloc HFB.out _) hb (by rw [World.size_alloc];omega))
   have HF02:=Lib.hid (show FirB w2 w.heap.size .zero from Blk.below (Blk.alloc HF0.out _) hb (by rw [World.size_alloc];omega))
   obtain ⟨BX,hBX⟩:∃ n,wr.heap.size = n:=⟨_,rfl⟩
   rw [hBX] at HR2 hws hfl ⊢
   clear hb hb2 c0 c1 c2 c3 c4 c5 c6 c7 c8 c9 c10 HFB HF0 HBW hBX HYK
   go_wp2_with fail
   go_loopw [11,14,30] (fun fv yv jv wi=>∃ j:Nat,fv = .bool o.isSome∧jv = .int .i64 j∧yv = .int .i64 (y0 + st * j)∧leftY r st may y0 j∧RulB wi BX r∧FirB wi (w.heap.size + 1) (firO o)∧FirB wi w.heap.size .zero∧Below w.heap.size w wi) (fun _ _ jv _=>12 - (intOf jv).toNat)
   case atStart=>exact ⟨0,rfl,rfl,by simp,⟨by omega,by simp⟩,HR2.out,HFB2.out,HF02.out,HB2.out⟩
   case round =>
    clear HR2 HB2 HFB2 HF02
    obtain ⟨j,rfl,rfl,rfl,hle,hrb,hfb,hf0,hbw⟩:=hrel
    have HLE:=Lib.hid hle
    have HFB:=Lib.hid hfb
    have HF0:=Lib.hid hf0
    have HRB:=Lib.hid hrb
    have HBI:=Lib.hid hbw
    have hj12:=hle.1
    have hwi:=hbw.size
    have hBl:=Blk.lt hrb
    have hfl2:=Blk.lt hfb
    clear hle hfb hf0 hrb hbw
    by_cases hjl:j < 12
    ·have hd2:decide ((j:Int) < 12) = true:=decide_eq_true (by omega)
     obtain ⟨y,hyv⟩:∃ y,y0 + st * (j:Int) = y:=⟨_,rfl⟩
     have hyr2:-4500000000000000000 ≤ y∧y ≤ 4500000000000000000:=by
      have e1:-1 * (j:Int) ≤ st * j:=Int.mul_le_mul_of_nonneg_right hst.1 (by omega)
      have e2:st * (j:Int) ≤ 1 * j:=Int.mul_le_mul_of_nonneg_right hst.2 (by omega)
      omega
     have HOF:=Lib.hid (fof_any r y wr (HA.out.below HBI.out (Nat.le_refl _)))
     have HYV:=Lib.hid (show y0 + st * ((j + 1:Nat):Int) = y + st by rw [← hyv];push_cast;rw [Int.mul_add];omega)
     have HMY:=Lib.hid (fun (W:World) (hb:Below w.heap.size w W)=>HM.out (firOf r y) W hb)
     rw [hyv]
     have q0:=Blk.cell HRB.out 0 (v:=.string r.name) rfl
     have q1:=Blk.cell HRB.out 1 (v:=.int .i64 r.from_) rfl
     have q2:=Blk.cell HRB.out 2 (v:=.int .i64 r.to_) rfl
     have q3:=Blk.cell HRB.out 3 (v:=.int .i64 r.month) rfl
     have q4:=Blk.cell HRB.out 4 (v:=.int .i64 r.dk) rfl
     have q5:=Blk.cell HRB.out 5 (v:=.int .i64 r.dw) rfl
     have q6:=Blk.cell HRB.out 6 (v:=.int .i64 r.dn) rfl
     have q7:=Blk.cell HRB.out 7 (v:=.int .i64 r.sec) rfl
     have q8:=Blk.cell HRB.out 8 (v:=.int .i64 r.kind) rfl
     have q9:=Blk.cell HRB.out 9 (v:=.int .i64 r.save) rfl
     have q10:=Blk.cell HRB.out 10 (v:=.string r.letter) rfl
     unfold rulA at HOF
     cases hof:ofB r y with
     | false =>
       have hn:(ofB r (y0 + st * (j:Int)) && may (firOf r (y0 + st * (j:Int)))) = false:=by rw [hyv,hof];rfl
       have HL2:=Lib.hid (HLE.out.next hjl hn)
       have hov:ofV r y = .zero:=by unfold ofV;rw [hof];rfl
       rw [hof,hov] at HOF
       unfold firA Fir.zero at HOF
       clear hn hov hof HMY
       go_wp2_with fail
       refine HOF.out.mono ?_
       rintro e w3 ⟨rfl,hb⟩
       have hb3:Below wr.heap.size wr (w3.alloc (.cells #[.int .i64 0,.int .i64 0,.int .i64 0,.string ⟨#[]⟩] 112)):=hb.alloc hb.size _
       have HB3:=Lib.hid hb3
       clear hb hb3 q0 q1 q2 q3 q4 q5 q6 q7 q8 q9 q10
       go_wp2_with fail
       go_roundw
       case rel=>exact ⟨j + 1,rfl,by go_num,by rw [HYV.out],HL2.out,Blk.below HRB.out HB3.out hBl,Blk.below HFB.out HB3.out hfl2,Blk.below HF0.out HB3.out (by omega),HBI.out.trans (HB3.out.mono hwi)⟩
       case measure=>simp [intOf];omega
     | true =>
       have hov:ofV r y = firOf r y:=by unfold ofV;rw [hof];rfl
       rw [hof,hov] at HOF
       obtain ⟨f,hf⟩:∃ f,firOf r y = f:=⟨_,rfl⟩
       rw [hf] at HOF HMY
       unfold firA at HOF HMY
       clear hov
       cases hmy:may f with
       | false =>
         have hn:(ofB r (y0 + st * (j:Int)) && may (firOf r (y0 + st * (j:Int)))) = false:=by rw [hyv,hf,hmy,Bool.and_false]
         have HL2:=Lib.hid (HLE.out.next hjl hn)
         rw [hmy] at HMY
         clear hn hof hf hmy
         go_wp2_with fail
         refine HOF.out.mono ?_
         rintro e w3 ⟨rfl,hb⟩
         have hb3:Below wr.heap.size wr (w3.alloc (.cells #[.int .i64 f.nominal,.int .i64 f.kind,.int .i64 f.save,.string f.letter] 112)):=hb.alloc hb.size _
         have HB3:=Lib.hid hb3
         clear hb hb3 q0 q1 q2 q3 q4 q5 q6 q7 q8 q9 q10
         go_wp2_with fail
         refine (HMY.out _ (HBI.out.trans (HB3.out.mono hwi))).mono ?_
         rintro e w4 ⟨rfl,hb⟩
         have HB4:=Lib.hid (HB3.out.trans (hb.mono HB3.out.size))
         clear hb
         go_wp2_with fail
         go_roundw
         case rel=>exact ⟨j + 1,rfl,by go_num,by rw [HYV.out],HL2.out,Blk.below HRB.out HB4.out hBl,Blk.below HFB.out HB4.out hfl2,Blk.below HF0.out HB4.out (by omega),HBI.out.trans (HB4.out.mono hwi)⟩
         case measure=>simp [intOf];omega
       | true =>
         have hn:(ofB r (y0 + st * (j:Int)) && may (firOf r (y0 + st * (j:Int)))) = true:=by rw [hyv,hf,hmy,hof];rfl
         have HHT:=Lib.hid (HLE.out.hit hjl hn)
         rw [hyv,hf] at HHT
         rw [HHT.out] at HNX
         rw [hmy] at HMY
         clear hn hof hf hmy
         go_wp2_with fail
         refine HOF.out.mono ?_
         rintro e w3 ⟨rfl,hb⟩
         have hb3:Below wr.heap.size wr (w3.alloc (.cells #[.int .i64 f.nominal,.int .i64 f.kind,.int .i64 f.save,.string f.letter] 112)):=hb.alloc hb.size _
         have HB3:=Lib.hid hb3
         have HX3:=Lib.hid (Blk.new w3 112 #[.int .i64 f.nominal,.int .i64 f.kind,.int .i64 f.save,.string f.letter])
         clear hb hb3 q0 q1 q2 q3 q4 q5 q6 q7 q8 q9 q10
         go_wp2_with fail
         refine (HMY.out _ (HBI.out.trans (HB3.out.mono hwi))).mono ?_
         rintro e w4 ⟨rfl,hb⟩
         have HB4:=Lib.hid (HB3.out.trans (hb.mono HB3.out.size))
         have HX4:=Lib.hid (HX3.out.below hb HX3.out.lt)
         have HFB4:=Lib.hid (show FirB w4 (w.heap.size + 1) (firO o) from Blk.below HFB.out HB4.out hfl2)
         have HF04:=Lib.hid (show FirB w4 w.heap.size .zero from Blk.below HF0.out HB4.out (by omega))
         have HBW4:=Lib.hid (HBI.out.trans (HB4.out.mono hwi))
         clear hb
         cases o with
         | none =>
           have HN2:=Lib.hid (show pickV (l.take (k + 1)) yr st better may = some f from HNX.out)
           have hf4:=HFB4.out.lt
           have s0:=HFB4.out.cell 0 (v:=.int .i64 0) rfl
           have s1:=HFB4.out.cell 1 (v:=.int .i64 0) rfl
           have s2:=HFB4.out.cell 2 (v:=.int .i64 0) rfl
           have s3:=HFB4.out.cell 3 (v:=.string ⟨#[]⟩) rfl
           have g0:=HFB4.out.frozen 0
           have g1:=HFB4.out.frozen 1
           have g2:=HFB4.out.frozen 2
           have g3:=HFB4.out.frozen 3
           have x0:=HX4.out.cell 0 (v:=.int .i64 f.nominal) rfl
           have x1:=HX4.out.cell 1 (v:=.int .i64 f.kind) rfl
           have x2:=HX4.out.cell 2 (v:=.int .i64 f.save) rfl
           have x3:=HX4.out.cell 3 (v:=.string f.letter) rfl
           have hx:=HX4.out.lt
           go_wp2_with fail
           exact ⟨⟨k + 1,by omega,by go_num,by rw [HN2.out] <;> rfl,by rw [HN2.out];exact (((HFB4.out.set 0 _).set 1 _).set 2 _).set 3 _,(((HF04.out.other (by omega) 0 _).other (by omega) 1 _).other (by omega) 2 _).other (by omega) 3 _,below_set4 HBW4.out (by omega) _ _ _ _⟩,by simp [intOf];omega⟩
         | some x =>
           have HBX:=Lib.hid (fun W=>HBT.out f x W)
           unfold firA at HBX
           have hf4:=HFB4.out.lt
           have s0:=HFB4.out.cell 0 (v:=.int .i64 x.nominal) rfl
           have s1:=HFB4.out.cell 1 (v:=.int .i64 x.kind) rfl
           have s2:=HFB4.out.cell 2 (v:=.int .i64 x.save) rfl
           have s3:=HFB4.out.cell 3 (v:=.string x.letter) rfl
           have x0:=HX4.out.cell 0 (v:=.int .i64 f.nominal) rfl
           have x1:=HX4.out.cell 1 (v:=.int .i64 f.kind) rfl
           have x2:=HX4.out.cell 2 (v:=.int .i64 f.save) rfl
           have x3:=HX4.out.cell 3 (v:=.string f.letter) rfl
           have hx:=HX4.out.lt
           cases hbt:better f x with
           | false =>
             have HN2:=Lib.hid (show pickV (l.take (k + 1)) yr st better may = some x from HNX.out.trans (by unfold pickS;simp only;rw [hbt];rfl))
             rw [hbt] at HBX
             clear hbt
             go_wp2_with fail
             refine (HBX.out _).mono ?_
             rintro e w5 ⟨rfl,hb⟩
             have HFB5:=Lib.hid (show FirB w5 (w.heap.size + 1) x from Blk.below HFB4.out hb hf4)
             have HF05:=Lib.hid (show FirB w5 w.heap.size .zero from Blk.below HF04.out hb (by omega))
             have HBW5:=Lib.hid (HBW4.out.trans (hb.mono HBW4.out.size))
             have HX5:=Lib.hid (HX4.out.below hb HX4.out.lt)
             have hf5:=HFB5.out.lt
             clear hb s0 s1 s2 s3 x0 x1 x2 x3
             go_wp2_with fail
             exact ⟨⟨k + 1,by omega,by go_num,by rw [HN2.out] <;> rfl,by rw [HN2.out];exact HFB5.out,HF05.out,HBW5.out⟩,by simp [intOf];omega⟩
           | true =>
             have HN2:=Lib.hid (show pickV (l.take (k + 1)) yr st better may = some f from HNX.out.trans (by unfold pickS;simp only;rw [hbt];rfl))
             rw [hbt] at HBX
             clear hbt
             go_wp2_with fail
             refine (HBX.out _).mono ?_
             rintro e w5 ⟨rfl,hb⟩
             have HFB5:=Lib.hid (show FirB w5 (w.heap.size + 1) x from Blk.below HFB4.out hb hf4)
             have HF05:=Lib.hid (show FirB w5 w.heap.size .zero from Blk.below HF04.out hb (by omega))
             have HBW5:=Lib.hid (HBW4.out.trans (hb.mono HBW4.out.size))
             have HX5:=Lib.hid (HX4.out.below hb HX4.out.lt)
             have hf5:=HFB5.out.lt
             clear hb s0 s1 s2 s3 x0 x1 x2 x3
             have s0:=HFB5.out.cell 0 (v:=.int .i64 x.nominal) rfl
             have s1:=HFB5.out.cell 1 (v:=.int .i64 x.kind) rfl
             have s2:=HFB5.out.cell 2 (v:=.int .i64 x.save) rfl
             have s3:=HFB5.out.cell 3 (v:=.string x.letter) rfl
             have g0:=HFB5.out.frozen 0
             have g1:=HFB5.out.frozen 1
             have g2:=HFB5.out.frozen 2
             have g3:=HFB5.out.frozen 3
             have x0:=HX5.out.cell 0 (v:=.int .i64 f.nominal) rfl
             have x1:=HX5.out.cell 1 (v:=.int .i64 f.kind) rfl
             have x2:=HX5.out.cell 2 (v:=.int .i64 f.save) rfl
             have x3:=HX5.out.cell 3 (v:=.string f.letter) rfl
             have hx5:=HX5.out.lt
             go_wp2_with fail
             exact ⟨⟨k + 1,by omega,by go_num,by rw [HN2.out] <;> rfl,by rw [HN2.out];exact (((HFB5.out.set 0 _).set 1 _).set 2 _).set 3 _,(((HF05.out.other (by omega) 0 _).other (by omega) 1 _).other (by omega) 2 _).other (by omega) 3 _,below_set4 HBW5.out (by omega) _ _ _ _⟩,by simp [intOf];omega⟩
    ·obtain rfl:j = 12:=by omega
     have hd2:decide (((12:Nat):Int) < 12) = false:=by decide
     have HN2:=Lib.hid (show pickV (l.take (k + 1)) yr st better may = o by rw [HNX.out,HLE.out.out];rfl)
     go_wp2_with fail
     exact ⟨⟨k + 1,by omega,by go_num,by rw [HN2.out],by rw [HN2.out];exact HFB.out,HF0.out,HBI.out⟩,by simp [intOf];omega⟩
  ·obtain rfl:k = l.length:=by omega
   have hd:decide ((l.length:Int) < (l.length:Int)) = false:=decide_eq_false (by omega)
   rw [List.take_length] at ho
   have HO:=Lib.hid ho
   obtain ⟨f,hf⟩:∃ f,firO o = f:=⟨_,rfl⟩
   have HFO:=Lib.hid hf
   rw [hf] at HFB
   have q0:=HFB.out.cell 0 (v:=.int .i64 f.nominal) rfl
   have q1:=HFB.out.cell 1 (v:=.int .i64 f.kind) rfl
   have q2:=HFB.out.cell 2 (v:=.int .i64 f.save) rfl
   have q3:=HFB.out.cell 3 (v:=.string f.letter) rfl
   have hf0l:=Blk.lt HF0.out
   have p0:=HF0.out.cell 0 (v:=.int .i64 0) rfl
   have p1:=HF0.out.cell 1 (v:=.int .i64 0) rfl
   have p2:=HF0.out.cell 2 (v:=.int .i64 0) rfl
   have p3:=HF0.out.cell 3 (v:=.string ⟨#[]⟩) rfl
   have z0:=HF0.out.frozen 0
   have z1:=HF0.out.frozen 1
   have z2:=HF0.out.frozen 2
   have z3:=HF0.out.frozen 3
   clear hf ho
   go_wp2_with fail
   have HX:=Lib.hid (((HF0.out.set 0 (.int .i64 f.nominal)).set 1 (.int .i64 f.kind)).set 2 (.int .i64 f.save) |>.set 3 (.string f.letter))
   have v0:=HX.out.cell 0 (v:=.int .i64 f.nominal) rfl
   have v1:=HX.out.cell 1 (v:=.int .i64 f.kind) rfl
   have v2:=HX.out.cell 2 (v:=.int .i64 f.save) rfl
   have v3:=HX.out.cell 3 (v:=.string f.letter) rfl
   rw [Exit.noGoto_ret]
   refine bodyPost_ret (v:=resO o) ?_ rfl ⟨by rw [HO.out],below_set4 HBW.out (by omega) _ _ _ _⟩
   unfold resO
   rw [HFO.out]
   simp [results,Tryz.f101,go_sem,v0,v1,v2,v3,firA]
theorem best_Behind (w:World) (B:Nat) (v:Value) (l:List Rul) (hv:Ruls w B v l) (hB:B ≤ w.heap.size) (ha:Ahead w) (b1 b3:Nat) (yr:Rul→Int) (st:Int) (better:Fir→Fir→Bool) (may:Fir→Bool)
  (hst:-1 ≤ st∧st ≤ 1) (hyr:∀ r ∈ l,-4000000000000000000 ≤ yr r∧yr r ≤ 4000000000000000000)
  (hy:∀ r ∈ l,∀ W,Below w.heap.size w W→Calls Tryz.prog 144 #[rulA r,.pointer (some ⟨b1,0,none⟩)] W fun e W'=>e = .returned (.tuple #[.int .i64 (yr r),.int .i64 st])∧Below W.heap.size W W')
  (hb:∀ a b W,Calls Tryz.prog 145 #[firA a,firA b] W fun e W'=>e = .returned (.bool (better a b))∧Below W.heap.size W W')
  (hm:∀ f W,Below w.heap.size w W→Calls Tryz.prog 146 #[firA f,.pointer (some ⟨b3,0,none⟩)] W fun e W'=>e = .returned (.bool (may f))∧Below W.heap.size W W') :
  Calls Tryz.prog 101 #[v,.func (.func 144) #[] #[.pointer (some ⟨b1,0,none⟩)],.func (.func 145) #[] #[],.func (.func 146) #[] #[.pointer (some ⟨b3,0,none⟩)]] w fun e w'=>e = .returned (resO (pickV l yr st better may))∧Below w.heap.size w w':=by
 have HV:=Lib.hid hv
 have HA:=Lib.hid ha
 have HY:=Lib.hid hy
 have HBT:=Lib.hid hb
 have HM:=Lib.hid hm
 have HYR:=Lib.hid hyr
 obtain ⟨A,c,rfl,hlc,hcm⟩:=hv.form
 unfold maxLen at hcm
 have HB0:=Lib.hid (((Below.refl w.heap.size w).alloc (Nat.le_refl _) (.cells (firV .zero).toArray 112)).alloc (by simp) (.cells (firV .zero).toArray 112))
 have ho0:=Blk.new (w.alloc (.cells (firV .zero).toArray 112)) 112 (firV .zero).toArray
 have hr0:=(Blk.new w 112 (firV .zero).toArray).alloc (.cells (firV .zero).toArray 112)
 rw [World.size_alloc] at ho0
 have HO0:=Lib.hid (show FirB _ _ (firO (pickV (l.take 0) yr st better may)) from ho0)
 have HR0:=Lib.hid hr0
 clear hv ha hy hb hm hyr ho0 hr0
 unfold firV Fir.zero at HB0 HR0
 unfold firV Fir.zero at HO0
 go_enter Tryz.func101,Tryz.ntmps101
 go_wp2_with fail
 go_step3
 go_wp2_with fail
 go_step3
 go_wp2_with fail
 go_loopw [11,20] (fun fv iv wr=>∃ k:Nat,k ≤ l.length∧iv = .int .i64 k∧fv = .bool (pickV (l.take k) yr st better may).isSome∧FirB wr (w.heap.size + 1) (firO (pickV (l.take k) yr st better may))∧FirB wr w.heap.size .zero∧Below w.heap.size w wr) (fun _ iv _=>l.length - (intOf iv).toNat)
 case atStart=>exact ⟨0,Nat.zero_le _,rfl,rfl,HO0.out,HR0.out,HB0.out⟩
 case round =>
  clear HO0 HR0 HB0
  obtain ⟨k,hk,rfl,rfl,hfb,hf0,hbw⟩:=hrel
  obtain ⟨o,ho⟩:∃ o,pickV (l.take k) yr st better may = o:=⟨_,rfl⟩
  rw [ho] at hfb ⊢
  have HFB:=Lib.hid hfb
  have HF0:=Lib.hid hf0
  have HBW:=Lib.hid hbw
  have hws:=hbw.size
  have hfl:=Blk.lt hfb
  clear hfb hf0 hbw
  by_cases hlt:k < l.length
  ·have hd:decide ((k:Int) < (l.length:Int)) = true:=decide_eq_true (by omega)
   obtain ⟨bb,o1,c',e,hbb,hc⟩:=(HV.out.below (HBW.out.mono hB)).cells (by omega)
   cases e
   obtain ⟨c0,c1,c2,c3,c4,c5,c6,c7,c8,c9,c10⟩:=hc k hlt
   have HNX:=Lib.hid (pickV_next hlt yr st better may)
   rw [ho] at HNX
   have hyk:=HY.out l[k] (List.getElem_mem hlt)
   have hyrk:=HYR.out l[k] (List.getElem_mem hlt)
   obtain ⟨r,hr⟩:∃ r,l[k] = r:=⟨_,rfl⟩
   rw [hr] at c0 c1 c2 c3 c4 c5 c6 c7 c8 c9 c10 HNX hyk hyrk
   have HYK:=Lib.hid hyk
   have HO:=Lib.hid ho
   obtain ⟨y0,hy0⟩:∃ y0,yr r = y0:=⟨_,rfl⟩
   rw [hy0] at hyrk HYK HNX
   clear hc hr hyk ho hy0
   unfold rulA at HYK
   go_wp2_with fail
   refine (HYK.out _ ?b1).mono ?_
   case b1=>exact HBW.out.alloc hws _
   rintro e w2 ⟨rfl,hb⟩
   have HR2:=Lib.hid (show RulB w2 wr.heap.size r from Blk.below (Blk.new wr _ _) hb (Blk.lt (Blk.new wr _ _)))
   have hb2:Below w.heap.size w w2:=(HBW.out.alloc hws _).trans (hb.mono (by rw [World.size_alloc];omega))
   have HB2:=Lib.hid hb2
   have HFB2:=Lib.hid (show FirB w2 (w.heap.size + 1) (firO o) from Blk.below (Blk.alloc HFB.out _) hb (by rw [World.size_alloc];omega))
   have HF02:=Lib.hid (show FirB w2 w.heap.size .zero from Blk.below (Blk.alloc HF0.out _) hb (by rw [World.size_alloc];omega))
   obtain ⟨BX,hBX⟩:∃ n,wr.heap.size = n:=⟨_,rfl⟩
   rw [hBX] at HR2 hws hfl ⊢
   clear hb hb2 c0 c1 c2 c3 c4 c5 c6 c7 c8 c9 c10 HFB HF0 HBW hBX HYK
   go_wp2_with fail
   go_loopw [11,14,30] (fun fv yv jv wi=>∃ j:Nat,fv = .bool o.isSome∧jv = .int .i64 j∧yv = .int .i64 (y0 + st * j)∧leftY r st may y0 j∧RulB wi BX r∧FirB wi (w.heap.size + 1) (firO o)∧FirB wi w.heap.size .zero∧Below w.heap.size w wi) (fun _ _ jv _=>12 - (intOf jv).toNat)
   case atStart=>exact ⟨0,rfl,rfl,by simp,⟨by omega,by simp⟩,HR2.out,HFB2.out,HF02.out,HB2.out⟩
   case round =>
    clear HR2 HB2 HFB2 HF02
    obtain ⟨j,rfl,rfl,rfl,hle,hrb,hfb,hf0,hbw⟩:=hrel
    have HLE:=Lib.hid hle
    have HFB:=Lib.hid hfb
    have HF0:=Lib.hid hf0
    have HRB:=Lib.hid hrb
    have HBI:=Lib.hid hbw
    have hj12:=hle.1
    have hwi:=hbw.size
    have hBl:=Blk.lt hrb
    have hfl2:=Blk.lt hfb
    clear hle hfb hf0 hrb hbw
    by_cases hjl:j < 12
    ·have hd2:decide ((j:Int) < 12) = true:=decide_eq_true (by omega)
     obtain ⟨y,hyv⟩:∃ y,y0 + st * (j:Int) = y:=⟨_,rfl⟩
     have hyr2:-4500000000000000000 ≤ y∧y ≤ 4500000000000000000:=by
      have e1:-1 * (j:Int) ≤ st * j:=Int.mul_le_mul_of_nonneg_right hst.1 (by omega)
      have e2:st * (j:Int) ≤ 1 * j:=Int.mul_le_mul_of_nonneg_right hst.2 (by omega)
      omega
     have HOF:=Lib.hid (fof_any r y wr (HA.out.below HBI.out (Nat.le_refl _)))
     have HYV:=Lib.hid (show y0 + st * ((j + 1:Nat):Int) = y + st by rw [← hyv];push_cast;rw [Int.mul_add];omega)
     have HMY:=Lib.hid (fun (W:World) (hb:Below w.heap.size w W)=>HM.out (firOf r y) W hb)
     rw [hyv]
     have q0:=Blk.cell HRB.out 0 (v:=.string r.name) rfl
     have q1:=Blk.cell HRB.out 1 (v:=.int .i64 r.from_) rfl
     have q2:=Blk.cell HRB.out 2 (v:=.int .i64 r.to_) rfl
     have q3:=Blk.cell HRB.out 3 (v:=.int .i64 r.month) rfl
     have q4:=Blk.cell HRB.out 4 (v:=.int .i64 r.dk) rfl
     have q5:=Blk.cell HRB.out 5 (v:=.int .i64 r.dw) rfl
     have q6:=Blk.cell HRB.out 6 (v:=.int .i64 r.dn) rfl
     have q7:=Blk.cell HRB.out 7 (v:=.int .i64 r.sec) rfl
     have q8:=Blk.cell HRB.out 8 (v:=.int .i64 r.kind) rfl
     have q9:=Blk.cell HRB.out 9 (v:=.int .i64 r.save) rfl
     have q10:=Blk.cell HRB.out 10 (v:=.string r.letter) rfl
     unfold rulA at HOF
     cases hof:ofB r y with
     | false =>
       have hn:(ofB r (y0 + st * (j:Int)) && may (firOf r (y0 + st * (j:Int)))) = false:=by rw [hyv,hof];rfl
       have HL2:=Lib.hid (HLE.out.next hjl hn)
       have hov:ofV r y = .zero:=by unfold ofV;rw [hof];rfl
       rw [hof,hov] at HOF
       unfold firA Fir.zero at HOF
       clear hn hov hof HMY
       go_wp2_with fail
       refine HOF.out.mono ?_
       rintro e w3 ⟨rfl,hb⟩
       have hb3:Below wr.heap.size wr (w3.alloc (.cells #[.int .i64 0,.int .i64 0,.int .i64 0,.string ⟨#[]⟩] 112)):=hb.alloc hb.size _
       have HB3:=Lib.hid hb3
       clear hb hb3 q0 q1 q2 q3 q4 q5 q6 q7 q8 q9 q10
       go_wp2_with fail
       go_roundw
       case rel=>exact ⟨j + 1,rfl,by go_num,by rw [HYV.out],HL2.out,Blk.below HRB.out HB3.out hBl,Blk.below HFB.out HB3.out hfl2,Blk.below HF0.out HB3.out (by omega),HBI.out.trans (HB3.out.mono hwi)⟩
       case measure=>simp [intOf];omega
     | true =>
       have hov:ofV r y = firOf r y:=by unfold ofV;rw [hof];rfl
       rw [hof,hov] at HOF
       obtain ⟨f,hf⟩:∃ f,firOf r y = f:=⟨_,rfl⟩
       rw [hf] at HOF HMY
       unfold firA at HOF HMY
       clear hov
       cases hmy:may f with
       | false =>
         have hn:(ofB r (y0 + st * (j:Int)) && may (firOf r (y0 + st * (j:Int)))) = false:=by rw [hyv,hf,hmy,Bool.and_false]
         have HL2:=Lib.hid (HLE.out.next hjl hn)
         rw [hmy] at HMY
         clear hn hof hf hmy
         go_wp2_with fail
         refine HOF.out.mono ?_
         rintro e w3 ⟨rfl,hb⟩
         have hb3:Below wr.heap.size wr (w3.alloc (.cells #[.int .i64 f.nominal,.int .i64 f.kind,.int .i64 f.save,.string f.letter] 112)):=hb.alloc hb.size _
         have HB3:=Lib.hid hb3
         clear hb hb3 q0 q1 q2 q3 q4 q5 q6 q7 q8 q9 q10
         go_wp2_with fail
         refine (HMY.out _ (HBI.out.trans (HB3.out.mono hwi))).mono ?_
         rintro e w4 ⟨rfl,hb⟩
         have HB4:=Lib.hid (HB3.out.trans (hb.mono HB3.out.size))
         clear hb
         go_wp2_with fail
         go_roundw
         case rel=>exact ⟨j + 1,rfl,by go_num,by rw [HYV.out],HL2.out,Blk.below HRB.out HB4.out hBl,Blk.below HFB.out HB4.out hfl2,Blk.below HF0.out HB4.out (by omega),HBI.out.trans (HB4.out.mono hwi)⟩
         case measure=>simp [intOf];omega
       | true =>
         have hn:(ofB r (y0 + st * (j:Int)) && may (firOf r (y0 + st * (j:Int)))) = true:=by rw [hyv,hf,hmy,hof];rfl
         have HHT:=Lib.hid (HLE.out.hit hjl hn)
         rw [hyv,hf] at HHT
         rw [HHT.out] at HNX
         rw [hmy] at HMY
         clear hn hof hf hmy
         go_wp2_with fail
         refine HOF.out.mono ?_
         rintro e w3 ⟨rfl,hb⟩
         have hb3:Below wr.heap.size wr (w3.alloc (.cells #[.int .i64 f.nominal,.int .i64 f.kind,.int .i64 f.save,.string f.letter] 112)):=hb.alloc hb.size _
         have HB3:=Lib.hid hb3
         have HX3:=Lib.hid (Blk.new w3 112 #[.int .i64 f.nominal,.int .i64 f.kind,.int .i64 f.save,.string f.letter])
         clear hb hb3 q0 q1 q2 q3 q4 q5 q6 q7 q8 q9 q10
         go_wp2_with fail
         refine (HMY.out _ (HBI.out.trans (HB3.out.mono hwi))).mono ?_
         rintro e w4 ⟨rfl,hb⟩
         have HB4:=Lib.hid (HB3.out.trans (hb.mono HB3.out.size))
         have HX4:=Lib.hid (HX3.out.below hb HX3.out.lt)
         have HFB4:=Lib.hid (show FirB w4 (w.heap.size + 1) (firO o) from Blk.below HFB.out HB4.out hfl2)
         have HF04:=Lib.hid (show FirB w4 w.heap.size .zero from Blk.below HF0.out HB4.out (by omega))
         have HBW4:=Lib.hid (HBI.out.trans (HB4.out.mono hwi))
         clear hb
         cases o with
         | none =>
           have HN2:=Lib.hid (show pickV (l.take (k + 1)) yr st better may = some f from HNX.out)
           have hf4:=HFB4.out.lt
           have s0:=HFB4.out.cell 0 (v:=.int .i64 0) rfl
           have s1:=HFB4.out.cell 1 (v:=.int .i64 0) rfl
           have s2:=HFB4.out.cell 2 (v:=.int .i64 0) rfl
           have s3:=HFB4.out.cell 3 (v:=.string ⟨#[]⟩) rfl
           have g0:=HFB4.out.frozen 0
           have g1:=HFB4.out.frozen 1
           have g2:=HFB4.out.frozen 2
           have g3:=HFB4.out.frozen 3
           have x0:=HX4.out.cell 0 (v:=.int .i64 f.nominal) rfl
           have x1:=HX4.out.cell 1 (v:=.int .i64 f.kind) rfl
           have x2:=HX4.out.cell 2 (v:=.int .i64 f.save) rfl
           have x3:=HX4.out.cell 3 (v:=.string f.letter) rfl
           have hx:=HX4.out.lt
           go_wp2_with fail
           exact ⟨⟨k + 1,by omega,by go_num,by rw [HN2.out] <;> rfl,by rw [HN2.out];exact (((HFB4.out.set 0 _).set 1 _).set 2 _).set 3 _,(((HF04.out.other (by omega) 0 _).other (by omega) 1 _).other (by omega) 2 _).other (by omega) 3 _,below_set4 HBW4.out (by omega) _ _ _ _⟩,by simp [intOf];omega⟩
         | some x =>
           have HBX:=Lib.hid (fun W=>HBT.out f x W)
           unfold firA at HBX
           have hf4:=HFB4.out.lt
           have s0:=HFB4.out.cell 0 (v:=.int .i64 x.nominal) rfl
           have s1:=HFB4.out.cell 1 (v:=.int .i64 x.kind) rfl
           have s2:=HFB4.out.cell 2 (v:=.int .i64 x.save) rfl
           have s3:=HFB4.out.cell 3 (v:=.string x.letter) rfl
           have x0:=HX4.out.cell 0 (v:=.int .i64 f.nominal) rfl
           have x1:=HX4.out.cell 1 (v:=.int .i64 f.kind) rfl
           have x2:=HX4.out.cell 2 (v:=.int .i64 f.save) rfl
           have x3:=HX4.out.cell 3 (v:=.string f.letter) rfl
           have hx:=HX4.out.lt
           cases hbt:better f x with
           | false =>
             have HN2:=Lib.hid (show pickV (l.take (k + 1)) yr st better may = some x from HNX.out.trans (by unfold pickS;simp only;rw [hbt];rfl))
             rw [hbt] at HBX
             clear hbt
             go_wp2_with fail
             refine (HBX.out _).mono ?_
             rintro e w5 ⟨rfl,hb⟩
             have HFB5:=Lib.hid (show FirB w5 (w.heap.size + 1) x from Blk.below HFB4.out hb hf4)
             have HF05:=Lib.hid (show FirB w5 w.heap.size .zero from Blk.below HF04.out hb (by omega))
             have HBW5:=Lib.hid (HBW4.out.trans (hb.mono HBW4.out.size))
             have HX5:=Lib.hid (HX4.out.below hb HX4.out.lt)
             have hf5:=HFB5.out.lt
             clear hb s0 s1 s2 s3 x0 x1 x2 x3
             go_wp2_with fail
             exact ⟨⟨k + 1,by omega,by go_num,by rw [HN2.out] <;> rfl,by rw [HN2.out];exact HFB5.out,HF05.out,HBW5.out⟩,by simp [intOf];omega⟩
           | true =>
             have HN2:=Lib.hid (show pickV (l.take (k + 1)) yr st better may = some f from HNX.out.trans (by unfold pickS;simp only;rw [hbt];rfl))
             rw [hbt] at HBX
             clear hbt
             go_wp2_with fail
             refine (HBX.out _).mono ?_
             rintro e w5 ⟨rfl,hb⟩
             have HFB5:=Lib.hid (show FirB w5 (w.heap.size + 1) x from Blk.below HFB4.out hb hf4)
             have HF05:=Lib.hid (show FirB w5 w.heap.size .zero from Blk.below HF04.out hb (by omega))
             have HBW5:=Lib.hid (HBW4.out.trans (hb.mono HBW4.out.size))
             have HX5:=Lib.hid (HX4.out.below hb HX4.out.lt)
             have hf5:=HFB5.out.lt
             clear hb s0 s1 s2 s3 x0 x1 x2 x3
             have s0:=HFB5.out.cell 0 (v:=.int .i64 x.nominal) rfl
             have s1:=HFB5.out.cell 1 (v:=.int .i64 x.kind) rfl
             have s2:=HFB5.out.cell 2 (v:=.int .i64 x.save) rfl
             have s3:=HFB5.out.cell 3 (v:=.string x.letter) rfl
             have g0:=HFB5.out.frozen 0
             have g1:=HFB5.out.frozen 1
             have g2:=HFB5.out.frozen 2
             have g3:=HFB5.out.frozen 3
             have x0:=HX5.out.cell 0 (v:=.int .i64 f.nominal) rfl
             have x1:=HX5.out.cell 1 (v:=.int .i64 f.kind) rfl
             have x2:=HX5.out.cell 2 (v:=.int .i64 f.save) rfl
             have x3:=HX5.out.cell 3 (v:=.string f.letter) rfl
             have hx5:=HX5.out.lt
             go_wp2_with fail
             exact ⟨⟨k + 1,by omega,by go_num,by rw [HN2.out] <;> rfl,by rw [HN2.out];exact (((HFB5.out.set 0 _).set 1 _).set 2 _).set 3 _,(((HF05.out.other (by omega) 0 _).other (by omega) 1 _).other (by omega) 2 _).other (by omega) 3 _,below_set4 HBW5.out (by omega) _ _ _ _⟩,by simp [intOf];omega⟩
    ·obtain rfl:j = 12:=by omega
     have hd2:decide (((12:Nat):Int) < 12) = false:=by decide
     have HN2:=Lib.hid (show pickV (l.take (k + 1)) yr st better may = o by rw [HNX.out,HLE.out.out];rfl)
     go_wp2_with fail
     exact ⟨⟨k + 1,by omega,by go_num,by rw [HN2.out],by rw [HN2.out];exact HFB.out,HF0.out,HBI.out⟩,by simp [intOf];omega⟩
  ·obtain rfl:k = l.length:=by omega
   have hd:decide ((l.length:Int) < (l.length:Int)) = false:=decide_eq_false (by omega)
   rw [List.take_length] at ho
   have HO:=Lib.hid ho
   obtain ⟨f,hf⟩:∃ f,firO o = f:=⟨_,rfl⟩
   have HFO:=Lib.hid hf
   rw [hf] at HFB
   have q0:=HFB.out.cell 0 (v:=.int .i64 f.nominal) rfl
   have q1:=HFB.out.cell 1 (v:=.int .i64 f.kind) rfl
   have q2:=HFB.out.cell 2 (v:=.int .i64 f.save) rfl
   have q3:=HFB.out.cell 3 (v:=.string f.letter) rfl
   have hf0l:=Blk.lt HF0.out
   have p0:=HF0.out.cell 0 (v:=.int .i64 0) rfl
   have p1:=HF0.out.cell 1 (v:=.int .i64 0) rfl
   have p2:=HF0.out.cell 2 (v:=.int .i64 0) rfl
   have p3:=HF0.out.cell 3 (v:=.string ⟨#[]⟩) rfl
   have z0:=HF0.out.frozen 0
   have z1:=HF0.out.frozen 1
   have z2:=HF0.out.frozen 2
   have z3:=HF0.out.frozen 3
   clear hf ho
   go_wp2_with fail
   have HX:=Lib.hid (((HF0.out.set 0 (.int .i64 f.nominal)).set 1 (.int .i64 f.kind)).set 2 (.int .i64 f.save) |>.set 3 (.string f.letter))
   have v0:=HX.out.cell 0 (v:=.int .i64 f.nominal) rfl
   have v1:=HX.out.cell 1 (v:=.int .i64 f.kind) rfl
   have v2:=HX.out.cell 2 (v:=.int .i64 f.save) rfl
   have v3:=HX.out.cell 3 (v:=.string f.letter) rfl
   rw [Exit.noGoto_ret]
   refine bodyPost_ret (v:=resO o) ?_ rfl ⟨by rw [HO.out],below_set4 HBW.out (by omega) _ _ _ _⟩
   unfold resO
   rw [HFO.out]
   simp [results,Tryz.f101,go_sem,v0,v1,v2,v3,firA]
end
section -- PLate
open Go Go.RowKit Go.Shelf
def yrOk (l:List Rul):Prop:=∀ r ∈ l,(-4000000000000000000 ≤ r.from_∧r.from_ ≤ 4000000000000000000)∧-4000000000000000000 ≤ r.to_
theorem secYear_in (s:Int):-100001 ≤ secYear s∧secYear s ≤ 100001:=by
 unfold secYear
 split
 ·rename_i h
  unfold ofInB at h
  rw [decide_eq_true_eq] at h
  have:=dateB_in (of_date h.1 h.2).1
  omega
 ·omega
theorem fahead_any (w:World) (v:Value) (l:List Rul) (hv:Ruls w w.heap.size v l) (ha:Ahead w) (ho:yrOk l) (s:Int) (h1:-9223372036854775808 ≤ s) (h2:s ≤ 9223372036854775807) :
  Calls Tryz.prog 60 #[v,.int .i64 s] w fun e w'=>e = .returned (resO (aheadF l s))∧Below w.heap.size w w':=by
 have HY:=Lib.hid (fyear_any s h1 h2 (w.alloc (.cells #[.int .i64 s] 3) |>.alloc (.cells (firV .zero).toArray 112)) ((ha.below ((Below.refl w.heap.size w).alloc (Nat.le_refl _) _) (Nat.le_refl _)).below ((Below.refl (w.alloc (.cells #[.int .i64 s] 3)).heap.size (w.alloc (.cells #[.int .i64 s] 3))).alloc (Nat.le_refl _) _) (Nat.le_refl _)))
 have hb0:Below w.heap.size w ((w.alloc (.cells #[.int .i64 s] 3)).alloc (.cells (firV .zero).toArray 112)):=((Below.refl w.heap.size w).alloc (Nat.le_refl _) _).alloc (by simp) _
 have hs0:=(Blk.new w 3 #[.int .i64 s]).alloc (.cells (firV .zero).toArray 112)
 have hr0:=Blk.new (w.alloc (.cells #[.int .i64 s] 3)) 112 (firV .zero).toArray
 rw [World.size_alloc] at hr0
 have HV:=Lib.hid hv
 have HA:=Lib.hid ha
 have HO:=Lib.hid ho
 have hyi:=secYear_in s
 obtain ⟨Y,hY⟩:∃ Y,secYear s = Y:=⟨_,rfl⟩
 have HF:=Lib.hid (show aheadF l s = pickV l (fun r=>min r.to_ (Y + 1)) (-1) geB (underB s) by unfold aheadF;rw [hY])
 rw [hY] at HY hyi
 clear hY hv ha ho
 unfold firV Fir.zero at HY hb0 hs0 hr0
 go_enter Tryz.func60,Tryz.ntmps60
 go_wp2_with fail
 refine HY.out.mono ?_
 rintro e w1 ⟨rfl,hb⟩
 have hs1:=hs0.below hb hs0.lt
 have hr1:=hr0.below hb hr0.lt
 have hb1:=hb0.trans (hb.mono hb0.size)
 have hz1:=hb1.size
 have HS2:=Lib.hid (hs1.alloc (.cells #[.int .i64 (Y + 1)] 3))
 have HR2:=Lib.hid (hr1.alloc (.cells #[.int .i64 (Y + 1)] 3))
 have HL2:=Lib.hid (Blk.new w1 3 #[.int .i64 (Y + 1)])
 have HB2:=Lib.hid (hb1.alloc hz1 (.cells #[.int .i64 (Y + 1)] 3))
 have hrl:=hr1.lt
 have hll:=HL2.out.lt
 have hsl:=HS2.out.lt
 clear hb hb0 hs0 hr0 hs1 hr1 hb1 HY
 go_wp2_with fail
 have HBE:=Lib.hid (best_Ahead _ w.heap.size v l (HV.out.below HB2.out |>.more (Nat.le_refl _)) HB2.out.size (HA.out.below HB2.out (Nat.le_refl _)) w1.heap.size w.heap.size (fun r=>min r.to_ (Y + 1)) (-1) geB (underB s) (by omega) (fun r hr=>by have:=HO.out r hr;omega)
  (fun r hr W hb=>ahead1_any W r w1.heap.size (Y + 1) ((HL2.out.below hb hll).cell 0 rfl)) (fun a b W=>ahead2_any W a b) (fun f W hb=>ahead3_any W f w.heap.size s ((HS2.out.below hb hsl).cell 0 rfl)))
 rw [← HF.out] at HBE
 refine HBE.out.mono ?_
 rintro e w2 ⟨rfl,hb⟩
 have HR3:=Lib.hid (HR2.out.below hb HR2.out.lt)
 have HB3:=Lib.hid (HB2.out.trans (hb.mono HB2.out.size))
 clear hb HR2 HB2 HBE
 obtain ⟨o,hoo⟩:∃ o,aheadF l s = o:=⟨_,rfl⟩
 rw [hoo]
 have HOO:=Lib.hid hoo
 clear hoo
 obtain ⟨f,hf⟩:∃ f,firO o = f:=⟨_,rfl⟩
 have HFO:=Lib.hid (show resO o = .tuple #[firA f,.bool o.isSome] by unfold resO;rw [hf])
 unfold resO
 rw [hf]
 unfold firA
 have hr3:=HR3.out.lt
 have p0:=HR3.out.cell 0 (v:=.int .i64 0) rfl
 have p1:=HR3.out.cell 1 (v:=.int .i64 0) rfl
 have p2:=HR3.out.cell 2 (v:=.int .i64 0) rfl
 have p3:=HR3.out.cell 3 (v:=.string ⟨#[]⟩) rfl
 have z0:=HR3.out.frozen 0
 have z1:=HR3.out.frozen 1
 have z2:=HR3.out.frozen 2
 have z3:=HR3.out.frozen 3
 clear hf
 go_wp2_with fail
 have HX:=Lib.hid (((HR3.out.set 0 (.int .i64 f.nominal)).set 1 (.int .i64 f.kind)).set 2 (.int .i64 f.save) |>.set 3 (.string f.letter))
 have v0:=HX.out.cell 0 (v:=.int .i64 f.nominal) rfl
 have v1:=HX.out.cell 1 (v:=.int .i64 f.kind) rfl
 have v2:=HX.out.cell 2 (v:=.int .i64 f.save) rfl
 have v3:=HX.out.cell 3 (v:=.string f.letter) rfl
 refine bodyPost_ret (v:=resO o) ?_ rfl ⟨by rw [HOO.out],below_set4 HB3.out (by omega) _ _ _ _⟩
 rw [HFO.out]
 simp [results,Tryz.f60,go_sem,v0,v1,v2,v3,firA]
theorem fbehind_any (w:World) (v:Value) (l:List Rul) (hv:Ruls w w.heap.size v l) (ha:Ahead w) (ho:yrOk l) (s:Int) (h1:-9223372036854775808 ≤ s) (h2:s ≤ 9223372036854775807) :
  Calls Tryz.prog 117 #[v,.int .i64 s] w fun e w'=>e = .returned (resO (behindF l s))∧Below w.heap.size w w':=by
 have HY:=Lib.hid (fyear_any s h1 h2 (w.alloc (.cells #[.int .i64 s] 3) |>.alloc (.cells (firV .zero).toArray 112)) ((ha.below ((Below.refl w.heap.size w).alloc (Nat.le_refl _) _) (Nat.le_refl _)).below ((Below.refl (w.alloc (.cells #[.int .i64 s] 3)).heap.size (w.alloc (.cells #[.int .i64 s] 3))).alloc (Nat.le_refl _) _) (Nat.le_refl _)))
 have hb0:Below w.heap.size w ((w.alloc (.cells #[.int .i64 s] 3)).alloc (.cells (firV .zero).toArray 112)):=((Below.refl w.heap.size w).alloc (Nat.le_refl _) _).alloc (by simp) _
 have hs0:=(Blk.new w 3 #[.int .i64 s]).alloc (.cells (firV .zero).toArray 112)
 have hr0:=Blk.new (w.alloc (.cells #[.int .i64 s] 3)) 112 (firV .zero).toArray
 rw [World.size_alloc] at hr0
 have HV:=Lib.hid hv
 have HA:=Lib.hid ha
 have HO:=Lib.hid ho
 have hyi:=secYear_in s
 obtain ⟨Y,hY⟩:∃ Y,secYear s = Y:=⟨_,rfl⟩
 have HF:=Lib.hid (show behindF l s = pickV l (fun r=>max r.from_ (Y - 1)) (1) ltB (atB s) by unfold behindF;rw [hY])
 rw [hY] at HY hyi
 clear hY hv ha ho
 unfold firV Fir.zero at HY hb0 hs0 hr0
 go_enter Tryz.func117,Tryz.ntmps117
 go_wp2_with fail
 refine HY.out.mono ?_
 rintro e w1 ⟨rfl,hb⟩
 have hs1:=hs0.below hb hs0.lt
 have hr1:=hr0.below hb hr0.lt
 have hb1:=hb0.trans (hb.mono hb0.size)
 have hz1:=hb1.size
 have HS2:=Lib.hid (hs1.alloc (.cells #[.int .i64 (Y - 1)] 3))
 have HR2:=Lib.hid (hr1.alloc (.cells #[.int .i64 (Y - 1)] 3))
 have HL2:=Lib.hid (Blk.new w1 3 #[.int .i64 (Y - 1)])
 have HB2:=Lib.hid (hb1.alloc hz1 (.cells #[.int .i64 (Y - 1)] 3))
 have hrl:=hr1.lt
 have hll:=HL2.out.lt
 have hsl:=HS2.out.lt
 clear hb hb0 hs0 hr0 hs1 hr1 hb1 HY
 go_wp2_with fail
 have HBE:=Lib.hid (best_Behind _ w.heap.size v l (HV.out.below HB2.out |>.more (Nat.le_refl _)) HB2.out.size (HA.out.below HB2.out (Nat.le_refl _)) w1.heap.size w.heap.size (fun r=>max r.from_ (Y - 1)) (1) ltB (atB s) (by omega) (fun r hr=>by have:=HO.out r hr;omega)
  (fun r hr W hb=>behind1_any W r w1.heap.size (Y - 1) ((HL2.out.below hb hll).cell 0 rfl)) (fun a b W=>behind2_any W a b) (fun f W hb=>behind3_any W f w.heap.size s ((HS2.out.below hb hsl).cell 0 rfl)))
 rw [← HF.out] at HBE
 refine HBE.out.mono ?_
 rintro e w2 ⟨rfl,hb⟩
 have HR3:=Lib.hid (HR2.out.below hb HR2.out.lt)
 have HB3:=Lib.hid (HB2.out.trans (hb.mono HB2.out.size))
 clear hb HR2 HB2 HBE
 obtain ⟨o,hoo⟩:∃ o,behindF l s = o:=⟨_,rfl⟩
 rw [hoo]
 have HOO:=Lib.hid hoo
 clear hoo
 obtain ⟨f,hf⟩:∃ f,firO o = f:=⟨_,rfl⟩
 have HFO:=Lib.hid (show resO o = .tuple #[firA f,.bool o.isSome] by unfold resO;rw [hf])
 unfold resO
 rw [hf]
 unfold firA
 have hr3:=HR3.out.lt
 have p0:=HR3.out.cell 0 (v:=.int .i64 0) rfl
 have p1:=HR3.out.cell 1 (v:=.int .i64 0) rfl
 have p2:=HR3.out.cell 2 (v:=.int .i64 0) rfl
 have p3:=HR3.out.cell 3 (v:=.string ⟨#[]⟩) rfl
 have z0:=HR3.out.frozen 0
 have z1:=HR3.out.frozen 1
 have z2:=HR3.out.frozen 2
 have z3:=HR3.out.frozen 3
 clear hf
 go_wp2_with fail
 have HX:=Lib.hid (((HR3.out.set 0 (.int .i64 f.nominal)).set 1 (.int .i64 f.kind)).set 2 (.int .i64 f.save) |>.set 3 (.string f.letter))
 have v0:=HX.out.cell 0 (v:=.int .i64 f.nominal) rfl
 have v1:=HX.out.cell 1 (v:=.int .i64 f.kind) rfl
 have v2:=HX.out.cell 2 (v:=.int .i64 f.save) rfl
 have v3:=HX.out.cell 3 (v:=.string f.letter) rfl
 refine bodyPost_ret (v:=resO o) ?_ rfl ⟨by rw [HOO.out],below_set4 HB3.out (by omega) _ _ _ _⟩
 rw [HFO.out]
 simp [results,Tryz.f117,go_sem,v0,v1,v2,v3,firA]
end
section -- PLatest
open Go Go.RowKit Go.Shelf
theorem saveO_firO (o:Option Fir):saveO o = (firO o).save:=by cases o <;> rfl
theorem savedF_in {l:List Rul} (hs:svOk l) (f:Fir):-1000000000000000 ≤ savedF l f∧savedF l f ≤ 1000000000000000:=by
 unfold savedF
 cases h:aheadF l f.nominal with
 | none=>exact ⟨by decide,by decide⟩
 | some x=>exact hs x (ahead_mem h).1
theorem saved_any (w:World) (v:Value) (l:List Rul) (hv:Ruls w w.heap.size v l) (ha:Ahead w) (ho:yrOk l) (f:Fir) (hf:-4000000000000 ≤ f.nominal∧f.nominal ≤ 4000000000000) :
  Calls Tryz.prog 93 #[v,firA f] w fun e w'=>e = .returned (.int .i64 (savedF l f))∧Below w.heap.size w w':=by
 have hb0:Below w.heap.size w (w.alloc (.cells (firV f).toArray 112)):=(Below.refl w.heap.size w).alloc (Nat.le_refl _) _
 have hx0:=Blk.new w 112 (firV f).toArray
 have HA:=Lib.hid (fahead_any (w.alloc (.cells (firV f).toArray 112)) v l ((hv.below hb0).more hb0.size) (ha.below hb0 (Nat.le_refl _)) ho f.nominal (by omega) (by omega))
 have HV:=Lib.hid (show savedF l f = (firO (aheadF l f.nominal)).save by unfold savedF;exact saveO_firO _)
 obtain ⟨o,hoo⟩:∃ o,aheadF l f.nominal = o:=⟨_,rfl⟩
 rw [hoo] at HA HV
 clear hv ha ho hoo
 unfold resO at HA
 obtain ⟨g,hg⟩:∃ g,firO o = g:=⟨_,rfl⟩
 rw [hg] at HA HV
 unfold firA at HA ⊢
 unfold firV at hb0 hx0 HA
 clear hg
 go_enter Tryz.func93,Tryz.ntmps93
 go_wp2_with fail
 refine HA.out.mono ?_
 rintro e w1 ⟨rfl,hb⟩
 have hb1:=hb0.trans (hb.mono hb0.size)
 have HB:=Lib.hid (hb1.alloc hb1.size (.cells #[.int .i64 g.nominal,.int .i64 g.kind,.int .i64 g.save,.string g.letter] 112))
 clear hb hb0 hb1 hx0 HA
 go_wp2_with fail
 go_ret
 exact ⟨by rw [HV.out];rfl,HB.out⟩
theorem latest_any (w:World) (v:Value) (l:List Rul) (hv:Ruls w w.heap.size v l) (ha:Ahead w) (ho:yrOk l) (hsv:svOk l) (off i:Int) (ho1:-1000000000000000 ≤ off∧off ≤ 1000000000000000) (hi1:-4500000000000 ≤ i) (hi2:i ≤ 9000000000000000000) :
  Calls Tryz.prog 58 #[v,.int .i64 off,.int .i64 i] w fun e w'=>e = .returned (resO (latestF l off i))∧Below w.heap.size w w':=by
 have hb0:Below w.heap.size w (w.alloc (.cells (firV .zero).toArray 112)):=(Below.refl w.heap.size w).alloc (Nat.le_refl _) _
 have hr0:=Blk.new w 112 (firV .zero).toArray
 have HV:=Lib.hid hv
 have HA:=Lib.hid (fun (s:Int) (h1:-9223372036854775808 ≤ s) (h2:s ≤ 9223372036854775807) (W:World) (hb:Below w.heap.size w W)=>fahead_any W v l ((hv.below hb).more hb.size) (ha.below hb (Nat.le_refl _)) ho s h1 h2)
 have HS:=Lib.hid (fun (f:Fir) (hf:Fires l f) (W:World) (hb:Below w.heap.size w W)=>saved_any W v l ((hv.below hb).more hb.size) (ha.below hb (Nat.le_refl _)) ho f (fires_nom hf))
 have HSV:=Lib.hid hsv
 have HF:=Lib.hid (show latestF l off i = backF l off i ((i + 180001) + farN).toNat (aheadF l (i + 180001)) from rfl)
 have HT:=Lib.hid (fun f (h:aheadF l (i + 180001) = some f)=>ahead_mem h)
 obtain ⟨o,hoo⟩:∃ o,aheadF l (i + 180001) = o:=⟨_,rfl⟩
 have h0:=HA.out (i + 180001) (by omega) (by omega) _ hb0
 have e1:i + 180000 + 1 = i + 180001:=by omega
 rw [hoo] at h0 HF HT
 have H0:=Lib.hid h0
 clear hv ha ho hsv h0 hoo
 unfold resO at H0
 obtain ⟨g,hg⟩:∃ g,firO o = g:=⟨_,rfl⟩
 rw [hg] at H0
 unfold firA at H0
 have HG:=Lib.hid hg
 clear hg
 unfold firV Fir.zero at hb0 hr0 H0
 go_enter Tryz.func58,Tryz.ntmps58
 go_wp2_with fail
 refine H0.out.mono ?_
 rintro e w1 ⟨rfl,hb⟩
 have hb1:=hb0.trans (hb.mono hb0.size)
 have HR1:=Lib.hid ((hr0.below hb hr0.lt).alloc (.cells #[.int .i64 g.nominal,.int .i64 g.kind,.int .i64 g.save,.string g.letter] 112))
 have HX1:=Lib.hid (show FirB (w1.alloc (.cells #[.int .i64 g.nominal,.int .i64 g.kind,.int .i64 g.save,.string g.letter] 112)) w1.heap.size (firO o) by rw [HG.out];exact Blk.new w1 _ _)
 have hs1:=hb1.size
 have HB1:=Lib.hid (hb1.alloc hs1 (.cells #[.int .i64 g.nominal,.int .i64 g.kind,.int .i64 g.save,.string g.letter] 112))
 have hr1:=(hr0.below hb hr0.lt).lt
 obtain ⟨BX,hBX⟩:∃ n,w1.heap.size = n:=⟨_,rfl⟩
 clear hb hb0 hb1 hr0 H0
 go_wp2_with fail
 rw [hBX] at HX1 hr1 hs1
 try simp only [hBX]
 clear hBX
 go_loopw [9] (fun fv wr=>∃ o N,fv = .bool (Option.isSome o)∧FirB wr BX (firO o)∧FirB wr w.heap.size .zero∧backF l off i N o = latestF l off i∧(∀ f,o = some f→Fires l f∧f.nominal + farN < (N:Int))∧Below w.heap.size w wr) (fun fv W=>match fv with | .bool true=>(intOf ((W.cell? ⟨BX,0,none⟩).getD undef) + farN + 1).toNat | _=>0)
 case atStart=>exact ⟨o,((i + 180001) + farN).toNat,rfl,HX1.out,HR1.out,HF.out.symm,fun f hf=>⟨(HT.out f hf).1,by have:=(HT.out f hf).2;unfold farN;omega⟩,HB1.out⟩
 case round =>
  clear HX1 HR1 HB1 HF HT HG
  obtain ⟨o,N,rfl,hx,hr,hbk,hfr,hbw⟩:=hrel
  have HR:=Lib.hid hr
  have HBK:=Lib.hid hbk
  have HFR:=Lib.hid hfr
  have HBW:=Lib.hid hbw
  have HX:=Lib.hid hx
  have hxl:=Blk.lt hx
  have hrl:=Blk.lt hr
  have hws:=hbw.size
  clear hr hbk hfr hbw
  rcases o with _ | f
  ·have HZ:=Lib.hid (show latestF l off i = none by
    rw [← HBK.out]
    cases N <;> rfl)
   clear hx
   go_wp2_with fail
   refine wp_env (fin:=?fnn) (by kernel_rfl) [18,19,20,21,22,23,24,25,26,27,28]
    [.bool false,.bool false,undef,undef,undef,undef,undef,undef,undef,undef,.bool false] (by kernel_rfl) ?finn ?stepsn ?nextn
   case finn =>
    simp only [putAll,Act.put,List.setIfInBounds_toArray,List.set_cons_succ,List.set_cons_zero]
    rfl
   case stepsn =>
    refine ⟨?_,?_,?_,?_,?_,?_,?_,?_,?_,?_,?_,trivial⟩
    all_goals first | exact .inl ⟨by kernel_rfl,rfl⟩ | refine .inr ⟨by kernel_rfl,fun w1_ hB_=>?_⟩
    all_goals
     skip
     go_simp
     first
      | exact ⟨rfl,Below.refl _ _⟩
      | ((first | rw [decide_eq_true (by omega)] | rw [decide_eq_false (by omega)] | rw [if_pos (by omega)] | rw [IntWalk.i64_in _ (by omega)]);exact ⟨rfl,Below.refl _ _⟩)
      | done
   case nextn =>
   intro w2 hb2
   have hx2:FirB w2 BX (firO none):=HX.out.below hb2 hxl
   have hr2:=HR.out.below hb2 hrl
   have HB2:=Lib.hid (HBW.out.trans (hb2.mono hws))
   have hx2l:=Blk.lt hx2
   have hr2l:=Blk.lt hr2
   obtain ⟨q,hq⟩:∃ q,firO none = q:=⟨_,rfl⟩
   have HFO:=Lib.hid (show resO none = .tuple #[firA q,.bool (Option.isSome none)] by unfold resO;rw [hq])
   rw [hq] at hx2
   have q0:=Blk.cell hx2 0 (v:=.int .i64 q.nominal) rfl
   have q1:=Blk.cell hx2 1 (v:=.int .i64 q.kind) rfl
   have q2:=Blk.cell hx2 2 (v:=.int .i64 q.save) rfl
   have q3:=Blk.cell hx2 3 (v:=.string q.letter) rfl
   have p0:=Blk.cell hr2 0 (v:=.int .i64 0) rfl
   have p1:=Blk.cell hr2 1 (v:=.int .i64 0) rfl
   have p2:=Blk.cell hr2 2 (v:=.int .i64 0) rfl
   have p3:=Blk.cell hr2 3 (v:=.string ⟨#[]⟩) rfl
   have z0:=Blk.frozen hr2 0
   have z1:=Blk.frozen hr2 1
   have z2:=Blk.frozen hr2 2
   have z3:=Blk.frozen hr2 3
   have HY:=Lib.hid ((((Blk.set hr2 0 (.int .i64 q.nominal)).set 1 (.int .i64 q.kind)).set 2 (.int .i64 q.save)).set 3 (.string q.letter))
   clear hx2 hr2 hb2 hq
   go_wp2_with fail
   have v0:=HY.out.cell 0 (v:=.int .i64 q.nominal) rfl
   have v1:=HY.out.cell 1 (v:=.int .i64 q.kind) rfl
   have v2:=HY.out.cell 2 (v:=.int .i64 q.save) rfl
   have v3:=HY.out.cell 3 (v:=.string q.letter) rfl
   refine bodyPost_ret (v:=resO none) ?_ rfl ⟨by rw [HZ.out],below_set4 HB2.out (by omega) _ _ _ _⟩
   rw [HFO.out]
   simp [results,Tryz.f58,go_sem,v0,v1,v2,v3,firA]
  ·obtain ⟨hff,hfn⟩:=HFR.out f rfl
   have hnom:=fires_nom hff
   obtain ⟨M,rfl⟩:∃ M,N = M + 1:=⟨N - 1,by unfold farN at hfn;omega⟩
   have HSF:=Lib.hid (HS.out f hff)
   have hsi:=savedF_in HSV.out f
   have HI:=Lib.hid (fun (W:World)=>inst_any W f off (savedF l f) (by omega) ho1 hsi)
   have HBK2:=Lib.hid (show (if i < instF f off (savedF l f) then backF l off i M (aheadF l f.nominal) else some f) = latestF l off i from HBK.out)
   generalize savedF l f = sv at *
   generalize instF f off sv = ins at *
   rw [show firO (some f) = f from rfl] at hx HX
   have HCELL:=Lib.hid (fun (W:World) (h:Below wr.heap.size wr W)=>show W.cell? ⟨BX,0,none⟩ = some (.int .i64 f.nominal)∧W.cell? ⟨BX,1,none⟩ = some (.int .i64 f.kind)∧W.cell? ⟨BX,2,none⟩ = some (.int .i64 f.save)∧W.cell? ⟨BX,3,none⟩ = some (.string f.letter) from ⟨(Blk.below HX.out h hxl).cell 0 rfl,(Blk.below HX.out h hxl).cell 1 rfl,(Blk.below HX.out h hxl).cell 2 rfl,(Blk.below HX.out h hxl).cell 3 rfl⟩)
   have HSC:=Lib.hid (fun (W:World) (h:Below wr.heap.size wr W)=>HSF.out W (HBW.out.trans (h.mono hws)))
   unfold firA at HSC HI
   clear hx HSF
   by_cases hlt:i < ins
   ·have hd:decide (i < ins) = true:=decide_eq_true hlt
    rw [if_pos hlt] at HBK2
    go_wp2_with fail
    refine wp_env (fin:=?fnt) (by kernel_rfl) [18,19,20,21,22,23,24,25,26,27,28]
     [.bool true,.bool true,.agg #[.int .i64 f.nominal,.int .i64 f.kind,.int .i64 f.save,.string f.letter],.int .i64 off,v,.agg #[.int .i64 f.nominal,.int .i64 f.kind,.int .i64 f.save,.string f.letter],.int .i64 sv,.int .i64 ins,.int .i64 i,.bool true,.bool true] (by kernel_rfl) ?fint ?stepst ?nextt
    case fint =>
     simp only [putAll,Act.put,List.setIfInBounds_toArray,List.set_cons_succ,List.set_cons_zero]
     rfl
    case stepst =>
     refine ⟨?_,?_,?_,?_,?_,?_,?_,?_,?_,?_,?_,trivial⟩
     all_goals refine .inr ⟨by kernel_rfl,fun w1_ hB_=>?_⟩
     all_goals
      obtain ⟨d0,d1,d2,d3⟩:=HCELL.out w1_ hB_
      go_simp
      first
       | exact ⟨rfl,Below.refl _ _⟩
       | exact ⟨rfl,HSC.out w1_ hB_⟩
       | exact ⟨rfl,HI.out w1_⟩
       | ((first | rw [decide_eq_true (by omega)] | rw [decide_eq_false (by omega)] | rw [if_pos (by omega)] | rw [IntWalk.i64_in _ (by omega)]);exact ⟨rfl,Below.refl _ _⟩)
       | done
    case nextt =>
    intro w2 hb2
    have hb3:=HBW.out.trans (hb2.mono hws)
    have HX2:=Lib.hid (HX.out.below hb2 hxl)
    have HR2:=Lib.hid (HR.out.below hb2 hrl)
    have hx2l:=HX2.out.lt
    have x0:=HX2.out.cell 0 (v:=.int .i64 f.nominal) rfl
    have HA2:=Lib.hid (HA.out f.nominal (by omega) (by omega) w2 hb3)
    have HAM:=Lib.hid (fun g (h:aheadF l f.nominal = some g)=>ahead_mem h)
    have HB2:=Lib.hid hb3
    have hs2:=hb3.size
    obtain ⟨o2,ho2⟩:∃ o2,aheadF l f.nominal = o2:=⟨_,rfl⟩
    rw [ho2] at HA2 HBK2 HAM
    unfold resO at HA2
    obtain ⟨q,hq⟩:∃ q,firO o2 = q:=⟨_,rfl⟩
    have HQ:=Lib.hid hq
    rw [hq] at HA2
    unfold firA at HA2
    clear hb2 hb3 ho2 hq
    go_wp2_with fail
    refine HA2.out.mono ?_
    rintro e w3 ⟨rfl,hb⟩
    have HX3:=Lib.hid (HX2.out.below hb hx2l)
    have HR3:=Lib.hid (HR2.out.below hb HR2.out.lt)
    have HB3:=Lib.hid (HB2.out.trans (hb.mono hs2))
    have hx3l:=HX3.out.lt
    have q0:=HX3.out.cell 0 (v:=.int .i64 f.nominal) rfl
    have q1:=HX3.out.cell 1 (v:=.int .i64 f.kind) rfl
    have q2:=HX3.out.cell 2 (v:=.int .i64 f.save) rfl
    have q3:=HX3.out.cell 3 (v:=.string f.letter) rfl
    have z0:=HX3.out.frozen 0
    have z1:=HX3.out.frozen 1
    have z2:=HX3.out.frozen 2
    have z3:=HX3.out.frozen 3
    clear hb x0
    go_wp2_with fail
    have hy:=(((HX3.out.set 0 (.int .i64 q.nominal)).set 1 (.int .i64 q.kind)).set 2 (.int .i64 q.save)).set 3 (.string q.letter)
    go_roundw
    case rel =>
     refine ⟨o2,M,rfl,by rw [HQ.out];exact hy,(((HR3.out.other (by omega) 0 _).other (by omega) 1 _).other (by omega) 2 _).other (by omega) 3 _,HBK2.out,fun g hg=>⟨(HAM.out g hg).1,by have:=(HAM.out g hg).2;unfold farN at hfn ⊢;omega⟩,below_set4 HB3.out (by omega) _ _ _ _⟩
    case measure =>
     rw [HX.out.cell 0 (v:=.int .i64 f.nominal) rfl]
     rcases o2 with _ | g
     ·show 0 < (f.nominal + farN + 1).toNat
      unfold farN;omega
     ·obtain rfl:g = q:=HQ.out
      have:=(HAM.out g rfl).2
      show (intOf ((World.cell? _ _).getD undef) + farN + 1).toNat < (f.nominal + farN + 1).toNat
      rw [hy.cell 0 (v:=.int .i64 g.nominal) rfl]
      show (g.nominal + farN + 1).toNat < _
      unfold farN;omega
   ·have hd:decide (i < ins) = false:=decide_eq_false hlt
    rw [if_neg hlt] at HBK2
    go_wp2_with fail
    refine wp_env (fin:=?fnf) (by kernel_rfl) [18,19,20,21,22,23,24,25,26,27,28]
     [.bool true,.bool true,.agg #[.int .i64 f.nominal,.int .i64 f.kind,.int .i64 f.save,.string f.letter],.int .i64 off,v,.agg #[.int .i64 f.nominal,.int .i64 f.kind,.int .i64 f.save,.string f.letter],.int .i64 sv,.int .i64 ins,.int .i64 i,.bool false,.bool false] (by kernel_rfl) ?finf ?stepsf ?nextf
    case finf =>
     simp only [putAll,Act.put,List.setIfInBounds_toArray,List.set_cons_succ,List.set_cons_zero]
     rfl
    case stepsf =>
     refine ⟨?_,?_,?_,?_,?_,?_,?_,?_,?_,?_,?_,trivial⟩
     all_goals refine .inr ⟨by kernel_rfl,fun w1_ hB_=>?_⟩
     all_goals
      obtain ⟨d0,d1,d2,d3⟩:=HCELL.out w1_ hB_
      go_simp
      first
       | exact ⟨rfl,Below.refl _ _⟩
       | exact ⟨rfl,HSC.out w1_ hB_⟩
       | exact ⟨rfl,HI.out w1_⟩
       | ((first | rw [decide_eq_true (by omega)] | rw [decide_eq_false (by omega)] | rw [if_pos (by omega)] | rw [IntWalk.i64_in _ (by omega)]);exact ⟨rfl,Below.refl _ _⟩)
       | done
    case nextf =>
    intro w2 hb2
    have hx2:FirB w2 BX (firO (some f)):=HX.out.below hb2 hxl
    have hr2:=HR.out.below hb2 hrl
    have HB2:=Lib.hid (HBW.out.trans (hb2.mono hws))
    have hx2l:=Blk.lt hx2
    have hr2l:=Blk.lt hr2
    obtain ⟨q,hq⟩:∃ q,firO (some f) = q:=⟨_,rfl⟩
    have HFO:=Lib.hid (show resO (some f) = .tuple #[firA q,.bool (Option.isSome (some f))] by unfold resO;rw [hq])
    rw [hq] at hx2
    have q0:=Blk.cell hx2 0 (v:=.int .i64 q.nominal) rfl
    have q1:=Blk.cell hx2 1 (v:=.int .i64 q.kind) rfl
    have q2:=Blk.cell hx2 2 (v:=.int .i64 q.save) rfl
    have q3:=Blk.cell hx2 3 (v:=.string q.letter) rfl
    have p0:=Blk.cell hr2 0 (v:=.int .i64 0) rfl
    have p1:=Blk.cell hr2 1 (v:=.int .i64 0) rfl
    have p2:=Blk.cell hr2 2 (v:=.int .i64 0) rfl
    have p3:=Blk.cell hr2 3 (v:=.string ⟨#[]⟩) rfl
    have z0:=Blk.frozen hr2 0
    have z1:=Blk.frozen hr2 1
    have z2:=Blk.frozen hr2 2
    have z3:=Blk.frozen hr2 3
    have HY:=Lib.hid ((((Blk.set hr2 0 (.int .i64 q.nominal)).set 1 (.int .i64 q.kind)).set 2 (.int .i64 q.save)).set 3 (.string q.letter))
    clear hx2 hr2 hb2 hq
    go_wp2_with fail
    have v0:=HY.out.cell 0 (v:=.int .i64 q.nominal) rfl
    have v1:=HY.out.cell 1 (v:=.int .i64 q.kind) rfl
    have v2:=HY.out.cell 2 (v:=.int .i64 q.save) rfl
    have v3:=HY.out.cell 3 (v:=.string q.letter) rfl
    refine bodyPost_ret (v:=resO (some f)) ?_ rfl ⟨by rw [HBK2.out],below_set4 HB2.out (by omega) _ _ _ _⟩
    rw [HFO.out]
    simp [results,Tryz.f58,go_sem,v0,v1,v2,v3,firA]
end
section -- UBest
open Go Go.RowKit Go.Shelf
theorem wrap_step (a s:Int):wrap64 (IntKind.i64.wrap a + s) = IntKind.i64.wrap (a + s):=by
 unfold wrap64
 rw [IntKind.wrap_i64,IntKind.wrap_i64]
 omega
theorem wrap_of (r:Rul) {z y:Int} (h:IntKind.i64.wrap z = y) (hz:-9223372036854775908 ≤ z∧z ≤ 9223372036854775907):ofB r z = ofB r y∧(ofB r y = true→z = y):=by
 by_cases hc:-9223372036854775808 ≤ z∧z ≤ 9223372036854775807
 ·rw [IntWalk.i64_in _ hc] at h
  subst h
  exact ⟨rfl,fun _=>rfl⟩
 ·have hy:y < -100000∨100000 < y:=by
   rw [IntKind.wrap_i64] at h
   omega
  have no:∀ a:Int,(a < -100000∨100000 < a)→ofB r a = false:=fun a ha=>by
   cases ho:ofB r a with
   | false=>rfl
   | true=>have:=of_month ho;omega
  rw [no z (by omega),no y hy]
  exact ⟨rfl,fun e=>by cases e⟩
theorem bestT_Ahead (w:World) (B:Nat) (v:Value) (l:List Rul) (hv:Ruls w B v l) (hB:B ≤ w.heap.size) (ha:Ahead w) (b1 b3:Nat) (yr:Rul→Int) (st:Int) (better:Fir→Fir→Bool) (may:Fir→Bool)
  (hst:-1 ≤ st∧st ≤ 1) (hyr:∀ r ∈ l,-9223372036854775808 ≤ yr r∧yr r ≤ 9223372036854775807)
  (hy:∀ r ∈ l,∀ W,Below w.heap.size w W→Calls Tryz.prog 100 #[rulA r,.pointer (some ⟨b1,0,none⟩)] W fun e W'=>e = .returned (.tuple #[.int .i64 (yr r),.int .i64 st])∧Below W.heap.size W W')
  (hb:∀ a b W,Calls Tryz.prog 102 #[firA a,firA b] W fun e W'=>e = .returned (.bool (better a b))∧Below W.heap.size W W')
  (hm:∀ f W,Below w.heap.size w W→Calls Tryz.prog 103 #[firA f,.pointer (some ⟨b3,0,none⟩)] W fun e W'=>e = .returned (.bool (may f))∧Below W.heap.size W W') :
  Calls Tryz.prog 101 #[v,.func (.func 100) #[] #[.pointer (some ⟨b1,0,none⟩)],.func (.func 102) #[] #[],.func (.func 103) #[] #[.pointer (some ⟨b3,0,none⟩)]] w fun e w'=>e = .returned (resO (pickV l yr st better may))∧Below w.heap.size w w':=by
 have HV:=Lib.hid hv
 have HA:=Lib.hid ha
 have HY:=Lib.hid hy
 have HBT:=Lib.hid hb
 have HM:=Lib.hid hm
 have HYR:=Lib.hid hyr
 obtain ⟨A,c,rfl,hlc,hcm⟩:=hv.form
 unfold maxLen at hcm
 have HB0:=Lib.hid (((Below.refl w.heap.size w).alloc (Nat.le_refl _) (.cells (firV .zero).toArray 112)).alloc (by simp) (.cells (firV .zero).toArray 112))
 have ho0:=Blk.new (w.alloc (.cells (firV .zero).toArray 112)) 112 (firV .zero).toArray
 have hr0:=(Blk.new w 112 (firV .zero).toArray).alloc (.cells (firV .zero).toArray 112)
 rw [World.size_alloc] at ho0
 have HO0:=Lib.hid (show FirB _ _ (firO (pickV (l.take 0) yr st better may)) from ho0)
 have HR0:=Lib.hid hr0
 clear hv ha hy hb hm hyr ho0 hr0
 unfold firV Fir.zero at HB0 HR0
 unfold firV Fir.zero at HO0
 go_enter Tryz.func101,Tryz.ntmps101
 go_wp2_with fail
 go_step3
 go_wp2_with fail
 go_step3
 go_wp2_with fail
 go_loopw [11,20] (fun fv iv wr=>∃ k:Nat,k ≤ l.length∧iv = .int .i64 k∧fv = .bool (pickV (l.take k) yr st better may).isSome∧FirB wr (w.heap.size + 1) (firO (pickV (l.take k) yr st better may))∧FirB wr w.heap.size .zero∧Below w.heap.size w wr) (fun _ iv _=>l.length - (intOf iv).toNat)
 case atStart=>exact ⟨0,Nat.zero_le _,rfl,rfl,HO0.out,HR0.out,HB0.out⟩
 case round =>
  clear HO0 HR0 HB0
  obtain ⟨k,hk,rfl,rfl,hfb,hf0,hbw⟩:=hrel
  obtain ⟨o,ho⟩:∃ o,pickV (l.take k) yr st better may = o:=⟨_,rfl⟩
  rw [ho] at hfb ⊢
  have HFB:=Lib.hid hfb
  have HF0:=Lib.hid hf0
  have HBW:=Lib.hid hbw
  have hws:=hbw.size
  have hfl:=Blk.lt hfb
  clear hfb hf0 hbw
  by_cases hlt:k < l.length
  ·have hd:decide ((k:Int) < (l.length:Int)) = true:=decide_eq_true (by omega)
   obtain ⟨bb,o1,c',e,hbb,hc⟩:=(HV.out.below (HBW.out.mono hB)).cells (by omega)
   cases e
   obtain ⟨c0,c1,c2,c3,c4,c5,c6,c7,c8,c9,c10⟩:=hc k hlt
   have HNX:=Lib.hid (pickV_next hlt yr st better may)
   rw [ho] at HNX
   have hyk:=HY.out l[k] (List.getElem_mem hlt)
   have hyrk:=HYR.out l[k] (List.getElem_mem hlt)
   obtain ⟨r,hr⟩:∃ r,l[k] = r:=⟨_,rfl⟩
   rw [hr] at c0 c1 c2 c3 c4 c5 c6 c7 c8 c9 c10 HNX hyk hyrk
   have HYK:=Lib.hid hyk
   have HO:=Lib.hid ho
   obtain ⟨y0,hy0⟩:∃ y0,yr r = y0:=⟨_,rfl⟩
   rw [hy0] at hyrk HYK HNX
   clear hc hr hyk ho hy0
   unfold rulA at HYK
   go_wp2_with fail
   refine (HYK.out _ ?b1).mono ?_
   case b1=>exact HBW.out.alloc hws _
   rintro e w2 ⟨rfl,hb⟩
   have HR2:=Lib.hid (show RulB w2 wr.heap.size r from Blk.below (Blk.new wr _ _) hb (Blk.lt (Blk.new wr _ _)))
   have hb2:Below w.heap.size w w2:=(HBW.out.alloc hws _).trans (hb.mono (by rw [World.size_alloc];omega))
   have HB2:=Lib.hid hb2
   have HFB2:=Lib.hid (show FirB w2 (w.heap.size + 1) (firO o) from Blk.below (Blk.alloc HFB.out _) hb (by rw [World.size_alloc];omega))
   have HF02:=Lib.hid (show FirB w2 w.heap.size .zero from Blk.below (Blk.alloc HF0.out _) hb (by rw [World.size_alloc];omega))
   obtain ⟨BX,hBX⟩:∃ n,wr.heap.size = n:=⟨_,rfl⟩
   rw [hBX] at HR2 hws hfl ⊢
   clear hb hb2 c0 c1 c2 c3 c4 c5 c6 c7 c8 c9 c10 HFB HF0 HBW hBX HYK
   go_wp2_with fail
   go_loopw [11,14,30] (fun fv yv jv wi=>∃ j:Nat,fv = .bool o.isSome∧jv = .int .i64 j∧yv = .int .i64 (IntKind.i64.wrap (y0 + st * j))∧leftY r st may y0 j∧RulB wi BX r∧FirB wi (w.heap.size + 1) (firO o)∧FirB wi w.heap.size .zero∧Below w.heap.size w wi) (fun _ _ jv _=>12 - (intOf jv).toNat)
   case atStart=>exact ⟨0,rfl,rfl,by rw [show y0 + st * ((0:Nat):Int) = y0 by simp,IntWalk.i64_in _ hyrk],⟨by omega,by simp⟩,HR2.out,HFB2.out,HF02.out,HB2.out⟩
   case round =>
    clear HR2 HB2 HFB2 HF02
    obtain ⟨j,rfl,rfl,rfl,hle,hrb,hfb,hf0,hbw⟩:=hrel
    have HLE:=Lib.hid hle
    have HFB:=Lib.hid hfb
    have HF0:=Lib.hid hf0
    have HRB:=Lib.hid hrb
    have HBI:=Lib.hid hbw
    have hj12:=hle.1
    have hwi:=hbw.size
    have hBl:=Blk.lt hrb
    have hfl2:=Blk.lt hfb
    clear hle hfb hf0 hrb hbw
    by_cases hjl:j < 12
    ·have hd2:decide ((j:Int) < 12) = true:=decide_eq_true (by omega)
     obtain ⟨y,hyv⟩:∃ y,IntKind.i64.wrap (y0 + st * (j:Int)) = y:=⟨_,rfl⟩
     have hyr2:-9223372036854775808 ≤ y∧y ≤ 9223372036854775807:=by rw [← hyv,IntKind.wrap_i64];omega
     have HEQ:=Lib.hid (wrap_of r hyv (by
      have e1:-1 * (j:Int) ≤ st * j:=Int.mul_le_mul_of_nonneg_right hst.1 (by omega)
      have e2:st * (j:Int) ≤ 1 * j:=Int.mul_le_mul_of_nonneg_right hst.2 (by omega)
      omega))
     have HOF:=Lib.hid (fof_any r y wr (HA.out.below HBI.out (Nat.le_refl _)))
     have HYV:=Lib.hid (show IntKind.i64.wrap (y0 + st * ((j + 1:Nat):Int)) = wrap64 (y + st) by rw [← hyv,show y0 + st * ((j + 1:Nat):Int) = (y0 + st * (j:Int)) + st by push_cast;rw [Int.mul_add];omega];exact (wrap_step _ _).symm)
     have HMY:=Lib.hid (fun (W:World) (hb:Below w.heap.size w W)=>HM.out (firOf r y) W hb)
     rw [hyv]
     have q0:=Blk.cell HRB.out 0 (v:=.string r.name) rfl
     have q1:=Blk.cell HRB.out 1 (v:=.int .i64 r.from_) rfl
     have q2:=Blk.cell HRB.out 2 (v:=.int .i64 r.to_) rfl
     have q3:=Blk.cell HRB.out 3 (v:=.int .i64 r.month) rfl
     have q4:=Blk.cell HRB.out 4 (v:=.int .i64 r.dk) rfl
     have q5:=Blk.cell HRB.out 5 (v:=.int .i64 r.dw) rfl
     have q6:=Blk.cell HRB.out 6 (v:=.int .i64 r.dn) rfl
     have q7:=Blk.cell HRB.out 7 (v:=.int .i64 r.sec) rfl
     have q8:=Blk.cell HRB.out 8 (v:=.int .i64 r.kind) rfl
     have q9:=Blk.cell HRB.out 9 (v:=.int .i64 r.save) rfl
     have q10:=Blk.cell HRB.out 10 (v:=.string r.letter) rfl
     unfold rulA at HOF
     cases hof:ofB r y with
     | false =>
       have hn:(ofB r (y0 + st * (j:Int)) && may (firOf r (y0 + st * (j:Int)))) = false:=by rw [HEQ.out.1,hof];rfl
       have HL2:=Lib.hid (HLE.out.next hjl hn)
       have hov:ofV r y = .zero:=by unfold ofV;rw [hof];rfl
       rw [hof,hov] at HOF
       unfold firA Fir.zero at HOF
       clear hn hov hof HMY
       go_wp2_with fail
       refine HOF.out.mono ?_
       rintro e w3 ⟨rfl,hb⟩
       have hb3:Below wr.heap.size wr (w3.alloc (.cells #[.int .i64 0,.int .i64 0,.int .i64 0,.string ⟨#[]⟩] 112)):=hb.alloc hb.size _
       have HB3:=Lib.hid hb3
       clear hb hb3 q0 q1 q2 q3 q4 q5 q6 q7 q8 q9 q10
       go_wp2_with fail
       go_roundw
       case rel=>exact ⟨j + 1,rfl,by go_num,by rw [HYV.out],HL2.out,Blk.below HRB.out HB3.out hBl,Blk.below HFB.out HB3.out hfl2,Blk.below HF0.out HB3.out (by omega),HBI.out.trans (HB3.out.mono hwi)⟩
       case measure=>simp [intOf];omega
     | true =>
       have hyv:=HEQ.out.2 hof
       have hov:ofV r y = firOf r y:=by unfold ofV;rw [hof];rfl
       rw [hof,hov] at HOF
       obtain ⟨f,hf⟩:∃ f,firOf r y = f:=⟨_,rfl⟩
       rw [hf] at HOF HMY
       unfold firA at HOF HMY
       clear hov
       cases hmy:may f with
       | false =>
         have hn:(ofB r (y0 + st * (j:Int)) && may (firOf r (y0 + st * (j:Int)))) = false:=by rw [hyv,hf,hmy,Bool.and_false]
         have HL2:=Lib.hid (HLE.out.next hjl hn)
         rw [hmy] at HMY
         clear hn hof hf hmy
         go_wp2_with fail
         refine HOF.out.mono ?_
         rintro e w3 ⟨rfl,hb⟩
         have hb3:Below wr.heap.size wr (w3.alloc (.cells #[.int .i64 f.nominal,.int .i64 f.kind,.int .i64 f.save,.string f.letter] 112)):=hb.alloc hb.size _
         have HB3:=Lib.hid hb3
         clear hb hb3 q0 q1 q2 q3 q4 q5 q6 q7 q8 q9 q10
         go_wp2_with fail
         refine (HMY.out _ (HBI.out.trans (HB3.out.mono hwi))).mono ?_
         rintro e w4 ⟨rfl,hb⟩
         have HB4:=Lib.hid (HB3.out.trans (hb.mono HB3.out.size))
         clear hb
         go_wp2_with fail
         go_roundw
         case rel=>exact ⟨j + 1,rfl,by go_num,by rw [HYV.out],HL2.out,Blk.below HRB.out HB4.out hBl,Blk.below HFB.out HB4.out hfl2,Blk.below HF0.out HB4.out (by omega),HBI.out.trans (HB4.out.mono hwi)⟩
         case measure=>simp [intOf];omega
       | true =>
         have hn:(ofB r (y0 + st * (j:Int)) && may (firOf r (y0 + st * (j:Int)))) = true:=by rw [hyv,hf,hmy,hof];rfl
         have HHT:=Lib.hid (HLE.out.hit hjl hn)
         rw [hyv,hf] at HHT
         rw [HHT.out] at HNX
         rw [hmy] at HMY
         clear hn hof hf hmy
         go_wp2_with fail
         refine HOF.out.mono ?_
         rintro e w3 ⟨rfl,hb⟩
         have hb3:Below wr.heap.size wr (w3.alloc (.cells #[.int .i64 f.nominal,.int .i64 f.kind,.int .i64 f.save,.string f.letter] 112)):=hb.alloc hb.size _
         have HB3:=Lib.hid hb3
         have HX3:=Lib.hid (Blk.new w3 112 #[.int .i64 f.nominal,.int .i64 f.kind,.int .i64 f.save,.string f.letter])
         clear hb hb3 q0 q1 q2 q3 q4 q5 q6 q7 q8 q9 q10
         go_wp2_with fail
         refine (HMY.out _ (HBI.out.trans (HB3.out.mono hwi))).mono ?_
         rintro e w4 ⟨rfl,hb⟩
         have HB4:=Lib.hid (HB3.out.trans (hb.mono HB3.out.size))
         have HX4:=Lib.hid (HX3.out.below hb HX3.out.lt)
         have HFB4:=Lib.hid (show FirB w4 (w.heap.size + 1) (firO o) from Blk.below HFB.out HB4.out hfl2)
         have HF04:=Lib.hid (show FirB w4 w.heap.size .zero from Blk.below HF0.out HB4.out (by omega))
         have HBW4:=Lib.hid (HBI.out.trans (HB4.out.mono hwi))
         clear hb
         cases o with
         | none =>
           have HN2:=Lib.hid (show pickV (l.take (k + 1)) yr st better may = some f from HNX.out)
           have hf4:=HFB4.out.lt
           have s0:=HFB4.out.cell 0 (v:=.int .i64 0) rfl
           have s1:=HFB4.out.cell 1 (v:=.int .i64 0) rfl
           have s2:=HFB4.out.cell 2 (v:=.int .i64 0) rfl
           have s3:=HFB4.out.cell 3 (v:=.string ⟨#[]⟩) rfl
           have g0:=HFB4.out.frozen 0
           have g1:=HFB4.out.frozen 1
           have g2:=HFB4.out.frozen 2
           have g3:=HFB4.out.frozen 3
           have x0:=HX4.out.cell 0 (v:=.int .i64 f.nominal) rfl
           have x1:=HX4.out.cell 1 (v:=.int .i64 f.kind) rfl
           have x2:=HX4.out.cell 2 (v:=.int .i64 f.save) rfl
           have x3:=HX4.out.cell 3 (v:=.string f.letter) rfl
           have hx:=HX4.out.lt
           go_wp2_with fail
           exact ⟨⟨k + 1,by omega,by go_num,by rw [HN2.out] <;> rfl,by rw [HN2.out];exact (((HFB4.out.set 0 _).set 1 _).set 2 _).set 3 _,(((HF04.out.other (by omega) 0 _).other (by omega) 1 _).other (by omega) 2 _).other (by omega) 3 _,below_set4 HBW4.out (by omega) _ _ _ _⟩,by simp [intOf];omega⟩
         | some x =>
           have HBX:=Lib.hid (fun W=>HBT.out f x W)
           unfold firA at HBX
           have hf4:=HFB4.out.lt
           have s0:=HFB4.out.cell 0 (v:=.int .i64 x.nominal) rfl
           have s1:=HFB4.out.cell 1 (v:=.int .i64 x.kind) rfl
           have s2:=HFB4.out.cell 2 (v:=.int .i64 x.save) rfl
           have s3:=HFB4.out.cell 3 (v:=.string x.letter) rfl
           have x0:=HX4.out.cell 0 (v:=.int .i64 f.nominal) rfl
           have x1:=HX4.out.cell 1 (v:=.int .i64 f.kind) rfl
           have x2:=HX4.out.cell 2 (v:=.int .i64 f.save) rfl
           have x3:=HX4.out.cell 3 (v:=.string f.letter) rfl
           have hx:=HX4.out.lt
           cases hbt:better f x with
           | false =>
             have HN2:=Lib.hid (show pickV (l.take (k + 1)) yr st better may = some x from HNX.out.trans (by unfold pickS;simp only;rw [hbt];rfl))
             rw [hbt] at HBX
             clear hbt
             go_wp2_with fail
             refine (HBX.out _).mono ?_
             rintro e w5 ⟨rfl,hb⟩
             have HFB5:=Lib.hid (show FirB w5 (w.heap.size + 1) x from Blk.below HFB4.out hb hf4)
             have HF05:=Lib.hid (show FirB w5 w.heap.size .zero from Blk.below HF04.out hb (by omega))
             have HBW5:=Lib.hid (HBW4.out.trans (hb.mono HBW4.out.size))
             have HX5:=Lib.hid (HX4.out.below hb HX4.out.lt)
             have hf5:=HFB5.out.lt
             clear hb s0 s1 s2 s3 x0 x1 x2 x3
             go_wp2_with fail
             exact ⟨⟨k + 1,by omega,by go_num,by rw [HN2.out] <;> rfl,by rw [HN2.out];exact HFB5.out,HF05.out,HBW5.out⟩,by simp [intOf];omega⟩
           | true =>
             have HN2:=Lib.hid (show pickV (l.take (k + 1)) yr st better may = some f from HNX.out.trans (by unfold pickS;simp only;rw [hbt];rfl))
             rw [hbt] at HBX
             clear hbt
             go_wp2_with fail
             refine (HBX.out _).mono ?_
             rintro e w5 ⟨rfl,hb⟩
             have HFB5:=Lib.hid (show FirB w5 (w.heap.size + 1) x from Blk.below HFB4.out hb hf4)
             have HF05:=Lib.hid (show FirB w5 w.heap.size .zero from Blk.below HF04.out hb (by omega))
             have HBW5:=Lib.hid (HBW4.out.trans (hb.mono HBW4.out.size))
             have HX5:=Lib.hid (HX4.out.below hb HX4.out.lt)
             have hf5:=HFB5.out.lt
             clear hb s0 s1 s2 s3 x0 x1 x2 x3
             have s0:=HFB5.out.cell 0 (v:=.int .i64 x.nominal) rfl
             have s1:=HFB5.out.cell 1 (v:=.int .i64 x.kind) rfl
             have s2:=HFB5.out.cell 2 (v:=.int .i64 x.save) rfl
             have s3:=HFB5.out.cell 3 (v:=.string x.letter) rfl
             have g0:=HFB5.out.frozen 0
             have g1:=HFB5.out.frozen 1
             have g2:=HFB5.out.frozen 2
             have g3:=HFB5.out.frozen 3
             have x0:=HX5.out.cell 0 (v:=.int .i64 f.nominal) rfl
             have x1:=HX5.out.cell 1 (v:=.int .i64 f.kind) rfl
             have x2:=HX5.out.cell 2 (v:=.int .i64 f.save) rfl
             have x3:=HX5.out.cell 3 (v:=.string f.letter) rfl
             have hx5:=HX5.out.lt
             go_wp2_with fail
             exact ⟨⟨k + 1,by omega,by go_num,by rw [HN2.out] <;> rfl,by rw [HN2.out];exact (((HFB5.out.set 0 _).set 1 _).set 2 _).set 3 _,(((HF05.out.other (by omega) 0 _).other (by omega) 1 _).other (by omega) 2 _).other (by omega) 3 _,below_set4 HBW5.out (by omega) _ _ _ _⟩,by simp [intOf];omega⟩
    ·obtain rfl:j = 12:=by omega
     have hd2:decide (((12:Nat):Int) < 12) = false:=by decide
     have HN2:=Lib.hid (show pickV (l.take (k + 1)) yr st better may = o by rw [HNX.out,HLE.out.out];rfl)
     go_wp2_with fail
     exact ⟨⟨k + 1,by omega,by go_num,by rw [HN2.out],by rw [HN2.out];exact HFB.out,HF0.out,HBI.out⟩,by simp [intOf];omega⟩
  ·obtain rfl:k = l.length:=by omega
   have hd:decide ((l.length:Int) < (l.length:Int)) = false:=decide_eq_false (by omega)
   rw [List.take_length] at ho
   have HO:=Lib.hid ho
   obtain ⟨f,hf⟩:∃ f,firO o = f:=⟨_,rfl⟩
   have HFO:=Lib.hid hf
   rw [hf] at HFB
   have q0:=HFB.out.cell 0 (v:=.int .i64 f.nominal) rfl
   have q1:=HFB.out.cell 1 (v:=.int .i64 f.kind) rfl
   have q2:=HFB.out.cell 2 (v:=.int .i64 f.save) rfl
   have q3:=HFB.out.cell 3 (v:=.string f.letter) rfl
   have hf0l:=Blk.lt HF0.out
   have p0:=HF0.out.cell 0 (v:=.int .i64 0) rfl
   have p1:=HF0.out.cell 1 (v:=.int .i64 0) rfl
   have p2:=HF0.out.cell 2 (v:=.int .i64 0) rfl
   have p3:=HF0.out.cell 3 (v:=.string ⟨#[]⟩) rfl
   have z0:=HF0.out.frozen 0
   have z1:=HF0.out.frozen 1
   have z2:=HF0.out.frozen 2
   have z3:=HF0.out.frozen 3
   clear hf ho
   go_wp2_with fail
   have HX:=Lib.hid (((HF0.out.set 0 (.int .i64 f.nominal)).set 1 (.int .i64 f.kind)).set 2 (.int .i64 f.save) |>.set 3 (.string f.letter))
   have v0:=HX.out.cell 0 (v:=.int .i64 f.nominal) rfl
   have v1:=HX.out.cell 1 (v:=.int .i64 f.kind) rfl
   have v2:=HX.out.cell 2 (v:=.int .i64 f.save) rfl
   have v3:=HX.out.cell 3 (v:=.string f.letter) rfl
   rw [Exit.noGoto_ret]
   refine bodyPost_ret (v:=resO o) ?_ rfl ⟨by rw [HO.out],below_set4 HBW.out (by omega) _ _ _ _⟩
   unfold resO
   rw [HFO.out]
   simp [results,Tryz.f101,go_sem,v0,v1,v2,v3,firA]
theorem bestT_Behind (w:World) (B:Nat) (v:Value) (l:List Rul) (hv:Ruls w B v l) (hB:B ≤ w.heap.size) (ha:Ahead w) (b1 b3:Nat) (yr:Rul→Int) (st:Int) (better:Fir→Fir→Bool) (may:Fir→Bool)
  (hst:-1 ≤ st∧st ≤ 1) (hyr:∀ r ∈ l,-9223372036854775808 ≤ yr r∧yr r ≤ 9223372036854775807)
  (hy:∀ r ∈ l,∀ W,Below w.heap.size w W→Calls Tryz.prog 144 #[rulA r,.pointer (some ⟨b1,0,none⟩)] W fun e W'=>e = .returned (.tuple #[.int .i64 (yr r),.int .i64 st])∧Below W.heap.size W W')
  (hb:∀ a b W,Calls Tryz.prog 145 #[firA a,firA b] W fun e W'=>e = .returned (.bool (better a b))∧Below W.heap.size W W')
  (hm:∀ f W,Below w.heap.size w W→Calls Tryz.prog 146 #[firA f,.pointer (some ⟨b3,0,none⟩)] W fun e W'=>e = .returned (.bool (may f))∧Below W.heap.size W W') :
  Calls Tryz.prog 101 #[v,.func (.func 144) #[] #[.pointer (some ⟨b1,0,none⟩)],.func (.func 145) #[] #[],.func (.func 146) #[] #[.pointer (some ⟨b3,0,none⟩)]] w fun e w'=>e = .returned (resO (pickV l yr st better may))∧Below w.heap.size w w':=by
 have HV:=Lib.hid hv
 have HA:=Lib.hid ha
 have HY:=Lib.hid hy
 have HBT:=Lib.hid hb
 have HM:=Lib.hid hm
 have HYR:=Lib.hid hyr
 obtain ⟨A,c,rfl,hlc,hcm⟩:=hv.form
 unfold maxLen at hcm
 have HB0:=Lib.hid (((Below.refl w.heap.size w).alloc (Nat.le_refl _) (.cells (firV .zero).toArray 112)).alloc (by simp) (.cells (firV .zero).toArray 112))
 have ho0:=Blk.new (w.alloc (.cells (firV .zero).toArray 112)) 112 (firV .zero).toArray
 have hr0:=(Blk.new w 112 (firV .zero).toArray).alloc (.cells (firV .zero).toArray 112)
 rw [World.size_alloc] at ho0
 have HO0:=Lib.hid (show FirB _ _ (firO (pickV (l.take 0) yr st better may)) from ho0)
 have HR0:=Lib.hid hr0
 clear hv ha hy hb hm hyr ho0 hr0
 unfold firV Fir.zero at HB0 HR0
 unfold firV Fir.zero at HO0
 go_enter Tryz.func101,Tryz.ntmps101
 go_wp2_with fail
 go_step3
 go_wp2_with fail
 go_step3
 go_wp2_with fail
 go_loopw [11,20] (fun fv iv wr=>∃ k:Nat,k ≤ l.length∧iv = .int .i64 k∧fv = .bool (pickV (l.take k) yr st better may).isSome∧FirB wr (w.heap.size + 1) (firO (pickV (l.take k) yr st better may))∧FirB wr w.heap.size .zero∧Below w.heap.size w wr) (fun _ iv _=>l.length - (intOf iv).toNat)
 case atStart=>exact ⟨0,Nat.zero_le _,rfl,rfl,HO0.out,HR0.out,HB0.out⟩
 case round =>
  clear HO0 HR0 HB0
  obtain ⟨k,hk,rfl,rfl,hfb,hf0,hbw⟩:=hrel
  obtain ⟨o,ho⟩:∃ o,pickV (l.take k) yr st better may = o:=⟨_,rfl⟩
  rw [ho] at hfb ⊢
  have HFB:=Lib.hid hfb
  have HF0:=Lib.hid hf0
  have HBW:=Lib.hid hbw
  have hws:=hbw.size
  have hfl:=Blk.lt hfb
  clear hfb hf0 hbw
  by_cases hlt:k < l.length
  ·have hd:decide ((k:Int) < (l.length:Int)) = true:=decide_eq_true (by omega)
   obtain ⟨bb,o1,c',e,hbb,hc⟩:=(HV.out.below (HBW.out.mono hB)).cells (by omega)
   cases e
   obtain ⟨c0,c1,c2,c3,c4,c5,c6,c7,c8,c9,c10⟩:=hc k hlt
   have HNX:=Lib.hid (pickV_next hlt yr st better may)
   rw [ho] at HNX
   have hyk:=HY.out l[k] (List.getElem_mem hlt)
   have hyrk:=HYR.out l[k] (List.getElem_mem hlt)
   obtain ⟨r,hr⟩:∃ r,l[k] = r:=⟨_,rfl⟩
   rw [hr] at c0 c1 c2 c3 c4 c5 c6 c7 c8 c9 c10 HNX hyk hyrk
   have HYK:=Lib.hid hyk
   have HO:=Lib.hid ho
   obtain ⟨y0,hy0⟩:∃ y0,yr r = y0:=⟨_,rfl⟩
   rw [hy0] at hyrk HYK HNX
   clear hc hr hyk ho hy0
   unfold rulA at HYK
   go_wp2_with fail
   refine (HYK.out _ ?b1).mono ?_
   case b1=>exact HBW.out.alloc hws _
   rintro e w2 ⟨rfl,hb⟩
   have HR2:=Lib.hid (show RulB w2 wr.heap.size r from Blk.below (Blk.new wr _ _) hb (Blk.lt (Blk.new wr _ _)))
   have hb2:Below w.heap.size w w2:=(HBW.out.alloc hws _).trans (hb.mono (by rw [World.size_alloc];omega))
   have HB2:=Lib.hid hb2
   have HFB2:=Lib.hid (show FirB w2 (w.heap.size + 1) (firO o) from Blk.below (Blk.alloc HFB.out _) hb (by rw [World.size_alloc];omega))
   have HF02:=Lib.hid (show FirB w2 w.heap.size .zero from Blk.below (Blk.alloc HF0.out _) hb (by rw [World.size_alloc];omega))
   obtain ⟨BX,hBX⟩:∃ n,wr.heap.size = n:=⟨_,rfl⟩
   rw [hBX] at HR2 hws hfl ⊢
   clear hb hb2 c0 c1 c2 c3 c4 c5 c6 c7 c8 c9 c10 HFB HF0 HBW hBX HYK
   go_wp2_with fail
   go_loopw [11,14,30] (fun fv yv jv wi=>∃ j:Nat,fv = .bool o.isSome∧jv = .int .i64 j∧yv = .int .i64 (IntKind.i64.wrap (y0 + st * j))∧leftY r st may y0 j∧RulB wi BX r∧FirB wi (w.heap.size + 1) (firO o)∧FirB wi w.heap.size .zero∧Below w.heap.size w wi) (fun _ _ jv _=>12 - (intOf jv).toNat)
   case atStart=>exact ⟨0,rfl,rfl,by rw [show y0 + st * ((0:Nat):Int) = y0 by simp,IntWalk.i64_in _ hyrk],⟨by omega,by simp⟩,HR2.out,HFB2.out,HF02.out,HB2.out⟩
   case round =>
    clear HR2 HB2 HFB2 HF02
    obtain ⟨j,rfl,rfl,rfl,hle,hrb,hfb,hf0,hbw⟩:=hrel
    have HLE:=Lib.hid hle
    have HFB:=Lib.hid hfb
    have HF0:=Lib.hid hf0
    have HRB:=Lib.hid hrb
    have HBI:=Lib.hid hbw
    have hj12:=hle.1
    have hwi:=hbw.size
    have hBl:=Blk.lt hrb
    have hfl2:=Blk.lt hfb
    clear hle hfb hf0 hrb hbw
    by_cases hjl:j < 12
    ·have hd2:decide ((j:Int) < 12) = true:=decide_eq_true (by omega)
     obtain ⟨y,hyv⟩:∃ y,IntKind.i64.wrap (y0 + st * (j:Int)) = y:=⟨_,rfl⟩
     have hyr2:-9223372036854775808 ≤ y∧y ≤ 9223372036854775807:=by rw [← hyv,IntKind.wrap_i64];omega
     have HEQ:=Lib.hid (wrap_of r hyv (by
      have e1:-1 * (j:Int) ≤ st * j:=Int.mul_le_mul_of_nonneg_right hst.1 (by omega)
      have e2:st * (j:Int) ≤ 1 * j:=Int.mul_le_mul_of_nonneg_right hst.2 (by omega)
      omega))
     have HOF:=Lib.hid (fof_any r y wr (HA.out.below HBI.out (Nat.le_refl _)))
     have HYV:=Lib.hid (show IntKind.i64.wrap (y0 + st * ((j + 1:Nat):Int)) = wrap64 (y + st) by rw [← hyv,show y0 + st * ((j + 1:Nat):Int) = (y0 + st * (j:Int)) + st by push_cast;rw [Int.mul_add];omega];exact (wrap_step _ _).symm)
     have HMY:=Lib.hid (fun (W:World) (hb:Below w.heap.size w W)=>HM.out (firOf r y) W hb)
     rw [hyv]
     have q0:=Blk.cell HRB.out 0 (v:=.string r.name) rfl
     have q1:=Blk.cell HRB.out 1 (v:=.int .i64 r.from_) rfl
     have q2:=Blk.cell HRB.out 2 (v:=.int .i64 r.to_) rfl
     have q3:=Blk.cell HRB.out 3 (v:=.int .i64 r.month) rfl
     have q4:=Blk.cell HRB.out 4 (v:=.int .i64 r.dk) rfl
     have q5:=Blk.cell HRB.out 5 (v:=.int .i64 r.dw) rfl
     have q6:=Blk.cell HRB.out 6 (v:=.int .i64 r.dn) rfl
     have q7:=Blk.cell HRB.out 7 (v:=.int .i64 r.sec) rfl
     have q8:=Blk.cell HRB.out 8 (v:=.int .i64 r.kind) rfl
     have q9:=Blk.cell HRB.out 9 (v:=.int .i64 r.save) rfl
     have q10:=Blk.cell HRB.out 10 (v:=.string r.letter) rfl
     unfold rulA at HOF
     cases hof:ofB r y with
     | false =>
       have hn:(ofB r (y0 + st * (j:Int)) && may (firOf r (y0 + st * (j:Int)))) = false:=by rw [HEQ.out.1,hof];rfl
       have HL2:=Lib.hid (HLE.out.next hjl hn)
       have hov:ofV r y = .zero:=by unfold ofV;rw [hof];rfl
       rw [hof,hov] at HOF
       unfold firA Fir.zero at HOF
       clear hn hov hof HMY
       go_wp2_with fail
       refine HOF.out.mono ?_
       rintro e w3 ⟨rfl,hb⟩
       have hb3:Below wr.heap.size wr (w3.alloc (.cells #[.int .i64 0,.int .i64 0,.int .i64 0,.string ⟨#[]⟩] 112)):=hb.alloc hb.size _
       have HB3:=Lib.hid hb3
       clear hb hb3 q0 q1 q2 q3 q4 q5 q6 q7 q8 q9 q10
       go_wp2_with fail
       go_roundw
       case rel=>exact ⟨j + 1,rfl,by go_num,by rw [HYV.out],HL2.out,Blk.below HRB.out HB3.out hBl,Blk.below HFB.out HB3.out hfl2,Blk.below HF0.out HB3.out (by omega),HBI.out.trans (HB3.out.mono hwi)⟩
       case measure=>simp [intOf];omega
     | true =>
       have hyv:=HEQ.out.2 hof
       have hov:ofV r y = firOf r y:=by unfold ofV;rw [hof];rfl
       rw [hof,hov] at HOF
       obtain ⟨f,hf⟩:∃ f,firOf r y = f:=⟨_,rfl⟩
       rw [hf] at HOF HMY
       unfold firA at HOF HMY
       clear hov
       cases hmy:may f with
       | false =>
         have hn:(ofB r (y0 + st * (j:Int)) && may (firOf r (y0 + st * (j:Int)))) = false:=by rw [hyv,hf,hmy,Bool.and_false]
         have HL2:=Lib.hid (HLE.out.next hjl hn)
         rw [hmy] at HMY
         clear hn hof hf hmy
         go_wp2_with fail
         refine HOF.out.mono ?_
         rintro e w3 ⟨rfl,hb⟩
         have hb3:Below wr.heap.size wr (w3.alloc (.cells #[.int .i64 f.nominal,.int .i64 f.kind,.int .i64 f.save,.string f.letter] 112)):=hb.alloc hb.size _
         have HB3:=Lib.hid hb3
         clear hb hb3 q0 q1 q2 q3 q4 q5 q6 q7 q8 q9 q10
         go_wp2_with fail
         refine (HMY.out _ (HBI.out.trans (HB3.out.mono hwi))).mono ?_
         rintro e w4 ⟨rfl,hb⟩
         have HB4:=Lib.hid (HB3.out.trans (hb.mono HB3.out.size))
         clear hb
         go_wp2_with fail
         go_roundw
         case rel=>exact ⟨j + 1,rfl,by go_num,by rw [HYV.out],HL2.out,Blk.below HRB.out HB4.out hBl,Blk.below HFB.out HB4.out hfl2,Blk.below HF0.out HB4.out (by omega),HBI.out.trans (HB4.out.mono hwi)⟩
         case measure=>simp [intOf];omega
       | true =>
         have hn:(ofB r (y0 + st * (j:Int)) && may (firOf r (y0 + st * (j:Int)))) = true:=by rw [hyv,hf,hmy,hof];rfl
         have HHT:=Lib.hid (HLE.out.hit hjl hn)
         rw [hyv,hf] at HHT
         rw [HHT.out] at HNX
         rw [hmy] at HMY
         clear hn hof hf hmy
         go_wp2_with fail
         refine HOF.out.mono ?_
         rintro e w3 ⟨rfl,hb⟩
         have hb3:Below wr.heap.size wr (w3.alloc (.cells #[.int .i64 f.nominal,.int .i64 f.kind,.int .i64 f.save,.string f.letter] 112)):=hb.alloc hb.size _
         have HB3:=Lib.hid hb3
         have HX3:=Lib.hid (Blk.new w3 112 #[.int .i64 f.nominal,.int .i64 f.kind,.int .i64 f.save,.string f.letter])
         clear hb hb3 q0 q1 q2 q3 q4 q5 q6 q7 q8 q9 q10
         go_wp2_with fail
         refine (HMY.out _ (HBI.out.trans (HB3.out.mono hwi))).mono ?_
         rintro e w4 ⟨rfl,hb⟩
         have HB4:=Lib.hid (HB3.out.trans (hb.mono HB3.out.size))
         have HX4:=Lib.hid (HX3.out.below hb HX3.out.lt)
         have HFB4:=Lib.hid (show FirB w4 (w.heap.size + 1) (firO o) from Blk.below HFB.out HB4.out hfl2)
         have HF04:=Lib.hid (show FirB w4 w.heap.size .zero from Blk.below HF0.out HB4.out (by omega))
         have HBW4:=Lib.hid (HBI.out.trans (HB4.out.mono hwi))
         clear hb
         cases o with
         | none =>
           have HN2:=Lib.hid (show pickV (l.take (k + 1)) yr st better may = some f from HNX.out)
           have hf4:=HFB4.out.lt
           have s0:=HFB4.out.cell 0 (v:=.int .i64 0) rfl
           have s1:=HFB4.out.cell 1 (v:=.int .i64 0) rfl
           have s2:=HFB4.out.cell 2 (v:=.int .i64 0) rfl
           have s3:=HFB4.out.cell 3 (v:=.string ⟨#[]⟩) rfl
           have g0:=HFB4.out.frozen 0
           have g1:=HFB4.out.frozen 1
           have g2:=HFB4.out.frozen 2
           have g3:=HFB4.out.frozen 3
           have x0:=HX4.out.cell 0 (v:=.int .i64 f.nominal) rfl
           have x1:=HX4.out.cell 1 (v:=.int .i64 f.kind) rfl
           have x2:=HX4.out.cell 2 (v:=.int .i64 f.save) rfl
           have x3:=HX4.out.cell 3 (v:=.string f.letter) rfl
           have hx:=HX4.out.lt
           go_wp2_with fail
           exact ⟨⟨k + 1,by omega,by go_num,by rw [HN2.out] <;> rfl,by rw [HN2.out];exact (((HFB4.out.set 0 _).set 1 _).set 2 _).set 3 _,(((HF04.out.other (by omega) 0 _).other (by omega) 1 _).other (by omega) 2 _).other (by omega) 3 _,below_set4 HBW4.out (by omega) _ _ _ _⟩,by simp [intOf];omega⟩
         | some x =>
           have HBX:=Lib.hid (fun W=>HBT.out f x W)
           unfold firA at HBX
           have hf4:=HFB4.out.lt
           have s0:=HFB4.out.cell 0 (v:=.int .i64 x.nominal) rfl
           have s1:=HFB4.out.cell 1 (v:=.int .i64 x.kind) rfl
           have s2:=HFB4.out.cell 2 (v:=.int .i64 x.save) rfl
           have s3:=HFB4.out.cell 3 (v:=.string x.letter) rfl
           have x0:=HX4.out.cell 0 (v:=.int .i64 f.nominal) rfl
           have x1:=HX4.out.cell 1 (v:=.int .i64 f.kind) rfl
           have x2:=HX4.out.cell 2 (v:=.int .i64 f.save) rfl
           have x3:=HX4.out.cell 3 (v:=.string f.letter) rfl
           have hx:=HX4.out.lt
           cases hbt:better f x with
           | false =>
             have HN2:=Lib.hid (show pickV (l.take (k + 1)) yr st better may = some x from HNX.out.trans (by unfold pickS;simp only;rw [hbt];rfl))
             rw [hbt] at HBX
             clear hbt
             go_wp2_with fail
             refine (HBX.out _).mono ?_
             rintro e w5 ⟨rfl,hb⟩
             have HFB5:=Lib.hid (show FirB w5 (w.heap.size + 1) x from Blk.below HFB4.out hb hf4)
             have HF05:=Lib.hid (show FirB w5 w.heap.size .zero from Blk.below HF04.out hb (by omega))
             have HBW5:=Lib.hid (HBW4.out.trans (hb.mono HBW4.out.size))
             have HX5:=Lib.hid (HX4.out.below hb HX4.out.lt)
             have hf5:=HFB5.out.lt
             clear hb s0 s1 s2 s3 x0 x1 x2 x3
             go_wp2_with fail
             exact ⟨⟨k + 1,by omega,by go_num,by rw [HN2.out] <;> rfl,by rw [HN2.out];exact HFB5.out,HF05.out,HBW5.out⟩,by simp [intOf];omega⟩
           | true =>
             have HN2:=Lib.hid (show pickV (l.take (k + 1)) yr st better may = some f from HNX.out.trans (by unfold pickS;simp only;rw [hbt];rfl))
             rw [hbt] at HBX
             clear hbt
             go_wp2_with fail
             refine (HBX.out _).mono ?_
             rintro e w5 ⟨rfl,hb⟩
             have HFB5:=Lib.hid (show FirB w5 (w.heap.size + 1) x from Blk.below HFB4.out hb hf4)
             have HF05:=Lib.hid (show FirB w5 w.heap.size .zero from Blk.below HF04.out hb (by omega))
             have HBW5:=Lib.hid (HBW4.out.trans (hb.mono HBW4.out.size))
             have HX5:=Lib.hid (HX4.out.below hb HX4.out.lt)
             have hf5:=HFB5.out.lt
             clear hb s0 s1 s2 s3 x0 x1 x2 x3
             have s0:=HFB5.out.cell 0 (v:=.int .i64 x.nominal) rfl
             have s1:=HFB5.out.cell 1 (v:=.int .i64 x.kind) rfl
             have s2:=HFB5.out.cell 2 (v:=.int .i64 x.save) rfl
             have s3:=HFB5.out.cell 3 (v:=.string x.letter) rfl
             have g0:=HFB5.out.frozen 0
             have g1:=HFB5.out.frozen 1
             have g2:=HFB5.out.frozen 2
             have g3:=HFB5.out.frozen 3
             have x0:=HX5.out.cell 0 (v:=.int .i64 f.nominal) rfl
             have x1:=HX5.out.cell 1 (v:=.int .i64 f.kind) rfl
             have x2:=HX5.out.cell 2 (v:=.int .i64 f.save) rfl
             have x3:=HX5.out.cell 3 (v:=.string f.letter) rfl
             have hx5:=HX5.out.lt
             go_wp2_with fail
             exact ⟨⟨k + 1,by omega,by go_num,by rw [HN2.out] <;> rfl,by rw [HN2.out];exact (((HFB5.out.set 0 _).set 1 _).set 2 _).set 3 _,(((HF05.out.other (by omega) 0 _).other (by omega) 1 _).other (by omega) 2 _).other (by omega) 3 _,below_set4 HBW5.out (by omega) _ _ _ _⟩,by simp [intOf];omega⟩
    ·obtain rfl:j = 12:=by omega
     have hd2:decide (((12:Nat):Int) < 12) = false:=by decide
     have HN2:=Lib.hid (show pickV (l.take (k + 1)) yr st better may = o by rw [HNX.out,HLE.out.out];rfl)
     go_wp2_with fail
     exact ⟨⟨k + 1,by omega,by go_num,by rw [HN2.out],by rw [HN2.out];exact HFB.out,HF0.out,HBI.out⟩,by simp [intOf];omega⟩
  ·obtain rfl:k = l.length:=by omega
   have hd:decide ((l.length:Int) < (l.length:Int)) = false:=decide_eq_false (by omega)
   rw [List.take_length] at ho
   have HO:=Lib.hid ho
   obtain ⟨f,hf⟩:∃ f,firO o = f:=⟨_,rfl⟩
   have HFO:=Lib.hid hf
   rw [hf] at HFB
   have q0:=HFB.out.cell 0 (v:=.int .i64 f.nominal) rfl
   have q1:=HFB.out.cell 1 (v:=.int .i64 f.kind) rfl
   have q2:=HFB.out.cell 2 (v:=.int .i64 f.save) rfl
   have q3:=HFB.out.cell 3 (v:=.string f.letter) rfl
   have hf0l:=Blk.lt HF0.out
   have p0:=HF0.out.cell 0 (v:=.int .i64 0) rfl
   have p1:=HF0.out.cell 1 (v:=.int .i64 0) rfl
   have p2:=HF0.out.cell 2 (v:=.int .i64 0) rfl
   have p3:=HF0.out.cell 3 (v:=.string ⟨#[]⟩) rfl
   have z0:=HF0.out.frozen 0
   have z1:=HF0.out.frozen 1
   have z2:=HF0.out.frozen 2
   have z3:=HF0.out.frozen 3
   clear hf ho
   go_wp2_with fail
   have HX:=Lib.hid (((HF0.out.set 0 (.int .i64 f.nominal)).set 1 (.int .i64 f.kind)).set 2 (.int .i64 f.save) |>.set 3 (.string f.letter))
   have v0:=HX.out.cell 0 (v:=.int .i64 f.nominal) rfl
   have v1:=HX.out.cell 1 (v:=.int .i64 f.kind) rfl
   have v2:=HX.out.cell 2 (v:=.int .i64 f.save) rfl
   have v3:=HX.out.cell 3 (v:=.string f.letter) rfl
   rw [Exit.noGoto_ret]
   refine bodyPost_ret (v:=resO o) ?_ rfl ⟨by rw [HO.out],below_set4 HBW.out (by omega) _ _ _ _⟩
   unfold resO
   rw [HFO.out]
   simp [results,Tryz.f101,go_sem,v0,v1,v2,v3,firA]
end
section -- ULate
open Go Go.RowKit Go.Shelf
def numsR (l:List Rul):Prop:=∀ r ∈ l,(-9223372036854775808 ≤ r.from_∧r.from_ ≤ 9223372036854775807)∧(-9223372036854775808 ≤ r.to_∧r.to_ ≤ 9223372036854775807)∧(-9223372036854775808 ≤ r.save∧r.save ≤ 9223372036854775807)
theorem fahead_tot (w:World) (v:Value) (l:List Rul) (hv:Ruls w w.heap.size v l) (ha:Ahead w) (ho:numsR l) (s:Int) (h1:-9223372036854775808 ≤ s) (h2:s ≤ 9223372036854775807) :
  Calls Tryz.prog 60 #[v,.int .i64 s] w fun e w'=>e = .returned (resO (aheadF l s))∧Below w.heap.size w w':=by
 have HY:=Lib.hid (fyear_any s h1 h2 (w.alloc (.cells #[.int .i64 s] 3) |>.alloc (.cells (firV .zero).toArray 112)) ((ha.below ((Below.refl w.heap.size w).alloc (Nat.le_refl _) _) (Nat.le_refl _)).below ((Below.refl (w.alloc (.cells #[.int .i64 s] 3)).heap.size (w.alloc (.cells #[.int .i64 s] 3))).alloc (Nat.le_refl _) _) (Nat.le_refl _)))
 have hb0:Below w.heap.size w ((w.alloc (.cells #[.int .i64 s] 3)).alloc (.cells (firV .zero).toArray 112)):=((Below.refl w.heap.size w).alloc (Nat.le_refl _) _).alloc (by simp) _
 have hs0:=(Blk.new w 3 #[.int .i64 s]).alloc (.cells (firV .zero).toArray 112)
 have hr0:=Blk.new (w.alloc (.cells #[.int .i64 s] 3)) 112 (firV .zero).toArray
 rw [World.size_alloc] at hr0
 have HV:=Lib.hid hv
 have HA:=Lib.hid ha
 have HO:=Lib.hid ho
 have hyi:=secYear_in s
 obtain ⟨Y,hY⟩:∃ Y,secYear s = Y:=⟨_,rfl⟩
 have HF:=Lib.hid (show aheadF l s = pickV l (fun r=>min r.to_ (Y + 1)) (-1) geB (underB s) by unfold aheadF;rw [hY])
 rw [hY] at HY hyi
 clear hY hv ha ho
 unfold firV Fir.zero at HY hb0 hs0 hr0
 go_enter Tryz.func60,Tryz.ntmps60
 go_wp2_with fail
 refine HY.out.mono ?_
 rintro e w1 ⟨rfl,hb⟩
 have hs1:=hs0.below hb hs0.lt
 have hr1:=hr0.below hb hr0.lt
 have hb1:=hb0.trans (hb.mono hb0.size)
 have hz1:=hb1.size
 have HS2:=Lib.hid (hs1.alloc (.cells #[.int .i64 (Y + 1)] 3))
 have HR2:=Lib.hid (hr1.alloc (.cells #[.int .i64 (Y + 1)] 3))
 have HL2:=Lib.hid (Blk.new w1 3 #[.int .i64 (Y + 1)])
 have HB2:=Lib.hid (hb1.alloc hz1 (.cells #[.int .i64 (Y + 1)] 3))
 have hrl:=hr1.lt
 have hll:=HL2.out.lt
 have hsl:=HS2.out.lt
 clear hb hb0 hs0 hr0 hs1 hr1 hb1 HY
 go_wp2_with fail
 have HBE:=Lib.hid (bestT_Ahead _ w.heap.size v l (HV.out.below HB2.out |>.more (Nat.le_refl _)) HB2.out.size (HA.out.below HB2.out (Nat.le_refl _)) w1.heap.size w.heap.size (fun r=>min r.to_ (Y + 1)) (-1) geB (underB s) (by omega) (fun r hr=>by have:=HO.out r hr;omega)
  (fun r hr W hb=>ahead1_any W r w1.heap.size (Y + 1) ((HL2.out.below hb hll).cell 0 rfl)) (fun a b W=>ahead2_any W a b) (fun f W hb=>ahead3_any W f w.heap.size s ((HS2.out.below hb hsl).cell 0 rfl)))
 rw [← HF.out] at HBE
 refine HBE.out.mono ?_
 rintro e w2 ⟨rfl,hb⟩
 have HR3:=Lib.hid (HR2.out.below hb HR2.out.lt)
 have HB3:=Lib.hid (HB2.out.trans (hb.mono HB2.out.size))
 clear hb HR2 HB2 HBE
 obtain ⟨o,hoo⟩:∃ o,aheadF l s = o:=⟨_,rfl⟩
 rw [hoo]
 have HOO:=Lib.hid hoo
 clear hoo
 obtain ⟨f,hf⟩:∃ f,firO o = f:=⟨_,rfl⟩
 have HFO:=Lib.hid (show resO o = .tuple #[firA f,.bool o.isSome] by unfold resO;rw [hf])
 unfold resO
 rw [hf]
 unfold firA
 have hr3:=HR3.out.lt
 have p0:=HR3.out.cell 0 (v:=.int .i64 0) rfl
 have p1:=HR3.out.cell 1 (v:=.int .i64 0) rfl
 have p2:=HR3.out.cell 2 (v:=.int .i64 0) rfl
 have p3:=HR3.out.cell 3 (v:=.string ⟨#[]⟩) rfl
 have z0:=HR3.out.frozen 0
 have z1:=HR3.out.frozen 1
 have z2:=HR3.out.frozen 2
 have z3:=HR3.out.frozen 3
 clear hf
 go_wp2_with fail
 have HX:=Lib.hid (((HR3.out.set 0 (.int .i64 f.nominal)).set 1 (.int .i64 f.kind)).set 2 (.int .i64 f.save) |>.set 3 (.string f.letter))
 have v0:=HX.out.cell 0 (v:=.int .i64 f.nominal) rfl
 have v1:=HX.out.cell 1 (v:=.int .i64 f.kind) rfl
 have v2:=HX.out.cell 2 (v:=.int .i64 f.save) rfl
 have v3:=HX.out.cell 3 (v:=.string f.letter) rfl
 refine bodyPost_ret (v:=resO o) ?_ rfl ⟨by rw [HOO.out],below_set4 HB3.out (by omega) _ _ _ _⟩
 rw [HFO.out]
 simp [results,Tryz.f60,go_sem,v0,v1,v2,v3,firA]
theorem fbehind_tot (w:World) (v:Value) (l:List Rul) (hv:Ruls w w.heap.size v l) (ha:Ahead w) (ho:numsR l) (s:Int) (h1:-9223372036854775808 ≤ s) (h2:s ≤ 9223372036854775807) :
  Calls Tryz.prog 117 #[v,.int .i64 s] w fun e w'=>e = .returned (resO (behindF l s))∧Below w.heap.size w w':=by
 have HY:=Lib.hid (fyear_any s h1 h2 (w.alloc (.cells #[.int .i64 s] 3) |>.alloc (.cells (firV .zero).toArray 112)) ((ha.below ((Below.refl w.heap.size w).alloc (Nat.le_refl _) _) (Nat.le_refl _)).below ((Below.refl (w.alloc (.cells #[.int .i64 s] 3)).heap.size (w.alloc (.cells #[.int .i64 s] 3))).alloc (Nat.le_refl _) _) (Nat.le_refl _)))
 have hb0:Below w.heap.size w ((w.alloc (.cells #[.int .i64 s] 3)).alloc (.cells (firV .zero).toArray 112)):=((Below.refl w.heap.size w).alloc (Nat.le_refl _) _).alloc (by simp) _
 have hs0:=(Blk.new w 3 #[.int .i64 s]).alloc (.cells (firV .zero).toArray 112)
 have hr0:=Blk.new (w.alloc (.cells #[.int .i64 s] 3)) 112 (firV .zero).toArray
 rw [World.size_alloc] at hr0
 have HV:=Lib.hid hv
 have HA:=Lib.hid ha
 have HO:=Lib.hid ho
 have hyi:=secYear_in s
 obtain ⟨Y,hY⟩:∃ Y,secYear s = Y:=⟨_,rfl⟩
 have HF:=Lib.hid (show behindF l s = pickV l (fun r=>max r.from_ (Y - 1)) (1) ltB (atB s) by unfold behindF;rw [hY])
 rw [hY] at HY hyi
 clear hY hv ha ho
 unfold firV Fir.zero at HY hb0 hs0 hr0
 go_enter Tryz.func117,Tryz.ntmps117
 go_wp2_with fail
 refine HY.out.mono ?_
 rintro e w1 ⟨rfl,hb⟩
 have hs1:=hs0.below hb hs0.lt
 have hr1:=hr0.below hb hr0.lt
 have hb1:=hb0.trans (hb.mono hb0.size)
 have hz1:=hb1.size
 have HS2:=Lib.hid (hs1.alloc (.cells #[.int .i64 (Y - 1)] 3))
 have HR2:=Lib.hid (hr1.alloc (.cells #[.int .i64 (Y - 1)] 3))
 have HL2:=Lib.hid (Blk.new w1 3 #[.int .i64 (Y - 1)])
 have HB2:=Lib.hid (hb1.alloc hz1 (.cells #[.int .i64 (Y - 1)] 3))
 have hrl:=hr1.lt
 have hll:=HL2.out.lt
 have hsl:=HS2.out.lt
 clear hb hb0 hs0 hr0 hs1 hr1 hb1 HY
 go_wp2_with fail
 have HBE:=Lib.hid (bestT_Behind _ w.heap.size v l (HV.out.below HB2.out |>.more (Nat.le_refl _)) HB2.out.size (HA.out.below HB2.out (Nat.le_refl _)) w1.heap.size w.heap.size (fun r=>max r.from_ (Y - 1)) (1) ltB (atB s) (by omega) (fun r hr=>by have:=HO.out r hr;omega)
  (fun r hr W hb=>behind1_any W r w1.heap.size (Y - 1) ((HL2.out.below hb hll).cell 0 rfl)) (fun a b W=>behind2_any W a b) (fun f W hb=>behind3_any W f w.heap.size s ((HS2.out.below hb hsl).cell 0 rfl)))
 rw [← HF.out] at HBE
 refine HBE.out.mono ?_
 rintro e w2 ⟨rfl,hb⟩
 have HR3:=Lib.hid (HR2.out.below hb HR2.out.lt)
 have HB3:=Lib.hid (HB2.out.trans (hb.mono HB2.out.size))
 clear hb HR2 HB2 HBE
 obtain ⟨o,hoo⟩:∃ o,behindF l s = o:=⟨_,rfl⟩
 rw [hoo]
 have HOO:=Lib.hid hoo
 clear hoo
 obtain ⟨f,hf⟩:∃ f,firO o = f:=⟨_,rfl⟩
 have HFO:=Lib.hid (show resO o = .tuple #[firA f,.bool o.isSome] by unfold resO;rw [hf])
 unfold resO
 rw [hf]
 unfold firA
 have hr3:=HR3.out.lt
 have p0:=HR3.out.cell 0 (v:=.int .i64 0) rfl
 have p1:=HR3.out.cell 1 (v:=.int .i64 0) rfl
 have p2:=HR3.out.cell 2 (v:=.int .i64 0) rfl
 have p3:=HR3.out.cell 3 (v:=.string ⟨#[]⟩) rfl
 have z0:=HR3.out.frozen 0
 have z1:=HR3.out.frozen 1
 have z2:=HR3.out.frozen 2
 have z3:=HR3.out.frozen 3
 clear hf
 go_wp2_with fail
 have HX:=Lib.hid (((HR3.out.set 0 (.int .i64 f.nominal)).set 1 (.int .i64 f.kind)).set 2 (.int .i64 f.save) |>.set 3 (.string f.letter))
 have v0:=HX.out.cell 0 (v:=.int .i64 f.nominal) rfl
 have v1:=HX.out.cell 1 (v:=.int .i64 f.kind) rfl
 have v2:=HX.out.cell 2 (v:=.int .i64 f.save) rfl
 have v3:=HX.out.cell 3 (v:=.string f.letter) rfl
 refine bodyPost_ret (v:=resO o) ?_ rfl ⟨by rw [HOO.out],below_set4 HB3.out (by omega) _ _ _ _⟩
 rw [HFO.out]
 simp [results,Tryz.f117,go_sem,v0,v1,v2,v3,firA]
end
end Go.Proofs.YteekjfgjmccdnaaGreatDoor
