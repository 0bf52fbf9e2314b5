/-
  A range over a function whose round begins by writing into memory of the loop's own (a variable that stands outside).
-/
import Derived.WalkKit
import Derived.Lib.Hide
import Derived.Deep.QuietTactic
import Derived.BigQuiet
import Derived.Shelf.RegionOpen
import Derived.WalkSpells
import Derived.WalkLawsBesides
import Derived.Lib.Walk
import Derived.Lib.MinMax
import Derived.IntWalk
import Derived.Test.YteekjfgjmccdnaaGreatDoorChecked
import Derived.Orders
import Derived.Tactics
import Derived.Below
import Derived.OrdersIn
import Derived.TacticsIn
import Derived.KernelRfl
import Derived.RangeFuncNested
import Derived.RangeFuncBound
import Derived.RangeFuncCalls
import Derived.RangeFuncLeaves
import Derived.RangeFuncFrom
import Derived.OwnWalkIn
import Derived.TacticsInMore
import Derived.LoopNIn
import Derived.LoopIn
import Derived.BigRegionIn
set_option maxHeartbeats 16000000
set_option maxRecDepth 100000
namespace Go.Proofs.YteekjfgjmccdnaaGreatDoor
section -- Base
open Go Go.RowKit
def Sl (w:World) (B sz:Nat) (v:Value) (n:Nat) (xs:List Value):Prop :=
 ∃ A c,v = .slice A n c∧n ≤ c∧c ≤ maxLen∧xs.length = n * sz∧(0 < n→∃ b o,A = some ⟨b,o,none⟩∧b < B∧∀ j u,xs[j]? = some u→w.cell? ⟨b,o + j,none⟩ = some u)
section
variable {w w':World} {B B' sz n:Nat} {v:Value} {xs:List Value}
theorem Sl.nil (w:World) (B sz:Nat):Sl w B sz (.slice none 0 0) 0 []:=⟨_,_,rfl,Nat.le_refl _,by decide,by simp,fun h=>absurd h (by omega)⟩
theorem Sl.form (h:Sl w B sz v n xs):∃ A c,v = .slice A n c:=⟨_,_,h.choose_spec.choose_spec.1⟩
theorem Sl.keep (h:Sl w B sz v n xs) (hk:∀ p:Addr,p.block < B→w'.cell? p = w.cell? p):Sl w' B sz v n xs:=by
 obtain ⟨A,c,rfl,h1,h2,hl,hc⟩:=h
 refine ⟨A,c,rfl,h1,h2,hl,fun hn=>?_⟩
 obtain ⟨b,o,rfl,hb,hc⟩:=hc hn
 exact ⟨b,o,rfl,hb,fun j u hu=>(hk _ hb).trans (hc j u hu)⟩
theorem Sl.more (h:Sl w B sz v n xs) (hB:B ≤ B'):Sl w B' sz v n xs:=by
 obtain ⟨A,c,rfl,h1,h2,hl,hc⟩:=h
 refine ⟨A,c,rfl,h1,h2,hl,fun hn=>?_⟩
 obtain ⟨b,o,rfl,hb,hc⟩:=hc hn
 exact ⟨b,o,rfl,by omega,hc⟩
theorem Sl.below (h:Sl w B sz v n xs) (hb:Below B w w'):Sl w' B sz v n xs:=h.keep fun _ hp=>hb.cell hp
theorem Sl.alloc (h:Sl w B sz v n xs) (hB:B ≤ w.heap.size) (o:Obj):Sl (w.alloc o) B sz v n xs:=h.keep fun p hp=>World.cell?_alloc_lt w o p (by omega)
theorem Sl.of_own {base:Nat} {e:TypeId} (h:w.ownsRow base e sz v n xs):Sl w w.heap.size sz v n xs:=by
 rcases h.2 with ⟨rfl,rfl⟩ | ⟨g,cap,cur,rfl,hb,hg,hnc,hm,hcs,htake⟩
 ·exact ⟨none,0,rfl,Nat.le_refl _,by decide,h.1,fun hn=>absurd hn (by omega)⟩
 ·refine ⟨_,_,rfl,hnc,hm,h.1,fun _=>⟨g,0,rfl,(Array.getElem?_eq_some_iff.1 hg).1,fun j u hu=>?_⟩⟩
  have:=h.cells (g:=g) rfl j u hu
  rwa [Addr.add_lit] at this
theorem Sl.at_ (h:Sl w B sz v n xs) (hn:0 < n):∃ b o c,v = .slice (some ⟨b,o,none⟩) n c∧b < B∧∀ j u,xs[j]? = some u→w.cell? ⟨b,o + j,none⟩ = some u:=by
 obtain ⟨A,c,rfl,-,-,hl,hc⟩:=h
 obtain ⟨b,o,rfl,hb,hc⟩:=hc hn
 exact ⟨b,o,c,rfl,hb,hc⟩
theorem Sl.mk_ {b o c:Nat} (h1:n ≤ c) (h2:c ≤ maxLen) (hl:xs.length = n * sz) (hb:b < B) (hc:∀ j u,xs[j]? = some u→w.cell? ⟨b,o + j,none⟩ = some u):Sl w B sz (.slice (some ⟨b,o,none⟩) n c) n xs :=
 ⟨_,_,rfl,h1,h2,hl,fun _=>⟨b,o,rfl,hb,hc⟩⟩
end
def bytesV (l:List UInt8):List Value:=l.map fun x=>.int .u8 (x.toNat:Int)
theorem length_bytesV (l:List UInt8):(bytesV l).length = l.length:=by simp [bytesV]
def Bytes (w:World) (B:Nat) (v:Value) (l:List UInt8):Prop:=Sl w B 1 v l.length (bytesV l)
theorem cell_new (w:World) (C:Array Value) (t:TypeId) (fr:Nat × Nat) (i:Nat):(w.alloc (.cells C t fr)).cell? ⟨w.heap.size,i,none⟩ = C[i]?:=by
 have h:(w.alloc (.cells C t fr)).heap[w.heap.size]? = some (.cells C t fr):=heap_alloc_new w _
 unfold World.cell?
 rw [h]
 rfl
section
variable {w:World} {base e sz g n c:Nat} {v:Value} {xs:List Value}
end
section
variable {w w':World} {B B':Nat} {v:Value} {l:List UInt8}
theorem Bytes.take {A:Option Addr} {n c:Nat} (h:Bytes w B (.slice A l.length c) l) (hn:n ≤ l.length):Bytes w B (.slice A n c) (l.take n):=by
 obtain ⟨A',c',hv,h1,h2,-,hc⟩:=h
 injection hv with ha _ hcc
 subst ha;subst hcc
 unfold Bytes
 rw [List.length_take,Nat.min_eq_left hn]
 refine ⟨A,c,rfl,by omega,h2,by simp [length_bytesV];omega,fun hp=>?_⟩
 obtain ⟨b,o,rfl,hb,hc⟩:=hc (by omega)
 refine ⟨b,o,rfl,hb,fun j u hu=>hc j u ?_⟩
 have hb:bytesV (l.take n) = (bytesV l).take n:=by simp [bytesV]
 rw [hb,List.getElem?_take] at hu
 split at hu
 ·exact hu
 ·cases hu
theorem Bytes.drop {A:Option Addr} {n c:Nat} (h:Bytes w B (.slice A l.length c) l) (hn:n ≤ l.length) :
  Bytes w B (.slice (if c = n then A else A.map (·.add n)) (l.length - n) (c - n)) (l.drop n):=by
 obtain ⟨A',c',hv,h1,h2,-,hc⟩:=h
 injection hv with ha _ hcc
 subst ha;subst hcc
 unfold Bytes
 rw [List.length_drop]
 refine ⟨_,_,rfl,by omega,by omega,by simp [length_bytesV],fun hp=>?_⟩
 obtain ⟨b,o,rfl,hb,hc⟩:=hc (by omega)
 rw [if_neg (by omega)]
 refine ⟨b,o + n,by simp [Addr.add_lit],hb,fun j u hu=>?_⟩
 have hb:bytesV (l.drop n) = (bytesV l).drop n:=by simp [bytesV]
 rw [hb,List.getElem?_drop] at hu
 rw [Nat.add_assoc]
 exact hc _ u hu
end
end
section -- CMath
open Go
def aheadV:Nat→Int
 | 0=>0 | 1=>31 | 2=>59 | 3=>90 | 4=>120 | 5=>151 | 6=>181 | 7=>212 | 8=>243 | 9=>273 | 10=>304 | 11=>334 | _=>365
def leapB (y:Int):Bool:=decide (y % 4 = 0∧(y % 100 ≠ 0∨y % 400 = 0))
def leapsV (y:Int):Int:=if leapB y then 1 else 0
theorem leapsV_in (y:Int):0 ≤ leapsV y∧leapsV y ≤ 1:=by unfold leapsV;split <;> omega
def yearV (y:Int):Int:=(y - 1) * 365 + (y - 1) / 4 - (y - 1) / 100 + (y - 1) / 400 - 719162
def startV (y m:Int):Int:=aheadV (m - 1).toNat + if 2 < m then leapsV y else 0
def lenV (y m:Int):Int:=aheadV m.toNat - aheadV (m - 1).toNat + if m = 2 then leapsV y else 0
def ymB (y m:Int):Bool:=decide (-100000 ≤ y∧y ≤ 100000∧1 ≤ m∧m ≤ 12)
def longV (y m:Int):Int × Int:=if ymB y m then (lenV y m,0) else (0,10)
def dateB (y m d:Int):Bool:=ymB y m && decide (1 ≤ d∧d ≤ lenV y m)
def dayV (y m d:Int):Int:=yearV y + startV y m + d - 1
def weekV (n:Int):Int:=(n % 7 + 4) % 7
theorem tmod_zero (a b:Int):a.tmod b = 0 ↔ a % b = 0:=⟨fun h=>Int.emod_eq_zero_of_dvd (Int.dvd_of_tmod_eq_zero h),fun h=>Int.tmod_eq_zero_of_dvd (Int.dvd_of_emod_eq_zero h)⟩
theorem aheadV_in (k:Nat):0 ≤ aheadV k∧aheadV k ≤ 365:=by
 unfold aheadV
 split <;> omega
theorem lenV_in {y m:Int} (h1:1 ≤ m) (h2:m ≤ 12):28 ≤ lenV y m∧lenV y m ≤ 31:=by
 have hl:=leapsV_in y
 unfold lenV
 rcases (by omega:m = 1∨m = 2∨m = 3∨m = 4∨m = 5∨m = 6∨m = 7∨m = 8∨m = 9∨m = 10∨m = 11∨m = 12) with h | h | h | h | h | h | h | h | h | h | h | h <;> subst h <;> simp [aheadV] <;> omega
theorem startV_in (y m:Int):0 ≤ startV y m∧startV y m ≤ 366:=by
 have hl:=leapsV_in y
 have ha:=aheadV_in (m - 1).toNat
 unfold startV
 split <;> omega
theorem startV_next {y m:Int} (h1:1 ≤ m) (h2:m < 12):startV y (m + 1) = startV y m + lenV y m:=by
 have hl:=leapsV_in y
 unfold lenV startV
 rcases (by omega:m = 1∨m = 2∨m = 3∨m = 4∨m = 5∨m = 6∨m = 7∨m = 8∨m = 9∨m = 10∨m = 11) with h | h | h | h | h | h | h | h | h | h | h <;> subst h <;> simp [aheadV] <;> omega
theorem startV_dec {y:Int}:startV y 12 + lenV y 12 = 365 + leapsV y:=by
 unfold lenV startV
 simp [aheadV]
 omega
theorem yearV_in {y:Int} (h1:-100001 ≤ y) (h2:y ≤ 100001):-40000000 ≤ yearV y∧yearV y ≤ 40000000:=by
 unfold yearV
 omega
theorem dateB_in {y m d:Int} (h:dateB y m d = true):-100000 ≤ y∧y ≤ 100000∧1 ≤ m∧m ≤ 12∧1 ≤ d∧d ≤ lenV y m:=by
 unfold dateB ymB at h
 simp only [Bool.and_eq_true,decide_eq_true_eq] at h
 exact ⟨h.1.1,h.1.2.1,h.1.2.2.1,h.1.2.2.2,h.2.1,h.2.2⟩
theorem dayV_in {y m d:Int} (h:dateB y m d = true):-50000000 ≤ dayV y m d∧dayV y m d ≤ 50000000:=by
 obtain ⟨a,b,c,e,f,g⟩:=dateB_in h
 have h1:=yearV_in (y:=y) (by omega) (by omega)
 have h2:=startV_in y m
 have h3:=lenV_in (y:=y) c e
 unfold dayV
 omega
theorem weekV_in (n:Int):0 ≤ weekV n∧weekV n ≤ 6:=by unfold weekV;omega
theorem floor_eq {a b:Int} (hb:0 < b):a / b = if a.tmod b ≠ 0∧a < 0 then a.tdiv b - 1 else a.tdiv b:=by
 have hs:b.sign = 1:=Int.sign_eq_one_of_pos hb
 rw [Int.tdiv_eq_ediv,hs]
 by_cases h0:a.tmod b = 0
 ·rw [if_neg (by omega),if_pos (Or.inr (Int.dvd_of_tmod_eq_zero h0))]
  omega
 ·have hd:¬ b ∣ a:=fun h=>h0 (Int.tmod_eq_zero_of_dvd h)
  by_cases ha:a < 0
  ·rw [if_pos ⟨h0,ha⟩,if_neg (by rintro (h | h);omega;exact hd h)]
   omega
  ·rw [if_neg (by omega),if_pos (Or.inl (by omega))]
   omega
theorem mod_eq {a b:Int} (hb:0 < b):a % b = if a.tmod b ≠ 0∧a.tmod b < 0 then a.tmod b + b else a.tmod b:=by
 have h2:=Int.tmod_eq_emod (a:=a) (b:=b)
 have h5:=Int.emod_nonneg a (show b ≠ 0 by omega)
 have h6:=Int.emod_lt_of_pos a hb
 have h7:=Int.lt_tmod_of_pos a hb
 by_cases h0:a.tmod b = 0
 ·rw [if_neg (by omega),h0]
  exact (tmod_zero a b).1 h0
 ·have hd:¬ b ∣ a:=fun h=>h0 (Int.tmod_eq_zero_of_dvd h)
  by_cases ha:0 ≤ a
  ·rw [if_pos (Or.inl ha)] at h2
   rw [if_neg (by omega)]
   omega
  ·rw [if_neg (by rintro (h | h);exact ha h;exact hd h)] at h2
   rw [if_pos (by omega)]
   omega
end
section -- Civil
open Go Go.RowKit Go.Shelf
theorem div_ge {a b:Int} (hb:0 < b) (ha:a ≤ 0):a ≤ a / b:=by
 refine (Int.le_ediv_iff_mul_le hb).2 ?_
 have:a * b ≤ a * 1:=Int.mul_le_mul_of_nonpos_left ha (show (1:Int) ≤ b by omega)
 omega
theorem leap_any (y:Int) (w:World) :
  Calls Tryz.prog 154 #[.int .i64 y] w fun e w'=>e = .returned (.bool (leapB y))∧w' = w:=by
 have z4:=tmod_zero y 4
 have z1:=tmod_zero y 100
 have z0:=tmod_zero y 400
 by_cases h4:y.tmod 4 = 0
 ·by_cases h1:y.tmod 100 = 0
  ·by_cases h0:y.tmod 400 = 0
   ·have HL:=Lib.hid (show leapB y = true by unfold leapB;rw [decide_eq_true_eq];omega)
    clear z4 z1 z0
    go_enter Tryz.func154,Tryz.ntmps154
    go_wp2_with fail
    go_ret
    exact ⟨by rw [HL.out];rfl,rfl⟩
   ·have HL:=Lib.hid (show leapB y = false by unfold leapB;rw [decide_eq_false_iff_not];omega)
    have e0:(y.tmod 400 == 0) = false:=by simpa using h0
    clear z4 z1 z0
    go_enter Tryz.func154,Tryz.ntmps154
    go_wp2_with fail
    go_ret
    exact ⟨by rw [HL.out];rfl,rfl⟩
  ·have HL:=Lib.hid (show leapB y = true by unfold leapB;rw [decide_eq_true_eq];omega)
   have e1:(y.tmod 100 != 0) = true:=by simpa using h1
   clear z4 z1 z0
   go_enter Tryz.func154,Tryz.ntmps154
   go_wp2_with fail
   go_ret
   exact ⟨by rw [HL.out];rfl,rfl⟩
 ·have HL:=Lib.hid (show leapB y = false by unfold leapB;rw [decide_eq_false_iff_not];omega)
  have e4:(y.tmod 4 == 0) = false:=by simpa using h4
  clear z4 z1 z0
  go_enter Tryz.func154,Tryz.ntmps154
  go_wp2_with fail
  go_ret
  exact ⟨by rw [HL.out];rfl,rfl⟩
theorem leaps_any (y:Int) (w:World) :
  Calls Tryz.prog 123 #[.int .i64 y] w fun e w'=>e = .returned (.int .i64 (leapsV y))∧w' = w:=by
 have HL:=Lib.hid (leap_any y w)
 cases h:leapB y
 ·have HV:=Lib.hid (show leapsV y = 0 by unfold leapsV;rw [h];rfl)
  rw [h] at HL
  clear h
  go_enter Tryz.func123,Tryz.ntmps123
  go_wp2_with fail
  refine HL.out.mono ?_
  rintro e w1 ⟨rfl,rfl⟩
  go_wp2_with fail
  go_ret
  exact ⟨by rw [HV.out];rfl,rfl⟩
 ·have HV:=Lib.hid (show leapsV y = 1 by unfold leapsV;rw [h];rfl)
  rw [h] at HL
  clear h
  go_enter Tryz.func123,Tryz.ntmps123
  go_wp2_with fail
  refine HL.out.mono ?_
  rintro e w1 ⟨rfl,rfl⟩
  go_wp2_with fail
  go_ret
  exact ⟨by rw [HV.out];rfl,rfl⟩
theorem div_any (a b:Int) (hb:0 < b) (ha:-9223372036854775808 ≤ a) (ha2:a ≤ 9223372036854775807) (w:World) :
  Calls Tryz.prog 48 #[.int .i64 a,.int .i64 b] w fun e w'=>e = .returned (.tuple #[.int .i64 (a / b),.int .i64 0])∧w' = w:=by
 have hF:=floor_eq (a:=a) hb
 have hG:=fun h=>div_ge (a:=a) hb h
 have e1:(b == 0) = false:=by simp;omega
 have e2:(b == -1) = false:=by simp;omega
 have e3:decide (b < 0) = false:=by simp;omega
 by_cases h:a.tmod b = 0
 ·rw [if_neg (by omega)] at hF
  rw [hF]
  have e4:(a.tmod b != 0) = false:=by simpa using h
  clear hF hG h
  go_enter Tryz.func48,Tryz.ntmps48
  go_wp2_with fail
  refine bodyPost_ret (v:=.tuple #[.int .i64 (a.tdiv b),.int .i64 0]) ?_ rfl ⟨rfl,rfl⟩
  simp [results,Tryz.f48,go_sem, *]
 ·have e4:(a.tmod b != 0) = true:=by simpa using h
  by_cases h2:a < 0
  ·rw [if_pos ⟨h,h2⟩] at hF
   have hg:=hG (by omega)
   have hq:wrap64 (a.tdiv b - 1) = a.tdiv b - 1:=IntWalk.wrap64_in _ (by
    have:=Int.ediv_neg_of_neg_of_pos h2 hb
    omega)
   rw [hF]
   have e5:decide (a < 0) = true:=decide_eq_true h2
   clear hF hG h hg h2
   go_enter Tryz.func48,Tryz.ntmps48
   go_wp2_with fail
   refine bodyPost_ret (v:=.tuple #[.int .i64 (a.tdiv b - 1),.int .i64 0]) ?_ rfl ⟨rfl,rfl⟩
   simp [results,Tryz.f48,go_sem, *]
  ·rw [if_neg (by omega)] at hF
   rw [hF]
   have e5:decide (a < 0) = false:=decide_eq_false h2
   clear hF hG h h2
   go_enter Tryz.func48,Tryz.ntmps48
   go_wp2_with fail
   refine bodyPost_ret (v:=.tuple #[.int .i64 (a.tdiv b),.int .i64 0]) ?_ rfl ⟨rfl,rfl⟩
   simp [results,Tryz.f48,go_sem, *]
theorem floor_any (a b:Int) (hb:0 < b) (ha:-9223372036854775808 ≤ a) (ha2:a ≤ 9223372036854775807) (w:World) :
  Calls Tryz.prog 87 #[.int .i64 a,.int .i64 b] w fun e w'=>e = .returned (.int .i64 (a / b))∧w' = w:=by
 have HD:=Lib.hid (div_any a b hb ha ha2 w)
 generalize a / b = q at *
 go_enter Tryz.func87,Tryz.ntmps87
 go_wp2_with fail
 refine HD.out.mono ?_
 rintro e w1 ⟨rfl,rfl⟩
 go_wp2_with fail
 go_ret
 exact ⟨rfl,rfl⟩
theorem mod_any (a b:Int) (hb:0 < b) (hb2:b < 4611686018427387904) (w:World) :
  Calls Tryz.prog 177 #[.int .i64 a,.int .i64 b] w fun e w'=>e = .returned (.tuple #[.int .i64 (a % b),.int .i64 0])∧w' = w:=by
 have hF:=mod_eq (a:=a) hb
 have h6:=Int.lt_tmod_of_pos a hb
 have h7:=Int.tmod_lt_of_pos a hb
 have e1:(b == 0) = false:=by simp;omega
 have e3:decide (b < 0) = false:=by simp;omega
 by_cases h:a.tmod b = 0
 ·rw [if_neg (by omega)] at hF
  rw [hF]
  have e4:(a.tmod b != 0) = false:=by simpa using h
  clear hF h h6 h7
  go_enter Tryz.func177,Tryz.ntmps177
  go_wp2_with fail
  refine bodyPost_ret (v:=.tuple #[.int .i64 (a.tmod b),.int .i64 0]) ?_ rfl ⟨rfl,rfl⟩
  simp [results,Tryz.f177,go_sem, *]
 ·have e4:(a.tmod b != 0) = true:=by simpa using h
  by_cases h2:a.tmod b < 0
  ·rw [if_pos ⟨h,h2⟩] at hF
   have hq:wrap64 (a.tmod b + b) = a.tmod b + b:=IntWalk.wrap64_in _ ⟨by omega,by omega⟩
   rw [hF]
   have e5:decide (a.tmod b < 0) = true:=decide_eq_true h2
   clear hF h h2 h6 h7
   go_enter Tryz.func177,Tryz.ntmps177
   go_wp2_with fail
   refine bodyPost_ret (v:=.tuple #[.int .i64 (a.tmod b + b),.int .i64 0]) ?_ rfl ⟨rfl,rfl⟩
   simp [results,Tryz.f177,go_sem, *]
  ·rw [if_neg (by omega)] at hF
   rw [hF]
   have e5:decide (a.tmod b < 0) = false:=decide_eq_false h2
   clear hF h h2 h6 h7
   go_enter Tryz.func177,Tryz.ntmps177
   go_wp2_with fail
   refine bodyPost_ret (v:=.tuple #[.int .i64 (a.tmod b),.int .i64 0]) ?_ rfl ⟨rfl,rfl⟩
   simp [results,Tryz.f177,go_sem, *]
theorem weekday_any (n:Int) (w:World) :
  Calls Tryz.prog 153 #[.int .i64 n] w fun e w'=>e = .returned (.int .i64 (weekV n))∧w' = w:=by
 have HD:=Lib.hid (mod_any n 7 (by omega) (by omega) w)
 have h1:0 ≤ n % 7:=by omega
 have h2:n % 7 < 7:=by omega
 have HV:=Lib.hid (show weekV n = (n % 7 + 4) % 7 from rfl)
 generalize n % 7 = q at *
 go_enter Tryz.func153,Tryz.ntmps153
 go_wp2_with fail
 refine HD.out.mono ?_
 rintro e w1 ⟨rfl,rfl⟩
 go_wp2_with fail
 go_ret
 exact ⟨by rw [HV.out];rfl,rfl⟩
theorem year_any (y:Int) (h1:-100001 ≤ y) (h2:y ≤ 100001) (w:World) :
  Calls Tryz.prog 86 #[.int .i64 y] w fun e w'=>e = .returned (.int .i64 (yearV y))∧w' = w:=by
 have H4:=Lib.hid (floor_any (y - 1) 4 (by omega) (by omega) (by omega) w)
 have H1:=Lib.hid (floor_any (y - 1) 100 (by omega) (by omega) (by omega) w)
 have H0:=Lib.hid (floor_any (y - 1) 400 (by omega) (by omega) (by omega) w)
 have HV:=Lib.hid (show yearV y = (y - 1) * 365 + (y - 1) / 4 - (y - 1) / 100 + (y - 1) / 400 - 719162 from rfl)
 have b4:-100002 ≤ (y - 1) / 4∧(y - 1) / 4 ≤ 100002:=by omega
 have b1:-100002 ≤ (y - 1) / 100∧(y - 1) / 100 ≤ 100002:=by omega
 have b0:-100002 ≤ (y - 1) / 400∧(y - 1) / 400 ≤ 100002:=by omega
 have b3:-100002 ≤ (y - 1)∧(y - 1) ≤ 100002:=by omega
 generalize (y - 1) / 4 = q4 at *
 generalize (y - 1) / 100 = q1 at *
 generalize (y - 1) / 400 = q0 at *
 go_enter Tryz.func86,Tryz.ntmps86
 go_wp2_with fail
 refine H4.out.mono ?_
 rintro e w1 ⟨rfl,rfl⟩
 go_wp2_with fail
 refine H1.out.mono ?_
 rintro e w1 ⟨rfl,rfl⟩
 go_wp2_with fail
 refine H0.out.mono ?_
 rintro e w1 ⟨rfl,rfl⟩
 go_wp2_with fail
 go_ret
 exact ⟨by rw [HV.out];rfl,rfl⟩
end
section -- Inv
open Go Go.RowKit
structure Fact where
 p:Value→World→Prop
 keep:∀ v w w',p v w→Below w.heap.size w w'→p v w'
def Fact.any:Fact:=⟨fun _ _=>True,fun _ _ _ _ _=>trivial⟩
def Fact.is (u:Value):Fact:=⟨fun v _=>v = u,fun _ _ _ h _=>h⟩
def upd (x:Nat→Value) (d:Nat) (v:Value):Nat→Value:=fun j=>if j = d then v else x j
theorem upd_same (x:Nat→Value) (d:Nat) (v:Value):upd x d v d = v:=by simp [upd]
theorem upd_other (x:Nat→Value) {d j:Nat} (v:Value) (h:j ≠ d):upd x d v j = x j:=by simp [upd,h]
def frameOf (a:Act) (D:List Nat) (x:Nat→Value):Act:=D.foldl (fun a d=>a.put (some d) (x d)) a
theorem frameOf_self (D:List Nat):∀ a:Act,frameOf a D (fun j=>a.tmps.getD j undef) = a:=by
 intro a
 have h:∀ d,a.put (some d) (a.tmps.getD d undef) = a:=fun d=>by
  have e:a.tmps.setIfInBounds d (a.tmps.getD d undef) = a.tmps:=by
   apply Array.ext_getElem?
   intro i
   rw [Array.getElem?_setIfInBounds]
   split
   ·rename_i hi
    subst hi
    split
    ·rename_i hl;simp [hl]
    ·rename_i hl;rw [Array.getElem?_eq_none (by omega)]
   ·rfl
  unfold Act.put
  simp only [e]
 unfold frameOf
 induction D with
 | nil=>rfl
 | cons d D ih=>rw [List.foldl_cons,h];exact ih
def unlisted (listed:Array Bool):List Nat:=(List.range listed.size).filter fun k=>!listed.getD k false
theorem getD_set' (listed:Array Bool) (i k:Nat) (d:Bool):(listed.setIfInBounds i true).getD k d = if i = k∧i < listed.size then true else listed.getD k d:=by
 simp only [Array.getD_eq_getD_getElem?,Array.getElem?_setIfInBounds]
 split
 ·rename_i h
  subst h
  split
  ·rename_i h;simp [h]
  ·rename_i h;rw [if_neg (fun hh=>h hh.2),Array.getElem?_eq_none (by omega)]
 ·rename_i h;rw [if_neg (fun hh=>h hh.1)]
theorem filter_less (l:List Nat) (p q:Nat→Bool) (hpq:∀ k,q k = true→p k = true) (i:Nat) (hi:i ∈ l) (h1:p i = true) (h2:q i = false):(l.filter q).length < (l.filter p).length:=by
 induction l with
 | nil=>cases hi
 | cons a l ih =>
   have hle:(l.filter q).length ≤ (l.filter p).length:=by
    clear ih hi
    induction l with
    | nil=>exact Nat.le_refl _
    | cons b l ih =>
      simp only [List.filter_cons]
      cases hq:q b with
      | true=>rw [hpq b hq];simpa using ih
      | false=>cases p b <;> simp <;> omega
   simp only [List.filter_cons]
   rcases List.mem_cons.1 hi with rfl | hi
   ·rw [h1,h2];simp;omega
   ·have:=ih hi
    cases hq:q a with
    | true=>rw [hpq a hq];simpa using this
    | false=>cases p a <;> simp <;> omega
theorem unlisted_set {listed:Array Bool} {i:Nat} (hi:i < listed.size) (h:listed.getD i false = false):(unlisted (listed.setIfInBounds i true)).length < (unlisted listed).length:=by
 unfold unlisted
 rw [Array.size_setIfInBounds]
 refine filter_less _ _ _ (fun k hk=>?_) i (List.mem_range.2 hi) (by rw [h];rfl) (by rw [getD_set',if_pos ⟨rfl,hi⟩];rfl)
 rw [getD_set'] at hk
 split at hk
 ·cases hk
 ·exact hk
section
variable {P:Program} {ops:Array Oper}
def Step (P:Program) (ops:Array Oper) (a:Act) (D:List Nat) (F:List Fact) (w0:World) (i:Nat) (o:Oper):Prop :=
 ∀ (x:Nat→Value) (w:World) (R:Act→World→Prop),Below w0.heap.size w0 w→(∀ j,(o.after.any fun e=>Region.binds .any e && e.on == j) = true→(F.getD j .any).p (x (D.getD j 0)) w) →
  (∀ v w',(F.getD i .any).p v w'→Below w.heap.size w w'→R (frameOf a D (upd x (D.getD i 0) v)) w')→wpList P ops (Exit.then R (fun _ _ _=>False)) [o] (frameOf a D x) w
def Steps (P:Program) (ops:Array Oper) (a:Act) (D:List Nat) (F:List Fact) (w0:World):Nat→List Oper→Prop
 | _,[]=>True
 | k,o :: l=>Step P ops a D F w0 k o∧Steps P ops a D F w0 (k + 1) l
theorem steps_at {a:Act} {D:List Nat} {F:List Fact} {w0:World}:∀ {l:List Oper} {k:Nat},Steps P ops a D F w0 k l→∀ {j:Nat} {o:Oper},l[j]? = some o→Step P ops a D F w0 (k + j) o
 | [],_,_,_,_,h=>by simp at h
 | x :: l,k,hs,0,o,h=>by
   simp only [List.getElem?_cons_zero,Option.some.injEq] at h
   subst h
   exact hs.1
 | x :: l,k,hs,j + 1,o,h=>by
   rw [List.getElem?_cons_succ] at h
   have:=steps_at hs.2 h
   rwa [show k + 1 + j = k + (j + 1) by omega] at this
def invB (ops:Array Oper) (D:List Nat):Bool :=
 (List.range ops.size).all (fun i=>match ops[i]? with | some o=>o.after.all fun e=>!Region.binds .any e || decide (e.on < i) | none=>true) && decide (D.length = ops.size) && decide (D.Nodup)
theorem wp_swapR {o:Oper} {K R R':Act→World→Prop} {a:Act} {w:World} (hh:o.wp P a w K (Exit.then R (fun _ _ _=>False))):o.wp P a w K (Exit.then R' (fun _ _ _=>False)):=by
 unfold Oper.wp at *
 generalize (execOp a.eval o).run P w = r at *
 cases r with
 | ok n w' =>
   cases n <;> simp only [Oper.upon] at hh ⊢ <;>
    first
     | exact hh
     | exact Calls.mono hh (fun e w'' he=>by
        cases e
        ·exact he
        ·exact False.elim he
        ·exact absurd he (fun ⟨_,_,h⟩=>h))
     | exact Rows.mono hh (fun _ _ he=>he)
 | halt x w'=>cases x <;> simp only [Oper.upon] at hh ⊢ <;> first | exact hh | exact False.elim hh
theorem wpOp_of_list {i:Nat} {o:Oper} (hi:ops[i]? = some o) {K:Act→World→Prop} {a:Act} {w:World} (R0:Act→World→Prop)
  (h:wpList P ops (Exit.then K (fun _ _ _=>False)) [o] a w):wpOp P ops (Exit.then R0 (fun _ _ _=>False)) i K a w:=by
 unfold wpOp
 rw [hi]
 unfold wpList at h
 dsimp only
 split at h
 ·rename_i hc
  rw [if_pos hc]
  rcases h with h | h
  ·exact .inl (wp_swapR h)
  ·exact absurd h.2 (fun ⟨_,_,h⟩=>h)
 ·rename_i hc
  rw [if_neg hc]
  exact h
theorem any_inv {a:Act} {D:List Nat} {F:List Fact} {w0:World} {l:List Oper} (ho:ops = l.toArray) (hb:invB ops D = true) (hstep:Steps P ops a D F w0 0 l) {R0:Act→World→Prop}
  (hend:∀ x w',Below w0.heap.size w0 w'→(∀ i,i < ops.size→(F.getD i .any).p (x (D.getD i 0)) w')→R0 (frameOf a D x) w') :
  ∀ (fuel:Nat) (listed:Array Bool),listed.size = ops.size→(unlisted listed).length ≤ fuel→∀ (x:Nat→Value) (w:World),Below w0.heap.size w0 w →
   (∀ i,listed.getD i false = true→(F.getD i .any).p (x (D.getD i 0)) w)→wpAny P .any ops (Exit.then R0 (fun _ _ _=>False)) fuel listed (frameOf a D x) w:=by
 simp only [invB,Bool.and_eq_true,decide_eq_true_eq,List.all_eq_true,List.mem_range] at hb
 obtain ⟨⟨hb,hlen⟩,hnd⟩:=hb
 have hnone:∀ (listed:Array Bool),listed.size = ops.size→Region.ready .any ops listed = []→∀ i,i < ops.size→listed.getD i false = true:=fun listed hsz hr i=>by
  induction i using Nat.strongRecOn with
  | _ i ih =>
    intro hi
    cases hl:listed.getD i true with
    | true =>
      have:i < listed.size:=by omega
      simpa [Array.getD,this] using hl
    | false =>
      exfalso
      have:i ∈ Region.ready .any ops listed:=mem_ready.2 ⟨hl,_,Array.getElem?_eq_getElem hi,fun e he hbd=>by
       have h1:=hb i hi
       rw [Array.getElem?_eq_getElem hi] at h1
       have h2:=Array.all_eq_true_iff_forall_mem.1 h1 e he
       simp only [hbd,Bool.not_true,Bool.false_or,decide_eq_true_eq] at h2
       exact ih e.on h2 (by omega)⟩
      rw [hr] at this
      cases this
 intro fuel
 induction fuel with
 | zero =>
   intro listed hsz hf x w hB hF
   have hall:∀ i,i < ops.size→listed.getD i false = true:=fun i hi=>by
    cases hl:listed.getD i false with
    | true=>rfl
    | false =>
      have:i ∈ unlisted listed:=by
       simp only [unlisted,List.mem_filter,List.mem_range]
       refine ⟨by omega,by rw [hl];rfl⟩
      rw [List.eq_nil_of_length_eq_zero (Nat.le_zero.1 hf)] at this
      cases this
   refine ⟨?_,hend x w hB fun i hi=>hF i (hall i hi)⟩
   rcases hr:Region.ready .any ops listed with _ | ⟨i,l'⟩
   ·rfl
   ·have hi:i ∈ Region.ready .any ops listed:=by rw [hr];exact List.mem_cons_self ..
    obtain ⟨h0,o,ho,_⟩:=mem_ready.1 hi
    have hi:=(Array.getElem?_eq_some_iff.1 ho).1
    have h1:=hall i hi
    have:i < listed.size:=by omega
    simp only [Array.getD,this,dif_pos] at h0 h1
    rw [h0] at h1
    cases h1
 | succ fuel ih =>
   intro listed hsz hf x w hB hF
   refine ⟨fun hr=>hend x w hB fun i hi=>hF i (hnone listed hsz hr i hi),fun i hi=>?_⟩
   obtain ⟨h0,o,hio,hall⟩:=mem_ready.1 hi
   have hin:=(Array.getElem?_eq_some_iff.1 hio).1
   have hl:l[i]? = some o:=by rw [ho] at hio;simpa using hio
   have hst:=steps_at hstep hl
   rw [Nat.zero_add] at hst
   refine wpOp_of_list hio _ (hst x w _ hB (fun j hj=>?_) fun v w' hv hw=>ih (listed.setIfInBounds i true) (by simpa using hsz) ?_ _ w' (hB.trans (hw.mono hB.size)) fun k hk=>?_)
   ·obtain ⟨e,he,hej⟩:=Array.any_eq_true'.1 hj
    simp only [Bool.and_eq_true,beq_iff_eq] at hej
    have:=hall e he hej.1
    rw [hej.2] at this
    exact hF j this
   ·have:=unlisted_set (listed:=listed) (i:=i) (by omega) (by
     have:i < listed.size:=by omega
     simpa [Array.getD,this] using h0)
    omega
   ·rw [getD_set'] at hk
    by_cases hik:i = k
    ·subst hik
     rw [upd_same]
     exact hv
    ·rw [if_neg (fun h=>hik h.1)] at hk
     have hks:k < listed.size:=by
      refine Nat.lt_of_not_le fun h=>?_
      simp [Array.getD,show ¬ k < listed.size by omega] at hk
     have hne:D.getD k 0 ≠ D.getD i 0:=by
      rw [List.getD_eq_getElem?_getD,List.getD_eq_getElem?_getD,List.getElem?_eq_getElem (show k < D.length by omega),List.getElem?_eq_getElem (show i < D.length by omega)]
      intro e
      simp only [Option.getD_some] at e
      have hp:=List.pairwise_iff_getElem.1 hnd
      rcases Nat.lt_or_ge k i with h | h
      ·exact hp k i (by omega) (by omega) h e
      ·exact hp i k (by omega) (by omega) (by omega) e.symm
     rw [upd_other x v hne]
     exact (F.getD k .any).keep _ _ _ (hF k hk) hw
theorem wp_inv {id:Nat} {l:List Oper} {Q:Exit→Act→World→Prop} {a:Act} {w:World} (hm:P.follows .mixedOrders = true) (D:List Nat) (F:List Fact) (hb:invB l.toArray D = true)
  (hstep:Steps P l.toArray a D F w 0 l)
  (hend:∀ x w',Below w.heap.size w w'→(∀ i,i < l.toArray.size→(F.getD i .any).p (x (D.getD i 0)) w')→Q .normal (frameOf a D x) w'):(Code.region id l.toArray true).wp P Q a w:=by
 have h:=any_inv (ops:=l.toArray) (R0:=fun b w'=>Q .normal b w') rfl hb hstep hend l.toArray.size (Array.replicate l.toArray.size false) (by simp) (by
  refine Nat.le_trans (List.length_filter_le _ _) ?_
  simp) (fun j=>a.tmps.getD j undef) w.drew ((Below.refl _ _).drew) (fun i hi=>by simp [Array.getD] at hi)
 rw [frameOf_self] at h
 refine wp_mono (wp_region_any (id:=id) hm h) fun e a w q=>?_
 cases e with
 | normal=>exact q
 | _=>exact q.elim
end
end
section -- InvIn
open Go Go.RowKit
section
variable {F:Fence} {n:Nat} {P:Program} {ops:Array Oper}
def more (L:Nat→Bool) (i:Nat):Nat→Bool:=fun j=>decide (j = i) || L j
def depB (ops:Array Oper) (i j:Nat):Bool:=match ops[i]? with | some o=>o.after.any fun e=>Region.binds .any e && e.on == j | none=>false
def ShutI (ops:Array Oper) (L:Nat→Bool):Prop:=∀ i j,depB ops i j = true→L i = true→L j = true
def StepI (F:Fence) (n:Nat) (P:Program) (ops:Array Oper) (a:Act) (D:List Nat) (Inv:(Nat→Bool)→(Nat→Value)→World→Prop) (i:Nat) (o:Oper):Prop :=
 ∀ (L:Nat→Bool) (x:Nat→Value) (w:World) (R:Act→World→Prop),Inv L x w→ShutI ops L→L i = false→(∀ j,(o.after.any fun e=>Region.binds .any e && e.on == j) = true→L j = true) →
  (∀ v w',Inv (more L i) (upd x (D.getD i 0) v) w'→R (frameOf a D (upd x (D.getD i 0) v)) w')→wpListIn F n P ops (Exit.then R (fun _ _ _=>False)) [o] (frameOf a D x) w
def StepsI (F:Fence) (n:Nat) (P:Program) (ops:Array Oper) (a:Act) (D:List Nat) (Inv:(Nat→Bool)→(Nat→Value)→World→Prop):Nat→List Oper→Prop
 | _,[]=>True
 | k,o :: l=>StepI F n P ops a D Inv k o∧StepsI F n P ops a D Inv (k + 1) l
theorem stepsI_at {a:Act} {D:List Nat} {Inv:(Nat→Bool)→(Nat→Value)→World→Prop}:∀ {l:List Oper} {k:Nat},StepsI F n P ops a D Inv k l→∀ {j:Nat} {o:Oper},l[j]? = some o→StepI F n P ops a D Inv (k + j) o
 | [],_,_,_,_,h=>by simp at h
 | x :: l,k,hs,0,o,h=>by
   simp only [List.getElem?_cons_zero,Option.some.injEq] at h
   subst h
   exact hs.1
 | x :: l,k,hs,j + 1,o,h=>by
   rw [List.getElem?_cons_succ] at h
   have:=stepsI_at hs.2 h
   rwa [show k + 1 + j = k + (j + 1) by omega] at this
theorem wpIn_swapR {o:Oper} {K R R':Act→World→Prop} {a:Act} {w:World} (hh:o.wpIn F n P a w K (Exit.then R (fun _ _ _=>False))):o.wpIn F n P a w K (Exit.then R' (fun _ _ _=>False)):=by
 unfold Oper.wpIn at *
 refine ⟨hh.1,?_⟩
 have hh:=hh.2
 generalize (o.semAt F.round a.eval).run P w = r at *
 cases r with
 | ok x w' =>
   cases x <;> simp only [Oper.uponIn] at hh ⊢ <;>
    first
     | exact hh
     | exact ⟨hh.1,CallsIn.mono hh.2 (fun e w'' he=>by
        cases e
        ·exact he
        ·exact False.elim he
        ·exact absurd he (fun ⟨_,_,h⟩=>h))⟩
     | exact ⟨hh.1,RowsIn.mono hh.2 (fun _ _ he=>he)⟩
     | exact ⟨hh.1,RoundIn.mono hh.2 (fun e w'' he=>by
        cases e
        ·exact he
        ·exact False.elim he
        ·exact absurd he (fun ⟨_,_,h⟩=>h))⟩
 | halt x w'=>cases x <;> simp only [Oper.uponIn] at hh ⊢ <;> first | exact hh | exact False.elim hh
theorem wpOpIn_of_list {i:Nat} {o:Oper} (hi:ops[i]? = some o) {K:Act→World→Prop} {a:Act} {w:World} (R0:Act→World→Prop)
  (h:wpListIn F n P ops (Exit.then K (fun _ _ _=>False)) [o] a w):wpOpIn F n P ops (Exit.then R0 (fun _ _ _=>False)) i K a w:=by
 unfold wpOpIn
 rw [hi]
 unfold wpListIn at h
 dsimp only
 split at h
 ·rename_i hc
  rw [if_pos hc]
  exact wpIn_swapR h
 ·rename_i hc
  rw [if_neg hc]
  exact h
def seen (listed:Array Bool):Nat→Bool:=fun i=>listed.getD i false
theorem seen_set {listed:Array Bool} {i:Nat} (hi:i < listed.size):seen (listed.setIfInBounds i true) = more (seen listed) i:=by
 funext k
 unfold seen more
 rw [getD_set']
 by_cases h:i = k
 ·subst h;rw [if_pos ⟨rfl,hi⟩];simp
 ·rw [if_neg (fun hh=>h hh.1)]
  have:decide (k = i) = false:=decide_eq_false (fun e=>h e.symm)
  rw [this];rfl
theorem anyIn_inv {a:Act} {D:List Nat} {Inv:(Nat→Bool)→(Nat→Value)→World→Prop} {l:List Oper} (ho:ops = l.toArray) (hb:invB ops D = true) (hstep:StepsI F n P ops a D Inv 0 l) {R0:Act→World→Prop}
  (hend:∀ x w' L,(∀ i,i < ops.size→L i = true)→Inv L x w'→R0 (frameOf a D x) w') :
  ∀ (fuel:Nat) (listed:Array Bool),listed.size = ops.size→(unlisted listed).length ≤ fuel→∀ (x:Nat→Value) (w:World),ShutI ops (seen listed)→Inv (seen listed) x w→wpAnyIn F n P .any ops (Exit.then R0 (fun _ _ _=>False)) fuel listed (frameOf a D x) w:=by
 simp only [invB,Bool.and_eq_true,decide_eq_true_eq,List.all_eq_true,List.mem_range] at hb
 obtain ⟨⟨hb,hlen⟩,hnd⟩:=hb
 have hnone:∀ (listed:Array Bool),listed.size = ops.size→Region.ready .any ops listed = []→∀ i,i < ops.size→listed.getD i false = true:=fun listed hsz hr i=>by
  induction i using Nat.strongRecOn with
  | _ i ih =>
    intro hi
    cases hl:listed.getD i true with
    | true =>
      have:i < listed.size:=by omega
      simpa [Array.getD,this] using hl
    | false =>
      exfalso
      have:i ∈ Region.ready .any ops listed:=mem_ready.2 ⟨hl,_,Array.getElem?_eq_getElem hi,fun e he hbd=>by
       have h1:=hb i hi
       rw [Array.getElem?_eq_getElem hi] at h1
       have h2:=Array.all_eq_true_iff_forall_mem.1 h1 e he
       simp only [hbd,Bool.not_true,Bool.false_or,decide_eq_true_eq] at h2
       exact ih e.on h2 (by omega)⟩
      rw [hr] at this
      cases this
 intro fuel
 induction fuel with
 | zero =>
   intro listed hsz hf x w hsh hI
   have hall:∀ i,i < ops.size→listed.getD i false = true:=fun i hi=>by
    cases hl:listed.getD i false with
    | true=>rfl
    | false =>
      have:i ∈ unlisted listed:=by
       simp only [unlisted,List.mem_filter,List.mem_range]
       refine ⟨by omega,by rw [hl];rfl⟩
      rw [List.eq_nil_of_length_eq_zero (Nat.le_zero.1 hf)] at this
      cases this
   refine ⟨?_,hend x w _ hall hI⟩
   rcases hr:Region.ready .any ops listed with _ | ⟨i,l'⟩
   ·rfl
   ·have hi:i ∈ Region.ready .any ops listed:=by rw [hr];exact List.mem_cons_self ..
    obtain ⟨h0,o,ho,_⟩:=mem_ready.1 hi
    have hi:=(Array.getElem?_eq_some_iff.1 ho).1
    have h1:=hall i hi
    have:i < listed.size:=by omega
    simp only [Array.getD,this,dif_pos] at h0 h1
    rw [h0] at h1
    cases h1
 | succ fuel ih =>
   intro listed hsz hf x w hsh hI
   refine ⟨fun hr=>hend x w _ (hnone listed hsz hr) hI,fun i hi=>?_⟩
   obtain ⟨h0,o,hio,hall⟩:=mem_ready.1 hi
   have hin:=(Array.getElem?_eq_some_iff.1 hio).1
   have hl:l[i]? = some o:=by rw [ho] at hio;simpa using hio
   have hst:=stepsI_at hstep hl
   rw [Nat.zero_add] at hst
   have hli:seen listed i = false:=by
    have:i < listed.size:=by omega
    unfold seen
    simpa [Array.getD,this] using h0
   have hsh2:ShutI ops (more (seen listed) i):=by
    intro i' j hd hm
    unfold more at hm ⊢
    by_cases hi':i' = i
    ·subst hi'
     unfold depB at hd
     rw [hio] at hd
     obtain ⟨e,he,hej⟩:=Array.any_eq_true'.1 hd
     simp only [Bool.and_eq_true,beq_iff_eq] at hej
     have:=hall e he hej.1
     rw [hej.2] at this
     have h3:seen listed j = true:=this
     rw [h3];simp
    ·rw [decide_eq_false hi'] at hm
     rw [hsh i' j hd (by simpa using hm)]
     simp
   refine wpOpIn_of_list hio _ (hst (seen listed) x w _ hI hsh hli (fun j hj=>?_) fun v w' hv=>ih (listed.setIfInBounds i true) (by simpa using hsz) ?_ _ w' (by rw [seen_set (by omega)];exact hsh2) (by rw [seen_set (by omega)];exact hv))
   ·obtain ⟨e,he,hej⟩:=Array.any_eq_true'.1 hj
    simp only [Bool.and_eq_true,beq_iff_eq] at hej
    have:=hall e he hej.1
    rw [hej.2] at this
    exact this
   ·have:=unlisted_set (listed:=listed) (i:=i) (by omega) hli
    omega
theorem wpIn_inv {id:Nat} {l:List Oper} {Q:Exit→Act→World→Prop} {a:Act} {w:World} (hm:P.follows .mixedOrders = true) (D:List Nat) (Inv:(Nat→Bool)→(Nat→Value)→World→Prop) (hb:invB l.toArray D = true)
  (h0:∀ x,Inv (fun _=>false) x w.drew) (hstep:StepsI F n P l.toArray a D Inv 0 l)
  (hend:∀ x w' L,(∀ i,i < l.toArray.size→L i = true)→Inv L x w'→Q .normal (frameOf a D x) w'):(Code.region id l.toArray true).wpIn F n P Q a w:=by
 have hs:seen (Array.replicate l.toArray.size false) = fun _=>false:=by
  funext i
  unfold seen
  simp [Array.getD]
 have h:=anyIn_inv (F:=F) (n:=n) (P:=P) (ops:=l.toArray) (R0:=fun b w'=>Q .normal b w') rfl hb hstep hend l.toArray.size (Array.replicate l.toArray.size false) (by simp) (by
  refine Nat.le_trans (List.length_filter_le _ _) ?_
  simp) (fun j=>a.tmps.getD j undef) w.drew (by rw [hs];exact fun i j _ h=>by cases h) (by rw [hs];exact h0 _)
 rw [frameOf_self] at h
 refine wpIn_mono (wpIn_region_any (id:=id) hm h) fun e a w q=>?_
 cases e with
 | normal=>exact q
 | _=>exact q.elim
def StepF (F:Fence) (n:Nat) (P:Program) (ops:Array Oper) (a:Act) (D:List Nat) (Fs:List Fact) (w0:World) (i:Nat) (o:Oper):Prop :=
 ∀ (x:Nat→Value) (w:World) (R:Act→World→Prop),Below w0.heap.size w0 w→(∀ j,(o.after.any fun e=>Region.binds .any e && e.on == j) = true→(Fs.getD j .any).p (x (D.getD j 0)) w) →
  (∀ v w',(Fs.getD i .any).p v w'→Below w.heap.size w w'→R (frameOf a D (upd x (D.getD i 0) v)) w')→wpListIn F n P ops (Exit.then R (fun _ _ _=>False)) [o] (frameOf a D x) w
def StepsF (F:Fence) (n:Nat) (P:Program) (ops:Array Oper) (a:Act) (D:List Nat) (Fs:List Fact) (w0:World):Nat→List Oper→Prop
 | _,[]=>True
 | k,o :: l=>StepF F n P ops a D Fs w0 k o∧StepsF F n P ops a D Fs w0 (k + 1) l
def InvF (D:List Nat) (Fs:List Fact) (w0:World) (m:Nat) (L:Nat→Bool) (x:Nat→Value) (w:World):Prop:=Below w0.heap.size w0 w∧∀ i,i < m→L i = true→(Fs.getD i .any).p (x (D.getD i 0)) w
theorem stepsI_of_F {a:Act} {D:List Nat} {Fs:List Fact} {w0:World} {m:Nat} (hl:D.length = m) (hnd:D.Nodup) (hon:∀ (i:Nat) o,ops[i]? = some o→∀ e ∈ o.after,Region.binds .any e = true→e.on < m):∀ (l:List Oper) (k:Nat),(∀ j,l[j]? = ops[k + j]?)→StepsF F n P ops a D Fs w0 k l→k + l.length ≤ m→StepsI F n P ops a D (InvF D Fs w0 m) k l
 | [],_,_,_,_=>trivial
 | o :: l,k,hk,hs,hm=>by
   rw [List.length_cons] at hm
   refine ⟨?_,stepsI_of_F hl hnd hon l (k + 1) (fun j=>by have:=hk (j + 1);simpa [Nat.add_assoc,Nat.add_comm 1 j] using this) hs.2 (by omega)⟩
   intro L x w R hI _ hL hr hR
   have ho:ops[k]? = some o:=by simpa using (hk 0).symm
   refine hs.1 x w R hI.1 (fun j hj=>hI.2 j ?_ (hr j hj)) fun v w' hv hw=>hR v w' ⟨hI.1.trans (hw.mono hI.1.size),fun i hi hLi=>?_⟩
   ·obtain ⟨e,he,hej⟩:=Array.any_eq_true'.1 hj
    simp only [Bool.and_eq_true,beq_iff_eq] at hej
    have:=hon k o ho e he hej.1
    omega
   ·by_cases hik:i = k
    ·subst hik;rw [upd_same];exact hv
    ·have hne:D.getD i 0 ≠ D.getD k 0:=by
      rw [List.getD_eq_getElem?_getD,List.getD_eq_getElem?_getD,List.getElem?_eq_getElem (show i < D.length by omega),List.getElem?_eq_getElem (show k < D.length by omega)]
      intro e
      simp only [Option.getD_some] at e
      have hp:=List.pairwise_iff_getElem.1 hnd
      rcases Nat.lt_or_ge i k with h | h
      ·exact hp i k (by omega) (by omega) h e
      ·exact hp k i (by omega) (by omega) (by omega) e.symm
     rw [upd_other x v hne]
     have:L i = true:=by
      unfold more at hLi
      rw [decide_eq_false hik] at hLi
      simpa using hLi
     exact (Fs.getD i .any).keep _ _ _ (hI.2 i hi this) hw
theorem wpIn_facts {id:Nat} {l:List Oper} {Q:Exit→Act→World→Prop} {a:Act} {w:World} (hm:P.follows .mixedOrders = true) (D:List Nat) (Fs:List Fact) (hb:invB l.toArray D = true)
  (hstep:StepsF F n P l.toArray a D Fs w 0 l)
  (hend:∀ x w',Below w.heap.size w w'→(∀ i,i < l.toArray.size→(Fs.getD i .any).p (x (D.getD i 0)) w')→Q .normal (frameOf a D x) w'):(Code.region id l.toArray true).wpIn F n P Q a w:=by
 have hb':=hb
 simp only [invB,Bool.and_eq_true,decide_eq_true_eq,List.all_eq_true,List.mem_range] at hb'
 obtain ⟨⟨hb1,hlen⟩,hnd⟩:=hb'
 refine wpIn_inv hm D (InvF D Fs w l.toArray.size) hb (fun x=>⟨(Below.refl _ _).drew,fun i _ h=>by cases h⟩) (stepsI_of_F hlen hnd (fun i o ho e he hbd=>?_) l 0 (fun j=>by simp) hstep (by simp)) fun x w' L hL hI=>hend x w' hI.1 fun i hi=>hI.2 i hi (hL i hi)
 have hi:=(Array.getElem?_eq_some_iff.1 ho).1
 have h1:=hb1 i hi
 rw [ho] at h1
 have h2:=Array.all_eq_true_iff_forall_mem.1 h1 e he
 simp only [hbd,Bool.not_true,Bool.false_or,decide_eq_true_eq] at h2
 omega
end
end
section -- Serial
open Go
section calm
variable {α β:Type} {P:Program}
end calm
end
section -- SerialB
open Go
section
variable {P:Program}
/-! ### The order of a region -/
variable {ops:Array Oper}
end
end
section -- SerialC
open Go
section
variable {P:Program} {ops:Array Oper}
/-! ### Two loads, in either order -/
/-! ### The look at a region's rows -/
/-! ### From the text's order to every order -/
end
end
section -- Frm
open Go Go.RowKit
structure Fr (T:Nat→Prop) (W W':World):Prop where
 os:W'.os = W.os
 tape:W'.tape = W.tape
 output:W'.output = W.output
 size:W.heap.size ≤ W'.heap.size
 block:∀ k,k < W.heap.size→¬ T k→W'.heap[k]? = W.heap[k]?
section
variable {T T':Nat→Prop} {W W' W2:World}
theorem Fr.refl (T:Nat→Prop) (W:World):Fr T W W:=⟨rfl,rfl,rfl,Nat.le_refl _,fun _ _ _=>rfl⟩
theorem Fr.trans (h:Fr T W W') (k:Fr T' W' W2) (ht:∀ k,T' k→T k∨W.heap.size ≤ k):Fr T W W2 :=
 ⟨k.os.trans h.os,k.tape.trans h.tape,k.output.trans h.output,Nat.le_trans h.size k.size,fun j hj hn =>
   (k.block j (Nat.lt_of_lt_of_le hj h.size) (fun e=>by rcases ht j e with e | e;exact hn e;omega)).trans (h.block j hj hn)⟩
theorem Fr.then (h:Fr T W W') (k:Fr T W' W2):Fr T W W2:=h.trans k fun _ h=>.inl h
theorem Fr.mono (h:Fr T W W') (ht:∀ k,T k→T' k∨W.heap.size ≤ k):Fr T' W W':=⟨h.os,h.tape,h.output,h.size,fun k hk hn=>h.block k hk fun e=>by rcases ht k e with e | e;exact hn e;omega⟩
theorem Fr.of_below {B:Nat} (h:Below B W W') (hB:W.heap.size ≤ B):Fr T W W':=⟨h.os,h.tape,h.output,h.size,fun k hk _=>h.block k (Nat.lt_of_lt_of_le hk hB)⟩
theorem Fr.below {B:Nat} (h:Fr T W W') (hB:B ≤ W.heap.size) (ht:∀ k,k < B→¬ T k):Below B W W':=⟨h.os,h.tape,h.output,h.size,fun k hk=>h.block k (Nat.lt_of_lt_of_le hk hB) (ht k hk)⟩
theorem Fr.drew (W:World):Fr T W W.drew:=.of_below ((Below.refl W.heap.size W).drew) (Nat.le_refl _)
theorem Fr.setCell (W:World) {b:Nat} (i:Nat) (v:Value) (h:T b):Fr T W (W.setCell ⟨b,i,none⟩ v) :=
 ⟨rfl,rfl,rfl,by simp,fun k _ hn=>Below.heap_setCell W ⟨b,i,none⟩ v k (fun e=>hn (by subst e;exact h))⟩
theorem Fr.putObj (W:World) {l:Nat} (o:Obj) (h:T l):Fr T W (W.putObj l o) :=
 ⟨rfl,rfl,rfl,by simp [World.putObj],fun k _ hn=>World.putObj_heap_other (fun e=>hn (by subst e;exact h))⟩
theorem Fr.cell (h:Fr T W W') {p:Addr} (hp:p.block < W.heap.size) (hn:¬ T p.block):W'.cell? p = W.cell? p:=World.cell?_of_block (h.block p.block hp hn)
theorem Fr.at_ (h:Fr T W W') {k:Nat} {o:Obj} (hk:W.heap[k]? = some o) (hn:¬ T k):W'.heap[k]? = some o:=(h.block k (Array.getElem?_eq_some_iff.1 hk).1 hn).trans hk
theorem Fr.own {base:Nat} {e:TypeId} {sz n:Nat} {v:Value} {xs:List Value} (h:Fr T W W') (ho:W.ownsRow base e sz v n xs) (hn:∀ g,v.ownBlock = some g→¬ T g):W'.ownsRow base e sz v n xs:=by
 refine ⟨ho.1,?_⟩
 rcases ho.2 with hnil | ⟨g,cap,cur,rfl,hb,hg,rest⟩
 ·exact .inl hnil
 ·exact .inr ⟨g,cap,cur,rfl,hb,h.at_ hg (hn g rfl),rest⟩
end
def Bd (O:Nat→Prop) (W:World):Prop:=∀ k,O k→k < W.heap.size
theorem Bd.fr {O T:Nat→Prop} {W W':World} (h:Bd O W) (hf:Fr T W W'):Bd O W':=fun k hk=>Nat.lt_of_lt_of_le (h k hk) hf.size
def Feet {β:Type} (J:β→(Nat→Prop)→World→Prop):Prop:=∀ s O W W',J s O W→Fr (fun k=>¬ O k) W W'→J s O W'
section
variable {F:Fence} {n:Nat} {P:Program}
def RoundsIn {α:Type} (F:Fence) (m:Nat) (P:Program) (l:Nat) (encs:α→Array Value) (R:List α→α→(Nat→Prop)→World→Prop) (J Jx:List α→(Nat→Prop)→World→Prop):Prop :=
 ∀ pre x D O W,J pre O W→Bd O W→Bd D W→(∀ k,D k→¬ O k)→R pre x D W→YieldAt F m P l (encs x) W fun e W' =>
  ∃ O',(∀ k,O' k→O k∨D k∨W.heap.size ≤ k)∧Bd O' W'∧Fr (fun k=>O k∨D k) W W'∧((e = .returned (.bool true)∧J (pre ++ [x]) O' W')∨(e = .returned (.bool false)∧Jx (pre ++ [x]) O' W'))
def IterEnd {α:Type} (S Sp:List α→Prop) (J Jx:List α→(Nat→Prop)→World→Prop) (O M:Nat→Prop) (W:World) (e:Ending) (W':World):Prop :=
 (∃ v,e = .returned v)∧∃ O',(∀ k,O' k→O k∨W.heap.size ≤ k)∧Bd O' W'∧Fr (fun k=>O k∨M k) W W'∧((∃ xs,S xs∧J xs O' W')∨(∃ pre,Sp pre∧Jx pre O' W'))
def Iter {α:Type} (F:Fence) (n:Nat) (P:Program) (g:Nat) (lb:Array Value) (encs:α→Array Value) (R:List α→α→(Nat→Prop)→World→Prop) (S Sp:List α→Prop) (K M:Nat→Prop) (W:World):Prop :=
 ∀ (l:Nat) (J Jx:List α→(Nat→Prop)→World→Prop),Feet J→Feet Jx→RoundsIn F (n - 1) P l encs R J Jx →
  ∀ O,J [] O W→Bd O W→(∀ k,K k→¬ O k) →
  CallsIn F n P g (#[.func (.yield l) #[] #[]] ++ lb) W (IterEnd S Sp J Jx O M W)
def leftO {α:Type} (I:List α→(Nat→Prop)→World→Prop) (Ix:Code→List α→(Nat→Prop)→World→Prop) (xs:List α) (O D:Nat→Prop) (W:World) (e:Exit) (_:Act) (W':World):Prop :=
 ∃ O',(∀ k,O' k→O k∨D k∨W.heap.size ≤ k)∧Bd O' W'∧Fr (fun k=>O k∨D k) W W' ∧
  match e with
  | .normal=>I xs O' W'
  | .ret=>Ix .ret xs O' W'
  | .exit id=>Ix (.exit id) xs O' W'
  | .goto t=>Ix (.goto t) xs O' W'
  | .panic _=>False
  | .outgrown=>False
theorem range_own {α:Type} {g:Operand} {ps:Array Tmp} {assign body:Code} {Q:Exit→Act→World→Prop} {a:Act} {w:World}
  (hro:F.round = none) (h1:1 ≤ n) {gf:Nat} {lb:Array Value} (hg:a.eval g = .func (.func gf) #[] lb) (hFg:F.fn gf) (eg:∀ args w,(callFunc gf args).run P w = .ok (.enter gf args) w)
  {encs:α→Array Value} {R:List α→α→(Nat→Prop)→World→Prop} {S Sp:List α→Prop} {K M:Nat→Prop}
  (hseq:∀ W,Below w.heap.size w W→Iter F (n - 1) P gf lb encs R S Sp K M W) (hps:∀ x,(encs x).size = ps.size)
  (I:List α→(Nat→Prop)→World→Prop) (Ix:Code→List α→(Nat→Prop)→World→Prop) (hI:Feet I) (hIx:∀ c,Feet (Ix c)) (O0:Nat→Prop) (h0:I [] O0 w) (hO0:Bd O0 w) (hM:Bd K w) (hMO:∀ k,K k→¬ O0 k)
  (hround:∀ (l:Nat) (pre:List α) (x:α) (O D:Nat→Prop) (W:World),I pre O W→Bd O W→Bd D W→(∀ k,D k→¬ O k)→R pre x D W→¬ O l→¬ D l→w.heap.size < l→l < W.heap.size →
    assign.wpIn (F.inRound l) (n - 1 - 1) P (Exit.then (fun a' Wa=>Below W.heap.size W Wa∧∀ Wb,Fr (fun k=>k = l) Wa Wb→I pre O Wb→(∃ r,Wb.heap[l]? = some (.loop r))→body.wpIn (F.inRound l) (n - 1 - 1) P (leftO I Ix (pre ++ [x]) O D Wb) a' Wb) (fun _ _ _=>False))
     { tmps:=(ps.zip (encs x)).foldl (fun t (p,v)=>t.setIfInBounds p v) a.tmps,defers:=[] } W)
  (hdone:∀ (B:Nat) (xs:List α) (O:Nat→Prop) (W:World),w.heap.size ≤ B→S xs→I xs O W→(∀ k,O k→O0 k∨w.heap.size ≤ k)→Bd O W→¬ O B→Fr (fun k=>O0 k∨M k) w W→W.heap[B]? = some (.deferred (some []))→Q .normal { a with defers:={ target:=.collected B,args:=#[] } :: a.defers } W)
  (hstop:∀ (B:Nat) (c:Code) (pre:List α) (O:Nat→Prop) (W:World),w.heap.size ≤ B→Sp pre→Ix c pre O W→(∀ k,O k→O0 k∨w.heap.size ≤ k)→Bd O W→¬ O B→Fr (fun k=>O0 k∨M k) w W→W.heap[B]? = some (.deferred (some []))→c.wpIn F n P Q { a with defers:={ target:=.collected B,args:=#[] } :: a.defers } W) :
  (Code.rangeFunc g ps assign body).wpIn F n P Q a w:=by
 refine wpIn_rangeFunc fun fn hfn=>?_
 rw [hro]
 generalize hT:w.heap.size = T at *
 generalize hrec:(fun (st:LoopState) (pe:Option Code)=>({ state:=st,pending:=pe,fn:=fn,tmps:=a.tmps,params:=ps,assign:=assign,body:=body,defers:=T }:Loop)) = rec
 have er:∀ st pe,({ state:=st,pending:=pe,fn:=fn,tmps:=a.tmps,params:=ps,assign:=assign,body:=body,defers:=T }:Loop) = rec st pe:=fun st pe=>by rw [← hrec]
 have rs:∀ st pe,(rec st pe).state = st:=fun st pe=>by rw [← hrec]
 have rp:∀ st pe,(rec st pe).params = ps:=fun st pe=>by rw [← hrec]
 have rb:∀ st pe,({ rec st pe with state:=.busy }:Loop) = rec .busy pe:=fun st pe=>by rw [← hrec]
 generalize hW1:(w.alloc (.deferred (some []))).alloc (.loop (rec .ready none)) = W1
 have hs1:W1.heap.size = T + 2:=by rw [← hW1];simp [hT]
 have hl1:W1.heap[T + 1]? = some (.loop (rec .ready none)):=by
  have:=World.alloc_heap_new (w.alloc (.deferred (some []))) (.loop (rec .ready none))
  rw [World.size_alloc,hT] at this
  rw [← hW1]
  exact this
 have hd1:W1.heap[T]? = some (.deferred (some [])):=by
  have h:=World.alloc_heap_new w (.deferred (some []))
  rw [hT] at h
  rw [← hW1]
  exact (Below.heap_alloc _ _ _ (by simp [hT])).trans h
 have hb1:Below T w W1:=by
  rw [← hW1]
  exact ((Below.refl _ w).alloc (by omega) _).alloc (by simp;omega) _
 have hf1:∀ X,Fr X w W1:=fun X=>Fr.of_below hb1 (by omega)
 have en:=run_enterLoop_outer (P:=P) (w:=w) fn a.tmps ps assign body
 rw [hT,er .ready none,hW1] at en
 refine ⟨T + 1,[{ target:=.collected T,args:=#[] }],W1,{ target:=.fn (.func gf) lb,args:=#[.func (.yield (T + 1)) #[] #[]] },W1,gf,#[.func (.yield (T + 1)) #[] #[]] ++ lb,W1,en,?_,?_,?_,fun _=>h1,?_⟩
 ·simp only [resolve,hg]
  simp [go_sem]
 ·intro f' hf'
  simp [Target.leads] at hf'
  rw [← hf']
  exact hFg
 ·simp [invoke,go_sem,eg]
 have bO0:∀ k,O0 k→k < T:=fun k hk=>by have:=hO0 k hk;omega
 have bM:∀ k,K k→k < T:=fun k hk=>by have:=hM k hk;omega
 refine (hseq W1 hb1 (T + 1)
  (fun pre O W=>I pre (fun k=>O k∧k ≠ T∧k ≠ T + 1) W∧O T∧O (T + 1)∧T + 2 ≤ W.heap.size∧W.heap[T + 1]? = some (.loop (rec .ready none))∧W.heap[T]? = some (.deferred (some [])))
  (fun pre O W=>(∃ c,Ix c pre (fun k=>O k∧k ≠ T∧k ≠ T + 1) W∧W.heap[T + 1]? = some (.loop (rec .done (some c))))∧O T∧O (T + 1)∧T + 2 ≤ W.heap.size∧W.heap[T]? = some (.deferred (some []))) ?feetJ ?feetX ?round
  (fun k=>O0 k∨k = T∨k = T + 1) ⟨?i0,.inr (.inl rfl),.inr (.inr rfl),by omega,hl1,hd1⟩ ?bd (fun k hm h=>by have:=bM k hm;rcases h with h | h | h;exact hMO k hm h;omega;omega)).mono ?behind
 case feetJ =>
  rintro s O W W' ⟨hi,hT0,hT1,hs,hl,hd⟩ hf
  refine ⟨hI _ _ _ _ hi (hf.mono fun k hk=>.inl fun h=>hk h.1),hT0,hT1,Nat.le_trans hs hf.size,hf.at_ hl (by simpa using hT1),hf.at_ hd (by simpa using hT0)⟩
 case feetX =>
  rintro s O W W' ⟨⟨c,hi,hl⟩,hT0,hT1,hs,hd⟩ hf
  refine ⟨⟨c,hIx c _ _ _ _ hi (hf.mono fun k hk=>.inl fun h=>hk h.1),hf.at_ hl (by simpa using hT1)⟩,hT0,hT1,Nat.le_trans hs hf.size,hf.at_ hd (by simpa using hT0)⟩
 case i0 =>
  have e:(fun k=>(O0 k∨k = T∨k = T + 1)∧k ≠ T∧k ≠ T + 1) = O0:=by
   funext k
   apply propext
   constructor
   ·rintro ⟨h | h | h,h1,h2⟩
    ·exact h
    ·exact absurd h h1
    ·exact absurd h h2
   ·intro h
    have:=bO0 k h
    exact ⟨.inl h,by omega,by omega⟩
  rw [e]
  exact hI _ _ _ _ h0 (hf1 _)
 case bd =>
  intro k hk
  rcases hk with hk | hk | hk
  ·have:=bO0 k hk;omega
  ·omega
  ·omega
 case round =>
  rintro pre x D O V ⟨hi,hT0,hT1,hsz,hlV,hkV⟩ hBO hBD hDO hR
  have hltV:T + 1 < V.heap.size:=(Array.getElem?_eq_some_iff.1 hlV).1
  have hy:=run_yield (P:=P) (args:=encs x) hlV (by rw [rp];exact hps x)
  have hDT:¬ D T:=fun h=>hDO T h hT0
  have hDT1:¬ D (T + 1):=fun h=>hDO (T + 1) h hT1
  have e1:(rec .ready none).fn = fn∧(rec .ready none).tmps = a.tmps∧(rec .ready none).assign = assign∧(rec .ready none).body = body:=by rw [← hrec];exact ⟨rfl,rfl,rfl,rfl⟩
  rw [e1.1,e1.2.1,e1.2.2.1,e1.2.2.2,rp] at hy
  refine ⟨fn,_,assign,body,hy,roundIn_of_wpIn hfn (wpIn_mono (hround (T + 1) pre x _ D V hi (fun k hk=>hBO k hk.1) hBD (fun k hk h=>hDO k hk h.1) hR (fun h=>h.2.2 rfl) hDT1 (by omega) hltV) ?_)⟩
  rintro e a' Va hVa
  cases e with
  | normal=>?_
  | ret=>exact hVa.elim
  | exit id=>exact hVa.elim
  | goto t=>exact hVa.elim
  | panic ch=>exact hVa.elim
  | outgrown=>exact hVa.elim
  obtain ⟨hbV,hbody⟩:=hVa
  have hl:=(hbV.block (T + 1) hltV).trans hlV
  have hk:=(hbV.block T (by omega)).trans hkV
  have hlt:T + 1 < Va.heap.size:=Nat.lt_of_lt_of_le hltV hbV.size
  have hbr:=run_beginRound (P:=P) hl (rs _ _)
  rw [rb] at hbr
  refine ⟨_,hbr,?_⟩
  generalize hB:Va.putObj (T + 1) (.loop (rec .busy none)) = Bz at hbr
  have hlB:Bz.heap[T + 1]? = some (.loop (rec .busy none)):=by rw [← hB];exact World.putObj_heap_same hlt
  have hkB:Bz.heap[T]? = some (.deferred (some [])):=by rw [← hB];exact (World.putObj_heap_other (by omega)).trans hk
  have hAB:∀ X:Nat→Prop,X (T + 1)→Fr X Va Bz:=fun X hX=>by rw [← hB];exact Fr.putObj _ _ hX
  have hVB:∀ X:Nat→Prop,X (T + 1)→Fr X V Bz:=fun X hX=>(Fr.of_below hbV (Nat.le_refl _)).then (hAB X hX)
  have hsB:V.heap.size ≤ Bz.heap.size:=(hVB (fun _=>True) trivial).size
  have hiB:I pre (fun k=>O k∧k ≠ T∧k ≠ T + 1) Bz:=hI _ _ _ _ hi (hVB _ (fun h=>h.2.2 rfl))
  refine wpIn_mono (hbody Bz (hAB _ rfl) hiB ⟨_,hlB⟩) ?_
  rintro e a3 W3 ⟨O3,hx3,hb3,hf3,hp⟩
  have hl3:W3.heap[T + 1]? = some (.loop (rec .busy none)):=hf3.at_ hlB (fun h=>by rcases h with h | h;exact h.2.2 rfl;exact hDT1 h)
  have hk3:W3.heap[T]? = some (.deferred (some [])):=hf3.at_ hkB (fun h=>by rcases h with h | h;exact h.2.1 rfl;exact hDT h)
  have n3:∀ k,O3 k→k ≠ T∧k ≠ T + 1:=fun k hk=>by
   rcases hx3 k hk with h | h | h
   ·exact ⟨h.2.1,h.2.2⟩
   ·exact ⟨fun e=>hDT (e ▸ h),fun e=>hDT1 (e ▸ h)⟩
   ·constructor <;> omega
  have eO:(fun k=>(O3 k∨k = T∨k = T + 1)∧k ≠ T∧k ≠ T + 1) = O3:=by
   funext k
   apply propext
   constructor
   ·rintro ⟨h | h | h,h1,h2⟩
    ·exact h
    ·exact absurd h h1
    ·exact absurd h h2
   ·intro h
    exact ⟨.inl h,n3 k h⟩
  have hxO:∀ k,(O3 k∨k = T∨k = T + 1)→O k∨D k∨V.heap.size ≤ k:=fun k hk=>by
   rcases hk with hk | rfl | rfl
   ·rcases hx3 k hk with h | h | h
    ·exact .inl h.1
    ·exact .inr (.inl h)
    ·exact .inr (.inr (by omega))
   ·exact .inl hT0
   ·exact .inl hT1
  have hs3:=hf3.size
  have fin:∀ (jump:Option Code),∃ W4,(Instr.endRound (T + 1) jump).run P W3 = .ok (.bool jump.isNone) W4∧W4.heap[T + 1]? = some (.loop (rec (if jump.isNone then .ready else .done) jump))∧W4.heap[T]? = some (.deferred (some []))∧T + 2 ≤ W4.heap.size∧(∀ X:Nat→Prop,X (T + 1)→Fr X W3 W4):=fun jump=>by
   have hr:=run_endRound (P:=P) jump hl3
   have hh:({ rec .busy none with state:=(if jump.isNone then LoopState.ready else .done),pending:=jump }:Loop) = rec (if jump.isNone then .ready else .done) jump:=by rw [← hrec]
   rw [hh] at hr
   exact ⟨_,hr,World.putObj_heap_same (Array.getElem?_eq_some_iff.1 hl3).1,(World.putObj_heap_other (by omega)).trans hk3,by simp [World.putObj];omega,fun X hX=>Fr.putObj _ _ hX⟩
  have hfV:∀ W4,(∀ X:Nat→Prop,X (T + 1)→Fr X W3 W4)→Fr (fun k=>O k∨D k) V W4:=fun W4 h4 =>
   ((hVB (fun k=>O k∨D k) (.inl hT1)).trans hf3 (fun k hk=>by rcases hk with hk | hk;exact .inl (.inl hk.1);exact .inl (.inr hk))).then (h4 _ (.inl hT1))
  have hbd:∀ W4,(∀ X:Nat→Prop,X (T + 1)→Fr X W3 W4)→Bd (fun k=>O3 k∨k = T∨k = T + 1) W4:=fun W4 h4 k hk=>by
   have h5:=(h4 (fun _=>True) trivial).size
   rcases hk with hk | hk | hk
   ·have:=hb3 k hk;omega
   ·omega
   ·omega
  have n5:∀ k,¬ ¬ O3 k→k ≠ T + 1:=fun k h=>(n3 k (Classical.not_not.1 h)).2
  have keep:∀ W4,(∀ X:Nat→Prop,X (T + 1)→Fr X W3 W4)→Fr (fun k=>¬ O3 k) W3 W4:=fun W4 h4=>h4 _ (fun h=>(n3 _ h).2 rfl)
  cases e with
  | normal =>
    obtain ⟨W4,hr,hl4,hk4,hs4,h4⟩:=fin none
    exact ⟨_,_,hr,_,hxO,hbd _ h4,hfV _ h4,.inl ⟨rfl,by rw [eO];exact hI _ _ _ _ hp (keep _ h4),.inr (.inl rfl),.inr (.inr rfl),hs4,hl4,hk4⟩⟩
  | ret =>
    obtain ⟨W4,hr,hl4,hk4,hs4,h4⟩:=fin (some .ret)
    exact ⟨_,_,hr,_,hxO,hbd _ h4,hfV _ h4,.inr ⟨rfl,⟨_,by rw [eO];exact hIx _ _ _ _ _ hp (keep _ h4),hl4⟩,.inr (.inl rfl),.inr (.inr rfl),hs4,hk4⟩⟩
  | exit id =>
    obtain ⟨W4,hr,hl4,hk4,hs4,h4⟩:=fin (some (.exit id))
    exact ⟨_,_,hr,_,hxO,hbd _ h4,hfV _ h4,.inr ⟨rfl,⟨_,by rw [eO];exact hIx _ _ _ _ _ hp (keep _ h4),hl4⟩,.inr (.inl rfl),.inr (.inr rfl),hs4,hk4⟩⟩
  | goto t =>
    obtain ⟨W4,hr,hl4,hk4,hs4,h4⟩:=fin (some (.goto t))
    exact ⟨_,_,hr,_,hxO,hbd _ h4,hfV _ h4,.inr ⟨rfl,⟨_,by rw [eO];exact hIx _ _ _ _ _ hp (keep _ h4),hl4⟩,.inr (.inl rfl),.inr (.inr rfl),hs4,hk4⟩⟩
  | panic ch=>exact hp.elim
  | outgrown=>exact hp.elim
 case behind =>
  rintro e W2 ⟨⟨v,rfl⟩,O2,hx2,hb2,hf2,h⟩
  have hfw:∀ W4,(∀ X:Nat→Prop,X (T + 1)→Fr X W2 W4)→Fr (fun k=>O0 k∨M k) w W4:=fun W4 h4 =>
   ((hf1 (fun k=>O0 k∨M k)).trans hf2 (fun k hk=>by
     rcases hk with (hk | hk | hk) | hk
     ·exact .inl (.inl hk)
     ·exact .inr (by omega)
     ·exact .inr (by omega)
     ·exact .inl (.inr hk))).trans (h4 (fun k=>k = T + 1) rfl) (fun k hk=>.inr (by omega))
  have hx:∀ k,(O2 k∧k ≠ T∧k ≠ T + 1)→O0 k∨T ≤ k:=fun k hk=>by
   rcases hx2 k hk.1 with (h | h | h) | h
   ·exact .inl h
   ·exact .inr (by omega)
   ·exact .inr (by omega)
   ·exact .inr (by omega)
  have hput:∀ (o:Obj),∀ X:Nat→Prop,X (T + 1)→Fr X W2 (W2.putObj (T + 1) o):=fun o X hX=>Fr.putObj _ _ hX
  rcases h with ⟨xs,hS,hi,hT0,hT1,hsz,hl,hk⟩ | ⟨pre,hSp,⟨c,hi,hl⟩,hT0,hT1,hsz,hk⟩
  ·have hr:=run_endLoop (P:=P) hl (by rw [rs];simp)
   have hpe:(rec .ready none).pending = none:=by rw [← hrec]
   rw [hpe] at hr
   exact ⟨none,_,hr,hdone _ xs _ _ (Nat.le_refl _) hS (hI _ _ _ _ hi (hput _ _ (fun h=>h.2.2 rfl))) hx (fun k hk=>by have:=hb2 k hk.1;simpa [World.putObj] using this) (fun h=>h.2.1 rfl) (hfw _ (hput _)) ((World.putObj_heap_other (by omega)).trans hk)⟩
  ·have hr:=run_endLoop (P:=P) hl (by rw [rs];simp)
   have hpe:(rec .done (some c)).pending = some c:=by rw [← hrec]
   rw [hpe] at hr
   exact ⟨some c,_,hr,hstop _ c pre _ _ (Nat.le_refl _) hSp (hIx c _ _ _ _ hi (hput _ _ (fun h=>h.2.2 rfl))) hx (fun k hk=>by have:=hb2 k hk.1;simpa [World.putObj] using this) (fun h=>h.2.1 rfl) (hfw _ (hput _)) ((World.putObj_heap_other (by omega)).trans hk)⟩
end
section
variable {P:Program} {F:Fence} {n:Nat} {b:Frame} {a:Act} {k:List Item} {cs:List Frame} {w:World} {Q:Exit→Act→World→Prop}
theorem stepR_scope {c:Code}:step P (lone (b.atR a (.code (.scope c) :: k)) cs w) = .next (lone (b.atR a (.code c :: .inScope c :: k)) cs w) :=
 step_lone_go (by simp [stepG,stepG.exec,Frame.atR])
theorem stepR_inScope {c:Code}:step P (lone (b.atR a (.inScope c :: k)) cs w) = .next (lone (b.atR a k) cs w) :=
 step_lone_go (by simp [stepG,stepG.exec,Frame.atR])
theorem wpIn_scope {c:Code} (h:c.wpIn F n P (Exit.noGoto Q) a w):(Code.scope c).wpIn F n P Q a w:=by
 intro b k cs hro hb hr
 have h0:(lone (b.atR a (.code (.scope c) :: k)) cs w).fenced P F:=fenced_calm hb hr rfl
 obtain ⟨e,a₁,w₁,hq,harr⟩:=h b (.inScope c :: k) cs hro hb hr
 cases e with
 | normal=>exact ⟨.normal,a₁,w₁,hq,.head h0 stepR_scope (StepsIn.trans harr (.one (fenced_calm hb hr rfl) stepR_inScope))⟩
 | exit id =>
   have hx:exitTo id (.inScope c :: k) = exitTo id k:=by simp [exitTo]
   exact ⟨.exit id,a₁,w₁,hq,fun k' hk=>.head h0 stepR_scope (harr.1 k' (by rw [hx];exact hk)),
    fun hr' hk=>let ⟨k₁,h1,h2⟩:=harr.2 hr' (by rw [hx];exact hk);⟨k₁,h1,.head h0 stepR_scope h2⟩⟩
 | goto l=>exact hq.elim
 | ret=>exact ⟨_,a₁,w₁,hq,.of_steps (.one h0 stepR_scope) harr⟩
 | panic ch=>exact ⟨_,a₁,w₁,hq,.of_steps (.one h0 stepR_scope) harr⟩
 | outgrown=>exact ⟨_,a₁,w₁,hq,.of_steps (.one h0 stepR_scope) harr⟩
end
theorem fin_below {w W:World} {D B:Nat} (h:Below B w W) (hD:B ≤ D):Below B w (W.putObj D (.deferred none)) :=
 ⟨h.os,h.tape,h.output,by have:=h.size;simpa [World.putObj] using this,fun k hk=>(World.putObj_heap_other (by omega)).trans (h.block k hk)⟩
end
section -- TextIn
open Go Go.RowKit
section
variable {P:Program} {n:Nat} {ops:Array Oper}
def Wide (F:Fence):Prop:=F = Fence.wide∨∃ l,F = Fence.wide.inRound l
theorem wide0:Wide Fence.wide:=.inl rfl
theorem wide1 (l:Nat):Wide (Fence.wide.inRound l):=.inr ⟨l,rfl⟩
theorem Wide.fn {F:Fence} (h:Wide F) (f:FuncId):F.fn f:=by rcases h with rfl | ⟨l,rfl⟩ <;> trivial
theorem Wide.depth {F:Fence} (h:Wide F):F.depth = none:=by rcases h with rfl | ⟨l,rfl⟩ <;> rfl
theorem Wide.calls {F:Fence} (h:Wide F) {f:FuncId} {args:Array Value} {w:World} {R:Ending→World→Prop} (hc:Calls P f args w R):CallsIn F n P f args w R:=by
 rcases h with rfl | ⟨l,rfl⟩
 ·exact callsIn_wide.2 hc
 ·exact (callsIn_wide.2 hc).inRound l
end
end
section -- Env
open Go Go.RowKit
def valOf (D:List Nat) (V:List Value) (s:Nat):Value:=V.getD (D.idxOf s) undef
theorem frameOf_tmps (D:List Nat) (x:Nat→Value):∀ (a:Act) (s:Nat),(frameOf a D x).tmps[s]? = if s ∈ D∧s < a.tmps.size then some (x s) else a.tmps[s]?:=by
 unfold frameOf
 induction D with
 | nil=>intro a s;simp
 | cons d D ih =>
   intro a s
   rw [List.foldl_cons,ih]
   simp only [Act.put,Array.size_setIfInBounds,Array.getElem?_setIfInBounds,List.mem_cons]
   by_cases h1:s ∈ D
   ·by_cases h2:s < a.tmps.size
    ·simp [h1,h2]
    ·have h4:a.tmps[s]? = none:=Array.getElem?_eq_none (by omega)
     by_cases h3:d = s <;> simp [h1,h2,h3]
   ·by_cases h2:s = d
    ·subst h2
     by_cases h3:s < a.tmps.size <;> simp [h1,h3]
    ·have h3:¬ d = s:=fun e=>h2 e.symm
     simp [h1,h2,h3]
theorem frameOf_defers (D:List Nat) (x:Nat→Value):∀ a:Act,(frameOf a D x).defers = a.defers:=by
 unfold frameOf
 induction D with
 | nil=>intro a;rfl
 | cons d D ih=>intro a;rw [List.foldl_cons,ih];rfl
theorem frameOf_put (D:List Nat) (x:Nat→Value) (a:Act) (d:Nat) (hd:d ∈ D) (v:Value):(frameOf a D x).put (some d) v = frameOf a D (upd x d v):=by
 have h1:((frameOf a D x).put (some d) v).tmps = (frameOf a D (upd x d v)).tmps:=by
  apply Array.ext_getElem?
  intro s
  have hsz:(frameOf a D x).tmps.size = a.tmps.size:=by
   unfold frameOf
   clear hd
   induction D generalizing a with
   | nil=>rfl
   | cons d D ih=>rw [List.foldl_cons,ih];simp [Act.put]
  simp only [Act.put,Array.getElem?_setIfInBounds,frameOf_tmps,hsz]
  by_cases h:d = s
  ·subst h
   rw [upd_same]
   by_cases h2:d < a.tmps.size <;> simp [h2,hd]
  ·rw [if_neg h,upd_other x v (fun e=>h e.symm)]
 have h2:((frameOf a D x).put (some d) v).defers = (frameOf a D (upd x d v)).defers:=by
  rw [frameOf_defers]
  exact frameOf_defers D x a
 generalize (frameOf a D x).put (some d) v = p at h1 h2
 generalize frameOf a D (upd x d v) = q at h1 h2
 cases p
 cases q
 simp only at h1 h2
 subst h1 h2
 rfl
theorem frameOf_congr (D:List Nat) (x y:Nat→Value) (a:Act) (h:∀ s ∈ D,x s = y s):frameOf a D x = frameOf a D y:=by
 unfold frameOf
 induction D generalizing a with
 | nil=>rfl
 | cons d D ih =>
   rw [List.foldl_cons,List.foldl_cons,h d (by simp)]
   exact ih _ fun s hs=>h s (by simp [hs])
def putAll:Act→List Nat→List Value→Act
 | a,d :: D,v :: V=>putAll (a.put (some d) v) D V
 | a,_,_=>a
theorem putAll_eq:∀ (D:List Nat) (V:List Value) (a:Act) (x:Nat→Value),V.length = D.length→(∀ i,i < D.length→x (D.getD i 0) = V.getD i undef)→frameOf a D x = putAll a D V
 | [],[],a,x,_,_=>rfl
 | [],_ :: _,_,_,h,_=>by cases h
 | _ :: _,[],_,_,h,_=>by cases h
 | d :: D,v :: V,a,x,hl,h=>by
   have h0:x d = v:=h 0 (by simp)
   show frameOf (a.put (some d) (x d)) D x = putAll (a.put (some d) v) D V
   rw [h0]
   exact putAll_eq D V _ x (by simpa using hl) fun i hi=>by have:=h (i + 1) (by simpa using hi);simpa using this
section
variable {P:Program} {n:Nat} {ops:Array Oper}
def envB (ops:Array Oper) (D:List Nat):Bool :=
 invB ops D && (List.range ops.size).all fun i=>match ops[i]? with
  | some o=>(match o.op with | .defer ..=>false | .select ..=>false | _=>true) && (o.dst == some (D.getD i 0)) &&
    (o.looksAt ops).all fun s=>!D.contains s || (List.range i).any fun j=>D.getD j 0 == s && o.after.any fun e=>Region.binds .any e && e.on == j
  | none=>true
def envRes (P:Program) (v:Value) (w:World):Result Next→Prop
 | .ok (.value u) w'=>u = v∧Below w.heap.size w w'
 | .ok (.enter f args) w'=>w' = w∧Calls P f args w fun e w''=>e = .returned v∧Below w.heap.size w w''
 | _=>False
def EnvStep (P:Program) (ops:Array Oper) (fin:Act) (w0:World) (o:Oper) (v:Value):Prop :=
 (Region.wanted o (yielded ops fin.tmps) = false∧v = undef)∨(Region.wanted o (yielded ops fin.tmps) = true∧∀ w,Below w0.heap.size w0 w→envRes P v w ((execOp fin.eval o).run P w))
def EnvSteps (P:Program) (ops:Array Oper) (fin:Act) (w0:World):List Oper→List Value→Prop
 | o :: l,v :: V=>EnvStep P ops fin w0 o v∧EnvSteps P ops fin w0 l V
 | [],[]=>True
 | _,_=>False
theorem envSteps_at {fin:Act} {w0:World}:∀ {l:List Oper} {V:List Value},EnvSteps P ops fin w0 l V→∀ {j:Nat} {o:Oper},l[j]? = some o→EnvStep P ops fin w0 o (V.getD j undef)
 | [],_,_,_,_,h=>by simp at h
 | _ :: _,[],hs,_,_,_=>hs.elim
 | x :: l,v :: V,hs,0,o,h=>by
   simp only [List.getElem?_cons_zero,Option.some.injEq] at h
   subst h
   exact hs.1
 | x :: l,v :: V,hs,j + 1,o,h=>by
   rw [List.getElem?_cons_succ] at h
   simpa using envSteps_at hs.2 h
theorem envSteps_len {fin:Act} {w0:World}:∀ {l:List Oper} {V:List Value},EnvSteps P ops fin w0 l V→V.length = l.length
 | [],[],_=>rfl
 | [],_ :: _,h=>h.elim
 | _ :: _,[],h=>h.elim
 | _ :: l,_ :: V,h=>by simp [envSteps_len h.2]
theorem idxOf_getD {D:List Nat} (hnd:D.Nodup) {i:Nat} (hi:i < D.length):D.idxOf (D.getD i 0) = i:=by
 rw [List.getD_eq_getElem?_getD,List.getElem?_eq_getElem hi,Option.getD_some]
 exact List.Nodup.idxOf_getElem hnd i hi
theorem stepsF_of {F:Fence} (hF:Wide F) {a fin:Act} {D:List Nat} {V:List Value} {w0:World} (hb:envB ops D = true) (hV:V.length = D.length) (hfin:frameOf a D (valOf D V) = fin) :
  ∀ (l:List Oper) (k:Nat),(∀ j,l[j]? = ops[k + j]?)→(∀ j o,l[j]? = some o→EnvStep P ops fin w0 o (V.getD (k + j) undef))→StepsF F n P ops a D (V.map Fact.is) w0 k l
 | [],_,_,_=>trivial
 | o :: l,k,hk,hs=>by
   refine ⟨?_,stepsF_of hF hb hV hfin l (k + 1) (fun j=>by have:=hk (j + 1);simpa [Nat.add_assoc,Nat.add_comm 1 j] using this) fun j o' h=>by have:=hs (j + 1) o' (by simpa using h);simpa [Nat.add_assoc,Nat.add_comm 1 j] using this⟩
   have ho:ops[k]? = some o:=by simpa using (hk 0).symm
   have hkl:=(Array.getElem?_eq_some_iff.1 ho).1
   have hst:EnvStep P ops fin w0 o (V.getD k undef):=hs 0 o rfl
   unfold envB at hb
   rw [Bool.and_eq_true] at hb
   obtain ⟨hi,hb⟩:=hb
   simp only [invB,Bool.and_eq_true,decide_eq_true_eq] at hi
   obtain ⟨⟨-,hlen⟩,hnd⟩:=hi
   have hb:=List.all_eq_true.1 hb k (List.mem_range.2 hkl)
   rw [ho] at hb
   simp only [Bool.and_eq_true] at hb
   obtain ⟨⟨hop,hdst⟩,hlook⟩:=hb
   have hndf:∀ c,o.op ≠ .defer c:=fun c hc=>by rw [hc] at hop;cases hop
   have hnsl:∀ cs b,o.op ≠ .select cs b:=fun c b hc=>by rw [hc] at hop;cases hop
   intro x w R hB hf hR
   -- the slots that it looks at
   have hsame:∀ s,s ∈ o.looksAt ops→(frameOf a D x).tmps[s]? = fin.tmps[s]?:=by
    intro s hs
    rw [← hfin,frameOf_tmps,frameOf_tmps]
    by_cases hD:s ∈ D
    ·have:=List.all_eq_true.1 hlook s hs
     rw [Bool.or_eq_true] at this
     rcases this with h | h
     ·simp [hD] at h
     ·obtain ⟨j,hj,hj2⟩:=List.any_eq_true.1 h
      rw [Bool.and_eq_true] at hj2
      obtain ⟨hjs,hje⟩:=hj2
      have hjs:D.getD j 0 = s:=by simpa using hjs
      have hjk:=List.mem_range.1 hj
      have h1:=hf j hje
      have hjl:j < D.length:=by omega
      rw [hjs] at h1
      have h2:x s = valOf D V s:=by
       have e:D.idxOf s = j:=by rw [← hjs];exact idxOf_getD hnd hjl
       unfold valOf
       rw [e]
       rw [List.getD_eq_getElem?_getD,List.getElem?_map,List.getElem?_eq_getElem (show j < V.length by omega)] at h1
       rw [List.getD_eq_getElem?_getD,List.getElem?_eq_getElem (show j < V.length by omega)]
       exact h1
      rw [h2]
    ·simp [hD]
   have hev:∀ y ∈ o.op.operands,(frameOf a D x).eval y = fin.eval y:=by
    intro y hy
    cases y with
    | tmp s =>
      have h1:=hsame s (List.mem_append_left _ (List.mem_filterMap.2 ⟨.tmp s,by simpa using hy,rfl⟩))
      show (frameOf a D x).tmps.getD s undef = fin.tmps.getD s undef
      simp only [Array.getD_eq_getD_getElem?,h1]
    | _=>rfl
   have hex:=execOp_congr (ρ:=(frameOf a D x).eval) (ρ':=fin.eval) o hnsl hev
   have hwa:Region.wanted o (yielded ops (frameOf a D x).tmps) = Region.wanted o (yielded ops fin.tmps):=by
    unfold Region.wanted
    cases hg:o.guard with
    | none=>rfl
    | some g =>
      obtain ⟨g,b⟩:=g
      dsimp only
      unfold yielded
      cases hd:(ops[g]?).bind (·.dst) with
      | none=>rfl
      | some d =>
        have h1:=hsame d (List.mem_append_right _ (by rw [hg];simp [hd]))
        simp only [Option.bind_some,h1]
   have hdst:o.dst = some (D.getD k 0):=by simpa using hdst
   have hkD:k < D.length:=by omega
   have hmem:D.getD k 0 ∈ D:=by rw [List.getD_eq_getElem?_getD,List.getElem?_eq_getElem hkD];exact List.getElem_mem hkD
   have hput:∀ v,(frameOf a D x).put o.dst v = frameOf a D (upd x (D.getD k 0) v):=fun v=>by rw [hdst];exact frameOf_put D x a _ hmem v
   have hfk:∀ w',((V.map Fact.is).getD k .any).p (V.getD k undef) w':=by
    intro w'
    rw [List.getD_eq_getElem?_getD,List.getD_eq_getElem?_getD,List.getElem?_map,List.getElem?_eq_getElem (show k < V.length by omega)]
    rfl
   unfold wpListIn
   rw [hwa]
   rcases hst with ⟨h1,h2⟩ | ⟨h1,h2⟩
   ·rw [if_neg (by rw [h1];simp)]
    refine ⟨fun f _=>hF.fn f,?_⟩
    rw [hput]
    exact hR _ _ (h2 ▸ hfk w) (Below.refl _ _)
   ·rw [if_pos h1]
    refine ⟨fun f _=>hF.fn f,?_⟩
    rw [Oper.semAt_plain F _ o hndf,hex]
    have h3:=h2 w hB
    generalize (execOp fin.eval o).run P w = r at h3
    cases r with
    | halt hh w'=>exact h3.elim
    | ok nx w' =>
      cases nx with
      | value u =>
        obtain ⟨rfl,hbw⟩:=h3
        rw [Oper.uponIn_value,hput]
        exact hR _ _ (hfk w') hbw
      | enter f args =>
        obtain ⟨rfl,hc⟩:=h3
        rw [Oper.uponIn_enter]
        refine ⟨(fun h=>by rw [hF.depth] at h;cases h),(hF.calls hc).mono ?_⟩
        rintro e w'' ⟨rfl,hbw⟩
        show wpListIn F n P ops _ [] ((frameOf a D x).put o.dst (V.getD k undef)) w''
        rw [hput]
        exact hR _ _ (hfk w'') hbw
      | _=>exact h3.elim
theorem wpIn_env {F:Fence} (hF:Wide F) {id:Nat} {l:List Oper} {Q:Exit→Act→World→Prop} {a:Act} {w:World} (hm:P.follows .mixedOrders = true) (D:List Nat) (V:List Value) (hb:envB l.toArray D = true) {fin:Act} (hfin:putAll a D V = fin)
  (hstep:EnvSteps P l.toArray fin w l V) (hend:∀ w',Below w.heap.size w w'→Q .normal fin w'):(Code.region id l.toArray true).wpIn F n P Q a w:=by
 have hb':=hb
 unfold envB at hb'
 rw [Bool.and_eq_true] at hb'
 obtain ⟨hi,-⟩:=hb'
 have hi':=hi
 simp only [invB,Bool.and_eq_true,decide_eq_true_eq] at hi'
 obtain ⟨⟨-,hlen⟩,hnd⟩:=hi'
 have hV:V.length = D.length:=by rw [envSteps_len hstep,hlen];simp
 have hfin:frameOf a D (valOf D V) = fin:=by
  rw [← hfin]
  exact putAll_eq D V a _ hV fun i hi=>by unfold valOf;rw [idxOf_getD hnd hi]
 refine wpIn_facts hm D (V.map Fact.is) hi (stepsF_of hF hb hV hfin l 0 (fun j=>by simp) fun j o h=>by rw [Nat.zero_add];exact envSteps_at hstep h) fun x w' hbw hx=>?_
 have e:frameOf a D x = fin:=by
  rw [← hfin]
  refine frameOf_congr D _ _ a fun s hs=>?_
  obtain ⟨j,hj,rfl⟩:=List.getElem_of_mem hs
  have h1:=hx j (by omega)
  rw [List.getD_eq_getElem?_getD,List.getElem?_map,List.getElem?_eq_getElem (show j < V.length by omega),List.getD_eq_getElem?_getD,List.getElem?_eq_getElem hj] at h1
  have h1:x D[j] = V[j]'(by omega):=h1
  unfold valOf
  rw [List.Nodup.idxOf_getElem hnd j hj,List.getD_eq_getElem?_getD,List.getElem?_eq_getElem (show j < V.length by omega),Option.getD_some]
  exact h1
 rw [e]
 exact hend w' hbw
theorem wp_env {id:Nat} {l:List Oper} {Q:Exit→Act→World→Prop} {a:Act} {w:World} (hm:P.follows .mixedOrders = true) (D:List Nat) (V:List Value) (hb:envB l.toArray D = true) {fin:Act} (hfin:putAll a D V = fin)
  (hstep:EnvSteps P l.toArray fin w l V) (hend:∀ w',Below w.heap.size w w'→Q .normal fin w'):(Code.region id l.toArray true).wp P Q a w :=
 (wpIn_wide (n:=8)).1 (wpIn_env wide0 hm D V hb hfin hstep hend)
end
end
section -- NBase
open Go Go.RowKit
theorem below_drewN {B:Nat} {w w':World} (h:Below B w w') (m:Nat):Below B w (w'.drewN m):=⟨h.os,h.tape,h.output,h.size,h.block⟩
def Blk (W:World) (b:Nat) (t:TypeId) (cs:Array Value):Prop:=W.heap[b]? = some (.cells cs t (0,0))
section
variable {W W':World} {b:Nat} {t:TypeId} {cs:Array Value}
theorem Blk.lt (h:Blk W b t cs):b < W.heap.size:=(Array.getElem?_eq_some_iff.1 h).1
theorem Blk.cell (h:Blk W b t cs) (i:Nat) {v:Value} (hi:cs[i]? = some v):W.cell? ⟨b,i,none⟩ = some v:=by
 unfold World.cell?
 rw [show W.heap[b]? = _ from h]
 exact hi
theorem Blk.frozen (h:Blk W b t cs) (i:Nat):W.frozen? ⟨b,i,none⟩ = false:=by simp [World.frozen?,show W.heap[b]? = _ from h]
theorem Blk.set (h:Blk W b t cs) (i:Nat) (v:Value):Blk (W.setCell ⟨b,i,none⟩ v) b t (cs.setIfInBounds i v):=heap_setCell_same W b i cs t v h
theorem Blk.new (W:World) (t:TypeId) (cs:Array Value):Blk (W.alloc (.cells cs t)) W.heap.size t cs:=World.alloc_heap_new W _
theorem Blk.fr {T:Nat→Prop} (h:Blk W b t cs) (hf:Fr T W W') (hn:¬ T b):Blk W' b t cs:=hf.at_ h hn
theorem Blk.below {B:Nat} (h:Blk W b t cs) (hb:Below B W W') (hB:b < B):Blk W' b t cs:=(hb.block b hB).trans h
theorem Blk.alloc (h:Blk W b t cs) (o:Obj):Blk (W.alloc o) b t cs:=h.below ((Below.refl W.heap.size W).alloc (Nat.le_refl _) o) h.lt
theorem Blk.other (h:Blk W b t cs) {b':Nat} (hne:b ≠ b') (i:Nat) (v:Value):Blk (W.setCell ⟨b',i,none⟩ v) b t cs:=h.fr (Fr.setCell (T:=fun k=>k = b') W i v rfl) hne
theorem Blk.grown {row:Option Nat} (h:Blk W b t cs) (hg:W.grownBy W' row) (hn:row ≠ some b):Blk W' b t cs:=(hg.block b h.lt (fun e=>hn e.symm)).trans h
theorem Blk.drewN (h:Blk W b t cs) (n:Nat):Blk (W.drewN n) b t cs:=h
end
theorem below_set3 {B:Nat} {w W:World} (h:Below B w W) {b:Nat} (hb:B ≤ b) (u v x:Value):Below B w (((W.setCell ⟨b,0,none⟩ u).setCell ⟨b,1,none⟩ v).setCell ⟨b,2,none⟩ x):=((h.setCell hb _).setCell hb _).setCell hb _
theorem below_set4 {B:Nat} {w W:World} (h:Below B w W) {b:Nat} (hb:B ≤ b) (u v x y:Value):Below B w ((((W.setCell ⟨b,0,none⟩ u).setCell ⟨b,1,none⟩ v).setCell ⟨b,2,none⟩ x).setCell ⟨b,3,none⟩ y):=(below_set3 h hb _ _ _).setCell hb _
theorem blks2 (w:World) (c1 c2:Array Value) (t1 t2:TypeId) (W:World) (h:(w.alloc (.cells c1 t1)).alloc (.cells c2 t2) = W):Blk W w.heap.size t1 c1∧Blk W (w.heap.size + 1) t2 c2∧Below w.heap.size w W∧W.heap.size = w.heap.size + 2:=by
 subst h
 have b2:=Blk.new (w.alloc (.cells c1 t1)) t2 c2
 simp only [World.size_alloc] at b2
 exact ⟨(Blk.new w t1 c1).alloc _,b2,((Below.refl _ _).alloc (Nat.le_refl _) _).alloc (by simp) _,by simp⟩
theorem below_push {w W W':World} {e:TypeId} {sz n:Nat} {u:Value} {xs:List Value} {o:Obj} (hb:Below w.heap.size w W) (ho:W.ownsRow w.heap.size e sz u n xs) (hg:(W.alloc o).grownBy W' u.ownBlock):Below w.heap.size w W' :=
 (hb.alloc hb.size o).trans ⟨hg.os,hg.tape,hg.output,by have:=hg.size;have:=hb.size;simp only [World.size_alloc] at *;omega,fun k hk=>hg.block k (by have:=hb.size;simp only [World.size_alloc];omega) (fun e=>by have:=(ho.lt _ e.symm).1;omega)⟩
theorem fr_set3 {T:Nat→Prop} (W:World) {b:Nat} (h:T b) (u v x:Value):Fr T W (((W.setCell ⟨b,0,none⟩ u).setCell ⟨b,1,none⟩ v).setCell ⟨b,2,none⟩ x):=((Fr.setCell _ 0 _ h).then (Fr.setCell _ 1 _ h)).then (Fr.setCell _ 2 _ h)
theorem blk_behind {W w1:World} {t:TypeId} {cs:Array Value} (h:Below (W.alloc (.cells cs t)).heap.size (W.alloc (.cells cs t)) w1):Blk w1 W.heap.size t cs:=(Blk.new W t cs).below h (by simp)
end
section -- CivilB
open Go Go.RowKit Go.Shelf
def Ahead (w:World):Prop:=∀ k,k < 13→w.cell? ⟨0,k,none⟩ = some (.int .i64 (aheadV k))
theorem Ahead.below {B:Nat} {w w':World} (h:Ahead w) (hb:Below B w w') (hB:w.heap.size ≤ B):Ahead w':=fun k hk =>
 (hb.cell (Nat.lt_of_lt_of_le (World.block_lt_of_cell? w _ (h k hk)) hB)).trans (h k hk)
theorem aheadV_at (m:Int) (h1:1 ≤ m) (h2:m ≤ 12):∃ k:Nat,m = (k:Int) + 1∧k < 12:=⟨(m - 1).toNat,by omega,by omega⟩
theorem start_any (y m:Int) (h1:1 ≤ m) (h2:m ≤ 12) (w:World) (ha:Ahead w) :
  Calls Tryz.prog 88 #[.int .i64 y,.int .i64 m] w fun e w'=>e = .returned (.int .i64 (startV y m))∧w' = w:=by
 obtain ⟨k,rfl,hk⟩:=aheadV_at m h1 h2
 have c:=ha k (by omega)
 have HL:=Lib.hid (leaps_any y w)
 have hl:=leapsV_in y
 have hv:=aheadV_in k
 have HV:=Lib.hid (show startV y (k + 1) = aheadV k + if 2 < (k:Int) + 1 then leapsV y else 0 by unfold startV;rw [show ((k:Int) + 1 - 1).toNat = k by omega])
 have e1:(k:Int) + 1 - 1 = k:=by omega
 generalize aheadV k = a at *
 generalize leapsV y = q at *
 clear ha h1 h2
 by_cases h:2 < (k:Int) + 1
 ·rw [if_pos h] at HV
  go_enter Tryz.func88,Tryz.ntmps88
  go_wp2_with fail
  refine HL.out.mono ?_
  rintro e w1 ⟨rfl,rfl⟩
  go_wp2_with fail
  go_ret
  exact ⟨by rw [HV.out];rfl,rfl⟩
 ·rw [if_neg h,Int.add_zero] at HV
  go_enter Tryz.func88,Tryz.ntmps88
  go_wp2_with fail
  go_ret
  exact ⟨by rw [HV.out];rfl,rfl⟩
theorem long_any (y m:Int) (w:World) (ha:Ahead w) :
  Calls Tryz.prog 91 #[.int .i64 y,.int .i64 m] w fun e w'=>e = .returned (.tuple #[.int .i64 (longV y m).1,.int .i64 (longV y m).2])∧∃ n,w' = w.drewN n:=by
 by_cases h:ymB y m = true
 ·have hE:longV y m = (lenV y m,0):=by unfold longV;rw [if_pos h]
  rw [hE]
  unfold ymB at h
  rw [decide_eq_true_eq] at h
  obtain ⟨h1,h2,h3,h4⟩:=h
  obtain ⟨k,rfl,hk⟩:=aheadV_at m h3 h4
  have c:=ha k (by omega)
  have d:=ha (k + 1) (by omega)
  have HL:=Lib.hid (fun W=>leaps_any y W)
  have hl:=leapsV_in y
  have hv:=aheadV_in k
  have hu:=aheadV_in (k + 1)
  have HV:=Lib.hid (show lenV y (k + 1) = aheadV (k + 1) - aheadV k + if (k:Int) + 1 = 2 then leapsV y else 0 by unfold lenV;rw [show ((k:Int) + 1 - 1).toNat = k by omega,show ((k:Int) + 1).toNat = k + 1 by omega])
  have e1:(k:Int) + 1 - 1 = k:=by omega
  clear hE
  generalize aheadV k = a at *
  generalize aheadV (k + 1) = b at *
  generalize leapsV y = q at *
  clear ha h3 h4
  by_cases h:(k:Int) + 1 = 2
  ·rw [if_pos h] at HV
   obtain rfl:k = 1:=by omega
   go_enter Tryz.func91,Tryz.ntmps91
   go_wp2_with fail
   go_quiet (fail)
   go_wp2_with fail
   refine (HL.out _).mono ?_
   rintro e w1 ⟨rfl,rfl⟩
   go_wp2_with fail
   refine bodyPost_ret (v:=.tuple #[.int .i64 (b - a + q),.int .i64 0]) ?_ rfl ⟨by rw [HV.out],_,rfl⟩
   simp [results,Tryz.f91,go_sem]
  ·rw [if_neg h,Int.add_zero] at HV
   have hk1:((k:Int) + 1 == 2) = false:=by simpa using h
   go_enter Tryz.func91,Tryz.ntmps91
   go_wp2_with fail
   go_quiet (fail)
   go_wp2_with fail
   refine bodyPost_ret (v:=.tuple #[.int .i64 (b - a),.int .i64 0]) ?_ rfl ⟨by rw [HV.out],_,rfl⟩
   simp [results,Tryz.f91,go_sem]
 ·have hE:longV y m = (0,10):=by unfold longV;rw [if_neg h]
  rw [hE]
  have HE:∀ c:Array Value,c = #[.int .i64 0,.int .i64 10]→c = #[.int .i64 (0,(10:Int)).1,.int .i64 ((0:Int),(10:Int)).2]:=fun c h=>h
  unfold ymB at h
  rw [decide_eq_true_eq] at h
  by_cases h1:y < -100000
  ·clear h
   go_enter Tryz.func91,Tryz.ntmps91
   go_wp2_with fail
   refine bodyPost_ret (v:=.tuple #[.int .i64 0,.int .i64 10]) ?_ rfl ⟨rfl,0,rfl⟩
   simp [results,Tryz.f91,go_sem]
  ·by_cases h2:100000 < y
   ·clear h
    go_enter Tryz.func91,Tryz.ntmps91
    go_wp2_with fail
    refine bodyPost_ret (v:=.tuple #[.int .i64 0,.int .i64 10]) ?_ rfl ⟨rfl,0,rfl⟩
    simp [results,Tryz.f91,go_sem]
   ·by_cases h3:m < 1
    ·clear h
     go_enter Tryz.func91,Tryz.ntmps91
     go_wp2_with fail
     refine bodyPost_ret (v:=.tuple #[.int .i64 0,.int .i64 10]) ?_ rfl ⟨rfl,0,rfl⟩
     simp [results,Tryz.f91,go_sem]
    ·have h4:12 < m:=by omega
     clear h
     go_enter Tryz.func91,Tryz.ntmps91
     go_wp2_with fail
     refine bodyPost_ret (v:=.tuple #[.int .i64 0,.int .i64 10]) ?_ rfl ⟨rfl,0,rfl⟩
     simp [results,Tryz.f91,go_sem]
end
section -- CivilC
open Go Go.RowKit Go.Shelf
def dateA (y m d:Int):Value:=.agg #[.int .i64 y,.int .i64 m,.int .i64 d]
def checkV (y m d:Int):Int:=if dateB y m d then 0 else 10
theorem dcheck_any (y m d:Int) (w:World) (ha:Ahead w) :
  Calls Tryz.prog 155 #[dateA y m d] w fun e w'=>e = .returned (.int .i64 (checkV y m d))∧Below w.heap.size w w':=by
 have HB0:=Lib.hid ((Below.refl w.heap.size w).alloc (Nat.le_refl _) (.cells #[.int .i64 y,.int .i64 m,.int .i64 d] 44))
 have HQ0:=Blk.new w 44 #[.int .i64 y,.int .i64 m,.int .i64 d]
 have HL:=Lib.hid (long_any y m (w.alloc (.cells #[.int .i64 y,.int .i64 m,.int .i64 d] 44)) (ha.below HB0.out (Nat.le_refl _)))
 have HD:=Lib.hid (fun n=>(HQ0.drewN n).cell 2 (v:=.int .i64 d) rfl)
 clear HQ0
 unfold dateA
 by_cases h:ymB y m = true
 ·have hE:longV y m = (lenV y m,0):=by unfold longV;rw [if_pos h]
  rw [hE] at HL
  have HV:=Lib.hid (show checkV y m d = if 1 ≤ d∧d ≤ lenV y m then 0 else 10 by unfold checkV dateB;rw [h,Bool.true_and];simp only [decide_eq_true_eq])
  clear hE h
  generalize lenV y m = l at *
  by_cases h1:1 ≤ d
  ·by_cases h2:d ≤ l
   ·rw [if_pos ⟨h1,h2⟩] at HV
    go_enter Tryz.func155,Tryz.ntmps155
    go_wp2_with fail
    refine HL.out.mono ?_
    rintro e w1 ⟨rfl,n,rfl⟩
    have d2:=HD.out n
    have HB1:=Lib.hid (below_drewN HB0.out n)
    go_wp2_with fail
    go_ret
    exact ⟨by rw [HV.out];rfl,HB1.out⟩
   ·rw [if_neg (by omega)] at HV
    go_enter Tryz.func155,Tryz.ntmps155
    go_wp2_with fail
    refine HL.out.mono ?_
    rintro e w1 ⟨rfl,n,rfl⟩
    have d2:=HD.out n
    have HB1:=Lib.hid (below_drewN HB0.out n)
    go_wp2_with fail
    go_ret
    exact ⟨by rw [HV.out];rfl,HB1.out⟩
  ·rw [if_neg (by omega)] at HV
   go_enter Tryz.func155,Tryz.ntmps155
   go_wp2_with fail
   refine HL.out.mono ?_
   rintro e w1 ⟨rfl,n,rfl⟩
   have d2:=HD.out n
   have HB1:=Lib.hid (below_drewN HB0.out n)
   go_wp2_with fail
   go_ret
   exact ⟨by rw [HV.out];rfl,HB1.out⟩
 ·have hE:longV y m = (0,10):=by unfold longV;rw [if_neg h]
  rw [hE] at HL
  have HV:=Lib.hid (show checkV y m d = 10 by unfold checkV dateB;rw [Bool.eq_false_iff.2 h];rfl)
  clear hE h
  go_enter Tryz.func155,Tryz.ntmps155
  go_wp2_with fail
  refine HL.out.mono ?_
  rintro e w1 ⟨rfl,n,rfl⟩
  have d2:=HD.out n
  have HB1:=Lib.hid (below_drewN HB0.out n)
  go_wp2_with fail
  go_ret
  exact ⟨by rw [HV.out];rfl,HB1.out⟩
theorem days_any (y m d:Int) (w:World) (ha:Ahead w) :
  Calls Tryz.prog 124 #[dateA y m d] w fun e w'=>e = .returned (if dateB y m d then .tuple #[.int .i64 (dayV y m d),.int .i64 0] else .tuple #[.int .i64 0,.int .i64 10])∧Below w.heap.size w w':=by
 have HB0:=Lib.hid ((Below.refl w.heap.size w).alloc (Nat.le_refl _) (.cells #[.int .i64 y,.int .i64 m,.int .i64 d] 44))
 have HQ0:=Lib.hid (Blk.new w 44 #[.int .i64 y,.int .i64 m,.int .i64 d])
 have HA:=Lib.hid (ha.below HB0.out (Nat.le_refl _))
 have HL:=Lib.hid (dcheck_any y m d _ HA.out)
 unfold checkV at HL
 unfold dateA at *
 cases h:dateB y m d
 ·rw [h] at HL
  clear h
  go_enter Tryz.func124,Tryz.ntmps124
  go_wp2_with fail
  refine HL.out.mono ?_
  rintro e w1 ⟨rfl,hb⟩
  have HB1:=Lib.hid (HB0.out.trans (hb.mono HB0.out.size))
  clear hb
  go_wp2_with fail
  refine bodyPost_ret (v:=.tuple #[.int .i64 0,.int .i64 10]) ?_ rfl ⟨rfl,HB1.out⟩
  simp [results,Tryz.f124,go_sem]
 ·rw [h] at HL
  obtain ⟨h1,h2,h3,h4,h5,h6⟩:=dateB_in h
  have hy:=yearV_in (y:=y) (by omega) (by omega)
  have hs:=startV_in y m
  have hlen:=lenV_in (y:=y) h3 h4
  have HY:=Lib.hid (fun W=>year_any y (by omega) (by omega) W)
  have HS:=Lib.hid (fun W ha=>start_any y m h3 h4 W ha)
  have HV:=Lib.hid (show dayV y m d = yearV y + startV y m + d - 1 from rfl)
  clear h
  generalize dayV y m d = v at *
  generalize yearV y = a at *
  generalize startV y m = b at *
  generalize lenV y m = c at *
  go_enter Tryz.func124,Tryz.ntmps124
  go_wp2_with fail
  refine HL.out.mono ?_
  rintro e w1 ⟨rfl,hb⟩
  have HB1:=Lib.hid (HB0.out.trans (hb.mono HB0.out.size))
  have hQ1:=HQ0.out.below hb HQ0.out.lt
  have HA1:=Lib.hid (HA.out.below hb (Nat.le_refl _))
  have q0:=hQ1.cell 0 (v:=.int .i64 y) rfl
  have q1:=hQ1.cell 1 (v:=.int .i64 m) rfl
  have q2:=hQ1.cell 2 (v:=.int .i64 d) rfl
  clear hb hQ1
  go_wp2_with fail
  go_quiet (first
   | (go_at_call 86;exact Calls.quiet_of_same (HY.out _))
   | (go_at_call 88;exact Calls.quiet_of_same (HS.out _ HA1.out)))
  go_wp2_with fail
  refine bodyPost_ret (v:=.tuple #[.int .i64 v,.int .i64 0]) ?_ rfl ⟨rfl,below_drewN HB1.out _⟩
  rw [HV.out]
  simp [results,Tryz.f124,go_sem]
end
section -- CMathB
open Go
def monV (y n:Int):Nat→Int
 | 0=>0
 | k + 1=>if n < startV y ((k:Int) + 1) then monV y n k else (k:Int) + 1
def ofC (n:Int):Int:=(n + 719162) / 146097
def ofE (n:Int):Int:=min ((n + 719162 - ofC n * 146097) / 36524) 3
def ofO (n:Int):Int:=(n + 719162 - ofC n * 146097 - ofE n * 36524) / 1461
def ofY (n:Int):Int:=min ((n + 719162 - ofC n * 146097 - ofE n * 36524 - ofO n * 1461) / 365) 3
def ofR (n:Int):Int:=n + 719162 - ofC n * 146097 - ofE n * 36524 - ofO n * 1461 - ofY n * 365
def ofYear (n:Int):Int:=ofC n * 400 + ofE n * 100 + ofO n * 4 + ofY n + 1
theorem startV_one (y:Int):startV y 1 = 0:=by unfold startV;simp [aheadV]
theorem startV_mono {y:Int}:∀ (k:Nat) {j:Nat},k < 12→j ≤ k→startV y ((j:Int) + 1) ≤ startV y ((k:Int) + 1)
 | 0,j,_,h=>by obtain rfl:j = 0:=by omega
               exact Int.le_refl _
 | k + 1,j,hk,h=>by
   by_cases e:j = k + 1
   ·subst e;exact Int.le_refl _
   ·have h1:=startV_mono (y:=y) k (j:=j) (by omega) (by omega)
    have h2:=startV_next (y:=y) (m:=(k:Int) + 1) (by omega) (by omega)
    have h3:=lenV_in (y:=y) (m:=(k:Int) + 1) (by omega) (by omega)
    rw [show ((k + 1:Nat):Int) + 1 = (k:Int) + 1 + 1 by omega]
    omega
theorem monV_spec {y n:Int} (h0:0 ≤ n):∀ (k:Nat),1 ≤ k→k ≤ 12→1 ≤ monV y n k∧monV y n k ≤ k∧startV y (monV y n k) ≤ n∧(monV y n k < k→n < startV y (monV y n k + 1))
 | 0,h,_=>by omega
 | k + 1,_,hk=>by
   unfold monV
   by_cases h:n < startV y ((k:Int) + 1)
   ·rw [if_pos h]
    have hk1:1 ≤ k:=by
     rcases k with _ | k
     ·rw [show ((0:Nat):Int) + 1 = 1 from rfl,startV_one] at h
      omega
     ·omega
    obtain ⟨a,b,c,d⟩:=monV_spec (y:=y) h0 k hk1 (by omega)
    refine ⟨a,by omega,c,fun _=>?_⟩
    by_cases e:monV y n k < k
    ·exact d e
    ·rw [show monV y n k = (k:Int) by omega]
     exact h
   ·rw [if_neg h]
    exact ⟨by omega,by omega,by omega,fun h=>by omega⟩
theorem of_parts (n:Int):0 ≤ ofE n∧ofE n ≤ 3∧0 ≤ ofO n∧ofO n ≤ 24∧0 ≤ ofY n∧ofY n ≤ 3∧0 ≤ ofR n∧ofR n ≤ 365∧(ofR n = 365→ofY n = 3∧(ofO n = 24→ofE n = 3)):=by
 unfold ofR ofY ofO ofE ofC
 omega
theorem of_back (n:Int):yearV (ofYear n) + ofR n = n:=by
 have h:=of_parts n
 have hr:ofR n = n + 719162 - ofC n * 146097 - ofE n * 36524 - ofO n * 1461 - ofY n * 365:=rfl
 unfold yearV ofYear
 generalize ofE n = e at *
 generalize ofO n = o at *
 generalize ofY n = y at *
 generalize ofC n = c at *
 generalize ofR n = r at *
 have h4:(c * 400 + e * 100 + o * 4 + y + 1 - 1) / 4 = c * 100 + e * 25 + o:=by omega
 have h1:(c * 400 + e * 100 + o * 4 + y + 1 - 1) / 100 = c * 4 + e:=by omega
 have h0:(c * 400 + e * 100 + o * 4 + y + 1 - 1) / 400 = c:=by omega
 rw [h4,h1,h0]
 omega
theorem of_rest (n:Int):ofR n < 365 + leapsV (ofYear n):=by
 have h:=of_parts n
 have hl:=leapsV_in (ofYear n)
 by_cases h5:ofR n = 365
 ·have hy:=h.2.2.2.2.2.2.2.2 h5
  have:leapB (ofYear n) = true:=by
   unfold leapB ofYear
   rw [decide_eq_true_eq]
   generalize ofE n = e at *
   generalize ofO n = o at *
   generalize ofC n = c at *
   by_cases h24:o = 24
   ·have:=hy.2 h24
    omega
   ·omega
  unfold leapsV
  rw [if_pos this]
  omega
 ·omega
theorem yearV_mono {a b:Int} (h:a ≤ b):yearV a ≤ yearV b:=by unfold yearV;omega
theorem yearV_next (y:Int):yearV (y + 1) = yearV y + 365 + leapsV y:=by
 unfold yearV leapsV leapB
 split <;> simp only [decide_eq_true_eq] at * <;> omega
def ofMon (n:Int):Int:=monV (ofYear n) (ofR n) 12
def ofDay (n:Int):Int:=ofR n - startV (ofYear n) (ofMon n) + 1
theorem of_date {n:Int} (h1:-37243778 ≤ n) (h2:n < 35805088):dateB (ofYear n) (ofMon n) (ofDay n) = true∧dayV (ofYear n) (ofMon n) (ofDay n) = n:=by
 have hb:=of_back n
 have hr:=of_rest n
 have hp:=of_parts n
 have hy:-100000 ≤ ofYear n∧ofYear n ≤ 100000:=by
  have h3:=yearV_next (ofYear n)
  have h4:=yearV_mono (a:=ofYear n + 1) (b:=-100000)
  have h5:=yearV_mono (a:=100001) (b:=ofYear n)
  have e1:yearV (-100000) = -37243778:=by decide
  have e2:yearV 100001 = 35805088:=by decide
  omega
 obtain ⟨m1,m2,m3,m4⟩:=monV_spec (y:=ofYear n) (n:=ofR n) (by omega) 12 (by omega) (by omega)
 have hm:monV (ofYear n) (ofR n) 12 = ofMon n:=rfl
 rw [hm] at m1 m2 m3 m4
 have m2:ofMon n ≤ 12:=m2
 have hd:ofR n < startV (ofYear n) (ofMon n) + lenV (ofYear n) (ofMon n):=by
  by_cases e:ofMon n < 12
  ·rw [← startV_next (by omega) e]
   exact m4 e
  ·rw [show ofMon n = 12 by omega,startV_dec]
   exact hr
 constructor
 ·unfold dateB ymB ofDay
  rw [Bool.and_eq_true,decide_eq_true_eq,decide_eq_true_eq]
  omega
 ·unfold dayV ofDay
  omega
end
section -- CivilD
open Go Go.RowKit Go.Shelf
theorem of_any (n:Int) (h1:-37243778 ≤ n) (h2:n < 35805088) (w:World) (ha:Ahead w) :
  Calls Tryz.prog 49 #[.int .i64 n] w fun e w'=>e = .returned (.tuple #[dateA (ofYear n) (ofMon n) (ofDay n),.int .i64 0])∧Below w.heap.size w w':=by
 have e1:yearV (-100000) = -37243778:=by decide
 have e2:yearV 100001 = 35805088:=by decide
 have HY1:=Lib.hid (fun W=>year_any (-100000) (by omega) (by omega) W)
 have HY2:=Lib.hid (fun W=>year_any 100001 (by omega) (by omega) W)
 rw [e1] at HY1
 rw [e2] at HY2
 have HF:=Lib.hid (fun W=>floor_any (n + 719162) 146097 (by omega) (by omega) (by omega) W)
 have hc:0 ≤ n + 719162 - ofC n * 146097∧n + 719162 - ofC n * 146097 < 146097∧-260 ≤ ofC n∧ofC n ≤ 260:=by unfold ofC;omega
 rw [show (n + 719162) / 146097 = ofC n from rfl] at HF
 clear e1 e2
 go_enter Tryz.func49,Tryz.ntmps49
 go_wp2_with fail
 refine (HY1.out _).mono ?_
 rintro e w1 ⟨rfl,rfl⟩
 go_wp2_with fail
 refine (HY2.out _).mono ?_
 rintro e w1 ⟨rfl,rfl⟩
 go_wp2_with fail
 refine (HF.out _).mono ?_
 rintro e w1 ⟨rfl,rfl⟩
 go_wp2_with fail
 have eE:min ((n + 719162 - ofC n * 146097) / 36524) 3 = ofE n:=rfl
 have eO:(n + 719162 - ofC n * 146097 - ofE n * 36524) / 1461 = ofO n:=rfl
 have eY:min ((n + 719162 - ofC n * 146097 - ofE n * 36524 - ofO n * 1461) / 365) 3 = ofY n:=rfl
 have eR:n + 719162 - ofC n * 146097 - ofE n * 36524 - ofO n * 1461 - ofY n * 365 = ofR n:=rfl
 have eN:ofC n * 400 + ofE n * 100 + ofO n * 4 + ofY n + 1 = ofYear n:=rfl
 rw [eE,eO,eY,eR,eN]
 have hp:=of_parts n
 have hr0:=hp.2.2.2.2.2.2.1
 have hr1:=hp.2.2.2.2.2.2.2.1
 have HOM:=Lib.hid (show ofMon n = monV (ofYear n) (ofR n) 12 from rfl)
 have HOD:=Lib.hid (show ofDay n = ofR n - startV (ofYear n) (ofMon n) + 1 from rfl)
 clear hp hc eE eO eY eR eN HY1 HY2 HF
 have hb0:=(Blk.new w 44 #[.int .i64 0,.int .i64 0,.int .i64 0]).alloc (.cells #[.int .i64 (ofYear n),.int .i64 12,.int .i64 0] 44)
 have hb1:=Blk.new (w.alloc (.cells #[.int .i64 0,.int .i64 0,.int .i64 0] 44)) 44 #[.int .i64 (ofYear n),.int .i64 12,.int .i64 0]
 rw [World.size_alloc] at hb1
 have HI:=Lib.hid (And.intro hb0 hb1)
 clear hb0 hb1
 generalize hY:ofYear n = Y at *
 generalize ofR n = R at *
 generalize hM:ofMon n = M at *
 generalize hD:ofDay n = D at *
 have HYMD:=Lib.hid (And.intro hY (And.intro hM hD))
 clear hY hM hD
 go_loopw [65] (fun _ wr=>∃ k:Nat,k < 12∧Below w.heap.size w wr∧Blk wr w.heap.size 44 #[.int .i64 0,.int .i64 0,.int .i64 0]∧Blk wr (w.heap.size + 1) 44 #[.int .i64 Y,.int .i64 ((k:Int) + 1),.int .i64 0]∧monV Y R 12 = monV Y R (k + 1)) (fun _ wr=>(intOf ((wr.cell? ⟨w.heap.size + 1,1,none⟩).getD undef)).toNat)
 case atStart=>exact ⟨11,by omega,((Below.refl _ _).alloc (Nat.le_refl _) _).alloc (by simp) _,HI.out.1,HI.out.2,rfl⟩
 case round =>
  obtain ⟨k,hk,hbw,hres,hbox,hmon⟩:=hrel
  have HB:=Lib.hid hbw
  have HRS:=Lib.hid hres
  have HBX:=Lib.hid hbox
  have HST:=Lib.hid (start_any Y ((k:Int) + 1) (by omega) (by omega) wr (ha.below hbw (Nat.le_refl _)))
  have c0:=hbox.cell 0 (v:=.int .i64 Y) rfl
  have c1:=hbox.cell 1 (v:=.int .i64 ((k:Int) + 1)) rfl
  have c2:=hbox.cell 2 (v:=.int .i64 0) rfl
  have f1:=hbox.frozen 1
  have f2:=hbox.frozen 2
  have r0:=hres.cell 0 (v:=.int .i64 0) rfl
  have r1:=hres.cell 1 (v:=.int .i64 0) rfl
  have r2:=hres.cell 2 (v:=.int .i64 0) rfl
  have g0:=hres.frozen 0
  have g1:=hres.frozen 1
  have g2:=hres.frozen 2
  have hsz:=hbox.lt
  have hs:=startV_in Y ((k:Int) + 1)
  have HMN:=Lib.hid hmon
  have HS1:=Lib.hid (startV_one Y)
  obtain ⟨s,hsv⟩:∃ s,startV Y ((k:Int) + 1) = s:=⟨_,rfl⟩
  rw [hsv] at HST hs
  have HSV:=Lib.hid hsv
  clear hbw hres hbox hmon hsv
  go_wp2_with fail
  refine HST.out.mono ?_
  rintro e w1 ⟨rfl,rfl⟩
  by_cases hlt:R < s
  ·rcases k with _ | k
   ·have h1:=HSV.out
    rw [show ((0:Nat):Int) + 1 = 1 from rfl,HS1.out] at h1
    omega
   ·have HM2:=Lib.hid (show monV Y R 12 = monV Y R (k + 1) by
     rw [HMN.out]
     show (if R < startV Y (((k + 1:Nat):Int) + 1) then monV Y R (k + 1) else _) = _
     rw [HSV.out,if_pos hlt])
    have e1:((k + 1:Nat):Int) + 1 - 1 = (k:Int) + 1:=by omega
    go_wp2_with fail
    go_roundw
    case rel=>exact ⟨k,by omega,HB.out.setCell (by show w.heap.size ≤ w.heap.size + 1;omega) _,HRS.out.other (by omega) _ _,by have h:=HBX.out.set 1 (.int .i64 ((k:Int) + 1));exact h,HM2.out⟩
    case measure =>
     rw [(HBX.out.set 1 (.int .i64 ((k:Int) + 1))).cell 1 (v:=.int .i64 ((k:Int) + 1)) rfl,c1]
     simp only [Option.getD_some,intOf]
     omega
  ·have HM2:=Lib.hid (show M = (k:Int) + 1 by
    rw [HOM.out,HMN.out]
    show (if R < startV Y ((k:Int) + 1) then monV Y R k else _) = _
    rw [HSV.out,if_neg hlt])
   have HD2:=Lib.hid (show D = R - s + 1 by rw [HOD.out,HM2.out,HSV.out])
   go_wp2_with fail
   refine (HST.out).mono ?_
   rintro e w1 ⟨rfl,rfl⟩
   go_wp2_with fail
   have hbx:=HBX.out.set 2 (.int .i64 (R - s + 1))
   have HW:=(((HRS.out.other (show w.heap.size ≠ w.heap.size + 1 by omega) 2 (.int .i64 (R - s + 1))).set 0 (.int .i64 Y)).set 1 (.int .i64 ((k:Int) + 1))).set 2 (.int .i64 (R - s + 1))
   have hbf:=below_set3 (HB.out.setCell (show w.heap.size ≤ w.heap.size + 1 by omega) (p:=⟨w.heap.size + 1,2,none⟩) (.int .i64 (R - s + 1))) (Nat.le_refl w.heap.size) (.int .i64 Y) (.int .i64 ((k:Int) + 1)) (.int .i64 (R - s + 1))
   refine bodyPost_ret (v:=.tuple #[dateA Y ((k:Int) + 1) (R - s + 1),.int .i64 0]) ?_ rfl ⟨by rw [HYMD.out.1,HYMD.out.2.1,HYMD.out.2.2,HM2.out,HD2.out],hbf⟩
   have w0:=HW.cell 0 (v:=.int .i64 Y) rfl
   have w1:=HW.cell 1 (v:=.int .i64 ((k:Int) + 1)) rfl
   have w2:=HW.cell 2 (v:=.int .i64 (R - s + 1)) rfl
   simp [results,Tryz.f49,go_sem,w0,w1,w2,dateA]
theorem of_out (n:Int) (h:¬ (-37243778 ≤ n∧n < 35805088)) (w:World) :
  Calls Tryz.prog 49 #[.int .i64 n] w fun e w'=>e = .returned (.tuple #[dateA 0 0 0,.int .i64 10])∧Below w.heap.size w w':=by
 have e1:yearV (-100000) = -37243778:=by decide
 have e2:yearV 100001 = 35805088:=by decide
 have HY1:=Lib.hid (fun W=>year_any (-100000) (by omega) (by omega) W)
 have HY2:=Lib.hid (fun W=>year_any 100001 (by omega) (by omega) W)
 rw [e1] at HY1
 rw [e2] at HY2
 have hb0:=Blk.new w 44 #[.int .i64 0,.int .i64 0,.int .i64 0]
 have r0:=hb0.cell 0 (v:=.int .i64 0) rfl
 have r1:=hb0.cell 1 (v:=.int .i64 0) rfl
 have r2:=hb0.cell 2 (v:=.int .i64 0) rfl
 have g0:=hb0.frozen 0
 have g1:=hb0.frozen 1
 have g2:=hb0.frozen 2
 have HI:=Lib.hid hb0
 clear hb0 e1 e2
 by_cases h1:n < -37243778
 ·clear h
  go_enter Tryz.func49,Tryz.ntmps49
  go_wp2_with fail
  refine (HY1.out _).mono ?_
  rintro e w1 ⟨rfl,rfl⟩
  go_wp2_with fail
  all_goals try (refine (HY2.out _).mono ?_;rintro e w1 ⟨rfl,rfl⟩;go_wp2_with fail)
  refine bodyPost_ret (v:=.tuple #[dateA 0 0 0,.int .i64 10]) ?_ rfl ⟨rfl,(Below.refl _ _).alloc (Nat.le_refl _) _⟩
  simp [results,Tryz.f49,go_sem,dateA]
 ·have h2:35805088 ≤ n:=by omega
  clear h
  go_enter Tryz.func49,Tryz.ntmps49
  go_wp2_with fail
  refine (HY1.out _).mono ?_
  rintro e w1 ⟨rfl,rfl⟩
  go_wp2_with fail
  all_goals try (refine (HY2.out _).mono ?_;rintro e w1 ⟨rfl,rfl⟩;go_wp2_with fail)
  refine bodyPost_ret (v:=.tuple #[dateA 0 0 0,.int .i64 10]) ?_ rfl ⟨rfl,(Below.refl _ _).alloc (Nat.le_refl _) _⟩
  simp [results,Tryz.f49,go_sem,dateA]
end
section -- CivilE
open Go Go.RowKit Go.Shelf
attribute [local go_sem] Oper.semAt_some
def dayA (k wk n:Int):Value:=.agg #[.int .i64 k,.int .i64 wk,.int .i64 n]
def dayOkB (k wk n:Int):Bool:=decide ((k = 0∧1 ≤ n∧n ≤ 31∧wk = 0)∨(k = 1∧n = 0∧0 ≤ wk∧wk < 7)∨((k = 2∨k = 3)∧1 ≤ n∧n ≤ 31∧0 ≤ wk∧wk < 7))
theorem dfcheck_any (k wk n:Int) (w:World) :
  Calls Tryz.prog 46 #[dayA k wk n] w fun e w'=>e = .returned (.int .i64 (if dayOkB k wk n then 0 else 10))∧Below w.heap.size w w':=by
 have HB0:=Lib.hid (fun (o:Obj)=>(Below.refl w.heap.size w).alloc (Nat.le_refl _) o)
 have HQ0:=Blk.new w 36 #[.int .i64 k,.int .i64 wk,.int .i64 n]
 have q0:=HQ0.cell 0 (v:=.int .i64 k) rfl
 have q1:=HQ0.cell 1 (v:=.int .i64 wk) rfl
 have q2:=HQ0.cell 2 (v:=.int .i64 n) rfl
 obtain ⟨V,hV⟩:∃ V:Int,(if dayOkB k wk n then 0 else 10) = V:=⟨_,rfl⟩
 rw [hV]
 have HV:=Lib.hid (show (if (k = 0∧1 ≤ n∧n ≤ 31∧wk = 0)∨(k = 1∧n = 0∧0 ≤ wk∧wk < 7)∨((k = 2∨k = 3)∧1 ≤ n∧n ≤ 31∧0 ≤ wk∧wk < 7) then (0:Int) else 10) = V by
  rw [← hV]
  unfold dayOkB
  simp only [decide_eq_true_eq])
 clear hV
 clear HQ0
 unfold dayA
 by_cases h1:1 ≤ n
 ·by_cases h2:0 ≤ wk
  ·
   go_enter Tryz.func46,Tryz.ntmps46
   go_wp2_with fail
   go_quiet (fail)
   go_wp2_with fail
   all_goals
    go_ret
    refine ⟨?_,below_drewN (HB0.out _) _⟩
    have hv:=HV.out
    simp only [beq_iff_eq,beq_eq_false_iff_ne,ne_eq,decide_eq_true_eq,decide_eq_false_iff_not,Bool.not_eq_true',Bool.not_eq_false'] at *
    split at hv
    all_goals first | (rw [← hv];rfl) | (exfalso;omega) | done
  ·have hd2:decide (0 ≤ wk) = false:=decide_eq_false h2
   go_enter Tryz.func46,Tryz.ntmps46
   go_wp2_with fail
   go_quiet (fail)
   go_wp2_with fail
   all_goals
    go_ret
    refine ⟨?_,below_drewN (HB0.out _) _⟩
    have hv:=HV.out
    simp only [beq_iff_eq,beq_eq_false_iff_ne,ne_eq,decide_eq_false_iff_not,Bool.not_eq_true',Bool.not_eq_false'] at *
    split at hv
    all_goals first | (rw [← hv];rfl) | (exfalso;omega) | done
 ·have hd1:decide (1 ≤ n) = false:=decide_eq_false h1
  by_cases h2:0 ≤ wk
  ·
   go_enter Tryz.func46,Tryz.ntmps46
   go_wp2_with fail
   go_quiet (fail)
   go_wp2_with fail
   all_goals
    go_ret
    refine ⟨?_,below_drewN (HB0.out _) _⟩
    have hv:=HV.out
    simp only [beq_iff_eq,beq_eq_false_iff_ne,ne_eq,decide_eq_true_eq,decide_eq_false_iff_not,Bool.not_eq_true',Bool.not_eq_false'] at *
    split at hv
    all_goals first | (rw [← hv];rfl) | (exfalso;omega) | done
  ·have hd2:decide (0 ≤ wk) = false:=decide_eq_false h2
   go_enter Tryz.func46,Tryz.ntmps46
   go_wp2_with fail
   go_quiet (fail)
   go_wp2_with fail
   all_goals
    go_ret
    refine ⟨?_,below_drewN (HB0.out _) _⟩
    have hv:=HV.out
    simp only [beq_iff_eq,beq_eq_false_iff_ne,ne_eq,decide_eq_false_iff_not] at *
    split at hv
    all_goals first | (rw [← hv];rfl) | (exfalso;omega) | done
theorem from_any (a st:Int) (w:World):Calls Tryz.prog 152 #[.int .i64 a,.int .i64 st] w fun e w'=>e = .returned (.func (.func 176) #[] #[.pointer (some ⟨w.heap.size,0,none⟩),.pointer (some ⟨w.heap.size + 1,0,none⟩)])∧Below w.heap.size w w'∧w'.heap.size = w.heap.size + 2 ∧
  Blk w' w.heap.size 3 #[.int .i64 a]∧Blk w' (w.heap.size + 1) 3 #[.int .i64 st]:=by
 have h1:=Blk.new w 3 #[.int .i64 a]
 have h2:=Blk.new (w.alloc (.cells #[.int .i64 a] 3)) 3 #[.int .i64 st]
 simp only [World.size_alloc] at h2
 have HB:=Lib.hid (show Below w.heap.size w ((w.alloc (.cells #[.int .i64 a] 3)).alloc (.cells #[.int .i64 st] 3)) from ((Below.refl _ _).alloc (Nat.le_refl _) _).alloc (by simp) _)
 have HH:=Lib.hid (show _∧_ from ⟨h1.alloc (.cells #[.int .i64 st] 3),h2⟩)
 clear h1 h2
 go_enter Tryz.func152,Tryz.ntmps152
 go_wp2_with fail
 go_ret
 exact ⟨rfl,HB.out,by simp,HH.out⟩
def encD (f:Nat→Int) (k:Nat):Array Value:=#[.int .i64 (f k)]
theorem from1_in (n:Nat) (hn:2 ≤ n) (lp db sb:Nat) (f:Nat→Int) (st:Int) (W:World) (hf:∀ k,f (k + 1) = f k + st) (hb:∀ k,k ≤ 7→-100000000 ≤ f k∧f k ≤ 100000000) (hst:-1 ≤ st∧st ≤ 1)
  (hd:Blk W db 3 #[.int .i64 (f 0)]) (hs:Blk W sb 3 #[.int .i64 st]) (hne:db ≠ sb)
  (J Jx:List Nat→(Nat→Prop)→World→Prop) (fJ:Feet J) (hY:RoundsIn Fence.wide (n - 1) Tryz.prog lp (encD f) (fun pre k D _=>(∀ j,¬ D j)∧k = pre.length∧k < 7) J Jx)
  (O0:Nat→Prop) (h0:J [] O0 W) (hO0:Bd O0 W) (hK:∀ k,(k = db∨k = sb)→¬ O0 k) :
  CallsIn Fence.wide n Tryz.prog 176 #[.func (.yield lp) #[] #[],.pointer (some ⟨db,0,none⟩),.pointer (some ⟨sb,0,none⟩)] W (IterEnd (fun xs:List Nat=>xs.length = 7) (fun _=>True) J Jx O0 (fun k=>k = db) W):=by
 have HD:=Lib.hid hd
 have HS:=Lib.hid hs
 refine callsIn_of_wp Tryz.func176 rfl trivial ?_ rfl
 simp only [Tryz.ntmps176,List.size_toArray,List.length_cons,List.length_nil,Nat.reduceAdd,Nat.reduceSub,Array.replicate_succ,Array.replicate_zero,List.push_toArray,List.append_toArray,List.nil_append,List.cons_append]
 gi_wp2
 gi_loopw [4] (fun iv wr=>∃ (pre:List Nat) (O:Nat→Prop),iv = .int .i64 (pre.length:Nat)∧pre.length ≤ 7∧J pre O wr∧Bd O wr∧(∀ k,O k→O0 k∨W.heap.size ≤ k)∧Fr (fun k=>O0 k∨k = db) W wr∧Blk wr db 3 #[.int .i64 (f pre.length)]∧Blk wr sb 3 #[.int .i64 st]) (fun iv _=>7 - (intOf iv).toNat)
 case atStart=>exact ⟨[],O0,rfl,by simp,h0,hO0,fun k h=>.inl h,Fr.refl _ _,HD.out,HS.out⟩
 case round =>
  obtain ⟨pre,O,rfl,hle,hJ,hbd,hex,hfr,hbd1,hbs1⟩:=hrel
  have HJ:=Lib.hid hJ
  have HBD:=Lib.hid hbd
  have HEX:=Lib.hid hex
  have HFR:=Lib.hid hfr
  have HD1:=Lib.hid hbd1
  have HS1:=Lib.hid hbs1
  have qd:=hbd1.cell 0 (v:=.int .i64 (f pre.length)) rfl
  clear hJ hbd hex hfr hbd1 hbs1
  by_cases hlt:pre.length < 7
  ·have hOn:∀ k,(k = db∨k = sb)→¬ O k:=fun k hk ho=>by
    rcases HEX.out k ho with h | h
    ·exact hK k hk h
    ·have h1:=HD.out.lt
     have h2:=HS.out.lt
     rcases hk with rfl | rfl <;> omega
   have hnx:=hf pre.length
   have hb1:=hb pre.length (by omega)
   have hb2:=hb (pre.length + 1) (by omega)
   gi_wp2
   obtain ⟨fn,tmps,assign,body,hyd,hR⟩:=hY pre pre.length (fun _=>False) O wr HJ.out HBD.out (fun _ h=>h.elim) (fun _ h=>h.elim) ⟨fun _ h=>h,rfl,hlt⟩
   unfold encD at hyd
   rw [hyd]
   gi_wp2
   refine ⟨fun _=>by omega,hR.mono ?_⟩
   rintro e W5 ⟨O5,hx5,hbd5,hf5,(⟨rfl,hJ5⟩ | ⟨rfl,hJx5⟩)⟩
   ·have hd5:=HD1.out.fr hf5 (fun e=>by rcases e with e | e;exact hOn _ (.inl rfl) e;exact e)
    have hs5:=HS1.out.fr hf5 (fun e=>by rcases e with e | e;exact hOn _ (.inr rfl) e;exact e)
    have qd:=hd5.cell 0 (v:=.int .i64 (f pre.length)) rfl
    have qs:=hs5.cell 0 (v:=.int .i64 st) rfl
    have qf:=hd5.frozen 0
    have HD5:=Lib.hid hd5
    have HS5:=Lib.hid hs5
    have hdl:=hd5.lt
    clear hd5 hs5 hyd hR
    gi_wp2
    have hls:(pre ++ [pre.length]).length = pre.length + 1:=by simp
    have nO5:∀ k,(k = db∨k = sb)→¬ O5 k:=fun k hk ho=>by
     rcases hx5 k ho with h | h | h
     ·exact hOn k hk h
     ·exact h
     ·have h1:=HD1.out.lt
      have h2:=HS1.out.lt
      rcases hk with rfl | rfl <;> omega
    refine ⟨⟨pre ++ [pre.length],O5,by rw [hls];go_num,by omega,fJ _ _ _ _ hJ5 ((Fr.setCell (T:=fun k=>k = db) W5 0 _ rfl).mono fun k hk=>.inl fun hO=>nO5 _ (.inl hk) hO),hbd5.fr (Fr.setCell (T:=fun k=>k = db) W5 0 _ rfl),fun k hk=>?_,?_,?_,HS5.out.other hne.symm 0 _⟩,by simp only [intOf];omega⟩
    ·rcases hx5 k hk with h | h | h
     ·exact HEX.out k h
     ·exact h.elim
     ·have:=HFR.out.size;exact .inr (by omega)
    ·refine (HFR.out.trans hf5 fun k hk=>?_).then (Fr.setCell W5 0 _ (.inr rfl))
     rcases hk with h | h
     ·rcases HEX.out k h with h | h
      ·exact .inl (.inl h)
      ·exact .inr h
     ·exact h.elim
    ·rw [hls,hnx]
     exact HD5.out.set 0 _
   ·gi_wp2
    refine bodyPost_end (results_none rfl _ _ _) rfl ?_
    refine ⟨⟨_,rfl⟩,O5,fun k hk=>?_,hbd5,HFR.out.trans hf5 fun k hk=>?_,.inr ⟨_,trivial,hJx5⟩⟩
    ·rcases hx5 k hk with h | h | h
     ·exact HEX.out k h
     ·exact h.elim
     ·have:=HFR.out.size;exact .inr (by omega)
    ·rcases hk with h | h
     ·rcases HEX.out k h with h | h
      ·exact .inl (.inl h)
      ·exact .inr h
     ·exact h.elim
  ·have h7:pre.length = 7:=by omega
   gi_wp2
   refine bodyPost_end (results_none rfl _ _ _) rfl ?_
   exact ⟨⟨_,rfl⟩,O,HEX.out,HBD.out,HFR.out,.inl ⟨pre,h7,HJ.out⟩⟩
theorem from1_iter (n:Nat) (hn:2 ≤ n) (db sb:Nat) (f:Nat→Int) (st:Int) (W:World) (hf:∀ k,f (k + 1) = f k + st) (hb:∀ k,k ≤ 7→-100000000 ≤ f k∧f k ≤ 100000000) (hst:-1 ≤ st∧st ≤ 1)
  (hd:Blk W db 3 #[.int .i64 (f 0)]) (hs:Blk W sb 3 #[.int .i64 st]) (hne:db ≠ sb) :
  Iter Fence.wide n Tryz.prog 176 #[.pointer (some ⟨db,0,none⟩),.pointer (some ⟨sb,0,none⟩)] (encD f) (fun pre k D _=>(∀ j,¬ D j)∧k = pre.length∧k < 7) (fun xs=>xs.length = 7) (fun _=>True) (fun k=>k = db∨k = sb) (fun k=>k = db) W :=
 fun lp J Jx fJ _ hY O h0 hO hK=>from1_in n hn lp db sb f st W hf hb hst hd hs hne J Jx fJ hY O h0 hO hK
end
section -- FrmS
open Go Go.RowKit
section
variable {F:Fence} {n:Nat} {P:Program}
theorem range_own_set {α:Type} {g:Operand} {ps:Array Tmp} {assign body:Code} {Q:Exit→Act→World→Prop} {a:Act} {w:World}
  (hro:F.round = none) (h1:1 ≤ n) {gf:Nat} {lb:Array Value} (hg:a.eval g = .func (.func gf) #[] lb) (hFg:F.fn gf) (eg:∀ args w,(callFunc gf args).run P w = .ok (.enter gf args) w)
  {encs:α→Array Value} {R:List α→α→(Nat→Prop)→World→Prop} {S Sp:List α→Prop} {K M:Nat→Prop}
  (hseq:∀ W,Below w.heap.size w W→Iter F (n - 1) P gf lb encs R S Sp K M W) (hps:∀ x,(encs x).size = ps.size)
  (I:List α→(Nat→Prop)→World→Prop) (Ix:Code→List α→(Nat→Prop)→World→Prop) (hI:Feet I) (hIx:∀ c,Feet (Ix c)) (Ip:List α→α→(Nat→Prop)→World→Prop) (hIp:∀ x,Feet (fun pre=>Ip pre x)) (O0:Nat→Prop) (h0:I [] O0 w) (hO0:Bd O0 w) (hM:Bd K w) (hMO:∀ k,K k→¬ O0 k)
  (hround:∀ (l:Nat) (pre:List α) (x:α) (O D:Nat→Prop) (W:World),I pre O W→Bd O W→Bd D W→(∀ k,D k→¬ O k)→R pre x D W→¬ O l→¬ D l→w.heap.size < l→l < W.heap.size →
    assign.wpIn (F.inRound l) (n - 1 - 1) P (Exit.then (fun a' Wa=>(Fr O W Wa∧Ip pre x O Wa)∧∀ Wb,Fr (fun k=>k = l) Wa Wb→Ip pre x O Wb→(∃ r,Wb.heap[l]? = some (.loop r))→body.wpIn (F.inRound l) (n - 1 - 1) P (leftO I Ix (pre ++ [x]) O D Wb) a' Wb) (fun _ _ _=>False))
     { tmps:=(ps.zip (encs x)).foldl (fun t (p,v)=>t.setIfInBounds p v) a.tmps,defers:=[] } W)
  (hdone:∀ (B:Nat) (xs:List α) (O:Nat→Prop) (W:World),w.heap.size ≤ B→S xs→I xs O W→(∀ k,O k→O0 k∨w.heap.size ≤ k)→Bd O W→¬ O B→Fr (fun k=>O0 k∨M k) w W→W.heap[B]? = some (.deferred (some []))→Q .normal { a with defers:={ target:=.collected B,args:=#[] } :: a.defers } W)
  (hstop:∀ (B:Nat) (c:Code) (pre:List α) (O:Nat→Prop) (W:World),w.heap.size ≤ B→Sp pre→Ix c pre O W→(∀ k,O k→O0 k∨w.heap.size ≤ k)→Bd O W→¬ O B→Fr (fun k=>O0 k∨M k) w W→W.heap[B]? = some (.deferred (some []))→c.wpIn F n P Q { a with defers:={ target:=.collected B,args:=#[] } :: a.defers } W) :
  (Code.rangeFunc g ps assign body).wpIn F n P Q a w:=by
 refine wpIn_rangeFunc fun fn hfn=>?_
 rw [hro]
 generalize hT:w.heap.size = T at *
 generalize hrec:(fun (st:LoopState) (pe:Option Code)=>({ state:=st,pending:=pe,fn:=fn,tmps:=a.tmps,params:=ps,assign:=assign,body:=body,defers:=T }:Loop)) = rec
 have er:∀ st pe,({ state:=st,pending:=pe,fn:=fn,tmps:=a.tmps,params:=ps,assign:=assign,body:=body,defers:=T }:Loop) = rec st pe:=fun st pe=>by rw [← hrec]
 have rs:∀ st pe,(rec st pe).state = st:=fun st pe=>by rw [← hrec]
 have rp:∀ st pe,(rec st pe).params = ps:=fun st pe=>by rw [← hrec]
 have rb:∀ st pe,({ rec st pe with state:=.busy }:Loop) = rec .busy pe:=fun st pe=>by rw [← hrec]
 generalize hW1:(w.alloc (.deferred (some []))).alloc (.loop (rec .ready none)) = W1
 have hs1:W1.heap.size = T + 2:=by rw [← hW1];simp [hT]
 have hl1:W1.heap[T + 1]? = some (.loop (rec .ready none)):=by
  have:=World.alloc_heap_new (w.alloc (.deferred (some []))) (.loop (rec .ready none))
  rw [World.size_alloc,hT] at this
  rw [← hW1]
  exact this
 have hd1:W1.heap[T]? = some (.deferred (some [])):=by
  have h:=World.alloc_heap_new w (.deferred (some []))
  rw [hT] at h
  rw [← hW1]
  exact (Below.heap_alloc _ _ _ (by simp [hT])).trans h
 have hb1:Below T w W1:=by
  rw [← hW1]
  exact ((Below.refl _ w).alloc (by omega) _).alloc (by simp;omega) _
 have hf1:∀ X,Fr X w W1:=fun X=>Fr.of_below hb1 (by omega)
 have en:=run_enterLoop_outer (P:=P) (w:=w) fn a.tmps ps assign body
 rw [hT,er .ready none,hW1] at en
 refine ⟨T + 1,[{ target:=.collected T,args:=#[] }],W1,{ target:=.fn (.func gf) lb,args:=#[.func (.yield (T + 1)) #[] #[]] },W1,gf,#[.func (.yield (T + 1)) #[] #[]] ++ lb,W1,en,?_,?_,?_,fun _=>h1,?_⟩
 ·simp only [resolve,hg]
  simp [go_sem]
 ·intro f' hf'
  simp [Target.leads] at hf'
  rw [← hf']
  exact hFg
 ·simp [invoke,go_sem,eg]
 have bO0:∀ k,O0 k→k < T:=fun k hk=>by have:=hO0 k hk;omega
 have bM:∀ k,K k→k < T:=fun k hk=>by have:=hM k hk;omega
 refine (hseq W1 hb1 (T + 1)
  (fun pre O W=>I pre (fun k=>O k∧k ≠ T∧k ≠ T + 1) W∧O T∧O (T + 1)∧T + 2 ≤ W.heap.size∧W.heap[T + 1]? = some (.loop (rec .ready none))∧W.heap[T]? = some (.deferred (some [])))
  (fun pre O W=>(∃ c,Ix c pre (fun k=>O k∧k ≠ T∧k ≠ T + 1) W∧W.heap[T + 1]? = some (.loop (rec .done (some c))))∧O T∧O (T + 1)∧T + 2 ≤ W.heap.size∧W.heap[T]? = some (.deferred (some []))) ?feetJ ?feetX ?round
  (fun k=>O0 k∨k = T∨k = T + 1) ⟨?i0,.inr (.inl rfl),.inr (.inr rfl),by omega,hl1,hd1⟩ ?bd (fun k hm h=>by have:=bM k hm;rcases h with h | h | h;exact hMO k hm h;omega;omega)).mono ?behind
 case feetJ =>
  rintro s O W W' ⟨hi,hT0,hT1,hs,hl,hd⟩ hf
  refine ⟨hI _ _ _ _ hi (hf.mono fun k hk=>.inl fun h=>hk h.1),hT0,hT1,Nat.le_trans hs hf.size,hf.at_ hl (by simpa using hT1),hf.at_ hd (by simpa using hT0)⟩
 case feetX =>
  rintro s O W W' ⟨⟨c,hi,hl⟩,hT0,hT1,hs,hd⟩ hf
  refine ⟨⟨c,hIx c _ _ _ _ hi (hf.mono fun k hk=>.inl fun h=>hk h.1),hf.at_ hl (by simpa using hT1)⟩,hT0,hT1,Nat.le_trans hs hf.size,hf.at_ hd (by simpa using hT0)⟩
 case i0 =>
  have e:(fun k=>(O0 k∨k = T∨k = T + 1)∧k ≠ T∧k ≠ T + 1) = O0:=by
   funext k
   apply propext
   constructor
   ·rintro ⟨h | h | h,h1,h2⟩
    ·exact h
    ·exact absurd h h1
    ·exact absurd h h2
   ·intro h
    have:=bO0 k h
    exact ⟨.inl h,by omega,by omega⟩
  rw [e]
  exact hI _ _ _ _ h0 (hf1 _)
 case bd =>
  intro k hk
  rcases hk with hk | hk | hk
  ·have:=bO0 k hk;omega
  ·omega
  ·omega
 case round =>
  rintro pre x D O V ⟨hi,hT0,hT1,hsz,hlV,hkV⟩ hBO hBD hDO hR
  have hltV:T + 1 < V.heap.size:=(Array.getElem?_eq_some_iff.1 hlV).1
  have hy:=run_yield (P:=P) (args:=encs x) hlV (by rw [rp];exact hps x)
  have hDT:¬ D T:=fun h=>hDO T h hT0
  have hDT1:¬ D (T + 1):=fun h=>hDO (T + 1) h hT1
  have e1:(rec .ready none).fn = fn∧(rec .ready none).tmps = a.tmps∧(rec .ready none).assign = assign∧(rec .ready none).body = body:=by rw [← hrec];exact ⟨rfl,rfl,rfl,rfl⟩
  rw [e1.1,e1.2.1,e1.2.2.1,e1.2.2.2,rp] at hy
  refine ⟨fn,_,assign,body,hy,roundIn_of_wpIn hfn (wpIn_mono (hround (T + 1) pre x _ D V hi (fun k hk=>hBO k hk.1) hBD (fun k hk h=>hDO k hk h.1) hR (fun h=>h.2.2 rfl) hDT1 (by omega) hltV) ?_)⟩
  rintro e a' Va hVa
  cases e with
  | normal=>?_
  | ret=>exact hVa.elim
  | exit id=>exact hVa.elim
  | goto t=>exact hVa.elim
  | panic ch=>exact hVa.elim
  | outgrown=>exact hVa.elim
  obtain ⟨⟨hbV,hip⟩,hbody⟩:=hVa
  have hl:=hbV.at_ hlV (fun h=>h.2.2 rfl)
  have hk:=hbV.at_ hkV (fun h=>h.2.1 rfl)
  have hlt:T + 1 < Va.heap.size:=Nat.lt_of_lt_of_le hltV hbV.size
  have hbr:=run_beginRound (P:=P) hl (rs _ _)
  rw [rb] at hbr
  refine ⟨_,hbr,?_⟩
  generalize hB:Va.putObj (T + 1) (.loop (rec .busy none)) = Bz at hbr
  have hlB:Bz.heap[T + 1]? = some (.loop (rec .busy none)):=by rw [← hB];exact World.putObj_heap_same hlt
  have hkB:Bz.heap[T]? = some (.deferred (some [])):=by rw [← hB];exact (World.putObj_heap_other (by omega)).trans hk
  have hAB:∀ X:Nat→Prop,X (T + 1)→Fr X Va Bz:=fun X hX=>by rw [← hB];exact Fr.putObj _ _ hX
  have hVB:∀ X:Nat→Prop,X (T + 1)→(∀ k,O k→X k)→Fr X V Bz:=fun X hX hOX=>(hbV.mono fun k hk=>.inl (hOX k hk.1)).then (hAB X hX)
  have hsB:V.heap.size ≤ Bz.heap.size:=(hVB (fun _=>True) trivial fun _ _=>trivial).size
  have hiB:Ip pre x (fun k=>O k∧k ≠ T∧k ≠ T + 1) Bz:=hIp x _ _ _ _ hip (hAB _ (fun h=>h.2.2 rfl))
  refine wpIn_mono (hbody Bz (hAB _ rfl) hiB ⟨_,hlB⟩) ?_
  rintro e a3 W3 ⟨O3,hx3,hb3,hf3,hp⟩
  have hl3:W3.heap[T + 1]? = some (.loop (rec .busy none)):=hf3.at_ hlB (fun h=>by rcases h with h | h;exact h.2.2 rfl;exact hDT1 h)
  have hk3:W3.heap[T]? = some (.deferred (some [])):=hf3.at_ hkB (fun h=>by rcases h with h | h;exact h.2.1 rfl;exact hDT h)
  have n3:∀ k,O3 k→k ≠ T∧k ≠ T + 1:=fun k hk=>by
   rcases hx3 k hk with h | h | h
   ·exact ⟨h.2.1,h.2.2⟩
   ·exact ⟨fun e=>hDT (e ▸ h),fun e=>hDT1 (e ▸ h)⟩
   ·constructor <;> omega
  have eO:(fun k=>(O3 k∨k = T∨k = T + 1)∧k ≠ T∧k ≠ T + 1) = O3:=by
   funext k
   apply propext
   constructor
   ·rintro ⟨h | h | h,h1,h2⟩
    ·exact h
    ·exact absurd h h1
    ·exact absurd h h2
   ·intro h
    exact ⟨.inl h,n3 k h⟩
  have hxO:∀ k,(O3 k∨k = T∨k = T + 1)→O k∨D k∨V.heap.size ≤ k:=fun k hk=>by
   rcases hk with hk | rfl | rfl
   ·rcases hx3 k hk with h | h | h
    ·exact .inl h.1
    ·exact .inr (.inl h)
    ·exact .inr (.inr (by omega))
   ·exact .inl hT0
   ·exact .inl hT1
  have hs3:=hf3.size
  have fin:∀ (jump:Option Code),∃ W4,(Instr.endRound (T + 1) jump).run P W3 = .ok (.bool jump.isNone) W4∧W4.heap[T + 1]? = some (.loop (rec (if jump.isNone then .ready else .done) jump))∧W4.heap[T]? = some (.deferred (some []))∧T + 2 ≤ W4.heap.size∧(∀ X:Nat→Prop,X (T + 1)→Fr X W3 W4):=fun jump=>by
   have hr:=run_endRound (P:=P) jump hl3
   have hh:({ rec .busy none with state:=(if jump.isNone then LoopState.ready else .done),pending:=jump }:Loop) = rec (if jump.isNone then .ready else .done) jump:=by rw [← hrec]
   rw [hh] at hr
   exact ⟨_,hr,World.putObj_heap_same (Array.getElem?_eq_some_iff.1 hl3).1,(World.putObj_heap_other (by omega)).trans hk3,by simp [World.putObj];omega,fun X hX=>Fr.putObj _ _ hX⟩
  have hfV:∀ W4,(∀ X:Nat→Prop,X (T + 1)→Fr X W3 W4)→Fr (fun k=>O k∨D k) V W4:=fun W4 h4 =>
   ((hVB (fun k=>O k∨D k) (.inl hT1) fun k h=>.inl h).trans hf3 (fun k hk=>by rcases hk with hk | hk;exact .inl (.inl hk.1);exact .inl (.inr hk))).then (h4 _ (.inl hT1))
  have hbd:∀ W4,(∀ X:Nat→Prop,X (T + 1)→Fr X W3 W4)→Bd (fun k=>O3 k∨k = T∨k = T + 1) W4:=fun W4 h4 k hk=>by
   have h5:=(h4 (fun _=>True) trivial).size
   rcases hk with hk | hk | hk
   ·have:=hb3 k hk;omega
   ·omega
   ·omega
  have n5:∀ k,¬ ¬ O3 k→k ≠ T + 1:=fun k h=>(n3 k (Classical.not_not.1 h)).2
  have keep:∀ W4,(∀ X:Nat→Prop,X (T + 1)→Fr X W3 W4)→Fr (fun k=>¬ O3 k) W3 W4:=fun W4 h4=>h4 _ (fun h=>(n3 _ h).2 rfl)
  cases e with
  | normal =>
    obtain ⟨W4,hr,hl4,hk4,hs4,h4⟩:=fin none
    exact ⟨_,_,hr,_,hxO,hbd _ h4,hfV _ h4,.inl ⟨rfl,by rw [eO];exact hI _ _ _ _ hp (keep _ h4),.inr (.inl rfl),.inr (.inr rfl),hs4,hl4,hk4⟩⟩
  | ret =>
    obtain ⟨W4,hr,hl4,hk4,hs4,h4⟩:=fin (some .ret)
    exact ⟨_,_,hr,_,hxO,hbd _ h4,hfV _ h4,.inr ⟨rfl,⟨_,by rw [eO];exact hIx _ _ _ _ _ hp (keep _ h4),hl4⟩,.inr (.inl rfl),.inr (.inr rfl),hs4,hk4⟩⟩
  | exit id =>
    obtain ⟨W4,hr,hl4,hk4,hs4,h4⟩:=fin (some (.exit id))
    exact ⟨_,_,hr,_,hxO,hbd _ h4,hfV _ h4,.inr ⟨rfl,⟨_,by rw [eO];exact hIx _ _ _ _ _ hp (keep _ h4),hl4⟩,.inr (.inl rfl),.inr (.inr rfl),hs4,hk4⟩⟩
  | goto t =>
    obtain ⟨W4,hr,hl4,hk4,hs4,h4⟩:=fin (some (.goto t))
    exact ⟨_,_,hr,_,hxO,hbd _ h4,hfV _ h4,.inr ⟨rfl,⟨_,by rw [eO];exact hIx _ _ _ _ _ hp (keep _ h4),hl4⟩,.inr (.inl rfl),.inr (.inr rfl),hs4,hk4⟩⟩
  | panic ch=>exact hp.elim
  | outgrown=>exact hp.elim
 case behind =>
  rintro e W2 ⟨⟨v,rfl⟩,O2,hx2,hb2,hf2,h⟩
  have hfw:∀ W4,(∀ X:Nat→Prop,X (T + 1)→Fr X W2 W4)→Fr (fun k=>O0 k∨M k) w W4:=fun W4 h4 =>
   ((hf1 (fun k=>O0 k∨M k)).trans hf2 (fun k hk=>by
     rcases hk with (hk | hk | hk) | hk
     ·exact .inl (.inl hk)
     ·exact .inr (by omega)
     ·exact .inr (by omega)
     ·exact .inl (.inr hk))).trans (h4 (fun k=>k = T + 1) rfl) (fun k hk=>.inr (by omega))
  have hx:∀ k,(O2 k∧k ≠ T∧k ≠ T + 1)→O0 k∨T ≤ k:=fun k hk=>by
   rcases hx2 k hk.1 with (h | h | h) | h
   ·exact .inl h
   ·exact .inr (by omega)
   ·exact .inr (by omega)
   ·exact .inr (by omega)
  have hput:∀ (o:Obj),∀ X:Nat→Prop,X (T + 1)→Fr X W2 (W2.putObj (T + 1) o):=fun o X hX=>Fr.putObj _ _ hX
  rcases h with ⟨xs,hS,hi,hT0,hT1,hsz,hl,hk⟩ | ⟨pre,hSp,⟨c,hi,hl⟩,hT0,hT1,hsz,hk⟩
  ·have hr:=run_endLoop (P:=P) hl (by rw [rs];simp)
   have hpe:(rec .ready none).pending = none:=by rw [← hrec]
   rw [hpe] at hr
   exact ⟨none,_,hr,hdone _ xs _ _ (Nat.le_refl _) hS (hI _ _ _ _ hi (hput _ _ (fun h=>h.2.2 rfl))) hx (fun k hk=>by have:=hb2 k hk.1;simpa [World.putObj] using this) (fun h=>h.2.1 rfl) (hfw _ (hput _)) ((World.putObj_heap_other (by omega)).trans hk)⟩
  ·have hr:=run_endLoop (P:=P) hl (by rw [rs];simp)
   have hpe:(rec .done (some c)).pending = some c:=by rw [← hrec]
   rw [hpe] at hr
   exact ⟨some c,_,hr,hstop _ c pre _ _ (Nat.le_refl _) hSp (hIx c _ _ _ _ hi (hput _ _ (fun h=>h.2.2 rfl))) hx (fun k hk=>by have:=hb2 k hk.1;simpa [World.putObj] using this) (fun h=>h.2.1 rfl) (hfw _ (hput _)) ((World.putObj_heap_other (by omega)).trans hk)⟩
end
end
end Go.Proofs.YteekjfgjmccdnaaGreatDoor
