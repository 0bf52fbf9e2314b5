/-
  
-/
import Derived.WalkKit
import Derived.Lib.Hide
import Derived.Deep.QuietTactic
import Derived.BigQuiet
import Derived.Shelf.RegionOpen
import Derived.WalkSpells
import Derived.WalkLawsBesides
import Derived.Lib.Walk
import Derived.Lib.MinMax
import Derived.IntWalk
import Derived.Test.YteekjfgjmccdnaaGreatDoorChecked
import Derived.Orders
import Derived.Tactics
import Derived.Below
import Derived.OrdersIn
import Derived.TacticsIn
import Derived.KernelRfl
set_option maxHeartbeats 16000000
set_option maxRecDepth 100000
namespace Go.Proofs.YteekjfgjmccdnaaGreatDoor
section -- Base
open Go Go.RowKit
def Sl (w:World) (B sz:Nat) (v:Value) (n:Nat) (xs:List Value):Prop :=
 ∃ A c,v = .slice A n c∧n ≤ c∧c ≤ maxLen∧xs.length = n * sz∧(0 < n→∃ b o,A = some ⟨b,o,none⟩∧b < B∧∀ j u,xs[j]? = some u→w.cell? ⟨b,o + j,none⟩ = some u)
section
variable {w w':World} {B B' sz n:Nat} {v:Value} {xs:List Value}
theorem Sl.nil (w:World) (B sz:Nat):Sl w B sz (.slice none 0 0) 0 []:=⟨_,_,rfl,Nat.le_refl _,by decide,by simp,fun h=>absurd h (by omega)⟩
theorem Sl.form (h:Sl w B sz v n xs):∃ A c,v = .slice A n c:=⟨_,_,h.choose_spec.choose_spec.1⟩
theorem Sl.keep (h:Sl w B sz v n xs) (hk:∀ p:Addr,p.block < B→w'.cell? p = w.cell? p):Sl w' B sz v n xs:=by
 obtain ⟨A,c,rfl,h1,h2,hl,hc⟩:=h;refine ⟨A,c,rfl,h1,h2,hl,fun hn=>?_⟩;obtain ⟨b,o,rfl,hb,hc⟩:=hc hn;exact ⟨b,o,rfl,hb,fun j u hu=>(hk _ hb).trans (hc j u hu)⟩
theorem Sl.more (h:Sl w B sz v n xs) (hB:B ≤ B'):Sl w B' sz v n xs:=by
 obtain ⟨A,c,rfl,h1,h2,hl,hc⟩:=h;refine ⟨A,c,rfl,h1,h2,hl,fun hn=>?_⟩;obtain ⟨b,o,rfl,hb,hc⟩:=hc hn;exact ⟨b,o,rfl,by omega,hc⟩
theorem Sl.below (h:Sl w B sz v n xs) (hb:Below B w w'):Sl w' B sz v n xs:=h.keep fun _ hp=>hb.cell hp
theorem Sl.alloc (h:Sl w B sz v n xs) (hB:B ≤ w.heap.size) (o:Obj):Sl (w.alloc o) B sz v n xs:=h.keep fun p hp=>World.cell?_alloc_lt w o p (by omega)
theorem Sl.of_own {base:Nat} {e:TypeId} (h:w.ownsRow base e sz v n xs):Sl w w.heap.size sz v n xs:=by
 rcases h.2 with ⟨rfl,rfl⟩ | ⟨g,cap,cur,rfl,hb,hg,hnc,hm,hcs,htake⟩
 ·exact ⟨none,0,rfl,Nat.le_refl _,by decide,h.1,fun hn=>absurd hn (by omega)⟩
 ·refine ⟨_,_,rfl,hnc,hm,h.1,fun _=>⟨g,0,rfl,(Array.getElem?_eq_some_iff.1 hg).1,fun j u hu=>?_⟩⟩;have:=h.cells (g:=g) rfl j u hu
  rwa [Addr.add_lit] at this
theorem Sl.at_ (h:Sl w B sz v n xs) (hn:0 < n):∃ b o c,v = .slice (some ⟨b,o,none⟩) n c∧b < B∧∀ j u,xs[j]? = some u→w.cell? ⟨b,o + j,none⟩ = some u:=by
 obtain ⟨A,c,rfl,-,-,hl,hc⟩:=h;obtain ⟨b,o,rfl,hb,hc⟩:=hc hn;exact ⟨b,o,c,rfl,hb,hc⟩
theorem Sl.mk_ {b o c:Nat} (h1:n ≤ c) (h2:c ≤ maxLen) (hl:xs.length = n * sz) (hb:b < B) (hc:∀ j u,xs[j]? = some u→w.cell? ⟨b,o + j,none⟩ = some u):Sl w B sz (.slice (some ⟨b,o,none⟩) n c) n xs :=
 ⟨_,_,rfl,h1,h2,hl,fun _=>⟨b,o,rfl,hb,hc⟩⟩
end
theorem cell_new (w:World) (C:Array Value) (t:TypeId) (fr:Nat × Nat) (i:Nat):(w.alloc (.cells C t fr)).cell? ⟨w.heap.size,i,none⟩ = C[i]?:=by
 have h:(w.alloc (.cells C t fr)).heap[w.heap.size]? = some (.cells C t fr):=heap_alloc_new w _;unfold World.cell?;rw [h]
 rfl
section
variable {w:World} {base e sz g n c:Nat} {v:Value} {xs:List Value}
end
section
variable {w w':World} {B B':Nat} {v:Value} {l:List UInt8}
end
end
section -- CMath
open Go
def aheadV:Nat→Int
 | 0=>0 | 1=>31 | 2=>59 | 3=>90 | 4=>120 | 5=>151 | 6=>181 | 7=>212 | 8=>243 | 9=>273 | 10=>304 | 11=>334 | _=>365
def leapB (y:Int):Bool:=decide (y % 4 = 0∧(y % 100 ≠ 0∨y % 400 = 0))
def leapsV (y:Int):Int:=if leapB y then 1 else 0
theorem leapsV_in (y:Int):0 ≤ leapsV y∧leapsV y ≤ 1:=by unfold leapsV;split <;> omega
def yearV (y:Int):Int:=(y - 1) * 365 + (y - 1) / 4 - (y - 1) / 100 + (y - 1) / 400 - 719162
def startV (y m:Int):Int:=aheadV (m - 1).toNat + if 2 < m then leapsV y else 0
def lenV (y m:Int):Int:=aheadV m.toNat - aheadV (m - 1).toNat + if m = 2 then leapsV y else 0
def ymB (y m:Int):Bool:=decide (-100000 ≤ y∧y ≤ 100000∧1 ≤ m∧m ≤ 12)
def longV (y m:Int):Int × Int:=if ymB y m then (lenV y m,0) else (0,10)
def dateB (y m d:Int):Bool:=ymB y m && decide (1 ≤ d∧d ≤ lenV y m)
def dayV (y m d:Int):Int:=yearV y + startV y m + d - 1
def weekV (n:Int):Int:=(n % 7 + 4) % 7
theorem tmod_zero (a b:Int):a.tmod b = 0 ↔ a % b = 0:=⟨fun h=>Int.emod_eq_zero_of_dvd (Int.dvd_of_tmod_eq_zero h),fun h=>Int.tmod_eq_zero_of_dvd (Int.dvd_of_emod_eq_zero h)⟩
theorem aheadV_in (k:Nat):0 ≤ aheadV k∧aheadV k ≤ 365:=by
 unfold aheadV
 split <;> omega
theorem lenV_in {y m:Int} (h1:1 ≤ m) (h2:m ≤ 12):28 ≤ lenV y m∧lenV y m ≤ 31:=by
 have hl:=leapsV_in y;unfold lenV
 rcases (by omega:m = 1∨m = 2∨m = 3∨m = 4∨m = 5∨m = 6∨m = 7∨m = 8∨m = 9∨m = 10∨m = 11∨m = 12) with h | h | h | h | h | h | h | h | h | h | h | h <;> subst h <;> simp [aheadV] <;> omega
theorem startV_in (y m:Int):0 ≤ startV y m∧startV y m ≤ 366:=by
 have hl:=leapsV_in y;have ha:=aheadV_in (m - 1).toNat;unfold startV
 split <;> omega
theorem startV_next {y m:Int} (h1:1 ≤ m) (h2:m < 12):startV y (m + 1) = startV y m + lenV y m:=by
 have hl:=leapsV_in y;unfold lenV startV
 rcases (by omega:m = 1∨m = 2∨m = 3∨m = 4∨m = 5∨m = 6∨m = 7∨m = 8∨m = 9∨m = 10∨m = 11) with h | h | h | h | h | h | h | h | h | h | h <;> subst h <;> simp [aheadV] <;> omega
theorem startV_dec {y:Int}:startV y 12 + lenV y 12 = 365 + leapsV y:=by
 unfold lenV startV;simp [aheadV];omega
theorem yearV_in {y:Int} (h1:-100001 ≤ y) (h2:y ≤ 100001):-40000000 ≤ yearV y∧yearV y ≤ 40000000:=by
 unfold yearV;omega
theorem dateB_in {y m d:Int} (h:dateB y m d = true):-100000 ≤ y∧y ≤ 100000∧1 ≤ m∧m ≤ 12∧1 ≤ d∧d ≤ lenV y m:=by
 unfold dateB ymB at h;simp only [Bool.and_eq_true,decide_eq_true_eq] at h;exact ⟨h.1.1,h.1.2.1,h.1.2.2.1,h.1.2.2.2,h.2.1,h.2.2⟩
theorem dayV_in {y m d:Int} (h:dateB y m d = true):-50000000 ≤ dayV y m d∧dayV y m d ≤ 50000000:=by
 obtain ⟨a,b,c,e,f,g⟩:=dateB_in h;have h1:=yearV_in (y:=y) (by omega) (by omega);have h2:=startV_in y m;have h3:=lenV_in (y:=y) c e;unfold dayV;omega
theorem weekV_in (n:Int):0 ≤ weekV n∧weekV n ≤ 6:=by unfold weekV;omega
theorem floor_eq {a b:Int} (hb:0 < b):a / b = if a.tmod b ≠ 0∧a < 0 then a.tdiv b - 1 else a.tdiv b:=by
 have hs:b.sign = 1:=Int.sign_eq_one_of_pos hb;rw [Int.tdiv_eq_ediv,hs]
 by_cases h0:a.tmod b = 0
 ·rw [if_neg (by omega),if_pos (Or.inr (Int.dvd_of_tmod_eq_zero h0))];omega
 ·have hd:¬ b ∣ a:=fun h=>h0 (Int.tmod_eq_zero_of_dvd h)
  by_cases ha:a < 0
  ·rw [if_pos ⟨h0,ha⟩,if_neg (by rintro (h | h);omega;exact hd h)];omega
  ·rw [if_neg (by omega),if_pos (Or.inl (by omega))];omega
theorem mod_eq {a b:Int} (hb:0 < b):a % b = if a.tmod b ≠ 0∧a.tmod b < 0 then a.tmod b + b else a.tmod b:=by
 have h2:=Int.tmod_eq_emod (a:=a) (b:=b);have h5:=Int.emod_nonneg a (show b ≠ 0 by omega);have h6:=Int.emod_lt_of_pos a hb;have h7:=Int.lt_tmod_of_pos a hb
 by_cases h0:a.tmod b = 0
 ·rw [if_neg (by omega),h0];exact (tmod_zero a b).1 h0
 ·have hd:¬ b ∣ a:=fun h=>h0 (Int.tmod_eq_zero_of_dvd h)
  by_cases ha:0 ≤ a
  ·rw [if_pos (Or.inl ha)] at h2;rw [if_neg (by omega)];omega
  ·rw [if_neg (by rintro (h | h);exact ha h;exact hd h)] at h2;rw [if_pos (by omega)];omega
end
section -- Civil
open Go Go.RowKit Go.Shelf
theorem div_ge {a b:Int} (hb:0 < b) (ha:a ≤ 0):a ≤ a / b:=by
 refine (Int.le_ediv_iff_mul_le hb).2 ?_;have:a * b ≤ a * 1:=Int.mul_le_mul_of_nonpos_left ha (show (1:Int) ≤ b by omega);omega
theorem leap_any (y:Int) (w:World) :
  Calls Tryz.prog 154 #[.int .i64 y] w fun e w'=>e = .returned (.bool (leapB y))∧w' = w:=by
 have z4:=tmod_zero y 4;have z1:=tmod_zero y 100;have z0:=tmod_zero y 400
 by_cases h4:y.tmod 4 = 0
 ·by_cases h1:y.tmod 100 = 0
  ·by_cases h0:y.tmod 400 = 0
   ·have HL:=Lib.hid (show leapB y = true by unfold leapB;rw [decide_eq_true_eq];omega);clear z4 z1 z0;go_enter Tryz.func154,Tryz.ntmps154;go_wp2_with fail;go_ret;exact ⟨by rw [HL.out];rfl,rfl⟩
   ·have HL:=Lib.hid (show leapB y = false by unfold leapB;rw [decide_eq_false_iff_not];omega);have e0:(y.tmod 400 == 0) = false:=by simpa using h0
    clear z4 z1 z0;go_enter Tryz.func154,Tryz.ntmps154;go_wp2_with fail;go_ret;exact ⟨by rw [HL.out];rfl,rfl⟩
  ·have HL:=Lib.hid (show leapB y = true by unfold leapB;rw [decide_eq_true_eq];omega);have e1:(y.tmod 100 != 0) = true:=by simpa using h1
   clear z4 z1 z0;go_enter Tryz.func154,Tryz.ntmps154;go_wp2_with fail;go_ret;exact ⟨by rw [HL.out];rfl,rfl⟩
 ·have HL:=Lib.hid (show leapB y = false by unfold leapB;rw [decide_eq_false_iff_not];omega);have e4:(y.tmod 4 == 0) = false:=by simpa using h4
  clear z4 z1 z0;go_enter Tryz.func154,Tryz.ntmps154;go_wp2_with fail;go_ret;exact ⟨by rw [HL.out];rfl,rfl⟩
theorem leaps_any (y:Int) (w:World) :
  Calls Tryz.prog 123 #[.int .i64 y] w fun e w'=>e = .returned (.int .i64 (leapsV y))∧w' = w:=by
 have HL:=Lib.hid (leap_any y w)
 cases h:leapB y
 ·have HV:=Lib.hid (show leapsV y = 0 by unfold leapsV;rw [h];rfl);rw [h] at HL;clear h;go_enter Tryz.func123,Tryz.ntmps123;go_wp2_with fail;refine HL.out.mono ?_;rintro e w1 ⟨rfl,rfl⟩;go_wp2_with fail;go_ret;exact ⟨by rw [HV.out];rfl,rfl⟩
 ·have HV:=Lib.hid (show leapsV y = 1 by unfold leapsV;rw [h];rfl);rw [h] at HL;clear h;go_enter Tryz.func123,Tryz.ntmps123;go_wp2_with fail;refine HL.out.mono ?_;rintro e w1 ⟨rfl,rfl⟩;go_wp2_with fail;go_ret;exact ⟨by rw [HV.out];rfl,rfl⟩
theorem div_any (a b:Int) (hb:0 < b) (ha:-9223372036854775808 ≤ a) (ha2:a ≤ 9223372036854775807) (w:World) :
  Calls Tryz.prog 48 #[.int .i64 a,.int .i64 b] w fun e w'=>e = .returned (.tuple #[.int .i64 (a / b),.int .i64 0])∧w' = w:=by
 have hF:=floor_eq (a:=a) hb;have hG:=fun h=>div_ge (a:=a) hb h
 have e1:(b == 0) = false:=by simp;omega
 have e2:(b == -1) = false:=by simp;omega
 have e3:decide (b < 0) = false:=by simp;omega
 by_cases h:a.tmod b = 0
 ·rw [if_neg (by omega)] at hF;rw [hF];have e4:(a.tmod b != 0) = false:=by simpa using h
  clear hF hG h;go_enter Tryz.func48,Tryz.ntmps48;go_wp2_with fail;refine bodyPost_ret (v:=.tuple #[.int .i64 (a.tdiv b),.int .i64 0]) ?_ rfl ⟨rfl,rfl⟩;simp [results,Tryz.f48,go_sem, *]
 ·have e4:(a.tmod b != 0) = true:=by simpa using h
  by_cases h2:a < 0
  ·rw [if_pos ⟨h,h2⟩] at hF;have hg:=hG (by omega)
   have hq:wrap64 (a.tdiv b - 1) = a.tdiv b - 1:=IntWalk.wrap64_in _ (by
    have:=Int.ediv_neg_of_neg_of_pos h2 hb
    omega)
   rw [hF];have e5:decide (a < 0) = true:=decide_eq_true h2;clear hF hG h hg h2;go_enter Tryz.func48,Tryz.ntmps48;go_wp2_with fail;refine bodyPost_ret (v:=.tuple #[.int .i64 (a.tdiv b - 1),.int .i64 0]) ?_ rfl ⟨rfl,rfl⟩;simp [results,Tryz.f48,go_sem, *]
  ·rw [if_neg (by omega)] at hF;rw [hF];have e5:decide (a < 0) = false:=decide_eq_false h2;clear hF hG h h2;go_enter Tryz.func48,Tryz.ntmps48;go_wp2_with fail;refine bodyPost_ret (v:=.tuple #[.int .i64 (a.tdiv b),.int .i64 0]) ?_ rfl ⟨rfl,rfl⟩;simp [results,Tryz.f48,go_sem, *]
theorem floor_any (a b:Int) (hb:0 < b) (ha:-9223372036854775808 ≤ a) (ha2:a ≤ 9223372036854775807) (w:World) :
  Calls Tryz.prog 87 #[.int .i64 a,.int .i64 b] w fun e w'=>e = .returned (.int .i64 (a / b))∧w' = w:=by
 have HD:=Lib.hid (div_any a b hb ha ha2 w);generalize a / b = q at *;go_enter Tryz.func87,Tryz.ntmps87;go_wp2_with fail;refine HD.out.mono ?_;rintro e w1 ⟨rfl,rfl⟩;go_wp2_with fail;go_ret;exact ⟨rfl,rfl⟩
theorem mod_any (a b:Int) (hb:0 < b) (hb2:b < 4611686018427387904) (w:World) :
  Calls Tryz.prog 177 #[.int .i64 a,.int .i64 b] w fun e w'=>e = .returned (.tuple #[.int .i64 (a % b),.int .i64 0])∧w' = w:=by
 have hF:=mod_eq (a:=a) hb;have h6:=Int.lt_tmod_of_pos a hb;have h7:=Int.tmod_lt_of_pos a hb;have e1:(b == 0) = false:=by simp;omega
 have e3:decide (b < 0) = false:=by simp;omega
 by_cases h:a.tmod b = 0
 ·rw [if_neg (by omega)] at hF;rw [hF];have e4:(a.tmod b != 0) = false:=by simpa using h
  clear hF h h6 h7;go_enter Tryz.func177,Tryz.ntmps177;go_wp2_with fail;refine bodyPost_ret (v:=.tuple #[.int .i64 (a.tmod b),.int .i64 0]) ?_ rfl ⟨rfl,rfl⟩;simp [results,Tryz.f177,go_sem, *]
 ·have e4:(a.tmod b != 0) = true:=by simpa using h
  by_cases h2:a.tmod b < 0
  ·rw [if_pos ⟨h,h2⟩] at hF;have hq:wrap64 (a.tmod b + b) = a.tmod b + b:=IntWalk.wrap64_in _ ⟨by omega,by omega⟩;rw [hF];have e5:decide (a.tmod b < 0) = true:=decide_eq_true h2;clear hF h h2 h6 h7;go_enter Tryz.func177,Tryz.ntmps177;go_wp2_with fail;refine bodyPost_ret (v:=.tuple #[.int .i64 (a.tmod b + b),.int .i64 0]) ?_ rfl ⟨rfl,rfl⟩;simp [results,Tryz.f177,go_sem, *]
  ·rw [if_neg (by omega)] at hF;rw [hF];have e5:decide (a.tmod b < 0) = false:=decide_eq_false h2;clear hF h h2 h6 h7;go_enter Tryz.func177,Tryz.ntmps177;go_wp2_with fail;refine bodyPost_ret (v:=.tuple #[.int .i64 (a.tmod b),.int .i64 0]) ?_ rfl ⟨rfl,rfl⟩;simp [results,Tryz.f177,go_sem, *]
theorem weekday_any (n:Int) (w:World) :
  Calls Tryz.prog 153 #[.int .i64 n] w fun e w'=>e = .returned (.int .i64 (weekV n))∧w' = w:=by
 have HD:=Lib.hid (mod_any n 7 (by omega) (by omega) w);have h1:0 ≤ n % 7:=by omega
 have h2:n % 7 < 7:=by omega
 have HV:=Lib.hid (show weekV n = (n % 7 + 4) % 7 from rfl);generalize n % 7 = q at *;go_enter Tryz.func153,Tryz.ntmps153;go_wp2_with fail;refine HD.out.mono ?_;rintro e w1 ⟨rfl,rfl⟩;go_wp2_with fail;go_ret;exact ⟨by rw [HV.out];rfl,rfl⟩
theorem year_any (y:Int) (h1:-100001 ≤ y) (h2:y ≤ 100001) (w:World) :
  Calls Tryz.prog 86 #[.int .i64 y] w fun e w'=>e = .returned (.int .i64 (yearV y))∧w' = w:=by
 have H4:=Lib.hid (floor_any (y - 1) 4 (by omega) (by omega) (by omega) w);have H1:=Lib.hid (floor_any (y - 1) 100 (by omega) (by omega) (by omega) w);have H0:=Lib.hid (floor_any (y - 1) 400 (by omega) (by omega) (by omega) w);have HV:=Lib.hid (show yearV y = (y - 1) * 365 + (y - 1) / 4 - (y - 1) / 100 + (y - 1) / 400 - 719162 from rfl);have b4:-100002 ≤ (y - 1) / 4∧(y - 1) / 4 ≤ 100002:=by omega
 have b1:-100002 ≤ (y - 1) / 100∧(y - 1) / 100 ≤ 100002:=by omega
 have b0:-100002 ≤ (y - 1) / 400∧(y - 1) / 400 ≤ 100002:=by omega
 have b3:-100002 ≤ (y - 1)∧(y - 1) ≤ 100002:=by omega
 generalize (y - 1) / 4 = q4 at *;generalize (y - 1) / 100 = q1 at *;generalize (y - 1) / 400 = q0 at *;go_enter Tryz.func86,Tryz.ntmps86;go_wp2_with fail;refine H4.out.mono ?_;rintro e w1 ⟨rfl,rfl⟩;go_wp2_with fail;refine H1.out.mono ?_;rintro e w1 ⟨rfl,rfl⟩;go_wp2_with fail;refine H0.out.mono ?_;rintro e w1 ⟨rfl,rfl⟩;go_wp2_with fail;go_ret;exact ⟨by rw [HV.out];rfl,rfl⟩
end
section -- Inv
open Go Go.RowKit
structure Fact where
 p:Value→World→Prop
 keep:∀ v w w',p v w→Below w.heap.size w w'→p v w'
def Fact.any:Fact:=⟨fun _ _=>True,fun _ _ _ _ _=>trivial⟩
def Fact.is (u:Value):Fact:=⟨fun v _=>v = u,fun _ _ _ h _=>h⟩
def upd (x:Nat→Value) (d:Nat) (v:Value):Nat→Value:=fun j=>if j = d then v else x j
theorem upd_same (x:Nat→Value) (d:Nat) (v:Value):upd x d v d = v:=by simp [upd]
theorem upd_other (x:Nat→Value) {d j:Nat} (v:Value) (h:j ≠ d):upd x d v j = x j:=by simp [upd,h]
def frameOf (a:Act) (D:List Nat) (x:Nat→Value):Act:=D.foldl (fun a d=>a.put (some d) (x d)) a
theorem frameOf_self (D:List Nat):∀ a:Act,frameOf a D (fun j=>a.tmps.getD j undef) = a:=by
 intro a
 have h:∀ d,a.put (some d) (a.tmps.getD d undef) = a:=fun d=>by
  have e:a.tmps.setIfInBounds d (a.tmps.getD d undef) = a.tmps:=by
   apply Array.ext_getElem?;intro i;rw [Array.getElem?_setIfInBounds]
   split
   ·rename_i hi;subst hi
    split
    ·rename_i hl;simp [hl]
    ·rename_i hl;rw [Array.getElem?_eq_none (by omega)]
   ·rfl
  unfold Act.put;simp only [e]
 unfold frameOf
 induction D with
 | nil=>rfl
 | cons d D ih=>rw [List.foldl_cons,h];exact ih
def unlisted (listed:Array Bool):List Nat:=(List.range listed.size).filter fun k=>!listed.getD k false
theorem getD_set' (listed:Array Bool) (i k:Nat) (d:Bool):(listed.setIfInBounds i true).getD k d = if i = k∧i < listed.size then true else listed.getD k d:=by
 simp only [Array.getD_eq_getD_getElem?,Array.getElem?_setIfInBounds]
 split
 ·rename_i h;subst h
  split
  ·rename_i h;simp [h]
  ·rename_i h;rw [if_neg (fun hh=>h hh.2),Array.getElem?_eq_none (by omega)]
 ·rename_i h;rw [if_neg (fun hh=>h hh.1)]
theorem filter_less (l:List Nat) (p q:Nat→Bool) (hpq:∀ k,q k = true→p k = true) (i:Nat) (hi:i ∈ l) (h1:p i = true) (h2:q i = false):(l.filter q).length < (l.filter p).length:=by
 induction l with
 | nil=>cases hi
 | cons a l ih =>
   have hle:(l.filter q).length ≤ (l.filter p).length:=by
    clear ih hi
    induction l with
    | nil=>exact Nat.le_refl _
    | cons b l ih =>
      simp only [List.filter_cons]
      cases hq:q b with
      | true=>rw [hpq b hq];simpa using ih
      | false=>cases p b <;> simp <;> omega
   simp only [List.filter_cons]
   rcases List.mem_cons.1 hi with rfl | hi
   ·rw [h1,h2];simp;omega
   ·have:=ih hi
    cases hq:q a with
    | true=>rw [hpq a hq];simpa using this
    | false=>cases p a <;> simp <;> omega
theorem unlisted_set {listed:Array Bool} {i:Nat} (hi:i < listed.size) (h:listed.getD i false = false):(unlisted (listed.setIfInBounds i true)).length < (unlisted listed).length:=by
 unfold unlisted;rw [Array.size_setIfInBounds];refine filter_less _ _ _ (fun k hk=>?_) i (List.mem_range.2 hi) (by rw [h];rfl) (by rw [getD_set',if_pos ⟨rfl,hi⟩];rfl);rw [getD_set'] at hk
 split at hk
 ·cases hk
 ·exact hk
section
variable {P:Program} {ops:Array Oper}
def Step (P:Program) (ops:Array Oper) (a:Act) (D:List Nat) (F:List Fact) (w0:World) (i:Nat) (o:Oper):Prop :=
 ∀ (x:Nat→Value) (w:World) (R:Act→World→Prop),Below w0.heap.size w0 w→(∀ j,(o.after.any fun e=>Region.binds .any e && e.on == j) = true→(F.getD j .any).p (x (D.getD j 0)) w) →
  (∀ v w',(F.getD i .any).p v w'→Below w.heap.size w w'→R (frameOf a D (upd x (D.getD i 0) v)) w')→wpList P ops (Exit.then R (fun _ _ _=>False)) [o] (frameOf a D x) w
def Steps (P:Program) (ops:Array Oper) (a:Act) (D:List Nat) (F:List Fact) (w0:World):Nat→List Oper→Prop
 | _,[]=>True
 | k,o :: l=>Step P ops a D F w0 k o∧Steps P ops a D F w0 (k + 1) l
theorem steps_at {a:Act} {D:List Nat} {F:List Fact} {w0:World}:∀ {l:List Oper} {k:Nat},Steps P ops a D F w0 k l→∀ {j:Nat} {o:Oper},l[j]? = some o→Step P ops a D F w0 (k + j) o
 | [],_,_,_,_,h=>by simp at h
 | x :: l,k,hs,0,o,h=>by
   simp only [List.getElem?_cons_zero,Option.some.injEq] at h;subst h;exact hs.1
 | x :: l,k,hs,j + 1,o,h=>by
   rw [List.getElem?_cons_succ] at h;have:=steps_at hs.2 h
   rwa [show k + 1 + j = k + (j + 1) by omega] at this
def invB (ops:Array Oper) (D:List Nat):Bool :=
 (List.range ops.size).all (fun i=>match ops[i]? with | some o=>o.after.all fun e=>!Region.binds .any e || decide (e.on < i) | none=>true) && decide (D.length = ops.size) && decide (D.Nodup)
theorem wp_swapR {o:Oper} {K R R':Act→World→Prop} {a:Act} {w:World} (hh:o.wp P a w K (Exit.then R (fun _ _ _=>False))):o.wp P a w K (Exit.then R' (fun _ _ _=>False)):=by
 unfold Oper.wp at *;generalize (execOp a.eval o).run P w = r at *
 cases r with
 | ok n w' =>
   cases n <;> simp only [Oper.upon] at hh ⊢ <;>
    first
     | exact hh
     | exact Calls.mono hh (fun e w'' he=>by
        cases e
        ·exact he
        ·exact False.elim he
        ·exact absurd he (fun ⟨_,_,h⟩=>h))
     | exact Rows.mono hh (fun _ _ he=>he)
 | halt x w'=>cases x <;> simp only [Oper.upon] at hh ⊢ <;> first | exact hh | exact False.elim hh
theorem wpOp_of_list {i:Nat} {o:Oper} (hi:ops[i]? = some o) {K:Act→World→Prop} {a:Act} {w:World} (R0:Act→World→Prop)
  (h:wpList P ops (Exit.then K (fun _ _ _=>False)) [o] a w):wpOp P ops (Exit.then R0 (fun _ _ _=>False)) i K a w:=by
 unfold wpOp;rw [hi];unfold wpList at h;dsimp only
 split at h
 ·rename_i hc;rw [if_pos hc]
  rcases h with h | h
  ·exact .inl (wp_swapR h)
  ·exact absurd h.2 (fun ⟨_,_,h⟩=>h)
 ·rename_i hc;rw [if_neg hc];exact h
theorem any_inv {a:Act} {D:List Nat} {F:List Fact} {w0:World} {l:List Oper} (ho:ops = l.toArray) (hb:invB ops D = true) (hstep:Steps P ops a D F w0 0 l) {R0:Act→World→Prop}
  (hend:∀ x w',Below w0.heap.size w0 w'→(∀ i,i < ops.size→(F.getD i .any).p (x (D.getD i 0)) w')→R0 (frameOf a D x) w') :
  ∀ (fuel:Nat) (listed:Array Bool),listed.size = ops.size→(unlisted listed).length ≤ fuel→∀ (x:Nat→Value) (w:World),Below w0.heap.size w0 w →
   (∀ i,listed.getD i false = true→(F.getD i .any).p (x (D.getD i 0)) w)→wpAny P .any ops (Exit.then R0 (fun _ _ _=>False)) fuel listed (frameOf a D x) w:=by
 simp only [invB,Bool.and_eq_true,decide_eq_true_eq,List.all_eq_true,List.mem_range] at hb;obtain ⟨⟨hb,hlen⟩,hnd⟩:=hb
 have hnone:∀ (listed:Array Bool),listed.size = ops.size→Region.ready .any ops listed = []→∀ i,i < ops.size→listed.getD i false = true:=fun listed hsz hr i=>by
  induction i using Nat.strongRecOn with
  | _ i ih =>
    intro hi
    cases hl:listed.getD i true with
    | true =>
      have:i < listed.size:=by omega
      simpa [Array.getD,this] using hl
    | false =>
      exfalso
      have:i ∈ Region.ready .any ops listed:=mem_ready.2 ⟨hl,_,Array.getElem?_eq_getElem hi,fun e he hbd=>by
       have h1:=hb i hi
       rw [Array.getElem?_eq_getElem hi] at h1
       have h2:=Array.all_eq_true_iff_forall_mem.1 h1 e he
       simp only [hbd,Bool.not_true,Bool.false_or,decide_eq_true_eq] at h2
       exact ih e.on h2 (by omega)⟩
      rw [hr] at this
      cases this
 intro fuel
 induction fuel with
 | zero =>
   intro listed hsz hf x w hB hF
   have hall:∀ i,i < ops.size→listed.getD i false = true:=fun i hi=>by
    cases hl:listed.getD i false with
    | true=>rfl
    | false =>
      have:i ∈ unlisted listed:=by
       simp only [unlisted,List.mem_filter,List.mem_range];refine ⟨by omega,by rw [hl];rfl⟩
      rw [List.eq_nil_of_length_eq_zero (Nat.le_zero.1 hf)] at this
      cases this
   refine ⟨?_,hend x w hB fun i hi=>hF i (hall i hi)⟩
   rcases hr:Region.ready .any ops listed with _ | ⟨i,l'⟩
   ·rfl
   ·have hi:i ∈ Region.ready .any ops listed:=by rw [hr];exact List.mem_cons_self ..
    obtain ⟨h0,o,ho,_⟩:=mem_ready.1 hi;have hi:=(Array.getElem?_eq_some_iff.1 ho).1;have h1:=hall i hi;have:i < listed.size:=by omega
    simp only [Array.getD,this,dif_pos] at h0 h1;rw [h0] at h1
    cases h1
 | succ fuel ih =>
   intro listed hsz hf x w hB hF;refine ⟨fun hr=>hend x w hB fun i hi=>hF i (hnone listed hsz hr i hi),fun i hi=>?_⟩;obtain ⟨h0,o,hio,hall⟩:=mem_ready.1 hi;have hin:=(Array.getElem?_eq_some_iff.1 hio).1;have hl:l[i]? = some o:=by rw [ho] at hio;simpa using hio
   have hst:=steps_at hstep hl;rw [Nat.zero_add] at hst;refine wpOp_of_list hio _ (hst x w _ hB (fun j hj=>?_) fun v w' hv hw=>ih (listed.setIfInBounds i true) (by simpa using hsz) ?_ _ w' (hB.trans (hw.mono hB.size)) fun k hk=>?_)
   ·obtain ⟨e,he,hej⟩:=Array.any_eq_true'.1 hj;simp only [Bool.and_eq_true,beq_iff_eq] at hej;have:=hall e he hej.1;rw [hej.2] at this;exact hF j this
   ·have:=unlisted_set (listed:=listed) (i:=i) (by omega) (by
     have:i < listed.size:=by omega
     simpa [Array.getD,this] using h0)
    omega
   ·rw [getD_set'] at hk
    by_cases hik:i = k
    ·subst hik;rw [upd_same];exact hv
    ·rw [if_neg (fun h=>hik h.1)] at hk
     have hks:k < listed.size:=by
      refine Nat.lt_of_not_le fun h=>?_
      simp [Array.getD,show ¬ k < listed.size by omega] at hk
     have hne:D.getD k 0 ≠ D.getD i 0:=by
      rw [List.getD_eq_getElem?_getD,List.getD_eq_getElem?_getD,List.getElem?_eq_getElem (show k < D.length by omega),List.getElem?_eq_getElem (show i < D.length by omega)];intro e;simp only [Option.getD_some] at e;have hp:=List.pairwise_iff_getElem.1 hnd
      rcases Nat.lt_or_ge k i with h | h
      ·exact hp k i (by omega) (by omega) h e
      ·exact hp i k (by omega) (by omega) (by omega) e.symm
     rw [upd_other x v hne];exact (F.getD k .any).keep _ _ _ (hF k hk) hw
theorem wp_inv {id:Nat} {l:List Oper} {Q:Exit→Act→World→Prop} {a:Act} {w:World} (hm:P.follows .mixedOrders = true) (D:List Nat) (F:List Fact) (hb:invB l.toArray D = true)
  (hstep:Steps P l.toArray a D F w 0 l)
  (hend:∀ x w',Below w.heap.size w w'→(∀ i,i < l.toArray.size→(F.getD i .any).p (x (D.getD i 0)) w')→Q .normal (frameOf a D x) w'):(Code.region id l.toArray true).wp P Q a w:=by
 have h:=any_inv (ops:=l.toArray) (R0:=fun b w'=>Q .normal b w') rfl hb hstep hend l.toArray.size (Array.replicate l.toArray.size false) (by simp) (by
  refine Nat.le_trans (List.length_filter_le _ _) ?_
  simp) (fun j=>a.tmps.getD j undef) w.drew ((Below.refl _ _).drew) (fun i hi=>by simp [Array.getD] at hi)
 rw [frameOf_self] at h;refine wp_mono (wp_region_any (id:=id) hm h) fun e a w q=>?_
 cases e with
 | normal=>exact q
 | _=>exact q.elim
end
end
section -- InvIn
open Go Go.RowKit
section
variable {F:Fence} {n:Nat} {P:Program} {ops:Array Oper}
def more (L:Nat→Bool) (i:Nat):Nat→Bool:=fun j=>decide (j = i) || L j
def depB (ops:Array Oper) (i j:Nat):Bool:=match ops[i]? with | some o=>o.after.any fun e=>Region.binds .any e && e.on == j | none=>false
def ShutI (ops:Array Oper) (L:Nat→Bool):Prop:=∀ i j,depB ops i j = true→L i = true→L j = true
def StepI (F:Fence) (n:Nat) (P:Program) (ops:Array Oper) (a:Act) (D:List Nat) (Inv:(Nat→Bool)→(Nat→Value)→World→Prop) (i:Nat) (o:Oper):Prop :=
 ∀ (L:Nat→Bool) (x:Nat→Value) (w:World) (R:Act→World→Prop),Inv L x w→ShutI ops L→L i = false→(∀ j,(o.after.any fun e=>Region.binds .any e && e.on == j) = true→L j = true) →
  (∀ v w',Inv (more L i) (upd x (D.getD i 0) v) w'→R (frameOf a D (upd x (D.getD i 0) v)) w')→wpListIn F n P ops (Exit.then R (fun _ _ _=>False)) [o] (frameOf a D x) w
def StepsI (F:Fence) (n:Nat) (P:Program) (ops:Array Oper) (a:Act) (D:List Nat) (Inv:(Nat→Bool)→(Nat→Value)→World→Prop):Nat→List Oper→Prop
 | _,[]=>True
 | k,o :: l=>StepI F n P ops a D Inv k o∧StepsI F n P ops a D Inv (k + 1) l
theorem stepsI_at {a:Act} {D:List Nat} {Inv:(Nat→Bool)→(Nat→Value)→World→Prop}:∀ {l:List Oper} {k:Nat},StepsI F n P ops a D Inv k l→∀ {j:Nat} {o:Oper},l[j]? = some o→StepI F n P ops a D Inv (k + j) o
 | [],_,_,_,_,h=>by simp at h
 | x :: l,k,hs,0,o,h=>by
   simp only [List.getElem?_cons_zero,Option.some.injEq] at h;subst h;exact hs.1
 | x :: l,k,hs,j + 1,o,h=>by
   rw [List.getElem?_cons_succ] at h;have:=stepsI_at hs.2 h
   rwa [show k + 1 + j = k + (j + 1) by omega] at this
theorem wpIn_swapR {o:Oper} {K R R':Act→World→Prop} {a:Act} {w:World} (hh:o.wpIn F n P a w K (Exit.then R (fun _ _ _=>False))):o.wpIn F n P a w K (Exit.then R' (fun _ _ _=>False)):=by
 unfold Oper.wpIn at *;refine ⟨hh.1,?_⟩;have hh:=hh.2;generalize (o.semAt F.round a.eval).run P w = r at *
 cases r with
 | ok x w' =>
   cases x <;> simp only [Oper.uponIn] at hh ⊢ <;>
    first
     | exact hh
     | exact ⟨hh.1,CallsIn.mono hh.2 (fun e w'' he=>by
        cases e
        ·exact he
        ·exact False.elim he
        ·exact absurd he (fun ⟨_,_,h⟩=>h))⟩
     | exact ⟨hh.1,RowsIn.mono hh.2 (fun _ _ he=>he)⟩
     | exact ⟨hh.1,RoundIn.mono hh.2 (fun e w'' he=>by
        cases e
        ·exact he
        ·exact False.elim he
        ·exact absurd he (fun ⟨_,_,h⟩=>h))⟩
 | halt x w'=>cases x <;> simp only [Oper.uponIn] at hh ⊢ <;> first | exact hh | exact False.elim hh
theorem wpOpIn_of_list {i:Nat} {o:Oper} (hi:ops[i]? = some o) {K:Act→World→Prop} {a:Act} {w:World} (R0:Act→World→Prop)
  (h:wpListIn F n P ops (Exit.then K (fun _ _ _=>False)) [o] a w):wpOpIn F n P ops (Exit.then R0 (fun _ _ _=>False)) i K a w:=by
 unfold wpOpIn;rw [hi];unfold wpListIn at h;dsimp only
 split at h
 ·rename_i hc;rw [if_pos hc];exact wpIn_swapR h
 ·rename_i hc;rw [if_neg hc];exact h
def seen (listed:Array Bool):Nat→Bool:=fun i=>listed.getD i false
theorem seen_set {listed:Array Bool} {i:Nat} (hi:i < listed.size):seen (listed.setIfInBounds i true) = more (seen listed) i:=by
 funext k
 unfold seen more;rw [getD_set']
 by_cases h:i = k
 ·subst h;rw [if_pos ⟨rfl,hi⟩];simp
 ·rw [if_neg (fun hh=>h hh.1)];have:decide (k = i) = false:=decide_eq_false (fun e=>h e.symm);rw [this];rfl
theorem anyIn_inv {a:Act} {D:List Nat} {Inv:(Nat→Bool)→(Nat→Value)→World→Prop} {l:List Oper} (ho:ops = l.toArray) (hb:invB ops D = true) (hstep:StepsI F n P ops a D Inv 0 l) {R0:Act→World→Prop}
  (hend:∀ x w' L,(∀ i,i < ops.size→L i = true)→Inv L x w'→R0 (frameOf a D x) w') :
  ∀ (fuel:Nat) (listed:Array Bool),listed.size = ops.size→(unlisted listed).length ≤ fuel→∀ (x:Nat→Value) (w:World),ShutI ops (seen listed)→Inv (seen listed) x w→wpAnyIn F n P .any ops (Exit.then R0 (fun _ _ _=>False)) fuel listed (frameOf a D x) w:=by
 simp only [invB,Bool.and_eq_true,decide_eq_true_eq,List.all_eq_true,List.mem_range] at hb;obtain ⟨⟨hb,hlen⟩,hnd⟩:=hb
 have hnone:∀ (listed:Array Bool),listed.size = ops.size→Region.ready .any ops listed = []→∀ i,i < ops.size→listed.getD i false = true:=fun listed hsz hr i=>by
  induction i using Nat.strongRecOn with
  | _ i ih =>
    intro hi
    cases hl:listed.getD i true with
    | true =>
      have:i < listed.size:=by omega
      simpa [Array.getD,this] using hl
    | false =>
      exfalso
      have:i ∈ Region.ready .any ops listed:=mem_ready.2 ⟨hl,_,Array.getElem?_eq_getElem hi,fun e he hbd=>by
       have h1:=hb i hi
       rw [Array.getElem?_eq_getElem hi] at h1
       have h2:=Array.all_eq_true_iff_forall_mem.1 h1 e he
       simp only [hbd,Bool.not_true,Bool.false_or,decide_eq_true_eq] at h2
       exact ih e.on h2 (by omega)⟩
      rw [hr] at this
      cases this
 intro fuel
 induction fuel with
 | zero =>
   intro listed hsz hf x w hsh hI
   have hall:∀ i,i < ops.size→listed.getD i false = true:=fun i hi=>by
    cases hl:listed.getD i false with
    | true=>rfl
    | false =>
      have:i ∈ unlisted listed:=by
       simp only [unlisted,List.mem_filter,List.mem_range];refine ⟨by omega,by rw [hl];rfl⟩
      rw [List.eq_nil_of_length_eq_zero (Nat.le_zero.1 hf)] at this
      cases this
   refine ⟨?_,hend x w _ hall hI⟩
   rcases hr:Region.ready .any ops listed with _ | ⟨i,l'⟩
   ·rfl
   ·have hi:i ∈ Region.ready .any ops listed:=by rw [hr];exact List.mem_cons_self ..
    obtain ⟨h0,o,ho,_⟩:=mem_ready.1 hi;have hi:=(Array.getElem?_eq_some_iff.1 ho).1;have h1:=hall i hi;have:i < listed.size:=by omega
    simp only [Array.getD,this,dif_pos] at h0 h1;rw [h0] at h1
    cases h1
 | succ fuel ih =>
   intro listed hsz hf x w hsh hI;refine ⟨fun hr=>hend x w _ (hnone listed hsz hr) hI,fun i hi=>?_⟩;obtain ⟨h0,o,hio,hall⟩:=mem_ready.1 hi;have hin:=(Array.getElem?_eq_some_iff.1 hio).1;have hl:l[i]? = some o:=by rw [ho] at hio;simpa using hio
   have hst:=stepsI_at hstep hl;rw [Nat.zero_add] at hst
   have hli:seen listed i = false:=by
    have:i < listed.size:=by omega
    unfold seen;simpa [Array.getD,this] using h0
   have hsh2:ShutI ops (more (seen listed) i):=by
    intro i' j hd hm;unfold more at hm ⊢
    by_cases hi':i' = i
    ·subst hi';unfold depB at hd;rw [hio] at hd;obtain ⟨e,he,hej⟩:=Array.any_eq_true'.1 hd;simp only [Bool.and_eq_true,beq_iff_eq] at hej;have:=hall e he hej.1;rw [hej.2] at this;have h3:seen listed j = true:=this;rw [h3];simp
    ·rw [decide_eq_false hi'] at hm;rw [hsh i' j hd (by simpa using hm)];simp
   refine wpOpIn_of_list hio _ (hst (seen listed) x w _ hI hsh hli (fun j hj=>?_) fun v w' hv=>ih (listed.setIfInBounds i true) (by simpa using hsz) ?_ _ w' (by rw [seen_set (by omega)];exact hsh2) (by rw [seen_set (by omega)];exact hv))
   ·obtain ⟨e,he,hej⟩:=Array.any_eq_true'.1 hj;simp only [Bool.and_eq_true,beq_iff_eq] at hej;have:=hall e he hej.1;rw [hej.2] at this;exact this
   ·have:=unlisted_set (listed:=listed) (i:=i) (by omega) hli;omega
theorem wpIn_inv {id:Nat} {l:List Oper} {Q:Exit→Act→World→Prop} {a:Act} {w:World} (hm:P.follows .mixedOrders = true) (D:List Nat) (Inv:(Nat→Bool)→(Nat→Value)→World→Prop) (hb:invB l.toArray D = true)
  (h0:∀ x,Inv (fun _=>false) x w.drew) (hstep:StepsI F n P l.toArray a D Inv 0 l)
  (hend:∀ x w' L,(∀ i,i < l.toArray.size→L i = true)→Inv L x w'→Q .normal (frameOf a D x) w'):(Code.region id l.toArray true).wpIn F n P Q a w:=by
 have hs:seen (Array.replicate l.toArray.size false) = fun _=>false:=by
  funext i
  unfold seen;simp [Array.getD]
 have h:=anyIn_inv (F:=F) (n:=n) (P:=P) (ops:=l.toArray) (R0:=fun b w'=>Q .normal b w') rfl hb hstep hend l.toArray.size (Array.replicate l.toArray.size false) (by simp) (by
  refine Nat.le_trans (List.length_filter_le _ _) ?_
  simp) (fun j=>a.tmps.getD j undef) w.drew (by rw [hs];exact fun i j _ h=>by cases h) (by rw [hs];exact h0 _)
 rw [frameOf_self] at h;refine wpIn_mono (wpIn_region_any (id:=id) hm h) fun e a w q=>?_
 cases e with
 | normal=>exact q
 | _=>exact q.elim
def StepF (F:Fence) (n:Nat) (P:Program) (ops:Array Oper) (a:Act) (D:List Nat) (Fs:List Fact) (w0:World) (i:Nat) (o:Oper):Prop :=
 ∀ (x:Nat→Value) (w:World) (R:Act→World→Prop),Below w0.heap.size w0 w→(∀ j,(o.after.any fun e=>Region.binds .any e && e.on == j) = true→(Fs.getD j .any).p (x (D.getD j 0)) w) →
  (∀ v w',(Fs.getD i .any).p v w'→Below w.heap.size w w'→R (frameOf a D (upd x (D.getD i 0) v)) w')→wpListIn F n P ops (Exit.then R (fun _ _ _=>False)) [o] (frameOf a D x) w
def StepsF (F:Fence) (n:Nat) (P:Program) (ops:Array Oper) (a:Act) (D:List Nat) (Fs:List Fact) (w0:World):Nat→List Oper→Prop
 | _,[]=>True
 | k,o :: l=>StepF F n P ops a D Fs w0 k o∧StepsF F n P ops a D Fs w0 (k + 1) l
def InvF (D:List Nat) (Fs:List Fact) (w0:World) (m:Nat) (L:Nat→Bool) (x:Nat→Value) (w:World):Prop:=Below w0.heap.size w0 w∧∀ i,i < m→L i = true→(Fs.getD i .any).p (x (D.getD i 0)) w
theorem stepsI_of_F {a:Act} {D:List Nat} {Fs:List Fact} {w0:World} {m:Nat} (hl:D.length = m) (hnd:D.Nodup) (hon:∀ (i:Nat) o,ops[i]? = some o→∀ e ∈ o.after,Region.binds .any e = true→e.on < m):∀ (l:List Oper) (k:Nat),(∀ j,l[j]? = ops[k + j]?)→StepsF F n P ops a D Fs w0 k l→k + l.length ≤ m→StepsI F n P ops a D (InvF D Fs w0 m) k l
 | [],_,_,_,_=>trivial
 | o :: l,k,hk,hs,hm=>by
   rw [List.length_cons] at hm;refine ⟨?_,stepsI_of_F hl hnd hon l (k + 1) (fun j=>by have:=hk (j + 1);simpa [Nat.add_assoc,Nat.add_comm 1 j] using this) hs.2 (by omega)⟩;intro L x w R hI _ hL hr hR;have ho:ops[k]? = some o:=by simpa using (hk 0).symm
   refine hs.1 x w R hI.1 (fun j hj=>hI.2 j ?_ (hr j hj)) fun v w' hv hw=>hR v w' ⟨hI.1.trans (hw.mono hI.1.size),fun i hi hLi=>?_⟩
   ·obtain ⟨e,he,hej⟩:=Array.any_eq_true'.1 hj;simp only [Bool.and_eq_true,beq_iff_eq] at hej;have:=hon k o ho e he hej.1;omega
   ·by_cases hik:i = k
    ·subst hik;rw [upd_same];exact hv
    ·have hne:D.getD i 0 ≠ D.getD k 0:=by
      rw [List.getD_eq_getElem?_getD,List.getD_eq_getElem?_getD,List.getElem?_eq_getElem (show i < D.length by omega),List.getElem?_eq_getElem (show k < D.length by omega)];intro e;simp only [Option.getD_some] at e;have hp:=List.pairwise_iff_getElem.1 hnd
      rcases Nat.lt_or_ge i k with h | h
      ·exact hp i k (by omega) (by omega) h e
      ·exact hp k i (by omega) (by omega) (by omega) e.symm
     rw [upd_other x v hne]
     have:L i = true:=by
      unfold more at hLi;rw [decide_eq_false hik] at hLi;simpa using hLi
     exact (Fs.getD i .any).keep _ _ _ (hI.2 i hi this) hw
theorem wpIn_facts {id:Nat} {l:List Oper} {Q:Exit→Act→World→Prop} {a:Act} {w:World} (hm:P.follows .mixedOrders = true) (D:List Nat) (Fs:List Fact) (hb:invB l.toArray D = true)
  (hstep:StepsF F n P l.toArray a D Fs w 0 l)
  (hend:∀ x w',Below w.heap.size w w'→(∀ i,i < l.toArray.size→(Fs.getD i .any).p (x (D.getD i 0)) w')→Q .normal (frameOf a D x) w'):(Code.region id l.toArray true).wpIn F n P Q a w:=by
 have hb':=hb;simp only [invB,Bool.and_eq_true,decide_eq_true_eq,List.all_eq_true,List.mem_range] at hb';obtain ⟨⟨hb1,hlen⟩,hnd⟩:=hb';refine wpIn_inv hm D (InvF D Fs w l.toArray.size) hb (fun x=>⟨(Below.refl _ _).drew,fun i _ h=>by cases h⟩) (stepsI_of_F hlen hnd (fun i o ho e he hbd=>?_) l 0 (fun j=>by simp) hstep (by simp)) fun x w' L hL hI=>hend x w' hI.1 fun i hi=>hI.2 i hi (hL i hi)
 have hi:=(Array.getElem?_eq_some_iff.1 ho).1;have h1:=hb1 i hi;rw [ho] at h1;have h2:=Array.all_eq_true_iff_forall_mem.1 h1 e he;simp only [hbd,Bool.not_true,Bool.false_or,decide_eq_true_eq] at h2;omega
end
end
section -- Serial
open Go
section calm
variable {α β:Type} {P:Program}
def Calm (P:Program) (s:Sem α):Prop:=∀ w v w1,s.run P w = .ok v w1→w1 = w∧∀ w',s.run P w' = .ok v w'
def Never (P:Program) (s:Sem α):Prop:=∀ w v w1,s.run P w ≠ .ok v w1
theorem Never.calm {s:Sem α} (h:Never P s):Calm P s:=fun w v w1 e=>absurd e (h w v w1)
theorem calm_pure (a:α):Calm P (pure a:Sem α):=fun w v w1 e=>by
 simp only [Sem.run_pure,Result.ok.injEq] at e;obtain ⟨rfl,rfl⟩:=e;exact ⟨rfl,fun _=>rfl⟩
theorem never_halt (h:Halt):Never P (.halt h:Sem α):=fun w v w1 e=>by simp [Sem.run] at e
theorem never_stuck (y:String):Never P (stuck y:Sem α):=never_halt _
theorem never_unsupported (u:Unsupported):Never P (unsupported u:Sem α):=never_halt _
theorem andThen_ok_inv {r:Result α} {f:α→World→Result β} {v:β} {w1:World} (h:r.andThen f = .ok v w1):∃ a w,r = .ok a w∧f a w = .ok v w1:=by
 cases r with
 | ok a w=>exact ⟨a,w,rfl,h⟩
 | halt x w=>cases h
theorem calm_bind {s:Sem α} {f:α→Sem β} (hs:Calm P s) (hf:∀ a,Calm P (f a)):Calm P (s >>= f):=fun w v w1 e=>by
 rw [Sem.run_bind] at e;obtain ⟨a,w2,h1,h2⟩:=andThen_ok_inv e;obtain ⟨rfl,h3⟩:=hs _ _ _ h1;obtain ⟨rfl,h4⟩:=hf a _ _ _ h2;exact ⟨rfl,fun w'=>by rw [Sem.run_bind,h3 w'];exact h4 w'⟩
theorem never_bind {s:Sem α} {f:α→Sem β} (hf:∀ a,Never P (f a)):Never P (s >>= f):=fun w v w1 e=>by
 rw [Sem.run_bind] at e;obtain ⟨a,w2,h1,h2⟩:=andThen_ok_inv e;exact hf a _ _ _ h2
theorem calm_program:Calm P program:=fun w v w1 e=>by
 simp only [run_program,Result.ok.injEq] at e;obtain ⟨rfl,rfl⟩:=e;exact ⟨rfl,fun _=>rfl⟩
theorem calm_typeInfo (t:TypeId):Calm P (typeInfo t):=by
 unfold typeInfo;refine calm_bind calm_program fun p=>?_
 split
 ·exact calm_pure _
 ·exact (never_stuck _).calm
theorem calm_underlying (t:TypeId):Calm P (underlying t):=by
 unfold underlying;refine calm_bind calm_program fun p=>?_
 split
 ·exact calm_pure _
 ·exact (never_stuck _).calm
theorem calm_sizeOf (t:TypeId):Calm P (sizeOf t):=calm_bind (calm_typeInfo t) fun _=>calm_pure _
theorem never_runtimePanic (e:RuntimeError):Never P (runtimePanic e:Sem α):=by
 unfold runtimePanic;refine never_bind fun p=>?_
 cases e
 all_goals first
  | exact never_halt _
  | (refine never_bind fun _=>?_;first | exact never_halt _ | (refine never_bind fun _=>?_;exact never_halt _))
theorem never_boundsPanic (k:IntKind) (x y:Int) (c:BoundsCode):Never P (boundsPanic k x y c:Sem α):=by
 unfold boundsPanic;dsimp only
 split <;> exact never_bind fun _=>never_runtimePanic _
theorem calm_asIntOf (v:Value):Calm P (asIntOf v):=by
 unfold asIntOf
 split
 ·exact calm_pure _
 ·exact (never_unsupported _).calm
 ·exact (never_stuck _).calm
theorem calm_asBool (v:Value):Calm P (asBool v):=by
 unfold asBool
 split
 ·exact calm_pure _
 ·exact (never_stuck _).calm
theorem calm_asAgg (v:Value):Calm P (asAgg v):=by
 unfold asAgg
 split
 ·exact calm_pure _
 ·exact (never_stuck _).calm
theorem calm_asAddr (v:Value):Calm P (asAddr v):=by
 unfold asAddr
 split
 ·exact calm_pure _
 ·exact (never_runtimePanic _).calm
 ·exact (never_stuck _).calm
theorem calm_sureAddr (v:Value):Calm P (Instr.sureAddr v):=by
 unfold Instr.sureAddr
 split
 ·exact calm_pure _
 ·exact (never_stuck _).calm
theorem calm_ite {c:Prop} [Decidable c] {a b:Sem α} (ha:Calm P a) (hb:Calm P b):Calm P (if c then a else b):=by split <;> assumption
theorem calm_sliceBound (x:Value) (y:Nat) (c:BoundsCode):Calm P (Instr.sliceBound x y c):=by
 unfold Instr.sliceBound;refine calm_bind (calm_asIntOf _) fun r=>?_
 exact calm_ite (calm_pure _) (never_boundsPanic _ _ _ _).calm
theorem calm_sliceBounds (b:Bool) (l c:Nat) (lo hi mx:Option Value):Calm P (Instr.sliceBounds b l c lo hi mx):=by
 unfold Instr.sliceBounds
 repeat' first
  | exact calm_pure _
  | exact (never_stuck _).calm
  | exact (never_unsupported _).calm
  | exact (never_boundsPanic _ _ _ _).calm
  | exact (never_runtimePanic _).calm
  | exact calm_underlying _
  | exact calm_sizeOf _
  | exact calm_asIntOf _
  | exact calm_asBool _
  | exact calm_asAgg _
  | exact calm_asAddr _
  | exact calm_sureAddr _
  | exact calm_typeInfo _
  | exact calm_program
  | exact calm_sliceBound _ _ _
  | (refine calm_bind ?_ fun _=>?_)
  | split
  | dsimp only
theorem calm_slice (t:TypeId) (x:Value) (lo hi mx:Option Value):Calm P (Instr.slice t x lo hi mx):=by
 unfold Instr.slice
 repeat' first
  | exact calm_pure _
  | exact (never_stuck _).calm
  | exact (never_unsupported _).calm
  | exact (never_boundsPanic _ _ _ _).calm
  | exact (never_runtimePanic _).calm
  | exact calm_underlying _
  | exact calm_sizeOf _
  | exact calm_asIntOf _
  | exact calm_asBool _
  | exact calm_asAgg _
  | exact calm_asAddr _
  | exact calm_sureAddr _
  | exact calm_typeInfo _
  | exact calm_program
  | exact calm_sliceBound _ _ _
  | exact calm_sliceBounds _ _ _ _ _ _
  | (refine calm_bind ?_ fun _=>?_)
  | split
  | dsimp only
theorem calm_sliceAt (t:TypeId) (x:Value) (lo hi mx:Option Value):Calm P (Instr.sliceAt t x lo hi mx):=by
 unfold Instr.sliceAt
 repeat' first
  | exact calm_pure _
  | exact (never_stuck _).calm
  | exact (never_unsupported _).calm
  | exact (never_boundsPanic _ _ _ _).calm
  | exact (never_runtimePanic _).calm
  | exact calm_underlying _
  | exact calm_sizeOf _
  | exact calm_asIntOf _
  | exact calm_asBool _
  | exact calm_asAgg _
  | exact calm_asAddr _
  | exact calm_sureAddr _
  | exact calm_typeInfo _
  | exact calm_program
  | exact calm_sliceBound _ _ _
  | exact calm_sliceBounds _ _ _ _ _ _
  | exact calm_slice _ _ _ _ _
  | (refine calm_bind ?_ fun _=>?_)
  | split
  | dsimp only
theorem calm_indexAt (t:TypeId) (x i:Value):Calm P (Instr.indexAt t x i):=by
 unfold Instr.indexAt
 repeat' first
  | exact calm_pure _
  | exact (never_stuck _).calm
  | exact (never_unsupported _).calm
  | exact (never_boundsPanic _ _ _ _).calm
  | exact (never_runtimePanic _).calm
  | exact calm_underlying _
  | exact calm_sizeOf _
  | exact calm_asIntOf _
  | exact calm_asBool _
  | exact calm_asAgg _
  | exact calm_asAddr _
  | exact calm_sureAddr _
  | exact calm_typeInfo _
  | exact calm_program
  | exact calm_sliceBound _ _ _
  | exact calm_sliceBounds _ _ _ _ _ _
  | exact calm_slice _ _ _ _ _
  | (refine calm_bind ?_ fun _=>?_)
  | split
  | dsimp only
theorem calm_isAgg (t:TypeId):Calm P (isAgg t):=by
 unfold isAgg
 repeat' first
  | exact calm_pure _
  | exact (never_stuck _).calm
  | exact (never_unsupported _).calm
  | exact (never_boundsPanic _ _ _ _).calm
  | exact (never_runtimePanic _).calm
  | exact calm_underlying _
  | exact calm_sizeOf _
  | exact calm_asIntOf _
  | exact calm_asBool _
  | exact calm_asAgg _
  | exact calm_asAddr _
  | exact calm_sureAddr _
  | exact calm_typeInfo _
  | exact calm_program
  | exact calm_sliceBound _ _ _
  | exact calm_sliceBounds _ _ _ _ _ _
  | exact calm_slice _ _ _ _ _
  | (refine calm_bind ?_ fun _=>?_)
  | split
  | dsimp only
theorem calm_part (t:TypeId) (cs:Array Value) (i:Nat):Calm P (part t cs i):=by
 unfold part
 repeat' first
  | exact calm_pure _
  | exact (never_stuck _).calm
  | exact (never_unsupported _).calm
  | exact (never_boundsPanic _ _ _ _).calm
  | exact (never_runtimePanic _).calm
  | exact calm_underlying _
  | exact calm_sizeOf _
  | exact calm_asIntOf _
  | exact calm_asBool _
  | exact calm_asAgg _
  | exact calm_asAddr _
  | exact calm_sureAddr _
  | exact calm_typeInfo _
  | exact calm_program
  | exact calm_sliceBound _ _ _
  | exact calm_sliceBounds _ _ _ _ _ _
  | exact calm_slice _ _ _ _ _
  | exact calm_isAgg _
  | (refine calm_bind ?_ fun _=>?_)
  | split
  | dsimp only
theorem calm_index (t:TypeId) (x i:Value):Calm P (Instr.index t x i):=by
 unfold Instr.index
 repeat' first
  | exact calm_pure _
  | exact (never_stuck _).calm
  | exact (never_unsupported _).calm
  | exact (never_boundsPanic _ _ _ _).calm
  | exact (never_runtimePanic _).calm
  | exact calm_underlying _
  | exact calm_sizeOf _
  | exact calm_asIntOf _
  | exact calm_asBool _
  | exact calm_asAgg _
  | exact calm_asAddr _
  | exact calm_sureAddr _
  | exact calm_typeInfo _
  | exact calm_program
  | exact calm_sliceBound _ _ _
  | exact calm_sliceBounds _ _ _ _ _ _
  | exact calm_slice _ _ _ _ _
  | exact calm_part _ _ _
  | (refine calm_bind ?_ fun _=>?_)
  | split
  | dsimp only
theorem calm_field (t:TypeId) (x:Value) (i:Nat):Calm P (Instr.field t x i):=by
 unfold Instr.field
 repeat' first
  | exact calm_pure _
  | exact (never_stuck _).calm
  | exact (never_unsupported _).calm
  | exact (never_boundsPanic _ _ _ _).calm
  | exact (never_runtimePanic _).calm
  | exact calm_underlying _
  | exact calm_sizeOf _
  | exact calm_asIntOf _
  | exact calm_asBool _
  | exact calm_asAgg _
  | exact calm_asAddr _
  | exact calm_sureAddr _
  | exact calm_typeInfo _
  | exact calm_program
  | exact calm_sliceBound _ _ _
  | exact calm_sliceBounds _ _ _ _ _ _
  | exact calm_slice _ _ _ _ _
  | exact calm_part _ _ _
  | (refine calm_bind ?_ fun _=>?_)
  | split
  | dsimp only
theorem calm_extract (x:Value) (i:Nat):Calm P (Instr.extract x i):=by
 unfold Instr.extract
 repeat' first
  | exact calm_pure _
  | exact (never_stuck _).calm
  | exact (never_unsupported _).calm
  | exact (never_boundsPanic _ _ _ _).calm
  | exact (never_runtimePanic _).calm
  | exact calm_underlying _
  | exact calm_sizeOf _
  | exact calm_asIntOf _
  | exact calm_asBool _
  | exact calm_asAgg _
  | exact calm_asAddr _
  | exact calm_sureAddr _
  | exact calm_typeInfo _
  | exact calm_program
  | exact calm_sliceBound _ _ _
  | exact calm_sliceBounds _ _ _ _ _ _
  | exact calm_slice _ _ _ _ _
  | exact calm_part _ _ _
  | (refine calm_bind ?_ fun _=>?_)
  | split
  | dsimp only
theorem calm_makeInterface (t:TypeId) (x:Value):Calm P (Instr.makeInterface t x):=by
 unfold Instr.makeInterface
 repeat' first
  | exact calm_pure _
  | exact (never_stuck _).calm
  | exact (never_unsupported _).calm
  | exact (never_boundsPanic _ _ _ _).calm
  | exact (never_runtimePanic _).calm
  | exact calm_underlying _
  | exact calm_sizeOf _
  | exact calm_asIntOf _
  | exact calm_asBool _
  | exact calm_asAgg _
  | exact calm_asAddr _
  | exact calm_sureAddr _
  | exact calm_typeInfo _
  | exact calm_program
  | exact calm_sliceBound _ _ _
  | exact calm_sliceBounds _ _ _ _ _ _
  | exact calm_slice _ _ _ _ _
  | exact calm_part _ _ _
  | (refine calm_bind ?_ fun _=>?_)
  | split
  | dsimp only
theorem calm_intArith (o:BinOp) (k:IntKind) (x y:Int):Calm P (Op.intArith o k x y):=by
 unfold Op.intArith
 repeat' first
  | exact calm_pure _
  | exact (never_stuck _).calm
  | exact (never_unsupported _).calm
  | exact (never_boundsPanic _ _ _ _).calm
  | exact (never_runtimePanic _).calm
  | exact calm_underlying _
  | exact calm_sizeOf _
  | exact calm_asIntOf _
  | exact calm_asBool _
  | exact calm_asAgg _
  | exact calm_asAddr _
  | exact calm_sureAddr _
  | exact calm_typeInfo _
  | exact calm_program
  | exact calm_sliceBound _ _ _
  | exact calm_sliceBounds _ _ _ _ _ _
  | exact calm_slice _ _ _ _ _
  | exact calm_part _ _ _
  | (refine calm_bind ?_ fun _=>?_)
  | split
  | dsimp only
theorem calm_intBits (o:BinOp) (k:IntKind) (x y:Int):Calm P (Op.intBits o k x y):=by
 unfold Op.intBits
 repeat' first
  | exact calm_pure _
  | exact (never_stuck _).calm
  | exact (never_unsupported _).calm
  | exact (never_boundsPanic _ _ _ _).calm
  | exact (never_runtimePanic _).calm
  | exact calm_underlying _
  | exact calm_sizeOf _
  | exact calm_asIntOf _
  | exact calm_asBool _
  | exact calm_asAgg _
  | exact calm_asAddr _
  | exact calm_sureAddr _
  | exact calm_typeInfo _
  | exact calm_program
  | exact calm_sliceBound _ _ _
  | exact calm_sliceBounds _ _ _ _ _ _
  | exact calm_slice _ _ _ _ _
  | exact calm_part _ _ _
  | (refine calm_bind ?_ fun _=>?_)
  | split
  | dsimp only
theorem calm_intCmp (o:BinOp) (x y:Int):Calm P (Op.intCmp o x y):=by
 unfold Op.intCmp
 repeat' first
  | exact calm_pure _
  | exact (never_stuck _).calm
  | exact (never_unsupported _).calm
  | exact (never_boundsPanic _ _ _ _).calm
  | exact (never_runtimePanic _).calm
  | exact calm_underlying _
  | exact calm_sizeOf _
  | exact calm_asIntOf _
  | exact calm_asBool _
  | exact calm_asAgg _
  | exact calm_asAddr _
  | exact calm_sureAddr _
  | exact calm_typeInfo _
  | exact calm_program
  | exact calm_sliceBound _ _ _
  | exact calm_sliceBounds _ _ _ _ _ _
  | exact calm_slice _ _ _ _ _
  | exact calm_part _ _ _
  | (refine calm_bind ?_ fun _=>?_)
  | split
  | dsimp only
theorem calm_intDiv (o:BinOp) (k:IntKind) (x y:Int):Calm P (Op.intDiv o k x y):=by
 unfold Op.intDiv
 repeat' first
  | exact calm_pure _
  | exact (never_stuck _).calm
  | exact (never_unsupported _).calm
  | exact (never_boundsPanic _ _ _ _).calm
  | exact (never_runtimePanic _).calm
  | exact calm_underlying _
  | exact calm_sizeOf _
  | exact calm_asIntOf _
  | exact calm_asBool _
  | exact calm_asAgg _
  | exact calm_asAddr _
  | exact calm_sureAddr _
  | exact calm_typeInfo _
  | exact calm_program
  | exact calm_sliceBound _ _ _
  | exact calm_sliceBounds _ _ _ _ _ _
  | exact calm_slice _ _ _ _ _
  | exact calm_part _ _ _
  | (refine calm_bind ?_ fun _=>?_)
  | split
  | dsimp only
theorem calm_shift (o:BinOp) (k k':IntKind) (x y:Int):Calm P (Op.shift o k x k' y):=by
 unfold Op.shift
 repeat' first
  | exact calm_pure _
  | exact (never_stuck _).calm
  | exact (never_unsupported _).calm
  | exact (never_boundsPanic _ _ _ _).calm
  | exact (never_runtimePanic _).calm
  | exact calm_underlying _
  | exact calm_sizeOf _
  | exact calm_asIntOf _
  | exact calm_asBool _
  | exact calm_asAgg _
  | exact calm_asAddr _
  | exact calm_sureAddr _
  | exact calm_typeInfo _
  | exact calm_program
  | exact calm_sliceBound _ _ _
  | exact calm_sliceBounds _ _ _ _ _ _
  | exact calm_slice _ _ _ _ _
  | exact calm_part _ _ _
  | (refine calm_bind ?_ fun _=>?_)
  | split
  | dsimp only
theorem calm_stringOp (o:BinOp) (x y:ByteArray):Calm P (Op.stringOp o x y):=by
 unfold Op.stringOp
 repeat' first
  | exact calm_pure _
  | exact (never_stuck _).calm
  | exact (never_unsupported _).calm
  | exact (never_boundsPanic _ _ _ _).calm
  | exact (never_runtimePanic _).calm
  | exact calm_underlying _
  | exact calm_sizeOf _
  | exact calm_asIntOf _
  | exact calm_asBool _
  | exact calm_asAgg _
  | exact calm_asAddr _
  | exact calm_sureAddr _
  | exact calm_typeInfo _
  | exact calm_program
  | exact calm_sliceBound _ _ _
  | exact calm_sliceBounds _ _ _ _ _ _
  | exact calm_slice _ _ _ _ _
  | exact calm_part _ _ _
  | (refine calm_bind ?_ fun _=>?_)
  | split
  | dsimp only
theorem calm_unary (o:UnOp) (x:Value):Calm P (Op.unary o x):=by
 unfold Op.unary
 repeat' first
  | exact calm_pure _
  | exact (never_stuck _).calm
  | exact (never_unsupported _).calm
  | exact (never_boundsPanic _ _ _ _).calm
  | exact (never_runtimePanic _).calm
  | exact calm_underlying _
  | exact calm_sizeOf _
  | exact calm_asIntOf _
  | exact calm_asBool _
  | exact calm_asAgg _
  | exact calm_asAddr _
  | exact calm_sureAddr _
  | exact calm_typeInfo _
  | exact calm_program
  | exact calm_sliceBound _ _ _
  | exact calm_sliceBounds _ _ _ _ _ _
  | exact calm_slice _ _ _ _ _
  | exact calm_part _ _ _
  | exact calm_intArith _ _ _ _
  | exact calm_intBits _ _ _ _
  | (refine calm_bind ?_ fun _=>?_)
  | split
  | dsimp only
def scalarV:Value→Bool
 | .int _ _=>true
 | .bool _=>true
 | .string _=>true
 | _=>false
def flatV:Value→Bool
 | .int _ _=>true
 | .bool _=>true
 | .string _=>true
 | .agg cs=>cs.all scalarV
 | _=>false
theorem calm_bind_of {s:Sem α} {f:α→Sem β} (hs:Calm P s) (hf:∀ a,(∃ w w1,s.run P w = .ok a w1)→Calm P (f a)):Calm P (s >>= f):=fun w v w1 e=>by
 rw [Sem.run_bind] at e;obtain ⟨a,w2,h1,h2⟩:=andThen_ok_inv e;obtain ⟨rfl,h3⟩:=hs _ _ _ h1;obtain ⟨rfl,h4⟩:=hf a ⟨_,_,h1⟩ _ _ _ h2;exact ⟨rfl,fun w'=>by rw [Sem.run_bind,h3 w'];exact h4 w'⟩
theorem part_flat {t:TypeId} {cs:Array Value} {off:Nat} (hc:cs.all scalarV = true) {w w1:World} {v:Value} (h:(part t cs off).run P w = .ok v w1):flatV v = true:=by
 rw [Array.all_eq_true_iff_forall_mem] at hc;unfold part at h;rw [Sem.run_bind] at h;obtain ⟨b,w2,_,h⟩:=andThen_ok_inv h
 split at h
 ·rw [Sem.run_bind] at h;obtain ⟨n,w3,_,h⟩:=andThen_ok_inv h;simp only [Sem.run_pure,Result.ok.injEq] at h;rw [← h.1];simp only [flatV];rw [Array.all_eq_true_iff_forall_mem];intro x hx;rw [Array.mem_extract_iff_getElem] at hx;obtain ⟨i,hi,rfl⟩:=hx;exact hc _ (Array.getElem_mem _)
 ·split at h
  ·rename_i u hu;simp only [Sem.run_pure,Result.ok.injEq] at h;rw [← h.1];have hm:u ∈ cs:=Array.mem_of_getElem? hu;have:=hc u hm
   cases u <;> simp_all [flatV,scalarV]
  ·exact absurd h (never_stuck _ _ _ _)
theorem calm_forIn {γ:Type}:∀ (l:List γ) (b:β) (f:γ→β→Sem (ForInStep β)),(∀ a b,Calm P (f a b))→Calm P (forIn l b f)
 | [],b,f,_=>by rw [List.forIn_nil];exact calm_pure _
 | a :: l,b,f,h=>by
   rw [List.forIn_cons];refine calm_bind (h a b) fun r=>?_
   cases r with
   | done b=>exact calm_pure _
   | yield b=>exact calm_forIn l b f h
theorem calm_forIn_array {γ:Type} (xs:Array γ) (b:β) (f:γ→β→Sem (ForInStep β)) (h:∀ a b,Calm P (f a b)):Calm P (forIn xs b f):=by
 rw [← Array.forIn_toList];exact calm_forIn _ _ _ h
theorem calm_forIn_range (n:Nat) (b:β) (f:Nat→β→Sem (ForInStep β)) (h:∀ a b,Calm P (f a b)):Calm P (forIn [0:n] b f):=by
 rw [Std.Legacy.Range.forIn_eq_forIn_range'];exact calm_forIn _ _ _ h
theorem calm_equalIn_flat:∀ (d:Nat) (t:TypeId) (x y:Value),flatV x = true→flatV y = true→Calm P (Op.equalIn d t x y)
 | 0,t,x,y,_,_=>by rw [Op.equalIn];exact (never_unsupported _).calm
 | d + 1,t,x,y,hx,hy=>by
   have ih:=calm_equalIn_flat d;rw [Op.equalIn];refine calm_bind (calm_underlying _) fun ds=>?_
   cases x <;> simp only [flatV,Bool.false_eq_true] at hx
   all_goals (cases y <;> simp only [flatV,Bool.false_eq_true] at hy)
   all_goals (cases ds <;> dsimp only)
   all_goals repeat' first | contradiction | exact calm_pure _ | exact (never_stuck _).calm | exact (never_unsupported _).calm | (refine calm_bind calm_program fun _=>?_) | split
   ·refine calm_bind (calm_sizeOf _) fun n=>calm_bind (calm_forIn_range _ _ _ fun i s=>calm_bind_of (calm_part _ _ _) fun a ha=>calm_bind_of (calm_part _ _ _) fun b hb=>calm_bind (ih _ _ _ (part_flat hx ha.choose_spec.choose_spec) (part_flat hy hb.choose_spec.choose_spec)) fun r=>?_) fun s=>?_
    ·split <;> exact calm_pure _
    ·split <;> exact calm_pure _
   ·refine calm_bind (calm_forIn_array _ _ _ fun f s=>?_) fun s=>?_
    ·split
     ·refine calm_bind_of (calm_part _ _ _) fun a ha=>calm_bind_of (calm_part _ _ _) fun b hb=>calm_bind (ih _ _ _ (part_flat hx ha.choose_spec.choose_spec) (part_flat hy hb.choose_spec.choose_spec)) fun r=>?_
      split <;> exact calm_pure _
     ·exact calm_pure _
    ·split <;> exact calm_pure _
theorem calm_equal_agg (t:TypeId) {xs ys:Array Value} (hx:xs.all scalarV = true) (hy:ys.all scalarV = true):Calm P (Op.equal t (.agg xs) (.agg ys)):=calm_equalIn_flat _ t _ _ (by simpa [flatV] using hx) (by simpa [flatV] using hy)
theorem calm_binOp_agg (op:BinOp) (t:TypeId) {xs ys:Array Value} (hx:xs.all scalarV = true) (hy:ys.all scalarV = true):Calm P (binOp op t (.agg xs) (.agg ys)):=by
 have he:=calm_equal_agg (P:=P) t hx hy
 cases op <;> unfold binOp <;> repeat' first
  | contradiction
  | exact he
  | exact calm_pure _
  | exact (never_stuck _).calm
  | exact (never_unsupported _).calm
  | (refine calm_bind he fun _=>?_)
  | split
  | dsimp only
  | (exfalso;simp_all;done)
theorem calm_eqGuardIn_flat:∀ (d:Nat) (t:TypeId) (x y:Value),flatV x = true→flatV y = true→Calm P (Op.eqGuardIn d t x y)
 | 0,t,x,y,_,_=>by rw [Op.eqGuardIn];exact (never_unsupported _).calm
 | d + 1,t,x,y,hx,hy=>by
   have ih:=calm_eqGuardIn_flat d;rw [Op.eqGuardIn];refine calm_bind (calm_underlying _) fun ds=>?_
   cases x <;> simp only [flatV,Bool.false_eq_true] at hx
   all_goals (cases y <;> simp only [flatV,Bool.false_eq_true] at hy)
   all_goals (cases ds <;> dsimp only)
   all_goals repeat' first | contradiction | exact calm_pure _ | exact (never_stuck _).calm | exact (never_unsupported _).calm | (refine calm_bind calm_program fun _=>?_) | split
   ·refine calm_bind (calm_sizeOf _) fun n=>calm_bind (calm_forIn_range _ _ _ fun i s=>calm_bind_of (calm_part _ _ _) fun a ha=>calm_bind_of (calm_part _ _ _) fun b hb=>calm_bind (ih _ _ _ (part_flat hx ha.choose_spec.choose_spec) (part_flat hy hb.choose_spec.choose_spec)) fun r=>?_) fun s=>?_
    ·split <;> exact calm_pure _
    ·split <;> exact calm_pure _
   ·refine calm_bind (calm_forIn_array _ _ _ fun f s=>?_) fun s=>?_
    ·split
     ·refine calm_bind_of (calm_part _ _ _) fun a ha=>calm_bind_of (calm_part _ _ _) fun b hb=>calm_bind (ih _ _ _ (part_flat hx ha.choose_spec.choose_spec) (part_flat hy hb.choose_spec.choose_spec)) fun r=>?_
      split <;> exact calm_pure _
     ·exact calm_pure _
    ·split <;> exact calm_pure _
def plainPair:Value→Value→Bool
 | .int _ _,.int _ _=>true
 | .string _,.string _=>true
 | .bool _,.bool _=>true
 | .slice _ _ _,.slice _ _ _=>true
 | .pointer none,.pointer none=>true
 | .pointer none,.pointer (some _)=>true
 | .pointer (some _),.pointer none=>true
 | .agg xs,.agg ys=>xs.all scalarV && ys.all scalarV
 | _,_=>false
theorem equal_succ (t:TypeId) (x y:Value):Op.equal t x y = Op.equalIn (9999 + 1) t x y:=rfl
theorem calm_equal_bool (t:TypeId) (a b:Bool):Calm P (Op.equal t (.bool a) (.bool b)):=by
 rw [equal_succ,Op.equalIn];refine calm_bind (calm_underlying _) fun d=>?_
 cases d <;> dsimp only <;> repeat' first | contradiction | exact calm_pure _ | exact (never_stuck _).calm | exact (never_unsupported _).calm | split | dsimp only
theorem calm_equal_slice (t:TypeId) (a:Option Addr) (n c:Nat) (a':Option Addr) (n' c':Nat):Calm P (Op.equal t (.slice a n c) (.slice a' n' c')):=by
 rw [equal_succ,Op.equalIn];refine calm_bind (calm_underlying _) fun d=>?_
 cases d <;> dsimp only <;> repeat' first | contradiction | exact calm_pure _ | exact (never_stuck _).calm | exact (never_unsupported _).calm | split | dsimp only
theorem calm_equal_nilptr (t:TypeId) (a:Option Addr):Calm P (Op.equal t (.pointer none) (.pointer a)):=by
 rw [equal_succ,Op.equalIn];refine calm_bind (calm_underlying _) fun d=>?_
 cases d <;> dsimp only <;> repeat' first | contradiction | exact calm_pure _ | exact (never_stuck _).calm | exact (never_unsupported _).calm | split | dsimp only
theorem calm_equal_ptrnil (t:TypeId) (a:Addr):Calm P (Op.equal t (.pointer (some a)) (.pointer none)):=by
 rw [equal_succ,Op.equalIn];refine calm_bind (calm_underlying _) fun d=>?_
 cases d <;> dsimp only <;> repeat' first | contradiction | exact calm_pure _ | exact (never_stuck _).calm | exact (never_unsupported _).calm | split | dsimp only
theorem calm_equal_int (t:TypeId) (k k':IntKind) (a b:Int):Calm P (Op.equal t (.int k a) (.int k' b)):=by
 rw [equal_succ,Op.equalIn];refine calm_bind (calm_underlying _) fun d=>?_
 cases d <;> dsimp only <;> repeat' first | contradiction | exact calm_pure _ | exact (never_stuck _).calm | exact (never_unsupported _).calm | split | dsimp only
theorem calm_equal_string (t:TypeId) (a b:ByteArray):Calm P (Op.equal t (.string a) (.string b)):=by
 rw [equal_succ,Op.equalIn];refine calm_bind (calm_underlying _) fun d=>?_
 cases d <;> dsimp only <;> repeat' first | contradiction | exact calm_pure _ | exact (never_stuck _).calm | exact (never_unsupported _).calm | split | dsimp only
theorem calm_binOp_bool (op:BinOp) (t:TypeId) (a b:Bool):Calm P (binOp op t (.bool a) (.bool b)):=by
 have he:=calm_equal_bool (P:=P) t a b
 cases op <;> unfold binOp <;> repeat' first
  | contradiction
  | exact he
  | exact calm_pure _
  | exact (never_stuck _).calm
  | exact (never_unsupported _).calm
  | exact calm_intArith _ _ _ _
  | exact calm_intBits _ _ _ _
  | exact calm_intCmp _ _ _
  | exact calm_intDiv _ _ _ _
  | exact calm_shift _ _ _ _ _
  | exact calm_stringOp _ _ _
  | (refine calm_bind he fun _=>?_)
  | split
  | dsimp only
  | (exfalso;simp_all;done)
theorem calm_binOp_slice (op:BinOp) (t:TypeId) (a:Option Addr) (n c:Nat) (a':Option Addr) (n' c':Nat):Calm P (binOp op t (.slice a n c) (.slice a' n' c')):=by
 have he:=calm_equal_slice (P:=P) t a n c a' n' c'
 cases op <;> unfold binOp <;> repeat' first
  | contradiction
  | exact he
  | exact calm_pure _
  | exact (never_stuck _).calm
  | exact (never_unsupported _).calm
  | exact calm_intArith _ _ _ _
  | exact calm_intBits _ _ _ _
  | exact calm_intCmp _ _ _
  | exact calm_intDiv _ _ _ _
  | exact calm_shift _ _ _ _ _
  | exact calm_stringOp _ _ _
  | (refine calm_bind he fun _=>?_)
  | split
  | dsimp only
  | (exfalso;simp_all;done)
theorem calm_binOp_nilptr (op:BinOp) (t:TypeId) (a:Option Addr):Calm P (binOp op t (.pointer none) (.pointer a)):=by
 have he:=calm_equal_nilptr (P:=P) t a
 cases op <;> unfold binOp <;> repeat' first
  | contradiction
  | exact he
  | exact calm_pure _
  | exact (never_stuck _).calm
  | exact (never_unsupported _).calm
  | exact calm_intArith _ _ _ _
  | exact calm_intBits _ _ _ _
  | exact calm_intCmp _ _ _
  | exact calm_intDiv _ _ _ _
  | exact calm_shift _ _ _ _ _
  | exact calm_stringOp _ _ _
  | (refine calm_bind he fun _=>?_)
  | split
  | dsimp only
  | (exfalso;simp_all;done)
theorem calm_binOp_ptrnil (op:BinOp) (t:TypeId) (a:Addr):Calm P (binOp op t (.pointer (some a)) (.pointer none)):=by
 have he:=calm_equal_ptrnil (P:=P) t a
 cases op <;> unfold binOp <;> repeat' first
  | contradiction
  | exact he
  | exact calm_pure _
  | exact (never_stuck _).calm
  | exact (never_unsupported _).calm
  | exact calm_intArith _ _ _ _
  | exact calm_intBits _ _ _ _
  | exact calm_intCmp _ _ _
  | exact calm_intDiv _ _ _ _
  | exact calm_shift _ _ _ _ _
  | exact calm_stringOp _ _ _
  | (refine calm_bind he fun _=>?_)
  | split
  | dsimp only
  | (exfalso;simp_all;done)
theorem calm_binOp_int (op:BinOp) (t:TypeId) (k k':IntKind) (a b:Int):Calm P (binOp op t (.int k a) (.int k' b)):=by
 have he:=calm_equal_int (P:=P) t k k' a b
 cases op <;> unfold binOp <;> repeat' first
  | contradiction
  | exact he
  | exact calm_pure _
  | exact (never_stuck _).calm
  | exact (never_unsupported _).calm
  | exact calm_intArith _ _ _ _
  | exact calm_intBits _ _ _ _
  | exact calm_intCmp _ _ _
  | exact calm_intDiv _ _ _ _
  | exact calm_shift _ _ _ _ _
  | exact calm_stringOp _ _ _
  | (refine calm_bind he fun _=>?_)
  | split
  | dsimp only
  | (exfalso;simp_all;done)
theorem calm_binOp_string (op:BinOp) (t:TypeId) (a b:ByteArray):Calm P (binOp op t (.string a) (.string b)):=by
 have he:=calm_equal_string (P:=P) t a b
 cases op <;> unfold binOp <;> repeat' first
  | contradiction
  | exact he
  | exact calm_pure _
  | exact (never_stuck _).calm
  | exact (never_unsupported _).calm
  | exact calm_intArith _ _ _ _
  | exact calm_intBits _ _ _ _
  | exact calm_intCmp _ _ _
  | exact calm_intDiv _ _ _ _
  | exact calm_shift _ _ _ _ _
  | exact calm_stringOp _ _ _
  | (refine calm_bind he fun _=>?_)
  | split
  | dsimp only
  | (exfalso;simp_all;done)
theorem calm_binOp_of {x y:Value} (h:plainPair x y = true) (op:BinOp) (t:TypeId):Calm P (binOp op t x y):=by
 unfold plainPair at h
 split at h
 ·exact calm_binOp_int op t _ _ _ _
 ·exact calm_binOp_string op t _ _
 ·exact calm_binOp_bool op t _ _
 ·exact calm_binOp_slice op t _ _ _ _ _ _
 ·exact calm_binOp_nilptr op t _
 ·exact calm_binOp_nilptr op t _
 ·exact calm_binOp_ptrnil op t _
 ·rw [Bool.and_eq_true] at h;exact calm_binOp_agg op t h.1 h.2
 ·cases h
theorem calm_eqGuard_of {a b:Value} (h:plainPair a b = true) (op:BinOp) (t:TypeId) (x y:Operand):Calm P (eqGuard op t x y a b):=by
 have e:∀ c:Prop,[Decidable c]→Calm P (if c then (pure ():Sem Unit) else pure ()):=fun c _=>calm_ite (calm_pure _) (calm_pure _)
 unfold eqGuard;unfold plainPair at h
 split at h
 case h_8 =>
  rw [Bool.and_eq_true] at h;have hg:=calm_eqGuardIn_flat (P:=P) Op.maxDepth t (.agg _) (.agg _) (by simpa [flatV] using h.1) (by simpa [flatV] using h.2);dsimp only;refine calm_ite (calm_pure _) (calm_bind calm_program fun p=>calm_bind calm_program fun p'=>calm_ite (calm_pure _) (calm_bind hg fun b=>calm_ite (never_unsupported _).calm (calm_pure _)))
 all_goals first
  | exact e _
  | (dsimp only;exact e _)
  | cases h
end calm
end
section -- SerialB
open Go
section
variable {P:Program}
def quiet (P:Program) (op:Op):Bool :=
 match op with
 | .move _ | .assign _ | .pick .. | .extract .. | .field .. | .slice .. | .indexAddr .. | .index .. | .unOp .. | .makeInterface .. | .makeFunc .. | .nilCheck _ | .binOp .. | .build ..=>true
 | .convert _ d _=>match P.underlying d with | some (.int _)=>true | _=>false
 | .fieldAddr s _ f=>match P.underlying s with
   | some (.struct fs)=>match fs[f]? with
     | some fd=>match P.info? fd.type with | some i=>i.size != 0 | none=>false
     | none=>false
   | _=>false
 | .call c=>match c.callee with | .builtin .len=>true | _=>false
 | _=>false
def isSeqV:Value→Bool
 | .slice ..=>true
 | .string _=>true
 | _=>false
def isFuncV:Value→Bool
 | .func ..=>true
 | _=>false
def isIntV:Value→Bool
 | .int ..=>true
 | _=>false
def fits (ρ:Operand→Value) (op:Op):Bool :=
 match op with
 | .binOp _ _ x y _=>plainPair (ρ x) (ρ y)
 | .nilCheck x=>!isFuncV (ρ x)
 | .convert _ _ x=>isIntV (ρ x)
 | .call c=>match (c.args.map ρ)[0]? with | some v=>isSeqV v | none=>false
 | _=>true
theorem calm_value {s:Sem Value} (h:Calm P s):Calm P (do pure (Next.value (← s))):=calm_bind h fun _=>calm_pure _
theorem value_of {s:Sem Value} {w w1:World} {n:Next} (h:(do pure (Next.value (← s)):Sem Next).run P w = .ok n w1):∃ v,n = .value v:=by
 rw [Sem.run_bind] at h;obtain ⟨a,w2,_,h2⟩:=andThen_ok_inv h;simp only [Sem.run_pure,Result.ok.injEq] at h2;exact ⟨a,h2.1.symm⟩
theorem calm_convert_int (s d:TypeId) (k:IntKind) (n:Int) (hd:∃ k',P.underlying d = some (.int k')):Calm P (convert s d (.int k n)):=by
 obtain ⟨k',hd⟩:=hd;intro w v w1 e;unfold convert at e ⊢;rw [Sem.run_bind] at e;obtain ⟨a,w2,h1,h2⟩:=andThen_ok_inv e;obtain ⟨rfl,h3⟩:=calm_underlying s _ _ _ h1;rw [Sem.run_bind,run_underlying hd,Result.andThen_ok] at h2;have hc:Calm P (Conv.intToInt k' n):=calm_pure _
 have h4 : ∀ w', (match a, TypeDesc.int k', Value.int k n with | _, .int k, .int _ n => Conv.intToInt k n | _, _, _ => stuck "" : Sem Value).run P w' = (Conv.intToInt k' n).run P w' := fun _ => by cases a <;> rfl
 have h5:(Conv.intToInt k' n).run P w2 = .ok v w1:=by cases a <;> exact h2
 obtain ⟨rfl,h6⟩:=hc _ _ _ h5;refine ⟨rfl,fun w'=>?_⟩;rw [Sem.run_bind,h3 w',Result.andThen_ok,Sem.run_bind,run_underlying hd,Result.andThen_ok]
 cases a <;> exact h6 w'
theorem calm_len (ts:Array TypeId) (t:TypeId) (args:Array Value) (v:Value) (h:args[0]? = some v) (hv:isSeqV v = true):Calm P (Builtin.len_ ts t args):=by
 unfold Builtin.len_;rw [h];generalize ts[0]? = o
 cases o with
 | none=>exact (never_stuck _).calm
 | some t' =>
   dsimp only;refine calm_bind (calm_underlying _) fun d=>?_
   cases v <;> simp only [isSeqV,Bool.false_eq_true] at hv
   all_goals
    cases d <;> dsimp only <;> repeat' first
     | exact calm_pure _
     | exact (never_stuck _).calm
     | exact calm_underlying _
     | contradiction
     | (refine calm_bind (calm_underlying _) fun _=>?_)
     | split
theorem value_nilCheck (o:Oper) (ρ:Operand→Value) (x:Operand) (ho:o.op = .nilCheck x) {w w1:World} {n:Next} (h:(execOp ρ o).run P w = .ok n w1):∃ v,n = .value v:=by
 unfold execOp at h;rw [ho] at h;dsimp only at h
 split at h
 ·exact absurd h (never_runtimePanic _ _ _ _)
 ·exact absurd h (never_runtimePanic _ _ _ _)
 ·exact absurd h (never_runtimePanic _ _ _ _)
 ·split at h
  ·exact absurd h (never_runtimePanic _ _ _ _)
  ·rw [Sem.run_bind] at h;obtain ⟨p,w2,_,h⟩:=andThen_ok_inv h;rw [Sem.run_bind] at h;obtain ⟨b,w3,_,h⟩:=andThen_ok_inv h
   split at h
   ·rw [Sem.run_bind] at h;obtain ⟨b,w4,h1,_⟩:=andThen_ok_inv h;exact absurd h1 (never_unsupported _ _ _ _)
   ·simp only [Sem.run_pure,Result.ok.injEq] at h;exact ⟨_,h.1.symm⟩
  ·simp only [Sem.run_pure,Result.ok.injEq] at h;exact ⟨_,h.1.symm⟩
 ·simp only [Sem.run_pure,Result.ok.injEq] at h;exact ⟨_,h.1.symm⟩
theorem value_exec (o:Oper) (ρ:Operand→Value) (hq:quiet P o.op = true) {w w1:World} {n:Next} (h:(execOp ρ o).run P w = .ok n w1):∃ v,n = .value v:=by
 cases ho:o.op
 case nilCheck x=>exact value_nilCheck o ρ x ho h
 case call c =>
  obtain ⟨callee,args,ts⟩:=c;rw [ho] at hq
  cases callee with
  | builtin b =>
    cases b <;> simp only [quiet,Bool.false_eq_true] at hq
    simp only [execOp,ho,resolve,invoke,builtin,pure_bind] at h;exact value_of h
  | _=>simp [quiet] at hq
 case pick c a b =>
  unfold execOp at h;rw [ho] at h;dsimp only at h;rw [Sem.run_bind] at h;obtain ⟨p,w2,_,h⟩:=andThen_ok_inv h;simp only [Sem.run_pure,Result.ok.injEq] at h;exact ⟨_,h.1.symm⟩
 all_goals
  rw [ho] at hq
  first
   | (simp [quiet] at hq;done)
   | (unfold execOp at h;rw [ho] at h;exact value_of h)
   | (unfold execOp at h;rw [ho] at h;simp only [Sem.run_pure,Result.ok.injEq] at h;exact ⟨_,h.1.symm⟩)
theorem calm_underlying_at {β:Type} {t:TypeId} {d:TypeDesc} (h:P.underlying t = some d) {f:TypeDesc→Sem β} (hf:Calm P (f d)):Calm P (underlying t >>= f):=fun w v w1 e=>by
 rw [Sem.run_bind,run_underlying h,Result.andThen_ok] at e;obtain ⟨a,b⟩:=hf _ _ _ e;exact ⟨a,fun w'=>by rw [Sem.run_bind,run_underlying h,Result.andThen_ok];exact b w'⟩
theorem run_sizeOf_at {t:TypeId} {i:TypeInfo} (h:P.info? t = some i) (w:World):(sizeOf t).run P w = .ok i.size w:=by
 simp [sizeOf,typeInfo,h]
theorem calm_sizeOf_at {β:Type} {t:TypeId} {i:TypeInfo} (h:P.info? t = some i) {f:Nat→Sem β} (hf:Calm P (f i.size)):Calm P (sizeOf t >>= f):=fun w v w1 e=>by
 rw [Sem.run_bind,run_sizeOf_at h,Result.andThen_ok] at e;obtain ⟨a,b⟩:=hf _ _ _ e;exact ⟨a,fun w'=>by rw [Sem.run_bind,run_sizeOf_at h,Result.andThen_ok];exact b w'⟩
theorem calm_mapM {γ δ:Type}:∀ (l:List γ) (f:γ→Sem δ),(∀ a,Calm P (f a))→Calm P (l.mapM f)
 | [],f,_=>by rw [List.mapM_nil];exact calm_pure _
 | a :: l,f,h=>by
   rw [List.mapM_cons];exact calm_bind (h a) fun _=>calm_bind (calm_mapM l f h) fun _=>calm_pure _
theorem calm_build (t:TypeId) (parts:Array (Nat × Value)):Calm P (Instr.build t parts):=by
 unfold Instr.build;refine calm_bind ?_ fun z=>calm_bind (calm_underlying t) fun d=>?_
 ·unfold zeroValue;refine calm_bind (calm_typeInfo t) fun i=>?_
  split
  ·exact calm_pure _
  ·exact (never_unsupported _).calm
 ·cases d <;> dsimp only
  case struct fields =>
   refine calm_bind ?_ fun places=>?_
   ·rw [Array.mapM_eq_mapM_toList];refine calm_bind (calm_mapM _ _ fun f=>calm_bind (calm_sizeOf _) fun _=>calm_pure _) fun _=>calm_pure _
   ·split
    ·exact calm_pure _
    ·exact (never_stuck _).calm
  case array n e =>
   refine calm_bind (calm_sizeOf _) fun places=>?_
   split
   ·exact calm_pure _
   ·exact (never_stuck _).calm
  all_goals exact (never_stuck _).calm
theorem calm_exec (o:Oper) (ρ:Operand→Value) (hq:quiet P o.op = true) (hf:fits ρ o.op = true):Calm P (execOp ρ o):=by
 cases ho:o.op
 all_goals
  rw [ho] at hq hf
  first
   | (simp [quiet] at hq;done)
   | skip
 all_goals unfold execOp;rw [ho]
 case move x=>exact calm_pure _
 case assign x=>exact calm_pure _
 case pick c a b=>exact calm_bind (calm_asBool _) fun _=>calm_pure _
 case nilCheck x =>
  dsimp only;simp only [fits,Bool.not_eq_true'] at hf
  split
  ·exact (never_runtimePanic _).calm
  ·exact (never_runtimePanic _).calm
  ·exact (never_runtimePanic _).calm
  ·rename_i he;rw [he] at hf;cases hf
  ·exact calm_pure _
 case binOp op t x y t'=>exact calm_value (calm_bind (calm_eqGuard_of hf op t x y) fun _=>calm_binOp_of hf op t)
 case unOp=>exact calm_value (calm_unary _ _)
 case convert s d x =>
  simp only [fits] at hf;simp only [quiet] at hq
  cases hx:ρ x <;> rw [hx] at hf <;> simp only [isIntV,Bool.false_eq_true] at hf
  dsimp only;rw [hx];refine calm_value (calm_convert_int _ _ _ _ ?_)
  split at hq
  ·exact ⟨_,by assumption⟩
  ·cases hq
 case build=>exact calm_value (calm_build _ _)
 case makeInterface=>exact calm_value (calm_makeInterface _ _)
 case makeFunc=>exact calm_value (calm_pure _)
 case slice=>exact calm_value (calm_sliceAt _ _ _ _ _)
 case fieldAddr s x f =>
  simp only [quiet] at hq
  split at hq
  ·rename_i fs hs
   split at hq
   ·rename_i fd hfd
    split at hq
    ·rename_i i hi;refine calm_value ?_;unfold Instr.fieldAt;refine calm_underlying_at hs ?_;dsimp only;rw [hfd];refine calm_bind (calm_sureAddr _) fun a=>calm_bind ?_ fun _=>calm_pure _
     unfold fieldPlace;refine calm_sizeOf_at hi ?_;rw [if_neg (by simpa using hq)];exact calm_pure _
    ·cases hq
   ·cases hq
  ·cases hq
 case field=>exact calm_value (calm_field _ _ _)
 case indexAddr=>exact calm_value (calm_indexAt _ _ _)
 case index=>exact calm_value (calm_index _ _ _)
 case extract=>exact calm_value (calm_extract _ _)
 case call c =>
  obtain ⟨callee,args,ts⟩:=c
  cases callee with
  | builtin b =>
    cases b <;> simp only [quiet,Bool.false_eq_true] at hq
    simp only [fits] at hf;simp only [resolve,invoke,builtin,pure_bind]
    split at hf
    ·exact calm_value (calm_len _ _ _ _ (by assumption) hf)
    ·cases hf
  | _=>simp [quiet] at hq
/-! ### The order of a region -/
variable {ops:Array Oper}
theorem straight_out {R:Act→World→Prop}:¬ LetsOut (Exit.then R (fun _ _ _=>False)):=fun ⟨_,_,h⟩=>h
theorem wpOp_some {R:Act→World→Prop} {i:Nat} {o:Oper} (hi:ops[i]? = some o) {K:Act→World→Prop} {a:Act} {w:World}
  (h:wpOp P ops (Exit.then R (fun _ _ _=>False)) i K a w):∃ v a' w',a'.tmps = (a.put o.dst v).tmps∧K a' w':=by
 unfold wpOp at h;simp only [hi] at h
 split at h
 ·rcases h with h | ⟨_,h⟩
  ·unfold Oper.wp at h;generalize hr:(execOp a.eval o).run P w = r at h
   cases r with
   | ok n w' =>
     cases n <;> simp only [Oper.upon] at h <;> first | exact ⟨_,_,_,rfl,h⟩ | exact h.elim | skip
     case defer d=>exact ⟨undef,_,_,by cases o.dst <;> rfl,h⟩
     case enter f args =>
      obtain ⟨e,w'',fr,hR,_⟩:=h []
      cases e with
      | returned v=>exact ⟨_,_,_,rfl,hR⟩
      | panicked c=>exact hR.elim
      | outgrown=>exact (straight_out hR).elim
     case row row args =>
      obtain ⟨v,w'',hR,_⟩:=h default [];exact ⟨_,_,_,rfl,hR⟩
   | halt x w'=>cases x <;> simp only [Oper.upon] at h <;> exact h.elim
  ·exact (straight_out h).elim
 ·exact ⟨_,_,_,rfl,h⟩
theorem put_other (a:Act) (d:Option Tmp) (v:Value) (t:Tmp) (h:d ≠ some t):(a.put d v).tmps[t]? = a.tmps[t]?:=by
 cases d with
 | none=>rfl
 | some d =>
   have hne:d ≠ t:=fun e=>h (by rw [e])
   simp [Act.put,Array.getElem?_setIfInBounds_ne hne]
theorem final {R:Act→World→Prop} (l:List Nat):∀ (a:Act) (w:World),wpOps P ops (Exit.then R (fun _ _ _=>False)) l a w →
  ∃ af wf,R af wf∧∀ t,(∀ k ∈ l,∀ o,ops[k]? = some o→o.dst ≠ some t)→af.tmps[t]? = a.tmps[t]?:=by
 induction l with
 | nil=>exact fun a w h=>⟨a,w,h,fun _ _=>rfl⟩
 | cons i l ih =>
   intro a w h;rw [wpOps_cons] at h
   cases hi:ops[i]? with
   | none =>
     have h':wpOps P ops (Exit.then R (fun _ _ _=>False)) l a w:=by simpa [wpOp,hi] using h
     obtain ⟨af,wf,h1,h2⟩:=ih _ _ h';exact ⟨af,wf,h1,fun t ht=>h2 t fun k hk=>ht k (List.mem_cons_of_mem _ hk)⟩
   | some o =>
     obtain ⟨v,a',w',he,hK⟩:=wpOp_some hi h;obtain ⟨af,wf,h1,h2⟩:=ih _ _ hK;refine ⟨af,wf,h1,fun t ht=>?_⟩;rw [h2 t fun k hk=>ht k (List.mem_cons_of_mem _ hk),he];exact put_other a _ v t (ht i (List.mem_cons_self ..) o hi)
def Agree (ops:Array Oper) (o:Oper) (a b:Act):Prop:=∀ t ∈ o.looksAt ops,a.tmps[t]? = b.tmps[t]?
theorem Agree.eval {o:Oper} {a b:Act} (h:Agree ops o a b):∀ x ∈ o.op.operands,a.eval x = b.eval x:=by
 intro x hx
 cases x with
 | tmp t =>
   have:=h t (List.mem_append_left _ (List.mem_filterMap.2 ⟨.tmp t,by simpa using hx,rfl⟩));simp only [Act.eval,Array.getD_eq_getD_getElem?,this]
 | _=>rfl
theorem Agree.wanted {o:Oper} {a b:Act} (h:Agree ops o a b):Region.wanted o (yielded ops a.tmps) = Region.wanted o (yielded ops b.tmps):=by
 unfold Region.wanted
 cases hg:o.guard with
 | none=>rfl
 | some gw =>
   obtain ⟨g,want⟩:=gw
   have hy:yielded ops a.tmps g = yielded ops b.tmps g:=by
    unfold yielded
    cases ht:(ops[g]?).bind (·.dst) with
    | none=>rfl
    | some t =>
      have:=h t (by simp [Oper.looksAt,hg,ht]);simp only [Option.bind_some,this]
   simp only [hy]
theorem fits_congr {ρ ρ':Operand→Value} (op:Op) (h:∀ x ∈ op.operands,ρ x = ρ' x):fits ρ op = fits ρ' op:=by
 cases op <;> simp only [fits]
 case binOp o t x y t'=>rw [h x (by simp [Op.operands]),h y (by simp [Op.operands])]
 case nilCheck x=>rw [h x (by simp [Op.operands])]
 case convert s d x=>rw [h x (by simp [Op.operands])]
 case call c =>
  have:c.args.map ρ = c.args.map ρ':=Array.map_congr_left fun x hx=>h x (by simp [Op.operands,Call.operands,hx])
  rw [this]
theorem quiet_select {op:Op} (h:quiet P op = true):∀ cs b,op ≠ .select cs b:=by
 intro cs b e;rw [e] at h
 cases h
theorem Yields.agree {o:Oper} {u:Value} {a b:Act} (hy:Yields P ops o u a) (h:Agree ops o a b) (hs:∀ cs c,o.op ≠ .select cs c):Yields P ops o u b :=
 hy.of_same (execOp_congr o hs fun x hx=>(h.eval x hx).symm) h.wanted.symm
def goodB (P:Program) (ops:Array Oper) (a:Act):Bool:=ops.toList.all fun o=>fits a.eval o.op || !quiet P o.op || !Region.wanted o (yielded ops a.tmps)
theorem yields_of {R:Act→World→Prop} {i:Nat} {o:Oper} (hi:ops[i]? = some o) (hq:quiet P o.op = true) {K:Act→World→Prop} {a:Act} {w:World}
  (h:wpOp P ops (Exit.then R (fun _ _ _=>False)) i K a w) (hfin:∀ u w',K (a.put o.dst u) w'→Region.wanted o (yielded ops a.tmps) = true→fits a.eval o.op = true) :
  ∃ u,Yields P ops o u a∧K (a.put o.dst u) w:=by
 unfold wpOp at h;simp only [hi] at h
 split at h
 ·rename_i hw
  rcases h with h | ⟨_,h⟩
  ·unfold Oper.wp at h;generalize hr:(execOp a.eval o).run P w = r at h
   cases r with
   | ok n w' =>
     obtain ⟨u,rfl⟩:=value_exec o a.eval hq hr;simp only [Oper.upon] at h;obtain ⟨rfl,hall⟩:=calm_exec o a.eval hq (hfin u w' h hw) _ _ _ hr;exact ⟨u,.inl ⟨hw,hall⟩,h⟩
   | halt x w'=>cases x <;> simp only [Oper.upon] at h <;> exact h.elim
  ·exact (straight_out h).elim
 ·rename_i hw;exact ⟨undef,.inr ⟨by simpa using hw,rfl⟩,h⟩
theorem yields_inv {R:Exit→Act→World→Prop} {i:Nat} {o:Oper} {u:Value} (hi:ops[i]? = some o) {K:Act→World→Prop} {a:Act} {w:World} (hR:¬ LetsOut R) (hy:Yields P ops o u a)
  (h:wpOp P ops R i K a w):K (a.put o.dst u) w:=by
 unfold wpOp at h;simp only [hi] at h
 rcases hy with ⟨hw,hy⟩ | ⟨hw,rfl⟩
 ·rw [if_pos hw] at h
  rcases h with h | ⟨_,h⟩
  ·unfold Oper.wp at h;rw [hy w] at h;exact h
  ·exact (hR h).elim
 ·rw [if_neg (by rw [hw];simp)] at h;exact h
end
end
section -- SerialC
open Go
section
variable {P:Program} {ops:Array Oper}
theorem wpOp_back {R:Act→World→Prop} {i j:Nat} {oi oj:Oper} {u:Value} (hi:ops[i]? = some oi) (hj:ops[j]? = some oj) (hap:oi.apart ops oj = true)
  (hsi:∀ cs b,oi.op ≠ .select cs b) (hsj:∀ cs b,oj.op ≠ .select cs b) {K:Act→World→Prop} {a:Act} {w:World} (hy:Yields P ops oi u a)
  (h:wpOp P ops (Exit.then R (fun _ _ _=>False)) j (wpOp P ops (Exit.then R (fun _ _ _=>False)) i K) a w) :
  wpOp P ops (Exit.then R (fun _ _ _=>False)) j K (a.put oi.dst u) w:=by
 obtain ⟨h1,h2,h3⟩:=Oper.apart_spec hap;have keep:∀ v,Yields P ops oi u (a.put oj.dst v):=fun v=>hy.of_same (execOp_put oi hsi a oj.dst v h3) (wanted_put oi a oj.dst v h3)
 have keepD:∀ d,Yields P ops oi u { a with defers:=d :: a.defers }:=fun d=>hy.of_same rfl rfl
 unfold wpOp at h ⊢;simp only [hj] at h ⊢;rw [wanted_put oj a oi.dst u h1]
 split at h
 ·rename_i hw;rw [if_pos hw]
  rcases h with h | ⟨_,h⟩
  case inr=>exact (straight_out h).elim
  refine .inl ?_;unfold Oper.wp at h ⊢;rw [execOp_put oj hsj a oi.dst u h1];generalize (execOp a.eval oj).run P w = r at h ⊢
  cases r with
  | ok n w' =>
    cases n <;> simp only [Oper.upon] at h ⊢
    case value v=>rw [Act.put_comm a u v h2];exact yields_inv hi straight_out (keep v) h
    case skip=>rw [Act.put_comm a u undef h2];exact yields_inv hi straight_out (keep undef) h
    case defer d =>
     rw [Act.put_defers,Act.put_comm _ u undef h2];exact yields_inv hi straight_out ((keepD d).of_same (execOp_put oi hsi _ oj.dst undef h3) (wanted_put oi _ oj.dst undef h3)) h
    case enter f args =>
     refine Calls.mono h fun e w'' he=>?_
     cases e with
     | returned v =>
       have he':wpOp P ops (Exit.then R (fun _ _ _=>False)) i K (a.put oj.dst v) w'':=he;have hk:=yields_inv hi straight_out (keep v) he';rw [← Act.put_comm a u v h2] at hk;exact hk
     | panicked c=>exact he
     | outgrown=>exact he
    case row row args=>exact Rows.mono h fun v w'' he=>by rw [Act.put_comm a u v h2];exact yields_inv hi straight_out (keep v) he
  | halt x w'=>cases x <;> simp only [Oper.upon] at h ⊢ <;> exact h
 ·rename_i hw;rw [if_neg hw,Act.put_comm a u undef h2];exact yields_inv hi straight_out (keep undef) h
def Fin (P:Program) (ops:Array Oper) (R:Act→World→Prop):Prop:=∀ a w,R a w→goodB P ops a = true
theorem good_at {a:Act} (h:goodB P ops a = true) {i:Nat} {o:Oper} (hi:ops[i]? = some o) (hq:quiet P o.op = true) (hw:Region.wanted o (yielded ops a.tmps) = true):fits a.eval o.op = true:=by
 unfold goodB at h;rw [List.all_eq_true] at h;have:=h o (Array.mem_toList_iff.2 (Array.mem_of_getElem? hi));simpa [hq,hw] using this
def Spares (ops:Array Oper) (o:Oper) (l:List Nat):Prop:=∀ k ∈ l,∀ ok,ops[k]? = some ok→∀ t ∈ o.looksAt ops,ok.dst ≠ some t
theorem fits_of_final {R:Act→World→Prop} (hF:Fin P ops R) {i:Nat} {o:Oper} (hi:ops[i]? = some o) (hq:quiet P o.op = true) (hself:∀ t ∈ o.looksAt ops,o.dst ≠ some t) {l:List Nat} (hl:Spares ops o l)
  {a:Act} (u:Value) {w':World} (h:wpOps P ops (Exit.then R (fun _ _ _=>False)) l (a.put o.dst u) w') (hw:Region.wanted o (yielded ops a.tmps) = true):fits a.eval o.op = true:=by
 obtain ⟨af,wf,h1,h2⟩:=final l _ _ h
 have hag:Agree ops o af a:=fun t ht=>by
  rw [h2 t fun k hk ok hok=>hl k hk ok hok t ht];exact put_other a _ u t (hself t ht)
 rw [← fits_congr o.op hag.eval];exact good_at (hF _ _ h1) hi hq (by rw [hag.wanted];exact hw)
def easy (op:Op):Bool:=match op with | .move _=>true | _=>false
theorem easy_fits {op:Op} (h:easy op = true) (ρ:Operand→Value):fits ρ op = true:=by
 unfold easy at h
 split at h
 ·rfl
 ·cases h
def Moves (P:Program) (ops:Array Oper) (o:Oper) (l:List Nat):Prop:=quiet P o.op = true∧(easy o.op = true∨((∀ t ∈ o.looksAt ops,o.dst ≠ some t)∧Spares ops o l))
theorem Moves.fits {o:Oper} {l l':List Nat} (h:Moves P ops o l) {R:Act→World→Prop} (hF:Fin P ops R) {i:Nat} (hi:ops[i]? = some o) (hl:Spares ops o l→Spares ops o l') {a:Act} (u:Value) {w':World}
  (hh:wpOps P ops (Exit.then R (fun _ _ _=>False)) l' (a.put o.dst u) w') (hw:Region.wanted o (yielded ops a.tmps) = true):fits a.eval o.op = true:=by
 obtain ⟨hq,he | ⟨hself,hsp⟩⟩:=h
 ·exact easy_fits he _
 ·exact fits_of_final hF hi hq hself (hl hsp) u hh hw
theorem swap {R:Act→World→Prop} (hF:Fin P ops R) {i j:Nat} {oi oj:Oper} (hi:ops[i]? = some oi) (hj:ops[j]? = some oj) (hap:oi.apart ops oj = true) (hap':oj.apart ops oi = true)
  (hsi:∀ cs b,oi.op ≠ .select cs b) (hsj:∀ cs b,oj.op ≠ .select cs b) {rest:List Nat}
  (hq:Moves P ops oi rest∨Moves P ops oj rest)
  {a:Act} {w:World} (h:wpOps P ops (Exit.then R (fun _ _ _=>False)) (j :: i :: rest) a w):wpOps P ops (Exit.then R (fun _ _ _=>False)) (i :: j :: rest) a w:=by
 obtain ⟨h1,h2,h3⟩:=Oper.apart_spec hap;rw [wpOps_cons] at h ⊢
 rcases hq with hm | hm
 · -- the quiet one goes ahead
  have h':wpOp P ops (Exit.then R (fun _ _ _=>False)) j (wpOp P ops (Exit.then R (fun _ _ _=>False)) i (wpOps P ops (Exit.then R (fun _ _ _=>False)) rest)) a w :=
   wpOp_mono (fun a w h=>by rwa [wpOps_cons] at h) h
  obtain ⟨v,a',w',he,hK⟩:=wpOp_some hj h';have hq:=hm.1;obtain ⟨u,hy,_⟩:=yields_of hi hq hK fun u w' hu hw=>hm.fits hF hi id u hu hw
  have hag:Agree ops oi a' a:=fun t ht=>by
   rw [he];exact put_other a _ v t fun e=>h3 t e ht
  have hy':=Yields.agree hy hag (quiet_select hq);refine hy'.wpOp hi ?_;rw [wpOps_cons];exact wpOp_back hi hj hap hsi hsj hy' h'
 · -- the quiet one goes behind
  have hq:=hm.1
  obtain ⟨u,hy,hK⟩:=yields_of hj hq h fun u w' hu hw=>hm.fits hF hj (l':=i :: rest) (fun hsp k hk ok hok t ht=>by
   rcases List.mem_cons.1 hk with rfl | hk
   ·rw [hi] at hok
    obtain rfl:=Option.some.inj hok
    exact fun e=>h1 t e ht
   ·exact hsp k hk ok hok t ht) u hu hw
  rw [wpOps_cons] at hK;have:=wpOp_put (oi:=oj) (oj:=oi) hi hap' hsj hsi (fun c a w h=>h) hy hK;exact wpOp_mono (fun a' w' h=>by rw [wpOps_cons];exact h.1.wpOp hj h.2) this
/-! ### Two loads, in either order -/
def Stay (P:Program) {α:Type} (s:Sem α):Prop:=∀ w v w1,s.run P w = .ok v w1→w1 = w
theorem Calm.stay {α:Type} {s:Sem α} (h:Calm P s):Stay P s:=fun w v w1 e=>(h w v w1 e).1
theorem stay_bind {α β:Type} {s:Sem α} {f:α→Sem β} (hs:Stay P s) (hf:∀ a,Stay P (f a)):Stay P (s >>= f):=fun w v w1 e=>by
 rw [Sem.run_bind] at e;obtain ⟨a,w2,h1,h2⟩:=andThen_ok_inv e;obtain rfl:=hs _ _ _ h1;exact hf a _ _ _ h2
theorem stay_load (a:Addr):Stay P (load a):=fun w v w1 e=>by
 unfold load at e;simp only [Sem.run] at e
 split at e
 ·cases e
  rfl
 ·split at e
  ·cases e
   rfl
  ·cases e
theorem stay_loadCellsFrom (a:Addr):∀ (n i:Nat) (acc:Array Value),Stay P (loadCellsFrom a i n acc):=by
 intro n
 induction n with
 | zero=>exact fun i acc=>(calm_pure _).stay
 | succ n ih=>exact fun i acc=>stay_bind (stay_load _) fun v=>ih _ _
theorem stay_loadVar (t:TypeId) (a:Addr):Stay P (loadVar t a):=by
 unfold loadVar;refine stay_bind (calm_isAgg t).stay fun b=>?_
 cases b
 ·exact stay_load a
 ·exact stay_bind (calm_sizeOf t).stay fun n=>stay_bind (stay_loadCellsFrom a n 0 #[]) fun v=>(calm_pure _).stay
theorem stay_loadAt (t:TypeId) (v:Value):Stay P (Instr.loadAt t v):=stay_bind (calm_sureAddr v).stay fun a=>stay_loadVar t a
def isLoad (op:Op):Bool:=match op with | .load ..=>true | _=>false
theorem isLoad_exec {o:Oper} (h:isLoad o.op = true) {ρ:Operand→Value} {w w1:World} {n:Next} (e:(execOp ρ o).run P w = .ok n w1):w1 = w∧∃ v,n = .value v:=by
 unfold isLoad at h
 split at h
 ·rename_i t x ho
  have e':(do pure (Next.value (← Instr.loadAt t (ρ x))):Sem Next).run P w = .ok n w1:=by
   unfold execOp at e;simpa only [ho] using e
  refine ⟨stay_bind (stay_loadAt t (ρ x)) (fun v=>(calm_pure _).stay) _ _ _ e',value_of e'⟩
 ·cases h
def YAt (P:Program) (ops:Array Oper) (o:Oper) (v:Value) (a:Act) (w:World):Prop :=
 (Region.wanted o (yielded ops a.tmps) = true∧(execOp a.eval o).run P w = .ok (.value v) w)∨(Region.wanted o (yielded ops a.tmps) = false∧v = undef)
theorem yat_of {R:Act→World→Prop} {i:Nat} {o:Oper} (hi:ops[i]? = some o) (hl:isLoad o.op = true) {K:Act→World→Prop} {a:Act} {w:World}
  (h:wpOp P ops (Exit.then R (fun _ _ _=>False)) i K a w):∃ v,YAt P ops o v a w∧K (a.put o.dst v) w:=by
 unfold wpOp at h;simp only [hi] at h
 split at h
 ·rename_i hw
  rcases h with h | ⟨_,h⟩
  ·unfold Oper.wp at h;generalize hr:(execOp a.eval o).run P w = r at h
   cases r with
   | ok n w' =>
     obtain ⟨rfl,v,rfl⟩:=isLoad_exec hl hr;simp only [Oper.upon] at h;exact ⟨v,.inl ⟨hw,hr⟩,h⟩
   | halt x w'=>cases x <;> simp only [Oper.upon] at h <;> exact h.elim
  ·exact (straight_out h).elim
 ·rename_i hw;exact ⟨undef,.inr ⟨by simpa using hw,rfl⟩,h⟩
theorem YAt.wpOp {i:Nat} {o:Oper} {v:Value} {a:Act} {w:World} {Q:Exit→Act→World→Prop} (hi:ops[i]? = some o) (hy:YAt P ops o v a w) {K:Act→World→Prop} (h:K (a.put o.dst v) w):wpOp P ops Q i K a w:=by
 unfold Go.wpOp;simp only [hi]
 rcases hy with ⟨hw,hv⟩ | ⟨hw,rfl⟩
 ·rw [if_pos hw];refine .inl ?_;unfold Oper.wp;rw [hv];exact h
 ·rw [if_neg (by rw [hw];simp)];exact h
theorem YAt.of_same {o:Oper} {v:Value} {a a':Act} {w:World} (hy:YAt P ops o v a w) (he:execOp a'.eval o = execOp a.eval o)
  (hw:Region.wanted o (yielded ops a'.tmps) = Region.wanted o (yielded ops a.tmps)):YAt P ops o v a' w:=by
 unfold YAt at *;rw [he,hw];exact hy
theorem swap_loads {R:Act→World→Prop} {i j:Nat} {oi oj:Oper} (hi:ops[i]? = some oi) (hj:ops[j]? = some oj) (hap:oi.apart ops oj = true)
  (hsi:∀ cs b,oi.op ≠ .select cs b) (hsj:∀ cs b,oj.op ≠ .select cs b) {rest:List Nat} (hli:isLoad oi.op = true) (hlj:isLoad oj.op = true)
  {a:Act} {w:World} (h:wpOps P ops (Exit.then R (fun _ _ _=>False)) (j :: i :: rest) a w):wpOps P ops (Exit.then R (fun _ _ _=>False)) (i :: j :: rest) a w:=by
 obtain ⟨h1,h2,h3⟩:=Oper.apart_spec hap;rw [wpOps_cons] at h ⊢;obtain ⟨vj,hyj,hK⟩:=yat_of hj hlj h;rw [wpOps_cons] at hK;obtain ⟨vi,hyi,hK2⟩:=yat_of hi hli hK;refine YAt.wpOp hi (hyi.of_same (execOp_put oi hsi a oj.dst vj h3).symm (wanted_put oi a oj.dst vj h3).symm) ?_;rw [wpOps_cons];refine YAt.wpOp hj (hyj.of_same (execOp_put oj hsj a oi.dst vi h1) (wanted_put oj a oi.dst vi h1)) ?_;rw [Act.put_comm a vi vj h2];exact hK2
/-! ### The look at a region's rows -/
def orMask (b:Array Nat) (l:List Edge) (s:Nat):Nat:=l.foldl (fun s e=>if Region.binds .any e then s ||| 2 ^ e.on ||| b.getD e.on 0 else s) s
theorem orMask_bit (b:Array Nat) (l:List Edge):∀ (s p:Nat),(orMask b l s).testBit p = true→s.testBit p = true∨∃ e ∈ l,Region.binds .any e = true∧(e.on = p∨(b.getD e.on 0).testBit p = true):=by
 induction l with
 | nil=>exact fun s p h=>.inl h
 | cons e l ih =>
   intro s p h
   rcases ih _ p h with h | ⟨e',he',hb,hp⟩
   ·dsimp only at h
    split at h
    ·rename_i hb;rw [Nat.testBit_or,Nat.testBit_or,Nat.testBit_two_pow] at h;simp only [Bool.or_eq_true,decide_eq_true_eq] at h
     rcases h with (h | h) | h
     ·exact .inl h
     ·exact .inr ⟨e,List.mem_cons_self ..,hb,.inl h⟩
     ·exact .inr ⟨e,List.mem_cons_self ..,hb,.inr h⟩
    ·exact .inl h
   ·exact .inr ⟨e',List.mem_cons_of_mem _ he',hb,hp⟩
def noSelect (op:Op):Bool:=match op with | .select ..=>false | _=>true
def sparesB (ops:Array Oper) (x o:Oper):Bool:=match o.dst with | some d=>!(x.looksAt ops).contains d | none=>true
def serialB (P:Program) (ops:Array Oper) (b:Array Nat):Bool :=
 (List.range ops.size).all fun i=>match ops[i]? with
   | none=>true
   | some oi =>
     (oi.after.toList.all fun e=>!Region.binds .any e || decide (e.on < i)) && (b.getD i 0 == orMask b oi.after.toList 0) && noSelect oi.op &&
     (!quiet P oi.op || easy oi.op || (List.range ops.size).all fun k=>decide (k < i) || match ops[k]? with | some ok=>sparesB ops oi ok | none=>true) &&
     ((List.range i).all fun p=>(b.getD i 0).testBit p || match ops[p]? with | some op=>op.apart ops oi && oi.apart ops op && (quiet P op.op || quiet P oi.op || (isLoad op.op && isLoad oi.op)) | none=>true)
structure Serial (P:Program) (ops:Array Oper) (b:Array Nat):Prop where
 edges:∀ (i:Nat) (oi:Oper),ops[i]? = some oi→∀ e ∈ oi.after,Region.binds .any e = true→e.on < i
 mask:∀ (i:Nat) (oi:Oper),ops[i]? = some oi→b.getD i 0 = orMask b oi.after.toList 0
 sel:∀ (i:Nat) (oi:Oper),ops[i]? = some oi→∀ cs c,oi.op ≠ .select cs c
 spares:∀ (i:Nat) (oi:Oper),ops[i]? = some oi→quiet P oi.op = true→easy oi.op = false→∀ (k:Nat) (ok:Oper),i ≤ k→ops[k]? = some ok→∀ t ∈ oi.looksAt ops,ok.dst ≠ some t
 pair:∀ (i:Nat) (oi:Oper),ops[i]? = some oi→∀ (p:Nat) (op:Oper),p < i→ops[p]? = some op→(b.getD i 0).testBit p = true∨(op.apart ops oi = true∧oi.apart ops op = true∧((quiet P op.op = true∨quiet P oi.op = true)∨(isLoad op.op = true∧isLoad oi.op = true)))
theorem sparesB_spec {x o:Oper} (h:sparesB ops x o = true):∀ t ∈ x.looksAt ops,o.dst ≠ some t:=by
 intro t ht e;unfold sparesB at h;rw [e] at h;simp at h;exact h ht
theorem serial_of {b:Array Nat} (h:serialB P ops b = true):Serial P ops b:=by
 have hall:∀ (i:Nat) (oi:Oper),ops[i]? = some oi→((((oi.after.toList.all fun e=>!Region.binds .any e || decide (e.on < i)) = true∧(b.getD i 0 == orMask b oi.after.toList 0) = true)∧noSelect oi.op = true) ∧
   (!quiet P oi.op || easy oi.op || (List.range ops.size).all fun k=>decide (k < i) || match ops[k]? with | some ok=>sparesB ops oi ok | none=>true) = true) ∧
   ((List.range i).all fun p=>(b.getD i 0).testBit p || match ops[p]? with | some op=>op.apart ops oi && oi.apart ops op && (quiet P op.op || quiet P oi.op || (isLoad op.op && isLoad oi.op)) | none=>true) = true:=fun i oi hi=>by
  have hlt:i < ops.size:=(Array.getElem?_eq_some_iff.1 hi).1;have:=List.all_eq_true.1 h i (List.mem_range.2 hlt);simp only [hi,Bool.and_eq_true] at this;exact this
 refine ⟨fun i oi hi e he hb=>?_,fun i oi hi=>?_,fun i oi hi cs c e=>?_,fun i oi hi hq hne k ok hk hok=>?_,fun i oi hi p op hp hop=>?_⟩
 ·have:=List.all_eq_true.1 (hall i oi hi).1.1.1.1 e (Array.mem_toList_iff.2 he);simpa [hb] using this
 ·simpa using (hall i oi hi).1.1.1.2
 ·have:=(hall i oi hi).1.1.2;rw [e] at this
  cases this
 ·have h1:=(hall i oi hi).1.2;rw [hq,hne] at h1;have hlt:k < ops.size:=(Array.getElem?_eq_some_iff.1 hok).1;have h2:=List.all_eq_true.1 (show (List.range ops.size).all (fun k=>decide (k < i) || match ops[k]? with | some ok=>sparesB ops oi ok | none=>true) = true from h1) k (List.mem_range.2 hlt);rw [hok] at h2;simp only [Bool.or_eq_true,decide_eq_true_eq] at h2;exact sparesB_spec (h2.resolve_left (by omega))
 ·have:=List.all_eq_true.1 (hall i oi hi).2 p (List.mem_range.2 hp);simp only [hop,Bool.or_eq_true,Bool.and_eq_true] at this
  rcases this with h | ⟨⟨h1,h2⟩,h3⟩
  ·exact .inl h
  ·exact .inr ⟨h1,h2,h3⟩
/-! ### From the text's order to every order -/
def unl (n:Nat) (listed:Array Bool):List Nat:=(List.range n).filter fun k=>!listed.getD k true
theorem sorted_split {l:List Nat} (hs:l.Pairwise (· < ·)) {i:Nat} (hi:i ∈ l):l = l.filter (fun k=>decide (k < i)) ++ i :: l.filter (fun k=>decide (i < k)):=by
 induction l with
 | nil=>cases hi
 | cons x l ih =>
   obtain ⟨h1,h2⟩:=List.pairwise_cons.1 hs
   rcases List.mem_cons.1 hi with rfl | hi
   ·have e1:l.filter (fun k=>decide (k < i)) = []:=List.filter_eq_nil_iff.2 fun k hk=>by have:=h1 k hk;simp;omega
    have e2:l.filter (fun k=>decide (i < k)) = l:=List.filter_eq_self.2 fun k hk=>by simpa using h1 k hk
    simp [e1,e2]
   ·have hx:=h1 i hi;rw [List.filter_cons,List.filter_cons,if_pos (by simpa using hx),if_neg (by simp;omega),List.cons_append,← ih h2 hi]
theorem sorted_rest {l:List Nat} (hs:l.Pairwise (· < ·)) (i:Nat):l.filter (fun k=>decide (k < i)) ++ l.filter (fun k=>decide (i < k)) = l.filter (fun k=>decide (k ≠ i)):=by
 induction l with
 | nil=>rfl
 | cons x l ih =>
   obtain ⟨h1,h2⟩:=List.pairwise_cons.1 hs;have ih:=ih h2
   rcases Nat.lt_trichotomy x i with h | h | h
   ·rw [List.filter_cons,List.filter_cons,List.filter_cons,if_pos (by simpa using h),if_neg (by simp;omega),if_pos (by simp;omega),List.cons_append,ih]
   ·subst h;rw [List.filter_cons,List.filter_cons,List.filter_cons,if_neg (by simp),if_neg (by simp),if_neg (by simp),ih]
   ·have e1:l.filter (fun k=>decide (k < i)) = []:=List.filter_eq_nil_iff.2 fun k hk=>by have:=h1 k hk;simp;omega
    rw [e1,List.nil_append] at ih;rw [List.filter_cons,List.filter_cons,List.filter_cons,if_neg (by simp;omega),if_pos (by simpa using h),if_pos (by simp;omega),e1,List.nil_append,ih]
theorem unl_sorted (n:Nat) (listed:Array Bool):(unl n listed).Pairwise (· < ·):=(List.pairwise_lt_range).filter _
theorem getD_set (listed:Array Bool) (i k:Nat) (d:Bool):(listed.setIfInBounds i true).getD k d = if i = k∧i < listed.size then true else listed.getD k d:=by
 simp only [Array.getD_eq_getD_getElem?,Array.getElem?_setIfInBounds]
 by_cases h:i = k
 ·subst h
  by_cases h2:i < listed.size
  ·simp [h2]
  ·simp [h2]
 ·simp [h]
theorem unl_set (n:Nat) (listed:Array Bool) (i:Nat) (hi:i < listed.size):unl n (listed.setIfInBounds i true) = (unl n listed).filter fun k=>decide (k ≠ i):=by
 unfold unl;rw [List.filter_filter];apply List.filter_congr;intro k _;rw [getD_set]
 by_cases h:i = k
 ·subst h;simp [hi]
 ·simp [h,Ne.symm h]
def Shut (ops:Array Oper) (listed:Array Bool):Prop:=∀ i oi,ops[i]? = some oi→listed.getD i false = true→∀ e ∈ oi.after,Region.binds .any e = true→listed.getD e.on false = true
theorem listed_of_mask {b:Array Nat} (hS:Serial P ops b) {listed:Array Bool} (hc:Shut ops listed):∀ (i:Nat) (oi:Oper),ops[i]? = some oi→(∀ e ∈ oi.after,Region.binds .any e = true→listed.getD e.on false = true) →
  ∀ p,(b.getD i 0).testBit p = true→listed.getD p false = true:=by
 intro i
 induction i using Nat.strongRecOn with
 | _ i ih =>
   intro oi hi hall p hp;rw [hS.mask i oi hi] at hp
   rcases orMask_bit b _ 0 p hp with h | ⟨e,he,hb,h⟩
   ·simp at h
   ·have he':=Array.mem_toList_iff.1 he;have hl:=hall e he' hb
    rcases h with rfl | h
    ·exact hl
    ·have hlt:=hS.edges i oi hi e he' hb;have hsz:i < ops.size:=(Array.getElem?_eq_some_iff.1 hi).1;have hoe:ops[e.on]? = some ops[e.on]:=Array.getElem?_eq_getElem (by omega);exact ih e.on hlt _ hoe (hc e.on _ hoe hl) p h
theorem front {b:Array Nat} (hS:Serial P ops b) {R:Act→World→Prop} (hF:Fin P ops R) {i:Nat} {oi:Oper} (hi:ops[i]? = some oi) (post:List Nat) (hpost:∀ k ∈ post,i < k) :
  ∀ (pre:List Nat),(pre.Pairwise (· < ·))→(∀ p ∈ pre,p < i∧p < ops.size∧(b.getD i 0).testBit p = false)→∀ (a:Act) (w:World),
   wpOps P ops (Exit.then R (fun _ _ _=>False)) (pre ++ i :: post) a w→wpOps P ops (Exit.then R (fun _ _ _=>False)) (i :: (pre ++ post)) a w:=by
 intro pre
 induction pre with
 | nil=>exact fun _ _ a w h=>h
 | cons p pre ih =>
   intro hsorted hpre a w h;obtain ⟨hs1,hs2⟩:=List.pairwise_cons.1 hsorted;obtain ⟨hpi,hpn,hpb⟩:=hpre p (List.mem_cons_self ..);have hop:ops[p]? = some ops[p]:=Array.getElem?_eq_getElem hpn
   have h1:wpOps P ops (Exit.then R (fun _ _ _=>False)) (p :: i :: (pre ++ post)) a w:=by
    rw [List.cons_append,wpOps_cons] at h;rw [wpOps_cons];exact wpOp_mono (fun a w h=>ih hs2 (fun q hq=>hpre q (List.mem_cons_of_mem _ hq)) a w h) h
   rcases hS.pair i oi hi p _ hpi hop with h2 | ⟨hap,hap',hq⟩
   ·rw [hpb] at h2;cases h2
   ·rcases hq with hq | ⟨hq1,hq2⟩
    case inr=>exact swap_loads hi hop hap' (hS.sel i oi hi) (hS.sel p _ hop) hq2 hq1 h1
    refine swap hF hi hop hap' hap (hS.sel i oi hi) (hS.sel p _ hop) ?_ h1
    rcases hq with hq | hq
    ·refine .inr ⟨hq,?_⟩
     rcases Bool.eq_false_or_eq_true (easy ops[p].op) with he | he
     ·exact .inl he
     refine .inr ⟨hS.spares p _ hop hq he p _ (Nat.le_refl _) hop,fun k hk ok hok=>hS.spares p _ hop hq he k ok ?_ hok⟩
     rcases List.mem_append.1 hk with hk | hk
     ·exact Nat.le_of_lt (hs1 k hk)
     ·have:=hpost k hk;omega
    ·refine .inl ⟨hq,?_⟩
     rcases Bool.eq_false_or_eq_true (easy oi.op) with he | he
     ·exact .inl he
     refine .inr ⟨hS.spares i oi hi hq he i oi (Nat.le_refl _) hi,fun k hk ok hok t ht e=>?_⟩
     rcases List.mem_append.1 hk with hk | hk
     ·obtain ⟨hki,hkn,hkb⟩:=hpre k (List.mem_cons_of_mem _ hk)
      rcases hS.pair i oi hi k ok hki hok with h3 | ⟨h3,_,_⟩
      ·rw [hkb] at h3;cases h3
      ·exact (Oper.apart_spec h3).1 t e ht
     ·exact hS.spares i oi hi hq he k ok (Nat.le_of_lt (hpost k hk)) hok t ht e
theorem any_of_text {b:Array Nat} (hS:Serial P ops b) {R:Act→World→Prop} (hF:Fin P ops R):∀ (fuel:Nat) (listed:Array Bool),listed.size = ops.size→Shut ops listed→(unl ops.size listed).length ≤ fuel →
  ∀ (a:Act) (w:World),wpOps P ops (Exit.then R (fun _ _ _=>False)) (unl ops.size listed) a w→wpAny P .any ops (Exit.then R (fun _ _ _=>False)) fuel listed a w:=by
 have hmem:∀ (listed:Array Bool) (i:Nat),i ∈ unl ops.size listed ↔ i < ops.size∧listed.getD i true = false:=fun listed i=>by
  unfold unl;rw [List.mem_filter,List.mem_range];simp
 -- where something is still to come, something may come up
 have hnone:∀ (listed:Array Bool),listed.size = ops.size→Region.ready .any ops listed = []→unl ops.size listed = []:=fun listed hsz hr=>by
  rcases hu:unl ops.size listed with _ | ⟨m,l⟩
  ·rfl
  ·exfalso;have hm:m ∈ unl ops.size listed:=by rw [hu];exact List.mem_cons_self ..
   have hmin:∀ k,k < m→k < ops.size→listed.getD k false = true:=fun k hk hkn=>by
    have hso:=unl_sorted ops.size listed;rw [hu] at hso
    have hnot:k ∉ unl ops.size listed:=fun hin=>by
     rw [hu] at hin
     rcases List.mem_cons.1 hin with rfl | hin
     ·omega
     ·have:=(List.pairwise_cons.1 hso).1 k hin;omega
    have:¬ (k < ops.size∧listed.getD k true = false):=fun h=>hnot ((hmem listed k).2 h)
    have hkl:k < listed.size:=by omega
    have h2:listed.getD k true = true:=by
     cases h:listed.getD k true
     ·exact absurd ⟨hkn,h⟩ this
     ·rfl
    simpa [Array.getD,hkl] using h2
   obtain ⟨hmn,hml⟩:=(hmem listed m).1 hm;have hom:ops[m]? = some ops[m]:=Array.getElem?_eq_getElem hmn
   have:m ∈ Region.ready .any ops listed:=mem_ready.2 ⟨hml,_,hom,fun e he hb=>by
    have hlt:=hS.edges m _ hom e he hb
    exact hmin e.on hlt (by omega)⟩
   rw [hr] at this
   cases this
 intro fuel
 induction fuel with
 | zero =>
   intro listed hsz hc hf a w h;have hu:unl ops.size listed = []:=List.eq_nil_of_length_eq_zero (by omega);rw [hu] at h;refine ⟨?_,h⟩
   rcases hr:Region.ready .any ops listed with _ | ⟨i,l⟩
   ·rfl
   ·have hi:i ∈ Region.ready .any ops listed:=by rw [hr];exact List.mem_cons_self ..
    obtain ⟨h0,o,ho,_⟩:=mem_ready.1 hi;have:=(hmem listed i).2 ⟨(Array.getElem?_eq_some_iff.1 ho).1,h0⟩;rw [hu] at this
    cases this
 | succ fuel ih =>
   intro listed hsz hc hf a w h;refine ⟨fun hr=>by rw [hnone listed hsz hr] at h;exact h,fun i hi=>?_⟩;obtain ⟨h0,oi,ho,hall⟩:=mem_ready.1 hi;have hin:i < ops.size:=(Array.getElem?_eq_some_iff.1 ho).1;have hiu:=(hmem listed i).2 ⟨hin,h0⟩;have hso:=unl_sorted ops.size listed;rw [sorted_split hso hiu] at h
   have h1:=front hS hF ho ((unl ops.size listed).filter fun k=>decide (i < k)) (fun k hk=>by simpa using (List.mem_filter.1 hk).2) ((unl ops.size listed).filter fun k=>decide (k < i)) (hso.filter _) (fun p hp=>by
    obtain ⟨hp1,hp2⟩:=List.mem_filter.1 hp
    obtain ⟨hpn,hpl⟩:=(hmem listed p).1 hp1
    refine ⟨by simpa using hp2,hpn,?_⟩
    cases hb:(b.getD i 0).testBit p
    ·rfl
    ·have:=listed_of_mask hS hc i oi ho hall p hb
     have hpl':p < listed.size:=by omega
     simp only [Array.getD,hpl',dif_pos] at this hpl
     rw [this] at hpl
     cases hpl) a w h
   rw [wpOps_cons,sorted_rest hso,← unl_set ops.size listed i (by omega)] at h1;refine wpOp_mono (fun a' w' h'=>ih (listed.setIfInBounds i true) (by simpa using hsz) ?_ ?_ a' w' h') h1
   ·intro k ok hk hl e he hb;rw [getD_set] at hl ⊢
    split
    ·rfl
    ·split at hl
     ·rename_i hik;obtain ⟨rfl,_⟩:=hik;rw [ho] at hk;obtain rfl:=Option.some.inj hk;exact hall e he hb
     ·exact hc k ok hk hl e he hb
   ·rw [unl_set ops.size listed i (by omega),← sorted_rest hso i];have hlen:=congrArg List.length (sorted_split hso hiu);simp only [List.length_append,List.length_cons] at hlen ⊢;omega
theorem wp_serial {id:Nat} {l:List Oper} {Q:Exit→Act→World→Prop} {a:Act} {w:World} (hm:P.follows .mixedOrders = true) (b:Array Nat) (hs:serialB P l.toArray b = true)
  (h:wpList P l.toArray (Exit.then (fun a w=>goodB P l.toArray a = true∧Q .normal a w) (fun _ _ _=>False)) l a w.drew):(Code.region id l.toArray true).wp P Q a w:=by
 have hS:=serial_of hs
 have hl:wpOps P l.toArray (Exit.then (fun a w=>goodB P l.toArray a = true∧Q .normal a w) (fun _ _ _=>False)) (unl l.toArray.size (Array.replicate l.toArray.size false)) a w.drew:=by
  have e:unl l.toArray.size (Array.replicate l.toArray.size false) = List.range' 0 l.length:=by
   unfold unl;rw [List.filter_eq_self.2 fun k hk=>by have:=List.mem_range.1 hk;simp [Array.getD];simpa using this,List.range_eq_range'];simp
  rw [e,wpOps_eq_wpList l 0 (by simp)];exact h
 have:=wp_region_any (id:=id) (Q:=Exit.then (fun a w=>goodB P l.toArray a = true∧Q .normal a w) (fun _ _ _=>False)) hm
  (any_of_text hS (fun a w h=>h.1) l.toArray.size (Array.replicate l.toArray.size false) (by simp) (fun i oi hi hl=>by
    have:i < l.toArray.size:=(Array.getElem?_eq_some_iff.1 hi).1
    simp [Array.getD] at hl) (by
     refine Nat.le_trans (List.length_filter_le _ _) ?_
     simp) a w.drew hl)
 refine wp_mono this fun e a w q=>?_
 cases e with
 | normal=>exact q.2
 | _=>exact q.elim
def maskOf (ops:Array Oper):Array Nat:=ops.foldl (fun acc o=>acc.push (orMask acc o.after.toList 0)) #[]
theorem wp_text {id:Nat} {l:List Oper} {Q:Exit→Act→World→Prop} {a:Act} {w:World} (hm:P.follows .mixedOrders = true) (hs:serialB P l.toArray (maskOf l.toArray) = true)
  (h:∀ R:Act→World→Prop,(∀ a w,goodB P l.toArray a = true∧Q .normal a w→R a w)→wpList P l.toArray (Exit.then R (fun _ _ _=>False)) l a w.drew):(Code.region id l.toArray true).wp P Q a w :=
 wp_serial hm _ hs (h _ fun _ _ h=>h)
end
end
end Go.Proofs.YteekjfgjmccdnaaGreatDoor
