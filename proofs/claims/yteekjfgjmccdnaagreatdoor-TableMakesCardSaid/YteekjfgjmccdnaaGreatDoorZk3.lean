/-
  Stable sorting by insertion and by merging in place, over plain lists: what is sorted, what is stable.
-/
import Derived.Deep.QuietTactic
import Derived.BigQuiet
import Derived.Shelf.RegionOpen
import Derived.WalkKit
import Derived.WalkSpells
import Derived.WalkLawsBesides
import Derived.Lib.Hide
import Derived.Lib.Walk
import Derived.Lib.MinMax
import Derived.IntWalk
import Derived.Test.YteekjfgjmccdnaaGreatDoorChecked
import Derived.OwnWalkIn
import Derived.TacticsInMore
import Derived.LoopNIn
import Derived.LoopIn
import Derived.BigRegionIn
import Derived.WalkMore
import Derived.Test.YteekjfgjmccdnaaGreatDoorZk2
set_option maxHeartbeats 16000000
set_option maxRecDepth 100000
namespace Go.Proofs.YteekjfgjmccdnaaGreatDoor
section -- Civil
open Go Go.RowKit Go.Shelf
theorem div_ge {a b:Int} (hb:0 < b) (ha:a ≤ 0):a ≤ a / b:=by
 refine (Int.le_ediv_iff_mul_le hb).2 ?_
 have:a * b ≤ a * 1:=Int.mul_le_mul_of_nonpos_left ha (show (1:Int) ≤ b by omega)
 omega
theorem leap_any (y:Int) (w:World) :
  Calls Tryz.prog 154 #[.int .i64 y] w fun e w'=>e = .returned (.bool (leapB y))∧w' = w:=by
 have z4:=tmod_zero y 4
 have z1:=tmod_zero y 100
 have z0:=tmod_zero y 400
 by_cases h4:y.tmod 4 = 0
 ·by_cases h1:y.tmod 100 = 0
  ·by_cases h0:y.tmod 400 = 0
   ·have HL:=Lib.hid (show leapB y = true by unfold leapB;rw [decide_eq_true_eq];omega)
    clear z4 z1 z0
    go_enter Tryz.func154,Tryz.ntmps154
    go_wp2_with fail
    go_ret
    exact ⟨by rw [HL.out];rfl,rfl⟩
   ·have HL:=Lib.hid (show leapB y = false by unfold leapB;rw [decide_eq_false_iff_not];omega)
    have e0:(y.tmod 400 == 0) = false:=by simpa using h0
    clear z4 z1 z0
    go_enter Tryz.func154,Tryz.ntmps154
    go_wp2_with fail
    go_ret
    exact ⟨by rw [HL.out];rfl,rfl⟩
  ·have HL:=Lib.hid (show leapB y = true by unfold leapB;rw [decide_eq_true_eq];omega)
   have e1:(y.tmod 100 != 0) = true:=by simpa using h1
   clear z4 z1 z0
   go_enter Tryz.func154,Tryz.ntmps154
   go_wp2_with fail
   go_ret
   exact ⟨by rw [HL.out];rfl,rfl⟩
 ·have HL:=Lib.hid (show leapB y = false by unfold leapB;rw [decide_eq_false_iff_not];omega)
  have e4:(y.tmod 4 == 0) = false:=by simpa using h4
  clear z4 z1 z0
  go_enter Tryz.func154,Tryz.ntmps154
  go_wp2_with fail
  go_ret
  exact ⟨by rw [HL.out];rfl,rfl⟩
theorem leaps_any (y:Int) (w:World) :
  Calls Tryz.prog 123 #[.int .i64 y] w fun e w'=>e = .returned (.int .i64 (leapsV y))∧w' = w:=by
 have HL:=Lib.hid (leap_any y w)
 cases h:leapB y
 ·have HV:=Lib.hid (show leapsV y = 0 by unfold leapsV;rw [h];rfl)
  rw [h] at HL
  clear h
  go_enter Tryz.func123,Tryz.ntmps123
  go_wp2_with fail
  refine HL.out.mono ?_
  rintro e w1 ⟨rfl,rfl⟩
  go_wp2_with fail
  go_ret
  exact ⟨by rw [HV.out];rfl,rfl⟩
 ·have HV:=Lib.hid (show leapsV y = 1 by unfold leapsV;rw [h];rfl)
  rw [h] at HL
  clear h
  go_enter Tryz.func123,Tryz.ntmps123
  go_wp2_with fail
  refine HL.out.mono ?_
  rintro e w1 ⟨rfl,rfl⟩
  go_wp2_with fail
  go_ret
  exact ⟨by rw [HV.out];rfl,rfl⟩
theorem div_any (a b:Int) (hb:0 < b) (ha:-9223372036854775808 ≤ a) (ha2:a ≤ 9223372036854775807) (w:World) :
  Calls Tryz.prog 48 #[.int .i64 a,.int .i64 b] w fun e w'=>e = .returned (.tuple #[.int .i64 (a / b),.int .i64 0])∧w' = w:=by
 have hF:=floor_eq (a:=a) hb
 have hG:=fun h=>div_ge (a:=a) hb h
 have e1:(b == 0) = false:=by simp;omega
 have e2:(b == -1) = false:=by simp;omega
 have e3:decide (b < 0) = false:=by simp;omega
 by_cases h:a.tmod b = 0
 ·rw [if_neg (by omega)] at hF
  rw [hF]
  have e4:(a.tmod b != 0) = false:=by simpa using h
  clear hF hG h
  go_enter Tryz.func48,Tryz.ntmps48
  go_wp2_with fail
  refine bodyPost_ret (v:=.tuple #[.int .i64 (a.tdiv b),.int .i64 0]) ?_ rfl ⟨rfl,rfl⟩
  simp [results,Tryz.f48,go_sem, *]
 ·have e4:(a.tmod b != 0) = true:=by simpa using h
  by_cases h2:a < 0
  ·rw [if_pos ⟨h,h2⟩] at hF
   have hg:=hG (by omega)
   have hq:wrap64 (a.tdiv b - 1) = a.tdiv b - 1:=IntWalk.wrap64_in _ (by
    have:=Int.ediv_neg_of_neg_of_pos h2 hb
    omega)
   rw [hF]
   have e5:decide (a < 0) = true:=decide_eq_true h2
   clear hF hG h hg h2
   go_enter Tryz.func48,Tryz.ntmps48
   go_wp2_with fail
   refine bodyPost_ret (v:=.tuple #[.int .i64 (a.tdiv b - 1),.int .i64 0]) ?_ rfl ⟨rfl,rfl⟩
   simp [results,Tryz.f48,go_sem, *]
  ·rw [if_neg (by omega)] at hF
   rw [hF]
   have e5:decide (a < 0) = false:=decide_eq_false h2
   clear hF hG h h2
   go_enter Tryz.func48,Tryz.ntmps48
   go_wp2_with fail
   refine bodyPost_ret (v:=.tuple #[.int .i64 (a.tdiv b),.int .i64 0]) ?_ rfl ⟨rfl,rfl⟩
   simp [results,Tryz.f48,go_sem, *]
theorem floor_any (a b:Int) (hb:0 < b) (ha:-9223372036854775808 ≤ a) (ha2:a ≤ 9223372036854775807) (w:World) :
  Calls Tryz.prog 87 #[.int .i64 a,.int .i64 b] w fun e w'=>e = .returned (.int .i64 (a / b))∧w' = w:=by
 have HD:=Lib.hid (div_any a b hb ha ha2 w)
 generalize a / b = q at *
 go_enter Tryz.func87,Tryz.ntmps87
 go_wp2_with fail
 refine HD.out.mono ?_
 rintro e w1 ⟨rfl,rfl⟩
 go_wp2_with fail
 go_ret
 exact ⟨rfl,rfl⟩
theorem mod_any (a b:Int) (hb:0 < b) (hb2:b < 4611686018427387904) (w:World) :
  Calls Tryz.prog 177 #[.int .i64 a,.int .i64 b] w fun e w'=>e = .returned (.tuple #[.int .i64 (a % b),.int .i64 0])∧w' = w:=by
 have hF:=mod_eq (a:=a) hb
 have h6:=Int.lt_tmod_of_pos a hb
 have h7:=Int.tmod_lt_of_pos a hb
 have e1:(b == 0) = false:=by simp;omega
 have e3:decide (b < 0) = false:=by simp;omega
 by_cases h:a.tmod b = 0
 ·rw [if_neg (by omega)] at hF
  rw [hF]
  have e4:(a.tmod b != 0) = false:=by simpa using h
  clear hF h h6 h7
  go_enter Tryz.func177,Tryz.ntmps177
  go_wp2_with fail
  refine bodyPost_ret (v:=.tuple #[.int .i64 (a.tmod b),.int .i64 0]) ?_ rfl ⟨rfl,rfl⟩
  simp [results,Tryz.f177,go_sem, *]
 ·have e4:(a.tmod b != 0) = true:=by simpa using h
  by_cases h2:a.tmod b < 0
  ·rw [if_pos ⟨h,h2⟩] at hF
   have hq:wrap64 (a.tmod b + b) = a.tmod b + b:=IntWalk.wrap64_in _ ⟨by omega,by omega⟩
   rw [hF]
   have e5:decide (a.tmod b < 0) = true:=decide_eq_true h2
   clear hF h h2 h6 h7
   go_enter Tryz.func177,Tryz.ntmps177
   go_wp2_with fail
   refine bodyPost_ret (v:=.tuple #[.int .i64 (a.tmod b + b),.int .i64 0]) ?_ rfl ⟨rfl,rfl⟩
   simp [results,Tryz.f177,go_sem, *]
  ·rw [if_neg (by omega)] at hF
   rw [hF]
   have e5:decide (a.tmod b < 0) = false:=decide_eq_false h2
   clear hF h h2 h6 h7
   go_enter Tryz.func177,Tryz.ntmps177
   go_wp2_with fail
   refine bodyPost_ret (v:=.tuple #[.int .i64 (a.tmod b),.int .i64 0]) ?_ rfl ⟨rfl,rfl⟩
   simp [results,Tryz.f177,go_sem, *]
theorem weekday_any (n:Int) (w:World) :
  Calls Tryz.prog 153 #[.int .i64 n] w fun e w'=>e = .returned (.int .i64 (weekV n))∧w' = w:=by
 have HD:=Lib.hid (mod_any n 7 (by omega) (by omega) w)
 have h1:0 ≤ n % 7:=by omega
 have h2:n % 7 < 7:=by omega
 have HV:=Lib.hid (show weekV n = (n % 7 + 4) % 7 from rfl)
 generalize n % 7 = q at *
 go_enter Tryz.func153,Tryz.ntmps153
 go_wp2_with fail
 refine HD.out.mono ?_
 rintro e w1 ⟨rfl,rfl⟩
 go_wp2_with fail
 go_ret
 exact ⟨by rw [HV.out];rfl,rfl⟩
theorem year_any (y:Int) (h1:-100001 ≤ y) (h2:y ≤ 100001) (w:World) :
  Calls Tryz.prog 86 #[.int .i64 y] w fun e w'=>e = .returned (.int .i64 (yearV y))∧w' = w:=by
 have H4:=Lib.hid (floor_any (y - 1) 4 (by omega) (by omega) (by omega) w)
 have H1:=Lib.hid (floor_any (y - 1) 100 (by omega) (by omega) (by omega) w)
 have H0:=Lib.hid (floor_any (y - 1) 400 (by omega) (by omega) (by omega) w)
 have HV:=Lib.hid (show yearV y = (y - 1) * 365 + (y - 1) / 4 - (y - 1) / 100 + (y - 1) / 400 - 719162 from rfl)
 have b4:-100002 ≤ (y - 1) / 4∧(y - 1) / 4 ≤ 100002:=by omega
 have b1:-100002 ≤ (y - 1) / 100∧(y - 1) / 100 ≤ 100002:=by omega
 have b0:-100002 ≤ (y - 1) / 400∧(y - 1) / 400 ≤ 100002:=by omega
 have b3:-100002 ≤ (y - 1)∧(y - 1) ≤ 100002:=by omega
 generalize (y - 1) / 4 = q4 at *
 generalize (y - 1) / 100 = q1 at *
 generalize (y - 1) / 400 = q0 at *
 go_enter Tryz.func86,Tryz.ntmps86
 go_wp2_with fail
 refine H4.out.mono ?_
 rintro e w1 ⟨rfl,rfl⟩
 go_wp2_with fail
 refine H1.out.mono ?_
 rintro e w1 ⟨rfl,rfl⟩
 go_wp2_with fail
 refine H0.out.mono ?_
 rintro e w1 ⟨rfl,rfl⟩
 go_wp2_with fail
 go_ret
 exact ⟨by rw [HV.out];rfl,rfl⟩
end
section -- CivilB
open Go Go.RowKit Go.Shelf
def Ahead (w:World):Prop:=∀ k,k < 13→w.cell? ⟨0,k,none⟩ = some (.int .i64 (aheadV k))
theorem Ahead.below {B:Nat} {w w':World} (h:Ahead w) (hb:Below B w w') (hB:w.heap.size ≤ B):Ahead w':=fun k hk =>
 (hb.cell (Nat.lt_of_lt_of_le (World.block_lt_of_cell? w _ (h k hk)) hB)).trans (h k hk)
theorem aheadV_at (m:Int) (h1:1 ≤ m) (h2:m ≤ 12):∃ k:Nat,m = (k:Int) + 1∧k < 12:=⟨(m - 1).toNat,by omega,by omega⟩
theorem start_any (y m:Int) (h1:1 ≤ m) (h2:m ≤ 12) (w:World) (ha:Ahead w) :
  Calls Tryz.prog 88 #[.int .i64 y,.int .i64 m] w fun e w'=>e = .returned (.int .i64 (startV y m))∧w' = w:=by
 obtain ⟨k,rfl,hk⟩:=aheadV_at m h1 h2
 have c:=ha k (by omega)
 have HL:=Lib.hid (leaps_any y w)
 have hl:=leapsV_in y
 have hv:=aheadV_in k
 have HV:=Lib.hid (show startV y (k + 1) = aheadV k + if 2 < (k:Int) + 1 then leapsV y else 0 by unfold startV;rw [show ((k:Int) + 1 - 1).toNat = k by omega])
 have e1:(k:Int) + 1 - 1 = k:=by omega
 generalize aheadV k = a at *
 generalize leapsV y = q at *
 clear ha h1 h2
 by_cases h:2 < (k:Int) + 1
 ·rw [if_pos h] at HV
  go_enter Tryz.func88,Tryz.ntmps88
  go_wp2_with fail
  refine HL.out.mono ?_
  rintro e w1 ⟨rfl,rfl⟩
  go_wp2_with fail
  go_ret
  exact ⟨by rw [HV.out];rfl,rfl⟩
 ·rw [if_neg h,Int.add_zero] at HV
  go_enter Tryz.func88,Tryz.ntmps88
  go_wp2_with fail
  go_ret
  exact ⟨by rw [HV.out];rfl,rfl⟩
theorem long_any (y m:Int) (w:World) (ha:Ahead w) :
  Calls Tryz.prog 91 #[.int .i64 y,.int .i64 m] w fun e w'=>e = .returned (.tuple #[.int .i64 (longV y m).1,.int .i64 (longV y m).2])∧∃ n,w' = w.drewN n:=by
 by_cases h:ymB y m = true
 ·have hE:longV y m = (lenV y m,0):=by unfold longV;rw [if_pos h]
  rw [hE]
  unfold ymB at h
  rw [decide_eq_true_eq] at h
  obtain ⟨h1,h2,h3,h4⟩:=h
  obtain ⟨k,rfl,hk⟩:=aheadV_at m h3 h4
  have c:=ha k (by omega)
  have d:=ha (k + 1) (by omega)
  have HL:=Lib.hid (fun W=>leaps_any y W)
  have hl:=leapsV_in y
  have hv:=aheadV_in k
  have hu:=aheadV_in (k + 1)
  have HV:=Lib.hid (show lenV y (k + 1) = aheadV (k + 1) - aheadV k + if (k:Int) + 1 = 2 then leapsV y else 0 by unfold lenV;rw [show ((k:Int) + 1 - 1).toNat = k by omega,show ((k:Int) + 1).toNat = k + 1 by omega])
  have e1:(k:Int) + 1 - 1 = k:=by omega
  clear hE
  generalize aheadV k = a at *
  generalize aheadV (k + 1) = b at *
  generalize leapsV y = q at *
  clear ha h3 h4
  by_cases h:(k:Int) + 1 = 2
  ·rw [if_pos h] at HV
   obtain rfl:k = 1:=by omega
   go_enter Tryz.func91,Tryz.ntmps91
   go_wp2_with fail
   go_quiet (fail)
   go_wp2_with fail
   refine (HL.out _).mono ?_
   rintro e w1 ⟨rfl,rfl⟩
   go_wp2_with fail
   refine bodyPost_ret (v:=.tuple #[.int .i64 (b - a + q),.int .i64 0]) ?_ rfl ⟨by rw [HV.out],_,rfl⟩
   simp [results,Tryz.f91,go_sem]
  ·rw [if_neg h,Int.add_zero] at HV
   have hk1:((k:Int) + 1 == 2) = false:=by simpa using h
   go_enter Tryz.func91,Tryz.ntmps91
   go_wp2_with fail
   go_quiet (fail)
   go_wp2_with fail
   refine bodyPost_ret (v:=.tuple #[.int .i64 (b - a),.int .i64 0]) ?_ rfl ⟨by rw [HV.out],_,rfl⟩
   simp [results,Tryz.f91,go_sem]
 ·have hE:longV y m = (0,10):=by unfold longV;rw [if_neg h]
  rw [hE]
  have HE:∀ c:Array Value,c = #[.int .i64 0,.int .i64 10]→c = #[.int .i64 (0,(10:Int)).1,.int .i64 ((0:Int),(10:Int)).2]:=fun c h=>h
  unfold ymB at h
  rw [decide_eq_true_eq] at h
  by_cases h1:y < -100000
  ·clear h
   go_enter Tryz.func91,Tryz.ntmps91
   go_wp2_with fail
   refine bodyPost_ret (v:=.tuple #[.int .i64 0,.int .i64 10]) ?_ rfl ⟨rfl,0,rfl⟩
   simp [results,Tryz.f91,go_sem]
  ·by_cases h2:100000 < y
   ·clear h
    go_enter Tryz.func91,Tryz.ntmps91
    go_wp2_with fail
    refine bodyPost_ret (v:=.tuple #[.int .i64 0,.int .i64 10]) ?_ rfl ⟨rfl,0,rfl⟩
    simp [results,Tryz.f91,go_sem]
   ·by_cases h3:m < 1
    ·clear h
     go_enter Tryz.func91,Tryz.ntmps91
     go_wp2_with fail
     refine bodyPost_ret (v:=.tuple #[.int .i64 0,.int .i64 10]) ?_ rfl ⟨rfl,0,rfl⟩
     simp [results,Tryz.f91,go_sem]
    ·have h4:12 < m:=by omega
     clear h
     go_enter Tryz.func91,Tryz.ntmps91
     go_wp2_with fail
     refine bodyPost_ret (v:=.tuple #[.int .i64 0,.int .i64 10]) ?_ rfl ⟨rfl,0,rfl⟩
     simp [results,Tryz.f91,go_sem]
end
section -- CivilC
open Go Go.RowKit Go.Shelf
def dateA (y m d:Int):Value:=.agg #[.int .i64 y,.int .i64 m,.int .i64 d]
def checkV (y m d:Int):Int:=if dateB y m d then 0 else 10
theorem dcheck_any (y m d:Int) (w:World) (ha:Ahead w) :
  Calls Tryz.prog 155 #[dateA y m d] w fun e w'=>e = .returned (.int .i64 (checkV y m d))∧Below w.heap.size w w':=by
 have HB0:=Lib.hid ((Below.refl w.heap.size w).alloc (Nat.le_refl _) (.cells #[.int .i64 y,.int .i64 m,.int .i64 d] 44))
 have HQ0:=Blk.new w 44 #[.int .i64 y,.int .i64 m,.int .i64 d]
 have HL:=Lib.hid (long_any y m (w.alloc (.cells #[.int .i64 y,.int .i64 m,.int .i64 d] 44)) (ha.below HB0.out (Nat.le_refl _)))
 have HD:=Lib.hid (fun n=>(HQ0.drewN n).cell 2 (v:=.int .i64 d) rfl)
 clear HQ0
 unfold dateA
 by_cases h:ymB y m = true
 ·have hE:longV y m = (lenV y m,0):=by unfold longV;rw [if_pos h]
  rw [hE] at HL
  have HV:=Lib.hid (show checkV y m d = if 1 ≤ d∧d ≤ lenV y m then 0 else 10 by unfold checkV dateB;rw [h,Bool.true_and];simp only [decide_eq_true_eq])
  clear hE h
  generalize lenV y m = l at *
  by_cases h1:1 ≤ d
  ·by_cases h2:d ≤ l
   ·rw [if_pos ⟨h1,h2⟩] at HV
    go_enter Tryz.func155,Tryz.ntmps155
    go_wp2_with fail
    refine HL.out.mono ?_
    rintro e w1 ⟨rfl,n,rfl⟩
    have d2:=HD.out n
    have HB1:=Lib.hid (below_drewN HB0.out n)
    go_wp2_with fail
    go_ret
    exact ⟨by rw [HV.out];rfl,HB1.out⟩
   ·rw [if_neg (by omega)] at HV
    go_enter Tryz.func155,Tryz.ntmps155
    go_wp2_with fail
    refine HL.out.mono ?_
    rintro e w1 ⟨rfl,n,rfl⟩
    have d2:=HD.out n
    have HB1:=Lib.hid (below_drewN HB0.out n)
    go_wp2_with fail
    go_ret
    exact ⟨by rw [HV.out];rfl,HB1.out⟩
  ·rw [if_neg (by omega)] at HV
   go_enter Tryz.func155,Tryz.ntmps155
   go_wp2_with fail
   refine HL.out.mono ?_
   rintro e w1 ⟨rfl,n,rfl⟩
   have d2:=HD.out n
   have HB1:=Lib.hid (below_drewN HB0.out n)
   go_wp2_with fail
   go_ret
   exact ⟨by rw [HV.out];rfl,HB1.out⟩
 ·have hE:longV y m = (0,10):=by unfold longV;rw [if_neg h]
  rw [hE] at HL
  have HV:=Lib.hid (show checkV y m d = 10 by unfold checkV dateB;rw [Bool.eq_false_iff.2 h];rfl)
  clear hE h
  go_enter Tryz.func155,Tryz.ntmps155
  go_wp2_with fail
  refine HL.out.mono ?_
  rintro e w1 ⟨rfl,n,rfl⟩
  have d2:=HD.out n
  have HB1:=Lib.hid (below_drewN HB0.out n)
  go_wp2_with fail
  go_ret
  exact ⟨by rw [HV.out];rfl,HB1.out⟩
theorem days_any (y m d:Int) (w:World) (ha:Ahead w) :
  Calls Tryz.prog 124 #[dateA y m d] w fun e w'=>e = .returned (if dateB y m d then .tuple #[.int .i64 (dayV y m d),.int .i64 0] else .tuple #[.int .i64 0,.int .i64 10])∧Below w.heap.size w w':=by
 have HB0:=Lib.hid ((Below.refl w.heap.size w).alloc (Nat.le_refl _) (.cells #[.int .i64 y,.int .i64 m,.int .i64 d] 44))
 have HQ0:=Lib.hid (Blk.new w 44 #[.int .i64 y,.int .i64 m,.int .i64 d])
 have HA:=Lib.hid (ha.below HB0.out (Nat.le_refl _))
 have HL:=Lib.hid (dcheck_any y m d _ HA.out)
 unfold checkV at HL
 unfold dateA at *
 cases h:dateB y m d
 ·rw [h] at HL
  clear h
  go_enter Tryz.func124,Tryz.ntmps124
  go_wp2_with fail
  refine HL.out.mono ?_
  rintro e w1 ⟨rfl,hb⟩
  have HB1:=Lib.hid (HB0.out.trans (hb.mono HB0.out.size))
  clear hb
  go_wp2_with fail
  refine bodyPost_ret (v:=.tuple #[.int .i64 0,.int .i64 10]) ?_ rfl ⟨rfl,HB1.out⟩
  simp [results,Tryz.f124,go_sem]
 ·rw [h] at HL
  obtain ⟨h1,h2,h3,h4,h5,h6⟩:=dateB_in h
  have hy:=yearV_in (y:=y) (by omega) (by omega)
  have hs:=startV_in y m
  have hlen:=lenV_in (y:=y) h3 h4
  have HY:=Lib.hid (fun W=>year_any y (by omega) (by omega) W)
  have HS:=Lib.hid (fun W ha=>start_any y m h3 h4 W ha)
  have HV:=Lib.hid (show dayV y m d = yearV y + startV y m + d - 1 from rfl)
  clear h
  generalize dayV y m d = v at *
  generalize yearV y = a at *
  generalize startV y m = b at *
  generalize lenV y m = c at *
  go_enter Tryz.func124,Tryz.ntmps124
  go_wp2_with fail
  refine HL.out.mono ?_
  rintro e w1 ⟨rfl,hb⟩
  have HB1:=Lib.hid (HB0.out.trans (hb.mono HB0.out.size))
  have hQ1:=HQ0.out.below hb HQ0.out.lt
  have HA1:=Lib.hid (HA.out.below hb (Nat.le_refl _))
  have q0:=hQ1.cell 0 (v:=.int .i64 y) rfl
  have q1:=hQ1.cell 1 (v:=.int .i64 m) rfl
  have q2:=hQ1.cell 2 (v:=.int .i64 d) rfl
  clear hb hQ1
  go_wp2_with fail
  go_quiet (first
   | (go_at_call 86;exact Calls.quiet_of_same (HY.out _))
   | (go_at_call 88;exact Calls.quiet_of_same (HS.out _ HA1.out)))
  go_wp2_with fail
  refine bodyPost_ret (v:=.tuple #[.int .i64 v,.int .i64 0]) ?_ rfl ⟨rfl,below_drewN HB1.out _⟩
  rw [HV.out]
  simp [results,Tryz.f124,go_sem]
end
section -- CMathB
open Go
def monV (y n:Int):Nat→Int
 | 0=>0
 | k + 1=>if n < startV y ((k:Int) + 1) then monV y n k else (k:Int) + 1
def ofC (n:Int):Int:=(n + 719162) / 146097
def ofE (n:Int):Int:=min ((n + 719162 - ofC n * 146097) / 36524) 3
def ofO (n:Int):Int:=(n + 719162 - ofC n * 146097 - ofE n * 36524) / 1461
def ofY (n:Int):Int:=min ((n + 719162 - ofC n * 146097 - ofE n * 36524 - ofO n * 1461) / 365) 3
def ofR (n:Int):Int:=n + 719162 - ofC n * 146097 - ofE n * 36524 - ofO n * 1461 - ofY n * 365
def ofYear (n:Int):Int:=ofC n * 400 + ofE n * 100 + ofO n * 4 + ofY n + 1
theorem startV_one (y:Int):startV y 1 = 0:=by unfold startV;simp [aheadV]
theorem startV_mono {y:Int}:∀ (k:Nat) {j:Nat},k < 12→j ≤ k→startV y ((j:Int) + 1) ≤ startV y ((k:Int) + 1)
 | 0,j,_,h=>by obtain rfl:j = 0:=by omega
               exact Int.le_refl _
 | k + 1,j,hk,h=>by
   by_cases e:j = k + 1
   ·subst e;exact Int.le_refl _
   ·have h1:=startV_mono (y:=y) k (j:=j) (by omega) (by omega)
    have h2:=startV_next (y:=y) (m:=(k:Int) + 1) (by omega) (by omega)
    have h3:=lenV_in (y:=y) (m:=(k:Int) + 1) (by omega) (by omega)
    rw [show ((k + 1:Nat):Int) + 1 = (k:Int) + 1 + 1 by omega]
    omega
theorem monV_spec {y n:Int} (h0:0 ≤ n):∀ (k:Nat),1 ≤ k→k ≤ 12→1 ≤ monV y n k∧monV y n k ≤ k∧startV y (monV y n k) ≤ n∧(monV y n k < k→n < startV y (monV y n k + 1))
 | 0,h,_=>by omega
 | k + 1,_,hk=>by
   unfold monV
   by_cases h:n < startV y ((k:Int) + 1)
   ·rw [if_pos h]
    have hk1:1 ≤ k:=by
     rcases k with _ | k
     ·rw [show ((0:Nat):Int) + 1 = 1 from rfl,startV_one] at h
      omega
     ·omega
    obtain ⟨a,b,c,d⟩:=monV_spec (y:=y) h0 k hk1 (by omega)
    refine ⟨a,by omega,c,fun _=>?_⟩
    by_cases e:monV y n k < k
    ·exact d e
    ·rw [show monV y n k = (k:Int) by omega]
     exact h
   ·rw [if_neg h]
    exact ⟨by omega,by omega,by omega,fun h=>by omega⟩
theorem of_parts (n:Int):0 ≤ ofE n∧ofE n ≤ 3∧0 ≤ ofO n∧ofO n ≤ 24∧0 ≤ ofY n∧ofY n ≤ 3∧0 ≤ ofR n∧ofR n ≤ 365∧(ofR n = 365→ofY n = 3∧(ofO n = 24→ofE n = 3)):=by
 unfold ofR ofY ofO ofE ofC
 omega
theorem of_back (n:Int):yearV (ofYear n) + ofR n = n:=by
 have h:=of_parts n
 have hr:ofR n = n + 719162 - ofC n * 146097 - ofE n * 36524 - ofO n * 1461 - ofY n * 365:=rfl
 unfold yearV ofYear
 generalize ofE n = e at *
 generalize ofO n = o at *
 generalize ofY n = y at *
 generalize ofC n = c at *
 generalize ofR n = r at *
 have h4:(c * 400 + e * 100 + o * 4 + y + 1 - 1) / 4 = c * 100 + e * 25 + o:=by omega
 have h1:(c * 400 + e * 100 + o * 4 + y + 1 - 1) / 100 = c * 4 + e:=by omega
 have h0:(c * 400 + e * 100 + o * 4 + y + 1 - 1) / 400 = c:=by omega
 rw [h4,h1,h0]
 omega
theorem of_rest (n:Int):ofR n < 365 + leapsV (ofYear n):=by
 have h:=of_parts n
 have hl:=leapsV_in (ofYear n)
 by_cases h5:ofR n = 365
 ·have hy:=h.2.2.2.2.2.2.2.2 h5
  have:leapB (ofYear n) = true:=by
   unfold leapB ofYear
   rw [decide_eq_true_eq]
   generalize ofE n = e at *
   generalize ofO n = o at *
   generalize ofC n = c at *
   by_cases h24:o = 24
   ·have:=hy.2 h24
    omega
   ·omega
  unfold leapsV
  rw [if_pos this]
  omega
 ·omega
theorem yearV_mono {a b:Int} (h:a ≤ b):yearV a ≤ yearV b:=by unfold yearV;omega
theorem yearV_next (y:Int):yearV (y + 1) = yearV y + 365 + leapsV y:=by
 unfold yearV leapsV leapB
 split <;> simp only [decide_eq_true_eq] at * <;> omega
def ofMon (n:Int):Int:=monV (ofYear n) (ofR n) 12
def ofDay (n:Int):Int:=ofR n - startV (ofYear n) (ofMon n) + 1
theorem of_date {n:Int} (h1:-37243778 ≤ n) (h2:n < 35805088):dateB (ofYear n) (ofMon n) (ofDay n) = true∧dayV (ofYear n) (ofMon n) (ofDay n) = n:=by
 have hb:=of_back n
 have hr:=of_rest n
 have hp:=of_parts n
 have hy:-100000 ≤ ofYear n∧ofYear n ≤ 100000:=by
  have h3:=yearV_next (ofYear n)
  have h4:=yearV_mono (a:=ofYear n + 1) (b:=-100000)
  have h5:=yearV_mono (a:=100001) (b:=ofYear n)
  have e1:yearV (-100000) = -37243778:=by decide
  have e2:yearV 100001 = 35805088:=by decide
  omega
 obtain ⟨m1,m2,m3,m4⟩:=monV_spec (y:=ofYear n) (n:=ofR n) (by omega) 12 (by omega) (by omega)
 have hm:monV (ofYear n) (ofR n) 12 = ofMon n:=rfl
 rw [hm] at m1 m2 m3 m4
 have m2:ofMon n ≤ 12:=m2
 have hd:ofR n < startV (ofYear n) (ofMon n) + lenV (ofYear n) (ofMon n):=by
  by_cases e:ofMon n < 12
  ·rw [← startV_next (by omega) e]
   exact m4 e
  ·rw [show ofMon n = 12 by omega,startV_dec]
   exact hr
 constructor
 ·unfold dateB ymB ofDay
  rw [Bool.and_eq_true,decide_eq_true_eq,decide_eq_true_eq]
  omega
 ·unfold dayV ofDay
  omega
end
section -- CivilD
open Go Go.RowKit Go.Shelf
theorem of_any (n:Int) (h1:-37243778 ≤ n) (h2:n < 35805088) (w:World) (ha:Ahead w) :
  Calls Tryz.prog 49 #[.int .i64 n] w fun e w'=>e = .returned (.tuple #[dateA (ofYear n) (ofMon n) (ofDay n),.int .i64 0])∧Below w.heap.size w w':=by
 have e1:yearV (-100000) = -37243778:=by decide
 have e2:yearV 100001 = 35805088:=by decide
 have HY1:=Lib.hid (fun W=>year_any (-100000) (by omega) (by omega) W)
 have HY2:=Lib.hid (fun W=>year_any 100001 (by omega) (by omega) W)
 rw [e1] at HY1
 rw [e2] at HY2
 have HF:=Lib.hid (fun W=>floor_any (n + 719162) 146097 (by omega) (by omega) (by omega) W)
 have hc:0 ≤ n + 719162 - ofC n * 146097∧n + 719162 - ofC n * 146097 < 146097∧-260 ≤ ofC n∧ofC n ≤ 260:=by unfold ofC;omega
 rw [show (n + 719162) / 146097 = ofC n from rfl] at HF
 clear e1 e2
 go_enter Tryz.func49,Tryz.ntmps49
 go_wp2_with fail
 refine (HY1.out _).mono ?_
 rintro e w1 ⟨rfl,rfl⟩
 go_wp2_with fail
 refine (HY2.out _).mono ?_
 rintro e w1 ⟨rfl,rfl⟩
 go_wp2_with fail
 refine (HF.out _).mono ?_
 rintro e w1 ⟨rfl,rfl⟩
 go_wp2_with fail
 have eE:min ((n + 719162 - ofC n * 146097) / 36524) 3 = ofE n:=rfl
 have eO:(n + 719162 - ofC n * 146097 - ofE n * 36524) / 1461 = ofO n:=rfl
 have eY:min ((n + 719162 - ofC n * 146097 - ofE n * 36524 - ofO n * 1461) / 365) 3 = ofY n:=rfl
 have eR:n + 719162 - ofC n * 146097 - ofE n * 36524 - ofO n * 1461 - ofY n * 365 = ofR n:=rfl
 have eN:ofC n * 400 + ofE n * 100 + ofO n * 4 + ofY n + 1 = ofYear n:=rfl
 rw [eE,eO,eY,eR,eN]
 have hp:=of_parts n
 have hr0:=hp.2.2.2.2.2.2.1
 have hr1:=hp.2.2.2.2.2.2.2.1
 have HOM:=Lib.hid (show ofMon n = monV (ofYear n) (ofR n) 12 from rfl)
 have HOD:=Lib.hid (show ofDay n = ofR n - startV (ofYear n) (ofMon n) + 1 from rfl)
 clear hp hc eE eO eY eR eN HY1 HY2 HF
 have hb0:=(Blk.new w 44 #[.int .i64 0,.int .i64 0,.int .i64 0]).alloc (.cells #[.int .i64 (ofYear n),.int .i64 12,.int .i64 0] 44)
 have hb1:=Blk.new (w.alloc (.cells #[.int .i64 0,.int .i64 0,.int .i64 0] 44)) 44 #[.int .i64 (ofYear n),.int .i64 12,.int .i64 0]
 rw [World.size_alloc] at hb1
 have HI:=Lib.hid (And.intro hb0 hb1)
 clear hb0 hb1
 generalize hY:ofYear n = Y at *
 generalize ofR n = R at *
 generalize hM:ofMon n = M at *
 generalize hD:ofDay n = D at *
 have HYMD:=Lib.hid (And.intro hY (And.intro hM hD))
 clear hY hM hD
 go_loopw [65] (fun _ wr=>∃ k:Nat,k < 12∧Below w.heap.size w wr∧Blk wr w.heap.size 44 #[.int .i64 0,.int .i64 0,.int .i64 0]∧Blk wr (w.heap.size + 1) 44 #[.int .i64 Y,.int .i64 ((k:Int) + 1),.int .i64 0]∧monV Y R 12 = monV Y R (k + 1)) (fun _ wr=>(intOf ((wr.cell? ⟨w.heap.size + 1,1,none⟩).getD undef)).toNat)
 case atStart=>exact ⟨11,by omega,((Below.refl _ _).alloc (Nat.le_refl _) _).alloc (by simp) _,HI.out.1,HI.out.2,rfl⟩
 case round =>
  obtain ⟨k,hk,hbw,hres,hbox,hmon⟩:=hrel
  have HB:=Lib.hid hbw
  have HRS:=Lib.hid hres
  have HBX:=Lib.hid hbox
  have HST:=Lib.hid (start_any Y ((k:Int) + 1) (by omega) (by omega) wr (ha.below hbw (Nat.le_refl _)))
  have c0:=hbox.cell 0 (v:=.int .i64 Y) rfl
  have c1:=hbox.cell 1 (v:=.int .i64 ((k:Int) + 1)) rfl
  have c2:=hbox.cell 2 (v:=.int .i64 0) rfl
  have f1:=hbox.frozen 1
  have f2:=hbox.frozen 2
  have r0:=hres.cell 0 (v:=.int .i64 0) rfl
  have r1:=hres.cell 1 (v:=.int .i64 0) rfl
  have r2:=hres.cell 2 (v:=.int .i64 0) rfl
  have g0:=hres.frozen 0
  have g1:=hres.frozen 1
  have g2:=hres.frozen 2
  have hsz:=hbox.lt
  have hs:=startV_in Y ((k:Int) + 1)
  have HMN:=Lib.hid hmon
  have HS1:=Lib.hid (startV_one Y)
  obtain ⟨s,hsv⟩:∃ s,startV Y ((k:Int) + 1) = s:=⟨_,rfl⟩
  rw [hsv] at HST hs
  have HSV:=Lib.hid hsv
  clear hbw hres hbox hmon hsv
  go_wp2_with fail
  refine HST.out.mono ?_
  rintro e w1 ⟨rfl,rfl⟩
  by_cases hlt:R < s
  ·rcases k with _ | k
   ·have h1:=HSV.out
    rw [show ((0:Nat):Int) + 1 = 1 from rfl,HS1.out] at h1
    omega
   ·have HM2:=Lib.hid (show monV Y R 12 = monV Y R (k + 1) by
     rw [HMN.out]
     show (if R < startV Y (((k + 1:Nat):Int) + 1) then monV Y R (k + 1) else _) = _
     rw [HSV.out,if_pos hlt])
    have e1:((k + 1:Nat):Int) + 1 - 1 = (k:Int) + 1:=by omega
    go_wp2_with fail
    go_roundw
    case rel=>exact ⟨k,by omega,HB.out.setCell (by show w.heap.size ≤ w.heap.size + 1;omega) _,HRS.out.other (by omega) _ _,by have h:=HBX.out.set 1 (.int .i64 ((k:Int) + 1));exact h,HM2.out⟩
    case measure =>
     rw [(HBX.out.set 1 (.int .i64 ((k:Int) + 1))).cell 1 (v:=.int .i64 ((k:Int) + 1)) rfl,c1]
     simp only [Option.getD_some,intOf]
     omega
  ·have HM2:=Lib.hid (show M = (k:Int) + 1 by
    rw [HOM.out,HMN.out]
    show (if R < startV Y ((k:Int) + 1) then monV Y R k else _) = _
    rw [HSV.out,if_neg hlt])
   have HD2:=Lib.hid (show D = R - s + 1 by rw [HOD.out,HM2.out,HSV.out])
   go_wp2_with fail
   refine (HST.out).mono ?_
   rintro e w1 ⟨rfl,rfl⟩
   go_wp2_with fail
   have hbx:=HBX.out.set 2 (.int .i64 (R - s + 1))
   have HW:=(((HRS.out.other (show w.heap.size ≠ w.heap.size + 1 by omega) 2 (.int .i64 (R - s + 1))).set 0 (.int .i64 Y)).set 1 (.int .i64 ((k:Int) + 1))).set 2 (.int .i64 (R - s + 1))
   have hbf:=below_set3 (HB.out.setCell (show w.heap.size ≤ w.heap.size + 1 by omega) (p:=⟨w.heap.size + 1,2,none⟩) (.int .i64 (R - s + 1))) (Nat.le_refl w.heap.size) (.int .i64 Y) (.int .i64 ((k:Int) + 1)) (.int .i64 (R - s + 1))
   refine bodyPost_ret (v:=.tuple #[dateA Y ((k:Int) + 1) (R - s + 1),.int .i64 0]) ?_ rfl ⟨by rw [HYMD.out.1,HYMD.out.2.1,HYMD.out.2.2,HM2.out,HD2.out],hbf⟩
   have w0:=HW.cell 0 (v:=.int .i64 Y) rfl
   have w1:=HW.cell 1 (v:=.int .i64 ((k:Int) + 1)) rfl
   have w2:=HW.cell 2 (v:=.int .i64 (R - s + 1)) rfl
   simp [results,Tryz.f49,go_sem,w0,w1,w2,dateA]
theorem of_out (n:Int) (h:¬ (-37243778 ≤ n∧n < 35805088)) (w:World) :
  Calls Tryz.prog 49 #[.int .i64 n] w fun e w'=>e = .returned (.tuple #[dateA 0 0 0,.int .i64 10])∧Below w.heap.size w w':=by
 have e1:yearV (-100000) = -37243778:=by decide
 have e2:yearV 100001 = 35805088:=by decide
 have HY1:=Lib.hid (fun W=>year_any (-100000) (by omega) (by omega) W)
 have HY2:=Lib.hid (fun W=>year_any 100001 (by omega) (by omega) W)
 rw [e1] at HY1
 rw [e2] at HY2
 have hb0:=Blk.new w 44 #[.int .i64 0,.int .i64 0,.int .i64 0]
 have r0:=hb0.cell 0 (v:=.int .i64 0) rfl
 have r1:=hb0.cell 1 (v:=.int .i64 0) rfl
 have r2:=hb0.cell 2 (v:=.int .i64 0) rfl
 have g0:=hb0.frozen 0
 have g1:=hb0.frozen 1
 have g2:=hb0.frozen 2
 have HI:=Lib.hid hb0
 clear hb0 e1 e2
 by_cases h1:n < -37243778
 ·clear h
  go_enter Tryz.func49,Tryz.ntmps49
  go_wp2_with fail
  refine (HY1.out _).mono ?_
  rintro e w1 ⟨rfl,rfl⟩
  go_wp2_with fail
  all_goals try (refine (HY2.out _).mono ?_;rintro e w1 ⟨rfl,rfl⟩;go_wp2_with fail)
  refine bodyPost_ret (v:=.tuple #[dateA 0 0 0,.int .i64 10]) ?_ rfl ⟨rfl,(Below.refl _ _).alloc (Nat.le_refl _) _⟩
  simp [results,Tryz.f49,go_sem,dateA]
 ·have h2:35805088 ≤ n:=by omega
  clear h
  go_enter Tryz.func49,Tryz.ntmps49
  go_wp2_with fail
  refine (HY1.out _).mono ?_
  rintro e w1 ⟨rfl,rfl⟩
  go_wp2_with fail
  all_goals try (refine (HY2.out _).mono ?_;rintro e w1 ⟨rfl,rfl⟩;go_wp2_with fail)
  refine bodyPost_ret (v:=.tuple #[dateA 0 0 0,.int .i64 10]) ?_ rfl ⟨rfl,(Below.refl _ _).alloc (Nat.le_refl _) _⟩
  simp [results,Tryz.f49,go_sem,dateA]
end
section -- CivilE
open Go Go.RowKit Go.Shelf
attribute [local go_sem] Oper.semAt_some
def dayA (k wk n:Int):Value:=.agg #[.int .i64 k,.int .i64 wk,.int .i64 n]
def dayOkB (k wk n:Int):Bool:=decide ((k = 0∧1 ≤ n∧n ≤ 31∧wk = 0)∨(k = 1∧n = 0∧0 ≤ wk∧wk < 7)∨((k = 2∨k = 3)∧1 ≤ n∧n ≤ 31∧0 ≤ wk∧wk < 7))
theorem dfcheck_any (k wk n:Int) (w:World) :
  Calls Tryz.prog 46 #[dayA k wk n] w fun e w'=>e = .returned (.int .i64 (if dayOkB k wk n then 0 else 10))∧Below w.heap.size w w':=by
 have HB0:=Lib.hid (fun (o:Obj)=>(Below.refl w.heap.size w).alloc (Nat.le_refl _) o)
 have HQ0:=Blk.new w 36 #[.int .i64 k,.int .i64 wk,.int .i64 n]
 have q0:=HQ0.cell 0 (v:=.int .i64 k) rfl
 have q1:=HQ0.cell 1 (v:=.int .i64 wk) rfl
 have q2:=HQ0.cell 2 (v:=.int .i64 n) rfl
 obtain ⟨V,hV⟩:∃ V:Int,(if dayOkB k wk n then 0 else 10) = V:=⟨_,rfl⟩
 rw [hV]
 have HV:=Lib.hid (show (if (k = 0∧1 ≤ n∧n ≤ 31∧wk = 0)∨(k = 1∧n = 0∧0 ≤ wk∧wk < 7)∨((k = 2∨k = 3)∧1 ≤ n∧n ≤ 31∧0 ≤ wk∧wk < 7) then (0:Int) else 10) = V by
  rw [← hV]
  unfold dayOkB
  simp only [decide_eq_true_eq])
 clear hV
 clear HQ0
 unfold dayA
 by_cases h1:1 ≤ n
 ·by_cases h2:0 ≤ wk
  ·
   go_enter Tryz.func46,Tryz.ntmps46
   go_wp2_with fail
   go_quiet (fail)
   go_wp2_with fail
   all_goals
    go_ret
    refine ⟨?_,below_drewN (HB0.out _) _⟩
    have hv:=HV.out
    simp only [beq_iff_eq,beq_eq_false_iff_ne,ne_eq,decide_eq_true_eq,decide_eq_false_iff_not,Bool.not_eq_true',Bool.not_eq_false'] at *
    split at hv
    all_goals first | (rw [← hv];rfl) | (exfalso;omega) | done
  ·have hd2:decide (0 ≤ wk) = false:=decide_eq_false h2
   go_enter Tryz.func46,Tryz.ntmps46
   go_wp2_with fail
   go_quiet (fail)
   go_wp2_with fail
   all_goals
    go_ret
    refine ⟨?_,below_drewN (HB0.out _) _⟩
    have hv:=HV.out
    simp only [beq_iff_eq,beq_eq_false_iff_ne,ne_eq,decide_eq_false_iff_not,Bool.not_eq_true',Bool.not_eq_false'] at *
    split at hv
    all_goals first | (rw [← hv];rfl) | (exfalso;omega) | done
 ·have hd1:decide (1 ≤ n) = false:=decide_eq_false h1
  by_cases h2:0 ≤ wk
  ·
   go_enter Tryz.func46,Tryz.ntmps46
   go_wp2_with fail
   go_quiet (fail)
   go_wp2_with fail
   all_goals
    go_ret
    refine ⟨?_,below_drewN (HB0.out _) _⟩
    have hv:=HV.out
    simp only [beq_iff_eq,beq_eq_false_iff_ne,ne_eq,decide_eq_true_eq,decide_eq_false_iff_not,Bool.not_eq_true',Bool.not_eq_false'] at *
    split at hv
    all_goals first | (rw [← hv];rfl) | (exfalso;omega) | done
  ·have hd2:decide (0 ≤ wk) = false:=decide_eq_false h2
   go_enter Tryz.func46,Tryz.ntmps46
   go_wp2_with fail
   go_quiet (fail)
   go_wp2_with fail
   all_goals
    go_ret
    refine ⟨?_,below_drewN (HB0.out _) _⟩
    have hv:=HV.out
    simp only [beq_iff_eq,beq_eq_false_iff_ne,ne_eq,decide_eq_false_iff_not] at *
    split at hv
    all_goals first | (rw [← hv];rfl) | (exfalso;omega) | done
theorem from_any (a st:Int) (w:World):Calls Tryz.prog 152 #[.int .i64 a,.int .i64 st] w fun e w'=>e = .returned (.func (.func 176) #[] #[.pointer (some ⟨w.heap.size,0,none⟩),.pointer (some ⟨w.heap.size + 1,0,none⟩)])∧Below w.heap.size w w'∧w'.heap.size = w.heap.size + 2 ∧
  Blk w' w.heap.size 3 #[.int .i64 a]∧Blk w' (w.heap.size + 1) 3 #[.int .i64 st]:=by
 have h1:=Blk.new w 3 #[.int .i64 a]
 have h2:=Blk.new (w.alloc (.cells #[.int .i64 a] 3)) 3 #[.int .i64 st]
 simp only [World.size_alloc] at h2
 have HB:=Lib.hid (show Below w.heap.size w ((w.alloc (.cells #[.int .i64 a] 3)).alloc (.cells #[.int .i64 st] 3)) from ((Below.refl _ _).alloc (Nat.le_refl _) _).alloc (by simp) _)
 have HH:=Lib.hid (show _∧_ from ⟨h1.alloc (.cells #[.int .i64 st] 3),h2⟩)
 clear h1 h2
 go_enter Tryz.func152,Tryz.ntmps152
 go_wp2_with fail
 go_ret
 exact ⟨rfl,HB.out,by simp,HH.out⟩
def encD (f:Nat→Int) (k:Nat):Array Value:=#[.int .i64 (f k)]
theorem from1_in (n:Nat) (hn:2 ≤ n) (lp db sb:Nat) (f:Nat→Int) (st:Int) (W:World) (hf:∀ k,f (k + 1) = f k + st) (hb:∀ k,k ≤ 7→-100000000 ≤ f k∧f k ≤ 100000000) (hst:-1 ≤ st∧st ≤ 1)
  (hd:Blk W db 3 #[.int .i64 (f 0)]) (hs:Blk W sb 3 #[.int .i64 st]) (hne:db ≠ sb)
  (J Jx:List Nat→(Nat→Prop)→World→Prop) (fJ:Feet J) (hY:RoundsIn Fence.wide (n - 1) Tryz.prog lp (encD f) (fun pre k D _=>(∀ j,¬ D j)∧k = pre.length∧k < 7) J Jx)
  (O0:Nat→Prop) (h0:J [] O0 W) (hO0:Bd O0 W) (hK:∀ k,(k = db∨k = sb)→¬ O0 k) :
  CallsIn Fence.wide n Tryz.prog 176 #[.func (.yield lp) #[] #[],.pointer (some ⟨db,0,none⟩),.pointer (some ⟨sb,0,none⟩)] W (IterEnd (fun xs:List Nat=>xs.length = 7) (fun _=>True) J Jx O0 (fun k=>k = db) W):=by
 have HD:=Lib.hid hd
 have HS:=Lib.hid hs
 refine callsIn_of_wp Tryz.func176 rfl trivial ?_ rfl
 simp only [Tryz.ntmps176,List.size_toArray,List.length_cons,List.length_nil,Nat.reduceAdd,Nat.reduceSub,Array.replicate_succ,Array.replicate_zero,List.push_toArray,List.append_toArray,List.nil_append,List.cons_append]
 gi_wp2
 gi_loopw [4] (fun iv wr=>∃ (pre:List Nat) (O:Nat→Prop),iv = .int .i64 (pre.length:Nat)∧pre.length ≤ 7∧J pre O wr∧Bd O wr∧(∀ k,O k→O0 k∨W.heap.size ≤ k)∧Fr (fun k=>O0 k∨k = db) W wr∧Blk wr db 3 #[.int .i64 (f pre.length)]∧Blk wr sb 3 #[.int .i64 st]) (fun iv _=>7 - (intOf iv).toNat)
 case atStart=>exact ⟨[],O0,rfl,by simp,h0,hO0,fun k h=>.inl h,Fr.refl _ _,HD.out,HS.out⟩
 case round =>
  obtain ⟨pre,O,rfl,hle,hJ,hbd,hex,hfr,hbd1,hbs1⟩:=hrel
  have HJ:=Lib.hid hJ
  have HBD:=Lib.hid hbd
  have HEX:=Lib.hid hex
  have HFR:=Lib.hid hfr
  have HD1:=Lib.hid hbd1
  have HS1:=Lib.hid hbs1
  have qd:=hbd1.cell 0 (v:=.int .i64 (f pre.length)) rfl
  clear hJ hbd hex hfr hbd1 hbs1
  by_cases hlt:pre.length < 7
  ·have hOn:∀ k,(k = db∨k = sb)→¬ O k:=fun k hk ho=>by
    rcases HEX.out k ho with h | h
    ·exact hK k hk h
    ·have h1:=HD.out.lt
     have h2:=HS.out.lt
     rcases hk with rfl | rfl <;> omega
   have hnx:=hf pre.length
   have hb1:=hb pre.length (by omega)
   have hb2:=hb (pre.length + 1) (by omega)
   gi_wp2
   obtain ⟨fn,tmps,assign,body,hyd,hR⟩:=hY pre pre.length (fun _=>False) O wr HJ.out HBD.out (fun _ h=>h.elim) (fun _ h=>h.elim) ⟨fun _ h=>h,rfl,hlt⟩
   unfold encD at hyd
   rw [hyd]
   gi_wp2
   refine ⟨fun _=>by omega,hR.mono ?_⟩
   rintro e W5 ⟨O5,hx5,hbd5,hf5,(⟨rfl,hJ5⟩ | ⟨rfl,hJx5⟩)⟩
   ·have hd5:=HD1.out.fr hf5 (fun e=>by rcases e with e | e;exact hOn _ (.inl rfl) e;exact e)
    have hs5:=HS1.out.fr hf5 (fun e=>by rcases e with e | e;exact hOn _ (.inr rfl) e;exact e)
    have qd:=hd5.cell 0 (v:=.int .i64 (f pre.length)) rfl
    have qs:=hs5.cell 0 (v:=.int .i64 st) rfl
    have qf:=hd5.frozen 0
    have HD5:=Lib.hid hd5
    have HS5:=Lib.hid hs5
    have hdl:=hd5.lt
    clear hd5 hs5 hyd hR
    gi_wp2
    have hls:(pre ++ [pre.length]).length = pre.length + 1:=by simp
    have nO5:∀ k,(k = db∨k = sb)→¬ O5 k:=fun k hk ho=>by
     rcases hx5 k ho with h | h | h
     ·exact hOn k hk h
     ·exact h
     ·have h1:=HD1.out.lt
      have h2:=HS1.out.lt
      rcases hk with rfl | rfl <;> omega
    refine ⟨⟨pre ++ [pre.length],O5,by rw [hls];go_num,by omega,fJ _ _ _ _ hJ5 ((Fr.setCell (T:=fun k=>k = db) W5 0 _ rfl).mono fun k hk=>.inl fun hO=>nO5 _ (.inl hk) hO),hbd5.fr (Fr.setCell (T:=fun k=>k = db) W5 0 _ rfl),fun k hk=>?_,?_,?_,HS5.out.other hne.symm 0 _⟩,by simp only [intOf];omega⟩
    ·rcases hx5 k hk with h | h | h
     ·exact HEX.out k h
     ·exact h.elim
     ·have:=HFR.out.size;exact .inr (by omega)
    ·refine (HFR.out.trans hf5 fun k hk=>?_).then (Fr.setCell W5 0 _ (.inr rfl))
     rcases hk with h | h
     ·rcases HEX.out k h with h | h
      ·exact .inl (.inl h)
      ·exact .inr h
     ·exact h.elim
    ·rw [hls,hnx]
     exact HD5.out.set 0 _
   ·gi_wp2
    refine bodyPost_end (results_none rfl _ _ _) rfl ?_
    refine ⟨⟨_,rfl⟩,O5,fun k hk=>?_,hbd5,HFR.out.trans hf5 fun k hk=>?_,.inr ⟨_,trivial,hJx5⟩⟩
    ·rcases hx5 k hk with h | h | h
     ·exact HEX.out k h
     ·exact h.elim
     ·have:=HFR.out.size;exact .inr (by omega)
    ·rcases hk with h | h
     ·rcases HEX.out k h with h | h
      ·exact .inl (.inl h)
      ·exact .inr h
     ·exact h.elim
  ·have h7:pre.length = 7:=by omega
   gi_wp2
   refine bodyPost_end (results_none rfl _ _ _) rfl ?_
   exact ⟨⟨_,rfl⟩,O,HEX.out,HBD.out,HFR.out,.inl ⟨pre,h7,HJ.out⟩⟩
theorem from1_iter (n:Nat) (hn:2 ≤ n) (db sb:Nat) (f:Nat→Int) (st:Int) (W:World) (hf:∀ k,f (k + 1) = f k + st) (hb:∀ k,k ≤ 7→-100000000 ≤ f k∧f k ≤ 100000000) (hst:-1 ≤ st∧st ≤ 1)
  (hd:Blk W db 3 #[.int .i64 (f 0)]) (hs:Blk W sb 3 #[.int .i64 st]) (hne:db ≠ sb) :
  Iter Fence.wide n Tryz.prog 176 #[.pointer (some ⟨db,0,none⟩),.pointer (some ⟨sb,0,none⟩)] (encD f) (fun pre k D _=>(∀ j,¬ D j)∧k = pre.length∧k < 7) (fun xs=>xs.length = 7) (fun _=>True) (fun k=>k = db∨k = sb) (fun k=>k = db) W :=
 fun lp J Jx fJ _ hY O h0 hO hK=>from1_in n hn lp db sb f st W hf hb hst hd hs hne J Jx fJ hY O h0 hO hK
end
section -- FrmS
open Go Go.RowKit
section
variable {F:Fence} {n:Nat} {P:Program}
theorem range_own_set {α:Type} {g:Operand} {ps:Array Tmp} {assign body:Code} {Q:Exit→Act→World→Prop} {a:Act} {w:World}
  (hro:F.round = none) (h1:1 ≤ n) {gf:Nat} {lb:Array Value} (hg:a.eval g = .func (.func gf) #[] lb) (hFg:F.fn gf) (eg:∀ args w,(callFunc gf args).run P w = .ok (.enter gf args) w)
  {encs:α→Array Value} {R:List α→α→(Nat→Prop)→World→Prop} {S Sp:List α→Prop} {K M:Nat→Prop}
  (hseq:∀ W,Below w.heap.size w W→Iter F (n - 1) P gf lb encs R S Sp K M W) (hps:∀ x,(encs x).size = ps.size)
  (I:List α→(Nat→Prop)→World→Prop) (Ix:Code→List α→(Nat→Prop)→World→Prop) (hI:Feet I) (hIx:∀ c,Feet (Ix c)) (Ip:List α→α→(Nat→Prop)→World→Prop) (hIp:∀ x,Feet (fun pre=>Ip pre x)) (O0:Nat→Prop) (h0:I [] O0 w) (hO0:Bd O0 w) (hM:Bd K w) (hMO:∀ k,K k→¬ O0 k)
  (hround:∀ (l:Nat) (pre:List α) (x:α) (O D:Nat→Prop) (W:World),I pre O W→Bd O W→Bd D W→(∀ k,D k→¬ O k)→R pre x D W→¬ O l→¬ D l→w.heap.size < l→l < W.heap.size →
    assign.wpIn (F.inRound l) (n - 1 - 1) P (Exit.then (fun a' Wa=>(Fr O W Wa∧Ip pre x O Wa)∧∀ Wb,Fr (fun k=>k = l) Wa Wb→Ip pre x O Wb→(∃ r,Wb.heap[l]? = some (.loop r))→body.wpIn (F.inRound l) (n - 1 - 1) P (leftO I Ix (pre ++ [x]) O D Wb) a' Wb) (fun _ _ _=>False))
     { tmps:=(ps.zip (encs x)).foldl (fun t (p,v)=>t.setIfInBounds p v) a.tmps,defers:=[] } W)
  (hdone:∀ (B:Nat) (xs:List α) (O:Nat→Prop) (W:World),w.heap.size ≤ B→S xs→I xs O W→(∀ k,O k→O0 k∨w.heap.size ≤ k)→Bd O W→¬ O B→Fr (fun k=>O0 k∨M k) w W→W.heap[B]? = some (.deferred (some []))→Q .normal { a with defers:={ target:=.collected B,args:=#[] } :: a.defers } W)
  (hstop:∀ (B:Nat) (c:Code) (pre:List α) (O:Nat→Prop) (W:World),w.heap.size ≤ B→Sp pre→Ix c pre O W→(∀ k,O k→O0 k∨w.heap.size ≤ k)→Bd O W→¬ O B→Fr (fun k=>O0 k∨M k) w W→W.heap[B]? = some (.deferred (some []))→c.wpIn F n P Q { a with defers:={ target:=.collected B,args:=#[] } :: a.defers } W) :
  (Code.rangeFunc g ps assign body).wpIn F n P Q a w:=by
 refine wpIn_rangeFunc fun fn hfn=>?_
 rw [hro]
 generalize hT:w.heap.size = T at *
 generalize hrec:(fun (st:LoopState) (pe:Option Code)=>({ state:=st,pending:=pe,fn:=fn,tmps:=a.tmps,params:=ps,assign:=assign,body:=body,defers:=T }:Loop)) = rec
 have er:∀ st pe,({ state:=st,pending:=pe,fn:=fn,tmps:=a.tmps,params:=ps,assign:=assign,body:=body,defers:=T }:Loop) = rec st pe:=fun st pe=>by rw [← hrec]
 have rs:∀ st pe,(rec st pe).state = st:=fun st pe=>by rw [← hrec]
 have rp:∀ st pe,(rec st pe).params = ps:=fun st pe=>by rw [← hrec]
 have rb:∀ st pe,({ rec st pe with state:=.busy }:Loop) = rec .busy pe:=fun st pe=>by rw [← hrec]
 generalize hW1:(w.alloc (.deferred (some []))).alloc (.loop (rec .ready none)) = W1
 have hs1:W1.heap.size = T + 2:=by rw [← hW1];simp [hT]
 have hl1:W1.heap[T + 1]? = some (.loop (rec .ready none)):=by
  have:=World.alloc_heap_new (w.alloc (.deferred (some []))) (.loop (rec .ready none))
  rw [World.size_alloc,hT] at this
  rw [← hW1]
  exact this
 have hd1:W1.heap[T]? = some (.deferred (some [])):=by
  have h:=World.alloc_heap_new w (.deferred (some []))
  rw [hT] at h
  rw [← hW1]
  exact (Below.heap_alloc _ _ _ (by simp [hT])).trans h
 have hb1:Below T w W1:=by
  rw [← hW1]
  exact ((Below.refl _ w).alloc (by omega) _).alloc (by simp;omega) _
 have hf1:∀ X,Fr X w W1:=fun X=>Fr.of_below hb1 (by omega)
 have en:=run_enterLoop_outer (P:=P) (w:=w) fn a.tmps ps assign body
 rw [hT,er .ready none,hW1] at en
 refine ⟨T + 1,[{ target:=.collected T,args:=#[] }],W1,{ target:=.fn (.func gf) lb,args:=#[.func (.yield (T + 1)) #[] #[]] },W1,gf,#[.func (.yield (T + 1)) #[] #[]] ++ lb,W1,en,?_,?_,?_,fun _=>h1,?_⟩
 ·simp only [resolve,hg]
  simp [go_sem]
 ·intro f' hf'
  simp [Target.leads] at hf'
  rw [← hf']
  exact hFg
 ·simp [invoke,go_sem,eg]
 have bO0:∀ k,O0 k→k < T:=fun k hk=>by have:=hO0 k hk;omega
 have bM:∀ k,K k→k < T:=fun k hk=>by have:=hM k hk;omega
 refine (hseq W1 hb1 (T + 1)
  (fun pre O W=>I pre (fun k=>O k∧k ≠ T∧k ≠ T + 1) W∧O T∧O (T + 1)∧T + 2 ≤ W.heap.size∧W.heap[T + 1]? = some (.loop (rec .ready none))∧W.heap[T]? = some (.deferred (some [])))
  (fun pre O W=>(∃ c,Ix c pre (fun k=>O k∧k ≠ T∧k ≠ T + 1) W∧W.heap[T + 1]? = some (.loop (rec .done (some c))))∧O T∧O (T + 1)∧T + 2 ≤ W.heap.size∧W.heap[T]? = some (.deferred (some []))) ?feetJ ?feetX ?round
  (fun k=>O0 k∨k = T∨k = T + 1) ⟨?i0,.inr (.inl rfl),.inr (.inr rfl),by omega,hl1,hd1⟩ ?bd (fun k hm h=>by have:=bM k hm;rcases h with h | h | h;exact hMO k hm h;omega;omega)).mono ?behind
 case feetJ =>
  rintro s O W W' ⟨hi,hT0,hT1,hs,hl,hd⟩ hf
  refine ⟨hI _ _ _ _ hi (hf.mono fun k hk=>.inl fun h=>hk h.1),hT0,hT1,Nat.le_trans hs hf.size,hf.at_ hl (by simpa using hT1),hf.at_ hd (by simpa using hT0)⟩
 case feetX =>
  rintro s O W W' ⟨⟨c,hi,hl⟩,hT0,hT1,hs,hd⟩ hf
  refine ⟨⟨c,hIx c _ _ _ _ hi (hf.mono fun k hk=>.inl fun h=>hk h.1),hf.at_ hl (by simpa using hT1)⟩,hT0,hT1,Nat.le_trans hs hf.size,hf.at_ hd (by simpa using hT0)⟩
 case i0 =>
  have e:(fun k=>(O0 k∨k = T∨k = T + 1)∧k ≠ T∧k ≠ T + 1) = O0:=by
   funext k
   apply propext
   constructor
   ·rintro ⟨h | h | h,h1,h2⟩
    ·exact h
    ·exact absurd h h1
    ·exact absurd h h2
   ·intro h
    have:=bO0 k h
    exact ⟨.inl h,by omega,by omega⟩
  rw [e]
  exact hI _ _ _ _ h0 (hf1 _)
 case bd =>
  intro k hk
  rcases hk with hk | hk | hk
  ·have:=bO0 k hk;omega
  ·omega
  ·omega
 case round =>
  rintro pre x D O V ⟨hi,hT0,hT1,hsz,hlV,hkV⟩ hBO hBD hDO hR
  have hltV:T + 1 < V.heap.size:=(Array.getElem?_eq_some_iff.1 hlV).1
  have hy:=run_yield (P:=P) (args:=encs x) hlV (by rw [rp];exact hps x)
  have hDT:¬ D T:=fun h=>hDO T h hT0
  have hDT1:¬ D (T + 1):=fun h=>hDO (T + 1) h hT1
  have e1:(rec .ready none).fn = fn∧(rec .ready none).tmps = a.tmps∧(rec .ready none).assign = assign∧(rec .ready none).body = body:=by rw [← hrec];exact ⟨rfl,rfl,rfl,rfl⟩
  rw [e1.1,e1.2.1,e1.2.2.1,e1.2.2.2,rp] at hy
  refine ⟨fn,_,assign,body,hy,roundIn_of_wpIn hfn (wpIn_mono (hround (T + 1) pre x _ D V hi (fun k hk=>hBO k hk.1) hBD (fun k hk h=>hDO k hk h.1) hR (fun h=>h.2.2 rfl) hDT1 (by omega) hltV) ?_)⟩
  rintro e a' Va hVa
  cases e with
  | normal=>?_
  | ret=>exact hVa.elim
  | exit id=>exact hVa.elim
  | goto t=>exact hVa.elim
  | panic ch=>exact hVa.elim
  | outgrown=>exact hVa.elim
  obtain ⟨⟨hbV,hip⟩,hbody⟩:=hVa
  have hl:=hbV.at_ hlV (fun h=>h.2.2 rfl)
  have hk:=hbV.at_ hkV (fun h=>h.2.1 rfl)
  have hlt:T + 1 < Va.heap.size:=Nat.lt_of_lt_of_le hltV hbV.size
  have hbr:=run_beginRound (P:=P) hl (rs _ _)
  rw [rb] at hbr
  refine ⟨_,hbr,?_⟩
  generalize hB:Va.putObj (T + 1) (.loop (rec .busy none)) = Bz at hbr
  have hlB:Bz.heap[T + 1]? = some (.loop (rec .busy none)):=by rw [← hB];exact World.putObj_heap_same hlt
  have hkB:Bz.heap[T]? = some (.deferred (some [])):=by rw [← hB];exact (World.putObj_heap_other (by omega)).trans hk
  have hAB:∀ X:Nat→Prop,X (T + 1)→Fr X Va Bz:=fun X hX=>by rw [← hB];exact Fr.putObj _ _ hX
  have hVB:∀ X:Nat→Prop,X (T + 1)→(∀ k,O k→X k)→Fr X V Bz:=fun X hX hOX=>(hbV.mono fun k hk=>.inl (hOX k hk.1)).then (hAB X hX)
  have hsB:V.heap.size ≤ Bz.heap.size:=(hVB (fun _=>True) trivial fun _ _=>trivial).size
  have hiB:Ip pre x (fun k=>O k∧k ≠ T∧k ≠ T + 1) Bz:=hIp x _ _ _ _ hip (hAB _ (fun h=>h.2.2 rfl))
  refine wpIn_mono (hbody Bz (hAB _ rfl) hiB ⟨_,hlB⟩) ?_
  rintro e a3 W3 ⟨O3,hx3,hb3,hf3,hp⟩
  have hl3:W3.heap[T + 1]? = some (.loop (rec .busy none)):=hf3.at_ hlB (fun h=>by rcases h with h | h;exact h.2.2 rfl;exact hDT1 h)
  have hk3:W3.heap[T]? = some (.deferred (some [])):=hf3.at_ hkB (fun h=>by rcases h with h | h;exact h.2.1 rfl;exact hDT h)
  have n3:∀ k,O3 k→k ≠ T∧k ≠ T + 1:=fun k hk=>by
   rcases hx3 k hk with h | h | h
   ·exact ⟨h.2.1,h.2.2⟩
   ·exact ⟨fun e=>hDT (e ▸ h),fun e=>hDT1 (e ▸ h)⟩
   ·constructor <;> omega
  have eO:(fun k=>(O3 k∨k = T∨k = T + 1)∧k ≠ T∧k ≠ T + 1) = O3:=by
   funext k
   apply propext
   constructor
   ·rintro ⟨h | h | h,h1,h2⟩
    ·exact h
    ·exact absurd h h1
    ·exact absurd h h2
   ·intro h
    exact ⟨.inl h,n3 k h⟩
  have hxO:∀ k,(O3 k∨k = T∨k = T + 1)→O k∨D k∨V.heap.size ≤ k:=fun k hk=>by
   rcases hk with hk | rfl | rfl
   ·rcases hx3 k hk with h | h | h
    ·exact .inl h.1
    ·exact .inr (.inl h)
    ·exact .inr (.inr (by omega))
   ·exact .inl hT0
   ·exact .inl hT1
  have hs3:=hf3.size
  have fin:∀ (jump:Option Code),∃ W4,(Instr.endRound (T + 1) jump).run P W3 = .ok (.bool jump.isNone) W4∧W4.heap[T + 1]? = some (.loop (rec (if jump.isNone then .ready else .done) jump))∧W4.heap[T]? = some (.deferred (some []))∧T + 2 ≤ W4.heap.size∧(∀ X:Nat→Prop,X (T + 1)→Fr X W3 W4):=fun jump=>by
   have hr:=run_endRound (P:=P) jump hl3
   have hh:({ rec .busy none with state:=(if jump.isNone then LoopState.ready else .done),pending:=jump }:Loop) = rec (if jump.isNone then .ready else .done) jump:=by rw [← hrec]
   rw [hh] at hr
   exact ⟨_,hr,World.putObj_heap_same (Array.getElem?_eq_some_iff.1 hl3).1,(World.putObj_heap_other (by omega)).trans hk3,by simp [World.putObj];omega,fun X hX=>Fr.putObj _ _ hX⟩
  have hfV:∀ W4,(∀ X:Nat→Prop,X (T + 1)→Fr X W3 W4)→Fr (fun k=>O k∨D k) V W4:=fun W4 h4 =>
   ((hVB (fun k=>O k∨D k) (.inl hT1) fun k h=>.inl h).trans hf3 (fun k hk=>by rcases hk with hk | hk;exact .inl (.inl hk.1);exact .inl (.inr hk))).then (h4 _ (.inl hT1))
  have hbd:∀ W4,(∀ X:Nat→Prop,X (T + 1)→Fr X W3 W4)→Bd (fun k=>O3 k∨k = T∨k = T + 1) W4:=fun W4 h4 k hk=>by
   have h5:=(h4 (fun _=>True) trivial).size
   rcases hk with hk | hk | hk
   ·have:=hb3 k hk;omega
   ·omega
   ·omega
  have n5:∀ k,¬ ¬ O3 k→k ≠ T + 1:=fun k h=>(n3 k (Classical.not_not.1 h)).2
  have keep:∀ W4,(∀ X:Nat→Prop,X (T + 1)→Fr X W3 W4)→Fr (fun k=>¬ O3 k) W3 W4:=fun W4 h4=>h4 _ (fun h=>(n3 _ h).2 rfl)
  cases e with
  | normal =>
    obtain ⟨W4,hr,hl4,hk4,hs4,h4⟩:=fin none
    exact ⟨_,_,hr,_,hxO,hbd _ h4,hfV _ h4,.inl ⟨rfl,by rw [eO];exact hI _ _ _ _ hp (keep _ h4),.inr (.inl rfl),.inr (.inr rfl),hs4,hl4,hk4⟩⟩
  | ret =>
    obtain ⟨W4,hr,hl4,hk4,hs4,h4⟩:=fin (some .ret)
    exact ⟨_,_,hr,_,hxO,hbd _ h4,hfV _ h4,.inr ⟨rfl,⟨_,by rw [eO];exact hIx _ _ _ _ _ hp (keep _ h4),hl4⟩,.inr (.inl rfl),.inr (.inr rfl),hs4,hk4⟩⟩
  | exit id =>
    obtain ⟨W4,hr,hl4,hk4,hs4,h4⟩:=fin (some (.exit id))
    exact ⟨_,_,hr,_,hxO,hbd _ h4,hfV _ h4,.inr ⟨rfl,⟨_,by rw [eO];exact hIx _ _ _ _ _ hp (keep _ h4),hl4⟩,.inr (.inl rfl),.inr (.inr rfl),hs4,hk4⟩⟩
  | goto t =>
    obtain ⟨W4,hr,hl4,hk4,hs4,h4⟩:=fin (some (.goto t))
    exact ⟨_,_,hr,_,hxO,hbd _ h4,hfV _ h4,.inr ⟨rfl,⟨_,by rw [eO];exact hIx _ _ _ _ _ hp (keep _ h4),hl4⟩,.inr (.inl rfl),.inr (.inr rfl),hs4,hk4⟩⟩
  | panic ch=>exact hp.elim
  | outgrown=>exact hp.elim
 case behind =>
  rintro e W2 ⟨⟨v,rfl⟩,O2,hx2,hb2,hf2,h⟩
  have hfw:∀ W4,(∀ X:Nat→Prop,X (T + 1)→Fr X W2 W4)→Fr (fun k=>O0 k∨M k) w W4:=fun W4 h4 =>
   ((hf1 (fun k=>O0 k∨M k)).trans hf2 (fun k hk=>by
     rcases hk with (hk | hk | hk) | hk
     ·exact .inl (.inl hk)
     ·exact .inr (by omega)
     ·exact .inr (by omega)
     ·exact .inl (.inr hk))).trans (h4 (fun k=>k = T + 1) rfl) (fun k hk=>.inr (by omega))
  have hx:∀ k,(O2 k∧k ≠ T∧k ≠ T + 1)→O0 k∨T ≤ k:=fun k hk=>by
   rcases hx2 k hk.1 with (h | h | h) | h
   ·exact .inl h
   ·exact .inr (by omega)
   ·exact .inr (by omega)
   ·exact .inr (by omega)
  have hput:∀ (o:Obj),∀ X:Nat→Prop,X (T + 1)→Fr X W2 (W2.putObj (T + 1) o):=fun o X hX=>Fr.putObj _ _ hX
  rcases h with ⟨xs,hS,hi,hT0,hT1,hsz,hl,hk⟩ | ⟨pre,hSp,⟨c,hi,hl⟩,hT0,hT1,hsz,hk⟩
  ·have hr:=run_endLoop (P:=P) hl (by rw [rs];simp)
   have hpe:(rec .ready none).pending = none:=by rw [← hrec]
   rw [hpe] at hr
   exact ⟨none,_,hr,hdone _ xs _ _ (Nat.le_refl _) hS (hI _ _ _ _ hi (hput _ _ (fun h=>h.2.2 rfl))) hx (fun k hk=>by have:=hb2 k hk.1;simpa [World.putObj] using this) (fun h=>h.2.1 rfl) (hfw _ (hput _)) ((World.putObj_heap_other (by omega)).trans hk)⟩
  ·have hr:=run_endLoop (P:=P) hl (by rw [rs];simp)
   have hpe:(rec .done (some c)).pending = some c:=by rw [← hrec]
   rw [hpe] at hr
   exact ⟨some c,_,hr,hstop _ c pre _ _ (Nat.le_refl _) hSp (hIx c _ _ _ _ hi (hput _ _ (fun h=>h.2.2 rfl))) hx (fun k hk=>by have:=hb2 k hk.1;simpa [World.putObj] using this) (fun h=>h.2.1 rfl) (hfw _ (hput _)) ((World.putObj_heap_other (by omega)).trans hk)⟩
end
end
section -- CivilF
open Go Go.RowKit Go.Shelf
attribute [local go_sem] Oper.semAt_some
def seekV (a st wk:Int):Int:=if st = 1 then a + (wk - weekV a) % 7 else a - (weekV a - wk) % 7
def inDay (k wk n y m:Int):Int:=if k = 0 then dayV y m n else if k = 2 then seekV (dayV y m n) 1 wk else seekV (dayV y m (if k = 1 then lenV y m else n)) (-1) wk
def inB (k wk n y m:Int):Bool:=dayOkB k wk n && ymB y m && decide (n ≤ lenV y m)
def ofInB (n:Int):Bool:=decide (-37243778 ≤ n∧n < 35805088)
def ofA (n:Int):Value:=if ofInB n then dateA (ofYear n) (ofMon n) (ofDay n) else dateA 0 0 0
def ofE_ (n:Int):Int:=if ofInB n then 0 else 10
theorem weekV_add (a k:Int):weekV (a + k) = (weekV a + k) % 7:=by unfold weekV;omega
theorem seek_spec {a st wk:Int} (hst:st = 1∨st = -1) (h1:0 ≤ wk) (h2:wk < 7):∃ k:Nat,k < 7∧seekV a st wk = a + st * k∧weekV (a + st * k) = wk∧∀ j:Nat,j < k→weekV (a + st * j) ≠ wk:=by
 have hw:=weekV_in a
 rcases hst with rfl | rfl
 ·refine ⟨((wk - weekV a) % 7).toNat,by omega,?_,?_,fun j hj=>?_⟩
  ·unfold seekV
   rw [if_pos rfl,Int.one_mul]
   omega
  ·rw [Int.one_mul,weekV_add]
   omega
  ·rw [Int.one_mul,weekV_add]
   omega
 ·refine ⟨((weekV a - wk) % 7).toNat,by omega,?_,?_,fun j hj=>?_⟩
  ·unfold seekV
   rw [if_neg (by omega)]
   omega
  ·rw [show a + -1 * (((weekV a - wk) % 7).toNat:Int) = a + (-(((weekV a - wk) % 7).toNat:Int)) by omega,weekV_add]
   omega
  ·rw [show a + -1 * (j:Int) = a + (-(j:Int)) by omega,weekV_add]
   omega
def SeekI (n fb:Nat) (k wk N:Int) (f:Nat→Int) (pre:List Nat) (O:Nat→Prop) (W:World):Prop :=
 (O n∧O (n + 1)∧O fb)∧Blk W n 36 #[.int .i64 k,.int .i64 wk,.int .i64 N]∧Blk W (n + 1) 44 #[.int .i64 0,.int .i64 0,.int .i64 0]∧(∃ v,Blk W fb 3 #[.int .i64 v])∧∀ j,j < pre.length→weekV (f j) ≠ wk
def SeekP (n fb:Nat) (k wk N:Int) (f:Nat→Int) (pre:List Nat) (x:Nat) (O:Nat→Prop) (W:World):Prop :=
 (O n∧O (n + 1)∧O fb)∧Blk W n 36 #[.int .i64 k,.int .i64 wk,.int .i64 N]∧Blk W (n + 1) 44 #[.int .i64 0,.int .i64 0,.int .i64 0]∧Blk W fb 3 #[.int .i64 (f x)]∧∀ j,j < pre.length→weekV (f j) ≠ wk
def SeekX (n fb:Nat) (k wk N:Int) (f:Nat→Int) (c:Code) (_:List Nat) (O:Nat→Prop) (W:World):Prop :=
 c = .exit 1∧(O n∧O (n + 1)∧O fb)∧Blk W n 36 #[.int .i64 k,.int .i64 wk,.int .i64 N]∧Blk W (n + 1) 44 #[.int .i64 0,.int .i64 0,.int .i64 0]∧∃ j,Blk W fb 3 #[.int .i64 (f j)]∧weekV (f j) = wk∧∀ i,i < j→weekV (f i) ≠ wk
theorem seekI_feet (n fb:Nat) (k wk N:Int) (f:Nat→Int):Feet (SeekI n fb k wk N f):=by
 rintro pre O W W' ⟨⟨o0,o1,o2⟩,h0,h1,⟨v,h2⟩,hs⟩ hf
 exact ⟨⟨o0,o1,o2⟩,h0.fr hf (fun h=>h o0),h1.fr hf (fun h=>h o1),⟨v,h2.fr hf (fun h=>h o2)⟩,hs⟩
theorem seekP_feet (n fb:Nat) (k wk N:Int) (f:Nat→Int) (x:Nat):Feet (fun pre=>SeekP n fb k wk N f pre x):=by
 rintro pre O W W' ⟨⟨o0,o1,o2⟩,h0,h1,h2,hs⟩ hf
 exact ⟨⟨o0,o1,o2⟩,h0.fr hf (fun h=>h o0),h1.fr hf (fun h=>h o1),h2.fr hf (fun h=>h o2),hs⟩
theorem seekX_feet (n fb:Nat) (k wk N:Int) (f:Nat→Int) (c:Code):Feet (SeekX n fb k wk N f c):=by
 rintro pre O W W' ⟨hc,⟨o0,o1,o2⟩,h0,h1,j,h2,hs⟩ hf
 exact ⟨hc,⟨o0,o1,o2⟩,h0.fr hf (fun h=>h o0),h1.fr hf (fun h=>h o1),j,h2.fr hf (fun h=>h o2),hs⟩
theorem in_last (wk n y m:Int) (w:World) (ha:Ahead w) (h:inB 1 wk n y m = true) :
  Calls Tryz.prog 122 #[dayA 1 wk n,.int .i64 y,.int .i64 m] w fun e w'=>e = .returned (.tuple #[ofA (inDay 1 wk n y m),.int .i64 (ofE_ (inDay 1 wk n y m))])∧Below w.heap.size w w':=by
 unfold inB at h
 simp only [Bool.and_eq_true,decide_eq_true_eq] at h
 obtain ⟨⟨hok,hym⟩,hnl⟩:=h
 have hwk:0 ≤ wk∧wk < 7:=by
  have h:=hok
  unfold dayOkB at h
  rw [decide_eq_true_eq] at h
  omega
 have HL0:=show longV y m = (lenV y m,0) by unfold longV;rw [if_pos hym]
 unfold dayA
 refine (callsIn_wide (n:=8)).1 ?_
 refine callsIn_of_wp_marks Tryz.func122 rfl trivial ?_ rfl
 simp only [Tryz.ntmps122,List.size_toArray,List.length_cons,List.length_nil,Nat.reduceAdd,Nat.reduceSub,Array.replicate_succ,Array.replicate_zero,List.push_toArray,List.append_toArray,List.nil_append,List.cons_append]
 gi_wp2
 obtain ⟨W0,hW0⟩:∃ W,(w.alloc (.cells #[.int .i64 1,.int .i64 wk,.int .i64 n] 36)).alloc (.cells #[.int .i64 0,.int .i64 0,.int .i64 0] 44) = W:=⟨_,rfl⟩
 obtain ⟨b0,b1,hb0,hs0⟩:=blks2 w _ _ _ _ W0 hW0
 rw [hW0]
 clear hW0
 have HC:=Lib.hid (dfcheck_any 1 wk n W0)
 rw [if_pos hok] at HC
 have HB0:=Lib.hid (And.intro hb0 (And.intro b0 b1))
 have q0:=b0.cell 0 (v:=.int .i64 1) rfl
 have q1:=b0.cell 1 (v:=.int .i64 wk) rfl
 have q2:=b0.cell 2 (v:=.int .i64 n) rfl
 clear hb0 b0 b1
 unfold dayA at HC
 refine wpIn_scope ?_
 gi_wp2
 refine ⟨trivial,(callsIn_wide.2 HC.out).mono ?_⟩
 rintro e w1 ⟨rfl,hb⟩
 have HB1:=Lib.hid (show Below w.heap.size w w1∧Blk w1 w.heap.size 36 #[.int .i64 1,.int .i64 wk,.int .i64 n]∧Blk w1 (w.heap.size + 1) 44 #[.int .i64 0,.int .i64 0,.int .i64 0] from ⟨HB0.out.1.trans (hb.mono HB0.out.1.size),HB0.out.2.1.below hb HB0.out.2.1.lt,HB0.out.2.2.below hb HB0.out.2.2.lt⟩)
 clear hb HB0 HC q0 q1 q2
 have HL:=Lib.hid (long_any y m w1 (ha.below HB1.out.1 (Nat.le_refl _)))
 rw [HL0] at HL
 gi_wp2
 refine ⟨trivial,(callsIn_wide.2 HL.out).mono ?_⟩
 rintro e w2 ⟨rfl,q,rfl⟩
 have HB2:=Lib.hid (show Below w.heap.size w (w1.drewN q)∧Blk (w1.drewN q) w.heap.size 36 #[.int .i64 1,.int .i64 wk,.int .i64 n]∧Blk (w1.drewN q) (w.heap.size + 1) 44 #[.int .i64 0,.int .i64 0,.int .i64 0] from ⟨below_drewN HB1.out.1 q,HB1.out.2.1.drewN q,HB1.out.2.2.drewN q⟩)
 obtain ⟨W2,hW2⟩:∃ W,w1.drewN q = W:=⟨_,rfl⟩
 rw [hW2] at HB2 ⊢
 clear hW2 HL HB1
 have q0:=HB2.out.2.1.cell 0 (v:=.int .i64 1) rfl
 have q1:=HB2.out.2.1.cell 1 (v:=.int .i64 wk) rfl
 have q2:=HB2.out.2.1.cell 2 (v:=.int .i64 n) rfl
 have HD:=Lib.hid (days_any y m (lenV y m) W2 (ha.below HB2.out.1 (Nat.le_refl _)))
 have hdb:dateB y m (lenV y m) = true:=by
  unfold dateB
  rw [hym]
  unfold dayOkB at hok
  simp only [decide_eq_true_eq] at hok
  have hlen:=lenV_in (y:=y) (m:=m) (by unfold ymB at hym;rw [decide_eq_true_eq] at hym;exact hym.2.2.1) (by unfold ymB at hym;rw [decide_eq_true_eq] at hym;exact hym.2.2.2)
  simp
  omega
 rw [if_pos hdb] at HD
 have hdr:=dayV_in hdb
 obtain ⟨a0,ha0⟩:∃ a0,dayV y m (lenV y m) = a0:=⟨_,rfl⟩
 rw [ha0] at HD hdr
 have HA:=Lib.hid ha0
 clear ha0
 unfold dateA at HD
 gi_wp2
 refine ⟨trivial,(callsIn_wide.2 HD.out).mono ?_⟩
 rintro e w3 ⟨rfl,hb⟩
 have HB3:=Lib.hid (show Below w.heap.size w w3∧Blk w3 w.heap.size 36 #[.int .i64 1,.int .i64 wk,.int .i64 n]∧Blk w3 (w.heap.size + 1) 44 #[.int .i64 0,.int .i64 0,.int .i64 0] from ⟨HB2.out.1.trans (hb.mono HB2.out.1.size),HB2.out.2.1.below hb HB2.out.2.1.lt,HB2.out.2.2.below hb HB2.out.2.2.lt⟩)
 clear hb HB2 HD q0 q1 q2
 gi_wp2
 refine wpIn_label ?_
 have hsz:=HB3.out.2.2.lt
 have hb4:Below w.heap.size w (w3.alloc (.cells #[.int .i64 a0] 3)):=HB3.out.1.alloc HB3.out.1.size _
 have hf4:=Blk.new w3 3 #[.int .i64 a0]
 have HB4:=Lib.hid (show Below w.heap.size w (w3.alloc (.cells #[.int .i64 a0] 3))∧Blk (w3.alloc (.cells #[.int .i64 a0] 3)) w.heap.size 36 #[.int .i64 1,.int .i64 wk,.int .i64 n]∧Blk (w3.alloc (.cells #[.int .i64 a0] 3)) (w.heap.size + 1) 44 #[.int .i64 0,.int .i64 0,.int .i64 0]∧Blk (w3.alloc (.cells #[.int .i64 a0] 3)) w3.heap.size 3 #[.int .i64 a0] from ⟨hb4,HB3.out.2.1.alloc _,HB3.out.2.2.alloc _,hf4⟩)
 obtain ⟨W4,hW4⟩:∃ W,w3.alloc (.cells #[.int .i64 a0] 3) = W:=⟨_,rfl⟩
 rw [hW4] at HB4 ⊢
 have hs4:w3.heap.size < W4.heap.size:=by rw [← hW4];simp
 generalize w3.heap.size = fb at *
 clear hW4 hb4 hf4 HB3
 have HFM:=Lib.hid (from_any a0 (-1) W4)
 obtain ⟨f,hf⟩:∃ f:Nat→Int,∀ k,f k = a0 + (-1) * (k:Int):=⟨fun k=>a0 + (-1) * (k:Int),fun _=>rfl⟩
 have HF:=Lib.hid hf
 have hf0:f 0 = a0:=by rw [hf];simp
 have HF0:=Lib.hid hf0
 clear hf hf0
 gi_wp2
 refine ⟨trivial,(callsIn_wide.2 HFM.out).mono ?_⟩
 rintro e W5 ⟨rfl,hb5,hs5,hd5,hst5⟩
 have HB5:=Lib.hid (show Below w.heap.size w W5∧SeekI w.heap.size fb 1 wk n f [] (fun k=>k = w.heap.size∨k = w.heap.size + 1∨k = fb) W5 from ⟨HB4.out.1.trans (hb5.mono HB4.out.1.size),⟨.inl rfl,.inr (.inl rfl),.inr (.inr rfl)⟩,HB4.out.2.1.below hb5 HB4.out.2.1.lt,HB4.out.2.2.1.below hb5 HB4.out.2.2.1.lt,⟨a0,HB4.out.2.2.2.below hb5 HB4.out.2.2.2.lt⟩,fun j hj=>by simp at hj⟩)
 have HD5:=Lib.hid (And.intro hd5 hst5)
 have hw5:=HB5.out.1.size
 clear hb5 HB4 HFM hd5 hst5
 gi_wp2
 refine range_own_set (α:=Nat) rfl (by omega) (gf:=176) (lb:=#[.pointer (some ⟨W4.heap.size,0,none⟩),.pointer (some ⟨W4.heap.size + 1,0,none⟩)]) rfl trivial (enters_of Tryz.func176 (by kernel_rfl) rfl)
  (encs:=encD f) (K:=fun k=>k = W4.heap.size∨k = W4.heap.size + 1)
  (fun W hW=>from1_iter 7 (by omega) _ _ f (-1) W (fun k=>by rw [HF.out,HF.out];omega) (fun k hk=>by rw [HF.out];omega) (by omega) (by rw [HF0.out];exact HD5.out.1.below hW HD5.out.1.lt) (HD5.out.2.below hW HD5.out.2.lt) (by omega))
  (fun _=>rfl) (SeekI w.heap.size fb 1 wk n f) (SeekX w.heap.size fb 1 wk n f) (seekI_feet _ _ _ _ _ _) (seekX_feet _ _ _ _ _ _) (SeekP w.heap.size fb 1 wk n f) (seekP_feet _ _ _ _ _ _)
  (fun k=>k = w.heap.size∨k = w.heap.size + 1∨k = fb) HB5.out.2 (fun k hk=>by omega) (fun k hk=>by omega) (fun k hk h=>by omega) ?round ?done ?stop
 case round =>
  intro lp pre x O D W hI hBO hBD hDO hR nOl nDl hlow hltl
  obtain ⟨hnD,rfl,hx7⟩:=hR
  unfold encD
  obtain ⟨⟨o0,o1,o2⟩,h0,h1,⟨v,h2⟩,hs⟩:=hI
  have q0:=h2.cell 0 (v:=.int .i64 v) rfl
  have qf:=h2.frozen 0
  have HW:=Lib.hid (show (Fr O W (W.setCell ⟨fb,0,none⟩ (.int .i64 (f pre.length)))∧SeekP w.heap.size fb 1 wk n f pre pre.length O (W.setCell ⟨fb,0,none⟩ (.int .i64 (f pre.length))))∧Bd O W from ⟨⟨Fr.setCell W 0 _ o2,⟨o0,o1,o2⟩,h0.other (by omega) 0 _,h1.other (by omega) 0 _,h2.set 0 _,hs⟩,hBO⟩)
  clear h0 h1 h2 hs hBO hBD hDO
  gi_wp2
  refine ⟨HW.out.1,?_⟩
  intro Wb hfb hIb _
  have HBW:=Lib.hid ((HW.out.2.fr HW.out.1.1).fr hfb)
  have HIB:=Lib.hid hIb
  have HWK:=Lib.hid (fun W=>weekday_any (f pre.length) W)
  have HZ:=Lib.hid (show leftO (SeekI w.heap.size fb 1 wk n f) (SeekX w.heap.size fb 1 wk n f) (pre ++ [pre.length]) O D Wb = leftO (SeekI w.heap.size fb 1 wk n f) (SeekX w.heap.size fb 1 wk n f) (pre ++ [pre.length]) O D Wb from rfl)
  have HLF:=Lib.hid (show ∀ W,Below Wb.heap.size Wb W→(weekV (f pre.length) ≠ wk→leftO (SeekI w.heap.size fb 1 wk n f) (SeekX w.heap.size fb 1 wk n f) (pre ++ [pre.length]) O D Wb .normal ⟨#[],[]⟩ W)∧(weekV (f pre.length) = wk→leftO (SeekI w.heap.size fb 1 wk n f) (SeekX w.heap.size fb 1 wk n f) (pre ++ [pre.length]) O D Wb (.exit 1) ⟨#[],[]⟩ W) from fun W hbW=>by
   obtain ⟨oo,h0,h1,h2,hs⟩:=HIB.out
   have g0:=h0.below hbW h0.lt
   have g1:=h1.below hbW h1.lt
   have g2:=h2.below hbW h2.lt
   have hF:∀ T,Fr T Wb W:=fun T=>Fr.of_below hbW (Nat.le_refl _)
   refine ⟨fun hne=>⟨O,fun k h=>.inl h,HBW.out.fr (hF (fun _=>True)),hF _,oo,g0,g1,⟨_,g2⟩,fun j hj=>?_⟩,fun he=>⟨O,fun k h=>.inl h,HBW.out.fr (hF (fun _=>True)),hF _,rfl,oo,g0,g1,pre.length,g2,he,hs⟩⟩
   rw [List.length_append,List.length_singleton] at hj
   rcases Nat.lt_or_ge j pre.length with h | h
   ·exact hs j h
   ·rw [show j = pre.length by omega]
    exact hne)
  obtain ⟨-,h0,h1,h2,hs⟩:=hIb
  have q0:=h2.cell 0 (v:=.int .i64 (f pre.length)) rfl
  have q1:=h0.cell 1 (v:=.int .i64 wk) rfl
  have HQ:=Lib.hid (fun W (hb:Below Wb.heap.size Wb W)=>show W.cell? ⟨fb,0,none⟩ = some (.int .i64 (f pre.length))∧W.cell? ⟨w.heap.size,1,none⟩ = some (.int .i64 wk) from ⟨(h2.below hb h2.lt).cell 0 rfl,(h0.below hb h0.lt).cell 1 rfl⟩)
  clear h0 h1 h2 hs HW qf HB5 HD5
  generalize f pre.length = z at *
  generalize weekV z = wz at *
  by_cases hw:wz = wk
  ·have HRES:=Lib.hid (fun W hb=>(HLF.out W hb).2 hw)
   clear HLF
   have hw':=hw.symm
   subst hw'
   gi_wp2
   refine wpIn_env (fin:=?fnT) (wide1 lp) (by kernel_rfl) [65,66,67,68,69]
    [.int .i64 z,.int .i64 wk,.pointer (some ⟨w.heap.size,1,none⟩),.int .i64 wk,.bool true] (by kernel_rfl) ?finT ?stepsT ?nextT
   case finT =>
    simp only [putAll,Act.put,List.setIfInBounds_toArray,List.set_cons_succ,List.set_cons_zero]
    rfl
   case stepsT =>
    refine ⟨?_,?_,?_,?_,?_,trivial⟩
    all_goals refine .inr ⟨by kernel_rfl,fun w1_ hB_=>?_⟩
    all_goals
     obtain ⟨c0,c1⟩:=HQ.out w1_ hB_
     clear hB_
     go_simp
     first
      | exact ⟨rfl,Below.refl _ _⟩
      | exact ⟨rfl,(HWK.out w1_).mono fun e w' h=>⟨h.1,by rw [h.2];exact Below.refl _ _⟩⟩
      | done
   case nextT =>
   intro w7 hb7
   have HR:=HRES.out w7 hb7
   clear hb7 HRES
   gi_wp2
   exact HR
  ·have HRES:=Lib.hid (fun W hb=>(HLF.out W hb).1 hw)
   have hw2:(wz == wk) = false:=by simpa using hw
   clear HLF
   gi_wp2
   refine wpIn_env (fin:=?fnF) (wide1 lp) (by kernel_rfl) [65,66,67,68,69]
    [.int .i64 z,.int .i64 wz,.pointer (some ⟨w.heap.size,1,none⟩),.int .i64 wk,.bool false] (by kernel_rfl) ?finF ?stepsF ?nextF
   case finF =>
    simp only [putAll,Act.put,List.setIfInBounds_toArray,List.set_cons_succ,List.set_cons_zero]
    rfl
   case stepsF =>
    refine ⟨?_,?_,?_,?_,?_,trivial⟩
    all_goals refine .inr ⟨by kernel_rfl,fun w1_ hB_=>?_⟩
    all_goals
     obtain ⟨c0,c1⟩:=HQ.out w1_ hB_
     clear hB_
     go_simp
     first
      | exact ⟨rfl,Below.refl _ _⟩
      | exact ⟨rfl,(HWK.out w1_).mono fun e w' h=>⟨h.1,by rw [h.2];exact Below.refl _ _⟩⟩
      | done
   case nextF =>
   intro w7 hb7
   have HR:=HRES.out w7 hb7
   clear hb7 HRES
   gi_wp2
   exact HR
 case stop =>
  rintro D c pre O W hD - ⟨rfl,⟨o0,o1,o2⟩,h0,h1,j,h2,hj,hjn⟩ hO hBO hOD hfr hK
  have hv:f j = inDay 1 wk n y m:=by
   obtain ⟨k,h1,h3,h4,h5⟩:=seek_spec (a:=a0) (st:=-1) (wk:=wk) (by omega) hwk.1 hwk.2
   rcases Nat.lt_trichotomy j k with h | h | h
   ·exact absurd (by rw [HF.out] at hj;exact hj) (h5 j h)
   ·subst h
    rw [HF.out,← h3]
    have e:=HA.out
    unfold inDay
    simp
    rw [e]
   ·exact absurd (by rw [HF.out];exact h4) (hjn k h)
  have HV:=Lib.hid hv
  clear hv hj hjn
  have hsw:=hfr.size
  have hW:=HB5.out.1.trans (hfr.below hw5 (fun k hk h=>by rcases h with h | h <;> omega))
  have HBW:=Lib.hid hW
  have haW:Ahead W:=fun k hk=>by
   have h:=(ha.below HB5.out.1 (Nat.le_refl _)) k hk
   have hlt:=World.block_lt_of_cell? w _ (ha k hk)
   exact (hfr.cell (p:=⟨0,k,none⟩) (Nat.lt_of_lt_of_le hlt hw5) (fun h=>by rcases h with h | h <;> simp at h hlt <;> omega)).trans h
  have HOF:=Lib.hid (show Calls Tryz.prog 49 #[.int .i64 (f j)] W fun e w'=>e = .returned (.tuple #[ofA (f j),.int .i64 (ofE_ (f j))])∧Below W.heap.size W w' by
   unfold ofA ofE_ ofInB
   by_cases hin:-37243778 ≤ f j∧f j < 35805088
   ·simp only [hin,decide_true,if_true,and_self]
    exact of_any (f j) hin.1 hin.2 W haW
   ·simp only [hin,decide_false]
    exact of_out (f j) hin W)
  have q0:=h2.cell 0 (v:=.int .i64 (f j)) rfl
  obtain ⟨Y,M,D2,hofa⟩:∃ Y M D2,ofA (f j) = .agg #[.int .i64 Y,.int .i64 M,.int .i64 D2]:=by
   unfold ofA dateA
   split <;> exact ⟨_,_,_,rfl⟩
  rw [hofa] at HOF
  have HOA:=Lib.hid hofa
  obtain ⟨E,hE⟩:∃ E,ofE_ (f j) = E:=⟨_,rfl⟩
  rw [hE] at HOF
  have HE:=Lib.hid hE
  have H1:=Lib.hid h1
  have HK:=Lib.hid hK
  have hDW:D < W.heap.size:=(Array.getElem?_eq_some_iff.1 hK).1
  clear hofa hE h0 h1 h2 haW hW hfr hK HB5 HD5 hO hBO
  generalize f j = z at *
  gi_wp2
  refine ⟨trivial,(callsIn_wide.2 HOF.out).mono ?_⟩
  rintro e W6 ⟨rfl,hb6⟩
  have h6:=H1.out.below hb6 H1.out.lt
  have hK6:=(hb6.block D hDW).trans HK.out
  have HB6:=Lib.hid (HBW.out.trans (hb6.mono HBW.out.size))
  have r0:=h6.cell 0 (v:=.int .i64 0) rfl
  have r1:=h6.cell 1 (v:=.int .i64 0) rfl
  have r2:=h6.cell 2 (v:=.int .i64 0) rfl
  have g0:=h6.frozen 0
  have g1:=h6.frozen 1
  have g2:=h6.frozen 2
  have HR:=Lib.hid (((h6.set 0 (.int .i64 Y)).set 1 (.int .i64 M)).set 2 (.int .i64 D2))
  have HKD:=Lib.hid (show (((W6.setCell ⟨w.heap.size + 1,0,none⟩ (.int .i64 Y)).setCell ⟨w.heap.size + 1,1,none⟩ (.int .i64 M)).setCell ⟨w.heap.size + 1,2,none⟩ (.int .i64 D2)).heap[D]? = some (.deferred (some [])) from (fr_set3 (T:=fun k=>k = w.heap.size + 1) W6 rfl _ _ _).at_ hK6 (by omega))
  have HBL:=Lib.hid (below_set3 HB6.out (show w.heap.size ≤ w.heap.size + 1 by omega) (.int .i64 Y) (.int .i64 M) (.int .i64 D2))
  clear hb6 h6 hK6 HOF HK q0
  gi_wp2
  refine ⟨by simp,.inl ⟨_,_,rfl,run_takeDeferred HKD.out,?_⟩⟩
  have hres:Blk ((((W6.setCell ⟨w.heap.size + 1,0,none⟩ (.int .i64 Y)).setCell ⟨w.heap.size + 1,1,none⟩ (.int .i64 M)).setCell ⟨w.heap.size + 1,2,none⟩ (.int .i64 D2)).putObj D (.deferred none)) (w.heap.size + 1) 44 #[.int .i64 Y,.int .i64 M,.int .i64 D2]:=(World.putObj_heap_other (by omega)).trans HR.out
  have c0:=hres.cell 0 (v:=.int .i64 Y) rfl
  have c1:=hres.cell 1 (v:=.int .i64 M) rfl
  have c2:=hres.cell 2 (v:=.int .i64 D2) rfl
  refine ⟨.tuple #[.agg #[.int .i64 Y,.int .i64 M,.int .i64 D2],.int .i64 E],?_,⟨by rw [← HV.out,HOA.out,HE.out],fin_below HBL.out (by omega)⟩⟩
  simp [results,Tryz.f122,go_sem,c0,c1,c2]
 case done =>
  rintro D xs O W hD hS ⟨-,-,-,-,hs⟩
  exfalso
  obtain ⟨k,h1,-,h2,-⟩:=seek_spec (a:=a0) (st:=-1) (wk:=wk) (by omega) (by omega) (by omega)
  exact hs k (by rw [hS];exact h1) (by rw [HF.out];exact h2)
theorem in_less (wk n y m:Int) (w:World) (ha:Ahead w) (h:inB 2 wk n y m = true) :
  Calls Tryz.prog 122 #[dayA 2 wk n,.int .i64 y,.int .i64 m] w fun e w'=>e = .returned (.tuple #[ofA (inDay 2 wk n y m),.int .i64 (ofE_ (inDay 2 wk n y m))])∧Below w.heap.size w w':=by
 unfold inB at h
 simp only [Bool.and_eq_true,decide_eq_true_eq] at h
 obtain ⟨⟨hok,hym⟩,hnl⟩:=h
 have hwk:0 ≤ wk∧wk < 7:=by
  have h:=hok
  unfold dayOkB at h
  rw [decide_eq_true_eq] at h
  omega
 have HL0:=show longV y m = (lenV y m,0) by unfold longV;rw [if_pos hym]
 unfold dayA
 refine (callsIn_wide (n:=8)).1 ?_
 refine callsIn_of_wp_marks Tryz.func122 rfl trivial ?_ rfl
 simp only [Tryz.ntmps122,List.size_toArray,List.length_cons,List.length_nil,Nat.reduceAdd,Nat.reduceSub,Array.replicate_succ,Array.replicate_zero,List.push_toArray,List.append_toArray,List.nil_append,List.cons_append]
 gi_wp2
 obtain ⟨W0,hW0⟩:∃ W,(w.alloc (.cells #[.int .i64 2,.int .i64 wk,.int .i64 n] 36)).alloc (.cells #[.int .i64 0,.int .i64 0,.int .i64 0] 44) = W:=⟨_,rfl⟩
 obtain ⟨b0,b1,hb0,hs0⟩:=blks2 w _ _ _ _ W0 hW0
 rw [hW0]
 clear hW0
 have HC:=Lib.hid (dfcheck_any 2 wk n W0)
 rw [if_pos hok] at HC
 have HB0:=Lib.hid (And.intro hb0 (And.intro b0 b1))
 have q0:=b0.cell 0 (v:=.int .i64 2) rfl
 have q1:=b0.cell 1 (v:=.int .i64 wk) rfl
 have q2:=b0.cell 2 (v:=.int .i64 n) rfl
 clear hb0 b0 b1
 unfold dayA at HC
 refine wpIn_scope ?_
 gi_wp2
 refine ⟨trivial,(callsIn_wide.2 HC.out).mono ?_⟩
 rintro e w1 ⟨rfl,hb⟩
 have HB1:=Lib.hid (show Below w.heap.size w w1∧Blk w1 w.heap.size 36 #[.int .i64 2,.int .i64 wk,.int .i64 n]∧Blk w1 (w.heap.size + 1) 44 #[.int .i64 0,.int .i64 0,.int .i64 0] from ⟨HB0.out.1.trans (hb.mono HB0.out.1.size),HB0.out.2.1.below hb HB0.out.2.1.lt,HB0.out.2.2.below hb HB0.out.2.2.lt⟩)
 clear hb HB0 HC q0 q1 q2
 have HL:=Lib.hid (long_any y m w1 (ha.below HB1.out.1 (Nat.le_refl _)))
 rw [HL0] at HL
 gi_wp2
 refine ⟨trivial,(callsIn_wide.2 HL.out).mono ?_⟩
 rintro e w2 ⟨rfl,q,rfl⟩
 have HB2:=Lib.hid (show Below w.heap.size w (w1.drewN q)∧Blk (w1.drewN q) w.heap.size 36 #[.int .i64 2,.int .i64 wk,.int .i64 n]∧Blk (w1.drewN q) (w.heap.size + 1) 44 #[.int .i64 0,.int .i64 0,.int .i64 0] from ⟨below_drewN HB1.out.1 q,HB1.out.2.1.drewN q,HB1.out.2.2.drewN q⟩)
 obtain ⟨W2,hW2⟩:∃ W,w1.drewN q = W:=⟨_,rfl⟩
 rw [hW2] at HB2 ⊢
 clear hW2 HL HB1
 have q0:=HB2.out.2.1.cell 0 (v:=.int .i64 2) rfl
 have q1:=HB2.out.2.1.cell 1 (v:=.int .i64 wk) rfl
 have q2:=HB2.out.2.1.cell 2 (v:=.int .i64 n) rfl
 have HD:=Lib.hid (days_any y m (n) W2 (ha.below HB2.out.1 (Nat.le_refl _)))
 have hdb:dateB y m (n) = true:=by
  unfold dateB
  rw [hym]
  unfold dayOkB at hok
  simp only [decide_eq_true_eq] at hok
  have hlen:=lenV_in (y:=y) (m:=m) (by unfold ymB at hym;rw [decide_eq_true_eq] at hym;exact hym.2.2.1) (by unfold ymB at hym;rw [decide_eq_true_eq] at hym;exact hym.2.2.2)
  simp
  omega
 rw [if_pos hdb] at HD
 have hdr:=dayV_in hdb
 obtain ⟨a0,ha0⟩:∃ a0,dayV y m (n) = a0:=⟨_,rfl⟩
 rw [ha0] at HD hdr
 have HA:=Lib.hid ha0
 clear ha0
 unfold dateA at HD
 gi_wp2
 refine ⟨trivial,(callsIn_wide.2 HD.out).mono ?_⟩
 rintro e w3 ⟨rfl,hb⟩
 have HB3:=Lib.hid (show Below w.heap.size w w3∧Blk w3 w.heap.size 36 #[.int .i64 2,.int .i64 wk,.int .i64 n]∧Blk w3 (w.heap.size + 1) 44 #[.int .i64 0,.int .i64 0,.int .i64 0] from ⟨HB2.out.1.trans (hb.mono HB2.out.1.size),HB2.out.2.1.below hb HB2.out.2.1.lt,HB2.out.2.2.below hb HB2.out.2.2.lt⟩)
 clear hb HB2 HD q0 q1 q2
 gi_wp2
 refine wpIn_label ?_
 have hsz:=HB3.out.2.2.lt
 have hb4:Below w.heap.size w (w3.alloc (.cells #[.int .i64 a0] 3)):=HB3.out.1.alloc HB3.out.1.size _
 have hf4:=Blk.new w3 3 #[.int .i64 a0]
 have HB4:=Lib.hid (show Below w.heap.size w (w3.alloc (.cells #[.int .i64 a0] 3))∧Blk (w3.alloc (.cells #[.int .i64 a0] 3)) w.heap.size 36 #[.int .i64 2,.int .i64 wk,.int .i64 n]∧Blk (w3.alloc (.cells #[.int .i64 a0] 3)) (w.heap.size + 1) 44 #[.int .i64 0,.int .i64 0,.int .i64 0]∧Blk (w3.alloc (.cells #[.int .i64 a0] 3)) w3.heap.size 3 #[.int .i64 a0] from ⟨hb4,HB3.out.2.1.alloc _,HB3.out.2.2.alloc _,hf4⟩)
 obtain ⟨W4,hW4⟩:∃ W,w3.alloc (.cells #[.int .i64 a0] 3) = W:=⟨_,rfl⟩
 rw [hW4] at HB4 ⊢
 have hs4:w3.heap.size < W4.heap.size:=by rw [← hW4];simp
 generalize w3.heap.size = fb at *
 clear hW4 hb4 hf4 HB3
 have HFM:=Lib.hid (from_any a0 (1) W4)
 obtain ⟨f,hf⟩:∃ f:Nat→Int,∀ k,f k = a0 + (1) * (k:Int):=⟨fun k=>a0 + (1) * (k:Int),fun _=>rfl⟩
 have HF:=Lib.hid hf
 have hf0:f 0 = a0:=by rw [hf];simp
 have HF0:=Lib.hid hf0
 clear hf hf0
 gi_wp2
 refine ⟨trivial,(callsIn_wide.2 HFM.out).mono ?_⟩
 rintro e W5 ⟨rfl,hb5,hs5,hd5,hst5⟩
 have HB5:=Lib.hid (show Below w.heap.size w W5∧SeekI w.heap.size fb 2 wk n f [] (fun k=>k = w.heap.size∨k = w.heap.size + 1∨k = fb) W5 from ⟨HB4.out.1.trans (hb5.mono HB4.out.1.size),⟨.inl rfl,.inr (.inl rfl),.inr (.inr rfl)⟩,HB4.out.2.1.below hb5 HB4.out.2.1.lt,HB4.out.2.2.1.below hb5 HB4.out.2.2.1.lt,⟨a0,HB4.out.2.2.2.below hb5 HB4.out.2.2.2.lt⟩,fun j hj=>by simp at hj⟩)
 have HD5:=Lib.hid (And.intro hd5 hst5)
 have hw5:=HB5.out.1.size
 clear hb5 HB4 HFM hd5 hst5
 gi_wp2
 refine range_own_set (α:=Nat) rfl (by omega) (gf:=176) (lb:=#[.pointer (some ⟨W4.heap.size,0,none⟩),.pointer (some ⟨W4.heap.size + 1,0,none⟩)]) rfl trivial (enters_of Tryz.func176 (by kernel_rfl) rfl)
  (encs:=encD f) (K:=fun k=>k = W4.heap.size∨k = W4.heap.size + 1)
  (fun W hW=>from1_iter 7 (by omega) _ _ f (1) W (fun k=>by rw [HF.out,HF.out];omega) (fun k hk=>by rw [HF.out];omega) (by omega) (by rw [HF0.out];exact HD5.out.1.below hW HD5.out.1.lt) (HD5.out.2.below hW HD5.out.2.lt) (by omega))
  (fun _=>rfl) (SeekI w.heap.size fb 2 wk n f) (SeekX w.heap.size fb 2 wk n f) (seekI_feet _ _ _ _ _ _) (seekX_feet _ _ _ _ _ _) (SeekP w.heap.size fb 2 wk n f) (seekP_feet _ _ _ _ _ _)
  (fun k=>k = w.heap.size∨k = w.heap.size + 1∨k = fb) HB5.out.2 (fun k hk=>by omega) (fun k hk=>by omega) (fun k hk h=>by omega) ?round ?done ?stop
 case round =>
  intro lp pre x O D W hI hBO hBD hDO hR nOl nDl hlow hltl
  obtain ⟨hnD,rfl,hx7⟩:=hR
  unfold encD
  obtain ⟨⟨o0,o1,o2⟩,h0,h1,⟨v,h2⟩,hs⟩:=hI
  have q0:=h2.cell 0 (v:=.int .i64 v) rfl
  have qf:=h2.frozen 0
  have HW:=Lib.hid (show (Fr O W (W.setCell ⟨fb,0,none⟩ (.int .i64 (f pre.length)))∧SeekP w.heap.size fb 2 wk n f pre pre.length O (W.setCell ⟨fb,0,none⟩ (.int .i64 (f pre.length))))∧Bd O W from ⟨⟨Fr.setCell W 0 _ o2,⟨o0,o1,o2⟩,h0.other (by omega) 0 _,h1.other (by omega) 0 _,h2.set 0 _,hs⟩,hBO⟩)
  clear h0 h1 h2 hs hBO hBD hDO
  gi_wp2
  refine ⟨HW.out.1,?_⟩
  intro Wb hfb hIb _
  have HBW:=Lib.hid ((HW.out.2.fr HW.out.1.1).fr hfb)
  have HIB:=Lib.hid hIb
  have HWK:=Lib.hid (fun W=>weekday_any (f pre.length) W)
  have HZ:=Lib.hid (show leftO (SeekI w.heap.size fb 2 wk n f) (SeekX w.heap.size fb 2 wk n f) (pre ++ [pre.length]) O D Wb = leftO (SeekI w.heap.size fb 2 wk n f) (SeekX w.heap.size fb 2 wk n f) (pre ++ [pre.length]) O D Wb from rfl)
  have HLF:=Lib.hid (show ∀ W,Below Wb.heap.size Wb W→(weekV (f pre.length) ≠ wk→leftO (SeekI w.heap.size fb 2 wk n f) (SeekX w.heap.size fb 2 wk n f) (pre ++ [pre.length]) O D Wb .normal ⟨#[],[]⟩ W)∧(weekV (f pre.length) = wk→leftO (SeekI w.heap.size fb 2 wk n f) (SeekX w.heap.size fb 2 wk n f) (pre ++ [pre.length]) O D Wb (.exit 1) ⟨#[],[]⟩ W) from fun W hbW=>by
   obtain ⟨oo,h0,h1,h2,hs⟩:=HIB.out
   have g0:=h0.below hbW h0.lt
   have g1:=h1.below hbW h1.lt
   have g2:=h2.below hbW h2.lt
   have hF:∀ T,Fr T Wb W:=fun T=>Fr.of_below hbW (Nat.le_refl _)
   refine ⟨fun hne=>⟨O,fun k h=>.inl h,HBW.out.fr (hF (fun _=>True)),hF _,oo,g0,g1,⟨_,g2⟩,fun j hj=>?_⟩,fun he=>⟨O,fun k h=>.inl h,HBW.out.fr (hF (fun _=>True)),hF _,rfl,oo,g0,g1,pre.length,g2,he,hs⟩⟩
   rw [List.length_append,List.length_singleton] at hj
   rcases Nat.lt_or_ge j pre.length with h | h
   ·exact hs j h
   ·rw [show j = pre.length by omega]
    exact hne)
  obtain ⟨-,h0,h1,h2,hs⟩:=hIb
  have q0:=h2.cell 0 (v:=.int .i64 (f pre.length)) rfl
  have q1:=h0.cell 1 (v:=.int .i64 wk) rfl
  have HQ:=Lib.hid (fun W (hb:Below Wb.heap.size Wb W)=>show W.cell? ⟨fb,0,none⟩ = some (.int .i64 (f pre.length))∧W.cell? ⟨w.heap.size,1,none⟩ = some (.int .i64 wk) from ⟨(h2.below hb h2.lt).cell 0 rfl,(h0.below hb h0.lt).cell 1 rfl⟩)
  clear h0 h1 h2 hs HW qf HB5 HD5
  generalize f pre.length = z at *
  generalize weekV z = wz at *
  by_cases hw:wz = wk
  ·have HRES:=Lib.hid (fun W hb=>(HLF.out W hb).2 hw)
   clear HLF
   have hw':=hw.symm
   subst hw'
   gi_wp2
   refine wpIn_env (fin:=?fnT) (wide1 lp) (by kernel_rfl) [65,66,67,68,69]
    [.int .i64 z,.int .i64 wk,.pointer (some ⟨w.heap.size,1,none⟩),.int .i64 wk,.bool true] (by kernel_rfl) ?finT ?stepsT ?nextT
   case finT =>
    simp only [putAll,Act.put,List.setIfInBounds_toArray,List.set_cons_succ,List.set_cons_zero]
    rfl
   case stepsT =>
    refine ⟨?_,?_,?_,?_,?_,trivial⟩
    all_goals refine .inr ⟨by kernel_rfl,fun w1_ hB_=>?_⟩
    all_goals
     obtain ⟨c0,c1⟩:=HQ.out w1_ hB_
     clear hB_
     go_simp
     first
      | exact ⟨rfl,Below.refl _ _⟩
      | exact ⟨rfl,(HWK.out w1_).mono fun e w' h=>⟨h.1,by rw [h.2];exact Below.refl _ _⟩⟩
      | done
   case nextT =>
   intro w7 hb7
   have HR:=HRES.out w7 hb7
   clear hb7 HRES
   gi_wp2
   exact HR
  ·have HRES:=Lib.hid (fun W hb=>(HLF.out W hb).1 hw)
   have hw2:(wz == wk) = false:=by simpa using hw
   clear HLF
   gi_wp2
   refine wpIn_env (fin:=?fnF) (wide1 lp) (by kernel_rfl) [65,66,67,68,69]
    [.int .i64 z,.int .i64 wz,.pointer (some ⟨w.heap.size,1,none⟩),.int .i64 wk,.bool false] (by kernel_rfl) ?finF ?stepsF ?nextF
   case finF =>
    simp only [putAll,Act.put,List.setIfInBounds_toArray,List.set_cons_succ,List.set_cons_zero]
    rfl
   case stepsF =>
    refine ⟨?_,?_,?_,?_,?_,trivial⟩
    all_goals refine .inr ⟨by kernel_rfl,fun w1_ hB_=>?_⟩
    all_goals
     obtain ⟨c0,c1⟩:=HQ.out w1_ hB_
     clear hB_
     go_simp
     first
      | exact ⟨rfl,Below.refl _ _⟩
      | exact ⟨rfl,(HWK.out w1_).mono fun e w' h=>⟨h.1,by rw [h.2];exact Below.refl _ _⟩⟩
      | done
   case nextF =>
   intro w7 hb7
   have HR:=HRES.out w7 hb7
   clear hb7 HRES
   gi_wp2
   exact HR
 case stop =>
  rintro D c pre O W hD - ⟨rfl,⟨o0,o1,o2⟩,h0,h1,j,h2,hj,hjn⟩ hO hBO hOD hfr hK
  have hv:f j = inDay 2 wk n y m:=by
   obtain ⟨k,h1,h3,h4,h5⟩:=seek_spec (a:=a0) (st:=1) (wk:=wk) (by omega) hwk.1 hwk.2
   rcases Nat.lt_trichotomy j k with h | h | h
   ·exact absurd (by rw [HF.out] at hj;exact hj) (h5 j h)
   ·subst h
    rw [HF.out,← h3]
    have e:=HA.out
    unfold inDay
    simp
    rw [e]
   ·exact absurd (by rw [HF.out];exact h4) (hjn k h)
  have HV:=Lib.hid hv
  clear hv hj hjn
  have hsw:=hfr.size
  have hW:=HB5.out.1.trans (hfr.below hw5 (fun k hk h=>by rcases h with h | h <;> omega))
  have HBW:=Lib.hid hW
  have haW:Ahead W:=fun k hk=>by
   have h:=(ha.below HB5.out.1 (Nat.le_refl _)) k hk
   have hlt:=World.block_lt_of_cell? w _ (ha k hk)
   exact (hfr.cell (p:=⟨0,k,none⟩) (Nat.lt_of_lt_of_le hlt hw5) (fun h=>by rcases h with h | h <;> simp at h hlt <;> omega)).trans h
  have HOF:=Lib.hid (show Calls Tryz.prog 49 #[.int .i64 (f j)] W fun e w'=>e = .returned (.tuple #[ofA (f j),.int .i64 (ofE_ (f j))])∧Below W.heap.size W w' by
   unfold ofA ofE_ ofInB
   by_cases hin:-37243778 ≤ f j∧f j < 35805088
   ·simp only [hin,decide_true,if_true,and_self]
    exact of_any (f j) hin.1 hin.2 W haW
   ·simp only [hin,decide_false]
    exact of_out (f j) hin W)
  have q0:=h2.cell 0 (v:=.int .i64 (f j)) rfl
  obtain ⟨Y,M,D2,hofa⟩:∃ Y M D2,ofA (f j) = .agg #[.int .i64 Y,.int .i64 M,.int .i64 D2]:=by
   unfold ofA dateA
   split <;> exact ⟨_,_,_,rfl⟩
  rw [hofa] at HOF
  have HOA:=Lib.hid hofa
  obtain ⟨E,hE⟩:∃ E,ofE_ (f j) = E:=⟨_,rfl⟩
  rw [hE] at HOF
  have HE:=Lib.hid hE
  have H1:=Lib.hid h1
  have HK:=Lib.hid hK
  have hDW:D < W.heap.size:=(Array.getElem?_eq_some_iff.1 hK).1
  clear hofa hE h0 h1 h2 haW hW hfr hK HB5 HD5 hO hBO
  generalize f j = z at *
  gi_wp2
  refine ⟨trivial,(callsIn_wide.2 HOF.out).mono ?_⟩
  rintro e W6 ⟨rfl,hb6⟩
  have h6:=H1.out.below hb6 H1.out.lt
  have hK6:=(hb6.block D hDW).trans HK.out
  have HB6:=Lib.hid (HBW.out.trans (hb6.mono HBW.out.size))
  have r0:=h6.cell 0 (v:=.int .i64 0) rfl
  have r1:=h6.cell 1 (v:=.int .i64 0) rfl
  have r2:=h6.cell 2 (v:=.int .i64 0) rfl
  have g0:=h6.frozen 0
  have g1:=h6.frozen 1
  have g2:=h6.frozen 2
  have HR:=Lib.hid (((h6.set 0 (.int .i64 Y)).set 1 (.int .i64 M)).set 2 (.int .i64 D2))
  have HKD:=Lib.hid (show (((W6.setCell ⟨w.heap.size + 1,0,none⟩ (.int .i64 Y)).setCell ⟨w.heap.size + 1,1,none⟩ (.int .i64 M)).setCell ⟨w.heap.size + 1,2,none⟩ (.int .i64 D2)).heap[D]? = some (.deferred (some [])) from (fr_set3 (T:=fun k=>k = w.heap.size + 1) W6 rfl _ _ _).at_ hK6 (by omega))
  have HBL:=Lib.hid (below_set3 HB6.out (show w.heap.size ≤ w.heap.size + 1 by omega) (.int .i64 Y) (.int .i64 M) (.int .i64 D2))
  clear hb6 h6 hK6 HOF HK q0
  gi_wp2
  refine ⟨by simp,.inl ⟨_,_,rfl,run_takeDeferred HKD.out,?_⟩⟩
  have hres:Blk ((((W6.setCell ⟨w.heap.size + 1,0,none⟩ (.int .i64 Y)).setCell ⟨w.heap.size + 1,1,none⟩ (.int .i64 M)).setCell ⟨w.heap.size + 1,2,none⟩ (.int .i64 D2)).putObj D (.deferred none)) (w.heap.size + 1) 44 #[.int .i64 Y,.int .i64 M,.int .i64 D2]:=(World.putObj_heap_other (by omega)).trans HR.out
  have c0:=hres.cell 0 (v:=.int .i64 Y) rfl
  have c1:=hres.cell 1 (v:=.int .i64 M) rfl
  have c2:=hres.cell 2 (v:=.int .i64 D2) rfl
  refine ⟨.tuple #[.agg #[.int .i64 Y,.int .i64 M,.int .i64 D2],.int .i64 E],?_,⟨by rw [← HV.out,HOA.out,HE.out],fin_below HBL.out (by omega)⟩⟩
  simp [results,Tryz.f122,go_sem,c0,c1,c2]
 case done =>
  rintro D xs O W hD hS ⟨-,-,-,-,hs⟩
  exfalso
  obtain ⟨k,h1,-,h2,-⟩:=seek_spec (a:=a0) (st:=1) (wk:=wk) (by omega) (by omega) (by omega)
  exact hs k (by rw [hS];exact h1) (by rw [HF.out];exact h2)
theorem in_great (wk n y m:Int) (w:World) (ha:Ahead w) (h:inB 3 wk n y m = true) :
  Calls Tryz.prog 122 #[dayA 3 wk n,.int .i64 y,.int .i64 m] w fun e w'=>e = .returned (.tuple #[ofA (inDay 3 wk n y m),.int .i64 (ofE_ (inDay 3 wk n y m))])∧Below w.heap.size w w':=by
 unfold inB at h
 simp only [Bool.and_eq_true,decide_eq_true_eq] at h
 obtain ⟨⟨hok,hym⟩,hnl⟩:=h
 have hwk:0 ≤ wk∧wk < 7:=by
  have h:=hok
  unfold dayOkB at h
  rw [decide_eq_true_eq] at h
  omega
 have HL0:=show longV y m = (lenV y m,0) by unfold longV;rw [if_pos hym]
 unfold dayA
 refine (callsIn_wide (n:=8)).1 ?_
 refine callsIn_of_wp_marks Tryz.func122 rfl trivial ?_ rfl
 simp only [Tryz.ntmps122,List.size_toArray,List.length_cons,List.length_nil,Nat.reduceAdd,Nat.reduceSub,Array.replicate_succ,Array.replicate_zero,List.push_toArray,List.append_toArray,List.nil_append,List.cons_append]
 gi_wp2
 obtain ⟨W0,hW0⟩:∃ W,(w.alloc (.cells #[.int .i64 3,.int .i64 wk,.int .i64 n] 36)).alloc (.cells #[.int .i64 0,.int .i64 0,.int .i64 0] 44) = W:=⟨_,rfl⟩
 obtain ⟨b0,b1,hb0,hs0⟩:=blks2 w _ _ _ _ W0 hW0
 rw [hW0]
 clear hW0
 have HC:=Lib.hid (dfcheck_any 3 wk n W0)
 rw [if_pos hok] at HC
 have HB0:=Lib.hid (And.intro hb0 (And.intro b0 b1))
 have q0:=b0.cell 0 (v:=.int .i64 3) rfl
 have q1:=b0.cell 1 (v:=.int .i64 wk) rfl
 have q2:=b0.cell 2 (v:=.int .i64 n) rfl
 clear hb0 b0 b1
 unfold dayA at HC
 refine wpIn_scope ?_
 gi_wp2
 refine ⟨trivial,(callsIn_wide.2 HC.out).mono ?_⟩
 rintro e w1 ⟨rfl,hb⟩
 have HB1:=Lib.hid (show Below w.heap.size w w1∧Blk w1 w.heap.size 36 #[.int .i64 3,.int .i64 wk,.int .i64 n]∧Blk w1 (w.heap.size + 1) 44 #[.int .i64 0,.int .i64 0,.int .i64 0] from ⟨HB0.out.1.trans (hb.mono HB0.out.1.size),HB0.out.2.1.below hb HB0.out.2.1.lt,HB0.out.2.2.below hb HB0.out.2.2.lt⟩)
 clear hb HB0 HC q0 q1 q2
 have HL:=Lib.hid (long_any y m w1 (ha.below HB1.out.1 (Nat.le_refl _)))
 rw [HL0] at HL
 gi_wp2
 refine ⟨trivial,(callsIn_wide.2 HL.out).mono ?_⟩
 rintro e w2 ⟨rfl,q,rfl⟩
 have HB2:=Lib.hid (show Below w.heap.size w (w1.drewN q)∧Blk (w1.drewN q) w.heap.size 36 #[.int .i64 3,.int .i64 wk,.int .i64 n]∧Blk (w1.drewN q) (w.heap.size + 1) 44 #[.int .i64 0,.int .i64 0,.int .i64 0] from ⟨below_drewN HB1.out.1 q,HB1.out.2.1.drewN q,HB1.out.2.2.drewN q⟩)
 obtain ⟨W2,hW2⟩:∃ W,w1.drewN q = W:=⟨_,rfl⟩
 rw [hW2] at HB2 ⊢
 clear hW2 HL HB1
 have q0:=HB2.out.2.1.cell 0 (v:=.int .i64 3) rfl
 have q1:=HB2.out.2.1.cell 1 (v:=.int .i64 wk) rfl
 have q2:=HB2.out.2.1.cell 2 (v:=.int .i64 n) rfl
 have HD:=Lib.hid (days_any y m (n) W2 (ha.below HB2.out.1 (Nat.le_refl _)))
 have hdb:dateB y m (n) = true:=by
  unfold dateB
  rw [hym]
  unfold dayOkB at hok
  simp only [decide_eq_true_eq] at hok
  have hlen:=lenV_in (y:=y) (m:=m) (by unfold ymB at hym;rw [decide_eq_true_eq] at hym;exact hym.2.2.1) (by unfold ymB at hym;rw [decide_eq_true_eq] at hym;exact hym.2.2.2)
  simp
  omega
 rw [if_pos hdb] at HD
 have hdr:=dayV_in hdb
 obtain ⟨a0,ha0⟩:∃ a0,dayV y m (n) = a0:=⟨_,rfl⟩
 rw [ha0] at HD hdr
 have HA:=Lib.hid ha0
 clear ha0
 unfold dateA at HD
 gi_wp2
 refine ⟨trivial,(callsIn_wide.2 HD.out).mono ?_⟩
 rintro e w3 ⟨rfl,hb⟩
 have HB3:=Lib.hid (show Below w.heap.size w w3∧Blk w3 w.heap.size 36 #[.int .i64 3,.int .i64 wk,.int .i64 n]∧Blk w3 (w.heap.size + 1) 44 #[.int .i64 0,.int .i64 0,.int .i64 0] from ⟨HB2.out.1.trans (hb.mono HB2.out.1.size),HB2.out.2.1.below hb HB2.out.2.1.lt,HB2.out.2.2.below hb HB2.out.2.2.lt⟩)
 clear hb HB2 HD q0 q1 q2
 gi_wp2
 refine wpIn_label ?_
 have hsz:=HB3.out.2.2.lt
 have hb4:Below w.heap.size w (w3.alloc (.cells #[.int .i64 a0] 3)):=HB3.out.1.alloc HB3.out.1.size _
 have hf4:=Blk.new w3 3 #[.int .i64 a0]
 have HB4:=Lib.hid (show Below w.heap.size w (w3.alloc (.cells #[.int .i64 a0] 3))∧Blk (w3.alloc (.cells #[.int .i64 a0] 3)) w.heap.size 36 #[.int .i64 3,.int .i64 wk,.int .i64 n]∧Blk (w3.alloc (.cells #[.int .i64 a0] 3)) (w.heap.size + 1) 44 #[.int .i64 0,.int .i64 0,.int .i64 0]∧Blk (w3.alloc (.cells #[.int .i64 a0] 3)) w3.heap.size 3 #[.int .i64 a0] from ⟨hb4,HB3.out.2.1.alloc _,HB3.out.2.2.alloc _,hf4⟩)
 obtain ⟨W4,hW4⟩:∃ W,w3.alloc (.cells #[.int .i64 a0] 3) = W:=⟨_,rfl⟩
 rw [hW4] at HB4 ⊢
 have hs4:w3.heap.size < W4.heap.size:=by rw [← hW4];simp
 generalize w3.heap.size = fb at *
 clear hW4 hb4 hf4 HB3
 have HFM:=Lib.hid (from_any a0 (-1) W4)
 obtain ⟨f,hf⟩:∃ f:Nat→Int,∀ k,f k = a0 + (-1) * (k:Int):=⟨fun k=>a0 + (-1) * (k:Int),fun _=>rfl⟩
 have HF:=Lib.hid hf
 have hf0:f 0 = a0:=by rw [hf];simp
 have HF0:=Lib.hid hf0
 clear hf hf0
 gi_wp2
 refine ⟨trivial,(callsIn_wide.2 HFM.out).mono ?_⟩
 rintro e W5 ⟨rfl,hb5,hs5,hd5,hst5⟩
 have HB5:=Lib.hid (show Below w.heap.size w W5∧SeekI w.heap.size fb 3 wk n f [] (fun k=>k = w.heap.size∨k = w.heap.size + 1∨k = fb) W5 from ⟨HB4.out.1.trans (hb5.mono HB4.out.1.size),⟨.inl rfl,.inr (.inl rfl),.inr (.inr rfl)⟩,HB4.out.2.1.below hb5 HB4.out.2.1.lt,HB4.out.2.2.1.below hb5 HB4.out.2.2.1.lt,⟨a0,HB4.out.2.2.2.below hb5 HB4.out.2.2.2.lt⟩,fun j hj=>by simp at hj⟩)
 have HD5:=Lib.hid (And.intro hd5 hst5)
 have hw5:=HB5.out.1.size
 clear hb5 HB4 HFM hd5 hst5
 gi_wp2
 refine range_own_set (α:=Nat) rfl (by omega) (gf:=176) (lb:=#[.pointer (some ⟨W4.heap.size,0,none⟩),.pointer (some ⟨W4.heap.size + 1,0,none⟩)]) rfl trivial (enters_of Tryz.func176 (by kernel_rfl) rfl)
  (encs:=encD f) (K:=fun k=>k = W4.heap.size∨k = W4.heap.size + 1)
  (fun W hW=>from1_iter 7 (by omega) _ _ f (-1) W (fun k=>by rw [HF.out,HF.out];omega) (fun k hk=>by rw [HF.out];omega) (by omega) (by rw [HF0.out];exact HD5.out.1.below hW HD5.out.1.lt) (HD5.out.2.below hW HD5.out.2.lt) (by omega))
  (fun _=>rfl) (SeekI w.heap.size fb 3 wk n f) (SeekX w.heap.size fb 3 wk n f) (seekI_feet _ _ _ _ _ _) (seekX_feet _ _ _ _ _ _) (SeekP w.heap.size fb 3 wk n f) (seekP_feet _ _ _ _ _ _)
  (fun k=>k = w.heap.size∨k = w.heap.size + 1∨k = fb) HB5.out.2 (fun k hk=>by omega) (fun k hk=>by omega) (fun k hk h=>by omega) ?round ?done ?stop
 case round =>
  intro lp pre x O D W hI hBO hBD hDO hR nOl nDl hlow hltl
  obtain ⟨hnD,rfl,hx7⟩:=hR
  unfold encD
  obtain ⟨⟨o0,o1,o2⟩,h0,h1,⟨v,h2⟩,hs⟩:=hI
  have q0:=h2.cell 0 (v:=.int .i64 v) rfl
  have qf:=h2.frozen 0
  have HW:=Lib.hid (show (Fr O W (W.setCell ⟨fb,0,none⟩ (.int .i64 (f pre.length)))∧SeekP w.heap.size fb 3 wk n f pre pre.length O (W.setCell ⟨fb,0,none⟩ (.int .i64 (f pre.length))))∧Bd O W from ⟨⟨Fr.setCell W 0 _ o2,⟨o0,o1,o2⟩,h0.other (by omega) 0 _,h1.other (by omega) 0 _,h2.set 0 _,hs⟩,hBO⟩)
  clear h0 h1 h2 hs hBO hBD hDO
  gi_wp2
  refine ⟨HW.out.1,?_⟩
  intro Wb hfb hIb _
  have HBW:=Lib.hid ((HW.out.2.fr HW.out.1.1).fr hfb)
  have HIB:=Lib.hid hIb
  have HWK:=Lib.hid (fun W=>weekday_any (f pre.length) W)
  have HZ:=Lib.hid (show leftO (SeekI w.heap.size fb 3 wk n f) (SeekX w.heap.size fb 3 wk n f) (pre ++ [pre.length]) O D Wb = leftO (SeekI w.heap.size fb 3 wk n f) (SeekX w.heap.size fb 3 wk n f) (pre ++ [pre.length]) O D Wb from rfl)
  have HLF:=Lib.hid (show ∀ W,Below Wb.heap.size Wb W→(weekV (f pre.length) ≠ wk→leftO (SeekI w.heap.size fb 3 wk n f) (SeekX w.heap.size fb 3 wk n f) (pre ++ [pre.length]) O D Wb .normal ⟨#[],[]⟩ W)∧(weekV (f pre.length) = wk→leftO (SeekI w.heap.size fb 3 wk n f) (SeekX w.heap.size fb 3 wk n f) (pre ++ [pre.length]) O D Wb (.exit 1) ⟨#[],[]⟩ W) from fun W hbW=>by
   obtain ⟨oo,h0,h1,h2,hs⟩:=HIB.out
   have g0:=h0.below hbW h0.lt
   have g1:=h1.below hbW h1.lt
   have g2:=h2.below hbW h2.lt
   have hF:∀ T,Fr T Wb W:=fun T=>Fr.of_below hbW (Nat.le_refl _)
   refine ⟨fun hne=>⟨O,fun k h=>.inl h,HBW.out.fr (hF (fun _=>True)),hF _,oo,g0,g1,⟨_,g2⟩,fun j hj=>?_⟩,fun he=>⟨O,fun k h=>.inl h,HBW.out.fr (hF (fun _=>True)),hF _,rfl,oo,g0,g1,pre.length,g2,he,hs⟩⟩
   rw [List.length_append,List.length_singleton] at hj
   rcases Nat.lt_or_ge j pre.length with h | h
   ·exact hs j h
   ·rw [show j = pre.length by omega]
    exact hne)
  obtain ⟨-,h0,h1,h2,hs⟩:=hIb
  have q0:=h2.cell 0 (v:=.int .i64 (f pre.length)) rfl
  have q1:=h0.cell 1 (v:=.int .i64 wk) rfl
  have HQ:=Lib.hid (fun W (hb:Below Wb.heap.size Wb W)=>show W.cell? ⟨fb,0,none⟩ = some (.int .i64 (f pre.length))∧W.cell? ⟨w.heap.size,1,none⟩ = some (.int .i64 wk) from ⟨(h2.below hb h2.lt).cell 0 rfl,(h0.below hb h0.lt).cell 1 rfl⟩)
  clear h0 h1 h2 hs HW qf HB5 HD5
  generalize f pre.length = z at *
  generalize weekV z = wz at *
  by_cases hw:wz = wk
  ·have HRES:=Lib.hid (fun W hb=>(HLF.out W hb).2 hw)
   clear HLF
   have hw':=hw.symm
   subst hw'
   gi_wp2
   refine wpIn_env (fin:=?fnT) (wide1 lp) (by kernel_rfl) [65,66,67,68,69]
    [.int .i64 z,.int .i64 wk,.pointer (some ⟨w.heap.size,1,none⟩),.int .i64 wk,.bool true] (by kernel_rfl) ?finT ?stepsT ?nextT
   case finT =>
    simp only [putAll,Act.put,List.setIfInBounds_toArray,List.set_cons_succ,List.set_cons_zero]
    rfl
   case stepsT =>
    refine ⟨?_,?_,?_,?_,?_,trivial⟩
    all_goals refine .inr ⟨by kernel_rfl,fun w1_ hB_=>?_⟩
    all_goals
     obtain ⟨c0,c1⟩:=HQ.out w1_ hB_
     clear hB_
     go_simp
     first
      | exact ⟨rfl,Below.refl _ _⟩
      | exact ⟨rfl,(HWK.out w1_).mono fun e w' h=>⟨h.1,by rw [h.2];exact Below.refl _ _⟩⟩
      | done
   case nextT =>
   intro w7 hb7
   have HR:=HRES.out w7 hb7
   clear hb7 HRES
   gi_wp2
   exact HR
  ·have HRES:=Lib.hid (fun W hb=>(HLF.out W hb).1 hw)
   have hw2:(wz == wk) = false:=by simpa using hw
   clear HLF
   gi_wp2
   refine wpIn_env (fin:=?fnF) (wide1 lp) (by kernel_rfl) [65,66,67,68,69]
    [.int .i64 z,.int .i64 wz,.pointer (some ⟨w.heap.size,1,none⟩),.int .i64 wk,.bool false] (by kernel_rfl) ?finF ?stepsF ?nextF
   case finF =>
    simp only [putAll,Act.put,List.setIfInBounds_toArray,List.set_cons_succ,List.set_cons_zero]
    rfl
   case stepsF =>
    refine ⟨?_,?_,?_,?_,?_,trivial⟩
    all_goals refine .inr ⟨by kernel_rfl,fun w1_ hB_=>?_⟩
    all_goals
     obtain ⟨c0,c1⟩:=HQ.out w1_ hB_
     clear hB_
     go_simp
     first
      | exact ⟨rfl,Below.refl _ _⟩
      | exact ⟨rfl,(HWK.out w1_).mono fun e w' h=>⟨h.1,by rw [h.2];exact Below.refl _ _⟩⟩
      | done
   case nextF =>
   intro w7 hb7
   have HR:=HRES.out w7 hb7
   clear hb7 HRES
   gi_wp2
   exact HR
 case stop =>
  rintro D c pre O W hD - ⟨rfl,⟨o0,o1,o2⟩,h0,h1,j,h2,hj,hjn⟩ hO hBO hOD hfr hK
  have hv:f j = inDay 3 wk n y m:=by
   obtain ⟨k,h1,h3,h4,h5⟩:=seek_spec (a:=a0) (st:=-1) (wk:=wk) (by omega) hwk.1 hwk.2
   rcases Nat.lt_trichotomy j k with h | h | h
   ·exact absurd (by rw [HF.out] at hj;exact hj) (h5 j h)
   ·subst h
    rw [HF.out,← h3]
    have e:=HA.out
    unfold inDay
    simp
    rw [e]
   ·exact absurd (by rw [HF.out];exact h4) (hjn k h)
  have HV:=Lib.hid hv
  clear hv hj hjn
  have hsw:=hfr.size
  have hW:=HB5.out.1.trans (hfr.below hw5 (fun k hk h=>by rcases h with h | h <;> omega))
  have HBW:=Lib.hid hW
  have haW:Ahead W:=fun k hk=>by
   have h:=(ha.below HB5.out.1 (Nat.le_refl _)) k hk
   have hlt:=World.block_lt_of_cell? w _ (ha k hk)
   exact (hfr.cell (p:=⟨0,k,none⟩) (Nat.lt_of_lt_of_le hlt hw5) (fun h=>by rcases h with h | h <;> simp at h hlt <;> omega)).trans h
  have HOF:=Lib.hid (show Calls Tryz.prog 49 #[.int .i64 (f j)] W fun e w'=>e = .returned (.tuple #[ofA (f j),.int .i64 (ofE_ (f j))])∧Below W.heap.size W w' by
   unfold ofA ofE_ ofInB
   by_cases hin:-37243778 ≤ f j∧f j < 35805088
   ·simp only [hin,decide_true,if_true,and_self]
    exact of_any (f j) hin.1 hin.2 W haW
   ·simp only [hin,decide_false]
    exact of_out (f j) hin W)
  have q0:=h2.cell 0 (v:=.int .i64 (f j)) rfl
  obtain ⟨Y,M,D2,hofa⟩:∃ Y M D2,ofA (f j) = .agg #[.int .i64 Y,.int .i64 M,.int .i64 D2]:=by
   unfold ofA dateA
   split <;> exact ⟨_,_,_,rfl⟩
  rw [hofa] at HOF
  have HOA:=Lib.hid hofa
  obtain ⟨E,hE⟩:∃ E,ofE_ (f j) = E:=⟨_,rfl⟩
  rw [hE] at HOF
  have HE:=Lib.hid hE
  have H1:=Lib.hid h1
  have HK:=Lib.hid hK
  have hDW:D < W.heap.size:=(Array.getElem?_eq_some_iff.1 hK).1
  clear hofa hE h0 h1 h2 haW hW hfr hK HB5 HD5 hO hBO
  generalize f j = z at *
  gi_wp2
  refine ⟨trivial,(callsIn_wide.2 HOF.out).mono ?_⟩
  rintro e W6 ⟨rfl,hb6⟩
  have h6:=H1.out.below hb6 H1.out.lt
  have hK6:=(hb6.block D hDW).trans HK.out
  have HB6:=Lib.hid (HBW.out.trans (hb6.mono HBW.out.size))
  have r0:=h6.cell 0 (v:=.int .i64 0) rfl
  have r1:=h6.cell 1 (v:=.int .i64 0) rfl
  have r2:=h6.cell 2 (v:=.int .i64 0) rfl
  have g0:=h6.frozen 0
  have g1:=h6.frozen 1
  have g2:=h6.frozen 2
  have HR:=Lib.hid (((h6.set 0 (.int .i64 Y)).set 1 (.int .i64 M)).set 2 (.int .i64 D2))
  have HKD:=Lib.hid (show (((W6.setCell ⟨w.heap.size + 1,0,none⟩ (.int .i64 Y)).setCell ⟨w.heap.size + 1,1,none⟩ (.int .i64 M)).setCell ⟨w.heap.size + 1,2,none⟩ (.int .i64 D2)).heap[D]? = some (.deferred (some [])) from (fr_set3 (T:=fun k=>k = w.heap.size + 1) W6 rfl _ _ _).at_ hK6 (by omega))
  have HBL:=Lib.hid (below_set3 HB6.out (show w.heap.size ≤ w.heap.size + 1 by omega) (.int .i64 Y) (.int .i64 M) (.int .i64 D2))
  clear hb6 h6 hK6 HOF HK q0
  gi_wp2
  refine ⟨by simp,.inl ⟨_,_,rfl,run_takeDeferred HKD.out,?_⟩⟩
  have hres:Blk ((((W6.setCell ⟨w.heap.size + 1,0,none⟩ (.int .i64 Y)).setCell ⟨w.heap.size + 1,1,none⟩ (.int .i64 M)).setCell ⟨w.heap.size + 1,2,none⟩ (.int .i64 D2)).putObj D (.deferred none)) (w.heap.size + 1) 44 #[.int .i64 Y,.int .i64 M,.int .i64 D2]:=(World.putObj_heap_other (by omega)).trans HR.out
  have c0:=hres.cell 0 (v:=.int .i64 Y) rfl
  have c1:=hres.cell 1 (v:=.int .i64 M) rfl
  have c2:=hres.cell 2 (v:=.int .i64 D2) rfl
  refine ⟨.tuple #[.agg #[.int .i64 Y,.int .i64 M,.int .i64 D2],.int .i64 E],?_,⟨by rw [← HV.out,HOA.out,HE.out],fin_below HBL.out (by omega)⟩⟩
  simp [results,Tryz.f122,go_sem,c0,c1,c2]
 case done =>
  rintro D xs O W hD hS ⟨-,-,-,-,hs⟩
  exfalso
  obtain ⟨k,h1,-,h2,-⟩:=seek_spec (a:=a0) (st:=-1) (wk:=wk) (by omega) (by omega) (by omega)
  exact hs k (by rw [hS];exact h1) (by rw [HF.out];exact h2)
def inA (k wk n y m:Int):Value:=if inB k wk n y m then (if k = 0 then dateA y m n else ofA (inDay k wk n y m)) else dateA 0 0 0
def inE (k wk n y m:Int):Int:=if inB k wk n y m then (if k = 0 then 0 else ofE_ (inDay k wk n y m)) else 10
end
section -- CivilG
open Go Go.RowKit Go.Shelf
theorem in_any (k wk n y m:Int) (w:World) (ha:Ahead w) :
  Calls Tryz.prog 122 #[dayA k wk n,.int .i64 y,.int .i64 m] w fun e w'=>e = .returned (.tuple #[inA k wk n y m,.int .i64 (inE k wk n y m)])∧Below w.heap.size w w':=by
 have HB0:=Lib.hid (show Below w.heap.size w ((w.alloc (.cells #[.int .i64 k,.int .i64 wk,.int .i64 n] 36)).alloc (.cells #[.int .i64 0,.int .i64 0,.int .i64 0] 44)) from ((Below.refl _ _).alloc (Nat.le_refl _) _).alloc (by simp) _)
 have b0:=(Blk.new w 36 #[.int .i64 k,.int .i64 wk,.int .i64 n]).alloc (.cells #[.int .i64 0,.int .i64 0,.int .i64 0] 44)
 have b1:=Blk.new (w.alloc (.cells #[.int .i64 k,.int .i64 wk,.int .i64 n] 36)) 44 #[.int .i64 0,.int .i64 0,.int .i64 0]
 rw [World.size_alloc] at b1
 have q0:=b0.cell 0 (v:=.int .i64 k) rfl
 have q1:=b0.cell 1 (v:=.int .i64 wk) rfl
 have q2:=b0.cell 2 (v:=.int .i64 n) rfl
 have HI:=Lib.hid (And.intro b0 b1)
 clear b0 b1
 have HC:=Lib.hid (dfcheck_any k wk n ((w.alloc (.cells #[.int .i64 k,.int .i64 wk,.int .i64 n] 36)).alloc (.cells #[.int .i64 0,.int .i64 0,.int .i64 0] 44)))
 cases hok:dayOkB k wk n with
 | false =>
   have e1:inA k wk n y m = dateA 0 0 0:=by unfold inA inB;rw [hok];rfl
   have e2:inE k wk n y m = 10:=by unfold inE inB;rw [hok];rfl
   rw [e1,e2]
   rw [hok] at HC
   simp only [Bool.false_eq_true,if_false] at HC
   unfold dayA at *
   clear hok e1 e2
   go_enter Tryz.func122,Tryz.ntmps122
   go_wp2_with fail
   go_step3
   go_wp2_with fail
   refine (HC.out).mono ?_
   rintro e w1 ⟨rfl,hb⟩
   have h1:=HI.out.2.below hb HI.out.2.lt
   have h0:=HI.out.1.below hb HI.out.1.lt
   have HB1:=Lib.hid (HB0.out.trans (hb.mono HB0.out.size))
   have r0:=h1.cell 0 (v:=.int .i64 0) rfl
   have r1:=h1.cell 1 (v:=.int .i64 0) rfl
   have r2:=h1.cell 2 (v:=.int .i64 0) rfl
   have g0:=h1.frozen 0
   have g1:=h1.frozen 1
   have g2:=h1.frozen 2
   have q0:=h0.cell 0 (v:=.int .i64 k) rfl
   have q2:=h0.cell 2 (v:=.int .i64 n) rfl
   have H1:=Lib.hid h1
   clear hb h0 h1 HC
   go_wp2_with fail
   have HW:=((H1.out.set 0 (.int .i64 0)).set 1 (.int .i64 0)).set 2 (.int .i64 0)
   try rw [Exit.noGoto_ret]
   have w0:=HW.cell 0 (v:=.int .i64 (0)) rfl
   have w1_:=HW.cell 1 (v:=.int .i64 (0)) rfl
   have w2_:=HW.cell 2 (v:=.int .i64 (0)) rfl
   refine bodyPost_ret (v:=.tuple #[dateA (0) (0) (0),.int .i64 (10)]) ?_ rfl ⟨rfl,below_set3 HB1.out (by omega) _ _ _⟩
   simp [results,Tryz.f122,go_sem,dateA,w0,w1_,w2_]
 | true =>
   have HOK:=Lib.hid hok
   rw [hok] at HC
   simp only [if_true] at HC
   cases hym:ymB y m with
   | false =>
     have e1:inA k wk n y m = dateA 0 0 0:=by unfold inA inB;rw [hok,hym];rfl
     have e2:inE k wk n y m = 10:=by unfold inE inB;rw [hok,hym];rfl
     have HLV:=Lib.hid (show longV y m = (0,10) by unfold longV;rw [hym];rfl)
     rw [e1,e2]
     unfold dayA at *
     clear hok hym e1 e2
     go_enter Tryz.func122,Tryz.ntmps122
     go_wp2_with fail
     go_step3
     go_wp2_with fail
     refine (HC.out).mono ?_
     rintro e w1 ⟨rfl,hb⟩
     have h1:=HI.out.2.below hb HI.out.2.lt
     have h0:=HI.out.1.below hb HI.out.1.lt
     have HB1:=Lib.hid (HB0.out.trans (hb.mono HB0.out.size))
     have r0:=h1.cell 0 (v:=.int .i64 0) rfl
     have r1:=h1.cell 1 (v:=.int .i64 0) rfl
     have r2:=h1.cell 2 (v:=.int .i64 0) rfl
     have g0:=h1.frozen 0
     have g1:=h1.frozen 1
     have g2:=h1.frozen 2
     have q0:=h0.cell 0 (v:=.int .i64 k) rfl
     have q2:=h0.cell 2 (v:=.int .i64 n) rfl
     have H1:=Lib.hid h1
     clear hb h0 h1 HC
     have HL:=Lib.hid (long_any y m w1 (ha.below HB1.out (Nat.le_refl _)))
     go_wp2_with fail
     refine (HL.out).mono ?_
     rintro e w2 ⟨rfl,q,rfl⟩
     rw [HLV.out]
     have q0:(w1.drewN q).cell? ⟨w.heap.size,0,none⟩ = some (.int .i64 k):=q0
     have q2:(w1.drewN q).cell? ⟨w.heap.size,2,none⟩ = some (.int .i64 n):=q2
     have r0:(w1.drewN q).cell? ⟨w.heap.size + 1,0,none⟩ = some (.int .i64 0):=r0
     have r1:(w1.drewN q).cell? ⟨w.heap.size + 1,1,none⟩ = some (.int .i64 0):=r1
     have r2:(w1.drewN q).cell? ⟨w.heap.size + 1,2,none⟩ = some (.int .i64 0):=r2
     have g0:(w1.drewN q).frozen? ⟨w.heap.size + 1,0,none⟩ = false:=g0
     have g1:(w1.drewN q).frozen? ⟨w.heap.size + 1,1,none⟩ = false:=g1
     have g2:(w1.drewN q).frozen? ⟨w.heap.size + 1,2,none⟩ = false:=g2
     have H2:=Lib.hid (H1.out.drewN q)
     have HB2:=Lib.hid (below_drewN HB1.out q)
     clear HL
     go_wp2_with fail
     have HW:=((H2.out.set 0 (.int .i64 0)).set 1 (.int .i64 0)).set 2 (.int .i64 0)
     try rw [Exit.noGoto_ret]
     have w0:=HW.cell 0 (v:=.int .i64 (0)) rfl
     have w1_:=HW.cell 1 (v:=.int .i64 (0)) rfl
     have w2_:=HW.cell 2 (v:=.int .i64 (0)) rfl
     refine bodyPost_ret (v:=.tuple #[dateA (0) (0) (0),.int .i64 (10)]) ?_ rfl ⟨rfl,below_set3 HB2.out (by omega) _ _ _⟩
     simp [results,Tryz.f122,go_sem,dateA,w0,w1_,w2_]
   | true =>
     have HLV:=Lib.hid (show longV y m = (lenV y m,0) by unfold longV;rw [hym];rfl)
     by_cases hn:n ≤ lenV y m
     ·by_cases h0:k = 0
      ·have e1:inA k wk n y m = dateA y m n:=by unfold inA inB;rw [hok,hym,decide_eq_true hn];simp [h0]
       have e2:inE k wk n y m = 0:=by unfold inE inB;rw [hok,hym,decide_eq_true hn];simp [h0]
       rw [e1,e2]
       subst h0
       unfold dayA at *
       clear hok hym e1 e2
       generalize lenV y m = l at *
       go_enter Tryz.func122,Tryz.ntmps122
       go_wp2_with fail
       go_step3
       go_wp2_with fail
       refine (HC.out).mono ?_
       rintro e w1 ⟨rfl,hb⟩
       have h1:=HI.out.2.below hb HI.out.2.lt
       have h0:=HI.out.1.below hb HI.out.1.lt
       have HB1:=Lib.hid (HB0.out.trans (hb.mono HB0.out.size))
       have r0:=h1.cell 0 (v:=.int .i64 0) rfl
       have r1:=h1.cell 1 (v:=.int .i64 0) rfl
       have r2:=h1.cell 2 (v:=.int .i64 0) rfl
       have g0:=h1.frozen 0
       have g1:=h1.frozen 1
       have g2:=h1.frozen 2
       have q0:=h0.cell 0 (v:=.int .i64 0) rfl
       have q2:=h0.cell 2 (v:=.int .i64 n) rfl
       have H1:=Lib.hid h1
       clear hb h0 h1 HC
       have HL:=Lib.hid (long_any y m w1 (ha.below HB1.out (Nat.le_refl _)))
       go_wp2_with fail
       refine (HL.out).mono ?_
       rintro e w2 ⟨rfl,q,rfl⟩
       rw [HLV.out]
       have q0:(w1.drewN q).cell? ⟨w.heap.size,0,none⟩ = some (.int .i64 0):=q0
       have q2:(w1.drewN q).cell? ⟨w.heap.size,2,none⟩ = some (.int .i64 n):=q2
       have r0:(w1.drewN q).cell? ⟨w.heap.size + 1,0,none⟩ = some (.int .i64 0):=r0
       have r1:(w1.drewN q).cell? ⟨w.heap.size + 1,1,none⟩ = some (.int .i64 0):=r1
       have r2:(w1.drewN q).cell? ⟨w.heap.size + 1,2,none⟩ = some (.int .i64 0):=r2
       have g0:(w1.drewN q).frozen? ⟨w.heap.size + 1,0,none⟩ = false:=g0
       have g1:(w1.drewN q).frozen? ⟨w.heap.size + 1,1,none⟩ = false:=g1
       have g2:(w1.drewN q).frozen? ⟨w.heap.size + 1,2,none⟩ = false:=g2
       have H2:=Lib.hid (H1.out.drewN q)
       have HB2:=Lib.hid (below_drewN HB1.out q)
       clear HL
       go_wp2_with fail
       have HW:=((H2.out.set 0 (.int .i64 y)).set 1 (.int .i64 m)).set 2 (.int .i64 n)
       try rw [Exit.noGoto_ret]
       have w0:=HW.cell 0 (v:=.int .i64 (y)) rfl
       have w1_:=HW.cell 1 (v:=.int .i64 (m)) rfl
       have w2_:=HW.cell 2 (v:=.int .i64 (n)) rfl
       refine bodyPost_ret (v:=.tuple #[dateA (y) (m) (n),.int .i64 (0)]) ?_ rfl ⟨rfl,below_set3 HB2.out (by omega) _ _ _⟩
       simp [results,Tryz.f122,go_sem,dateA,w0,w1_,w2_]
      ·have hB:inB k wk n y m = true:=by unfold inB;rw [hok,hym,decide_eq_true hn];rfl
       have e1:inA k wk n y m = ofA (inDay k wk n y m):=by unfold inA;rw [if_pos hB,if_neg h0]
       have e2:inE k wk n y m = ofE_ (inDay k wk n y m):=by unfold inE;rw [if_pos hB,if_neg h0]
       rw [e1,e2]
       have hk:k = 1∨k = 2∨k = 3:=by
        unfold dayOkB at hok
        rw [decide_eq_true_eq] at hok
        omega
       clear HI HB0 HC HOK HLV q0 q1 q2 e1 e2
       rcases hk with rfl | rfl | rfl
       ·exact in_last wk n y m w ha hB
       ·exact in_less wk n y m w ha hB
       ·exact in_great wk n y m w ha hB
     ·have e1:inA k wk n y m = dateA 0 0 0:=by unfold inA inB;rw [hok,hym,decide_eq_false hn];rfl
      have e2:inE k wk n y m = 10:=by unfold inE inB;rw [hok,hym,decide_eq_false hn];rfl
      rw [e1,e2]
      unfold dayA at *
      clear hok hym e1 e2
      generalize lenV y m = l at *
      go_enter Tryz.func122,Tryz.ntmps122
      go_wp2_with fail
      go_step3
      go_wp2_with fail
      refine (HC.out).mono ?_
      rintro e w1 ⟨rfl,hb⟩
      have h1:=HI.out.2.below hb HI.out.2.lt
      have h0:=HI.out.1.below hb HI.out.1.lt
      have HB1:=Lib.hid (HB0.out.trans (hb.mono HB0.out.size))
      have r0:=h1.cell 0 (v:=.int .i64 0) rfl
      have r1:=h1.cell 1 (v:=.int .i64 0) rfl
      have r2:=h1.cell 2 (v:=.int .i64 0) rfl
      have g0:=h1.frozen 0
      have g1:=h1.frozen 1
      have g2:=h1.frozen 2
      have q0:=h0.cell 0 (v:=.int .i64 k) rfl
      have q2:=h0.cell 2 (v:=.int .i64 n) rfl
      have H1:=Lib.hid h1
      clear hb h0 h1 HC
      have HL:=Lib.hid (long_any y m w1 (ha.below HB1.out (Nat.le_refl _)))
      go_wp2_with fail
      refine (HL.out).mono ?_
      rintro e w2 ⟨rfl,q,rfl⟩
      rw [HLV.out]
      have q0:(w1.drewN q).cell? ⟨w.heap.size,0,none⟩ = some (.int .i64 k):=q0
      have q2:(w1.drewN q).cell? ⟨w.heap.size,2,none⟩ = some (.int .i64 n):=q2
      have r0:(w1.drewN q).cell? ⟨w.heap.size + 1,0,none⟩ = some (.int .i64 0):=r0
      have r1:(w1.drewN q).cell? ⟨w.heap.size + 1,1,none⟩ = some (.int .i64 0):=r1
      have r2:(w1.drewN q).cell? ⟨w.heap.size + 1,2,none⟩ = some (.int .i64 0):=r2
      have g0:(w1.drewN q).frozen? ⟨w.heap.size + 1,0,none⟩ = false:=g0
      have g1:(w1.drewN q).frozen? ⟨w.heap.size + 1,1,none⟩ = false:=g1
      have g2:(w1.drewN q).frozen? ⟨w.heap.size + 1,2,none⟩ = false:=g2
      have H2:=Lib.hid (H1.out.drewN q)
      have HB2:=Lib.hid (below_drewN HB1.out q)
      clear HL
      go_wp2_with fail
      have HW:=((H2.out.set 0 (.int .i64 0)).set 1 (.int .i64 0)).set 2 (.int .i64 0)
      try rw [Exit.noGoto_ret]
      have w0:=HW.cell 0 (v:=.int .i64 (0)) rfl
      have w1_:=HW.cell 1 (v:=.int .i64 (0)) rfl
      have w2_:=HW.cell 2 (v:=.int .i64 (0)) rfl
      refine bodyPost_ret (v:=.tuple #[dateA (0) (0) (0),.int .i64 (10)]) ?_ rfl ⟨rfl,below_set3 HB2.out (by omega) _ _ _⟩
      simp [results,Tryz.f122,go_sem,dateA,w0,w1_,w2_]
def mayB (s:Int):Bool:=decide (-604800 < s∧s < 604800)
theorem may_any (s:Int) (w:World):Calls Tryz.prog 125 #[.int .i64 s] w fun e w'=>e = .returned (.bool (mayB s))∧w' = w:=by
 by_cases h1:-604800 < s
 ·by_cases h2:s < 604800
  ·have HV:=Lib.hid (show mayB s = true by unfold mayB;rw [decide_eq_true_eq];omega)
   go_enter Tryz.func125,Tryz.ntmps125
   go_wp2_with fail
   go_ret
   exact ⟨by rw [HV.out];rfl,rfl⟩
  ·have HV:=Lib.hid (show mayB s = false by unfold mayB;rw [decide_eq_false_iff_not];omega)
   have hd:decide (s < 604800) = false:=decide_eq_false h2
   go_enter Tryz.func125,Tryz.ntmps125
   go_wp2_with fail
   go_ret
   exact ⟨by rw [HV.out];rfl,rfl⟩
 ·have HV:=Lib.hid (show mayB s = false by unfold mayB;rw [decide_eq_false_iff_not];omega)
  have hd:decide (-604800 < s) = false:=decide_eq_false h1
  go_enter Tryz.func125,Tryz.ntmps125
  go_wp2_with fail
  go_ret
  exact ⟨by rw [HV.out];rfl,rfl⟩
theorem join_any (y m d s:Int) (w:World) (ha:Ahead w) :
  Calls Tryz.prog 92 #[dateA y m d,.int .i64 s] w fun e w'=>e = .returned (if dateB y m d && mayB s then .tuple #[.int .i64 (dayV y m d * 86400 + s),.int .i64 0] else .tuple #[.int .i64 0,.int .i64 10])∧Below w.heap.size w w':=by
 have HB0:=Lib.hid ((Below.refl w.heap.size w).alloc (Nat.le_refl _) (.cells #[.int .i64 y,.int .i64 m,.int .i64 d] 44))
 have HD:=Lib.hid (days_any y m d (w.alloc (.cells #[.int .i64 y,.int .i64 m,.int .i64 d] 44)) (ha.below HB0.out (Nat.le_refl _)))
 have HM:=Lib.hid (fun W=>may_any s W)
 unfold dateA at *
 cases h:dateB y m d with
 | false =>
   rw [h] at HD
   simp only [Bool.false_and,Bool.false_eq_true,if_false] at HD ⊢
   clear h
   go_enter Tryz.func92,Tryz.ntmps92
   go_wp2_with fail
   refine HD.out.mono ?_
   rintro e w1 ⟨rfl,hb⟩
   have HB1:=Lib.hid (HB0.out.trans (hb.mono HB0.out.size))
   clear hb
   go_wp2_with fail
   refine bodyPost_ret (v:=.tuple #[.int .i64 0,.int .i64 10]) ?_ rfl ⟨rfl,HB1.out⟩
   simp [results,Tryz.f92,go_sem]
 | true =>
   rw [h] at HD
   have hr:=dayV_in h
   simp only [Bool.true_and,if_true] at HD ⊢
   clear h
   generalize dayV y m d = v at *
   cases hs:mayB s with
   | false =>
     rw [hs] at HM
     simp only [Bool.false_eq_true,if_false]
     clear hs
     go_enter Tryz.func92,Tryz.ntmps92
     go_wp2_with fail
     refine HD.out.mono ?_
     rintro e w1 ⟨rfl,hb⟩
     have HB1:=Lib.hid (HB0.out.trans (hb.mono HB0.out.size))
     clear hb
     go_wp2_with fail
     refine (HM.out _).mono ?_
     rintro e w2 ⟨rfl,rfl⟩
     go_wp2_with fail
     refine bodyPost_ret (v:=.tuple #[.int .i64 0,.int .i64 10]) ?_ rfl ⟨rfl,HB1.out⟩
     simp [results,Tryz.f92,go_sem]
   | true =>
     rw [hs] at HM
     have hs2:=hs
     unfold mayB at hs2
     rw [decide_eq_true_eq] at hs2
     simp only [if_true]
     clear hs
     go_enter Tryz.func92,Tryz.ntmps92
     go_wp2_with fail
     refine HD.out.mono ?_
     rintro e w1 ⟨rfl,hb⟩
     have HB1:=Lib.hid (HB0.out.trans (hb.mono HB0.out.size))
     clear hb
     go_wp2_with fail
     refine (HM.out _).mono ?_
     rintro e w2 ⟨rfl,rfl⟩
     go_wp2_with fail
     refine bodyPost_ret (v:=.tuple #[.int .i64 (v * 86400 + s),.int .i64 0]) ?_ rfl ⟨rfl,HB1.out⟩
     simp [results,Tryz.f92,go_sem]
end
section -- Srt
section
variable {α:Type} (key:α→Int)
def Stab (xs ys:List α):Prop:=ys.Perm xs∧ys.Pairwise (fun a b=>key a ≤ key b)∧∀ k:Int,ys.filter (fun a=>decide (key a = k)) = xs.filter (fun a=>decide (key a = k))
variable {key}
theorem Stab.nil:Stab key ([]:List α) []:=⟨.nil,.nil,fun _=>rfl⟩
theorem Stab.one (x:α):Stab key [x] [x]:=⟨.refl _,by simp,fun _=>rfl⟩
theorem Stab.len {xs ys:List α} (h:Stab key xs ys):ys.length = xs.length:=h.1.length_eq
theorem Stab.put {xs A B:List α} {x:α} (h:Stab key xs (A ++ B)) (hA:∀ a ∈ A,key a ≤ key x) (hB:∀ b ∈ B,key x < key b):Stab key (xs ++ [x]) (A ++ x :: B):=by
 obtain ⟨h1,h2,h3⟩:=h
 refine ⟨?_,?_,fun k=>?_⟩
 ·refine List.perm_middle.trans ?_
  refine (List.Perm.cons x h1).trans ?_
  exact (List.perm_append_singleton x xs).symm
 ·rw [List.pairwise_append] at h2 ⊢
  refine ⟨h2.1,List.pairwise_cons.2 ⟨fun b hb=>Int.le_of_lt (hB b hb),h2.2.1⟩,fun a ha b hb=>?_⟩
  rcases List.mem_cons.1 hb with rfl | hb
  ·exact hA a ha
  ·exact h2.2.2 a ha b hb
 ·have h4:=h3 k
  rw [List.filter_append] at h4 ⊢
  rw [List.filter_append,← h4,List.filter_cons]
  by_cases hk:key x = k
  ·have hB0:B.filter (fun a=>decide (key a = k)) = []:=by
    rw [List.filter_eq_nil_iff]
    intro b hb
    have:=hB b hb
    simp only [decide_eq_true_eq]
    omega
   rw [hB0]
   simp [hk]
  ·simp [hk]
theorem stab_unique:∀ {ys zs:List α},ys.Pairwise (fun a b=>key a ≤ key b)→zs.Pairwise (fun a b=>key a ≤ key b)→(∀ k:Int,ys.filter (fun a=>decide (key a = k)) = zs.filter (fun a=>decide (key a = k)))→ys = zs
 | [],[],_,_,_=>rfl
 | [],z :: zs,_,_,h=>by
   have:=h (key z)
   simp at this
 | y :: ys,[],_,_,h=>by
   have:=h (key y)
   simp at this
 | y :: ys,z :: zs,h1,h2,h=>by
   have hyz:key y = key z:=by
    have a:key y ≤ key z:=by
     have:z ∈ (y :: ys).filter (fun a=>decide (key a = key z)):=by rw [h (key z)];simp
     have:=(List.mem_filter.1 this).1
     rcases List.mem_cons.1 this with e | e
     ·rw [e];exact Int.le_refl _
     ·exact (List.pairwise_cons.1 h1).1 z e
    have b:key z ≤ key y:=by
     have:y ∈ (z :: zs).filter (fun a=>decide (key a = key y)):=by rw [← h (key y)];simp
     have:=(List.mem_filter.1 this).1
     rcases List.mem_cons.1 this with e | e
     ·rw [e];exact Int.le_refl _
     ·exact (List.pairwise_cons.1 h2).1 y e
    omega
   have e:=h (key y)
   rw [List.filter_cons,List.filter_cons,if_pos (by simp),if_pos (by simp [hyz])] at e
   injection e with e1 e2
   subst e1
   congr 1
   refine stab_unique (List.pairwise_cons.1 h1).2 (List.pairwise_cons.1 h2).2 fun k=>?_
   have e:=h k
   rw [List.filter_cons,List.filter_cons] at e
   by_cases hk:key y = k
   ·rw [if_pos (by simp [hk]),if_pos (by simp [hk])] at e
    injection e
   ·rw [if_neg (by simp [hk]),if_neg (by simp [hk])] at e
    exact e
theorem Stab.unique {xs ys zs:List α} (h1:Stab key xs ys) (h2:Stab key xs zs):ys = zs:=stab_unique h1.2.1 h2.2.1 fun k=>(h1.2.2 k).trans (h2.2.2 k).symm
theorem take_le {L:List α} (hs:L.Pairwise (fun a b=>key a ≤ key b)) {s:Nat} (h:s < L.length):∀ l ∈ L.take (s + 1),key l ≤ key L[s]:=by
 intro l hl
 obtain ⟨i,hi,rfl⟩:=List.mem_take_iff_getElem.1 hl
 rcases Nat.lt_or_ge i s with h1 | h1
 ·exact List.pairwise_iff_getElem.1 hs i s (by omega) h h1
 ·have:i = s:=by omega
  subst this
  exact Int.le_refl _
end
end
end Go.Proofs.YteekjfgjmccdnaaGreatDoor
