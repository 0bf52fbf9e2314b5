/-
  Layer 13's check of any era, walked.
-/
import Derived.ProofKit
import Derived.OpenShut
import Derived.ShutString
import Derived.ChangeOld
import Derived.Below
import Derived.Deep.Slices
import Derived.Deep.Strs
import Derived.ChangeSame
import Derived.Lib.SmallJoins
import Derived.Test.YteekjfgjmccdnaaGreatDoorZu6
set_option maxHeartbeats 16000000
set_option maxRecDepth 100000
namespace Go.Proofs.YteekjfgjmccdnaaGreatDoor
section -- Ref
open Go Go.RowKit Go.Shelf
theorem rleap_any (y:Int) (w:World) :
  Calls Tryz.prog 132 #[.int .i64 y] w fun e w'=>e = .returned (.bool (leapB y))∧w' = w:=by
 have z4:=tmod_zero y 4
 have z1:=tmod_zero y 100
 have z0:=tmod_zero y 400
 by_cases h4:y.tmod 4 = 0
 ·by_cases h1:y.tmod 100 = 0
  ·by_cases h0:y.tmod 400 = 0
   ·have HL:=Lib.hid (show leapB y = true by unfold leapB;rw [decide_eq_true_eq];omega)
    clear z4 z1 z0
    go_enter Tryz.func132,Tryz.ntmps132
    go_wp2_with fail
    go_ret
    exact ⟨by rw [HL.out];rfl,rfl⟩
   ·have HL:=Lib.hid (show leapB y = false by unfold leapB;rw [decide_eq_false_iff_not];omega)
    have e0:(y.tmod 400 == 0) = false:=by simpa using h0
    clear z4 z1 z0
    go_enter Tryz.func132,Tryz.ntmps132
    go_wp2_with fail
    go_ret
    exact ⟨by rw [HL.out];rfl,rfl⟩
  ·have HL:=Lib.hid (show leapB y = true by unfold leapB;rw [decide_eq_true_eq];omega)
   have e1:(y.tmod 100 != 0) = true:=by simpa using h1
   clear z4 z1 z0
   go_enter Tryz.func132,Tryz.ntmps132
   go_wp2_with fail
   go_ret
   exact ⟨by rw [HL.out];rfl,rfl⟩
 ·have h0:¬ y.tmod 400 = 0:=fun h=>h4 (by rw [tmod_zero] at h ⊢;omega)
  have HL:=Lib.hid (show leapB y = false by unfold leapB;rw [decide_eq_false_iff_not];omega)
  have e4:(y.tmod 4 == 0) = false:=by simpa using h4
  have e0:(y.tmod 400 == 0) = false:=by simpa using h0
  clear z4 z1 z0
  go_enter Tryz.func132,Tryz.ntmps132
  go_wp2_with fail
  go_ret
  exact ⟨by rw [HL.out];rfl,rfl⟩
theorem lens_at (w:World) (k:Nat) (hk:k < 12):(w.alloc (.cells #[.int .i64 31,.int .i64 28,.int .i64 31,.int .i64 30,.int .i64 31,.int .i64 30,.int .i64 31,.int .i64 31,.int .i64 30,.int .i64 31,.int .i64 30,.int .i64 31] 3)).cell? ⟨w.heap.size,k,none⟩ = some (.int .i64 (aheadV (k + 1) - aheadV k)):=by
 refine (Blk.new w 3 _).cell k ?_
 have:k = 0∨k = 1∨k = 2∨k = 3∨k = 4∨k = 5∨k = 6∨k = 7∨k = 8∨k = 9∨k = 10∨k = 11:=by omega
 rcases this with h | h | h | h | h | h | h | h | h | h | h | h <;> subst h <;> rfl
theorem rlong_any (y m:Int) (h1:1 ≤ m) (h2:m ≤ 12) (w:World) :
  Calls Tryz.prog 108 #[.int .i64 y,.int .i64 m] w fun e w'=>e = .returned (.int .i64 (lenV y m))∧Below w.heap.size w w':=by
 obtain ⟨k,rfl,hk⟩:=aheadV_at m h1 h2
 have c:=lens_at w k hk
 have HB:=Lib.hid ((Below.refl w.heap.size w).alloc (Nat.le_refl _) (.cells #[.int .i64 31,.int .i64 28,.int .i64 31,.int .i64 30,.int .i64 31,.int .i64 30,.int .i64 31,.int .i64 31,.int .i64 30,.int .i64 31,.int .i64 30,.int .i64 31] 3))
 have HL:=Lib.hid (fun W=>rleap_any y W)
 have HV:=Lib.hid (show lenV y (k + 1) = aheadV (k + 1) - aheadV k + if (k:Int) + 1 = 2 then leapsV y else 0 by unfold lenV;rw [show ((k:Int) + 1 - 1).toNat = k by omega,show ((k:Int) + 1).toNat = k + 1 by omega])
 have e1:(k:Int) + 1 - 1 = k:=by omega
 clear h1 h2
 by_cases hk2:k = 1
 ·subst hk2
  cases hl:leapB y with
  | true =>
    have HV2:=Lib.hid (show lenV y ((1:Nat) + 1) = 29 by rw [HV.out,if_pos (by omega)];unfold leapsV;rw [hl];rfl)
    rw [hl] at HL
    clear hl
    go_enter Tryz.func108,Tryz.ntmps108
    go_wp2_with fail
    refine (HL.out _).mono ?_
    rintro e w1 ⟨rfl,rfl⟩
    go_wp2_with fail
    go_ret
    exact ⟨by rw [HV2.out];rfl,HB.out⟩
  | false =>
    have HV2:=Lib.hid (show lenV y ((1:Nat) + 1) = aheadV (1 + 1) - aheadV 1 by rw [HV.out,if_pos (by omega)];unfold leapsV;rw [hl];rfl)
    rw [hl] at HL
    clear hl
    generalize aheadV (1 + 1) - aheadV 1 = q at *
    go_enter Tryz.func108,Tryz.ntmps108
    go_wp2_with fail
    refine (HL.out _).mono ?_
    rintro e w1 ⟨rfl,rfl⟩
    go_wp2_with fail
    go_ret
    exact ⟨by rw [HV2.out];rfl,HB.out⟩
 ·have hd:((k:Int) + 1 == 2) = false:=by simp;omega
  rw [if_neg (by omega),Int.add_zero] at HV
  generalize aheadV (k + 1) - aheadV k = q at *
  go_enter Tryz.func108,Tryz.ntmps108
  go_wp2_with fail
  go_ret
  exact ⟨by rw [HV.out];rfl,HB.out⟩
theorem rweek_any (n:Int) (h1:-1000000000 ≤ n) (h2:n ≤ 1000000000) (w:World) :
  Calls Tryz.prog 133 #[.int .i64 n] w fun e w'=>e = .returned (.int .i64 (weekV n))∧w' = w:=by
 have hm:=mod_eq (a:=n + 4) (b:=7) (by omega)
 have h6:=Int.lt_tmod_of_pos (n + 4) (b:=7) (by omega)
 have h7:=Int.tmod_lt_of_pos (n + 4) (b:=7) (by omega)
 obtain ⟨t,ht⟩:∃ t,(n + 4).tmod 7 = t:=⟨_,rfl⟩
 rw [ht] at hm h6 h7
 have HV:=Lib.hid (show weekV n = (t + 7) % 7 by
  unfold weekV
  split at hm <;> omega)
 clear hm
 go_enter Tryz.func133,Tryz.ntmps133
 go_wp2_with fail
 go_ret
 exact ⟨by rw [HV.out];rfl,rfl⟩
theorem rdays_any (y m:Int) (hy1:1 ≤ y) (hy2:y ≤ 4000) (h1:1 ≤ m) (h2:m ≤ 12) (w:World) :
  Calls Tryz.prog 109 #[.int .i64 y,.int .i64 m] w fun e w'=>e = .returned (.int .i64 (yearV y + startV y m))∧Below w.heap.size w w':=by
 have HLP:=Lib.hid (fun z W=>rleap_any z W)
 have HY0:=Lib.hid (show yearV 1970 = 0 by decide)
 have hyb:=yearV_in (y:=y) (by omega) (by omega)
 have HYM:=Lib.hid (show ∀ z,1 ≤ z→z ≤ 4000→-2000000 ≤ yearV z∧yearV z ≤ 2000000 from fun z h3 h4=>by unfold yearV;omega)
 go_enter Tryz.func109,Tryz.ntmps109
 go_wp2_with fail
 go_loopw [5,6] (fun nv zv wr=>∃ z:Int,zv = .int .i64 z∧1970 ≤ z∧(z ≤ y∨z = 1970)∧nv = .int .i64 (yearV z)∧Below w.heap.size w wr) (fun _ zv _=>(y - intOf zv).toNat)
 case atStart=>exact ⟨1970,rfl,by omega,.inr rfl,by rw [HY0.out],Below.refl _ _⟩
 case round =>
  obtain ⟨z,rfl,hz1,hz2,rfl,hbw⟩:=hrel
  have HBW:=Lib.hid hbw
  clear hbw
  have hb1:=HYM.out z (by omega) (by omega)
  by_cases hlt:z < y
  ·have hd:decide (z < y) = true:=decide_eq_true hlt
   have HN:=Lib.hid (yearV_next z)
   cases hl:leapB z with
   | true =>
     have HN2:=Lib.hid (show yearV (z + 1) = yearV z + 365 + 1 by rw [HN.out];unfold leapsV;rw [hl];rfl)
     have HC:=Lib.hid (HLP.out z wr)
     rw [hl] at HC
     clear hl
     generalize yearV z = q at *
     go_wp2_with fail
     refine HC.out.mono ?_
     rintro e w1 ⟨rfl,rfl⟩
     go_wp2_with fail
     go_roundw
     case rel=>exact ⟨z + 1,by first | rfl | go_num,by omega,.inl (by omega),by rw [HN2.out],HBW.out⟩
     case measure=>simp [intOf];omega
   | false =>
     have HN2:=Lib.hid (show yearV (z + 1) = yearV z + 365 by rw [HN.out];unfold leapsV;rw [hl];simp)
     have HC:=Lib.hid (HLP.out z wr)
     rw [hl] at HC
     clear hl
     generalize yearV z = q at *
     go_wp2_with fail
     refine HC.out.mono ?_
     rintro e w1 ⟨rfl,rfl⟩
     go_wp2_with fail
     go_roundw
     case rel=>exact ⟨z + 1,by first | rfl | go_num,by omega,.inl (by omega),by rw [HN2.out],HBW.out⟩
     case measure=>simp [intOf];omega
  ·have hd:decide (z < y) = false:=decide_eq_false hlt
   go_wp2_with fail
   go_loopw [5,7] (fun nv zv wi=>∃ z2:Int,zv = .int .i64 z2∧y ≤ z2∧(z2 ≤ 1970∨z2 = y)∧nv = .int .i64 (yearV z + yearV y - yearV z2)∧Below w.heap.size w wi) (fun _ zv _=>(1970 - intOf zv).toNat)
   case atStart=>exact ⟨y,rfl,Int.le_refl _,.inr rfl,by rw [show yearV z + yearV y - yearV y = yearV z by omega],HBW.out⟩
   case round =>
    obtain ⟨z2,rfl,hz3,hz4,rfl,hbi⟩:=hrel
    have HBI:=Lib.hid hbi
    clear hbi
    have hb2:=HYM.out z2 (by omega) (by omega)
    by_cases hlt2:z2 < 1970
    ·have hd2:decide (z2 < 1970) = true:=decide_eq_true hlt2
     have HN:=Lib.hid (yearV_next z2)
     cases hl:leapB z2 with
     | true =>
       have HN2:=Lib.hid (show yearV z + yearV y - yearV (z2 + 1) = yearV z + yearV y - yearV z2 - 365 - 1 by rw [HN.out];unfold leapsV;rw [hl];simp;omega)
       have HC:=Lib.hid (HLP.out z2 wr)
       rw [hl] at HC
       clear hl
       obtain ⟨q,hq⟩:∃ q,yearV z + yearV y - yearV z2 = q:=⟨_,rfl⟩
       rw [hq] at HN2 ⊢
       have hqb:-90000000 ≤ q∧q ≤ 90000000:=by omega
       clear hq
       go_wp2_with fail
       refine HC.out.mono ?_
       rintro e w1 ⟨rfl,rfl⟩
       go_wp2_with fail
       go_roundw
       case rel=>exact ⟨z2 + 1,by first | rfl | go_num,by omega,.inl (by omega),by rw [HN2.out],HBI.out⟩
       case measure=>simp [intOf];omega
     | false =>
       have HN2:=Lib.hid (show yearV z + yearV y - yearV (z2 + 1) = yearV z + yearV y - yearV z2 - 365 by rw [HN.out];unfold leapsV;rw [hl];simp;omega)
       have HC:=Lib.hid (HLP.out z2 wr)
       rw [hl] at HC
       clear hl
       obtain ⟨q,hq⟩:∃ q,yearV z + yearV y - yearV z2 = q:=⟨_,rfl⟩
       rw [hq] at HN2 ⊢
       have hqb:-90000000 ≤ q∧q ≤ 90000000:=by omega
       clear hq
       go_wp2_with fail
       refine HC.out.mono ?_
       rintro e w1 ⟨rfl,rfl⟩
       go_wp2_with fail
       go_roundw
       case rel=>exact ⟨z2 + 1,by first | rfl | go_num,by omega,.inl (by omega),by rw [HN2.out],HBI.out⟩
       case measure=>simp [intOf];omega
    ·have hd2:decide (z2 < 1970) = false:=decide_eq_false hlt2
     have hval:yearV z + yearV y - yearV z2 = yearV y:=by
      by_cases h3:y ≤ 1970
      ·rw [show z = 1970 by omega,show z2 = 1970 by omega]
       omega
      ·rw [show z = y by omega,show z2 = y by omega]
       omega
     rw [hval]
     have HS1:=Lib.hid (startV_one y)
     clear hval
     go_wp2_with fail
     go_loopw [5,8] (fun nv mv wj=>∃ k:Int,mv = .int .i64 k∧1 ≤ k∧k ≤ m∧nv = .int .i64 (yearV y + startV y k)∧Below w.heap.size w wj) (fun _ mv _=>(m - intOf mv).toNat)
     case atStart=>exact ⟨1,rfl,by omega,h1,by rw [HS1.out,Int.add_zero],HBI.out⟩
     case round =>
      obtain ⟨k,rfl,hk1,hk2,rfl,hbj⟩:=hrel
      have HBJ:=Lib.hid hbj
      have hsz:=hbj.size
      clear hbj
      have hsb:=startV_in y k
      by_cases hlt3:k < m
      ·have hd3:decide (k < m) = true:=decide_eq_true hlt3
       have HL:=Lib.hid (rlong_any y k hk1 (by omega) wr)
       have hlb:=lenV_in (y:=y) hk1 (show k ≤ 12 by omega)
       have HN:=Lib.hid (show yearV y + startV y (k + 1) = yearV y + startV y k + lenV y k by rw [startV_next hk1 (by omega)];omega)
       obtain ⟨q,hq⟩:∃ q,yearV y + startV y k = q:=⟨_,rfl⟩
       rw [hq] at HN ⊢
       have hqb:-10000000 ≤ q∧q ≤ 10000000:=by have:=HYM.out y hy1 hy2;omega
       generalize lenV y k = ln at *
       clear hq
       go_wp2_with fail
       refine HL.out.mono ?_
       rintro e w1 ⟨rfl,hb⟩
       have HB1:=Lib.hid (HBJ.out.trans (hb.mono hsz))
       clear hb
       go_wp2_with fail
       go_roundw
       case rel=>exact ⟨k + 1,by first | rfl | go_num,by omega,by omega,by rw [HN.out],HB1.out⟩
       case measure=>simp [intOf];omega
      ·obtain rfl:k = m:=by omega
       have hd3:decide (k < k) = false:=decide_eq_false hlt3
       go_wp2_with fail
       go_ret
       exact ⟨rfl,HBJ.out⟩
end
section -- RefC
open Go Go.RowKit Go.Shelf
def RDay (k wk n y m:Int):Value:=if n ≤ lenV y m then .tuple #[.int .i64 (inDay k wk n y m),.bool true] else .tuple #[.int .i64 0,.bool false]
theorem rday_any (k wk n y m:Int) (hok:dayOkB k wk n = true) (hy1:1 ≤ y) (hy2:y ≤ 4000) (h1:1 ≤ m) (h2:m ≤ 12) (w:World) :
  Calls Tryz.prog 110 #[dayA k wk n,.int .i64 y,.int .i64 m] w fun e w'=>e = .returned (RDay k wk n y m)∧Below w.heap.size w w':=by
 have HB0:=Lib.hid ((Below.refl w.heap.size w).alloc (Nat.le_refl _) (.cells #[.int .i64 k,.int .i64 wk,.int .i64 n] 36))
 have HX:=Lib.hid (Blk.new w 36 #[.int .i64 k,.int .i64 wk,.int .i64 n])
 have HD:=Lib.hid (fun W=>rdays_any y m hy1 hy2 h1 h2 W)
 have HL:=Lib.hid (fun W=>rlong_any y m h1 h2 W)
 have hyb:=yearV_in (y:=y) (by omega) (by omega)
 have hsb:=startV_in y m
 have hlb:=lenV_in (y:=y) h1 h2
 obtain ⟨f,hf⟩:∃ f,yearV y + startV y m = f:=⟨_,rfl⟩
 have hyb2:-2000000 ≤ yearV y∧yearV y ≤ 2000000:=by unfold yearV;omega
 have hfb:-10000000 ≤ f∧f ≤ 10000000:=by omega
 have HDV:=Lib.hid (fun d=>show dayV y m d = f + d - 1 by unfold dayV;omega)
 rw [hf] at HD
 obtain ⟨R,hR⟩:∃ R,RDay k wk n y m = R:=⟨_,rfl⟩
 rw [hR]
 unfold RDay at hR
 have HRD:=Lib.hid hR
 clear hR
 clear hf hyb hyb2 hsb hy1 hy2
 obtain ⟨ln,hln⟩:∃ ln,lenV y m = ln:=⟨_,rfl⟩
 rw [hln] at HL hlb HRD
 have HLN:=Lib.hid hln
 clear hln h1 h2
 unfold dayOkB at hok
 rw [decide_eq_true_eq] at hok
 by_cases hn:n ≤ ln
 ·rw [if_pos hn] at HRD
  rcases hok with ⟨rfl,h3,h4,rfl⟩ | ⟨rfl,rfl,h3,h4⟩ | ⟨rfl | rfl,h3,h4,h5,h6⟩
  ·have HV:=Lib.hid (show inDay 0 0 n y m = f + n - 1 by unfold inDay;rw [if_pos rfl,HDV.out])
   have hd1:decide (n < 1) = false:=decide_eq_false (by omega)
   have hd2:decide (ln < n) = false:=decide_eq_false (by omega)
   rw [HV.out] at HRD
   unfold dayA
   go_enter Tryz.func110,Tryz.ntmps110
   go_wp2_with fail
   refine (HD.out _).mono ?_
   rintro e w1 ⟨rfl,hb⟩
   have h1:=HX.out.below hb HX.out.lt
   have HB1:=Lib.hid (HB0.out.trans (hb.mono HB0.out.size))
   have q0:=h1.cell 0 (v:=.int .i64 0) rfl
   have q1:=h1.cell 1 (v:=.int .i64 (0)) rfl
   have q2:=h1.cell 2 (v:=.int .i64 (n)) rfl
   have HX1:=Lib.hid h1
   clear hb h1
   go_wp2_with fail
   refine (HL.out _).mono ?_
   rintro e w2 ⟨rfl,hb⟩
   have h1:=HX1.out.below hb HX1.out.lt
   have HB2:=Lib.hid (HB1.out.trans (hb.mono HB1.out.size))
   have q0:=h1.cell 0 (v:=.int .i64 0) rfl
   have q1:=h1.cell 1 (v:=.int .i64 (0)) rfl
   have q2:=h1.cell 2 (v:=.int .i64 (n)) rfl
   have HX2:=Lib.hid h1
   have hs2:=HB2.out.size
   clear hb h1
   go_wp2_with fail
   refine bodyPost_ret (v:=.tuple #[.int .i64 (f + n - 1),.bool true]) ?_ rfl ⟨by rw [← HRD.out],HB2.out⟩
   simp [results,Tryz.f110,go_sem]
  ·skip
   obtain ⟨K,hK7,hsk,hwK,hnK⟩:=seek_spec (a:=(f + ln - 1)) (st:=(-1)) (wk:=wk) (by omega) (by omega) (by omega)
   have HSK:=Lib.hid (And.intro hwK hnK)
   have HV:=Lib.hid (show inDay 1 wk (0) y m = (f + ln - 1) + (-1) * K by unfold inDay;rw [if_neg (by decide),if_neg (by decide),if_pos rfl,HLN.out,HDV.out];exact hsk)
   rw [HV.out] at HRD
   clear hsk hwK hnK
   unfold dayA
   go_enter Tryz.func110,Tryz.ntmps110
   go_wp2_with fail
   refine (HD.out _).mono ?_
   rintro e w1 ⟨rfl,hb⟩
   have h1:=HX.out.below hb HX.out.lt
   have HB1:=Lib.hid (HB0.out.trans (hb.mono HB0.out.size))
   have q0:=h1.cell 0 (v:=.int .i64 1) rfl
   have q1:=h1.cell 1 (v:=.int .i64 (wk)) rfl
   have q2:=h1.cell 2 (v:=.int .i64 (0)) rfl
   have HX1:=Lib.hid h1
   clear hb h1
   go_wp2_with fail
   refine (HL.out _).mono ?_
   rintro e w2 ⟨rfl,hb⟩
   have h1:=HX1.out.below hb HX1.out.lt
   have HB2:=Lib.hid (HB1.out.trans (hb.mono HB1.out.size))
   have q0:=h1.cell 0 (v:=.int .i64 1) rfl
   have q1:=h1.cell 1 (v:=.int .i64 (wk)) rfl
   have q2:=h1.cell 2 (v:=.int .i64 (0)) rfl
   have HX2:=Lib.hid h1
   have hs2:=HB2.out.size
   clear hb h1
   go_wp2_with fail
   go_loopw [10] (fun dv wr=>∃ j:Nat,j ≤ K∧dv = .int .i64 ((f + ln - 1) + (-1) * j)∧Below w2.heap.size w2 wr) (fun dv _=>(- ((f + ln - 1) + (-1) * K - intOf dv)).toNat)
   case atStart=>exact ⟨0,Nat.zero_le _,by first | rfl | simp,Below.refl _ _⟩
   case round =>
    obtain ⟨j,hj,rfl,hbw⟩:=hrel
    have HBW:=Lib.hid hbw
    have hxr:=HX2.out.below hbw HX2.out.lt
    clear hbw
    have q0:=hxr.cell 0 (v:=.int .i64 1) rfl
    have q1:=hxr.cell 1 (v:=.int .i64 wk) rfl
    have q2:=hxr.cell 2 (v:=.int .i64 (0)) rfl
    have HXR:=Lib.hid hxr
    have hws:=HBW.out.size
    clear hxr
    obtain ⟨d,hdd⟩:∃ d:Int,(f + ln - 1) + (-1) * j = d:=⟨_,rfl⟩
    rw [hdd]
    have hdb:-20000000 ≤ d∧d ≤ 20000000:=by omega
    have HJ:=Lib.hid hdd
    clear hdd
    have HCQ:=Lib.hid (fun (W:World) (h:Below wr.heap.size wr W)=>(h.cell (p:=⟨w.heap.size,1,none⟩) HXR.out.lt).trans q1)
    have HWK:=Lib.hid (fun (W:World)=>(rweek_any d (by omega) (by omega) W).mono (R':=fun e w'=>e = .returned (.int .i64 (weekV d))∧Below W.heap.size W w') (fun e w' h=>⟨h.1,h.2 ▸ Below.refl _ _⟩))
    go_wp2_with fail
    by_cases hjK:j = K
    ·have hne:(weekV d != wk) = false:=by
      have h:=HSK.out.1
      rw [← hjK,HJ.out] at h
      simpa using h
     have hE:d = (f + ln - 1) + (-1) * K:=by rw [← HJ.out,hjK]
     have HE:=Lib.hid hE
     clear hE hjK
     refine wp_env (fin:=?fna1) (by kernel_rfl) [47,48,49,50,51]
      [.int .i64 d,.int .i64 (weekV d),.pointer (some ⟨w.heap.size,1,none⟩),.int .i64 wk,.bool false] (by kernel_rfl) ?fina1 ?stepsa1 ?nexta1
     case fina1 =>
      simp only [putAll,Act.put,List.setIfInBounds_toArray,List.set_cons_succ,List.set_cons_zero]
      rfl
     case stepsa1 =>
      refine ⟨?_,?_,?_,?_,?_,trivial⟩
      all_goals refine .inr ⟨by kernel_rfl,fun w1_ hB_=>?_⟩
      all_goals
       have q1:=HCQ.out w1_ hB_
       go_simp
       first
        | exact ⟨rfl,Below.refl _ _⟩
        | exact ⟨rfl,HWK.out w1_⟩
        | ((first | rw [decide_eq_true (by omega)] | rw [decide_eq_false (by omega)] | rw [if_pos (by omega)] | rw [IntWalk.i64_in _ (by omega)]);exact ⟨rfl,Below.refl _ _⟩)
        | done
     case nexta1 =>
     intro w5 hb5
     have HB5:=Lib.hid (HBW.out.trans (hb5.mono HBW.out.size))
     clear hb5
     go_wp2_with fail
     rw [HE.out]
     refine bodyPost_ret (v:=.tuple #[.int .i64 ((f + ln - 1) + (-1) * K),.bool true]) ?_ rfl ⟨by rw [← HRD.out],HB2.out.trans (HB5.out.mono hs2)⟩
     simp [results,Tryz.f110,go_sem]
    ·have hne:(weekV d != wk) = true:=by
      have h:=HSK.out.2 j (by omega)
      rw [HJ.out] at h
      simpa using h
     have HNE:=Lib.hid hne
     refine wp_env (fin:=?fnb1) (by kernel_rfl) [47,48,49,50,51]
      [.int .i64 d,.int .i64 (weekV d),.pointer (some ⟨w.heap.size,1,none⟩),.int .i64 wk,.bool true] (by kernel_rfl) ?finb1 ?stepsb1 ?nextb1
     case finb1 =>
      simp only [putAll,Act.put,List.setIfInBounds_toArray,List.set_cons_succ,List.set_cons_zero]
      rfl
     case stepsb1 =>
      refine ⟨?_,?_,?_,?_,?_,trivial⟩
      all_goals refine .inr ⟨by kernel_rfl,fun w1_ hB_=>?_⟩
      all_goals
       have q1:=HCQ.out w1_ hB_
       go_simp
       first
        | exact ⟨rfl,Below.refl _ _⟩
        | exact ⟨rfl,HWK.out w1_⟩
        | ((first | rw [decide_eq_true (by omega)] | rw [decide_eq_false (by omega)] | rw [if_pos (by omega)] | rw [IntWalk.i64_in _ (by omega)]);exact ⟨rfl,Below.refl _ _⟩)
        | done
     case nextb1 =>
     intro w5 hb5
     have HB5:=Lib.hid (HBW.out.trans (hb5.mono HBW.out.size))
     have h5:=HXR.out.below hb5 HXR.out.lt
     have q0:=h5.cell 0 (v:=.int .i64 1) rfl
     clear hb5 h5 hne
     go_wp2_with fail
     go_roundw
     case rel=>exact ⟨j + 1,by omega,by first | rfl | go_num | (have:=HJ.out;congr 1;omega),HB5.out⟩
     case measure=>have:=HJ.out;simp [intOf];omega
  ·have hd1:decide (n < 1) = false:=decide_eq_false (by omega)
   have hd2:decide (ln < n) = false:=decide_eq_false (by omega)
   obtain ⟨K,hK7,hsk,hwK,hnK⟩:=seek_spec (a:=(f + n - 1)) (st:=1) (wk:=wk) (by omega) (by omega) (by omega)
   have HSK:=Lib.hid (And.intro hwK hnK)
   have HV:=Lib.hid (show inDay 2 wk (n) y m = (f + n - 1) + 1 * K by unfold inDay;rw [if_neg (by decide),if_pos rfl,HDV.out];exact hsk)
   rw [HV.out] at HRD
   clear hsk hwK hnK
   unfold dayA
   go_enter Tryz.func110,Tryz.ntmps110
   go_wp2_with fail
   refine (HD.out _).mono ?_
   rintro e w1 ⟨rfl,hb⟩
   have h1:=HX.out.below hb HX.out.lt
   have HB1:=Lib.hid (HB0.out.trans (hb.mono HB0.out.size))
   have q0:=h1.cell 0 (v:=.int .i64 2) rfl
   have q1:=h1.cell 1 (v:=.int .i64 (wk)) rfl
   have q2:=h1.cell 2 (v:=.int .i64 (n)) rfl
   have HX1:=Lib.hid h1
   clear hb h1
   go_wp2_with fail
   refine (HL.out _).mono ?_
   rintro e w2 ⟨rfl,hb⟩
   have h1:=HX1.out.below hb HX1.out.lt
   have HB2:=Lib.hid (HB1.out.trans (hb.mono HB1.out.size))
   have q0:=h1.cell 0 (v:=.int .i64 2) rfl
   have q1:=h1.cell 1 (v:=.int .i64 (wk)) rfl
   have q2:=h1.cell 2 (v:=.int .i64 (n)) rfl
   have HX2:=Lib.hid h1
   have hs2:=HB2.out.size
   clear hb h1
   go_wp2_with fail
   go_loopw [10] (fun dv wr=>∃ j:Nat,j ≤ K∧dv = .int .i64 ((f + n - 1) + 1 * j)∧Below w2.heap.size w2 wr) (fun dv _=>( ((f + n - 1) + 1 * K - intOf dv)).toNat)
   case atStart=>exact ⟨0,Nat.zero_le _,by first | rfl | simp,Below.refl _ _⟩
   case round =>
    obtain ⟨j,hj,rfl,hbw⟩:=hrel
    have HBW:=Lib.hid hbw
    have hxr:=HX2.out.below hbw HX2.out.lt
    clear hbw
    have q0:=hxr.cell 0 (v:=.int .i64 2) rfl
    have q1:=hxr.cell 1 (v:=.int .i64 wk) rfl
    have q2:=hxr.cell 2 (v:=.int .i64 (n)) rfl
    have HXR:=Lib.hid hxr
    have hws:=HBW.out.size
    clear hxr
    obtain ⟨d,hdd⟩:∃ d:Int,(f + n - 1) + 1 * j = d:=⟨_,rfl⟩
    rw [hdd]
    have hdb:-20000000 ≤ d∧d ≤ 20000000:=by omega
    have HJ:=Lib.hid hdd
    clear hdd
    have HCQ:=Lib.hid (fun (W:World) (h:Below wr.heap.size wr W)=>(h.cell (p:=⟨w.heap.size,1,none⟩) HXR.out.lt).trans q1)
    have HWK:=Lib.hid (fun (W:World)=>(rweek_any d (by omega) (by omega) W).mono (R':=fun e w'=>e = .returned (.int .i64 (weekV d))∧Below W.heap.size W w') (fun e w' h=>⟨h.1,h.2 ▸ Below.refl _ _⟩))
    go_wp2_with fail
    by_cases hjK:j = K
    ·have hne:(weekV d != wk) = false:=by
      have h:=HSK.out.1
      rw [← hjK,HJ.out] at h
      simpa using h
     have hE:d = (f + n - 1) + 1 * K:=by rw [← HJ.out,hjK]
     have HE:=Lib.hid hE
     clear hE hjK
     refine wp_env (fin:=?fna2) (by kernel_rfl) [47,48,49,50,51]
      [.int .i64 d,.int .i64 (weekV d),.pointer (some ⟨w.heap.size,1,none⟩),.int .i64 wk,.bool false] (by kernel_rfl) ?fina2 ?stepsa2 ?nexta2
     case fina2 =>
      simp only [putAll,Act.put,List.setIfInBounds_toArray,List.set_cons_succ,List.set_cons_zero]
      rfl
     case stepsa2 =>
      refine ⟨?_,?_,?_,?_,?_,trivial⟩
      all_goals refine .inr ⟨by kernel_rfl,fun w1_ hB_=>?_⟩
      all_goals
       have q1:=HCQ.out w1_ hB_
       go_simp
       first
        | exact ⟨rfl,Below.refl _ _⟩
        | exact ⟨rfl,HWK.out w1_⟩
        | ((first | rw [decide_eq_true (by omega)] | rw [decide_eq_false (by omega)] | rw [if_pos (by omega)] | rw [IntWalk.i64_in _ (by omega)]);exact ⟨rfl,Below.refl _ _⟩)
        | done
     case nexta2 =>
     intro w5 hb5
     have HB5:=Lib.hid (HBW.out.trans (hb5.mono HBW.out.size))
     clear hb5
     go_wp2_with fail
     rw [HE.out]
     refine bodyPost_ret (v:=.tuple #[.int .i64 ((f + n - 1) + 1 * K),.bool true]) ?_ rfl ⟨by rw [← HRD.out],HB2.out.trans (HB5.out.mono hs2)⟩
     simp [results,Tryz.f110,go_sem]
    ·have hne:(weekV d != wk) = true:=by
      have h:=HSK.out.2 j (by omega)
      rw [HJ.out] at h
      simpa using h
     have HNE:=Lib.hid hne
     refine wp_env (fin:=?fnb2) (by kernel_rfl) [47,48,49,50,51]
      [.int .i64 d,.int .i64 (weekV d),.pointer (some ⟨w.heap.size,1,none⟩),.int .i64 wk,.bool true] (by kernel_rfl) ?finb2 ?stepsb2 ?nextb2
     case finb2 =>
      simp only [putAll,Act.put,List.setIfInBounds_toArray,List.set_cons_succ,List.set_cons_zero]
      rfl
     case stepsb2 =>
      refine ⟨?_,?_,?_,?_,?_,trivial⟩
      all_goals refine .inr ⟨by kernel_rfl,fun w1_ hB_=>?_⟩
      all_goals
       have q1:=HCQ.out w1_ hB_
       go_simp
       first
        | exact ⟨rfl,Below.refl _ _⟩
        | exact ⟨rfl,HWK.out w1_⟩
        | ((first | rw [decide_eq_true (by omega)] | rw [decide_eq_false (by omega)] | rw [if_pos (by omega)] | rw [IntWalk.i64_in _ (by omega)]);exact ⟨rfl,Below.refl _ _⟩)
        | done
     case nextb2 =>
     intro w5 hb5
     have HB5:=Lib.hid (HBW.out.trans (hb5.mono HBW.out.size))
     have h5:=HXR.out.below hb5 HXR.out.lt
     have q0:=h5.cell 0 (v:=.int .i64 2) rfl
     clear hb5 h5 hne
     go_wp2_with fail
     go_roundw
     case rel=>exact ⟨j + 1,by omega,by first | rfl | go_num | (have:=HJ.out;congr 1;omega),HB5.out⟩
     case measure=>have:=HJ.out;simp [intOf];omega
  ·have hd1:decide (n < 1) = false:=decide_eq_false (by omega)
   have hd2:decide (ln < n) = false:=decide_eq_false (by omega)
   obtain ⟨K,hK7,hsk,hwK,hnK⟩:=seek_spec (a:=(f + n - 1)) (st:=(-1)) (wk:=wk) (by omega) (by omega) (by omega)
   have HSK:=Lib.hid (And.intro hwK hnK)
   have HV:=Lib.hid (show inDay 3 wk (n) y m = (f + n - 1) + (-1) * K by unfold inDay;rw [if_neg (by decide),if_neg (by decide),if_neg (by decide),HDV.out];exact hsk)
   rw [HV.out] at HRD
   clear hsk hwK hnK
   unfold dayA
   go_enter Tryz.func110,Tryz.ntmps110
   go_wp2_with fail
   refine (HD.out _).mono ?_
   rintro e w1 ⟨rfl,hb⟩
   have h1:=HX.out.below hb HX.out.lt
   have HB1:=Lib.hid (HB0.out.trans (hb.mono HB0.out.size))
   have q0:=h1.cell 0 (v:=.int .i64 3) rfl
   have q1:=h1.cell 1 (v:=.int .i64 (wk)) rfl
   have q2:=h1.cell 2 (v:=.int .i64 (n)) rfl
   have HX1:=Lib.hid h1
   clear hb h1
   go_wp2_with fail
   refine (HL.out _).mono ?_
   rintro e w2 ⟨rfl,hb⟩
   have h1:=HX1.out.below hb HX1.out.lt
   have HB2:=Lib.hid (HB1.out.trans (hb.mono HB1.out.size))
   have q0:=h1.cell 0 (v:=.int .i64 3) rfl
   have q1:=h1.cell 1 (v:=.int .i64 (wk)) rfl
   have q2:=h1.cell 2 (v:=.int .i64 (n)) rfl
   have HX2:=Lib.hid h1
   have hs2:=HB2.out.size
   clear hb h1
   go_wp2_with fail
   go_loopw [10] (fun dv wr=>∃ j:Nat,j ≤ K∧dv = .int .i64 ((f + n - 1) + (-1) * j)∧Below w2.heap.size w2 wr) (fun dv _=>(- ((f + n - 1) + (-1) * K - intOf dv)).toNat)
   case atStart=>exact ⟨0,Nat.zero_le _,by first | rfl | simp,Below.refl _ _⟩
   case round =>
    obtain ⟨j,hj,rfl,hbw⟩:=hrel
    have HBW:=Lib.hid hbw
    have hxr:=HX2.out.below hbw HX2.out.lt
    clear hbw
    have q0:=hxr.cell 0 (v:=.int .i64 3) rfl
    have q1:=hxr.cell 1 (v:=.int .i64 wk) rfl
    have q2:=hxr.cell 2 (v:=.int .i64 (n)) rfl
    have HXR:=Lib.hid hxr
    have hws:=HBW.out.size
    clear hxr
    obtain ⟨d,hdd⟩:∃ d:Int,(f + n - 1) + (-1) * j = d:=⟨_,rfl⟩
    rw [hdd]
    have hdb:-20000000 ≤ d∧d ≤ 20000000:=by omega
    have HJ:=Lib.hid hdd
    clear hdd
    have HCQ:=Lib.hid (fun (W:World) (h:Below wr.heap.size wr W)=>(h.cell (p:=⟨w.heap.size,1,none⟩) HXR.out.lt).trans q1)
    have HWK:=Lib.hid (fun (W:World)=>(rweek_any d (by omega) (by omega) W).mono (R':=fun e w'=>e = .returned (.int .i64 (weekV d))∧Below W.heap.size W w') (fun e w' h=>⟨h.1,h.2 ▸ Below.refl _ _⟩))
    go_wp2_with fail
    by_cases hjK:j = K
    ·have hne:(weekV d != wk) = false:=by
      have h:=HSK.out.1
      rw [← hjK,HJ.out] at h
      simpa using h
     have hE:d = (f + n - 1) + (-1) * K:=by rw [← HJ.out,hjK]
     have HE:=Lib.hid hE
     clear hE hjK
     refine wp_env (fin:=?fna3) (by kernel_rfl) [47,48,49,50,51]
      [.int .i64 d,.int .i64 (weekV d),.pointer (some ⟨w.heap.size,1,none⟩),.int .i64 wk,.bool false] (by kernel_rfl) ?fina3 ?stepsa3 ?nexta3
     case fina3 =>
      simp only [putAll,Act.put,List.setIfInBounds_toArray,List.set_cons_succ,List.set_cons_zero]
      rfl
     case stepsa3 =>
      refine ⟨?_,?_,?_,?_,?_,trivial⟩
      all_goals refine .inr ⟨by kernel_rfl,fun w1_ hB_=>?_⟩
      all_goals
       have q1:=HCQ.out w1_ hB_
       go_simp
       first
        | exact ⟨rfl,Below.refl _ _⟩
        | exact ⟨rfl,HWK.out w1_⟩
        | ((first | rw [decide_eq_true (by omega)] | rw [decide_eq_false (by omega)] | rw [if_pos (by omega)] | rw [IntWalk.i64_in _ (by omega)]);exact ⟨rfl,Below.refl _ _⟩)
        | done
     case nexta3 =>
     intro w5 hb5
     have HB5:=Lib.hid (HBW.out.trans (hb5.mono HBW.out.size))
     clear hb5
     go_wp2_with fail
     rw [HE.out]
     refine bodyPost_ret (v:=.tuple #[.int .i64 ((f + n - 1) + (-1) * K),.bool true]) ?_ rfl ⟨by rw [← HRD.out],HB2.out.trans (HB5.out.mono hs2)⟩
     simp [results,Tryz.f110,go_sem]
    ·have hne:(weekV d != wk) = true:=by
      have h:=HSK.out.2 j (by omega)
      rw [HJ.out] at h
      simpa using h
     have HNE:=Lib.hid hne
     refine wp_env (fin:=?fnb3) (by kernel_rfl) [47,48,49,50,51]
      [.int .i64 d,.int .i64 (weekV d),.pointer (some ⟨w.heap.size,1,none⟩),.int .i64 wk,.bool true] (by kernel_rfl) ?finb3 ?stepsb3 ?nextb3
     case finb3 =>
      simp only [putAll,Act.put,List.setIfInBounds_toArray,List.set_cons_succ,List.set_cons_zero]
      rfl
     case stepsb3 =>
      refine ⟨?_,?_,?_,?_,?_,trivial⟩
      all_goals refine .inr ⟨by kernel_rfl,fun w1_ hB_=>?_⟩
      all_goals
       have q1:=HCQ.out w1_ hB_
       go_simp
       first
        | exact ⟨rfl,Below.refl _ _⟩
        | exact ⟨rfl,HWK.out w1_⟩
        | ((first | rw [decide_eq_true (by omega)] | rw [decide_eq_false (by omega)] | rw [if_pos (by omega)] | rw [IntWalk.i64_in _ (by omega)]);exact ⟨rfl,Below.refl _ _⟩)
        | done
     case nextb3 =>
     intro w5 hb5
     have HB5:=Lib.hid (HBW.out.trans (hb5.mono HBW.out.size))
     have h5:=HXR.out.below hb5 HXR.out.lt
     have q0:=h5.cell 0 (v:=.int .i64 3) rfl
     clear hb5 h5 hne
     go_wp2_with fail
     go_roundw
     case rel=>exact ⟨j + 1,by omega,by first | rfl | go_num | (have:=HJ.out;congr 1;omega),HB5.out⟩
     case measure=>have:=HJ.out;simp [intOf];omega
 ·rw [if_neg hn] at HRD
  have hd2:decide (ln < n) = true:=decide_eq_true (by omega)
  rcases hok with ⟨rfl,h3,h4,rfl⟩ | ⟨rfl,rfl,h3,h4⟩ | ⟨rfl | rfl,h3,h4,h5,h6⟩
  ·have hd1:decide (n < 1) = false:=decide_eq_false (by omega)
   unfold dayA
   go_enter Tryz.func110,Tryz.ntmps110
   go_wp2_with fail
   refine (HD.out _).mono ?_
   rintro e w1 ⟨rfl,hb⟩
   have h1:=HX.out.below hb HX.out.lt
   have HB1:=Lib.hid (HB0.out.trans (hb.mono HB0.out.size))
   have q0:=h1.cell 0 (v:=.int .i64 0) rfl
   have q1:=h1.cell 1 (v:=.int .i64 (0)) rfl
   have q2:=h1.cell 2 (v:=.int .i64 (n)) rfl
   have HX1:=Lib.hid h1
   clear hb h1
   go_wp2_with fail
   refine (HL.out _).mono ?_
   rintro e w2 ⟨rfl,hb⟩
   have h1:=HX1.out.below hb HX1.out.lt
   have HB2:=Lib.hid (HB1.out.trans (hb.mono HB1.out.size))
   have q0:=h1.cell 0 (v:=.int .i64 0) rfl
   have q1:=h1.cell 1 (v:=.int .i64 (0)) rfl
   have q2:=h1.cell 2 (v:=.int .i64 (n)) rfl
   have HX2:=Lib.hid h1
   have hs2:=HB2.out.size
   clear hb h1
   go_wp2_with fail
   refine bodyPost_ret (v:=.tuple #[.int .i64 (0),.bool false]) ?_ rfl ⟨by rw [← HRD.out],HB2.out⟩
   simp [results,Tryz.f110,go_sem]
  ·omega
  ·have hd1:decide (n < 1) = false:=decide_eq_false (by omega)
   unfold dayA
   go_enter Tryz.func110,Tryz.ntmps110
   go_wp2_with fail
   refine (HD.out _).mono ?_
   rintro e w1 ⟨rfl,hb⟩
   have h1:=HX.out.below hb HX.out.lt
   have HB1:=Lib.hid (HB0.out.trans (hb.mono HB0.out.size))
   have q0:=h1.cell 0 (v:=.int .i64 2) rfl
   have q1:=h1.cell 1 (v:=.int .i64 (wk)) rfl
   have q2:=h1.cell 2 (v:=.int .i64 (n)) rfl
   have HX1:=Lib.hid h1
   clear hb h1
   go_wp2_with fail
   refine (HL.out _).mono ?_
   rintro e w2 ⟨rfl,hb⟩
   have h1:=HX1.out.below hb HX1.out.lt
   have HB2:=Lib.hid (HB1.out.trans (hb.mono HB1.out.size))
   have q0:=h1.cell 0 (v:=.int .i64 2) rfl
   have q1:=h1.cell 1 (v:=.int .i64 (wk)) rfl
   have q2:=h1.cell 2 (v:=.int .i64 (n)) rfl
   have HX2:=Lib.hid h1
   have hs2:=HB2.out.size
   clear hb h1
   go_wp2_with fail
   refine bodyPost_ret (v:=.tuple #[.int .i64 (0),.bool false]) ?_ rfl ⟨by rw [← HRD.out],HB2.out⟩
   simp [results,Tryz.f110,go_sem]
  ·have hd1:decide (n < 1) = false:=decide_eq_false (by omega)
   unfold dayA
   go_enter Tryz.func110,Tryz.ntmps110
   go_wp2_with fail
   refine (HD.out _).mono ?_
   rintro e w1 ⟨rfl,hb⟩
   have h1:=HX.out.below hb HX.out.lt
   have HB1:=Lib.hid (HB0.out.trans (hb.mono HB0.out.size))
   have q0:=h1.cell 0 (v:=.int .i64 3) rfl
   have q1:=h1.cell 1 (v:=.int .i64 (wk)) rfl
   have q2:=h1.cell 2 (v:=.int .i64 (n)) rfl
   have HX1:=Lib.hid h1
   clear hb h1
   go_wp2_with fail
   refine (HL.out _).mono ?_
   rintro e w2 ⟨rfl,hb⟩
   have h1:=HX1.out.below hb HX1.out.lt
   have HB2:=Lib.hid (HB1.out.trans (hb.mono HB1.out.size))
   have q0:=h1.cell 0 (v:=.int .i64 3) rfl
   have q1:=h1.cell 1 (v:=.int .i64 (wk)) rfl
   have q2:=h1.cell 2 (v:=.int .i64 (n)) rfl
   have HX2:=Lib.hid h1
   have hs2:=HB2.out.size
   clear hb h1
   go_wp2_with fail
   refine bodyPost_ret (v:=.tuple #[.int .i64 (0),.bool false]) ?_ rfl ⟨by rw [← HRD.out],HB2.out⟩
   simp [results,Tryz.f110,go_sem]
end
section -- RefD
open Go Go.RowKit Go.Shelf
theorem small_of {r:Rul} {y:Int} (hs:smallR r = true) (h1:r.from_ ≤ y) (h2:y ≤ r.to_) (h3:y ≤ 2110) :
  ofB r y = decide (r.dn ≤ lenV y r.month)∧-1000000 ≤ inDay r.dk r.dw r.dn y r.month∧inDay r.dk r.dw r.dn y r.month ≤ 1000000∧dayOkB r.dk r.dw r.dn = true∧1900 ≤ y∧1 ≤ r.month∧r.month ≤ 12∧-172800 ≤ r.sec∧r.sec ≤ 259200:=by
 unfold smallR at hs
 rw [Bool.and_eq_true,decide_eq_true_eq] at hs
 obtain ⟨⟨a1,a2,a3,a4,a5,a6,a7,a8,a9⟩,hok⟩:=hs
 have hyv:-100000 ≤ yearV y∧yearV y ≤ 100000:=by unfold yearV;omega
 have hsv:=startV_in y r.month
 have hlv:=lenV_in (y:=y) a4 a5
 have hok2:=hok
 unfold dayOkB at hok2
 rw [decide_eq_true_eq] at hok2
 have hd:-1000000 ≤ inDay r.dk r.dw r.dn y r.month∧inDay r.dk r.dw r.dn y r.month ≤ 1000000:=by
  unfold inDay
  split
  ·unfold dayV;omega
  ·split
   ·unfold seekV dayV
    rw [if_pos rfl]
    omega
   ·unfold seekV dayV
    rw [if_neg (by decide)]
    split <;> omega
 have e1:mayB r.sec = true:=by unfold mayB;rw [decide_eq_true_eq];omega
 have e2:ofInB (inDay r.dk r.dw r.dn y r.month) = true:=by unfold ofInB;rw [decide_eq_true_eq];omega
 have e3:ymB y r.month = true:=by unfold ymB;rw [decide_eq_true_eq];omega
 refine ⟨?_,hd.1,hd.2,hok,by omega,a4,a5,a6,a7⟩
 unfold ofB inOkB inB
 rw [decide_eq_true (show r.from_ ≤ y∧y ≤ r.to_ from ⟨h1,h2⟩),hok,e1,e2,e3]
 simp
theorem map_f_append (A C:List FrI) (x:FrI):(A ++ x :: C).map FrI.f = A.map FrI.f ++ x.f :: C.map FrI.f:=by simp
theorem rall_any (w:World) (B:Nat) (v:Value) (l:List Rul) (a b:Int) (hv:Ruls w B v l) (hB:B ≤ w.heap.size) (hs:smallB l = true) (h2:b ≤ 2110) (h1:1880 ≤ a) :
  Calls Tryz.prog 70 #[v,.int .i64 a,.int .i64 b] w fun e w'=>∃ u D,e = .returned u∧Stab Fir.nominal (genL l a b) (D.map FrI.f)∧(∀ y ∈ D,0 ≤ y.i∧y.i < (l.length:Int))∧FrisN w' u D∧Below w.heap.size w w':=by
 obtain ⟨A,c,rfl,hlc,hcm⟩:=hv.form
 unfold maxLen at hcm
 have HV:=Lib.hid hv
 unfold smallB at hs
 rw [Bool.and_eq_true,decide_eq_true_eq,List.all_eq_true] at hs
 obtain ⟨hsm,hl⟩:=hs
 have HSM:=Lib.hid (fun k (hk:k < l.length)=>hsm l[k] (List.getElem_mem hk))
 clear hv hsm
 go_enter Tryz.func70,Tryz.ntmps70
 go_wp2_with fail
 go_loopw [7,8] (fun u iv wr=>∃ k:Nat,∃ D:List FrI,k ≤ l.length∧iv = .int .i64 k∧Stab Fir.nominal (genK l a b k) (D.map FrI.f)∧(∀ y ∈ D,0 ≤ y.i∧y.i < (k:Int))∧FrisN wr u D∧Below w.heap.size w wr) (fun _ iv _=>l.length - (intOf iv).toNat)
 case atStart=>exact ⟨0,[],Nat.zero_le _,rfl,Stab.nil,fun y hy=>by simp at hy,⟨Sl.nil _ _ _,TyF.nil _ _ _⟩,Below.refl _ _⟩
 case round =>
  obtain ⟨k,D,hk,rfl,hst,hdi,hfr,hbw⟩:=hrel
  have HST:=Lib.hid hst
  have HDI:=Lib.hid hdi
  have HFR:=Lib.hid hfr
  have HBW:=Lib.hid hbw
  have hws:=hbw.size
  clear hst hdi hfr hbw
  by_cases hlt:k < l.length
  ·have hd:decide ((k:Int) < (l.length:Int)) = true:=decide_eq_true (by omega)
   obtain ⟨bb,o,c',e,hbb,hc⟩:=(HV.out.below (HBW.out.mono hB)).cells (by omega)
   cases e
   obtain ⟨c0,c1,c2,c3,c4,c5,c6,c7,c8,c9,c10⟩:=hc k hlt
   have hsmk:=HSM.out k hlt
   have HNX:=Lib.hid (genK_next l a b hlt)
   obtain ⟨r,hr⟩:∃ r,l[k] = r:=⟨_,rfl⟩
   rw [hr] at c0 c1 c2 c3 c4 c5 c6 c7 c8 c9 c10 HNX hsmk
   have HSK:=Lib.hid hsmk
   have hgl:(genK l a b k).length ≤ 1500:=by
    have h5:=genL_len (l.take k) a b
    have h6:(l.take k).length * (b + 1 - a).toNat ≤ 6 * 250:=Nat.mul_le_mul (by rw [List.length_take];omega) (by omega)
    unfold genK
    omega
   obtain ⟨G,hG⟩:∃ G,genK l a b k = G:=⟨_,rfl⟩
   rw [hG] at HST HNX hgl
   have HRC:=Lib.hid (genR_cut r a b)
   have hfr_:1900 ≤ r.from_∧r.from_ ≤ 2100:=by
    unfold smallR at hsmk
    rw [Bool.and_eq_true,decide_eq_true_eq] at hsmk
    exact ⟨hsmk.1.1,hsmk.1.2.1⟩
   obtain ⟨y0,hy0⟩:∃ y0,max a r.from_ = y0:=⟨_,rfl⟩
   obtain ⟨y1,hy1⟩:∃ y1,min b r.to_ = y1:=⟨_,rfl⟩
   rw [hy0,hy1] at HRC
   have hya:a ≤ y0:=by omega
   have hyf:r.from_ ≤ y0:=by omega
   have hyb:y1 ≤ b:=by omega
   clear hc hr hG hsmk
   go_wp2_with fail
   obtain ⟨W1,hW1⟩:∃ W,wr.alloc (.cells #[.string r.name,.int .i64 r.from_,.int .i64 r.to_,.int .i64 r.month,.int .i64 r.dk,.int .i64 r.dw,.int .i64 r.dn,.int .i64 r.sec,.int .i64 r.kind,.int .i64 r.save,.string r.letter] 106) = W:=⟨_,rfl⟩
   have HR1:=Lib.hid (show RulB W1 wr.heap.size r by rw [← hW1];exact Blk.new wr _ _)
   have hb01:Below wr.heap.size wr W1:=by rw [← hW1];exact (Below.refl _ _).alloc (Nat.le_refl _) _
   have HF1:=Lib.hid (HFR.out.below hb01)
   have HB1:=Lib.hid (HBW.out.trans (hb01.mono hws))
   have hsz1:wr.heap.size < W1.heap.size:=by rw [← hW1];simp
   rw [hW1]
   obtain ⟨BX,hBX⟩:∃ n,wr.heap.size = n:=⟨_,rfl⟩
   rw [hBX] at HR1 hsz1 hws ⊢
   have HY:=Lib.hid (And.intro hy0 hy1)
   clear hW1 hb01 hy0 hy1 c0 c1 c2 c3 c4 c5 c6 c7 c8 c9 c10 HFR HBW
   go_loopw [7,10] (fun u yv wi=>∃ y:Int,∃ D:List FrI,yv = .int .i64 y∧y0 ≤ y∧(y ≤ y1 + 1∨y = y0)∧Stab Fir.nominal (G ++ genR r y0 (y - 1)) (D.map FrI.f)∧(∀ z ∈ D,0 ≤ z.i∧z.i ≤ (k:Int))∧FrisN wi u D∧RulB wi BX r∧Below w.heap.size w wi) (fun _ yv _=>(y1 + 1 - intOf yv).toNat)
   case atStart=>exact ⟨y0,D,rfl,Int.le_refl _,.inr rfl,by
    have e:genR r y0 (y0 - 1) = []:=by unfold genR;rw [yrs_nil (by omega)];rfl
    rw [e,List.append_nil]
    exact HST.out,fun z hz=>by have:=HDI.out z hz;omega,HF1.out,HR1.out,HB1.out⟩
   case round =>
    clear HST HDI HF1
    obtain ⟨y,D,rfl,hy0,hy1,hst,hdi,hfr,hrb,hbw⟩:=hrel
    have HST:=Lib.hid hst
    have HDI:=Lib.hid hdi
    have HFR:=Lib.hid hfr
    have HRB:=Lib.hid hrb
    have HBI:=Lib.hid hbw
    have hBl:=Blk.lt hrb
    have hws2:=hbw.size
    have q0:=Blk.cell hrb 0 (v:=.string r.name) rfl
    have q1:=Blk.cell hrb 1 (v:=.int .i64 r.from_) rfl
    have q2:=Blk.cell hrb 2 (v:=.int .i64 r.to_) rfl
    have q3:=Blk.cell hrb 3 (v:=.int .i64 r.month) rfl
    have q4:=Blk.cell hrb 4 (v:=.int .i64 r.dk) rfl
    have q5:=Blk.cell hrb 5 (v:=.int .i64 r.dw) rfl
    have q6:=Blk.cell hrb 6 (v:=.int .i64 r.dn) rfl
    have q7:=Blk.cell hrb 7 (v:=.int .i64 r.sec) rfl
    have q8:=Blk.cell hrb 8 (v:=.int .i64 r.kind) rfl
    have q9:=Blk.cell hrb 9 (v:=.int .i64 r.save) rfl
    have q10:=Blk.cell hrb 10 (v:=.string r.letter) rfl
    clear hst hdi hfr hrb hbw
    by_cases hyl:y ≤ b
    ·have hd5:decide (y ≤ b) = true:=decide_eq_true hyl
     by_cases hyt:y ≤ r.to_
     ·have hd6:decide (y ≤ r.to_) = true:=decide_eq_true hyt
      have hyy:y ≤ y1:=by have:=HY.out.2;omega
      obtain ⟨hof,hd1,hd2,hok,hy19,hm1,hm2,hs1,hs2⟩:=small_of HSK.out (show r.from_ ≤ y by omega) hyt (by omega)
      have HD:=Lib.hid (fun W=>rday_any r.dk r.dw r.dn y r.month hok (by omega) (by omega) hm1 hm2 W)
      have HGN:=Lib.hid (genR_next r hy0)
      by_cases hn:r.dn ≤ lenV y r.month
      ·have hob:ofB r y = true:=by rw [hof];exact decide_eq_true hn
       unfold RDay at HD
       rw [if_pos hn] at HD
       rw [hob,if_pos rfl] at HGN
       unfold firOf at HGN
       generalize inDay r.dk r.dw r.dn y r.month = v at *
       rw [show v * 86400 = 86400 * v from Int.mul_comm _ _] at HGN
       have hgl2:D.length ≤ 100000:=by
        have h5:=genR_len r y0 (y - 1)
        have h6:=HST.out.len
        rw [List.length_map,List.length_append] at h6
        omega
       have HSD:=Lib.hid (show D.Pairwise (fun a b=>a.f.nominal ≤ b.f.nominal) by have h:=HST.out.2.1;rw [List.pairwise_map] at h;exact h)
       have HP:=Lib.hid (fun (W:World) (h:Below wr.heap.size wr W)=>put_any W wr.heap.size _ D ⟨⟨86400 * v + r.sec,r.kind,r.save,r.letter⟩,k⟩ (HFR.out.1.below h) h.size hgl2 (fun z hz=>(HDI.out z hz).2) HSD.out)
       simp only [friA] at HP
       unfold dayA at HD
       have hv1:-90000000000 ≤ 86400 * v∧86400 * v ≤ 90000000000:=by omega
       clear hof hob hn hok
       go_wp2_with fail
       refine (HD.out _).mono ?_
       rintro e w2 ⟨rfl,hb⟩
       have HB2:=Lib.hid hb
       have HR2:=Lib.hid (Blk.below HRB.out hb (Blk.lt HRB.out))
       clear hb q0 q1 q2 q3 q4 q5 q6 q7 q8 q9 q10
       have q0:=Blk.cell HR2.out 0 (v:=.string r.name) rfl
       have q1:=Blk.cell HR2.out 1 (v:=.int .i64 r.from_) rfl
       have q2:=Blk.cell HR2.out 2 (v:=.int .i64 r.to_) rfl
       have q3:=Blk.cell HR2.out 3 (v:=.int .i64 r.month) rfl
       have q4:=Blk.cell HR2.out 4 (v:=.int .i64 r.dk) rfl
       have q5:=Blk.cell HR2.out 5 (v:=.int .i64 r.dw) rfl
       have q6:=Blk.cell HR2.out 6 (v:=.int .i64 r.dn) rfl
       have q7:=Blk.cell HR2.out 7 (v:=.int .i64 r.sec) rfl
       have q8:=Blk.cell HR2.out 8 (v:=.int .i64 r.kind) rfl
       have q9:=Blk.cell HR2.out 9 (v:=.int .i64 r.save) rfl
       have q10:=Blk.cell HR2.out 10 (v:=.string r.letter) rfl
       go_wp2_with fail
       refine (HP.out _ HB2.out).mono ?_
       rintro e w3 ⟨u3,A3,C3,rfl,hD,hA,hC,hfr,hb⟩
       have HPP:=Lib.hid (And.intro hD (And.intro hA (And.intro hC hfr)))
       have HB3:=Lib.hid (HB2.out.trans (hb.mono HB2.out.size))
       have HR3:=Lib.hid (Blk.below HR2.out hb (Blk.lt HR2.out))
       clear hD hA hC hfr hb
       go_wp2_with fail
       go_roundw
       case rel =>
        refine ⟨y + 1,_,by first | rfl | go_num,by omega,.inl (by omega),?_,?_,HPP.out.2.2.2,HR3.out,HBI.out.trans (HB3.out.mono HBI.out.size)⟩
        ·have h:=HST.out
         rw [HPP.out.1,List.map_append] at h
         rw [show y + 1 - 1 = y by omega,HGN.out,← List.append_assoc,map_f_append]
         exact h.put (fun f hf=>by obtain ⟨z,hz,rfl⟩:=List.mem_map.1 hf;exact HPP.out.2.1 z hz) (fun f hf=>by obtain ⟨z,hz,rfl⟩:=List.mem_map.1 hf;exact HPP.out.2.2.1 z hz)
        ·intro z hz
         have hD:=HPP.out.1
         rcases List.mem_append.1 hz with hz | hz
         ·exact HDI.out z (by rw [hD];exact List.mem_append_left _ hz)
         ·rcases List.mem_cons.1 hz with rfl | hz
          ·exact ⟨by simp,Int.le_refl _⟩
          ·exact HDI.out z (by rw [hD];exact List.mem_append_right _ hz)
       case measure=>simp [intOf];omega
      ·have hob:ofB r y = false:=by rw [hof];exact decide_eq_false hn
       unfold RDay at HD
       rw [if_neg hn] at HD
       rw [hob,if_neg (by decide),List.append_nil] at HGN
       unfold dayA at HD
       clear hof hob hn hok hd1 hd2
       go_wp2_with fail
       refine (HD.out _).mono ?_
       rintro e w2 ⟨rfl,hb⟩
       have HB2:=Lib.hid hb
       have HR2:=Lib.hid (Blk.below HRB.out hb (Blk.lt HRB.out))
       clear hb q0 q1 q2 q3 q4 q5 q6 q7 q8 q9 q10
       go_wp2_with fail
       go_roundw
       case rel=>exact ⟨y + 1,D,by first | rfl | go_num,by omega,.inl (by omega),by rw [show y + 1 - 1 = y by omega,HGN.out];exact HST.out,HDI.out,HFR.out.below HB2.out,HR2.out,HBI.out.trans (HB2.out.mono HBI.out.size)⟩
       case measure=>simp [intOf];omega
     ·have hd6:decide (y ≤ r.to_) = false:=decide_eq_false hyt
      have HE:=Lib.hid (show G ++ genR r y0 (y - 1) = G ++ genR r a b by
       rw [HRC.out]
       have e:=HY.out.2
       rcases hy1 with h | h
       ·rw [show y - 1 = y1 by omega]
       ·unfold genR
        rw [yrs_nil (show y - 1 < y0 by omega),yrs_nil (show y1 < y0 by omega)])
      go_wp2_with fail
      go_roundw
      case rel=>exact ⟨k + 1,D,by omega,by go_num,by rw [HNX.out,← HE.out];exact HST.out,fun y hy=>by have:=HDI.out y hy;omega,HFR.out,HBI.out⟩
      case measure=>simp [intOf];omega
    ·have hd5:decide (y ≤ b) = false:=decide_eq_false hyl
     have HE:=Lib.hid (show G ++ genR r y0 (y - 1) = G ++ genR r a b by
      rw [HRC.out]
      have e:=HY.out.2
      rcases hy1 with h | h
      ·rw [show y - 1 = y1 by omega]
      ·unfold genR
       rw [yrs_nil (show y - 1 < y0 by omega),yrs_nil (show y1 < y0 by omega)])
     go_wp2_with fail
     go_roundw
     case rel=>exact ⟨k + 1,D,by omega,by go_num,by rw [HNX.out,← HE.out];exact HST.out,fun y hy=>by have:=HDI.out y hy;omega,HFR.out,HBI.out⟩
     case measure=>simp [intOf];omega
  ·obtain rfl:k = l.length:=by omega
   have hd:decide ((l.length:Int) < (l.length:Int)) = false:=decide_eq_false (by omega)
   have HG:=Lib.hid (show genK l a b l.length = genL l a b by unfold genK;rw [List.take_length])
   rw [HG.out] at HST
   go_wp2_with fail
   go_ret
   exact ⟨_,D,rfl,HST.out,HDI.out,HFR.out,HBW.out⟩
end
section -- PApart
open Go Go.RowKit Go.Shelf
def okAt (D:List FrI) (i:Nat):Bool:=match D[i]? with
 | none=>true
 | some x=>decide (-90000 < x.f.save) && decide (x.f.save < 90000) && (match i with | 0=>true | j + 1=>match D[j]? with | none=>true | some y=>decide (180000 < x.f.nominal - y.f.nominal))
def apB (D:List FrI):Bool:=(List.range D.length).all (okAt D)
theorem apB_no {D:List FrI} {k:Nat} (hk:k < D.length) (h:okAt D k = false):apB D = false:=by
 unfold apB
 rw [List.all_eq_false]
 exact ⟨k,by simpa using hk,by rw [h];decide⟩
theorem apB_yes {D:List FrI} (h:∀ i,i < D.length→okAt D i = true):apB D = true:=by
 unfold apB
 rw [List.all_eq_true]
 intro i hi
 exact h i (by simpa using hi)
theorem apB_at {D:List FrI} (h:apB D = true) {i:Nat} (hi:i < D.length):okAt D i = true:=by
 unfold apB at h
 rw [List.all_eq_true] at h
 exact h i (by simpa using hi)
theorem apB_apart {D:List FrI} (h:apB D = true):apartB (D.map FrI.f) = true:=by
 refine apartB_of (fun f hf=>?_) (fun i hi=>?_)
 ·obtain ⟨x,hx,rfl⟩:=List.mem_map.1 hf
  obtain ⟨i,hi,rfl⟩:=List.getElem_of_mem hx
  have:=apB_at h hi
  unfold okAt at this
  rw [List.getElem?_eq_getElem hi] at this
  simp only [Bool.and_eq_true,decide_eq_true_eq] at this
  exact this.1
 ·rw [List.length_map] at hi
  have:=apB_at h hi
  unfold okAt at this
  simp only [List.getElem?_eq_getElem hi,List.getElem?_eq_getElem (show i < D.length by omega),Bool.and_eq_true,decide_eq_true_eq] at this
  rw [List.getElem_map,List.getElem_map]
  omega
theorem apart_any (w:World) (B:Nat) (v:Value) (D:List FrI) (hv:Fris w B v D) (hB:B ≤ w.heap.size) (hl:D.length ≤ 100000) (hr:∀ x ∈ D,-1000000000000000 ≤ x.f.nominal∧x.f.nominal ≤ 1000000000000000) :
  Calls Tryz.prog 84 #[v] w fun e w'=>e = .returned (.bool (apB D))∧Below w.heap.size w w':=by
 have HV:=Lib.hid hv
 have HR:=Lib.hid (fun k (h:k < D.length)=>hr D[k] (List.getElem_mem h))
 obtain ⟨A,c,rfl,hlc,hcm⟩:=hv.form
 unfold maxLen at hcm
 clear hv hr
 go_enter Tryz.func84,Tryz.ntmps84
 go_wp2_with fail
 go_loopw [3] (fun iv wr=>∃ k:Nat,k ≤ D.length∧iv = .int .i64 k∧(∀ i,i < k→okAt D i = true)∧Below w.heap.size w wr) (fun iv _=>D.length - (intOf iv).toNat)
 case atStart=>exact ⟨0,Nat.zero_le _,rfl,fun i h=>absurd h (by omega),Below.refl _ _⟩
 case round =>
  obtain ⟨k,hk,rfl,hok,hbw⟩:=hrel
  have HOK:=Lib.hid hok
  have HBW:=Lib.hid hbw
  have hws:=hbw.size
  clear hok hbw
  by_cases hlt:k < D.length
  ·have hd:decide ((k:Int) < (D.length:Int)) = true:=decide_eq_true (by omega)
   obtain ⟨bb,o,c',e,hbb,hc⟩:=(HV.out.below (HBW.out.mono hB)).cells (by omega)
   cases e
   have hx:=hc k hlt
   have hrx:=HR.out k hlt
   have HC:=Lib.hid hc
   obtain ⟨x,hxk⟩:∃ x,D[k] = x:=⟨_,rfl⟩
   have hoA:okAt D k = (decide (-90000 < x.f.save) && decide (x.f.save < 90000) && (match k with | 0=>true | j + 1=>match D[j]? with | none=>true | some y=>decide (180000 < x.f.nominal - y.f.nominal))):=by
    unfold okAt
    rw [List.getElem?_eq_getElem hlt,hxk]
   rw [hxk] at hx hrx
   have HOA:=Lib.hid hoA
   have HCELL:=Lib.hid (fun (W:World) (h:Below wr.heap.size wr W)=>show W.cell? ⟨bb,o + k * 5,none⟩ = some (.int .i64 x.f.nominal)∧W.cell? ⟨bb,o + k * 5 + 2,none⟩ = some (.int .i64 x.f.save) from ⟨(h.cell (by show bb < _;omega)).trans hx.1,(h.cell (by show bb < _;omega)).trans hx.2.2.1⟩)
   clear hx hoA hxk hc
   by_cases h1:x.f.save ≤ -90000
   ·have d1:decide (x.f.save ≤ -90000) = true:=decide_eq_true h1
    have HN:=Lib.hid (apB_no hlt (show okAt D k = false by rw [HOA.out,decide_eq_false (by omega)];rfl))
    go_wp2_with fail
    refine wp_env (fin:=?fnA) (by kernel_rfl) [10,11,12,13,14,15,16,17,18,19,20,21,22,23,24,25,26,27,28,29,30,31,32,33,34,35,36,37,38,39,40,41,42,43,44,45,46]
     [.slice (some ⟨bb,o,none⟩) D.length c,.int .i64 k,.pointer (some ⟨bb,o + k * 5,none⟩),.pointer (some ⟨bb,o + k * 5,none⟩),.pointer (some ⟨bb,o + k * 5 + 2,none⟩),.int .i64 x.f.save,.bool true,.bool true,undef,undef,undef,undef,undef,undef,undef,.bool true,.bool true,undef,undef,undef,undef,undef,undef,undef,undef,undef,undef,undef,undef,undef,undef,undef,undef,undef,undef,undef,.bool true] (by kernel_rfl) ?finA ?stepsA ?nextA
    case finA =>
     simp only [putAll,Act.put,List.setIfInBounds_toArray,List.set_cons_succ,List.set_cons_zero]
     rfl
    case stepsA =>
     refine ⟨?_,?_,?_,?_,?_,?_,?_,?_,?_,?_,?_,?_,?_,?_,?_,?_,?_,?_,?_,?_,?_,?_,?_,?_,?_,?_,?_,?_,?_,?_,?_,?_,?_,?_,?_,?_,?_,trivial⟩
     all_goals first | exact .inl ⟨by kernel_rfl,rfl⟩ | refine .inr ⟨by kernel_rfl,fun w1_ hB_=>?_⟩
     all_goals
      obtain ⟨d0,d2⟩:=HCELL.out w1_ hB_
      go_simp
      first
       | exact ⟨rfl,Below.refl _ _⟩
       | ((first | rw [decide_eq_true (by omega)] | rw [decide_eq_false (by omega)] | rw [if_pos (by omega)] | rw [IntWalk.i64_in _ (by omega)]);exact ⟨rfl,Below.refl _ _⟩)
       | done
    case nextA =>
    intro w2 hb2
    have HB2:=Lib.hid (HBW.out.trans (hb2.mono hws))
    clear hb2
    go_wp2_with fail
    go_ret
    exact ⟨by rw [HN.out];rfl,HB2.out⟩
   ·have d1:decide (x.f.save ≤ -90000) = false:=decide_eq_false h1
    by_cases h2:90000 ≤ x.f.save
    ·have d2:decide (90000 ≤ x.f.save) = true:=decide_eq_true h2
     have HN:=Lib.hid (apB_no hlt (show okAt D k = false by rw [HOA.out,decide_eq_true (by omega),decide_eq_false (by omega)];rfl))
     go_wp2_with fail
     refine wp_env (fin:=?fnB) (by kernel_rfl) [10,11,12,13,14,15,16,17,18,19,20,21,22,23,24,25,26,27,28,29,30,31,32,33,34,35,36,37,38,39,40,41,42,43,44,45,46]
      [.slice (some ⟨bb,o,none⟩) D.length c,.int .i64 k,.pointer (some ⟨bb,o + k * 5,none⟩),.pointer (some ⟨bb,o + k * 5,none⟩),.pointer (some ⟨bb,o + k * 5 + 2,none⟩),.int .i64 x.f.save,.bool false,.bool false,.slice (some ⟨bb,o,none⟩) D.length c,.int .i64 k,.pointer (some ⟨bb,o + k * 5,none⟩),.pointer (some ⟨bb,o + k * 5,none⟩),.pointer (some ⟨bb,o + k * 5 + 2,none⟩),.int .i64 x.f.save,.bool true,.bool true,.bool true,undef,undef,undef,undef,undef,undef,undef,undef,undef,undef,undef,undef,undef,undef,undef,undef,undef,undef,undef,.bool true] (by kernel_rfl) ?finB ?stepsB ?nextB
     case finB =>
      simp only [putAll,Act.put,List.setIfInBounds_toArray,List.set_cons_succ,List.set_cons_zero]
      rfl
     case stepsB =>
      refine ⟨?_,?_,?_,?_,?_,?_,?_,?_,?_,?_,?_,?_,?_,?_,?_,?_,?_,?_,?_,?_,?_,?_,?_,?_,?_,?_,?_,?_,?_,?_,?_,?_,?_,?_,?_,?_,?_,trivial⟩
      all_goals first | exact .inl ⟨by kernel_rfl,rfl⟩ | refine .inr ⟨by kernel_rfl,fun w1_ hB_=>?_⟩
      all_goals
       obtain ⟨d0,d2⟩:=HCELL.out w1_ hB_
       go_simp
       first
        | exact ⟨rfl,Below.refl _ _⟩
        | ((first | rw [decide_eq_true (by omega)] | rw [decide_eq_false (by omega)] | rw [if_pos (by omega)] | rw [IntWalk.i64_in _ (by omega)]);exact ⟨rfl,Below.refl _ _⟩)
        | done
     case nextB =>
     intro w2 hb2
     have HB2:=Lib.hid (HBW.out.trans (hb2.mono hws))
     clear hb2
     go_wp2_with fail
     go_ret
     exact ⟨by rw [HN.out];rfl,HB2.out⟩
    ·have d2:decide (90000 ≤ x.f.save) = false:=decide_eq_false h2
     rcases k with _ | p
     ·have HY:=Lib.hid (show okAt D 0 = true by rw [HOA.out,decide_eq_true (by omega),decide_eq_true (by omega)];rfl)
      have d3:decide ((0:Int) < ((0:Nat):Int)) = false:=by decide
      go_wp2_with fail
      refine wp_env (fin:=?fnC) (by kernel_rfl) [10,11,12,13,14,15,16,17,18,19,20,21,22,23,24,25,26,27,28,29,30,31,32,33,34,35,36,37,38,39,40,41,42,43,44,45,46]
       [.slice (some ⟨bb,o,none⟩) D.length c,.int .i64 ((0:Nat):Int),.pointer (some ⟨bb,o + 0 * 5,none⟩),.pointer (some ⟨bb,o + 0 * 5,none⟩),.pointer (some ⟨bb,o + 0 * 5 + 2,none⟩),.int .i64 x.f.save,.bool false,.bool false,.slice (some ⟨bb,o,none⟩) D.length c,.int .i64 ((0:Nat):Int),.pointer (some ⟨bb,o + 0 * 5,none⟩),.pointer (some ⟨bb,o + 0 * 5,none⟩),.pointer (some ⟨bb,o + 0 * 5 + 2,none⟩),.int .i64 x.f.save,.bool false,.bool false,.bool false,.int .i64 ((0:Nat):Int),.bool false,.bool false,undef,undef,undef,undef,undef,undef,undef,undef,undef,undef,undef,undef,undef,undef,undef,.bool false,.bool false] (by kernel_rfl) ?finC ?stepsC ?nextC
      case finC =>
       simp only [putAll,Act.put,List.setIfInBounds_toArray,List.set_cons_succ,List.set_cons_zero]
       rfl
      case stepsC =>
       refine ⟨?_,?_,?_,?_,?_,?_,?_,?_,?_,?_,?_,?_,?_,?_,?_,?_,?_,?_,?_,?_,?_,?_,?_,?_,?_,?_,?_,?_,?_,?_,?_,?_,?_,?_,?_,?_,?_,trivial⟩
       all_goals first | exact .inl ⟨by kernel_rfl,rfl⟩ | refine .inr ⟨by kernel_rfl,fun w1_ hB_=>?_⟩
       all_goals
        obtain ⟨d0,d2⟩:=HCELL.out w1_ hB_
        go_simp
        first
         | exact ⟨rfl,Below.refl _ _⟩
         | ((first | rw [decide_eq_true (by omega)] | rw [decide_eq_false (by omega)] | rw [if_pos (by omega)] | rw [IntWalk.i64_in _ (by omega)]);exact ⟨rfl,Below.refl _ _⟩)
         | done
      case nextC =>
      intro w2 hb2
      have HB2:=Lib.hid (HBW.out.trans (hb2.mono hws))
      clear hb2
      go_wp2_with fail
      go_roundw
      case rel =>
       refine ⟨0 + 1,by omega,by go_num,fun i hi=>?_,HB2.out⟩
       rcases Nat.lt_or_ge i 0 with g | g
       ·exact HOK.out i g
       ·rw [show i = 0 by omega];exact HY.out
      case measure=>simp [intOf];omega
     ·have hp:p < D.length:=by omega
      have hy:=HC.out p hp
      have hry:=HR.out p hp
      obtain ⟨y,hyk⟩:∃ y,D[p] = y:=⟨_,rfl⟩
      have HOB:=Lib.hid (show okAt D (p + 1) = decide (180000 < x.f.nominal - y.f.nominal) by
       rw [HOA.out,decide_eq_true (by omega),decide_eq_true (by omega)]
       simp only [List.getElem?_eq_getElem hp,hyk,Bool.true_and])
      rw [hyk] at hy hry
      have HCELY:=Lib.hid (fun (W:World) (h:Below wr.heap.size wr W)=>show W.cell? ⟨bb,o + p * 5,none⟩ = some (.int .i64 y.f.nominal) from (h.cell (by show bb < _;omega)).trans hy.1)
      have d3:decide ((0:Int) < ((p + 1:Nat):Int)) = true:=decide_eq_true (by omega)
      have e9:(((p + 1:Nat):Int)) - 1 = p:=by omega
      clear hy hyk
      by_cases h4:x.f.nominal - y.f.nominal ≤ 180000
      ·have d4:decide (x.f.nominal - y.f.nominal ≤ 180000) = true:=decide_eq_true h4
       have HN:=Lib.hid (apB_no hlt (show okAt D (p + 1) = false by rw [HOB.out,decide_eq_false (by omega)]))
       go_wp2_with fail
       refine wp_env (fin:=?fnD) (by kernel_rfl) [10,11,12,13,14,15,16,17,18,19,20,21,22,23,24,25,26,27,28,29,30,31,32,33,34,35,36,37,38,39,40,41,42,43,44,45,46]
        [.slice (some ⟨bb,o,none⟩) D.length c,.int .i64 (((p + 1:Nat):Int)),.pointer (some ⟨bb,o + (p + 1) * 5,none⟩),.pointer (some ⟨bb,o + (p + 1) * 5,none⟩),.pointer (some ⟨bb,o + (p + 1) * 5 + 2,none⟩),.int .i64 x.f.save,.bool false,.bool false,.slice (some ⟨bb,o,none⟩) D.length c,.int .i64 (((p + 1:Nat):Int)),.pointer (some ⟨bb,o + (p + 1) * 5,none⟩),.pointer (some ⟨bb,o + (p + 1) * 5,none⟩),.pointer (some ⟨bb,o + (p + 1) * 5 + 2,none⟩),.int .i64 x.f.save,.bool false,.bool false,.bool false,.int .i64 (((p + 1:Nat):Int)),.bool true,.bool true,.slice (some ⟨bb,o,none⟩) D.length c,.int .i64 (((p + 1:Nat):Int)),.pointer (some ⟨bb,o + (p + 1) * 5,none⟩),.pointer (some ⟨bb,o + (p + 1) * 5,none⟩),.pointer (some ⟨bb,o + (p + 1) * 5,none⟩),.int .i64 x.f.nominal,.slice (some ⟨bb,o,none⟩) D.length c,.int .i64 (((p + 1:Nat):Int)),.int .i64 (p:Int),.pointer (some ⟨bb,o + p * 5,none⟩),.pointer (some ⟨bb,o + p * 5,none⟩),.pointer (some ⟨bb,o + p * 5,none⟩),.int .i64 y.f.nominal,.int .i64 (x.f.nominal - y.f.nominal),.bool true,.bool true,.bool true] (by kernel_rfl) ?finD ?stepsD ?nextD
       case finD =>
        simp only [putAll,Act.put,List.setIfInBounds_toArray,List.set_cons_succ,List.set_cons_zero]
        rfl
       case stepsD =>
        refine ⟨?_,?_,?_,?_,?_,?_,?_,?_,?_,?_,?_,?_,?_,?_,?_,?_,?_,?_,?_,?_,?_,?_,?_,?_,?_,?_,?_,?_,?_,?_,?_,?_,?_,?_,?_,?_,?_,trivial⟩
        all_goals refine .inr ⟨by kernel_rfl,fun w1_ hB_=>?_⟩
        all_goals
         obtain ⟨d0,d2⟩:=HCELL.out w1_ hB_
         have d5:=HCELY.out w1_ hB_
         go_simp
         first
          | exact ⟨rfl,Below.refl _ _⟩
          | ((first | rw [decide_eq_true (by omega)] | rw [decide_eq_false (by omega)] | rw [if_pos (by omega)] | rw [IntWalk.i64_in _ (by omega)]);exact ⟨rfl,Below.refl _ _⟩)
          | done
       case nextD =>
       intro w2 hb2
       have HB2:=Lib.hid (HBW.out.trans (hb2.mono hws))
       clear hb2
       go_wp2_with fail
       go_ret
       exact ⟨by rw [HN.out];rfl,HB2.out⟩
      ·have d4:decide (x.f.nominal - y.f.nominal ≤ 180000) = false:=decide_eq_false h4
       have HY:=Lib.hid (show okAt D (p + 1) = true by rw [HOB.out,decide_eq_true (by omega)])
       go_wp2_with fail
       refine wp_env (fin:=?fnE) (by kernel_rfl) [10,11,12,13,14,15,16,17,18,19,20,21,22,23,24,25,26,27,28,29,30,31,32,33,34,35,36,37,38,39,40,41,42,43,44,45,46]
        [.slice (some ⟨bb,o,none⟩) D.length c,.int .i64 (((p + 1:Nat):Int)),.pointer (some ⟨bb,o + (p + 1) * 5,none⟩),.pointer (some ⟨bb,o + (p + 1) * 5,none⟩),.pointer (some ⟨bb,o + (p + 1) * 5 + 2,none⟩),.int .i64 x.f.save,.bool false,.bool false,.slice (some ⟨bb,o,none⟩) D.length c,.int .i64 (((p + 1:Nat):Int)),.pointer (some ⟨bb,o + (p + 1) * 5,none⟩),.pointer (some ⟨bb,o + (p + 1) * 5,none⟩),.pointer (some ⟨bb,o + (p + 1) * 5 + 2,none⟩),.int .i64 x.f.save,.bool false,.bool false,.bool false,.int .i64 (((p + 1:Nat):Int)),.bool true,.bool true,.slice (some ⟨bb,o,none⟩) D.length c,.int .i64 (((p + 1:Nat):Int)),.pointer (some ⟨bb,o + (p + 1) * 5,none⟩),.pointer (some ⟨bb,o + (p + 1) * 5,none⟩),.pointer (some ⟨bb,o + (p + 1) * 5,none⟩),.int .i64 x.f.nominal,.slice (some ⟨bb,o,none⟩) D.length c,.int .i64 (((p + 1:Nat):Int)),.int .i64 (p:Int),.pointer (some ⟨bb,o + p * 5,none⟩),.pointer (some ⟨bb,o + p * 5,none⟩),.pointer (some ⟨bb,o + p * 5,none⟩),.int .i64 y.f.nominal,.int .i64 (x.f.nominal - y.f.nominal),.bool false,.bool false,.bool false] (by kernel_rfl) ?finE ?stepsE ?nextE
       case finE =>
        simp only [putAll,Act.put,List.setIfInBounds_toArray,List.set_cons_succ,List.set_cons_zero]
        rfl
       case stepsE =>
        refine ⟨?_,?_,?_,?_,?_,?_,?_,?_,?_,?_,?_,?_,?_,?_,?_,?_,?_,?_,?_,?_,?_,?_,?_,?_,?_,?_,?_,?_,?_,?_,?_,?_,?_,?_,?_,?_,?_,trivial⟩
        all_goals refine .inr ⟨by kernel_rfl,fun w1_ hB_=>?_⟩
        all_goals
         obtain ⟨d0,d2⟩:=HCELL.out w1_ hB_
         have d5:=HCELY.out w1_ hB_
         go_simp
         first
          | exact ⟨rfl,Below.refl _ _⟩
          | ((first | rw [decide_eq_true (by omega)] | rw [decide_eq_false (by omega)] | rw [if_pos (by omega)] | rw [IntWalk.i64_in _ (by omega)]);exact ⟨rfl,Below.refl _ _⟩)
          | done
       case nextE =>
       intro w2 hb2
       have HB2:=Lib.hid (HBW.out.trans (hb2.mono hws))
       clear hb2
       go_wp2_with fail
       go_roundw
       case rel =>
        refine ⟨p + 1 + 1,by omega,by go_num,fun i hi=>?_,HB2.out⟩
        rcases Nat.lt_or_ge i (p + 1) with g | g
        ·exact HOK.out i g
        ·rw [show i = p + 1 by omega];exact HY.out
       case measure=>simp [intOf];omega
  ·obtain rfl:k = D.length:=by omega
   have hd:decide ((D.length:Int) < (D.length:Int)) = false:=decide_eq_false (by omega)
   have HY:=Lib.hid (apB_yes HOK.out)
   go_wp2_with fail
   go_ret
   exact ⟨by rw [HY.out];rfl,HBW.out⟩
end
section -- PRight
open Go Go.RowKit Go.Shelf
noncomputable def rightB (l:List Rul):Bool:=@decide (smallB l = true∧(∀ r ∈ l,r.from_ ≤ 2070)∧∃ A,Stab Fir.nominal (genL l 1890 2110) A∧apartB A = true) (Classical.propDecidable _)
theorem rightB_iff {l:List Rul}:rightB l = true ↔ smallB l = true∧(∀ r ∈ l,r.from_ ≤ 2070)∧∃ A,Stab Fir.nominal (genL l 1890 2110) A∧apartB A = true:=by
 unfold rightB;exact @decide_eq_true_iff _ (Classical.propDecidable _)
theorem rightB_no {l:List Rul} (h:¬ (smallB l = true∧(∀ r ∈ l,r.from_ ≤ 2070)∧∃ A,Stab Fir.nominal (genL l 1890 2110) A∧apartB A = true)):rightB l = false:=by
 cases hr:rightB l with
 | false=>rfl
 | true=>exact absurd (rightB_iff.1 hr) h
theorem apB_of {D:List FrI} (h:apartB (D.map FrI.f) = true):apB D = true:=by
 obtain ⟨h1,h2⟩:=apartB_spec h
 refine apB_yes fun i hi=>?_
 have hs:=h1 D[i].f (List.mem_map.2 ⟨D[i],List.getElem_mem hi,rfl⟩)
 unfold okAt
 rw [List.getElem?_eq_getElem hi]
 simp only [Bool.and_eq_true,decide_eq_true_eq]
 refine ⟨hs,?_⟩
 rcases i with _ | j
 ·rfl
 ·have hg:=h2 j (by rw [List.length_map];exact hi)
  rw [List.getElem_map,List.getElem_map] at hg
  simp only [List.getElem?_eq_getElem (show j < D.length by omega),decide_eq_true_eq]
  omega
theorem right_yes {l:List Rul} (h:rightB l = true):∃ A,RightR l A∧Stab Fir.nominal (genL l 1890 2110) A∧apartB A = true:=by
 obtain ⟨h1,h2,A,h3,h4⟩:=rightB_iff.1 h
 exact ⟨A,right_of h1 h2 h3 h4,h3,h4⟩
theorem small_all {l:List Rul} (h:smallB l = true):(∀ r ∈ l,smallR r = true)∧l.length ≤ 6:=by
 unfold smallB at h
 rw [Bool.and_eq_true,List.all_eq_true,decide_eq_true_eq] at h
 exact h
theorem RightR.save_all {l:List Rul} {A:List Fir} (h:RightR l A) {f:Fir} (hf:Fires l f):-90000 < f.save∧f.save < 90000:=by
 obtain ⟨r,hr,y,hy,rfl⟩:=hf
 have hs:=h.small r hr
 obtain ⟨y1,y2,-,-,f1,t1,-⟩:=of_month hy
 by_cases hc:y ≤ 2110
 ·exact h.save _ ((h.mem _).2 ⟨r,hr,y,by omega,hc,hy,rfl⟩)
 ·obtain ⟨j,j1,j2,hj⟩:=of_near hy (a:=2075) (by omega) (by omega) (by omega) (by omega)
  have:=h.save _ ((h.mem _).2 ⟨r,hr,j,by omega,by omega,hj,rfl⟩)
  exact this
theorem small_mo {r:Rul} (h:smallR r = true):mOk r:=by
 unfold smallR at h
 rw [Bool.and_eq_true,decide_eq_true_eq] at h
 exact ⟨h.1.2.2.2.1,h.1.2.2.2.2.1⟩
theorem small_yr {l:List Rul} (h:smallB l = true):yrOk l:=fun r hr=>by
 have:=(small_all h).1 r hr
 unfold smallR at this
 rw [Bool.and_eq_true,decide_eq_true_eq] at this
 omega
theorem right_sv {l:List Rul} (h:rightB l = true):svOk l:=fun f hf=>by
 obtain ⟨A,hA,-,-⟩:=right_yes h
 have:=hA.save_all hf
 omega
theorem D_nom {l:List Rul} {D:List FrI} (hst:Stab Fir.nominal (genL l 1890 2110) (D.map FrI.f)):∀ x ∈ D,-1000000000000000 ≤ x.f.nominal∧x.f.nominal ≤ 1000000000000000:=fun x hx=>by
 have hm:x.f ∈ genL l 1890 2110:=hst.1.mem_iff.1 (List.mem_map.2 ⟨x,hx,rfl⟩)
 unfold genL genR at hm
 rw [List.mem_flatMap] at hm
 obtain ⟨r,hr,hm⟩:=hm
 rw [List.mem_map] at hm
 obtain ⟨y,hy,e⟩:=hm
 rw [List.mem_filter] at hy
 have:=fires_nom (l:=l) (f:=x.f) ⟨r,hr,y,hy.2,e.symm⟩
 omega
theorem right_any (w:World) (B:Nat) (v:Value) (l:List Rul) (hv:Ruls w B v l) (hB:B ≤ w.heap.size) :
  Calls Tryz.prog 47 #[v] w fun e w'=>(∃ u,e = .returned (.tuple #[u,.bool (rightB l)]))∧Below w.heap.size w w':=by
 have HV:=Lib.hid hv
 have HS:=Lib.hid (small_any w B v l hv hB)
 obtain ⟨A,c,rfl,hlc,hcm⟩:=hv.form
 unfold maxLen at hcm
 clear hv
 cases hs:smallB l with
 | false =>
   have HN:=Lib.hid (rightB_no (l:=l) (fun h=>by rw [hs] at h;exact absurd h.1 (by decide)))
   rw [hs] at HS
   clear hs
   go_enter Tryz.func47,Tryz.ntmps47
   go_wp2_with fail
   refine HS.out.mono ?_
   rintro e w1 ⟨rfl,hb⟩
   go_wp2_with fail
   go_ret2
   exact ⟨⟨.slice none 0 0,by rw [HN.out];rfl⟩,hb⟩
 | true =>
   have HSM:=Lib.hid hs
   have hl6:=(small_all hs).2
   rw [hs] at HS
   clear hs
   go_enter Tryz.func47,Tryz.ntmps47
   go_wp2_with fail
   refine HS.out.mono ?_
   rintro e w1 ⟨rfl,hb⟩
   have HB1:=Lib.hid hb
   clear hb HS
   go_wp2_with fail
   go_loopw [4] (fun iv wr=>∃ k:Nat,k ≤ l.length∧iv = .int .i64 k∧(∀ i (h:i < l.length),i < k→l[i].from_ ≤ 2070)∧Below w.heap.size w wr) (fun iv _=>l.length - (intOf iv).toNat)
   case atStart=>exact ⟨0,Nat.zero_le _,rfl,fun i _ h=>absurd h (by omega),HB1.out⟩
   case round =>
    obtain ⟨k,hk,rfl,hno,hbw⟩:=hrel
    have HNO:=Lib.hid hno
    have HBW:=Lib.hid hbw
    have hws:=hbw.size
    clear hno hbw
    by_cases hlt:k < l.length
    ·have hd:decide ((k:Int) < (l.length:Int)) = true:=decide_eq_true (by omega)
     obtain ⟨bb,o,c',e,hbb,hc⟩:=(HV.out.below (HBW.out.mono hB)).cells (by omega)
     cases e
     obtain ⟨-,c1,-⟩:=hc k hlt
     obtain ⟨r,hr⟩:∃ r,l[k] = r:=⟨_,rfl⟩
     have HRK:=Lib.hid hr
     have hrm:=List.getElem_mem hlt
     rw [hr] at c1 hrm
     have HRM:=Lib.hid hrm
     clear hc hr hrm
     by_cases h7:2070 < r.from_
     ·have d7:decide (2070 < r.from_) = true:=decide_eq_true h7
      have HN:=Lib.hid (rightB_no (l:=l) (fun h=>by have:=h.2.1 r HRM.out;omega))
      go_wp2_with fail
      go_ret2
      exact ⟨⟨.slice none 0 0,by rw [HN.out];rfl⟩,HBW.out⟩
     ·have d7:decide (2070 < r.from_) = false:=decide_eq_false h7
      go_wp2_with fail
      go_roundw
      case rel =>
       refine ⟨k + 1,by omega,by go_num,fun i h hik=>?_,HBW.out⟩
       rcases Nat.lt_or_ge i k with g | g
       ·exact HNO.out i h g
       ·obtain rfl:i = k:=by omega
        rw [HRK.out];omega
      case measure=>simp [intOf];omega
    ·obtain rfl:k = l.length:=by omega
     have hd:decide ((l.length:Int) < (l.length:Int)) = false:=decide_eq_false (by omega)
     have HALL:=Lib.hid (show ∀ r ∈ l,r.from_ ≤ 2070 from fun r hr=>by
      obtain ⟨i,hi,rfl⟩:=List.getElem_of_mem hr
      exact HNO.out i hi hi)
     have HAL:=Lib.hid (rall_any wr B _ l 1890 2110 (HV.out.below (HBW.out.mono hB)) (by omega) HSM.out (by omega) (by omega))
     go_wp2_with fail
     refine HAL.out.mono ?_
     rintro e w2 ⟨u,D,rfl,hst,hdi,⟨hfr,-⟩,hb⟩
     have hlen:D.length ≤ 100000:=by
      have h5:=hst.len
      have h6:=genL_len l 1890 2110
      have h7:l.length * (2110 + 1 - 1890:Int).toNat ≤ 6 * 250:=Nat.mul_le_mul hl6 (by decide)
      rw [List.length_map] at h5
      omega
     have HAP:=Lib.hid (apart_any w2 w2.heap.size u D hfr (Nat.le_refl _) hlen (D_nom hst))
     have HVV:=Lib.hid (show rightB l = apB D by
      cases hap:apB D with
      | true=>exact rightB_iff.2 ⟨HSM.out,HALL.out,_,hst,apB_apart hap⟩
      | false =>
        refine rightB_no fun h=>?_
        obtain ⟨-,-,A,hA,hA2⟩:=h
        rw [← hst.unique hA] at hA2
        rw [apB_of hA2] at hap
        exact absurd hap (by decide))
     have HB2:=Lib.hid (HBW.out.trans (hb.mono hws))
     obtain ⟨A2,c2,rfl,-,-⟩:=hfr.form
     generalize apB D = ab at *
     clear hst hdi hfr hb HAL
     go_wp2_with fail
     refine HAP.out.mono ?_
     rintro e w3 ⟨rfl,hb⟩
     have HB3:=Lib.hid (HB2.out.trans (hb.mono HB2.out.size))
     clear hb
     go_wp2_with fail
     go_ret2
     exact ⟨⟨_,by rw [HVV.out];rfl⟩,HB3.out⟩
end
section -- Open
open Go Go.ChangeShapes Go.WideShapes Go.ChangeAt Go.RowKit
theorem wf_i64 {a:Int} (h:(Lit.int .i64 a).wf = true):-9223372036854775808 ≤ a∧a ≤ 9223372036854775807:=by
 simpa [Lit.wf,IntKind.min,IntKind.max,IntKind.signed,IntKind.bits] using h
end
section -- OpenS
open Go Go.ChangeShapes Go.WideShapes Go.ChangeAt Go.RowKit Go.Deep
section
variable {H:Type} {enc:TypeId × Value→H} {P:Program} {W:World}
theorem flat_len {α:Type} (f:α→List Value) (C:Nat) (l:List α) (h:∀ a ∈ l,(f a).length = C):(l.flatMap f).length = l.length * C:=by
 induction l with
 | nil=>simp
 | cons a l ih =>
   rw [List.flatMap_cons,List.length_append,h a (by simp),ih (fun b hb=>h b (by simp [hb])),List.length_cons,Nat.add_mul]
   omega
theorem flat_at {α:Type} (f:α→List Value) (C:Nat) (l:List α) (h:∀ a ∈ l,(f a).length = C) (i k:Nat) (hi:i < l.length) (hk:k < C):(l.flatMap f)[i * C + k]? = (f l[i])[k]?:=by
 induction l generalizing i with
 | nil=>exact absurd hi (by simp)
 | cons a l ih =>
   have ha:=h a (by simp)
   rw [List.flatMap_cons]
   rcases i with _ | i
   ·rw [Nat.zero_mul,Nat.zero_add,List.getElem?_append_left (by omega)]
    rfl
   ·rw [List.getElem?_append_right (by rw [ha,Nat.add_mul];omega),ha,show (i + 1) * C + k - C = i * C + k by rw [Nat.add_mul];omega,ih (fun b hb=>h b (by simp [hb])) i (by simpa using hi)]
    rfl
theorem open_list {α:Type} [Inhabited α] (f:α→List Value) (Pr:α→Prop) {T E:TypeId} {C:Nat} (hT:P.underlying T = some (.slice E)) (hC:P.cellsOf E = C) (h0:0 < C)
  (hel:∀ (n:Nat) (cs:List Value) (y:DataW H × List MemPlace),cs.length = C→DataW.trod enc P W 0 (fun _=>true) true n E cs = some y→∃ a,cs = f a∧Pr a)
  {n:Nat} {cs:List Value} {x:DataW H × List MemPlace} (h:DataW.trod enc P W 0 (fun _=>true) true n T cs = some x):∃ (v:Value) (l:List α),cs = [v]∧Sl W W.heap.size C v l.length (l.flatMap f)∧∀ a ∈ l,Pr a∧(f a).length = C:=by
 rcases open_slice hT h with ⟨rfl,_⟩ | ⟨a,len,cap,m,k,D,Pl,rfl,_,hl,hm,hmm,_,hx⟩
 ·exact ⟨_,[],rfl,Sl.nil _ _ _,fun a h=>by cases h⟩
 ·simp only [if_true] at hmm
  subst hmm
  have each:∀ i,∃ q:α,i < len→W.cells? 0 (a.add (i * C)) C = some (f q)∧Pr q∧(f q).length = C:=fun i=>by
   by_cases hi:i < len
   ·obtain ⟨cs',h1,h2⟩:=hx i (by omega)
    rw [hC] at h1
    obtain ⟨_,hlen,_⟩:=World.cells?_some h1
    obtain ⟨q,rfl,hq⟩:=hel _ _ _ hlen h2
    exact ⟨q,fun _=>⟨h1,hq,hlen⟩⟩
   ·exact ⟨default,fun h=>absurd h hi⟩
  obtain ⟨Q,hQ⟩:=Classical.axiomOfChoice each
  have hlen:((List.range len).map Q).length = len:=by simp
  have hfl:∀ b ∈ (List.range len).map Q,Pr b∧(f b).length = C:=fun b hb=>by
   obtain ⟨i,hi,rfl⟩:=List.mem_map.1 hb
   exact ⟨(hQ i (List.mem_range.1 hi)).2.1,(hQ i (List.mem_range.1 hi)).2.2⟩
  refine ⟨_,(List.range len).map Q,rfl,?_,hfl⟩
  have hfl2:=flat_len f C _ (fun b hb=>(hfl b hb).2)
  rw [hlen] at hfl2 ⊢
  refine ⟨_,_,rfl,hl,hm,hfl2,fun hp=>?_⟩
  obtain ⟨b,o,spot⟩:=a
  obtain ⟨_,_,hc0⟩:=World.cells?_some (hQ 0 hp).1
  have h00:=hc0 0 h0
  rw [List.getElem?_eq_getElem (by rw [(hQ 0 hp).2.2];exact h0)] at h00
  have hspot:spot = none:=by simpa [Addr.add] using World.cell?_spot h00
  subst hspot
  refine ⟨b,o,rfl,?_,fun j u hu=>?_⟩
  ·have:=World.block_lt_of_cell? W _ h00
   simpa [Addr.add_lit] using this
  ·have hj:j < len * C:=by
    have:=(List.getElem?_eq_some_iff.1 hu).1
    rwa [hfl2] at this
   have hd:j / C < len:=Nat.div_lt_of_lt_mul (by rw [Nat.mul_comm];exact hj)
   have hr:j % C < C:=Nat.mod_lt _ h0
   have he:j = j / C * C + j % C:=by rw [Nat.mul_comm];exact (Nat.div_add_mod j C).symm
   obtain ⟨_,hll,hcc⟩:=World.cells?_some (hQ (j / C) hd).1
   have hc:=hcc (j % C) hr
   rw [he,flat_at f C _ (fun b hb=>(hfl b hb).2) _ _ (by rw [hlen];exact hd) hr] at hu
   simp only [List.getElem_map,List.getElem_range] at hu
   rw [he]
   have e2:(some u:Option Value) = some ((f (Q (j / C)))[j % C]'(by omega)):=by rw [← hu];exact List.getElem?_eq_getElem _
   rw [Option.some.inj e2,← List.getElem?_eq_getElem]
   simpa [Addr.add_lit,Nat.add_assoc] using hc
end
end
section -- AWorld
open Go Go.RowKit Go.Shelf
structure EraF where
 n:EraN
 ru:ByteArray
 fm:ByteArray
 en:Bool
instance:Inhabited EraF:=⟨⟨⟨0,0,0,0,0,0,0,0,0⟩,⟨#[]⟩,⟨#[]⟩,false⟩⟩
def EraF.cells (x:EraF):List Value:=(eraC x.n x.ru x.fm x.en).toList
structure SetF where
 name:ByteArray
 v:Value
 l:List Rul
instance:Inhabited SetF:=⟨⟨⟨#[]⟩,.slice none 0 0,[]⟩⟩
def SetF.cells (x:SetF):List Value:=[.string x.name,x.v]
def ErasR (w:World) (B:Nat) (v:Value) (l:List EraF):Prop:=Sl w B 12 v l.length (l.flatMap EraF.cells)
def SetsR (w:World) (B:Nat) (v:Value) (S:List SetF):Prop:=Sl w B 2 v S.length (S.flatMap SetF.cells)∧∀ s ∈ S,Ruls w B s.v s.l
section
variable {w w':World} {B:Nat} {v:Value} {l:List EraF} {S:List SetF}
theorem ErasR.below (h:ErasR w B v l) (hb:Below B w w'):ErasR w' B v l:=Sl.below h hb
theorem SetsR.below (h:SetsR w B v S) (hb:Below B w w'):SetsR w' B v S:=⟨Sl.below h.1 hb,fun s hs=>(h.2 s hs).below hb⟩
theorem ErasR.form (h:ErasR w B v l):∃ A c,v = .slice A l.length c∧l.length ≤ c∧c ≤ maxLen:=by obtain ⟨A,c,e,h1,h2,_⟩:=h;exact ⟨A,c,e,h1,h2⟩
theorem SetsR.form (h:SetsR w B v S):∃ A c,v = .slice A S.length c∧S.length ≤ c∧c ≤ maxLen:=by obtain ⟨A,c,e,h1,h2,_⟩:=h.1;exact ⟨A,c,e,h1,h2⟩
def EraCc (W:World) (b o:Nat) (x:EraF):Prop:=W.cell? ⟨b,o,none⟩ = some (.int .i64 x.n.off)∧W.cell? ⟨b,o + 1,none⟩ = some (.string x.ru)∧W.cell? ⟨b,o + 2,none⟩ = some (.int .i64 x.n.save)∧W.cell? ⟨b,o + 3,none⟩ = some (.string x.fm)∧W.cell? ⟨b,o + 4,none⟩ = some (.bool x.en) ∧
 W.cell? ⟨b,o + 5,none⟩ = some (.int .i64 x.n.year)∧W.cell? ⟨b,o + 6,none⟩ = some (.int .i64 x.n.month)∧W.cell? ⟨b,o + 7,none⟩ = some (.int .i64 x.n.dk)∧W.cell? ⟨b,o + 8,none⟩ = some (.int .i64 x.n.dw)∧W.cell? ⟨b,o + 9,none⟩ = some (.int .i64 x.n.dn)∧W.cell? ⟨b,o + 10,none⟩ = some (.int .i64 x.n.sec)∧W.cell? ⟨b,o + 11,none⟩ = some (.int .i64 x.n.ak)
theorem ErasR.cells (h:ErasR w B v l) (hl:0 < l.length):∃ b o c,v = .slice (some ⟨b,o,none⟩) l.length c∧b < B∧∀ i (hi:i < l.length),EraCc w b (o + i * 12) l[i]:=by
 obtain ⟨b,o,c,e,hb,hc⟩:=Sl.at_ h hl
 refine ⟨b,o,c,e,hb,fun i hi=>?_⟩
 have hk:∀ k u,k < 12→(EraF.cells l[i])[k]? = some u→w.cell? ⟨b,o + i * 12 + k,none⟩ = some u:=fun k u hk hu=>by
  rw [Nat.add_assoc]
  exact hc _ u (by rw [flat_at EraF.cells 12 l (fun a _=>rfl) i k hi hk];exact hu)
 exact ⟨hk 0 _ (by omega) rfl,hk 1 _ (by omega) rfl,hk 2 _ (by omega) rfl,hk 3 _ (by omega) rfl,hk 4 _ (by omega) rfl,hk 5 _ (by omega) rfl,hk 6 _ (by omega) rfl,hk 7 _ (by omega) rfl,hk 8 _ (by omega) rfl,hk 9 _ (by omega) rfl,hk 10 _ (by omega) rfl,hk 11 _ (by omega) rfl⟩
theorem SetsR.cells (h:SetsR w B v S) (hl:0 < S.length):∃ b o c,v = .slice (some ⟨b,o,none⟩) S.length c∧b < B∧∀ i (hi:i < S.length),w.cell? ⟨b,o + i * 2,none⟩ = some (.string S[i].name)∧w.cell? ⟨b,o + i * 2 + 1,none⟩ = some S[i].v:=by
 obtain ⟨b,o,c,e,hb,hc⟩:=Sl.at_ h.1 hl
 refine ⟨b,o,c,e,hb,fun i hi=>?_⟩
 have hk:∀ k u,k < 2→(SetF.cells S[i])[k]? = some u→w.cell? ⟨b,o + i * 2 + k,none⟩ = some u:=fun k u hk hu=>by
  rw [Nat.add_assoc]
  exact hc _ u (by rw [flat_at SetF.cells 2 S (fun a _=>rfl) i k hi hk];exact hu)
 exact ⟨hk 0 _ (by omega) rfl,hk 1 _ (by omega) rfl⟩
end
def ofS (S:List SetF) (name:ByteArray):Option SetF:=S.find? fun s=>s.name.toList == name.toList
def ofVal (S:List SetF) (name:ByteArray):Value:=match ofS S name with | some s=>s.v | none=>.slice none 0 0
def ofRul (S:List SetF) (name:ByteArray):List Rul:=match ofS S name with | some s=>s.l | none=>[]
theorem SetsR.of_ruls {w:World} {B:Nat} {v:Value} {S:List SetF} (h:SetsR w B v S) (name:ByteArray):Ruls w B (ofVal S name) (ofRul S name):=by
 unfold ofVal ofRul
 cases hs:ofS S name with
 | none=>exact Sl.nil _ _ _
 | some s=>exact h.2 s (List.mem_of_find?_eq_some hs)
theorem ofVal_form {w:World} {B:Nat} {v:Value} {S:List SetF} (h:SetsR w B v S) (name:ByteArray):∃ A c,ofVal S name = .slice A (ofRul S name).length c:=by
 obtain ⟨A,c,e,_⟩:=(h.of_ruls name).form
 exact ⟨A,c,e⟩
theorem ofS_drop {S:List SetF} {name:ByteArray} {k:Nat} (hk:k < S.length) (hno:∀ i (h:i < S.length),i < k→(S[i].name.toList == name.toList) = false) (hy:(S[k].name.toList == name.toList) = true):ofS S name = some S[k]:=by
 unfold ofS
 rw [List.find?_eq_some_iff_getElem]
 exact ⟨hy,k,hk,rfl,fun j hj=>by rw [hno j (by omega) hj];rfl⟩
theorem ofS_none {S:List SetF} {name:ByteArray} (hno:∀ i (h:i < S.length),(S[i].name.toList == name.toList) = false):ofS S name = none:=by
 unfold ofS
 rw [List.find?_eq_none]
 intro x hx
 obtain ⟨i,hi,rfl⟩:=List.getElem_of_mem hx
 rw [hno i hi]
 decide
def worldA (zn:ByteArray) (ev sv:Value):Value:=.agg #[.string zn,ev,sv]
theorem wof_any (w:World) (zn:ByteArray) (ev sv:Value) (B:Nat) (S:List SetF) (hs:SetsR w B sv S) (hB:B ≤ w.heap.size) (name:ByteArray) :
  Calls Tryz.prog 15 #[worldA zn ev sv,.string name] w fun o w'=>o = .returned (ofVal S name)∧Below w.heap.size w w':=by
 have hb0:Below w.heap.size w (w.alloc (.cells #[.string zn,ev,sv] 27)):=(Below.refl w.heap.size w).alloc (Nat.le_refl _) _
 have HX:=Lib.hid (Blk.new w 27 #[.string zn,ev,sv])
 have HS:=Lib.hid (hs.below (hb0.mono hB))
 have HB:=Lib.hid hb0
 obtain ⟨A,c,rfl,hlc,hcm⟩:=hs.form
 unfold maxLen at hcm
 unfold worldA
 clear hs hb0
 obtain ⟨W0,hW0⟩:∃ W,w.alloc (.cells #[.string zn,ev,.slice A S.length c] 27) = W:=⟨_,rfl⟩
 go_enter Tryz.func15,Tryz.ntmps15
 go_wp2_with fail
 rw [hW0] at HX HS HB
 try simp only [hW0]
 have hxl:=HX.out.lt
 clear hW0
 have x2:=HX.out.cell 2 (v:=.slice A S.length c) rfl
 go_loopw [5] (fun iv wr=>∃ k:Nat,k ≤ S.length∧iv = .int .i64 k∧wr = W0∧∀ i (h:i < S.length),i < k→(S[i].name.toList == name.toList) = false) (fun iv _=>S.length - (intOf iv).toNat)
 case atStart=>exact ⟨0,Nat.zero_le _,rfl,rfl,fun i _ h=>absurd h (by omega)⟩
 case round =>
  obtain ⟨k,hk,rfl,rfl,hno⟩:=hrel
  have HNO:=Lib.hid hno
  clear hno
  by_cases hlt:k < S.length
  ·have hd:decide ((k:Int) < (S.length:Int)) = true:=decide_eq_true (by omega)
   obtain ⟨bb,o1,c',e,hbb,hc⟩:=HS.out.cells (by omega)
   cases e
   obtain ⟨c0,c1⟩:=hc k hlt
   have HD:=Lib.hid (fun h=>ofS_drop (name:=name) hlt HNO.out h)
   obtain ⟨s,hsk⟩:∃ s,S[k] = s:=⟨_,rfl⟩
   have HSK:=Lib.hid hsk
   rw [hsk] at c0 c1 HD
   clear hc hsk
   cases hq:(s.name.toList == name.toList) with
   | true =>
     have HV:=Lib.hid (show ofVal S name = s.v by unfold ofVal;rw [HD.out hq])
     clear HD
     go_wp2_with fail
     go_ret
     exact ⟨by rw [HV.out];rfl,HB.out⟩
   | false =>
     have HQ:=Lib.hid hq
     go_wp2_with fail
     go_roundw
     case rel =>
      refine ⟨k + 1,by omega,by go_num,by trivial,fun i h hik=>?_⟩
      rcases Nat.lt_or_ge i k with g | g
      ·exact HNO.out i h g
      ·obtain rfl:i = k:=by omega
       rw [HSK.out];exact HQ.out
     case measure=>simp [intOf];omega
  ·have hd:decide ((k:Int) < (S.length:Int)) = false:=decide_eq_false (by omega)
   have HV:=Lib.hid (show ofVal S name = .slice none 0 0 by unfold ofVal;rw [ofS_none (fun i h=>HNO.out i h (by omega))])
   go_wp2_with fail
   go_ret
   exact ⟨by rw [HV.out];rfl,HB.out⟩
end
section -- ARefW
open Go Go.RowKit Go.Shelf
end
section -- ARefN
open Go Go.RowKit Go.Shelf
def EndOk (e:EraN):Prop:=(1900 ≤ e.year∧e.year ≤ 2090)∧(1 ≤ e.month∧e.month ≤ 12)∧(-172800 ≤ e.sec∧e.sec ≤ 259200)∧dayOkB e.dk e.dw e.dn = true
def rnomB (e:EraN):Bool:=decide (e.dn ≤ lenV e.year e.month)
theorem EndOk.day_in {e:EraN} (h:EndOk e) (hb:rnomB e = true):-26000 ≤ inDay e.dk e.dw e.dn e.year e.month∧inDay e.dk e.dw e.dn e.year e.month ≤ 45000:=by
 obtain ⟨⟨y1,y2⟩,⟨m1,m2⟩,-,hd⟩:=h
 obtain ⟨d1,-,d3⟩:=inDay_in (y:=e.year) hd m1 m2 (of_decide_eq_true hb)
 have e1:=yearV_mono y1
 have e2:=yearV_mono (show e.year + 1 ≤ 2091 by omega)
 have e3:yearV 1900 = -25567:=by decide
 have e4:yearV 2091 = 44195:=by decide
 omega
theorem EndOk.nom_in {e:EraN} (h:EndOk e):(-2500000000 ≤ nomV e∧nomV e ≤ 4000000000)∨rnomB e = false:=by
 cases hb:rnomB e with
 | false=>exact .inr rfl
 | true =>
   have:=h.day_in hb
   have:=h.2.2.1
   left
   unfold nomV
   omega
theorem EndOk.nomB_eq {e:EraN} (h:EndOk e) (hk:0 ≤ e.ak∧e.ak ≤ 2):nomB e = rnomB e:=by
 have ⟨⟨y1,y2⟩,⟨m1,m2⟩,⟨s1,s2⟩,hd⟩:=h
 unfold nomB inOkB inB ymB mayB
 rw [hd,decide_eq_true (p:=0 ≤ e.ak∧e.ak ≤ 2) hk,decide_eq_true (p:=-604800 < e.sec∧e.sec < 604800) ⟨by omega,by omega⟩,decide_eq_true (p:=-100000 ≤ e.year∧e.year ≤ 100000∧1 ≤ e.month∧e.month ≤ 12) ⟨by omega,by omega,m1,m2⟩]
 show (decide _ && _ && true && true) = rnomB e
 cases hb:rnomB e with
 | false =>
   unfold rnomB at hb
   rw [hb]
   rfl
 | true =>
   have hday:=h.day_in hb
   have hof:ofInB (inDay e.dk e.dw e.dn e.year e.month) = true:=by unfold ofInB;rw [decide_eq_true_eq];omega
   unfold rnomB at hb
   rw [hb,hof,Bool.or_true]
   rfl
end
section -- ARefE
open Go Go.RowKit Go.Shelf
end
section -- AFew
open Go Go.RowKit Go.Shelf
def eraFewB (x:EraF):Bool:=decide (x.fm.size ≤ 100) && (!x.en || (decide ((1900 ≤ x.n.year∧x.n.year ≤ 2090)∧(1 ≤ x.n.month∧x.n.month ≤ 12)∧(-172800 ≤ x.n.sec∧x.n.sec ≤ 259200)) && dayOkB x.n.dk x.n.dw x.n.dn))
theorem eraFew_end {x:EraF} (h:eraFewB x = true) (he:x.en = true):EndOk x.n:=by
 unfold eraFewB at h
 rw [he] at h
 simp only [Bool.and_eq_true,Bool.not_true,Bool.false_or,decide_eq_true_eq] at h
 exact ⟨h.2.1.1,h.2.1.2.1,h.2.1.2.2,h.2.2⟩
theorem eraFew_fm {x:EraF} (h:eraFewB x = true):x.fm.size ≤ 100:=by
 unfold eraFewB at h
 rw [Bool.and_eq_true,decide_eq_true_eq] at h
 exact h.1
noncomputable def fewB (l:List EraF) (S:List SetF):Bool:=l.all eraFewB && (S.all fun s=>rightB s.l) && (decide (l.length ≤ 4) && decide (S.length ≤ 3))
theorem fewB_iff {l:List EraF} {S:List SetF}:fewB l S = true ↔ (∀ x ∈ l,eraFewB x = true)∧(∀ s ∈ S,rightB s.l = true)∧l.length ≤ 4∧S.length ≤ 3:=by
 unfold fewB
 simp only [Bool.and_eq_true,List.all_eq_true,decide_eq_true_eq,and_assoc]
theorem fewB_era {l:List EraF} {S:List SetF} {k:Nat} {x:EraF} (hk:k < l.length) (hx:l[k] = x) (h:eraFewB x = false):fewB l S = false:=by
 cases hf:fewB l S with
 | false=>rfl
 | true=>have:=(fewB_iff.1 hf).1 x (hx ▸ List.getElem_mem hk);rw [h] at this;exact absurd this (by decide)
theorem fewB_set {l:List EraF} {S:List SetF} {k:Nat} {s:SetF} (hk:k < S.length) (hs:S[k] = s) (h:rightB s.l = false):fewB l S = false:=by
 cases hf:fewB l S with
 | false=>rfl
 | true=>have:=(fewB_iff.1 hf).2.1 s (hs ▸ List.getElem_mem hk);rw [h] at this;exact absurd this (by decide)
theorem few_any (w:World) (zn:ByteArray) (ev sv:Value) (B:Nat) (l:List EraF) (S:List SetF) (he:ErasR w B ev l) (hs:SetsR w B sv S) (hB:B ≤ w.heap.size) (hfm:∀ x ∈ l,x.fm.size < 1152921504606846976) :
  Calls Tryz.prog 16 #[worldA zn ev sv] w fun o w'=>o = .returned (.bool (fewB l S))∧Below w.heap.size w w':=by
 obtain ⟨A,cA,rfl,hlc,hcm⟩:=he.form
 obtain ⟨A2,cS,rfl,hlc2,hcm2⟩:=hs.form
 unfold maxLen at hcm hcm2
 have hb0:Below w.heap.size w (w.alloc (.cells #[.string zn,.slice A l.length cA,.slice A2 S.length cS] 27)):=(Below.refl w.heap.size w).alloc (Nat.le_refl _) _
 have HX:=Lib.hid (Blk.new w 27 #[.string zn,.slice A l.length cA,.slice A2 S.length cS])
 have HE:=Lib.hid (he.below (hb0.mono hB))
 have HS:=Lib.hid (hs.below (hb0.mono hB))
 have HB:=Lib.hid hb0
 have HFM:=Lib.hid hfm
 clear hb0 he hs hfm
 unfold worldA
 go_enter Tryz.func16,Tryz.ntmps16
 go_wp2_with fail
 obtain ⟨W0,hW0⟩:∃ W,w.alloc (.cells #[.string zn,.slice A l.length cA,.slice A2 S.length cS] 27) = W:=⟨_,rfl⟩
 rw [hW0] at HX HE HS HB
 try simp only [hW0]
 clear hW0
 go_loopw [3] (fun iv wr=>∃ k:Nat,k ≤ l.length∧iv = .int .i64 k∧(∀ i (h:i < l.length),i < k→eraFewB l[i] = true)∧Below w.heap.size w wr∧Below W0.heap.size W0 wr) (fun iv _=>l.length - (intOf iv).toNat)
 case atStart=>exact ⟨0,Nat.zero_le _,rfl,fun i _ h=>absurd h (by omega),HB.out,Below.refl _ _⟩
 case round =>
  obtain ⟨k,hk,rfl,hno,hbw,hbi⟩:=hrel
  have HNO:=Lib.hid hno
  have HBW:=Lib.hid hbw
  have HBI:=Lib.hid hbi
  have HXW:=Lib.hid (HX.out.below hbi HX.out.lt)
  have hws:=hbw.size
  have hxl:=HXW.out.lt
  have x1:=HXW.out.cell 1 (v:=.slice A l.length cA) rfl
  have x2:=HXW.out.cell 2 (v:=.slice A2 S.length cS) rfl
  have HEW:=Lib.hid (HE.out.below (hbi.mono (Nat.le_trans hB HB.out.size)))
  clear hno hbw hbi
  by_cases hlt:k < l.length
  ·have hd:decide ((k:Int) < (l.length:Int)) = true:=decide_eq_true (by omega)
   obtain ⟨bb,o,c',e,hbb,hc⟩:=HEW.out.cells (by omega)
   cases e
   have hx:=hc k hlt
   have hf9:=HFM.out _ (List.getElem_mem hlt)
   obtain ⟨x,hxk⟩:∃ x,l[k] = x:=⟨_,rfl⟩
   rw [hxk] at hx hf9
   have HXK:=Lib.hid hxk
   obtain ⟨c0,c1,c2,c3,c4,c5,c6,c7,c8,c9,c10,c11⟩:=hx
   have HBAD:=Lib.hid (fun h=>fewB_era (S:=S) hlt hxk h)
   have HDF:=Lib.hid (fun W=>dfcheck_any x.n.dk x.n.dw x.n.dn W)
   unfold dayA at HDF
   clear hc hxk
   by_cases h1:100 < x.fm.size
   ·have d1:decide ((100:Int) < (x.fm.size:Int)) = true:=decide_eq_true (by omega)
    have HN:=Lib.hid (HBAD.out (by unfold eraFewB;rw [decide_eq_false (by omega)];rfl))
    go_wp2_with fail
    go_ret
    exact ⟨by rw [HN.out];rfl,((HBW.out).alloc hws _).alloc (by simp;omega) _⟩
   ·have d1:decide ((100:Int) < (x.fm.size:Int)) = false:=decide_eq_false (by omega)
    obtain ⟨en,hen⟩:∃ en,x.en = en:=⟨_,rfl⟩
    rw [hen] at c4
    cases en with
    | false =>
      have HOK:=Lib.hid (show eraFewB x = true by unfold eraFewB;rw [decide_eq_true (by omega),hen];rfl)
      go_wp2_with fail
      go_roundw
      case rel =>
       refine ⟨k + 1,by omega,by go_num,fun i h hik=>?_,((HBW.out).alloc hws _).alloc (by simp;omega) _,((HBI.out).alloc HBI.out.size _).alloc (by have:=HBI.out.size;simp;omega) _⟩
       rcases Nat.lt_or_ge i k with g | g
       ·exact HNO.out i h g
       ·obtain rfl:i = k:=by omega
        rw [HXK.out];exact HOK.out
      case measure=>simp [intOf];omega
    | true =>
      by_cases g0:x.n.year < 1900
      ·have e0:decide (x.n.year < 1900) = true:=decide_eq_true g0
       have HN:=Lib.hid (HBAD.out (by unfold eraFewB;rw [hen,decide_eq_false (p:=(1900 ≤ x.n.year∧x.n.year ≤ 2090)∧(1 ≤ x.n.month∧x.n.month ≤ 12)∧(-172800 ≤ x.n.sec∧x.n.sec ≤ 259200)) (by omega)];simp))
       go_wp2_with fail
       go_ret
       exact ⟨by rw [HN.out];rfl,((HBW.out).alloc hws _).alloc (by simp;omega) _⟩
      ·have e0:decide (x.n.year < 1900) = false:=decide_eq_false g0
       by_cases g1:2090 < x.n.year
       ·have e1:decide (2090 < x.n.year) = true:=decide_eq_true g1
        have HN:=Lib.hid (HBAD.out (by unfold eraFewB;rw [hen,decide_eq_false (p:=(1900 ≤ x.n.year∧x.n.year ≤ 2090)∧(1 ≤ x.n.month∧x.n.month ≤ 12)∧(-172800 ≤ x.n.sec∧x.n.sec ≤ 259200)) (by omega)];simp))
        go_wp2_with fail
        go_ret
        exact ⟨by rw [HN.out];rfl,((HBW.out).alloc hws _).alloc (by simp;omega) _⟩
       ·have e1:decide (2090 < x.n.year) = false:=decide_eq_false g1
        by_cases g2:x.n.month < 1
        ·have e2:decide (x.n.month < 1) = true:=decide_eq_true g2
         have HN:=Lib.hid (HBAD.out (by unfold eraFewB;rw [hen,decide_eq_false (p:=(1900 ≤ x.n.year∧x.n.year ≤ 2090)∧(1 ≤ x.n.month∧x.n.month ≤ 12)∧(-172800 ≤ x.n.sec∧x.n.sec ≤ 259200)) (by omega)];simp))
         go_wp2_with fail
         go_ret
         exact ⟨by rw [HN.out];rfl,((HBW.out).alloc hws _).alloc (by simp;omega) _⟩
        ·have e2:decide (x.n.month < 1) = false:=decide_eq_false g2
         by_cases g3:12 < x.n.month
         ·have e3:decide (12 < x.n.month) = true:=decide_eq_true g3
          have HN:=Lib.hid (HBAD.out (by unfold eraFewB;rw [hen,decide_eq_false (p:=(1900 ≤ x.n.year∧x.n.year ≤ 2090)∧(1 ≤ x.n.month∧x.n.month ≤ 12)∧(-172800 ≤ x.n.sec∧x.n.sec ≤ 259200)) (by omega)];simp))
          go_wp2_with fail
          go_ret
          exact ⟨by rw [HN.out];rfl,((HBW.out).alloc hws _).alloc (by simp;omega) _⟩
         ·have e3:decide (12 < x.n.month) = false:=decide_eq_false g3
          by_cases g4:x.n.sec < -172800
          ·have e4:decide (x.n.sec < -172800) = true:=decide_eq_true g4
           have HN:=Lib.hid (HBAD.out (by unfold eraFewB;rw [hen,decide_eq_false (p:=(1900 ≤ x.n.year∧x.n.year ≤ 2090)∧(1 ≤ x.n.month∧x.n.month ≤ 12)∧(-172800 ≤ x.n.sec∧x.n.sec ≤ 259200)) (by omega)];simp))
           go_wp2_with fail
           go_ret
           exact ⟨by rw [HN.out];rfl,((HBW.out).alloc hws _).alloc (by simp;omega) _⟩
          ·have e4:decide (x.n.sec < -172800) = false:=decide_eq_false g4
           by_cases g5:259200 < x.n.sec
           ·have e5:decide (259200 < x.n.sec) = true:=decide_eq_true g5
            have HN:=Lib.hid (HBAD.out (by unfold eraFewB;rw [hen,decide_eq_false (p:=(1900 ≤ x.n.year∧x.n.year ≤ 2090)∧(1 ≤ x.n.month∧x.n.month ≤ 12)∧(-172800 ≤ x.n.sec∧x.n.sec ≤ 259200)) (by omega)];simp))
            go_wp2_with fail
            go_ret
            exact ⟨by rw [HN.out];rfl,((HBW.out).alloc hws _).alloc (by simp;omega) _⟩
           ·have e5:decide (259200 < x.n.sec) = false:=decide_eq_false g5
            cases hdk:dayOkB x.n.dk x.n.dw x.n.dn with
            | false =>
              simp only [hdk,Bool.false_eq_true,if_false] at HDF
              have HN:=Lib.hid (HBAD.out (by unfold eraFewB;rw [hen,hdk];simp))
              go_wp2_with fail
              refine (HDF.out _).mono ?_
              rintro e w2 ⟨rfl,hb⟩
              have HB2:=Lib.hid ((((HBW.out).alloc hws _).alloc (by simp;omega) _).trans (hb.mono (by simp;omega)))
              have HQ2:=Lib.hid (((Below.refl wr.heap.size wr).alloc (Nat.le_refl _) _).alloc (by simp) _ |>.trans (hb.mono (by simp;omega)))
              clear hb
              go_wp2_with fail
              go_ret
              exact ⟨by rw [HN.out];rfl,HB2.out⟩
            | true =>
              simp only [hdk,if_true] at HDF
              have HOK:=Lib.hid (show eraFewB x = true by unfold eraFewB;rw [hen,hdk,decide_eq_true (by omega),decide_eq_true (p:=(1900 ≤ x.n.year∧x.n.year ≤ 2090)∧(1 ≤ x.n.month∧x.n.month ≤ 12)∧(-172800 ≤ x.n.sec∧x.n.sec ≤ 259200)) (by omega)];rfl)
              go_wp2_with fail
              refine (HDF.out _).mono ?_
              rintro e w2 ⟨rfl,hb⟩
              have HB2:=Lib.hid ((((HBW.out).alloc hws _).alloc (by simp;omega) _).trans (hb.mono (by simp;omega)))
              have HQ2:=Lib.hid (((Below.refl wr.heap.size wr).alloc (Nat.le_refl _) _).alloc (by simp) _ |>.trans (hb.mono (by simp;omega)))
              clear hb
              go_wp2_with fail
              go_roundw
              case rel =>
               refine ⟨k + 1,by omega,by go_num,fun i h hik=>?_,HB2.out,HBI.out.trans (HQ2.out.mono HBI.out.size)⟩
               rcases Nat.lt_or_ge i k with g | g
               ·exact HNO.out i h g
               ·obtain rfl:i = k:=by omega
                rw [HXK.out];exact HOK.out
              case measure=>simp [intOf];omega
  ·obtain rfl:k = l.length:=by omega
   have hd:decide ((l.length:Int) < (l.length:Int)) = false:=decide_eq_false (by omega)
   obtain ⟨w1,hw1⟩:∃ x,x = wr:=⟨_,rfl⟩
   subst hw1
   have HALL:=Lib.hid (show ∀ x ∈ l,eraFewB x = true from fun x hx=>by
    obtain ⟨i,hi,rfl⟩:=List.getElem_of_mem hx
    exact HNO.out i hi hi)
   have HSW:=Lib.hid (HS.out.below (HBI.out.mono (Nat.le_trans hB HB.out.size)))
   have hbw:=Nat.le_trans hB hws
   clear HNO HE HS HBI hk
   go_wp2_with fail
   go_loopw [6] (fun iv W2=>∃ k:Nat,k ≤ S.length∧iv = .int .i64 k∧(∀ i (h:i < S.length),i < k→rightB S[i].l = true)∧Below w1.heap.size w1 W2) (fun iv _=>S.length - (intOf iv).toNat)
   case atStart=>exact ⟨0,Nat.zero_le _,rfl,fun i _ h=>absurd h (by omega),Below.refl _ _⟩
   case round =>
    obtain ⟨j,hj,rfl,hno,hb2⟩:=hrel
    have HNO:=Lib.hid hno
    have HB2:=Lib.hid hb2
    have hws2:=hb2.size
    have HX2:=Lib.hid (HXW.out.below hb2 hxl)
    have HS2:=Lib.hid (HSW.out.below (hb2.mono hbw))
    have hxl2:=HX2.out.lt
    have x1:=HX2.out.cell 1 (v:=.slice A l.length cA) rfl
    have x2:=HX2.out.cell 2 (v:=.slice A2 S.length cS) rfl
    clear hno hb2
    by_cases hlt:j < S.length
    ·have hd:decide ((j:Int) < (S.length:Int)) = true:=decide_eq_true (by omega)
     obtain ⟨bb,o,c',e,hbb,hc⟩:=HS2.out.cells (by omega)
     cases e
     obtain ⟨-,c1⟩:=hc j hlt
     have HRU:=Lib.hid (HS2.out.2 S[j] (List.getElem_mem hlt))
     have HBAD:=Lib.hid (fun s hs h=>fewB_set (l:=l) (s:=s) hlt hs h)
     obtain ⟨s,hsk⟩:∃ s,S[j] = s:=⟨_,rfl⟩
     have HSK:=Lib.hid hsk
     rw [hsk] at c1 HRU
     have HRI:=Lib.hid (right_any wr B s.v s.l HRU.out (by omega))
     have HBAD2:=Lib.hid (HBAD.out s hsk)
     clear hc hsk HBAD
     generalize s.v = vs at *
     cases hr:rightB s.l with
     | false =>
       have HN:=Lib.hid (HBAD2.out hr)
       rw [hr] at HRI
       go_wp2_with fail
       refine HRI.out.mono ?_
       rintro e w3 ⟨⟨u,rfl⟩,hb⟩
       have HB3:=Lib.hid (HBW.out.trans ((HB2.out.trans (hb.mono hws2)).mono hws))
       clear hb
       go_wp2_with fail
       go_ret
       exact ⟨by rw [HN.out];rfl,HB3.out⟩
     | true =>
       have HR9:=Lib.hid hr
       rw [hr] at HRI
       clear hr
       go_wp2_with fail
       refine HRI.out.mono ?_
       rintro e w3 ⟨⟨u,rfl⟩,hb⟩
       have HB3:=Lib.hid (HB2.out.trans (hb.mono hws2))
       clear hb
       go_wp2_with fail
       go_roundw
       case rel =>
        refine ⟨j + 1,by omega,by go_num,fun i h hik=>?_,HB3.out⟩
        rcases Nat.lt_or_ge i j with g | g
        ·exact HNO.out i h g
        ·obtain rfl:i = j:=by omega
         rw [HSK.out];exact HR9.out
       case measure=>simp [intOf];omega
    ·obtain rfl:j = S.length:=by omega
     have hd2:decide ((S.length:Int) < (S.length:Int)) = false:=decide_eq_false (by omega)
     have HALS:=Lib.hid (show ∀ x ∈ S,rightB x.l = true from fun x hx=>by
      obtain ⟨i,hi,rfl⟩:=List.getElem_of_mem hx
      exact HNO.out i hi hi)
     have HV:=Lib.hid (show fewB l S = (decide (l.length ≤ 4) && decide (S.length ≤ 3)) by
      unfold fewB
      rw [List.all_eq_true.2 HALL.out,List.all_eq_true.2 HALS.out]
      rfl)
     have HB3:=Lib.hid (HBW.out.trans (HB2.out.mono hws))
     by_cases h4:l.length ≤ 4
     ·have d4:decide ((l.length:Int) ≤ 4) = true:=decide_eq_true (by omega)
      rw [decide_eq_true h4] at HV
      by_cases h3:S.length ≤ 3
      ·have d3:decide ((S.length:Int) ≤ 3) = true:=decide_eq_true (by omega)
       rw [decide_eq_true h3] at HV
       go_wp2_with fail
       go_ret
       exact ⟨by rw [HV.out];rfl,HB3.out⟩
      ·have d3:decide ((S.length:Int) ≤ 3) = false:=decide_eq_false (by omega)
       rw [decide_eq_false h3] at HV
       go_wp2_with fail
       go_ret
       exact ⟨by rw [HV.out];rfl,HB3.out⟩
     ·have d4:decide ((l.length:Int) ≤ 4) = false:=decide_eq_false (by omega)
      rw [decide_eq_false h4] at HV
      go_wp2_with fail
      go_ret
      exact ⟨by rw [HV.out];rfl,HB3.out⟩
end
section -- AWithM
open Go Go.RowKit Go.Shelf
theorem right_nil:rightB [] = true:=rightB_iff.2 ⟨rfl,fun r hr=>(by cases hr),[],Stab.nil,rfl⟩
theorem set_right {S:List SetF} (h:∀ s ∈ S,rightB s.l = true) (name:ByteArray):rightB (ofRul S name) = true:=by
 unfold ofRul
 cases hs:ofS S name with
 | none=>exact right_nil
 | some s=>exact h s (List.mem_of_find?_eq_some hs)
theorem right_small {l:List Rul} (h:rightB l = true):smallB l = true:=(rightB_iff.1 h).1
theorem right_ok {l:List Rul} (h:rightB l = true):RuOk l where
 yr:=small_yr (right_small h)
 sv:=right_sv h
 len:=by have:=(small_all (right_small h)).2;omega
 mon:=fun z hz=>small_mo ((small_all (right_small h)).1 z hz)
def letOk (l:List Rul):Prop:=∀ r ∈ l,r.letter.size ≤ 140737488351232
theorem bestR_mem {l:List Rul} {r:Rul} (h:bestR l = some r):r ∈ l:=by
 have hg:∀ (l:List Rul) (b:Option Rul),l.foldl bestS b = some r→b = some r∨r ∈ l:=by
  intro l
  induction l with
  | nil=>exact fun b h=>.inl h
  | cons x t ih =>
    intro b h
    rw [List.foldl_cons] at h
    rcases ih _ h with h2 | h2
    ·unfold bestS at h2
     split at h2
     ·split at h2
      ·right;injection h2 with h2;subst h2;exact List.mem_cons_self
      ·split at h2
       ·right;injection h2 with h2;subst h2;exact List.mem_cons_self
       ·exact .inl h2
     ·exact .inl h2
    ·exact .inr (List.mem_cons_of_mem _ h2)
 rcases hg l none h with h2 | h2
 ·cases h2
 ·exact h2
theorem letV_in {l:List Rul} (h:letOk l):(letV l).size ≤ 140737488351232:=by
 unfold letV
 cases hb:bestR l with
 | none=>exact (by decide)
 | some r=>exact h r (bestR_mem hb)
theorem fires_let {l:List Rul} {f:Fir} (h:letOk l) (hf:Fires l f):f.letter.size ≤ 140737488351232:=by
 obtain ⟨r,hr,y,-,rfl⟩:=hf
 exact h r hr
end
section -- GMath
open Go Go.RowKit Go.Shelf
def ruleE (S:List SetF) (x:EraF):List Rul:=if x.ru.size = 0 then [] else ofRul S x.ru
def rvalE (S:List SetF) (x:EraF):Value:=if x.ru.size = 0 then .slice none 0 0 else ofVal S x.ru
def errE (x:EraF) (last:Bool):Int :=
 if (kindR x.fm.data.toList).2 = 0 then
  (if withinB x.n.off && withinB x.n.save then
    (if (decide (x.ru.size ≠ 0) && decide (x.n.save ≠ 0)) || (x.en == last) then 12
      else if x.en then (nomR x.n).2 else 0)
    else 10)
 else (kindR x.fm.data.toList).2
def missB (S:List SetF) (x:EraF):Bool:=decide (x.ru.size ≠ 0) && decide ((ofRul S x.ru).length = 0)
def errAt (l:List EraF) (i:Nat):Int:=match l[i]? with | some x=>errE x (decide (i + 1 = l.length)) | none=>0
def errsF (l:List EraF):Int:=match (List.range l.length).find? (fun i=>decide (errAt l i ≠ 0)) with | some i=>errAt l i | none=>0
def endL (S:List SetF) (l:List EraF):List Int:=l.dropLast.map fun x=>endN x.n x.ru (ruleE S x)
def riseI (l:List Int):Bool:=(List.range (l.length - 1)).all fun i=>decide (l.getD i 0 < l.getD (i + 1) 0)
def errZ (S:List SetF) (l:List EraF):Int :=
 if l.length = 0∨l.any (missB S) = true then 16 else if errsF l ≠ 0 then errsF l else if riseI (endL S l) then 0 else 17
theorem errAt_eq {l:List EraF} {i:Nat} (h:i < l.length):errAt l i = errE l[i] (decide (i + 1 = l.length)):=by unfold errAt;rw [List.getElem?_eq_getElem h]
theorem errsF_at {l:List EraF} {k:Nat} (hk:k < l.length) (hno:∀ i,i < k→errAt l i = 0) (h:errAt l k ≠ 0):errsF l = errAt l k:=by
 have:(List.range l.length).find? (fun i=>decide (errAt l i ≠ 0)) = some k:=by
  rw [List.find?_eq_some_iff_getElem]
  refine ⟨by simpa using h,k,by simpa using hk,by simp,fun j hj=>?_⟩
  simp [hno j hj]
 unfold errsF
 rw [this]
theorem errsF_none {l:List EraF} (h:∀ i,i < l.length→errAt l i = 0):errsF l = 0:=by
 have:(List.range l.length).find? (fun i=>decide (errAt l i ≠ 0)) = none:=by
  rw [List.find?_eq_none]
  intro i hi
  simp [h i (by simpa using hi)]
 unfold errsF
 rw [this]
theorem errsF_zero {l:List EraF} (h:errsF l = 0):∀ i,i < l.length→errAt l i = 0:=by
 intro i hi
 unfold errsF at h
 cases hf:(List.range l.length).find? (fun i=>decide (errAt l i ≠ 0)) with
 | none =>
   rw [List.find?_eq_none] at hf
   have:=hf i (by simpa using hi)
   simpa using this
 | some k =>
   rw [hf] at h
   have:=List.find?_some hf
   simp at this
   exact absurd h this
theorem errZ_none {S:List SetF} {l:List EraF} (h:l.length = 0):errZ S l = 16:=by unfold errZ;rw [if_pos (.inl h)]
theorem errZ_miss {S:List SetF} {l:List EraF} {k:Nat} (hk:k < l.length) (h:missB S l[k] = true):errZ S l = 16:=by
 unfold errZ
 rw [if_pos (.inr (List.any_eq_true.2 ⟨_,List.getElem_mem hk,h⟩))]
theorem errZ_there {S:List SetF} {l:List EraF} (h0:l.length ≠ 0) (h:∀ i (hi:i < l.length),missB S l[i] = false):errZ S l = if errsF l ≠ 0 then errsF l else if riseI (endL S l) then 0 else 17:=by
 unfold errZ
 rw [if_neg]
 rintro (e | e)
 ·exact h0 e
 ·obtain ⟨x,hx,he⟩:=List.any_eq_true.1 e
  obtain ⟨i,hi,rfl⟩:=List.getElem_of_mem hx
  rw [h i hi] at he
  cases he
theorem length_endL (S:List SetF) (l:List EraF):(endL S l).length = l.length - 1:=by unfold endL;simp
theorem endL_at {S:List SetF} {l:List EraF} {i:Nat} (h:i + 1 < l.length):(endL S l)[i]? = some (endN l[i].n l[i].ru (ruleE S l[i])):=by
 unfold endL
 rw [List.getElem?_map,List.getElem?_dropLast,if_pos (by omega),List.getElem?_eq_getElem (by omega)]
 rfl
theorem endL_get {S:List SetF} {l:List EraF} {i:Nat} (h:i + 1 < l.length):(endL S l).getD i 0 = endN l[i].n l[i].ru (ruleE S l[i]):=by
 rw [List.getD_eq_getElem?_getD,endL_at h];rfl
theorem riseI_iff {l:List Int}:riseI l = true ↔ ∀ i,i + 1 < l.length→l.getD i 0 < l.getD (i + 1) 0:=by
 unfold riseI
 rw [List.all_eq_true]
 constructor
 ·exact fun h i hi=>of_decide_eq_true (h i (by simp;omega))
 ·exact fun h i hi=>decide_eq_true (h i (by have:=List.mem_range.1 hi;omega))
theorem riseI_no {l:List Int} {i:Nat} (hi:i + 1 < l.length) (h:l.getD (i + 1) 0 ≤ l.getD i 0):riseI l = false:=by
 cases hr:riseI l with
 | false=>rfl
 | true=>have:=riseI_iff.1 hr i hi;omega
def eraI (ends:List Int) (i:Int):Nat:=(ends.findIdx fun n=>decide (i < n))
theorem eraI_at {ends:List Int} {i:Int} {k:Nat} (hk:k < ends.length) (hno:∀ j (h:j < ends.length),j < k→¬ i < ends[j]) (h:i < ends[k]):eraI ends i = k:=by
 unfold eraI
 rw [List.findIdx_eq hk]
 exact ⟨decide_eq_true h,fun j hj=>decide_eq_false (hno j (by omega) hj)⟩
theorem eraI_none {ends:List Int} {i:Int} (hno:∀ j (h:j < ends.length),¬ i < ends[j]):eraI ends i = ends.length:=by
 unfold eraI
 rw [List.findIdx_eq_length]
 intro x hx
 obtain ⟨j,hj,rfl⟩:=List.getElem_of_mem hx
 exact decide_eq_false (hno j hj)
theorem eraI_le (ends:List Int) (i:Int):eraI ends i ≤ ends.length:=List.findIdx_le_length
theorem errZ_zero {S:List SetF} {l:List EraF} (h:errZ S l = 0):l.length ≠ 0∧(∀ i (hi:i < l.length),missB S l[i] = false)∧(∀ i,i < l.length→errAt l i = 0)∧riseI (endL S l) = true:=by
 unfold errZ at h
 split at h
 ·cases h
 ·rename_i hn
  have hn1:l.length ≠ 0:=fun e=>hn (.inl e)
  have hn2:∀ i (hi:i < l.length),missB S l[i] = false:=fun i hi=>by
   cases hm:missB S l[i] with
   | false=>rfl
   | true=>exact absurd (.inr (List.any_eq_true.2 ⟨_,List.getElem_mem hi,hm⟩)) hn
  split at h
  ·rename_i he;exact absurd h he
  ·rename_i he
   split at h
   ·rename_i hr;exact ⟨hn1,hn2,errsF_zero (Classical.not_not.1 he),hr⟩
   ·cases h
theorem errE_zero {x:EraF} {last:Bool} (h:errE x last = 0):(kindR x.fm.data.toList).2 = 0∧(-90000 < x.n.off∧x.n.off < 90000)∧(-90000 < x.n.save∧x.n.save < 90000)∧x.en = !last∧(x.ru.size ≠ 0→x.n.save = 0)∧(x.en = true→nomB x.n = true):=by
 unfold errE at h
 split at h
 ·rename_i hk
  split at h
  ·rename_i hw
   rw [Bool.and_eq_true] at hw
   split at h
   ·cases h
   ·rename_i hf
    rw [Bool.or_eq_true,not_or,Bool.and_eq_true,not_and,decide_eq_true_eq] at hf
    refine ⟨hk,withinB_iff.1 hw.1,withinB_iff.1 hw.2,?_,fun h0=>?_,fun he=>?_⟩
    ·have:=hf.2
     revert this
     cases x.en <;> cases last <;> simp
    ·have:=hf.1 h0
     simpa using this
    ·rw [if_pos he] at h
     unfold nomR at h
     cases hb:nomB x.n with
     | true=>rfl
     | false=>rw [hb] at h;simp at h
  ·cases h
 ·rename_i hk;exact absurd h hk
end
section -- GCheck
open Go Go.RowKit Go.Shelf
theorem zcheck_any (x:EraF) (last:Bool) (w:World) (hs:x.fm.size < 4294967281) (hm:Tryz.MaxL w) (ha:Ahead w) :
  Calls Tryz.prog 66 #[eraA x.n x.ru x.fm x.en,.bool last] w fun o w'=>o = .returned (.int .i64 (errE x last))∧Below w.heap.size w w':=by
 unfold eraA
 have hb0:=(Below.refl w.heap.size w).alloc (Nat.le_refl _) (.cells (eraC x.n x.ru x.fm x.en) 42)
 have hblk:=Blk.new w 42 (eraC x.n x.ru x.fm x.en)
 unfold eraC at hb0 hblk
 rcases kindR_cases x.fm.data.toList with h | h
 ·have HK:=fun W=>kind_at x.fm hs _ _ (show kindR x.fm.data.toList = ((kindR x.fm.data.toList).1,0) by rw [← h]) W
  have H0:=Lib.hid h
  have HN:=Lib.hid (fun (W:World) (hb:Below w.heap.size w W)=>nominal_any W x.n (ha.below hb (Nat.le_refl _)))
  unfold untilA at HN
  clear h
  generalize (kindR x.fm.data.toList).1 = k at HK
  go_enter Tryz.func66,Tryz.ntmps66
  go_wp2_with fail
  refine (HK _ (hm.below hb0 (Nat.le_refl _))).mono ?_
  rintro o w1 ⟨rfl,hb⟩
  have hbl:=hblk.below hb hblk.lt
  have q0:=hbl.cell 0 (v:=.int .i64 x.n.off) rfl
  have q1:=hbl.cell 1 (v:=.string x.ru) rfl
  have q2:=hbl.cell 2 (v:=.int .i64 x.n.save) rfl
  have q4:=hbl.cell 4 (v:=.bool x.en) rfl
  have q5:=hbl.cell 5 (v:=.int .i64 x.n.year) rfl
  have q6:=hbl.cell 6 (v:=.int .i64 x.n.month) rfl
  have q7:=hbl.cell 7 (v:=.int .i64 x.n.dk) rfl
  have q8:=hbl.cell 8 (v:=.int .i64 x.n.dw) rfl
  have q9:=hbl.cell 9 (v:=.int .i64 x.n.dn) rfl
  have q10:=hbl.cell 10 (v:=.int .i64 x.n.sec) rfl
  have q11:=hbl.cell 11 (v:=.int .i64 x.n.ak) rfl
  have HB:=Lib.hid (hb0.trans (hb.mono hb0.size))
  clear hb hb0 hblk hbl hm ha HK
  cases g1:withinB x.n.off
  ·have H1:=within_at x.n.off _ g1
   have HV:=Lib.hid (show errE x last = 10 by unfold errE;rw [if_pos H0.out,g1];rfl)
   go_wp2_with fail
   refine (H1 _).mono ?_
   rintro o w2 ⟨rfl,rfl⟩
   go_wp2_with fail
   go_ret
   exact ⟨by rw [HV.out];rfl,HB.out⟩
  ·have H1:=within_at x.n.off _ g1
   cases g2:withinB x.n.save
   ·have H2:=within_at x.n.save _ g2
    have HV:=Lib.hid (show errE x last = 10 by unfold errE;rw [if_pos H0.out,g1,g2];rfl)
    go_wp2_with fail
    refine (H1 _).mono ?_
    rintro o w2 ⟨rfl,rfl⟩
    go_wp2_with fail
    refine (H2 _).mono ?_
    rintro o w2 ⟨rfl,rfl⟩
    go_wp2_with fail
    go_ret
    exact ⟨by rw [HV.out];rfl,HB.out⟩
   ·have H2:=within_at x.n.save _ g2
    have HE:=Lib.hid (show errE x last = if (decide (x.ru.size ≠ 0) && decide (x.n.save ≠ 0)) || (x.en == last) then 12 else if x.en then (nomR x.n).2 else 0 by unfold errE;rw [if_pos H0.out,g1,g2];rfl)
    obtain ⟨bad,hbad⟩:∃ b,(decide (x.ru.size ≠ 0) && decide (x.n.save ≠ 0)) = b:=⟨_,rfl⟩
    cases bad with
    | true =>
      have hb2:=hbad
      rw [Bool.and_eq_true,decide_eq_true_eq,decide_eq_true_eq] at hb2
      have hr0:=hb2.1
      have hs0:=hb2.2
      clear hb2
      have HV:=Lib.hid (show errE x last = 12 by rw [HE.out,hbad];rfl)
      have hem:(x.ru.toList == []) = false:=by rw [emp_size,decide_eq_false hr0]
      have hsv:(x.n.save != 0) = true:=by simpa using hs0
      clear hr0 hs0 hbad HE g1 g2 HN
      go_wp2_with fail
      refine (H1 _).mono ?_
      rintro o w2 ⟨rfl,rfl⟩
      go_wp2_with fail
      refine (H2 _).mono ?_
      rintro o w2 ⟨rfl,rfl⟩
      go_wp2_with fail
      go_ret
      exact ⟨by rw [HV.out];rfl,HB.out⟩
    | false =>
      have HE2:=Lib.hid (show errE x last = if (x.en == last) then 12 else if x.en then (nomR x.n).2 else 0 by rw [HE.out,hbad];rfl)
      obtain ⟨ee,hee⟩:∃ b,x.en = b:=⟨_,rfl⟩
      rw [hee] at q4 HE2
      by_cases hr0:x.ru.size = 0
      ·have hem:(x.ru.toList == []) = true:=by rw [emp_size,decide_eq_true hr0]
       clear hbad hr0 hee HE g1 g2
       cases ee <;> cases last
       ·have HV:=Lib.hid (show errE x false = 12 from HE2.out)
        go_wp2_with fail
        refine (H1 _).mono ?_
        rintro o w2 ⟨rfl,rfl⟩
        go_wp2_with fail
        refine (H2 _).mono ?_
        rintro o w2 ⟨rfl,rfl⟩
        go_wp2_with fail
        go_ret
        exact ⟨by rw [HV.out];rfl,HB.out⟩
       ·have HV:=Lib.hid (show errE x true = 0 from HE2.out)
        go_wp2_with fail
        refine (H1 _).mono ?_
        rintro o w2 ⟨rfl,rfl⟩
        go_wp2_with fail
        refine (H2 _).mono ?_
        rintro o w2 ⟨rfl,rfl⟩
        go_wp2_with fail
        go_ret
        exact ⟨by rw [HV.out];rfl,HB.out⟩
       ·have HV:=Lib.hid (show errE x false = (nomR x.n).2 from HE2.out)
        go_wp2_with fail
        refine (H1 _).mono ?_
        rintro o w2 ⟨rfl,rfl⟩
        go_wp2_with fail
        refine (H2 _).mono ?_
        rintro o w2 ⟨rfl,rfl⟩
        go_wp2_with fail
        refine (HN.out _ HB.out).mono ?_
        rintro o w3 ⟨rfl,hb⟩
        have HB3:=Lib.hid (HB.out.trans (hb.mono HB.out.size))
        clear hb
        go_wp2_with fail
        go_ret
        exact ⟨by rw [HV.out];rfl,HB3.out⟩
       ·have HV:=Lib.hid (show errE x true = 12 from HE2.out)
        go_wp2_with fail
        refine (H1 _).mono ?_
        rintro o w2 ⟨rfl,rfl⟩
        go_wp2_with fail
        refine (H2 _).mono ?_
        rintro o w2 ⟨rfl,rfl⟩
        go_wp2_with fail
        go_ret
        exact ⟨by rw [HV.out];rfl,HB.out⟩
      ·have hem:(x.ru.toList == []) = false:=by rw [emp_size,decide_eq_false hr0]
       have hsv:(x.n.save != 0) = false:=by
        have:x.n.save = 0:=by
         rw [decide_eq_true hr0,Bool.true_and,decide_eq_false_iff_not] at hbad
         omega
        simpa using this
       clear hbad hr0 hee HE g1 g2
       cases ee <;> cases last
       ·have HV:=Lib.hid (show errE x false = 12 from HE2.out)
        go_wp2_with fail
        refine (H1 _).mono ?_
        rintro o w2 ⟨rfl,rfl⟩
        go_wp2_with fail
        refine (H2 _).mono ?_
        rintro o w2 ⟨rfl,rfl⟩
        go_wp2_with fail
        go_ret
        exact ⟨by rw [HV.out];rfl,HB.out⟩
       ·have HV:=Lib.hid (show errE x true = 0 from HE2.out)
        go_wp2_with fail
        refine (H1 _).mono ?_
        rintro o w2 ⟨rfl,rfl⟩
        go_wp2_with fail
        refine (H2 _).mono ?_
        rintro o w2 ⟨rfl,rfl⟩
        go_wp2_with fail
        go_ret
        exact ⟨by rw [HV.out];rfl,HB.out⟩
       ·have HV:=Lib.hid (show errE x false = (nomR x.n).2 from HE2.out)
        go_wp2_with fail
        refine (H1 _).mono ?_
        rintro o w2 ⟨rfl,rfl⟩
        go_wp2_with fail
        refine (H2 _).mono ?_
        rintro o w2 ⟨rfl,rfl⟩
        go_wp2_with fail
        refine (HN.out _ HB.out).mono ?_
        rintro o w3 ⟨rfl,hb⟩
        have HB3:=Lib.hid (HB.out.trans (hb.mono HB.out.size))
        clear hb
        go_wp2_with fail
        go_ret
        exact ⟨by rw [HV.out];rfl,HB3.out⟩
       ·have HV:=Lib.hid (show errE x true = 12 from HE2.out)
        go_wp2_with fail
        refine (H1 _).mono ?_
        rintro o w2 ⟨rfl,rfl⟩
        go_wp2_with fail
        refine (H2 _).mono ?_
        rintro o w2 ⟨rfl,rfl⟩
        go_wp2_with fail
        go_ret
        exact ⟨by rw [HV.out];rfl,HB.out⟩
 ·have HK:=fun W=>kind_at x.fm hs _ _ h W
  have HV:=Lib.hid (show errE x last = 12 by unfold errE;rw [h];rfl)
  clear h
  go_enter Tryz.func66,Tryz.ntmps66
  go_wp2_with fail
  refine (HK _ (hm.below hb0 (Nat.le_refl _))).mono ?_
  rintro o w1 ⟨rfl,hb⟩
  have HB:=Lib.hid (hb0.trans (hb.mono hb0.size))
  clear hb hb0 hblk hm
  go_wp2_with fail
  go_ret
  exact ⟨by rw [HV.out];rfl,HB.out⟩
end
end Go.Proofs.YteekjfgjmccdnaaGreatDoor
