/-
  Insertion over rules, walked.
-/
import Derived.Test.YteekjfgjmccdnaaGreatDoorZk5
set_option maxHeartbeats 16000000
set_option maxRecDepth 100000
namespace Go.Proofs.YteekjfgjmccdnaaGreatDoor
section -- Ref
open Go Go.RowKit Go.Shelf
theorem rleap_any (y:Int) (w:World) :
  Calls Tryz.prog 132 #[.int .i64 y] w fun e w'=>e = .returned (.bool (leapB y))∧w' = w:=by
 have z4:=tmod_zero y 4
 have z1:=tmod_zero y 100
 have z0:=tmod_zero y 400
 by_cases h4:y.tmod 4 = 0
 ·by_cases h1:y.tmod 100 = 0
  ·by_cases h0:y.tmod 400 = 0
   ·have HL:=Lib.hid (show leapB y = true by unfold leapB;rw [decide_eq_true_eq];omega)
    clear z4 z1 z0
    go_enter Tryz.func132,Tryz.ntmps132
    go_wp2_with fail
    go_ret
    exact ⟨by rw [HL.out];rfl,rfl⟩
   ·have HL:=Lib.hid (show leapB y = false by unfold leapB;rw [decide_eq_false_iff_not];omega)
    have e0:(y.tmod 400 == 0) = false:=by simpa using h0
    clear z4 z1 z0
    go_enter Tryz.func132,Tryz.ntmps132
    go_wp2_with fail
    go_ret
    exact ⟨by rw [HL.out];rfl,rfl⟩
  ·have HL:=Lib.hid (show leapB y = true by unfold leapB;rw [decide_eq_true_eq];omega)
   have e1:(y.tmod 100 != 0) = true:=by simpa using h1
   clear z4 z1 z0
   go_enter Tryz.func132,Tryz.ntmps132
   go_wp2_with fail
   go_ret
   exact ⟨by rw [HL.out];rfl,rfl⟩
 ·have h0:¬ y.tmod 400 = 0:=fun h=>h4 (by rw [tmod_zero] at h ⊢;omega)
  have HL:=Lib.hid (show leapB y = false by unfold leapB;rw [decide_eq_false_iff_not];omega)
  have e4:(y.tmod 4 == 0) = false:=by simpa using h4
  have e0:(y.tmod 400 == 0) = false:=by simpa using h0
  clear z4 z1 z0
  go_enter Tryz.func132,Tryz.ntmps132
  go_wp2_with fail
  go_ret
  exact ⟨by rw [HL.out];rfl,rfl⟩
theorem lens_at (w:World) (k:Nat) (hk:k < 12):(w.alloc (.cells #[.int .i64 31,.int .i64 28,.int .i64 31,.int .i64 30,.int .i64 31,.int .i64 30,.int .i64 31,.int .i64 31,.int .i64 30,.int .i64 31,.int .i64 30,.int .i64 31] 3)).cell? ⟨w.heap.size,k,none⟩ = some (.int .i64 (aheadV (k + 1) - aheadV k)):=by
 refine (Blk.new w 3 _).cell k ?_
 have:k = 0∨k = 1∨k = 2∨k = 3∨k = 4∨k = 5∨k = 6∨k = 7∨k = 8∨k = 9∨k = 10∨k = 11:=by omega
 rcases this with h | h | h | h | h | h | h | h | h | h | h | h <;> subst h <;> rfl
theorem rlong_any (y m:Int) (h1:1 ≤ m) (h2:m ≤ 12) (w:World) :
  Calls Tryz.prog 108 #[.int .i64 y,.int .i64 m] w fun e w'=>e = .returned (.int .i64 (lenV y m))∧Below w.heap.size w w':=by
 obtain ⟨k,rfl,hk⟩:=aheadV_at m h1 h2
 have c:=lens_at w k hk
 have HB:=Lib.hid ((Below.refl w.heap.size w).alloc (Nat.le_refl _) (.cells #[.int .i64 31,.int .i64 28,.int .i64 31,.int .i64 30,.int .i64 31,.int .i64 30,.int .i64 31,.int .i64 31,.int .i64 30,.int .i64 31,.int .i64 30,.int .i64 31] 3))
 have HL:=Lib.hid (fun W=>rleap_any y W)
 have HV:=Lib.hid (show lenV y (k + 1) = aheadV (k + 1) - aheadV k + if (k:Int) + 1 = 2 then leapsV y else 0 by unfold lenV;rw [show ((k:Int) + 1 - 1).toNat = k by omega,show ((k:Int) + 1).toNat = k + 1 by omega])
 have e1:(k:Int) + 1 - 1 = k:=by omega
 clear h1 h2
 by_cases hk2:k = 1
 ·subst hk2
  cases hl:leapB y with
  | true =>
    have HV2:=Lib.hid (show lenV y ((1:Nat) + 1) = 29 by rw [HV.out,if_pos (by omega)];unfold leapsV;rw [hl];rfl)
    rw [hl] at HL
    clear hl
    go_enter Tryz.func108,Tryz.ntmps108
    go_wp2_with fail
    refine (HL.out _).mono ?_
    rintro e w1 ⟨rfl,rfl⟩
    go_wp2_with fail
    go_ret
    exact ⟨by rw [HV2.out];rfl,HB.out⟩
  | false =>
    have HV2:=Lib.hid (show lenV y ((1:Nat) + 1) = aheadV (1 + 1) - aheadV 1 by rw [HV.out,if_pos (by omega)];unfold leapsV;rw [hl];rfl)
    rw [hl] at HL
    clear hl
    generalize aheadV (1 + 1) - aheadV 1 = q at *
    go_enter Tryz.func108,Tryz.ntmps108
    go_wp2_with fail
    refine (HL.out _).mono ?_
    rintro e w1 ⟨rfl,rfl⟩
    go_wp2_with fail
    go_ret
    exact ⟨by rw [HV2.out];rfl,HB.out⟩
 ·have hd:((k:Int) + 1 == 2) = false:=by simp;omega
  rw [if_neg (by omega),Int.add_zero] at HV
  generalize aheadV (k + 1) - aheadV k = q at *
  go_enter Tryz.func108,Tryz.ntmps108
  go_wp2_with fail
  go_ret
  exact ⟨by rw [HV.out];rfl,HB.out⟩
theorem rweek_any (n:Int) (h1:-1000000000 ≤ n) (h2:n ≤ 1000000000) (w:World) :
  Calls Tryz.prog 133 #[.int .i64 n] w fun e w'=>e = .returned (.int .i64 (weekV n))∧w' = w:=by
 have hm:=mod_eq (a:=n + 4) (b:=7) (by omega)
 have h6:=Int.lt_tmod_of_pos (n + 4) (b:=7) (by omega)
 have h7:=Int.tmod_lt_of_pos (n + 4) (b:=7) (by omega)
 obtain ⟨t,ht⟩:∃ t,(n + 4).tmod 7 = t:=⟨_,rfl⟩
 rw [ht] at hm h6 h7
 have HV:=Lib.hid (show weekV n = (t + 7) % 7 by
  unfold weekV
  split at hm <;> omega)
 clear hm
 go_enter Tryz.func133,Tryz.ntmps133
 go_wp2_with fail
 go_ret
 exact ⟨by rw [HV.out];rfl,rfl⟩
theorem rdays_any (y m:Int) (hy1:1 ≤ y) (hy2:y ≤ 4000) (h1:1 ≤ m) (h2:m ≤ 12) (w:World) :
  Calls Tryz.prog 109 #[.int .i64 y,.int .i64 m] w fun e w'=>e = .returned (.int .i64 (yearV y + startV y m))∧Below w.heap.size w w':=by
 have HLP:=Lib.hid (fun z W=>rleap_any z W)
 have HY0:=Lib.hid (show yearV 1970 = 0 by decide)
 have hyb:=yearV_in (y:=y) (by omega) (by omega)
 have HYM:=Lib.hid (show ∀ z,1 ≤ z→z ≤ 4000→-2000000 ≤ yearV z∧yearV z ≤ 2000000 from fun z h3 h4=>by unfold yearV;omega)
 go_enter Tryz.func109,Tryz.ntmps109
 go_wp2_with fail
 go_loopw [5,6] (fun nv zv wr=>∃ z:Int,zv = .int .i64 z∧1970 ≤ z∧(z ≤ y∨z = 1970)∧nv = .int .i64 (yearV z)∧Below w.heap.size w wr) (fun _ zv _=>(y - intOf zv).toNat)
 case atStart=>exact ⟨1970,rfl,by omega,.inr rfl,by rw [HY0.out],Below.refl _ _⟩
 case round =>
  obtain ⟨z,rfl,hz1,hz2,rfl,hbw⟩:=hrel
  have HBW:=Lib.hid hbw
  clear hbw
  have hb1:=HYM.out z (by omega) (by omega)
  by_cases hlt:z < y
  ·have hd:decide (z < y) = true:=decide_eq_true hlt
   have HN:=Lib.hid (yearV_next z)
   cases hl:leapB z with
   | true =>
     have HN2:=Lib.hid (show yearV (z + 1) = yearV z + 365 + 1 by rw [HN.out];unfold leapsV;rw [hl];rfl)
     have HC:=Lib.hid (HLP.out z wr)
     rw [hl] at HC
     clear hl
     generalize yearV z = q at *
     go_wp2_with fail
     refine HC.out.mono ?_
     rintro e w1 ⟨rfl,rfl⟩
     go_wp2_with fail
     go_roundw
     case rel=>exact ⟨z + 1,by first | rfl | go_num,by omega,.inl (by omega),by rw [HN2.out],HBW.out⟩
     case measure=>simp [intOf];omega
   | false =>
     have HN2:=Lib.hid (show yearV (z + 1) = yearV z + 365 by rw [HN.out];unfold leapsV;rw [hl];simp)
     have HC:=Lib.hid (HLP.out z wr)
     rw [hl] at HC
     clear hl
     generalize yearV z = q at *
     go_wp2_with fail
     refine HC.out.mono ?_
     rintro e w1 ⟨rfl,rfl⟩
     go_wp2_with fail
     go_roundw
     case rel=>exact ⟨z + 1,by first | rfl | go_num,by omega,.inl (by omega),by rw [HN2.out],HBW.out⟩
     case measure=>simp [intOf];omega
  ·have hd:decide (z < y) = false:=decide_eq_false hlt
   go_wp2_with fail
   go_loopw [5,7] (fun nv zv wi=>∃ z2:Int,zv = .int .i64 z2∧y ≤ z2∧(z2 ≤ 1970∨z2 = y)∧nv = .int .i64 (yearV z + yearV y - yearV z2)∧Below w.heap.size w wi) (fun _ zv _=>(1970 - intOf zv).toNat)
   case atStart=>exact ⟨y,rfl,Int.le_refl _,.inr rfl,by rw [show yearV z + yearV y - yearV y = yearV z by omega],HBW.out⟩
   case round =>
    obtain ⟨z2,rfl,hz3,hz4,rfl,hbi⟩:=hrel
    have HBI:=Lib.hid hbi
    clear hbi
    have hb2:=HYM.out z2 (by omega) (by omega)
    by_cases hlt2:z2 < 1970
    ·have hd2:decide (z2 < 1970) = true:=decide_eq_true hlt2
     have HN:=Lib.hid (yearV_next z2)
     cases hl:leapB z2 with
     | true =>
       have HN2:=Lib.hid (show yearV z + yearV y - yearV (z2 + 1) = yearV z + yearV y - yearV z2 - 365 - 1 by rw [HN.out];unfold leapsV;rw [hl];simp;omega)
       have HC:=Lib.hid (HLP.out z2 wr)
       rw [hl] at HC
       clear hl
       obtain ⟨q,hq⟩:∃ q,yearV z + yearV y - yearV z2 = q:=⟨_,rfl⟩
       rw [hq] at HN2 ⊢
       have hqb:-90000000 ≤ q∧q ≤ 90000000:=by omega
       clear hq
       go_wp2_with fail
       refine HC.out.mono ?_
       rintro e w1 ⟨rfl,rfl⟩
       go_wp2_with fail
       go_roundw
       case rel=>exact ⟨z2 + 1,by first | rfl | go_num,by omega,.inl (by omega),by rw [HN2.out],HBI.out⟩
       case measure=>simp [intOf];omega
     | false =>
       have HN2:=Lib.hid (show yearV z + yearV y - yearV (z2 + 1) = yearV z + yearV y - yearV z2 - 365 by rw [HN.out];unfold leapsV;rw [hl];simp;omega)
       have HC:=Lib.hid (HLP.out z2 wr)
       rw [hl] at HC
       clear hl
       obtain ⟨q,hq⟩:∃ q,yearV z + yearV y - yearV z2 = q:=⟨_,rfl⟩
       rw [hq] at HN2 ⊢
       have hqb:-90000000 ≤ q∧q ≤ 90000000:=by omega
       clear hq
       go_wp2_with fail
       refine HC.out.mono ?_
       rintro e w1 ⟨rfl,rfl⟩
       go_wp2_with fail
       go_roundw
       case rel=>exact ⟨z2 + 1,by first | rfl | go_num,by omega,.inl (by omega),by rw [HN2.out],HBI.out⟩
       case measure=>simp [intOf];omega
    ·have hd2:decide (z2 < 1970) = false:=decide_eq_false hlt2
     have hval:yearV z + yearV y - yearV z2 = yearV y:=by
      by_cases h3:y ≤ 1970
      ·rw [show z = 1970 by omega,show z2 = 1970 by omega]
       omega
      ·rw [show z = y by omega,show z2 = y by omega]
       omega
     rw [hval]
     have HS1:=Lib.hid (startV_one y)
     clear hval
     go_wp2_with fail
     go_loopw [5,8] (fun nv mv wj=>∃ k:Int,mv = .int .i64 k∧1 ≤ k∧k ≤ m∧nv = .int .i64 (yearV y + startV y k)∧Below w.heap.size w wj) (fun _ mv _=>(m - intOf mv).toNat)
     case atStart=>exact ⟨1,rfl,by omega,h1,by rw [HS1.out,Int.add_zero],HBI.out⟩
     case round =>
      obtain ⟨k,rfl,hk1,hk2,rfl,hbj⟩:=hrel
      have HBJ:=Lib.hid hbj
      have hsz:=hbj.size
      clear hbj
      have hsb:=startV_in y k
      by_cases hlt3:k < m
      ·have hd3:decide (k < m) = true:=decide_eq_true hlt3
       have HL:=Lib.hid (rlong_any y k hk1 (by omega) wr)
       have hlb:=lenV_in (y:=y) hk1 (show k ≤ 12 by omega)
       have HN:=Lib.hid (show yearV y + startV y (k + 1) = yearV y + startV y k + lenV y k by rw [startV_next hk1 (by omega)];omega)
       obtain ⟨q,hq⟩:∃ q,yearV y + startV y k = q:=⟨_,rfl⟩
       rw [hq] at HN ⊢
       have hqb:-10000000 ≤ q∧q ≤ 10000000:=by have:=HYM.out y hy1 hy2;omega
       generalize lenV y k = ln at *
       clear hq
       go_wp2_with fail
       refine HL.out.mono ?_
       rintro e w1 ⟨rfl,hb⟩
       have HB1:=Lib.hid (HBJ.out.trans (hb.mono hsz))
       clear hb
       go_wp2_with fail
       go_roundw
       case rel=>exact ⟨k + 1,by first | rfl | go_num,by omega,by omega,by rw [HN.out],HB1.out⟩
       case measure=>simp [intOf];omega
      ·obtain rfl:k = m:=by omega
       have hd3:decide (k < k) = false:=decide_eq_false hlt3
       go_wp2_with fail
       go_ret
       exact ⟨rfl,HBJ.out⟩
end
section -- RefC
open Go Go.RowKit Go.Shelf
def RDay (k wk n y m:Int):Value:=if n ≤ lenV y m then .tuple #[.int .i64 (inDay k wk n y m),.bool true] else .tuple #[.int .i64 0,.bool false]
theorem rday_any (k wk n y m:Int) (hok:dayOkB k wk n = true) (hy1:1 ≤ y) (hy2:y ≤ 4000) (h1:1 ≤ m) (h2:m ≤ 12) (w:World) :
  Calls Tryz.prog 110 #[dayA k wk n,.int .i64 y,.int .i64 m] w fun e w'=>e = .returned (RDay k wk n y m)∧Below w.heap.size w w':=by
 have HB0:=Lib.hid ((Below.refl w.heap.size w).alloc (Nat.le_refl _) (.cells #[.int .i64 k,.int .i64 wk,.int .i64 n] 36))
 have HX:=Lib.hid (Blk.new w 36 #[.int .i64 k,.int .i64 wk,.int .i64 n])
 have HD:=Lib.hid (fun W=>rdays_any y m hy1 hy2 h1 h2 W)
 have HL:=Lib.hid (fun W=>rlong_any y m h1 h2 W)
 have hyb:=yearV_in (y:=y) (by omega) (by omega)
 have hsb:=startV_in y m
 have hlb:=lenV_in (y:=y) h1 h2
 obtain ⟨f,hf⟩:∃ f,yearV y + startV y m = f:=⟨_,rfl⟩
 have hyb2:-2000000 ≤ yearV y∧yearV y ≤ 2000000:=by unfold yearV;omega
 have hfb:-10000000 ≤ f∧f ≤ 10000000:=by omega
 have HDV:=Lib.hid (fun d=>show dayV y m d = f + d - 1 by unfold dayV;omega)
 rw [hf] at HD
 obtain ⟨R,hR⟩:∃ R,RDay k wk n y m = R:=⟨_,rfl⟩
 rw [hR]
 unfold RDay at hR
 have HRD:=Lib.hid hR
 clear hR
 clear hf hyb hyb2 hsb hy1 hy2
 obtain ⟨ln,hln⟩:∃ ln,lenV y m = ln:=⟨_,rfl⟩
 rw [hln] at HL hlb HRD
 have HLN:=Lib.hid hln
 clear hln h1 h2
 unfold dayOkB at hok
 rw [decide_eq_true_eq] at hok
 by_cases hn:n ≤ ln
 ·rw [if_pos hn] at HRD
  rcases hok with ⟨rfl,h3,h4,rfl⟩ | ⟨rfl,rfl,h3,h4⟩ | ⟨rfl | rfl,h3,h4,h5,h6⟩
  ·have HV:=Lib.hid (show inDay 0 0 n y m = f + n - 1 by unfold inDay;rw [if_pos rfl,HDV.out])
   have hd1:decide (n < 1) = false:=decide_eq_false (by omega)
   have hd2:decide (ln < n) = false:=decide_eq_false (by omega)
   rw [HV.out] at HRD
   unfold dayA
   go_enter Tryz.func110,Tryz.ntmps110
   go_wp2_with fail
   refine (HD.out _).mono ?_
   rintro e w1 ⟨rfl,hb⟩
   have h1:=HX.out.below hb HX.out.lt
   have HB1:=Lib.hid (HB0.out.trans (hb.mono HB0.out.size))
   have q0:=h1.cell 0 (v:=.int .i64 0) rfl
   have q1:=h1.cell 1 (v:=.int .i64 (0)) rfl
   have q2:=h1.cell 2 (v:=.int .i64 (n)) rfl
   have HX1:=Lib.hid h1
   clear hb h1
   go_wp2_with fail
   refine (HL.out _).mono ?_
   rintro e w2 ⟨rfl,hb⟩
   have h1:=HX1.out.below hb HX1.out.lt
   have HB2:=Lib.hid (HB1.out.trans (hb.mono HB1.out.size))
   have q0:=h1.cell 0 (v:=.int .i64 0) rfl
   have q1:=h1.cell 1 (v:=.int .i64 (0)) rfl
   have q2:=h1.cell 2 (v:=.int .i64 (n)) rfl
   have HX2:=Lib.hid h1
   have hs2:=HB2.out.size
   clear hb h1
   go_wp2_with fail
   refine bodyPost_ret (v:=.tuple #[.int .i64 (f + n - 1),.bool true]) ?_ rfl ⟨by rw [← HRD.out],HB2.out⟩
   simp [results,Tryz.f110,go_sem]
  ·skip
   obtain ⟨K,hK7,hsk,hwK,hnK⟩:=seek_spec (a:=(f + ln - 1)) (st:=(-1)) (wk:=wk) (by omega) (by omega) (by omega)
   have HSK:=Lib.hid (And.intro hwK hnK)
   have HV:=Lib.hid (show inDay 1 wk (0) y m = (f + ln - 1) + (-1) * K by unfold inDay;rw [if_neg (by decide),if_neg (by decide),if_pos rfl,HLN.out,HDV.out];exact hsk)
   rw [HV.out] at HRD
   clear hsk hwK hnK
   unfold dayA
   go_enter Tryz.func110,Tryz.ntmps110
   go_wp2_with fail
   refine (HD.out _).mono ?_
   rintro e w1 ⟨rfl,hb⟩
   have h1:=HX.out.below hb HX.out.lt
   have HB1:=Lib.hid (HB0.out.trans (hb.mono HB0.out.size))
   have q0:=h1.cell 0 (v:=.int .i64 1) rfl
   have q1:=h1.cell 1 (v:=.int .i64 (wk)) rfl
   have q2:=h1.cell 2 (v:=.int .i64 (0)) rfl
   have HX1:=Lib.hid h1
   clear hb h1
   go_wp2_with fail
   refine (HL.out _).mono ?_
   rintro e w2 ⟨rfl,hb⟩
   have h1:=HX1.out.below hb HX1.out.lt
   have HB2:=Lib.hid (HB1.out.trans (hb.mono HB1.out.size))
   have q0:=h1.cell 0 (v:=.int .i64 1) rfl
   have q1:=h1.cell 1 (v:=.int .i64 (wk)) rfl
   have q2:=h1.cell 2 (v:=.int .i64 (0)) rfl
   have HX2:=Lib.hid h1
   have hs2:=HB2.out.size
   clear hb h1
   go_wp2_with fail
   go_loopw [10] (fun dv wr=>∃ j:Nat,j ≤ K∧dv = .int .i64 ((f + ln - 1) + (-1) * j)∧Below w2.heap.size w2 wr) (fun dv _=>(- ((f + ln - 1) + (-1) * K - intOf dv)).toNat)
   case atStart=>exact ⟨0,Nat.zero_le _,by first | rfl | simp,Below.refl _ _⟩
   case round =>
    obtain ⟨j,hj,rfl,hbw⟩:=hrel
    have HBW:=Lib.hid hbw
    have hxr:=HX2.out.below hbw HX2.out.lt
    clear hbw
    have q0:=hxr.cell 0 (v:=.int .i64 1) rfl
    have q1:=hxr.cell 1 (v:=.int .i64 wk) rfl
    have q2:=hxr.cell 2 (v:=.int .i64 (0)) rfl
    have HXR:=Lib.hid hxr
    have hws:=HBW.out.size
    clear hxr
    obtain ⟨d,hdd⟩:∃ d:Int,(f + ln - 1) + (-1) * j = d:=⟨_,rfl⟩
    rw [hdd]
    have hdb:-20000000 ≤ d∧d ≤ 20000000:=by omega
    have HJ:=Lib.hid hdd
    clear hdd
    have HCQ:=Lib.hid (fun (W:World) (h:Below wr.heap.size wr W)=>(h.cell (p:=⟨w.heap.size,1,none⟩) HXR.out.lt).trans q1)
    have HWK:=Lib.hid (fun (W:World)=>(rweek_any d (by omega) (by omega) W).mono (R':=fun e w'=>e = .returned (.int .i64 (weekV d))∧Below W.heap.size W w') (fun e w' h=>⟨h.1,h.2 ▸ Below.refl _ _⟩))
    go_wp2_with fail
    by_cases hjK:j = K
    ·have hne:(weekV d != wk) = false:=by
      have h:=HSK.out.1
      rw [← hjK,HJ.out] at h
      simpa using h
     have hE:d = (f + ln - 1) + (-1) * K:=by rw [← HJ.out,hjK]
     have HE:=Lib.hid hE
     clear hE hjK
     refine wp_env (fin:=?fna1) (by kernel_rfl) [47,48,49,50,51]
      [.int .i64 d,.int .i64 (weekV d),.pointer (some ⟨w.heap.size,1,none⟩),.int .i64 wk,.bool false] (by kernel_rfl) ?fina1 ?stepsa1 ?nexta1
     case fina1 =>
      simp only [putAll,Act.put,List.setIfInBounds_toArray,List.set_cons_succ,List.set_cons_zero]
      rfl
     case stepsa1 =>
      refine ⟨?_,?_,?_,?_,?_,trivial⟩
      all_goals refine .inr ⟨by kernel_rfl,fun w1_ hB_=>?_⟩
      all_goals
       have q1:=HCQ.out w1_ hB_
       go_simp
       first
        | exact ⟨rfl,Below.refl _ _⟩
        | exact ⟨rfl,HWK.out w1_⟩
        | ((first | rw [decide_eq_true (by omega)] | rw [decide_eq_false (by omega)] | rw [if_pos (by omega)] | rw [IntWalk.i64_in _ (by omega)]);exact ⟨rfl,Below.refl _ _⟩)
        | done
     case nexta1 =>
     intro w5 hb5
     have HB5:=Lib.hid (HBW.out.trans (hb5.mono HBW.out.size))
     clear hb5
     go_wp2_with fail
     rw [HE.out]
     refine bodyPost_ret (v:=.tuple #[.int .i64 ((f + ln - 1) + (-1) * K),.bool true]) ?_ rfl ⟨by rw [← HRD.out],HB2.out.trans (HB5.out.mono hs2)⟩
     simp [results,Tryz.f110,go_sem]
    ·have hne:(weekV d != wk) = true:=by
      have h:=HSK.out.2 j (by omega)
      rw [HJ.out] at h
      simpa using h
     have HNE:=Lib.hid hne
     refine wp_env (fin:=?fnb1) (by kernel_rfl) [47,48,49,50,51]
      [.int .i64 d,.int .i64 (weekV d),.pointer (some ⟨w.heap.size,1,none⟩),.int .i64 wk,.bool true] (by kernel_rfl) ?finb1 ?stepsb1 ?nextb1
     case finb1 =>
      simp only [putAll,Act.put,List.setIfInBounds_toArray,List.set_cons_succ,List.set_cons_zero]
      rfl
     case stepsb1 =>
      refine ⟨?_,?_,?_,?_,?_,trivial⟩
      all_goals refine .inr ⟨by kernel_rfl,fun w1_ hB_=>?_⟩
      all_goals
       have q1:=HCQ.out w1_ hB_
       go_simp
       first
        | exact ⟨rfl,Below.refl _ _⟩
        | exact ⟨rfl,HWK.out w1_⟩
        | ((first | rw [decide_eq_true (by omega)] | rw [decide_eq_false (by omega)] | rw [if_pos (by omega)] | rw [IntWalk.i64_in _ (by omega)]);exact ⟨rfl,Below.refl _ _⟩)
        | done
     case nextb1 =>
     intro w5 hb5
     have HB5:=Lib.hid (HBW.out.trans (hb5.mono HBW.out.size))
     have h5:=HXR.out.below hb5 HXR.out.lt
     have q0:=h5.cell 0 (v:=.int .i64 1) rfl
     clear hb5 h5 hne
     go_wp2_with fail
     go_roundw
     case rel=>exact ⟨j + 1,by omega,by first | rfl | go_num | (have:=HJ.out;congr 1;omega),HB5.out⟩
     case measure=>have:=HJ.out;simp [intOf];omega
  ·have hd1:decide (n < 1) = false:=decide_eq_false (by omega)
   have hd2:decide (ln < n) = false:=decide_eq_false (by omega)
   obtain ⟨K,hK7,hsk,hwK,hnK⟩:=seek_spec (a:=(f + n - 1)) (st:=1) (wk:=wk) (by omega) (by omega) (by omega)
   have HSK:=Lib.hid (And.intro hwK hnK)
   have HV:=Lib.hid (show inDay 2 wk (n) y m = (f + n - 1) + 1 * K by unfold inDay;rw [if_neg (by decide),if_pos rfl,HDV.out];exact hsk)
   rw [HV.out] at HRD
   clear hsk hwK hnK
   unfold dayA
   go_enter Tryz.func110,Tryz.ntmps110
   go_wp2_with fail
   refine (HD.out _).mono ?_
   rintro e w1 ⟨rfl,hb⟩
   have h1:=HX.out.below hb HX.out.lt
   have HB1:=Lib.hid (HB0.out.trans (hb.mono HB0.out.size))
   have q0:=h1.cell 0 (v:=.int .i64 2) rfl
   have q1:=h1.cell 1 (v:=.int .i64 (wk)) rfl
   have q2:=h1.cell 2 (v:=.int .i64 (n)) rfl
   have HX1:=Lib.hid h1
   clear hb h1
   go_wp2_with fail
   refine (HL.out _).mono ?_
   rintro e w2 ⟨rfl,hb⟩
   have h1:=HX1.out.below hb HX1.out.lt
   have HB2:=Lib.hid (HB1.out.trans (hb.mono HB1.out.size))
   have q0:=h1.cell 0 (v:=.int .i64 2) rfl
   have q1:=h1.cell 1 (v:=.int .i64 (wk)) rfl
   have q2:=h1.cell 2 (v:=.int .i64 (n)) rfl
   have HX2:=Lib.hid h1
   have hs2:=HB2.out.size
   clear hb h1
   go_wp2_with fail
   go_loopw [10] (fun dv wr=>∃ j:Nat,j ≤ K∧dv = .int .i64 ((f + n - 1) + 1 * j)∧Below w2.heap.size w2 wr) (fun dv _=>( ((f + n - 1) + 1 * K - intOf dv)).toNat)
   case atStart=>exact ⟨0,Nat.zero_le _,by first | rfl | simp,Below.refl _ _⟩
   case round =>
    obtain ⟨j,hj,rfl,hbw⟩:=hrel
    have HBW:=Lib.hid hbw
    have hxr:=HX2.out.below hbw HX2.out.lt
    clear hbw
    have q0:=hxr.cell 0 (v:=.int .i64 2) rfl
    have q1:=hxr.cell 1 (v:=.int .i64 wk) rfl
    have q2:=hxr.cell 2 (v:=.int .i64 (n)) rfl
    have HXR:=Lib.hid hxr
    have hws:=HBW.out.size
    clear hxr
    obtain ⟨d,hdd⟩:∃ d:Int,(f + n - 1) + 1 * j = d:=⟨_,rfl⟩
    rw [hdd]
    have hdb:-20000000 ≤ d∧d ≤ 20000000:=by omega
    have HJ:=Lib.hid hdd
    clear hdd
    have HCQ:=Lib.hid (fun (W:World) (h:Below wr.heap.size wr W)=>(h.cell (p:=⟨w.heap.size,1,none⟩) HXR.out.lt).trans q1)
    have HWK:=Lib.hid (fun (W:World)=>(rweek_any d (by omega) (by omega) W).mono (R':=fun e w'=>e = .returned (.int .i64 (weekV d))∧Below W.heap.size W w') (fun e w' h=>⟨h.1,h.2 ▸ Below.refl _ _⟩))
    go_wp2_with fail
    by_cases hjK:j = K
    ·have hne:(weekV d != wk) = false:=by
      have h:=HSK.out.1
      rw [← hjK,HJ.out] at h
      simpa using h
     have hE:d = (f + n - 1) + 1 * K:=by rw [← HJ.out,hjK]
     have HE:=Lib.hid hE
     clear hE hjK
     refine wp_env (fin:=?fna2) (by kernel_rfl) [47,48,49,50,51]
      [.int .i64 d,.int .i64 (weekV d),.pointer (some ⟨w.heap.size,1,none⟩),.int .i64 wk,.bool false] (by kernel_rfl) ?fina2 ?stepsa2 ?nexta2
     case fina2 =>
      simp only [putAll,Act.put,List.setIfInBounds_toArray,List.set_cons_succ,List.set_cons_zero]
      rfl
     case stepsa2 =>
      refine ⟨?_,?_,?_,?_,?_,trivial⟩
      all_goals refine .inr ⟨by kernel_rfl,fun w1_ hB_=>?_⟩
      all_goals
       have q1:=HCQ.out w1_ hB_
       go_simp
       first
        | exact ⟨rfl,Below.refl _ _⟩
        | exact ⟨rfl,HWK.out w1_⟩
        | ((first | rw [decide_eq_true (by omega)] | rw [decide_eq_false (by omega)] | rw [if_pos (by omega)] | rw [IntWalk.i64_in _ (by omega)]);exact ⟨rfl,Below.refl _ _⟩)
        | done
     case nexta2 =>
     intro w5 hb5
     have HB5:=Lib.hid (HBW.out.trans (hb5.mono HBW.out.size))
     clear hb5
     go_wp2_with fail
     rw [HE.out]
     refine bodyPost_ret (v:=.tuple #[.int .i64 ((f + n - 1) + 1 * K),.bool true]) ?_ rfl ⟨by rw [← HRD.out],HB2.out.trans (HB5.out.mono hs2)⟩
     simp [results,Tryz.f110,go_sem]
    ·have hne:(weekV d != wk) = true:=by
      have h:=HSK.out.2 j (by omega)
      rw [HJ.out] at h
      simpa using h
     have HNE:=Lib.hid hne
     refine wp_env (fin:=?fnb2) (by kernel_rfl) [47,48,49,50,51]
      [.int .i64 d,.int .i64 (weekV d),.pointer (some ⟨w.heap.size,1,none⟩),.int .i64 wk,.bool true] (by kernel_rfl) ?finb2 ?stepsb2 ?nextb2
     case finb2 =>
      simp only [putAll,Act.put,List.setIfInBounds_toArray,List.set_cons_succ,List.set_cons_zero]
      rfl
     case stepsb2 =>
      refine ⟨?_,?_,?_,?_,?_,trivial⟩
      all_goals refine .inr ⟨by kernel_rfl,fun w1_ hB_=>?_⟩
      all_goals
       have q1:=HCQ.out w1_ hB_
       go_simp
       first
        | exact ⟨rfl,Below.refl _ _⟩
        | exact ⟨rfl,HWK.out w1_⟩
        | ((first | rw [decide_eq_true (by omega)] | rw [decide_eq_false (by omega)] | rw [if_pos (by omega)] | rw [IntWalk.i64_in _ (by omega)]);exact ⟨rfl,Below.refl _ _⟩)
        | done
     case nextb2 =>
     intro w5 hb5
     have HB5:=Lib.hid (HBW.out.trans (hb5.mono HBW.out.size))
     have h5:=HXR.out.below hb5 HXR.out.lt
     have q0:=h5.cell 0 (v:=.int .i64 2) rfl
     clear hb5 h5 hne
     go_wp2_with fail
     go_roundw
     case rel=>exact ⟨j + 1,by omega,by first | rfl | go_num | (have:=HJ.out;congr 1;omega),HB5.out⟩
     case measure=>have:=HJ.out;simp [intOf];omega
  ·have hd1:decide (n < 1) = false:=decide_eq_false (by omega)
   have hd2:decide (ln < n) = false:=decide_eq_false (by omega)
   obtain ⟨K,hK7,hsk,hwK,hnK⟩:=seek_spec (a:=(f + n - 1)) (st:=(-1)) (wk:=wk) (by omega) (by omega) (by omega)
   have HSK:=Lib.hid (And.intro hwK hnK)
   have HV:=Lib.hid (show inDay 3 wk (n) y m = (f + n - 1) + (-1) * K by unfold inDay;rw [if_neg (by decide),if_neg (by decide),if_neg (by decide),HDV.out];exact hsk)
   rw [HV.out] at HRD
   clear hsk hwK hnK
   unfold dayA
   go_enter Tryz.func110,Tryz.ntmps110
   go_wp2_with fail
   refine (HD.out _).mono ?_
   rintro e w1 ⟨rfl,hb⟩
   have h1:=HX.out.below hb HX.out.lt
   have HB1:=Lib.hid (HB0.out.trans (hb.mono HB0.out.size))
   have q0:=h1.cell 0 (v:=.int .i64 3) rfl
   have q1:=h1.cell 1 (v:=.int .i64 (wk)) rfl
   have q2:=h1.cell 2 (v:=.int .i64 (n)) rfl
   have HX1:=Lib.hid h1
   clear hb h1
   go_wp2_with fail
   refine (HL.out _).mono ?_
   rintro e w2 ⟨rfl,hb⟩
   have h1:=HX1.out.below hb HX1.out.lt
   have HB2:=Lib.hid (HB1.out.trans (hb.mono HB1.out.size))
   have q0:=h1.cell 0 (v:=.int .i64 3) rfl
   have q1:=h1.cell 1 (v:=.int .i64 (wk)) rfl
   have q2:=h1.cell 2 (v:=.int .i64 (n)) rfl
   have HX2:=Lib.hid h1
   have hs2:=HB2.out.size
   clear hb h1
   go_wp2_with fail
   go_loopw [10] (fun dv wr=>∃ j:Nat,j ≤ K∧dv = .int .i64 ((f + n - 1) + (-1) * j)∧Below w2.heap.size w2 wr) (fun dv _=>(- ((f + n - 1) + (-1) * K - intOf dv)).toNat)
   case atStart=>exact ⟨0,Nat.zero_le _,by first | rfl | simp,Below.refl _ _⟩
   case round =>
    obtain ⟨j,hj,rfl,hbw⟩:=hrel
    have HBW:=Lib.hid hbw
    have hxr:=HX2.out.below hbw HX2.out.lt
    clear hbw
    have q0:=hxr.cell 0 (v:=.int .i64 3) rfl
    have q1:=hxr.cell 1 (v:=.int .i64 wk) rfl
    have q2:=hxr.cell 2 (v:=.int .i64 (n)) rfl
    have HXR:=Lib.hid hxr
    have hws:=HBW.out.size
    clear hxr
    obtain ⟨d,hdd⟩:∃ d:Int,(f + n - 1) + (-1) * j = d:=⟨_,rfl⟩
    rw [hdd]
    have hdb:-20000000 ≤ d∧d ≤ 20000000:=by omega
    have HJ:=Lib.hid hdd
    clear hdd
    have HCQ:=Lib.hid (fun (W:World) (h:Below wr.heap.size wr W)=>(h.cell (p:=⟨w.heap.size,1,none⟩) HXR.out.lt).trans q1)
    have HWK:=Lib.hid (fun (W:World)=>(rweek_any d (by omega) (by omega) W).mono (R':=fun e w'=>e = .returned (.int .i64 (weekV d))∧Below W.heap.size W w') (fun e w' h=>⟨h.1,h.2 ▸ Below.refl _ _⟩))
    go_wp2_with fail
    by_cases hjK:j = K
    ·have hne:(weekV d != wk) = false:=by
      have h:=HSK.out.1
      rw [← hjK,HJ.out] at h
      simpa using h
     have hE:d = (f + n - 1) + (-1) * K:=by rw [← HJ.out,hjK]
     have HE:=Lib.hid hE
     clear hE hjK
     refine wp_env (fin:=?fna3) (by kernel_rfl) [47,48,49,50,51]
      [.int .i64 d,.int .i64 (weekV d),.pointer (some ⟨w.heap.size,1,none⟩),.int .i64 wk,.bool false] (by kernel_rfl) ?fina3 ?stepsa3 ?nexta3
     case fina3 =>
      simp only [putAll,Act.put,List.setIfInBounds_toArray,List.set_cons_succ,List.set_cons_zero]
      rfl
     case stepsa3 =>
      refine ⟨?_,?_,?_,?_,?_,trivial⟩
      all_goals refine .inr ⟨by kernel_rfl,fun w1_ hB_=>?_⟩
      all_goals
       have q1:=HCQ.out w1_ hB_
       go_simp
       first
        | exact ⟨rfl,Below.refl _ _⟩
        | exact ⟨rfl,HWK.out w1_⟩
        | ((first | rw [decide_eq_true (by omega)] | rw [decide_eq_false (by omega)] | rw [if_pos (by omega)] | rw [IntWalk.i64_in _ (by omega)]);exact ⟨rfl,Below.refl _ _⟩)
        | done
     case nexta3 =>
     intro w5 hb5
     have HB5:=Lib.hid (HBW.out.trans (hb5.mono HBW.out.size))
     clear hb5
     go_wp2_with fail
     rw [HE.out]
     refine bodyPost_ret (v:=.tuple #[.int .i64 ((f + n - 1) + (-1) * K),.bool true]) ?_ rfl ⟨by rw [← HRD.out],HB2.out.trans (HB5.out.mono hs2)⟩
     simp [results,Tryz.f110,go_sem]
    ·have hne:(weekV d != wk) = true:=by
      have h:=HSK.out.2 j (by omega)
      rw [HJ.out] at h
      simpa using h
     have HNE:=Lib.hid hne
     refine wp_env (fin:=?fnb3) (by kernel_rfl) [47,48,49,50,51]
      [.int .i64 d,.int .i64 (weekV d),.pointer (some ⟨w.heap.size,1,none⟩),.int .i64 wk,.bool true] (by kernel_rfl) ?finb3 ?stepsb3 ?nextb3
     case finb3 =>
      simp only [putAll,Act.put,List.setIfInBounds_toArray,List.set_cons_succ,List.set_cons_zero]
      rfl
     case stepsb3 =>
      refine ⟨?_,?_,?_,?_,?_,trivial⟩
      all_goals refine .inr ⟨by kernel_rfl,fun w1_ hB_=>?_⟩
      all_goals
       have q1:=HCQ.out w1_ hB_
       go_simp
       first
        | exact ⟨rfl,Below.refl _ _⟩
        | exact ⟨rfl,HWK.out w1_⟩
        | ((first | rw [decide_eq_true (by omega)] | rw [decide_eq_false (by omega)] | rw [if_pos (by omega)] | rw [IntWalk.i64_in _ (by omega)]);exact ⟨rfl,Below.refl _ _⟩)
        | done
     case nextb3 =>
     intro w5 hb5
     have HB5:=Lib.hid (HBW.out.trans (hb5.mono HBW.out.size))
     have h5:=HXR.out.below hb5 HXR.out.lt
     have q0:=h5.cell 0 (v:=.int .i64 3) rfl
     clear hb5 h5 hne
     go_wp2_with fail
     go_roundw
     case rel=>exact ⟨j + 1,by omega,by first | rfl | go_num | (have:=HJ.out;congr 1;omega),HB5.out⟩
     case measure=>have:=HJ.out;simp [intOf];omega
 ·rw [if_neg hn] at HRD
  have hd2:decide (ln < n) = true:=decide_eq_true (by omega)
  rcases hok with ⟨rfl,h3,h4,rfl⟩ | ⟨rfl,rfl,h3,h4⟩ | ⟨rfl | rfl,h3,h4,h5,h6⟩
  ·have hd1:decide (n < 1) = false:=decide_eq_false (by omega)
   unfold dayA
   go_enter Tryz.func110,Tryz.ntmps110
   go_wp2_with fail
   refine (HD.out _).mono ?_
   rintro e w1 ⟨rfl,hb⟩
   have h1:=HX.out.below hb HX.out.lt
   have HB1:=Lib.hid (HB0.out.trans (hb.mono HB0.out.size))
   have q0:=h1.cell 0 (v:=.int .i64 0) rfl
   have q1:=h1.cell 1 (v:=.int .i64 (0)) rfl
   have q2:=h1.cell 2 (v:=.int .i64 (n)) rfl
   have HX1:=Lib.hid h1
   clear hb h1
   go_wp2_with fail
   refine (HL.out _).mono ?_
   rintro e w2 ⟨rfl,hb⟩
   have h1:=HX1.out.below hb HX1.out.lt
   have HB2:=Lib.hid (HB1.out.trans (hb.mono HB1.out.size))
   have q0:=h1.cell 0 (v:=.int .i64 0) rfl
   have q1:=h1.cell 1 (v:=.int .i64 (0)) rfl
   have q2:=h1.cell 2 (v:=.int .i64 (n)) rfl
   have HX2:=Lib.hid h1
   have hs2:=HB2.out.size
   clear hb h1
   go_wp2_with fail
   refine bodyPost_ret (v:=.tuple #[.int .i64 (0),.bool false]) ?_ rfl ⟨by rw [← HRD.out],HB2.out⟩
   simp [results,Tryz.f110,go_sem]
  ·omega
  ·have hd1:decide (n < 1) = false:=decide_eq_false (by omega)
   unfold dayA
   go_enter Tryz.func110,Tryz.ntmps110
   go_wp2_with fail
   refine (HD.out _).mono ?_
   rintro e w1 ⟨rfl,hb⟩
   have h1:=HX.out.below hb HX.out.lt
   have HB1:=Lib.hid (HB0.out.trans (hb.mono HB0.out.size))
   have q0:=h1.cell 0 (v:=.int .i64 2) rfl
   have q1:=h1.cell 1 (v:=.int .i64 (wk)) rfl
   have q2:=h1.cell 2 (v:=.int .i64 (n)) rfl
   have HX1:=Lib.hid h1
   clear hb h1
   go_wp2_with fail
   refine (HL.out _).mono ?_
   rintro e w2 ⟨rfl,hb⟩
   have h1:=HX1.out.below hb HX1.out.lt
   have HB2:=Lib.hid (HB1.out.trans (hb.mono HB1.out.size))
   have q0:=h1.cell 0 (v:=.int .i64 2) rfl
   have q1:=h1.cell 1 (v:=.int .i64 (wk)) rfl
   have q2:=h1.cell 2 (v:=.int .i64 (n)) rfl
   have HX2:=Lib.hid h1
   have hs2:=HB2.out.size
   clear hb h1
   go_wp2_with fail
   refine bodyPost_ret (v:=.tuple #[.int .i64 (0),.bool false]) ?_ rfl ⟨by rw [← HRD.out],HB2.out⟩
   simp [results,Tryz.f110,go_sem]
  ·have hd1:decide (n < 1) = false:=decide_eq_false (by omega)
   unfold dayA
   go_enter Tryz.func110,Tryz.ntmps110
   go_wp2_with fail
   refine (HD.out _).mono ?_
   rintro e w1 ⟨rfl,hb⟩
   have h1:=HX.out.below hb HX.out.lt
   have HB1:=Lib.hid (HB0.out.trans (hb.mono HB0.out.size))
   have q0:=h1.cell 0 (v:=.int .i64 3) rfl
   have q1:=h1.cell 1 (v:=.int .i64 (wk)) rfl
   have q2:=h1.cell 2 (v:=.int .i64 (n)) rfl
   have HX1:=Lib.hid h1
   clear hb h1
   go_wp2_with fail
   refine (HL.out _).mono ?_
   rintro e w2 ⟨rfl,hb⟩
   have h1:=HX1.out.below hb HX1.out.lt
   have HB2:=Lib.hid (HB1.out.trans (hb.mono HB1.out.size))
   have q0:=h1.cell 0 (v:=.int .i64 3) rfl
   have q1:=h1.cell 1 (v:=.int .i64 (wk)) rfl
   have q2:=h1.cell 2 (v:=.int .i64 (n)) rfl
   have HX2:=Lib.hid h1
   have hs2:=HB2.out.size
   clear hb h1
   go_wp2_with fail
   refine bodyPost_ret (v:=.tuple #[.int .i64 (0),.bool false]) ?_ rfl ⟨by rw [← HRD.out],HB2.out⟩
   simp [results,Tryz.f110,go_sem]
end
section -- RefD
open Go Go.RowKit Go.Shelf
theorem small_of {r:Rul} {y:Int} (hs:smallR r = true) (h1:r.from_ ≤ y) (h2:y ≤ r.to_) (h3:y ≤ 2110) :
  ofB r y = decide (r.dn ≤ lenV y r.month)∧-1000000 ≤ inDay r.dk r.dw r.dn y r.month∧inDay r.dk r.dw r.dn y r.month ≤ 1000000∧dayOkB r.dk r.dw r.dn = true∧1900 ≤ y∧1 ≤ r.month∧r.month ≤ 12∧-172800 ≤ r.sec∧r.sec ≤ 259200:=by
 unfold smallR at hs
 rw [Bool.and_eq_true,decide_eq_true_eq] at hs
 obtain ⟨⟨a1,a2,a3,a4,a5,a6,a7,a8,a9⟩,hok⟩:=hs
 have hyv:-100000 ≤ yearV y∧yearV y ≤ 100000:=by unfold yearV;omega
 have hsv:=startV_in y r.month
 have hlv:=lenV_in (y:=y) a4 a5
 have hok2:=hok
 unfold dayOkB at hok2
 rw [decide_eq_true_eq] at hok2
 have hd:-1000000 ≤ inDay r.dk r.dw r.dn y r.month∧inDay r.dk r.dw r.dn y r.month ≤ 1000000:=by
  unfold inDay
  split
  ·unfold dayV;omega
  ·split
   ·unfold seekV dayV
    rw [if_pos rfl]
    omega
   ·unfold seekV dayV
    rw [if_neg (by decide)]
    split <;> omega
 have e1:mayB r.sec = true:=by unfold mayB;rw [decide_eq_true_eq];omega
 have e2:ofInB (inDay r.dk r.dw r.dn y r.month) = true:=by unfold ofInB;rw [decide_eq_true_eq];omega
 have e3:ymB y r.month = true:=by unfold ymB;rw [decide_eq_true_eq];omega
 refine ⟨?_,hd.1,hd.2,hok,by omega,a4,a5,a6,a7⟩
 unfold ofB inOkB inB
 rw [decide_eq_true (show r.from_ ≤ y∧y ≤ r.to_ from ⟨h1,h2⟩),hok,e1,e2,e3]
 simp
theorem map_f_append (A C:List FrI) (x:FrI):(A ++ x :: C).map FrI.f = A.map FrI.f ++ x.f :: C.map FrI.f:=by simp
theorem rall_any (w:World) (B:Nat) (v:Value) (l:List Rul) (a b:Int) (hv:Ruls w B v l) (hB:B ≤ w.heap.size) (hs:smallB l = true) (h2:b ≤ 2110) (h1:1880 ≤ a) :
  Calls Tryz.prog 70 #[v,.int .i64 a,.int .i64 b] w fun e w'=>∃ u D,e = .returned u∧Stab Fir.nominal (genL l a b) (D.map FrI.f)∧(∀ y ∈ D,0 ≤ y.i∧y.i < (l.length:Int))∧FrisN w' u D∧Below w.heap.size w w':=by
 obtain ⟨A,c,rfl,hlc,hcm⟩:=hv.form
 unfold maxLen at hcm
 have HV:=Lib.hid hv
 unfold smallB at hs
 rw [Bool.and_eq_true,decide_eq_true_eq,List.all_eq_true] at hs
 obtain ⟨hsm,hl⟩:=hs
 have HSM:=Lib.hid (fun k (hk:k < l.length)=>hsm l[k] (List.getElem_mem hk))
 clear hv hsm
 go_enter Tryz.func70,Tryz.ntmps70
 go_wp2_with fail
 go_loopw [7,8] (fun u iv wr=>∃ k:Nat,∃ D:List FrI,k ≤ l.length∧iv = .int .i64 k∧Stab Fir.nominal (genK l a b k) (D.map FrI.f)∧(∀ y ∈ D,0 ≤ y.i∧y.i < (k:Int))∧FrisN wr u D∧Below w.heap.size w wr) (fun _ iv _=>l.length - (intOf iv).toNat)
 case atStart=>exact ⟨0,[],Nat.zero_le _,rfl,Stab.nil,fun y hy=>by simp at hy,⟨Sl.nil _ _ _,TyF.nil _ _ _⟩,Below.refl _ _⟩
 case round =>
  obtain ⟨k,D,hk,rfl,hst,hdi,hfr,hbw⟩:=hrel
  have HST:=Lib.hid hst
  have HDI:=Lib.hid hdi
  have HFR:=Lib.hid hfr
  have HBW:=Lib.hid hbw
  have hws:=hbw.size
  clear hst hdi hfr hbw
  by_cases hlt:k < l.length
  ·have hd:decide ((k:Int) < (l.length:Int)) = true:=decide_eq_true (by omega)
   obtain ⟨bb,o,c',e,hbb,hc⟩:=(HV.out.below (HBW.out.mono hB)).cells (by omega)
   cases e
   obtain ⟨c0,c1,c2,c3,c4,c5,c6,c7,c8,c9,c10⟩:=hc k hlt
   have hsmk:=HSM.out k hlt
   have HNX:=Lib.hid (genK_next l a b hlt)
   obtain ⟨r,hr⟩:∃ r,l[k] = r:=⟨_,rfl⟩
   rw [hr] at c0 c1 c2 c3 c4 c5 c6 c7 c8 c9 c10 HNX hsmk
   have HSK:=Lib.hid hsmk
   have hgl:(genK l a b k).length ≤ 1500:=by
    have h5:=genL_len (l.take k) a b
    have h6:(l.take k).length * (b + 1 - a).toNat ≤ 6 * 250:=Nat.mul_le_mul (by rw [List.length_take];omega) (by omega)
    unfold genK
    omega
   obtain ⟨G,hG⟩:∃ G,genK l a b k = G:=⟨_,rfl⟩
   rw [hG] at HST HNX hgl
   have HRC:=Lib.hid (genR_cut r a b)
   have hfr_:1900 ≤ r.from_∧r.from_ ≤ 2100:=by
    unfold smallR at hsmk
    rw [Bool.and_eq_true,decide_eq_true_eq] at hsmk
    exact ⟨hsmk.1.1,hsmk.1.2.1⟩
   obtain ⟨y0,hy0⟩:∃ y0,max a r.from_ = y0:=⟨_,rfl⟩
   obtain ⟨y1,hy1⟩:∃ y1,min b r.to_ = y1:=⟨_,rfl⟩
   rw [hy0,hy1] at HRC
   have hya:a ≤ y0:=by omega
   have hyf:r.from_ ≤ y0:=by omega
   have hyb:y1 ≤ b:=by omega
   clear hc hr hG hsmk
   go_wp2_with fail
   obtain ⟨W1,hW1⟩:∃ W,wr.alloc (.cells #[.string r.name,.int .i64 r.from_,.int .i64 r.to_,.int .i64 r.month,.int .i64 r.dk,.int .i64 r.dw,.int .i64 r.dn,.int .i64 r.sec,.int .i64 r.kind,.int .i64 r.save,.string r.letter] 106) = W:=⟨_,rfl⟩
   have HR1:=Lib.hid (show RulB W1 wr.heap.size r by rw [← hW1];exact Blk.new wr _ _)
   have hb01:Below wr.heap.size wr W1:=by rw [← hW1];exact (Below.refl _ _).alloc (Nat.le_refl _) _
   have HF1:=Lib.hid (HFR.out.below hb01)
   have HB1:=Lib.hid (HBW.out.trans (hb01.mono hws))
   have hsz1:wr.heap.size < W1.heap.size:=by rw [← hW1];simp
   rw [hW1]
   obtain ⟨BX,hBX⟩:∃ n,wr.heap.size = n:=⟨_,rfl⟩
   rw [hBX] at HR1 hsz1 hws ⊢
   have HY:=Lib.hid (And.intro hy0 hy1)
   clear hW1 hb01 hy0 hy1 c0 c1 c2 c3 c4 c5 c6 c7 c8 c9 c10 HFR HBW
   go_loopw [7,10] (fun u yv wi=>∃ y:Int,∃ D:List FrI,yv = .int .i64 y∧y0 ≤ y∧(y ≤ y1 + 1∨y = y0)∧Stab Fir.nominal (G ++ genR r y0 (y - 1)) (D.map FrI.f)∧(∀ z ∈ D,0 ≤ z.i∧z.i ≤ (k:Int))∧FrisN wi u D∧RulB wi BX r∧Below w.heap.size w wi) (fun _ yv _=>(y1 + 1 - intOf yv).toNat)
   case atStart=>exact ⟨y0,D,rfl,Int.le_refl _,.inr rfl,by
    have e:genR r y0 (y0 - 1) = []:=by unfold genR;rw [yrs_nil (by omega)];rfl
    rw [e,List.append_nil]
    exact HST.out,fun z hz=>by have:=HDI.out z hz;omega,HF1.out,HR1.out,HB1.out⟩
   case round =>
    clear HST HDI HF1
    obtain ⟨y,D,rfl,hy0,hy1,hst,hdi,hfr,hrb,hbw⟩:=hrel
    have HST:=Lib.hid hst
    have HDI:=Lib.hid hdi
    have HFR:=Lib.hid hfr
    have HRB:=Lib.hid hrb
    have HBI:=Lib.hid hbw
    have hBl:=Blk.lt hrb
    have hws2:=hbw.size
    have q0:=Blk.cell hrb 0 (v:=.string r.name) rfl
    have q1:=Blk.cell hrb 1 (v:=.int .i64 r.from_) rfl
    have q2:=Blk.cell hrb 2 (v:=.int .i64 r.to_) rfl
    have q3:=Blk.cell hrb 3 (v:=.int .i64 r.month) rfl
    have q4:=Blk.cell hrb 4 (v:=.int .i64 r.dk) rfl
    have q5:=Blk.cell hrb 5 (v:=.int .i64 r.dw) rfl
    have q6:=Blk.cell hrb 6 (v:=.int .i64 r.dn) rfl
    have q7:=Blk.cell hrb 7 (v:=.int .i64 r.sec) rfl
    have q8:=Blk.cell hrb 8 (v:=.int .i64 r.kind) rfl
    have q9:=Blk.cell hrb 9 (v:=.int .i64 r.save) rfl
    have q10:=Blk.cell hrb 10 (v:=.string r.letter) rfl
    clear hst hdi hfr hrb hbw
    by_cases hyl:y ≤ b
    ·have hd5:decide (y ≤ b) = true:=decide_eq_true hyl
     by_cases hyt:y ≤ r.to_
     ·have hd6:decide (y ≤ r.to_) = true:=decide_eq_true hyt
      have hyy:y ≤ y1:=by have:=HY.out.2;omega
      obtain ⟨hof,hd1,hd2,hok,hy19,hm1,hm2,hs1,hs2⟩:=small_of HSK.out (show r.from_ ≤ y by omega) hyt (by omega)
      have HD:=Lib.hid (fun W=>rday_any r.dk r.dw r.dn y r.month hok (by omega) (by omega) hm1 hm2 W)
      have HGN:=Lib.hid (genR_next r hy0)
      by_cases hn:r.dn ≤ lenV y r.month
      ·have hob:ofB r y = true:=by rw [hof];exact decide_eq_true hn
       unfold RDay at HD
       rw [if_pos hn] at HD
       rw [hob,if_pos rfl] at HGN
       unfold firOf at HGN
       generalize inDay r.dk r.dw r.dn y r.month = v at *
       rw [show v * 86400 = 86400 * v from Int.mul_comm _ _] at HGN
       have hgl2:D.length ≤ 100000:=by
        have h5:=genR_len r y0 (y - 1)
        have h6:=HST.out.len
        rw [List.length_map,List.length_append] at h6
        omega
       have HSD:=Lib.hid (show D.Pairwise (fun a b=>a.f.nominal ≤ b.f.nominal) by have h:=HST.out.2.1;rw [List.pairwise_map] at h;exact h)
       have HP:=Lib.hid (fun (W:World) (h:Below wr.heap.size wr W)=>put_any W wr.heap.size _ D ⟨⟨86400 * v + r.sec,r.kind,r.save,r.letter⟩,k⟩ (HFR.out.1.below h) h.size hgl2 (fun z hz=>(HDI.out z hz).2) HSD.out)
       simp only [friA] at HP
       unfold dayA at HD
       have hv1:-90000000000 ≤ 86400 * v∧86400 * v ≤ 90000000000:=by omega
       clear hof hob hn hok
       go_wp2_with fail
       refine (HD.out _).mono ?_
       rintro e w2 ⟨rfl,hb⟩
       have HB2:=Lib.hid hb
       have HR2:=Lib.hid (Blk.below HRB.out hb (Blk.lt HRB.out))
       clear hb q0 q1 q2 q3 q4 q5 q6 q7 q8 q9 q10
       have q0:=Blk.cell HR2.out 0 (v:=.string r.name) rfl
       have q1:=Blk.cell HR2.out 1 (v:=.int .i64 r.from_) rfl
       have q2:=Blk.cell HR2.out 2 (v:=.int .i64 r.to_) rfl
       have q3:=Blk.cell HR2.out 3 (v:=.int .i64 r.month) rfl
       have q4:=Blk.cell HR2.out 4 (v:=.int .i64 r.dk) rfl
       have q5:=Blk.cell HR2.out 5 (v:=.int .i64 r.dw) rfl
       have q6:=Blk.cell HR2.out 6 (v:=.int .i64 r.dn) rfl
       have q7:=Blk.cell HR2.out 7 (v:=.int .i64 r.sec) rfl
       have q8:=Blk.cell HR2.out 8 (v:=.int .i64 r.kind) rfl
       have q9:=Blk.cell HR2.out 9 (v:=.int .i64 r.save) rfl
       have q10:=Blk.cell HR2.out 10 (v:=.string r.letter) rfl
       go_wp2_with fail
       refine (HP.out _ HB2.out).mono ?_
       rintro e w3 ⟨u3,A3,C3,rfl,hD,hA,hC,hfr,hb⟩
       have HPP:=Lib.hid (And.intro hD (And.intro hA (And.intro hC hfr)))
       have HB3:=Lib.hid (HB2.out.trans (hb.mono HB2.out.size))
       have HR3:=Lib.hid (Blk.below HR2.out hb (Blk.lt HR2.out))
       clear hD hA hC hfr hb
       go_wp2_with fail
       go_roundw
       case rel =>
        refine ⟨y + 1,_,by first | rfl | go_num,by omega,.inl (by omega),?_,?_,HPP.out.2.2.2,HR3.out,HBI.out.trans (HB3.out.mono HBI.out.size)⟩
        ·have h:=HST.out
         rw [HPP.out.1,List.map_append] at h
         rw [show y + 1 - 1 = y by omega,HGN.out,← List.append_assoc,map_f_append]
         exact h.put (fun f hf=>by obtain ⟨z,hz,rfl⟩:=List.mem_map.1 hf;exact HPP.out.2.1 z hz) (fun f hf=>by obtain ⟨z,hz,rfl⟩:=List.mem_map.1 hf;exact HPP.out.2.2.1 z hz)
        ·intro z hz
         have hD:=HPP.out.1
         rcases List.mem_append.1 hz with hz | hz
         ·exact HDI.out z (by rw [hD];exact List.mem_append_left _ hz)
         ·rcases List.mem_cons.1 hz with rfl | hz
          ·exact ⟨by simp,Int.le_refl _⟩
          ·exact HDI.out z (by rw [hD];exact List.mem_append_right _ hz)
       case measure=>simp [intOf];omega
      ·have hob:ofB r y = false:=by rw [hof];exact decide_eq_false hn
       unfold RDay at HD
       rw [if_neg hn] at HD
       rw [hob,if_neg (by decide),List.append_nil] at HGN
       unfold dayA at HD
       clear hof hob hn hok hd1 hd2
       go_wp2_with fail
       refine (HD.out _).mono ?_
       rintro e w2 ⟨rfl,hb⟩
       have HB2:=Lib.hid hb
       have HR2:=Lib.hid (Blk.below HRB.out hb (Blk.lt HRB.out))
       clear hb q0 q1 q2 q3 q4 q5 q6 q7 q8 q9 q10
       go_wp2_with fail
       go_roundw
       case rel=>exact ⟨y + 1,D,by first | rfl | go_num,by omega,.inl (by omega),by rw [show y + 1 - 1 = y by omega,HGN.out];exact HST.out,HDI.out,HFR.out.below HB2.out,HR2.out,HBI.out.trans (HB2.out.mono HBI.out.size)⟩
       case measure=>simp [intOf];omega
     ·have hd6:decide (y ≤ r.to_) = false:=decide_eq_false hyt
      have HE:=Lib.hid (show G ++ genR r y0 (y - 1) = G ++ genR r a b by
       rw [HRC.out]
       have e:=HY.out.2
       rcases hy1 with h | h
       ·rw [show y - 1 = y1 by omega]
       ·unfold genR
        rw [yrs_nil (show y - 1 < y0 by omega),yrs_nil (show y1 < y0 by omega)])
      go_wp2_with fail
      go_roundw
      case rel=>exact ⟨k + 1,D,by omega,by go_num,by rw [HNX.out,← HE.out];exact HST.out,fun y hy=>by have:=HDI.out y hy;omega,HFR.out,HBI.out⟩
      case measure=>simp [intOf];omega
    ·have hd5:decide (y ≤ b) = false:=decide_eq_false hyl
     have HE:=Lib.hid (show G ++ genR r y0 (y - 1) = G ++ genR r a b by
      rw [HRC.out]
      have e:=HY.out.2
      rcases hy1 with h | h
      ·rw [show y - 1 = y1 by omega]
      ·unfold genR
       rw [yrs_nil (show y - 1 < y0 by omega),yrs_nil (show y1 < y0 by omega)])
     go_wp2_with fail
     go_roundw
     case rel=>exact ⟨k + 1,D,by omega,by go_num,by rw [HNX.out,← HE.out];exact HST.out,fun y hy=>by have:=HDI.out y hy;omega,HFR.out,HBI.out⟩
     case measure=>simp [intOf];omega
  ·obtain rfl:k = l.length:=by omega
   have hd:decide ((l.length:Int) < (l.length:Int)) = false:=decide_eq_false (by omega)
   have HG:=Lib.hid (show genK l a b l.length = genL l a b by unfold genK;rw [List.take_length])
   rw [HG.out] at HST
   go_wp2_with fail
   go_ret
   exact ⟨_,D,rfl,HST.out,HDI.out,HFR.out,HBW.out⟩
end
section -- PApart
open Go Go.RowKit Go.Shelf
def okAt (D:List FrI) (i:Nat):Bool:=match D[i]? with
 | none=>true
 | some x=>decide (-90000 < x.f.save) && decide (x.f.save < 90000) && (match i with | 0=>true | j + 1=>match D[j]? with | none=>true | some y=>decide (180000 < x.f.nominal - y.f.nominal))
def apB (D:List FrI):Bool:=(List.range D.length).all (okAt D)
theorem apB_no {D:List FrI} {k:Nat} (hk:k < D.length) (h:okAt D k = false):apB D = false:=by
 unfold apB
 rw [List.all_eq_false]
 exact ⟨k,by simpa using hk,by rw [h];decide⟩
theorem apB_yes {D:List FrI} (h:∀ i,i < D.length→okAt D i = true):apB D = true:=by
 unfold apB
 rw [List.all_eq_true]
 intro i hi
 exact h i (by simpa using hi)
theorem apB_at {D:List FrI} (h:apB D = true) {i:Nat} (hi:i < D.length):okAt D i = true:=by
 unfold apB at h
 rw [List.all_eq_true] at h
 exact h i (by simpa using hi)
theorem apB_apart {D:List FrI} (h:apB D = true):apartB (D.map FrI.f) = true:=by
 refine apartB_of (fun f hf=>?_) (fun i hi=>?_)
 ·obtain ⟨x,hx,rfl⟩:=List.mem_map.1 hf
  obtain ⟨i,hi,rfl⟩:=List.getElem_of_mem hx
  have:=apB_at h hi
  unfold okAt at this
  rw [List.getElem?_eq_getElem hi] at this
  simp only [Bool.and_eq_true,decide_eq_true_eq] at this
  exact this.1
 ·rw [List.length_map] at hi
  have:=apB_at h hi
  unfold okAt at this
  simp only [List.getElem?_eq_getElem hi,List.getElem?_eq_getElem (show i < D.length by omega),Bool.and_eq_true,decide_eq_true_eq] at this
  rw [List.getElem_map,List.getElem_map]
  omega
theorem apart_any (w:World) (B:Nat) (v:Value) (D:List FrI) (hv:Fris w B v D) (hB:B ≤ w.heap.size) (hl:D.length ≤ 100000) (hr:∀ x ∈ D,-1000000000000000 ≤ x.f.nominal∧x.f.nominal ≤ 1000000000000000) :
  Calls Tryz.prog 84 #[v] w fun e w'=>e = .returned (.bool (apB D))∧Below w.heap.size w w':=by
 have HV:=Lib.hid hv
 have HR:=Lib.hid (fun k (h:k < D.length)=>hr D[k] (List.getElem_mem h))
 obtain ⟨A,c,rfl,hlc,hcm⟩:=hv.form
 unfold maxLen at hcm
 clear hv hr
 go_enter Tryz.func84,Tryz.ntmps84
 go_wp2_with fail
 go_loopw [3] (fun iv wr=>∃ k:Nat,k ≤ D.length∧iv = .int .i64 k∧(∀ i,i < k→okAt D i = true)∧Below w.heap.size w wr) (fun iv _=>D.length - (intOf iv).toNat)
 case atStart=>exact ⟨0,Nat.zero_le _,rfl,fun i h=>absurd h (by omega),Below.refl _ _⟩
 case round =>
  obtain ⟨k,hk,rfl,hok,hbw⟩:=hrel
  have HOK:=Lib.hid hok
  have HBW:=Lib.hid hbw
  have hws:=hbw.size
  clear hok hbw
  by_cases hlt:k < D.length
  ·have hd:decide ((k:Int) < (D.length:Int)) = true:=decide_eq_true (by omega)
   obtain ⟨bb,o,c',e,hbb,hc⟩:=(HV.out.below (HBW.out.mono hB)).cells (by omega)
   cases e
   have hx:=hc k hlt
   have hrx:=HR.out k hlt
   have HC:=Lib.hid hc
   obtain ⟨x,hxk⟩:∃ x,D[k] = x:=⟨_,rfl⟩
   have hoA:okAt D k = (decide (-90000 < x.f.save) && decide (x.f.save < 90000) && (match k with | 0=>true | j + 1=>match D[j]? with | none=>true | some y=>decide (180000 < x.f.nominal - y.f.nominal))):=by
    unfold okAt
    rw [List.getElem?_eq_getElem hlt,hxk]
   rw [hxk] at hx hrx
   have HOA:=Lib.hid hoA
   have HCELL:=Lib.hid (fun (W:World) (h:Below wr.heap.size wr W)=>show W.cell? ⟨bb,o + k * 5,none⟩ = some (.int .i64 x.f.nominal)∧W.cell? ⟨bb,o + k * 5 + 2,none⟩ = some (.int .i64 x.f.save) from ⟨(h.cell (by show bb < _;omega)).trans hx.1,(h.cell (by show bb < _;omega)).trans hx.2.2.1⟩)
   clear hx hoA hxk hc
   by_cases h1:x.f.save ≤ -90000
   ·have d1:decide (x.f.save ≤ -90000) = true:=decide_eq_true h1
    have HN:=Lib.hid (apB_no hlt (show okAt D k = false by rw [HOA.out,decide_eq_false (by omega)];rfl))
    go_wp2_with fail
    refine wp_env (fin:=?fnA) (by kernel_rfl) [10,11,12,13,14,15,16,17,18,19,20,21,22,23,24,25,26,27,28,29,30,31,32,33,34,35,36,37,38,39,40,41,42,43,44,45,46]
     [.slice (some ⟨bb,o,none⟩) D.length c,.int .i64 k,.pointer (some ⟨bb,o + k * 5,none⟩),.pointer (some ⟨bb,o + k * 5,none⟩),.pointer (some ⟨bb,o + k * 5 + 2,none⟩),.int .i64 x.f.save,.bool true,.bool true,undef,undef,undef,undef,undef,undef,undef,.bool true,.bool true,undef,undef,undef,undef,undef,undef,undef,undef,undef,undef,undef,undef,undef,undef,undef,undef,undef,undef,undef,.bool true] (by kernel_rfl) ?finA ?stepsA ?nextA
    case finA =>
     simp only [putAll,Act.put,List.setIfInBounds_toArray,List.set_cons_succ,List.set_cons_zero]
     rfl
    case stepsA =>
     refine ⟨?_,?_,?_,?_,?_,?_,?_,?_,?_,?_,?_,?_,?_,?_,?_,?_,?_,?_,?_,?_,?_,?_,?_,?_,?_,?_,?_,?_,?_,?_,?_,?_,?_,?_,?_,?_,?_,trivial⟩
     all_goals first | exact .inl ⟨by kernel_rfl,rfl⟩ | refine .inr ⟨by kernel_rfl,fun w1_ hB_=>?_⟩
     all_goals
      obtain ⟨d0,d2⟩:=HCELL.out w1_ hB_
      go_simp
      first
       | exact ⟨rfl,Below.refl _ _⟩
       | ((first | rw [decide_eq_true (by omega)] | rw [decide_eq_false (by omega)] | rw [if_pos (by omega)] | rw [IntWalk.i64_in _ (by omega)]);exact ⟨rfl,Below.refl _ _⟩)
       | done
    case nextA =>
    intro w2 hb2
    have HB2:=Lib.hid (HBW.out.trans (hb2.mono hws))
    clear hb2
    go_wp2_with fail
    go_ret
    exact ⟨by rw [HN.out];rfl,HB2.out⟩
   ·have d1:decide (x.f.save ≤ -90000) = false:=decide_eq_false h1
    by_cases h2:90000 ≤ x.f.save
    ·have d2:decide (90000 ≤ x.f.save) = true:=decide_eq_true h2
     have HN:=Lib.hid (apB_no hlt (show okAt D k = false by rw [HOA.out,decide_eq_true (by omega),decide_eq_false (by omega)];rfl))
     go_wp2_with fail
     refine wp_env (fin:=?fnB) (by kernel_rfl) [10,11,12,13,14,15,16,17,18,19,20,21,22,23,24,25,26,27,28,29,30,31,32,33,34,35,36,37,38,39,40,41,42,43,44,45,46]
      [.slice (some ⟨bb,o,none⟩) D.length c,.int .i64 k,.pointer (some ⟨bb,o + k * 5,none⟩),.pointer (some ⟨bb,o + k * 5,none⟩),.pointer (some ⟨bb,o + k * 5 + 2,none⟩),.int .i64 x.f.save,.bool false,.bool false,.slice (some ⟨bb,o,none⟩) D.length c,.int .i64 k,.pointer (some ⟨bb,o + k * 5,none⟩),.pointer (some ⟨bb,o + k * 5,none⟩),.pointer (some ⟨bb,o + k * 5 + 2,none⟩),.int .i64 x.f.save,.bool true,.bool true,.bool true,undef,undef,undef,undef,undef,undef,undef,undef,undef,undef,undef,undef,undef,undef,undef,undef,undef,undef,undef,.bool true] (by kernel_rfl) ?finB ?stepsB ?nextB
     case finB =>
      simp only [putAll,Act.put,List.setIfInBounds_toArray,List.set_cons_succ,List.set_cons_zero]
      rfl
     case stepsB =>
      refine ⟨?_,?_,?_,?_,?_,?_,?_,?_,?_,?_,?_,?_,?_,?_,?_,?_,?_,?_,?_,?_,?_,?_,?_,?_,?_,?_,?_,?_,?_,?_,?_,?_,?_,?_,?_,?_,?_,trivial⟩
      all_goals first | exact .inl ⟨by kernel_rfl,rfl⟩ | refine .inr ⟨by kernel_rfl,fun w1_ hB_=>?_⟩
      all_goals
       obtain ⟨d0,d2⟩:=HCELL.out w1_ hB_
       go_simp
       first
        | exact ⟨rfl,Below.refl _ _⟩
        | ((first | rw [decide_eq_true (by omega)] | rw [decide_eq_false (by omega)] | rw [if_pos (by omega)] | rw [IntWalk.i64_in _ (by omega)]);exact ⟨rfl,Below.refl _ _⟩)
        | done
     case nextB =>
     intro w2 hb2
     have HB2:=Lib.hid (HBW.out.trans (hb2.mono hws))
     clear hb2
     go_wp2_with fail
     go_ret
     exact ⟨by rw [HN.out];rfl,HB2.out⟩
    ·have d2:decide (90000 ≤ x.f.save) = false:=decide_eq_false h2
     rcases k with _ | p
     ·have HY:=Lib.hid (show okAt D 0 = true by rw [HOA.out,decide_eq_true (by omega),decide_eq_true (by omega)];rfl)
      have d3:decide ((0:Int) < ((0:Nat):Int)) = false:=by decide
      go_wp2_with fail
      refine wp_env (fin:=?fnC) (by kernel_rfl) [10,11,12,13,14,15,16,17,18,19,20,21,22,23,24,25,26,27,28,29,30,31,32,33,34,35,36,37,38,39,40,41,42,43,44,45,46]
       [.slice (some ⟨bb,o,none⟩) D.length c,.int .i64 ((0:Nat):Int),.pointer (some ⟨bb,o + 0 * 5,none⟩),.pointer (some ⟨bb,o + 0 * 5,none⟩),.pointer (some ⟨bb,o + 0 * 5 + 2,none⟩),.int .i64 x.f.save,.bool false,.bool false,.slice (some ⟨bb,o,none⟩) D.length c,.int .i64 ((0:Nat):Int),.pointer (some ⟨bb,o + 0 * 5,none⟩),.pointer (some ⟨bb,o + 0 * 5,none⟩),.pointer (some ⟨bb,o + 0 * 5 + 2,none⟩),.int .i64 x.f.save,.bool false,.bool false,.bool false,.int .i64 ((0:Nat):Int),.bool false,.bool false,undef,undef,undef,undef,undef,undef,undef,undef,undef,undef,undef,undef,undef,undef,undef,.bool false,.bool false] (by kernel_rfl) ?finC ?stepsC ?nextC
      case finC =>
       simp only [putAll,Act.put,List.setIfInBounds_toArray,List.set_cons_succ,List.set_cons_zero]
       rfl
      case stepsC =>
       refine ⟨?_,?_,?_,?_,?_,?_,?_,?_,?_,?_,?_,?_,?_,?_,?_,?_,?_,?_,?_,?_,?_,?_,?_,?_,?_,?_,?_,?_,?_,?_,?_,?_,?_,?_,?_,?_,?_,trivial⟩
       all_goals first | exact .inl ⟨by kernel_rfl,rfl⟩ | refine .inr ⟨by kernel_rfl,fun w1_ hB_=>?_⟩
       all_goals
        obtain ⟨d0,d2⟩:=HCELL.out w1_ hB_
        go_simp
        first
         | exact ⟨rfl,Below.refl _ _⟩
         | ((first | rw [decide_eq_true (by omega)] | rw [decide_eq_false (by omega)] | rw [if_pos (by omega)] | rw [IntWalk.i64_in _ (by omega)]);exact ⟨rfl,Below.refl _ _⟩)
         | done
      case nextC =>
      intro w2 hb2
      have HB2:=Lib.hid (HBW.out.trans (hb2.mono hws))
      clear hb2
      go_wp2_with fail
      go_roundw
      case rel =>
       refine ⟨0 + 1,by omega,by go_num,fun i hi=>?_,HB2.out⟩
       rcases Nat.lt_or_ge i 0 with g | g
       ·exact HOK.out i g
       ·rw [show i = 0 by omega];exact HY.out
      case measure=>simp [intOf];omega
     ·have hp:p < D.length:=by omega
      have hy:=HC.out p hp
      have hry:=HR.out p hp
      obtain ⟨y,hyk⟩:∃ y,D[p] = y:=⟨_,rfl⟩
      have HOB:=Lib.hid (show okAt D (p + 1) = decide (180000 < x.f.nominal - y.f.nominal) by
       rw [HOA.out,decide_eq_true (by omega),decide_eq_true (by omega)]
       simp only [List.getElem?_eq_getElem hp,hyk,Bool.true_and])
      rw [hyk] at hy hry
      have HCELY:=Lib.hid (fun (W:World) (h:Below wr.heap.size wr W)=>show W.cell? ⟨bb,o + p * 5,none⟩ = some (.int .i64 y.f.nominal) from (h.cell (by show bb < _;omega)).trans hy.1)
      have d3:decide ((0:Int) < ((p + 1:Nat):Int)) = true:=decide_eq_true (by omega)
      have e9:(((p + 1:Nat):Int)) - 1 = p:=by omega
      clear hy hyk
      by_cases h4:x.f.nominal - y.f.nominal ≤ 180000
      ·have d4:decide (x.f.nominal - y.f.nominal ≤ 180000) = true:=decide_eq_true h4
       have HN:=Lib.hid (apB_no hlt (show okAt D (p + 1) = false by rw [HOB.out,decide_eq_false (by omega)]))
       go_wp2_with fail
       refine wp_env (fin:=?fnD) (by kernel_rfl) [10,11,12,13,14,15,16,17,18,19,20,21,22,23,24,25,26,27,28,29,30,31,32,33,34,35,36,37,38,39,40,41,42,43,44,45,46]
        [.slice (some ⟨bb,o,none⟩) D.length c,.int .i64 (((p + 1:Nat):Int)),.pointer (some ⟨bb,o + (p + 1) * 5,none⟩),.pointer (some ⟨bb,o + (p + 1) * 5,none⟩),.pointer (some ⟨bb,o + (p + 1) * 5 + 2,none⟩),.int .i64 x.f.save,.bool false,.bool false,.slice (some ⟨bb,o,none⟩) D.length c,.int .i64 (((p + 1:Nat):Int)),.pointer (some ⟨bb,o + (p + 1) * 5,none⟩),.pointer (some ⟨bb,o + (p + 1) * 5,none⟩),.pointer (some ⟨bb,o + (p + 1) * 5 + 2,none⟩),.int .i64 x.f.save,.bool false,.bool false,.bool false,.int .i64 (((p + 1:Nat):Int)),.bool true,.bool true,.slice (some ⟨bb,o,none⟩) D.length c,.int .i64 (((p + 1:Nat):Int)),.pointer (some ⟨bb,o + (p + 1) * 5,none⟩),.pointer (some ⟨bb,o + (p + 1) * 5,none⟩),.pointer (some ⟨bb,o + (p + 1) * 5,none⟩),.int .i64 x.f.nominal,.slice (some ⟨bb,o,none⟩) D.length c,.int .i64 (((p + 1:Nat):Int)),.int .i64 (p:Int),.pointer (some ⟨bb,o + p * 5,none⟩),.pointer (some ⟨bb,o + p * 5,none⟩),.pointer (some ⟨bb,o + p * 5,none⟩),.int .i64 y.f.nominal,.int .i64 (x.f.nominal - y.f.nominal),.bool true,.bool true,.bool true] (by kernel_rfl) ?finD ?stepsD ?nextD
       case finD =>
        simp only [putAll,Act.put,List.setIfInBounds_toArray,List.set_cons_succ,List.set_cons_zero]
        rfl
       case stepsD =>
        refine ⟨?_,?_,?_,?_,?_,?_,?_,?_,?_,?_,?_,?_,?_,?_,?_,?_,?_,?_,?_,?_,?_,?_,?_,?_,?_,?_,?_,?_,?_,?_,?_,?_,?_,?_,?_,?_,?_,trivial⟩
        all_goals refine .inr ⟨by kernel_rfl,fun w1_ hB_=>?_⟩
        all_goals
         obtain ⟨d0,d2⟩:=HCELL.out w1_ hB_
         have d5:=HCELY.out w1_ hB_
         go_simp
         first
          | exact ⟨rfl,Below.refl _ _⟩
          | ((first | rw [decide_eq_true (by omega)] | rw [decide_eq_false (by omega)] | rw [if_pos (by omega)] | rw [IntWalk.i64_in _ (by omega)]);exact ⟨rfl,Below.refl _ _⟩)
          | done
       case nextD =>
       intro w2 hb2
       have HB2:=Lib.hid (HBW.out.trans (hb2.mono hws))
       clear hb2
       go_wp2_with fail
       go_ret
       exact ⟨by rw [HN.out];rfl,HB2.out⟩
      ·have d4:decide (x.f.nominal - y.f.nominal ≤ 180000) = false:=decide_eq_false h4
       have HY:=Lib.hid (show okAt D (p + 1) = true by rw [HOB.out,decide_eq_true (by omega)])
       go_wp2_with fail
       refine wp_env (fin:=?fnE) (by kernel_rfl) [10,11,12,13,14,15,16,17,18,19,20,21,22,23,24,25,26,27,28,29,30,31,32,33,34,35,36,37,38,39,40,41,42,43,44,45,46]
        [.slice (some ⟨bb,o,none⟩) D.length c,.int .i64 (((p + 1:Nat):Int)),.pointer (some ⟨bb,o + (p + 1) * 5,none⟩),.pointer (some ⟨bb,o + (p + 1) * 5,none⟩),.pointer (some ⟨bb,o + (p + 1) * 5 + 2,none⟩),.int .i64 x.f.save,.bool false,.bool false,.slice (some ⟨bb,o,none⟩) D.length c,.int .i64 (((p + 1:Nat):Int)),.pointer (some ⟨bb,o + (p + 1) * 5,none⟩),.pointer (some ⟨bb,o + (p + 1) * 5,none⟩),.pointer (some ⟨bb,o + (p + 1) * 5 + 2,none⟩),.int .i64 x.f.save,.bool false,.bool false,.bool false,.int .i64 (((p + 1:Nat):Int)),.bool true,.bool true,.slice (some ⟨bb,o,none⟩) D.length c,.int .i64 (((p + 1:Nat):Int)),.pointer (some ⟨bb,o + (p + 1) * 5,none⟩),.pointer (some ⟨bb,o + (p + 1) * 5,none⟩),.pointer (some ⟨bb,o + (p + 1) * 5,none⟩),.int .i64 x.f.nominal,.slice (some ⟨bb,o,none⟩) D.length c,.int .i64 (((p + 1:Nat):Int)),.int .i64 (p:Int),.pointer (some ⟨bb,o + p * 5,none⟩),.pointer (some ⟨bb,o + p * 5,none⟩),.pointer (some ⟨bb,o + p * 5,none⟩),.int .i64 y.f.nominal,.int .i64 (x.f.nominal - y.f.nominal),.bool false,.bool false,.bool false] (by kernel_rfl) ?finE ?stepsE ?nextE
       case finE =>
        simp only [putAll,Act.put,List.setIfInBounds_toArray,List.set_cons_succ,List.set_cons_zero]
        rfl
       case stepsE =>
        refine ⟨?_,?_,?_,?_,?_,?_,?_,?_,?_,?_,?_,?_,?_,?_,?_,?_,?_,?_,?_,?_,?_,?_,?_,?_,?_,?_,?_,?_,?_,?_,?_,?_,?_,?_,?_,?_,?_,trivial⟩
        all_goals refine .inr ⟨by kernel_rfl,fun w1_ hB_=>?_⟩
        all_goals
         obtain ⟨d0,d2⟩:=HCELL.out w1_ hB_
         have d5:=HCELY.out w1_ hB_
         go_simp
         first
          | exact ⟨rfl,Below.refl _ _⟩
          | ((first | rw [decide_eq_true (by omega)] | rw [decide_eq_false (by omega)] | rw [if_pos (by omega)] | rw [IntWalk.i64_in _ (by omega)]);exact ⟨rfl,Below.refl _ _⟩)
          | done
       case nextE =>
       intro w2 hb2
       have HB2:=Lib.hid (HBW.out.trans (hb2.mono hws))
       clear hb2
       go_wp2_with fail
       go_roundw
       case rel =>
        refine ⟨p + 1 + 1,by omega,by go_num,fun i hi=>?_,HB2.out⟩
        rcases Nat.lt_or_ge i (p + 1) with g | g
        ·exact HOK.out i g
        ·rw [show i = p + 1 by omega];exact HY.out
       case measure=>simp [intOf];omega
  ·obtain rfl:k = D.length:=by omega
   have hd:decide ((D.length:Int) < (D.length:Int)) = false:=decide_eq_false (by omega)
   have HY:=Lib.hid (apB_yes HOK.out)
   go_wp2_with fail
   go_ret
   exact ⟨by rw [HY.out];rfl,HBW.out⟩
end
section -- RulA
open Go Go.RowKit Go.Shelf
theorem rulsV_append (l m:List Rul):rulsV (l ++ m) = rulsV l ++ rulsV m:=by simp [rulsV]
theorem rulsV_cons (x:Rul) (m:List Rul):rulsV (x :: m) = rulV x ++ rulsV m:=by simp [rulsV]
theorem rulsV_one (l:List Rul):∀ u ∈ rulsV l,u.oneCell' = true:=by
 intro u hu
 unfold rulsV at hu
 obtain ⟨c,-,hc⟩:=List.mem_flatMap.1 hu
 simp [rulV] at hc
 rcases hc with rfl | rfl | rfl | rfl | rfl | rfl | rfl | rfl | rfl | rfl | rfl <;> rfl
def RwR (W:World) (base g cap n:Nat) (d:List Rul):Prop:=d.length = n∧W.ownsRow base 106 11 (.slice (some ⟨g,0,none⟩) n cap) n (rulsV d)
section
variable {W W':World} {base g cap n:Nat} {A C d:List Rul} {x y:Rul}
theorem RwR.len (h:RwR W base g cap n d):d.length = n:=h.1
theorem RwR.room (h:RwR W base g cap n d):n ≤ cap∧cap ≤ maxLen:=by
 rcases h.2.2 with ⟨h',_⟩ | ⟨g',cap',cur,h',_,hg,h1,h2,_⟩
 ·simp at h'
 ·simp only [Value.slice.injEq,Option.some.injEq,Addr.mk.injEq,and_true,true_and] at h'
  obtain ⟨rfl,rfl⟩:=h'
  exact ⟨h1,h2⟩
theorem RwR.lt (h:RwR W base g cap n d):base ≤ g∧g < W.heap.size:=h.2.lt g rfl
theorem RwR.at_ (h:RwR W base g cap n (A ++ x :: C)):RulC W g (A.length * 11) x:=by
 have hl:=h.1
 rw [List.length_append,List.length_cons] at hl
 have hc:∀ i,i < 11→W.cell? ⟨g,A.length * 11 + i,none⟩ = (rulV x)[i]?:=fun i hi=>by
  rw [h.2.cellAt _ (by omega),rulsV_append,rulsV_cons,List.getElem?_append_right (by rw [length_rulsV];omega),length_rulsV,Nat.add_sub_cancel_left,List.getElem?_append_left (by simp [rulV];omega)]
 exact ⟨hc 0 (by omega),hc 1 (by omega),hc 2 (by omega),hc 3 (by omega),hc 4 (by omega),hc 5 (by omega),hc 6 (by omega),hc 7 (by omega),hc 8 (by omega),hc 9 (by omega),hc 10 (by omega)⟩
theorem RwR.at2 {Q:List Rul} (h:RwR W base g cap n (A ++ y :: (Q ++ x :: C))):RulC W g ((A.length + 1 + Q.length) * 11) x:=by
 have h1:RwR W base g cap n ((A ++ y :: Q) ++ x :: C):=by simpa using h
 have h2:=h1.at_
 rwa [show (A ++ y :: Q).length = A.length + 1 + Q.length by simp;omega] at h2
theorem RwR.frozen (h:RwR W base g cap n d) (j:Nat):W.frozen? ⟨g,j,none⟩ = false:=h.2.frozenAt j
theorem RwR.fr {T:Nat→Prop} (h:RwR W base g cap n d) (hf:Fr T W W') (hn:¬ T g):RwR W' base g cap n d:=⟨h.1,hf.own h.2 fun k hk=>by cases hk;exact hn⟩
theorem RwR.below (h:RwR W base g cap n d) (hb:Below W.heap.size W W'):RwR W' base g cap n d:=h.fr (T:=fun _=>False) (Fr.of_below hb (Nat.le_refl _)) (fun e=>e)
def putR (W:World) (g p:Nat) (x:Rul):World:=((((((((((W.setCell ⟨g,p,none⟩ (.string x.name)).setCell ⟨g,p + 1,none⟩ (.int .i64 x.from_)).setCell ⟨g,p + 2,none⟩ (.int .i64 x.to_)).setCell ⟨g,p + 3,none⟩ (.int .i64 x.month)).setCell ⟨g,p + 4,none⟩ (.int .i64 x.dk)).setCell ⟨g,p + 5,none⟩ (.int .i64 x.dw)).setCell ⟨g,p + 6,none⟩ (.int .i64 x.dn)).setCell ⟨g,p + 7,none⟩ (.int .i64 x.sec)).setCell ⟨g,p + 8,none⟩ (.int .i64 x.kind)).setCell ⟨g,p + 9,none⟩ (.int .i64 x.save)).setCell ⟨g,p + 10,none⟩ (.string x.letter)
theorem set_midR {L M R:List Value} {i:Nat} (v:Value) (hi:i < M.length):(L ++ (M ++ R)).set (L.length + i) v = L ++ (M.set i v ++ R):=by
 rw [List.set_append_right _ _ (by omega),Nat.add_sub_cancel_left,List.set_append_left _ _ hi]
theorem RwR.put (h:RwR W base g cap n (A ++ y :: C)) (x:Rul):RwR (putR W g (A.length * 11) x) base g cap n (A ++ x :: C):=by
 refine ⟨by have:=h.1;simpa using this,?_⟩
 have h1:=(h.2.stored (A.length * 11) (.string x.name)).1
 have h2:=(h1.stored (A.length * 11 + 1) (.int .i64 x.from_)).1
 have h3:=(h2.stored (A.length * 11 + 2) (.int .i64 x.to_)).1
 have h4:=(h3.stored (A.length * 11 + 3) (.int .i64 x.month)).1
 have h5:=(h4.stored (A.length * 11 + 4) (.int .i64 x.dk)).1
 have h6:=(h5.stored (A.length * 11 + 5) (.int .i64 x.dw)).1
 have h7:=(h6.stored (A.length * 11 + 6) (.int .i64 x.dn)).1
 have h8:=(h7.stored (A.length * 11 + 7) (.int .i64 x.sec)).1
 have h9:=(h8.stored (A.length * 11 + 8) (.int .i64 x.kind)).1
 have h10:=(h9.stored (A.length * 11 + 9) (.int .i64 x.save)).1
 have h11:=(h10.stored (A.length * 11 + 10) (.string x.letter)).1
 unfold putR
 rw [rulsV_append,rulsV_cons] at h11 ⊢
 rw [← length_rulsV A] at h11 ⊢
 have e:=set_midR (L:=rulsV A) (M:=rulV y) (R:=rulsV C) (i:=0) (.string x.name) (by simp [rulV])
 rw [Nat.add_zero] at e
 rw [e,set_midR _ (by simp [rulV]),set_midR _ (by simp [rulV]),set_midR _ (by simp [rulV]),set_midR _ (by simp [rulV]),set_midR _ (by simp [rulV]),set_midR _ (by simp [rulV]),set_midR _ (by simp [rulV]),set_midR _ (by simp [rulV]),set_midR _ (by simp [rulV]),set_midR _ (by simp [rulV])] at h11
 exact h11
theorem putR_fr (W:World) (g p:Nat) (x:Rul):Fr (fun k=>k = g) W (putR W g p x) :=
 ((((((((((Fr.setCell (T:=fun k=>k = g) W p _ rfl).then (Fr.setCell (T:=fun k=>k = g) _ (p + 1) _ rfl)).then (Fr.setCell (T:=fun k=>k = g) _ (p + 2) _ rfl)).then (Fr.setCell (T:=fun k=>k = g) _ (p + 3) _ rfl)).then (Fr.setCell (T:=fun k=>k = g) _ (p + 4) _ rfl)).then (Fr.setCell (T:=fun k=>k = g) _ (p + 5) _ rfl)).then (Fr.setCell (T:=fun k=>k = g) _ (p + 6) _ rfl)).then (Fr.setCell (T:=fun k=>k = g) _ (p + 7) _ rfl)).then (Fr.setCell (T:=fun k=>k = g) _ (p + 8) _ rfl)).then (Fr.setCell (T:=fun k=>k = g) _ (p + 9) _ rfl)).then (Fr.setCell (T:=fun k=>k = g) _ (p + 10) _ rfl)
theorem RwR.swap {Q:List Rul} (h:RwR W base g cap n (A ++ y :: (Q ++ x :: C))) :
  RwR (putR W.drew g ((A.length + 1 + Q.length) * 11) y) base g cap n (A ++ y :: (Q ++ y :: C))∧RwR (putR W.drew g (A.length * 11) x) base g cap n (A ++ x :: (Q ++ x :: C)) ∧
  RwR (putR (putR W.drew g ((A.length + 1 + Q.length) * 11) y) g (A.length * 11) x) base g cap n (A ++ x :: (Q ++ y :: C))∧RwR (putR (putR W.drew g (A.length * 11) x) g ((A.length + 1 + Q.length) * 11) y) base g cap n (A ++ x :: (Q ++ y :: C)) ∧
  Fr (fun k=>k = g) W (putR (putR W.drew g ((A.length + 1 + Q.length) * 11) y) g (A.length * 11) x)∧Fr (fun k=>k = g) W (putR (putR W.drew g (A.length * 11) x) g ((A.length + 1 + Q.length) * 11) y):=by
 have hl:∀ z:Rul,(A ++ z :: Q).length = A.length + 1 + Q.length:=fun z=>by simp;omega
 have hd:RwR W.drew base g cap n (A ++ y :: (Q ++ x :: C)):=h
 have h2:∀ (z u:Rul),A ++ z :: (Q ++ u :: C) = (A ++ z :: Q) ++ u :: C:=fun z u=>by simp
 have a1:RwR (putR W.drew g ((A.length + 1 + Q.length) * 11) y) base g cap n (A ++ y :: (Q ++ y :: C)):=by
  rw [h2] at hd ⊢
  have:=hd.put y
  rwa [hl] at this
 have b1:=hd.put x
 refine ⟨a1,b1,a1.put x,?_,((Fr.drew W).then (putR_fr _ _ _ _)).then (putR_fr _ _ _ _),((Fr.drew W).then (putR_fr _ _ _ _)).then (putR_fr _ _ _ _)⟩
 rw [h2] at b1 ⊢
 have:=b1.put y
 rwa [hl] at this
end
def keyR (x:Rul):Int:=x.from_ * 100 + x.month
def mOk (x:Rul):Prop:=1 ≤ x.month∧x.month ≤ 12
def cmp2 (x y:Rul):Int:=if cmpZ x.from_ y.from_ = 0 then cmpZ x.month y.month else cmpZ x.from_ y.from_
theorem cmp2_lt {x y:Rul} (hx:mOk x) (hy:mOk y):(cmp2 x y < 0) = (keyR x < keyR y):=by
 unfold mOk at hx hy
 unfold cmp2 keyR cmpZ
 refine propext ?_
 repeat' split
 all_goals omega
def orV (a b:Int):Int:=if a = 0 then b else a
theorem ints_at {w:World} {B:Nat} {v:Value} {a b:Int} (h:Sl w B 1 v 2 [.int .i64 a,.int .i64 b]):∃ g o c,v = .slice (some ⟨g,o,none⟩) 2 c∧w.cell? ⟨g,o,none⟩ = some (.int .i64 a)∧w.cell? ⟨g,o + 1,none⟩ = some (.int .i64 b):=by
 obtain ⟨g,o,c,e,hb,hc⟩:=Sl.at_ h (by omega)
 exact ⟨g,o,c,e,hc 0 _ rfl,hc 1 _ rfl⟩
theorem or_any (w:World) (B:Nat) (v:Value) (a b:Int) (h:Sl w B 1 v 2 [.int .i64 a,.int .i64 b]) :
  Calls Tryz.prog 97 #[v] w fun e w'=>e = .returned (.int .i64 (orV a b))∧w' = w:=by
 obtain ⟨g,o,c,rfl,c0,c1⟩:=ints_at h
 clear h
 by_cases ha:a = 0
 ·subst ha
  have HV:=Lib.hid (show orV 0 b = b from rfl)
  by_cases hb:b = 0
  ·subst hb
   go_enter Tryz.func97,Tryz.ntmps97
   go_wp2_with fail
   refine wp_loop_rounds 3 ?_
   rw [rounds_succ]
   go_wp2_with fail
   rw [rounds_succ]
   go_wp2_with fail
   rw [rounds_succ]
   go_wp2_with fail
   go_ret
   exact ⟨by rw [HV.out];rfl,rfl⟩
  ·have he:(b != 0) = true:=by simpa using hb
   go_enter Tryz.func97,Tryz.ntmps97
   go_wp2_with fail
   refine wp_loop_rounds 3 ?_
   rw [rounds_succ]
   go_wp2_with fail
   rw [rounds_succ]
   go_wp2_with fail
   go_ret
   exact ⟨by rw [HV.out];rfl,rfl⟩
 ·have HV:=Lib.hid (show orV a b = a by unfold orV;rw [if_neg ha])
  have he:(a != 0) = true:=by simpa using ha
  go_enter Tryz.func97,Tryz.ntmps97
  go_wp2_with fail
  refine wp_loop_rounds 3 ?_
  rw [rounds_succ]
  go_wp2_with fail
  go_ret
  exact ⟨by rw [HV.out];rfl,rfl⟩
end
section -- RulB
open Go Go.RowKit Go.Shelf
def Fact.ints (a b:Int):Fact:=⟨fun v w=>Sl w w.heap.size 1 v 2 [.int .i64 a,.int .i64 b],fun _ _ _ h hb=>(h.below hb).more hb.size⟩
theorem order2_any (x y:Rul) (w:World) :
  Calls Tryz.prog 96 #[rulA x,rulA y] w fun e w'=>e = .returned (.int .i64 (cmp2 x y))∧Below w.heap.size w w':=by
 have h1:RulB ((w.alloc (.cells #[.string x.name,.int .i64 x.from_,.int .i64 x.to_,.int .i64 x.month,.int .i64 x.dk,.int .i64 x.dw,.int .i64 x.dn,.int .i64 x.sec,.int .i64 x.kind,.int .i64 x.save,.string x.letter] 106)).alloc (.cells #[.string y.name,.int .i64 y.from_,.int .i64 y.to_,.int .i64 y.month,.int .i64 y.dk,.int .i64 y.dw,.int .i64 y.dn,.int .i64 y.sec,.int .i64 y.kind,.int .i64 y.save,.string y.letter] 106)) w.heap.size x:=(Blk.new w 106 _).alloc _
 have h2:RulB ((w.alloc (.cells #[.string x.name,.int .i64 x.from_,.int .i64 x.to_,.int .i64 x.month,.int .i64 x.dk,.int .i64 x.dw,.int .i64 x.dn,.int .i64 x.sec,.int .i64 x.kind,.int .i64 x.save,.string x.letter] 106)).alloc (.cells #[.string y.name,.int .i64 y.from_,.int .i64 y.to_,.int .i64 y.month,.int .i64 y.dk,.int .i64 y.dw,.int .i64 y.dn,.int .i64 y.sec,.int .i64 y.kind,.int .i64 y.save,.string y.letter] 106)) (w.heap.size + 1) y:=by
  have:=Blk.new (w.alloc (.cells #[.string x.name,.int .i64 x.from_,.int .i64 x.to_,.int .i64 x.month,.int .i64 x.dk,.int .i64 x.dw,.int .i64 x.dn,.int .i64 x.sec,.int .i64 x.kind,.int .i64 x.save,.string x.letter] 106)) 106 #[.string y.name,.int .i64 y.from_,.int .i64 y.to_,.int .i64 y.month,.int .i64 y.dk,.int .i64 y.dw,.int .i64 y.dn,.int .i64 y.sec,.int .i64 y.kind,.int .i64 y.save,.string y.letter]
  rwa [World.size_alloc] at this
 have hb0:Below w.heap.size w ((w.alloc (.cells #[.string x.name,.int .i64 x.from_,.int .i64 x.to_,.int .i64 x.month,.int .i64 x.dk,.int .i64 x.dw,.int .i64 x.dn,.int .i64 x.sec,.int .i64 x.kind,.int .i64 x.save,.string x.letter] 106)).alloc (.cells #[.string y.name,.int .i64 y.from_,.int .i64 y.to_,.int .i64 y.month,.int .i64 y.dk,.int .i64 y.dw,.int .i64 y.dn,.int .i64 y.sec,.int .i64 y.kind,.int .i64 y.save,.string y.letter] 106)):=((Below.refl _ _).alloc (Nat.le_refl _) _).alloc (by simp) _
 have HC:=Lib.hid (fun a b W=>cmpInt_any a b W)
 have HV:=Lib.hid (show orV (cmpZ x.from_ y.from_) (cmpZ x.month y.month) = cmp2 x y from rfl)
 unfold rulA
 obtain ⟨z1,hz1⟩:∃ z,cmpZ x.from_ y.from_ = z:=⟨_,rfl⟩
 obtain ⟨z2,hz2⟩:∃ z,cmpZ x.month y.month = z:=⟨_,rfl⟩
 obtain ⟨z,hz⟩:∃ z,cmp2 x y = z:=⟨_,rfl⟩
 rw [hz1,hz2,hz] at HV
 rw [hz]
 have HZ:=Lib.hid (And.intro hz1 hz2)
 clear hz1 hz2 hz
 go_enter Tryz.func96,Tryz.ntmps96
 go_wp2_with fail
 obtain ⟨W0,hW0⟩:∃ W,(w.alloc (.cells #[.string x.name,.int .i64 x.from_,.int .i64 x.to_,.int .i64 x.month,.int .i64 x.dk,.int .i64 x.dw,.int .i64 x.dn,.int .i64 x.sec,.int .i64 x.kind,.int .i64 x.save,.string x.letter] 106)).alloc (.cells #[.string y.name,.int .i64 y.from_,.int .i64 y.to_,.int .i64 y.month,.int .i64 y.dk,.int .i64 y.dw,.int .i64 y.dn,.int .i64 y.sec,.int .i64 y.kind,.int .i64 y.save,.string y.letter] 106) = W:=⟨_,rfl⟩
 rw [hW0] at h1 h2 hb0 ⊢
 clear hW0
 have H1:=Lib.hid h1
 have H2:=Lib.hid h2
 have HB0:=Lib.hid hb0
 clear h1 h2 hb0
 refine wp_inv (by kernel_rfl) [5,6,7,8,9,10,11,12,13,14,15,16,4]
  [.is (.pointer (some ⟨w.heap.size,1,none⟩)),.is (.int .i64 x.from_),.is (.pointer (some ⟨w.heap.size + 1,1,none⟩)),.is (.int .i64 y.from_),.is (.int .i64 z1),.is (.pointer (some ⟨w.heap.size,3,none⟩)),.is (.int .i64 x.month),.is (.pointer (some ⟨w.heap.size + 1,3,none⟩)),.is (.int .i64 y.month),.is (.int .i64 z2),Fact.ints z1 z2,.is (.int .i64 z),.is (.int .i64 z)] (by kernel_rfl) ⟨?_,?_,?_,?_,?_,?_,?_,?_,?_,?_,?_,?_,?_,trivial⟩ ?_
 ·intro x_ w1_ R hB_ hf hR
  clear hB_ hf
  simp only [frameOf,upd,List.foldl_cons,List.foldl_nil,Act.put,List.setIfInBounds_toArray,List.set_cons_succ,List.set_cons_zero] at hR ⊢
  go_wp2_with fail
  exact hR _ _ rfl (Below.refl _ _)
 ·intro x_ w1_ R hB_ hf hR
  have h0:x_ 5 = .pointer (some ⟨w.heap.size,1,none⟩):=hf 0 (by kernel_rfl)
  have q0:=Blk.cell (Blk.below H1.out hB_ (Blk.lt H1.out)) 1 (v:=.int .i64 x.from_) rfl
  clear hB_ hf
  simp only [frameOf,upd,List.foldl_cons,List.foldl_nil,Act.put,List.setIfInBounds_toArray,List.set_cons_succ,List.set_cons_zero] at hR ⊢
  simp only [h0] at hR ⊢
  go_wp2_with fail
  exact hR _ _ rfl (Below.refl _ _)
 ·intro x_ w1_ R hB_ hf hR
  clear hB_ hf
  simp only [frameOf,upd,List.foldl_cons,List.foldl_nil,Act.put,List.setIfInBounds_toArray,List.set_cons_succ,List.set_cons_zero] at hR ⊢
  go_wp2_with fail
  exact hR _ _ rfl (Below.refl _ _)
 ·intro x_ w1_ R hB_ hf hR
  have h0:x_ 7 = .pointer (some ⟨w.heap.size + 1,1,none⟩):=hf 2 (by kernel_rfl)
  have q0:=Blk.cell (Blk.below H2.out hB_ (Blk.lt H2.out)) 1 (v:=.int .i64 y.from_) rfl
  clear hB_ hf
  simp only [frameOf,upd,List.foldl_cons,List.foldl_nil,Act.put,List.setIfInBounds_toArray,List.set_cons_succ,List.set_cons_zero] at hR ⊢
  simp only [h0] at hR ⊢
  go_wp2_with fail
  exact hR _ _ rfl (Below.refl _ _)
 ·intro x_ w1_ R hB_ hf hR
  have h0:x_ 6 = .int .i64 x.from_:=hf 1 (by kernel_rfl)
  have h1:x_ 8 = .int .i64 y.from_:=hf 3 (by kernel_rfl)
  have HCC:=Lib.hid (HC.out x.from_ y.from_ w1_)
  rw [HZ.out.1] at HCC
  clear hB_ hf
  simp only [frameOf,upd,List.foldl_cons,List.foldl_nil,Act.put,List.setIfInBounds_toArray,List.set_cons_succ,List.set_cons_zero] at hR ⊢
  simp only [h0,h1] at hR ⊢
  go_wp2_with fail
  refine HCC.out.mono ?_
  rintro e w2_ ⟨rfl,rfl⟩
  clear HCC
  go_wp2_with fail
  exact hR _ _ rfl (Below.refl _ _)
 ·intro x_ w1_ R hB_ hf hR
  clear hB_ hf
  simp only [frameOf,upd,List.foldl_cons,List.foldl_nil,Act.put,List.setIfInBounds_toArray,List.set_cons_succ,List.set_cons_zero] at hR ⊢
  go_wp2_with fail
  exact hR _ _ rfl (Below.refl _ _)
 ·intro x_ w1_ R hB_ hf hR
  have h0:x_ 10 = .pointer (some ⟨w.heap.size,3,none⟩):=hf 5 (by kernel_rfl)
  have q0:=Blk.cell (Blk.below H1.out hB_ (Blk.lt H1.out)) 3 (v:=.int .i64 x.month) rfl
  clear hB_ hf
  simp only [frameOf,upd,List.foldl_cons,List.foldl_nil,Act.put,List.setIfInBounds_toArray,List.set_cons_succ,List.set_cons_zero] at hR ⊢
  simp only [h0] at hR ⊢
  go_wp2_with fail
  exact hR _ _ rfl (Below.refl _ _)
 ·intro x_ w1_ R hB_ hf hR
  clear hB_ hf
  simp only [frameOf,upd,List.foldl_cons,List.foldl_nil,Act.put,List.setIfInBounds_toArray,List.set_cons_succ,List.set_cons_zero] at hR ⊢
  go_wp2_with fail
  exact hR _ _ rfl (Below.refl _ _)
 ·intro x_ w1_ R hB_ hf hR
  have h0:x_ 12 = .pointer (some ⟨w.heap.size + 1,3,none⟩):=hf 7 (by kernel_rfl)
  have q0:=Blk.cell (Blk.below H2.out hB_ (Blk.lt H2.out)) 3 (v:=.int .i64 y.month) rfl
  clear hB_ hf
  simp only [frameOf,upd,List.foldl_cons,List.foldl_nil,Act.put,List.setIfInBounds_toArray,List.set_cons_succ,List.set_cons_zero] at hR ⊢
  simp only [h0] at hR ⊢
  go_wp2_with fail
  exact hR _ _ rfl (Below.refl _ _)
 ·intro x_ w1_ R hB_ hf hR
  have h0:x_ 11 = .int .i64 x.month:=hf 6 (by kernel_rfl)
  have h1:x_ 13 = .int .i64 y.month:=hf 8 (by kernel_rfl)
  have HCC:=Lib.hid (HC.out x.month y.month w1_)
  rw [HZ.out.2] at HCC
  clear hB_ hf
  simp only [frameOf,upd,List.foldl_cons,List.foldl_nil,Act.put,List.setIfInBounds_toArray,List.set_cons_succ,List.set_cons_zero] at hR ⊢
  simp only [h0,h1] at hR ⊢
  go_wp2_with fail
  refine HCC.out.mono ?_
  rintro e w2_ ⟨rfl,rfl⟩
  clear HCC
  go_wp2_with fail
  exact hR _ _ rfl (Below.refl _ _)
 ·intro x_ w1_ R hB_ hf hR
  have h0:x_ 9 = .int .i64 z1:=hf 4 (by kernel_rfl)
  have h1:x_ 14 = .int .i64 z2:=hf 9 (by kernel_rfl)
  have hl_:=w1_.heap.size
  clear hB_ hf
  simp only [frameOf,upd,List.foldl_cons,List.foldl_nil,Act.put,List.setIfInBounds_toArray,List.set_cons_succ,List.set_cons_zero] at hR ⊢
  simp only [h0,h1] at hR ⊢
  go_wp2_with fail
  exact hR _ _ (Sl.mk_ (by decide) (by decide) rfl (by simp) (fun j u hu=>(cell_new w1_ _ _ _ _).trans (by simpa using hu))) ((Below.refl _ _).alloc (Nat.le_refl _) _)
 ·intro x_ w1_ R hB_ hf hR
  have HO:=Lib.hid (or_any w1_ w1_.heap.size (x_ 15) z1 z2 (hf 10 (by kernel_rfl)))
  rw [HV.out] at HO
  clear hB_ hf
  simp only [frameOf,upd,List.foldl_cons,List.foldl_nil,Act.put,List.setIfInBounds_toArray,List.set_cons_succ,List.set_cons_zero] at hR ⊢
  go_wp2_with fail
  refine HO.out.mono ?_
  rintro e w2_ ⟨rfl,rfl⟩
  clear HO
  go_wp2_with fail
  exact hR _ _ rfl (Below.refl _ _)
 ·intro x_ w1_ R hB_ hf hR
  have h0:x_ 16 = .int .i64 z:=hf 11 (by kernel_rfl)
  clear hB_ hf
  simp only [frameOf,upd,List.foldl_cons,List.foldl_nil,Act.put,List.setIfInBounds_toArray,List.set_cons_succ,List.set_cons_zero] at hR ⊢
  simp only [h0] at hR ⊢
  go_wp2_with fail
  exact hR _ _ rfl (Below.refl _ _)
 intro x_ w8 hB8 hf8
 have h4:x_ 4 = .int .i64 z:=hf8 12 (by decide)
 simp only [frameOf,List.foldl_cons,List.foldl_nil,Act.put,List.setIfInBounds_toArray,List.set_cons_succ,List.set_cons_zero]
 rw [h4]
 have HB8:=Lib.hid (HB0.out.trans (hB8.mono HB0.out.size))
 clear hB8 hf8
 go_wp2_with fail
 go_ret
 exact ⟨rfl,HB8.out⟩
theorem insertion_R (W0:World) (base g cap n a b:Nat) (P B S:List Rul) (ha:P.length = a) (hb:a + B.length = b) (hn:n ≤ 1000000000) (hmo:∀ z ∈ B,mOk z) (hR:RwR W0 base g cap n (P ++ (B ++ S))) :
  Calls Tryz.prog 156 #[.slice (some ⟨g,0,none⟩) n cap,.int .i64 a,.int .i64 b,.func (.func 96) #[] #[]] W0 fun e w'=>e = .returned (.tuple #[])∧∃ M,Stab keyR B M∧RwR w' base g cap n (P ++ (M ++ S))∧Fr (fun k=>k = g) W0 w':=by
 have hroom:=hR.room
 have hlen:=hR.len
 unfold maxLen at hroom
 simp only [List.length_append] at hlen
 have HR:=Lib.hid hR
 have HMB:=Lib.hid hmo
 clear hR hmo
 obtain ⟨m,hm⟩:∃ m,B.length = m:=⟨_,rfl⟩
 rw [ha,hm] at hlen
 rw [hm] at hb
 have HA:=Lib.hid ha
 have HM:=Lib.hid hm
 clear ha hm
 go_enter Tryz.func156,Tryz.ntmps156
 go_wp2_with fail
 go_loopw [8] (fun iv wr=>∃ (k i:Nat) (M:List Rul),1 ≤ k∧(k ≤ m∨k = 1)∧i = a + k∧iv = .int .i64 i∧Stab keyR (B.take k) M∧RwR wr base g cap n (P ++ (M ++ (B.drop k ++ S)))∧Fr (fun k=>k = g) W0 wr) (fun iv _=>b - (intOf iv).toNat)
 case atStart=>exact ⟨1,a + 1,B.take 1,by omega,by omega,rfl,by go_num,by
  rcases B with _ | ⟨x,B⟩
  ·exact Stab.nil
  ·exact Stab.one x,by rw [← List.append_assoc (B.take 1),List.take_append_drop];exact HR.out,Fr.refl _ _⟩
 case round =>
  obtain ⟨k,i,M,hk1,hk,hik,rfl,hst,hrw,hfr⟩:=hrel
  have HST:=Lib.hid hst
  have HRW:=Lib.hid hrw
  have HFR:=Lib.hid hfr
  have hml:=hst.len
  rw [List.length_take,HM.out] at hml
  clear hst hrw hfr
  have HIK:=Lib.hid hik
  have hin:i ≤ n + 1:=by omega
  by_cases hlt:i < b
  ·have hlt':(i:Int) < (b:Int):=by omega
   have hd:decide ((i:Int) < (b:Int)) = true:=decide_eq_true hlt'
   have hkm:k < m:=by omega
   have hMk:M.length = k:=by omega
   have hib:i = a + M.length:=by omega
   have HIB:=Lib.hid hib
   clear hik hib hml
   have hkB:k < B.length:=by rw [HM.out];exact hkm
   obtain ⟨x,hx⟩:∃ x,B[k] = x:=⟨_,rfl⟩
   obtain ⟨T,hT⟩:∃ T,B.drop (k + 1) ++ S = T:=⟨_,rfl⟩
   have HD:=Lib.hid (show B.drop k ++ S = x :: T by rw [List.drop_eq_getElem_cons hkB,hx,List.cons_append,hT])
   have HTK:=Lib.hid (show B.take (k + 1) = B.take k ++ [x] by rw [List.take_succ_eq_append_getElem hkB,hx])
   have HT:=Lib.hid hT
   rw [HD.out] at HRW
   have HMX:=Lib.hid (show mOk x from by rw [← hx];exact HMB.out _ (List.getElem_mem hkB))
   clear hx hT
   go_wp2_with fail
   go_loopw [9] (fun jv wi=>∃ (j:Nat) (U V:List Rul),j = a + U.length∧jv = .int .i64 j∧U ++ V = M∧(∀ v ∈ V,keyR x < keyR v)∧RwR wi base g cap n (P ++ (U ++ x :: (V ++ T)))∧Fr (fun k=>k = g) W0 wi) (fun jv _=>(intOf jv).toNat)
   case atStart=>exact ⟨i,M,[],HIB.out,rfl,List.append_nil _,fun v hv=>by simp at hv,HRW.out,HFR.out⟩
   case round =>
    obtain ⟨j,Us,V,hj,rfl,hUV,hV,hrw,hfr⟩:=hrel
    have HUV:=Lib.hid hUV
    have HV:=Lib.hid hV
    have HRI:=Lib.hid hrw
    have HFI:=Lib.hid hfr
    have hlM:Us.length + V.length = M.length:=by rw [← hUV,List.length_append]
    clear hUV hV hrw hfr
    rcases List.eq_nil_or_concat Us with rfl | ⟨U',y,rfl⟩
    ·obtain rfl:j = a:=by simpa using hj
     clear hj
     go_wp2_with fail
     refine wp_env (fin:=?fnn) (by kernel_rfl) [18,19,20,21,22,23,24,25,26,27,28,29,30,31,32,33,34]
      [.int .i64 j,.int .i64 j,.bool false,.bool false,undef,undef,undef,undef,undef,undef,undef,undef,undef,undef,undef,undef,.bool false] (by kernel_rfl) ?finn ?stepsn ?nextn
     case finn =>
      simp only [putAll,Act.put,List.setIfInBounds_toArray,List.set_cons_succ,List.set_cons_zero]
      rfl
     case stepsn =>
      refine ⟨?_,?_,?_,?_,?_,?_,?_,?_,?_,?_,?_,?_,?_,?_,?_,?_,?_,trivial⟩
      all_goals first | exact .inl ⟨by kernel_rfl,rfl⟩ | refine .inr ⟨by kernel_rfl,fun w1_ hB_=>?_⟩
      all_goals
       clear hB_
       go_simp
       first
        | exact ⟨rfl,Below.refl _ _⟩
        | exact ⟨rfl,HCMP.out w1_⟩
        | (rw [IntWalk.i64_in _ (by omega)];exact ⟨rfl,Below.refl _ _⟩)
        | (rw [decide_eq_true (by omega)];exact ⟨rfl,Below.refl _ _⟩)
        | (rw [decide_eq_false (by omega)];exact ⟨rfl,Below.refl _ _⟩)
        | (rw [if_pos (by omega)];exact ⟨rfl,Below.refl _ _⟩)
        | done
     case nextn =>
     intro w7 hb7
     have HB7:=Lib.hid hb7
     clear hb7
     go_wp2_with fail
     go_roundw
     case rel=>exact ⟨k + 1,i + 1,x :: M,by omega,by omega,by have:=HIK.out;omega,by go_num,by
      rw [HTK.out]
      have e:=HUV.out
      rw [List.nil_append] at e
      exact Stab.put (A:=[]) (B:=M) HST.out (by simp) (by rw [← e];exact HV.out),by
      have e:=HUV.out
      have h:=HRI.out
      rw [List.nil_append] at e h
      rw [← HT.out,e] at h
      exact h.below HB7.out,HFI.out.then (Fr.of_below HB7.out (Nat.le_refl _))⟩
     case measure=>first | (simp [intOf];done) | (simp [intOf];omega)
    ·rw [List.concat_eq_append] at *
     have e1:=HRI.out
     rw [List.append_assoc U',← List.append_assoc P,List.singleton_append] at e1
     have HE:=Lib.hid e1
     have HE2:=Lib.hid (show RwR wr base g cap n ((P ++ (U' ++ [y])) ++ x :: (V ++ T)) by have h:=HRI.out;rw [← List.append_assoc] at h;exact h)
     clear e1
     obtain ⟨p,hp⟩:∃ p,(P ++ U').length = p:=⟨_,rfl⟩
     have hp2:(P ++ (U' ++ [y])).length = p + 1:=by rw [← hp];simp only [List.length_append,List.length_cons,List.length_nil];omega
     have hpa:a ≤ p:=by rw [← hp,List.length_append,HA.out];omega
     have hpn:p + 1 < n:=by
      have h:=HE2.out.len
      rw [List.length_append,hp2,List.length_cons] at h
      omega
     obtain rfl:j = p + 1:=by
      rw [hj,← hp];simp only [List.length_append,List.length_cons,List.length_nil,HA.out];omega
     rw [show ((p + 1:Nat):Int) = (p:Int) + 1 from rfl]
     have HCY:=Lib.hid HE.out.at_
     have HCX:=Lib.hid HE2.out.at_
     have HFZ:=Lib.hid (fun j=>HE.out.frozen j)
     rw [hp] at HCY
     rw [hp2] at HCX
     have HP:=Lib.hid hp
     have HP2:=Lib.hid hp2
     clear hp hp2 hj
     have HCMP:=Lib.hid (fun W=>order2_any x y W)
     unfold rulA at HCMP
     have hmx:mOk x:=HMX.out
     have hmy:mOk y:=HMB.out y (List.mem_of_mem_take (HST.out.1.mem_iff.1 (by rw [← HUV.out];simp)))
     have HCZ:=Lib.hid (cmp2_lt hmx hmy)
     obtain ⟨z,hz⟩:∃ z,cmp2 x y = z:=⟨_,rfl⟩
     rw [hz] at HCMP HCZ
     clear hz hmx hmy
     have HK:=Lib.hid (fun (W:World) (h:Below wr.heap.size wr W)=>show RulC W g ((p + 1) * 11) x∧RulC W g (p * 11) y from ⟨HP2.out ▸ (HE2.out.below h).at_,HP.out ▸ (HE.out.below h).at_⟩)
     by_cases hxy:keyR x < keyR y
     ·have hz:z < 0:=by rw [HCZ.out];exact hxy
      go_wp2_with fail
      refine wp_env (fin:=?fnt) (by kernel_rfl) [18,19,20,21,22,23,24,25,26,27,28,29,30,31,32,33,34]
       [.int .i64 ((p:Int) + 1),.int .i64 a,.bool true,.bool true,.func (.func 96) #[] #[],.slice (some ⟨g,0,none⟩) n cap,.int .i64 ((p:Int) + 1),.pointer (some ⟨g,(p + 1) * 11,none⟩),rulA x,.slice (some ⟨g,0,none⟩) n cap,.int .i64 ((p:Int) + 1),.int .i64 p,.pointer (some ⟨g,p * 11,none⟩),rulA y,.int .i64 z,.bool true,.bool true] (by kernel_rfl) ?fint ?stepst ?nextt
      case fint =>
       simp only [putAll,Act.put,List.setIfInBounds_toArray,List.set_cons_succ,List.set_cons_zero]
       rfl
      case stepst =>
       unfold rulA
       refine ⟨?_,?_,?_,?_,?_,?_,?_,?_,?_,?_,?_,?_,?_,?_,?_,?_,?_,trivial⟩
       all_goals refine .inr ⟨by kernel_rfl,fun w1_ hB_=>?_⟩
       all_goals
        obtain ⟨⟨c0,c1,c2,c3,c4,c5,c6,c7,c8,c9,c10⟩,⟨d0,d1,d2,d3,d4,d5,d6,d7,d8,d9,d10⟩⟩:=HK.out w1_ hB_
        clear hB_
        go_simp
        first
         | exact ⟨rfl,Below.refl _ _⟩
         | exact ⟨rfl,HCMP.out w1_⟩
         | (rw [IntWalk.i64_in _ (by omega)];exact ⟨rfl,Below.refl _ _⟩)
         | (rw [decide_eq_true (by omega)];exact ⟨rfl,Below.refl _ _⟩)
         | (rw [decide_eq_false (by omega)];exact ⟨rfl,Below.refl _ _⟩)
         | (rw [if_pos (by omega)];exact ⟨rfl,Below.refl _ _⟩)
         | done
      case nextt =>
      intro w7 hb7
      have HB7:=Lib.hid hb7
      have HE7:=Lib.hid (HE.out.below hb7)
      have HE7':=Lib.hid (HE2.out.below hb7)
      clear hb7
      have ⟨c0,c1,c2,c3,c4,c5,c6,c7,c8,c9,c10⟩:=HP2.out ▸ HE7'.out.at_
      have ⟨d0,d1,d2,d3,d4,d5,d6,d7,d8,d9,d10⟩:=HP.out ▸ HE7.out.at_
      have fz:=HE7.out.frozen
      go_wp2_with fail
      have HSW:=Lib.hid (RwR.swap (Q:=[]) HE7.out)
      obtain ⟨wa,hwa⟩:∃ W,putR w7.drew g ((p + 1) * 11) y = W:=⟨_,rfl⟩
      obtain ⟨wb,hwb⟩:∃ W,putR w7.drew g (p * 11) x = W:=⟨_,rfl⟩
      obtain ⟨wc,hwc⟩:∃ W,putR wa g (p * 11) x = W:=⟨_,rfl⟩
      obtain ⟨wd,hwd⟩:∃ W,putR wb g ((p + 1) * 11) y = W:=⟨_,rfl⟩
      have HSX:=HSW.out
      rw [HP.out,List.length_nil,Nat.add_zero] at HSX
      rw [hwa,hwb,hwc,hwd] at HSX
      obtain ⟨sA,sB,sC,sD,fC,fD⟩:=HSX
      have HSA:=Lib.hid (show (RulC wa g (p * 11) y∧∀ j,_) from ⟨HP.out ▸ sA.at_,fun j=>sA.frozen j⟩)
      have HSB:=Lib.hid (show (RulC wb g ((p + 1) * 11) x∧∀ j,_) from ⟨by have h:=sB;rw [List.nil_append,show P ++ U' ++ x :: x :: (V ++ T) = (P ++ (U' ++ [x])) ++ x :: (V ++ T) by simp] at h;have h:=h.at_;rw [show (P ++ (U' ++ [x])).length = p + 1 by rw [← HP.out];simp only [List.length_append,List.length_cons,List.length_nil];omega] at h;exact h,fun j=>sB.frozen j⟩)
      have HSE:=Lib.hid (fun w8 (h8:w8 = wc∨w8 = wd)=>show RwR w8 base g cap n (P ++ U' ++ x :: (y :: (V ++ T)))∧Fr (fun k=>k = g) w7 w8 by rcases h8 with rfl | rfl;exact ⟨sC,fC⟩;exact ⟨sD,fD⟩)
      clear sA sB sC sD fC fD
      refine wp_envW (fin:=?fns) (by kernel_rfl) [37,38,39,40,41,42,43,44,45,46,47,48,49,50,51,900,52,901]
       [.slice (some ⟨g,0,none⟩) n cap,.int .i64 ((p:Int) + 1),.slice (some ⟨g,0,none⟩) n cap,.int .i64 ((p:Int) + 1),.int .i64 p,.slice (some ⟨g,0,none⟩) n cap,.int .i64 ((p:Int) + 1),.int .i64 p,.pointer (some ⟨g,p * 11,none⟩),rulA y,.slice (some ⟨g,0,none⟩) n cap,.int .i64 ((p:Int) + 1),.pointer (some ⟨g,(p + 1) * 11,none⟩),rulA x,.pointer (some ⟨g,(p + 1) * 11,none⟩),undef,.pointer (some ⟨g,p * 11,none⟩),undef] 15 17 _ _ wa wb wc wd (by kernel_rfl) rfl rfl (by simp) (by simp) (by decide) ?fins ?stepss ?sas ?sbs ?scs ?sds ?nexts
      case fins =>
       simp only [putAll,Act.put,List.setIfInBounds_toArray,List.set_cons_succ,List.set_cons_zero]
       rfl
      case stepss =>
       unfold rulA
       refine ⟨.inr (.inr ⟨by kernel_rfl,fun w1_ hB_=>?_⟩),.inr (.inr ⟨by kernel_rfl,fun w1_ hB_=>?_⟩),.inr (.inr ⟨by kernel_rfl,fun w1_ hB_=>?_⟩),.inr (.inr ⟨by kernel_rfl,fun w1_ hB_=>?_⟩),.inr (.inr ⟨by kernel_rfl,fun w1_ hB_=>?_⟩),.inr (.inr ⟨by kernel_rfl,fun w1_ hB_=>?_⟩),.inr (.inr ⟨by kernel_rfl,fun w1_ hB_=>?_⟩),.inr (.inr ⟨by kernel_rfl,fun w1_ hB_=>?_⟩),.inr (.inr ⟨by kernel_rfl,fun w1_ hB_=>?_⟩),.inr (.inr ⟨by kernel_rfl,fun w1_ hB_=>?_⟩),.inr (.inr ⟨by kernel_rfl,fun w1_ hB_=>?_⟩),.inr (.inr ⟨by kernel_rfl,fun w1_ hB_=>?_⟩),.inr (.inr ⟨by kernel_rfl,fun w1_ hB_=>?_⟩),.inr (.inr ⟨by kernel_rfl,fun w1_ hB_=>?_⟩),.inr (.inr ⟨by kernel_rfl,fun w1_ hB_=>?_⟩),.inl rfl,.inr (.inr ⟨by kernel_rfl,fun w1_ hB_=>?_⟩),.inl rfl,trivial⟩
       all_goals
        first
         | (go_simp;done)
         | (go_simp;rfl)
         | (obtain rfl:=hB_ (by kernel_rfl);go_simp;done)
         | (obtain rfl:=hB_ (by kernel_rfl);go_simp;rfl)
         | (go_simp;intro hh_;exfalso;omega)
         | (go_simp;intro hh_;exfalso;have:=hh_ (by omega);omega)
         | (go_simp;rw [IntWalk.i64_in _ (by omega)] <;> rfl)
         | (go_simp;rw [if_pos (by omega)] <;> rfl)
         | (go_simp;done)
      case sas =>
       rw [← hwa]
       unfold putR rulA
       go_simp
       first | done | rfl | done
      case sbs =>
       rw [← hwb]
       unfold putR rulA
       go_simp
       first | done | rfl | done
      case scs =>
       obtain ⟨⟨e0,e1,e2,e3,e4,e5,e6,e7,e8,e9,e10⟩,ef⟩:=HSA.out
       rw [← hwc]
       unfold putR rulA
       go_simp
       first | done | rfl | done
      case sds =>
       obtain ⟨⟨e0,e1,e2,e3,e4,e5,e6,e7,e8,e9,e10⟩,ef⟩:=HSB.out
       rw [← hwd]
       unfold putR rulA
       go_simp
       first | done | rfl | done
      case nexts =>
      rintro w8 h8
      have H8:=Lib.hid (HSE.out w8 h8)
      clear h8
      go_wp2_with fail
      go_roundw
      case rel=>exact ⟨p,U',y :: V,by
       have:=HP.out
       rw [List.length_append,HA.out] at this
       omega,by go_num,by have:=HUV.out;simpa using this,fun v hv=>by
       rcases List.mem_cons.1 hv with rfl | hv
       ·exact hxy
       ·exact HV.out v hv,by have h:=H8.out.1;rw [List.append_assoc] at h;exact h,(HFI.out.then (Fr.of_below HB7.out (Nat.le_refl _))).then H8.out.2⟩
      case measure=>first | (simp [intOf];done) | (simp [intOf];omega)
     ·have hz:¬ z < 0:=by rw [HCZ.out];exact hxy
      go_wp2_with fail
      refine wp_env (fin:=?fnf) (by kernel_rfl) [18,19,20,21,22,23,24,25,26,27,28,29,30,31,32,33,34]
       [.int .i64 ((p:Int) + 1),.int .i64 a,.bool true,.bool true,.func (.func 96) #[] #[],.slice (some ⟨g,0,none⟩) n cap,.int .i64 ((p:Int) + 1),.pointer (some ⟨g,(p + 1) * 11,none⟩),rulA x,.slice (some ⟨g,0,none⟩) n cap,.int .i64 ((p:Int) + 1),.int .i64 p,.pointer (some ⟨g,p * 11,none⟩),rulA y,.int .i64 z,.bool false,.bool false] (by kernel_rfl) ?finf ?stepsf ?nextf
      case finf =>
       simp only [putAll,Act.put,List.setIfInBounds_toArray,List.set_cons_succ,List.set_cons_zero]
       rfl
      case stepsf =>
       unfold rulA
       refine ⟨?_,?_,?_,?_,?_,?_,?_,?_,?_,?_,?_,?_,?_,?_,?_,?_,?_,trivial⟩
       all_goals refine .inr ⟨by kernel_rfl,fun w1_ hB_=>?_⟩
       all_goals
        obtain ⟨⟨c0,c1,c2,c3,c4,c5,c6,c7,c8,c9,c10⟩,⟨d0,d1,d2,d3,d4,d5,d6,d7,d8,d9,d10⟩⟩:=HK.out w1_ hB_
        clear hB_
        go_simp
        first
         | exact ⟨rfl,Below.refl _ _⟩
         | exact ⟨rfl,HCMP.out w1_⟩
         | (rw [IntWalk.i64_in _ (by omega)];exact ⟨rfl,Below.refl _ _⟩)
         | (rw [decide_eq_true (by omega)];exact ⟨rfl,Below.refl _ _⟩)
         | (rw [decide_eq_false (by omega)];exact ⟨rfl,Below.refl _ _⟩)
         | (rw [if_pos (by omega)];exact ⟨rfl,Below.refl _ _⟩)
         | done
      case nextf =>
      intro w7 hb7
      have HB7:=Lib.hid hb7
      clear hb7
      go_wp2_with fail
      go_roundw
      case rel=>exact ⟨k + 1,i + 1,(U' ++ [y]) ++ x :: V,by omega,by omega,by have:=HIK.out;omega,by go_num,by
       rw [HTK.out]
       refine Stab.put (by rw [HUV.out];exact HST.out) (fun u hu=>?_) HV.out
       have hs:=HST.out.2.1
       rw [← HUV.out,List.append_assoc,List.pairwise_append] at hs
       rcases List.mem_append.1 hu with hu | hu
       ·have:=hs.2.2 u hu y (by simp)
        omega
       ·rw [List.mem_singleton.1 hu]
        omega,by
       have h:=HRI.out
       rw [← HT.out] at h
       have h:=h.below HB7.out
       simpa [List.append_assoc] using h,HFI.out.then (Fr.of_below HB7.out (Nat.le_refl _))⟩
      case measure=>first | (simp [intOf];done) | (simp [intOf];omega)
  ·go_wp2_with fail
   have hkd:B.drop k = []:=List.drop_eq_nil_of_le (by rw [HM.out];omega)
   have hkt:B.take k = B:=List.take_of_length_le (by rw [HM.out];omega)
   have h1:=HRW.out
   have h2:=HST.out
   rw [hkd,List.nil_append] at h1
   rw [hkt] at h2
   go_end0
   exact ⟨rfl,M,h2,h1,HFR.out⟩
end
end Go.Proofs.YteekjfgjmccdnaaGreatDoor
