/-
  Layer 11 walked: a second's year, the functions that best is given.
-/
import Derived.Lib.SplitLaws
import Derived.Lib.PathFns
import Derived.Lib.SmallJoins
import Derived.Test.YteekjfgjmccdnaaGreatDoorZr4
set_option maxHeartbeats 16000000
set_option maxRecDepth 100000
namespace Go.Proofs.YteekjfgjmccdnaaGreatDoor
section -- AShow
open Go Go.RowKit Go.Shelf
def digB (n:Int):UInt8:=UInt8.ofNat (48 + n).toNat
def twoB (n:Int):ByteArray:=⟨#[digB (n / 10),digB (n % 10)]⟩
theorem digB_toNat {n:Int} (h0:0 ≤ n) (h1:n < 200):((digB n).toNat:Int) = 48 + n:=by
 unfold digB;rw [UInt8.toNat_ofNat'];omega
theorem two_conv {n:Int} (h0:0 ≤ n) (h1:n < 100) (w:World):(convert 186 9 (.slice (some ⟨w.heap.size,0,none⟩) 2 2)).run Tryz.prog (w.alloc (.cells #[.int .u8 (48 + n / 10),.int .u8 (48 + n % 10)] 5)) = .ok (.string (twoB n)) (w.alloc (.cells #[.int .u8 (48 + n / 10),.int .u8 (48 + n % 10)] 5)):=by
 have h:=run_convert_bytes_back (P:=Tryz.prog) (w.alloc (.cells #[.int .u8 (48 + n / 10),.int .u8 (48 + n % 10)] 5)) 186 9 5 ⟨w.heap.size,0,none⟩ 2 [digB (n / 10),digB (n % 10)] Tryz.underlying186 Tryz.underlying5 Tryz.underlying9 (fun j hj=>by
  rw [Addr.add_lit,Nat.zero_add,cell_new]
  rcases j with _ | _ | j
  ·simp [digB_toNat (show 0 ≤ n / 10 by omega) (by omega)]
  ·simp [digB_toNat (show 0 ≤ n % 10 by omega) (by omega)]
  ·simp at hj;omega)
 exact h
theorem two_any (n:Int) (h0:0 ≤ n) (h1:n < 100) (w:World) :
  Calls Tryz.prog 140 #[.int .i64 n] w fun e w'=>e = .returned (.string (twoB n))∧Below w.heap.size w w':=by
 have e1:n.tdiv 10 = n / 10:=by rw [Int.tdiv_eq_ediv_of_nonneg h0]
 have e2:n.tmod 10 = n % 10:=by rw [Int.tmod_eq_emod_of_nonneg h0]
 have HC:=two_conv h0 h1 w;go_enter Tryz.func140,Tryz.ntmps140;go_wp2_with fail;go_ret;exact ⟨rfl,(Below.refl w.heap.size w).alloc (Nat.le_refl _) _⟩
def offN (n:Int):ByteArray:=twoB (n / 3600) ++ (if 0 < n % 3600 then twoB (n % 3600 / 60) else ⟨#[]⟩) ++ (if 0 < n % 60 then twoB (n % 60) else ⟨#[]⟩)
def offB (off:Int):ByteArray:=if off < 0 then ⟨#[45]⟩ ++ offN (-off) else ⟨#[43]⟩ ++ offN off
theorem off_any (off:Int) (w:World) :
  Calls Tryz.prog 113 #[.int .i64 off] w fun e w'=>e = .returned (if -360000 < off∧off < 360000 then .tuple #[.string (offB off),.int .i64 0] else .tuple #[.string ⟨#[]⟩,.int .i64 10])∧Below w.heap.size w w':=by
 have HT:=Lib.hid (fun n h0 h1 W=>two_any n h0 h1 W)
 by_cases hr:-360000 < off∧off < 360000
 ·rw [if_pos hr];have hd1:decide (off ≤ -360000) = false:=decide_eq_false (by omega);have hd2:decide (360000 ≤ off) = false:=decide_eq_false (by omega)
  by_cases hn:off < 0
  ·have hd3:decide (off < 0) = true:=decide_eq_true hn;have e3:(-off).tdiv 3600 = (-off) / 3600:=by rw [Int.tdiv_eq_ediv_of_nonneg (by omega)]
   have e4:(-off).tmod 3600 = (-off) % 3600:=by rw [Int.tmod_eq_emod_of_nonneg (by omega)]
   have e5:(-off).tmod 60 = (-off) % 60:=by rw [Int.tmod_eq_emod_of_nonneg (by omega)]
   have e6:((-off) % 3600).tdiv 60 = (-off) % 3600 / 60:=by rw [Int.tdiv_eq_ediv_of_nonneg (by omega)]
   have H1:=Lib.hid (HT.out ((-off) / 3600) (by omega) (by omega));have H2:=Lib.hid (HT.out ((-off) % 3600 / 60) (by omega) (by omega));have H3:=Lib.hid (HT.out ((-off) % 60) (by omega) (by omega))
   by_cases h3:0 < (-off) % 3600
   ·by_cases h4:0 < (-off) % 60
    ·have HV:=Lib.hid (show offB off = ⟨#[45]⟩ ++ twoB ((-off) / 3600) ++ twoB ((-off) % 3600 / 60) ++ twoB ((-off) % 60) by unfold offB offN;rw [if_pos hn,if_pos h3,if_pos h4,← ByteArray.append_assoc,← ByteArray.append_assoc]);have g3:decide (0 < (-off) % 3600) = true:=decide_eq_true h3;have g4:decide (0 < (-off) % 60) = true:=decide_eq_true h4;clear h3 h4 HT;have s1:(twoB ((-off) / 3600)).size = 2:=rfl;have s2:(twoB ((-off) % 3600 / 60)).size = 2:=rfl;have s3:(twoB ((-off) % 60)).size = 2:=rfl;generalize twoB ((-off) / 3600) = t1 at *;generalize twoB ((-off) % 3600 / 60) = t2 at *;generalize twoB ((-off) % 60) = t3 at *;go_enter Tryz.func113,Tryz.ntmps113;go_wp2_with fail;refine (H1.out _).mono ?_;rintro e w1 ⟨rfl,hb1⟩;go_wp2_with fail;refine (H2.out _).mono ?_;rintro e w2 ⟨rfl,hb2⟩;go_wp2_with fail;refine (H3.out _).mono ?_;rintro e w3 ⟨rfl,hb3⟩;go_wp2_with fail;go_ret2;exact ⟨by rw [HV.out];rfl,(hb1.trans (hb2.mono hb1.size)).trans (hb3.mono (Nat.le_trans hb1.size hb2.size))⟩
    ·have HV:=Lib.hid (show offB off = ⟨#[45]⟩ ++ twoB ((-off) / 3600) ++ twoB ((-off) % 3600 / 60) by unfold offB offN;rw [if_pos hn,if_pos h3,if_neg h4,← ByteArray.append_assoc,← ByteArray.append_assoc];exact ByteArray.append_empty);have g3:decide (0 < (-off) % 3600) = true:=decide_eq_true h3;have g4:decide (0 < (-off) % 60) = false:=decide_eq_false h4;clear h3 h4 HT;have s1:(twoB ((-off) / 3600)).size = 2:=rfl;have s2:(twoB ((-off) % 3600 / 60)).size = 2:=rfl;have s3:(twoB ((-off) % 60)).size = 2:=rfl;generalize twoB ((-off) / 3600) = t1 at *;generalize twoB ((-off) % 3600 / 60) = t2 at *;go_enter Tryz.func113,Tryz.ntmps113;go_wp2_with fail;refine (H1.out _).mono ?_;rintro e w1 ⟨rfl,hb1⟩;go_wp2_with fail;refine (H2.out _).mono ?_;rintro e w2 ⟨rfl,hb2⟩;go_wp2_with fail;go_ret2;exact ⟨by rw [HV.out];rfl,hb1.trans (hb2.mono hb1.size)⟩
   ·have h4:¬ 0 < (-off) % 60:=by omega
    have HV:=Lib.hid (show offB off = ⟨#[45]⟩ ++ twoB ((-off) / 3600) by unfold offB offN;rw [if_pos hn,if_neg h3,if_neg h4];rw [show (⟨#[]⟩:ByteArray) = ByteArray.empty from rfl,ByteArray.append_empty,ByteArray.append_empty]);have g3:decide (0 < (-off) % 3600) = false:=decide_eq_false h3;have g4:decide (0 < (-off) % 60) = false:=decide_eq_false h4;clear h3 h4 HT;have s1:(twoB ((-off) / 3600)).size = 2:=rfl;generalize twoB ((-off) / 3600) = t1 at *;go_enter Tryz.func113,Tryz.ntmps113;go_wp2_with fail;refine (H1.out _).mono ?_;rintro e w1 ⟨rfl,hb1⟩;go_wp2_with fail;go_ret2;exact ⟨by rw [HV.out];rfl,hb1⟩
  ·have hd3:decide (off < 0) = false:=decide_eq_false hn;have e3:(off).tdiv 3600 = (off) / 3600:=by rw [Int.tdiv_eq_ediv_of_nonneg (by omega)]
   have e4:(off).tmod 3600 = (off) % 3600:=by rw [Int.tmod_eq_emod_of_nonneg (by omega)]
   have e5:(off).tmod 60 = (off) % 60:=by rw [Int.tmod_eq_emod_of_nonneg (by omega)]
   have e6:((off) % 3600).tdiv 60 = (off) % 3600 / 60:=by rw [Int.tdiv_eq_ediv_of_nonneg (by omega)]
   have H1:=Lib.hid (HT.out ((off) / 3600) (by omega) (by omega));have H2:=Lib.hid (HT.out ((off) % 3600 / 60) (by omega) (by omega));have H3:=Lib.hid (HT.out ((off) % 60) (by omega) (by omega))
   by_cases h3:0 < (off) % 3600
   ·by_cases h4:0 < (off) % 60
    ·have HV:=Lib.hid (show offB off = ⟨#[43]⟩ ++ twoB ((off) / 3600) ++ twoB ((off) % 3600 / 60) ++ twoB ((off) % 60) by unfold offB offN;rw [if_neg hn,if_pos h3,if_pos h4,← ByteArray.append_assoc,← ByteArray.append_assoc]);have g3:decide (0 < (off) % 3600) = true:=decide_eq_true h3;have g4:decide (0 < (off) % 60) = true:=decide_eq_true h4;clear h3 h4 HT;have s1:(twoB ((off) / 3600)).size = 2:=rfl;have s2:(twoB ((off) % 3600 / 60)).size = 2:=rfl;have s3:(twoB ((off) % 60)).size = 2:=rfl;generalize twoB ((off) / 3600) = t1 at *;generalize twoB ((off) % 3600 / 60) = t2 at *;generalize twoB ((off) % 60) = t3 at *;go_enter Tryz.func113,Tryz.ntmps113;go_wp2_with fail;refine (H1.out _).mono ?_;rintro e w1 ⟨rfl,hb1⟩;go_wp2_with fail;refine (H2.out _).mono ?_;rintro e w2 ⟨rfl,hb2⟩;go_wp2_with fail;refine (H3.out _).mono ?_;rintro e w3 ⟨rfl,hb3⟩;go_wp2_with fail;go_ret2;exact ⟨by rw [HV.out];rfl,(hb1.trans (hb2.mono hb1.size)).trans (hb3.mono (Nat.le_trans hb1.size hb2.size))⟩
    ·have HV:=Lib.hid (show offB off = ⟨#[43]⟩ ++ twoB ((off) / 3600) ++ twoB ((off) % 3600 / 60) by unfold offB offN;rw [if_neg hn,if_pos h3,if_neg h4,← ByteArray.append_assoc,← ByteArray.append_assoc];exact ByteArray.append_empty);have g3:decide (0 < (off) % 3600) = true:=decide_eq_true h3;have g4:decide (0 < (off) % 60) = false:=decide_eq_false h4;clear h3 h4 HT;have s1:(twoB ((off) / 3600)).size = 2:=rfl;have s2:(twoB ((off) % 3600 / 60)).size = 2:=rfl;have s3:(twoB ((off) % 60)).size = 2:=rfl;generalize twoB ((off) / 3600) = t1 at *;generalize twoB ((off) % 3600 / 60) = t2 at *;go_enter Tryz.func113,Tryz.ntmps113;go_wp2_with fail;refine (H1.out _).mono ?_;rintro e w1 ⟨rfl,hb1⟩;go_wp2_with fail;refine (H2.out _).mono ?_;rintro e w2 ⟨rfl,hb2⟩;go_wp2_with fail;go_ret2;exact ⟨by rw [HV.out];rfl,hb1.trans (hb2.mono hb1.size)⟩
   ·have h4:¬ 0 < (off) % 60:=by omega
    have HV:=Lib.hid (show offB off = ⟨#[43]⟩ ++ twoB ((off) / 3600) by unfold offB offN;rw [if_neg hn,if_neg h3,if_neg h4];rw [show (⟨#[]⟩:ByteArray) = ByteArray.empty from rfl,ByteArray.append_empty,ByteArray.append_empty]);have g3:decide (0 < (off) % 3600) = false:=decide_eq_false h3;have g4:decide (0 < (off) % 60) = false:=decide_eq_false h4;clear h3 h4 HT;have s1:(twoB ((off) / 3600)).size = 2:=rfl;generalize twoB ((off) / 3600) = t1 at *;go_enter Tryz.func113,Tryz.ntmps113;go_wp2_with fail;refine (H1.out _).mono ?_;rintro e w1 ⟨rfl,hb1⟩;go_wp2_with fail;go_ret2;exact ⟨by rw [HV.out];rfl,hb1⟩
 ·rw [if_neg hr]
  by_cases h1:off ≤ -360000
  ·have hd1:decide (off ≤ -360000) = true:=decide_eq_true h1;have hd2:decide (360000 ≤ off) = false:=decide_eq_false (by omega);go_enter Tryz.func113,Tryz.ntmps113;go_wp2_with fail;go_ret2;exact ⟨rfl,Below.refl _ _⟩
  ·have hd1:decide (off ≤ -360000) = false:=decide_eq_false h1;have hd2:decide (360000 ≤ off) = true:=decide_eq_true (by omega);go_enter Tryz.func113,Tryz.ntmps113;go_wp2_with fail;go_ret2;exact ⟨rfl,Below.refl _ _⟩
theorem kindR_kinds (f:List UInt8):kindR f = (0,12)∨(f.length ≤ 64∧((kindR f) = (0,0)∨(kindR f) = (1,0)∨(kindR f) = (2,0)∨(kindR f) = (3,0))):=by
 unfold kindR
 by_cases hb:badB f = true
 ·rw [if_pos hb];exact .inl rfl
 ·rw [if_neg hb];refine .inr ⟨?_,?_⟩
  ·by_cases hl:64 < f.length
   ·exact absurd (bad_long hl) hb
   ·omega
  ·unfold kindP
   split
   ·simp
   ·split
    ·simp
    ·split <;> simp
def repB (f old new:ByteArray):ByteArray:=⟨(Lib.replace f.data.toList old.data.toList new.data.toList 1).toArray⟩
def showV (f:ByteArray) (off:Int) (dst:Bool) (letter:ByteArray):ByteArray × Int :=
 if (kindR f.data.toList).2 = 0 then
  (if (kindR f.data.toList).1 = 1 then (repB f ⟨#[37,115]⟩ letter,0)
  else if (kindR f.data.toList).1 = 2 then (if -360000 < off∧off < 360000 then (repB f ⟨#[37,122]⟩ (offB off),0) else (⟨#[]⟩,10))
  else if (kindR f.data.toList).1 = 3 then (if dst then ⟨(Lib.cut f.data.toList [47]).2.1.toArray⟩ else ⟨(Lib.cut f.data.toList [47]).1.toArray⟩,0)
  else (f,0))
 else (⟨#[]⟩,(kindR f.data.toList).2)
theorem rep_any (f old new:ByteArray) (h1:1 ≤ old.size) (hs:f.size ≤ 64) (hn:new.size ≤ 100∨(Lib.countB f old ≤ 1∧new.size ≤ 140737488351232)) (w:World) (hm:Tryz.MaxL w) :
  Calls Tryz.prog 112 #[.string f,.string old,.string new,.int .i64 1] w fun e w'=>e = .returned (.string (repB f old new))∧Below w.heap.size w w' :=
 Tryz.strings_Replace f old new 1 w (by omega) hm h1 (by
  have h:=Lib.countB_le old h1 f.size f (Nat.le_refl _)
  rcases hn with hn | ⟨hc,hn⟩
  ·have h2:Lib.countB f old * new.size ≤ 64 * 100:=Nat.mul_le_mul (by omega) hn
   omega
  ·have h2:Lib.countB f old * new.size ≤ 1 * 140737488351232:=Nat.mul_le_mul hc hn
   omega)
theorem offB_size (off:Int):(offB off).size ≤ 100:=by
 have h:∀ n,(offN n).size ≤ 50:=fun n=>by
  unfold offN;rw [ByteArray.size_append,ByteArray.size_append];have e:∀ k,(twoB k).size = 2:=fun k=>rfl
  split <;> split <;> simp only [e] <;> decide
 unfold offB
 split
 ·rw [ByteArray.size_append];have:=h (-off);have e:(⟨#[45]⟩:ByteArray).size = 1:=rfl;omega
 ·rw [ByteArray.size_append];have:=h off;have e:(⟨#[43]⟩:ByteArray).size = 1:=rfl;omega
theorem show_any (f:ByteArray) (off:Int) (dst:Bool) (letter:ByteArray) (w:World) (hs:f.size < 4294967281) (hl:letter.size ≤ 140737488351232) (hm:Tryz.MaxL w) :
  Calls Tryz.prog 73 #[.string f,.int .i64 off,.bool dst,.string letter] w fun o w'=>o = .returned (.tuple #[.string (showV f off dst letter).1,.int .i64 (showV f off dst letter).2])∧Below w.heap.size w w':=by
 rcases kindR_kinds f.data.toList with h | ⟨hl64,h | h | h | h⟩
 ·have e:showV f off dst letter = (⟨#[]⟩,12):=by unfold showV;rw [h,if_neg (by decide)]
  rw [e];exact show_err f off dst letter w hs hm 0 12 h (by decide)
 ·have e:showV f off dst letter = (f,0):=by unfold showV;rw [h];rfl
  rw [e];exact show_plain f off dst letter w hs hm h
 ·have hs64:f.size ≤ 64:=by have:f.data.toList.length = f.size:=Array.length_toList
                            omega
  have e:showV f off dst letter = (repB f ⟨#[37,115]⟩ letter,0):=by unfold showV;rw [h];rfl
  rw [e];have HK:=Lib.hid (kind_at f hs 1 0 h w hm);have HR:=Lib.hid (fun W (hb:Below w.heap.size w W)=>rep_any f ⟨#[37,115]⟩ letter (by decide) hs64 (.inr ⟨count_one h,hl⟩) W (hm.below hb (Nat.le_refl _)));clear h e hm;generalize repB f ⟨#[37,115]⟩ letter = t at *;go_enter Tryz.func73,Tryz.ntmps73;go_wp2_with fail;refine HK.out.mono ?_;rintro e w1 ⟨rfl,hb⟩;go_wp2_with fail;refine (HR.out _ hb).mono ?_;rintro e w2 ⟨rfl,hb2⟩;go_wp2_with fail;go_ret2;exact ⟨rfl,hb.trans (hb2.mono hb.size)⟩
 ·have hs64:f.size ≤ 64:=by have:f.data.toList.length = f.size:=Array.length_toList
                            omega
  have HK:=Lib.hid (kind_at f hs 2 0 h w hm);have HO:=Lib.hid (fun W=>off_any off W);have HR:=Lib.hid (fun W (hb:Below w.heap.size w W)=>rep_any f ⟨#[37,122]⟩ (offB off) (by decide) hs64 (.inl (offB_size off)) W (hm.below hb (Nat.le_refl _)))
  by_cases hr:-360000 < off∧off < 360000
  ·have e:showV f off dst letter = (repB f ⟨#[37,122]⟩ (offB off),0):=by unfold showV;simp only [h];rw [if_pos trivial,if_neg (by decide),if_pos trivial,if_pos hr]
   rw [e];simp only [if_pos hr] at HO;clear h e hm;generalize repB f ⟨#[37,122]⟩ (offB off) = t at *;generalize offB off = ob at *;go_enter Tryz.func73,Tryz.ntmps73;go_wp2_with fail;refine HK.out.mono ?_;rintro e w1 ⟨rfl,hb⟩;go_wp2_with fail;refine (HO.out _).mono ?_;rintro e w2 ⟨rfl,hb2⟩;have hb3:=hb.trans (hb2.mono hb.size);go_wp2_with fail;refine (HR.out _ hb3).mono ?_;rintro e w3 ⟨rfl,hb4⟩;go_wp2_with fail;go_ret2;exact ⟨rfl,hb3.trans (hb4.mono hb3.size)⟩
  ·have e:showV f off dst letter = (⟨#[]⟩,10):=by unfold showV;simp only [h];rw [if_pos trivial,if_neg (by decide),if_pos trivial,if_neg hr]
   rw [e];simp only [if_neg hr] at HO;clear h e hm HR;go_enter Tryz.func73,Tryz.ntmps73;go_wp2_with fail;refine HK.out.mono ?_;rintro e w1 ⟨rfl,hb⟩;go_wp2_with fail;refine (HO.out _).mono ?_;rintro e w2 ⟨rfl,hb2⟩;have hb3:=hb.trans (hb2.mono hb.size);go_wp2_with fail;go_ret2;exact ⟨rfl,hb3⟩
 ·have HK:=Lib.hid (kind_at f hs 3 0 h w hm);have HC:=Lib.hid (fun W (hb:Below w.heap.size w W)=>Tryz.strings_Cut f ⟨#[47]⟩ W hs (hm.below hb (Nat.le_refl _)));obtain ⟨⟨c0,c1,c2⟩,hc⟩:∃ c,Lib.cut f.data.toList [47] = c:=⟨_,rfl⟩;have hcs:Lib.cut f.data.toList (⟨#[47]⟩:ByteArray).data.toList = (c0,c1,c2):=hc;simp only [hcs] at HC
  cases dst with
  | true =>
    have e:showV f off true letter = (⟨c1.toArray⟩,0):=by unfold showV;rw [h,hc];rfl
    rw [e];clear h e hm hc hcs;go_enter Tryz.func73,Tryz.ntmps73;go_wp2_with fail;refine HK.out.mono ?_;rintro e w1 ⟨rfl,hb⟩;go_wp2_with fail;refine (HC.out _ hb).mono ?_;rintro e w2 ⟨rfl,n,rfl⟩;go_wp2_with fail;go_ret2;exact ⟨rfl,below_drewN hb n⟩
  | false =>
    have e:showV f off false letter = (⟨c0.toArray⟩,0):=by unfold showV;rw [h,hc];rfl
    rw [e];clear h e hm hc hcs;go_enter Tryz.func73,Tryz.ntmps73;go_wp2_with fail;refine HK.out.mono ?_;rintro e w1 ⟨rfl,hb⟩;go_wp2_with fail;refine (HC.out _ hb).mono ?_;rintro e w2 ⟨rfl,n,rfl⟩;go_wp2_with fail;go_ret2;exact ⟨rfl,below_drewN hb n⟩
end
section -- ARefS
open Go Go.RowKit Go.Shelf
def letZ (z:Int):Bool:=decide (97 ≤ z∧z ≤ 122∨65 ≤ z∧z ≤ 90∨48 ≤ z∧z ≤ 57∨z = 43∨z = 45)
theorem letB_all:∀ n:_root_.Fin 256,letB (UInt8.ofNat n.1) = letZ (n.1:Int):=by decide +kernel
theorem letB_eq (x:UInt8):letB x = letZ (x.toNat:Int):=by
 have:=letB_all ⟨x.toNat,x.toNat_lt⟩;simpa using this
theorem letter_any (x:UInt8) (w:World):Calls Tryz.prog 171 #[.int .u8 (x.toNat:Int)] w fun e w'=>e = .returned (.bool (letB x))∧w' = w:=by
 rw [letB_eq];generalize (x.toNat:Int) = z
 by_cases h1:97 ≤ z
 ·have d1:decide (97 ≤ z) = true:=decide_eq_true h1;have d3:decide (65 ≤ z) = true:=decide_eq_true (by omega);have d4:decide (z ≤ 90) = false:=decide_eq_false (by omega);have d5:decide (48 ≤ z) = true:=decide_eq_true (by omega);have d6:decide (z ≤ 57) = false:=decide_eq_false (by omega);have d7:(z == 43) = false:=by simp;omega
  have d8:(z == 45) = false:=by simp;omega
  by_cases h2:z ≤ 122
  ·have d2:decide (z ≤ 122) = true:=decide_eq_true h2;have HV:=Lib.hid (show letZ z = true by unfold letZ;rw [decide_eq_true_eq];omega);go_enter Tryz.func171,Tryz.ntmps171;go_wp2_with fail;go_ret;exact ⟨by rw [HV.out];rfl,rfl⟩
  ·have d2:decide (z ≤ 122) = false:=decide_eq_false h2;have HV:=Lib.hid (show letZ z = false by unfold letZ;rw [decide_eq_false_iff_not];omega);go_enter Tryz.func171,Tryz.ntmps171;go_wp2_with fail;go_ret;exact ⟨by rw [HV.out];rfl,rfl⟩
 ·have d1:decide (97 ≤ z) = false:=decide_eq_false h1
  by_cases h3:65 ≤ z
  ·have d3:decide (65 ≤ z) = true:=decide_eq_true h3;have d5:decide (48 ≤ z) = true:=decide_eq_true (by omega);have d6:decide (z ≤ 57) = false:=decide_eq_false (by omega);have d7:(z == 43) = false:=by simp;omega
   have d8:(z == 45) = false:=by simp;omega
   by_cases h4:z ≤ 90
   ·have d4:decide (z ≤ 90) = true:=decide_eq_true h4;have HV:=Lib.hid (show letZ z = true by unfold letZ;rw [decide_eq_true_eq];omega);go_enter Tryz.func171,Tryz.ntmps171;go_wp2_with fail;go_ret;exact ⟨by rw [HV.out];rfl,rfl⟩
   ·have d4:decide (z ≤ 90) = false:=decide_eq_false h4;have HV:=Lib.hid (show letZ z = false by unfold letZ;rw [decide_eq_false_iff_not];omega);go_enter Tryz.func171,Tryz.ntmps171;go_wp2_with fail;go_ret;exact ⟨by rw [HV.out];rfl,rfl⟩
  ·have d3:decide (65 ≤ z) = false:=decide_eq_false h3
   by_cases h5:48 ≤ z
   ·have d5:decide (48 ≤ z) = true:=decide_eq_true h5;have d7:(z == 43) = false:=by simp;omega
    have d8:(z == 45) = false:=by simp;omega
    by_cases h6:z ≤ 57
    ·have d6:decide (z ≤ 57) = true:=decide_eq_true h6;have HV:=Lib.hid (show letZ z = true by unfold letZ;rw [decide_eq_true_eq];omega);go_enter Tryz.func171,Tryz.ntmps171;go_wp2_with fail;go_ret;exact ⟨by rw [HV.out];rfl,rfl⟩
    ·have d6:decide (z ≤ 57) = false:=decide_eq_false h6;have HV:=Lib.hid (show letZ z = false by unfold letZ;rw [decide_eq_false_iff_not];omega);go_enter Tryz.func171,Tryz.ntmps171;go_wp2_with fail;go_ret;exact ⟨by rw [HV.out];rfl,rfl⟩
   ·have d5:decide (48 ≤ z) = false:=decide_eq_false h5
    by_cases h7:z = 43
    ·have d7:(z == 43) = true:=by simpa using h7
     have HV:=Lib.hid (show letZ z = true by unfold letZ;rw [decide_eq_true_eq];omega);clear h7;go_enter Tryz.func171,Tryz.ntmps171;go_wp2_with fail;go_ret;exact ⟨by rw [HV.out];rfl,rfl⟩
    ·have d7:(z == 43) = false:=by simpa using h7
     by_cases h8:z = 45
     ·have d8:(z == 45) = true:=by simpa using h8
      have HV:=Lib.hid (show letZ z = true by unfold letZ;rw [decide_eq_true_eq];omega);clear h8;go_enter Tryz.func171,Tryz.ntmps171;go_wp2_with fail;go_ret;exact ⟨by rw [HV.out];rfl,rfl⟩
     ·have d8:(z == 45) = false:=by simpa using h8
      have HV:=Lib.hid (show letZ z = false by unfold letZ;rw [decide_eq_false_iff_not];omega);go_enter Tryz.func171,Tryz.ntmps171;go_wp2_with fail;go_ret;exact ⟨by rw [HV.out];rfl,rfl⟩
theorem byte_eq {x c:UInt8}:((x.toNat:Int) == (c.toNat:Int)) = decide (x = c):=by
 by_cases h:x = c
 ·subst h;simp
 ·rw [decide_eq_false h]
  cases hq:((x.toNat:Int) == (c.toNat:Int)) with
  | false=>rfl
  | true =>
    exfalso;apply h;have:(x.toNat:Int) = (c.toNat:Int):=by simpa using hq
    exact UInt8.toNat_inj.1 (by omega)
theorem rkind_any (f:ByteArray) (w:World) (hs:f.size < 4294967281) :
  Calls Tryz.prog 142 #[.string f] w fun e w'=>e = .returned (.tuple #[.int .i64 (refK f.data.toList).1,.int .i64 ((refK f.data.toList).2:Nat)])∧w' = w:=by
 have hlen:f.data.toList.length = f.size:=Array.length_toList
 by_cases h0:f.size = 0
 ·have HV:=Lib.hid (show refK f.data.toList = (-1,0) by unfold refK;rw [if_pos (.inl (List.eq_nil_of_length_eq_zero (by omega)))]);have d0:decide (f.size = 0) = true:=decide_eq_true h0;go_enter Tryz.func142,Tryz.ntmps142;go_wp2_with fail;go_ret2;exact ⟨by rw [HV.out];rfl,rfl⟩
 ·by_cases h1:64 < f.size
  ·have HV:=Lib.hid (show refK f.data.toList = (-1,0) by unfold refK;rw [if_pos (.inr (by omega))]);go_enter Tryz.func142,Tryz.ntmps142;go_wp2_with fail;go_ret2;exact ⟨by rw [HV.out];rfl,rfl⟩
  ·have HR:=Lib.hid (refK_in (f:=f.data.toList) (fun h=>h0 (by rw [← hlen,h];rfl)) (by omega));have hl64:f.size ≤ 64:=by omega
   have d0:((f.size:Int) == 0) = false:=beq_eq_false_iff_ne.2 (by omega);have d1:decide (64 < f.size) = false:=decide_eq_false h1;have d2:decide ((64:Int) < (f.size:Int)) = false:=decide_eq_false (by omega);have hpos:0 < f.size:=by omega
   go_enter Tryz.func142,Tryz.ntmps142;go_wp2_with fail
   go_loopw [4,5,6] (fun kv av iv wr=>∃ (i:Nat) (k:Int) (a:Nat),i ≤ f.size∧iv = .int .i64 i∧kv = .int .i64 k∧av = .int .i64 a∧0 ≤ k∧k ≤ 3∧a ≤ 64∧wr = w∧scanR f.data.toList.length 0 f.data.toList (0,0) = scanR f.data.toList.length i (f.data.toList.drop i) (k,a)) (fun _ _ iv _=>f.size - (intOf iv).toNat)
   case atStart=>exact ⟨0,0,0,Nat.zero_le _,rfl,rfl,rfl,by omega,by omega,by omega,rfl,rfl⟩
   case round =>
    obtain ⟨i,k,a,hi,rfl,rfl,rfl,hk0,hk3,ha,rfl,hsc⟩:=hrel;have HSC:=Lib.hid hsc;clear hsc
    by_cases hlt:i < f.size
    ·have hd:decide ((i:Int) < (f.size:Int)) = true:=decide_eq_true (by omega);have hil:i < f.data.toList.length:=by omega
     have hcons:f.data.toList.drop i = f.data.toList[i] :: f.data.toList.drop (i + 1):=List.drop_eq_getElem_cons hil;obtain ⟨x,hx⟩:∃ x,f.data.toList[i] = x:=⟨_,rfl⟩;have hxi:f[i] = x:=by rw [← hx];exact (Array.getElem_toList (xs:=f.data) (h:=by omega)).symm
     have hhead:(f.data.toList.drop (i + 1)).head? = f.data.toList[i + 1]?:=by rw [List.head?_drop]
     rw [hcons,hx] at HSC
     have HST:=Lib.hid (show scanR f.data.toList.length i (x :: f.data.toList.drop (i + 1)) (k,a) = if letB x then scanR f.data.toList.length (i + 1) (f.data.toList.drop (i + 1)) (k,a)
      else if k ≠ 0 then none
      else if x = 47∧0 < i∧i + 1 < f.data.toList.length then scanR f.data.toList.length (i + 1) (f.data.toList.drop (i + 1)) (3,i)
      else if x = 37∧(f.data.toList.drop (i + 1)).head? = some 115 then scanR f.data.toList.length (i + 1) (f.data.toList.drop (i + 1)) (1,i)
      else if x = 37∧(f.data.toList.drop (i + 1)).head? = some 122 then scanR f.data.toList.length (i + 1) (f.data.toList.drop (i + 1)) (2,i)
      else none from rfl)
     have HBAD:=Lib.hid (fun (h:scanR f.data.toList.length i (x :: f.data.toList.drop (i + 1)) (k,a) = none)=>show refK f.data.toList = (-1,0) by rw [HR.out,HSC.out,h]);have HL:=Lib.hid (letter_any x wr);have HHD:=Lib.hid hhead;clear hcons hx hhead
     cases hlx:letB x with
     | true =>
       have HN:=Lib.hid (show scanR f.data.toList.length i (x :: f.data.toList.drop (i + 1)) (k,a) = scanR f.data.toList.length (i + 1) (f.data.toList.drop (i + 1)) (k,a) by rw [HST.out,hlx,if_pos rfl]);rw [hlx] at HL;clear hlx;go_wp2_with fail;refine HL.out.mono ?_;rintro e w1 ⟨rfl,rfl⟩;go_wp2_with fail;go_roundw
       case rel=>exact ⟨i + 1,k,a,by omega,by go_num,rfl,rfl,hk0,hk3,ha,by trivial,HSC.out.trans HN.out⟩
       case measure=>simp [intOf];omega
     | false =>
       rw [hlx] at HL HST;rw [if_neg (by decide)] at HST;clear hlx
       by_cases hk:k = 0
       ·subst hk;rw [if_neg (by simp)] at HST;have d0:((0:Int) != 0) = false:=rfl
        by_cases h47:x = 47
        ·subst h47
         by_cases hin:0 < i∧i + 1 < f.size
         ·have HN:=Lib.hid (show scanR f.data.toList.length i (47 :: f.data.toList.drop (i + 1)) (0,a) = scanR f.data.toList.length (i + 1) (f.data.toList.drop (i + 1)) (3,i) by rw [HST.out,if_pos ⟨rfl,hin.1,by omega⟩]);have d3:decide (0 < i) = true:=decide_eq_true hin.1;have d4:decide ((i:Int) + 1 < (f.size:Int)) = true:=decide_eq_true (by omega);go_wp2_with fail;refine HL.out.mono ?_;rintro e w1 ⟨rfl,rfl⟩;go_wp2_with fail;go_roundw
          case rel=>exact ⟨i + 1,3,i,by omega,by go_num,rfl,rfl,by omega,by omega,by omega,by trivial,HSC.out.trans HN.out⟩
          case measure=>simp [intOf];omega
         ·have HV:=Lib.hid (HBAD.out (by rw [HST.out,if_neg (fun h=>hin ⟨h.2.1,by omega⟩),if_neg (fun h=>absurd h.1 (by decide)),if_neg (fun h=>absurd h.1 (by decide))]))
          by_cases hi0:0 < i
          ·have d3:decide (0 < i) = true:=decide_eq_true hi0;have d4:decide ((i:Int) + 1 < (f.size:Int)) = false:=decide_eq_false (by omega);go_wp2_with fail;refine HL.out.mono ?_;rintro e w1 ⟨rfl,rfl⟩;go_wp2_with fail;go_ret2;exact ⟨by rw [HV.out];rfl,rfl⟩
          ·have d3:decide (0 < i) = false:=decide_eq_false hi0;go_wp2_with fail;refine HL.out.mono ?_;rintro e w1 ⟨rfl,rfl⟩;go_wp2_with fail;go_ret2;exact ⟨by rw [HV.out];rfl,rfl⟩
        ·rw [if_neg (fun h=>h47 h.1)] at HST;have e47:((x.toNat:Int) == 47) = false:=(byte_eq (x:=x) (c:=47)).trans (decide_eq_false h47)
         by_cases h37:x = 37
         ·subst h37
          by_cases hin:i + 1 < f.size
          ·have d4:decide ((i:Int) + 1 < (f.size:Int)) = true:=decide_eq_true (by omega);obtain ⟨y,hy⟩:∃ y,f.data.toList[i + 1]'(by omega) = y:=⟨_,rfl⟩;have hyi:f[i + 1] = y:=by rw [← hy];exact (Array.getElem_toList (xs:=f.data) (h:=by omega)).symm
           have hh:(f.data.toList.drop (i + 1)).head? = some y:=by rw [HHD.out,List.getElem?_eq_getElem (by omega),hy]
           rw [hh] at HST;have e1:(((i:Int) + 1).toNat) = i + 1:=by omega
           clear hy hh
           by_cases hy1:y = 115
           ·subst hy1;have HN:=Lib.hid (show scanR f.data.toList.length i (37 :: f.data.toList.drop (i + 1)) (0,a) = scanR f.data.toList.length (i + 1) (f.data.toList.drop (i + 1)) (1,i) by rw [HST.out,if_pos ⟨rfl,rfl⟩]);go_wp2_with fail;refine HL.out.mono ?_;rintro e w1 ⟨rfl,rfl⟩;go_wp2_with fail;go_roundw
            case rel=>exact ⟨i + 1,1,i,by omega,by go_num,rfl,rfl,by omega,by omega,by omega,by trivial,HSC.out.trans HN.out⟩
            case measure=>simp [intOf];omega
           ·rw [if_neg (fun h=>hy1 (by simpa using h.2))] at HST;have e115:((y.toNat:Int) == 115) = false:=(byte_eq (x:=y) (c:=115)).trans (decide_eq_false hy1)
            by_cases hy2:y = 122
            ·subst hy2;have HN:=Lib.hid (show scanR f.data.toList.length i (37 :: f.data.toList.drop (i + 1)) (0,a) = scanR f.data.toList.length (i + 1) (f.data.toList.drop (i + 1)) (2,i) by rw [HST.out,if_pos ⟨rfl,rfl⟩]);go_wp2_with fail;refine HL.out.mono ?_;rintro e w1 ⟨rfl,rfl⟩;go_wp2_with fail;go_roundw
             case rel=>exact ⟨i + 1,2,i,by omega,by go_num,rfl,rfl,by omega,by omega,by omega,by trivial,HSC.out.trans HN.out⟩
             case measure=>simp [intOf];omega
            ·have e122:((y.toNat:Int) == 122) = false:=(byte_eq (x:=y) (c:=122)).trans (decide_eq_false hy2);have HV:=Lib.hid (HBAD.out (by rw [HST.out,if_neg (fun h=>hy2 (by simpa using h.2))]));go_wp2_with fail;refine HL.out.mono ?_;rintro e w1 ⟨rfl,rfl⟩;go_wp2_with fail;go_ret2;exact ⟨by rw [HV.out];rfl,rfl⟩
          ·have d4:decide ((i:Int) + 1 < (f.size:Int)) = false:=decide_eq_false (by omega);have hh:(f.data.toList.drop (i + 1)).head? = none:=by rw [HHD.out,List.getElem?_eq_none (by omega)]
           have HV:=Lib.hid (HBAD.out (by rw [HST.out,hh,if_neg (fun h=>absurd h.2 (by decide)),if_neg (fun h=>absurd h.2 (by decide))]));go_wp2_with fail;refine HL.out.mono ?_;rintro e w1 ⟨rfl,rfl⟩;go_wp2_with fail;go_ret2;exact ⟨by rw [HV.out];rfl,rfl⟩
         ·have e37:((x.toNat:Int) == 37) = false:=(byte_eq (x:=x) (c:=37)).trans (decide_eq_false h37);have HV:=Lib.hid (HBAD.out (by rw [HST.out,if_neg (fun h=>h37 h.1),if_neg (fun h=>h37 h.1)]));go_wp2_with fail;refine HL.out.mono ?_;rintro e w1 ⟨rfl,rfl⟩;go_wp2_with fail;go_ret2;exact ⟨by rw [HV.out];rfl,rfl⟩
       ·have HV:=Lib.hid (HBAD.out (by rw [HST.out,if_pos hk]));have d0:(k != 0) = true:=by simpa using hk
        go_wp2_with fail;refine HL.out.mono ?_;rintro e w1 ⟨rfl,rfl⟩;go_wp2_with fail;go_ret2;exact ⟨by rw [HV.out];rfl,rfl⟩
    ·obtain rfl:i = f.size:=by omega
     have hd:decide ((f.size:Int) < (f.size:Int)) = false:=decide_eq_false (by omega)
     have HV:=Lib.hid (show refK f.data.toList = (k,a) by
      rw [HR.out,HSC.out,List.drop_eq_nil_of_le (by omega)]
      rfl)
     go_wp2_with fail;go_ret2;exact ⟨by rw [HV.out];rfl,rfl⟩
end
section -- ARefT
open Go Go.RowKit Go.Shelf
theorem pair_any (n:Int) (h0:0 ≤ n) (h1:n < 100) (w:World) :
  Calls Tryz.prog 172 #[.int .i64 n] w fun e w'=>e = .returned (.string (twoB n))∧Below w.heap.size w w':=by
 have e1:n.tdiv 10 = n / 10:=by rw [Int.tdiv_eq_ediv_of_nonneg h0]
 have e2:n.tmod 10 = n % 10:=by rw [Int.tmod_eq_emod_of_nonneg h0]
 have e3:(n / 10).tmod 10 = n / 10:=by rw [Int.tmod_eq_emod_of_nonneg (by omega)];omega
 have HC:=two_conv h0 h1 w;go_enter Tryz.func172,Tryz.ntmps172;go_wp2_with fail;go_ret;exact ⟨rfl,(Below.refl w.heap.size w).alloc (Nat.le_refl _) _⟩
theorem roff_any (off:Int) (hr:-360000 < off∧off < 360000) (w:World) :
  Calls Tryz.prog 143 #[.int .i64 off] w fun e w'=>e = .returned (.string (offB off))∧Below w.heap.size w w':=by
 have HT:=Lib.hid (fun n h0 h1 W=>pair_any n h0 h1 W)
 by_cases hn:off < 0
 ·have hd3:decide (off < 0) = true:=decide_eq_true hn;have e0:(0:Int) - off = -off:=by omega
  have e3:(-off).tdiv 3600 = (-off) / 3600:=by rw [Int.tdiv_eq_ediv_of_nonneg (by omega)]
  have e4:(-off).tdiv 60 = (-off) / 60:=by rw [Int.tdiv_eq_ediv_of_nonneg (by omega)]
  have e5:(-off) / 60 - 60 * ((-off) / 3600) = (-off) % 3600 / 60:=by omega
  have e6:(-off) - 3600 * ((-off) / 3600) - 60 * ((-off) % 3600 / 60) = (-off) % 60:=by omega
  have H1:=Lib.hid (HT.out ((-off) / 3600) (by omega) (by omega));have H2:=Lib.hid (HT.out ((-off) % 3600 / 60) (by omega) (by omega));have H3:=Lib.hid (HT.out ((-off) % 60) (by omega) (by omega));have s1:(twoB ((-off) / 3600)).size = 2:=rfl;have s2:(twoB ((-off) % 3600 / 60)).size = 2:=rfl;have s3:(twoB ((-off) % 60)).size = 2:=rfl;have b1:0 ≤ (-off) / 3600∧(-off) / 3600 < 100:=by omega
  have b2:0 ≤ (-off) % 3600 / 60∧(-off) % 3600 / 60 < 60:=by omega
  have b3:0 ≤ (-off) % 60∧(-off) % 60 < 60:=by omega
  have b4:0 ≤ (-off) / 60∧(-off) / 60 < 6000:=by omega
  have b5:0 ≤ 60 * ((-off) / 3600)∧60 * ((-off) / 3600) < 6000:=by omega
  have b6:0 ≤ 3600 * ((-off) / 3600)∧3600 * ((-off) / 3600) ≤ (-off):=by omega
  have b7:0 ≤ 60 * ((-off) % 3600 / 60)∧60 * ((-off) % 3600 / 60) < 3600:=by omega
  by_cases h4:(-off) % 60 = 0
  ·have g4:((-off) % 60 != 0) = false:=by rw [h4];rfl
   by_cases h3:(-off) % 3600 / 60 = 0
   ·have HV:=Lib.hid (show offB off = ⟨#[45]⟩ ++ twoB ((-off) / 3600) by unfold offB offN;rw [if_pos hn,if_neg (by omega),if_neg (by omega),show (⟨#[]⟩:ByteArray) = ByteArray.empty from rfl,ByteArray.append_empty,ByteArray.append_empty]);have g3:((-off) % 3600 / 60 != 0) = false:=by rw [h3];rfl
    clear h3 h4 HT H2 H3;go_enter Tryz.func143,Tryz.ntmps143;go_wp2_with fail;refine (H1.out _).mono ?_;rintro e w1 ⟨rfl,hb1⟩;go_wp2_with fail;go_ret;exact ⟨by rw [HV.out];rfl,hb1⟩
   ·have HV:=Lib.hid (show offB off = ⟨#[45]⟩ ++ twoB ((-off) / 3600) ++ twoB ((-off) % 3600 / 60) by unfold offB offN;rw [if_pos hn,if_pos (by omega),if_neg (by omega),← ByteArray.append_assoc,← ByteArray.append_assoc];exact ByteArray.append_empty);have g3:((-off) % 3600 / 60 != 0) = true:=by simpa using h3
    clear h3 h4 HT H3;go_enter Tryz.func143,Tryz.ntmps143;go_wp2_with fail;refine (H1.out _).mono ?_;rintro e w1 ⟨rfl,hb1⟩;go_wp2_with fail;refine (H2.out _).mono ?_;rintro e w2 ⟨rfl,hb2⟩;go_wp2_with fail;go_ret;exact ⟨by rw [HV.out];rfl,hb1.trans (hb2.mono hb1.size)⟩
  ·have HV:=Lib.hid (show offB off = ⟨#[45]⟩ ++ twoB ((-off) / 3600) ++ twoB ((-off) % 3600 / 60) ++ twoB ((-off) % 60) by unfold offB offN;rw [if_pos hn,if_pos (by omega),if_pos (by omega),← ByteArray.append_assoc,← ByteArray.append_assoc]);have g4:((-off) % 60 != 0) = true:=by simpa using h4
   clear h4 HT;go_enter Tryz.func143,Tryz.ntmps143;go_wp2_with fail;refine (H1.out _).mono ?_;rintro e w1 ⟨rfl,hb1⟩;go_wp2_with fail;refine (H2.out _).mono ?_;rintro e w2 ⟨rfl,hb2⟩;go_wp2_with fail;refine (H3.out _).mono ?_;rintro e w3 ⟨rfl,hb3⟩;go_wp2_with fail;go_ret;exact ⟨by rw [HV.out];rfl,(hb1.trans (hb2.mono hb1.size)).trans (hb3.mono (Nat.le_trans hb1.size hb2.size))⟩
 ·have hd3:decide (off < 0) = false:=decide_eq_false hn;have e3:(off).tdiv 3600 = (off) / 3600:=by rw [Int.tdiv_eq_ediv_of_nonneg (by omega)]
  have e4:(off).tdiv 60 = (off) / 60:=by rw [Int.tdiv_eq_ediv_of_nonneg (by omega)]
  have e5:(off) / 60 - 60 * ((off) / 3600) = (off) % 3600 / 60:=by omega
  have e6:(off) - 3600 * ((off) / 3600) - 60 * ((off) % 3600 / 60) = (off) % 60:=by omega
  have H1:=Lib.hid (HT.out ((off) / 3600) (by omega) (by omega));have H2:=Lib.hid (HT.out ((off) % 3600 / 60) (by omega) (by omega));have H3:=Lib.hid (HT.out ((off) % 60) (by omega) (by omega));have s1:(twoB ((off) / 3600)).size = 2:=rfl;have s2:(twoB ((off) % 3600 / 60)).size = 2:=rfl;have s3:(twoB ((off) % 60)).size = 2:=rfl;have b1:0 ≤ (off) / 3600∧(off) / 3600 < 100:=by omega
  have b2:0 ≤ (off) % 3600 / 60∧(off) % 3600 / 60 < 60:=by omega
  have b3:0 ≤ (off) % 60∧(off) % 60 < 60:=by omega
  have b4:0 ≤ (off) / 60∧(off) / 60 < 6000:=by omega
  have b5:0 ≤ 60 * ((off) / 3600)∧60 * ((off) / 3600) < 6000:=by omega
  have b6:0 ≤ 3600 * ((off) / 3600)∧3600 * ((off) / 3600) ≤ (off):=by omega
  have b7:0 ≤ 60 * ((off) % 3600 / 60)∧60 * ((off) % 3600 / 60) < 3600:=by omega
  by_cases h4:(off) % 60 = 0
  ·have g4:((off) % 60 != 0) = false:=by rw [h4];rfl
   by_cases h3:(off) % 3600 / 60 = 0
   ·have HV:=Lib.hid (show offB off = ⟨#[43]⟩ ++ twoB ((off) / 3600) by unfold offB offN;rw [if_neg hn,if_neg (by omega),if_neg (by omega),show (⟨#[]⟩:ByteArray) = ByteArray.empty from rfl,ByteArray.append_empty,ByteArray.append_empty]);have g3:((off) % 3600 / 60 != 0) = false:=by rw [h3];rfl
    clear h3 h4 HT H2 H3;go_enter Tryz.func143,Tryz.ntmps143;go_wp2_with fail;refine (H1.out _).mono ?_;rintro e w1 ⟨rfl,hb1⟩;go_wp2_with fail;go_ret;exact ⟨by rw [HV.out];rfl,hb1⟩
   ·have HV:=Lib.hid (show offB off = ⟨#[43]⟩ ++ twoB ((off) / 3600) ++ twoB ((off) % 3600 / 60) by unfold offB offN;rw [if_neg hn,if_pos (by omega),if_neg (by omega),← ByteArray.append_assoc,← ByteArray.append_assoc];exact ByteArray.append_empty);have g3:((off) % 3600 / 60 != 0) = true:=by simpa using h3
    clear h3 h4 HT H3;go_enter Tryz.func143,Tryz.ntmps143;go_wp2_with fail;refine (H1.out _).mono ?_;rintro e w1 ⟨rfl,hb1⟩;go_wp2_with fail;refine (H2.out _).mono ?_;rintro e w2 ⟨rfl,hb2⟩;go_wp2_with fail;go_ret;exact ⟨by rw [HV.out];rfl,hb1.trans (hb2.mono hb1.size)⟩
  ·have HV:=Lib.hid (show offB off = ⟨#[43]⟩ ++ twoB ((off) / 3600) ++ twoB ((off) % 3600 / 60) ++ twoB ((off) % 60) by unfold offB offN;rw [if_neg hn,if_pos (by omega),if_pos (by omega),← ByteArray.append_assoc,← ByteArray.append_assoc]);have g4:((off) % 60 != 0) = true:=by simpa using h4
   clear h4 HT;go_enter Tryz.func143,Tryz.ntmps143;go_wp2_with fail;refine (H1.out _).mono ?_;rintro e w1 ⟨rfl,hb1⟩;go_wp2_with fail;refine (H2.out _).mono ?_;rintro e w2 ⟨rfl,hb2⟩;go_wp2_with fail;refine (H3.out _).mono ?_;rintro e w3 ⟨rfl,hb3⟩;go_wp2_with fail;go_ret;exact ⟨by rw [HV.out];rfl,(hb1.trans (hb2.mono hb1.size)).trans (hb3.mono (Nat.le_trans hb1.size hb2.size))⟩
end
section -- ARefU
open Go Go.RowKit Go.Shelf
theorem bytes_ext {a b:ByteArray} (h:a.data.toList = b.data.toList):a = b:=by
 obtain ⟨⟨x⟩⟩:=a;obtain ⟨⟨y⟩⟩:=b;simp at h;rw [h]
theorem repB_at {f m new:ByteArray} {i:Nat} (hi:Lib.index f.data.toList m.data.toList = i) (hf:f.data.toList = f.data.toList.take i ++ m.data.toList ++ f.data.toList.drop (i + m.data.toList.length)) :
  repB f m new = f.extract 0 i ++ new ++ f.extract (i + m.data.toList.length) f.size:=by
 apply bytes_ext;unfold repB;rw [Go.Joins.data_append,Go.Joins.data_append,Go.Lib.Pa.extract_upto_list,Lib.extract_to_end]
 show Lib.replace _ _ _ 1 = _
 by_cases hm:m.data.toList = new.data.toList
 ·unfold Lib.replace;rw [if_pos (by simpa using hm),← hm];exact hf
 ·exact rep_at hm hi
theorem cut_at {f:ByteArray} {i:Nat} (hi:Lib.index f.data.toList [47] = i):(⟨(Lib.cut f.data.toList [47]).1.toArray⟩:ByteArray) = f.extract 0 i∧(⟨(Lib.cut f.data.toList [47]).2.1.toArray⟩:ByteArray) = f.extract (i + 1) f.size:=by
 unfold Lib.cut;rw [if_pos (by rw [hi];omega),hi]
 constructor
 ·apply bytes_ext;rw [Go.Lib.Pa.extract_upto_list]
  rfl
 ·apply bytes_ext;rw [Lib.extract_to_end]
  rfl
theorem rshow_any (f:ByteArray) (off:Int) (dst:Bool) (letter:ByteArray) (w:World) (hs:f.size < 4294967281) (hl:letter.size ≤ 140737488351232) :
  Calls Tryz.prog 115 #[.string f,.int .i64 off,.bool dst,.string letter] w fun o w'=>o = .returned (.tuple #[.string (showV f off dst letter).1,.bool (decide ((showV f off dst letter).2 = 0))])∧Below w.heap.size w w':=by
 have HK:=Lib.hid (rkind_any f w hs);have hlen:f.data.toList.length = f.size:=Array.length_toList
 rcases refK_of f.data.toList with ⟨h1,h2⟩ | ⟨k,at_,h1,h2,h3⟩
 ·have e:showV f off dst letter = (⟨#[]⟩,12):=by unfold showV;rw [h1,if_neg (by decide)]
  rw [e];rw [h2] at HK;clear h1 h2 e;go_enter Tryz.func115,Tryz.ntmps115;go_wp2_with fail;refine HK.out.mono ?_;rintro e w1 ⟨rfl,rfl⟩;go_wp2_with fail;go_ret2;exact ⟨rfl,Below.refl _ _⟩
 ·rw [h2] at HK
  rcases h3 with ⟨rfl,rfl⟩ | ⟨k1,k3,hf,hi,hle⟩
  ·have e:showV f off dst letter = (f,0):=by unfold showV;rw [h1];rfl
   rw [e];clear h1 h2 e;go_enter Tryz.func115,Tryz.ntmps115;go_wp2_with fail;refine HK.out.mono ?_;rintro e w1 ⟨rfl,rfl⟩;go_wp2_with fail;go_ret2;exact ⟨rfl,Below.refl _ _⟩
  ·rcases (show k = 1∨k = 2∨k = 3 by omega) with rfl | rfl | rfl
   ·have hle2:at_ + 2 ≤ f.size:=by rw [← hlen];exact hle
    have e:showV f off dst letter = (f.extract 0 at_ ++ letter ++ f.extract (at_ + 2) f.size,0):=by
     unfold showV;rw [h1];exact congrArg (fun x=>(x,(0:Int))) (repB_at (m:=⟨#[37,115]⟩) hi hf)
    rw [e];have z1:(f.extract 0 at_).size ≤ 4294967281:=by rw [ByteArray.size_extract];omega
    have z2:(f.extract (at_ + 2) f.size).size ≤ 4294967281:=by rw [ByteArray.size_extract];omega
    clear h1 h2 e hf hi hle;go_enter Tryz.func115,Tryz.ntmps115;go_wp2_with fail;refine HK.out.mono ?_;rintro e w1 ⟨rfl,rfl⟩;go_wp2_with fail;have e2:((at_:Int) + 2).toNat = at_ + 2:=by omega
    refine wp_env (fin:=?fna) (by kernel_rfl) [23,24,25,26,27,28,29,30,31,32,8,9]
     [.string f,.int .i64 at_,.string (f.extract 0 at_),.string letter,.string (f.extract 0 at_ ++ letter),.string f,.int .i64 at_,.int .i64 ((at_:Int) + 2),.string (f.extract (at_ + 2) f.size),.string (f.extract 0 at_ ++ letter ++ f.extract (at_ + 2) f.size),.string (f.extract 0 at_ ++ letter ++ f.extract (at_ + 2) f.size),.bool true] (by kernel_rfl) ?fina ?stepsa ?nexta
    case fina =>
     simp only [putAll,Act.put,List.setIfInBounds_toArray,List.set_cons_succ,List.set_cons_zero]
     rfl
    case stepsa =>
     refine ⟨?_,?_,?_,?_,?_,?_,?_,?_,?_,?_,?_,?_,trivial⟩
     all_goals refine .inr ⟨by kernel_rfl,fun w1_ hB_=>?_⟩
     all_goals
      skip
      go_simp
      first
       | exact ⟨rfl,Below.refl _ _⟩
       | (rw [if_neg (by omega)];exact ⟨rfl,Below.refl _ _⟩)
       | ((first | rw [decide_eq_true (by omega)] | rw [decide_eq_false (by omega)] | rw [if_pos (by omega)] | rw [IntWalk.i64_in _ (by omega)]);exact ⟨rfl,Below.refl _ _⟩)
       | done
    case nexta =>
    intro w2 hb2;go_wp2_with fail;go_ret2;exact ⟨rfl,hb2⟩
   ·have hle2:at_ + 2 ≤ f.size:=by rw [← hlen];exact hle
    by_cases hr:-360000 < off∧off < 360000
    ·have e:showV f off dst letter = (f.extract 0 at_ ++ offB off ++ f.extract (at_ + 2) f.size,0):=by
      unfold showV;simp only [h1];rw [if_pos trivial,if_neg (by decide),if_pos trivial,if_pos hr];exact congrArg (fun x=>(x,(0:Int))) (repB_at (m:=⟨#[37,122]⟩) hi hf)
     rw [e];have z1:(f.extract 0 at_).size ≤ 4294967281:=by rw [ByteArray.size_extract];omega
     have z2:(f.extract (at_ + 2) f.size).size ≤ 4294967281:=by rw [ByteArray.size_extract];omega
     have z3:=offB_size off;have HO:=Lib.hid (fun W=>roff_any off hr W);have d1:decide (off ≤ -360000) = false:=decide_eq_false (by omega);have d2:decide (360000 ≤ off) = false:=decide_eq_false (by omega);clear h1 h2 e hf hi hle;generalize offB off = ob at *;go_enter Tryz.func115,Tryz.ntmps115;go_wp2_with fail;refine HK.out.mono ?_;rintro e w1 ⟨rfl,rfl⟩;go_wp2_with fail;have e2:((at_:Int) + 2).toNat = at_ + 2:=by omega
     refine wp_env (fin:=?fnb) (by kernel_rfl) [41,42,43,44,45,46,47,48,49,50,51,8,9]
      [.string f,.int .i64 at_,.string (f.extract 0 at_),.int .i64 off,.string ob,.string (f.extract 0 at_ ++ ob),.string f,.int .i64 at_,.int .i64 ((at_:Int) + 2),.string (f.extract (at_ + 2) f.size),.string (f.extract 0 at_ ++ ob ++ f.extract (at_ + 2) f.size),.string (f.extract 0 at_ ++ ob ++ f.extract (at_ + 2) f.size),.bool true] (by kernel_rfl) ?finb ?stepsb ?nextb
     case finb =>
      simp only [putAll,Act.put,List.setIfInBounds_toArray,List.set_cons_succ,List.set_cons_zero]
      rfl
     case stepsb =>
      refine ⟨?_,?_,?_,?_,?_,?_,?_,?_,?_,?_,?_,?_,?_,trivial⟩
      all_goals refine .inr ⟨by kernel_rfl,fun w1_ hB_=>?_⟩
      all_goals
       skip
       go_simp
       first
        | exact ⟨rfl,Below.refl _ _⟩
        | (rw [if_neg (by omega)];exact ⟨rfl,Below.refl _ _⟩)
        | exact ⟨rfl,HO.out w1_⟩
        | ((first | rw [decide_eq_true (by omega)] | rw [decide_eq_false (by omega)] | rw [if_pos (by omega)] | rw [IntWalk.i64_in _ (by omega)]);exact ⟨rfl,Below.refl _ _⟩)
        | done
     case nextb =>
     intro w2 hb2;go_wp2_with fail;go_ret2;exact ⟨rfl,hb2⟩
    ·have e:showV f off dst letter = (⟨#[]⟩,10):=by
      unfold showV;simp only [h1];rw [if_pos trivial,if_neg (by decide),if_pos trivial,if_neg hr]
     rw [e];clear h1 h2 e hf hi hle
     by_cases hr1:off ≤ -360000
     ·have d1:decide (off ≤ -360000) = true:=decide_eq_true hr1;have d2:decide (360000 ≤ off) = false:=decide_eq_false (by omega);go_enter Tryz.func115,Tryz.ntmps115;go_wp2_with fail;refine HK.out.mono ?_;rintro e w1 ⟨rfl,rfl⟩;go_wp2_with fail;go_ret2;exact ⟨rfl,Below.refl _ _⟩
     ·have d1:decide (off ≤ -360000) = false:=decide_eq_false hr1;have d2:decide (360000 ≤ off) = true:=decide_eq_true (by omega);go_enter Tryz.func115,Tryz.ntmps115;go_wp2_with fail;refine HK.out.mono ?_;rintro e w1 ⟨rfl,rfl⟩;go_wp2_with fail;go_ret2;exact ⟨rfl,Below.refl _ _⟩
   ·have hle2:at_ + 1 ≤ f.size:=by rw [← hlen];exact hle
    have e2:((at_:Int) + 1).toNat = at_ + 1:=by omega
    obtain ⟨q1,q2⟩:=cut_at (f:=f) hi
    cases dst with
    | true =>
      have e:showV f off true letter = (f.extract (at_ + 1) f.size,0):=by
       unfold showV;simp only [h1];rw [if_pos trivial,if_neg (by decide),if_neg (by decide),if_pos trivial,if_pos trivial,q2]
      rw [e];clear h1 h2 e hf hi hle q1 q2;go_enter Tryz.func115,Tryz.ntmps115;go_wp2_with fail;refine HK.out.mono ?_;rintro e w1 ⟨rfl,rfl⟩;go_wp2_with fail;go_ret2;exact ⟨rfl,Below.refl _ _⟩
    | false =>
      have e:showV f off false letter = (f.extract 0 at_,0):=by
       unfold showV;simp only [h1];rw [if_pos trivial,if_neg (by decide),if_neg (by decide),if_pos trivial,if_neg (by decide),q1]
      rw [e];clear h1 h2 e hf hi hle q1 q2;go_enter Tryz.func115,Tryz.ntmps115;go_wp2_with fail;refine HK.out.mono ?_;rintro e w1 ⟨rfl,rfl⟩;go_wp2_with fail;go_ret2;exact ⟨rfl,Below.refl _ _⟩
end
section -- FSmall
open Go Go.RowKit Go.Shelf
def smallR (r:Rul):Bool:=decide (1900 ≤ r.from_∧r.from_ ≤ 2100∧r.from_ ≤ r.to_∧1 ≤ r.month∧r.month ≤ 12∧-172800 ≤ r.sec∧r.sec ≤ 259200∧0 ≤ r.kind∧r.kind ≤ 2) && dayOkB r.dk r.dw r.dn
def smallB (l:List Rul):Bool:=l.all smallR && decide (l.length ≤ 6)
theorem small_no {l:List Rul} {k:Nat} (hk:k < l.length) (h:smallR l[k] = false):smallB l = false:=by
 unfold smallB;rw [Bool.and_eq_false_iff]
 left
 rw [List.all_eq_false];exact ⟨l[k],List.getElem_mem hk,by rw [h];decide⟩
theorem small_yes {l:List Rul} (h:∀ k (hk:k < l.length),smallR l[k] = true):smallB l = decide (l.length ≤ 6):=by
 unfold smallB;rw [List.all_eq_true.2 (fun r hr=>by obtain ⟨k,hk,rfl⟩:=List.getElem_of_mem hr;exact h k hk),Bool.true_and]
theorem small_any (w:World) (B:Nat) (v:Value) (l:List Rul) (hv:Ruls w B v l) (hB:B ≤ w.heap.size) :
  Calls Tryz.prog 83 #[v] w fun e w'=>e = .returned (.bool (smallB l))∧Below w.heap.size w w':=by
 obtain ⟨A,c,rfl,hlc,hcm⟩:=hv.form;unfold maxLen at hcm;have HV:=Lib.hid hv;clear hv;go_enter Tryz.func83,Tryz.ntmps83;go_wp2_with fail
 go_loopw [3] (fun iv wr=>∃ k:Nat,k ≤ l.length∧iv = .int .i64 k∧(∀ j (hj:j < l.length),j < k→smallR l[j] = true)∧Below w.heap.size w wr) (fun iv _=>l.length - (intOf iv).toNat)
 case atStart=>exact ⟨0,Nat.zero_le _,rfl,fun j _ h=>by omega,Below.refl _ _⟩
 case round =>
  obtain ⟨k,hk,rfl,hsm,hbw⟩:=hrel;have HSM:=Lib.hid hsm;have HBW:=Lib.hid hbw;have hws:=hbw.size;clear hsm hbw
  by_cases hlt:k < l.length
  ·have hd:decide ((k:Int) < (l.length:Int)) = true:=decide_eq_true (by omega);obtain ⟨bb,o,c',e,hbb,hc⟩:=(HV.out.below (HBW.out.mono hB)).cells (by omega)
   cases e
   obtain ⟨c0,c1,c2,c3,c4,c5,c6,c7,c8,c9,c10⟩:=hc k hlt;have HNO:=Lib.hid (small_no hlt)
   have HYES:=Lib.hid (fun (h:smallR l[k] = true)=>show ∀ j (hj:j < l.length),j < k + 1→smallR l[j] = true from fun j hj hjk=>by
    rcases Nat.lt_or_ge j k with h1 | h1
    ·exact HSM.out j hj h1
    ·have:j = k:=by omega
     subst this
     exact h)
   obtain ⟨r,hr⟩:∃ r,l[k] = r:=⟨_,rfl⟩;rw [hr] at c0 c1 c2 c3 c4 c5 c6 c7 c8 c9 c10 HNO HYES;have HDF:=Lib.hid (dfcheck_any r.dk r.dw r.dn (wr.alloc (.cells #[.string r.name,.int .i64 r.from_,.int .i64 r.to_,.int .i64 r.month,.int .i64 r.dk,.int .i64 r.dw,.int .i64 r.dn,.int .i64 r.sec,.int .i64 r.kind,.int .i64 r.save,.string r.letter] 106)));unfold dayA at HDF;clear hr hc;have hc:True:=trivial
   by_cases h1:r.from_ < 1900
   ·
    have HS:=Lib.hid (HNO.out (by unfold smallR;simp only [Bool.and_eq_false_iff,decide_eq_false_iff_not];left;omega));clear hc;go_wp2_with fail;go_ret;exact ⟨by rw [HS.out];rfl,HBW.out.alloc hws _⟩
   ·by_cases h2:2100 < r.from_
    ·
     have HS:=Lib.hid (HNO.out (by unfold smallR;simp only [Bool.and_eq_false_iff,decide_eq_false_iff_not];left;omega));clear hc;go_wp2_with fail;go_ret;exact ⟨by rw [HS.out];rfl,HBW.out.alloc hws _⟩
    ·by_cases h3:r.to_ < r.from_
     ·
      have HS:=Lib.hid (HNO.out (by unfold smallR;simp only [Bool.and_eq_false_iff,decide_eq_false_iff_not];left;omega));clear hc;go_wp2_with fail;go_ret;exact ⟨by rw [HS.out];rfl,HBW.out.alloc hws _⟩
     ·by_cases h4:r.month < 1
      ·
       have HS:=Lib.hid (HNO.out (by unfold smallR;simp only [Bool.and_eq_false_iff,decide_eq_false_iff_not];left;omega));clear hc;go_wp2_with fail;go_ret;exact ⟨by rw [HS.out];rfl,HBW.out.alloc hws _⟩
      ·by_cases h5:12 < r.month
       ·
        have HS:=Lib.hid (HNO.out (by unfold smallR;simp only [Bool.and_eq_false_iff,decide_eq_false_iff_not];left;omega));clear hc;go_wp2_with fail;go_ret;exact ⟨by rw [HS.out];rfl,HBW.out.alloc hws _⟩
       ·by_cases h6:r.sec < -172800
        ·
         have HS:=Lib.hid (HNO.out (by unfold smallR;simp only [Bool.and_eq_false_iff,decide_eq_false_iff_not];left;omega));clear hc;go_wp2_with fail;go_ret;exact ⟨by rw [HS.out];rfl,HBW.out.alloc hws _⟩
        ·by_cases h7:259200 < r.sec
         ·
          have HS:=Lib.hid (HNO.out (by unfold smallR;simp only [Bool.and_eq_false_iff,decide_eq_false_iff_not];left;omega));clear hc;go_wp2_with fail;go_ret;exact ⟨by rw [HS.out];rfl,HBW.out.alloc hws _⟩
         ·by_cases h8:r.kind < 0
          ·
           have HS:=Lib.hid (HNO.out (by unfold smallR;simp only [Bool.and_eq_false_iff,decide_eq_false_iff_not];left;omega));clear hc;go_wp2_with fail;go_ret;exact ⟨by rw [HS.out];rfl,HBW.out.alloc hws _⟩
          ·by_cases h9:2 < r.kind
           ·
            have HS:=Lib.hid (HNO.out (by unfold smallR;simp only [Bool.and_eq_false_iff,decide_eq_false_iff_not];left;omega));clear hc;go_wp2_with fail;go_ret;exact ⟨by rw [HS.out];rfl,HBW.out.alloc hws _⟩
           ·have HR0:=Lib.hid (show decide (1900 ≤ r.from_∧r.from_ ≤ 2100∧r.from_ ≤ r.to_∧1 ≤ r.month∧r.month ≤ 12∧-172800 ≤ r.sec∧r.sec ≤ 259200∧0 ≤ r.kind∧r.kind ≤ 2) = true by rw [decide_eq_true_eq];omega)
            cases hok:dayOkB r.dk r.dw r.dn with
            | false =>
              have HS:=Lib.hid (HNO.out (by unfold smallR;rw [hok,Bool.and_false]));rw [hok] at HDF;simp only [Bool.false_eq_true,if_false] at HDF;clear hok;go_wp2_with fail;refine HDF.out.mono ?_;rintro e w2 ⟨rfl,hb⟩;have HB2:=Lib.hid ((HBW.out.alloc hws _).trans (hb.mono (by simp;omega)));clear hb;go_wp2_with fail;go_ret;exact ⟨by rw [HS.out];rfl,HB2.out⟩
            | true =>
              have HS:=Lib.hid (HYES.out (by unfold smallR;rw [hok,HR0.out];rfl));rw [hok] at HDF;simp only [if_true] at HDF;clear hok;go_wp2_with fail;refine HDF.out.mono ?_;rintro e w2 ⟨rfl,hb⟩;have HB2:=Lib.hid ((HBW.out.alloc hws _).trans (hb.mono (by simp;omega)));clear hb;go_wp2_with fail;go_roundw
              case rel=>exact ⟨k + 1,by omega,by go_num,HS.out,HB2.out⟩
              case measure=>first | (simp [intOf];done) | (simp [intOf];omega)
  ·obtain rfl:k = l.length:=by omega
   have HS:=Lib.hid (small_yes (fun k hk=>HSM.out k hk hk))
   by_cases h6:l.length ≤ 6
   ·rw [decide_eq_true h6] at HS;go_wp2_with fail;go_ret;exact ⟨by rw [HS.out];simp;omega,HBW.out⟩
   ·rw [decide_eq_false h6] at HS;go_wp2_with fail;go_ret;exact ⟨by rw [HS.out];simp;omega,HBW.out⟩
end
section -- PMath
open Go Go.RowKit Go.Shelf
def tryY (r:Rul) (st:Int) (may:Fir→Bool):Nat→Int→Option Fir
 | 0,_=>none
 | n + 1,y=>if ofB r y && may (firOf r y) then some (firOf r y) else tryY r st may n (y + st)
def pickS (better:Fir→Fir→Bool) (o c:Option Fir):Option Fir :=
 match c with
 | none=>o
 | some f=>match o with
   | none=>some f
   | some x=>if better f x then some f else some x
def pickV (l:List Rul) (yr:Rul→Int) (st:Int) (better:Fir→Fir→Bool) (may:Fir→Bool):Option Fir :=
 l.foldl (fun o r=>pickS better o (tryY r st may 12 (yr r))) none
theorem pickV_snoc (l:List Rul) (r:Rul) (yr:Rul→Int) (st:Int) (better:Fir→Fir→Bool) (may:Fir→Bool) :
  pickV (l ++ [r]) yr st better may = pickS better (pickV l yr st better may) (tryY r st may 12 (yr r)):=by
 unfold pickV;rw [List.foldl_append]
 rfl
theorem pickV_next {l:List Rul} {k:Nat} (hk:k < l.length) (yr:Rul→Int) (st:Int) (better:Fir→Fir→Bool) (may:Fir→Bool) :
  pickV (l.take (k + 1)) yr st better may = pickS better (pickV (l.take k) yr st better may) (tryY l[k] st may 12 (yr l[k])):=by
 rw [List.take_add_one,List.getElem?_eq_getElem hk];exact pickV_snoc _ _ _ _ _ _
def secYear (s:Int):Int:=if ofInB (s / 86400) then ofYear (s / 86400) else 0
def geB (a b:Fir):Bool:=decide (b.nominal ≤ a.nominal)
def ltB (a b:Fir):Bool:=decide (a.nominal < b.nominal)
def underB (s:Int) (f:Fir):Bool:=decide (f.nominal < s)
def atB (s:Int) (f:Fir):Bool:=decide (s ≤ f.nominal)
def aheadF (l:List Rul) (s:Int):Option Fir:=pickV l (fun r=>min r.to_ (secYear s + 1)) (-1) geB (underB s)
def behindF (l:List Rul) (s:Int):Option Fir:=pickV l (fun r=>max r.from_ (secYear s - 1)) 1 ltB (atB s)
def saveO (o:Option Fir):Int:=match o with | some x=>x.save | none=>0
def savedF (l:List Rul) (f:Fir):Int:=saveO (aheadF l f.nominal)
def instF (f:Fir) (off save:Int):Int:=if f.kind = 2 then f.nominal else if f.kind = 1 then f.nominal - off else f.nominal - off - save
def backF (l:List Rul) (off i:Int):Nat→Option Fir→Option Fir
 | 0,o=>o
 | _ + 1,none=>none
 | n + 1,some f=>if i < instF f off (savedF l f) then backF l off i n (aheadF l f.nominal) else some f
def farN:Int:=5000000000000
def latestF (l:List Rul) (off i:Int):Option Fir:=backF l off i ((i + 180001) + farN).toNat (aheadF l (i + 180001))
def firedN (l:List Rul) (off fr to:Int):Nat→Option Fir→List (Int × Fir)
 | 0,_=>[]
 | _ + 1,none=>[]
 | n + 1,some f=>if f.nominal ≤ to + 180000 then
    (if instF f off (savedF l f) ≤ fr∨to < instF f off (savedF l f) then firedN l off fr to n (behindF l (f.nominal + 1))
      else (instF f off (savedF l f),f) :: firedN l off fr to n (behindF l (f.nominal + 1)))
   else []
def firedF (l:List Rul) (off fr to:Int):List (Int × Fir):=firedN l off fr to (to + 180001 + farN).toNat (behindF l (fr - 180000))
theorem tryY_some {r:Rul} {st:Int} {may:Fir→Bool}:∀ {n:Nat} {y:Int} {f:Fir},tryY r st may n y = some f→∃ j:Nat,j < n∧f = firOf r (y + st * j)∧ofB r (y + st * j) = true∧may f = true∧∀ i:Nat,i < j→¬ (ofB r (y + st * i) = true∧may (firOf r (y + st * i)) = true)
 | 0,y,f,h=>by cases h
 | n + 1,y,f,h=>by
   unfold tryY at h
   by_cases hc:(ofB r y && may (firOf r y)) = true
   ·rw [if_pos hc] at h
    cases h
    rw [Bool.and_eq_true] at hc;exact ⟨0,by omega,by simp,by simpa using hc.1,hc.2,fun i hi=>absurd hi (by omega)⟩
   ·rw [if_neg hc] at h;obtain ⟨j,hj,rfl,h1,h2,h3⟩:=tryY_some h;have e:∀ k:Nat,y + st + st * (k:Int) = y + st * ((k + 1:Nat):Int):=fun k=>by push_cast;rw [Int.mul_add];omega
    refine ⟨j + 1,by omega,by rw [← e],by rw [← e];exact h1,h2,fun i hi=>?_⟩
    rcases i with _ | i
    ·intro ⟨g1,g2⟩;apply hc;rw [Bool.and_eq_true];simp at g1 g2;exact ⟨g1,g2⟩
    ·rw [← e];exact h3 i (by omega)
theorem tryY_none {r:Rul} {st:Int} {may:Fir→Bool}:∀ {n:Nat} {y:Int},tryY r st may n y = none→∀ i:Nat,i < n→¬ (ofB r (y + st * i) = true∧may (firOf r (y + st * i)) = true)
 | 0,y,h,i,hi=>absurd hi (by omega)
 | n + 1,y,h,i,hi=>by
   unfold tryY at h
   by_cases hc:(ofB r y && may (firOf r y)) = true
   ·rw [if_pos hc] at h
    cases h
   ·rw [if_neg hc] at h;have e:∀ k:Nat,y + st + st * (k:Int) = y + st * ((k + 1:Nat):Int):=fun k=>by push_cast;rw [Int.mul_add];omega
    rcases i with _ | i
    ·intro ⟨g1,g2⟩;apply hc;rw [Bool.and_eq_true];simp at g1 g2;exact ⟨g1,g2⟩
    ·rw [← e];exact tryY_none h i (by omega)
theorem of_month {r:Rul} {y:Int} (h:ofB r y = true):-100000 ≤ y∧y ≤ 100000∧1 ≤ r.month∧r.month ≤ 12∧r.from_ ≤ y∧y ≤ r.to_∧dayOkB r.dk r.dw r.dn = true∧r.dn ≤ lenV y r.month∧-604800 < r.sec∧r.sec < 604800:=by
 unfold ofB inOkB inB ymB mayB at h;simp only [Bool.and_eq_true,decide_eq_true_eq] at h;obtain ⟨⟨h1,h2⟩,⟨⟨⟨h3,h4⟩,h5⟩,-⟩,h7,h8⟩:=h;exact ⟨h4.1,h4.2.1,h4.2.2.1,h4.2.2.2,h1,h2,h3,h5,h7,h8⟩
theorem day_ok {k wk n:Int} (h:dayOkB k wk n = true):0 ≤ k∧k ≤ 3∧0 ≤ wk∧wk ≤ 6∧0 ≤ n∧n ≤ 31∧(k ≠ 1→1 ≤ n):=by
 unfold dayOkB at h;simp at h;omega
theorem inDay_in {k wk n y m:Int} (hok:dayOkB k wk n = true) (h1:1 ≤ m) (h2:m ≤ 12) (hn:n ≤ lenV y m):yearV y - 6 ≤ inDay k wk n y m∧inDay k wk n y m ≤ yearV y + 371 + leapsV y∧inDay k wk n y m ≤ yearV (y + 1) + 6:=by
 obtain ⟨k1,k2,w1,w2,n1,n2,hn1⟩:=day_ok hok;have e:=yearV_next y;have hl:=leapsV_in y;have hlen:=lenV_in (y:=y) h1 h2
 have hs:startV y m + lenV y m ≤ 365 + leapsV y:=by
  by_cases hm:m = 12
  ·subst hm;rw [startV_dec];exact Int.le_refl _
  ·rw [← startV_next h1 (by omega)];have hd:=@startV_dec y;have hl2:=lenV_in (y:=y) (m:=12) (by omega) (by omega);obtain ⟨a,ha,hb⟩:=aheadV_at (m + 1) (by omega) (by omega);rw [ha];have:=startV_mono (y:=y) 11 (j:=a) (by omega) (by omega);rw [show ((11:Nat):Int) + 1 = 12 by rfl] at this;omega
 have hs0:=(startV_in y m).1;have hday:∀ d,1 ≤ d→d ≤ lenV y m→yearV y ≤ dayV y m d∧dayV y m d ≤ yearV y + 364 + leapsV y:=fun d g1 g2=>by unfold dayV;omega
 have hsk1:∀ a,a ≤ seekV a 1 wk∧seekV a 1 wk ≤ a + 6:=fun a=>by unfold seekV;rw [if_pos rfl];omega
 have hsk2:∀ a,a - 6 ≤ seekV a (-1) wk∧seekV a (-1) wk ≤ a:=fun a=>by unfold seekV;rw [if_neg (by decide)];omega
 unfold inDay
 by_cases k0:k = 0
 ·rw [if_pos k0];have:=hday n (hn1 (by omega)) hn;omega
 ·rw [if_neg k0]
  by_cases kk:k = 2
  ·rw [if_pos kk];have g:=hday n (hn1 (by omega)) hn;have:=hsk1 (dayV y m n);omega
  ·rw [if_neg kk]
   by_cases kl:k = 1
   ·rw [if_pos kl];have g:=hday (lenV y m) (by omega) (Int.le_refl _);have:=hsk2 (dayV y m (lenV y m));omega
   ·rw [if_neg kl];have g:=hday n (hn1 (by omega)) hn;have:=hsk2 (dayV y m n);omega
theorem firOf_in {r:Rul} {y:Int} (h:ofB r y = true):86400 * yearV y - 1123200 < (firOf r y).nominal∧(firOf r y).nominal < 86400 * yearV (y + 1) + 1123200:=by
 obtain ⟨-,-,m1,m2,-,-,hok,hn,s1,s2⟩:=of_month h;obtain ⟨d1,d2,d3⟩:=inDay_in (y:=y) hok m1 m2 hn;unfold firOf;simp only;omega
theorem yearV_far {a b:Int} (h:a ≤ b):yearV a + 365 * (b - a) ≤ yearV b:=by unfold yearV;omega
theorem firOf_lt {r:Rul} {y z:Int} (h:ofB r y = true) (hz:ofB r z = true) (hyz:y < z):(firOf r y).nominal < (firOf r z).nominal:=by
 obtain ⟨-,-,m1,m2,-,-,hok,hn,s1,s2⟩:=of_month h;obtain ⟨-,-,-,-,-,-,-,hn2,-,-⟩:=of_month hz;obtain ⟨k1,k2,w1,w2,n1,n2,hn1⟩:=day_ok hok;have hy:=yearV_far (show y + 1 ≤ z by omega);have e:=yearV_next y;have l1:=leapsV_in y;have l2:=leapsV_in z;have a1:∀ d,dayV y r.month d = yearV y + startV y r.month + d - 1:=fun d=>rfl
 have a2:∀ d,dayV z r.month d = yearV z + startV z r.month + d - 1:=fun d=>rfl
 have b1:startV y r.month ≤ startV z r.month + 1:=by unfold startV;split <;> omega
 have c1:lenV y r.month ≤ lenV z r.month + 1:=by unfold lenV;split <;> omega
 have hsk1:∀ a,a ≤ seekV a 1 r.dw∧seekV a 1 r.dw ≤ a + 6:=fun a=>by unfold seekV;rw [if_pos rfl];omega
 have hsk2:∀ a,a - 6 ≤ seekV a (-1) r.dw∧seekV a (-1) r.dw ≤ a:=fun a=>by unfold seekV;rw [if_neg (by decide)];omega
 have key:inDay r.dk r.dw r.dn y r.month < inDay r.dk r.dw r.dn z r.month:=by
  unfold inDay
  by_cases k0:r.dk = 0
  ·rw [if_pos k0,if_pos k0,a1,a2];omega
  ·rw [if_neg k0,if_neg k0]
   by_cases kk:r.dk = 2
   ·rw [if_pos kk,if_pos kk];have g1:=hsk1 (dayV y r.month r.dn);have g2:=hsk1 (dayV z r.month r.dn);rw [a1] at g1;rw [a2] at g2;rw [a1,a2];omega
   ·rw [if_neg kk,if_neg kk]
    by_cases kl:r.dk = 1
    ·rw [if_pos kl,if_pos kl];have g1:=hsk2 (dayV y r.month (lenV y r.month));have g2:=hsk2 (dayV z r.month (lenV z r.month));rw [a1] at g1;rw [a2] at g2;rw [a1,a2];omega
    ·rw [if_neg kl,if_neg kl];have g1:=hsk2 (dayV y r.month r.dn);have g2:=hsk2 (dayV z r.month r.dn);rw [a1] at g1;rw [a2] at g2;rw [a1,a2];omega
 unfold firOf;simp only;omega
theorem leap_near (a:Int):∃ j,a ≤ j∧j ≤ a + 7∧leapB j = true:=by
 by_cases h:(a + (-a) % 4) % 100 = 0
 ·exact ⟨a + (-a) % 4 + 4,by omega,by omega,by unfold leapB;rw [decide_eq_true_eq];omega⟩
 ·exact ⟨a + (-a) % 4,by omega,by omega,by unfold leapB;rw [decide_eq_true_eq];omega⟩
theorem of_make {r:Rul} {y:Int} (h1:-99000 ≤ y) (h2:y ≤ 90000) (h3:r.from_ ≤ y) (h4:y ≤ r.to_) (m1:1 ≤ r.month) (m2:r.month ≤ 12) (hok:dayOkB r.dk r.dw r.dn = true) (hn:r.dn ≤ lenV y r.month) (s1:-604800 < r.sec) (s2:r.sec < 604800):ofB r y = true:=by
 obtain ⟨d1,-,d3⟩:=inDay_in (y:=y) hok m1 m2 hn;have e1:=yearV_mono h1;have e2:=yearV_mono (show y + 1 ≤ 90001 by omega);have e3:yearV (-99000) = -36878535:=by decide
 have e4:yearV 90001 = 32152663:=by decide
 unfold ofB inOkB inB ymB mayB ofInB;simp only [Bool.and_eq_true,Bool.or_eq_true,decide_eq_true_eq];exact ⟨⟨h3,h4⟩,⟨⟨⟨hok,by omega,by omega,m1,m2⟩,hn⟩,.inr ⟨by omega,by omega⟩⟩,s1,s2⟩
theorem of_near {r:Rul} {z a:Int} (h:ofB r z = true) (h1:r.from_ ≤ a) (h2:a + 8 ≤ r.to_) (b1:-99000 ≤ a) (b2:a ≤ 89000):∃ j,a ≤ j∧j ≤ a + 8∧ofB r j = true:=by
 obtain ⟨-,-,m1,m2,-,-,hok,hn,s1,s2⟩:=of_month h;obtain ⟨j,j1,j2,hj⟩:=leap_near a;refine ⟨j,j1,by omega,of_make (by omega) (by omega) (by omega) (by omega) m1 m2 hok ?_ s1 s2⟩;have hl:=leapsV_in z;have hlj:leapsV j = 1:=by unfold leapsV;rw [if_pos hj]
 unfold lenV at hn ⊢
 split at hn <;> rename_i hm
 ·rw [if_pos hm];omega
 ·rw [if_neg hm];omega
theorem sec_year {s:Int} (h1:-3217862419200 ≤ s) (h2:s ≤ 2500000000000):86400 * yearV (secYear s) ≤ s∧s < 86400 * yearV (secYear s + 1)∧secYear s ≤ 82000∧-100000 ≤ secYear s:=by
 have hin:ofInB (s / 86400) = true:=by unfold ofInB;rw [decide_eq_true_eq];omega
 unfold secYear;rw [if_pos hin];have hb:=of_back (s / 86400);have hr:=of_rest (s / 86400);have hn:=yearV_next (ofYear (s / 86400));have hp:=of_parts (s / 86400);have hd:=(of_date (n:=s / 86400) (by omega) (by omega)).1;have hy:=dateB_in hd
 have hc:ofYear (s / 86400) ≤ 82000:=by
  by_cases hc:ofYear (s / 86400) ≤ 82000
  ·exact hc
  ·have e:=yearV_mono (show 82001 ≤ ofYear (s / 86400) by omega);have e2:yearV 82001 = 29230723:=by decide
   omega
 omega
structure BestO (S:Fir→Prop) (may:Fir→Bool) (le:Fir→Fir→Prop) (o:Option Fir):Prop where
 some:∀ f,o = some f→S f∧may f = true∧∀ g,S g→may g = true→le g f
 none:o = none→∀ g,S g→may g = false
theorem BestO.pick {S T:Fir→Prop} {may:Fir→Bool} {le:Fir→Fir→Prop} {better:Fir→Fir→Bool} (ht:∀ a b c,le a b→le b c→le a c) (hb1:∀ a b,better a b = true→le b a) (hb2:∀ a b,better a b = false→le a b) {o c:Option Fir} (ho:BestO S may le o) (hc:BestO T may le c) :
  BestO (fun f=>S f∨T f) may le (pickS better o c):=by
 rcases c with _ | f
 ·refine ⟨fun x hx=>?_,fun hx g hg=>?_⟩
  ·obtain ⟨a1,a2,a3⟩:=ho.some x hx;refine ⟨.inl a1,a2,fun g hg hm=>?_⟩
   rcases hg with hg | hg
   ·exact a3 g hg hm
   ·rw [hc.none rfl g hg] at hm;cases hm
  ·rcases hg with hg | hg
   ·exact ho.none hx g hg
   ·exact hc.none rfl g hg
 ·obtain ⟨c1,c2,c3⟩:=hc.some f rfl
  rcases o with _ | x
  ·refine ⟨fun y hy=>?_,fun hx=>by cases hx⟩
   cases hy
   refine ⟨.inr c1,c2,fun g hg hm=>?_⟩
   rcases hg with hg | hg
   ·rw [ho.none rfl g hg] at hm;cases hm
   ·exact c3 g hg hm
  ·obtain ⟨a1,a2,a3⟩:=ho.some x rfl;unfold pickS;simp only
   cases hbt:better f x with
   | true =>
     rw [if_pos rfl];refine ⟨fun y hy=>?_,fun hx=>by cases hx⟩
     cases hy
     refine ⟨.inr c1,c2,fun g hg hm=>?_⟩
     rcases hg with hg | hg
     ·exact ht _ _ _ (a3 g hg hm) (hb1 _ _ hbt)
     ·exact c3 g hg hm
   | false =>
     rw [if_neg (by decide)];refine ⟨fun y hy=>?_,fun hx=>by cases hx⟩
     cases hy
     refine ⟨.inl a1,a2,fun g hg hm=>?_⟩
     rcases hg with hg | hg
     ·exact a3 g hg hm
     ·exact ht _ _ _ (c3 g hg hm) (hb2 _ _ hbt)
def FireR (r:Rul) (f:Fir):Prop:=∃ y,ofB r y = true∧f = firOf r y
def Fires (l:List Rul) (f:Fir):Prop:=∃ r ∈ l,FireR r f
def okR (r:Rul):Prop:=-90000 ≤ r.from_∧r.from_ ≤ 80000
theorem pickV_best {may:Fir→Bool} {le:Fir→Fir→Prop} {better:Fir→Fir→Bool} (ht:∀ a b c,le a b→le b c→le a c) (hb1:∀ a b,better a b = true→le b a) (hb2:∀ a b,better a b = false→le a b) (yr:Rul→Int) (st:Int) :
  ∀ (l:List Rul),(∀ r ∈ l,BestO (FireR r) may le (tryY r st may 12 (yr r)))→BestO (Fires l) may le (pickV l yr st better may):=by
 have key:∀ (l l0:List Rul) (o:Option Fir),BestO (Fires l0) may le o→(∀ r ∈ l,BestO (FireR r) may le (tryY r st may 12 (yr r)))→BestO (Fires (l0 ++ l)) may le (l.foldl (fun o r=>pickS better o (tryY r st may 12 (yr r))) o):=by
  intro l
  induction l with
  | nil=>intro l0 o h _;rwa [List.append_nil]
  | cons r l ih =>
    intro l0 o h hr;have h1:=h.pick ht hb1 hb2 (hr r (by simp))
    have h0:BestO (Fires (l0 ++ [r])) may le (pickS better o (tryY r st may 12 (yr r))):=by
     refine ⟨fun f hf=>?_,fun hf g hg=>?_⟩
     ·obtain ⟨a,b,c⟩:=h1.some f hf;refine ⟨?_,b,fun g hg hm=>c g ?_ hm⟩
      ·rcases a with ⟨x,hx,hf⟩ | hf
       ·exact ⟨x,by simp [hx],hf⟩
       ·exact ⟨r,by simp,hf⟩
      ·obtain ⟨x,hx,hgx⟩:=hg
       rcases List.mem_append.1 hx with hx | hx
       ·exact .inl ⟨x,hx,hgx⟩
       ·rw [List.mem_singleton] at hx;subst hx;exact .inr hgx
     ·refine h1.none hf g ?_;obtain ⟨x,hx,hgx⟩:=hg
      rcases List.mem_append.1 hx with hx | hx
      ·exact .inl ⟨x,hx,hgx⟩
      ·rw [List.mem_singleton] at hx;subst hx;exact .inr hgx
    have h2:=ih (l0 ++ [r]) _ h0 (fun x hx=>hr x (by simp [hx]));rw [List.append_assoc] at h2;exact h2
 intro l h;have:=key l [] none ⟨fun f hf=>(by cases hf),fun _ g ⟨x,hx,_⟩=>(by cases hx)⟩ h
 rwa [List.nil_append] at this
theorem try_ahead {r:Rul} {s:Int} (h1:-3217862419200 ≤ s) (h2:s ≤ 2500000000000) (hr:okR r):BestO (FireR r) (underB s) (fun a b=>a.nominal ≤ b.nominal) (tryY r (-1) (underB s) 12 (min r.to_ (secYear s + 1))):=by
 obtain ⟨g1,g2,g3,g4⟩:=sec_year h1 h2;obtain ⟨Y,hY⟩:∃ Y,secYear s = Y:=⟨_,rfl⟩;rw [hY] at g1 g2 g3 g4 ⊢
 have top:∀ z,ofB r z = true→underB s (firOf r z) = true→z ≤ min r.to_ (Y + 1):=fun z hz hu=>by
  obtain ⟨-,-,-,-,-,z2,-⟩:=of_month hz;have hlow:=(firOf_in hz).1;unfold underB at hu;rw [decide_eq_true_eq] at hu
  by_cases hc:z ≤ Y + 1
  ·omega
  ·have:=yearV_far (show Y + 1 ≤ z by omega);omega
 obtain ⟨y0,hy0⟩:∃ y0,min r.to_ (Y + 1) = y0:=⟨_,rfl⟩;rw [hy0] at top ⊢;refine ⟨fun f hf=>?_,fun hn g hg=>?_⟩
 ·obtain ⟨j,hj,rfl,a1,a2,a3⟩:=tryY_some hf;refine ⟨⟨_,a1,rfl⟩,a2,fun g hg hm=>?_⟩;obtain ⟨z,hz,rfl⟩:=hg;have hz0:=top z hz hm
  by_cases hc:z ≤ y0 + -1 * (j:Int)
  ·by_cases he:z = y0 + -1 * (j:Int)
   ·rw [he];exact Int.le_refl _
   ·have:=firOf_lt hz a1 (by omega);omega
  ·exfalso;refine a3 (y0 - z).toNat (by omega) ?_;rw [show y0 + -1 * (((y0 - z).toNat:Nat):Int) = z by omega];exact ⟨hz,hm⟩
 ·obtain ⟨z,hz,rfl⟩:=hg
  cases hm:underB s (firOf r z) with
  | false=>rfl
  | true =>
    exfalso;have hz0:=top z hz hm;obtain ⟨-,-,-,-,z1,z2,-⟩:=of_month hz
    by_cases hc:y0 - 12 < z
    ·refine tryY_none hn (y0 - z).toNat (by omega) ?_;rw [show y0 + -1 * (((y0 - z).toNat:Nat):Int) = z by omega];exact ⟨hz,hm⟩
    ·obtain ⟨j,j1,j2,hj⟩:=of_near hz (a:=y0 - 11) (by omega) (by omega) (by have:=hr.1;omega) (by omega);refine tryY_none hn (y0 - j).toNat (by omega) ?_;rw [show y0 + -1 * (((y0 - j).toNat:Nat):Int) = j by omega];refine ⟨hj,?_⟩;have hup:=(firOf_in hj).2;have e1:=yearV_mono (show j + 1 ≤ Y - 1 by omega);have e2:=yearV_far (show Y - 1 ≤ Y by omega);unfold underB;rw [decide_eq_true_eq];omega
theorem try_behind {r:Rul} {s:Int} (h1:-3217862419200 ≤ s) (h2:s ≤ 2500000000000) (hr:okR r):BestO (FireR r) (atB s) (fun a b=>b.nominal ≤ a.nominal) (tryY r 1 (atB s) 12 (max r.from_ (secYear s - 1))):=by
 obtain ⟨g1,g2,g3,g4⟩:=sec_year h1 h2;obtain ⟨Y,hY⟩:∃ Y,secYear s = Y:=⟨_,rfl⟩;rw [hY] at g1 g2 g3 g4 ⊢
 have top:∀ z,ofB r z = true→atB s (firOf r z) = true→max r.from_ (Y - 1) ≤ z:=fun z hz hu=>by
  obtain ⟨-,-,-,-,z1,-,-⟩:=of_month hz;have hup:=(firOf_in hz).2;unfold atB at hu;rw [decide_eq_true_eq] at hu
  by_cases hc:Y - 1 ≤ z
  ·omega
  ·have e1:=yearV_mono (show z + 1 ≤ Y - 1 by omega);have e2:=yearV_far (show Y - 1 ≤ Y by omega);omega
 obtain ⟨y0,hy0⟩:∃ y0,max r.from_ (Y - 1) = y0:=⟨_,rfl⟩;rw [hy0] at top ⊢;refine ⟨fun f hf=>?_,fun hn g hg=>?_⟩
 ·obtain ⟨j,hj,rfl,a1,a2,a3⟩:=tryY_some hf;refine ⟨⟨_,a1,rfl⟩,a2,fun g hg hm=>?_⟩;obtain ⟨z,hz,rfl⟩:=hg;have hz0:=top z hz hm
  by_cases hc:y0 + 1 * (j:Int) ≤ z
  ·by_cases he:z = y0 + 1 * (j:Int)
   ·rw [he];exact Int.le_refl _
   ·have:=firOf_lt a1 hz (by omega);omega
  ·exfalso;refine a3 (z - y0).toNat (by omega) ?_;rw [show y0 + 1 * (((z - y0).toNat:Nat):Int) = z by omega];exact ⟨hz,hm⟩
 ·obtain ⟨z,hz,rfl⟩:=hg
  cases hm:atB s (firOf r z) with
  | false=>rfl
  | true =>
    exfalso;have hz0:=top z hz hm;obtain ⟨-,-,-,-,z1,z2,-⟩:=of_month hz
    by_cases hc:z < y0 + 12
    ·refine tryY_none hn (z - y0).toNat (by omega) ?_;rw [show y0 + 1 * (((z - y0).toNat:Nat):Int) = z by omega];exact ⟨hz,hm⟩
    ·obtain ⟨j,j1,j2,hj⟩:=of_near hz (a:=y0 + 3) (by omega) (by omega) (by have:=hr.1;omega) (by have:=hr.2;omega);refine tryY_none hn (j - y0).toNat (by omega) ?_;rw [show y0 + 1 * (((j - y0).toNat:Nat):Int) = j by omega];refine ⟨hj,?_⟩;have hlow:=(firOf_in hj).1;have e1:=yearV_mono (show Y + 2 ≤ j by omega);have e2:=yearV_far (show Y + 1 ≤ Y + 2 by omega);unfold atB;rw [decide_eq_true_eq];omega
theorem ahead_best {l:List Rul} {s:Int} (h1:-3217862419200 ≤ s) (h2:s ≤ 2500000000000) (hr:∀ r ∈ l,okR r):BestO (Fires l) (underB s) (fun a b=>a.nominal ≤ b.nominal) (aheadF l s):=by
 refine pickV_best (better:=geB) (le:=fun a b=>a.nominal ≤ b.nominal) (fun _ _ _ h k=>Int.le_trans h k) (fun a b h=>?_) (fun a b h=>?_) _ _ l fun r hm=>try_ahead h1 h2 (hr r hm)
 ·unfold geB at h;rw [decide_eq_true_eq] at h;exact h
 ·unfold geB at h;rw [decide_eq_false_iff_not] at h;show a.nominal ≤ b.nominal;omega
theorem behind_best {l:List Rul} {s:Int} (h1:-3217862419200 ≤ s) (h2:s ≤ 2500000000000) (hr:∀ r ∈ l,okR r):BestO (Fires l) (atB s) (fun a b=>b.nominal ≤ a.nominal) (behindF l s):=by
 refine pickV_best (better:=ltB) (le:=fun a b=>b.nominal ≤ a.nominal) (fun _ _ _ h k=>Int.le_trans k h) (fun a b h=>?_) (fun a b h=>?_) _ _ l fun r hm=>try_behind h1 h2 (hr r hm)
 ·unfold ltB at h;rw [decide_eq_true_eq] at h;show a.nominal ≤ b.nominal;omega
 ·unfold ltB at h;rw [decide_eq_false_iff_not] at h;show b.nominal ≤ a.nominal;omega
theorem pickV_mem {yr:Rul→Int} {st:Int} {better:Fir→Fir→Bool} {may:Fir→Bool}:∀ (l:List Rul) {f:Fir},pickV l yr st better may = some f→Fires l f∧may f = true:=by
 have key:∀ (l l0:List Rul) (o:Option Fir),(∀ f,o = some f→Fires l0 f∧may f = true)→∀ f,l.foldl (fun o r=>pickS better o (tryY r st may 12 (yr r))) o = some f→Fires (l0 ++ l) f∧may f = true:=by
  intro l
  induction l with
  | nil=>intro l0 o h f hf;rw [List.append_nil];exact h f hf
  | cons r l ih =>
    intro l0 o h f hf;have:=ih (l0 ++ [r]) (pickS better o (tryY r st may 12 (yr r))) (fun g hg=>?_) f hf
    ·rwa [List.append_assoc] at this
    ·unfold pickS at hg
     have hold:∀ x,o = some x→Fires (l0 ++ [r]) x∧may x = true:=fun x hx=>by
      obtain ⟨⟨a,ha,hb⟩,hc⟩:=h x hx;exact ⟨⟨a,by simp [ha],hb⟩,hc⟩
     cases hc:tryY r st may 12 (yr r) with
     | none=>rw [hc] at hg;exact hold g hg
     | some x =>
       rw [hc] at hg;obtain ⟨j,hj,rfl,h1,h2,h3⟩:=tryY_some hc;have hnew:Fires (l0 ++ [r]) (firOf r (yr r + st * j))∧may (firOf r (yr r + st * j)) = true:=⟨⟨r,by simp,_,h1,rfl⟩,h2⟩
       rcases o with _ | y
       ·cases hg;exact hnew
       ·simp only at hg
        split at hg
        ·cases hg;exact hnew
        ·cases hg;exact hold _ rfl
 intro l f hf;have:=key l [] none (fun f hf=>(by cases hf)) f hf
 rwa [List.nil_append] at this
theorem ahead_mem {l:List Rul} {s:Int} {f:Fir} (h:aheadF l s = some f):Fires l f∧f.nominal < s:=by
 obtain ⟨h1,h2⟩:=pickV_mem l h;unfold underB at h2;rw [decide_eq_true_eq] at h2;exact ⟨h1,h2⟩
theorem behind_mem {l:List Rul} {s:Int} {f:Fir} (h:behindF l s = some f):Fires l f∧s ≤ f.nominal:=by
 obtain ⟨h1,h2⟩:=pickV_mem l h;unfold atB at h2;rw [decide_eq_true_eq] at h2;exact ⟨h1,h2⟩
theorem fires_nom {l:List Rul} {f:Fir} (h:Fires l f):-4000000000000 ≤ f.nominal∧f.nominal ≤ 4000000000000:=by
 obtain ⟨r,hr,y,hy,rfl⟩:=h;obtain ⟨y1,y2,-⟩:=of_month hy;have g:=firOf_in hy;have e1:=yearV_mono y1;have e2:=yearV_mono (show y + 1 ≤ 100001 by omega);have e3:yearV (-100000) = -37243778:=by decide
 have e4:yearV 100001 = 35805088:=by decide
 omega
def svOk (l:List Rul):Prop:=∀ f,Fires l f→-1000000000000000 ≤ f.save∧f.save ≤ 1000000000000000
end
section -- PRow
open Go Go.RowKit Go.Shelf
def capN:Int:=4448390400
structure RightR (l:List Rul) (A:List Fir):Prop where
 small:∀ r ∈ l,1900 ≤ r.from_∧r.from_ ≤ 2070
 mem:∀ f,f ∈ A ↔ ∃ r ∈ l,∃ y,1890 ≤ y∧y ≤ 2110∧ofB r y = true∧f = firOf r y
 save:∀ f ∈ A,-90000 < f.save∧f.save < 90000
 kind:∀ f ∈ A,0 ≤ f.kind∧f.kind ≤ 2
 gap:∀ i (h:i + 1 < A.length),A[i].nominal + 180000 < A[i + 1].nominal
section
variable {l:List Rul} {A:List Fir}
theorem RightR.ok (h:RightR l A):∀ r ∈ l,okR r:=fun r hr=>by have:=h.small r hr;unfold okR;omega
theorem RightR.lt (h:RightR l A):∀ (d i:Nat) (hj:i + d + 1 < A.length),A[i].nominal + 180000 < A[i + d + 1].nominal
 | 0,i,hj=>h.gap i hj
 | d + 1,i,hj=>by
   have h1:=h.lt d i (by omega);have h2:=h.gap (i + d + 1) (by omega);have e:A[i + (d + 1) + 1] = A[i + d + 1 + 1]:=rfl;rw [e];omega
theorem RightR.rise (h:RightR l A) {i j:Nat} (hij:i < j) (hj:j < A.length):A[i].nominal + 180000 < A[j].nominal:=by
 obtain ⟨d,rfl⟩:∃ d,j = i + d + 1:=⟨j - i - 1,by omega⟩;exact h.lt d i hj
theorem capN_eq:capN = 86400 * yearV 2111 - 1123200:=by decide
theorem RightR.fires (h:RightR l A) {f:Fir} (hf:f ∈ A):Fires l f:=by
 obtain ⟨r,hr,y,-,-,hy,rfl⟩:=(h.mem f).1 hf;exact ⟨r,hr,y,hy,rfl⟩
theorem RightR.near (h:RightR l A) {f:Fir} (hf:Fires l f) (hn:f.nominal < capN):f ∈ A:=by
 obtain ⟨r,hr,y,hy,rfl⟩:=hf;have hs:=h.small r hr;obtain ⟨-,-,-,-,h1,-⟩:=of_month hy;refine (h.mem _).2 ⟨r,hr,y,by omega,?_,hy,rfl⟩
 by_cases hc:y ≤ 2110
 ·exact hc
 ·have e:=yearV_mono (show 2111 ≤ y by omega);have g:=(firOf_in hy).1;rw [capN_eq] at hn;omega
def Cut (A:List Fir) (key:Nat→Int) (s:Int) (k:Nat):Prop:=k ≤ A.length∧∀ j,j < A.length→(j < k ↔ key j < s)
def nomA (A:List Fir) (j:Nat):Int:=match A[j]? with | some f=>f.nominal | none=>0
theorem nomA_at {j:Nat} (h:j < A.length):nomA A j = A[j].nominal:=by unfold nomA;rw [List.getElem?_eq_getElem h]
def prevO (A:List Fir) (k:Nat):Option Fir:=if k = 0 then none else A[k - 1]?
theorem prevO_zero (A:List Fir):prevO A 0 = none:=rfl
theorem prevO_succ {k:Nat} (h:k < A.length):prevO A (k + 1) = some A[k]:=by unfold prevO;rw [if_neg (by omega)];exact List.getElem?_eq_getElem h
theorem cut_some {A:List Fir} {key:Nat→Int} (hr:∀ i j,i < j→j < A.length→key i < key j) (s:Int):∃ k,Cut A key s k:=by
 have:∀ n,n ≤ A.length→∃ k,k ≤ n∧∀ j,j < n→(j < k ↔ key j < s):=by
  intro n
  induction n with
  | zero=>exact fun _=>⟨0,Nat.le_refl _,fun j hj=>absurd hj (by omega)⟩
  | succ n ih =>
    intro hn;obtain ⟨k,hk,h⟩:=ih (by omega)
    by_cases hc:key n < s
    ·refine ⟨n + 1,Nat.le_refl _,fun j hj=>⟨fun _=>?_,fun _=>hj⟩⟩
     by_cases e:j = n
     ·subst e;exact hc
     ·have:=hr j n (by omega) (by omega);omega
    ·refine ⟨k,by omega,fun j hj=>?_⟩
     by_cases e:j = n
     ·subst e;exact ⟨fun g=>absurd g (by omega),fun g=>absurd g hc⟩
     ·exact h j (by omega)
 obtain ⟨k,hk,h⟩:=this A.length (Nat.le_refl _);exact ⟨k,hk,h⟩
theorem RightR.cut (h:RightR l A) (s:Int):∃ k,Cut A (nomA A) s k:=cut_some (fun i j hij hj=>by rw [nomA_at (by omega),nomA_at hj];have:=h.rise hij hj;omega) s
theorem ahead_row (h:RightR l A) {s:Int} {k:Nat} (hc:Cut A (nomA A) s k) (h1:-3217862419200 ≤ s) (h2:s ≤ capN):aheadF l s = prevO A k:=by
 have hb:=ahead_best h1 (show s ≤ 2500000000000 by unfold capN at h2;omega) h.ok;have hm:∀ j (hj:j < A.length),j < k ↔ A[j].nominal < s:=fun j hj=>by rw [hc.2 j hj,nomA_at hj]
 cases ho:aheadF l s with
 | none =>
   rcases k with _ | k
   ·rfl
   ·exfalso;have hk:k < A.length:=by have:=hc.1;omega
    have:=hb.none ho A[k] (h.fires (List.getElem_mem hk));unfold underB at this;rw [decide_eq_false_iff_not] at this;exact this ((hm k hk).1 (by omega))
 | some f =>
   obtain ⟨a1,a2,a3⟩:=hb.some f ho;unfold underB at a2;rw [decide_eq_true_eq] at a2;have hfA:=h.near a1 (by omega);obtain ⟨j,hj,rfl⟩:=List.getElem_of_mem hfA;have hjk:=(hm j hj).2 a2;obtain ⟨k,rfl⟩:∃ m,k = m + 1:=⟨k - 1,by omega⟩;have hk:k < A.length:=by have:=hc.1;omega
   have hle:=a3 A[k] (h.fires (List.getElem_mem hk)) (by unfold underB;rw [decide_eq_true_eq];exact (hm k hk).1 (by omega));rw [prevO_succ hk]
   by_cases e:j = k
   ·subst e;rfl
   ·have:=h.rise (show j < k by omega) hk;omega
theorem behind_row (h:RightR l A) {s:Int} {k:Nat} (hc:Cut A (nomA A) s k) (h1:-3217862419200 ≤ s) (h2:s ≤ capN) (hk:k < A.length) (hcap:A[k].nominal < capN):behindF l s = some A[k]:=by
 have hb:=behind_best h1 (show s ≤ 2500000000000 by unfold capN at h2;omega) h.ok;have hm:∀ j (hj:j < A.length),j < k ↔ A[j].nominal < s:=fun j hj=>by rw [hc.2 j hj,nomA_at hj]
 have hks:s ≤ A[k].nominal:=by have:=hm k hk;omega
 cases ho:behindF l s with
 | none =>
   exfalso;have:=hb.none ho A[k] (h.fires (List.getElem_mem hk));unfold atB at this;rw [decide_eq_false_iff_not] at this;exact this hks
 | some f =>
   obtain ⟨a1,a2,a3⟩:=hb.some f ho;have hle:=a3 A[k] (h.fires (List.getElem_mem hk)) (by unfold atB;rw [decide_eq_true_eq];exact hks);unfold atB at a2;rw [decide_eq_true_eq] at a2;obtain ⟨j,hj,rfl⟩:=List.getElem_of_mem (h.near a1 (by omega));have hjk:¬ j < k:=by have:=hm j hj;omega
   by_cases e:j = k
   ·subst e;rfl
   ·have:=h.rise (show k < j by omega) hj;omega
theorem behind_far (h:RightR l A) {s:Int} {k:Nat} (hc:Cut A (nomA A) s k) (h1:-3217862419200 ≤ s) (h2:s ≤ capN) (hcap:∀ hk:k < A.length,capN ≤ A[k].nominal) {f:Fir} (hf:behindF l s = some f):capN ≤ f.nominal:=by
 have hb:=behind_best h1 (show s ≤ 2500000000000 by unfold capN at h2;omega) h.ok;obtain ⟨a1,a2,a3⟩:=hb.some f hf;unfold atB at a2;rw [decide_eq_true_eq] at a2
 by_cases hn:f.nominal < capN
 ·obtain ⟨j,hj,rfl⟩:=List.getElem_of_mem (h.near a1 hn);have hjk:¬ j < k:=by have:=hc.2 j hj;rw [nomA_at hj] at this;omega
  have hkl:k < A.length:=by omega
  have:=hcap hkl
  by_cases e:j = k
  ·subst e;omega
  ·have:=h.rise (show k < j by omega) hj;omega
 ·omega
def instA (A:List Fir) (off:Int) (j:Nat):Int:=match A[j]? with | some f=>instF f off (saveO (prevO A j)) | none=>0
theorem instA_at {off:Int} {j:Nat} (h:j < A.length):instA A off j = instF A[j] off (saveO (prevO A j)):=by unfold instA;rw [List.getElem?_eq_getElem h]
theorem saveO_none:saveO none = 0:=rfl
theorem saveO_some (f:Fir):saveO (some f) = f.save:=rfl
theorem RightR.prev (h:RightR l A) {j:Nat} (hj:j ≤ A.length):-90000 < saveO (prevO A j)∧saveO (prevO A j) < 90000:=by
 rcases j with _ | j
 ·rw [prevO_zero,saveO_none];omega
 ·rw [prevO_succ (by omega),saveO_some];exact h.save _ (List.getElem_mem _)
theorem instF_in {f:Fir} {off sv:Int} (h1:-90000 < off∧off < 90000) (h2:-90000 < sv∧sv < 90000):f.nominal - 179998 ≤ instF f off sv∧instF f off sv ≤ f.nominal + 179998:=by
 unfold instF
 split
 ·omega
 ·split <;> omega
theorem RightR.inst_in (h:RightR l A) {off:Int} (ho:-90000 < off∧off < 90000) {j:Nat} (hj:j < A.length):A[j].nominal - 179998 ≤ instA A off j∧instA A off j ≤ A[j].nominal + 179998:=by
 rw [instA_at hj];exact instF_in ho (h.prev (by omega))
theorem RightR.inst_next (h:RightR l A) {off:Int} (ho:-90000 < off∧off < 90000) {j:Nat} (hj:j + 1 < A.length):instA A off j < instA A off (j + 1):=by
 rw [instA_at hj,instA_at (show j < A.length by omega),prevO_succ (by omega)];have g:=h.gap j hj;have p:=h.prev (show j ≤ A.length by omega);have q:=h.save A[j] (List.getElem_mem _);rw [saveO_some];generalize saveO (prevO A j) = sv at p ⊢;unfold instF
 split <;> split <;> (try split) <;> (try split) <;> omega
theorem RightR.inst_lt (h:RightR l A) {off:Int} (ho:-90000 < off∧off < 90000) {i j:Nat} (hij:i < j) (hj:j < A.length):instA A off i < instA A off j:=by
 induction j with
 | zero=>omega
 | succ j ih =>
   have h1:=h.inst_next ho hj
   by_cases e:i = j
   ·subst e;exact h1
   ·have:=ih (by omega) (by omega);omega
theorem RightR.icut (h:RightR l A) {off:Int} (ho:-90000 < off∧off < 90000) (s:Int):∃ k,Cut A (instA A off) s k:=cut_some (fun _ _ hij hj=>h.inst_lt ho hij hj) s
theorem saved_row (h:RightR l A) {j:Nat} (hj:j < A.length) (hcap:A[j].nominal ≤ capN) (h1:-3217862419200 ≤ A[j].nominal):savedF l A[j] = saveO (prevO A j):=by
 unfold savedF;rw [ahead_row h (k:=j) ⟨by omega,fun i hi=>?_⟩ h1 hcap];rw [nomA_at hi]
 constructor
 ·intro g;have:=h.rise g hj;omega
 ·intro g
  rcases Nat.lt_trichotomy i j with e | e | e
  ·exact e
  ·subst e;omega
  ·have:=h.rise e hi;omega
theorem RightR.low (h:RightR l A) {f:Fir} (hf:f ∈ A):-3217862419200 ≤ f.nominal:=by
 obtain ⟨r,hr,y,y1,y2,hy,rfl⟩:=(h.mem f).1 hf;have g:=(firOf_in hy).1;have e:=yearV_mono y1;have e2:yearV 1890 = -29219:=by decide
 omega
theorem RightR.low2 (h:RightR l A) {f:Fir} (hf:f ∈ A):-2600000000 ≤ f.nominal:=by
 obtain ⟨r,hr,y,y1,y2,hy,rfl⟩:=(h.mem f).1 hf;have g:=(firOf_in hy).1;have e:=yearV_mono y1;have e2:yearV 1890 = -29219:=by decide
 omega
theorem RightR.count (h:RightR l A):∀ (j:Nat) (hj:j < A.length),-2600000000 + (j:Int) ≤ A[j].nominal
 | 0,hj=>by have:=h.low2 (List.getElem_mem hj);omega
 | j + 1,hj=>by
   have h1:=h.count j (by omega);have h2:=h.gap j hj;push_cast;omega
theorem back_row (h:RightR l A) {off i:Int} (ho:-90000 < off∧off < 90000) {k:Nat} (hc:Cut A (instA A off) (i + 1) k):∀ (m n:Nat),k ≤ m→m ≤ A.length→(∀ f,prevO A m = some f→f.nominal ≤ capN)→m - k < n→backF l off i n (prevO A m) = prevO A k
 | m,0,_,_,_,hn=>absurd hn (by omega)
 | 0,n + 1,hk,hm,hb,hn=>by
   obtain rfl:k = 0:=by omega
   rfl
 | m + 1,n + 1,hk,hm,hb,hn=>by
   have hml:m < A.length:=by omega
   have hcap:A[m].nominal ≤ capN:=hb _ (prevO_succ hml);rw [prevO_succ hml];unfold backF;rw [saved_row h hml hcap (h.low (List.getElem_mem _)),← instA_at hml];have:=hc.2 m hml
   by_cases hlt:i < instA A off m
   ·rw [if_pos hlt]
    have e:aheadF l A[m].nominal = prevO A m:=by
     refine ahead_row h ⟨by omega,fun j hj=>?_⟩ (h.low (List.getElem_mem _)) hcap;rw [nomA_at hj]
     constructor
     ·intro g;have:=h.rise g hml;omega
     ·intro g
      rcases Nat.lt_trichotomy j m with e | e | e
      ·exact e
      ·subst e;omega
      ·have:=h.rise e hj;omega
    rw [e];refine back_row h ho hc m n (by omega) (by omega) (fun f hf=>?_) (by omega)
    rcases m with _ | m
    ·cases hf
    ·rw [prevO_succ (by omega)] at hf
     cases hf
     have:=h.rise (show m < m + 1 by omega) hml;omega
   ·rw [if_neg hlt];obtain rfl:k = m + 1:=by omega
    rw [prevO_succ hml]
theorem latest_row (h:RightR l A) {off i:Int} (ho:-90000 < off∧off < 90000) (h1:-3217862419200 ≤ i) (h2:i + 180001 ≤ capN) {k:Nat} (hc:Cut A (instA A off) (i + 1) k):latestF l off i = prevO A k:=by
 obtain ⟨m,hm⟩:=h.cut (i + 180001);unfold latestF;rw [ahead_row h hm (by omega) h2];refine back_row h ho hc m _ ?_ hm.1 (fun f hf=>?_) ?_
 ·rcases Nat.lt_or_ge m k with g | g
  ·exfalso;have hml:m < A.length:=by have:=hc.1;omega
   have e1:=(hc.2 m hml).1 g;have e2:=hm.2 m hml;have e3:=h.inst_in ho hml;rw [nomA_at hml] at e2;omega
  ·exact g
 ·rcases m with _ | m
  ·cases hf
  ·have hml:m < A.length:=by have:=hm.1;omega
   rw [prevO_succ hml] at hf
   cases hf
   have:=(hm.2 m hml).1 (by omega);rw [nomA_at hml] at this;omega
 ·unfold farN
  rcases m with _ | m
  ·omega
  ·have hml:m < A.length:=by have:=hm.1;omega
   have:=(hm.2 m hml).1 (by omega);rw [nomA_at hml] at this;have:=h.count m hml;omega
def segA (A:List Fir) (off fr to:Int) (j n:Nat):List (Int × Fir):=(List.range' j n).filterMap fun i=>if fr < instA A off i∧instA A off i ≤ to then A[i]?.map fun f=>(instA A off i,f) else none
theorem segA_succ (A:List Fir) (off fr to:Int) (j n:Nat):segA A off fr to j (n + 1) = (match (if fr < instA A off j∧instA A off j ≤ to then A[j]?.map fun f=>(instA A off j,f) else none) with | some x=>[x] | none=>[]) ++ segA A off fr to (j + 1) n:=by
 unfold segA;rw [List.range'_succ,List.filterMap_cons]
 split <;> rename_i e <;> rw [e] <;> rfl
theorem segA_nil {off fr to:Int}:∀ {n j:Nat},(∀ i,j ≤ i→i < A.length→¬ (fr < instA A off i∧instA A off i ≤ to))→segA A off fr to j n = []
 | 0,j,_=>rfl
 | n + 1,j,h=>by
   rw [segA_succ,segA_nil (fun i hi hl=>h i (by omega) hl),List.append_nil]
   by_cases hl:j < A.length
   ·rw [if_neg (h j (Nat.le_refl _) hl)]
   ·rw [List.getElem?_eq_none (by omega),Option.map_none,ite_self]
def CurA (A:List Fir) (j:Nat) (o:Option Fir):Prop:=(∃ h:j < A.length,A[j].nominal < capN∧o = some A[j])∨((∀ h:j < A.length,capN ≤ A[j].nominal)∧∀ f,o = some f→capN ≤ f.nominal)
theorem behind_cur (h:RightR l A) {s:Int} {k:Nat} (hc:Cut A (nomA A) s k) (h1:-3217862419200 ≤ s) (h2:s ≤ capN):CurA A k (behindF l s):=by
 by_cases hk:∃ hk:k < A.length,A[k].nominal < capN
 ·obtain ⟨hk,hn⟩:=hk;exact .inl ⟨hk,hn,behind_row h hc h1 h2 hk hn⟩
 ·have g:∀ hk:k < A.length,capN ≤ A[k].nominal:=fun hk2=>by
   by_cases e:A[k].nominal < capN
   ·exact absurd ⟨hk2,e⟩ hk
   ·omega
  exact .inr ⟨g,fun f hf=>behind_far h hc h1 h2 g hf⟩
theorem cut_behind (h:RightR l A) {j:Nat} (hj:j < A.length):Cut A (nomA A) (A[j].nominal + 1) (j + 1):=⟨by omega,fun i hi=>by
 rw [nomA_at hi]
 constructor
 ·intro g
  by_cases e:i = j
  ·subst e;omega
  ·have:=h.rise (show i < j by omega) hj;omega
 ·intro g
  rcases Nat.lt_trichotomy i j with e | e | e
  ·omega
  ·omega
  ·have:=h.rise e hi;omega⟩
theorem firedN_row (h:RightR l A) {off fr to:Int} (ho:-90000 < off∧off < 90000) (hto:to + 180000 < capN):∀ (n j:Nat) (o:Option Fir),CurA A j o→A.length - j < n→firedN l off fr to n o = segA A off fr to j (A.length - j)
 | 0,j,o,_,hn=>absurd hn (by omega)
 | n + 1,j,o,hcur,hn=>by
   rcases hcur with ⟨hj,hcap,rfl⟩ | ⟨hfar,hout⟩
   ·have hin:=h.inst_in ho hj;have hs:=saved_row h hj (by omega) (h.low (List.getElem_mem _));have hnext:CurA A (j + 1) (behindF l (A[j].nominal + 1)):=behind_cur h (cut_behind h hj) (by have:=h.low (List.getElem_mem hj);omega) (by omega);have ih:=firedN_row (fr:=fr) h ho hto n (j + 1) _ hnext (by omega);rw [show A.length - j = (A.length - (j + 1)) + 1 by omega,segA_succ,List.getElem?_eq_getElem hj];unfold firedN;rw [hs,← instA_at hj,ih]
    by_cases hle:A[j].nominal ≤ to + 180000
    ·rw [if_pos hle]
     by_cases hout:instA A off j ≤ fr∨to < instA A off j
     ·rw [if_pos hout,if_neg (by omega)]
      rfl
     ·rw [if_neg hout,if_pos (by omega)]
      rfl
    ·rw [if_neg hle,if_neg (by omega),segA_nil (fun i hi hl=>by
      by_cases e:i = j + 1∨j + 1 < i
      ·have h1:=h.inst_lt ho (show j < i by omega) hl
       omega
      ·omega)]
     rfl
   ·rw [segA_nil (fun i hi hl=>by
     have h1:=h.inst_in ho hl
     by_cases e:i = j
     ·subst e;have:=hfar hl;omega
     ·have h2:=h.rise (show j < i by omega) hl
      have h3:=hfar (by omega)
      omega)]
    rcases o with _ | f
    ·rfl
    ·have:=hout f rfl;unfold firedN;rw [if_neg (by omega)]
theorem fired_row (h:RightR l A) {off fr to:Int} (ho:-90000 < off∧off < 90000) (h1:-3217862419200 ≤ fr - 180000) (h2:fr ≤ to) (hto:to + 180000 < capN):firedF l off fr to = segA A off fr to 0 A.length:=by
 obtain ⟨k,hk⟩:=h.cut (fr - 180000)
 have hlen:A.length - k < (to + 180001 + farN).toNat:=by
  have hcap:(A.length:Int) ≤ 10000000000:=by
   by_cases h0:A.length = 0
   ·omega
   ·have hl:A.length - 1 < A.length:=by omega
    have h3:=h.count (A.length - 1) hl;obtain ⟨r,hr,y,y1,y2,hy,e⟩:=(h.mem _).1 (List.getElem_mem hl);rw [e] at h3;have g:=(firOf_in hy).2;have e1:=yearV_mono (show y + 1 ≤ 2111 by omega);have e2:yearV 2111 = 51499:=by decide
    omega
  unfold farN;omega
 unfold firedF;rw [firedN_row h ho hto _ k _ (behind_cur h hk h1 (by omega)) hlen]
 have hsplit:∀ (m j:Nat),(∀ i,i < m→i + j < A.length→¬ (fr < instA A off (i + j)∧instA A off (i + j) ≤ to))→∀ n,segA A off fr to j (m + n) = segA A off fr to (j + m) n:=by
  intro m
  induction m with
  | zero=>intro j _ n;rw [Nat.zero_add];rfl
  | succ m ih =>
    intro j hj n;rw [show m + 1 + n = (m + n) + 1 by omega,segA_succ,ih (j + 1) (fun i hi hl=>by have:=hj (i + 1) (by omega) (by omega);rwa [show i + 1 + j = i + (j + 1) by omega] at this) n,show j + 1 + m = j + (m + 1) by omega]
    by_cases hl:j < A.length
    ·have:=hj 0 (by omega) (by omega);rw [Nat.zero_add] at this;rw [if_neg this]
     rfl
    ·rw [List.getElem?_eq_none (by omega),Option.map_none,ite_self]
     rfl
 have:=hsplit k 0 (fun i hi hl=>by
  have hl2:i < A.length:=by omega
  have g:=(hk.2 i hl2).1 hi
  have e:=h.inst_in ho hl2
  rw [nomA_at hl2] at g
  rw [Nat.add_zero]
  omega) (A.length - k)
 rw [show k + (A.length - k) = A.length by have:=hk.1;omega,Nat.zero_add] at this;exact this.symm
end
end
section -- PEnd
open Go Go.RowKit Go.Shelf
def apartB:List Fir→Bool
 | []=>true
 | [f]=>decide (-90000 < f.save) && decide (f.save < 90000)
 | f :: g :: t=>decide (-90000 < f.save) && decide (f.save < 90000) && decide (f.nominal + 180000 < g.nominal) && apartB (g :: t)
theorem apartB_spec:∀ {A:List Fir},apartB A = true→(∀ f ∈ A,-90000 < f.save∧f.save < 90000)∧∀ i (h:i + 1 < A.length),A[i].nominal + 180000 < A[i + 1].nominal
 | [],_=>⟨fun f hf=>(by cases hf),fun i h=>absurd h (by simp)⟩
 | [f],h=>by
   unfold apartB at h;simp only [Bool.and_eq_true,decide_eq_true_eq] at h;refine ⟨fun g hg=>?_,fun i hi=>absurd hi (by simp)⟩;rw [List.mem_singleton] at hg;subst hg;exact h
 | f :: g :: t,h=>by
   unfold apartB at h;simp only [Bool.and_eq_true,decide_eq_true_eq] at h;obtain ⟨h1,h2⟩:=apartB_spec (A:=g :: t) h.2;refine ⟨fun x hx=>?_,fun i hi=>?_⟩
   ·rcases List.mem_cons.1 hx with rfl | hx
    ·exact h.1.1
    ·exact h1 x hx
   ·rcases i with _ | i
    ·exact h.1.2
    ·exact h2 i (by simpa using hi)
theorem apartB_of:∀ {A:List Fir},(∀ f ∈ A,-90000 < f.save∧f.save < 90000)→(∀ i (h:i + 1 < A.length),A[i].nominal + 180000 < A[i + 1].nominal)→apartB A = true
 | [],_,_=>rfl
 | [f],h1,_=>by
   unfold apartB;simp only [Bool.and_eq_true,decide_eq_true_eq];exact h1 f (by simp)
 | f :: g :: t,h1,h2=>by
   unfold apartB;simp only [Bool.and_eq_true,decide_eq_true_eq];exact ⟨⟨h1 f (by simp),h2 0 (by simp)⟩,apartB_of (fun x hx=>h1 x (by simp [hx])) (fun i hi=>h2 (i + 1) (by simpa using hi))⟩
theorem right_of {l:List Rul} {A:List Fir} (hs:smallB l = true) (hf:∀ r ∈ l,r.from_ ≤ 2070) (hst:Stab Fir.nominal (genL l 1890 2110) A) (hap:apartB A = true):RightR l A:=by
 have hsm:∀ r ∈ l,smallR r = true:=by
  unfold smallB at hs;rw [Bool.and_eq_true,List.all_eq_true] at hs;exact hs.1
 have hmem:∀ f,f ∈ A ↔ ∃ r ∈ l,∃ y,1890 ≤ y∧y ≤ 2110∧ofB r y = true∧f = firOf r y:=fun f=>by
  rw [hst.1.mem_iff];unfold genL genR;rw [List.mem_flatMap]
  constructor
  ·rintro ⟨r,hr,hx⟩;rw [List.mem_map] at hx;obtain ⟨y,hy,rfl⟩:=hx;rw [List.mem_filter,yrs_mem] at hy;exact ⟨r,hr,y,hy.1.1,hy.1.2,hy.2,rfl⟩
  ·rintro ⟨r,hr,y,h1,h2,h3,rfl⟩;refine ⟨r,hr,List.mem_map.2 ⟨y,?_,rfl⟩⟩;rw [List.mem_filter,yrs_mem];exact ⟨⟨h1,h2⟩,h3⟩
 obtain ⟨h1,h2⟩:=apartB_spec hap;refine ⟨fun r hr=>?_,hmem,h1,fun f hfA=>?_,h2⟩
 ·have:=hsm r hr;unfold smallR at this;rw [Bool.and_eq_true,decide_eq_true_eq] at this;exact ⟨this.1.1,hf r hr⟩
 ·obtain ⟨r,hr,y,-,-,-,rfl⟩:=(hmem f).1 hfA;have:=hsm r hr;unfold smallR at this;rw [Bool.and_eq_true,decide_eq_true_eq] at this;unfold firOf;exact this.1.2.2.2.2.2.2.2
def endLoop (m:Int):Int→List (Int × Fir)→Int
 | sv,[]=>sv
 | sv,x :: t=>if m - sv ≤ x.1 then sv else endLoop m x.2.save t
def endSave (l:List Rul) (off n:Int):Int:=endLoop (n - off) (saveO (latestF l off (n - 360000))) (firedF l off (n - 360000) (n + 360000))
def refSave (A:List Fir) (off m:Int):Int→Nat→Nat→Int
 | sv,_,0=>sv
 | sv,j,n + 1=>match A[j]? with
   | none=>sv
   | some f=>if m - sv ≤ instA A off j then sv else refSave A off m f.save (j + 1) n
theorem refSave_skip {l:List Rul} {A:List Fir} (h:RightR l A) {off m:Int}:∀ (k j n:Nat),j + k ≤ A.length→(∀ i,j ≤ i→i < j + k→¬ m - saveO (prevO A i) ≤ instA A off i)→refSave A off m (saveO (prevO A j)) j (k + n) = refSave A off m (saveO (prevO A (j + k))) (j + k) n
 | 0,j,n,_,_=>by rw [Nat.zero_add];rfl
 | k + 1,j,n,hl,hs=>by
   have hj:j < A.length:=by omega
   rw [show k + 1 + n = (k + n) + 1 by omega];have h0:=hs j (Nat.le_refl _) (by omega);have ih:=refSave_skip h (off:=off) (m:=m) k (j + 1) n (by omega) (fun i h1 h2=>hs i (by omega) (by omega));rw [prevO_succ hj,saveO_some,show j + 1 + k = j + (k + 1) by omega] at ih;rw [refSave,List.getElem?_eq_getElem hj];simp only;rw [if_neg h0,ih]
theorem endLoop_row {l:List Rul} {A:List Fir} (h:RightR l A) {off m fr to:Int} (ho:-90000 < off∧off < 90000) (hto:∀ sv,-90000 < sv∧sv < 90000→m - sv ≤ to):∀ (n j:Nat),j + n = A.length→(∀ i,j ≤ i→i < A.length→fr < instA A off i)→endLoop m (saveO (prevO A j)) (segA A off fr to j n) = refSave A off m (saveO (prevO A j)) j n
 | 0,j,_,_=>rfl
 | n + 1,j,hl,hfr=>by
   have hj:j < A.length:=by omega
   rw [segA_succ,refSave,List.getElem?_eq_getElem hj];simp only [Option.map_some];have hp:=h.prev (show j ≤ A.length by omega);have h1:=hfr j (Nat.le_refl _) hj
   by_cases ht:instA A off j ≤ to
   ·rw [if_pos ⟨h1,ht⟩]
    show endLoop m _ ((instA A off j,A[j]) :: segA A off fr to (j + 1) n) = _
    unfold endLoop;simp only
    split
    ·rfl
    ·have:=endLoop_row h (off:=off) (m:=m) (fr:=fr) (to:=to) ho hto n (j + 1) (by omega) (fun i hi hl=>hfr i (by omega) hl);rw [prevO_succ hj,saveO_some] at this;exact this
   ·rw [if_neg (by omega),segA_nil (fun i hi hl=>by have:=h.inst_lt ho (show j < i by omega) hl;omega)];rw [if_pos (by have:=hto _ hp;omega)]
    rfl
theorem end_save {l:List Rul} {A:List Fir} (h:RightR l A) {off n:Int} (ho:-90000 < off∧off < 90000) (h1:-3217862419200 ≤ n - 540000) (h2:n + 540000 < capN):endSave l off n = refSave A off (n - off) 0 0 A.length:=by
 obtain ⟨k,hk⟩:=h.icut ho (n - 360000 + 1);unfold endSave;rw [latest_row h ho (by omega) (by omega) hk,fired_row h ho (by omega) (by omega) (by omega)];have hkl:=hk.1
 have e1:=refSave_skip h (off:=off) (m:=n - off) k 0 (A.length - k) (by omega) (fun i _ hi=>by
  have hl:i < A.length:=by omega
  have:=(hk.2 i hl).1 (by omega)
  have:=h.prev (show i ≤ A.length by omega)
  omega)
 rw [Nat.zero_add,show k + (A.length - k) = A.length by omega,prevO_zero,saveO_none] at e1;rw [e1,← endLoop_row h ho (fr:=n - 360000) (to:=n + 360000) (m:=n - off) (fun sv hs=>by omega) (A.length - k) k (by omega) (fun i hi hl=>by have:=hk.2 i hl;omega)]
 congr 1
 have hsplit:∀ (m j:Nat),(∀ i,i < m→i + j < A.length→¬ (n - 360000 < instA A off (i + j)∧instA A off (i + j) ≤ n + 360000))→∀ q,segA A off (n - 360000) (n + 360000) j (m + q) = segA A off (n - 360000) (n + 360000) (j + m) q:=by
  intro m
  induction m with
  | zero=>intro j _ q;rw [Nat.zero_add];rfl
  | succ m ih =>
    intro j hj q;rw [show m + 1 + q = (m + q) + 1 by omega,segA_succ,ih (j + 1) (fun i hi hl=>by have:=hj (i + 1) (by omega) (by omega);rwa [show i + 1 + j = i + (j + 1) by omega] at this) q,show j + 1 + m = j + (m + 1) by omega]
    by_cases hl:j < A.length
    ·have:=hj 0 (by omega) (by omega);rw [Nat.zero_add] at this;rw [if_neg this]
     rfl
    ·rw [List.getElem?_eq_none (by omega),Option.map_none,ite_self]
     rfl
 have:=hsplit k 0 (fun i hi hl=>by
  have:=(hk.2 i (by omega)).1 hi
  rw [Nat.add_zero]
  omega) (A.length - k)
 rw [show k + (A.length - k) = A.length by omega,Nat.zero_add] at this;exact this
end
section -- Pick
open Go Go.RowKit Go.Shelf
theorem floor_div (s:Int):s / 86400 = if s < s.tdiv 86400 * 86400 then s.tdiv 86400 - 1 else s.tdiv 86400:=by
 have h:=floor_eq (a:=s) (b:=86400) (by decide);have e:=Int.tmod_add_mul_tdiv s 86400;have e2:s.tmod 86400 < 86400:=Int.tmod_lt_of_pos s (by decide);have e3:=Int.tmod_lt_of_pos (-s) (show (0:Int) < 86400 by decide);rw [Int.neg_tmod] at e3
 have e4:s < 0∨0 ≤ s.tmod 86400:=by
  by_cases hs:s < 0
  ·exact .inl hs
  ·exact .inr (Int.tmod_nonneg _ (by omega))
 have e5:0 < s∨s.tmod 86400 ≤ 0:=by
  by_cases hs:0 < s
  ·exact .inl hs
  ·refine .inr ?_;have:=Int.tmod_nonneg 86400 (show 0 ≤ -s by omega);rw [Int.neg_tmod] at this;omega
 rw [h]
 split <;> split <;> omega
theorem ffloor_any (s:Int) (h1:-9223372036854775808 ≤ s) (h2:s ≤ 9223372036854775807) (w:World) :
  Calls Tryz.prog 128 #[.int .i64 s] w fun e w'=>e = .returned (.int .i64 (s / 86400))∧w' = w:=by
 have hf:=floor_div s;have e:=Int.tmod_add_mul_tdiv s 86400;have e2:=Int.tmod_lt_of_pos s (show (0:Int) < 86400 by decide);have e3:=Int.tmod_lt_of_pos (-s) (show (0:Int) < 86400 by decide);rw [Int.neg_tmod] at e3
 have hr:-9223372036854775808 ≤ s.tdiv 86400 * 86400∧s.tdiv 86400 * 86400 ≤ 9223372036854775807:=by
  rcases (show s < 0∨0 ≤ s by omega) with hs | hs
  ·have:=Int.tmod_nonneg 86400 (show 0 ≤ -s by omega);rw [Int.neg_tmod] at this;omega
  ·have:=Int.tmod_nonneg 86400 hs;omega
 by_cases hc:s < s.tdiv 86400 * 86400
 ·have HF:=Lib.hid (show s / 86400 = s.tdiv 86400 - 1 by rw [hf,if_pos hc]);have hd:decide (s < s.tdiv 86400 * 86400) = true:=decide_eq_true hc;clear hf e e2 e3;obtain ⟨q,hq⟩:∃ q,s.tdiv 86400 = q:=⟨_,rfl⟩;rw [hq] at *;go_enter Tryz.func128,Tryz.ntmps128;go_wp2_with fail;go_ret;exact ⟨by rw [HF.out];rfl,rfl⟩
 ·have HF:=Lib.hid (show s / 86400 = s.tdiv 86400 by rw [hf,if_neg hc]);have hd:decide (s < s.tdiv 86400 * 86400) = false:=decide_eq_false hc;clear hf e e2 e3;obtain ⟨q,hq⟩:∃ q,s.tdiv 86400 = q:=⟨_,rfl⟩;rw [hq] at *;go_enter Tryz.func128,Tryz.ntmps128;go_wp2_with fail;go_ret;exact ⟨by rw [HF.out];rfl,rfl⟩
theorem fyear_any (s:Int) (h1:-9223372036854775808 ≤ s) (h2:s ≤ 9223372036854775807) (w:World) (ha:Ahead w) :
  Calls Tryz.prog 99 #[.int .i64 s] w fun e w'=>e = .returned (.int .i64 (secYear s))∧Below w.heap.size w w':=by
 have HF:=Lib.hid (ffloor_any s h1 h2 w);obtain ⟨d,hd⟩:∃ d,s / 86400 = d:=⟨_,rfl⟩;rw [hd] at HF
 by_cases hin:-37243778 ≤ d∧d < 35805088
 ·have HV:=Lib.hid (show secYear s = ofYear d by unfold secYear;rw [hd,if_pos (by unfold ofInB;exact decide_eq_true hin)]);have HO:=Lib.hid (of_any d hin.1 hin.2 w ha);unfold dateA at HO;clear hin hd ha;generalize ofYear d = yy at *;generalize ofMon d = mm at *;generalize ofDay d = dd at *;go_enter Tryz.func99,Tryz.ntmps99;go_wp2_with fail;refine HF.out.mono ?_;rintro e w1 ⟨rfl,rfl⟩;go_wp2_with fail;refine HO.out.mono ?_;rintro e w2 ⟨rfl,hb⟩;have HB:=Lib.hid (hb.alloc hb.size (.cells #[.int .i64 yy,.int .i64 mm,.int .i64 dd] 44));clear hb;go_wp2_with fail;go_ret;exact ⟨by rw [HV.out];rfl,HB.out⟩
 ·have HV:=Lib.hid (show secYear s = 0 by unfold secYear;rw [hd,if_neg (by unfold ofInB;rw [decide_eq_true_eq];exact hin)]);have HO:=Lib.hid (of_out d hin w);unfold dateA at HO;clear hin hd ha;go_enter Tryz.func99,Tryz.ntmps99;go_wp2_with fail;refine HF.out.mono ?_;rintro e w1 ⟨rfl,rfl⟩;go_wp2_with fail;refine HO.out.mono ?_;rintro e w2 ⟨rfl,hb⟩;have HB:=Lib.hid (hb.alloc hb.size (.cells #[.int .i64 0,.int .i64 0,.int .i64 0] 44));clear hb;go_wp2_with fail;go_ret;exact ⟨by rw [HV.out];rfl,HB.out⟩
section
variable (w:World)
theorem ahead1_any (r:Rul) (b:Nat) (n:Int) (hc:w.cell? ⟨b,0,none⟩ = some (.int .i64 n)) :
  Calls Tryz.prog 100 #[rulA r,.pointer (some ⟨b,0,none⟩)] w fun e w'=>e = .returned (.tuple #[.int .i64 (min r.to_ n),.int .i64 (-1)])∧Below w.heap.size w w':=by
 have hl:b < w.heap.size:=World.block_lt_of_cell? w _ hc;have HB:=Lib.hid ((Below.refl w.heap.size w).alloc (Nat.le_refl _) (.cells (rulV r).toArray 106));unfold rulA;unfold rulV at HB;go_enter Tryz.func100,Tryz.ntmps100;go_wp2_with fail;go_ret2;exact ⟨rfl,HB.out⟩
theorem behind1_any (r:Rul) (b:Nat) (n:Int) (hc:w.cell? ⟨b,0,none⟩ = some (.int .i64 n)) :
  Calls Tryz.prog 144 #[rulA r,.pointer (some ⟨b,0,none⟩)] w fun e w'=>e = .returned (.tuple #[.int .i64 (max r.from_ n),.int .i64 1])∧Below w.heap.size w w':=by
 have hl:b < w.heap.size:=World.block_lt_of_cell? w _ hc;have HB:=Lib.hid ((Below.refl w.heap.size w).alloc (Nat.le_refl _) (.cells (rulV r).toArray 106));unfold rulA;unfold rulV at HB;go_enter Tryz.func144,Tryz.ntmps144;go_wp2_with fail;go_ret2;exact ⟨rfl,HB.out⟩
theorem ahead2_any (a b:Fir):Calls Tryz.prog 102 #[firA a,firA b] w fun e w'=>e = .returned (.bool (geB a b))∧Below w.heap.size w w':=by
 have HB:=Lib.hid (((Below.refl w.heap.size w).alloc (Nat.le_refl _) (.cells (firV a).toArray 112)).alloc (by simp) (.cells (firV b).toArray 112));unfold firA geB;unfold firV at HB;go_enter Tryz.func102,Tryz.ntmps102;go_wp2_with fail;go_ret;exact ⟨rfl,HB.out⟩
theorem behind2_any (a b:Fir):Calls Tryz.prog 145 #[firA a,firA b] w fun e w'=>e = .returned (.bool (ltB a b))∧Below w.heap.size w w':=by
 have HB:=Lib.hid (((Below.refl w.heap.size w).alloc (Nat.le_refl _) (.cells (firV a).toArray 112)).alloc (by simp) (.cells (firV b).toArray 112));unfold firA ltB;unfold firV at HB;go_enter Tryz.func145,Tryz.ntmps145;go_wp2_with fail;go_ret;exact ⟨rfl,HB.out⟩
theorem ahead3_any (a:Fir) (b:Nat) (s:Int) (hc:w.cell? ⟨b,0,none⟩ = some (.int .i64 s)):Calls Tryz.prog 103 #[firA a,.pointer (some ⟨b,0,none⟩)] w fun e w'=>e = .returned (.bool (underB s a))∧Below w.heap.size w w':=by
 have hl:b < w.heap.size:=World.block_lt_of_cell? w _ hc;have HB:=Lib.hid ((Below.refl w.heap.size w).alloc (Nat.le_refl _) (.cells (firV a).toArray 112));unfold firA underB;unfold firV at HB;go_enter Tryz.func103,Tryz.ntmps103;go_wp2_with fail;go_ret;exact ⟨rfl,HB.out⟩
theorem behind3_any (a:Fir) (b:Nat) (s:Int) (hc:w.cell? ⟨b,0,none⟩ = some (.int .i64 s)):Calls Tryz.prog 146 #[firA a,.pointer (some ⟨b,0,none⟩)] w fun e w'=>e = .returned (.bool (atB s a))∧Below w.heap.size w w':=by
 have hl:b < w.heap.size:=World.block_lt_of_cell? w _ hc;have HB:=Lib.hid ((Below.refl w.heap.size w).alloc (Nat.le_refl _) (.cells (firV a).toArray 112));unfold firA atB;unfold firV at HB;go_enter Tryz.func146,Tryz.ntmps146;go_wp2_with fail;go_ret;exact ⟨rfl,HB.out⟩
theorem inst_any (f:Fir) (off sv:Int) (h:-1000000000000000 ≤ f.nominal∧f.nominal ≤ 1000000000000000) (h1:-1000000000000000 ≤ off∧off ≤ 1000000000000000) (h2:-1000000000000000 ≤ sv∧sv ≤ 1000000000000000) :
  Calls Tryz.prog 61 #[firA f,.int .i64 off,.int .i64 sv] w fun e w'=>e = .returned (.int .i64 (instF f off sv))∧Below w.heap.size w w':=by
 have HB:=Lib.hid ((Below.refl w.heap.size w).alloc (Nat.le_refl _) (.cells (firV f).toArray 112));unfold firA;unfold firV at HB
 by_cases k2:f.kind = 2
 ·have HV:=Lib.hid (show instF f off sv = f.nominal by unfold instF;rw [if_pos k2]);have e:(f.kind == 2) = true:=by simpa using k2
  clear k2;go_enter Tryz.func61,Tryz.ntmps61;go_wp2_with fail;go_ret;exact ⟨by rw [HV.out];rfl,HB.out⟩
 ·have e:(f.kind == 2) = false:=by simpa using k2
  by_cases k1:f.kind = 1
  ·have HV:=Lib.hid (show instF f off sv = f.nominal - off by unfold instF;rw [if_neg k2,if_pos k1]);have e1:(f.kind == 1) = true:=by simpa using k1
   clear k2 k1;go_enter Tryz.func61,Tryz.ntmps61;go_wp2_with fail;go_ret;exact ⟨by rw [HV.out];rfl,HB.out⟩
  ·have HV:=Lib.hid (show instF f off sv = f.nominal - off - sv by unfold instF;rw [if_neg k2,if_neg k1]);have e1:(f.kind == 1) = false:=by simpa using k1
   go_enter Tryz.func61,Tryz.ntmps61;go_wp2_with fail;go_ret;exact ⟨by rw [HV.out];rfl,HB.out⟩
end
end
end Go.Proofs.YteekjfgjmccdnaaGreatDoor
