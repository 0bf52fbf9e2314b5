/-
  Layer 13's law: the chapter's example.
-/
import Derived.Shelf.Strings.SlTrimAscii
import Derived.Shelf.Strings.Cut
import Derived.Shelf.Strings.Replace
import Derived.Shelf.Strings.Search3
import Derived.Shelf.SlSorted.Search
import Derived.Shelf.SlicesE.Clone
import Derived.Shelf.Vars
import Derived.Ground.NamesProg
import Derived.Ground.SlgnProg
import Derived.Ground.SlsoProg
import Derived.Test.YteekjfgjmccdnaaGreatDoorProg
import Derived.Lib.Strings
import Derived.Lib.Slices
import Derived.Lib.IndexMore
import Derived.Lib.SlTrimSet
import Derived.Lib.Replace
import Derived.Deep.QuietTactic
import Derived.BigQuiet
import Derived.Shelf.RegionOpen
import Derived.WalkKit
import Derived.WalkSpells
import Derived.WalkLawsBesides
import Derived.Lib.Hide
import Derived.Lib.Walk
import Derived.Deep.RegionHeld3
import Derived.Lib.CountLaws
import Derived.Lib.SplitLaws
import Derived.Test.YteekjfgjmccdnaaGreatDoorZu3
set_option maxHeartbeats 16000000
set_option maxRecDepth 100000
section -- NShelf
namespace Go.Proofs
open Go.Shelf
def Tryz.lays144_ren:Go.Shelf.Ren:=⟨fun | 144=>130 | 143=>136 | 219=>169 | 217=>184 | 225=>185 | 224=>186 | 267=>187 | 266=>191 | 314=>192 | n=>n,fun | 9=>9 | 4=>4 | 3=>3 | 5=>5 | 46=>205 | 146=>235 | 51=>234 | n=>n,fun | 1=>1 | n=>n⟩
theorem Tryz.lays144:Go.Proofs.Lays.n144 Tryz.prog Tryz.lays144_ren:={
 mixed:=by kernel_rfl
 f143:=Tryz.func136.trans (congrArg some (by kernel_rfl))
 f144:=Tryz.func130.trans (congrArg some (by kernel_rfl))
 f217:=Tryz.func184.trans (congrArg some (by kernel_rfl))
 f219:=Tryz.func169.trans (congrArg some (by kernel_rfl))
 f224:=Tryz.func186.trans (congrArg some (by kernel_rfl))
 f225:=Tryz.func185.trans (congrArg some (by kernel_rfl))
 f266:=Tryz.func191.trans (congrArg some (by kernel_rfl))
 f267:=Tryz.func187.trans (congrArg some (by kernel_rfl))
 f314:=Tryz.func192.trans (congrArg some (by kernel_rfl))
 t3:=Tryz.underlying3
 a3:=Tryz.isAgg3
 z3:=Tryz.sizeOf3
 v3:=Tryz.zeroValue3
 t4:=Tryz.underlying4
 a4:=Tryz.isAgg4
 z4:=Tryz.sizeOf4
 v4:=Tryz.zeroValue4
 t5:=Tryz.underlying5
 a5:=Tryz.isAgg5
 z5:=Tryz.sizeOf5
 v5:=Tryz.zeroValue5
 t9:=Tryz.underlying9
 a9:=Tryz.isAgg9
 z9:=Tryz.sizeOf9
 v9:=Tryz.zeroValue9
 t46:=Tryz.underlying205
 a46:=Tryz.isAgg205
 z46:=Tryz.sizeOf205
 v46:=Tryz.zeroValue205
 t51:=Tryz.underlying234
 a51:=Tryz.isAgg234
 z51:=Tryz.sizeOf234
 v51:=Tryz.zeroValue234
 t146:=Tryz.underlying235
 a146:=Tryz.isAgg235
 z146:=Tryz.sizeOf235
 v146:=Tryz.zeroValue235
 g1:=by kernel_rfl }
def Tryz.lays154_ren:Go.Shelf.Ren:=⟨fun | 154=>112 | 138=>134 | 165=>135 | 143=>136 | 166=>137 | 197=>138 | 169=>139 | 195=>165 | 218=>166 | 240=>167 | 241=>168 | 219=>169 | 260=>170 | 276=>182 | 277=>183 | 217=>184 | 225=>185 | 224=>186 | 267=>187 | 266=>191 | 314=>192 | n=>n,fun | 9=>9 | 3=>3 | 4=>4 | 72=>188 | 0=>0 | 76=>192 | 105=>194 | 21=>21 | 5=>5 | 70=>185 | 20=>20 | 37=>186 | 75=>191 | 127=>221 | 164=>226 | 46=>205 | 119=>229 | 139=>232 | 138=>231 | 146=>235 | 51=>234 | 80=>196 | n=>n,fun | 1=>1 | 3=>2 | 4=>3 | n=>n⟩
theorem Tryz.lays154:Go.Proofs.Lays.n154 Tryz.prog Tryz.lays154_ren:={
 mixed:=by kernel_rfl
 f138:=Tryz.func134.trans (congrArg some (by kernel_rfl))
 f143:=Tryz.func136.trans (congrArg some (by kernel_rfl))
 f154:=Tryz.func112.trans (congrArg some (by kernel_rfl))
 f165:=Tryz.func135.trans (congrArg some (by kernel_rfl))
 f166:=Tryz.func137.trans (congrArg some (by kernel_rfl))
 f169:=Tryz.func139.trans (congrArg some (by kernel_rfl))
 f195:=Tryz.func165.trans (congrArg some (by kernel_rfl))
 f197:=Tryz.func138.trans (congrArg some (by kernel_rfl))
 f217:=Tryz.func184.trans (congrArg some (by kernel_rfl))
 f218:=Tryz.func166.trans (congrArg some (by kernel_rfl))
 f219:=Tryz.func169.trans (congrArg some (by kernel_rfl))
 f224:=Tryz.func186.trans (congrArg some (by kernel_rfl))
 f225:=Tryz.func185.trans (congrArg some (by kernel_rfl))
 f240:=Tryz.func167.trans (congrArg some (by kernel_rfl))
 f241:=Tryz.func168.trans (congrArg some (by kernel_rfl))
 f260:=Tryz.func170.trans (congrArg some (by kernel_rfl))
 f266:=Tryz.func191.trans (congrArg some (by kernel_rfl))
 f267:=Tryz.func187.trans (congrArg some (by kernel_rfl))
 f276:=Tryz.func182.trans (congrArg some (by kernel_rfl))
 f277:=Tryz.func183.trans (congrArg some (by kernel_rfl))
 f314:=Tryz.func192.trans (congrArg some (by kernel_rfl))
 t0:=Tryz.underlying0
 a0:=Tryz.isAgg0
 z0:=Tryz.sizeOf0
 v0:=Tryz.zeroValue0
 t3:=Tryz.underlying3
 a3:=Tryz.isAgg3
 z3:=Tryz.sizeOf3
 v3:=Tryz.zeroValue3
 t4:=Tryz.underlying4
 a4:=Tryz.isAgg4
 z4:=Tryz.sizeOf4
 v4:=Tryz.zeroValue4
 t5:=Tryz.underlying5
 a5:=Tryz.isAgg5
 z5:=Tryz.sizeOf5
 v5:=Tryz.zeroValue5
 t9:=Tryz.underlying9
 a9:=Tryz.isAgg9
 z9:=Tryz.sizeOf9
 v9:=Tryz.zeroValue9
 t20:=Tryz.underlying20
 a20:=Tryz.isAgg20
 z20:=Tryz.sizeOf20
 v20:=Tryz.zeroValue20
 t21:=Tryz.underlying21
 a21:=Tryz.isAgg21
 z21:=Tryz.sizeOf21
 v21:=Tryz.zeroValue21
 t37:=Tryz.underlying186
 a37:=Tryz.isAgg186
 z37:=Tryz.sizeOf186
 v37:=Tryz.zeroValue186
 t46:=Tryz.underlying205
 a46:=Tryz.isAgg205
 z46:=Tryz.sizeOf205
 v46:=Tryz.zeroValue205
 t51:=Tryz.underlying234
 a51:=Tryz.isAgg234
 z51:=Tryz.sizeOf234
 v51:=Tryz.zeroValue234
 t70:=Tryz.underlying185
 a70:=Tryz.isAgg185
 z70:=Tryz.sizeOf185
 v70:=Tryz.zeroValue185
 t72:=Tryz.underlying188
 a72:=Tryz.isAgg188
 z72:=Tryz.sizeOf188
 v72:=Tryz.zeroValue188
 t75:=Tryz.underlying191
 a75:=Tryz.isAgg191
 z75:=Tryz.sizeOf191
 v75:=Tryz.zeroValue191
 t76:=Tryz.underlying192
 a76:=Tryz.isAgg192
 z76:=Tryz.sizeOf192
 v76:=Tryz.zeroValue192
 t105:=Tryz.underlying194
 a105:=Tryz.isAgg194
 z105:=Tryz.sizeOf194
 v105:=Tryz.zeroValue194
 t119:=Tryz.underlying229
 a119:=Tryz.isAgg229
 z119:=Tryz.sizeOf229
 t127:=Tryz.underlying221
 a127:=Tryz.isAgg221
 z127:=Tryz.sizeOf221
 v127:=Tryz.zeroValue221
 t138:=Tryz.underlying231
 a138:=Tryz.isAgg231
 z138:=Tryz.sizeOf231
 v138:=Tryz.zeroValue231
 t139:=Tryz.underlying232
 a139:=Tryz.isAgg232
 z139:=Tryz.sizeOf232
 v139:=Tryz.zeroValue232
 t146:=Tryz.underlying235
 a146:=Tryz.isAgg235
 z146:=Tryz.sizeOf235
 v146:=Tryz.zeroValue235
 t164:=Tryz.underlying226
 a164:=Tryz.isAgg226
 z164:=Tryz.sizeOf226
 v164:=Tryz.zeroValue226
 g1:=by kernel_rfl
 g3:=by kernel_rfl
 g4:=by kernel_rfl }
def Tryz.lays160_ren:Go.Shelf.Ren:=⟨fun | 160=>131 | 232=>159 | 231=>158 | 227=>160 | 234=>162 | 233=>161 | 236=>164 | 235=>163 | 228=>179 | 271=>181 | 151=>180 | 197=>138 | 120=>190 | 152=>189 | 260=>170 | 137=>193 | 119=>194 | 224=>186 | 225=>185 | 217=>184 | 266=>191 | n=>n,fun | 9=>9 | 4=>4 | 3=>3 | 5=>5 | 117=>215 | 116=>214 | 0=>0 | 124=>218 | 21=>21 | 105=>194 | 46=>205 | 119=>229 | 139=>232 | 138=>231 | n=>n,fun | 3=>2 | 4=>3 | n=>n⟩
theorem Tryz.lays160:Go.Proofs.Lays.n160 Tryz.prog Tryz.lays160_ren:={
 mixed:=by kernel_rfl
 f119:=Tryz.func194.trans (congrArg some (by kernel_rfl))
 f120:=Tryz.func190.trans (congrArg some (by kernel_rfl))
 f137:=Tryz.func193.trans (congrArg some (by kernel_rfl))
 f151:=Tryz.func180.trans (congrArg some (by kernel_rfl))
 f152:=Tryz.func189.trans (congrArg some (by kernel_rfl))
 f160:=Tryz.func131.trans (congrArg some (by kernel_rfl))
 f197:=Tryz.func138.trans (congrArg some (by kernel_rfl))
 f217:=Tryz.func184.trans (congrArg some (by kernel_rfl))
 f224:=Tryz.func186.trans (congrArg some (by kernel_rfl))
 f225:=Tryz.func185.trans (congrArg some (by kernel_rfl))
 f227:=Tryz.func160.trans (congrArg some (by kernel_rfl))
 f228:=Tryz.func179.trans (congrArg some (by kernel_rfl))
 f231:=Tryz.func158.trans (congrArg some (by kernel_rfl))
 f232:=Tryz.func159.trans (congrArg some (by kernel_rfl))
 f233:=Tryz.func161.trans (congrArg some (by kernel_rfl))
 f234:=Tryz.func162.trans (congrArg some (by kernel_rfl))
 f235:=Tryz.func163.trans (congrArg some (by kernel_rfl))
 f236:=Tryz.func164.trans (congrArg some (by kernel_rfl))
 f260:=Tryz.func170.trans (congrArg some (by kernel_rfl))
 f266:=Tryz.func191.trans (congrArg some (by kernel_rfl))
 f271:=Tryz.func181.trans (congrArg some (by kernel_rfl))
 t0:=Tryz.underlying0
 a0:=Tryz.isAgg0
 z0:=Tryz.sizeOf0
 v0:=Tryz.zeroValue0
 t3:=Tryz.underlying3
 a3:=Tryz.isAgg3
 z3:=Tryz.sizeOf3
 v3:=Tryz.zeroValue3
 t4:=Tryz.underlying4
 a4:=Tryz.isAgg4
 z4:=Tryz.sizeOf4
 v4:=Tryz.zeroValue4
 t5:=Tryz.underlying5
 a5:=Tryz.isAgg5
 z5:=Tryz.sizeOf5
 v5:=Tryz.zeroValue5
 t9:=Tryz.underlying9
 a9:=Tryz.isAgg9
 z9:=Tryz.sizeOf9
 v9:=Tryz.zeroValue9
 t21:=Tryz.underlying21
 a21:=Tryz.isAgg21
 z21:=Tryz.sizeOf21
 v21:=Tryz.zeroValue21
 t46:=Tryz.underlying205
 a46:=Tryz.isAgg205
 z46:=Tryz.sizeOf205
 v46:=Tryz.zeroValue205
 t105:=Tryz.underlying194
 a105:=Tryz.isAgg194
 z105:=Tryz.sizeOf194
 v105:=Tryz.zeroValue194
 t116:=Tryz.underlying214
 a116:=Tryz.isAgg214
 z116:=Tryz.sizeOf214
 t117:=Tryz.underlying215
 a117:=Tryz.isAgg215
 z117:=Tryz.sizeOf215
 v117:=Tryz.zeroValue215
 t119:=Tryz.underlying229
 a119:=Tryz.isAgg229
 z119:=Tryz.sizeOf229
 t124:=Tryz.underlying218
 a124:=Tryz.isAgg218
 z124:=Tryz.sizeOf218
 v124:=Tryz.zeroValue218
 t138:=Tryz.underlying231
 a138:=Tryz.isAgg231
 z138:=Tryz.sizeOf231
 v138:=Tryz.zeroValue231
 t139:=Tryz.underlying232
 a139:=Tryz.isAgg232
 z139:=Tryz.sizeOf232
 v139:=Tryz.zeroValue232
 g3:=by kernel_rfl
 g4:=by kernel_rfl }
def Tryz.lays145_ren:Go.Shelf.Ren:=⟨fun | 145=>114 | 220=>141 | 219=>169 | 217=>184 | 225=>185 | 224=>186 | 267=>187 | 266=>191 | 314=>192 | n=>n,fun | 9=>9 | 4=>4 | 59=>167 | 3=>3 | 5=>5 | 46=>205 | 146=>235 | 51=>234 | n=>n,fun | 1=>1 | n=>n⟩
theorem Tryz.lays145:Go.Proofs.Lays.n145 Tryz.prog Tryz.lays145_ren:={
 mixed:=by kernel_rfl
 f145:=Tryz.func114.trans (congrArg some (by kernel_rfl))
 f217:=Tryz.func184.trans (congrArg some (by kernel_rfl))
 f219:=Tryz.func169.trans (congrArg some (by kernel_rfl))
 f220:=Tryz.func141.trans (congrArg some (by kernel_rfl))
 f224:=Tryz.func186.trans (congrArg some (by kernel_rfl))
 f225:=Tryz.func185.trans (congrArg some (by kernel_rfl))
 f266:=Tryz.func191.trans (congrArg some (by kernel_rfl))
 f267:=Tryz.func187.trans (congrArg some (by kernel_rfl))
 f314:=Tryz.func192.trans (congrArg some (by kernel_rfl))
 t3:=Tryz.underlying3
 a3:=Tryz.isAgg3
 z3:=Tryz.sizeOf3
 v3:=Tryz.zeroValue3
 t4:=Tryz.underlying4
 a4:=Tryz.isAgg4
 z4:=Tryz.sizeOf4
 v4:=Tryz.zeroValue4
 t5:=Tryz.underlying5
 a5:=Tryz.isAgg5
 z5:=Tryz.sizeOf5
 v5:=Tryz.zeroValue5
 t9:=Tryz.underlying9
 a9:=Tryz.isAgg9
 z9:=Tryz.sizeOf9
 v9:=Tryz.zeroValue9
 t46:=Tryz.underlying205
 a46:=Tryz.isAgg205
 z46:=Tryz.sizeOf205
 v46:=Tryz.zeroValue205
 t51:=Tryz.underlying234
 a51:=Tryz.isAgg234
 z51:=Tryz.sizeOf234
 v51:=Tryz.zeroValue234
 t59:=Tryz.underlying167
 a59:=Tryz.isAgg167
 z59:=Tryz.sizeOf167
 v59:=Tryz.zeroValue167
 t146:=Tryz.underlying235
 a146:=Tryz.isAgg235
 z146:=Tryz.sizeOf235
 v146:=Tryz.zeroValue235
 g1:=by kernel_rfl }
theorem Tryz.extra154:Builder.Extra Tryz.prog Tryz.lays154_ren where
 sizeBuilder:=by kernel_rfl
 liesBuilder:=by kernel_rfl
 t5:=Tryz.underlying5
 a5:=Tryz.isAgg5
 z5:=Tryz.sizeOf5
 v5:=Tryz.zeroValue5
 infoByte:=by kernel_rfl
 cellsByte:=by kernel_rfl
 sizeByte:=by kernel_rfl
 neB5:=by decide
def Tryz.MaxL (w:World):Prop:=∃ m,w.cell? ⟨1,0,none⟩ = some (.int .i64 m)
theorem Tryz.maxL_of {w:World} (h:w.ShapedOpen Tryz.prog):Tryz.MaxL w:=cell_of_shapedOpen_int (zero:=#[.int .i64 0]) h (by decide) (by kernel_rfl) (by kernel_rfl) (by kernel_rfl) (by kernel_rfl) Tryz.underlying3
open Go.RowKit in
theorem Tryz.MaxL.below {B:Nat} {w w':World} (h:Tryz.MaxL w) (hb:Below B w w') (hB:w.heap.size ≤ B):Tryz.MaxL w':=by
 obtain ⟨m,hm⟩:=h
 exact ⟨m,(hb.cell (Nat.lt_of_lt_of_le (World.block_lt_of_cell? w _ hm) hB)).trans hm⟩
open Go.RowKit Go.Lib in
theorem Tryz.strings_Contains (s sub:ByteArray) (w:World) (hs:s.size < 4294967281) (hm:Tryz.MaxL w) :
  Calls Tryz.prog 130 #[.string s,.string sub] w fun e w'=>e = .returned (.bool (Lib.contains s.data.toList sub.data.toList))∧w' = w :=
 hm.elim fun m hm=>Any.strings_Contains Tryz.lays144 s sub m w hs hm
open Go.RowKit Go.Lib in
theorem Tryz.strings_Cut (s sep:ByteArray) (w:World) (hs:s.size < 4294967281) (hm:Tryz.MaxL w) :
  Calls Tryz.prog 114 #[.string s,.string sep] w fun e w'=>e = .returned (.tuple #[.string ⟨(Lib.cut s.data.toList sep.data.toList).1.toArray⟩,.string ⟨(Lib.cut s.data.toList sep.data.toList).2.1.toArray⟩,.bool (Lib.cut s.data.toList sep.data.toList).2.2])∧∃ n,w' = w.drewN n :=
 hm.elim fun m hm=>Any.strings_Cut Tryz.lays145 s sep m w hs hm
open Go.RowKit Go.Lib in
theorem Tryz.strings_Replace (s old new:ByteArray) (n:Int) (w:World) (hs:s.size < 4294967281) (hm:Tryz.MaxL w) (h1:1 ≤ old.size) (hlen:s.size + Lib.countB s old * new.size ≤ 140737488355328) :
  Calls Tryz.prog 112 #[.string s,.string old,.string new,.int .i64 n] w fun e w'=>e = .returned (.string ⟨(Lib.replace s.data.toList old.data.toList new.data.toList n).toArray⟩)∧Below w.heap.size w w' :=
 hm.elim fun m hm=>Any.strings_Replace Tryz.lays154 Tryz.extra154 s old new n m w hs hm h1 hlen
open Go.RowKit Go.Lib in
theorem Tryz.strings_Trim (s cutset:ByteArray) (w:World) (hs:s.size ≤ 9223372036854775807) (hcs:cutset.size < 4294967281) (hascii:∀ (j:Nat) b,cutset.data.toList[j]? = some b→b.toNat < 128) :
  Calls Tryz.prog 131 #[.string s,.string cutset] w fun e w'=>e = .returned (.string ⟨(Lib.trimS s.data.toList cutset.data.toList).toArray⟩)∧Below w.heap.size w w' :=
 Any.strings_Trim_laid Tryz.lays160 (by kernel_rfl) s cutset w hs hcs hascii
end Go.Proofs
end
namespace Go.Proofs.YteekjfgjmccdnaaGreatDoor
section -- NMath
open Go
def abcB:List UInt8:=[97,98,99,100,101,102,103,104,105,106,107,108,109,110,111,112,113,114,115,116,117,118,119,120,121,122,65,66,67,68,69,70,71,72,73,74,75,76,77,78,79,80,81,82,83,84,85,86,87,88,89,90,48,49,50,51,52,53,54,55,56,57,43,45]
def kindP (f:List UInt8):Int × List UInt8 :=
 if Lib.contains f [37,115] then (1,Lib.replace f [37,115] [] 1) else if Lib.contains f [37,122] then (2,Lib.replace f [37,122] [] 1) else if Lib.contains f [47] then (3,Lib.replace f [47] [] 1) else (0,f)
def edgeB (f:List UInt8):Bool:=decide ((kindP f).1 = 3) && (f.headD 0 == 47 || f.getLastD 0 == 47)
def badB (f:List UInt8):Bool:=f.isEmpty || decide (64 < f.length) || edgeB f || !(Lib.trimS (kindP f).2 abcB).isEmpty
def kindR (f:List UInt8):Int × Int:=if badB f then (0,12) else ((kindP f).1,0)
theorem kindR_bad {f:List UInt8} (h:badB f = true):kindR f = (0,12):=by unfold kindR;rw [if_pos h]
theorem kindR_ok {f:List UInt8} {k:Int} {p:List UInt8} (h:badB f = false) (hk:kindP f = (k,p)):kindR f = (k,0):=by unfold kindR;rw [if_neg (by rw [h];simp),hk]
theorem bad_empty {f:List UInt8} (h:f = []):badB f = true:=by subst h;rfl
theorem bad_long {f:List UInt8} (h:64 < f.length):badB f = true:=by unfold badB;rw [decide_eq_true h];simp
theorem bad_edge {f:List UInt8} (h:edgeB f = true):badB f = true:=by unfold badB;rw [h];simp
theorem bad_trim {f:List UInt8} {k:Int} {p:List UInt8} (hk:kindP f = (k,p)) (h:Lib.trimS p abcB ≠ []):badB f = true:=by
 unfold badB
 rw [hk]
 have:(Lib.trimS p abcB).isEmpty = false:=by cases e:Lib.trimS p abcB with | nil=>exact absurd e h | cons a l=>rfl
 rw [this]
 simp
theorem bad_not {f:List UInt8} {k:Int} {p:List UInt8} (hk:kindP f = (k,p)) (h0:f ≠ []) (h1:¬ 64 < f.length) (h2:edgeB f = false) (h3:Lib.trimS p abcB = []):badB f = false:=by
 unfold badB
 rw [hk,h2,h3,decide_eq_false h1]
 cases f with
 | nil=>exact absurd rfl h0
 | cons a l=>rfl
theorem edge_not {f:List UInt8} {k:Int} {p:List UInt8} (hk:kindP f = (k,p)) (h:k ≠ 3):edgeB f = false:=by
 unfold edgeB
 rw [hk,decide_eq_false h]
 rfl
theorem contains_ne {f m:List UInt8} (hm:m ≠ []) (h:Lib.contains f m = true):f ≠ []:=by
 rintro rfl
 cases m with
 | nil=>exact hm rfl
 | cons a l=>simp [Lib.contains,Lib.index] at h
theorem edge_at {f:ByteArray} {p:List UInt8} (hk:kindP f.data.toList = (3,p)) (h0:0 < f.size):edgeB f.data.toList = (decide ((f[0].toNat:Int) = 47) || decide ((f[f.size - 1].toNat:Int) = 47)):=by
 have e0:f.data.toList.headD 0 = f[0]:=by
  have h1:0 < f.data.toList.length:=by simpa using h0
  rw [List.headD_eq_head?_getD,List.head?_eq_getElem?,List.getElem?_eq_getElem h1]
  rfl
 have e1:f.data.toList.getLastD 0 = f[f.size - 1]:=by
  have h1:f.size - 1 < f.data.toList.length:=by simp;omega
  rw [List.getLastD_eq_getLast?,List.getLast?_eq_getElem?]
  have h2:f.data.toList.length - 1 = f.size - 1:=by simp
  rw [h2,List.getElem?_eq_getElem h1]
  rfl
 have eq:∀ c:UInt8,(c == 47) = decide ((c.toNat:Int) = 47):=by
  intro c
  rw [Bool.eq_iff_iff]
  simp only [beq_iff_eq,decide_eq_true_eq]
  constructor
  ·rintro rfl;rfl
  ·intro h
   apply UInt8.toNat_inj.1
   have:c.toNat = 47:=by omega
   rw [this]
   rfl
 unfold edgeB
 rw [hk,e0,e1,eq,eq]
 simp
end
section -- NKind
open Go Go.RowKit Go.Shelf
theorem contains_at (f:ByteArray) (hs:f.size < 4294967281) (m:ByteArray) (b:Bool) (h:Lib.contains f.data.toList m.data.toList = b) (w:World) (hm:Tryz.MaxL w) :
  Calls Tryz.prog 130 #[.string f,.string m] w fun e w'=>e = .returned (.bool b)∧w = w':=(Tryz.strings_Contains f m w hs hm).mono fun e w' ⟨h1,h2⟩=>⟨by rw [h1,h],h2.symm⟩
theorem replaceK_len (old:List UInt8):∀ (k:Nat) (s:List UInt8),(Lib.replaceK old [] k s).length ≤ s.length
 | 0,s=>Nat.le_refl _
 | k + 1,s=>by
   unfold Lib.replaceK
   split
   ·exact Nat.le_refl _
   ·have:=replaceK_len old k (s.drop ((Lib.index s old).toNat + old.length))
    simp only [List.length_append,List.length_take,List.length_nil,List.length_drop] at *
    omega
theorem replace_len (s old:List UInt8):(Lib.replace s old [] 1).length ≤ s.length:=by
 unfold Lib.replace
 split
 ·exact Nat.le_refl _
 ·exact replaceK_len _ _ _
theorem replace_at (f:ByteArray) (hs:f.size < 4294967281) (m:ByteArray) (h1:1 ≤ m.size) (w:World) (hm:Tryz.MaxL w) :
  Calls Tryz.prog 112 #[.string f,.string m,.string ⟨#[]⟩,.int .i64 1] w fun e w'=>e = .returned (.string ⟨(Lib.replace f.data.toList m.data.toList [] 1).toArray⟩)∧Below w.heap.size w w' :=
 Tryz.strings_Replace f m ⟨#[]⟩ 1 w hs hm h1 (by show f.size + _ * 0 ≤ _;omega)
def abcS:ByteArray:=⟨#[97,98,99,100,101,102,103,104,105,106,107,108,109,110,111,112,113,114,115,116,117,118,119,120,121,122,65,66,67,68,69,70,71,72,73,74,75,76,77,78,79,80,81,82,83,84,85,86,87,88,89,90,48,49,50,51,52,53,54,55,56,57,43,45]⟩
theorem trim_at (p:ByteArray) (hs:p.size ≤ 9223372036854775807) (l:List UInt8) (hl:Lib.trimS p.data.toList abcB = l) (w:World) :
  Calls Tryz.prog 131 #[.string p,.string abcS] w fun e w'=>e = .returned (.string ⟨l.toArray⟩)∧Below w.heap.size w w':=by
 subst hl
 exact Tryz.strings_Trim p abcS w hs (by decide) (Go.Proofs.ascii_of_all (by decide))
theorem kind_any (f:ByteArray) (w:World) (hs:f.size < 4294967281) (hm:Tryz.MaxL w) :
  Calls Tryz.prog 106 #[.string f] w fun e w'=>e = .returned (.tuple #[.int .i64 (kindR f.data.toList).1,.int .i64 (kindR f.data.toList).2])∧Below w.heap.size w w':=by
 have HM:∀ W,Below w.heap.size w W→Tryz.MaxL W:=fun W hb=>hm.below hb (Nat.le_refl _)
 by_cases h1:Lib.contains f.data.toList [37,115] = true
 ·have HT:=contains_at f hs ⟨#[37,115]⟩ true h1
  go_enter Tryz.func106,Tryz.ntmps106
  go_wp2_with fail
  refine wp_loop_rounds 4 ?_
  rw [rounds_succ]
  go_wp2_with fail
  refine (HT _ (HM _ (((Below.refl _ _).alloc (Nat.le_refl _) _).alloc (by simp) _))).mono ?_
  rintro e w1 ⟨rfl,rfl⟩
  go_wp2_with fail
  refine wp_env (fin:=?fn0) (by kernel_rfl) [23,24,25,26,27,28,4,5]
   [.string f,.pointer (some ⟨w.heap.size + 1,0,none⟩),.string ⟨#[37,115]⟩,.string ⟨(Lib.replace f.data.toList [37,115] [] 1).toArray⟩,.pointer (some ⟨w.heap.size + 1,1,none⟩),.int .i64 1,.string ⟨(Lib.replace f.data.toList [37,115] [] 1).toArray⟩,.int .i64 1] (by kernel_rfl) ?fin0 ?steps0 ?next0
  case fin0=>simp only [putAll,Act.put,List.setIfInBounds_toArray,List.set_cons_succ,List.set_cons_zero];rfl
  case steps0 =>
   refine ⟨?_,?_,?_,?_,?_,?_,?_,?_,trivial⟩
   all_goals
    refine .inr ⟨by kernel_rfl,fun w1_ hB=>?_⟩
    have hb:=blk_behind hB
    simp only [World.size_alloc] at hb
    have q0:=hb.cell 0 (v:=.string ⟨#[37,115]⟩) rfl
    have q1:=hb.cell 1 (v:=.int .i64 1) rfl
    have hbw:=(((Below.refl _ _).alloc (Nat.le_refl _) _).alloc (by simp) _).trans (hB.mono (by simp;omega))
    clear hb hB
    go_simp
    first | exact ⟨rfl,Below.refl _ _⟩ | exact ⟨rfl,replace_at f hs ⟨#[37,115]⟩ (by decide) _ (HM _ hbw)⟩
  case next0 =>
   intro W4 hB4
   have hB:=(((Below.refl _ _).alloc (Nat.le_refl _) _).alloc (by simp) _).trans (hB4.mono (by simp;omega))
   clear hB4
   have hp:f.data.toList ≠ []:=contains_ne (by decide) h1
   have hne:¬ f.toList = []:=by rw [Lib.toList_data];exact hp
   have hne2:f.toList.isEmpty = false:=by cases e:f.toList with | nil=>exact absurd e hne | cons a l=>rfl
   have hk:kindP f.data.toList = (1,Lib.replace f.data.toList [37,115] [] 1):=by unfold kindP;rw [if_pos h1]
   have hz:(Lib.replace f.data.toList [37,115] [] 1).length ≤ f.size:=by have:=replace_len f.data.toList [37,115];simpa using this
   by_cases hl:64 < (f.size:Int)
   ·have HB:=Lib.hid (kindR_bad (bad_long (f:=f.data.toList) (by rw [Array.length_toList];show 64 < f.size;omega)))
    clear hk hz hp
    go_wp2_with fail
    all_goals (go_ret2;exact ⟨by rw [HB.out];rfl,hB⟩)
   ·have HK:=Lib.hid (fun h=>kindR_ok (bad_not hk hp (by rw [Array.length_toList];show ¬ 64 < f.size;omega) (edge_not hk (by decide)) h) hk)
    have HN:=Lib.hid (fun h=>kindR_bad (bad_trim hk h))
    clear hk hp
    generalize Lib.replace f.data.toList [37,115] [] 1 = p at *
    go_wp2_with fail
    refine (trim_at _ (by show p.toArray.size ≤ _;simp;omega) (Lib.trimS p abcB) rfl _).mono ?_
    rintro e w5 ⟨rfl,hb5⟩
    generalize Lib.trimS p abcB = z at *
    have hb6:=hB.trans (hb5.mono hB.size)
    clear hb5 hB
    by_cases he:z = []
    ·have he2:(!z.isEmpty) = false:=by rw [he];rfl
     have HB:=Lib.hid (HK.out he)
     clear he HK HN
     go_wp2_with fail
     go_ret2
     exact ⟨by rw [HB.out];rfl,hb6⟩
    ·have he2:(!z.isEmpty) = true:=by cases z with | nil=>exact absurd rfl he | cons a l=>rfl
     have HB:=Lib.hid (HN.out he)
     clear he HK HN
     go_wp2_with fail
     go_ret2
     exact ⟨by rw [HB.out];rfl,hb6⟩
 ·skip
  by_cases h2:Lib.contains f.data.toList [37,122] = true
  ·have HT:=contains_at f hs ⟨#[37,122]⟩ true h2
   have HF1:=contains_at f hs ⟨#[37,115]⟩ false (by simpa using h1)
   go_enter Tryz.func106,Tryz.ntmps106
   go_wp2_with fail
   refine wp_loop_rounds 4 ?_
   rw [rounds_succ]
   go_wp2_with fail
   refine (HF1 _ (HM _ (((Below.refl _ _).alloc (Nat.le_refl _) _).alloc (by simp) _))).mono ?_
   rintro e w1 ⟨rfl,rfl⟩
   go_wp2_with fail
   rw [rounds_succ]
   go_wp2_with fail
   refine (HT _ (HM _ ((((Below.refl _ _).alloc (Nat.le_refl _) _).alloc (by simp) _).alloc (by simp;omega) _))).mono ?_
   rintro e w1 ⟨rfl,rfl⟩
   go_wp2_with fail
   refine wp_env (fin:=?fn1) (by kernel_rfl) [23,24,25,26,27,28,4,5]
    [.string f,.pointer (some ⟨w.heap.size + 1 + 1,0,none⟩),.string ⟨#[37,122]⟩,.string ⟨(Lib.replace f.data.toList [37,122] [] 1).toArray⟩,.pointer (some ⟨w.heap.size + 1 + 1,1,none⟩),.int .i64 2,.string ⟨(Lib.replace f.data.toList [37,122] [] 1).toArray⟩,.int .i64 2] (by kernel_rfl) ?fin1 ?steps1 ?next1
   case fin1=>simp only [putAll,Act.put,List.setIfInBounds_toArray,List.set_cons_succ,List.set_cons_zero];rfl
   case steps1 =>
    refine ⟨?_,?_,?_,?_,?_,?_,?_,?_,trivial⟩
    all_goals
     refine .inr ⟨by kernel_rfl,fun w1_ hB=>?_⟩
     have hb:=blk_behind hB
     simp only [World.size_alloc] at hb
     have q0:=hb.cell 0 (v:=.string ⟨#[37,122]⟩) rfl
     have q1:=hb.cell 1 (v:=.int .i64 2) rfl
     have hbw:=((((Below.refl _ _).alloc (Nat.le_refl _) _).alloc (by simp) _).alloc (by simp;omega) _).trans (hB.mono (by simp;omega))
     clear hb hB
     go_simp
     first | exact ⟨rfl,Below.refl _ _⟩ | exact ⟨rfl,replace_at f hs ⟨#[37,122]⟩ (by decide) _ (HM _ hbw)⟩
   case next1 =>
    intro W4 hB4
    have hB:=((((Below.refl _ _).alloc (Nat.le_refl _) _).alloc (by simp) _).alloc (by simp;omega) _).trans (hB4.mono (by simp;omega))
    clear hB4
    have hp:f.data.toList ≠ []:=contains_ne (by decide) h2
    have hne:¬ f.toList = []:=by rw [Lib.toList_data];exact hp
    have hne2:f.toList.isEmpty = false:=by cases e:f.toList with | nil=>exact absurd e hne | cons a l=>rfl
    have hk:kindP f.data.toList = (2,Lib.replace f.data.toList [37,122] [] 1):=by unfold kindP;rw [if_neg h1,if_pos h2]
    have hz:(Lib.replace f.data.toList [37,122] [] 1).length ≤ f.size:=by have:=replace_len f.data.toList [37,122];simpa using this
    by_cases hl:64 < (f.size:Int)
    ·have HB:=Lib.hid (kindR_bad (bad_long (f:=f.data.toList) (by rw [Array.length_toList];show 64 < f.size;omega)))
     clear hk hz hp
     go_wp2_with fail
     all_goals (go_ret2;exact ⟨by rw [HB.out];rfl,hB⟩)
    ·have HK:=Lib.hid (fun h=>kindR_ok (bad_not hk hp (by rw [Array.length_toList];show ¬ 64 < f.size;omega) (edge_not hk (by decide)) h) hk)
     have HN:=Lib.hid (fun h=>kindR_bad (bad_trim hk h))
     clear hk hp
     generalize Lib.replace f.data.toList [37,122] [] 1 = p at *
     go_wp2_with fail
     refine (trim_at _ (by show p.toArray.size ≤ _;simp;omega) (Lib.trimS p abcB) rfl _).mono ?_
     rintro e w5 ⟨rfl,hb5⟩
     generalize Lib.trimS p abcB = z at *
     have hb6:=hB.trans (hb5.mono hB.size)
     clear hb5 hB
     by_cases he:z = []
     ·have he2:(!z.isEmpty) = false:=by rw [he];rfl
      have HB:=Lib.hid (HK.out he)
      clear he HK HN
      go_wp2_with fail
      go_ret2
      exact ⟨by rw [HB.out];rfl,hb6⟩
     ·have he2:(!z.isEmpty) = true:=by cases z with | nil=>exact absurd rfl he | cons a l=>rfl
      have HB:=Lib.hid (HN.out he)
      clear he HK HN
      go_wp2_with fail
      go_ret2
      exact ⟨by rw [HB.out];rfl,hb6⟩
  ·skip
   by_cases h3:Lib.contains f.data.toList [47] = true
   ·have HT:=contains_at f hs ⟨#[47]⟩ true h3
    have HF1:=contains_at f hs ⟨#[37,115]⟩ false (by simpa using h1)
    have HF2:=contains_at f hs ⟨#[37,122]⟩ false (by simpa using h2)
    go_enter Tryz.func106,Tryz.ntmps106
    go_wp2_with fail
    refine wp_loop_rounds 4 ?_
    rw [rounds_succ]
    go_wp2_with fail
    refine (HF1 _ (HM _ (((Below.refl _ _).alloc (Nat.le_refl _) _).alloc (by simp) _))).mono ?_
    rintro e w1 ⟨rfl,rfl⟩
    go_wp2_with fail
    rw [rounds_succ]
    go_wp2_with fail
    refine (HF2 _ (HM _ ((((Below.refl _ _).alloc (Nat.le_refl _) _).alloc (by simp) _).alloc (by simp;omega) _))).mono ?_
    rintro e w1 ⟨rfl,rfl⟩
    go_wp2_with fail
    rw [rounds_succ]
    go_wp2_with fail
    refine (HT _ (HM _ (((((Below.refl _ _).alloc (Nat.le_refl _) _).alloc (by simp) _).alloc (by simp;omega) _).alloc (by simp;omega) _))).mono ?_
    rintro e w1 ⟨rfl,rfl⟩
    go_wp2_with fail
    refine wp_env (fin:=?fn2) (by kernel_rfl) [23,24,25,26,27,28,4,5]
     [.string f,.pointer (some ⟨w.heap.size + 1 + 1 + 1,0,none⟩),.string ⟨#[47]⟩,.string ⟨(Lib.replace f.data.toList [47] [] 1).toArray⟩,.pointer (some ⟨w.heap.size + 1 + 1 + 1,1,none⟩),.int .i64 3,.string ⟨(Lib.replace f.data.toList [47] [] 1).toArray⟩,.int .i64 3] (by kernel_rfl) ?fin2 ?steps2 ?next2
    case fin2=>simp only [putAll,Act.put,List.setIfInBounds_toArray,List.set_cons_succ,List.set_cons_zero];rfl
    case steps2 =>
     refine ⟨?_,?_,?_,?_,?_,?_,?_,?_,trivial⟩
     all_goals
      refine .inr ⟨by kernel_rfl,fun w1_ hB=>?_⟩
      have hb:=blk_behind hB
      simp only [World.size_alloc] at hb
      have q0:=hb.cell 0 (v:=.string ⟨#[47]⟩) rfl
      have q1:=hb.cell 1 (v:=.int .i64 3) rfl
      have hbw:=(((((Below.refl _ _).alloc (Nat.le_refl _) _).alloc (by simp) _).alloc (by simp;omega) _).alloc (by simp;omega) _).trans (hB.mono (by simp;omega))
      clear hb hB
      go_simp
      first | exact ⟨rfl,Below.refl _ _⟩ | exact ⟨rfl,replace_at f hs ⟨#[47]⟩ (by decide) _ (HM _ hbw)⟩
    case next2 =>
     intro W4 hB4
     have hB:=(((((Below.refl _ _).alloc (Nat.le_refl _) _).alloc (by simp) _).alloc (by simp;omega) _).alloc (by simp;omega) _).trans (hB4.mono (by simp;omega))
     clear hB4
     have hp:f.data.toList ≠ []:=contains_ne (by decide) h3
     have hne:¬ f.toList = []:=by rw [Lib.toList_data];exact hp
     have hne2:f.toList.isEmpty = false:=by cases e:f.toList with | nil=>exact absurd e hne | cons a l=>rfl
     have hk:kindP f.data.toList = (3,Lib.replace f.data.toList [47] [] 1):=by unfold kindP;rw [if_neg h1,if_neg h2,if_pos h3]
     have hz:(Lib.replace f.data.toList [47] [] 1).length ≤ f.size:=by have:=replace_len f.data.toList [47];simpa using this
     have h0:0 < f.size:=by have:=List.length_pos_iff.2 hp;simpa using this
     have hE:=edge_at hk h0
     by_cases e0:(f[0].toNat:Int) = 47
     ·have HB:=Lib.hid (kindR_bad (bad_edge (hE.trans (by rw [decide_eq_true e0];rfl))))
      clear hk hz hp hE
      go_wp2_with fail
      all_goals (go_ret2;exact ⟨by rw [HB.out];rfl,hB⟩)
     ·by_cases e1:(f[f.size - 1].toNat:Int) = 47
      ·have HB:=Lib.hid (kindR_bad (bad_edge (hE.trans (by rw [decide_eq_true e1,Bool.or_true]))))
       clear hk hz hp hE
       go_wp2_with fail
       all_goals (go_ret2;exact ⟨by rw [HB.out];rfl,hB⟩)
      ·have HE:=Lib.hid (hE.trans (by rw [decide_eq_false e0,decide_eq_false e1,Bool.or_false]))
       have e2:((f[0].toNat:Int) == 47) = false:=by simpa using e0
       have e3:((f[f.size - 1].toNat:Int) == 47) = false:=by simpa using e1
       clear hE
       by_cases hl:64 < (f.size:Int)
       ·have HB:=Lib.hid (kindR_bad (bad_long (f:=f.data.toList) (by rw [Array.length_toList];show 64 < f.size;omega)))
        clear hk hz hp
        go_wp2_with fail
        all_goals (go_ret2;exact ⟨by rw [HB.out];rfl,hB⟩)
       ·have HK:=Lib.hid (fun h=>kindR_ok (bad_not hk hp (by rw [Array.length_toList];show ¬ 64 < f.size;omega) HE.out h) hk)
        have HN:=Lib.hid (fun h=>kindR_bad (bad_trim hk h))
        clear hk hp
        generalize Lib.replace f.data.toList [47] [] 1 = p at *
        go_wp2_with fail
        refine (trim_at _ (by show p.toArray.size ≤ _;simp;omega) (Lib.trimS p abcB) rfl _).mono ?_
        rintro e w5 ⟨rfl,hb5⟩
        generalize Lib.trimS p abcB = z at *
        have hb6:=hB.trans (hb5.mono hB.size)
        clear hb5 hB
        by_cases he:z = []
        ·have he2:(!z.isEmpty) = false:=by rw [he];rfl
         have HB:=Lib.hid (HK.out he)
         clear he HK HN
         go_wp2_with fail
         go_ret2
         exact ⟨by rw [HB.out];rfl,hb6⟩
        ·have he2:(!z.isEmpty) = true:=by cases z with | nil=>exact absurd rfl he | cons a l=>rfl
         have HB:=Lib.hid (HN.out he)
         clear he HK HN
         go_wp2_with fail
         go_ret2
         exact ⟨by rw [HB.out];rfl,hb6⟩
   ·skip
    have HF1:=contains_at f hs ⟨#[37,115]⟩ false (by simpa using h1)
    have HF2:=contains_at f hs ⟨#[37,122]⟩ false (by simpa using h2)
    have HF3:=contains_at f hs ⟨#[47]⟩ false (by simpa using h3)
    go_enter Tryz.func106,Tryz.ntmps106
    go_wp2_with fail
    refine wp_loop_rounds 4 ?_
    rw [rounds_succ]
    go_wp2_with fail
    refine (HF1 _ (HM _ (((Below.refl _ _).alloc (Nat.le_refl _) _).alloc (by simp) _))).mono ?_
    rintro e w1 ⟨rfl,rfl⟩
    go_wp2_with fail
    rw [rounds_succ]
    go_wp2_with fail
    refine (HF2 _ (HM _ ((((Below.refl _ _).alloc (Nat.le_refl _) _).alloc (by simp) _).alloc (by simp;omega) _))).mono ?_
    rintro e w1 ⟨rfl,rfl⟩
    go_wp2_with fail
    rw [rounds_succ]
    go_wp2_with fail
    refine (HF3 _ (HM _ (((((Below.refl _ _).alloc (Nat.le_refl _) _).alloc (by simp) _).alloc (by simp;omega) _).alloc (by simp;omega) _))).mono ?_
    rintro e w1 ⟨rfl,rfl⟩
    go_wp2_with fail
    rw [rounds_succ]
    have hB:Below w.heap.size w ((((w.alloc (.cells #[.string ⟨#[37,115]⟩,.int .i64 1,.string ⟨#[37,122]⟩,.int .i64 2,.string ⟨#[47]⟩,.int .i64 3] 180)).alloc (.cells #[.string ⟨#[37,115]⟩,.int .i64 1] 180)).alloc (.cells #[.string ⟨#[37,122]⟩,.int .i64 2] 180)).alloc (.cells #[.string ⟨#[47]⟩,.int .i64 3] 180)):=(((((Below.refl _ _).alloc (Nat.le_refl _) _).alloc (by simp) _).alloc (by simp;omega) _).alloc (by simp;omega) _)
    have hk:kindP f.data.toList = (0,f.data.toList):=by unfold kindP;rw [if_neg h1,if_neg h2,if_neg h3]
    have hz:f.data.toList.length ≤ f.data.toList.length:=Nat.le_refl _
    by_cases hp:f.data.toList = []
    ·have hne:f.toList = []:=by rw [Lib.toList_data];exact hp
     have hne2:f.toList.isEmpty = true:=by rw [hne];rfl
     have HB:=Lib.hid (kindR_bad (bad_empty hp))
     clear hk hz hp
     go_wp2_with fail
     all_goals (go_ret2;exact ⟨by rw [HB.out];rfl,hB⟩)
    ·have hne:¬ f.toList = []:=by rw [Lib.toList_data];exact hp
     have hne2:f.toList.isEmpty = false:=by cases e:f.toList with | nil=>exact absurd e hne | cons a l=>rfl
     by_cases hl:64 < (f.size:Int)
     ·have HB:=Lib.hid (kindR_bad (bad_long (f:=f.data.toList) (by rw [Array.length_toList];show 64 < f.size;omega)))
      clear hk hz hp
      go_wp2_with fail
      all_goals (go_ret2;exact ⟨by rw [HB.out];rfl,hB⟩)
     ·have HK:=Lib.hid (fun h=>kindR_ok (bad_not hk hp (by rw [Array.length_toList];show ¬ 64 < f.size;omega) (edge_not hk (by decide)) h) hk)
      have HN:=Lib.hid (fun h=>kindR_bad (bad_trim hk h))
      clear hk hp
      have hfp:f = ⟨f.data.toList.toArray⟩:=by cases f;simp
      have HFP:=Lib.hid hfp
      clear hfp
      go_wp2_with fail
      refine (trim_at _ (by omega) (Lib.trimS f.data.toList abcB) rfl _).mono ?_
      rintro e w5 ⟨rfl,hb5⟩
      generalize Lib.trimS f.data.toList abcB = z at *
      have hb6:=hB.trans (hb5.mono hB.size)
      clear hb5 hB
      by_cases he:z = []
      ·have he2:(!z.isEmpty) = false:=by rw [he];rfl
       have HB:=Lib.hid (HK.out he)
       clear he HK HN
       go_wp2_with fail
       go_ret2
       exact ⟨by rw [HB.out];rfl,hb6⟩
      ·have he2:(!z.isEmpty) = true:=by cases z with | nil=>exact absurd rfl he | cons a l=>rfl
       have HB:=Lib.hid (HN.out he)
       clear he HK HN
       go_wp2_with fail
       go_ret2
       exact ⟨by rw [HB.out];rfl,hb6⟩
end
section -- NShow
open Go Go.RowKit Go.Shelf
theorem kind_at (f:ByteArray) (hs:f.size < 4294967281) (k e:Int) (h:kindR f.data.toList = (k,e)) (w:World) (hm:Tryz.MaxL w) :
  Calls Tryz.prog 106 #[.string f] w fun o w'=>o = .returned (.tuple #[.int .i64 k,.int .i64 e])∧Below w.heap.size w w' :=
 (kind_any f w hs hm).mono fun o w' ⟨h1,h2⟩=>⟨by rw [h1,h],h2⟩
theorem show_plain (f:ByteArray) (off:Int) (dst:Bool) (letter:ByteArray) (w:World) (hs:f.size < 4294967281) (hm:Tryz.MaxL w) (h:kindR f.data.toList = (0,0)) :
  Calls Tryz.prog 73 #[.string f,.int .i64 off,.bool dst,.string letter] w fun e w'=>e = .returned (.tuple #[.string f,.int .i64 0])∧Below w.heap.size w w':=by
 have HK:=fun W=>kind_at f hs 0 0 h W
 clear h
 go_enter Tryz.func73,Tryz.ntmps73
 go_wp2_with fail
 refine (HK _ hm).mono ?_
 rintro e w1 ⟨rfl,hb⟩
 go_wp2_with fail
 go_ret2
 exact ⟨rfl,hb⟩
theorem show_err (f:ByteArray) (off:Int) (dst:Bool) (letter:ByteArray) (w:World) (hs:f.size < 4294967281) (hm:Tryz.MaxL w) (k e:Int) (h:kindR f.data.toList = (k,e)) (he:e ≠ 0) :
  Calls Tryz.prog 73 #[.string f,.int .i64 off,.bool dst,.string letter] w fun o w'=>o = .returned (.tuple #[.string ⟨#[]⟩,.int .i64 e])∧Below w.heap.size w w':=by
 have HK:=fun W=>kind_at f hs k e h W
 have he2:(e != 0) = true:=by simpa using he
 clear h
 go_enter Tryz.func73,Tryz.ntmps73
 go_wp2_with fail
 refine (HK _ hm).mono ?_
 rintro e w1 ⟨rfl,hb⟩
 go_wp2_with fail
 go_ret2
 exact ⟨rfl,hb⟩
end
section -- FuncEq
open Go Go.RowKit
theorem run_equalIn_func {P:Program} (w:World) (d:Nat) (t:TypeId) {ps rs:Array TypeId} {b:Bool} (f:Fn) (ts cs:Array Value) (h:P.underlying t = some (.func ps rs b)):(Op.equalIn (d + 1) t (.func f ts cs) .nilFunc).run P w = .ok false w:=by
 simp [Op.equalIn,run_underlying h]
theorem run_eql_func_nil {P:Program} (w:World) (t:TypeId) {ps rs:Array TypeId} {b:Bool} (f:Fn) (ts cs:Array Value) (h:P.underlying t = some (.func ps rs b)):(binOp .eql t (.func f ts cs) .nilFunc).run P w = .ok (.bool false) w:=by
 simp only [binOp]
 simp [show Op.equal t (.func f ts cs) .nilFunc = Op.equalIn (9999 + 1) t (.func f ts cs) .nilFunc from rfl,run_equalIn_func w 9999 t f ts cs h]
end
section -- NEra
open Go Go.RowKit Go.Shelf
structure EraN where
 off:Int
 save:Int
 year:Int
 month:Int
 dk:Int
 dw:Int
 dn:Int
 sec:Int
 ak:Int
def eraP (e:EraN) (f:ByteArray):List Value:=[.int .i64 e.off,.string ⟨#[]⟩,.int .i64 e.save,.string f,.bool false,.int .i64 e.year,.int .i64 e.month,.int .i64 e.dk,.int .i64 e.dw,.int .i64 e.dn,.int .i64 e.sec,.int .i64 e.ak]
def eraPA (e:EraN) (f:ByteArray):Value:=.agg (eraP e f).toArray
def withinB (n:Int):Bool:=decide (-90000 < n) && decide (n < 90000)
def errP (e:EraN) (f:List UInt8):Int:=if (kindR f).2 = 0 then (if withinB e.off && withinB e.save then 0 else 10) else (kindR f).2
theorem kindR_cases (f:List UInt8):(kindR f).2 = 0∨kindR f = (0,12):=by
 unfold kindR
 split
 ·exact .inr rfl
 ·exact .inl rfl
theorem errP_off {e:EraN} {f:List UInt8} (h:(kindR f).2 = 0) (g:withinB e.off = false):errP e f = 10:=by unfold errP;rw [if_pos h,g];rfl
theorem errP_save {e:EraN} {f:List UInt8} (h:(kindR f).2 = 0) (g:withinB e.save = false):errP e f = 10:=by unfold errP;rw [if_pos h,g,Bool.and_false];rfl
theorem errP_ok {e:EraN} {f:List UInt8} (h:(kindR f).2 = 0) (g1:withinB e.off = true) (g2:withinB e.save = true):errP e f = 0:=by unfold errP;rw [if_pos h,g1,g2];rfl
theorem errP_form {e:EraN} {f:List UInt8} (h:kindR f = (0,12)):errP e f = 12:=by unfold errP;rw [h];rfl
theorem errP_cases (e:EraN) (f:List UInt8):errP e f = 0∨errP e f = 10∨errP e f = 12:=by
 rcases kindR_cases f with h | h
 ·cases g1:withinB e.off
  ·exact .inr (.inl (errP_off h g1))
  ·cases g2:withinB e.save
   ·exact .inr (.inl (errP_save h g2))
   ·exact .inl (errP_ok h g1 g2)
 ·exact .inr (.inr (errP_form h))
theorem errP_zero {e:EraN} {f:List UInt8} (h:errP e f = 0):(kindR f).2 = 0∧withinB e.off = true∧withinB e.save = true:=by
 rcases kindR_cases f with h0 | h0
 ·cases g1:withinB e.off
  ·rw [errP_off h0 g1] at h;cases h
  ·cases g2:withinB e.save
   ·rw [errP_save h0 g2] at h;cases h
   ·exact ⟨h0,rfl,rfl⟩
 ·rw [errP_form h0] at h;cases h
theorem within_any (n:Int) (w:World):Calls Tryz.prog 107 #[.int .i64 n] w fun o w'=>o = .returned (.bool (withinB n))∧w = w':=by
 unfold withinB
 by_cases h:-90000 < n
 ·have h2:decide (-90000 < n) = true:=by simpa using h
  rw [h2]
  clear h2
  go_enter Tryz.func107,Tryz.ntmps107
  go_wp2_with fail
  go_ret
  exact ⟨by simp,rfl⟩
 ·have h2:decide (-90000 < n) = false:=by simpa using h
  rw [h2]
  go_enter Tryz.func107,Tryz.ntmps107
  go_wp2_with fail
  go_ret
  exact ⟨rfl,rfl⟩
theorem within_at (n:Int) (b:Bool) (h:withinB n = b) (w:World):Calls Tryz.prog 107 #[.int .i64 n] w fun o w'=>o = .returned (.bool b)∧w = w':=by
 subst h;exact within_any n w
theorem saves_plain (e:EraN) (f:ByteArray) (l:Value) (i:Int) (w:World) :
  Calls Tryz.prog 89 #[eraPA e f,l,.int .i64 i] w fun o w'=>o = .returned (.tuple #[.int .i64 e.save,.string ⟨#[]⟩])∧Below w.heap.size w w':=by
 unfold eraPA eraP
 go_enter Tryz.func89,Tryz.ntmps89
 go_wp2_with fail
 go_ret2
 exact ⟨rfl,(Below.refl _ _).alloc (Nat.le_refl _) _⟩
theorem of_plain (sv:Value) (e:EraN) (f:ByteArray) (w:World) :
  Calls Tryz.prog 45 #[sv,eraPA e f] w fun o w'=>o = .returned (.slice none 0 0)∧Below w.heap.size w w':=by
 unfold eraPA eraP
 go_enter Tryz.func45,Tryz.ntmps45
 go_wp2_with fail
 go_ret
 exact ⟨rfl,(Below.refl _ _).alloc (Nat.le_refl _) _⟩
theorem check_plain (e:EraN) (f:ByteArray) (w:World) (hs:f.size < 4294967281) (hm:Tryz.MaxL w) :
  Calls Tryz.prog 66 #[eraPA e f,.bool true] w fun o w'=>o = .returned (.int .i64 (errP e f.data.toList))∧Below w.heap.size w w':=by
 unfold eraPA eraP
 have hb0:=(Below.refl w.heap.size w).alloc (Nat.le_refl _) (.cells #[.int .i64 e.off,.string ⟨#[]⟩,.int .i64 e.save,.string f,.bool false,.int .i64 e.year,.int .i64 e.month,.int .i64 e.dk,.int .i64 e.dw,.int .i64 e.dn,.int .i64 e.sec,.int .i64 e.ak] 42)
 have hblk:=Blk.new w 42 #[.int .i64 e.off,.string ⟨#[]⟩,.int .i64 e.save,.string f,.bool false,.int .i64 e.year,.int .i64 e.month,.int .i64 e.dk,.int .i64 e.dw,.int .i64 e.dn,.int .i64 e.sec,.int .i64 e.ak]
 rcases kindR_cases f.data.toList with h | h
 ·have HK:=fun W=>kind_at f hs _ _ (show kindR f.data.toList = ((kindR f.data.toList).1,0) by rw [← h]) W
  have H0:=Lib.hid h
  clear h
  generalize (kindR f.data.toList).1 = k at HK
  go_enter Tryz.func66,Tryz.ntmps66
  go_wp2_with fail
  refine (HK _ (hm.below hb0 (Nat.le_refl _))).mono ?_
  rintro o w1 ⟨rfl,hb⟩
  have hbl:=hblk.below hb hblk.lt
  have q0:=hbl.cell 0 (v:=.int .i64 e.off) rfl
  have q1:=hbl.cell 1 (v:=.string ⟨#[]⟩) rfl
  have q2:=hbl.cell 2 (v:=.int .i64 e.save) rfl
  have q4:=hbl.cell 4 (v:=.bool false) rfl
  have HB:=Lib.hid (hb0.trans (hb.mono hb0.size))
  clear hb hb0 hblk hbl hm
  cases g1:withinB e.off
  ·have H1:=within_at e.off _ g1
   go_wp2_with fail
   refine (H1 _).mono ?_
   rintro o w2 ⟨rfl,rfl⟩
   go_wp2_with fail
   go_ret
   exact ⟨by rw [errP_off H0.out g1];rfl,HB.out⟩
  ·have H1:=within_at e.off _ g1
   go_wp2_with fail
   refine (H1 _).mono ?_
   rintro o w2 ⟨rfl,rfl⟩
   cases g2:withinB e.save
   ·have H2:=within_at e.save _ g2
    go_wp2_with fail
    refine (H2 _).mono ?_
    rintro o w2 ⟨rfl,rfl⟩
    go_wp2_with fail
    go_ret
    exact ⟨by rw [errP_save H0.out g2];rfl,HB.out⟩
   ·have H2:=within_at e.save _ g2
    go_wp2_with fail
    refine (H2 _).mono ?_
    rintro o w2 ⟨rfl,rfl⟩
    go_wp2_with fail
    go_ret
    exact ⟨by rw [errP_ok H0.out g1 g2];rfl,HB.out⟩
 ·have HK:=fun W=>kind_at f hs _ _ h W
  have H0:=Lib.hid h
  clear h
  go_enter Tryz.func66,Tryz.ntmps66
  go_wp2_with fail
  refine (HK _ (hm.below hb0 (Nat.le_refl _))).mono ?_
  rintro o w1 ⟨rfl,hb⟩
  have HB:=Lib.hid (hb0.trans (hb.mono hb0.size))
  clear hb hb0 hblk hm
  go_wp2_with fail
  go_ret
  exact ⟨by rw [errP_form H0.out];rfl,HB.out⟩
def oneZ (nm:ByteArray) (b:Nat):Value:=.agg #[.string nm,.slice (some ⟨b,0,none⟩) 1 1]
abbrev OneE (W:World) (b:Nat) (e:EraN) (f:ByteArray):Prop:=Blk W b 42 (eraP e f).toArray
theorem OneE.cells {W:World} {b:Nat} {e:EraN} {f:ByteArray} (h:OneE W b e f):W.cell? ⟨b,0,none⟩ = some (.int .i64 e.off)∧W.cell? ⟨b,1,none⟩ = some (.string ⟨#[]⟩)∧W.cell? ⟨b,2,none⟩ = some (.int .i64 e.save)∧W.cell? ⟨b,3,none⟩ = some (.string f) ∧
  W.cell? ⟨b,4,none⟩ = some (.bool false)∧W.cell? ⟨b,5,none⟩ = some (.int .i64 e.year)∧W.cell? ⟨b,6,none⟩ = some (.int .i64 e.month)∧W.cell? ⟨b,7,none⟩ = some (.int .i64 e.dk)∧W.cell? ⟨b,8,none⟩ = some (.int .i64 e.dw)∧W.cell? ⟨b,9,none⟩ = some (.int .i64 e.dn)∧W.cell? ⟨b,10,none⟩ = some (.int .i64 e.sec)∧W.cell? ⟨b,11,none⟩ = some (.int .i64 e.ak) :=
 ⟨Blk.cell h 0 rfl,Blk.cell h 1 rfl,Blk.cell h 2 rfl,Blk.cell h 3 rfl,Blk.cell h 4 rfl,Blk.cell h 5 rfl,Blk.cell h 6 rfl,Blk.cell h 7 rfl,Blk.cell h 8 rfl,Blk.cell h 9 rfl,Blk.cell h 10 rfl,Blk.cell h 11 rfl⟩
theorem checkZ_one (nm:ByteArray) (b:Nat) (g:Fn) (ts cs:Array Value) (e:EraN) (f:ByteArray) (w:World) (hs:f.size < 4294967281) (hm:Tryz.MaxL w) (he:OneE w b e f) :
  Calls Tryz.prog 25 #[oneZ nm b,.func g ts cs] w fun o w'=>o = .returned (.int .i64 (errP e f.data.toList))∧Below w.heap.size w w':=by
 unfold oneZ
 have heq:=fun (w:World)=>run_eql_func_nil w 90 g ts cs Tryz.underlying90
 have hb0:=Blk.new w 24 #[.string nm,.slice (some ⟨b,0,none⟩) 1 1]
 go_enter Tryz.func25,Tryz.ntmps25
 go_wp2_with fail
 have hbl:b < w.heap.size:=Blk.lt he
 obtain ⟨c0,c1,c2,c3,c4,c5,c6,c7,c8,c9,c10,c11⟩:=he.cells
 have hbz:b ≠ w.heap.size:=Nat.ne_of_lt hbl
 refine wp_loop_rounds 2 ?_
 rw [rounds_succ]
 go_wp2_with fail
 rw [rounds_succ]
 go_wp2_with fail
 refine wp_loop_rounds 2 ?_
 rw [rounds_succ]
 go_wp2_with fail
 have hbw:Below w.heap.size w (((w.alloc (.cells #[.string nm,.slice (some ⟨b,0,none⟩) 1 1] 24)).alloc (.cells (eraP e f).toArray 42)).alloc (.cells (eraP e f).toArray 42)):=(((Below.refl _ _).alloc (Nat.le_refl _) _).alloc (by simp) _).alloc (by simp;omega) _
 have HC:=Lib.hid (check_plain e f _ hs (hm.below hbw (Nat.le_refl _)))
 unfold eraPA eraP at HC
 unfold eraP at hbw
 refine HC.out.mono ?_
 rintro o w1 ⟨rfl,hb⟩
 clear HC
 have hz:=((hb0.alloc (.cells (eraP e f).toArray 42)).alloc (.cells (eraP e f).toArray 42))
 unfold eraP at hz
 have hz1:=hz.below hb hz.lt
 have z1:=hz1.cell 1 (v:=.slice (some ⟨b,0,none⟩) 1 1) rfl
 have HB:=Lib.hid (hbw.trans (hb.mono hbw.size))
 clear hbw hb hz hz1 c0 c1 c2 c3 c4 c5 c6 c7 c8 c9 c10 c11
 rcases errP_cases e f.data.toList with h | h
 ·have H0:=Lib.hid h
  rw [h]
  clear h
  go_wp2_with fail
  rw [rounds_succ]
  go_wp2_with fail
  refine wp_loop_rounds 1 ?_
  rw [rounds_succ]
  go_wp2_with fail
  go_ret
  exact ⟨by rw [H0.out];rfl,HB.out⟩
 ·have he2:(errP e f.data.toList != 0) = true:=by rcases h with h | h <;> rw [h] <;> rfl
  clear h
  go_wp2_with fail
  go_ret
  exact ⟨rfl,HB.out⟩
end
section -- EnvS
open Go Go.RowKit
section
variable {P:Program} {n:Nat} {ops:Array Oper}
def envSB (ops:Array Oper) (D:List Nat) (st:Nat):Bool :=
 invB ops D && (List.range ops.size).all fun i=>match ops[i]? with
  | some o=>(match o.op with | .defer ..=>false | .select ..=>false | _=>true) && (if i = st then o.dst.isNone else o.dst == some (D.getD i 0)) &&
    (o.looksAt ops).all fun s=>!D.contains s || (List.range i).any fun j=>D.getD j 0 == s && o.after.any fun e=>Region.binds .any e && e.on == j
  | none=>true
def envSRes (P:Program) (T:Nat→Prop) (p:World→Prop) (st:Bool) (v:Value) (w:World):Result Next→Prop
 | .ok (.value u) w'=>st = false∧u = v∧Below w.heap.size w w'
 | .ok .skip w'=>st = true∧v = undef∧Fr T w w'∧p w'
 | .ok (.enter f args) w'=>st = false∧w' = w∧Calls P f args w fun e w''=>e = .returned v∧Below w.heap.size w w''
 | _=>False
def EnvSStep (P:Program) (ops:Array Oper) (fin:Act) (w0:World) (T:Nat→Prop) (p:World→Prop) (st:Bool) (o:Oper) (v:Value):Prop :=
 (Region.wanted o (yielded ops fin.tmps) = false∧v = undef∧st = false)∨(Region.wanted o (yielded ops fin.tmps) = true∧∀ w,(st = true→Below w0.heap.size w0 w)→Fr T w0 w→envSRes P T p st v w ((execOp fin.eval o).run P w))
def EnvSSteps (P:Program) (ops:Array Oper) (fin:Act) (w0:World) (T:Nat→Prop) (p:World→Prop):Nat→Nat→List Oper→List Value→Prop
 | st,k,o :: l,v :: V=>EnvSStep P ops fin w0 T p (k == st) o v∧EnvSSteps P ops fin w0 T p st (k + 1) l V
 | _,_,[],[]=>True
 | _,_,_,_=>False
theorem envSSteps_at {fin:Act} {w0:World} {T:Nat→Prop} {p:World→Prop} {st:Nat}:∀ {l:List Oper} {V:List Value} {k:Nat},EnvSSteps P ops fin w0 T p st k l V→∀ {j:Nat} {o:Oper},l[j]? = some o→EnvSStep P ops fin w0 T p (k + j == st) o (V.getD j undef)
 | [],_,_,_,_,_,h=>by simp at h
 | _ :: _,[],_,hs,_,_,_=>hs.elim
 | x :: l,v :: V,k,hs,0,o,h=>by
   simp only [List.getElem?_cons_zero,Option.some.injEq] at h
   subst h
   exact hs.1
 | x :: l,v :: V,k,hs,j + 1,o,h=>by
   rw [List.getElem?_cons_succ] at h
   have:=envSSteps_at hs.2 h
   rw [show k + 1 + j = k + (j + 1) by omega] at this
   simpa using this
theorem envSSteps_len {fin:Act} {w0:World} {T:Nat→Prop} {p:World→Prop} {st:Nat}:∀ {l:List Oper} {V:List Value} {k:Nat},EnvSSteps P ops fin w0 T p st k l V→V.length = l.length
 | [],[],_,_=>rfl
 | [],_ :: _,_,h=>h.elim
 | _ :: _,[],_,h=>h.elim
 | _ :: l,_ :: V,_,h=>by simp [envSSteps_len h.2]
theorem wpIn_envS {F:Fence} (hF:Wide F) {id:Nat} {l:List Oper} {Q:Exit→Act→World→Prop} {a:Act} {w:World} (hm:P.follows .mixedOrders = true) (D:List Nat) (V:List Value) (st:Nat) (T:Nat→Prop) (p:World→Prop) (hp:∀ W W',p W→Below W.heap.size W W'→p W')
  (hb:envSB l.toArray D st = true) (hst:st < D.length) (hsz:a.tmps.size ≤ D.getD st 0) {fin:Act} (hfin:putAll a D V = fin)
  (hstep:EnvSSteps P l.toArray fin w T p st 0 l V) (hend:∀ w',Fr T w w'→p w'→Q .normal fin w'):(Code.region id l.toArray true).wpIn F n P Q a w:=by
 unfold envSB at hb
 rw [Bool.and_eq_true] at hb
 obtain ⟨hi,hb⟩:=hb
 have hi':=hi
 simp only [invB,Bool.and_eq_true,decide_eq_true_eq] at hi'
 obtain ⟨⟨-,hlen⟩,hnd⟩:=hi'
 have hV:V.length = D.length:=by rw [envSSteps_len hstep,hlen];simp
 have hfin:frameOf a D (valOf D V) = fin:=by
  rw [← hfin]
  exact putAll_eq D V a _ hV fun i hi=>by unfold valOf;rw [idxOf_getD hnd hi]
 refine wpIn_inv hm D (fun L x w'=>Fr T w w'∧(∀ i,i < D.length→L i = true→x (D.getD i 0) = V.getD i undef)∧(L st = true→p w')∧(L st = false→Below w.heap.size w w')) hi (fun x=>⟨Fr.of_below ((Below.refl w.heap.size w).drew) (Nat.le_refl _),(fun i _ h=>by cases h),(fun h=>by cases h),(fun _=>(Below.refl _ _).drew)⟩) ?_ ?_
 ·have main:∀ (i:Nat) (o:Oper),l[i]? = some o→StepI F n P l.toArray a D (fun L x w'=>Fr T w w'∧(∀ i,i < D.length→L i = true→x (D.getD i 0) = V.getD i undef)∧(L st = true→p w')∧(L st = false→Below w.heap.size w w')) i o:=by
   intro k o hlk L x w1 R hI hsh hLk hr hR
   obtain ⟨hfr,hx,hpL,hbL⟩:=hI
   have hkl:k < l.length:=(List.getElem?_eq_some_iff.1 hlk).1
   have ho:l.toArray[k]? = some o:=by simpa using hlk
   have hkD:k < D.length:=by rw [hlen];simpa using hkl
   have hst1:=envSSteps_at hstep hlk
   rw [Nat.zero_add] at hst1
   have hb1:=List.all_eq_true.1 hb k (List.mem_range.2 (by simpa using hkl))
   rw [ho] at hb1
   simp only [Bool.and_eq_true] at hb1
   obtain ⟨⟨hop,hdst⟩,hlook⟩:=hb1
   have hndf:∀ c,o.op ≠ .defer c:=fun c hc=>by rw [hc] at hop;cases hop
   have hnsl:∀ cs b,o.op ≠ .select cs b:=fun c b hc=>by rw [hc] at hop;cases hop
   have hsame:∀ s,s ∈ o.looksAt l.toArray→(frameOf a D x).tmps[s]? = fin.tmps[s]?:=by
    intro s hs
    rw [← hfin,frameOf_tmps,frameOf_tmps]
    by_cases hD:s ∈ D
    ·have:=List.all_eq_true.1 hlook s hs
     rw [Bool.or_eq_true] at this
     rcases this with h | h
     ·simp [hD] at h
     ·obtain ⟨j,hj,hj2⟩:=List.any_eq_true.1 h
      rw [Bool.and_eq_true] at hj2
      obtain ⟨hjs,hje⟩:=hj2
      have hjs:D.getD j 0 = s:=by simpa using hjs
      have hjk:=List.mem_range.1 hj
      have h1:=hx j (by omega) (hr j hje)
      rw [hjs] at h1
      have h2:x s = valOf D V s:=by
       have e:D.idxOf s = j:=by rw [← hjs];exact idxOf_getD hnd (by omega)
       unfold valOf
       rw [e]
       exact h1
      rw [h2]
    ·simp [hD]
   have hev:∀ y ∈ o.op.operands,(frameOf a D x).eval y = fin.eval y:=by
    intro y hy
    cases y with
    | tmp s =>
      have h1:=hsame s (List.mem_append_left _ (List.mem_filterMap.2 ⟨.tmp s,by simpa using hy,rfl⟩))
      show (frameOf a D x).tmps.getD s undef = fin.tmps.getD s undef
      simp only [Array.getD_eq_getD_getElem?,h1]
    | _=>rfl
   have hex:=execOp_congr (ρ:=(frameOf a D x).eval) (ρ':=fin.eval) o hnsl hev
   have hwa:Region.wanted o (yielded l.toArray (frameOf a D x).tmps) = Region.wanted o (yielded l.toArray fin.tmps):=by
    unfold Region.wanted
    cases hg:o.guard with
    | none=>rfl
    | some g =>
      obtain ⟨g,b⟩:=g
      dsimp only
      unfold yielded
      cases hd:(l.toArray[g]?).bind (·.dst) with
      | none=>rfl
      | some d =>
        have h1:=hsame d (List.mem_append_right _ (by rw [hg];show d ∈ ((l.toArray[g]?).bind (·.dst)).toList;rw [hd];simp))
        simp only [Option.bind_some,h1]
   have hmem:D.getD k 0 ∈ D:=by rw [List.getD_eq_getElem?_getD,List.getElem?_eq_getElem hkD];exact List.getElem_mem hkD
   have hnew:∀ w',Fr T w w'→((k == st) = true→p w')→(∀ W,p w1→(k == st) = false→Below w1.heap.size w1 W→p W)→((k == st) = false→Below w1.heap.size w1 w') →
     (Fr T w w'∧(∀ i,i < D.length→more L k i = true→upd x (D.getD k 0) (V.getD k undef) (D.getD i 0) = V.getD i undef)∧(more L k st = true→p w')∧(more L k st = false→Below w.heap.size w w')):=by
    intro w' h1 h2 h3 h4
    refine ⟨h1,fun i hiD hm=>?_,fun hm=>?_,fun hm=>?_⟩
    ·by_cases hik:i = k
     ·subst hik;rw [upd_same]
     ·have hne:D.getD i 0 ≠ D.getD k 0:=by
       rw [List.getD_eq_getElem?_getD,List.getD_eq_getElem?_getD,List.getElem?_eq_getElem hiD,List.getElem?_eq_getElem hkD]
       intro e
       simp only [Option.getD_some] at e
       have hpw:=List.pairwise_iff_getElem.1 hnd
       rcases Nat.lt_or_ge i k with h | h
       ·exact hpw i k hiD hkD h e
       ·exact hpw k i hkD hiD (by omega) e.symm
      rw [upd_other x _ hne]
      have:L i = true:=by
       unfold more at hm
       rw [decide_eq_false hik] at hm
       simpa using hm
      exact hx i hiD this
    ·cases hks:(k == st) with
     | true=>exact h2 hks
     | false =>
       have hne:¬ st = k:=(fun e=>by subst e;simp at hks)
       have:L st = true:=by
        unfold more at hm
        rw [decide_eq_false hne] at hm
        simpa using hm
       exact h3 w' (hpL this) hks (h4 hks)
    ·unfold more at hm
     rw [Bool.or_eq_false_iff] at hm
     have hne:¬ st = k:=of_decide_eq_false hm.1
     have hB:=hbL hm.2
     exact hB.trans ((h4 (by simpa using (fun e=>hne e.symm))).mono hB.size)
   unfold wpListIn
   rw [hwa]
   have hput:(k == st) = false→∀ v,(frameOf a D x).put o.dst v = frameOf a D (upd x (D.getD k 0) v):=fun hks v=>by
    rw [if_neg (fun e=>by subst e;simp at hks)] at hdst
    have hdst:o.dst = some (D.getD k 0):=by simpa using hdst
    rw [hdst]
    exact frameOf_put D x a _ hmem v
   rcases hst1 with ⟨h1,h2,h3⟩ | ⟨h1,h2⟩
   ·rw [if_neg (by rw [h1];simp)]
    refine ⟨fun f _=>hF.fn f,?_⟩
    rw [hput h3,← h2]
    exact hR _ _ (hnew w1 hfr (fun h=>by rw [h3] at h;cases h) (fun W hpw _ hbW=>hp _ _ hpw hbW) (fun _=>Below.refl _ _))
   ·rw [if_pos h1]
    refine ⟨fun f _=>hF.fn f,?_⟩
    rw [Oper.semAt_plain F _ o hndf,hex]
    have hks0:(k == st) = true→L st = false:=fun h=>by
     have e:k = st:=by simpa using h
     rw [← e]
     exact hLk
    have h3:=h2 w1 (fun h=>hbL (hks0 h)) hfr
    generalize (execOp fin.eval o).run P w1 = r at h3
    cases r with
    | halt hh w'=>exact h3.elim
    | ok nx w' =>
      cases nx with
      | value u =>
        obtain ⟨hks,rfl,hbw⟩:=h3
        rw [Oper.uponIn_value,hput hks]
        exact hR _ _ (hnew w' (hfr.then (Fr.of_below hbw (Nat.le_refl _))) (fun h=>by rw [hks] at h;cases h) (fun W hpw _ hbW=>hp _ _ hpw hbW) (fun _=>hbw))
      | skip =>
        obtain ⟨hks,hvu,hfw,hpw'⟩:=h3
        have hkst:k = st:=by simpa using hks
        subst hkst
        rw [if_pos rfl] at hdst
        have hdn:o.dst = none:=by simpa using hdst
        rw [Oper.uponIn_skip,hdn]
        have e:(frameOf a D x).put none undef = frameOf a D (upd x (D.getD k 0) (V.getD k undef)):=by
         show frameOf a D x = _
         have h1:(frameOf a D x).tmps = (frameOf a D (upd x (D.getD k 0) (V.getD k undef))).tmps:=by
          apply Array.ext_getElem?
          intro s
          rw [frameOf_tmps,frameOf_tmps]
          by_cases hs:s < a.tmps.size
          ·rw [upd_other x _ (show s ≠ D.getD k 0 by omega)]
          ·simp [hs]
         have h2:(frameOf a D x).defers = (frameOf a D (upd x (D.getD k 0) (V.getD k undef))).defers:=by rw [frameOf_defers,frameOf_defers]
         generalize frameOf a D x = p1 at h1 h2
         generalize frameOf a D (upd x (D.getD k 0) (V.getD k undef)) = q1 at h1 h2
         cases p1
         cases q1
         simp only at h1 h2
         subst h1 h2
         rfl
        rw [e]
        exact hR _ _ (hnew w' (hfr.then hfw) (fun _=>hpw') (fun W _ h=>by simp at h) (fun h=>by simp at h))
      | enter f args =>
        obtain ⟨hks,rfl,hc⟩:=h3
        rw [Oper.uponIn_enter]
        refine ⟨(fun h=>by rw [hF.depth] at h;cases h),(hF.calls hc).mono ?_⟩
        rintro e w'' ⟨rfl,hbw⟩
        show wpListIn F n P l.toArray _ [] ((frameOf a D x).put o.dst (V.getD k undef)) w''
        rw [hput hks]
        exact hR _ _ (hnew w'' (hfr.then (Fr.of_below hbw (Nat.le_refl _))) (fun h=>by rw [hks] at h;cases h) (fun W hpw _ hbW=>hp _ _ hpw hbW) (fun _=>hbw))
      | _=>exact h3.elim
  have all:∀ (m:List Oper) (k:Nat),(∀ j,m[j]? = l[k + j]?)→StepsI F n P l.toArray a D (fun L x w'=>Fr T w w'∧(∀ i,i < D.length→L i = true→x (D.getD i 0) = V.getD i undef)∧(L st = true→p w')∧(L st = false→Below w.heap.size w w')) k m:=by
   intro m
   induction m with
   | nil=>intro k _;trivial
   | cons o m ih =>
     intro k hk
     exact ⟨main k o (by simpa using (hk 0).symm),ih (k + 1) fun j=>by have:=hk (j + 1);simpa [Nat.add_assoc,Nat.add_comm 1 j] using this⟩
  exact all l 0 fun j=>by simp
 ·rintro x w' L hL ⟨h1,h2,h3,-⟩
  have e:frameOf a D x = fin:=by
   rw [← hfin]
   refine frameOf_congr D _ _ a fun s hs=>?_
   obtain ⟨j,hj,rfl⟩:=List.getElem_of_mem hs
   have h4:=h2 j hj (hL j (by omega))
   rw [List.getD_eq_getElem?_getD,List.getElem?_eq_getElem hj] at h4
   have h4:x D[j] = V.getD j undef:=h4
   unfold valOf
   rw [List.Nodup.idxOf_getElem hnd j hj]
   exact h4
  rw [e]
  exact hend w' h1 (h3 (hL st (by omega)))
theorem wp_envS {id:Nat} {l:List Oper} {Q:Exit→Act→World→Prop} {a:Act} {w:World} (hm:P.follows .mixedOrders = true) (D:List Nat) (V:List Value) (st:Nat) (T:Nat→Prop) (p:World→Prop) (hp:∀ W W',p W→Below W.heap.size W W'→p W')
  (hb:envSB l.toArray D st = true) (hst:st < D.length) (hsz:a.tmps.size ≤ D.getD st 0) {fin:Act} (hfin:putAll a D V = fin)
  (hstep:EnvSSteps P l.toArray fin w T p st 0 l V) (hend:∀ w',Fr T w w'→p w'→Q .normal fin w'):(Code.region id l.toArray true).wp P Q a w :=
 (wpIn_wide (n:=8)).1 (wpIn_envS wide0 hm D V st T p hp hb hst hsz hfin hstep hend)
end
end
section -- NAt
open Go Go.RowKit Go.Shelf
theorem ends_one (nm:ByteArray) (b:Nat) (g:Fn) (ts cs:Array Value) (e:EraN) (f:ByteArray) (w:World) (hs:f.size < 4294967281) (hm:Tryz.MaxL w) (he:OneE w b e f) :
  Calls Tryz.prog 14 #[oneZ nm b,.func g ts cs] w fun o w'=>o = .returned (.tuple #[.slice none 0 0,.int .i64 (errP e f.data.toList)])∧Below w.heap.size w w':=by
 have hb0:=(Below.refl w.heap.size w).alloc (Nat.le_refl _) (.cells #[.string nm,.slice (some ⟨b,0,none⟩) 1 1] 24)
 have hz0:=Blk.new w 24 #[.string nm,.slice (some ⟨b,0,none⟩) 1 1]
 have HC:=Lib.hid (checkZ_one nm b g ts cs e f _ hs (hm.below hb0 (Nat.le_refl _)) (Blk.below he hb0 (Blk.lt he)))
 unfold oneZ at HC ⊢
 go_enter Tryz.func14,Tryz.ntmps14
 go_wp2_with fail
 refine HC.out.mono ?_
 rintro o w1 ⟨rfl,hb⟩
 have hz1:=hz0.below hb hz0.lt
 have z1:=hz1.cell 1 (v:=.slice (some ⟨b,0,none⟩) 1 1) rfl
 have HB:=Lib.hid (hb0.trans (hb.mono hb0.size))
 clear HC hb hb0 hz0 hz1
 rcases errP_cases e f.data.toList with h | h
 ·have H0:=Lib.hid h
  rw [h]
  clear h
  go_wp2_with fail
  refine wp_loop_rounds 1 ?_
  rw [rounds_succ]
  go_wp2_with fail
  go_ret2
  exact ⟨by rw [H0.out];rfl,HB.out⟩
 ·have he2:(errP e f.data.toList != 0) = true:=by rcases h with h | h <;> rw [h] <;> rfl
  clear h
  go_wp2_with fail
  go_ret2
  exact ⟨rfl,HB.out⟩
theorem era_none (i:Int) (w:World):Calls Tryz.prog 50 #[.slice none 0 0,.int .i64 i] w fun o w'=>o = .returned (.int .i64 0)∧w = w':=by
 go_enter Tryz.func50,Tryz.ntmps50
 go_wp2_with fail
 refine wp_loop_rounds 1 ?_
 rw [rounds_succ]
 go_wp2_with fail
 go_ret
 exact ⟨rfl,rfl⟩
def Shows (f:ByteArray) (off:Int) (dst:Bool) (letter s:ByteArray) (err:Int):Prop:=∀ W,Tryz.MaxL W→Calls Tryz.prog 73 #[.string f,.int .i64 off,.bool dst,.string letter] W fun o w'=>o = .returned (.tuple #[.string s,.int .i64 err])∧Below W.heap.size W w'
def dstB (n:Int):Bool:=n != 0
def withinR (off:Int) (dst:Bool) (s:ByteArray) (err:Int):Value:=if err = 0 then .tuple #[.agg #[.int .i64 off,.bool dst,.string s],.int .i64 0] else .tuple #[.agg #[.int .i64 0,.bool false,.string ⟨#[]⟩],.int .i64 err]
theorem withinB_iff {n:Int}:withinB n = true ↔ -90000 < n∧n < 90000:=by simp [withinB]
theorem within_plain (e:EraN) (f:ByteArray) (l:Value) (i:Int) (w:World) (hm:Tryz.MaxL w) (h1:withinB e.off = true) (h2:withinB e.save = true) (s:ByteArray) (err:Int) (hsh:Shows f (e.off + e.save) (dstB e.save) ⟨#[]⟩ s err) :
  Calls Tryz.prog 51 #[eraPA e f,l,.int .i64 i] w fun o w'=>o = .returned (withinR (e.off + e.save) (dstB e.save) s err)∧Below w.heap.size w w':=by
 obtain ⟨b1,b2⟩:=withinB_iff.1 h1
 obtain ⟨b3,b4⟩:=withinB_iff.1 h2
 clear h1 h2
 have HS:=fun W=>saves_plain e f l i W
 have HSH:=Lib.hid hsh
 clear hsh
 have hb0:Below w.heap.size w ((w.alloc (.cells (eraP e f).toArray 42)).alloc (.cells #[.int .i64 0,.bool false,.string ⟨#[]⟩] 48)):=((Below.refl _ _).alloc (Nat.le_refl _) _).alloc (by simp) _
 have he0:=(Blk.new w 42 (eraP e f).toArray).alloc (.cells #[.int .i64 0,.bool false,.string ⟨#[]⟩] 48)
 have hr0:=Blk.new (w.alloc (.cells (eraP e f).toArray 42)) 48 #[.int .i64 0,.bool false,.string ⟨#[]⟩]
 rw [World.size_alloc] at hr0
 unfold eraPA at HS ⊢
 unfold eraP at HS hb0 he0 hr0 ⊢
 have hm0:=hm.below hb0 (Nat.le_refl _)
 go_enter Tryz.func51,Tryz.ntmps51
 go_wp2_with fail
 refine (HS _).mono ?_
 rintro o w1 ⟨rfl,hb⟩
 have hm1:=hm0.below hb (Nat.le_refl _)
 have he1:=he0.below hb he0.lt
 have hr1:=hr0.below hb hr0.lt
 have hb1:=hb0.trans (hb.mono hb0.size)
 have q0:=he1.cell 0 (v:=.int .i64 e.off) rfl
 have q3:=he1.cell 3 (v:=.string f) rfl
 clear hb hb0 he0 hr0 hm0 HS hm
 unfold dstB at HSH
 have HM:=Lib.hid hm1
 have HE:=Lib.hid he1
 have HR:=Lib.hid hr1
 have HB:=Lib.hid hb1
 clear hm1 he1 hr1 hb1
 go_wp2_with fail
 refine (HSH.out _ HM.out).mono ?_
 rintro o w2 ⟨rfl,hb⟩
 have he2:=HE.out.below hb HE.out.lt
 have hr2:=HR.out.below hb HR.out.lt
 have HB2:=Lib.hid (HB.out.trans (hb.mono HB.out.size))
 have q0':=he2.cell 0 (v:=.int .i64 e.off) rfl
 have r0:=hr2.cell 0 (v:=.int .i64 0) rfl
 have r1:=hr2.cell 1 (v:=.bool false) rfl
 have r2:=hr2.cell 2 (v:=.string ⟨#[]⟩) rfl
 have rf0:=hr2.frozen 0
 have rf1:=hr2.frozen 1
 have rf2:=hr2.frozen 2
 have HR2:=Lib.hid hr2
 clear hb he2 hr2 q0 q3 HM HE HR HB HSH
 by_cases h0:err = 0
 ·subst h0
  go_wp2_with fail
  refine bodyPost_ret (v:=.tuple #[.agg #[.int .i64 (e.off + e.save),.bool (e.save != 0),.string s],.int .i64 0]) ?_ rfl ⟨rfl,((HB2.out.setCell (Nat.le_add_right _ _) _).setCell (Nat.le_add_right _ _) _).setCell (Nat.le_add_right _ _) _⟩
  have HW:=((HR2.out.set 0 (.int .i64 (e.off + e.save))).set 1 (.bool (e.save != 0))).set 2 (.string s)
  have c0:=HW.cell 0 (v:=.int .i64 (e.off + e.save)) rfl
  have c1:=HW.cell 1 (v:=.bool (e.save != 0)) rfl
  have c2:=HW.cell 2 (v:=.string s) rfl
  simp [results,Tryz.f51,go_sem,c0,c1,c2]
 ·have h1:(err != 0) = true:=by simpa using h0
  have h2:=Lib.hid h0
  clear h0
  go_wp2_with fail
  refine bodyPost_ret (v:=.tuple #[.agg #[.int .i64 (0),.bool (false),.string ⟨#[]⟩],.int .i64 err]) ?_ rfl ⟨by unfold withinR;rw [if_neg h2.out],((HB2.out.setCell (Nat.le_add_right _ _) _).setCell (Nat.le_add_right _ _) _).setCell (Nat.le_add_right _ _) _⟩
  have HW:=((HR2.out.set 0 (.int .i64 (0))).set 1 (.bool (false))).set 2 (.string ⟨#[]⟩)
  have c0:=HW.cell 0 (v:=.int .i64 (0)) rfl
  have c1:=HW.cell 1 (v:=.bool (false)) rfl
  have c2:=HW.cell 2 (v:=.string ⟨#[]⟩) rfl
  simp [results,Tryz.f51,go_sem,c0,c1,c2]
theorem at_one (nm:ByteArray) (b:Nat) (g:Fn) (ts cs:Array Value) (e:EraN) (f:ByteArray) (i:Int) (w:World) (hs:f.size < 4294967281) (hm:Tryz.MaxL w) (he:OneE w b e f) (h1:-2199023255552 ≤ i) (h2:i ≤ 2199023255552) (h0:errP e f.data.toList = 0) (s:ByteArray) (err:Int) (hsh:Shows f (e.off + e.save) (dstB e.save) ⟨#[]⟩ s err) :
  Calls Tryz.prog 19 #[oneZ nm b,.func g ts cs,.int .i64 i] w fun o w'=>o = .returned (withinR (e.off + e.save) (dstB e.save) s err)∧Below w.heap.size w w':=by
 obtain ⟨-,g1,g2⟩:=errP_zero h0
 have hb0:Below w.heap.size w ((w.alloc (.cells #[.string nm,.slice (some ⟨b,0,none⟩) 1 1] 24)).alloc (.cells #[.int .i64 0,.bool false,.string ⟨#[]⟩] 48)):=((Below.refl _ _).alloc (Nat.le_refl _) _).alloc (by simp) _
 have hz0:=(Blk.new w 24 #[.string nm,.slice (some ⟨b,0,none⟩) 1 1]).alloc (.cells #[.int .i64 0,.bool false,.string ⟨#[]⟩] 48)
 have hr0:=Blk.new (w.alloc (.cells #[.string nm,.slice (some ⟨b,0,none⟩) 1 1] 24)) 48 #[.int .i64 0,.bool false,.string ⟨#[]⟩]
 rw [World.size_alloc] at hr0
 have hm0s:=hm
 have hm0:=hm.below hb0 (Nat.le_refl _)
 have he0:OneE _ b e f:=Blk.below he hb0 (Blk.lt he)
 have HC:=Lib.hid (ends_one nm b g ts cs e f _ hs hm0 he0)
 rw [h0] at HC
 have hbl:=Blk.lt he
 unfold oneZ at HC ⊢
 clear h0
 go_enter Tryz.func19,Tryz.ntmps19
 go_wp2_with fail
 refine HC.out.mono ?_
 rintro o w1 ⟨rfl,hb⟩
 have hm1:=hm0.below hb (Nat.le_refl _)
 have hz1:=hz0.below hb hz0.lt
 have hr1:=hr0.below hb hr0.lt
 have hb1:=hb0.trans (hb.mono hb0.size)
 have he1:OneE _ b e f:=Blk.below he0 hb (Blk.lt he0)
 have z1:=hz1.cell 1 (v:=.slice (some ⟨b,0,none⟩) 1 1) rfl
 obtain ⟨c0,c1,c2,c3,c4,c5,c6,c7,c8,c9,c10,c11⟩:=he1.cells
 clear hb hb0 he0 hr0 hm0 hm hz0 hz1 he HC
 have HM:=Lib.hid hm1
 have HR:=Lib.hid hr1
 have HB:=Lib.hid hb1
 clear hm1 he1 hr1 hb1
 go_wp2_with fail
 have HM0:=Lib.hid hm0s
 have hbl1:b < w1.heap.size:=Nat.lt_of_lt_of_le hbl HB.out.size
 have hzl1:w.heap.size < w1.heap.size:=by have:=HR.out.lt;omega
 have hzl2:w.heap.size + 1 < w1.heap.size:=HR.out.lt
 go_region_held3 (fun w'=>w'.cell? ⟨w.heap.size,1,none⟩ = some (.slice (some ⟨b,0,none⟩) 1 1)∧w'.cell? ⟨b,0,none⟩ = some (.int .i64 e.off)∧w'.cell? ⟨b,1,none⟩ = some (.string ⟨#[]⟩)∧w'.cell? ⟨b,2,none⟩ = some (.int .i64 e.save)∧w'.cell? ⟨b,3,none⟩ = some (.string f)∧w'.cell? ⟨b,4,none⟩ = some (.bool false)∧w'.cell? ⟨b,5,none⟩ = some (.int .i64 e.year)∧w'.cell? ⟨b,6,none⟩ = some (.int .i64 e.month)∧w'.cell? ⟨b,7,none⟩ = some (.int .i64 e.dk)∧w'.cell? ⟨b,8,none⟩ = some (.int .i64 e.dw)∧w'.cell? ⟨b,9,none⟩ = some (.int .i64 e.dn)∧w'.cell? ⟨b,10,none⟩ = some (.int .i64 e.sec)∧w'.cell? ⟨b,11,none⟩ = some (.int .i64 e.ak)) (first | exact ⟨z1,c0,c1,c2,c3,c4,c5,c6,c7,c8,c9,c10,c11⟩ | go_keep)
  (first | (go_at_call 50;refine (era_none _ _).mono ?_;rintro o w' ⟨rfl,rfl⟩))
 all_goals
  rename_i K0 hK0 hh
  clear hh
  refine hK0 _ _ ?_
  clear hK0
  go_wp2_with fail
  have hb6:Below w.heap.size w (w1.alloc (.cells #[.int .i64 e.off,.string ⟨#[]⟩,.int .i64 e.save,.string f,.bool false,.int .i64 e.year,.int .i64 e.month,.int .i64 e.dk,.int .i64 e.dw,.int .i64 e.dn,.int .i64 e.sec,.int .i64 e.ak] 42)).drew:=(HB.out.alloc HB.out.size _).drew
  have he6:OneE (w1.alloc (.cells #[.int .i64 e.off,.string ⟨#[]⟩,.int .i64 e.save,.string f,.bool false,.int .i64 e.year,.int .i64 e.month,.int .i64 e.dk,.int .i64 e.dw,.int .i64 e.dn,.int .i64 e.sec,.int .i64 e.ak] 42)).drew w1.heap.size e f:=Blk.new w1 42 (eraP e f).toArray
  have hr6:Blk (w1.alloc (.cells #[.int .i64 e.off,.string ⟨#[]⟩,.int .i64 e.save,.string f,.bool false,.int .i64 e.year,.int .i64 e.month,.int .i64 e.dk,.int .i64 e.dw,.int .i64 e.dn,.int .i64 e.sec,.int .i64 e.ak] 42)).drew (w.heap.size + 1) 48 #[.int .i64 0,.bool false,.string ⟨#[]⟩]:=HR.out.alloc _
  obtain ⟨W6,hW6⟩:∃ W,(w1.alloc (.cells #[.int .i64 e.off,.string ⟨#[]⟩,.int .i64 e.save,.string f,.bool false,.int .i64 e.year,.int .i64 e.month,.int .i64 e.dk,.int .i64 e.dw,.int .i64 e.dn,.int .i64 e.sec,.int .i64 e.ak] 42)).drew = W:=⟨_,rfl⟩
  rw [hW6] at hb6 he6 hr6 ⊢
  clear hW6 c0 c1 c2 c3 c4 c5 c6 c7 c8 c9 c10 c11 z1 HM HR HB
  have HB6:=Lib.hid hb6
  have HE6:=Lib.hid he6
  have HR6:=Lib.hid hr6
  clear hb6 he6 hr6
  by_cases h0:err = 0
  ·have OF:=fun W=>of_plain (.func g ts cs) e f W
   have WI:=fun W hm=>within_plain e f (.slice none 0 0) i W hm g1 g2 s err hsh
   unfold withinR at WI
   simp only [if_pos h0] at WI
   unfold eraPA eraP dstB at WI
   unfold eraPA eraP at OF
   refine wp_envS (fin:=?fnA) (by kernel_rfl) [35,36,37,38,39,40,41,42,99,7]
    [.agg #[.int .i64 e.off,.string ⟨#[]⟩,.int .i64 e.save,.string f,.bool false,.int .i64 e.year,.int .i64 e.month,.int .i64 e.dk,.int .i64 e.dw,.int .i64 e.dn,.int .i64 e.sec,.int .i64 e.ak],.func g ts cs,.agg #[.int .i64 e.off,.string ⟨#[]⟩,.int .i64 e.save,.string f,.bool false,.int .i64 e.year,.int .i64 e.month,.int .i64 e.dk,.int .i64 e.dw,.int .i64 e.dn,.int .i64 e.sec,.int .i64 e.ak],.slice none 0 0,.int .i64 i,.tuple #[.agg #[.int .i64 (e.off + e.save),.bool (e.save != 0),.string s],.int .i64 0],.agg #[.int .i64 (e.off + e.save),.bool (e.save != 0),.string s],.int .i64 0,undef,.int .i64 0] 8 (fun k=>k = w.heap.size + 1) (fun W=>Blk W (w.heap.size + 1) 48 #[.int .i64 (e.off + e.save),.bool (e.save != 0),.string s]) (fun W W' h hb=>Blk.below h hb (Blk.lt h)) (by kernel_rfl) (by decide) (by simp) ?finA ?stepsA ?nextA
   case finA =>
    simp only [putAll,Act.put,List.setIfInBounds_toArray,List.set_cons_succ,List.set_cons_zero,List.set_nil]
    try rfl
   case stepsA =>
    refine ⟨?_,?_,?_,?_,?_,?_,?_,?_,?_,?_,trivial⟩
    all_goals
     refine .inr ⟨by kernel_rfl,fun w1_ hB_ hF_=>?_⟩
     have he7:OneE w1_ w1.heap.size e f:=Blk.fr HE6.out hF_ (by omega)
     have hb7:=HB6.out.trans (hF_.below HB6.out.size (fun k hk=>by omega))
     have hm7:=HM0.out.below hb7 (Nat.le_refl _)
     obtain ⟨c0,c1,c2,c3,c4,c5,c6,c7,c8,c9,c10,c11⟩:=he7.cells
     first
      | (go_simp;first | exact ⟨rfl,rfl,Below.refl _ _⟩ | exact ⟨rfl,rfl,OF _⟩ | exact ⟨rfl,rfl,WI _ hm7⟩)
      | (have hr7:=HR6.out.below (hB_ rfl) HR6.out.lt;have f0:=hr7.frozen 0;have f1:=hr7.frozen 1;have f2:=hr7.frozen 2;have r0:=hr7.cell 0 (v:=.int .i64 0) rfl;have r1:=hr7.cell 1 (v:=.bool false) rfl;have r2:=hr7.cell 2 (v:=.string ⟨#[]⟩) rfl;go_simp;exact ⟨rfl,rfl,fr_set3 (T:=fun k=>k = w.heap.size + 1) _ rfl _ _ _,((hr7.set 0 _).set 1 _).set 2 _⟩)
   case nextA =>
    intro W8 hF8 hR8
    have hb8:=HB6.out.trans (hF8.below HB6.out.size (fun k hk=>by omega))
    go_wp2_with fail
    refine bodyPost_ret (v:=.tuple #[.agg #[.int .i64 (e.off + e.save),.bool (e.save != 0),.string s],.int .i64 0]) ?_ rfl ⟨by rw [h0];rfl,hb8⟩
    have c0:=hR8.cell 0 (v:=.int .i64 (e.off + e.save)) rfl
    have c1:=hR8.cell 1 (v:=.bool (e.save != 0)) rfl
    have c2:=hR8.cell 2 (v:=.string s) rfl
    simp [results,Tryz.f19,go_sem,c0,c1,c2]
  ·have OF:=fun W=>of_plain (.func g ts cs) e f W
   have WI:=fun W hm=>within_plain e f (.slice none 0 0) i W hm g1 g2 s err hsh
   unfold withinR at WI
   simp only [if_neg h0] at WI
   unfold eraPA eraP at WI
   unfold eraPA eraP at OF
   refine wp_envS (fin:=?fnB) (by kernel_rfl) [35,36,37,38,39,40,41,42,99,7]
    [.agg #[.int .i64 e.off,.string ⟨#[]⟩,.int .i64 e.save,.string f,.bool false,.int .i64 e.year,.int .i64 e.month,.int .i64 e.dk,.int .i64 e.dw,.int .i64 e.dn,.int .i64 e.sec,.int .i64 e.ak],.func g ts cs,.agg #[.int .i64 e.off,.string ⟨#[]⟩,.int .i64 e.save,.string f,.bool false,.int .i64 e.year,.int .i64 e.month,.int .i64 e.dk,.int .i64 e.dw,.int .i64 e.dn,.int .i64 e.sec,.int .i64 e.ak],.slice none 0 0,.int .i64 i,.tuple #[.agg #[.int .i64 0,.bool false,.string ⟨#[]⟩],.int .i64 err],.agg #[.int .i64 0,.bool false,.string ⟨#[]⟩],.int .i64 err,undef,.int .i64 err] 8 (fun k=>k = w.heap.size + 1) (fun W=>Blk W (w.heap.size + 1) 48 #[.int .i64 0,.bool false,.string ⟨#[]⟩]) (fun W W' h hb=>Blk.below h hb (Blk.lt h)) (by kernel_rfl) (by decide) (by simp) ?finB ?stepsB ?nextB
   case finB =>
    simp only [putAll,Act.put,List.setIfInBounds_toArray,List.set_cons_succ,List.set_cons_zero,List.set_nil]
    try rfl
   case stepsB =>
    refine ⟨?_,?_,?_,?_,?_,?_,?_,?_,?_,?_,trivial⟩
    all_goals
     refine .inr ⟨by kernel_rfl,fun w1_ hB_ hF_=>?_⟩
     have he7:OneE w1_ w1.heap.size e f:=Blk.fr HE6.out hF_ (by omega)
     have hb7:=HB6.out.trans (hF_.below HB6.out.size (fun k hk=>by omega))
     have hm7:=HM0.out.below hb7 (Nat.le_refl _)
     obtain ⟨c0,c1,c2,c3,c4,c5,c6,c7,c8,c9,c10,c11⟩:=he7.cells
     first
      | (go_simp;first | exact ⟨rfl,rfl,Below.refl _ _⟩ | exact ⟨rfl,rfl,OF _⟩ | exact ⟨rfl,rfl,WI _ hm7⟩)
      | (have hr7:=HR6.out.below (hB_ rfl) HR6.out.lt;have f0:=hr7.frozen 0;have f1:=hr7.frozen 1;have f2:=hr7.frozen 2;have r0:=hr7.cell 0 (v:=.int .i64 0) rfl;have r1:=hr7.cell 1 (v:=.bool false) rfl;have r2:=hr7.cell 2 (v:=.string ⟨#[]⟩) rfl;go_simp;exact ⟨rfl,rfl,fr_set3 (T:=fun k=>k = w.heap.size + 1) _ rfl _ _ _,((hr7.set 0 _).set 1 _).set 2 _⟩)
   case nextB =>
    intro W8 hF8 hR8
    have hb8:=HB6.out.trans (hF8.below HB6.out.size (fun k hk=>by omega))
    go_wp2_with fail
    refine bodyPost_ret (v:=.tuple #[.agg #[.int .i64 (0),.bool (false),.string ⟨#[]⟩],.int .i64 err]) ?_ rfl ⟨by unfold withinR;rw [if_neg h0],hb8⟩
    have c0:=hR8.cell 0 (v:=.int .i64 (0)) rfl
    have c1:=hR8.cell 1 (v:=.bool (false)) rfl
    have c2:=hR8.cell 2 (v:=.string ⟨#[]⟩) rfl
    simp [results,Tryz.f19,go_sem,c0,c1,c2]
end
section -- ARefK
open Go Go.RowKit Go.Shelf
def letB (x:UInt8):Bool:=abcB.contains x
def scanR (n:Nat):Nat→List UInt8→Int × Nat→Option (Int × Nat)
 | _,[],st=>some st
 | i,x :: t,st=>if letB x then scanR n (i + 1) t st
   else if st.1 ≠ 0 then none
   else if x = 47∧0 < i∧i + 1 < n then scanR n (i + 1) t (3,i)
   else if x = 37∧t.head? = some 115 then scanR n (i + 1) t (1,i)
   else if x = 37∧t.head? = some 122 then scanR n (i + 1) t (2,i)
   else none
def refK (f:List UInt8):Int × Nat:=if f = []∨64 < f.length then (-1,0) else match scanR f.length 0 f (0,0) with | none=>(-1,0) | some st=>st
def odd (f:List UInt8):Nat:=f.countP fun x=>!letB x
theorem odd_append (a b:List UInt8):odd (a ++ b) = odd a + odd b:=List.countP_append
theorem odd_zero {f:List UInt8}:odd f = 0 ↔ ∀ x ∈ f,letB x = true:=by
 unfold odd
 rw [List.countP_eq_zero]
 constructor
 ·intro h x hx
  have:=h x hx
  simpa using this
 ·intro h x hx
  rw [h x hx];decide
theorem odd_cons (x:UInt8) (f:List UInt8):odd (x :: f) = (if letB x then 0 else 1) + odd f:=by
 unfold odd
 rw [List.countP_cons]
 cases letB x <;> simp <;> omega
theorem scan_letters {n:Nat}:∀ (a:List UInt8) (i:Nat) (r:List UInt8) (st:Int × Nat),odd a = 0→scanR n i (a ++ r) st = scanR n (i + a.length) r st
 | [],i,r,st,_=>rfl
 | x :: a,i,r,st,h=>by
   rw [odd_cons] at h
   have hx:letB x = true:=by cases hb:letB x <;> rw [hb] at h <;> simp at h ⊢
   rw [hx] at h
   show scanR n i (x :: (a ++ r)) st = _
   rw [scanR,if_pos hx,scan_letters a (i + 1) r st (by simpa using h)]
   congr 1
   simp;omega
theorem scan_none {n:Nat}:∀ (t:List UInt8) (i:Nat) (st:Int × Nat),st.1 ≠ 0→odd t ≠ 0→scanR n i t st = none
 | [],_,_,_,h=>absurd rfl h
 | x :: t,i,st,hs,h=>by
   rw [scanR]
   cases hx:letB x with
   | true =>
     rw [if_pos rfl]
     rw [odd_cons,hx] at h
     exact scan_none t (i + 1) st hs (by simpa using h)
   | false=>rw [if_neg (by decide),if_pos hs]
theorem odd_split:∀ {f:List UInt8},odd f ≠ 0→∃ a x t,f = a ++ x :: t∧odd a = 0∧letB x = false
 | [],h=>absurd rfl h
 | x :: f,h=>by
   cases hx:letB x with
   | false=>exact ⟨[],x,f,rfl,rfl,hx⟩
   | true =>
     rw [odd_cons,hx] at h
     obtain ⟨a,y,t,e,h1,h2⟩:=odd_split (f:=f) (by simpa using h)
     exact ⟨x :: a,y,t,by rw [e];rfl,by rw [odd_cons,hx,h1];rfl,h2⟩
theorem dropWhile_nil {p:UInt8→Bool}:∀ {l:List UInt8},l.dropWhile p = [] ↔ ∀ x ∈ l,p x = true
 | []=>⟨fun _ x hx=>(by cases hx),fun _=>rfl⟩
 | y :: l=>by
   rw [List.dropWhile_cons]
   cases hy:p y with
   | true =>
     rw [if_pos rfl,dropWhile_nil]
     exact ⟨fun h x hx=>by rcases List.mem_cons.1 hx with rfl | hx;exact hy;exact h x hx,fun h x hx=>h x (by simp [hx])⟩
   | false =>
     rw [if_neg (by decide)]
     exact ⟨fun h=>(by cases h),fun h=>by have:=h y (by simp);rw [hy] at this;exact absurd this (by decide)⟩
theorem trim_nil {l:List UInt8}:Lib.trimS l abcB = [] ↔ odd l = 0:=by
 rw [odd_zero]
 unfold Lib.trimS Lib.trimLeftS Lib.trimRightS
 constructor
 ·intro h x hx
  have h2:∀ y ∈ (l.reverse.dropWhile (abcB.contains ·)).reverse,abcB.contains y = true:=fun y hy=>by
   rw [dropWhile_nil] at h
   exact h y hy
  have h3:l.reverse.dropWhile (abcB.contains ·) = []:=by
   cases hd:l.reverse.dropWhile (abcB.contains ·) with
   | nil=>rfl
   | cons z zs =>
     have hz:=h2 z (by rw [hd];simp)
     have:=List.head_dropWhile_not (abcB.contains ·) (l:=l.reverse) (by rw [hd];simp)
     simp only [hd,List.head_cons] at this
     rw [this] at hz
     exact absurd hz (by decide)
  rw [dropWhile_nil] at h3
  exact h3 x (by simpa using hx)
 ·intro h
  have h3:l.reverse.dropWhile (abcB.contains ·) = []:=by
   rw [dropWhile_nil]
   intro x hx
   exact h x (by simpa using hx)
  rw [h3]
  rfl
theorem mark_at {f m:List UInt8} (h:Lib.contains f m = true):∃ i:Nat,Lib.index f m = i∧f = f.take i ++ m ++ f.drop (i + m.length)∧i + m.length ≤ f.length:=by
 unfold Lib.contains at h
 rw [decide_eq_true_eq] at h
 rcases Lib.index_spec f m with ⟨h1,-⟩ | ⟨i,h1,h2,h3,-⟩
 ·omega
 ·have hr:=Lib.index_room f m h
  have hl:i + m.length ≤ f.length:=by omega
  refine ⟨i,h1,?_,hl⟩
  rw [Lib.occAt_iff_take f m i hl] at h3
  have h4:(f.drop i).take m.length = m:=by simpa using h3
  conv=>lhs;rw [← List.take_append_drop i f]
  rw [List.append_assoc]
  congr 1
  conv=>lhs;rw [← List.take_append_drop m.length (f.drop i),h4,List.drop_drop]
theorem rep_at {f m new:List UInt8} {i:Nat} (hm:m ≠ new) (hi:Lib.index f m = i):Lib.replace f m new 1 = f.take i ++ new ++ f.drop (i + m.length):=by
 unfold Lib.replace
 rw [if_neg (by simpa using hm)]
 have hc:1 ≤ Lib.count f m:=by
  unfold Lib.count
  rw [Lib.countFrom,if_neg (by rw [hi];simp)]
  omega
 have hn:Lib.replaceNum f m 1 = 1:=by
  unfold Lib.replaceNum
  rw [if_neg (by omega)]
  rfl
 rw [hn,Lib.replaceK_hit m new 0 f i hi]
 rfl
def markK (k:Int):List UInt8:=if k = 1 then [37,115] else if k = 2 then [37,122] else [47]
theorem contains_of {a m b:List UInt8}:Lib.contains (a ++ m ++ b) m = true:=by
 unfold Lib.contains
 rw [decide_eq_true_eq]
 rcases Lib.index_spec (a ++ m ++ b) m with ⟨-,h2⟩ | ⟨i,h1,-⟩
 ·exfalso
  have:=h2 a.length (by simp)
  unfold Lib.occAt at this
  rw [List.append_assoc,List.drop_left] at this
  have h3:m.isPrefixOf (m ++ b) = true:=by rw [List.isPrefixOf_iff_prefix];exact List.prefix_append m b
  rw [h3] at this
  exact absurd this (by decide)
 ·omega
theorem odd_mark {f m:List UInt8} (hm:odd m = 1) (h:Lib.contains f m = true):∃ i:Nat,Lib.index f m = i∧f = f.take i ++ m ++ f.drop (i + m.length)∧i + m.length ≤ f.length∧odd f = odd (f.take i ++ f.drop (i + m.length)) + 1:=by
 obtain ⟨i,h1,h2,h3⟩:=mark_at h
 refine ⟨i,h1,h2,h3,?_⟩
 conv=>lhs;rw [h2]
 rw [odd_append,odd_append,odd_append,hm]
 omega
theorem m1:odd [37,115] = 1:=by decide
theorem m2:odd [37,122] = 1:=by decide
theorem m3:odd [47] = 1:=by decide
theorem scan_bad {n:Nat} {f:List UInt8} (h:2 ≤ odd f):scanR n 0 f (0,0) = none:=by
 obtain ⟨a,x,t,e,ha,hx⟩:=odd_split (f:=f) (by omega)
 have ht:odd t ≠ 0:=by
  rw [e,odd_append,odd_cons,ha,hx] at h
  simp at h
  omega
 rw [e,scan_letters a 0 _ _ ha,scanR,hx,if_neg (by decide),if_neg (by simp)]
 split
 ·exact scan_none t _ _ (by simp) ht
 ·split
  ·exact scan_none t _ _ (by simp) ht
  ·split
   ·exact scan_none t _ _ (by simp) ht
   ·rfl
theorem scan_all {n i:Nat} {t:List UInt8} {st:Int × Nat} (h:odd t = 0):scanR n i t st = some st:=by
 have:=scan_letters (n:=n) t i [] st h
 rw [List.append_nil] at this
 rw [this]
 rfl
theorem refK_in {f:List UInt8} (h0:f ≠ []) (h1:¬ 64 < f.length):refK f = match scanR f.length 0 f (0,0) with | none=>(-1,0) | some st=>st:=by
 unfold refK
 rw [if_neg (by intro h;rcases h with h | h;exact h0 h;exact h1 h)]
theorem last_ne {f:List UInt8} (h:odd f = 0):(f.headD 0 == 47) = false∧(f.getLastD 0 == 47) = false:=by
 rw [odd_zero] at h
 have h47:letB 47 = false:=by decide
 constructor
 ·cases f with
  | nil=>rfl
  | cons x t =>
    have:=h x (by simp)
    cases hq:((x :: t).headD 0 == 47) with
    | false=>rfl
    | true =>
      have e:x = 47:=by simpa using hq
      rw [e,h47] at this;exact absurd this (by decide)
 ·cases hq:(f.getLastD 0 == 47) with
  | false=>rfl
  | true =>
    exfalso
    cases f with
    | nil=>exact absurd hq (by decide)
    | cons x t =>
      have hm:(x :: t).getLastD 0 ∈ (x :: t):=List.getLast_mem (List.cons_ne_nil x t)
      have:=h _ hm
      rw [show (x :: t).getLastD 0 = 47 by simpa using hq,h47] at this
      exact absurd this (by decide)
theorem refK_of (f:List UInt8):(kindR f = (0,12)∧refK f = (-1,0))∨∃ (k:Int) (at_:Nat),kindR f = (k,0)∧refK f = (k,at_)∧((k = 0∧at_ = 0)∨(1 ≤ k∧k ≤ 3∧f = f.take at_ ++ markK k ++ f.drop (at_ + (markK k).length)∧Lib.index f (markK k) = at_∧at_ + (markK k).length ≤ f.length)):=by
 by_cases h0:f = []
 ·exact .inl ⟨kindR_bad (bad_empty h0),by unfold refK;rw [if_pos (.inl h0)]⟩
 by_cases h1:64 < f.length
 ·exact .inl ⟨kindR_bad (bad_long h1),by unfold refK;rw [if_pos (.inr h1)]⟩
 rw [refK_in h0 h1]
 have no:∀ m,odd m = 1→odd f = 0→Lib.contains f m = false:=fun m hm hf=>by
  cases hc:Lib.contains f m with
  | false=>rfl
  | true=>obtain ⟨i,-,-,-,h⟩:=odd_mark hm hc;omega
 have bad2:2 ≤ odd f→kindR f = (0,12):=fun h2=>by
  have key:∃ k p,kindP f = (k,p)∧odd p ≠ 0:=by
   unfold kindP
   by_cases c1:Lib.contains f [37,115] = true
   ·obtain ⟨i,e1,-,-,e4⟩:=odd_mark m1 c1
    rw [if_pos c1]
    exact ⟨_,_,rfl,by rw [rep_at (by simp) e1,List.append_nil];have:=e4;simp only [List.length_cons,List.length_nil] at this ⊢;omega⟩
   ·rw [if_neg c1]
    by_cases c2:Lib.contains f [37,122] = true
    ·obtain ⟨i,e1,-,-,e4⟩:=odd_mark m2 c2
     rw [if_pos c2]
     exact ⟨_,_,rfl,by rw [rep_at (by simp) e1,List.append_nil];have:=e4;simp only [List.length_cons,List.length_nil] at this ⊢;omega⟩
    ·rw [if_neg c2]
     by_cases c3:Lib.contains f [47] = true
     ·obtain ⟨i,e1,-,-,e4⟩:=odd_mark m3 c3
      rw [if_pos c3]
      exact ⟨_,_,rfl,by rw [rep_at (by simp) e1,List.append_nil];have:=e4;simp only [List.length_cons,List.length_nil] at this ⊢;omega⟩
     ·rw [if_neg c3]
      exact ⟨_,_,rfl,by omega⟩
  obtain ⟨k,p,hk,hp⟩:=key
  exact kindR_bad (bad_trim hk (fun h=>hp (trim_nil.1 h)))
 rcases (show odd f = 0∨odd f = 1∨2 ≤ odd f by omega) with hN | hN | hN
 ·have hk:kindP f = (0,f):=by unfold kindP;rw [no _ m1 hN,no _ m2 hN,no _ m3 hN];rfl
  refine .inr ⟨0,0,kindR_ok (bad_not hk h0 h1 (edge_not hk (by decide)) (trim_nil.2 hN)) hk,?_,.inl ⟨rfl,rfl⟩⟩
  rw [scan_all hN]
 ·have parts:∀ (m:List UInt8) (i:Nat),odd m = 1→f = f.take i ++ m ++ f.drop (i + m.length)→odd (f.take i) = 0∧odd (f.drop (i + m.length)) = 0:=fun m i hm e=>by
   have h:odd f = odd (f.take i) + odd m + odd (f.drop (i + m.length)):=by
    conv=>lhs;rw [e]
    rw [odd_append,odd_append]
   omega
  have scan2:∀ (k:Int) (c:UInt8) (i:Nat),letB c = true→(k = 1∧c = 115∨k = 2∧c = 122)→i + 2 ≤ f.length→f = f.take i ++ [37,c] ++ f.drop (i + [37,c].length)→odd [37,c] = 1→scanR f.length 0 f (0,0) = some (k,i):=fun k c i hc hk hl e ho=>by
   obtain ⟨o1,o2⟩:=parts _ i ho e
   have htl:(f.take i).length = i:=by rw [List.length_take];omega
   have hst:scanR f.length 0 f (0,0) = scanR f.length 0 (f.take i ++ (37 :: c :: f.drop (i + [37,c].length))) (0,0):=by
    congr 1
    conv=>lhs;rw [e]
    simp
   have h37:letB 37 = false:=by decide
   have htt:odd (c :: f.drop (i + [37,c].length)) = 0:=by rw [odd_cons,hc,o2];rfl
   rw [hst,scan_letters _ _ _ _ o1,htl,Nat.zero_add,scanR,h37,if_neg (by decide),if_neg (by simp),if_neg (by simp)]
   rcases hk with ⟨rfl,rfl⟩ | ⟨rfl,rfl⟩
   ·rw [if_pos ⟨rfl,rfl⟩]
    exact scan_all htt
   ·rw [if_neg (by simp),if_pos ⟨rfl,rfl⟩]
    exact scan_all htt
  by_cases c1:Lib.contains f [37,115] = true
  ·obtain ⟨i,e1,e2,e3,e4⟩:=odd_mark m1 c1
   have hk:kindP f = (1,Lib.replace f [37,115] [] 1):=by unfold kindP;rw [if_pos c1]
   refine .inr ⟨1,i,kindR_ok (bad_not hk h0 h1 (edge_not hk (by decide)) (trim_nil.2 (by rw [rep_at (by simp) e1,List.append_nil];omega))) hk,?_,.inr ⟨by decide,by decide,e2,e1,e3⟩⟩
   rw [scan2 1 115 i (by decide) (.inl ⟨rfl,rfl⟩) e3 e2 m1]
  ·by_cases c2:Lib.contains f [37,122] = true
   ·obtain ⟨i,e1,e2,e3,e4⟩:=odd_mark m2 c2
    have hk:kindP f = (2,Lib.replace f [37,122] [] 1):=by unfold kindP;rw [if_neg c1,if_pos c2]
    refine .inr ⟨2,i,kindR_ok (bad_not hk h0 h1 (edge_not hk (by decide)) (trim_nil.2 (by rw [rep_at (by simp) e1,List.append_nil];omega))) hk,?_,.inr ⟨by decide,by decide,e2,e1,e3⟩⟩
    rw [scan2 2 122 i (by decide) (.inr ⟨rfl,rfl⟩) e3 e2 m2]
   ·by_cases c3:Lib.contains f [47] = true
    ·obtain ⟨i,e1,e2,e3,e4⟩:=odd_mark m3 c3
     have hk:kindP f = (3,Lib.replace f [47] [] 1):=by unfold kindP;rw [if_neg c1,if_neg c2,if_pos c3]
     obtain ⟨o1,o2⟩:=parts _ i m3 e2
     have e3':i + 1 ≤ f.length:=e3
     have htl:(f.take i).length = i:=by rw [List.length_take];omega
     have hst:scanR f.length 0 f (0,0) = scanR f.length i (47 :: f.drop (i + [(47:UInt8)].length)) (0,0):=by
      have hst:scanR f.length 0 f (0,0) = scanR f.length 0 (f.take i ++ (47 :: f.drop (i + [(47:UInt8)].length))) (0,0):=by
       congr 1
       conv=>lhs;rw [e2]
       simp
      rw [hst,scan_letters _ _ _ _ o1,htl,Nat.zero_add]
     have h47:letB 47 = false:=by decide
     have htrim:Lib.trimS (Lib.replace f [47] [] 1) abcB = []:=trim_nil.2 (by rw [rep_at (by simp) e1,List.append_nil];omega)
     by_cases hin:0 < i∧i + 1 < f.length
     ·have hedge:edgeB f = false:=by
       unfold edgeB
       rw [hk]
       have a1:(f.headD 0 == 47) = false:=by
        have:=(last_ne o1).1
        rw [e2]
        cases hti:f.take i with
        | nil=>rw [hti] at htl;simp at htl;omega
        | cons y ys=>rw [hti] at this;simpa using this
       have a2:(f.getLastD 0 == 47) = false:=by
        have:=(last_ne o2).2
        have hne:f.drop (i + [(47:UInt8)].length) ≠ []:=by
         intro h
         have h2:=congrArg List.length h
         rw [List.length_drop] at h2
         simp at h2
         omega
        rw [e2]
        cases hti:f.drop (i + [(47:UInt8)].length) with
        | nil=>exact absurd hti hne
        | cons y ys =>
          rw [hti] at this
          rw [List.getLastD_eq_getLast?,List.getLast?_append,List.getLast?_eq_some_getLast (by simp),Option.some_or,Option.getD_some]
          rw [List.getLastD_eq_getLast?,List.getLast?_eq_some_getLast (by simp),Option.getD_some] at this
          exact this
       rw [a1,a2]
       rfl
      refine .inr ⟨3,i,kindR_ok (bad_not hk h0 h1 hedge htrim) hk,?_,.inr ⟨by decide,by decide,e2,e1,e3⟩⟩
      rw [hst,scanR,h47,if_neg (by decide),if_neg (by simp),if_pos ⟨rfl,hin.1,hin.2⟩,scan_all o2]
     ·refine .inl ⟨kindR_bad (bad_edge ?_),?_⟩
      ·unfold edgeB
       rw [hk]
       have:f.headD 0 = 47∨f.getLastD 0 = 47:=by
        by_cases hi0:i = 0
        ·left
         rw [e2,hi0]
         rfl
        ·right
         have hd:f.drop (i + [(47:UInt8)].length) = []:=by
          rw [List.drop_eq_nil_iff]
          show f.length ≤ i + 1
          omega
         rw [e2,hd,List.append_nil,List.getLastD_eq_getLast?,List.getLast?_append]
         rfl
       rcases this with h | h <;> rw [h] <;> simp
      ·rw [hst,scanR,h47,if_neg (by decide),if_neg (by simp),if_neg (fun h=>hin ⟨h.2.1,h.2.2⟩),if_neg (by simp),if_neg (by simp)]
    ·obtain ⟨a,x,t,e,ha,hx⟩:=odd_split (f:=f) (by omega)
     have hk:kindP f = (0,f):=by unfold kindP;rw [if_neg c1,if_neg c2,if_neg c3]
     refine .inl ⟨kindR_bad (bad_trim hk (fun h=>by rw [trim_nil] at h;omega)),?_⟩
     have hst:scanR f.length 0 f (0,0) = scanR f.length 0 (a ++ x :: t) (0,0):=by congr 1
     have n47:x ≠ 47:=fun h=>c3 (by rw [e,h,show a ++ 47 :: t = a ++ [47] ++ t by simp];exact contains_of)
     have n115:¬ (x = 37∧t.head? = some 115):=fun ⟨h,h2⟩=>c1 (by
      cases t with
      | nil=>cases h2
      | cons y ys =>
        have:y = 115:=by simpa using h2
        rw [e,h,this,show a ++ 37 :: 115 :: ys = a ++ [37,115] ++ ys by simp];exact contains_of)
     have n122:¬ (x = 37∧t.head? = some 122):=fun ⟨h,h2⟩=>c2 (by
      cases t with
      | nil=>cases h2
      | cons y ys =>
        have:y = 122:=by simpa using h2
        rw [e,h,this,show a ++ 37 :: 122 :: ys = a ++ [37,122] ++ ys by simp];exact contains_of)
     rw [hst,scan_letters _ _ _ _ ha,scanR,hx,if_neg (by decide),if_neg (by simp),if_neg (fun h=>n47 h.1),if_neg n115,if_neg n122]
 ·exact .inl ⟨bad2 hN,by rw [scan_bad hN]⟩
theorem index_out {f m:List UInt8} (h:Lib.contains f m = false):Lib.index f m = -1:=by
 have hge:=Lib.index_ge f m
 unfold Lib.contains at h
 rw [decide_eq_false_iff_not] at h
 omega
theorem count_out {f m:List UInt8} (hm:odd m = 1) (h:odd f = 0):Lib.count f m = 0:=by
 refine Lib.count_miss (index_out ?_)
 cases hc:Lib.contains f m with
 | false=>rfl
 | true=>obtain ⟨i,-,-,-,h2⟩:=odd_mark hm hc;omega
theorem count_one {f:List UInt8} (h:kindR f = (1,0)):Lib.count f [37,115] ≤ 1:=by
 cases c1:Lib.contains f [37,115] with
 | false=>rw [Lib.count_miss (index_out c1)];omega
 | true =>
   obtain ⟨i,e1,e2,e3,e4⟩:=odd_mark m1 c1
   rw [Lib.count_hit (by simp) e1]
   have hk:kindP f = (1,Lib.replace f [37,115] [] 1):=by unfold kindP;rw [if_pos c1]
   have hb:Lib.trimS (Lib.replace f [37,115] [] 1) abcB = []:=by
    apply Classical.byContradiction
    intro hne
    rw [kindR_bad (bad_trim hk hne)] at h
    cases h
   rw [trim_nil,rep_at (by simp) e1,List.append_nil,odd_append] at hb
   rw [count_out m1 (by omega)]
   omega
end
section -- AShow
open Go Go.RowKit Go.Shelf
def digB (n:Int):UInt8:=UInt8.ofNat (48 + n).toNat
def twoB (n:Int):ByteArray:=⟨#[digB (n / 10),digB (n % 10)]⟩
theorem digB_toNat {n:Int} (h0:0 ≤ n) (h1:n < 200):((digB n).toNat:Int) = 48 + n:=by
 unfold digB
 rw [UInt8.toNat_ofNat']
 omega
theorem two_conv {n:Int} (h0:0 ≤ n) (h1:n < 100) (w:World):(convert 186 9 (.slice (some ⟨w.heap.size,0,none⟩) 2 2)).run Tryz.prog (w.alloc (.cells #[.int .u8 (48 + n / 10),.int .u8 (48 + n % 10)] 5)) = .ok (.string (twoB n)) (w.alloc (.cells #[.int .u8 (48 + n / 10),.int .u8 (48 + n % 10)] 5)):=by
 have h:=run_convert_bytes_back (P:=Tryz.prog) (w.alloc (.cells #[.int .u8 (48 + n / 10),.int .u8 (48 + n % 10)] 5)) 186 9 5 ⟨w.heap.size,0,none⟩ 2 [digB (n / 10),digB (n % 10)] Tryz.underlying186 Tryz.underlying5 Tryz.underlying9 (fun j hj=>by
  rw [Addr.add_lit,Nat.zero_add,cell_new]
  rcases j with _ | _ | j
  ·simp [digB_toNat (show 0 ≤ n / 10 by omega) (by omega)]
  ·simp [digB_toNat (show 0 ≤ n % 10 by omega) (by omega)]
  ·simp at hj;omega)
 exact h
theorem two_any (n:Int) (h0:0 ≤ n) (h1:n < 100) (w:World) :
  Calls Tryz.prog 140 #[.int .i64 n] w fun e w'=>e = .returned (.string (twoB n))∧Below w.heap.size w w':=by
 have e1:n.tdiv 10 = n / 10:=by rw [Int.tdiv_eq_ediv_of_nonneg h0]
 have e2:n.tmod 10 = n % 10:=by rw [Int.tmod_eq_emod_of_nonneg h0]
 have HC:=two_conv h0 h1 w
 go_enter Tryz.func140,Tryz.ntmps140
 go_wp2_with fail
 go_ret
 exact ⟨rfl,(Below.refl w.heap.size w).alloc (Nat.le_refl _) _⟩
def offN (n:Int):ByteArray:=twoB (n / 3600) ++ (if 0 < n % 3600 then twoB (n % 3600 / 60) else ⟨#[]⟩) ++ (if 0 < n % 60 then twoB (n % 60) else ⟨#[]⟩)
def offB (off:Int):ByteArray:=if off < 0 then ⟨#[45]⟩ ++ offN (-off) else ⟨#[43]⟩ ++ offN off
theorem off_any (off:Int) (w:World) :
  Calls Tryz.prog 113 #[.int .i64 off] w fun e w'=>e = .returned (if -360000 < off∧off < 360000 then .tuple #[.string (offB off),.int .i64 0] else .tuple #[.string ⟨#[]⟩,.int .i64 10])∧Below w.heap.size w w':=by
 have HT:=Lib.hid (fun n h0 h1 W=>two_any n h0 h1 W)
 by_cases hr:-360000 < off∧off < 360000
 ·rw [if_pos hr]
  have hd1:decide (off ≤ -360000) = false:=decide_eq_false (by omega)
  have hd2:decide (360000 ≤ off) = false:=decide_eq_false (by omega)
  by_cases hn:off < 0
  ·have hd3:decide (off < 0) = true:=decide_eq_true hn
   have e3:(-off).tdiv 3600 = (-off) / 3600:=by rw [Int.tdiv_eq_ediv_of_nonneg (by omega)]
   have e4:(-off).tmod 3600 = (-off) % 3600:=by rw [Int.tmod_eq_emod_of_nonneg (by omega)]
   have e5:(-off).tmod 60 = (-off) % 60:=by rw [Int.tmod_eq_emod_of_nonneg (by omega)]
   have e6:((-off) % 3600).tdiv 60 = (-off) % 3600 / 60:=by rw [Int.tdiv_eq_ediv_of_nonneg (by omega)]
   have H1:=Lib.hid (HT.out ((-off) / 3600) (by omega) (by omega))
   have H2:=Lib.hid (HT.out ((-off) % 3600 / 60) (by omega) (by omega))
   have H3:=Lib.hid (HT.out ((-off) % 60) (by omega) (by omega))
   by_cases h3:0 < (-off) % 3600
   ·by_cases h4:0 < (-off) % 60
    ·have HV:=Lib.hid (show offB off = ⟨#[45]⟩ ++ twoB ((-off) / 3600) ++ twoB ((-off) % 3600 / 60) ++ twoB ((-off) % 60) by unfold offB offN;rw [if_pos hn,if_pos h3,if_pos h4,← ByteArray.append_assoc,← ByteArray.append_assoc])
     have g3:decide (0 < (-off) % 3600) = true:=decide_eq_true h3
     have g4:decide (0 < (-off) % 60) = true:=decide_eq_true h4
     clear h3 h4 HT
     have s1:(twoB ((-off) / 3600)).size = 2:=rfl
     have s2:(twoB ((-off) % 3600 / 60)).size = 2:=rfl
     have s3:(twoB ((-off) % 60)).size = 2:=rfl
     generalize twoB ((-off) / 3600) = t1 at *
     generalize twoB ((-off) % 3600 / 60) = t2 at *
     generalize twoB ((-off) % 60) = t3 at *
     go_enter Tryz.func113,Tryz.ntmps113
     go_wp2_with fail
     refine (H1.out _).mono ?_
     rintro e w1 ⟨rfl,hb1⟩
     go_wp2_with fail
     refine (H2.out _).mono ?_
     rintro e w2 ⟨rfl,hb2⟩
     go_wp2_with fail
     refine (H3.out _).mono ?_
     rintro e w3 ⟨rfl,hb3⟩
     go_wp2_with fail
     go_ret2
     exact ⟨by rw [HV.out];rfl,(hb1.trans (hb2.mono hb1.size)).trans (hb3.mono (Nat.le_trans hb1.size hb2.size))⟩
    ·have HV:=Lib.hid (show offB off = ⟨#[45]⟩ ++ twoB ((-off) / 3600) ++ twoB ((-off) % 3600 / 60) by unfold offB offN;rw [if_pos hn,if_pos h3,if_neg h4,← ByteArray.append_assoc,← ByteArray.append_assoc];exact ByteArray.append_empty)
     have g3:decide (0 < (-off) % 3600) = true:=decide_eq_true h3
     have g4:decide (0 < (-off) % 60) = false:=decide_eq_false h4
     clear h3 h4 HT
     have s1:(twoB ((-off) / 3600)).size = 2:=rfl
     have s2:(twoB ((-off) % 3600 / 60)).size = 2:=rfl
     have s3:(twoB ((-off) % 60)).size = 2:=rfl
     generalize twoB ((-off) / 3600) = t1 at *
     generalize twoB ((-off) % 3600 / 60) = t2 at *
     go_enter Tryz.func113,Tryz.ntmps113
     go_wp2_with fail
     refine (H1.out _).mono ?_
     rintro e w1 ⟨rfl,hb1⟩
     go_wp2_with fail
     refine (H2.out _).mono ?_
     rintro e w2 ⟨rfl,hb2⟩
     go_wp2_with fail
     go_ret2
     exact ⟨by rw [HV.out];rfl,hb1.trans (hb2.mono hb1.size)⟩
   ·have h4:¬ 0 < (-off) % 60:=by omega
    have HV:=Lib.hid (show offB off = ⟨#[45]⟩ ++ twoB ((-off) / 3600) by unfold offB offN;rw [if_pos hn,if_neg h3,if_neg h4];rw [show (⟨#[]⟩:ByteArray) = ByteArray.empty from rfl,ByteArray.append_empty,ByteArray.append_empty])
    have g3:decide (0 < (-off) % 3600) = false:=decide_eq_false h3
    have g4:decide (0 < (-off) % 60) = false:=decide_eq_false h4
    clear h3 h4 HT
    have s1:(twoB ((-off) / 3600)).size = 2:=rfl
    generalize twoB ((-off) / 3600) = t1 at *
    go_enter Tryz.func113,Tryz.ntmps113
    go_wp2_with fail
    refine (H1.out _).mono ?_
    rintro e w1 ⟨rfl,hb1⟩
    go_wp2_with fail
    go_ret2
    exact ⟨by rw [HV.out];rfl,hb1⟩
  ·have hd3:decide (off < 0) = false:=decide_eq_false hn
   have e3:(off).tdiv 3600 = (off) / 3600:=by rw [Int.tdiv_eq_ediv_of_nonneg (by omega)]
   have e4:(off).tmod 3600 = (off) % 3600:=by rw [Int.tmod_eq_emod_of_nonneg (by omega)]
   have e5:(off).tmod 60 = (off) % 60:=by rw [Int.tmod_eq_emod_of_nonneg (by omega)]
   have e6:((off) % 3600).tdiv 60 = (off) % 3600 / 60:=by rw [Int.tdiv_eq_ediv_of_nonneg (by omega)]
   have H1:=Lib.hid (HT.out ((off) / 3600) (by omega) (by omega))
   have H2:=Lib.hid (HT.out ((off) % 3600 / 60) (by omega) (by omega))
   have H3:=Lib.hid (HT.out ((off) % 60) (by omega) (by omega))
   by_cases h3:0 < (off) % 3600
   ·by_cases h4:0 < (off) % 60
    ·have HV:=Lib.hid (show offB off = ⟨#[43]⟩ ++ twoB ((off) / 3600) ++ twoB ((off) % 3600 / 60) ++ twoB ((off) % 60) by unfold offB offN;rw [if_neg hn,if_pos h3,if_pos h4,← ByteArray.append_assoc,← ByteArray.append_assoc])
     have g3:decide (0 < (off) % 3600) = true:=decide_eq_true h3
     have g4:decide (0 < (off) % 60) = true:=decide_eq_true h4
     clear h3 h4 HT
     have s1:(twoB ((off) / 3600)).size = 2:=rfl
     have s2:(twoB ((off) % 3600 / 60)).size = 2:=rfl
     have s3:(twoB ((off) % 60)).size = 2:=rfl
     generalize twoB ((off) / 3600) = t1 at *
     generalize twoB ((off) % 3600 / 60) = t2 at *
     generalize twoB ((off) % 60) = t3 at *
     go_enter Tryz.func113,Tryz.ntmps113
     go_wp2_with fail
     refine (H1.out _).mono ?_
     rintro e w1 ⟨rfl,hb1⟩
     go_wp2_with fail
     refine (H2.out _).mono ?_
     rintro e w2 ⟨rfl,hb2⟩
     go_wp2_with fail
     refine (H3.out _).mono ?_
     rintro e w3 ⟨rfl,hb3⟩
     go_wp2_with fail
     go_ret2
     exact ⟨by rw [HV.out];rfl,(hb1.trans (hb2.mono hb1.size)).trans (hb3.mono (Nat.le_trans hb1.size hb2.size))⟩
    ·have HV:=Lib.hid (show offB off = ⟨#[43]⟩ ++ twoB ((off) / 3600) ++ twoB ((off) % 3600 / 60) by unfold offB offN;rw [if_neg hn,if_pos h3,if_neg h4,← ByteArray.append_assoc,← ByteArray.append_assoc];exact ByteArray.append_empty)
     have g3:decide (0 < (off) % 3600) = true:=decide_eq_true h3
     have g4:decide (0 < (off) % 60) = false:=decide_eq_false h4
     clear h3 h4 HT
     have s1:(twoB ((off) / 3600)).size = 2:=rfl
     have s2:(twoB ((off) % 3600 / 60)).size = 2:=rfl
     have s3:(twoB ((off) % 60)).size = 2:=rfl
     generalize twoB ((off) / 3600) = t1 at *
     generalize twoB ((off) % 3600 / 60) = t2 at *
     go_enter Tryz.func113,Tryz.ntmps113
     go_wp2_with fail
     refine (H1.out _).mono ?_
     rintro e w1 ⟨rfl,hb1⟩
     go_wp2_with fail
     refine (H2.out _).mono ?_
     rintro e w2 ⟨rfl,hb2⟩
     go_wp2_with fail
     go_ret2
     exact ⟨by rw [HV.out];rfl,hb1.trans (hb2.mono hb1.size)⟩
   ·have h4:¬ 0 < (off) % 60:=by omega
    have HV:=Lib.hid (show offB off = ⟨#[43]⟩ ++ twoB ((off) / 3600) by unfold offB offN;rw [if_neg hn,if_neg h3,if_neg h4];rw [show (⟨#[]⟩:ByteArray) = ByteArray.empty from rfl,ByteArray.append_empty,ByteArray.append_empty])
    have g3:decide (0 < (off) % 3600) = false:=decide_eq_false h3
    have g4:decide (0 < (off) % 60) = false:=decide_eq_false h4
    clear h3 h4 HT
    have s1:(twoB ((off) / 3600)).size = 2:=rfl
    generalize twoB ((off) / 3600) = t1 at *
    go_enter Tryz.func113,Tryz.ntmps113
    go_wp2_with fail
    refine (H1.out _).mono ?_
    rintro e w1 ⟨rfl,hb1⟩
    go_wp2_with fail
    go_ret2
    exact ⟨by rw [HV.out];rfl,hb1⟩
 ·rw [if_neg hr]
  by_cases h1:off ≤ -360000
  ·have hd1:decide (off ≤ -360000) = true:=decide_eq_true h1
   have hd2:decide (360000 ≤ off) = false:=decide_eq_false (by omega)
   go_enter Tryz.func113,Tryz.ntmps113
   go_wp2_with fail
   go_ret2
   exact ⟨rfl,Below.refl _ _⟩
  ·have hd1:decide (off ≤ -360000) = false:=decide_eq_false h1
   have hd2:decide (360000 ≤ off) = true:=decide_eq_true (by omega)
   go_enter Tryz.func113,Tryz.ntmps113
   go_wp2_with fail
   go_ret2
   exact ⟨rfl,Below.refl _ _⟩
theorem kindR_kinds (f:List UInt8):kindR f = (0,12)∨(f.length ≤ 64∧((kindR f) = (0,0)∨(kindR f) = (1,0)∨(kindR f) = (2,0)∨(kindR f) = (3,0))):=by
 unfold kindR
 by_cases hb:badB f = true
 ·rw [if_pos hb];exact .inl rfl
 ·rw [if_neg hb]
  refine .inr ⟨?_,?_⟩
  ·by_cases hl:64 < f.length
   ·exact absurd (bad_long hl) hb
   ·omega
  ·unfold kindP
   split
   ·simp
   ·split
    ·simp
    ·split <;> simp
def repB (f old new:ByteArray):ByteArray:=⟨(Lib.replace f.data.toList old.data.toList new.data.toList 1).toArray⟩
def showV (f:ByteArray) (off:Int) (dst:Bool) (letter:ByteArray):ByteArray × Int :=
 if (kindR f.data.toList).2 = 0 then
  (if (kindR f.data.toList).1 = 1 then (repB f ⟨#[37,115]⟩ letter,0)
  else if (kindR f.data.toList).1 = 2 then (if -360000 < off∧off < 360000 then (repB f ⟨#[37,122]⟩ (offB off),0) else (⟨#[]⟩,10))
  else if (kindR f.data.toList).1 = 3 then (if dst then ⟨(Lib.cut f.data.toList [47]).2.1.toArray⟩ else ⟨(Lib.cut f.data.toList [47]).1.toArray⟩,0)
  else (f,0))
 else (⟨#[]⟩,(kindR f.data.toList).2)
theorem rep_any (f old new:ByteArray) (h1:1 ≤ old.size) (hs:f.size ≤ 64) (hn:new.size ≤ 100∨(Lib.countB f old ≤ 1∧new.size ≤ 140737488351232)) (w:World) (hm:Tryz.MaxL w) :
  Calls Tryz.prog 112 #[.string f,.string old,.string new,.int .i64 1] w fun e w'=>e = .returned (.string (repB f old new))∧Below w.heap.size w w' :=
 Tryz.strings_Replace f old new 1 w (by omega) hm h1 (by
  have h:=Lib.countB_le old h1 f.size f (Nat.le_refl _)
  rcases hn with hn | ⟨hc,hn⟩
  ·have h2:Lib.countB f old * new.size ≤ 64 * 100:=Nat.mul_le_mul (by omega) hn
   omega
  ·have h2:Lib.countB f old * new.size ≤ 1 * 140737488351232:=Nat.mul_le_mul hc hn
   omega)
theorem offB_size (off:Int):(offB off).size ≤ 100:=by
 have h:∀ n,(offN n).size ≤ 50:=fun n=>by
  unfold offN
  rw [ByteArray.size_append,ByteArray.size_append]
  have e:∀ k,(twoB k).size = 2:=fun k=>rfl
  split <;> split <;> simp only [e] <;> decide
 unfold offB
 split
 ·rw [ByteArray.size_append]
  have:=h (-off)
  have e:(⟨#[45]⟩:ByteArray).size = 1:=rfl
  omega
 ·rw [ByteArray.size_append]
  have:=h off
  have e:(⟨#[43]⟩:ByteArray).size = 1:=rfl
  omega
theorem show_any (f:ByteArray) (off:Int) (dst:Bool) (letter:ByteArray) (w:World) (hs:f.size < 4294967281) (hl:letter.size ≤ 140737488351232) (hm:Tryz.MaxL w) :
  Calls Tryz.prog 73 #[.string f,.int .i64 off,.bool dst,.string letter] w fun o w'=>o = .returned (.tuple #[.string (showV f off dst letter).1,.int .i64 (showV f off dst letter).2])∧Below w.heap.size w w':=by
 rcases kindR_kinds f.data.toList with h | ⟨hl64,h | h | h | h⟩
 ·have e:showV f off dst letter = (⟨#[]⟩,12):=by unfold showV;rw [h,if_neg (by decide)]
  rw [e]
  exact show_err f off dst letter w hs hm 0 12 h (by decide)
 ·have e:showV f off dst letter = (f,0):=by unfold showV;rw [h];rfl
  rw [e]
  exact show_plain f off dst letter w hs hm h
 ·have hs64:f.size ≤ 64:=by have:f.data.toList.length = f.size:=Array.length_toList
                            omega
  have e:showV f off dst letter = (repB f ⟨#[37,115]⟩ letter,0):=by unfold showV;rw [h];rfl
  rw [e]
  have HK:=Lib.hid (kind_at f hs 1 0 h w hm)
  have HR:=Lib.hid (fun W (hb:Below w.heap.size w W)=>rep_any f ⟨#[37,115]⟩ letter (by decide) hs64 (.inr ⟨count_one h,hl⟩) W (hm.below hb (Nat.le_refl _)))
  clear h e hm
  generalize repB f ⟨#[37,115]⟩ letter = t at *
  go_enter Tryz.func73,Tryz.ntmps73
  go_wp2_with fail
  refine HK.out.mono ?_
  rintro e w1 ⟨rfl,hb⟩
  go_wp2_with fail
  refine (HR.out _ hb).mono ?_
  rintro e w2 ⟨rfl,hb2⟩
  go_wp2_with fail
  go_ret2
  exact ⟨rfl,hb.trans (hb2.mono hb.size)⟩
 ·have hs64:f.size ≤ 64:=by have:f.data.toList.length = f.size:=Array.length_toList
                            omega
  have HK:=Lib.hid (kind_at f hs 2 0 h w hm)
  have HO:=Lib.hid (fun W=>off_any off W)
  have HR:=Lib.hid (fun W (hb:Below w.heap.size w W)=>rep_any f ⟨#[37,122]⟩ (offB off) (by decide) hs64 (.inl (offB_size off)) W (hm.below hb (Nat.le_refl _)))
  by_cases hr:-360000 < off∧off < 360000
  ·have e:showV f off dst letter = (repB f ⟨#[37,122]⟩ (offB off),0):=by unfold showV;simp only [h];rw [if_pos trivial,if_neg (by decide),if_pos trivial,if_pos hr]
   rw [e]
   simp only [if_pos hr] at HO
   clear h e hm
   generalize repB f ⟨#[37,122]⟩ (offB off) = t at *
   generalize offB off = ob at *
   go_enter Tryz.func73,Tryz.ntmps73
   go_wp2_with fail
   refine HK.out.mono ?_
   rintro e w1 ⟨rfl,hb⟩
   go_wp2_with fail
   refine (HO.out _).mono ?_
   rintro e w2 ⟨rfl,hb2⟩
   have hb3:=hb.trans (hb2.mono hb.size)
   go_wp2_with fail
   refine (HR.out _ hb3).mono ?_
   rintro e w3 ⟨rfl,hb4⟩
   go_wp2_with fail
   go_ret2
   exact ⟨rfl,hb3.trans (hb4.mono hb3.size)⟩
  ·have e:showV f off dst letter = (⟨#[]⟩,10):=by unfold showV;simp only [h];rw [if_pos trivial,if_neg (by decide),if_pos trivial,if_neg hr]
   rw [e]
   simp only [if_neg hr] at HO
   clear h e hm HR
   go_enter Tryz.func73,Tryz.ntmps73
   go_wp2_with fail
   refine HK.out.mono ?_
   rintro e w1 ⟨rfl,hb⟩
   go_wp2_with fail
   refine (HO.out _).mono ?_
   rintro e w2 ⟨rfl,hb2⟩
   have hb3:=hb.trans (hb2.mono hb.size)
   go_wp2_with fail
   go_ret2
   exact ⟨rfl,hb3⟩
 ·have HK:=Lib.hid (kind_at f hs 3 0 h w hm)
  have HC:=Lib.hid (fun W (hb:Below w.heap.size w W)=>Tryz.strings_Cut f ⟨#[47]⟩ W hs (hm.below hb (Nat.le_refl _)))
  obtain ⟨⟨c0,c1,c2⟩,hc⟩:∃ c,Lib.cut f.data.toList [47] = c:=⟨_,rfl⟩
  have hcs:Lib.cut f.data.toList (⟨#[47]⟩:ByteArray).data.toList = (c0,c1,c2):=hc
  simp only [hcs] at HC
  cases dst with
  | true =>
    have e:showV f off true letter = (⟨c1.toArray⟩,0):=by unfold showV;rw [h,hc];rfl
    rw [e]
    clear h e hm hc hcs
    go_enter Tryz.func73,Tryz.ntmps73
    go_wp2_with fail
    refine HK.out.mono ?_
    rintro e w1 ⟨rfl,hb⟩
    go_wp2_with fail
    refine (HC.out _ hb).mono ?_
    rintro e w2 ⟨rfl,n,rfl⟩
    go_wp2_with fail
    go_ret2
    exact ⟨rfl,below_drewN hb n⟩
  | false =>
    have e:showV f off false letter = (⟨c0.toArray⟩,0):=by unfold showV;rw [h,hc];rfl
    rw [e]
    clear h e hm hc hcs
    go_enter Tryz.func73,Tryz.ntmps73
    go_wp2_with fail
    refine HK.out.mono ?_
    rintro e w1 ⟨rfl,hb⟩
    go_wp2_with fail
    refine (HC.out _ hb).mono ?_
    rintro e w2 ⟨rfl,n,rfl⟩
    go_wp2_with fail
    go_ret2
    exact ⟨rfl,below_drewN hb n⟩
end
section -- AAt
open Go Go.RowKit Go.Shelf
def badL (e:Int):Value:=.tuple #[.agg #[.int .i64 0,.bool false,.string ⟨#[]⟩],.int .i64 e]
end
section -- AAwake
open Go Go.RowKit Go.Shelf
def cetE:EraN:=⟨3600,0,0,0,0,0,0,0,0⟩
def cetS:ByteArray:=⟨#[67,69,84]⟩
theorem cet_kind:kindR cetS.data.toList = (0,0):=by kernel_rfl
theorem cet_err:errP cetE cetS.data.toList = 0:=by kernel_rfl
theorem cet_shows:Shows cetS (cetE.off + cetE.save) (dstB cetE.save) ⟨#[]⟩ cetS 0:=fun W hm=>show_plain cetS _ _ _ W (by decide) hm cet_kind
def eraA (e:EraN) (ru f:ByteArray) (en:Bool):Value:=.agg #[.int .i64 e.off,.string ru,.int .i64 e.save,.string f,.bool en,.int .i64 e.year,.int .i64 e.month,.int .i64 e.dk,.int .i64 e.dw,.int .i64 e.dn,.int .i64 e.sec,.int .i64 e.ak]
theorem awake_any (w:World) (hm:Tryz.MaxL w):Calls Tryz.prog 17 #[] w fun e w'=>e = .returned (.bool true)∧Below w.heap.size w w':=by
 have HM:=Lib.hid hm
 clear hm
 have hb0:Below w.heap.size w ((w.alloc (.cells (eraP cetE cetS).toArray 42)).alloc (.cells #[.string ⟨#[88]⟩,.slice (some ⟨w.heap.size,0,none⟩) 1 1,.slice none 0 0] 27)):=((Below.refl w.heap.size w).alloc (Nat.le_refl _) _).alloc (by simp) _
 have he0:OneE ((w.alloc (.cells (eraP cetE cetS).toArray 42)).alloc (.cells #[.string ⟨#[88]⟩,.slice (some ⟨w.heap.size,0,none⟩) 1 1,.slice none 0 0] 27)) w.heap.size cetE cetS:=(Blk.new w 42 _).alloc _
 have hw0:=Blk.new (w.alloc (.cells (eraP cetE cetS).toArray 42)) 27 #[.string ⟨#[88]⟩,.slice (some ⟨w.heap.size,0,none⟩) 1 1,.slice none 0 0]
 rw [World.size_alloc] at hw0
 have HA:=Lib.hid (show ∀ (i:Int),-2199023255552 ≤ i∧i ≤ 2199023255552→∀ (W:World),Below w.heap.size w W→OneE W w.heap.size cetE cetS→Calls Tryz.prog 19 #[.agg #[.string ⟨#[88]⟩,.slice (some ⟨w.heap.size,0,none⟩) 1 1],.func (.func 15) #[.agg #[.string ⟨#[88]⟩,.slice (some ⟨w.heap.size,0,none⟩) 1 1,.slice none 0 0]] #[],.int .i64 i] W fun o w'=>o = .returned (.tuple #[.agg #[.int .i64 3600,.bool false,.string ⟨#[67,69,84]⟩],.int .i64 0])∧Below W.heap.size W w' from
  fun i hi W hb he=>(at_one ⟨#[88]⟩ w.heap.size (.func 15) #[.agg #[.string ⟨#[88]⟩,.slice (some ⟨w.heap.size,0,none⟩) 1 1,.slice none 0 0]] #[] cetE cetS i W (by decide) (HM.out.below hb (Nat.le_refl _)) he hi.1 hi.2 cet_err cetS 0 cet_shows).mono fun o w' h=>⟨h.1.trans rfl,h.2⟩)
 unfold eraP cetE cetS at hb0 hw0
 go_enter Tryz.func17,Tryz.ntmps17
 go_wp2_with fail
 refine (HA.out 5 (by omega) _ hb0 he0).mono ?_
 rintro o w1 ⟨rfl,hb⟩
 have HE1:=Lib.hid (show OneE w1 w.heap.size cetE cetS from Blk.below he0 hb (Blk.lt he0))
 have hw1:=hw0.below hb hw0.lt
 have HB1:=Lib.hid (hb0.trans (hb.mono hb0.size))
 have hs1:=HB1.out.size
 clear hb hb0 he0 hw0
 have q0:=hw1.cell 0 (v:=.string ⟨#[88]⟩) rfl
 have q1:=hw1.cell 1 (v:=.slice (some ⟨w.heap.size,0,none⟩) 1 1) rfl
 have q2:=hw1.cell 2 (v:=.slice none 0 0) rfl
 have hl1:=hw1.lt
 have HB2:=Lib.hid (HB1.out.alloc hs1 (.cells #[.int .i64 3600,.bool false,.string ⟨#[67,69,84]⟩] 48))
 have HE2:=Lib.hid (show OneE (w1.alloc (.cells #[.int .i64 3600,.bool false,.string ⟨#[67,69,84]⟩] 48)) w.heap.size cetE cetS from Blk.alloc HE1.out _)
 have HX2:=Lib.hid (Blk.new w1 48 #[.int .i64 3600,.bool false,.string ⟨#[67,69,84]⟩])
 go_wp2_with fail
 refine (HA.out (-2199023255552) (by omega) _ HB2.out HE2.out).mono ?_
 rintro o w2 ⟨rfl,hb⟩
 have hx2:=HX2.out.below hb HX2.out.lt
 have HB3:=Lib.hid ((HB2.out.trans (hb.mono HB2.out.size)).alloc (by have:=HB2.out.size;have:=hb.size;omega) (.cells #[.int .i64 3600,.bool false,.string ⟨#[67,69,84]⟩] 48))
 have x0:=hx2.cell 0 (v:=.int .i64 3600) rfl
 have x1:=hx2.cell 1 (v:=.bool false) rfl
 have x2:=hx2.cell 2 (v:=.string ⟨#[67,69,84]⟩) rfl
 have hl2:=hx2.lt
 clear hb hx2 q0 q1 q2 hw1
 go_wp2_with fail
 go_ret
 exact ⟨rfl,HB3.out⟩
end
end Go.Proofs.YteekjfgjmccdnaaGreatDoor
