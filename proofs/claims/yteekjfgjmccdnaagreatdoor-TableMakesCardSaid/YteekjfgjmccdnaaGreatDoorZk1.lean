/-
  
-/
import Derived.Shelf.Strings.SlTrimAscii
import Derived.Shelf.Strings.Cut
import Derived.Shelf.Strings.Replace
import Derived.Shelf.Strings.Search3
import Derived.Shelf.SlSorted.Search
import Derived.Shelf.SlicesE.Clone
import Derived.Shelf.Vars
import Derived.Ground.NamesProg
import Derived.Ground.SlgnProg
import Derived.Ground.SlsoProg
import Derived.Test.YteekjfgjmccdnaaGreatDoorProg
import Derived.WalkKit
import Derived.Lib.Hide
import Derived.Lib.Strings
import Derived.Lib.Slices
import Derived.Lib.IndexMore
import Derived.Lib.SlTrimSet
import Derived.Lib.Replace
import Derived.RangeFuncNested
import Derived.RangeFuncBound
import Derived.RangeFuncCalls
import Derived.RangeFuncLeaves
import Derived.RangeFuncFrom
import Derived.OwnWalkIn
import Derived.Deep.QuietTactic
import Derived.Orders
import Derived.Tactics
import Derived.Below
import Derived.OrdersIn
import Derived.TacticsIn
import Derived.KernelRfl
set_option maxHeartbeats 16000000
set_option maxRecDepth 100000
section -- NShelf
namespace Go.Proofs
open Go.Shelf
def Tryz.lays144_ren:Go.Shelf.Ren:=⟨fun | 144=>130 | 143=>136 | 219=>169 | 217=>184 | 225=>185 | 224=>186 | 267=>187 | 266=>191 | 314=>192 | n=>n,fun | 9=>9 | 4=>4 | 3=>3 | 5=>5 | 46=>205 | 146=>235 | 51=>234 | n=>n,fun | 1=>1 | n=>n⟩
theorem Tryz.lays144:Go.Proofs.Lays.n144 Tryz.prog Tryz.lays144_ren:={
 mixed:=by kernel_rfl
 f143:=Tryz.func136.trans (congrArg some (by kernel_rfl))
 f144:=Tryz.func130.trans (congrArg some (by kernel_rfl))
 f217:=Tryz.func184.trans (congrArg some (by kernel_rfl))
 f219:=Tryz.func169.trans (congrArg some (by kernel_rfl))
 f224:=Tryz.func186.trans (congrArg some (by kernel_rfl))
 f225:=Tryz.func185.trans (congrArg some (by kernel_rfl))
 f266:=Tryz.func191.trans (congrArg some (by kernel_rfl))
 f267:=Tryz.func187.trans (congrArg some (by kernel_rfl))
 f314:=Tryz.func192.trans (congrArg some (by kernel_rfl))
 t3:=Tryz.underlying3
 a3:=Tryz.isAgg3
 z3:=Tryz.sizeOf3
 v3:=Tryz.zeroValue3
 t4:=Tryz.underlying4
 a4:=Tryz.isAgg4
 z4:=Tryz.sizeOf4
 v4:=Tryz.zeroValue4
 t5:=Tryz.underlying5
 a5:=Tryz.isAgg5
 z5:=Tryz.sizeOf5
 v5:=Tryz.zeroValue5
 t9:=Tryz.underlying9
 a9:=Tryz.isAgg9
 z9:=Tryz.sizeOf9
 v9:=Tryz.zeroValue9
 t46:=Tryz.underlying205
 a46:=Tryz.isAgg205
 z46:=Tryz.sizeOf205
 v46:=Tryz.zeroValue205
 t51:=Tryz.underlying234
 a51:=Tryz.isAgg234
 z51:=Tryz.sizeOf234
 v51:=Tryz.zeroValue234
 t146:=Tryz.underlying235
 a146:=Tryz.isAgg235
 z146:=Tryz.sizeOf235
 v146:=Tryz.zeroValue235
 g1:=by kernel_rfl }
def Tryz.lays154_ren:Go.Shelf.Ren:=⟨fun | 154=>112 | 138=>134 | 165=>135 | 143=>136 | 166=>137 | 197=>138 | 169=>139 | 195=>165 | 218=>166 | 240=>167 | 241=>168 | 219=>169 | 260=>170 | 276=>182 | 277=>183 | 217=>184 | 225=>185 | 224=>186 | 267=>187 | 266=>191 | 314=>192 | n=>n,fun | 9=>9 | 3=>3 | 4=>4 | 72=>188 | 0=>0 | 76=>192 | 105=>194 | 21=>21 | 5=>5 | 70=>185 | 20=>20 | 37=>186 | 75=>191 | 127=>221 | 164=>226 | 46=>205 | 119=>229 | 139=>232 | 138=>231 | 146=>235 | 51=>234 | 80=>196 | n=>n,fun | 1=>1 | 3=>2 | 4=>3 | n=>n⟩
theorem Tryz.lays154:Go.Proofs.Lays.n154 Tryz.prog Tryz.lays154_ren:={
 mixed:=by kernel_rfl
 f138:=Tryz.func134.trans (congrArg some (by kernel_rfl))
 f143:=Tryz.func136.trans (congrArg some (by kernel_rfl))
 f154:=Tryz.func112.trans (congrArg some (by kernel_rfl))
 f165:=Tryz.func135.trans (congrArg some (by kernel_rfl))
 f166:=Tryz.func137.trans (congrArg some (by kernel_rfl))
 f169:=Tryz.func139.trans (congrArg some (by kernel_rfl))
 f195:=Tryz.func165.trans (congrArg some (by kernel_rfl))
 f197:=Tryz.func138.trans (congrArg some (by kernel_rfl))
 f217:=Tryz.func184.trans (congrArg some (by kernel_rfl))
 f218:=Tryz.func166.trans (congrArg some (by kernel_rfl))
 f219:=Tryz.func169.trans (congrArg some (by kernel_rfl))
 f224:=Tryz.func186.trans (congrArg some (by kernel_rfl))
 f225:=Tryz.func185.trans (congrArg some (by kernel_rfl))
 f240:=Tryz.func167.trans (congrArg some (by kernel_rfl))
 f241:=Tryz.func168.trans (congrArg some (by kernel_rfl))
 f260:=Tryz.func170.trans (congrArg some (by kernel_rfl))
 f266:=Tryz.func191.trans (congrArg some (by kernel_rfl))
 f267:=Tryz.func187.trans (congrArg some (by kernel_rfl))
 f276:=Tryz.func182.trans (congrArg some (by kernel_rfl))
 f277:=Tryz.func183.trans (congrArg some (by kernel_rfl))
 f314:=Tryz.func192.trans (congrArg some (by kernel_rfl))
 t0:=Tryz.underlying0
 a0:=Tryz.isAgg0
 z0:=Tryz.sizeOf0
 v0:=Tryz.zeroValue0
 t3:=Tryz.underlying3
 a3:=Tryz.isAgg3
 z3:=Tryz.sizeOf3
 v3:=Tryz.zeroValue3
 t4:=Tryz.underlying4
 a4:=Tryz.isAgg4
 z4:=Tryz.sizeOf4
 v4:=Tryz.zeroValue4
 t5:=Tryz.underlying5
 a5:=Tryz.isAgg5
 z5:=Tryz.sizeOf5
 v5:=Tryz.zeroValue5
 t9:=Tryz.underlying9
 a9:=Tryz.isAgg9
 z9:=Tryz.sizeOf9
 v9:=Tryz.zeroValue9
 t20:=Tryz.underlying20
 a20:=Tryz.isAgg20
 z20:=Tryz.sizeOf20
 v20:=Tryz.zeroValue20
 t21:=Tryz.underlying21
 a21:=Tryz.isAgg21
 z21:=Tryz.sizeOf21
 v21:=Tryz.zeroValue21
 t37:=Tryz.underlying186
 a37:=Tryz.isAgg186
 z37:=Tryz.sizeOf186
 v37:=Tryz.zeroValue186
 t46:=Tryz.underlying205
 a46:=Tryz.isAgg205
 z46:=Tryz.sizeOf205
 v46:=Tryz.zeroValue205
 t51:=Tryz.underlying234
 a51:=Tryz.isAgg234
 z51:=Tryz.sizeOf234
 v51:=Tryz.zeroValue234
 t70:=Tryz.underlying185
 a70:=Tryz.isAgg185
 z70:=Tryz.sizeOf185
 v70:=Tryz.zeroValue185
 t72:=Tryz.underlying188
 a72:=Tryz.isAgg188
 z72:=Tryz.sizeOf188
 v72:=Tryz.zeroValue188
 t75:=Tryz.underlying191
 a75:=Tryz.isAgg191
 z75:=Tryz.sizeOf191
 v75:=Tryz.zeroValue191
 t76:=Tryz.underlying192
 a76:=Tryz.isAgg192
 z76:=Tryz.sizeOf192
 v76:=Tryz.zeroValue192
 t105:=Tryz.underlying194
 a105:=Tryz.isAgg194
 z105:=Tryz.sizeOf194
 v105:=Tryz.zeroValue194
 t119:=Tryz.underlying229
 a119:=Tryz.isAgg229
 z119:=Tryz.sizeOf229
 t127:=Tryz.underlying221
 a127:=Tryz.isAgg221
 z127:=Tryz.sizeOf221
 v127:=Tryz.zeroValue221
 t138:=Tryz.underlying231
 a138:=Tryz.isAgg231
 z138:=Tryz.sizeOf231
 v138:=Tryz.zeroValue231
 t139:=Tryz.underlying232
 a139:=Tryz.isAgg232
 z139:=Tryz.sizeOf232
 v139:=Tryz.zeroValue232
 t146:=Tryz.underlying235
 a146:=Tryz.isAgg235
 z146:=Tryz.sizeOf235
 v146:=Tryz.zeroValue235
 t164:=Tryz.underlying226
 a164:=Tryz.isAgg226
 z164:=Tryz.sizeOf226
 v164:=Tryz.zeroValue226
 g1:=by kernel_rfl
 g3:=by kernel_rfl
 g4:=by kernel_rfl }
def Tryz.lays160_ren:Go.Shelf.Ren:=⟨fun | 160=>131 | 232=>159 | 231=>158 | 227=>160 | 234=>162 | 233=>161 | 236=>164 | 235=>163 | 228=>179 | 271=>181 | 151=>180 | 197=>138 | 120=>190 | 152=>189 | 260=>170 | 137=>193 | 119=>194 | 224=>186 | 225=>185 | 217=>184 | 266=>191 | n=>n,fun | 9=>9 | 4=>4 | 3=>3 | 5=>5 | 117=>215 | 116=>214 | 0=>0 | 124=>218 | 21=>21 | 105=>194 | 46=>205 | 119=>229 | 139=>232 | 138=>231 | n=>n,fun | 3=>2 | 4=>3 | n=>n⟩
theorem Tryz.lays160:Go.Proofs.Lays.n160 Tryz.prog Tryz.lays160_ren:={
 mixed:=by kernel_rfl
 f119:=Tryz.func194.trans (congrArg some (by kernel_rfl))
 f120:=Tryz.func190.trans (congrArg some (by kernel_rfl))
 f137:=Tryz.func193.trans (congrArg some (by kernel_rfl))
 f151:=Tryz.func180.trans (congrArg some (by kernel_rfl))
 f152:=Tryz.func189.trans (congrArg some (by kernel_rfl))
 f160:=Tryz.func131.trans (congrArg some (by kernel_rfl))
 f197:=Tryz.func138.trans (congrArg some (by kernel_rfl))
 f217:=Tryz.func184.trans (congrArg some (by kernel_rfl))
 f224:=Tryz.func186.trans (congrArg some (by kernel_rfl))
 f225:=Tryz.func185.trans (congrArg some (by kernel_rfl))
 f227:=Tryz.func160.trans (congrArg some (by kernel_rfl))
 f228:=Tryz.func179.trans (congrArg some (by kernel_rfl))
 f231:=Tryz.func158.trans (congrArg some (by kernel_rfl))
 f232:=Tryz.func159.trans (congrArg some (by kernel_rfl))
 f233:=Tryz.func161.trans (congrArg some (by kernel_rfl))
 f234:=Tryz.func162.trans (congrArg some (by kernel_rfl))
 f235:=Tryz.func163.trans (congrArg some (by kernel_rfl))
 f236:=Tryz.func164.trans (congrArg some (by kernel_rfl))
 f260:=Tryz.func170.trans (congrArg some (by kernel_rfl))
 f266:=Tryz.func191.trans (congrArg some (by kernel_rfl))
 f271:=Tryz.func181.trans (congrArg some (by kernel_rfl))
 t0:=Tryz.underlying0
 a0:=Tryz.isAgg0
 z0:=Tryz.sizeOf0
 v0:=Tryz.zeroValue0
 t3:=Tryz.underlying3
 a3:=Tryz.isAgg3
 z3:=Tryz.sizeOf3
 v3:=Tryz.zeroValue3
 t4:=Tryz.underlying4
 a4:=Tryz.isAgg4
 z4:=Tryz.sizeOf4
 v4:=Tryz.zeroValue4
 t5:=Tryz.underlying5
 a5:=Tryz.isAgg5
 z5:=Tryz.sizeOf5
 v5:=Tryz.zeroValue5
 t9:=Tryz.underlying9
 a9:=Tryz.isAgg9
 z9:=Tryz.sizeOf9
 v9:=Tryz.zeroValue9
 t21:=Tryz.underlying21
 a21:=Tryz.isAgg21
 z21:=Tryz.sizeOf21
 v21:=Tryz.zeroValue21
 t46:=Tryz.underlying205
 a46:=Tryz.isAgg205
 z46:=Tryz.sizeOf205
 v46:=Tryz.zeroValue205
 t105:=Tryz.underlying194
 a105:=Tryz.isAgg194
 z105:=Tryz.sizeOf194
 v105:=Tryz.zeroValue194
 t116:=Tryz.underlying214
 a116:=Tryz.isAgg214
 z116:=Tryz.sizeOf214
 t117:=Tryz.underlying215
 a117:=Tryz.isAgg215
 z117:=Tryz.sizeOf215
 v117:=Tryz.zeroValue215
 t119:=Tryz.underlying229
 a119:=Tryz.isAgg229
 z119:=Tryz.sizeOf229
 t124:=Tryz.underlying218
 a124:=Tryz.isAgg218
 z124:=Tryz.sizeOf218
 v124:=Tryz.zeroValue218
 t138:=Tryz.underlying231
 a138:=Tryz.isAgg231
 z138:=Tryz.sizeOf231
 v138:=Tryz.zeroValue231
 t139:=Tryz.underlying232
 a139:=Tryz.isAgg232
 z139:=Tryz.sizeOf232
 v139:=Tryz.zeroValue232
 g3:=by kernel_rfl
 g4:=by kernel_rfl }
def Tryz.lays145_ren:Go.Shelf.Ren:=⟨fun | 145=>114 | 220=>141 | 219=>169 | 217=>184 | 225=>185 | 224=>186 | 267=>187 | 266=>191 | 314=>192 | n=>n,fun | 9=>9 | 4=>4 | 59=>167 | 3=>3 | 5=>5 | 46=>205 | 146=>235 | 51=>234 | n=>n,fun | 1=>1 | n=>n⟩
theorem Tryz.lays145:Go.Proofs.Lays.n145 Tryz.prog Tryz.lays145_ren:={
 mixed:=by kernel_rfl
 f145:=Tryz.func114.trans (congrArg some (by kernel_rfl))
 f217:=Tryz.func184.trans (congrArg some (by kernel_rfl))
 f219:=Tryz.func169.trans (congrArg some (by kernel_rfl))
 f220:=Tryz.func141.trans (congrArg some (by kernel_rfl))
 f224:=Tryz.func186.trans (congrArg some (by kernel_rfl))
 f225:=Tryz.func185.trans (congrArg some (by kernel_rfl))
 f266:=Tryz.func191.trans (congrArg some (by kernel_rfl))
 f267:=Tryz.func187.trans (congrArg some (by kernel_rfl))
 f314:=Tryz.func192.trans (congrArg some (by kernel_rfl))
 t3:=Tryz.underlying3
 a3:=Tryz.isAgg3
 z3:=Tryz.sizeOf3
 v3:=Tryz.zeroValue3
 t4:=Tryz.underlying4
 a4:=Tryz.isAgg4
 z4:=Tryz.sizeOf4
 v4:=Tryz.zeroValue4
 t5:=Tryz.underlying5
 a5:=Tryz.isAgg5
 z5:=Tryz.sizeOf5
 v5:=Tryz.zeroValue5
 t9:=Tryz.underlying9
 a9:=Tryz.isAgg9
 z9:=Tryz.sizeOf9
 v9:=Tryz.zeroValue9
 t46:=Tryz.underlying205
 a46:=Tryz.isAgg205
 z46:=Tryz.sizeOf205
 v46:=Tryz.zeroValue205
 t51:=Tryz.underlying234
 a51:=Tryz.isAgg234
 z51:=Tryz.sizeOf234
 v51:=Tryz.zeroValue234
 t59:=Tryz.underlying167
 a59:=Tryz.isAgg167
 z59:=Tryz.sizeOf167
 v59:=Tryz.zeroValue167
 t146:=Tryz.underlying235
 a146:=Tryz.isAgg235
 z146:=Tryz.sizeOf235
 v146:=Tryz.zeroValue235
 g1:=by kernel_rfl }
theorem Tryz.extra154:Builder.Extra Tryz.prog Tryz.lays154_ren where
 sizeBuilder:=by kernel_rfl
 liesBuilder:=by kernel_rfl
 t5:=Tryz.underlying5
 a5:=Tryz.isAgg5
 z5:=Tryz.sizeOf5
 v5:=Tryz.zeroValue5
 infoByte:=by kernel_rfl
 cellsByte:=by kernel_rfl
 sizeByte:=by kernel_rfl
 neB5:=by decide
def Tryz.MaxL (w:World):Prop:=∃ m,w.cell? ⟨1,0,none⟩ = some (.int .i64 m)
theorem Tryz.maxL_of {w:World} (h:w.ShapedOpen Tryz.prog):Tryz.MaxL w:=cell_of_shapedOpen_int (zero:=#[.int .i64 0]) h (by decide) (by kernel_rfl) (by kernel_rfl) (by kernel_rfl) (by kernel_rfl) Tryz.underlying3
open Go.RowKit in
theorem Tryz.MaxL.below {B:Nat} {w w':World} (h:Tryz.MaxL w) (hb:Below B w w') (hB:w.heap.size ≤ B):Tryz.MaxL w':=by
 obtain ⟨m,hm⟩:=h
 exact ⟨m,(hb.cell (Nat.lt_of_lt_of_le (World.block_lt_of_cell? w _ hm) hB)).trans hm⟩
open Go.RowKit Go.Lib in
theorem Tryz.strings_Contains (s sub:ByteArray) (w:World) (hs:s.size < 4294967281) (hm:Tryz.MaxL w) :
  Calls Tryz.prog 130 #[.string s,.string sub] w fun e w'=>e = .returned (.bool (Lib.contains s.data.toList sub.data.toList))∧w' = w :=
 hm.elim fun m hm=>Any.strings_Contains Tryz.lays144 s sub m w hs hm
open Go.RowKit Go.Lib in
theorem Tryz.strings_Cut (s sep:ByteArray) (w:World) (hs:s.size < 4294967281) (hm:Tryz.MaxL w) :
  Calls Tryz.prog 114 #[.string s,.string sep] w fun e w'=>e = .returned (.tuple #[.string ⟨(Lib.cut s.data.toList sep.data.toList).1.toArray⟩,.string ⟨(Lib.cut s.data.toList sep.data.toList).2.1.toArray⟩,.bool (Lib.cut s.data.toList sep.data.toList).2.2])∧∃ n,w' = w.drewN n :=
 hm.elim fun m hm=>Any.strings_Cut Tryz.lays145 s sep m w hs hm
open Go.RowKit Go.Lib in
theorem Tryz.strings_Replace (s old new:ByteArray) (n:Int) (w:World) (hs:s.size < 4294967281) (hm:Tryz.MaxL w) (h1:1 ≤ old.size) (hlen:s.size + Lib.countB s old * new.size ≤ 140737488355328) :
  Calls Tryz.prog 112 #[.string s,.string old,.string new,.int .i64 n] w fun e w'=>e = .returned (.string ⟨(Lib.replace s.data.toList old.data.toList new.data.toList n).toArray⟩)∧Below w.heap.size w w' :=
 hm.elim fun m hm=>Any.strings_Replace Tryz.lays154 Tryz.extra154 s old new n m w hs hm h1 hlen
open Go.RowKit Go.Lib in
theorem Tryz.strings_Trim (s cutset:ByteArray) (w:World) (hs:s.size ≤ 9223372036854775807) (hcs:cutset.size < 4294967281) (hascii:∀ (j:Nat) b,cutset.data.toList[j]? = some b→b.toNat < 128) :
  Calls Tryz.prog 131 #[.string s,.string cutset] w fun e w'=>e = .returned (.string ⟨(Lib.trimS s.data.toList cutset.data.toList).toArray⟩)∧Below w.heap.size w w' :=
 Any.strings_Trim_laid Tryz.lays160 (by kernel_rfl) s cutset w hs hcs hascii
end Go.Proofs
end
namespace Go.Proofs.YteekjfgjmccdnaaGreatDoor
section -- Base
open Go Go.RowKit
def Sl (w:World) (B sz:Nat) (v:Value) (n:Nat) (xs:List Value):Prop :=
 ∃ A c,v = .slice A n c∧n ≤ c∧c ≤ maxLen∧xs.length = n * sz∧(0 < n→∃ b o,A = some ⟨b,o,none⟩∧b < B∧∀ j u,xs[j]? = some u→w.cell? ⟨b,o + j,none⟩ = some u)
section
variable {w w':World} {B B' sz n:Nat} {v:Value} {xs:List Value}
theorem Sl.nil (w:World) (B sz:Nat):Sl w B sz (.slice none 0 0) 0 []:=⟨_,_,rfl,Nat.le_refl _,by decide,by simp,fun h=>absurd h (by omega)⟩
theorem Sl.form (h:Sl w B sz v n xs):∃ A c,v = .slice A n c:=⟨_,_,h.choose_spec.choose_spec.1⟩
theorem Sl.keep (h:Sl w B sz v n xs) (hk:∀ p:Addr,p.block < B→w'.cell? p = w.cell? p):Sl w' B sz v n xs:=by
 obtain ⟨A,c,rfl,h1,h2,hl,hc⟩:=h
 refine ⟨A,c,rfl,h1,h2,hl,fun hn=>?_⟩
 obtain ⟨b,o,rfl,hb,hc⟩:=hc hn
 exact ⟨b,o,rfl,hb,fun j u hu=>(hk _ hb).trans (hc j u hu)⟩
theorem Sl.more (h:Sl w B sz v n xs) (hB:B ≤ B'):Sl w B' sz v n xs:=by
 obtain ⟨A,c,rfl,h1,h2,hl,hc⟩:=h
 refine ⟨A,c,rfl,h1,h2,hl,fun hn=>?_⟩
 obtain ⟨b,o,rfl,hb,hc⟩:=hc hn
 exact ⟨b,o,rfl,by omega,hc⟩
theorem Sl.below (h:Sl w B sz v n xs) (hb:Below B w w'):Sl w' B sz v n xs:=h.keep fun _ hp=>hb.cell hp
theorem Sl.alloc (h:Sl w B sz v n xs) (hB:B ≤ w.heap.size) (o:Obj):Sl (w.alloc o) B sz v n xs:=h.keep fun p hp=>World.cell?_alloc_lt w o p (by omega)
theorem Sl.of_own {base:Nat} {e:TypeId} (h:w.ownsRow base e sz v n xs):Sl w w.heap.size sz v n xs:=by
 rcases h.2 with ⟨rfl,rfl⟩ | ⟨g,cap,cur,rfl,hb,hg,hnc,hm,hcs,htake⟩
 ·exact ⟨none,0,rfl,Nat.le_refl _,by decide,h.1,fun hn=>absurd hn (by omega)⟩
 ·refine ⟨_,_,rfl,hnc,hm,h.1,fun _=>⟨g,0,rfl,(Array.getElem?_eq_some_iff.1 hg).1,fun j u hu=>?_⟩⟩
  have:=h.cells (g:=g) rfl j u hu
  rwa [Addr.add_lit] at this
theorem Sl.at_ (h:Sl w B sz v n xs) (hn:0 < n):∃ b o c,v = .slice (some ⟨b,o,none⟩) n c∧b < B∧∀ j u,xs[j]? = some u→w.cell? ⟨b,o + j,none⟩ = some u:=by
 obtain ⟨A,c,rfl,-,-,hl,hc⟩:=h
 obtain ⟨b,o,rfl,hb,hc⟩:=hc hn
 exact ⟨b,o,c,rfl,hb,hc⟩
theorem Sl.mk_ {b o c:Nat} (h1:n ≤ c) (h2:c ≤ maxLen) (hl:xs.length = n * sz) (hb:b < B) (hc:∀ j u,xs[j]? = some u→w.cell? ⟨b,o + j,none⟩ = some u):Sl w B sz (.slice (some ⟨b,o,none⟩) n c) n xs :=
 ⟨_,_,rfl,h1,h2,hl,fun _=>⟨b,o,rfl,hb,hc⟩⟩
end
theorem cell_new (w:World) (C:Array Value) (t:TypeId) (fr:Nat × Nat) (i:Nat):(w.alloc (.cells C t fr)).cell? ⟨w.heap.size,i,none⟩ = C[i]?:=by
 have h:(w.alloc (.cells C t fr)).heap[w.heap.size]? = some (.cells C t fr):=heap_alloc_new w _
 unfold World.cell?
 rw [h]
 rfl
section
variable {w:World} {base e sz g n c:Nat} {v:Value} {xs:List Value}
end
section
variable {w w':World} {B B':Nat} {v:Value} {l:List UInt8}
end
end
section -- NMath
open Go
def abcB:List UInt8:=[97,98,99,100,101,102,103,104,105,106,107,108,109,110,111,112,113,114,115,116,117,118,119,120,121,122,65,66,67,68,69,70,71,72,73,74,75,76,77,78,79,80,81,82,83,84,85,86,87,88,89,90,48,49,50,51,52,53,54,55,56,57,43,45]
def kindP (f:List UInt8):Int × List UInt8 :=
 if Lib.contains f [37,115] then (1,Lib.replace f [37,115] [] 1) else if Lib.contains f [37,122] then (2,Lib.replace f [37,122] [] 1) else if Lib.contains f [47] then (3,Lib.replace f [47] [] 1) else (0,f)
def edgeB (f:List UInt8):Bool:=decide ((kindP f).1 = 3) && (f.headD 0 == 47 || f.getLastD 0 == 47)
def badB (f:List UInt8):Bool:=f.isEmpty || decide (64 < f.length) || edgeB f || !(Lib.trimS (kindP f).2 abcB).isEmpty
def kindR (f:List UInt8):Int × Int:=if badB f then (0,12) else ((kindP f).1,0)
theorem kindR_bad {f:List UInt8} (h:badB f = true):kindR f = (0,12):=by unfold kindR;rw [if_pos h]
theorem kindR_ok {f:List UInt8} {k:Int} {p:List UInt8} (h:badB f = false) (hk:kindP f = (k,p)):kindR f = (k,0):=by unfold kindR;rw [if_neg (by rw [h];simp),hk]
theorem bad_empty {f:List UInt8} (h:f = []):badB f = true:=by subst h;rfl
theorem bad_long {f:List UInt8} (h:64 < f.length):badB f = true:=by unfold badB;rw [decide_eq_true h];simp
theorem bad_edge {f:List UInt8} (h:edgeB f = true):badB f = true:=by unfold badB;rw [h];simp
theorem bad_trim {f:List UInt8} {k:Int} {p:List UInt8} (hk:kindP f = (k,p)) (h:Lib.trimS p abcB ≠ []):badB f = true:=by
 unfold badB
 rw [hk]
 have:(Lib.trimS p abcB).isEmpty = false:=by cases e:Lib.trimS p abcB with | nil=>exact absurd e h | cons a l=>rfl
 rw [this]
 simp
theorem bad_not {f:List UInt8} {k:Int} {p:List UInt8} (hk:kindP f = (k,p)) (h0:f ≠ []) (h1:¬ 64 < f.length) (h2:edgeB f = false) (h3:Lib.trimS p abcB = []):badB f = false:=by
 unfold badB
 rw [hk,h2,h3,decide_eq_false h1]
 cases f with
 | nil=>exact absurd rfl h0
 | cons a l=>rfl
theorem edge_not {f:List UInt8} {k:Int} {p:List UInt8} (hk:kindP f = (k,p)) (h:k ≠ 3):edgeB f = false:=by
 unfold edgeB
 rw [hk,decide_eq_false h]
 rfl
theorem contains_ne {f m:List UInt8} (hm:m ≠ []) (h:Lib.contains f m = true):f ≠ []:=by
 rintro rfl
 cases m with
 | nil=>exact hm rfl
 | cons a l=>simp [Lib.contains,Lib.index] at h
theorem edge_at {f:ByteArray} {p:List UInt8} (hk:kindP f.data.toList = (3,p)) (h0:0 < f.size):edgeB f.data.toList = (decide ((f[0].toNat:Int) = 47) || decide ((f[f.size - 1].toNat:Int) = 47)):=by
 have e0:f.data.toList.headD 0 = f[0]:=by
  have h1:0 < f.data.toList.length:=by simpa using h0
  rw [List.headD_eq_head?_getD,List.head?_eq_getElem?,List.getElem?_eq_getElem h1]
  rfl
 have e1:f.data.toList.getLastD 0 = f[f.size - 1]:=by
  have h1:f.size - 1 < f.data.toList.length:=by simp;omega
  rw [List.getLastD_eq_getLast?,List.getLast?_eq_getElem?]
  have h2:f.data.toList.length - 1 = f.size - 1:=by simp
  rw [h2,List.getElem?_eq_getElem h1]
  rfl
 have eq:∀ c:UInt8,(c == 47) = decide ((c.toNat:Int) = 47):=by
  intro c
  rw [Bool.eq_iff_iff]
  simp only [beq_iff_eq,decide_eq_true_eq]
  constructor
  ·rintro rfl;rfl
  ·intro h
   apply UInt8.toNat_inj.1
   have:c.toNat = 47:=by omega
   rw [this]
   rfl
 unfold edgeB
 rw [hk,e0,e1,eq,eq]
 simp
end
section -- Frm
open Go Go.RowKit
structure Fr (T:Nat→Prop) (W W':World):Prop where
 os:W'.os = W.os
 tape:W'.tape = W.tape
 output:W'.output = W.output
 size:W.heap.size ≤ W'.heap.size
 block:∀ k,k < W.heap.size→¬ T k→W'.heap[k]? = W.heap[k]?
section
variable {T T':Nat→Prop} {W W' W2:World}
theorem Fr.refl (T:Nat→Prop) (W:World):Fr T W W:=⟨rfl,rfl,rfl,Nat.le_refl _,fun _ _ _=>rfl⟩
theorem Fr.trans (h:Fr T W W') (k:Fr T' W' W2) (ht:∀ k,T' k→T k∨W.heap.size ≤ k):Fr T W W2 :=
 ⟨k.os.trans h.os,k.tape.trans h.tape,k.output.trans h.output,Nat.le_trans h.size k.size,fun j hj hn =>
   (k.block j (Nat.lt_of_lt_of_le hj h.size) (fun e=>by rcases ht j e with e | e;exact hn e;omega)).trans (h.block j hj hn)⟩
theorem Fr.then (h:Fr T W W') (k:Fr T W' W2):Fr T W W2:=h.trans k fun _ h=>.inl h
theorem Fr.mono (h:Fr T W W') (ht:∀ k,T k→T' k∨W.heap.size ≤ k):Fr T' W W':=⟨h.os,h.tape,h.output,h.size,fun k hk hn=>h.block k hk fun e=>by rcases ht k e with e | e;exact hn e;omega⟩
theorem Fr.of_below {B:Nat} (h:Below B W W') (hB:W.heap.size ≤ B):Fr T W W':=⟨h.os,h.tape,h.output,h.size,fun k hk _=>h.block k (Nat.lt_of_lt_of_le hk hB)⟩
theorem Fr.below {B:Nat} (h:Fr T W W') (hB:B ≤ W.heap.size) (ht:∀ k,k < B→¬ T k):Below B W W':=⟨h.os,h.tape,h.output,h.size,fun k hk=>h.block k (Nat.lt_of_lt_of_le hk hB) (ht k hk)⟩
theorem Fr.grown {row:Option Nat} (h:W.grownBy W' row) (hr:∀ g,row = some g→T g∨W.heap.size ≤ g):Fr T W W' :=
 ⟨h.os,h.tape,h.output,h.size,fun k hk hn=>h.block k hk fun e=>by rcases hr k e.symm with e | e;exact hn e;omega⟩
theorem Fr.alloc (W:World) (o:Obj):Fr T W (W.alloc o):=.of_below ((Below.refl W.heap.size W).alloc (Nat.le_refl _) o) (Nat.le_refl _)
theorem Fr.drew (W:World):Fr T W W.drew:=.of_below ((Below.refl W.heap.size W).drew) (Nat.le_refl _)
theorem Fr.setCell (W:World) {b:Nat} (i:Nat) (v:Value) (h:T b):Fr T W (W.setCell ⟨b,i,none⟩ v) :=
 ⟨rfl,rfl,rfl,by simp,fun k _ hn=>Below.heap_setCell W ⟨b,i,none⟩ v k (fun e=>hn (by subst e;exact h))⟩
theorem Fr.putObj (W:World) {l:Nat} (o:Obj) (h:T l):Fr T W (W.putObj l o) :=
 ⟨rfl,rfl,rfl,by simp [World.putObj],fun k _ hn=>World.putObj_heap_other (fun e=>hn (by subst e;exact h))⟩
theorem Fr.cell (h:Fr T W W') {p:Addr} (hp:p.block < W.heap.size) (hn:¬ T p.block):W'.cell? p = W.cell? p:=World.cell?_of_block (h.block p.block hp hn)
theorem Fr.at_ (h:Fr T W W') {k:Nat} {o:Obj} (hk:W.heap[k]? = some o) (hn:¬ T k):W'.heap[k]? = some o:=(h.block k (Array.getElem?_eq_some_iff.1 hk).1 hn).trans hk
theorem Fr.own {base:Nat} {e:TypeId} {sz n:Nat} {v:Value} {xs:List Value} (h:Fr T W W') (ho:W.ownsRow base e sz v n xs) (hn:∀ g,v.ownBlock = some g→¬ T g):W'.ownsRow base e sz v n xs:=by
 refine ⟨ho.1,?_⟩
 rcases ho.2 with hnil | ⟨g,cap,cur,rfl,hb,hg,rest⟩
 ·exact .inl hnil
 ·exact .inr ⟨g,cap,cur,rfl,hb,h.at_ hg (hn g rfl),rest⟩
theorem Fr.sl {B sz n:Nat} {v:Value} {xs:List Value} (h:Fr T W W') (hs:Sl W B sz v n xs) (hB:B ≤ W.heap.size) (hn:∀ k,k < B→¬ T k):Sl W' B sz v n xs:=hs.below (h.below hB hn)
end
def Bd (O:Nat→Prop) (W:World):Prop:=∀ k,O k→k < W.heap.size
theorem Bd.fr {O T:Nat→Prop} {W W':World} (h:Bd O W) (hf:Fr T W W'):Bd O W':=fun k hk=>Nat.lt_of_lt_of_le (h k hk) hf.size
def Feet {β:Type} (J:β→(Nat→Prop)→World→Prop):Prop:=∀ s O W W',J s O W→Fr (fun k=>¬ O k) W W'→J s O W'
section
variable {F:Fence} {n:Nat} {P:Program}
def RoundsIn {α:Type} (F:Fence) (m:Nat) (P:Program) (l:Nat) (encs:α→Array Value) (R:List α→α→(Nat→Prop)→World→Prop) (J Jx:List α→(Nat→Prop)→World→Prop):Prop :=
 ∀ pre x D O W,J pre O W→Bd O W→Bd D W→(∀ k,D k→¬ O k)→R pre x D W→YieldAt F m P l (encs x) W fun e W' =>
  ∃ O',(∀ k,O' k→O k∨D k∨W.heap.size ≤ k)∧Bd O' W'∧Fr (fun k=>O k∨D k) W W'∧((e = .returned (.bool true)∧J (pre ++ [x]) O' W')∨(e = .returned (.bool false)∧Jx (pre ++ [x]) O' W'))
def IterEnd {α:Type} (S Sp:List α→Prop) (J Jx:List α→(Nat→Prop)→World→Prop) (O M:Nat→Prop) (W:World) (e:Ending) (W':World):Prop :=
 (∃ v,e = .returned v)∧∃ O',(∀ k,O' k→O k∨W.heap.size ≤ k)∧Bd O' W'∧Fr (fun k=>O k∨M k) W W'∧((∃ xs,S xs∧J xs O' W')∨(∃ pre,Sp pre∧Jx pre O' W'))
def Iter {α:Type} (F:Fence) (n:Nat) (P:Program) (g:Nat) (lb:Array Value) (encs:α→Array Value) (R:List α→α→(Nat→Prop)→World→Prop) (S Sp:List α→Prop) (K M:Nat→Prop) (W:World):Prop :=
 ∀ (l:Nat) (J Jx:List α→(Nat→Prop)→World→Prop),Feet J→Feet Jx→RoundsIn F (n - 1) P l encs R J Jx →
  ∀ O,J [] O W→Bd O W→(∀ k,K k→¬ O k) →
  CallsIn F n P g (#[.func (.yield l) #[] #[]] ++ lb) W (IterEnd S Sp J Jx O M W)
def leftO {α:Type} (I:List α→(Nat→Prop)→World→Prop) (Ix:Code→List α→(Nat→Prop)→World→Prop) (xs:List α) (O D:Nat→Prop) (W:World) (e:Exit) (_:Act) (W':World):Prop :=
 ∃ O',(∀ k,O' k→O k∨D k∨W.heap.size ≤ k)∧Bd O' W'∧Fr (fun k=>O k∨D k) W W' ∧
  match e with
  | .normal=>I xs O' W'
  | .ret=>Ix .ret xs O' W'
  | .exit id=>Ix (.exit id) xs O' W'
  | .goto t=>Ix (.goto t) xs O' W'
  | .panic _=>False
  | .outgrown=>False
theorem range_own {α:Type} {g:Operand} {ps:Array Tmp} {assign body:Code} {Q:Exit→Act→World→Prop} {a:Act} {w:World}
  (hro:F.round = none) (h1:1 ≤ n) {gf:Nat} {lb:Array Value} (hg:a.eval g = .func (.func gf) #[] lb) (hFg:F.fn gf) (eg:∀ args w,(callFunc gf args).run P w = .ok (.enter gf args) w)
  {encs:α→Array Value} {R:List α→α→(Nat→Prop)→World→Prop} {S Sp:List α→Prop} {K M:Nat→Prop}
  (hseq:∀ W,Below w.heap.size w W→Iter F (n - 1) P gf lb encs R S Sp K M W) (hps:∀ x,(encs x).size = ps.size)
  (I:List α→(Nat→Prop)→World→Prop) (Ix:Code→List α→(Nat→Prop)→World→Prop) (hI:Feet I) (hIx:∀ c,Feet (Ix c)) (O0:Nat→Prop) (h0:I [] O0 w) (hO0:Bd O0 w) (hM:Bd K w) (hMO:∀ k,K k→¬ O0 k)
  (hround:∀ (l:Nat) (pre:List α) (x:α) (O D:Nat→Prop) (W:World),I pre O W→Bd O W→Bd D W→(∀ k,D k→¬ O k)→R pre x D W→¬ O l→¬ D l→w.heap.size < l→l < W.heap.size →
    assign.wpIn (F.inRound l) (n - 1 - 1) P (Exit.then (fun a' Wa=>Below W.heap.size W Wa∧∀ Wb,Fr (fun k=>k = l) Wa Wb→I pre O Wb→(∃ r,Wb.heap[l]? = some (.loop r))→body.wpIn (F.inRound l) (n - 1 - 1) P (leftO I Ix (pre ++ [x]) O D Wb) a' Wb) (fun _ _ _=>False))
     { tmps:=(ps.zip (encs x)).foldl (fun t (p,v)=>t.setIfInBounds p v) a.tmps,defers:=[] } W)
  (hdone:∀ (B:Nat) (xs:List α) (O:Nat→Prop) (W:World),w.heap.size ≤ B→S xs→I xs O W→(∀ k,O k→O0 k∨w.heap.size ≤ k)→Bd O W→¬ O B→Fr (fun k=>O0 k∨M k) w W→W.heap[B]? = some (.deferred (some []))→Q .normal { a with defers:={ target:=.collected B,args:=#[] } :: a.defers } W)
  (hstop:∀ (B:Nat) (c:Code) (pre:List α) (O:Nat→Prop) (W:World),w.heap.size ≤ B→Sp pre→Ix c pre O W→(∀ k,O k→O0 k∨w.heap.size ≤ k)→Bd O W→¬ O B→Fr (fun k=>O0 k∨M k) w W→W.heap[B]? = some (.deferred (some []))→c.wpIn F n P Q { a with defers:={ target:=.collected B,args:=#[] } :: a.defers } W) :
  (Code.rangeFunc g ps assign body).wpIn F n P Q a w:=by
 refine wpIn_rangeFunc fun fn hfn=>?_
 rw [hro]
 generalize hT:w.heap.size = T at *
 generalize hrec:(fun (st:LoopState) (pe:Option Code)=>({ state:=st,pending:=pe,fn:=fn,tmps:=a.tmps,params:=ps,assign:=assign,body:=body,defers:=T }:Loop)) = rec
 have er:∀ st pe,({ state:=st,pending:=pe,fn:=fn,tmps:=a.tmps,params:=ps,assign:=assign,body:=body,defers:=T }:Loop) = rec st pe:=fun st pe=>by rw [← hrec]
 have rs:∀ st pe,(rec st pe).state = st:=fun st pe=>by rw [← hrec]
 have rp:∀ st pe,(rec st pe).params = ps:=fun st pe=>by rw [← hrec]
 have rb:∀ st pe,({ rec st pe with state:=.busy }:Loop) = rec .busy pe:=fun st pe=>by rw [← hrec]
 generalize hW1:(w.alloc (.deferred (some []))).alloc (.loop (rec .ready none)) = W1
 have hs1:W1.heap.size = T + 2:=by rw [← hW1];simp [hT]
 have hl1:W1.heap[T + 1]? = some (.loop (rec .ready none)):=by
  have:=World.alloc_heap_new (w.alloc (.deferred (some []))) (.loop (rec .ready none))
  rw [World.size_alloc,hT] at this
  rw [← hW1]
  exact this
 have hd1:W1.heap[T]? = some (.deferred (some [])):=by
  have h:=World.alloc_heap_new w (.deferred (some []))
  rw [hT] at h
  rw [← hW1]
  exact (Below.heap_alloc _ _ _ (by simp [hT])).trans h
 have hb1:Below T w W1:=by
  rw [← hW1]
  exact ((Below.refl _ w).alloc (by omega) _).alloc (by simp;omega) _
 have hf1:∀ X,Fr X w W1:=fun X=>Fr.of_below hb1 (by omega)
 have en:=run_enterLoop_outer (P:=P) (w:=w) fn a.tmps ps assign body
 rw [hT,er .ready none,hW1] at en
 refine ⟨T + 1,[{ target:=.collected T,args:=#[] }],W1,{ target:=.fn (.func gf) lb,args:=#[.func (.yield (T + 1)) #[] #[]] },W1,gf,#[.func (.yield (T + 1)) #[] #[]] ++ lb,W1,en,?_,?_,?_,fun _=>h1,?_⟩
 ·simp only [resolve,hg]
  simp [go_sem]
 ·intro f' hf'
  simp [Target.leads] at hf'
  rw [← hf']
  exact hFg
 ·simp [invoke,go_sem,eg]
 have bO0:∀ k,O0 k→k < T:=fun k hk=>by have:=hO0 k hk;omega
 have bM:∀ k,K k→k < T:=fun k hk=>by have:=hM k hk;omega
 refine (hseq W1 hb1 (T + 1)
  (fun pre O W=>I pre (fun k=>O k∧k ≠ T∧k ≠ T + 1) W∧O T∧O (T + 1)∧T + 2 ≤ W.heap.size∧W.heap[T + 1]? = some (.loop (rec .ready none))∧W.heap[T]? = some (.deferred (some [])))
  (fun pre O W=>(∃ c,Ix c pre (fun k=>O k∧k ≠ T∧k ≠ T + 1) W∧W.heap[T + 1]? = some (.loop (rec .done (some c))))∧O T∧O (T + 1)∧T + 2 ≤ W.heap.size∧W.heap[T]? = some (.deferred (some []))) ?feetJ ?feetX ?round
  (fun k=>O0 k∨k = T∨k = T + 1) ⟨?i0,.inr (.inl rfl),.inr (.inr rfl),by omega,hl1,hd1⟩ ?bd (fun k hm h=>by have:=bM k hm;rcases h with h | h | h;exact hMO k hm h;omega;omega)).mono ?behind
 case feetJ =>
  rintro s O W W' ⟨hi,hT0,hT1,hs,hl,hd⟩ hf
  refine ⟨hI _ _ _ _ hi (hf.mono fun k hk=>.inl fun h=>hk h.1),hT0,hT1,Nat.le_trans hs hf.size,hf.at_ hl (by simpa using hT1),hf.at_ hd (by simpa using hT0)⟩
 case feetX =>
  rintro s O W W' ⟨⟨c,hi,hl⟩,hT0,hT1,hs,hd⟩ hf
  refine ⟨⟨c,hIx c _ _ _ _ hi (hf.mono fun k hk=>.inl fun h=>hk h.1),hf.at_ hl (by simpa using hT1)⟩,hT0,hT1,Nat.le_trans hs hf.size,hf.at_ hd (by simpa using hT0)⟩
 case i0 =>
  have e:(fun k=>(O0 k∨k = T∨k = T + 1)∧k ≠ T∧k ≠ T + 1) = O0:=by
   funext k
   apply propext
   constructor
   ·rintro ⟨h | h | h,h1,h2⟩
    ·exact h
    ·exact absurd h h1
    ·exact absurd h h2
   ·intro h
    have:=bO0 k h
    exact ⟨.inl h,by omega,by omega⟩
  rw [e]
  exact hI _ _ _ _ h0 (hf1 _)
 case bd =>
  intro k hk
  rcases hk with hk | hk | hk
  ·have:=bO0 k hk;omega
  ·omega
  ·omega
 case round =>
  rintro pre x D O V ⟨hi,hT0,hT1,hsz,hlV,hkV⟩ hBO hBD hDO hR
  have hltV:T + 1 < V.heap.size:=(Array.getElem?_eq_some_iff.1 hlV).1
  have hy:=run_yield (P:=P) (args:=encs x) hlV (by rw [rp];exact hps x)
  have hDT:¬ D T:=fun h=>hDO T h hT0
  have hDT1:¬ D (T + 1):=fun h=>hDO (T + 1) h hT1
  have e1:(rec .ready none).fn = fn∧(rec .ready none).tmps = a.tmps∧(rec .ready none).assign = assign∧(rec .ready none).body = body:=by rw [← hrec];exact ⟨rfl,rfl,rfl,rfl⟩
  rw [e1.1,e1.2.1,e1.2.2.1,e1.2.2.2,rp] at hy
  refine ⟨fn,_,assign,body,hy,roundIn_of_wpIn hfn (wpIn_mono (hround (T + 1) pre x _ D V hi (fun k hk=>hBO k hk.1) hBD (fun k hk h=>hDO k hk h.1) hR (fun h=>h.2.2 rfl) hDT1 (by omega) hltV) ?_)⟩
  rintro e a' Va hVa
  cases e with
  | normal=>?_
  | ret=>exact hVa.elim
  | exit id=>exact hVa.elim
  | goto t=>exact hVa.elim
  | panic ch=>exact hVa.elim
  | outgrown=>exact hVa.elim
  obtain ⟨hbV,hbody⟩:=hVa
  have hl:=(hbV.block (T + 1) hltV).trans hlV
  have hk:=(hbV.block T (by omega)).trans hkV
  have hlt:T + 1 < Va.heap.size:=Nat.lt_of_lt_of_le hltV hbV.size
  have hbr:=run_beginRound (P:=P) hl (rs _ _)
  rw [rb] at hbr
  refine ⟨_,hbr,?_⟩
  generalize hB:Va.putObj (T + 1) (.loop (rec .busy none)) = Bz at hbr
  have hlB:Bz.heap[T + 1]? = some (.loop (rec .busy none)):=by rw [← hB];exact World.putObj_heap_same hlt
  have hkB:Bz.heap[T]? = some (.deferred (some [])):=by rw [← hB];exact (World.putObj_heap_other (by omega)).trans hk
  have hAB:∀ X:Nat→Prop,X (T + 1)→Fr X Va Bz:=fun X hX=>by rw [← hB];exact Fr.putObj _ _ hX
  have hVB:∀ X:Nat→Prop,X (T + 1)→Fr X V Bz:=fun X hX=>(Fr.of_below hbV (Nat.le_refl _)).then (hAB X hX)
  have hsB:V.heap.size ≤ Bz.heap.size:=(hVB (fun _=>True) trivial).size
  have hiB:I pre (fun k=>O k∧k ≠ T∧k ≠ T + 1) Bz:=hI _ _ _ _ hi (hVB _ (fun h=>h.2.2 rfl))
  refine wpIn_mono (hbody Bz (hAB _ rfl) hiB ⟨_,hlB⟩) ?_
  rintro e a3 W3 ⟨O3,hx3,hb3,hf3,hp⟩
  have hl3:W3.heap[T + 1]? = some (.loop (rec .busy none)):=hf3.at_ hlB (fun h=>by rcases h with h | h;exact h.2.2 rfl;exact hDT1 h)
  have hk3:W3.heap[T]? = some (.deferred (some [])):=hf3.at_ hkB (fun h=>by rcases h with h | h;exact h.2.1 rfl;exact hDT h)
  have n3:∀ k,O3 k→k ≠ T∧k ≠ T + 1:=fun k hk=>by
   rcases hx3 k hk with h | h | h
   ·exact ⟨h.2.1,h.2.2⟩
   ·exact ⟨fun e=>hDT (e ▸ h),fun e=>hDT1 (e ▸ h)⟩
   ·constructor <;> omega
  have eO:(fun k=>(O3 k∨k = T∨k = T + 1)∧k ≠ T∧k ≠ T + 1) = O3:=by
   funext k
   apply propext
   constructor
   ·rintro ⟨h | h | h,h1,h2⟩
    ·exact h
    ·exact absurd h h1
    ·exact absurd h h2
   ·intro h
    exact ⟨.inl h,n3 k h⟩
  have hxO:∀ k,(O3 k∨k = T∨k = T + 1)→O k∨D k∨V.heap.size ≤ k:=fun k hk=>by
   rcases hk with hk | rfl | rfl
   ·rcases hx3 k hk with h | h | h
    ·exact .inl h.1
    ·exact .inr (.inl h)
    ·exact .inr (.inr (by omega))
   ·exact .inl hT0
   ·exact .inl hT1
  have hs3:=hf3.size
  have fin:∀ (jump:Option Code),∃ W4,(Instr.endRound (T + 1) jump).run P W3 = .ok (.bool jump.isNone) W4∧W4.heap[T + 1]? = some (.loop (rec (if jump.isNone then .ready else .done) jump))∧W4.heap[T]? = some (.deferred (some []))∧T + 2 ≤ W4.heap.size∧(∀ X:Nat→Prop,X (T + 1)→Fr X W3 W4):=fun jump=>by
   have hr:=run_endRound (P:=P) jump hl3
   have hh:({ rec .busy none with state:=(if jump.isNone then LoopState.ready else .done),pending:=jump }:Loop) = rec (if jump.isNone then .ready else .done) jump:=by rw [← hrec]
   rw [hh] at hr
   exact ⟨_,hr,World.putObj_heap_same (Array.getElem?_eq_some_iff.1 hl3).1,(World.putObj_heap_other (by omega)).trans hk3,by simp [World.putObj];omega,fun X hX=>Fr.putObj _ _ hX⟩
  have hfV:∀ W4,(∀ X:Nat→Prop,X (T + 1)→Fr X W3 W4)→Fr (fun k=>O k∨D k) V W4:=fun W4 h4 =>
   ((hVB (fun k=>O k∨D k) (.inl hT1)).trans hf3 (fun k hk=>by rcases hk with hk | hk;exact .inl (.inl hk.1);exact .inl (.inr hk))).then (h4 _ (.inl hT1))
  have hbd:∀ W4,(∀ X:Nat→Prop,X (T + 1)→Fr X W3 W4)→Bd (fun k=>O3 k∨k = T∨k = T + 1) W4:=fun W4 h4 k hk=>by
   have h5:=(h4 (fun _=>True) trivial).size
   rcases hk with hk | hk | hk
   ·have:=hb3 k hk;omega
   ·omega
   ·omega
  have n5:∀ k,¬ ¬ O3 k→k ≠ T + 1:=fun k h=>(n3 k (Classical.not_not.1 h)).2
  have keep:∀ W4,(∀ X:Nat→Prop,X (T + 1)→Fr X W3 W4)→Fr (fun k=>¬ O3 k) W3 W4:=fun W4 h4=>h4 _ (fun h=>(n3 _ h).2 rfl)
  cases e with
  | normal =>
    obtain ⟨W4,hr,hl4,hk4,hs4,h4⟩:=fin none
    exact ⟨_,_,hr,_,hxO,hbd _ h4,hfV _ h4,.inl ⟨rfl,by rw [eO];exact hI _ _ _ _ hp (keep _ h4),.inr (.inl rfl),.inr (.inr rfl),hs4,hl4,hk4⟩⟩
  | ret =>
    obtain ⟨W4,hr,hl4,hk4,hs4,h4⟩:=fin (some .ret)
    exact ⟨_,_,hr,_,hxO,hbd _ h4,hfV _ h4,.inr ⟨rfl,⟨_,by rw [eO];exact hIx _ _ _ _ _ hp (keep _ h4),hl4⟩,.inr (.inl rfl),.inr (.inr rfl),hs4,hk4⟩⟩
  | exit id =>
    obtain ⟨W4,hr,hl4,hk4,hs4,h4⟩:=fin (some (.exit id))
    exact ⟨_,_,hr,_,hxO,hbd _ h4,hfV _ h4,.inr ⟨rfl,⟨_,by rw [eO];exact hIx _ _ _ _ _ hp (keep _ h4),hl4⟩,.inr (.inl rfl),.inr (.inr rfl),hs4,hk4⟩⟩
  | goto t =>
    obtain ⟨W4,hr,hl4,hk4,hs4,h4⟩:=fin (some (.goto t))
    exact ⟨_,_,hr,_,hxO,hbd _ h4,hfV _ h4,.inr ⟨rfl,⟨_,by rw [eO];exact hIx _ _ _ _ _ hp (keep _ h4),hl4⟩,.inr (.inl rfl),.inr (.inr rfl),hs4,hk4⟩⟩
  | panic ch=>exact hp.elim
  | outgrown=>exact hp.elim
 case behind =>
  rintro e W2 ⟨⟨v,rfl⟩,O2,hx2,hb2,hf2,h⟩
  have hfw:∀ W4,(∀ X:Nat→Prop,X (T + 1)→Fr X W2 W4)→Fr (fun k=>O0 k∨M k) w W4:=fun W4 h4 =>
   ((hf1 (fun k=>O0 k∨M k)).trans hf2 (fun k hk=>by
     rcases hk with (hk | hk | hk) | hk
     ·exact .inl (.inl hk)
     ·exact .inr (by omega)
     ·exact .inr (by omega)
     ·exact .inl (.inr hk))).trans (h4 (fun k=>k = T + 1) rfl) (fun k hk=>.inr (by omega))
  have hx:∀ k,(O2 k∧k ≠ T∧k ≠ T + 1)→O0 k∨T ≤ k:=fun k hk=>by
   rcases hx2 k hk.1 with (h | h | h) | h
   ·exact .inl h
   ·exact .inr (by omega)
   ·exact .inr (by omega)
   ·exact .inr (by omega)
  have hput:∀ (o:Obj),∀ X:Nat→Prop,X (T + 1)→Fr X W2 (W2.putObj (T + 1) o):=fun o X hX=>Fr.putObj _ _ hX
  rcases h with ⟨xs,hS,hi,hT0,hT1,hsz,hl,hk⟩ | ⟨pre,hSp,⟨c,hi,hl⟩,hT0,hT1,hsz,hk⟩
  ·have hr:=run_endLoop (P:=P) hl (by rw [rs];simp)
   have hpe:(rec .ready none).pending = none:=by rw [← hrec]
   rw [hpe] at hr
   exact ⟨none,_,hr,hdone _ xs _ _ (Nat.le_refl _) hS (hI _ _ _ _ hi (hput _ _ (fun h=>h.2.2 rfl))) hx (fun k hk=>by have:=hb2 k hk.1;simpa [World.putObj] using this) (fun h=>h.2.1 rfl) (hfw _ (hput _)) ((World.putObj_heap_other (by omega)).trans hk)⟩
  ·have hr:=run_endLoop (P:=P) hl (by rw [rs];simp)
   have hpe:(rec .done (some c)).pending = some c:=by rw [← hrec]
   rw [hpe] at hr
   exact ⟨some c,_,hr,hstop _ c pre _ _ (Nat.le_refl _) hSp (hIx c _ _ _ _ hi (hput _ _ (fun h=>h.2.2 rfl))) hx (fun k hk=>by have:=hb2 k hk.1;simpa [World.putObj] using this) (fun h=>h.2.1 rfl) (hfw _ (hput _)) ((World.putObj_heap_other (by omega)).trans hk)⟩
theorem range_own_in {α:Type} {g:Operand} {ps:Array Tmp} {assign body:Code} {Q:Exit→Act→World→Prop} {a:Act} {w:World}
  {l₀:Nat} {r₀:Loop} (hro:F.round = some l₀) (hl₀:w.heap[l₀]? = some (.loop r₀)) (h1:1 ≤ n) {gf:Nat} {lb:Array Value} (hg:a.eval g = .func (.func gf) #[] lb) (hFg:F.fn gf) (eg:∀ args w,(callFunc gf args).run P w = .ok (.enter gf args) w)
  {encs:α→Array Value} {R:List α→α→(Nat→Prop)→World→Prop} {S Sp:List α→Prop} {K M:Nat→Prop}
  (hseq:∀ W,Below w.heap.size w W→Iter F (n - 1) P gf lb encs R S Sp K M W) (hps:∀ x,(encs x).size = ps.size)
  (I:List α→(Nat→Prop)→World→Prop) (Ix:Code→List α→(Nat→Prop)→World→Prop) (hI:Feet I) (hIx:∀ c,Feet (Ix c)) (O0:Nat→Prop) (h0:I [] O0 w) (hO0:Bd O0 w) (hM:Bd K w) (hMO:∀ k,K k→¬ O0 k)
  (hround:∀ (l:Nat) (pre:List α) (x:α) (O D:Nat→Prop) (W:World),I pre O W→Bd O W→Bd D W→(∀ k,D k→¬ O k)→R pre x D W→¬ O l→¬ D l→w.heap.size ≤ l→l < W.heap.size →
    assign.wpIn (F.inRound l) (n - 1 - 1) P (Exit.then (fun a' Wa=>Below W.heap.size W Wa∧∀ Wb,Fr (fun k=>k = l) Wa Wb→I pre O Wb→(∃ r,Wb.heap[l]? = some (.loop r))→body.wpIn (F.inRound l) (n - 1 - 1) P (leftO I Ix (pre ++ [x]) O D Wb) a' Wb) (fun _ _ _=>False))
     { tmps:=(ps.zip (encs x)).foldl (fun t (p,v)=>t.setIfInBounds p v) a.tmps,defers:=[] } W)
  (hdone:∀ (xs:List α) (O:Nat→Prop) (W:World),S xs→I xs O W→(∀ k,O k→O0 k∨w.heap.size ≤ k)→Bd O W→Fr (fun k=>O0 k∨M k) w W→Q .normal a W)
  (hstop:∀ (c:Code) (pre:List α) (O:Nat→Prop) (W:World),Sp pre→Ix c pre O W→(∀ k,O k→O0 k∨w.heap.size ≤ k)→Bd O W→Fr (fun k=>O0 k∨M k) w W→c.wpIn F n P Q a W) :
  (Code.rangeFunc g ps assign body).wpIn F n P Q a w:=by
 refine wpIn_rangeFunc fun fn hfn=>?_
 rw [hro]
 generalize hT:w.heap.size = T at *
 obtain ⟨db,hdb⟩:∃ db,r₀.defers = db:=⟨_,rfl⟩
 generalize hrec:(fun (st:LoopState) (pe:Option Code)=>({ state:=st,pending:=pe,fn:=fn,tmps:=a.tmps,params:=ps,assign:=assign,body:=body,defers:=db }:Loop)) = rec
 have er:∀ st pe,({ state:=st,pending:=pe,fn:=fn,tmps:=a.tmps,params:=ps,assign:=assign,body:=body,defers:=db }:Loop) = rec st pe:=fun st pe=>by rw [← hrec]
 have rs:∀ st pe,(rec st pe).state = st:=fun st pe=>by rw [← hrec]
 have rp:∀ st pe,(rec st pe).params = ps:=fun st pe=>by rw [← hrec]
 have rb:∀ st pe,({ rec st pe with state:=.busy }:Loop) = rec .busy pe:=fun st pe=>by rw [← hrec]
 generalize hW1:w.alloc (.loop (rec .ready none)) = W1
 have hs1:W1.heap.size = T + 1:=by rw [← hW1];simp [hT]
 have hl1:W1.heap[T]? = some (.loop (rec .ready none)):=by
  have:=World.alloc_heap_new w (.loop (rec .ready none))
  rw [hT] at this
  rw [← hW1]
  exact this
 have hb1:Below T w W1:=by
  rw [← hW1]
  exact (Below.refl _ w).alloc (by omega) _
 have hf1:∀ X,Fr X w W1:=fun X=>Fr.of_below hb1 (by omega)
 have en:=run_enterLoop_inner (P:=P) hl₀ fn a.tmps ps assign body
 rw [hdb,hT,er .ready none,hW1] at en
 refine ⟨T,[],W1,{ target:=.fn (.func gf) lb,args:=#[.func (.yield T) #[] #[]] },W1,gf,#[.func (.yield T) #[] #[]] ++ lb,W1,en,?_,?_,?_,fun _=>h1,?_⟩
 ·simp only [resolve,hg]
  simp [go_sem]
 ·intro f' hf'
  simp [Target.leads] at hf'
  rw [← hf']
  exact hFg
 ·simp [invoke,go_sem,eg]
 have bO0:∀ k,O0 k→k < T:=fun k hk=>by have:=hO0 k hk;omega
 have bM:∀ k,K k→k < T:=fun k hk=>by have:=hM k hk;omega
 refine (hseq W1 hb1 T
  (fun pre O W=>I pre (fun k=>O k∧k ≠ T) W∧O T∧T + 1 ≤ W.heap.size∧W.heap[T]? = some (.loop (rec .ready none)))
  (fun pre O W=>(∃ c,Ix c pre (fun k=>O k∧k ≠ T) W∧W.heap[T]? = some (.loop (rec .done (some c))))∧O T∧T + 1 ≤ W.heap.size) ?feetJ ?feetX ?round
  (fun k=>O0 k∨k = T) ⟨?i0,.inr rfl,by omega,hl1⟩ ?bd (fun k hm h=>by have:=bM k hm;rcases h with h | h;exact hMO k hm h;omega)).mono ?behind
 case feetJ =>
  rintro s O W W' ⟨hi,hT0,hs,hl⟩ hf
  refine ⟨hI _ _ _ _ hi (hf.mono fun k hk=>.inl fun h=>hk h.1),hT0,Nat.le_trans hs hf.size,hf.at_ hl (by simpa using hT0)⟩
 case feetX =>
  rintro s O W W' ⟨⟨c,hi,hl⟩,hT0,hs⟩ hf
  refine ⟨⟨c,hIx c _ _ _ _ hi (hf.mono fun k hk=>.inl fun h=>hk h.1),hf.at_ hl (by simpa using hT0)⟩,hT0,Nat.le_trans hs hf.size⟩
 case i0 =>
  have e:(fun k=>(O0 k∨k = T)∧k ≠ T) = O0:=by
   funext k
   apply propext
   constructor
   ·rintro ⟨h | h,h1⟩
    ·exact h
    ·exact absurd h h1
   ·intro h
    have:=bO0 k h
    exact ⟨.inl h,by omega⟩
  rw [e]
  exact hI _ _ _ _ h0 (hf1 _)
 case bd =>
  intro k hk
  rcases hk with hk | hk
  ·have:=bO0 k hk;omega
  ·omega
 case round =>
  rintro pre x D O V ⟨hi,hT0,hsz,hlV⟩ hBO hBD hDO hR
  have hltV:T < V.heap.size:=(Array.getElem?_eq_some_iff.1 hlV).1
  have hy:=run_yield (P:=P) (args:=encs x) hlV (by rw [rp];exact hps x)
  have hDT:¬ D T:=fun h=>hDO T h hT0
  have e1:(rec .ready none).fn = fn∧(rec .ready none).tmps = a.tmps∧(rec .ready none).assign = assign∧(rec .ready none).body = body:=by rw [← hrec];exact ⟨rfl,rfl,rfl,rfl⟩
  rw [e1.1,e1.2.1,e1.2.2.1,e1.2.2.2,rp] at hy
  refine ⟨fn,_,assign,body,hy,roundIn_of_wpIn hfn (wpIn_mono (hround T pre x _ D V hi (fun k hk=>hBO k hk.1) hBD (fun k hk h=>hDO k hk h.1) hR (fun h=>h.2 rfl) hDT (by omega) hltV) ?_)⟩
  rintro e a' Va hVa
  cases e with
  | normal=>?_
  | ret=>exact hVa.elim
  | exit id=>exact hVa.elim
  | goto t=>exact hVa.elim
  | panic ch=>exact hVa.elim
  | outgrown=>exact hVa.elim
  obtain ⟨hbV,hbody⟩:=hVa
  have hl:=(hbV.block T hltV).trans hlV
  have hlt:T < Va.heap.size:=Nat.lt_of_lt_of_le hltV hbV.size
  have hbr:=run_beginRound (P:=P) hl (rs _ _)
  rw [rb] at hbr
  refine ⟨_,hbr,?_⟩
  generalize hB:Va.putObj T (.loop (rec .busy none)) = Bz at hbr
  have hlB:Bz.heap[T]? = some (.loop (rec .busy none)):=by rw [← hB];exact World.putObj_heap_same hlt
  have hAB:∀ X:Nat→Prop,X T→Fr X Va Bz:=fun X hX=>by rw [← hB];exact Fr.putObj _ _ hX
  have hVB:∀ X:Nat→Prop,X T→Fr X V Bz:=fun X hX=>(Fr.of_below hbV (Nat.le_refl _)).then (hAB X hX)
  have hsB:V.heap.size ≤ Bz.heap.size:=(hVB (fun _=>True) trivial).size
  have hiB:I pre (fun k=>O k∧k ≠ T) Bz:=hI _ _ _ _ hi (hVB _ (fun h=>h.2 rfl))
  refine wpIn_mono (hbody Bz (hAB _ rfl) hiB ⟨_,hlB⟩) ?_
  rintro e a3 W3 ⟨O3,hx3,hb3,hf3,hp⟩
  have hl3:W3.heap[T]? = some (.loop (rec .busy none)):=hf3.at_ hlB (fun h=>by rcases h with h | h;exact h.2 rfl;exact hDT h)
  have n3:∀ k,O3 k→k ≠ T:=fun k hk=>by
   rcases hx3 k hk with h | h | h
   ·exact h.2
   ·exact fun e=>hDT (e ▸ h)
   ·omega
  have eO:(fun k=>(O3 k∨k = T)∧k ≠ T) = O3:=by
   funext k
   apply propext
   constructor
   ·rintro ⟨h | h,h1⟩
    ·exact h
    ·exact absurd h h1
   ·intro h
    exact ⟨.inl h,n3 k h⟩
  have hxO:∀ k,(O3 k∨k = T)→O k∨D k∨V.heap.size ≤ k:=fun k hk=>by
   rcases hk with hk | rfl
   ·rcases hx3 k hk with h | h | h
    ·exact .inl h.1
    ·exact .inr (.inl h)
    ·exact .inr (.inr (by omega))
   ·exact .inl hT0
  have hs3:=hf3.size
  have fin:∀ (jump:Option Code),∃ W4,(Instr.endRound T jump).run P W3 = .ok (.bool jump.isNone) W4∧W4.heap[T]? = some (.loop (rec (if jump.isNone then .ready else .done) jump))∧T + 1 ≤ W4.heap.size∧(∀ X:Nat→Prop,X T→Fr X W3 W4):=fun jump=>by
   have hr:=run_endRound (P:=P) jump hl3
   have hh:({ rec .busy none with state:=(if jump.isNone then LoopState.ready else .done),pending:=jump }:Loop) = rec (if jump.isNone then .ready else .done) jump:=by rw [← hrec]
   rw [hh] at hr
   exact ⟨_,hr,World.putObj_heap_same (Array.getElem?_eq_some_iff.1 hl3).1,by simp [World.putObj];omega,fun X hX=>Fr.putObj _ _ hX⟩
  have hfV:∀ W4,(∀ X:Nat→Prop,X T→Fr X W3 W4)→Fr (fun k=>O k∨D k) V W4:=fun W4 h4 =>
   ((hVB (fun k=>O k∨D k) (.inl hT0)).trans hf3 (fun k hk=>by rcases hk with hk | hk;exact .inl (.inl hk.1);exact .inl (.inr hk))).then (h4 _ (.inl hT0))
  have hbd:∀ W4,(∀ X:Nat→Prop,X T→Fr X W3 W4)→Bd (fun k=>O3 k∨k = T) W4:=fun W4 h4 k hk=>by
   have h5:=(h4 (fun _=>True) trivial).size
   rcases hk with hk | hk
   ·have:=hb3 k hk;omega
   ·omega
  have keep:∀ W4,(∀ X:Nat→Prop,X T→Fr X W3 W4)→Fr (fun k=>¬ O3 k) W3 W4:=fun W4 h4=>h4 _ (fun h=>n3 _ h rfl)
  cases e with
  | normal =>
    obtain ⟨W4,hr,hl4,hs4,h4⟩:=fin none
    exact ⟨_,_,hr,_,hxO,hbd _ h4,hfV _ h4,.inl ⟨rfl,by rw [eO];exact hI _ _ _ _ hp (keep _ h4),.inr rfl,hs4,hl4⟩⟩
  | ret =>
    obtain ⟨W4,hr,hl4,hs4,h4⟩:=fin (some .ret)
    exact ⟨_,_,hr,_,hxO,hbd _ h4,hfV _ h4,.inr ⟨rfl,⟨_,by rw [eO];exact hIx _ _ _ _ _ hp (keep _ h4),hl4⟩,.inr rfl,hs4⟩⟩
  | exit id =>
    obtain ⟨W4,hr,hl4,hs4,h4⟩:=fin (some (.exit id))
    exact ⟨_,_,hr,_,hxO,hbd _ h4,hfV _ h4,.inr ⟨rfl,⟨_,by rw [eO];exact hIx _ _ _ _ _ hp (keep _ h4),hl4⟩,.inr rfl,hs4⟩⟩
  | goto t =>
    obtain ⟨W4,hr,hl4,hs4,h4⟩:=fin (some (.goto t))
    exact ⟨_,_,hr,_,hxO,hbd _ h4,hfV _ h4,.inr ⟨rfl,⟨_,by rw [eO];exact hIx _ _ _ _ _ hp (keep _ h4),hl4⟩,.inr rfl,hs4⟩⟩
  | panic ch=>exact hp.elim
  | outgrown=>exact hp.elim
 case behind =>
  rintro e W2 ⟨⟨v,rfl⟩,O2,hx2,hb2,hf2,h⟩
  have hfw:∀ W4,(∀ X:Nat→Prop,X T→Fr X W2 W4)→Fr (fun k=>O0 k∨M k) w W4:=fun W4 h4 =>
   ((hf1 (fun k=>O0 k∨M k)).trans hf2 (fun k hk=>by
     rcases hk with (hk | hk) | hk
     ·exact .inl (.inl hk)
     ·exact .inr (by omega)
     ·exact .inl (.inr hk))).trans (h4 (fun k=>k = T) rfl) (fun k hk=>.inr (by omega))
  have hx:∀ k,(O2 k∧k ≠ T)→O0 k∨T ≤ k:=fun k hk=>by
   rcases hx2 k hk.1 with (h | h) | h
   ·exact .inl h
   ·exact .inr (by omega)
   ·exact .inr (by omega)
  have hput:∀ (o:Obj),∀ X:Nat→Prop,X T→Fr X W2 (W2.putObj T o):=fun o X hX=>Fr.putObj _ _ hX
  rcases h with ⟨xs,hS,hi,hT0,hsz,hl⟩ | ⟨pre,hSp,⟨c,hi,hl⟩,hT0,hsz⟩
  ·have hr:=run_endLoop (P:=P) hl (by rw [rs];simp)
   have hpe:(rec .ready none).pending = none:=by rw [← hrec]
   rw [hpe] at hr
   exact ⟨none,_,hr,hdone xs _ _ hS (hI _ _ _ _ hi (hput _ _ (fun h=>h.2 rfl))) hx (fun k hk=>by have:=hb2 k hk.1;simpa [World.putObj] using this) (hfw _ (hput _))⟩
  ·have hr:=run_endLoop (P:=P) hl (by rw [rs];simp)
   have hpe:(rec .done (some c)).pending = some c:=by rw [← hrec]
   rw [hpe] at hr
   exact ⟨some c,_,hr,hstop c pre _ _ hSp (hIx c _ _ _ _ hi (hput _ _ (fun h=>h.2 rfl))) hx (fun k hk=>by have:=hb2 k hk.1;simpa [World.putObj] using this) (hfw _ (hput _))⟩
end
section
variable {P:Program} {F:Fence} {n:Nat} {b:Frame} {a:Act} {k:List Item} {cs:List Frame} {w:World} {Q:Exit→Act→World→Prop}
theorem stepR_scope {c:Code}:step P (lone (b.atR a (.code (.scope c) :: k)) cs w) = .next (lone (b.atR a (.code c :: .inScope c :: k)) cs w) :=
 step_lone_go (by simp [stepG,stepG.exec,Frame.atR])
theorem stepR_inScope {c:Code}:step P (lone (b.atR a (.inScope c :: k)) cs w) = .next (lone (b.atR a k) cs w) :=
 step_lone_go (by simp [stepG,stepG.exec,Frame.atR])
theorem wpIn_scope {c:Code} (h:c.wpIn F n P (Exit.noGoto Q) a w):(Code.scope c).wpIn F n P Q a w:=by
 intro b k cs hro hb hr
 have h0:(lone (b.atR a (.code (.scope c) :: k)) cs w).fenced P F:=fenced_calm hb hr rfl
 obtain ⟨e,a₁,w₁,hq,harr⟩:=h b (.inScope c :: k) cs hro hb hr
 cases e with
 | normal=>exact ⟨.normal,a₁,w₁,hq,.head h0 stepR_scope (StepsIn.trans harr (.one (fenced_calm hb hr rfl) stepR_inScope))⟩
 | exit id =>
   have hx:exitTo id (.inScope c :: k) = exitTo id k:=by simp [exitTo]
   exact ⟨.exit id,a₁,w₁,hq,fun k' hk=>.head h0 stepR_scope (harr.1 k' (by rw [hx];exact hk)),
    fun hr' hk=>let ⟨k₁,h1,h2⟩:=harr.2 hr' (by rw [hx];exact hk);⟨k₁,h1,.head h0 stepR_scope h2⟩⟩
 | goto l=>exact hq.elim
 | ret=>exact ⟨_,a₁,w₁,hq,.of_steps (.one h0 stepR_scope) harr⟩
 | panic ch=>exact ⟨_,a₁,w₁,hq,.of_steps (.one h0 stepR_scope) harr⟩
 | outgrown=>exact ⟨_,a₁,w₁,hq,.of_steps (.one h0 stepR_scope) harr⟩
end
theorem wpListIn_append_run {F:Fence} {n:Nat} {P:Program} {w:World} {ops:Array Oper} {rest:List Oper} {o:Oper} {a:Act} {Q:Exit→Act→World→Prop} (hg:o.guard = none) (s x:Operand) (t:TypeId)
  (ho:o.op = .call { callee:=.builtin .append,args:=#[s,x],argTypes:=#[t,t] }) {v y v':Value} {w':World} (hs:a.eval s = v) (hx:a.eval x = y) (hr:(Builtin.append_ #[t,t] o.type #[v,y]).run P w = .ok v' w')
  (h:wpListIn F n P ops Q rest (a.put o.dst v') w'):wpListIn F n P ops Q (o :: rest) a w:=by
 refine wpListIn_plain hg fun K hK=>?_
 unfold Oper.wpIn
 refine ⟨by simp [Oper.about,ho,resolve,Target.leads,Sem.run_pure],?_⟩
 rw [Oper.semAt_plain F _ _ (by rw [ho];intro c hc';cases hc')]
 simp [execOp,ho,resolve,invoke,builtin,hs,hx,hr,Result.andThen]
 exact hK _ _ h
theorem fin_cell {W:World} {D:Nat} {d:Option (List Deferred)} (hK:W.heap[D]? = some (.deferred d)) (p:Addr):(W.putObj D (.deferred none)).cell? p = W.cell? p:=by
 by_cases e:p.block = D
 ·have h2:(W.putObj D (.deferred none)).heap[p.block]? = some (.deferred none):=by rw [e];exact World.putObj_heap_same (Array.getElem?_eq_some_iff.1 hK).1
  unfold World.cell?
  rw [h2,e,hK]
 ·unfold World.cell?
  rw [World.putObj_heap_other e]
theorem fin_sl {W:World} {D B sz n:Nat} {v:Value} {xs:List Value} {d:Option (List Deferred)} (h:Sl W B sz v n xs) (hK:W.heap[D]? = some (.deferred d)):Sl (W.putObj D (.deferred none)) B sz v n xs:=h.keep fun p _=>fin_cell hK p
theorem fin_below {w W:World} {D B:Nat} (h:Below B w W) (hD:B ≤ D):Below B w (W.putObj D (.deferred none)) :=
 ⟨h.os,h.tape,h.output,by have:=h.size;simpa [World.putObj] using this,fun k hk=>(World.putObj_heap_other (by omega)).trans (h.block k hk)⟩
theorem fin_size (W:World) (D:Nat) (o:Obj):(W.putObj D o).heap.size = W.heap.size:=by simp [World.putObj]
end
section -- NBase
open Go Go.RowKit
theorem below_drewN {B:Nat} {w w':World} (h:Below B w w') (m:Nat):Below B w (w'.drewN m):=⟨h.os,h.tape,h.output,h.size,h.block⟩
def Blk (W:World) (b:Nat) (t:TypeId) (cs:Array Value):Prop:=W.heap[b]? = some (.cells cs t (0,0))
section
variable {W W':World} {b:Nat} {t:TypeId} {cs:Array Value}
theorem Blk.lt (h:Blk W b t cs):b < W.heap.size:=(Array.getElem?_eq_some_iff.1 h).1
theorem Blk.cell (h:Blk W b t cs) (i:Nat) {v:Value} (hi:cs[i]? = some v):W.cell? ⟨b,i,none⟩ = some v:=by
 unfold World.cell?
 rw [show W.heap[b]? = _ from h]
 exact hi
theorem Blk.frozen (h:Blk W b t cs) (i:Nat):W.frozen? ⟨b,i,none⟩ = false:=by simp [World.frozen?,show W.heap[b]? = _ from h]
theorem Blk.set (h:Blk W b t cs) (i:Nat) (v:Value):Blk (W.setCell ⟨b,i,none⟩ v) b t (cs.setIfInBounds i v):=heap_setCell_same W b i cs t v h
theorem Blk.new (W:World) (t:TypeId) (cs:Array Value):Blk (W.alloc (.cells cs t)) W.heap.size t cs:=World.alloc_heap_new W _
theorem Blk.fr {T:Nat→Prop} (h:Blk W b t cs) (hf:Fr T W W') (hn:¬ T b):Blk W' b t cs:=hf.at_ h hn
theorem Blk.below {B:Nat} (h:Blk W b t cs) (hb:Below B W W') (hB:b < B):Blk W' b t cs:=(hb.block b hB).trans h
theorem Blk.alloc (h:Blk W b t cs) (o:Obj):Blk (W.alloc o) b t cs:=h.below ((Below.refl W.heap.size W).alloc (Nat.le_refl _) o) h.lt
theorem Blk.other (h:Blk W b t cs) {b':Nat} (hne:b ≠ b') (i:Nat) (v:Value):Blk (W.setCell ⟨b',i,none⟩ v) b t cs:=h.fr (Fr.setCell (T:=fun k=>k = b') W i v rfl) hne
theorem Blk.grown {row:Option Nat} (h:Blk W b t cs) (hg:W.grownBy W' row) (hn:row ≠ some b):Blk W' b t cs:=(hg.block b h.lt (fun e=>hn e.symm)).trans h
theorem Blk.drewN (h:Blk W b t cs) (n:Nat):Blk (W.drewN n) b t cs:=h
end
theorem below_set3 {B:Nat} {w W:World} (h:Below B w W) {b:Nat} (hb:B ≤ b) (u v x:Value):Below B w (((W.setCell ⟨b,0,none⟩ u).setCell ⟨b,1,none⟩ v).setCell ⟨b,2,none⟩ x):=((h.setCell hb _).setCell hb _).setCell hb _
theorem below_set4 {B:Nat} {w W:World} (h:Below B w W) {b:Nat} (hb:B ≤ b) (u v x y:Value):Below B w ((((W.setCell ⟨b,0,none⟩ u).setCell ⟨b,1,none⟩ v).setCell ⟨b,2,none⟩ x).setCell ⟨b,3,none⟩ y):=(below_set3 h hb _ _ _).setCell hb _
theorem blks2 (w:World) (c1 c2:Array Value) (t1 t2:TypeId) (W:World) (h:(w.alloc (.cells c1 t1)).alloc (.cells c2 t2) = W):Blk W w.heap.size t1 c1∧Blk W (w.heap.size + 1) t2 c2∧Below w.heap.size w W∧W.heap.size = w.heap.size + 2:=by
 subst h
 have b2:=Blk.new (w.alloc (.cells c1 t1)) t2 c2
 simp only [World.size_alloc] at b2
 exact ⟨(Blk.new w t1 c1).alloc _,b2,((Below.refl _ _).alloc (Nat.le_refl _) _).alloc (by simp) _,by simp⟩
theorem below_push {w W W':World} {e:TypeId} {sz n:Nat} {u:Value} {xs:List Value} {o:Obj} (hb:Below w.heap.size w W) (ho:W.ownsRow w.heap.size e sz u n xs) (hg:(W.alloc o).grownBy W' u.ownBlock):Below w.heap.size w W' :=
 (hb.alloc hb.size o).trans ⟨hg.os,hg.tape,hg.output,by have:=hg.size;have:=hb.size;simp only [World.size_alloc] at *;omega,fun k hk=>hg.block k (by have:=hb.size;simp only [World.size_alloc];omega) (fun e=>by have:=(ho.lt _ e.symm).1;omega)⟩
theorem fr_set3 {T:Nat→Prop} (W:World) {b:Nat} (h:T b) (u v x:Value):Fr T W (((W.setCell ⟨b,0,none⟩ u).setCell ⟨b,1,none⟩ v).setCell ⟨b,2,none⟩ x):=((Fr.setCell _ 0 _ h).then (Fr.setCell _ 1 _ h)).then (Fr.setCell _ 2 _ h)
theorem blk_behind {W w1:World} {t:TypeId} {cs:Array Value} (h:Below (W.alloc (.cells cs t)).heap.size (W.alloc (.cells cs t)) w1):Blk w1 W.heap.size t cs:=(Blk.new W t cs).below h (by simp)
end
section -- Inv
open Go Go.RowKit
structure Fact where
 p:Value→World→Prop
 keep:∀ v w w',p v w→Below w.heap.size w w'→p v w'
def Fact.any:Fact:=⟨fun _ _=>True,fun _ _ _ _ _=>trivial⟩
def Fact.is (u:Value):Fact:=⟨fun v _=>v = u,fun _ _ _ h _=>h⟩
def upd (x:Nat→Value) (d:Nat) (v:Value):Nat→Value:=fun j=>if j = d then v else x j
theorem upd_same (x:Nat→Value) (d:Nat) (v:Value):upd x d v d = v:=by simp [upd]
theorem upd_other (x:Nat→Value) {d j:Nat} (v:Value) (h:j ≠ d):upd x d v j = x j:=by simp [upd,h]
def frameOf (a:Act) (D:List Nat) (x:Nat→Value):Act:=D.foldl (fun a d=>a.put (some d) (x d)) a
theorem frameOf_self (D:List Nat):∀ a:Act,frameOf a D (fun j=>a.tmps.getD j undef) = a:=by
 intro a
 have h:∀ d,a.put (some d) (a.tmps.getD d undef) = a:=fun d=>by
  have e:a.tmps.setIfInBounds d (a.tmps.getD d undef) = a.tmps:=by
   apply Array.ext_getElem?
   intro i
   rw [Array.getElem?_setIfInBounds]
   split
   ·rename_i hi
    subst hi
    split
    ·rename_i hl;simp [hl]
    ·rename_i hl;rw [Array.getElem?_eq_none (by omega)]
   ·rfl
  unfold Act.put
  simp only [e]
 unfold frameOf
 induction D with
 | nil=>rfl
 | cons d D ih=>rw [List.foldl_cons,h];exact ih
def unlisted (listed:Array Bool):List Nat:=(List.range listed.size).filter fun k=>!listed.getD k false
theorem getD_set' (listed:Array Bool) (i k:Nat) (d:Bool):(listed.setIfInBounds i true).getD k d = if i = k∧i < listed.size then true else listed.getD k d:=by
 simp only [Array.getD_eq_getD_getElem?,Array.getElem?_setIfInBounds]
 split
 ·rename_i h
  subst h
  split
  ·rename_i h;simp [h]
  ·rename_i h;rw [if_neg (fun hh=>h hh.2),Array.getElem?_eq_none (by omega)]
 ·rename_i h;rw [if_neg (fun hh=>h hh.1)]
theorem filter_less (l:List Nat) (p q:Nat→Bool) (hpq:∀ k,q k = true→p k = true) (i:Nat) (hi:i ∈ l) (h1:p i = true) (h2:q i = false):(l.filter q).length < (l.filter p).length:=by
 induction l with
 | nil=>cases hi
 | cons a l ih =>
   have hle:(l.filter q).length ≤ (l.filter p).length:=by
    clear ih hi
    induction l with
    | nil=>exact Nat.le_refl _
    | cons b l ih =>
      simp only [List.filter_cons]
      cases hq:q b with
      | true=>rw [hpq b hq];simpa using ih
      | false=>cases p b <;> simp <;> omega
   simp only [List.filter_cons]
   rcases List.mem_cons.1 hi with rfl | hi
   ·rw [h1,h2];simp;omega
   ·have:=ih hi
    cases hq:q a with
    | true=>rw [hpq a hq];simpa using this
    | false=>cases p a <;> simp <;> omega
theorem unlisted_set {listed:Array Bool} {i:Nat} (hi:i < listed.size) (h:listed.getD i false = false):(unlisted (listed.setIfInBounds i true)).length < (unlisted listed).length:=by
 unfold unlisted
 rw [Array.size_setIfInBounds]
 refine filter_less _ _ _ (fun k hk=>?_) i (List.mem_range.2 hi) (by rw [h];rfl) (by rw [getD_set',if_pos ⟨rfl,hi⟩];rfl)
 rw [getD_set'] at hk
 split at hk
 ·cases hk
 ·exact hk
section
variable {P:Program} {ops:Array Oper}
def Step (P:Program) (ops:Array Oper) (a:Act) (D:List Nat) (F:List Fact) (w0:World) (i:Nat) (o:Oper):Prop :=
 ∀ (x:Nat→Value) (w:World) (R:Act→World→Prop),Below w0.heap.size w0 w→(∀ j,(o.after.any fun e=>Region.binds .any e && e.on == j) = true→(F.getD j .any).p (x (D.getD j 0)) w) →
  (∀ v w',(F.getD i .any).p v w'→Below w.heap.size w w'→R (frameOf a D (upd x (D.getD i 0) v)) w')→wpList P ops (Exit.then R (fun _ _ _=>False)) [o] (frameOf a D x) w
def Steps (P:Program) (ops:Array Oper) (a:Act) (D:List Nat) (F:List Fact) (w0:World):Nat→List Oper→Prop
 | _,[]=>True
 | k,o :: l=>Step P ops a D F w0 k o∧Steps P ops a D F w0 (k + 1) l
theorem steps_at {a:Act} {D:List Nat} {F:List Fact} {w0:World}:∀ {l:List Oper} {k:Nat},Steps P ops a D F w0 k l→∀ {j:Nat} {o:Oper},l[j]? = some o→Step P ops a D F w0 (k + j) o
 | [],_,_,_,_,h=>by simp at h
 | x :: l,k,hs,0,o,h=>by
   simp only [List.getElem?_cons_zero,Option.some.injEq] at h
   subst h
   exact hs.1
 | x :: l,k,hs,j + 1,o,h=>by
   rw [List.getElem?_cons_succ] at h
   have:=steps_at hs.2 h
   rwa [show k + 1 + j = k + (j + 1) by omega] at this
def invB (ops:Array Oper) (D:List Nat):Bool :=
 (List.range ops.size).all (fun i=>match ops[i]? with | some o=>o.after.all fun e=>!Region.binds .any e || decide (e.on < i) | none=>true) && decide (D.length = ops.size) && decide (D.Nodup)
theorem wp_swapR {o:Oper} {K R R':Act→World→Prop} {a:Act} {w:World} (hh:o.wp P a w K (Exit.then R (fun _ _ _=>False))):o.wp P a w K (Exit.then R' (fun _ _ _=>False)):=by
 unfold Oper.wp at *
 generalize (execOp a.eval o).run P w = r at *
 cases r with
 | ok n w' =>
   cases n <;> simp only [Oper.upon] at hh ⊢ <;>
    first
     | exact hh
     | exact Calls.mono hh (fun e w'' he=>by
        cases e
        ·exact he
        ·exact False.elim he
        ·exact absurd he (fun ⟨_,_,h⟩=>h))
     | exact Rows.mono hh (fun _ _ he=>he)
 | halt x w'=>cases x <;> simp only [Oper.upon] at hh ⊢ <;> first | exact hh | exact False.elim hh
theorem wpOp_of_list {i:Nat} {o:Oper} (hi:ops[i]? = some o) {K:Act→World→Prop} {a:Act} {w:World} (R0:Act→World→Prop)
  (h:wpList P ops (Exit.then K (fun _ _ _=>False)) [o] a w):wpOp P ops (Exit.then R0 (fun _ _ _=>False)) i K a w:=by
 unfold wpOp
 rw [hi]
 unfold wpList at h
 dsimp only
 split at h
 ·rename_i hc
  rw [if_pos hc]
  rcases h with h | h
  ·exact .inl (wp_swapR h)
  ·exact absurd h.2 (fun ⟨_,_,h⟩=>h)
 ·rename_i hc
  rw [if_neg hc]
  exact h
theorem any_inv {a:Act} {D:List Nat} {F:List Fact} {w0:World} {l:List Oper} (ho:ops = l.toArray) (hb:invB ops D = true) (hstep:Steps P ops a D F w0 0 l) {R0:Act→World→Prop}
  (hend:∀ x w',Below w0.heap.size w0 w'→(∀ i,i < ops.size→(F.getD i .any).p (x (D.getD i 0)) w')→R0 (frameOf a D x) w') :
  ∀ (fuel:Nat) (listed:Array Bool),listed.size = ops.size→(unlisted listed).length ≤ fuel→∀ (x:Nat→Value) (w:World),Below w0.heap.size w0 w →
   (∀ i,listed.getD i false = true→(F.getD i .any).p (x (D.getD i 0)) w)→wpAny P .any ops (Exit.then R0 (fun _ _ _=>False)) fuel listed (frameOf a D x) w:=by
 simp only [invB,Bool.and_eq_true,decide_eq_true_eq,List.all_eq_true,List.mem_range] at hb
 obtain ⟨⟨hb,hlen⟩,hnd⟩:=hb
 have hnone:∀ (listed:Array Bool),listed.size = ops.size→Region.ready .any ops listed = []→∀ i,i < ops.size→listed.getD i false = true:=fun listed hsz hr i=>by
  induction i using Nat.strongRecOn with
  | _ i ih =>
    intro hi
    cases hl:listed.getD i true with
    | true =>
      have:i < listed.size:=by omega
      simpa [Array.getD,this] using hl
    | false =>
      exfalso
      have:i ∈ Region.ready .any ops listed:=mem_ready.2 ⟨hl,_,Array.getElem?_eq_getElem hi,fun e he hbd=>by
       have h1:=hb i hi
       rw [Array.getElem?_eq_getElem hi] at h1
       have h2:=Array.all_eq_true_iff_forall_mem.1 h1 e he
       simp only [hbd,Bool.not_true,Bool.false_or,decide_eq_true_eq] at h2
       exact ih e.on h2 (by omega)⟩
      rw [hr] at this
      cases this
 intro fuel
 induction fuel with
 | zero =>
   intro listed hsz hf x w hB hF
   have hall:∀ i,i < ops.size→listed.getD i false = true:=fun i hi=>by
    cases hl:listed.getD i false with
    | true=>rfl
    | false =>
      have:i ∈ unlisted listed:=by
       simp only [unlisted,List.mem_filter,List.mem_range]
       refine ⟨by omega,by rw [hl];rfl⟩
      rw [List.eq_nil_of_length_eq_zero (Nat.le_zero.1 hf)] at this
      cases this
   refine ⟨?_,hend x w hB fun i hi=>hF i (hall i hi)⟩
   rcases hr:Region.ready .any ops listed with _ | ⟨i,l'⟩
   ·rfl
   ·have hi:i ∈ Region.ready .any ops listed:=by rw [hr];exact List.mem_cons_self ..
    obtain ⟨h0,o,ho,_⟩:=mem_ready.1 hi
    have hi:=(Array.getElem?_eq_some_iff.1 ho).1
    have h1:=hall i hi
    have:i < listed.size:=by omega
    simp only [Array.getD,this,dif_pos] at h0 h1
    rw [h0] at h1
    cases h1
 | succ fuel ih =>
   intro listed hsz hf x w hB hF
   refine ⟨fun hr=>hend x w hB fun i hi=>hF i (hnone listed hsz hr i hi),fun i hi=>?_⟩
   obtain ⟨h0,o,hio,hall⟩:=mem_ready.1 hi
   have hin:=(Array.getElem?_eq_some_iff.1 hio).1
   have hl:l[i]? = some o:=by rw [ho] at hio;simpa using hio
   have hst:=steps_at hstep hl
   rw [Nat.zero_add] at hst
   refine wpOp_of_list hio _ (hst x w _ hB (fun j hj=>?_) fun v w' hv hw=>ih (listed.setIfInBounds i true) (by simpa using hsz) ?_ _ w' (hB.trans (hw.mono hB.size)) fun k hk=>?_)
   ·obtain ⟨e,he,hej⟩:=Array.any_eq_true'.1 hj
    simp only [Bool.and_eq_true,beq_iff_eq] at hej
    have:=hall e he hej.1
    rw [hej.2] at this
    exact hF j this
   ·have:=unlisted_set (listed:=listed) (i:=i) (by omega) (by
     have:i < listed.size:=by omega
     simpa [Array.getD,this] using h0)
    omega
   ·rw [getD_set'] at hk
    by_cases hik:i = k
    ·subst hik
     rw [upd_same]
     exact hv
    ·rw [if_neg (fun h=>hik h.1)] at hk
     have hks:k < listed.size:=by
      refine Nat.lt_of_not_le fun h=>?_
      simp [Array.getD,show ¬ k < listed.size by omega] at hk
     have hne:D.getD k 0 ≠ D.getD i 0:=by
      rw [List.getD_eq_getElem?_getD,List.getD_eq_getElem?_getD,List.getElem?_eq_getElem (show k < D.length by omega),List.getElem?_eq_getElem (show i < D.length by omega)]
      intro e
      simp only [Option.getD_some] at e
      have hp:=List.pairwise_iff_getElem.1 hnd
      rcases Nat.lt_or_ge k i with h | h
      ·exact hp k i (by omega) (by omega) h e
      ·exact hp i k (by omega) (by omega) (by omega) e.symm
     rw [upd_other x v hne]
     exact (F.getD k .any).keep _ _ _ (hF k hk) hw
theorem wp_inv {id:Nat} {l:List Oper} {Q:Exit→Act→World→Prop} {a:Act} {w:World} (hm:P.follows .mixedOrders = true) (D:List Nat) (F:List Fact) (hb:invB l.toArray D = true)
  (hstep:Steps P l.toArray a D F w 0 l)
  (hend:∀ x w',Below w.heap.size w w'→(∀ i,i < l.toArray.size→(F.getD i .any).p (x (D.getD i 0)) w')→Q .normal (frameOf a D x) w'):(Code.region id l.toArray true).wp P Q a w:=by
 have h:=any_inv (ops:=l.toArray) (R0:=fun b w'=>Q .normal b w') rfl hb hstep hend l.toArray.size (Array.replicate l.toArray.size false) (by simp) (by
  refine Nat.le_trans (List.length_filter_le _ _) ?_
  simp) (fun j=>a.tmps.getD j undef) w.drew ((Below.refl _ _).drew) (fun i hi=>by simp [Array.getD] at hi)
 rw [frameOf_self] at h
 refine wp_mono (wp_region_any (id:=id) hm h) fun e a w q=>?_
 cases e with
 | normal=>exact q
 | _=>exact q.elim
end
end
section -- InvIn
open Go Go.RowKit
section
variable {F:Fence} {n:Nat} {P:Program} {ops:Array Oper}
def more (L:Nat→Bool) (i:Nat):Nat→Bool:=fun j=>decide (j = i) || L j
def depB (ops:Array Oper) (i j:Nat):Bool:=match ops[i]? with | some o=>o.after.any fun e=>Region.binds .any e && e.on == j | none=>false
def ShutI (ops:Array Oper) (L:Nat→Bool):Prop:=∀ i j,depB ops i j = true→L i = true→L j = true
def StepI (F:Fence) (n:Nat) (P:Program) (ops:Array Oper) (a:Act) (D:List Nat) (Inv:(Nat→Bool)→(Nat→Value)→World→Prop) (i:Nat) (o:Oper):Prop :=
 ∀ (L:Nat→Bool) (x:Nat→Value) (w:World) (R:Act→World→Prop),Inv L x w→ShutI ops L→L i = false→(∀ j,(o.after.any fun e=>Region.binds .any e && e.on == j) = true→L j = true) →
  (∀ v w',Inv (more L i) (upd x (D.getD i 0) v) w'→R (frameOf a D (upd x (D.getD i 0) v)) w')→wpListIn F n P ops (Exit.then R (fun _ _ _=>False)) [o] (frameOf a D x) w
def StepsI (F:Fence) (n:Nat) (P:Program) (ops:Array Oper) (a:Act) (D:List Nat) (Inv:(Nat→Bool)→(Nat→Value)→World→Prop):Nat→List Oper→Prop
 | _,[]=>True
 | k,o :: l=>StepI F n P ops a D Inv k o∧StepsI F n P ops a D Inv (k + 1) l
theorem stepsI_at {a:Act} {D:List Nat} {Inv:(Nat→Bool)→(Nat→Value)→World→Prop}:∀ {l:List Oper} {k:Nat},StepsI F n P ops a D Inv k l→∀ {j:Nat} {o:Oper},l[j]? = some o→StepI F n P ops a D Inv (k + j) o
 | [],_,_,_,_,h=>by simp at h
 | x :: l,k,hs,0,o,h=>by
   simp only [List.getElem?_cons_zero,Option.some.injEq] at h
   subst h
   exact hs.1
 | x :: l,k,hs,j + 1,o,h=>by
   rw [List.getElem?_cons_succ] at h
   have:=stepsI_at hs.2 h
   rwa [show k + 1 + j = k + (j + 1) by omega] at this
theorem wpIn_swapR {o:Oper} {K R R':Act→World→Prop} {a:Act} {w:World} (hh:o.wpIn F n P a w K (Exit.then R (fun _ _ _=>False))):o.wpIn F n P a w K (Exit.then R' (fun _ _ _=>False)):=by
 unfold Oper.wpIn at *
 refine ⟨hh.1,?_⟩
 have hh:=hh.2
 generalize (o.semAt F.round a.eval).run P w = r at *
 cases r with
 | ok x w' =>
   cases x <;> simp only [Oper.uponIn] at hh ⊢ <;>
    first
     | exact hh
     | exact ⟨hh.1,CallsIn.mono hh.2 (fun e w'' he=>by
        cases e
        ·exact he
        ·exact False.elim he
        ·exact absurd he (fun ⟨_,_,h⟩=>h))⟩
     | exact ⟨hh.1,RowsIn.mono hh.2 (fun _ _ he=>he)⟩
     | exact ⟨hh.1,RoundIn.mono hh.2 (fun e w'' he=>by
        cases e
        ·exact he
        ·exact False.elim he
        ·exact absurd he (fun ⟨_,_,h⟩=>h))⟩
 | halt x w'=>cases x <;> simp only [Oper.uponIn] at hh ⊢ <;> first | exact hh | exact False.elim hh
theorem wpOpIn_of_list {i:Nat} {o:Oper} (hi:ops[i]? = some o) {K:Act→World→Prop} {a:Act} {w:World} (R0:Act→World→Prop)
  (h:wpListIn F n P ops (Exit.then K (fun _ _ _=>False)) [o] a w):wpOpIn F n P ops (Exit.then R0 (fun _ _ _=>False)) i K a w:=by
 unfold wpOpIn
 rw [hi]
 unfold wpListIn at h
 dsimp only
 split at h
 ·rename_i hc
  rw [if_pos hc]
  exact wpIn_swapR h
 ·rename_i hc
  rw [if_neg hc]
  exact h
def seen (listed:Array Bool):Nat→Bool:=fun i=>listed.getD i false
theorem seen_set {listed:Array Bool} {i:Nat} (hi:i < listed.size):seen (listed.setIfInBounds i true) = more (seen listed) i:=by
 funext k
 unfold seen more
 rw [getD_set']
 by_cases h:i = k
 ·subst h;rw [if_pos ⟨rfl,hi⟩];simp
 ·rw [if_neg (fun hh=>h hh.1)]
  have:decide (k = i) = false:=decide_eq_false (fun e=>h e.symm)
  rw [this];rfl
theorem anyIn_inv {a:Act} {D:List Nat} {Inv:(Nat→Bool)→(Nat→Value)→World→Prop} {l:List Oper} (ho:ops = l.toArray) (hb:invB ops D = true) (hstep:StepsI F n P ops a D Inv 0 l) {R0:Act→World→Prop}
  (hend:∀ x w' L,(∀ i,i < ops.size→L i = true)→Inv L x w'→R0 (frameOf a D x) w') :
  ∀ (fuel:Nat) (listed:Array Bool),listed.size = ops.size→(unlisted listed).length ≤ fuel→∀ (x:Nat→Value) (w:World),ShutI ops (seen listed)→Inv (seen listed) x w→wpAnyIn F n P .any ops (Exit.then R0 (fun _ _ _=>False)) fuel listed (frameOf a D x) w:=by
 simp only [invB,Bool.and_eq_true,decide_eq_true_eq,List.all_eq_true,List.mem_range] at hb
 obtain ⟨⟨hb,hlen⟩,hnd⟩:=hb
 have hnone:∀ (listed:Array Bool),listed.size = ops.size→Region.ready .any ops listed = []→∀ i,i < ops.size→listed.getD i false = true:=fun listed hsz hr i=>by
  induction i using Nat.strongRecOn with
  | _ i ih =>
    intro hi
    cases hl:listed.getD i true with
    | true =>
      have:i < listed.size:=by omega
      simpa [Array.getD,this] using hl
    | false =>
      exfalso
      have:i ∈ Region.ready .any ops listed:=mem_ready.2 ⟨hl,_,Array.getElem?_eq_getElem hi,fun e he hbd=>by
       have h1:=hb i hi
       rw [Array.getElem?_eq_getElem hi] at h1
       have h2:=Array.all_eq_true_iff_forall_mem.1 h1 e he
       simp only [hbd,Bool.not_true,Bool.false_or,decide_eq_true_eq] at h2
       exact ih e.on h2 (by omega)⟩
      rw [hr] at this
      cases this
 intro fuel
 induction fuel with
 | zero =>
   intro listed hsz hf x w hsh hI
   have hall:∀ i,i < ops.size→listed.getD i false = true:=fun i hi=>by
    cases hl:listed.getD i false with
    | true=>rfl
    | false =>
      have:i ∈ unlisted listed:=by
       simp only [unlisted,List.mem_filter,List.mem_range]
       refine ⟨by omega,by rw [hl];rfl⟩
      rw [List.eq_nil_of_length_eq_zero (Nat.le_zero.1 hf)] at this
      cases this
   refine ⟨?_,hend x w _ hall hI⟩
   rcases hr:Region.ready .any ops listed with _ | ⟨i,l'⟩
   ·rfl
   ·have hi:i ∈ Region.ready .any ops listed:=by rw [hr];exact List.mem_cons_self ..
    obtain ⟨h0,o,ho,_⟩:=mem_ready.1 hi
    have hi:=(Array.getElem?_eq_some_iff.1 ho).1
    have h1:=hall i hi
    have:i < listed.size:=by omega
    simp only [Array.getD,this,dif_pos] at h0 h1
    rw [h0] at h1
    cases h1
 | succ fuel ih =>
   intro listed hsz hf x w hsh hI
   refine ⟨fun hr=>hend x w _ (hnone listed hsz hr) hI,fun i hi=>?_⟩
   obtain ⟨h0,o,hio,hall⟩:=mem_ready.1 hi
   have hin:=(Array.getElem?_eq_some_iff.1 hio).1
   have hl:l[i]? = some o:=by rw [ho] at hio;simpa using hio
   have hst:=stepsI_at hstep hl
   rw [Nat.zero_add] at hst
   have hli:seen listed i = false:=by
    have:i < listed.size:=by omega
    unfold seen
    simpa [Array.getD,this] using h0
   have hsh2:ShutI ops (more (seen listed) i):=by
    intro i' j hd hm
    unfold more at hm ⊢
    by_cases hi':i' = i
    ·subst hi'
     unfold depB at hd
     rw [hio] at hd
     obtain ⟨e,he,hej⟩:=Array.any_eq_true'.1 hd
     simp only [Bool.and_eq_true,beq_iff_eq] at hej
     have:=hall e he hej.1
     rw [hej.2] at this
     have h3:seen listed j = true:=this
     rw [h3];simp
    ·rw [decide_eq_false hi'] at hm
     rw [hsh i' j hd (by simpa using hm)]
     simp
   refine wpOpIn_of_list hio _ (hst (seen listed) x w _ hI hsh hli (fun j hj=>?_) fun v w' hv=>ih (listed.setIfInBounds i true) (by simpa using hsz) ?_ _ w' (by rw [seen_set (by omega)];exact hsh2) (by rw [seen_set (by omega)];exact hv))
   ·obtain ⟨e,he,hej⟩:=Array.any_eq_true'.1 hj
    simp only [Bool.and_eq_true,beq_iff_eq] at hej
    have:=hall e he hej.1
    rw [hej.2] at this
    exact this
   ·have:=unlisted_set (listed:=listed) (i:=i) (by omega) hli
    omega
theorem wpIn_inv {id:Nat} {l:List Oper} {Q:Exit→Act→World→Prop} {a:Act} {w:World} (hm:P.follows .mixedOrders = true) (D:List Nat) (Inv:(Nat→Bool)→(Nat→Value)→World→Prop) (hb:invB l.toArray D = true)
  (h0:∀ x,Inv (fun _=>false) x w.drew) (hstep:StepsI F n P l.toArray a D Inv 0 l)
  (hend:∀ x w' L,(∀ i,i < l.toArray.size→L i = true)→Inv L x w'→Q .normal (frameOf a D x) w'):(Code.region id l.toArray true).wpIn F n P Q a w:=by
 have hs:seen (Array.replicate l.toArray.size false) = fun _=>false:=by
  funext i
  unfold seen
  simp [Array.getD]
 have h:=anyIn_inv (F:=F) (n:=n) (P:=P) (ops:=l.toArray) (R0:=fun b w'=>Q .normal b w') rfl hb hstep hend l.toArray.size (Array.replicate l.toArray.size false) (by simp) (by
  refine Nat.le_trans (List.length_filter_le _ _) ?_
  simp) (fun j=>a.tmps.getD j undef) w.drew (by rw [hs];exact fun i j _ h=>by cases h) (by rw [hs];exact h0 _)
 rw [frameOf_self] at h
 refine wpIn_mono (wpIn_region_any (id:=id) hm h) fun e a w q=>?_
 cases e with
 | normal=>exact q
 | _=>exact q.elim
def StepF (F:Fence) (n:Nat) (P:Program) (ops:Array Oper) (a:Act) (D:List Nat) (Fs:List Fact) (w0:World) (i:Nat) (o:Oper):Prop :=
 ∀ (x:Nat→Value) (w:World) (R:Act→World→Prop),Below w0.heap.size w0 w→(∀ j,(o.after.any fun e=>Region.binds .any e && e.on == j) = true→(Fs.getD j .any).p (x (D.getD j 0)) w) →
  (∀ v w',(Fs.getD i .any).p v w'→Below w.heap.size w w'→R (frameOf a D (upd x (D.getD i 0) v)) w')→wpListIn F n P ops (Exit.then R (fun _ _ _=>False)) [o] (frameOf a D x) w
def StepsF (F:Fence) (n:Nat) (P:Program) (ops:Array Oper) (a:Act) (D:List Nat) (Fs:List Fact) (w0:World):Nat→List Oper→Prop
 | _,[]=>True
 | k,o :: l=>StepF F n P ops a D Fs w0 k o∧StepsF F n P ops a D Fs w0 (k + 1) l
def InvF (D:List Nat) (Fs:List Fact) (w0:World) (m:Nat) (L:Nat→Bool) (x:Nat→Value) (w:World):Prop:=Below w0.heap.size w0 w∧∀ i,i < m→L i = true→(Fs.getD i .any).p (x (D.getD i 0)) w
theorem stepsI_of_F {a:Act} {D:List Nat} {Fs:List Fact} {w0:World} {m:Nat} (hl:D.length = m) (hnd:D.Nodup) (hon:∀ (i:Nat) o,ops[i]? = some o→∀ e ∈ o.after,Region.binds .any e = true→e.on < m):∀ (l:List Oper) (k:Nat),(∀ j,l[j]? = ops[k + j]?)→StepsF F n P ops a D Fs w0 k l→k + l.length ≤ m→StepsI F n P ops a D (InvF D Fs w0 m) k l
 | [],_,_,_,_=>trivial
 | o :: l,k,hk,hs,hm=>by
   rw [List.length_cons] at hm
   refine ⟨?_,stepsI_of_F hl hnd hon l (k + 1) (fun j=>by have:=hk (j + 1);simpa [Nat.add_assoc,Nat.add_comm 1 j] using this) hs.2 (by omega)⟩
   intro L x w R hI _ hL hr hR
   have ho:ops[k]? = some o:=by simpa using (hk 0).symm
   refine hs.1 x w R hI.1 (fun j hj=>hI.2 j ?_ (hr j hj)) fun v w' hv hw=>hR v w' ⟨hI.1.trans (hw.mono hI.1.size),fun i hi hLi=>?_⟩
   ·obtain ⟨e,he,hej⟩:=Array.any_eq_true'.1 hj
    simp only [Bool.and_eq_true,beq_iff_eq] at hej
    have:=hon k o ho e he hej.1
    omega
   ·by_cases hik:i = k
    ·subst hik;rw [upd_same];exact hv
    ·have hne:D.getD i 0 ≠ D.getD k 0:=by
      rw [List.getD_eq_getElem?_getD,List.getD_eq_getElem?_getD,List.getElem?_eq_getElem (show i < D.length by omega),List.getElem?_eq_getElem (show k < D.length by omega)]
      intro e
      simp only [Option.getD_some] at e
      have hp:=List.pairwise_iff_getElem.1 hnd
      rcases Nat.lt_or_ge i k with h | h
      ·exact hp i k (by omega) (by omega) h e
      ·exact hp k i (by omega) (by omega) (by omega) e.symm
     rw [upd_other x v hne]
     have:L i = true:=by
      unfold more at hLi
      rw [decide_eq_false hik] at hLi
      simpa using hLi
     exact (Fs.getD i .any).keep _ _ _ (hI.2 i hi this) hw
theorem wpIn_facts {id:Nat} {l:List Oper} {Q:Exit→Act→World→Prop} {a:Act} {w:World} (hm:P.follows .mixedOrders = true) (D:List Nat) (Fs:List Fact) (hb:invB l.toArray D = true)
  (hstep:StepsF F n P l.toArray a D Fs w 0 l)
  (hend:∀ x w',Below w.heap.size w w'→(∀ i,i < l.toArray.size→(Fs.getD i .any).p (x (D.getD i 0)) w')→Q .normal (frameOf a D x) w'):(Code.region id l.toArray true).wpIn F n P Q a w:=by
 have hb':=hb
 simp only [invB,Bool.and_eq_true,decide_eq_true_eq,List.all_eq_true,List.mem_range] at hb'
 obtain ⟨⟨hb1,hlen⟩,hnd⟩:=hb'
 refine wpIn_inv hm D (InvF D Fs w l.toArray.size) hb (fun x=>⟨(Below.refl _ _).drew,fun i _ h=>by cases h⟩) (stepsI_of_F hlen hnd (fun i o ho e he hbd=>?_) l 0 (fun j=>by simp) hstep (by simp)) fun x w' L hL hI=>hend x w' hI.1 fun i hi=>hI.2 i hi (hL i hi)
 have hi:=(Array.getElem?_eq_some_iff.1 ho).1
 have h1:=hb1 i hi
 rw [ho] at h1
 have h2:=Array.all_eq_true_iff_forall_mem.1 h1 e he
 simp only [hbd,Bool.not_true,Bool.false_or,decide_eq_true_eq] at h2
 omega
end
end
section -- Serial
open Go
section calm
variable {α β:Type} {P:Program}
def Calm (P:Program) (s:Sem α):Prop:=∀ w v w1,s.run P w = .ok v w1→w1 = w∧∀ w',s.run P w' = .ok v w'
def Never (P:Program) (s:Sem α):Prop:=∀ w v w1,s.run P w ≠ .ok v w1
theorem Never.calm {s:Sem α} (h:Never P s):Calm P s:=fun w v w1 e=>absurd e (h w v w1)
theorem calm_pure (a:α):Calm P (pure a:Sem α):=fun w v w1 e=>by
 simp only [Sem.run_pure,Result.ok.injEq] at e
 obtain ⟨rfl,rfl⟩:=e
 exact ⟨rfl,fun _=>rfl⟩
theorem never_halt (h:Halt):Never P (.halt h:Sem α):=fun w v w1 e=>by simp [Sem.run] at e
theorem never_stuck (y:String):Never P (stuck y:Sem α):=never_halt _
theorem never_unsupported (u:Unsupported):Never P (unsupported u:Sem α):=never_halt _
theorem andThen_ok_inv {r:Result α} {f:α→World→Result β} {v:β} {w1:World} (h:r.andThen f = .ok v w1):∃ a w,r = .ok a w∧f a w = .ok v w1:=by
 cases r with
 | ok a w=>exact ⟨a,w,rfl,h⟩
 | halt x w=>cases h
theorem calm_bind {s:Sem α} {f:α→Sem β} (hs:Calm P s) (hf:∀ a,Calm P (f a)):Calm P (s >>= f):=fun w v w1 e=>by
 rw [Sem.run_bind] at e
 obtain ⟨a,w2,h1,h2⟩:=andThen_ok_inv e
 obtain ⟨rfl,h3⟩:=hs _ _ _ h1
 obtain ⟨rfl,h4⟩:=hf a _ _ _ h2
 exact ⟨rfl,fun w'=>by rw [Sem.run_bind,h3 w'];exact h4 w'⟩
theorem never_bind {s:Sem α} {f:α→Sem β} (hf:∀ a,Never P (f a)):Never P (s >>= f):=fun w v w1 e=>by
 rw [Sem.run_bind] at e
 obtain ⟨a,w2,h1,h2⟩:=andThen_ok_inv e
 exact hf a _ _ _ h2
theorem calm_program:Calm P program:=fun w v w1 e=>by
 simp only [run_program,Result.ok.injEq] at e
 obtain ⟨rfl,rfl⟩:=e
 exact ⟨rfl,fun _=>rfl⟩
theorem calm_typeInfo (t:TypeId):Calm P (typeInfo t):=by
 unfold typeInfo
 refine calm_bind calm_program fun p=>?_
 split
 ·exact calm_pure _
 ·exact (never_stuck _).calm
theorem calm_underlying (t:TypeId):Calm P (underlying t):=by
 unfold underlying
 refine calm_bind calm_program fun p=>?_
 split
 ·exact calm_pure _
 ·exact (never_stuck _).calm
theorem calm_sizeOf (t:TypeId):Calm P (sizeOf t):=calm_bind (calm_typeInfo t) fun _=>calm_pure _
theorem never_runtimePanic (e:RuntimeError):Never P (runtimePanic e:Sem α):=by
 unfold runtimePanic
 refine never_bind fun p=>?_
 cases e
 all_goals first
  | exact never_halt _
  | (refine never_bind fun _=>?_;first | exact never_halt _ | (refine never_bind fun _=>?_;exact never_halt _))
theorem never_boundsPanic (k:IntKind) (x y:Int) (c:BoundsCode):Never P (boundsPanic k x y c:Sem α):=by
 unfold boundsPanic
 dsimp only
 split <;> exact never_bind fun _=>never_runtimePanic _
theorem calm_asIntOf (v:Value):Calm P (asIntOf v):=by
 unfold asIntOf
 split
 ·exact calm_pure _
 ·exact (never_unsupported _).calm
 ·exact (never_stuck _).calm
theorem calm_asBool (v:Value):Calm P (asBool v):=by
 unfold asBool
 split
 ·exact calm_pure _
 ·exact (never_stuck _).calm
theorem calm_asAgg (v:Value):Calm P (asAgg v):=by
 unfold asAgg
 split
 ·exact calm_pure _
 ·exact (never_stuck _).calm
theorem calm_asAddr (v:Value):Calm P (asAddr v):=by
 unfold asAddr
 split
 ·exact calm_pure _
 ·exact (never_runtimePanic _).calm
 ·exact (never_stuck _).calm
theorem calm_sureAddr (v:Value):Calm P (Instr.sureAddr v):=by
 unfold Instr.sureAddr
 split
 ·exact calm_pure _
 ·exact (never_stuck _).calm
theorem calm_ite {c:Prop} [Decidable c] {a b:Sem α} (ha:Calm P a) (hb:Calm P b):Calm P (if c then a else b):=by split <;> assumption
theorem calm_sliceBound (x:Value) (y:Nat) (c:BoundsCode):Calm P (Instr.sliceBound x y c):=by
 unfold Instr.sliceBound
 refine calm_bind (calm_asIntOf _) fun r=>?_
 exact calm_ite (calm_pure _) (never_boundsPanic _ _ _ _).calm
theorem calm_sliceBounds (b:Bool) (l c:Nat) (lo hi mx:Option Value):Calm P (Instr.sliceBounds b l c lo hi mx):=by
 unfold Instr.sliceBounds
 repeat' first
  | exact calm_pure _
  | exact (never_stuck _).calm
  | exact (never_unsupported _).calm
  | exact (never_boundsPanic _ _ _ _).calm
  | exact (never_runtimePanic _).calm
  | exact calm_underlying _
  | exact calm_sizeOf _
  | exact calm_asIntOf _
  | exact calm_asBool _
  | exact calm_asAgg _
  | exact calm_asAddr _
  | exact calm_sureAddr _
  | exact calm_typeInfo _
  | exact calm_program
  | exact calm_sliceBound _ _ _
  | (refine calm_bind ?_ fun _=>?_)
  | split
  | dsimp only
theorem calm_slice (t:TypeId) (x:Value) (lo hi mx:Option Value):Calm P (Instr.slice t x lo hi mx):=by
 unfold Instr.slice
 repeat' first
  | exact calm_pure _
  | exact (never_stuck _).calm
  | exact (never_unsupported _).calm
  | exact (never_boundsPanic _ _ _ _).calm
  | exact (never_runtimePanic _).calm
  | exact calm_underlying _
  | exact calm_sizeOf _
  | exact calm_asIntOf _
  | exact calm_asBool _
  | exact calm_asAgg _
  | exact calm_asAddr _
  | exact calm_sureAddr _
  | exact calm_typeInfo _
  | exact calm_program
  | exact calm_sliceBound _ _ _
  | exact calm_sliceBounds _ _ _ _ _ _
  | (refine calm_bind ?_ fun _=>?_)
  | split
  | dsimp only
theorem calm_sliceAt (t:TypeId) (x:Value) (lo hi mx:Option Value):Calm P (Instr.sliceAt t x lo hi mx):=by
 unfold Instr.sliceAt
 repeat' first
  | exact calm_pure _
  | exact (never_stuck _).calm
  | exact (never_unsupported _).calm
  | exact (never_boundsPanic _ _ _ _).calm
  | exact (never_runtimePanic _).calm
  | exact calm_underlying _
  | exact calm_sizeOf _
  | exact calm_asIntOf _
  | exact calm_asBool _
  | exact calm_asAgg _
  | exact calm_asAddr _
  | exact calm_sureAddr _
  | exact calm_typeInfo _
  | exact calm_program
  | exact calm_sliceBound _ _ _
  | exact calm_sliceBounds _ _ _ _ _ _
  | exact calm_slice _ _ _ _ _
  | (refine calm_bind ?_ fun _=>?_)
  | split
  | dsimp only
theorem calm_indexAt (t:TypeId) (x i:Value):Calm P (Instr.indexAt t x i):=by
 unfold Instr.indexAt
 repeat' first
  | exact calm_pure _
  | exact (never_stuck _).calm
  | exact (never_unsupported _).calm
  | exact (never_boundsPanic _ _ _ _).calm
  | exact (never_runtimePanic _).calm
  | exact calm_underlying _
  | exact calm_sizeOf _
  | exact calm_asIntOf _
  | exact calm_asBool _
  | exact calm_asAgg _
  | exact calm_asAddr _
  | exact calm_sureAddr _
  | exact calm_typeInfo _
  | exact calm_program
  | exact calm_sliceBound _ _ _
  | exact calm_sliceBounds _ _ _ _ _ _
  | exact calm_slice _ _ _ _ _
  | (refine calm_bind ?_ fun _=>?_)
  | split
  | dsimp only
theorem calm_isAgg (t:TypeId):Calm P (isAgg t):=by
 unfold isAgg
 repeat' first
  | exact calm_pure _
  | exact (never_stuck _).calm
  | exact (never_unsupported _).calm
  | exact (never_boundsPanic _ _ _ _).calm
  | exact (never_runtimePanic _).calm
  | exact calm_underlying _
  | exact calm_sizeOf _
  | exact calm_asIntOf _
  | exact calm_asBool _
  | exact calm_asAgg _
  | exact calm_asAddr _
  | exact calm_sureAddr _
  | exact calm_typeInfo _
  | exact calm_program
  | exact calm_sliceBound _ _ _
  | exact calm_sliceBounds _ _ _ _ _ _
  | exact calm_slice _ _ _ _ _
  | (refine calm_bind ?_ fun _=>?_)
  | split
  | dsimp only
theorem calm_part (t:TypeId) (cs:Array Value) (i:Nat):Calm P (part t cs i):=by
 unfold part
 repeat' first
  | exact calm_pure _
  | exact (never_stuck _).calm
  | exact (never_unsupported _).calm
  | exact (never_boundsPanic _ _ _ _).calm
  | exact (never_runtimePanic _).calm
  | exact calm_underlying _
  | exact calm_sizeOf _
  | exact calm_asIntOf _
  | exact calm_asBool _
  | exact calm_asAgg _
  | exact calm_asAddr _
  | exact calm_sureAddr _
  | exact calm_typeInfo _
  | exact calm_program
  | exact calm_sliceBound _ _ _
  | exact calm_sliceBounds _ _ _ _ _ _
  | exact calm_slice _ _ _ _ _
  | exact calm_isAgg _
  | (refine calm_bind ?_ fun _=>?_)
  | split
  | dsimp only
theorem calm_index (t:TypeId) (x i:Value):Calm P (Instr.index t x i):=by
 unfold Instr.index
 repeat' first
  | exact calm_pure _
  | exact (never_stuck _).calm
  | exact (never_unsupported _).calm
  | exact (never_boundsPanic _ _ _ _).calm
  | exact (never_runtimePanic _).calm
  | exact calm_underlying _
  | exact calm_sizeOf _
  | exact calm_asIntOf _
  | exact calm_asBool _
  | exact calm_asAgg _
  | exact calm_asAddr _
  | exact calm_sureAddr _
  | exact calm_typeInfo _
  | exact calm_program
  | exact calm_sliceBound _ _ _
  | exact calm_sliceBounds _ _ _ _ _ _
  | exact calm_slice _ _ _ _ _
  | exact calm_part _ _ _
  | (refine calm_bind ?_ fun _=>?_)
  | split
  | dsimp only
theorem calm_field (t:TypeId) (x:Value) (i:Nat):Calm P (Instr.field t x i):=by
 unfold Instr.field
 repeat' first
  | exact calm_pure _
  | exact (never_stuck _).calm
  | exact (never_unsupported _).calm
  | exact (never_boundsPanic _ _ _ _).calm
  | exact (never_runtimePanic _).calm
  | exact calm_underlying _
  | exact calm_sizeOf _
  | exact calm_asIntOf _
  | exact calm_asBool _
  | exact calm_asAgg _
  | exact calm_asAddr _
  | exact calm_sureAddr _
  | exact calm_typeInfo _
  | exact calm_program
  | exact calm_sliceBound _ _ _
  | exact calm_sliceBounds _ _ _ _ _ _
  | exact calm_slice _ _ _ _ _
  | exact calm_part _ _ _
  | (refine calm_bind ?_ fun _=>?_)
  | split
  | dsimp only
theorem calm_extract (x:Value) (i:Nat):Calm P (Instr.extract x i):=by
 unfold Instr.extract
 repeat' first
  | exact calm_pure _
  | exact (never_stuck _).calm
  | exact (never_unsupported _).calm
  | exact (never_boundsPanic _ _ _ _).calm
  | exact (never_runtimePanic _).calm
  | exact calm_underlying _
  | exact calm_sizeOf _
  | exact calm_asIntOf _
  | exact calm_asBool _
  | exact calm_asAgg _
  | exact calm_asAddr _
  | exact calm_sureAddr _
  | exact calm_typeInfo _
  | exact calm_program
  | exact calm_sliceBound _ _ _
  | exact calm_sliceBounds _ _ _ _ _ _
  | exact calm_slice _ _ _ _ _
  | exact calm_part _ _ _
  | (refine calm_bind ?_ fun _=>?_)
  | split
  | dsimp only
theorem calm_makeInterface (t:TypeId) (x:Value):Calm P (Instr.makeInterface t x):=by
 unfold Instr.makeInterface
 repeat' first
  | exact calm_pure _
  | exact (never_stuck _).calm
  | exact (never_unsupported _).calm
  | exact (never_boundsPanic _ _ _ _).calm
  | exact (never_runtimePanic _).calm
  | exact calm_underlying _
  | exact calm_sizeOf _
  | exact calm_asIntOf _
  | exact calm_asBool _
  | exact calm_asAgg _
  | exact calm_asAddr _
  | exact calm_sureAddr _
  | exact calm_typeInfo _
  | exact calm_program
  | exact calm_sliceBound _ _ _
  | exact calm_sliceBounds _ _ _ _ _ _
  | exact calm_slice _ _ _ _ _
  | exact calm_part _ _ _
  | (refine calm_bind ?_ fun _=>?_)
  | split
  | dsimp only
theorem calm_intArith (o:BinOp) (k:IntKind) (x y:Int):Calm P (Op.intArith o k x y):=by
 unfold Op.intArith
 repeat' first
  | exact calm_pure _
  | exact (never_stuck _).calm
  | exact (never_unsupported _).calm
  | exact (never_boundsPanic _ _ _ _).calm
  | exact (never_runtimePanic _).calm
  | exact calm_underlying _
  | exact calm_sizeOf _
  | exact calm_asIntOf _
  | exact calm_asBool _
  | exact calm_asAgg _
  | exact calm_asAddr _
  | exact calm_sureAddr _
  | exact calm_typeInfo _
  | exact calm_program
  | exact calm_sliceBound _ _ _
  | exact calm_sliceBounds _ _ _ _ _ _
  | exact calm_slice _ _ _ _ _
  | exact calm_part _ _ _
  | (refine calm_bind ?_ fun _=>?_)
  | split
  | dsimp only
theorem calm_intBits (o:BinOp) (k:IntKind) (x y:Int):Calm P (Op.intBits o k x y):=by
 unfold Op.intBits
 repeat' first
  | exact calm_pure _
  | exact (never_stuck _).calm
  | exact (never_unsupported _).calm
  | exact (never_boundsPanic _ _ _ _).calm
  | exact (never_runtimePanic _).calm
  | exact calm_underlying _
  | exact calm_sizeOf _
  | exact calm_asIntOf _
  | exact calm_asBool _
  | exact calm_asAgg _
  | exact calm_asAddr _
  | exact calm_sureAddr _
  | exact calm_typeInfo _
  | exact calm_program
  | exact calm_sliceBound _ _ _
  | exact calm_sliceBounds _ _ _ _ _ _
  | exact calm_slice _ _ _ _ _
  | exact calm_part _ _ _
  | (refine calm_bind ?_ fun _=>?_)
  | split
  | dsimp only
theorem calm_intCmp (o:BinOp) (x y:Int):Calm P (Op.intCmp o x y):=by
 unfold Op.intCmp
 repeat' first
  | exact calm_pure _
  | exact (never_stuck _).calm
  | exact (never_unsupported _).calm
  | exact (never_boundsPanic _ _ _ _).calm
  | exact (never_runtimePanic _).calm
  | exact calm_underlying _
  | exact calm_sizeOf _
  | exact calm_asIntOf _
  | exact calm_asBool _
  | exact calm_asAgg _
  | exact calm_asAddr _
  | exact calm_sureAddr _
  | exact calm_typeInfo _
  | exact calm_program
  | exact calm_sliceBound _ _ _
  | exact calm_sliceBounds _ _ _ _ _ _
  | exact calm_slice _ _ _ _ _
  | exact calm_part _ _ _
  | (refine calm_bind ?_ fun _=>?_)
  | split
  | dsimp only
theorem calm_intDiv (o:BinOp) (k:IntKind) (x y:Int):Calm P (Op.intDiv o k x y):=by
 unfold Op.intDiv
 repeat' first
  | exact calm_pure _
  | exact (never_stuck _).calm
  | exact (never_unsupported _).calm
  | exact (never_boundsPanic _ _ _ _).calm
  | exact (never_runtimePanic _).calm
  | exact calm_underlying _
  | exact calm_sizeOf _
  | exact calm_asIntOf _
  | exact calm_asBool _
  | exact calm_asAgg _
  | exact calm_asAddr _
  | exact calm_sureAddr _
  | exact calm_typeInfo _
  | exact calm_program
  | exact calm_sliceBound _ _ _
  | exact calm_sliceBounds _ _ _ _ _ _
  | exact calm_slice _ _ _ _ _
  | exact calm_part _ _ _
  | (refine calm_bind ?_ fun _=>?_)
  | split
  | dsimp only
theorem calm_shift (o:BinOp) (k k':IntKind) (x y:Int):Calm P (Op.shift o k x k' y):=by
 unfold Op.shift
 repeat' first
  | exact calm_pure _
  | exact (never_stuck _).calm
  | exact (never_unsupported _).calm
  | exact (never_boundsPanic _ _ _ _).calm
  | exact (never_runtimePanic _).calm
  | exact calm_underlying _
  | exact calm_sizeOf _
  | exact calm_asIntOf _
  | exact calm_asBool _
  | exact calm_asAgg _
  | exact calm_asAddr _
  | exact calm_sureAddr _
  | exact calm_typeInfo _
  | exact calm_program
  | exact calm_sliceBound _ _ _
  | exact calm_sliceBounds _ _ _ _ _ _
  | exact calm_slice _ _ _ _ _
  | exact calm_part _ _ _
  | (refine calm_bind ?_ fun _=>?_)
  | split
  | dsimp only
theorem calm_stringOp (o:BinOp) (x y:ByteArray):Calm P (Op.stringOp o x y):=by
 unfold Op.stringOp
 repeat' first
  | exact calm_pure _
  | exact (never_stuck _).calm
  | exact (never_unsupported _).calm
  | exact (never_boundsPanic _ _ _ _).calm
  | exact (never_runtimePanic _).calm
  | exact calm_underlying _
  | exact calm_sizeOf _
  | exact calm_asIntOf _
  | exact calm_asBool _
  | exact calm_asAgg _
  | exact calm_asAddr _
  | exact calm_sureAddr _
  | exact calm_typeInfo _
  | exact calm_program
  | exact calm_sliceBound _ _ _
  | exact calm_sliceBounds _ _ _ _ _ _
  | exact calm_slice _ _ _ _ _
  | exact calm_part _ _ _
  | (refine calm_bind ?_ fun _=>?_)
  | split
  | dsimp only
theorem calm_unary (o:UnOp) (x:Value):Calm P (Op.unary o x):=by
 unfold Op.unary
 repeat' first
  | exact calm_pure _
  | exact (never_stuck _).calm
  | exact (never_unsupported _).calm
  | exact (never_boundsPanic _ _ _ _).calm
  | exact (never_runtimePanic _).calm
  | exact calm_underlying _
  | exact calm_sizeOf _
  | exact calm_asIntOf _
  | exact calm_asBool _
  | exact calm_asAgg _
  | exact calm_asAddr _
  | exact calm_sureAddr _
  | exact calm_typeInfo _
  | exact calm_program
  | exact calm_sliceBound _ _ _
  | exact calm_sliceBounds _ _ _ _ _ _
  | exact calm_slice _ _ _ _ _
  | exact calm_part _ _ _
  | exact calm_intArith _ _ _ _
  | exact calm_intBits _ _ _ _
  | (refine calm_bind ?_ fun _=>?_)
  | split
  | dsimp only
def scalarV:Value→Bool
 | .int _ _=>true
 | .bool _=>true
 | .string _=>true
 | _=>false
def flatV:Value→Bool
 | .int _ _=>true
 | .bool _=>true
 | .string _=>true
 | .agg cs=>cs.all scalarV
 | _=>false
theorem calm_bind_of {s:Sem α} {f:α→Sem β} (hs:Calm P s) (hf:∀ a,(∃ w w1,s.run P w = .ok a w1)→Calm P (f a)):Calm P (s >>= f):=fun w v w1 e=>by
 rw [Sem.run_bind] at e
 obtain ⟨a,w2,h1,h2⟩:=andThen_ok_inv e
 obtain ⟨rfl,h3⟩:=hs _ _ _ h1
 obtain ⟨rfl,h4⟩:=hf a ⟨_,_,h1⟩ _ _ _ h2
 exact ⟨rfl,fun w'=>by rw [Sem.run_bind,h3 w'];exact h4 w'⟩
theorem part_flat {t:TypeId} {cs:Array Value} {off:Nat} (hc:cs.all scalarV = true) {w w1:World} {v:Value} (h:(part t cs off).run P w = .ok v w1):flatV v = true:=by
 rw [Array.all_eq_true_iff_forall_mem] at hc
 unfold part at h
 rw [Sem.run_bind] at h
 obtain ⟨b,w2,_,h⟩:=andThen_ok_inv h
 split at h
 ·rw [Sem.run_bind] at h
  obtain ⟨n,w3,_,h⟩:=andThen_ok_inv h
  simp only [Sem.run_pure,Result.ok.injEq] at h
  rw [← h.1]
  simp only [flatV]
  rw [Array.all_eq_true_iff_forall_mem]
  intro x hx
  rw [Array.mem_extract_iff_getElem] at hx
  obtain ⟨i,hi,rfl⟩:=hx
  exact hc _ (Array.getElem_mem _)
 ·split at h
  ·rename_i u hu
   simp only [Sem.run_pure,Result.ok.injEq] at h
   rw [← h.1]
   have hm:u ∈ cs:=Array.mem_of_getElem? hu
   have:=hc u hm
   cases u <;> simp_all [flatV,scalarV]
  ·exact absurd h (never_stuck _ _ _ _)
theorem calm_forIn {γ:Type}:∀ (l:List γ) (b:β) (f:γ→β→Sem (ForInStep β)),(∀ a b,Calm P (f a b))→Calm P (forIn l b f)
 | [],b,f,_=>by rw [List.forIn_nil];exact calm_pure _
 | a :: l,b,f,h=>by
   rw [List.forIn_cons]
   refine calm_bind (h a b) fun r=>?_
   cases r with
   | done b=>exact calm_pure _
   | yield b=>exact calm_forIn l b f h
theorem calm_forIn_array {γ:Type} (xs:Array γ) (b:β) (f:γ→β→Sem (ForInStep β)) (h:∀ a b,Calm P (f a b)):Calm P (forIn xs b f):=by
 rw [← Array.forIn_toList]
 exact calm_forIn _ _ _ h
theorem calm_forIn_range (n:Nat) (b:β) (f:Nat→β→Sem (ForInStep β)) (h:∀ a b,Calm P (f a b)):Calm P (forIn [0:n] b f):=by
 rw [Std.Legacy.Range.forIn_eq_forIn_range']
 exact calm_forIn _ _ _ h
theorem calm_equalIn_flat:∀ (d:Nat) (t:TypeId) (x y:Value),flatV x = true→flatV y = true→Calm P (Op.equalIn d t x y)
 | 0,t,x,y,_,_=>by rw [Op.equalIn];exact (never_unsupported _).calm
 | d + 1,t,x,y,hx,hy=>by
   have ih:=calm_equalIn_flat d
   rw [Op.equalIn]
   refine calm_bind (calm_underlying _) fun ds=>?_
   cases x <;> simp only [flatV,Bool.false_eq_true] at hx
   all_goals (cases y <;> simp only [flatV,Bool.false_eq_true] at hy)
   all_goals (cases ds <;> dsimp only)
   all_goals repeat' first | contradiction | exact calm_pure _ | exact (never_stuck _).calm | exact (never_unsupported _).calm | (refine calm_bind calm_program fun _=>?_) | split
   ·refine calm_bind (calm_sizeOf _) fun n=>calm_bind (calm_forIn_range _ _ _ fun i s=>calm_bind_of (calm_part _ _ _) fun a ha=>calm_bind_of (calm_part _ _ _) fun b hb=>calm_bind (ih _ _ _ (part_flat hx ha.choose_spec.choose_spec) (part_flat hy hb.choose_spec.choose_spec)) fun r=>?_) fun s=>?_
    ·split <;> exact calm_pure _
    ·split <;> exact calm_pure _
   ·refine calm_bind (calm_forIn_array _ _ _ fun f s=>?_) fun s=>?_
    ·split
     ·refine calm_bind_of (calm_part _ _ _) fun a ha=>calm_bind_of (calm_part _ _ _) fun b hb=>calm_bind (ih _ _ _ (part_flat hx ha.choose_spec.choose_spec) (part_flat hy hb.choose_spec.choose_spec)) fun r=>?_
      split <;> exact calm_pure _
     ·exact calm_pure _
    ·split <;> exact calm_pure _
theorem calm_equal_agg (t:TypeId) {xs ys:Array Value} (hx:xs.all scalarV = true) (hy:ys.all scalarV = true):Calm P (Op.equal t (.agg xs) (.agg ys)):=calm_equalIn_flat _ t _ _ (by simpa [flatV] using hx) (by simpa [flatV] using hy)
theorem calm_binOp_agg (op:BinOp) (t:TypeId) {xs ys:Array Value} (hx:xs.all scalarV = true) (hy:ys.all scalarV = true):Calm P (binOp op t (.agg xs) (.agg ys)):=by
 have he:=calm_equal_agg (P:=P) t hx hy
 cases op <;> unfold binOp <;> repeat' first
  | contradiction
  | exact he
  | exact calm_pure _
  | exact (never_stuck _).calm
  | exact (never_unsupported _).calm
  | (refine calm_bind he fun _=>?_)
  | split
  | dsimp only
  | (exfalso;simp_all;done)
theorem calm_eqGuardIn_flat:∀ (d:Nat) (t:TypeId) (x y:Value),flatV x = true→flatV y = true→Calm P (Op.eqGuardIn d t x y)
 | 0,t,x,y,_,_=>by rw [Op.eqGuardIn];exact (never_unsupported _).calm
 | d + 1,t,x,y,hx,hy=>by
   have ih:=calm_eqGuardIn_flat d
   rw [Op.eqGuardIn]
   refine calm_bind (calm_underlying _) fun ds=>?_
   cases x <;> simp only [flatV,Bool.false_eq_true] at hx
   all_goals (cases y <;> simp only [flatV,Bool.false_eq_true] at hy)
   all_goals (cases ds <;> dsimp only)
   all_goals repeat' first | contradiction | exact calm_pure _ | exact (never_stuck _).calm | exact (never_unsupported _).calm | (refine calm_bind calm_program fun _=>?_) | split
   ·refine calm_bind (calm_sizeOf _) fun n=>calm_bind (calm_forIn_range _ _ _ fun i s=>calm_bind_of (calm_part _ _ _) fun a ha=>calm_bind_of (calm_part _ _ _) fun b hb=>calm_bind (ih _ _ _ (part_flat hx ha.choose_spec.choose_spec) (part_flat hy hb.choose_spec.choose_spec)) fun r=>?_) fun s=>?_
    ·split <;> exact calm_pure _
    ·split <;> exact calm_pure _
   ·refine calm_bind (calm_forIn_array _ _ _ fun f s=>?_) fun s=>?_
    ·split
     ·refine calm_bind_of (calm_part _ _ _) fun a ha=>calm_bind_of (calm_part _ _ _) fun b hb=>calm_bind (ih _ _ _ (part_flat hx ha.choose_spec.choose_spec) (part_flat hy hb.choose_spec.choose_spec)) fun r=>?_
      split <;> exact calm_pure _
     ·exact calm_pure _
    ·split <;> exact calm_pure _
def plainPair:Value→Value→Bool
 | .int _ _,.int _ _=>true
 | .string _,.string _=>true
 | .bool _,.bool _=>true
 | .slice _ _ _,.slice _ _ _=>true
 | .pointer none,.pointer none=>true
 | .pointer none,.pointer (some _)=>true
 | .pointer (some _),.pointer none=>true
 | .agg xs,.agg ys=>xs.all scalarV && ys.all scalarV
 | _,_=>false
theorem equal_succ (t:TypeId) (x y:Value):Op.equal t x y = Op.equalIn (9999 + 1) t x y:=rfl
theorem calm_equal_bool (t:TypeId) (a b:Bool):Calm P (Op.equal t (.bool a) (.bool b)):=by
 rw [equal_succ,Op.equalIn]
 refine calm_bind (calm_underlying _) fun d=>?_
 cases d <;> dsimp only <;> repeat' first | contradiction | exact calm_pure _ | exact (never_stuck _).calm | exact (never_unsupported _).calm | split | dsimp only
theorem calm_equal_slice (t:TypeId) (a:Option Addr) (n c:Nat) (a':Option Addr) (n' c':Nat):Calm P (Op.equal t (.slice a n c) (.slice a' n' c')):=by
 rw [equal_succ,Op.equalIn]
 refine calm_bind (calm_underlying _) fun d=>?_
 cases d <;> dsimp only <;> repeat' first | contradiction | exact calm_pure _ | exact (never_stuck _).calm | exact (never_unsupported _).calm | split | dsimp only
theorem calm_equal_nilptr (t:TypeId) (a:Option Addr):Calm P (Op.equal t (.pointer none) (.pointer a)):=by
 rw [equal_succ,Op.equalIn]
 refine calm_bind (calm_underlying _) fun d=>?_
 cases d <;> dsimp only <;> repeat' first | contradiction | exact calm_pure _ | exact (never_stuck _).calm | exact (never_unsupported _).calm | split | dsimp only
theorem calm_equal_ptrnil (t:TypeId) (a:Addr):Calm P (Op.equal t (.pointer (some a)) (.pointer none)):=by
 rw [equal_succ,Op.equalIn]
 refine calm_bind (calm_underlying _) fun d=>?_
 cases d <;> dsimp only <;> repeat' first | contradiction | exact calm_pure _ | exact (never_stuck _).calm | exact (never_unsupported _).calm | split | dsimp only
theorem calm_equal_int (t:TypeId) (k k':IntKind) (a b:Int):Calm P (Op.equal t (.int k a) (.int k' b)):=by
 rw [equal_succ,Op.equalIn]
 refine calm_bind (calm_underlying _) fun d=>?_
 cases d <;> dsimp only <;> repeat' first | contradiction | exact calm_pure _ | exact (never_stuck _).calm | exact (never_unsupported _).calm | split | dsimp only
theorem calm_equal_string (t:TypeId) (a b:ByteArray):Calm P (Op.equal t (.string a) (.string b)):=by
 rw [equal_succ,Op.equalIn]
 refine calm_bind (calm_underlying _) fun d=>?_
 cases d <;> dsimp only <;> repeat' first | contradiction | exact calm_pure _ | exact (never_stuck _).calm | exact (never_unsupported _).calm | split | dsimp only
theorem calm_binOp_bool (op:BinOp) (t:TypeId) (a b:Bool):Calm P (binOp op t (.bool a) (.bool b)):=by
 have he:=calm_equal_bool (P:=P) t a b
 cases op <;> unfold binOp <;> repeat' first
  | contradiction
  | exact he
  | exact calm_pure _
  | exact (never_stuck _).calm
  | exact (never_unsupported _).calm
  | exact calm_intArith _ _ _ _
  | exact calm_intBits _ _ _ _
  | exact calm_intCmp _ _ _
  | exact calm_intDiv _ _ _ _
  | exact calm_shift _ _ _ _ _
  | exact calm_stringOp _ _ _
  | (refine calm_bind he fun _=>?_)
  | split
  | dsimp only
  | (exfalso;simp_all;done)
theorem calm_binOp_slice (op:BinOp) (t:TypeId) (a:Option Addr) (n c:Nat) (a':Option Addr) (n' c':Nat):Calm P (binOp op t (.slice a n c) (.slice a' n' c')):=by
 have he:=calm_equal_slice (P:=P) t a n c a' n' c'
 cases op <;> unfold binOp <;> repeat' first
  | contradiction
  | exact he
  | exact calm_pure _
  | exact (never_stuck _).calm
  | exact (never_unsupported _).calm
  | exact calm_intArith _ _ _ _
  | exact calm_intBits _ _ _ _
  | exact calm_intCmp _ _ _
  | exact calm_intDiv _ _ _ _
  | exact calm_shift _ _ _ _ _
  | exact calm_stringOp _ _ _
  | (refine calm_bind he fun _=>?_)
  | split
  | dsimp only
  | (exfalso;simp_all;done)
theorem calm_binOp_nilptr (op:BinOp) (t:TypeId) (a:Option Addr):Calm P (binOp op t (.pointer none) (.pointer a)):=by
 have he:=calm_equal_nilptr (P:=P) t a
 cases op <;> unfold binOp <;> repeat' first
  | contradiction
  | exact he
  | exact calm_pure _
  | exact (never_stuck _).calm
  | exact (never_unsupported _).calm
  | exact calm_intArith _ _ _ _
  | exact calm_intBits _ _ _ _
  | exact calm_intCmp _ _ _
  | exact calm_intDiv _ _ _ _
  | exact calm_shift _ _ _ _ _
  | exact calm_stringOp _ _ _
  | (refine calm_bind he fun _=>?_)
  | split
  | dsimp only
  | (exfalso;simp_all;done)
theorem calm_binOp_ptrnil (op:BinOp) (t:TypeId) (a:Addr):Calm P (binOp op t (.pointer (some a)) (.pointer none)):=by
 have he:=calm_equal_ptrnil (P:=P) t a
 cases op <;> unfold binOp <;> repeat' first
  | contradiction
  | exact he
  | exact calm_pure _
  | exact (never_stuck _).calm
  | exact (never_unsupported _).calm
  | exact calm_intArith _ _ _ _
  | exact calm_intBits _ _ _ _
  | exact calm_intCmp _ _ _
  | exact calm_intDiv _ _ _ _
  | exact calm_shift _ _ _ _ _
  | exact calm_stringOp _ _ _
  | (refine calm_bind he fun _=>?_)
  | split
  | dsimp only
  | (exfalso;simp_all;done)
theorem calm_binOp_int (op:BinOp) (t:TypeId) (k k':IntKind) (a b:Int):Calm P (binOp op t (.int k a) (.int k' b)):=by
 have he:=calm_equal_int (P:=P) t k k' a b
 cases op <;> unfold binOp <;> repeat' first
  | contradiction
  | exact he
  | exact calm_pure _
  | exact (never_stuck _).calm
  | exact (never_unsupported _).calm
  | exact calm_intArith _ _ _ _
  | exact calm_intBits _ _ _ _
  | exact calm_intCmp _ _ _
  | exact calm_intDiv _ _ _ _
  | exact calm_shift _ _ _ _ _
  | exact calm_stringOp _ _ _
  | (refine calm_bind he fun _=>?_)
  | split
  | dsimp only
  | (exfalso;simp_all;done)
theorem calm_binOp_string (op:BinOp) (t:TypeId) (a b:ByteArray):Calm P (binOp op t (.string a) (.string b)):=by
 have he:=calm_equal_string (P:=P) t a b
 cases op <;> unfold binOp <;> repeat' first
  | contradiction
  | exact he
  | exact calm_pure _
  | exact (never_stuck _).calm
  | exact (never_unsupported _).calm
  | exact calm_intArith _ _ _ _
  | exact calm_intBits _ _ _ _
  | exact calm_intCmp _ _ _
  | exact calm_intDiv _ _ _ _
  | exact calm_shift _ _ _ _ _
  | exact calm_stringOp _ _ _
  | (refine calm_bind he fun _=>?_)
  | split
  | dsimp only
  | (exfalso;simp_all;done)
theorem calm_binOp_of {x y:Value} (h:plainPair x y = true) (op:BinOp) (t:TypeId):Calm P (binOp op t x y):=by
 unfold plainPair at h
 split at h
 ·exact calm_binOp_int op t _ _ _ _
 ·exact calm_binOp_string op t _ _
 ·exact calm_binOp_bool op t _ _
 ·exact calm_binOp_slice op t _ _ _ _ _ _
 ·exact calm_binOp_nilptr op t _
 ·exact calm_binOp_nilptr op t _
 ·exact calm_binOp_ptrnil op t _
 ·rw [Bool.and_eq_true] at h;exact calm_binOp_agg op t h.1 h.2
 ·cases h
theorem calm_eqGuard_of {a b:Value} (h:plainPair a b = true) (op:BinOp) (t:TypeId) (x y:Operand):Calm P (eqGuard op t x y a b):=by
 have e:∀ c:Prop,[Decidable c]→Calm P (if c then (pure ():Sem Unit) else pure ()):=fun c _=>calm_ite (calm_pure _) (calm_pure _)
 unfold eqGuard
 unfold plainPair at h
 split at h
 case h_8 =>
  rw [Bool.and_eq_true] at h
  have hg:=calm_eqGuardIn_flat (P:=P) Op.maxDepth t (.agg _) (.agg _) (by simpa [flatV] using h.1) (by simpa [flatV] using h.2)
  dsimp only
  refine calm_ite (calm_pure _) (calm_bind calm_program fun p=>calm_bind calm_program fun p'=>calm_ite (calm_pure _) (calm_bind hg fun b=>calm_ite (never_unsupported _).calm (calm_pure _)))
 all_goals first
  | exact e _
  | (dsimp only;exact e _)
  | cases h
end calm
end
section -- SerialB
open Go
section
variable {P:Program}
def quiet (P:Program) (op:Op):Bool :=
 match op with
 | .move _ | .assign _ | .pick .. | .extract .. | .field .. | .slice .. | .indexAddr .. | .index .. | .unOp .. | .makeInterface .. | .makeFunc .. | .nilCheck _ | .binOp .. | .build ..=>true
 | .convert _ d _=>match P.underlying d with | some (.int _)=>true | _=>false
 | .fieldAddr s _ f=>match P.underlying s with
   | some (.struct fs)=>match fs[f]? with
     | some fd=>match P.info? fd.type with | some i=>i.size != 0 | none=>false
     | none=>false
   | _=>false
 | .call c=>match c.callee with | .builtin .len=>true | _=>false
 | _=>false
def isSeqV:Value→Bool
 | .slice ..=>true
 | .string _=>true
 | _=>false
def isFuncV:Value→Bool
 | .func ..=>true
 | _=>false
def isIntV:Value→Bool
 | .int ..=>true
 | _=>false
def fits (ρ:Operand→Value) (op:Op):Bool :=
 match op with
 | .binOp _ _ x y _=>plainPair (ρ x) (ρ y)
 | .nilCheck x=>!isFuncV (ρ x)
 | .convert _ _ x=>isIntV (ρ x)
 | .call c=>match (c.args.map ρ)[0]? with | some v=>isSeqV v | none=>false
 | _=>true
theorem calm_value {s:Sem Value} (h:Calm P s):Calm P (do pure (Next.value (← s))):=calm_bind h fun _=>calm_pure _
theorem value_of {s:Sem Value} {w w1:World} {n:Next} (h:(do pure (Next.value (← s)):Sem Next).run P w = .ok n w1):∃ v,n = .value v:=by
 rw [Sem.run_bind] at h
 obtain ⟨a,w2,_,h2⟩:=andThen_ok_inv h
 simp only [Sem.run_pure,Result.ok.injEq] at h2
 exact ⟨a,h2.1.symm⟩
theorem calm_convert_int (s d:TypeId) (k:IntKind) (n:Int) (hd:∃ k',P.underlying d = some (.int k')):Calm P (convert s d (.int k n)):=by
 obtain ⟨k',hd⟩:=hd
 intro w v w1 e
 unfold convert at e ⊢
 rw [Sem.run_bind] at e
 obtain ⟨a,w2,h1,h2⟩:=andThen_ok_inv e
 obtain ⟨rfl,h3⟩:=calm_underlying s _ _ _ h1
 rw [Sem.run_bind,run_underlying hd,Result.andThen_ok] at h2
 have hc:Calm P (Conv.intToInt k' n):=calm_pure _
 have h4 : ∀ w', (match a, TypeDesc.int k', Value.int k n with | _, .int k, .int _ n => Conv.intToInt k n | _, _, _ => stuck "" : Sem Value).run P w' = (Conv.intToInt k' n).run P w' := fun _ => by cases a <;> rfl
 have h5:(Conv.intToInt k' n).run P w2 = .ok v w1:=by cases a <;> exact h2
 obtain ⟨rfl,h6⟩:=hc _ _ _ h5
 refine ⟨rfl,fun w'=>?_⟩
 rw [Sem.run_bind,h3 w',Result.andThen_ok,Sem.run_bind,run_underlying hd,Result.andThen_ok]
 cases a <;> exact h6 w'
theorem calm_len (ts:Array TypeId) (t:TypeId) (args:Array Value) (v:Value) (h:args[0]? = some v) (hv:isSeqV v = true):Calm P (Builtin.len_ ts t args):=by
 unfold Builtin.len_
 rw [h]
 generalize ts[0]? = o
 cases o with
 | none=>exact (never_stuck _).calm
 | some t' =>
   dsimp only
   refine calm_bind (calm_underlying _) fun d=>?_
   cases v <;> simp only [isSeqV,Bool.false_eq_true] at hv
   all_goals
    cases d <;> dsimp only <;> repeat' first
     | exact calm_pure _
     | exact (never_stuck _).calm
     | exact calm_underlying _
     | contradiction
     | (refine calm_bind (calm_underlying _) fun _=>?_)
     | split
theorem value_nilCheck (o:Oper) (ρ:Operand→Value) (x:Operand) (ho:o.op = .nilCheck x) {w w1:World} {n:Next} (h:(execOp ρ o).run P w = .ok n w1):∃ v,n = .value v:=by
 unfold execOp at h
 rw [ho] at h
 dsimp only at h
 split at h
 ·exact absurd h (never_runtimePanic _ _ _ _)
 ·exact absurd h (never_runtimePanic _ _ _ _)
 ·exact absurd h (never_runtimePanic _ _ _ _)
 ·split at h
  ·exact absurd h (never_runtimePanic _ _ _ _)
  ·rw [Sem.run_bind] at h
   obtain ⟨p,w2,_,h⟩:=andThen_ok_inv h
   rw [Sem.run_bind] at h
   obtain ⟨b,w3,_,h⟩:=andThen_ok_inv h
   split at h
   ·rw [Sem.run_bind] at h
    obtain ⟨b,w4,h1,_⟩:=andThen_ok_inv h
    exact absurd h1 (never_unsupported _ _ _ _)
   ·simp only [Sem.run_pure,Result.ok.injEq] at h
    exact ⟨_,h.1.symm⟩
  ·simp only [Sem.run_pure,Result.ok.injEq] at h
   exact ⟨_,h.1.symm⟩
 ·simp only [Sem.run_pure,Result.ok.injEq] at h
  exact ⟨_,h.1.symm⟩
theorem value_exec (o:Oper) (ρ:Operand→Value) (hq:quiet P o.op = true) {w w1:World} {n:Next} (h:(execOp ρ o).run P w = .ok n w1):∃ v,n = .value v:=by
 cases ho:o.op
 case nilCheck x=>exact value_nilCheck o ρ x ho h
 case call c =>
  obtain ⟨callee,args,ts⟩:=c
  rw [ho] at hq
  cases callee with
  | builtin b =>
    cases b <;> simp only [quiet,Bool.false_eq_true] at hq
    simp only [execOp,ho,resolve,invoke,builtin,pure_bind] at h
    exact value_of h
  | _=>simp [quiet] at hq
 case pick c a b =>
  unfold execOp at h
  rw [ho] at h
  dsimp only at h
  rw [Sem.run_bind] at h
  obtain ⟨p,w2,_,h⟩:=andThen_ok_inv h
  simp only [Sem.run_pure,Result.ok.injEq] at h
  exact ⟨_,h.1.symm⟩
 all_goals
  rw [ho] at hq
  first
   | (simp [quiet] at hq;done)
   | (unfold execOp at h;rw [ho] at h;exact value_of h)
   | (unfold execOp at h;rw [ho] at h;simp only [Sem.run_pure,Result.ok.injEq] at h;exact ⟨_,h.1.symm⟩)
theorem calm_underlying_at {β:Type} {t:TypeId} {d:TypeDesc} (h:P.underlying t = some d) {f:TypeDesc→Sem β} (hf:Calm P (f d)):Calm P (underlying t >>= f):=fun w v w1 e=>by
 rw [Sem.run_bind,run_underlying h,Result.andThen_ok] at e
 obtain ⟨a,b⟩:=hf _ _ _ e
 exact ⟨a,fun w'=>by rw [Sem.run_bind,run_underlying h,Result.andThen_ok];exact b w'⟩
theorem run_sizeOf_at {t:TypeId} {i:TypeInfo} (h:P.info? t = some i) (w:World):(sizeOf t).run P w = .ok i.size w:=by
 simp [sizeOf,typeInfo,h]
theorem calm_sizeOf_at {β:Type} {t:TypeId} {i:TypeInfo} (h:P.info? t = some i) {f:Nat→Sem β} (hf:Calm P (f i.size)):Calm P (sizeOf t >>= f):=fun w v w1 e=>by
 rw [Sem.run_bind,run_sizeOf_at h,Result.andThen_ok] at e
 obtain ⟨a,b⟩:=hf _ _ _ e
 exact ⟨a,fun w'=>by rw [Sem.run_bind,run_sizeOf_at h,Result.andThen_ok];exact b w'⟩
theorem calm_mapM {γ δ:Type}:∀ (l:List γ) (f:γ→Sem δ),(∀ a,Calm P (f a))→Calm P (l.mapM f)
 | [],f,_=>by rw [List.mapM_nil];exact calm_pure _
 | a :: l,f,h=>by
   rw [List.mapM_cons]
   exact calm_bind (h a) fun _=>calm_bind (calm_mapM l f h) fun _=>calm_pure _
theorem calm_build (t:TypeId) (parts:Array (Nat × Value)):Calm P (Instr.build t parts):=by
 unfold Instr.build
 refine calm_bind ?_ fun z=>calm_bind (calm_underlying t) fun d=>?_
 ·unfold zeroValue
  refine calm_bind (calm_typeInfo t) fun i=>?_
  split
  ·exact calm_pure _
  ·exact (never_unsupported _).calm
 ·cases d <;> dsimp only
  case struct fields =>
   refine calm_bind ?_ fun places=>?_
   ·rw [Array.mapM_eq_mapM_toList]
    refine calm_bind (calm_mapM _ _ fun f=>calm_bind (calm_sizeOf _) fun _=>calm_pure _) fun _=>calm_pure _
   ·split
    ·exact calm_pure _
    ·exact (never_stuck _).calm
  case array n e =>
   refine calm_bind (calm_sizeOf _) fun places=>?_
   split
   ·exact calm_pure _
   ·exact (never_stuck _).calm
  all_goals exact (never_stuck _).calm
theorem calm_exec (o:Oper) (ρ:Operand→Value) (hq:quiet P o.op = true) (hf:fits ρ o.op = true):Calm P (execOp ρ o):=by
 cases ho:o.op
 all_goals
  rw [ho] at hq hf
  first
   | (simp [quiet] at hq;done)
   | skip
 all_goals unfold execOp;rw [ho]
 case move x=>exact calm_pure _
 case assign x=>exact calm_pure _
 case pick c a b=>exact calm_bind (calm_asBool _) fun _=>calm_pure _
 case nilCheck x =>
  dsimp only
  simp only [fits,Bool.not_eq_true'] at hf
  split
  ·exact (never_runtimePanic _).calm
  ·exact (never_runtimePanic _).calm
  ·exact (never_runtimePanic _).calm
  ·rename_i he;rw [he] at hf;cases hf
  ·exact calm_pure _
 case binOp op t x y t'=>exact calm_value (calm_bind (calm_eqGuard_of hf op t x y) fun _=>calm_binOp_of hf op t)
 case unOp=>exact calm_value (calm_unary _ _)
 case convert s d x =>
  simp only [fits] at hf
  simp only [quiet] at hq
  cases hx:ρ x <;> rw [hx] at hf <;> simp only [isIntV,Bool.false_eq_true] at hf
  dsimp only
  rw [hx]
  refine calm_value (calm_convert_int _ _ _ _ ?_)
  split at hq
  ·exact ⟨_,by assumption⟩
  ·cases hq
 case build=>exact calm_value (calm_build _ _)
 case makeInterface=>exact calm_value (calm_makeInterface _ _)
 case makeFunc=>exact calm_value (calm_pure _)
 case slice=>exact calm_value (calm_sliceAt _ _ _ _ _)
 case fieldAddr s x f =>
  simp only [quiet] at hq
  split at hq
  ·rename_i fs hs
   split at hq
   ·rename_i fd hfd
    split at hq
    ·rename_i i hi
     refine calm_value ?_
     unfold Instr.fieldAt
     refine calm_underlying_at hs ?_
     dsimp only
     rw [hfd]
     refine calm_bind (calm_sureAddr _) fun a=>calm_bind ?_ fun _=>calm_pure _
     unfold fieldPlace
     refine calm_sizeOf_at hi ?_
     rw [if_neg (by simpa using hq)]
     exact calm_pure _
    ·cases hq
   ·cases hq
  ·cases hq
 case field=>exact calm_value (calm_field _ _ _)
 case indexAddr=>exact calm_value (calm_indexAt _ _ _)
 case index=>exact calm_value (calm_index _ _ _)
 case extract=>exact calm_value (calm_extract _ _)
 case call c =>
  obtain ⟨callee,args,ts⟩:=c
  cases callee with
  | builtin b =>
    cases b <;> simp only [quiet,Bool.false_eq_true] at hq
    simp only [fits] at hf
    simp only [resolve,invoke,builtin,pure_bind]
    split at hf
    ·exact calm_value (calm_len _ _ _ _ (by assumption) hf)
    ·cases hf
  | _=>simp [quiet] at hq
/-! ### The order of a region -/
variable {ops:Array Oper}
theorem straight_out {R:Act→World→Prop}:¬ LetsOut (Exit.then R (fun _ _ _=>False)):=fun ⟨_,_,h⟩=>h
theorem wpOp_some {R:Act→World→Prop} {i:Nat} {o:Oper} (hi:ops[i]? = some o) {K:Act→World→Prop} {a:Act} {w:World}
  (h:wpOp P ops (Exit.then R (fun _ _ _=>False)) i K a w):∃ v a' w',a'.tmps = (a.put o.dst v).tmps∧K a' w':=by
 unfold wpOp at h
 simp only [hi] at h
 split at h
 ·rcases h with h | ⟨_,h⟩
  ·unfold Oper.wp at h
   generalize hr:(execOp a.eval o).run P w = r at h
   cases r with
   | ok n w' =>
     cases n <;> simp only [Oper.upon] at h <;> first | exact ⟨_,_,_,rfl,h⟩ | exact h.elim | skip
     case defer d=>exact ⟨undef,_,_,by cases o.dst <;> rfl,h⟩
     case enter f args =>
      obtain ⟨e,w'',fr,hR,_⟩:=h []
      cases e with
      | returned v=>exact ⟨_,_,_,rfl,hR⟩
      | panicked c=>exact hR.elim
      | outgrown=>exact (straight_out hR).elim
     case row row args =>
      obtain ⟨v,w'',hR,_⟩:=h default []
      exact ⟨_,_,_,rfl,hR⟩
   | halt x w'=>cases x <;> simp only [Oper.upon] at h <;> exact h.elim
  ·exact (straight_out h).elim
 ·exact ⟨_,_,_,rfl,h⟩
theorem put_other (a:Act) (d:Option Tmp) (v:Value) (t:Tmp) (h:d ≠ some t):(a.put d v).tmps[t]? = a.tmps[t]?:=by
 cases d with
 | none=>rfl
 | some d =>
   have hne:d ≠ t:=fun e=>h (by rw [e])
   simp [Act.put,Array.getElem?_setIfInBounds_ne hne]
theorem final {R:Act→World→Prop} (l:List Nat):∀ (a:Act) (w:World),wpOps P ops (Exit.then R (fun _ _ _=>False)) l a w →
  ∃ af wf,R af wf∧∀ t,(∀ k ∈ l,∀ o,ops[k]? = some o→o.dst ≠ some t)→af.tmps[t]? = a.tmps[t]?:=by
 induction l with
 | nil=>exact fun a w h=>⟨a,w,h,fun _ _=>rfl⟩
 | cons i l ih =>
   intro a w h
   rw [wpOps_cons] at h
   cases hi:ops[i]? with
   | none =>
     have h':wpOps P ops (Exit.then R (fun _ _ _=>False)) l a w:=by simpa [wpOp,hi] using h
     obtain ⟨af,wf,h1,h2⟩:=ih _ _ h'
     exact ⟨af,wf,h1,fun t ht=>h2 t fun k hk=>ht k (List.mem_cons_of_mem _ hk)⟩
   | some o =>
     obtain ⟨v,a',w',he,hK⟩:=wpOp_some hi h
     obtain ⟨af,wf,h1,h2⟩:=ih _ _ hK
     refine ⟨af,wf,h1,fun t ht=>?_⟩
     rw [h2 t fun k hk=>ht k (List.mem_cons_of_mem _ hk),he]
     exact put_other a _ v t (ht i (List.mem_cons_self ..) o hi)
def Agree (ops:Array Oper) (o:Oper) (a b:Act):Prop:=∀ t ∈ o.looksAt ops,a.tmps[t]? = b.tmps[t]?
theorem Agree.eval {o:Oper} {a b:Act} (h:Agree ops o a b):∀ x ∈ o.op.operands,a.eval x = b.eval x:=by
 intro x hx
 cases x with
 | tmp t =>
   have:=h t (List.mem_append_left _ (List.mem_filterMap.2 ⟨.tmp t,by simpa using hx,rfl⟩))
   simp only [Act.eval,Array.getD_eq_getD_getElem?,this]
 | _=>rfl
theorem Agree.wanted {o:Oper} {a b:Act} (h:Agree ops o a b):Region.wanted o (yielded ops a.tmps) = Region.wanted o (yielded ops b.tmps):=by
 unfold Region.wanted
 cases hg:o.guard with
 | none=>rfl
 | some gw =>
   obtain ⟨g,want⟩:=gw
   have hy:yielded ops a.tmps g = yielded ops b.tmps g:=by
    unfold yielded
    cases ht:(ops[g]?).bind (·.dst) with
    | none=>rfl
    | some t =>
      have:=h t (by simp [Oper.looksAt,hg,ht])
      simp only [Option.bind_some,this]
   simp only [hy]
theorem fits_congr {ρ ρ':Operand→Value} (op:Op) (h:∀ x ∈ op.operands,ρ x = ρ' x):fits ρ op = fits ρ' op:=by
 cases op <;> simp only [fits]
 case binOp o t x y t'=>rw [h x (by simp [Op.operands]),h y (by simp [Op.operands])]
 case nilCheck x=>rw [h x (by simp [Op.operands])]
 case convert s d x=>rw [h x (by simp [Op.operands])]
 case call c =>
  have:c.args.map ρ = c.args.map ρ':=Array.map_congr_left fun x hx=>h x (by simp [Op.operands,Call.operands,hx])
  rw [this]
theorem quiet_select {op:Op} (h:quiet P op = true):∀ cs b,op ≠ .select cs b:=by
 intro cs b e
 rw [e] at h
 cases h
theorem Yields.agree {o:Oper} {u:Value} {a b:Act} (hy:Yields P ops o u a) (h:Agree ops o a b) (hs:∀ cs c,o.op ≠ .select cs c):Yields P ops o u b :=
 hy.of_same (execOp_congr o hs fun x hx=>(h.eval x hx).symm) h.wanted.symm
def goodB (P:Program) (ops:Array Oper) (a:Act):Bool:=ops.toList.all fun o=>fits a.eval o.op || !quiet P o.op || !Region.wanted o (yielded ops a.tmps)
theorem yields_of {R:Act→World→Prop} {i:Nat} {o:Oper} (hi:ops[i]? = some o) (hq:quiet P o.op = true) {K:Act→World→Prop} {a:Act} {w:World}
  (h:wpOp P ops (Exit.then R (fun _ _ _=>False)) i K a w) (hfin:∀ u w',K (a.put o.dst u) w'→Region.wanted o (yielded ops a.tmps) = true→fits a.eval o.op = true) :
  ∃ u,Yields P ops o u a∧K (a.put o.dst u) w:=by
 unfold wpOp at h
 simp only [hi] at h
 split at h
 ·rename_i hw
  rcases h with h | ⟨_,h⟩
  ·unfold Oper.wp at h
   generalize hr:(execOp a.eval o).run P w = r at h
   cases r with
   | ok n w' =>
     obtain ⟨u,rfl⟩:=value_exec o a.eval hq hr
     simp only [Oper.upon] at h
     obtain ⟨rfl,hall⟩:=calm_exec o a.eval hq (hfin u w' h hw) _ _ _ hr
     exact ⟨u,.inl ⟨hw,hall⟩,h⟩
   | halt x w'=>cases x <;> simp only [Oper.upon] at h <;> exact h.elim
  ·exact (straight_out h).elim
 ·rename_i hw
  exact ⟨undef,.inr ⟨by simpa using hw,rfl⟩,h⟩
theorem yields_inv {R:Exit→Act→World→Prop} {i:Nat} {o:Oper} {u:Value} (hi:ops[i]? = some o) {K:Act→World→Prop} {a:Act} {w:World} (hR:¬ LetsOut R) (hy:Yields P ops o u a)
  (h:wpOp P ops R i K a w):K (a.put o.dst u) w:=by
 unfold wpOp at h
 simp only [hi] at h
 rcases hy with ⟨hw,hy⟩ | ⟨hw,rfl⟩
 ·rw [if_pos hw] at h
  rcases h with h | ⟨_,h⟩
  ·unfold Oper.wp at h
   rw [hy w] at h
   exact h
  ·exact (hR h).elim
 ·rw [if_neg (by rw [hw];simp)] at h
  exact h
end
end
end Go.Proofs.YteekjfgjmccdnaaGreatDoor
