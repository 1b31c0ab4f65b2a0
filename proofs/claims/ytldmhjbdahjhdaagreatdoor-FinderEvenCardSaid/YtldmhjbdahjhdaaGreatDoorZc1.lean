/-
  Part 1 of the proof.
-/
import Derived.Shelf.Strings.Trim
import Derived.Shelf.Small.Utf8
import Derived.Shelf.Small.Wraps
import Derived.Shelf.Strings.Shaped
import Derived.Shelf.Sort.Plain
import Derived.Shelf.GgSortFunc.Tiny
import Derived.Shelf.Strings.IndexAnyAll
import Derived.Shelf.Strings.Repeat
import Derived.Shelf.Unicode.DecodeAny
import Derived.Shelf.Strings.BuilderCap
import Derived.Shelf.Slices.CompactI
import Derived.Shelf.Slices.CompactS
import Derived.Shelf.Slices.In.SortNone2
import Derived.Shelf.SlSortFuncK.WholeK
import Derived.Shelf.SlicesE.Index
import Derived.Test.YtldmhjbdahjhdaaGreatDoorProg
import Derived.Shelf.SlSortCmp.WholeK
import Derived.Shelf.SlicesQ.Contains
import Derived.Shelf.SlicesQ.IndexFunc
import Derived.Shelf.SlicesE.Clone
import Derived.WalkSpells
import Derived.WalkLawsBesides
import Derived.Lib.Hide
import Derived.Lib.QuietBelow
import Derived.BigGuardPart
set_option maxRecDepth 100000
set_option maxHeartbeats 100000000
set_option linter.all false
namespace Go.Proofs
open Go.Shelf
theorem optTrShelf{α:Type}{o:Option α}{a b:α}(h:o=some a)(e:a=b):o=some b:=e▸h
def Tryz.lays170_ren:Go.Shelf.Ren:=⟨fun|170=>196|n=>n,fun|70=>272|3=>3|0=>0|72=>274|37=>188|5=>5|n=>n,fun|n=>n⟩
theorem Tryz.lays170:Go.Proofs.Lays.n170 Tryz.prog Tryz.lays170_ren:={
 mixed:=by kernel_rfl
 f170:=optTrShelf Tryz.func196 (by kernel_rfl)
 t0:=Tryz.underlying0
 a0:=Tryz.isAgg0
 z0:=Tryz.sizeOf0
 v0:=Tryz.zeroValue0
 t3:=Tryz.underlying3
 a3:=Tryz.isAgg3
 z3:=Tryz.sizeOf3
 v3:=Tryz.zeroValue3
 t37:=Tryz.underlying188
 a37:=Tryz.isAgg188
 z37:=Tryz.sizeOf188
 v37:=Tryz.zeroValue188
 t70:=Tryz.underlying272
 a70:=Tryz.isAgg272
 z70:=Tryz.sizeOf272
 v70:=Tryz.zeroValue272
 t72:=Tryz.underlying274
 a72:=Tryz.isAgg274
 z72:=Tryz.sizeOf274
 v72:=Tryz.zeroValue274}
def Tryz.lays169_ren:Go.Shelf.Ren:=⟨fun|169=>197|n=>n,fun|70=>272|9=>9|0=>0|72=>274|37=>188|127=>324|3=>3|5=>5|n=>n,fun|n=>n⟩
theorem Tryz.lays169:Go.Proofs.Lays.n169 Tryz.prog Tryz.lays169_ren:={
 mixed:=by kernel_rfl
 f169:=optTrShelf Tryz.func197 (by kernel_rfl)
 t0:=Tryz.underlying0
 a0:=Tryz.isAgg0
 z0:=Tryz.sizeOf0
 v0:=Tryz.zeroValue0
 t3:=Tryz.underlying3
 a3:=Tryz.isAgg3
 z3:=Tryz.sizeOf3
 v3:=Tryz.zeroValue3
 t9:=Tryz.underlying9
 a9:=Tryz.isAgg9
 z9:=Tryz.sizeOf9
 v9:=Tryz.zeroValue9
 t37:=Tryz.underlying188
 a37:=Tryz.isAgg188
 z37:=Tryz.sizeOf188
 v37:=Tryz.zeroValue188
 t70:=Tryz.underlying272
 a70:=Tryz.isAgg272
 z70:=Tryz.sizeOf272
 v70:=Tryz.zeroValue272
 t72:=Tryz.underlying274
 a72:=Tryz.isAgg274
 z72:=Tryz.sizeOf274
 v72:=Tryz.zeroValue274
 t127:=Tryz.underlying324
 a127:=Tryz.isAgg324
 z127:=Tryz.sizeOf324
 v127:=Tryz.zeroValue324}
theorem Tryz.Builder_Extra_169:Builder.Extra Tryz.prog Tryz.lays169_ren:={
 sizeBuilder:=by kernel_rfl
 liesBuilder:=by kernel_rfl
 t5:=Tryz.underlying5
 a5:=Tryz.isAgg5
 z5:=Tryz.sizeOf5
 v5:=Tryz.zeroValue5
 infoByte:=by kernel_rfl
 cellsByte:=by kernel_rfl
 sizeByte:=by kernel_rfl
 neB5:=by decide}
open Go.RowKit in
theorem Tryz.Builder_String_any(B b:Nat)(l:List UInt8)(w:World)(h:Lib.IsBuilder 274 5 B b (Lib.byteCells l) w)(hBw:B<=w.heap.size):
 Calls Tryz.prog 197 #[.pointer (some ⟨b,0,none⟩)] w fun e w'=>e=.returned (.string ⟨l.toArray⟩)/\Below B w w':=Any.Builder_String_any Tryz.lays169 Tryz.Builder_Extra_169 B b l w h hBw
def Tryz.lays106_ren:Go.Shelf.Ren:=⟨fun|106=>173|213=>224|265=>279|n=>n,fun|9=>9|3=>3|n=>n,fun|n=>n⟩
theorem Tryz.lays106:Go.Proofs.Lays.n106 Tryz.prog Tryz.lays106_ren:={
 mixed:=by kernel_rfl
 f106:=optTrShelf Tryz.func173 (by kernel_rfl)
 f213:=optTrShelf Tryz.func224 (by kernel_rfl)
 f265:=optTrShelf Tryz.func279 (by kernel_rfl)
 t3:=Tryz.underlying3
 a3:=Tryz.isAgg3
 z3:=Tryz.sizeOf3
 v3:=Tryz.zeroValue3
 t9:=Tryz.underlying9
 a9:=Tryz.isAgg9
 z9:=Tryz.sizeOf9
 v9:=Tryz.zeroValue9}
open Go.RowKit in
theorem Tryz.strings_Compare(a b:ByteArray)(w:World):
 Calls Tryz.prog 173 #[.string a,.string b] w fun e w'=>e=.returned (.int .i64 (Lib.compareBytes a.data.toList b.data.toList))/\w'=w:=Any.strings_Compare Tryz.lays106 a b w
def Tryz.lays137_ren:Go.Shelf.Ren:=⟨fun|137=>72|217=>126|266=>179|n=>n,fun|9=>9|5=>5|3=>3|n=>n,fun|n=>n⟩
theorem Tryz.lays137:Go.Proofs.Lays.n137 Tryz.prog Tryz.lays137_ren:={
 mixed:=by kernel_rfl
 f137:=optTrShelf Tryz.func72 (by kernel_rfl)
 f217:=optTrShelf Tryz.func126 (by kernel_rfl)
 f266:=optTrShelf Tryz.func179 (by kernel_rfl)
 t3:=Tryz.underlying3
 a3:=Tryz.isAgg3
 z3:=Tryz.sizeOf3
 v3:=Tryz.zeroValue3
 t5:=Tryz.underlying5
 a5:=Tryz.isAgg5
 z5:=Tryz.sizeOf5
 v5:=Tryz.zeroValue5
 t9:=Tryz.underlying9
 a9:=Tryz.isAgg9
 z9:=Tryz.sizeOf9
 v9:=Tryz.zeroValue9}
open Go.RowKit in
theorem Tryz.strings_IndexByte(s:ByteArray)(c:Int)(w:World):
 Calls Tryz.prog 72 #[.string s,.int .u8 c] w fun e w'=>e=.returned (.int .i64 (Lib.indexByte s.data.toList c.toNat.toUInt8))/\w'=w:=Any.strings_IndexByte Tryz.lays137 s c w
def Tryz.lays104_ren:Go.Shelf.Ren:=⟨fun|104=>141|211=>198|207=>249|n=>n,fun|9=>9|4=>4|24=>229|3=>3|n=>n,fun|n=>n⟩
theorem Tryz.lays104:Go.Proofs.Lays.n104 Tryz.prog Tryz.lays104_ren:={
 mixed:=by kernel_rfl
 f104:=optTrShelf Tryz.func141 (by kernel_rfl)
 f207:=optTrShelf Tryz.func249 (by kernel_rfl)
 f211:=optTrShelf Tryz.func198 (by kernel_rfl)
 t3:=Tryz.underlying3
 a3:=Tryz.isAgg3
 z3:=Tryz.sizeOf3
 v3:=Tryz.zeroValue3
 t4:=Tryz.underlying4
 a4:=Tryz.isAgg4
 z4:=Tryz.sizeOf4
 v4:=Tryz.zeroValue4
 t9:=Tryz.underlying9
 a9:=Tryz.isAgg9
 z9:=Tryz.sizeOf9
 v9:=Tryz.zeroValue9
 t24:=Tryz.underlying229
 a24:=Tryz.isAgg229
 z24:=Tryz.sizeOf229
 v24:=Tryz.zeroValue229}
open Go.RowKit in
theorem Tryz.strings_CutSuffix(s p:ByteArray)(w:World)(hs:s.size<=9223372036854775807):
 Calls Tryz.prog 141 #[.string s,.string p] w fun e w'=>e=.returned (.tuple #[.string ⟨(Lib.trimSuffix s.data.toList p.data.toList).toArray⟩,.bool (Lib.hasSuffix s.data.toList p.data.toList)])/\w'=w:=Any.strings_CutSuffix Tryz.lays104 s p w hs
def Tryz.lays122_ren:Go.Shelf.Ren:=⟨fun|122=>125|215=>178|n=>n,fun|3=>3|4=>4|n=>n,fun|n=>n⟩
theorem Tryz.lays122:Go.Proofs.Lays.n122 Tryz.prog Tryz.lays122_ren:={
 mixed:=by kernel_rfl
 f122:=optTrShelf Tryz.func125 (by kernel_rfl)
 f215:=optTrShelf Tryz.func178 (by kernel_rfl)
 t3:=Tryz.underlying3
 a3:=Tryz.isAgg3
 z3:=Tryz.sizeOf3
 v3:=Tryz.zeroValue3
 t4:=Tryz.underlying4
 a4:=Tryz.isAgg4
 z4:=Tryz.sizeOf4
 v4:=Tryz.zeroValue4}
open Go.RowKit in
theorem Tryz.cmp_Compare_int(x y:Int)(w:World):
 Calls Tryz.prog 125 #[.int .i64 x,.int .i64 y] w fun e w'=>e=.returned (.int .i64 (Lib.compareInt x y))/\w'=w:=Any.cmp_Compare_int Tryz.lays122 x y w
open Go.RowKit in
theorem Tryz.Builder_Len_f(B b:Nat)(bs:List Value)(w:World)(h:Lib.IsBuilderF 274 5 B b bs w):
 Calls Tryz.prog 196 #[.pointer (some ⟨b,0,none⟩)] w fun e w'=>e=.returned (.int .i64 bs.length)/\w'=w:=Any.Builder_Len_f Tryz.lays170 B b bs w h
open Go.RowKit in
theorem Tryz.Builder_String_any_f(B b:Nat)(l:List UInt8)(w:World)(h:Lib.IsBuilderF 274 5 B b (Lib.byteCells l) w)(hBw:B<=w.heap.size):
 Calls Tryz.prog 197 #[.pointer (some ⟨b,0,none⟩)] w fun e w'=>e=.returned (.string ⟨l.toArray⟩)/\(Lib.IsBuilderF 274 5 B b (Lib.byteCells l) w'/\Below B w w'):=Any.Builder_String_any_f Tryz.lays169 Tryz.Builder_Extra_169 B b l w h hBw
def Tryz.lays145_ren:Go.Shelf.Ren:=⟨fun|145=>118|220=>169|219=>213|217=>126|225=>184|224=>183|267=>260|266=>179|314=>295|n=>n,fun|9=>9|4=>4|59=>195|3=>3|5=>5|46=>127|146=>320|51=>245|n=>n,fun|1=>2|n=>n⟩
theorem Tryz.lays145:Go.Proofs.Lays.n145 Tryz.prog Tryz.lays145_ren:={
 mixed:=by kernel_rfl
 f145:=optTrShelf Tryz.func118 (by kernel_rfl)
 f217:=optTrShelf Tryz.func126 (by kernel_rfl)
 f219:=optTrShelf Tryz.func213 (by kernel_rfl)
 f220:=optTrShelf Tryz.func169 (by kernel_rfl)
 f224:=optTrShelf Tryz.func183 (by kernel_rfl)
 f225:=optTrShelf Tryz.func184 (by kernel_rfl)
 f266:=optTrShelf Tryz.func179 (by kernel_rfl)
 f267:=optTrShelf Tryz.func260 (by kernel_rfl)
 f314:=optTrShelf Tryz.func295 (by kernel_rfl)
 t3:=Tryz.underlying3
 a3:=Tryz.isAgg3
 z3:=Tryz.sizeOf3
 v3:=Tryz.zeroValue3
 t4:=Tryz.underlying4
 a4:=Tryz.isAgg4
 z4:=Tryz.sizeOf4
 v4:=Tryz.zeroValue4
 t5:=Tryz.underlying5
 a5:=Tryz.isAgg5
 z5:=Tryz.sizeOf5
 v5:=Tryz.zeroValue5
 t9:=Tryz.underlying9
 a9:=Tryz.isAgg9
 z9:=Tryz.sizeOf9
 v9:=Tryz.zeroValue9
 t46:=Tryz.underlying127
 a46:=Tryz.isAgg127
 z46:=Tryz.sizeOf127
 v46:=Tryz.zeroValue127
 t51:=Tryz.underlying245
 a51:=Tryz.isAgg245
 z51:=Tryz.sizeOf245
 v51:=Tryz.zeroValue245
 t59:=Tryz.underlying195
 a59:=Tryz.isAgg195
 z59:=Tryz.sizeOf195
 v59:=Tryz.zeroValue195
 t146:=Tryz.underlying320
 a146:=Tryz.isAgg320
 z146:=Tryz.sizeOf320
 v146:=Tryz.zeroValue320
 g1:=by kernel_rfl}
open Go.RowKit Go.Lib in
theorem Tryz.strings_Cut(s sep:ByteArray)(m:Int)(w:World)(hs:s.size<4294967281)(hm:w.cell? ⟨2,0,none⟩=some (.int .i64 m)):
 Calls Tryz.prog 118 #[.string s,.string sep] w fun e w'=>e=.returned (.tuple #[.string ⟨(Lib.cut s.data.toList sep.data.toList).1.toArray⟩,.string ⟨(Lib.cut s.data.toList sep.data.toList).2.1.toArray⟩,.bool (Lib.cut s.data.toList sep.data.toList).2.2])/\∃n,w'=w.drewN n:=Any.strings_Cut Tryz.lays145 s sep m w hs hm
def Tryz.laysM145_ren:Go.Shelf.Ren:=⟨fun|145=>118|220=>169|219=>213|217=>126|225=>184|224=>183|267=>260|266=>179|314=>295|n=>n,fun|9=>9|4=>4|59=>195|3=>3|5=>5|46=>127|146=>320|51=>245|n=>n,fun|1=>2|n=>n⟩
theorem Tryz.laysM145:Go.Proofs.LaysM.n145 Tryz.prog Tryz.laysM145_ren:={
 mixed:=by kernel_rfl
 f145:=optTrShelf Tryz.func118 (by kernel_rfl)
 f217:=optTrShelf Tryz.func126 (by kernel_rfl)
 f219:=optTrShelf Tryz.func213 (by kernel_rfl)
 f220:=optTrShelf Tryz.func169 (by kernel_rfl)
 f224:=optTrShelf Tryz.func183 (by kernel_rfl)
 f225:=optTrShelf Tryz.func184 (by kernel_rfl)
 f266:=optTrShelf Tryz.func179 (by kernel_rfl)
 f267:=optTrShelf Tryz.func260 (by kernel_rfl)
 f314:=optTrShelf Tryz.func295 (by kernel_rfl)
 t3:=Tryz.underlying3
 a3:=Tryz.isAgg3
 z3:=Tryz.sizeOf3
 v3:=Tryz.zeroValue3
 t4:=Tryz.underlying4
 a4:=Tryz.isAgg4
 z4:=Tryz.sizeOf4
 v4:=Tryz.zeroValue4
 t5:=Tryz.underlying5
 a5:=Tryz.isAgg5
 z5:=Tryz.sizeOf5
 v5:=Tryz.zeroValue5
 t9:=Tryz.underlying9
 a9:=Tryz.isAgg9
 z9:=Tryz.sizeOf9
 v9:=Tryz.zeroValue9
 t46:=Tryz.underlying127
 a46:=Tryz.isAgg127
 z46:=Tryz.sizeOf127
 v46:=Tryz.zeroValue127
 t51:=Tryz.underlying245
 a51:=Tryz.isAgg245
 z51:=Tryz.sizeOf245
 v51:=Tryz.zeroValue245
 t59:=Tryz.underlying195
 a59:=Tryz.isAgg195
 z59:=Tryz.sizeOf195
 v59:=Tryz.zeroValue195
 t146:=Tryz.underlying320
 a146:=Tryz.isAgg320
 z146:=Tryz.sizeOf320
 v146:=Tryz.zeroValue320
 g1:=by kernel_rfl
 i3:=by kernel_rfl
 i4:=by kernel_rfl
 i5:=by kernel_rfl
 i9:=by kernel_rfl
 i46:=by kernel_rfl
 i51:=by kernel_rfl
 i59:=by kernel_rfl
 i146:=by kernel_rfl
 m1:=by kernel_rfl
 s1_3:=fun w h=>Go.Proofs.cell_of_shapedOpen_int (zero:=#[.int .i64 0]) (t:=3) h (of_decide_eq_true (by kernel_rfl)) (by kernel_rfl) rfl (by kernel_rfl) (by kernel_rfl) Tryz.underlying3}
def Tryz.lays189_ren:Go.Shelf.Ren:=⟨fun|189=>127|125=>107|257=>180|128=>162|129=>163|294=>228|295=>229|296=>230|297=>231|298=>232|299=>233|216=>234|300=>235|301=>236|328=>280|329=>216|330=>217|331=>281|332=>282|215=>178|343=>301|n=>n,fun|28=>49|3=>3|46=>127|0=>0|51=>245|53=>194|4=>4|183=>239|182=>238|131=>203|5=>5|9=>9|218=>289|222=>293|228=>333|229=>334|n=>n,fun|n=>n⟩
theorem Tryz.lays189:Go.Proofs.Lays.n189 Tryz.prog Tryz.lays189_ren:={
 mixed:=by kernel_rfl
 f125:=optTrShelf Tryz.func107 (by kernel_rfl)
 f128:=optTrShelf Tryz.func162 (by kernel_rfl)
 f129:=optTrShelf Tryz.func163 (by kernel_rfl)
 f189:=optTrShelf Tryz.func127 (by kernel_rfl)
 f215:=optTrShelf Tryz.func178 (by kernel_rfl)
 f216:=optTrShelf Tryz.func234 (by kernel_rfl)
 f257:=optTrShelf Tryz.func180 (by kernel_rfl)
 f294:=optTrShelf Tryz.func228 (by kernel_rfl)
 f295:=optTrShelf Tryz.func229 (by kernel_rfl)
 f296:=optTrShelf Tryz.func230 (by kernel_rfl)
 f297:=optTrShelf Tryz.func231 (by kernel_rfl)
 f298:=optTrShelf Tryz.func232 (by kernel_rfl)
 f299:=optTrShelf Tryz.func233 (by kernel_rfl)
 f300:=optTrShelf Tryz.func235 (by kernel_rfl)
 f301:=optTrShelf Tryz.func236 (by kernel_rfl)
 f328:=optTrShelf Tryz.func280 (by kernel_rfl)
 f329:=optTrShelf Tryz.func216 (by kernel_rfl)
 f330:=optTrShelf Tryz.func217 (by kernel_rfl)
 f331:=optTrShelf Tryz.func281 (by kernel_rfl)
 f332:=optTrShelf Tryz.func282 (by kernel_rfl)
 f343:=optTrShelf Tryz.func301 (by kernel_rfl)
 t0:=Tryz.underlying0
 a0:=Tryz.isAgg0
 z0:=Tryz.sizeOf0
 v0:=Tryz.zeroValue0
 t3:=Tryz.underlying3
 a3:=Tryz.isAgg3
 z3:=Tryz.sizeOf3
 v3:=Tryz.zeroValue3
 t4:=Tryz.underlying4
 a4:=Tryz.isAgg4
 z4:=Tryz.sizeOf4
 v4:=Tryz.zeroValue4
 t5:=Tryz.underlying5
 a5:=Tryz.isAgg5
 z5:=Tryz.sizeOf5
 v5:=Tryz.zeroValue5
 t9:=Tryz.underlying9
 a9:=Tryz.isAgg9
 z9:=Tryz.sizeOf9
 v9:=Tryz.zeroValue9
 t28:=Tryz.underlying49
 a28:=Tryz.isAgg49
 z28:=Tryz.sizeOf49
 v28:=Tryz.zeroValue49
 t46:=Tryz.underlying127
 a46:=Tryz.isAgg127
 z46:=Tryz.sizeOf127
 v46:=Tryz.zeroValue127
 t51:=Tryz.underlying245
 a51:=Tryz.isAgg245
 z51:=Tryz.sizeOf245
 v51:=Tryz.zeroValue245
 t53:=Tryz.underlying194
 a53:=Tryz.isAgg194
 z53:=Tryz.sizeOf194
 v53:=Tryz.zeroValue194
 t131:=Tryz.underlying203
 a131:=Tryz.isAgg203
 z131:=Tryz.sizeOf203
 v131:=Tryz.zeroValue203
 t182:=Tryz.underlying238
 a182:=Tryz.isAgg238
 z182:=Tryz.sizeOf238
 v182:=Tryz.zeroValue238
 t183:=Tryz.underlying239
 a183:=Tryz.isAgg239
 z183:=Tryz.sizeOf239
 v183:=Tryz.zeroValue239
 t218:=Tryz.underlying289
 a218:=Tryz.isAgg289
 z218:=Tryz.sizeOf289
 v218:=Tryz.zeroValue289
 t222:=Tryz.underlying293
 a222:=Tryz.isAgg293
 z222:=Tryz.sizeOf293
 v222:=Tryz.zeroValue293
 t228:=Tryz.underlying333
 a228:=Tryz.isAgg333
 z228:=Tryz.sizeOf333
 v228:=Tryz.zeroValue333
 t229:=Tryz.underlying334
 a229:=Tryz.isAgg334
 z229:=Tryz.sizeOf334
 v229:=Tryz.zeroValue334}
open Go.Sort Go.RowKit in
theorem Tryz.slices_Sort_int(blk off cap:Nat)(zs:List Int)(w:World)(hH:Holds (Value.int .i64) w blk off zs.toArray)(hblk:blk<w.heap.size)(hsz:zs.length<4611686018427387904):
 Calls Tryz.prog 127 #[.slice (some ⟨blk,off,none⟩) zs.length cap] w fun e w'=>
  e=.returned (.tuple #[])/\∃n os,w'=grow (putRow (Value.int .i64) (Sort.ahead w n) blk off (zs.mergeSort fun x y=>decide (x<=y)).toArray) os:=Any.slices_Sort_int Tryz.lays189 blk off cap zs w hH hblk hsz
def Tryz.lays99_ren:Go.Shelf.Ren:=⟨fun|99=>60|206=>109|n=>n,fun|9=>9|4=>4|3=>3|n=>n,fun|n=>n⟩
theorem Tryz.lays99:Go.Proofs.Lays.n99 Tryz.prog Tryz.lays99_ren:={
 mixed:=by kernel_rfl
 f99:=optTrShelf Tryz.func60 (by kernel_rfl)
 f206:=optTrShelf Tryz.func109 (by kernel_rfl)
 t3:=Tryz.underlying3
 a3:=Tryz.isAgg3
 z3:=Tryz.sizeOf3
 v3:=Tryz.zeroValue3
 t4:=Tryz.underlying4
 a4:=Tryz.isAgg4
 z4:=Tryz.sizeOf4
 v4:=Tryz.zeroValue4
 t9:=Tryz.underlying9
 a9:=Tryz.isAgg9
 z9:=Tryz.sizeOf9
 v9:=Tryz.zeroValue9}
open Go.RowKit Go.Lib in
theorem Tryz.strings_HasPrefix(s p:ByteArray)(w:World):
 Calls Tryz.prog 60 #[.string s,.string p] w fun e w'=>e=.returned (.bool (Lib.hasPrefix s.data.toList p.data.toList))/\w'=w:=Any.strings_HasPrefix Tryz.lays99 s p w
def Tryz.lays105_ren:Go.Shelf.Ren:=⟨fun|105=>139|212=>193|99=>60|165=>194|166=>195|170=>196|169=>197|263=>245|264=>246|206=>109|240=>247|241=>248|276=>286|277=>287|n=>n,fun|9=>9|3=>3|4=>4|20=>20|0=>0|46=>127|109=>270|5=>5|72=>274|76=>54|51=>245|146=>320|53=>194|148=>322|70=>272|37=>188|75=>29|127=>324|164=>252|80=>82|n=>n,fun|n=>n⟩
theorem Tryz.lays105:Go.Proofs.Lays.n105 Tryz.prog Tryz.lays105_ren:={
 mixed:=by kernel_rfl
 f99:=optTrShelf Tryz.func60 (by kernel_rfl)
 f105:=optTrShelf Tryz.func139 (by kernel_rfl)
 f165:=optTrShelf Tryz.func194 (by kernel_rfl)
 f166:=optTrShelf Tryz.func195 (by kernel_rfl)
 f169:=optTrShelf Tryz.func197 (by kernel_rfl)
 f170:=optTrShelf Tryz.func196 (by kernel_rfl)
 f206:=optTrShelf Tryz.func109 (by kernel_rfl)
 f212:=optTrShelf Tryz.func193 (by kernel_rfl)
 f240:=optTrShelf Tryz.func247 (by kernel_rfl)
 f241:=optTrShelf Tryz.func248 (by kernel_rfl)
 f263:=optTrShelf Tryz.func245 (by kernel_rfl)
 f264:=optTrShelf Tryz.func246 (by kernel_rfl)
 f276:=optTrShelf Tryz.func286 (by kernel_rfl)
 f277:=optTrShelf Tryz.func287 (by kernel_rfl)
 t0:=Tryz.underlying0
 a0:=Tryz.isAgg0
 z0:=Tryz.sizeOf0
 v0:=Tryz.zeroValue0
 t3:=Tryz.underlying3
 a3:=Tryz.isAgg3
 z3:=Tryz.sizeOf3
 v3:=Tryz.zeroValue3
 t4:=Tryz.underlying4
 a4:=Tryz.isAgg4
 z4:=Tryz.sizeOf4
 v4:=Tryz.zeroValue4
 t5:=Tryz.underlying5
 a5:=Tryz.isAgg5
 z5:=Tryz.sizeOf5
 v5:=Tryz.zeroValue5
 t9:=Tryz.underlying9
 a9:=Tryz.isAgg9
 z9:=Tryz.sizeOf9
 v9:=Tryz.zeroValue9
 t20:=Tryz.underlying20
 a20:=Tryz.isAgg20
 z20:=Tryz.sizeOf20
 v20:=Tryz.zeroValue20
 t37:=Tryz.underlying188
 a37:=Tryz.isAgg188
 z37:=Tryz.sizeOf188
 v37:=Tryz.zeroValue188
 t46:=Tryz.underlying127
 a46:=Tryz.isAgg127
 z46:=Tryz.sizeOf127
 v46:=Tryz.zeroValue127
 t51:=Tryz.underlying245
 a51:=Tryz.isAgg245
 z51:=Tryz.sizeOf245
 v51:=Tryz.zeroValue245
 t53:=Tryz.underlying194
 a53:=Tryz.isAgg194
 z53:=Tryz.sizeOf194
 v53:=Tryz.zeroValue194
 t70:=Tryz.underlying272
 a70:=Tryz.isAgg272
 z70:=Tryz.sizeOf272
 v70:=Tryz.zeroValue272
 t72:=Tryz.underlying274
 a72:=Tryz.isAgg274
 z72:=Tryz.sizeOf274
 v72:=Tryz.zeroValue274
 t75:=Tryz.underlying29
 a75:=Tryz.isAgg29
 z75:=Tryz.sizeOf29
 v75:=Tryz.zeroValue29
 t76:=Tryz.underlying54
 a76:=Tryz.isAgg54
 z76:=Tryz.sizeOf54
 v76:=Tryz.zeroValue54
 t109:=Tryz.underlying270
 a109:=Tryz.isAgg270
 z109:=Tryz.sizeOf270
 v109:=Tryz.zeroValue270
 t127:=Tryz.underlying324
 a127:=Tryz.isAgg324
 z127:=Tryz.sizeOf324
 v127:=Tryz.zeroValue324
 t146:=Tryz.underlying320
 a146:=Tryz.isAgg320
 z146:=Tryz.sizeOf320
 v146:=Tryz.zeroValue320
 t148:=Tryz.underlying322
 a148:=Tryz.isAgg322
 z148:=Tryz.sizeOf322
 v148:=Tryz.zeroValue322
 t164:=Tryz.underlying252
 a164:=Tryz.isAgg252
 z164:=Tryz.sizeOf252
 v164:=Tryz.zeroValue252}
theorem Tryz.Builder_Extra_105:Builder.Extra Tryz.prog Tryz.lays105_ren:={
 sizeBuilder:=by kernel_rfl
 liesBuilder:=by kernel_rfl
 t5:=Tryz.underlying5
 a5:=Tryz.isAgg5
 z5:=Tryz.sizeOf5
 v5:=Tryz.zeroValue5
 infoByte:=by kernel_rfl
 cellsByte:=by kernel_rfl
 sizeByte:=by kernel_rfl
 neB5:=by decide}
open Go.RowKit Go.Lib in
theorem Tryz.strings_Repeat(s:ByteArray)(c:Nat)(w:World)(hc:c<=9223372036854775807)(hlen:s.size*c<=140737488355328):
 Calls Tryz.prog 139 #[.string s,.int .i64 c] w fun e w'=>e=.returned (.string ⟨(Lib.repeatL s.data.toList c).toArray⟩)/\Below w.heap.size w w':=Any.strings_Repeat Tryz.lays105 Tryz.Builder_Extra_105 s c w hc hlen
def Tryz.laysNm220_ren:Go.Shelf.Ren:=⟨fun|20=>128|n=>n,fun|22=>49|3=>3|4=>4|0=>0|n=>n,fun|n=>n⟩
theorem Tryz.laysNm220:Go.Proofs.Lays2.n20 Tryz.prog Tryz.laysNm220_ren:={
 mixed:=by kernel_rfl
 f20:=optTrShelf Tryz.func128 (by kernel_rfl)
 t0:=Tryz.underlying0
 a0:=Tryz.isAgg0
 z0:=Tryz.sizeOf0
 v0:=Tryz.zeroValue0
 t3:=Tryz.underlying3
 a3:=Tryz.isAgg3
 z3:=Tryz.sizeOf3
 v3:=Tryz.zeroValue3
 t4:=Tryz.underlying4
 a4:=Tryz.isAgg4
 z4:=Tryz.sizeOf4
 v4:=Tryz.zeroValue4
 t22:=Tryz.underlying49
 a22:=Tryz.isAgg49
 z22:=Tryz.sizeOf49
 v22:=Tryz.zeroValue49
 i3:=by kernel_rfl}
open Go.RowKit Go.Lib Go.Sort in
theorem Tryz.slices_Compact_int(blk off cap:Nat)(zs:List Int)(w:World)(hH:Holds (Value.int .i64) w blk off zs.toArray)(hsz:zs.length<=9223372036854775807)(hcap:zs.length<=cap):
 Calls Tryz.prog 128 #[.slice (some ⟨blk,off,none⟩) zs.length cap] w fun e w'=>e=.returned (.slice (some ⟨blk,off,none⟩) (Lib.compact zs).length cap)/\∃q,w'=putRow (Value.int .i64) (Sort.ahead w q) blk off (Lib.compact zs++List.replicate (zs.length-(Lib.compact zs).length) 0).toArray:=Any.slices_Compact_int Tryz.laysNm220 blk off cap zs w hH hsz hcap
open Go.RowKit Go.Lib Go.Sort in
theorem Tryz.slices_Compact_int_empty(a:Option Addr)(cap:Nat)(w:World):
 Calls Tryz.prog 128 #[.slice a 0 cap] w fun e w'=>e=.returned (.slice a 0 cap)/\w'=w:=Any.slices_Compact_int_empty Tryz.laysNm220 a cap w
def Tryz.lays194_ren:Go.Shelf.Ren:=⟨fun|194=>66|n=>n,fun|31=>22|9=>9|3=>3|4=>4|0=>0|n=>n,fun|n=>n⟩
theorem Tryz.lays194:Go.Proofs.Lays.n194 Tryz.prog Tryz.lays194_ren:={
 mixed:=by kernel_rfl
 f194:=optTrShelf Tryz.func66 (by kernel_rfl)
 t0:=Tryz.underlying0
 a0:=Tryz.isAgg0
 z0:=Tryz.sizeOf0
 v0:=Tryz.zeroValue0
 t3:=Tryz.underlying3
 a3:=Tryz.isAgg3
 z3:=Tryz.sizeOf3
 v3:=Tryz.zeroValue3
 t4:=Tryz.underlying4
 a4:=Tryz.isAgg4
 z4:=Tryz.sizeOf4
 v4:=Tryz.zeroValue4
 t9:=Tryz.underlying9
 a9:=Tryz.isAgg9
 z9:=Tryz.sizeOf9
 v9:=Tryz.zeroValue9
 t31:=Tryz.underlying22
 a31:=Tryz.isAgg22
 z31:=Tryz.sizeOf22
 v31:=Tryz.zeroValue22}
open Go.RowKit Go.Lib Go.Sort in
theorem Tryz.slices_Compact_string(blk off cap:Nat)(zs:List (List UInt8))(w:World)(hH:Holds encStr w blk off zs.toArray)(hsz:zs.length<=9223372036854775807)(hcap:zs.length<=cap):
 Calls Tryz.prog 66 #[.slice (some ⟨blk,off,none⟩) zs.length cap] w fun e w'=>e=.returned (.slice (some ⟨blk,off,none⟩) (Lib.compact zs).length cap)/\∃q,w'=putRow encStr (Sort.ahead w q) blk off (Lib.compact zs++List.replicate (zs.length-(Lib.compact zs).length) []).toArray:=Any.slices_Compact_string Tryz.lays194 blk off cap zs w hH hsz hcap
open Go.RowKit Go.Lib Go.Sort in
theorem Tryz.slices_Compact_string_empty(a:Option Addr)(cap:Nat)(w:World):
 Calls Tryz.prog 66 #[.slice a 0 cap] w fun e w'=>e=.returned (.slice a 0 cap)/\w'=w:=Any.slices_Compact_string_empty Tryz.lays194 a cap w
open Go.RowKit Go.Sort in
theorem Tryz.slices_Sort_int_none(p:Option Addr)(cap:Nat)(w:World):
 Calls Tryz.prog 127 #[.slice p 0 cap] w fun e w'=>e=.returned (.tuple #[])/\w'=w:=Any.slices_Sort_int_none Tryz.lays189 p cap w
end Go.Proofs
namespace Go.Proofs
open Go.Shelf
theorem optTrGen{α:Type}{o:Option α}{a b:α}(h:o=some a)(e:a=b):o=some b:=e▸h
def Tryz.sortPlaces_ren:Go.Shelf.Ren:=⟨fun|6=>97|15=>107|14=>149|28=>162|29=>163|20=>205|21=>206|22=>207|23=>208|24=>209|25=>210|26=>211|27=>212|46=>257|47=>216|48=>217|49=>258|50=>259|57=>294|n=>n,fun|22=>57|24=>104|25=>148|3=>3|39=>127|0=>0|53=>245|55=>194|4=>4|46=>239|45=>238|50=>203|5=>5|9=>9|66=>289|70=>293|76=>333|77=>334|n=>n,fun|n=>n⟩
theorem Tryz.sortPlaces:Go.Proofs.SlLaysF0.n6 Tryz.prog Tryz.sortPlaces_ren:={
 mixed:=by kernel_rfl
 f6:=⟨Tryz.f97.name,by decide,optTrGen Tryz.func97 (by kernel_rfl)⟩
 f14:=⟨Tryz.f149.name,by decide,optTrGen Tryz.func149 (by kernel_rfl)⟩
 f15:=optTrGen Tryz.func107 (by kernel_rfl)
 f20:=⟨Tryz.f205.name,by decide,optTrGen Tryz.func205 (by kernel_rfl)⟩
 f21:=⟨Tryz.f206.name,by decide,optTrGen Tryz.func206 (by kernel_rfl)⟩
 f22:=⟨Tryz.f207.name,by decide,optTrGen Tryz.func207 (by kernel_rfl)⟩
 f23:=⟨Tryz.f208.name,by decide,optTrGen Tryz.func208 (by kernel_rfl)⟩
 f24:=⟨Tryz.f209.name,by decide,optTrGen Tryz.func209 (by kernel_rfl)⟩
 f25:=⟨Tryz.f210.name,by decide,optTrGen Tryz.func210 (by kernel_rfl)⟩
 f26:=⟨Tryz.f211.name,by decide,optTrGen Tryz.func211 (by kernel_rfl)⟩
 f27:=⟨Tryz.f212.name,by decide,optTrGen Tryz.func212 (by kernel_rfl)⟩
 f28:=optTrGen Tryz.func162 (by kernel_rfl)
 f29:=optTrGen Tryz.func163 (by kernel_rfl)
 f46:=⟨Tryz.f257.name,by decide,optTrGen Tryz.func257 (by kernel_rfl)⟩
 f47:=optTrGen Tryz.func216 (by kernel_rfl)
 f48:=optTrGen Tryz.func217 (by kernel_rfl)
 f49:=⟨Tryz.f258.name,by decide,optTrGen Tryz.func258 (by kernel_rfl)⟩
 f50:=⟨Tryz.f259.name,by decide,optTrGen Tryz.func259 (by kernel_rfl)⟩
 f57:=⟨Tryz.f294.name,by decide,optTrGen Tryz.func294 (by kernel_rfl)⟩
 t0:=Tryz.underlying0
 a0:=Tryz.isAgg0
 z0:=Tryz.sizeOf0
 v0:=Tryz.zeroValue0
 t3:=Tryz.underlying3
 a3:=Tryz.isAgg3
 z3:=Tryz.sizeOf3
 v3:=Tryz.zeroValue3
 t4:=Tryz.underlying4
 a4:=Tryz.isAgg4
 z4:=Tryz.sizeOf4
 v4:=Tryz.zeroValue4
 t5:=Tryz.underlying5
 a5:=Tryz.isAgg5
 z5:=Tryz.sizeOf5
 v5:=Tryz.zeroValue5
 t9:=Tryz.underlying9
 a9:=Tryz.isAgg9
 z9:=Tryz.sizeOf9
 v9:=Tryz.zeroValue9
 t22:=Tryz.underlying57
 a22:=Tryz.isAgg57
 z22:=Tryz.sizeOf57
 v22:=Tryz.zeroValue57
 t25:=Tryz.underlying148
 a25:=Tryz.isAgg148
 z25:=Tryz.sizeOf148
 v25:=Tryz.zeroValue148
 t39:=Tryz.underlying127
 a39:=Tryz.isAgg127
 z39:=Tryz.sizeOf127
 v39:=Tryz.zeroValue127
 t45:=Tryz.underlying238
 a45:=Tryz.isAgg238
 z45:=Tryz.sizeOf238
 v45:=Tryz.zeroValue238
 t46:=Tryz.underlying239
 a46:=Tryz.isAgg239
 z46:=Tryz.sizeOf239
 v46:=Tryz.zeroValue239
 t50:=Tryz.underlying203
 a50:=Tryz.isAgg203
 z50:=Tryz.sizeOf203
 v50:=Tryz.zeroValue203
 t53:=Tryz.underlying245
 a53:=Tryz.isAgg245
 z53:=Tryz.sizeOf245
 v53:=Tryz.zeroValue245
 t55:=Tryz.underlying194
 a55:=Tryz.isAgg194
 z55:=Tryz.sizeOf194
 v55:=Tryz.zeroValue194
 t66:=Tryz.underlying289
 a66:=Tryz.isAgg289
 z66:=Tryz.sizeOf289
 v66:=Tryz.zeroValue289
 t70:=Tryz.underlying293
 a70:=Tryz.isAgg293
 z70:=Tryz.sizeOf293
 v70:=Tryz.zeroValue293
 t76:=Tryz.underlying333
 a76:=Tryz.isAgg333
 z76:=Tryz.sizeOf333
 v76:=Tryz.zeroValue333
 t77:=Tryz.underlying334
 a77:=Tryz.isAgg334
 z77:=Tryz.sizeOf334
 v77:=Tryz.zeroValue334}
def Tryz.containsFuncPlace_ren:Go.Shelf.Ren:=⟨fun|8=>42|6=>85|n=>n,fun|22=>57|23=>104|25=>105|4=>4|3=>3|0=>0|n=>n,fun|n=>n⟩
theorem Tryz.containsFuncPlace:Go.Proofs.SlLaysH0.n8 Tryz.prog Tryz.containsFuncPlace_ren:={
 mixed:=by kernel_rfl
 f6:=⟨Tryz.f85.name,by decide,optTrGen Tryz.func85 (by kernel_rfl)⟩
 f8:=⟨Tryz.f42.name,by decide,optTrGen Tryz.func42 (by kernel_rfl)⟩
 t0:=Tryz.underlying0
 a0:=Tryz.isAgg0
 z0:=Tryz.sizeOf0
 v0:=Tryz.zeroValue0
 t3:=Tryz.underlying3
 a3:=Tryz.isAgg3
 z3:=Tryz.sizeOf3
 v3:=Tryz.zeroValue3
 t4:=Tryz.underlying4
 a4:=Tryz.isAgg4
 z4:=Tryz.sizeOf4
 v4:=Tryz.zeroValue4
 t22:=Tryz.underlying57
 a22:=Tryz.isAgg57
 z22:=Tryz.sizeOf57
 v22:=Tryz.zeroValue57
 t25:=Tryz.underlying105
 a25:=Tryz.isAgg105
 z25:=Tryz.sizeOf105
 v25:=Tryz.zeroValue105}
def Tryz.indexFuncPlace_ren:Go.Shelf.Ren:=⟨fun|6=>85|n=>n,fun|22=>57|23=>104|25=>105|3=>3|0=>0|4=>4|n=>n,fun|n=>n⟩
theorem Tryz.indexFuncPlace:Go.Proofs.SlLaysH0.n6 Tryz.prog Tryz.indexFuncPlace_ren:={
 mixed:=by kernel_rfl
 f6:=⟨Tryz.f85.name,by decide,optTrGen Tryz.func85 (by kernel_rfl)⟩
 t0:=Tryz.underlying0
 a0:=Tryz.isAgg0
 z0:=Tryz.sizeOf0
 v0:=Tryz.zeroValue0
 t3:=Tryz.underlying3
 a3:=Tryz.isAgg3
 z3:=Tryz.sizeOf3
 v3:=Tryz.zeroValue3
 t4:=Tryz.underlying4
 a4:=Tryz.isAgg4
 z4:=Tryz.sizeOf4
 v4:=Tryz.zeroValue4
 t22:=Tryz.underlying57
 a22:=Tryz.isAgg57
 z22:=Tryz.sizeOf57
 v22:=Tryz.zeroValue57
 t25:=Tryz.underlying105
 a25:=Tryz.isAgg105
 z25:=Tryz.sizeOf105
 v25:=Tryz.zeroValue105}
def Tryz.clonePlaces_ren:Go.Shelf.Ren:=⟨fun|41=>112|n=>n,fun|22=>57|23=>104|4=>4|n=>n,fun|n=>n⟩
theorem Tryz.clonePlaces:Go.Proofs.SlLaysE0.n41 Tryz.prog Tryz.clonePlaces_ren:={
 mixed:=by kernel_rfl
 f41:=⟨Tryz.f112.name,by decide,optTrGen Tryz.func112 (by kernel_rfl)⟩
 t4:=Tryz.underlying4
 a4:=Tryz.isAgg4
 z4:=Tryz.sizeOf4
 v4:=Tryz.zeroValue4
 t22:=Tryz.underlying57
 a22:=Tryz.isAgg57
 z22:=Tryz.sizeOf57
 v22:=Tryz.zeroValue57}
def Tryz.indexFuncPair_ren:Go.Shelf.Ren:=⟨fun|6=>91|n=>n,fun|22=>134|23=>140|25=>176|3=>3|0=>0|4=>4|n=>n,fun|n=>n⟩
theorem Tryz.indexFuncPair:Go.Proofs.SlLaysH0.n6 Tryz.prog Tryz.indexFuncPair_ren:={
 mixed:=by kernel_rfl
 f6:=⟨Tryz.f91.name,by decide,optTrGen Tryz.func91 (by kernel_rfl)⟩
 t0:=Tryz.underlying0
 a0:=Tryz.isAgg0
 z0:=Tryz.sizeOf0
 v0:=Tryz.zeroValue0
 t3:=Tryz.underlying3
 a3:=Tryz.isAgg3
 z3:=Tryz.sizeOf3
 v3:=Tryz.zeroValue3
 t4:=Tryz.underlying4
 a4:=Tryz.isAgg4
 z4:=Tryz.sizeOf4
 v4:=Tryz.zeroValue4
 t22:=Tryz.underlying134
 a22:=Tryz.isAgg134
 z22:=Tryz.sizeOf134
 v22:=Tryz.zeroValue134
 t25:=Tryz.underlying176
 a25:=Tryz.isAgg176
 z25:=Tryz.sizeOf176
 v25:=Tryz.zeroValue176}
end Go.Proofs
namespace Go.Proofs.YtldmhjbdahjhdaaGreatDoor
section
open Go Go.RowKit
def Gr(w w':World):Prop:=Below w.heap.size w w'
theorem Gr.refl(w:World):Gr w w:=Below.refl _ _
theorem Gr.trans{a b c:World}(h:Gr a b)(k:Gr b c):Gr a c:=Below.trans h (Below.mono k h.size)
theorem Gr.alloc{a w:World}(h:Gr a w)(o:Obj):Gr a (w.alloc o):=Below.alloc h h.size o
theorem Gr.drew{a w:World}(h:Gr a w):Gr a w.drew:=Below.drew h
theorem Gr.drewN{a w:World}(h:Gr a w)(n:Nat):Gr a (w.drewN n):=⟨h.os,h.tape,h.output,h.size,h.block⟩
theorem Gr.setCell{a w:World}(h:Gr a w){p:Addr}(hp:a.heap.size<=p.block)(u:Value):Gr a (w.setCell p u):=Below.setCell h hp u
theorem Gr.cell{a w:World}(h:Gr a w){b:Nat}(o:Nat)(hb:b<a.heap.size):w.cell? ⟨b,o,none⟩=a.cell? ⟨b,o,none⟩:=Below.cell (p:=⟨b,o,none⟩) h hb
theorem Gr.frozen{a w:World}(h:Gr a w){b:Nat}(o:Nat)(hb:b<a.heap.size):w.frozen? ⟨b,o,none⟩=a.frozen? ⟨b,o,none⟩:=Below.frozen (p:=⟨b,o,none⟩) h hb
theorem lt_of_cell{a:World}{b o:Nat}{v:Value}(hc:a.cell? ⟨b,o,none⟩=some v):b<a.heap.size:=by
 rcases Nat.lt_or_ge b a.heap.size with h|h
 ·exact h
 ·simp[World.cell?,Array.getElem?_eq_none h]at hc
theorem Gr.keeps{a w:World}(h:Gr a w){b o:Nat}{v:Value}(hc:a.cell? ⟨b,o,none⟩=some v):w.cell? ⟨b,o,none⟩=some v:=by
 rw[h.cell o (lt_of_cell hc)];exact hc
def Ret(w:World)(v:Value)(e:Ending)(w':World):Prop:=e=.returned v/\Gr w w'
theorem Ret.mk{w w':World}{v u:Value}(h:u=v)(g:Gr w w'):Ret w v (.returned u) w':=⟨by rw[h],g⟩
theorem Ret.of_same{P:Program}{f:FuncId}{args:Array Value}{w:World}{v:Value}(h:Calls P f args w fun e w'=>e=.returned v/\w'=w):Calls P f args w (Ret w v):=
 h.mono fun _ _ ⟨he,hw⟩=>⟨he,by rw[hw];exact Gr.refl _⟩
theorem gr_regrown{w w':World}(h:∃p:Regrown,w'=Sort.grow (redrawn w p.d) p.os):Gr w w':=by
 obtain⟨p,rfl⟩:=h
 exact below_regrown w p.d p.os
theorem Ret.regrown{P:Program}{f:FuncId}{args:Array Value}{w:World}{d:Nat}{os:Array Obj}{v:Value}(h:Calls P f args (Sort.grow (redrawn w d) os) (Ret (Sort.grow (redrawn w d) os) v)):
 Calls P f args (Sort.grow (redrawn w d) os) fun e w''=>e=.returned v/\∃p:Regrown,w''=Sort.grow (redrawn w p.d) p.os:=Calls.regrown_of h
theorem ownsRow_gr{w w':World}{B:Nat}{e:TypeId}{size n:Nat}{v:Value}{xs:List Value}(h:w.ownsRow B e size v n xs)(g:Gr w w'):w'.ownsRow B e size v n xs:=by
 obtain⟨h1,h2⟩:=h
 refine⟨h1,?_⟩
 rcases h2 with h2|⟨b,cap,cur,hv,hb,hh,r⟩
 ·exact .inl h2
 ·have hl:=(Array.getElem?_eq_some_iff.1 hh).1
  exact .inr ⟨b,cap,cur,hv,hb,by rw[g.block _ hl];exact hh,r⟩
theorem gr_grown{a w w':World}{row:Option Nat}(h:Gr a w)(hg:w.grownBy w' row)(hr:∀k,row=some k->a.heap.size<=k):Gr a w':=Below.grown h hg h.size hr
theorem ownBlock_ge{w:World}{B:Nat}{e:TypeId}{size n:Nat}{v:Value}{xs:List Value}(h:w.ownsRow B e size v n xs):∀k,v.ownBlock=some k->B<=k:=by
 intro k hk
 rcases h.2 with⟨rfl,_⟩|⟨b,cap,cur,rfl,hb,_⟩
 ·cases hk
 ·cases hk;exact hb
theorem append_one{P:Program}{a0 w:World}{ops:Array Oper}{rest:List Oper}{o:Oper}{a:Act}{Q:Exit->Act->World->Prop}(hgd:o.guard=none)(s x:Operand)(t:TypeId)
  (ho:o.op=.call {callee:=.builtin .append,args:=#[s,x],argTypes:=#[t,t]}) (e:TypeId) (i:TypeInfo) (z:Value) (size bytes:Nat) (ht:P.underlying t=some (.slice e)) (hi:P.info? e=some i)
  (hz:i.zero=some z) (hsize:i.size=size) (hby:i.bytes=bytes) (hzs:z.cells.size=size) (hsz:0<size) (v:Value) (n:Nat) (xs:List Value) (hs:a.eval s=v) (hown:w.ownsRow a0.heap.size e size v n xs)
  (us:List Value) (hul:us.length=size) (h1:∀u∈us,u.oneCell'=true) (hx:a.eval x=.slice (some ⟨w.heap.size,0,none⟩) 1 1) (hg:Gr a0 w) (h63:n+1<=4611686018427387904) (hbytes:(n+1)*bytes<=140737488355328)
  (h:∀v' w',w'.ownsRow a0.heap.size e size v' (n+1) (xs++us)->Gr a0 w'->wpList P ops Q rest (a.put o.dst v') w'):wpList P ops Q (o::rest) a (w.alloc (.cells us.toArray e)):=by
 refine wpList_append_own _ hgd s x t ho a0.heap.size e i z size bytes ht hi hz hsize hby hzs hsz v n xs hs (hown.alloc _) ⟨w.heap.size,0,none⟩ 1 1 us hx (by rw[hul,Nat.one_mul]) ?_ h1 (by unfold maxLen;omega) hbytes (by have:=hg.size;simp;omega)
  (fun v' w' h1 h2 _=>h v' w' h1 (gr_grown (hg.alloc _) h2 (ownBlock_ge hown)))
 intro j u hj
 have he:(⟨w.heap.size,0,none⟩:Addr).add j=⟨w.heap.size,j,none⟩:=by
  unfold Addr.add
  split
  ·rename_i h0;rw[h0]
  ·simp
 rw[he,World.cell?_alloc_new]
 simpa using hj
theorem ownBlock_lt{w:World}{B:Nat}{e:TypeId}{size n:Nat}{v:Value}{xs:List Value}(h:w.ownsRow B e size v n xs):∀k,v.ownBlock=some k->k<w.heap.size:=by
 intro k hk
 rcases h.2 with⟨rfl,_⟩|⟨b,cap,cur,rfl,_,hh,_⟩
 ·cases hk
 ·cases hk;exact(Array.getElem?_eq_some_iff.1 hh).1
def KeepsBut(v:Value)(w w':World):Prop:=∀k o,k<w.heap.size->v.ownBlock≠some k->w'.cell? ⟨k,o,none⟩=w.cell? ⟨k,o,none⟩/\w'.frozen? ⟨k,o,none⟩=w.frozen? ⟨k,o,none⟩
theorem append_keep{P:Program}{a0 w:World}{ops:Array Oper}{rest:List Oper}{o:Oper}{a:Act}{Q:Exit->Act->World->Prop}(hgd:o.guard=none)(s x:Operand)(t:TypeId)
  (ho:o.op=.call {callee:=.builtin .append,args:=#[s,x],argTypes:=#[t,t]}) (e:TypeId) (i:TypeInfo) (z:Value) (size bytes:Nat) (ht:P.underlying t=some (.slice e)) (hi:P.info? e=some i)
  (hz:i.zero=some z) (hsize:i.size=size) (hby:i.bytes=bytes) (hzs:z.cells.size=size) (hsz:0<size) (v:Value) (n:Nat) (xs:List Value) (hs:a.eval s=v) (hown:w.ownsRow a0.heap.size e size v n xs)
  (us:List Value) (hul:us.length=size) (h1:∀u∈us,u.oneCell'=true) (hx:a.eval x=.slice (some ⟨w.heap.size,0,none⟩) 1 1) (hg:Gr a0 w) (h63:n+1<=4611686018427387904) (hbytes:(n+1)*bytes<=140737488355328)
  (h:∀v' w',w'.ownsRow a0.heap.size e size v' (n+1) (xs++us)->Gr a0 w'->KeepsBut v w w'->wpList P ops Q rest (a.put o.dst v') w'):wpList P ops Q (o::rest) a (w.alloc (.cells us.toArray e)):=by
 refine wpList_append_own _ hgd s x t ho a0.heap.size e i z size bytes ht hi hz hsize hby hzs hsz v n xs hs (hown.alloc _) ⟨w.heap.size,0,none⟩ 1 1 us hx (by rw[hul,Nat.one_mul]) ?_ h1 (by unfold maxLen;omega) hbytes (by have:=hg.size;simp;omega)
  (fun v' w' h1 h2 _=>h v' w' h1 (gr_grown (hg.alloc _) h2 (ownBlock_ge hown)) (fun k o hk hne=>by
   have hb:w'.heap[k]?=w.heap[k]?:=(h2.block k (by simp;omega) (fun e=>hne e.symm)).trans (Below.heap_alloc _ _ _ hk)
   exact⟨World.cell?_of_block hb,World.frozen?_of_block hb⟩))
 intro j u hj
 have he:(⟨w.heap.size,0,none⟩:Addr).add j=⟨w.heap.size,j,none⟩:=by
  unfold Addr.add
  split
  ·rename_i h0;rw[h0]
  ·simp
 rw[he,World.cell?_alloc_new]
 simpa using hj
theorem append_text{P:Program}{a0 w:World}{ops:Array Oper}{rest:List Oper}{o:Oper}{a:Act}{Q:Exit->Act->World->Prop}(hgd:o.guard=none)(sl x:Operand)(t u:TypeId)
  (ho:o.op=.call {callee:=.builtin .append,args:=#[sl,x],argTypes:=#[t,u]}) (e:TypeId) (i:TypeInfo) (ht:P.underlying t=some (.slice e)) (hu:P.underlying u=some .string) (hi:P.info? e=some i) (hz:i.zero=some (.int .u8 0))
  (hsize:i.size=1) (hby:i.bytes=1) (v:Value) (n:Nat) (xs:List Value) (hs:a.eval sl=v) (hown:w.ownsRow a0.heap.size e 1 v n xs) (s:ByteArray) (hx:a.eval x=.string s) (hg:Gr a0 w)
  (hbytes:n+s.size<=140737488355328)
  (h:∀v' w',w'.ownsRow a0.heap.size e 1 v' (n+s.size) (xs++Lib.strCells s)->Gr a0 w'->KeepsBut v w w'->wpList P ops Q rest (a.put o.dst v') w'):wpList P ops Q (o::rest) a w:=
 Lib.wpList_append_own_string w hgd sl x t u ho a0.heap.size e i ht hu hi hz hsize hby v n xs hs hown s hx (by unfold maxLen;omega) hbytes hg.size
  fun v' w' h1 h2 _=>h v' w' h1 (gr_grown hg h2 (ownBlock_ge hown)) (fun k o hk hne=>by
   have hb:w'.heap[k]?=w.heap[k]?:=h2.block k hk (fun e=>hne e.symm)
   exact⟨World.cell?_of_block hb,World.frozen?_of_block hb⟩)
end
section
open Go
theorem cmpB_less(a b:List UInt8):Op.bytesLess a b=true↔Lib.compareBytes a b=-1:=by
 induction a generalizing b with
 |nil=>cases b<;>simp[Op.bytesLess,Lib.compareBytes]
 |cons x xs ih=>
  cases b with
  |nil=>simp[Op.bytesLess,Lib.compareBytes]
  |cons y ys=>
   simp only[Op.bytesLess,Lib.compareBytes,Bool.or_eq_true,decide_eq_true_eq,Bool.and_eq_true,beq_iff_eq,ih]
   by_cases h1:x<y
   ·simp[h1]
   ·by_cases h2:y<x
    ·have:x≠y:=by rintro rfl;exact h1 h2
     simp[h1,h2,this]
    ·have:x=y:=UInt8.le_antisymm (UInt8.not_lt.1 h2) (UInt8.not_lt.1 h1)
     simp[this]
theorem cmpB_zero(a b:List UInt8):Lib.compareBytes a b=0↔a=b:=by
 induction a generalizing b with
 |nil=>cases b<;>simp[Lib.compareBytes]
 |cons x xs ih=>
  cases b with
  |nil=>simp[Lib.compareBytes]
  |cons y ys=>
   simp only[Lib.compareBytes,List.cons.injEq]
   by_cases h1:x<y
   ·have:x≠y:=by rintro rfl;exact UInt8.lt_irrefl _ h1
    simp[h1,this]
   ·by_cases h2:y<x
    ·have:x≠y:=by rintro rfl;exact h1 h2
     simp[h1,h2,this]
    ·have:x=y:=UInt8.le_antisymm (UInt8.not_lt.1 h2) (UInt8.not_lt.1 h1)
     simp[this,ih]
theorem cmpB_range(a b:List UInt8):Lib.compareBytes a b=-1\/Lib.compareBytes a b=0\/Lib.compareBytes a b=1:=by
 induction a generalizing b with
 |nil=>cases b<;>simp[Lib.compareBytes]
 |cons x xs ih=>
  cases b with
  |nil=>simp[Lib.compareBytes]
  |cons y ys=>
   simp only[Lib.compareBytes]
   split
   ·simp
   ·split
    ·simp
    ·exact ih ys
theorem xor_top(y:Nat)(h:y<2^63):2^63+y=2^63^^^y:=by
 apply Nat.eq_of_testBit_eq
 intro i
 rw[Nat.testBit_xor]
 rcases Nat.lt_trichotomy i 63 with hi|hi|hi
 ·rw[Nat.testBit_two_pow_add_gt hi,Nat.testBit_two_pow_of_ne (by omega)]
  simp
 ·subst hi
  rw[Nat.testBit_two_pow_add_eq,Nat.testBit_two_pow_self]
  simp
 ·rw[Nat.testBit_two_pow_of_ne (by omega),Nat.testBit_lt_two_pow (x:=y) (Nat.lt_trans h (Nat.pow_lt_pow_right (by omega) hi)),Nat.testBit_lt_two_pow]
  ·rfl
  ·have:2^64<=2^i:=Nat.pow_le_pow_right (by omega) hi
   omega
theorem ofInt_64(a:Nat)(ha:a<18446744073709551616):(BitVec.ofInt 64 (a:Int)).toNat=a:=by
 rw[BitVec.ofInt_natCast,BitVec.toNat_ofNat];exact Nat.mod_eq_of_lt ha
theorem bits_top(n:Int)(h1:-9223372036854775808<=n)(h2:n<=9223372036854775807):bits BinOp.xor IntKind.u64 (IntKind.u64.wrap n) 9223372036854775808=((n+9223372036854775808).toNat:Int):=by
 have hw:IntKind.u64.wrap n=(((n % 18446744073709551616).toNat:Nat):Int):=by
  simp only[IntKind.wrap_u64]
  omega
 rw[hw]
 generalize hx:(n % 18446744073709551616).toNat=x
 have hxl:x<18446744073709551616:=by omega
 show IntKind.u64.wrap ((BitVec.ofInt 64 (x:Int)^^^BitVec.ofInt 64 ((9223372036854775808:Nat):Int)).toNat:Int)=_
 rw[BitVec.toNat_xor,ofInt_64 x hxl,ofInt_64 _ (by omega),IntKind.wrap_u64]
 have e:x^^^9223372036854775808=(n+9223372036854775808).toNat:=by
  rcases Nat.lt_or_ge x 9223372036854775808 with h|h
  ·have:=xor_top x h
   rw[Nat.xor_comm,show(9223372036854775808:Nat)=2^63 from rfl,<-this]
   omega
  ·obtain⟨y,rfl⟩:=Nat.exists_eq_add_of_le h
   have:=xor_top y (by omega)
   rw[show(9223372036854775808:Nat)=2^63 from rfl,this,Nat.xor_comm (2^63) y,Nat.xor_assoc,Nat.xor_self,Nat.xor_zero]
   omega
 rw[e]
 omega
end
section
open Go Go.RowKit
theorem size_data(s:ByteArray):s.size=s.data.toList.length:=by rw[Array.length_toList];rfl
def byteV(b:UInt8):Value:=.int .u8 (b.toNat:Int)
def OwnB(a0 w:World)(v:Value)(l:List UInt8):Prop:=w.ownsRow a0.heap.size 5 1 v l.length (l.map byteV)
theorem OwnB.row{a0 w:World}{v:Value}{l:List UInt8}(h:OwnB a0 w v l):w.ownsRow a0.heap.size 5 1 v l.length (l.map byteV):=h
theorem info_u8:(Tryz.prog.info? 5).map (fun i=>(i.zero,i.size,i.bytes))=some (some (.int .u8 0),1,1):=by kernel_rfl
theorem u8_div(m d:Nat):(m:Int)/(d:Int) % 256=((m/d).toUInt8.toNat:Int):=by
 simp
theorem own_snoc{a0 w:World}{v:Value}{l:List UInt8}{c:UInt8}(h:w.ownsRow a0.heap.size 5 1 v (l.length+1) (l.map byteV++[byteV c])):OwnB a0 w v (l++[c]):=by
 unfold OwnB
 rw[List.length_append,List.map_append]
 exact h
theorem own_string{a0 w:World}{v:Value}{l:List UInt8}(h:OwnB a0 w v l):(convert 188 9 v).run Tryz.prog w=.ok (.string ⟨l.toArray⟩) w:=by
 obtain⟨h1,h2⟩:=h
 rcases h2 with⟨rfl,h0⟩|⟨g,cap,cur,rfl,_,hh,hn,_,hcur,ht⟩
 ·have hl:l=[]:=List.eq_nil_of_length_eq_zero h0
  subst hl
  exact run_convert_bytes_nil (P:=Tryz.prog) w 188 5 Tryz.underlying188 Tryz.underlying5 0 0 9 Tryz.underlying9
 ·refine run_convert_bytes_back (P:=Tryz.prog) w 188 9 5 ⟨g,0,none⟩ cap l Tryz.underlying188 Tryz.underlying5 Tryz.underlying9 (fun j hj=>?_)
  have he:(⟨g,0,none⟩:Addr).add j=⟨g,j,none⟩:=by
   unfold Addr.add
   split
   ·rename_i h0;rw[h0]
   ·simp
  have hc:cur.toList[j]?=some (byteV l[j]):=by
   have e:=congrArg (fun l:List Value=>l[j]?) ht
   simp only[Nat.mul_one]at e
   rw[List.getElem?_take,if_pos hj,List.getElem?_map,List.getElem?_eq_getElem hj]at e
   exact e
  rw[he]
  unfold World.cell?
  simp only[hh]
  rw[<-Array.getElem?_toList]
  exact hc
theorem get_data(s:ByteArray)(j:Nat)(hj:j<s.size):s[j]=s.data.toList[j]'(by rw[<-size_data];exact hj):=by
 rw[Array.getElem_toList];rfl
theorem not_byte{k c:UInt8}(h:k≠c):¬(k.toNat:Int)=(c.toNat:Int):=fun e=>h (UInt8.toNat_inj.1 (by omega))
theorem bytes_ext{a b:ByteArray}(h:a.data.toList=b.data.toList):a=b:=by
 cases a;cases b;simp only[ByteArray.mk.injEq];exact Array.ext' h
theorem ext_tail(t:ByteArray)(k:UInt8)(r:List UInt8)(h:t.data.toList=k::r):t.extract 1 t.size=⟨r.toArray⟩:=by
 apply bytes_ext
 rw[Lib.extract_data,h,List.drop_one,List.tail_cons,List.take_of_length_le (by rw[size_data,h];simp)]
theorem head_is(t:ByteArray)(k:UInt8)(r:List UInt8)(h:t.data.toList=k::r)(h0:0<t.size):t[0]=k:=by
 rw[get_data t 0 h0]
 simp[h]
theorem ownsRow_setCell_at{w:World}{B:Nat}{e:TypeId}{size n:Nat}{v:Value}{xs:List Value}(h:w.ownsRow B e size v n xs){a:Addr}{u:Value}(hne:¬v.ownBlock=some a.block):(w.setCell a u).ownsRow B e size v n xs:=by
 obtain⟨h1,h2⟩:=h
 refine⟨h1,?_⟩
 rcases h2 with h2|⟨g,cap,cur,rfl,hg,hh,r⟩
 ·exact .inl h2
 ·exact .inr ⟨g,cap,cur,rfl,hg,by rw[Below.heap_setCell _ _ _ _ (fun e=>hne (by rw[<-e];rfl))];exact hh,r⟩
def lenOf:Value->Nat| .string t=>t.size|_=>0
theorem two_set{w:World}{k:Nat}{x y u v:Value}(h0:w.cell? ⟨k,0,none⟩=some x)(h1:w.cell? ⟨k,1,none⟩=some y):
  ((w.setCell ⟨k,0,none⟩ u).setCell ⟨k,1,none⟩ v).cell? ⟨k,0,none⟩=some u/\((w.setCell ⟨k,0,none⟩ u).setCell ⟨k,1,none⟩ v).cell? ⟨k,1,none⟩=some v:=by
 have e:(⟨k,1,none⟩:Addr)≠⟨k,0,none⟩:=by simp
 have e':(⟨k,0,none⟩:Addr)≠⟨k,1,none⟩:=by simp
 refine⟨?_,World.cell?_setCell_same _ _ _ ((World.cell?_setCell_other _ _ _ _ e').trans h1)⟩
 rw[World.cell?_setCell_other _ _ _ _ e]
 exact World.cell?_setCell_same _ _ _ h0
theorem ba_len(l:List UInt8):(⟨l.toArray⟩:ByteArray).size=l.length:=by show l.toArray.size=_;simp
