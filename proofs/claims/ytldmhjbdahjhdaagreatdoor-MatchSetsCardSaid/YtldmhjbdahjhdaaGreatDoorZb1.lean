/-
  Part 1 of the proof.
-/
import Derived.Shelf.Strings.Trim
import Derived.Shelf.Small.Utf8
import Derived.Shelf.Small.Wraps
import Derived.Shelf.Strings.Shaped
import Derived.Shelf.Sort.Plain
import Derived.Shelf.GgSortFunc.Tiny
import Derived.Shelf.Strings.IndexAnyAll
import Derived.Shelf.Strings.Repeat
import Derived.Shelf.Unicode.DecodeAny
import Derived.Shelf.Strings.BuilderCap
import Derived.Shelf.Slices.CompactI
import Derived.Shelf.Slices.CompactS
import Derived.Shelf.Slices.In.SortNone2
import Derived.Shelf.SlSortFuncK.WholeK
import Derived.Shelf.SlicesE.Index
import Derived.Test.YtldmhjbdahjhdaaGreatDoorProg
import Derived.Shelf.SlSortCmp.WholeK
import Derived.Shelf.SlicesQ.Contains
import Derived.Shelf.SlicesQ.IndexFunc
import Derived.Shelf.SlicesE.Clone
import Derived.WalkSpells
import Derived.WalkLawsBesides
import Derived.Lib.Hide
import Derived.Lib.QuietBelow
import Derived.BigGuardPart
open Go.Proofs.Tryz renaming prog->Zm,underlying3->Zn,zeroValue3->Zo,underlying4->Zp,zeroValue4->Zq,underlying9->Zs,sizeOf3->Zt,sizeOf4->Zu,isAgg3->Zv,underlying0->Zw,zeroValue9->Zy,isAgg4->Zz,underlying5->ZA,zeroValue0->ZC,sizeOf9->ZD,zeroValue5->ZE,sizeOf0->ZF,isAgg9->ZG,underlying127->ZH,isAgg0->ZI,zeroValue127->ZJ,sizeOf5->ZK,isAgg5->ZL,sizeOf127->ZM,isAgg127->ZN,underlying245->ZO,zeroValue245->ZP,underlying188->ZQ,underlying57->ZR,sizeOf245->ZS,zeroValue57->ZT,isAgg245->ZU,underlying194->ZV,func126->ZW,func179->ZX,underlying21->ZY,zeroValue194->ZZ,zeroValue21->Z0,sizeOf57->Z6,func183->Z8,func184->Z9,isAgg57->Z_,underlying272->aaa,underlying274->aab,underlying320->aac,sizeOf194->aad,underlying203->aae,underlying238->aaf,underlying239->aag,underlying289->aah,underlying293->aai,underlying333->aaj,underlying334->aak,zeroValue188->aao,zeroValue272->aap,zeroValue274->aaq,zeroValue320->aar,zeroValue203->aas,zeroValue238->aat,zeroValue239->aau,zeroValue289->aav,zeroValue293->aaw,zeroValue333->aax,zeroValue334->aay,sizeOf21->aaz,isAgg194->aaA,func182->aaC,isAgg21->aaD,sizeOf188->aaK,sizeOf272->aaL,sizeOf274->aaM,func72->aaN,sizeOf320->aaP,sizeOf203->aaQ,sizeOf238->aaR,sizeOf239->aaS,sizeOf289->aaT,sizeOf293->aaU,sizeOf333->aaV,sizeOf334->aaW,isAgg188->aa0,isAgg272->aa1,isAgg274->aa2,isAgg320->aa4,isAgg203->aa5,isAgg238->aa6,isAgg239->aa7,isAgg289->aa8,isAgg293->aa9,isAgg333->aa_,isAgg334->aba,underlying324->abb,underlying216->abc,underlying217->abd,underlying267->abe,underlying229->abf,underlying195->abg,underlying105->abh,zeroValue324->abi,func131->abj,zeroValue217->abk,zeroValue267->abl,func109->abm,zeroValue229->abn,zeroValue195->abo,func107->abp,func162->abq,func163->abr,func216->abt,func217->abu,underlying49->abv,zeroValue105->abw,zeroValue49->abz,sizeOf324->abE,sizeOf216->abF,sizeOf217->abG,sizeOf267->abH,sizeOf229->abI,sizeOf195->abJ,sizeOf105->abM,isAgg324->abN,isAgg216->abP,isAgg217->abQ,isAgg267->abR,isAgg229->abT,isAgg195->abV,sizeOf49->abW,isAgg105->abX,func196->abY,func197->abZ,func133->ab0,func134->ab1,func178->ab2,func118->ab3,func213->ab4,func169->ab5,func260->ab6,func295->ab7,isAgg49->ab8,func132->ab9,func60->acg,func85->aci
open Go.Shelf renaming Ren->Zr
open Go.Lib renaming compareBytes->Zx,compact->Z7,IsBuilderF->aaO,byteCells->aa3,indexByte->abS,hasPrefix->abU,setCells->ab_,cut->acG
open Array renaming getElem?_eq_some_iff->aal
open Nat renaming testBit_two_pow_of_ne->aam,testBit_lt_two_pow->aaG,lt_or_ge->acb,xor_comm->acd,one_mul->ack
open Go.World renaming cell?_setCell_other->aan,cell?_setCell_same->aaB,frozen?_of_block->aaE,cell?_alloc_new->aaJ,cell?_of_block->aaX,cell?->acj
open UInt8 renaming not_lt->aaF,le_antisymm->abx
open Go.Proofs.SlLaysF0 renaming n6->aaH
open Go.Proofs.SlLaysH0 renaming n6->aaI,n8->ace
open Go.IntKind renaming u64->aaY,wrap_u64->abB
open Go.Sort renaming grow->aaZ,ahead->abK
open BitVec renaming ofInt->aby
open Go.Value renaming int->abA
open Go renaming Program->abC,redrawn->abD
open List renaming replicate->abL
open Go.Proofs.Builder renaming Extra->abO
open Go.Proofs.SlLaysE0 renaming n41->aca
open Go.Proofs.LaysM renaming n145->acf
open Go.Proofs.SlLaysQ renaming n7->ach
open Go.Proofs.Lays renaming n170->acm,n169->acn,n160->aco,n119->acp,n106->acq,n137->acr,n103->acs,n104->acu,n122->acv,n145->acw,n189->acx,n152->acy,n226->acz,n153->acA,n105->acB,n194->acD,n99->acE
open Go.Proofs.Lays2 renaming n20->acC
open ByteArray.mk renaming injEq->acF
set_option maxRecDepth 100000
set_option maxHeartbeats 100000000
set_option linter.all false
namespace Go.Proofs
open Go.Shelf
def Tryz.Fk:Zr:=⟨fun|170=>196|n=>n,fun|70=>272|3=>3|0=>0|72=>274|37=>188|5=>5|n=>n,fun|n=>n⟩
theorem Tryz.Qr:acm Zm Tryz.Fk:={
 mixed:=by kernel_rfl
 f170:=abY.trans (congrArg some (by kernel_rfl))
 t0:=Zw
 a0:=ZI
 z0:=ZF
 v0:=ZC
 t3:=Zn
 a3:=Zv
 z3:=Zt
 v3:=Zo
 t37:=ZQ
 a37:=aa0
 z37:=aaK
 v37:=aao
 t70:=aaa
 a70:=aa1
 z70:=aaL
 v70:=aap
 t72:=aab
 a72:=aa2
 z72:=aaM
 v72:=aaq}
def Tryz.v_:Zr:=⟨fun|169=>197|n=>n,fun|70=>272|9=>9|0=>0|72=>274|37=>188|127=>324|3=>3|5=>5|n=>n,fun|n=>n⟩
theorem Tryz.Ib:acn Zm Tryz.v_:={
 mixed:=by kernel_rfl
 f169:=abZ.trans (congrArg some (by kernel_rfl))
 t0:=Zw
 a0:=ZI
 z0:=ZF
 v0:=ZC
 t3:=Zn
 a3:=Zv
 z3:=Zt
 v3:=Zo
 t9:=Zs
 a9:=ZG
 z9:=ZD
 v9:=Zy
 t37:=ZQ
 a37:=aa0
 z37:=aaK
 v37:=aao
 t70:=aaa
 a70:=aa1
 z70:=aaL
 v70:=aap
 t72:=aab
 a72:=aa2
 z72:=aaM
 v72:=aaq
 t127:=abb
 a127:=abN
 z127:=abE
 v127:=abi}
theorem Tryz.nL:abO Zm Tryz.v_:={
 sizeBuilder:=by kernel_rfl
 liesBuilder:=by kernel_rfl
 t5:=ZA
 a5:=ZL
 z5:=ZK
 v5:=ZE
 infoByte:=by kernel_rfl
 cellsByte:=by kernel_rfl
 sizeByte:=by kernel_rfl
 neB5:=by decide}
open Go.RowKit in
theorem Tryz.Builder_String_any(B b:Nat)(l:List UInt8)(w:World)(h:Lib.IsBuilder 274 5 B b (aa3 l) w)(q:B<=w.heap.size):
 Calls Zm 197 #[.pointer (some ⟨b,0,none⟩)] w fun e w'=>e=.returned (.string ⟨l.toArray⟩)/\Below B w w':=Any.Builder_String_any Tryz.Ib Tryz.nL B b l w h q
def Tryz.Fl:Zr:=⟨fun|160=>186|232=>239|231=>238|227=>133|234=>241|233=>240|236=>243|235=>242|228=>134|271=>285|151=>284|197=>283|120=>303|152=>131|260=>302|137=>72|119=>182|224=>183|225=>184|217=>126|266=>179|n=>n,fun|9=>9|4=>4|3=>3|5=>5|117=>217|116=>216|0=>0|124=>267|21=>21|105=>345|46=>127|119=>363|139=>366|138=>365|n=>n,fun|3=>3|4=>4|n=>n⟩
theorem Tryz.Qs:aco Zm Tryz.Fl:={
 mixed:=by kernel_rfl
 f119:=aaC.trans (congrArg some (by kernel_rfl))
 f120:=Tryz.func303.trans (congrArg some (by kernel_rfl))
 f137:=aaN.trans (congrArg some (by kernel_rfl))
 f151:=Tryz.func284.trans (congrArg some (by kernel_rfl))
 f152:=abj.trans (congrArg some (by kernel_rfl))
 f160:=Tryz.func186.trans (congrArg some (by kernel_rfl))
 f197:=Tryz.func283.trans (congrArg some (by kernel_rfl))
 f217:=ZW.trans (congrArg some (by kernel_rfl))
 f224:=Z8.trans (congrArg some (by kernel_rfl))
 f225:=Z9.trans (congrArg some (by kernel_rfl))
 f227:=ab0.trans (congrArg some (by kernel_rfl))
 f228:=ab1.trans (congrArg some (by kernel_rfl))
 f231:=Tryz.func238.trans (congrArg some (by kernel_rfl))
 f232:=Tryz.func239.trans (congrArg some (by kernel_rfl))
 f233:=Tryz.func240.trans (congrArg some (by kernel_rfl))
 f234:=Tryz.func241.trans (congrArg some (by kernel_rfl))
 f235:=Tryz.func242.trans (congrArg some (by kernel_rfl))
 f236:=Tryz.func243.trans (congrArg some (by kernel_rfl))
 f260:=Tryz.func302.trans (congrArg some (by kernel_rfl))
 f266:=ZX.trans (congrArg some (by kernel_rfl))
 f271:=Tryz.func285.trans (congrArg some (by kernel_rfl))
 t0:=Zw
 a0:=ZI
 z0:=ZF
 v0:=ZC
 t3:=Zn
 a3:=Zv
 z3:=Zt
 v3:=Zo
 t4:=Zp
 a4:=Zz
 z4:=Zu
 v4:=Zq
 t5:=ZA
 a5:=ZL
 z5:=ZK
 v5:=ZE
 t9:=Zs
 a9:=ZG
 z9:=ZD
 v9:=Zy
 t21:=ZY
 a21:=aaD
 z21:=aaz
 v21:=Z0
 t46:=ZH
 a46:=ZN
 z46:=ZM
 v46:=ZJ
 t105:=Tryz.underlying345
 a105:=Tryz.isAgg345
 z105:=Tryz.sizeOf345
 v105:=Tryz.zeroValue345
 t116:=abc
 a116:=abP
 z116:=abF
 t117:=abd
 a117:=abQ
 z117:=abG
 v117:=abk
 t119:=Tryz.underlying363
 a119:=Tryz.isAgg363
 z119:=Tryz.sizeOf363
 t124:=abe
 a124:=abR
 z124:=abH
 v124:=abl
 t138:=Tryz.underlying365
 a138:=Tryz.isAgg365
 z138:=Tryz.sizeOf365
 v138:=Tryz.zeroValue365
 t139:=Tryz.underlying366
 a139:=Tryz.isAgg366
 z139:=Tryz.sizeOf366
 v139:=Tryz.zeroValue366
 g3:=by kernel_rfl
 g4:=by kernel_rfl}
def Tryz.Fm:Zr:=⟨fun|119=>182|n=>n,fun|21=>21|4=>4|n=>n,fun|n=>n⟩
theorem Tryz.Qt:acp Zm Tryz.Fm:={
 mixed:=by kernel_rfl
 f119:=aaC.trans (congrArg some (by kernel_rfl))
 t4:=Zp
 a4:=Zz
 z4:=Zu
 v4:=Zq
 t21:=ZY
 a21:=aaD
 z21:=aaz
 v21:=Z0}
theorem Tryz.utf8_ValidRune(r:Int)(w:World):
 Calls Zm 182 #[.int .i32 r] w fun e w'=>e=.returned (.bool (Lib.validRune r))/\w'=w:=Any.utf8_ValidRune Tryz.Qt r w
def Tryz.Fo:Zr:=⟨fun|106=>173|213=>224|265=>279|n=>n,fun|9=>9|3=>3|n=>n,fun|n=>n⟩
theorem Tryz.Qu:acq Zm Tryz.Fo:={
 mixed:=by kernel_rfl
 f106:=Tryz.func173.trans (congrArg some (by kernel_rfl))
 f213:=Tryz.func224.trans (congrArg some (by kernel_rfl))
 f265:=Tryz.func279.trans (congrArg some (by kernel_rfl))
 t3:=Zn
 a3:=Zv
 z3:=Zt
 v3:=Zo
 t9:=Zs
 a9:=ZG
 z9:=ZD
 v9:=Zy}
open Go.RowKit in
theorem Tryz.strings_Compare(a b:ByteArray)(w:World):
 Calls Zm 173 #[.string a,.string b] w fun e w'=>e=.returned (.int .i64 (Zx a.data.toList b.data.toList))/\w'=w:=Any.strings_Compare Tryz.Qu a b w
def Tryz.Fp:Zr:=⟨fun|137=>72|217=>126|266=>179|n=>n,fun|9=>9|5=>5|3=>3|n=>n,fun|n=>n⟩
theorem Tryz.Qv:acr Zm Tryz.Fp:={
 mixed:=by kernel_rfl
 f137:=aaN.trans (congrArg some (by kernel_rfl))
 f217:=ZW.trans (congrArg some (by kernel_rfl))
 f266:=ZX.trans (congrArg some (by kernel_rfl))
 t3:=Zn
 a3:=Zv
 z3:=Zt
 v3:=Zo
 t5:=ZA
 a5:=ZL
 z5:=ZK
 v5:=ZE
 t9:=Zs
 a9:=ZG
 z9:=ZD
 v9:=Zy}
open Go.RowKit in
theorem Tryz.strings_IndexByte(s:ByteArray)(c:Int)(w:World):
 Calls Zm 72 #[.string s,.int .u8 c] w fun e w'=>e=.returned (.int .i64 (abS s.data.toList c.toNat.toUInt8))/\w'=w:=Any.strings_IndexByte Tryz.Qv s c w
def Tryz.Fq:Zr:=⟨fun|103=>185|210=>237|206=>109|n=>n,fun|9=>9|4=>4|24=>229|3=>3|n=>n,fun|n=>n⟩
theorem Tryz.Qw:acs Zm Tryz.Fq:={
 mixed:=by kernel_rfl
 f103:=Tryz.func185.trans (congrArg some (by kernel_rfl))
 f206:=abm.trans (congrArg some (by kernel_rfl))
 f210:=Tryz.func237.trans (congrArg some (by kernel_rfl))
 t3:=Zn
 a3:=Zv
 z3:=Zt
 v3:=Zo
 t4:=Zp
 a4:=Zz
 z4:=Zu
 v4:=Zq
 t9:=Zs
 a9:=ZG
 z9:=ZD
 v9:=Zy
 t24:=abf
 a24:=abT
 z24:=abI
 v24:=abn}
open Go.RowKit in
theorem Tryz.strings_CutPrefix(s p:ByteArray)(w:World):
 Calls Zm 185 #[.string s,.string p] w fun e w'=>e=.returned (.tuple #[.string ⟨(Lib.trimPrefix s.data.toList p.data.toList).toArray⟩,.bool (abU s.data.toList p.data.toList)])/\w'=w:=Any.strings_CutPrefix Tryz.Qw s p w
def Tryz.Fs:Zr:=⟨fun|104=>141|211=>198|207=>249|n=>n,fun|9=>9|4=>4|24=>229|3=>3|n=>n,fun|n=>n⟩
theorem Tryz.Qx:acu Zm Tryz.Fs:={
 mixed:=by kernel_rfl
 f104:=Tryz.func141.trans (congrArg some (by kernel_rfl))
 f207:=Tryz.func249.trans (congrArg some (by kernel_rfl))
 f211:=Tryz.func198.trans (congrArg some (by kernel_rfl))
 t3:=Zn
 a3:=Zv
 z3:=Zt
 v3:=Zo
 t4:=Zp
 a4:=Zz
 z4:=Zu
 v4:=Zq
 t9:=Zs
 a9:=ZG
 z9:=ZD
 v9:=Zy
 t24:=abf
 a24:=abT
 z24:=abI
 v24:=abn}
open Go.RowKit in
theorem Tryz.strings_CutSuffix(s p:ByteArray)(w:World)(hs:s.size<=9223372036854775807):
 Calls Zm 141 #[.string s,.string p] w fun e w'=>e=.returned (.tuple #[.string ⟨(Lib.trimSuffix s.data.toList p.data.toList).toArray⟩,.bool (Lib.hasSuffix s.data.toList p.data.toList)])/\w'=w:=Any.strings_CutSuffix Tryz.Qx s p w hs
def Tryz.Ft:Zr:=⟨fun|122=>125|215=>178|n=>n,fun|3=>3|4=>4|n=>n,fun|n=>n⟩
theorem Tryz.Qz:acv Zm Tryz.Ft:={
 mixed:=by kernel_rfl
 f122:=Tryz.func125.trans (congrArg some (by kernel_rfl))
 f215:=ab2.trans (congrArg some (by kernel_rfl))
 t3:=Zn
 a3:=Zv
 z3:=Zt
 v3:=Zo
 t4:=Zp
 a4:=Zz
 z4:=Zu
 v4:=Zq}
open Go.RowKit in
theorem Tryz.cmp_Compare_int(x y:Int)(w:World):
 Calls Zm 125 #[.int .i64 x,.int .i64 y] w fun e w'=>e=.returned (.int .i64 (Lib.compareInt x y))/\w'=w:=Any.cmp_Compare_int Tryz.Qz x y w
open Go.RowKit in
theorem Tryz.Builder_Len_f(B b:Nat)(q:List Value)(w:World)(h:aaO 274 5 B b q w):
 Calls Zm 196 #[.pointer (some ⟨b,0,none⟩)] w fun e w'=>e=.returned (.int .i64 q.length)/\w'=w:=Any.Builder_Len_f Tryz.Qr B b q w h
open Go.RowKit in
theorem Tryz.Builder_String_any_f(B b:Nat)(l:List UInt8)(w:World)(h:aaO 274 5 B b (aa3 l) w)(q:B<=w.heap.size):
 Calls Zm 197 #[.pointer (some ⟨b,0,none⟩)] w fun e w'=>e=.returned (.string ⟨l.toArray⟩)/\(aaO 274 5 B b (aa3 l) w'/\Below B w w'):=Any.Builder_String_any_f Tryz.Ib Tryz.nL B b l w h q
def Tryz.Fu:Zr:=⟨fun|145=>118|220=>169|219=>213|217=>126|225=>184|224=>183|267=>260|266=>179|314=>295|n=>n,fun|9=>9|4=>4|59=>195|3=>3|5=>5|46=>127|146=>320|51=>245|n=>n,fun|1=>2|n=>n⟩
theorem Tryz.QA:acw Zm Tryz.Fu:={
 mixed:=by kernel_rfl
 f145:=ab3.trans (congrArg some (by kernel_rfl))
 f217:=ZW.trans (congrArg some (by kernel_rfl))
 f219:=ab4.trans (congrArg some (by kernel_rfl))
 f220:=ab5.trans (congrArg some (by kernel_rfl))
 f224:=Z8.trans (congrArg some (by kernel_rfl))
 f225:=Z9.trans (congrArg some (by kernel_rfl))
 f266:=ZX.trans (congrArg some (by kernel_rfl))
 f267:=ab6.trans (congrArg some (by kernel_rfl))
 f314:=ab7.trans (congrArg some (by kernel_rfl))
 t3:=Zn
 a3:=Zv
 z3:=Zt
 v3:=Zo
 t4:=Zp
 a4:=Zz
 z4:=Zu
 v4:=Zq
 t5:=ZA
 a5:=ZL
 z5:=ZK
 v5:=ZE
 t9:=Zs
 a9:=ZG
 z9:=ZD
 v9:=Zy
 t46:=ZH
 a46:=ZN
 z46:=ZM
 v46:=ZJ
 t51:=ZO
 a51:=ZU
 z51:=ZS
 v51:=ZP
 t59:=abg
 a59:=abV
 z59:=abJ
 v59:=abo
 t146:=aac
 a146:=aa4
 z146:=aaP
 v146:=aar
 g1:=by kernel_rfl}
open Go.RowKit Go.Lib in
theorem Tryz.strings_Cut(s b:ByteArray)(m:Int)(w:World)(hs:s.size<4294967281)(q:w.cell? ⟨2,0,none⟩=some (.int .i64 m)):
 Calls Zm 118 #[.string s,.string b] w fun e w'=>e=.returned (.tuple #[.string ⟨(acG s.data.toList b.data.toList).1.toArray⟩,.string ⟨(acG s.data.toList b.data.toList).2.1.toArray⟩,.bool (acG s.data.toList b.data.toList).2.2])/\∃n,w'=w.drewN n:=Any.strings_Cut Tryz.QA s b m w hs q
def Tryz.CX:Zr:=⟨fun|145=>118|220=>169|219=>213|217=>126|225=>184|224=>183|267=>260|266=>179|314=>295|n=>n,fun|9=>9|4=>4|59=>195|3=>3|5=>5|46=>127|146=>320|51=>245|n=>n,fun|1=>2|n=>n⟩
theorem Tryz.NX:acf Zm Tryz.CX:={
 mixed:=by kernel_rfl
 f145:=ab3.trans (congrArg some (by kernel_rfl))
 f217:=ZW.trans (congrArg some (by kernel_rfl))
 f219:=ab4.trans (congrArg some (by kernel_rfl))
 f220:=ab5.trans (congrArg some (by kernel_rfl))
 f224:=Z8.trans (congrArg some (by kernel_rfl))
 f225:=Z9.trans (congrArg some (by kernel_rfl))
 f266:=ZX.trans (congrArg some (by kernel_rfl))
 f267:=ab6.trans (congrArg some (by kernel_rfl))
 f314:=ab7.trans (congrArg some (by kernel_rfl))
 t3:=Zn
 a3:=Zv
 z3:=Zt
 v3:=Zo
 t4:=Zp
 a4:=Zz
 z4:=Zu
 v4:=Zq
 t5:=ZA
 a5:=ZL
 z5:=ZK
 v5:=ZE
 t9:=Zs
 a9:=ZG
 z9:=ZD
 v9:=Zy
 t46:=ZH
 a46:=ZN
 z46:=ZM
 v46:=ZJ
 t51:=ZO
 a51:=ZU
 z51:=ZS
 v51:=ZP
 t59:=abg
 a59:=abV
 z59:=abJ
 v59:=abo
 t146:=aac
 a146:=aa4
 z146:=aaP
 v146:=aar
 g1:=by kernel_rfl
 i3:=by kernel_rfl
 i4:=by kernel_rfl
 i5:=by kernel_rfl
 i9:=by kernel_rfl
 i46:=by kernel_rfl
 i51:=by kernel_rfl
 i59:=by kernel_rfl
 i146:=by kernel_rfl
 m1:=by kernel_rfl
 s1_3:=fun w h=>Go.Proofs.cell_of_shapedOpen_int (zero:=#[.int .i64 0]) (t:=3) h (of_decide_eq_true (by kernel_rfl)) (by kernel_rfl) rfl (by kernel_rfl) (by kernel_rfl) Zn}
def Tryz.Fv:Zr:=⟨fun|189=>127|125=>107|257=>180|128=>162|129=>163|294=>228|295=>229|296=>230|297=>231|298=>232|299=>233|216=>234|300=>235|301=>236|328=>280|329=>216|330=>217|331=>281|332=>282|215=>178|343=>301|n=>n,fun|28=>49|3=>3|46=>127|0=>0|51=>245|53=>194|4=>4|183=>239|182=>238|131=>203|5=>5|9=>9|218=>289|222=>293|228=>333|229=>334|n=>n,fun|n=>n⟩
theorem Tryz.Ic:acx Zm Tryz.Fv:={
 mixed:=by kernel_rfl
 f125:=abp.trans (congrArg some (by kernel_rfl))
 f128:=abq.trans (congrArg some (by kernel_rfl))
 f129:=abr.trans (congrArg some (by kernel_rfl))
 f189:=Tryz.func127.trans (congrArg some (by kernel_rfl))
 f215:=ab2.trans (congrArg some (by kernel_rfl))
 f216:=Tryz.func234.trans (congrArg some (by kernel_rfl))
 f257:=Tryz.func180.trans (congrArg some (by kernel_rfl))
 f294:=Tryz.func228.trans (congrArg some (by kernel_rfl))
 f295:=Tryz.func229.trans (congrArg some (by kernel_rfl))
 f296:=Tryz.func230.trans (congrArg some (by kernel_rfl))
 f297:=Tryz.func231.trans (congrArg some (by kernel_rfl))
 f298:=Tryz.func232.trans (congrArg some (by kernel_rfl))
 f299:=Tryz.func233.trans (congrArg some (by kernel_rfl))
 f300:=Tryz.func235.trans (congrArg some (by kernel_rfl))
 f301:=Tryz.func236.trans (congrArg some (by kernel_rfl))
 f328:=Tryz.func280.trans (congrArg some (by kernel_rfl))
 f329:=abt.trans (congrArg some (by kernel_rfl))
 f330:=abu.trans (congrArg some (by kernel_rfl))
 f331:=Tryz.func281.trans (congrArg some (by kernel_rfl))
 f332:=Tryz.func282.trans (congrArg some (by kernel_rfl))
 f343:=Tryz.func301.trans (congrArg some (by kernel_rfl))
 t0:=Zw
 a0:=ZI
 z0:=ZF
 v0:=ZC
 t3:=Zn
 a3:=Zv
 z3:=Zt
 v3:=Zo
 t4:=Zp
 a4:=Zz
 z4:=Zu
 v4:=Zq
 t5:=ZA
 a5:=ZL
 z5:=ZK
 v5:=ZE
 t9:=Zs
 a9:=ZG
 z9:=ZD
 v9:=Zy
 t28:=abv
 a28:=ab8
 z28:=abW
 v28:=abz
 t46:=ZH
 a46:=ZN
 z46:=ZM
 v46:=ZJ
 t51:=ZO
 a51:=ZU
 z51:=ZS
 v51:=ZP
 t53:=ZV
 a53:=aaA
 z53:=aad
 v53:=ZZ
 t131:=aae
 a131:=aa5
 z131:=aaQ
 v131:=aas
 t182:=aaf
 a182:=aa6
 z182:=aaR
 v182:=aat
 t183:=aag
 a183:=aa7
 z183:=aaS
 v183:=aau
 t218:=aah
 a218:=aa8
 z218:=aaT
 v218:=aav
 t222:=aai
 a222:=aa9
 z222:=aaU
 v222:=aaw
 t228:=aaj
 a228:=aa_
 z228:=aaV
 v228:=aax
 t229:=aak
 a229:=aba
 z229:=aaW
 v229:=aay}
open Go.Sort Go.RowKit in
theorem Tryz.slices_Sort_int(b q cap:Nat)(s:List Int)(w:World)(D:Holds (abA .i64) w b q s.toArray)(z:b<w.heap.size)(B:s.length<4611686018427387904):
 Calls Zm 127 #[.slice (some ⟨b,q,none⟩) s.length cap] w fun e w'=>
  e=.returned (.tuple #[])/\∃n G,w'=grow (putRow (abA .i64) (abK w n) b q (s.mergeSort fun x y=>decide (x<=y)).toArray) G:=Any.slices_Sort_int Tryz.Ic b q cap s w D z B
def Tryz.Ie:Zr:=⟨fun|99=>60|206=>109|n=>n,fun|9=>9|4=>4|3=>3|n=>n,fun|n=>n⟩
theorem Tryz.SM:acE Zm Tryz.Ie:={
 mixed:=by kernel_rfl
 f99:=acg.trans (congrArg some (by kernel_rfl))
 f206:=abm.trans (congrArg some (by kernel_rfl))
 t3:=Zn
 a3:=Zv
 z3:=Zt
 v3:=Zo
 t4:=Zp
 a4:=Zz
 z4:=Zu
 v4:=Zq
 t9:=Zs
 a9:=ZG
 z9:=ZD
 v9:=Zy}
open Go.RowKit Go.Lib in
theorem Tryz.strings_HasPrefix(s p:ByteArray)(w:World):
 Calls Zm 60 #[.string s,.string p] w fun e w'=>e=.returned (.bool (abU s.data.toList p.data.toList))/\w'=w:=Any.strings_HasPrefix Tryz.SM s p w
def Tryz.Fw:Zr:=⟨fun|152=>131|137=>72|119=>182|224=>183|225=>184|217=>126|266=>179|n=>n,fun|9=>9|21=>21|3=>3|4=>4|5=>5|0=>0|46=>127|n=>n,fun|n=>n⟩
theorem Tryz.QB:acy Zm Tryz.Fw:={
 mixed:=by kernel_rfl
 f119:=aaC.trans (congrArg some (by kernel_rfl))
 f137:=aaN.trans (congrArg some (by kernel_rfl))
 f152:=abj.trans (congrArg some (by kernel_rfl))
 f217:=ZW.trans (congrArg some (by kernel_rfl))
 f224:=Z8.trans (congrArg some (by kernel_rfl))
 f225:=Z9.trans (congrArg some (by kernel_rfl))
 f266:=ZX.trans (congrArg some (by kernel_rfl))
 t0:=Zw
 a0:=ZI
 z0:=ZF
 v0:=ZC
 t3:=Zn
 a3:=Zv
 z3:=Zt
 v3:=Zo
 t4:=Zp
 a4:=Zz
 z4:=Zu
 v4:=Zq
 t5:=ZA
 a5:=ZL
 z5:=ZK
 v5:=ZE
 t9:=Zs
 a9:=ZG
 z9:=ZD
 v9:=Zy
 t21:=ZY
 a21:=aaD
 z21:=aaz
 v21:=Z0
 t46:=ZH
 a46:=ZN
 z46:=ZM
 v46:=ZJ}
open Go.RowKit Go.Lib in
theorem Tryz.strings_IndexRune_ascii(s:ByteArray)(r:Int)(w:World)(b:0<=r)(q:r<128):
 Calls Zm 131 #[.string s,.int .i32 r] w fun e w'=>e=.returned (.int .i64 (abS s.data.toList r.toNat.toUInt8))/\w'=w:=Any.strings_IndexRune_ascii Tryz.QB s r w b q
def Tryz.Fx:Zr:=⟨fun|226=>132|n=>n,fun|3=>3|4=>4|n=>n,fun|n=>n⟩
theorem Tryz.QD:acz Zm Tryz.Fx:={
 mixed:=by kernel_rfl
 f226:=ab9.trans (congrArg some (by kernel_rfl))
 t3:=Zn
 a3:=Zv
 z3:=Zt
 v3:=Zo
 t4:=Zp
 a4:=Zz
 z4:=Zu
 v4:=Zq}
open Go.RowKit Go.Lib in
theorem Tryz.strings_shouldUseASCIISet(n:Int)(w:World):
 Calls Zm 132 #[.int .i64 n] w fun e w'=>e=.returned (.bool (decide (8<n)))/\w'=w:=Any.strings_shouldUseASCIISet Tryz.QD n w
def Tryz.Fy:Zr:=⟨fun|153=>76|152=>131|226=>132|227=>133|228=>134|137=>72|119=>182|224=>183|225=>184|217=>126|266=>179|n=>n,fun|9=>9|3=>3|4=>4|5=>5|21=>21|117=>217|116=>216|0=>0|46=>127|124=>267|n=>n,fun|n=>n⟩
theorem Tryz.QE:acA Zm Tryz.Fy:={
 mixed:=by kernel_rfl
 f119:=aaC.trans (congrArg some (by kernel_rfl))
 f137:=aaN.trans (congrArg some (by kernel_rfl))
 f152:=abj.trans (congrArg some (by kernel_rfl))
 f153:=Tryz.func76.trans (congrArg some (by kernel_rfl))
 f217:=ZW.trans (congrArg some (by kernel_rfl))
 f224:=Z8.trans (congrArg some (by kernel_rfl))
 f225:=Z9.trans (congrArg some (by kernel_rfl))
 f226:=ab9.trans (congrArg some (by kernel_rfl))
 f227:=ab0.trans (congrArg some (by kernel_rfl))
 f228:=ab1.trans (congrArg some (by kernel_rfl))
 f266:=ZX.trans (congrArg some (by kernel_rfl))
 t0:=Zw
 a0:=ZI
 z0:=ZF
 v0:=ZC
 t3:=Zn
 a3:=Zv
 z3:=Zt
 v3:=Zo
 t4:=Zp
 a4:=Zz
 z4:=Zu
 v4:=Zq
 t5:=ZA
 a5:=ZL
 z5:=ZK
 v5:=ZE
 t9:=Zs
 a9:=ZG
 z9:=ZD
 v9:=Zy
 t21:=ZY
 a21:=aaD
 z21:=aaz
 v21:=Z0
 t46:=ZH
 a46:=ZN
 z46:=ZM
 v46:=ZJ
 t116:=abc
 a116:=abP
 z116:=abF
 t117:=abd
 a117:=abQ
 z117:=abG
 v117:=abk
 t124:=abe
 a124:=abR
 z124:=abH
 v124:=abl}
open Go.RowKit Go.Lib in
theorem Tryz.strings_IndexAny_long(z:∀w,(zeroValue 216).run Zm w=.ok (.agg (Array.replicate 256 (.bool false))) w)(s q:ByteArray)(w:World)(D:2<=q.size)(G:8<s.size)(hs:s.size<4294967281)(B:q.size<4294967281)(y:∀(j:Nat) b,q.data.toList[j]?=some b->b.toNat<128):
 Calls Zm 76 #[.string s,.string q] w fun e w'=>e=.returned (.int .i64 (Lib.indexAny s.data.toList q.data.toList))/\w'=((w.alloc (.cells (ab_ q.data.toList) 216)).alloc (.cells (ab_ q.data.toList) 216)):=Any.strings_IndexAny_long Tryz.QE z (by kernel_rfl) s q w D G hs B y
def Tryz.we:Zr:=⟨fun|105=>139|212=>193|99=>60|165=>194|166=>195|170=>196|169=>197|263=>245|264=>246|206=>109|240=>247|241=>248|276=>286|277=>287|n=>n,fun|9=>9|3=>3|4=>4|20=>20|0=>0|46=>127|109=>270|5=>5|72=>274|76=>54|51=>245|146=>320|53=>194|148=>322|70=>272|37=>188|75=>29|127=>324|164=>252|80=>82|n=>n,fun|n=>n⟩
theorem Tryz.QF:acB Zm Tryz.we:={
 mixed:=by kernel_rfl
 f99:=acg.trans (congrArg some (by kernel_rfl))
 f105:=Tryz.func139.trans (congrArg some (by kernel_rfl))
 f165:=Tryz.func194.trans (congrArg some (by kernel_rfl))
 f166:=Tryz.func195.trans (congrArg some (by kernel_rfl))
 f169:=abZ.trans (congrArg some (by kernel_rfl))
 f170:=abY.trans (congrArg some (by kernel_rfl))
 f206:=abm.trans (congrArg some (by kernel_rfl))
 f212:=Tryz.func193.trans (congrArg some (by kernel_rfl))
 f240:=Tryz.func247.trans (congrArg some (by kernel_rfl))
 f241:=Tryz.func248.trans (congrArg some (by kernel_rfl))
 f263:=Tryz.func245.trans (congrArg some (by kernel_rfl))
 f264:=Tryz.func246.trans (congrArg some (by kernel_rfl))
 f276:=Tryz.func286.trans (congrArg some (by kernel_rfl))
 f277:=Tryz.func287.trans (congrArg some (by kernel_rfl))
 t0:=Zw
 a0:=ZI
 z0:=ZF
 v0:=ZC
 t3:=Zn
 a3:=Zv
 z3:=Zt
 v3:=Zo
 t4:=Zp
 a4:=Zz
 z4:=Zu
 v4:=Zq
 t5:=ZA
 a5:=ZL
 z5:=ZK
 v5:=ZE
 t9:=Zs
 a9:=ZG
 z9:=ZD
 v9:=Zy
 t20:=Tryz.underlying20
 a20:=Tryz.isAgg20
 z20:=Tryz.sizeOf20
 v20:=Tryz.zeroValue20
 t37:=ZQ
 a37:=aa0
 z37:=aaK
 v37:=aao
 t46:=ZH
 a46:=ZN
 z46:=ZM
 v46:=ZJ
 t51:=ZO
 a51:=ZU
 z51:=ZS
 v51:=ZP
 t53:=ZV
 a53:=aaA
 z53:=aad
 v53:=ZZ
 t70:=aaa
 a70:=aa1
 z70:=aaL
 v70:=aap
 t72:=aab
 a72:=aa2
 z72:=aaM
 v72:=aaq
 t75:=Tryz.underlying29
 a75:=Tryz.isAgg29
 z75:=Tryz.sizeOf29
 v75:=Tryz.zeroValue29
 t76:=Tryz.underlying54
 a76:=Tryz.isAgg54
 z76:=Tryz.sizeOf54
 v76:=Tryz.zeroValue54
 t109:=Tryz.underlying270
 a109:=Tryz.isAgg270
 z109:=Tryz.sizeOf270
 v109:=Tryz.zeroValue270
 t127:=abb
 a127:=abN
 z127:=abE
 v127:=abi
 t146:=aac
 a146:=aa4
 z146:=aaP
 v146:=aar
 t148:=Tryz.underlying322
 a148:=Tryz.isAgg322
 z148:=Tryz.sizeOf322
 v148:=Tryz.zeroValue322
 t164:=Tryz.underlying252
 a164:=Tryz.isAgg252
 z164:=Tryz.sizeOf252
 v164:=Tryz.zeroValue252}
theorem Tryz.uT:abO Zm Tryz.we:={
 sizeBuilder:=by kernel_rfl
 liesBuilder:=by kernel_rfl
 t5:=ZA
 a5:=ZL
 z5:=ZK
 v5:=ZE
 infoByte:=by kernel_rfl
 cellsByte:=by kernel_rfl
 sizeByte:=by kernel_rfl
 neB5:=by decide}
open Go.RowKit Go.Lib in
theorem Tryz.strings_Repeat(s:ByteArray)(c:Nat)(w:World)(hc:c<=9223372036854775807)(b:s.size*c<=140737488355328):
 Calls Zm 139 #[.string s,.int .i64 c] w fun e w'=>e=.returned (.string ⟨(Lib.repeatL s.data.toList c).toArray⟩)/\Below w.heap.size w w':=Any.strings_Repeat Tryz.QF Tryz.uT s c w hc b
def Tryz.Aw:Zr:=⟨fun|20=>128|n=>n,fun|22=>49|3=>3|4=>4|0=>0|n=>n,fun|n=>n⟩
theorem Tryz.Ax:acC Zm Tryz.Aw:={
 mixed:=by kernel_rfl
 f20:=Tryz.func128.trans (congrArg some (by kernel_rfl))
 t0:=Zw
 a0:=ZI
 z0:=ZF
 v0:=ZC
 t3:=Zn
 a3:=Zv
 z3:=Zt
 v3:=Zo
 t4:=Zp
 a4:=Zz
 z4:=Zu
 v4:=Zq
 t22:=abv
 a22:=ab8
 z22:=abW
 v22:=abz
 i3:=by kernel_rfl}
open Go.RowKit Go.Lib Go.Sort in
theorem Tryz.slices_Compact_int(b s cap:Nat)(y:List Int)(w:World)(D:Holds (abA .i64) w b s y.toArray)(B:y.length<=9223372036854775807)(z:y.length<=cap):
 Calls Zm 128 #[.slice (some ⟨b,s,none⟩) y.length cap] w fun e w'=>e=.returned (.slice (some ⟨b,s,none⟩) (Z7 y).length cap)/\∃q,w'=putRow (abA .i64) (abK w q) b s (Z7 y++abL (y.length-(Z7 y).length) 0).toArray:=Any.slices_Compact_int Tryz.Ax b s cap y w D B z
open Go.RowKit Go.Lib Go.Sort in
theorem Tryz.slices_Compact_int_empty(a:Option Addr)(cap:Nat)(w:World):
 Calls Zm 128 #[.slice a 0 cap] w fun e w'=>e=.returned (.slice a 0 cap)/\w'=w:=Any.slices_Compact_int_empty Tryz.Ax a cap w
def Tryz.Fz:Zr:=⟨fun|194=>66|n=>n,fun|31=>22|9=>9|3=>3|4=>4|0=>0|n=>n,fun|n=>n⟩
theorem Tryz.Ig:acD Zm Tryz.Fz:={
 mixed:=by kernel_rfl
 f194:=Tryz.func66.trans (congrArg some (by kernel_rfl))
 t0:=Zw
 a0:=ZI
 z0:=ZF
 v0:=ZC
 t3:=Zn
 a3:=Zv
 z3:=Zt
 v3:=Zo
 t4:=Zp
 a4:=Zz
 z4:=Zu
 v4:=Zq
 t9:=Zs
 a9:=ZG
 z9:=ZD
 v9:=Zy
 t31:=Tryz.underlying22
 a31:=Tryz.isAgg22
 z31:=Tryz.sizeOf22
 v31:=Tryz.zeroValue22}
open Go.RowKit Go.Lib Go.Sort in
theorem Tryz.slices_Compact_string(b s cap:Nat)(y:List (List UInt8))(w:World)(D:Holds encStr w b s y.toArray)(B:y.length<=9223372036854775807)(z:y.length<=cap):
 Calls Zm 66 #[.slice (some ⟨b,s,none⟩) y.length cap] w fun e w'=>e=.returned (.slice (some ⟨b,s,none⟩) (Z7 y).length cap)/\∃q,w'=putRow encStr (abK w q) b s (Z7 y++abL (y.length-(Z7 y).length) []).toArray:=Any.slices_Compact_string Tryz.Ig b s cap y w D B z
open Go.RowKit Go.Lib Go.Sort in
theorem Tryz.slices_Compact_string_empty(a:Option Addr)(cap:Nat)(w:World):
 Calls Zm 66 #[.slice a 0 cap] w fun e w'=>e=.returned (.slice a 0 cap)/\w'=w:=Any.slices_Compact_string_empty Tryz.Ig a cap w
open Go.RowKit Go.Sort in
theorem Tryz.slices_Sort_int_none(p:Option Addr)(cap:Nat)(w:World):
 Calls Zm 127 #[.slice p 0 cap] w fun e w'=>e=.returned (.tuple #[])/\w'=w:=Any.slices_Sort_int_none Tryz.Ic p cap w
end Go.Proofs
namespace Go.Proofs
open Go.Shelf
def Tryz.zV:Zr:=⟨fun|6=>97|15=>107|14=>149|28=>162|29=>163|20=>205|21=>206|22=>207|23=>208|24=>209|25=>210|26=>211|27=>212|46=>257|47=>216|48=>217|49=>258|50=>259|57=>294|n=>n,fun|22=>57|24=>104|25=>148|3=>3|39=>127|0=>0|53=>245|55=>194|4=>4|46=>239|45=>238|50=>203|5=>5|9=>9|66=>289|70=>293|76=>333|77=>334|n=>n,fun|n=>n⟩
theorem Tryz.yD:aaH Zm Tryz.zV:={
 mixed:=by kernel_rfl
 f6:=⟨Tryz.f97.name,by decide,Tryz.func97.trans (congrArg some (by kernel_rfl))⟩
 f14:=⟨Tryz.f149.name,by decide,Tryz.func149.trans (congrArg some (by kernel_rfl))⟩
 f15:=abp.trans (congrArg some (by kernel_rfl))
 f20:=⟨Tryz.f205.name,by decide,Tryz.func205.trans (congrArg some (by kernel_rfl))⟩
 f21:=⟨Tryz.f206.name,by decide,Tryz.func206.trans (congrArg some (by kernel_rfl))⟩
 f22:=⟨Tryz.f207.name,by decide,Tryz.func207.trans (congrArg some (by kernel_rfl))⟩
 f23:=⟨Tryz.f208.name,by decide,Tryz.func208.trans (congrArg some (by kernel_rfl))⟩
 f24:=⟨Tryz.f209.name,by decide,Tryz.func209.trans (congrArg some (by kernel_rfl))⟩
 f25:=⟨Tryz.f210.name,by decide,Tryz.func210.trans (congrArg some (by kernel_rfl))⟩
 f26:=⟨Tryz.f211.name,by decide,Tryz.func211.trans (congrArg some (by kernel_rfl))⟩
 f27:=⟨Tryz.f212.name,by decide,Tryz.func212.trans (congrArg some (by kernel_rfl))⟩
 f28:=abq.trans (congrArg some (by kernel_rfl))
 f29:=abr.trans (congrArg some (by kernel_rfl))
 f46:=⟨Tryz.f257.name,by decide,Tryz.func257.trans (congrArg some (by kernel_rfl))⟩
 f47:=abt.trans (congrArg some (by kernel_rfl))
 f48:=abu.trans (congrArg some (by kernel_rfl))
 f49:=⟨Tryz.f258.name,by decide,Tryz.func258.trans (congrArg some (by kernel_rfl))⟩
 f50:=⟨Tryz.f259.name,by decide,Tryz.func259.trans (congrArg some (by kernel_rfl))⟩
 f57:=⟨Tryz.f294.name,by decide,Tryz.func294.trans (congrArg some (by kernel_rfl))⟩
 t0:=Zw
 a0:=ZI
 z0:=ZF
 v0:=ZC
 t3:=Zn
 a3:=Zv
 z3:=Zt
 v3:=Zo
 t4:=Zp
 a4:=Zz
 z4:=Zu
 v4:=Zq
 t5:=ZA
 a5:=ZL
 z5:=ZK
 v5:=ZE
 t9:=Zs
 a9:=ZG
 z9:=ZD
 v9:=Zy
 t22:=ZR
 a22:=Z_
 z22:=Z6
 v22:=ZT
 t25:=Tryz.underlying148
 a25:=Tryz.isAgg148
 z25:=Tryz.sizeOf148
 v25:=Tryz.zeroValue148
 t39:=ZH
 a39:=ZN
 z39:=ZM
 v39:=ZJ
 t45:=aaf
 a45:=aa6
 z45:=aaR
 v45:=aat
 t46:=aag
 a46:=aa7
 z46:=aaS
 v46:=aau
 t50:=aae
 a50:=aa5
 z50:=aaQ
 v50:=aas
 t53:=ZO
 a53:=ZU
 z53:=ZS
 v53:=ZP
 t55:=ZV
 a55:=aaA
 z55:=aad
 v55:=ZZ
 t66:=aah
 a66:=aa8
 z66:=aaT
 v66:=aav
 t70:=aai
 a70:=aa9
 z70:=aaU
 v70:=aaw
 t76:=aaj
 a76:=aa_
 z76:=aaV
 v76:=aax
 t77:=aak
 a77:=aba
 z77:=aaW
 v77:=aay}
def Tryz.uU:Zr:=⟨fun|7=>153|6=>214|n=>n,fun|22=>57|24=>104|4=>4|0=>0|3=>3|n=>n,fun|n=>n⟩
theorem Tryz.Ay:ach Zm Tryz.uU:={
 mixed:=by kernel_rfl
 f6:=⟨Tryz.f214.name,by decide,Tryz.func214.trans (congrArg some (by kernel_rfl))⟩
 f7:=⟨Tryz.f153.name,by decide,Tryz.func153.trans (congrArg some (by kernel_rfl))⟩
 t0:=Zw
 a0:=ZI
 z0:=ZF
 v0:=ZC
 t3:=Zn
 a3:=Zv
 z3:=Zt
 v3:=Zo
 t4:=Zp
 a4:=Zz
 z4:=Zu
 v4:=Zq
 t22:=ZR
 a22:=Z_
 z22:=Z6
 v22:=ZT}
def Tryz.qL:Zr:=⟨fun|8=>42|6=>85|n=>n,fun|22=>57|23=>104|25=>105|4=>4|3=>3|0=>0|n=>n,fun|n=>n⟩
theorem Tryz.uV:ace Zm Tryz.qL:={
 mixed:=by kernel_rfl
 f6:=⟨Tryz.f85.name,by decide,aci.trans (congrArg some (by kernel_rfl))⟩
 f8:=⟨Tryz.f42.name,by decide,Tryz.func42.trans (congrArg some (by kernel_rfl))⟩
 t0:=Zw
 a0:=ZI
 z0:=ZF
 v0:=ZC
 t3:=Zn
 a3:=Zv
 z3:=Zt
 v3:=Zo
 t4:=Zp
 a4:=Zz
 z4:=Zu
 v4:=Zq
 t22:=ZR
 a22:=Z_
 z22:=Z6
 v22:=ZT
 t25:=abh
 a25:=abX
 z25:=abM
 v25:=abw}
def Tryz.uk:Zr:=⟨fun|6=>85|n=>n,fun|22=>57|23=>104|25=>105|3=>3|0=>0|4=>4|n=>n,fun|n=>n⟩
theorem Tryz.zW:aaI Zm Tryz.uk:={
 mixed:=by kernel_rfl
 f6:=⟨Tryz.f85.name,by decide,aci.trans (congrArg some (by kernel_rfl))⟩
 t0:=Zw
 a0:=ZI
 z0:=ZF
 v0:=ZC
 t3:=Zn
 a3:=Zv
 z3:=Zt
 v3:=Zo
 t4:=Zp
 a4:=Zz
 z4:=Zu
 v4:=Zq
 t22:=ZR
 a22:=Z_
 z22:=Z6
 v22:=ZT
 t25:=abh
 a25:=abX
 z25:=abM
 v25:=abw}
def Tryz.xv:Zr:=⟨fun|41=>112|n=>n,fun|22=>57|23=>104|4=>4|n=>n,fun|n=>n⟩
theorem Tryz.wg:aca Zm Tryz.xv:={
 mixed:=by kernel_rfl
 f41:=⟨Tryz.f112.name,by decide,Tryz.func112.trans (congrArg some (by kernel_rfl))⟩
 t4:=Zp
 a4:=Zz
 z4:=Zu
 v4:=Zq
 t22:=ZR
 a22:=Z_
 z22:=Z6
 v22:=ZT}
def Tryz.CY:Zr:=⟨fun|6=>53|15=>107|14=>106|28=>162|29=>163|20=>154|21=>155|22=>156|23=>157|24=>158|25=>159|26=>160|27=>161|46=>215|47=>216|48=>217|49=>218|50=>219|57=>261|n=>n,fun|22=>41|24=>47|25=>119|3=>3|39=>127|0=>0|53=>245|55=>194|4=>4|46=>239|45=>238|50=>203|5=>5|9=>9|66=>289|70=>293|76=>333|77=>334|n=>n,fun|n=>n⟩
theorem Tryz.DC:aaH Zm Tryz.CY:={
 mixed:=by kernel_rfl
 f6:=⟨Tryz.f53.name,by decide,Tryz.func53.trans (congrArg some (by kernel_rfl))⟩
 f14:=⟨Tryz.f106.name,by decide,Tryz.func106.trans (congrArg some (by kernel_rfl))⟩
 f15:=abp.trans (congrArg some (by kernel_rfl))
 f20:=⟨Tryz.f154.name,by decide,Tryz.func154.trans (congrArg some (by kernel_rfl))⟩
 f21:=⟨Tryz.f155.name,by decide,Tryz.func155.trans (congrArg some (by kernel_rfl))⟩
 f22:=⟨Tryz.f156.name,by decide,Tryz.func156.trans (congrArg some (by kernel_rfl))⟩
 f23:=⟨Tryz.f157.name,by decide,Tryz.func157.trans (congrArg some (by kernel_rfl))⟩
 f24:=⟨Tryz.f158.name,by decide,Tryz.func158.trans (congrArg some (by kernel_rfl))⟩
 f25:=⟨Tryz.f159.name,by decide,Tryz.func159.trans (congrArg some (by kernel_rfl))⟩
 f26:=⟨Tryz.f160.name,by decide,Tryz.func160.trans (congrArg some (by kernel_rfl))⟩
 f27:=⟨Tryz.f161.name,by decide,Tryz.func161.trans (congrArg some (by kernel_rfl))⟩
 f28:=abq.trans (congrArg some (by kernel_rfl))
 f29:=abr.trans (congrArg some (by kernel_rfl))
 f46:=⟨Tryz.f215.name,by decide,Tryz.func215.trans (congrArg some (by kernel_rfl))⟩
 f47:=abt.trans (congrArg some (by kernel_rfl))
 f48:=abu.trans (congrArg some (by kernel_rfl))
 f49:=⟨Tryz.f218.name,by decide,Tryz.func218.trans (congrArg some (by kernel_rfl))⟩
 f50:=⟨Tryz.f219.name,by decide,Tryz.func219.trans (congrArg some (by kernel_rfl))⟩
 f57:=⟨Tryz.f261.name,by decide,Tryz.func261.trans (congrArg some (by kernel_rfl))⟩
 t0:=Zw
 a0:=ZI
 z0:=ZF
 v0:=ZC
 t3:=Zn
 a3:=Zv
 z3:=Zt
 v3:=Zo
 t4:=Zp
 a4:=Zz
 z4:=Zu
 v4:=Zq
 t5:=ZA
 a5:=ZL
 z5:=ZK
 v5:=ZE
 t9:=Zs
 a9:=ZG
 z9:=ZD
 v9:=Zy
 t22:=Tryz.underlying41
 a22:=Tryz.isAgg41
 z22:=Tryz.sizeOf41
 v22:=Tryz.zeroValue41
 t25:=Tryz.underlying119
 a25:=Tryz.isAgg119
 z25:=Tryz.sizeOf119
 v25:=Tryz.zeroValue119
 t39:=ZH
 a39:=ZN
 z39:=ZM
 v39:=ZJ
 t45:=aaf
 a45:=aa6
 z45:=aaR
 v45:=aat
 t46:=aag
 a46:=aa7
 z46:=aaS
 v46:=aau
 t50:=aae
 a50:=aa5
 z50:=aaQ
 v50:=aas
 t53:=ZO
 a53:=ZU
 z53:=ZS
 v53:=ZP
 t55:=ZV
 a55:=aaA
 z55:=aad
 v55:=ZZ
 t66:=aah
 a66:=aa8
 z66:=aaT
 v66:=aav
 t70:=aai
 a70:=aa9
 z70:=aaU
 v70:=aaw
 t76:=aaj
 a76:=aa_
 z76:=aaV
 v76:=aax
 t77:=aak
 a77:=aba
 z77:=aaW
 v77:=aay}
def Tryz.uW:Zr:=⟨fun|6=>91|n=>n,fun|22=>134|23=>140|25=>176|3=>3|0=>0|4=>4|n=>n,fun|n=>n⟩
theorem Tryz.Az:aaI Zm Tryz.uW:={
 mixed:=by kernel_rfl
 f6:=⟨Tryz.f91.name,by decide,Tryz.func91.trans (congrArg some (by kernel_rfl))⟩
 t0:=Zw
 a0:=ZI
 z0:=ZF
 v0:=ZC
 t3:=Zn
 a3:=Zv
 z3:=Zt
 v3:=Zo
 t4:=Zp
 a4:=Zz
 z4:=Zu
 v4:=Zq
 t22:=Tryz.underlying134
 a22:=Tryz.isAgg134
 z22:=Tryz.sizeOf134
 v22:=Tryz.zeroValue134
 t25:=Tryz.underlying176
 a25:=Tryz.isAgg176
 z25:=Tryz.sizeOf176
 v25:=Tryz.zeroValue176}
end Go.Proofs
namespace Go.Proofs.YtldmhjbdahjhdaaGreatDoor
section
open Go Go.RowKit
def Gr(w w':World):Prop:=Below w.heap.size w w'
theorem Gr.refl(w:World):Gr w w:=Below.refl _ _
theorem Gr.trans{a b c:World}(h:Gr a b)(k:Gr b c):Gr a c:=Below.trans h (Below.mono k h.size)
theorem Gr.alloc{a w:World}(h:Gr a w)(o:Obj):Gr a (w.alloc o):=Below.alloc h h.size o
theorem Gr.drew{a w:World}(h:Gr a w):Gr a w.drew:=Below.drew h
theorem Gr.drewN{a w:World}(h:Gr a w)(n:Nat):Gr a (w.drewN n):=⟨h.os,h.tape,h.output,h.size,h.block⟩
theorem Gr.setCell{a w:World}(h:Gr a w){p:Addr}(b:a.heap.size<=p.block)(u:Value):Gr a (w.setCell p u):=Below.setCell h b u
theorem Gr.cell{a w:World}(h:Gr a w){b:Nat}(o:Nat)(q:b<a.heap.size):w.cell? ⟨b,o,none⟩=a.cell? ⟨b,o,none⟩:=Below.cell (p:=⟨b,o,none⟩) h q
theorem Gr.frozen{a w:World}(h:Gr a w){b:Nat}(o:Nat)(q:b<a.heap.size):w.frozen? ⟨b,o,none⟩=a.frozen? ⟨b,o,none⟩:=Below.frozen (p:=⟨b,o,none⟩) h q
theorem ad{a:World}{b o:Nat}{v:Value}(hc:a.cell? ⟨b,o,none⟩=some v):b<a.heap.size:=by
 rcases acb b a.heap.size with h|h
 ·exact h
 ·simp[acj,Array.getElem?_eq_none h]at hc
theorem Gr.keeps{a w:World}(h:Gr a w){b o:Nat}{v:Value}(hc:a.cell? ⟨b,o,none⟩=some v):w.cell? ⟨b,o,none⟩=some v:=by
 rw[h.cell o (ad hc)];exact hc
def ar(w:World)(v:Value)(e:Ending)(w':World):Prop:=e=.returned v/\Gr w w'
theorem ar.mk{w w':World}{v u:Value}(h:u=v)(g:Gr w w'):ar w v (.returned u) w':=⟨by rw[h],g⟩
theorem ar.of_same{P:abC}{f:FuncId}{args:Array Value}{w:World}{v:Value}(h:Calls P f args w fun e w'=>e=.returned v/\w'=w):Calls P f args w (ar w v):=
 h.mono fun _ _ ⟨b,hw⟩=>⟨b,by rw[hw];exact Gr.refl _⟩
theorem cg{w w':World}(h:∃p:Regrown,w'=aaZ (abD w p.d) p.os):Gr w w':=by
 obtain⟨p,rfl⟩:=h;exact below_regrown w p.d p.os
theorem ar.sr{P:abC}{f:FuncId}{args:Array Value}{w:World}{d:Nat}{os:Array Obj}{v:Value}(h:Calls P f args (aaZ (abD w d) os) (ar (aaZ (abD w d) os) v)):
 Calls P f args (aaZ (abD w d) os) fun e b=>e=.returned v/\∃p:Regrown,b=aaZ (abD w p.d) p.os:=Calls.regrown_of h
theorem aL{w w':World}{B:Nat}{e:TypeId}{size n:Nat}{v:Value}{xs:List Value}(h:w.ownsRow B e size v n xs)(g:Gr w w'):w'.ownsRow B e size v n xs:=by
 obtain⟨z,q⟩:=h;refine⟨z,?_⟩;rcases q with q|⟨b,cap,s,hv,D,y,r⟩
 ·exact .inl q
 ·have G:=(aal.1 y).1;exact .inr ⟨b,cap,s,hv,D,by rw[g.block _ G];exact y,r⟩
theorem iM{a w w':World}{row:Option Nat}(h:Gr a w)(b:w.grownBy w' row)(q:∀k,row=some k->a.heap.size<=k):Gr a w':=Below.grown h b h.size q
theorem aP{w:World}{B:Nat}{e:TypeId}{size n:Nat}{v:Value}{xs:List Value}(h:w.ownsRow B e size v n xs):∀k,v.ownBlock=some k->B<=k:=by
 intro k q;rcases h.2 with⟨rfl,_⟩|⟨b,cap,y,rfl,s,_⟩
 ·cases q
 ·cases q;exact s
theorem dK{P:abC}{a0 w:World}{B:Array Oper}{rest:List Oper}{o:Oper}{a:Act}{Q:Exit->Act->World->Prop}(H:o.guard=none)(s x:Operand)(t:TypeId)
  (S:o.op=.call {callee:=.builtin .append,args:=#[s,x],argTypes:=#[t,t]}) (e:TypeId) (i:TypeInfo) (z:Value) (size bytes:Nat) (U:P.underlying t=some (.slice e)) (hi:P.info? e=some i)
  (V:i.zero=some z) (y:i.size=size) (I:i.bytes=bytes) (J:z.cells.size=size) (L:0<size) (v:Value) (n:Nat) (xs:List Value) (hs:a.eval s=v) (q:w.ownsRow a0.heap.size e size v n xs)
  (us:List Value) (M:us.length=size) (G:∀u∈us,u.oneCell'=true) (Y:a.eval x=.slice (some ⟨w.heap.size,0,none⟩) 1 1) (O:Gr a0 w) (a4:n+1<=4611686018427387904) (b:(n+1)*bytes<=140737488355328)
  (h:∀D w',w'.ownsRow a0.heap.size e size D (n+1) (xs++us)->Gr a0 w'->wpList P B Q rest (a.put o.dst D) w'):wpList P B Q (o::rest) a (w.alloc (.cells us.toArray e)):=by
 refine wpList_append_own _ H s x t S a0.heap.size e i z size bytes U hi V y I J L v n xs hs (q.alloc _) ⟨w.heap.size,0,none⟩ 1 1 us Y (by rw[M,ack]) ?_ G (by unfold maxLen;omega) b (by have:=O.size;simp;omega)
  (fun D w' G Z _=>h D w' G (iM (O.alloc _) Z (aP q)))
 intro j u hj;have he:(⟨w.heap.size,0,none⟩:Addr).add j=⟨w.heap.size,j,none⟩:=by
  unfold Addr.add
  split
  ·rename_i h0;rw[h0]
  ·simp
 rw[he,aaJ];simpa using hj
theorem ba{w:World}{B:Nat}{e:TypeId}{size n:Nat}{v:Value}{xs:List Value}(h:w.ownsRow B e size v n xs):∀k,v.ownBlock=some k->k<w.heap.size:=by
 intro k q;rcases h.2 with⟨rfl,_⟩|⟨b,cap,y,rfl,_,s,_⟩
 ·cases q
 ·cases q;exact(aal.1 s).1
def xw(v:Value)(w w':World):Prop:=∀k o,k<w.heap.size->v.ownBlock≠some k->w'.cell? ⟨k,o,none⟩=w.cell? ⟨k,o,none⟩/\w'.frozen? ⟨k,o,none⟩=w.frozen? ⟨k,o,none⟩
theorem mS{P:abC}{a0 w:World}{B:Array Oper}{rest:List Oper}{o:Oper}{a:Act}{Q:Exit->Act->World->Prop}(H:o.guard=none)(s x:Operand)(t:TypeId)
  (Y:o.op=.call {callee:=.builtin .append,args:=#[s,x],argTypes:=#[t,t]}) (e:TypeId) (i:TypeInfo) (z:Value) (size bytes:Nat) (Z:P.underlying t=some (.slice e)) (hi:P.info? e=some i)
  (hz:i.zero=some z) (y:i.size=size) (I:i.bytes=bytes) (J:z.cells.size=size) (L:0<size) (v:Value) (n:Nat) (xs:List Value) (hs:a.eval s=v) (q:w.ownsRow a0.heap.size e size v n xs)
  (us:List Value) (M:us.length=size) (G:∀u∈us,u.oneCell'=true) (hx:a.eval x=.slice (some ⟨w.heap.size,0,none⟩) 1 1) (S:Gr a0 w) (a7:n+1<=4611686018427387904) (b:(n+1)*bytes<=140737488355328)
  (h:∀D w',w'.ownsRow a0.heap.size e size D (n+1) (xs++us)->Gr a0 w'->xw v w w'->wpList P B Q rest (a.put o.dst D) w'):wpList P B Q (o::rest) a (w.alloc (.cells us.toArray e)):=by
 refine wpList_append_own _ H s x t Y a0.heap.size e i z size bytes Z hi hz y I J L v n xs hs (q.alloc _) ⟨w.heap.size,0,none⟩ 1 1 us hx (by rw[M,ack]) ?_ G (by unfold maxLen;omega) b (by have:=S.size;simp;omega)
  (fun D w' G U _=>h D w' G (iM (S.alloc _) U (aP q)) (fun k o hk O=>by
   have V:w'.heap[k]?=w.heap[k]?:=(U.block k (by simp;omega) (fun e=>O e.symm)).trans (Below.heap_alloc _ _ _ hk);exact⟨aaX V,aaE V⟩))
 intro j u hj;have he:(⟨w.heap.size,0,none⟩:Addr).add j=⟨w.heap.size,j,none⟩:=by
  unfold Addr.add
  split
  ·rename_i h0;rw[h0]
  ·simp
 rw[he,aaJ];simpa using hj
theorem FB{P:abC}{a0 w:World}{z:Array Oper}{rest:List Oper}{o:Oper}{a:Act}{Q:Exit->Act->World->Prop}(G:o.guard=none)(D x:Operand)(t u:TypeId)
  (O:o.op=.call {callee:=.builtin .append,args:=#[D,x],argTypes:=#[t,u]}) (e:TypeId) (i:TypeInfo) (S:P.underlying t=some (.slice e)) (hu:P.underlying u=some .string) (hi:P.info? e=some i) (U:i.zero=some (.int .u8 0))
  (y:i.size=1) (H:i.bytes=1) (v:Value) (n:Nat) (xs:List Value) (hs:a.eval D=v) (q:w.ownsRow a0.heap.size e 1 v n xs) (s:ByteArray) (V:a.eval x=.string s) (J:Gr a0 w)
  (b:n+s.size<=140737488355328)
  (h:∀B w',w'.ownsRow a0.heap.size e 1 B (n+s.size) (xs++Lib.strCells s)->Gr a0 w'->xw v w w'->wpList P z Q rest (a.put o.dst B) w'):wpList P z Q (o::rest) a w:=
 Lib.wpList_append_own_string w G D x t u O a0.heap.size e i S hu hi U y H v n xs hs q s V (by unfold maxLen;omega) b J.size
  fun B w' Y L _=>h B w' Y (iM J L (aP q)) (fun k o Z I=>by
   have M:w'.heap[k]?=w.heap[k]?:=L.block k Z (fun e=>I e.symm);exact⟨aaX M,aaE M⟩)
end
section
open Go
theorem Ky(a b:List UInt8):Op.bytesLess a b=true↔Zx a b=-1:=by
 induction a generalizing b with
 |nil=>cases b<;>simp[Op.bytesLess,Zx]
 |cons x B z=>
  cases b with
  |nil=>simp[Op.bytesLess,Zx]
  |cons y D=>
   simp only[Op.bytesLess,Zx,Bool.or_eq_true,decide_eq_true_eq,Bool.and_eq_true,beq_iff_eq,z];by_cases q:x<y
   ·simp[q]
   ·by_cases s:y<x
    ·have:x≠y:=by rintro rfl;exact q s
     simp[q,s,this]
    ·have:x=y:=abx (aaF.1 s) (aaF.1 q);simp[this]
theorem nM(a b:List UInt8):Zx a b=0↔a=b:=by
 induction a generalizing b with
 |nil=>cases b<;>simp[Zx]
 |cons x B z=>
  cases b with
  |nil=>simp[Zx]
  |cons y D=>
   simp only[Zx,List.cons.injEq];by_cases q:x<y
   ·have:x≠y:=by rintro rfl;exact UInt8.lt_irrefl _ q
    simp[q,this]
   ·by_cases s:y<x
    ·have:x≠y:=by rintro rfl;exact q s
     simp[q,s,this]
    ·have:x=y:=abx (aaF.1 s) (aaF.1 q);simp[this,z]
theorem yI(a b:List UInt8):Zx a b=-1\/Zx a b=0\/Zx a b=1:=by
 induction a generalizing b with
 |nil=>cases b<;>simp[Zx]
 |cons x z q=>
  cases b with
  |nil=>simp[Zx]
  |cons y s=>
   simp only[Zx]
   split
   ·simp
   ·split
    ·simp
    ·exact q s
theorem wi(y:Nat)(h:y<2^63):2^63+y=2^63^^^y:=by
 apply Nat.eq_of_testBit_eq;intro i;rw[Nat.testBit_xor];rcases Nat.lt_trichotomy i 63 with hi|hi|hi
 ·rw[Nat.testBit_two_pow_add_gt hi,aam (by omega)];simp
 ·subst hi;rw[Nat.testBit_two_pow_add_eq,Nat.testBit_two_pow_self];simp
 ·rw[aam (by omega),aaG (x:=y) (Nat.lt_trans h (Nat.pow_lt_pow_right (by omega) hi)),aaG]
  ·rfl
  ·have:2^64<=2^i:=Nat.pow_le_pow_right (by omega) hi;omega
theorem et(a:Nat)(ha:a<18446744073709551616):(aby 64 (a:Int)).toNat=a:=by
 rw[BitVec.ofInt_natCast,BitVec.toNat_ofNat];exact Nat.mod_eq_of_lt ha
theorem N6(n:Int)(q:-9223372036854775808<=n)(s:n<=9223372036854775807):bits BinOp.xor aaY (aaY.wrap n) 9223372036854775808=((n+9223372036854775808).toNat:Int):=by
 have hw:aaY.wrap n=(((n % 18446744073709551616).toNat:Nat):Int):=by
  simp only[abB];omega
 rw[hw];generalize z:(n % 18446744073709551616).toNat=x;have b:x<18446744073709551616:=by omega
 show aaY.wrap ((aby 64 (x:Int)^^^aby 64 ((9223372036854775808:Nat):Int)).toNat:Int)=_;rw[BitVec.toNat_xor,et x b,et _ (by omega),abB];have e:x^^^9223372036854775808=(n+9223372036854775808).toNat:=by
  rcases acb x 9223372036854775808 with h|h
  ·have:=wi x h;rw[acd,show(9223372036854775808:Nat)=2^63 from rfl,<-this];omega
  ·obtain⟨y,rfl⟩:=Nat.exists_eq_add_of_le h;have:=wi y (by omega);rw[show(9223372036854775808:Nat)=2^63 from rfl,this,acd (2^63) y,Nat.xor_assoc,Nat.xor_self,Nat.xor_zero];omega
 rw[e];omega
end
section
open Go Go.RowKit
theorem size_data(s:ByteArray):s.size=s.data.toList.length:=by rw[Array.length_toList];rfl
def lk(b:UInt8):Value:=.int .u8 (b.toNat:Int)
def ey(a0 w:World)(v:Value)(l:List UInt8):Prop:=w.ownsRow a0.heap.size 5 1 v l.length (l.map lk)
theorem ey.row{a0 w:World}{v:Value}{l:List UInt8}(h:ey a0 w v l):w.ownsRow a0.heap.size 5 1 v l.length (l.map lk):=h
theorem wj:(Zm.info? 5).map (fun i=>(i.zero,i.size,i.bytes))=some (some (.int .u8 0),1,1):=by kernel_rfl
theorem SP(m d:Nat):(m:Int)/(d:Int) % 256=((m/d).toUInt8.toNat:Int):=by
 simp
theorem nm{a0 w:World}{v:Value}{l:List UInt8}{c:UInt8}(h:w.ownsRow a0.heap.size 5 1 v (l.length+1) (l.map lk++[lk c])):ey a0 w v (l++[c]):=by
 unfold ey;rw[List.length_append,List.map_append];exact h
theorem oQ{a0 w:World}{v:Value}{l:List UInt8}(h:ey a0 w v l):(convert 188 9 v).run Zm w=.ok (.string ⟨l.toArray⟩) w:=by
 obtain⟨I,z⟩:=h;rcases z with⟨rfl,b⟩|⟨g,cap,q,rfl,_,B,hn,_,y,D⟩
 ·have G:l=[]:=List.eq_nil_of_length_eq_zero b;subst G;exact run_convert_bytes_nil (P:=Zm) w 188 5 ZQ ZA 0 0 9 Zs
 ·refine run_convert_bytes_back (P:=Zm) w 188 9 5 ⟨g,0,none⟩ cap l ZQ ZA Zs (fun j s=>?_);have H:(⟨g,0,none⟩:Addr).add j=⟨g,j,none⟩:=by
   unfold Addr.add
   split
   ·rename_i b;rw[b]
   ·simp
  have hc:q.toList[j]?=some (lk l[j]):=by
   have e:=congrArg (fun l:List Value=>l[j]?) D;simp only[Nat.mul_one]at e;rw[List.getElem?_take,if_pos s,List.getElem?_map,List.getElem?_eq_getElem s]at e;exact e
  rw[H];unfold acj;simp only[B];rw[<-Array.getElem?_toList];exact hc
theorem eH(s:ByteArray)(j:Nat)(b:j<s.size):s[j]=s.data.toList[j]'(by rw[<-size_data];exact b):=by
 rw[Array.getElem_toList];rfl
theorem xx{k c:UInt8}(h:k≠c):¬(k.toNat:Int)=(c.toNat:Int):=fun e=>h (UInt8.toNat_inj.1 (by omega))
theorem bz{a b:ByteArray}(h:a.data.toList=b.data.toList):a=b:=by
 cases a;cases b;simp only[acF];exact Array.ext' h
theorem N7(t:ByteArray)(k:UInt8)(r:List UInt8)(h:t.data.toList=k::r):t.extract 1 t.size=⟨r.toArray⟩:=by
 apply bz;rw[Lib.extract_data,h,List.drop_one,List.tail_cons,List.take_of_length_le (by rw[size_data,h];simp)]
theorem QH(t:ByteArray)(k:UInt8)(r:List UInt8)(h:t.data.toList=k::r)(b:0<t.size):t[0]=k:=by
 rw[eH t 0 b];simp[h]
theorem cq{w:World}{B:Nat}{e:TypeId}{size n:Nat}{v:Value}{xs:List Value}(h:w.ownsRow B e size v n xs){a:Addr}{u:Value}(q:¬v.ownBlock=some a.block):(w.setCell a u).ownsRow B e size v n xs:=by
 obtain⟨y,b⟩:=h;refine⟨y,?_⟩;rcases b with b|⟨g,cap,s,rfl,z,D,r⟩
 ·exact .inl b
 ·exact .inr ⟨g,cap,s,rfl,z,by rw[Below.heap_setCell _ _ _ _ (fun e=>q (by rw[<-e];rfl))];exact D,r⟩
def lenOf:Value->Nat| .string t=>t.size|_=>0
theorem AA{w:World}{k:Nat}{x y u v:Value}(b:w.cell? ⟨k,0,none⟩=some x)(q:w.cell? ⟨k,1,none⟩=some y):
  ((w.setCell ⟨k,0,none⟩ u).setCell ⟨k,1,none⟩ v).cell? ⟨k,0,none⟩=some u/\((w.setCell ⟨k,0,none⟩ u).setCell ⟨k,1,none⟩ v).cell? ⟨k,1,none⟩=some v:=by
 have e:(⟨k,1,none⟩:Addr)≠⟨k,0,none⟩:=by simp
 have e':(⟨k,0,none⟩:Addr)≠⟨k,1,none⟩:=by simp
 refine⟨?_,aaB _ _ _ ((aan _ _ _ _ e').trans q)⟩;rw[aan _ _ _ _ e];exact aaB _ _ _ b
theorem kF(l:List UInt8):(⟨l.toArray⟩:ByteArray).size=l.length:=by show l.toArray.size=_;simp
