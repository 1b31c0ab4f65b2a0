/-
  Part 1 of the proof.
-/
import Derived.Shelf.Strings.Trim
import Derived.Shelf.Small.Utf8
import Derived.Shelf.Small.Wraps
import Derived.Shelf.Strings.Shaped
import Derived.Shelf.Sort.Plain
import Derived.Shelf.GgSortFunc.Tiny
import Derived.Shelf.Strings.IndexAnyAll
import Derived.Shelf.Strings.Repeat
import Derived.Shelf.Unicode.DecodeAny
import Derived.Shelf.Strings.BuilderCap
import Derived.Shelf.Slices.CompactI
import Derived.Shelf.Slices.CompactS
import Derived.Shelf.Slices.In.SortNone2
import Derived.Shelf.SlSortFuncK.WholeK
import Derived.Shelf.SlicesE.Index
import Derived.Test.YtldmhjbdahjhdaaGreatDoorProg
import Derived.Shelf.SlSortCmp.WholeK
import Derived.Shelf.SlicesQ.Contains
import Derived.Shelf.SlicesQ.IndexFunc
import Derived.Shelf.SlicesE.Clone
import Derived.WalkSpells
import Derived.WalkLawsBesides
import Derived.Lib.Hide
import Derived.Lib.QuietBelow
import Derived.BigGuardPart
open Go.Proofs.Tryz
open Go.Shelf renaming Ren->ae
open Go.Proofs.Tryz renaming underlying3->ak,prog->ap,underlying4->az,zeroValue3->aQ,zeroValue4->aS,underlying0->aV,zeroValue9->aX,underlying5->a2,sizeOf3->bc,zeroValue0->be,underlying127->bh,sizeOf4->bj,zeroValue5->bu,zeroValue127->bv,isAgg3->bz,isAgg4->bA,sizeOf9->bB,underlying245->bC,sizeOf0->bM,zeroValue245->bP,sizeOf127->bQ,isAgg9->bT,sizeOf5->bW,isAgg127->bX,isAgg0->bZ,isAgg5->b_,sizeOf245->cf,underlying194->cg,zeroValue194->cj,underlying57->cl,isAgg245->co,zeroValue57->cK,underlying320->cL,underlying203->cO,underlying238->cW,underlying239->c1,underlying289->c2,underlying293->da,underlying333->de,underlying334->dg,underlying21->dr,zeroValue320->dA,zeroValue203->dD,zeroValue238->dF,zeroValue239->dJ,zeroValue289->dQ,zeroValue293->dS,zeroValue333->dT,zeroValue334->dU,zeroValue21->em,func126->ez,func179->eA,sizeOf194->eB,underlying272->eT,underlying274->eV,zeroValue188->fn,zeroValue272->fy,zeroValue274->fA,func183->fI,func184->fK,underlying49->fS,isAgg194->fT,sizeOf57->gc,sizeOf320->gw,sizeOf203->g0,sizeOf238->g5,sizeOf239->g6,sizeOf289->g7,sizeOf293->g8,sizeOf333->g9,sizeOf334->hm,zeroValue49->hO,isAgg57->h1,sizeOf21->iu,isAgg320->iF,isAgg203->iP,isAgg238->iQ,isAgg239->iR,isAgg289->iT,isAgg293->iU,isAgg333->i0,isAgg334->i1,underlying324->i6,underlying216->jh,underlying217->ji,underlying267->jk,underlying229->js,underlying195->jH,underlying105->jT,sizeOf188->jU,sizeOf272->jZ,sizeOf274->kk,zeroValue324->ko,func182->kq,isAgg21->kr,zeroValue217->ks,zeroValue267->kx,zeroValue229->kE,zeroValue195->kI,func107->kM,func162->k2,func163->lc,func216->lq,func217->lr,zeroValue105->l_,isAgg188->mN,isAgg272->mO,isAgg274->mQ,sizeOf49->mY,func72->pb,func131->pR,func109->pT,func178->pU,func213->pV,func260->pW,func295->p1,isAgg49->qn
open Go.Lib renaming compareBytes->aJ,compact->ch,IsBuilderF->en,byteCells->eY,indexByte->fe,hasPrefix->jE,setCells->lW,cut->p2
open Go renaming World->aU,Value->bt,Calls->bF,TypeId->dZ,Program->ib,redrawn->ik,TypeInfo->m3,Operand->qr
open Array renaming getElem?_eq_some_iff->cs
open Nat renaming testBit_two_pow_of_ne->cD,testBit_lt_two_pow->eh,lt_or_ge->mm,xor_comm->mp,one_mul->m4
open Go.World renaming cell?_setCell_other->cF,cell?_setCell_same->dh,frozen?_of_block->ea,cell?_alloc_new->el,cell?_of_block->es,cell?->m2
open Go.Value renaming int->di
open UInt8 renaming not_lt->eb,le_antisymm->gf
open Go.Proofs.SlLaysF0 renaming n6->ej
open Go.Proofs.SlLaysH0 renaming n6->ek,n8->ms
open Go.IntKind renaming u64->ew,wrap_u64->hI
open Go.Sort renaming grow->eH,ahead->fl,putRow->pe,Holds->rc
open Go.Proofs renaming cell_of_shapedOpen_int->fM
open BitVec renaming ofInt->gs
open List renaming replicate->i2
open Go.Proofs.Builder renaming Extra->i7
open Go.Proofs.SlLaysE0 renaming n41->md
open Go.Proofs.LaysM renaming n145->mV
open Go.Proofs.SlLaysQ renaming n7->m0
open Go.Proofs.Lays renaming n170->m5,n169->m6,n160->m7,n119->m8,n106->m9,n137->na,n103->ne,n104->nl,n122->nI,n144->nJ,n145->nK,n189->n2,n191->n5,n152->n9,n226->og,n153->oG,n105->oR,n194->pa,n99->pi
open Go.Proofs.Lays2 renaming n20->o_
open ByteArray.mk renaming injEq->pj
open List.cons renaming injEq->qQ
set_option maxRecDepth 100000
set_option maxHeartbeats 100000000
set_option linter.all false
namespace Go.Proofs
open Go.Shelf
theorem ab{q:Type}{o:Option q}{a b:q}(h:o=some a)(e:a=b):o=some b:=e▸h
def Tryz.Hi:ae:=⟨fun|170=>196|n=>n,fun|70=>272|3=>3|0=>0|72=>274|37=>188|5=>5|n=>n,fun|n=>n⟩
theorem Tryz.Su:m5 ap Tryz.Hi:={
 mixed:=by kernel_rfl
 f170:=ab func196 (by kernel_rfl)
 t0:=aV
 a0:=bZ
 z0:=bM
 v0:=be
 t3:=ak
 a3:=bz
 z3:=bc
 v3:=aQ
 t37:=underlying188
 a37:=mN
 z37:=jU
 v37:=fn
 t70:=eT
 a70:=mO
 z70:=jZ
 v70:=fy
 t72:=eV
 a72:=mQ
 z72:=kk
 v72:=fA}
def Tryz.xC:ae:=⟨fun|169=>197|n=>n,fun|70=>272|9=>9|0=>0|72=>274|37=>188|127=>324|3=>3|5=>5|n=>n,fun|n=>n⟩
theorem Tryz.JZ:m6 ap Tryz.xC:={
 mixed:=by kernel_rfl
 f169:=ab func197 (by kernel_rfl)
 t0:=aV
 a0:=bZ
 z0:=bM
 v0:=be
 t3:=ak
 a3:=bz
 z3:=bc
 v3:=aQ
 t9:=underlying9
 a9:=bT
 z9:=bB
 v9:=aX
 t37:=underlying188
 a37:=mN
 z37:=jU
 v37:=fn
 t70:=eT
 a70:=mO
 z70:=jZ
 v70:=fy
 t72:=eV
 a72:=mQ
 z72:=kk
 v72:=fA
 t127:=i6
 a127:=isAgg324
 z127:=sizeOf324
 v127:=ko}
theorem Tryz.oO:i7 ap Tryz.xC:={
 sizeBuilder:=by kernel_rfl
 liesBuilder:=by kernel_rfl
 t5:=a2
 a5:=b_
 z5:=bW
 v5:=bu
 infoByte:=by kernel_rfl
 cellsByte:=by kernel_rfl
 sizeByte:=by kernel_rfl
 neB5:=by decide}
open Go.RowKit in
theorem Tryz.Builder_String_any(B b:Nat)(l:List UInt8)(w:aU)(h:Lib.IsBuilder 274 5 B b (eY l) w)(q:B<=w.heap.size):
 bF prog 197 #[.pointer (some ⟨b,0,none⟩)] w fun e s=>e=.returned (.string ⟨l.toArray⟩)/\Below B w s:=Any.Builder_String_any Tryz.JZ Tryz.oO B b l w h q
def Tryz.Hj:ae:=⟨fun|160=>186|232=>239|231=>238|227=>133|234=>241|233=>240|236=>243|235=>242|228=>134|271=>285|151=>284|197=>283|120=>303|152=>131|260=>302|137=>72|119=>182|224=>183|225=>184|217=>126|266=>179|n=>n,fun|9=>9|4=>4|3=>3|5=>5|117=>217|116=>216|0=>0|124=>267|21=>21|105=>345|46=>127|119=>363|139=>366|138=>365|n=>n,fun|3=>3|4=>4|n=>n⟩
theorem Tryz.Sv:m7 ap Tryz.Hj:={
 mixed:=by kernel_rfl
 f119:=ab kq (by kernel_rfl)
 f120:=ab func303 (by kernel_rfl)
 f137:=ab pb (by kernel_rfl)
 f151:=ab func284 (by kernel_rfl)
 f152:=ab pR (by kernel_rfl)
 f160:=ab func186 (by kernel_rfl)
 f197:=ab func283 (by kernel_rfl)
 f217:=ab ez (by kernel_rfl)
 f224:=ab fI (by kernel_rfl)
 f225:=ab fK (by kernel_rfl)
 f227:=ab func133 (by kernel_rfl)
 f228:=ab func134 (by kernel_rfl)
 f231:=ab func238 (by kernel_rfl)
 f232:=ab func239 (by kernel_rfl)
 f233:=ab func240 (by kernel_rfl)
 f234:=ab func241 (by kernel_rfl)
 f235:=ab func242 (by kernel_rfl)
 f236:=ab func243 (by kernel_rfl)
 f260:=ab func302 (by kernel_rfl)
 f266:=ab eA (by kernel_rfl)
 f271:=ab func285 (by kernel_rfl)
 t0:=aV
 a0:=bZ
 z0:=bM
 v0:=be
 t3:=ak
 a3:=bz
 z3:=bc
 v3:=aQ
 t4:=az
 a4:=bA
 z4:=bj
 v4:=aS
 t5:=a2
 a5:=b_
 z5:=bW
 v5:=bu
 t9:=underlying9
 a9:=bT
 z9:=bB
 v9:=aX
 t21:=dr
 a21:=kr
 z21:=iu
 v21:=em
 t46:=bh
 a46:=bX
 z46:=bQ
 v46:=bv
 t105:=underlying345
 a105:=isAgg345
 z105:=sizeOf345
 v105:=zeroValue345
 t116:=jh
 a116:=isAgg216
 z116:=sizeOf216
 t117:=ji
 a117:=isAgg217
 z117:=sizeOf217
 v117:=ks
 t119:=underlying363
 a119:=isAgg363
 z119:=sizeOf363
 t124:=jk
 a124:=isAgg267
 z124:=sizeOf267
 v124:=kx
 t138:=underlying365
 a138:=isAgg365
 z138:=sizeOf365
 v138:=zeroValue365
 t139:=underlying366
 a139:=isAgg366
 z139:=sizeOf366
 v139:=zeroValue366
 g3:=by kernel_rfl
 g4:=by kernel_rfl}
def Tryz.Hk:ae:=⟨fun|119=>182|n=>n,fun|21=>21|4=>4|n=>n,fun|n=>n⟩
theorem Tryz.Sw:m8 ap Tryz.Hk:={
 mixed:=by kernel_rfl
 f119:=ab kq (by kernel_rfl)
 t4:=az
 a4:=bA
 z4:=bj
 v4:=aS
 t21:=dr
 a21:=kr
 z21:=iu
 v21:=em}
theorem Tryz.utf8_ValidRune(r:Int)(w:aU):
 bF prog 182 #[.int .i32 r] w fun e b=>e=.returned (.bool (Lib.validRune r))/\b=w:=Any.utf8_ValidRune Tryz.Sw r w
def Tryz.Hl:ae:=⟨fun|106=>173|213=>224|265=>279|n=>n,fun|9=>9|3=>3|n=>n,fun|n=>n⟩
theorem Tryz.Sx:m9 ap Tryz.Hl:={
 mixed:=by kernel_rfl
 f106:=ab func173 (by kernel_rfl)
 f213:=ab func224 (by kernel_rfl)
 f265:=ab func279 (by kernel_rfl)
 t3:=ak
 a3:=bz
 z3:=bc
 v3:=aQ
 t9:=underlying9
 a9:=bT
 z9:=bB
 v9:=aX}
open Go.RowKit in
theorem Tryz.strings_Compare(a b:ByteArray)(w:aU):
 bF prog 173 #[.string a,.string b] w fun e q=>e=.returned (.int .i64 (aJ a.data.toList b.data.toList))/\q=w:=Any.strings_Compare Tryz.Sx a b w
def Tryz.Hm:ae:=⟨fun|137=>72|217=>126|266=>179|n=>n,fun|9=>9|5=>5|3=>3|n=>n,fun|n=>n⟩
theorem Tryz.Sy:na ap Tryz.Hm:={
 mixed:=by kernel_rfl
 f137:=ab pb (by kernel_rfl)
 f217:=ab ez (by kernel_rfl)
 f266:=ab eA (by kernel_rfl)
 t3:=ak
 a3:=bz
 z3:=bc
 v3:=aQ
 t5:=a2
 a5:=b_
 z5:=bW
 v5:=bu
 t9:=underlying9
 a9:=bT
 z9:=bB
 v9:=aX}
open Go.RowKit in
theorem Tryz.strings_IndexByte(s:ByteArray)(c:Int)(w:aU):
 bF prog 72 #[.string s,.int .u8 c] w fun e b=>e=.returned (.int .i64 (fe s.data.toList c.toNat.toUInt8))/\b=w:=Any.strings_IndexByte Tryz.Sy s c w
def Tryz.Hn:ae:=⟨fun|103=>185|210=>237|206=>109|n=>n,fun|9=>9|4=>4|24=>229|3=>3|n=>n,fun|n=>n⟩
theorem Tryz.Sz:ne ap Tryz.Hn:={
 mixed:=by kernel_rfl
 f103:=ab func185 (by kernel_rfl)
 f206:=ab pT (by kernel_rfl)
 f210:=ab func237 (by kernel_rfl)
 t3:=ak
 a3:=bz
 z3:=bc
 v3:=aQ
 t4:=az
 a4:=bA
 z4:=bj
 v4:=aS
 t9:=underlying9
 a9:=bT
 z9:=bB
 v9:=aX
 t24:=js
 a24:=isAgg229
 z24:=sizeOf229
 v24:=kE}
open Go.RowKit in
theorem Tryz.strings_CutPrefix(s p:ByteArray)(w:aU):
 bF prog 185 #[.string s,.string p] w fun e b=>e=.returned (.tuple #[.string ⟨(Lib.trimPrefix s.data.toList p.data.toList).toArray⟩,.bool (jE s.data.toList p.data.toList)])/\b=w:=Any.strings_CutPrefix Tryz.Sz s p w
def Tryz.Ho:ae:=⟨fun|104=>141|211=>198|207=>249|n=>n,fun|9=>9|4=>4|24=>229|3=>3|n=>n,fun|n=>n⟩
theorem Tryz.SA:nl ap Tryz.Ho:={
 mixed:=by kernel_rfl
 f104:=ab func141 (by kernel_rfl)
 f207:=ab func249 (by kernel_rfl)
 f211:=ab func198 (by kernel_rfl)
 t3:=ak
 a3:=bz
 z3:=bc
 v3:=aQ
 t4:=az
 a4:=bA
 z4:=bj
 v4:=aS
 t9:=underlying9
 a9:=bT
 z9:=bB
 v9:=aX
 t24:=js
 a24:=isAgg229
 z24:=sizeOf229
 v24:=kE}
open Go.RowKit in
theorem Tryz.strings_CutSuffix(s p:ByteArray)(w:aU)(hs:s.size<=9223372036854775807):
 bF prog 141 #[.string s,.string p] w fun e b=>e=.returned (.tuple #[.string ⟨(Lib.trimSuffix s.data.toList p.data.toList).toArray⟩,.bool (Lib.hasSuffix s.data.toList p.data.toList)])/\b=w:=Any.strings_CutSuffix Tryz.SA s p w hs
def Tryz.Hp:ae:=⟨fun|122=>125|215=>178|n=>n,fun|3=>3|4=>4|n=>n,fun|n=>n⟩
theorem Tryz.SC:nI ap Tryz.Hp:={
 mixed:=by kernel_rfl
 f122:=ab func125 (by kernel_rfl)
 f215:=ab pU (by kernel_rfl)
 t3:=ak
 a3:=bz
 z3:=bc
 v3:=aQ
 t4:=az
 a4:=bA
 z4:=bj
 v4:=aS}
open Go.RowKit in
theorem Tryz.cmp_Compare_int(x y:Int)(w:aU):
 bF prog 125 #[.int .i64 x,.int .i64 y] w fun e b=>e=.returned (.int .i64 (Lib.compareInt x y))/\b=w:=Any.cmp_Compare_int Tryz.SC x y w
open Go.RowKit in
theorem Tryz.Builder_Len_f(B b:Nat)(q:List bt)(w:aU)(h:en 274 5 B b q w):
 bF prog 196 #[.pointer (some ⟨b,0,none⟩)] w fun e s=>e=.returned (.int .i64 q.length)/\s=w:=Any.Builder_Len_f Tryz.Su B b q w h
open Go.RowKit in
theorem Tryz.Builder_String_any_f(B b:Nat)(l:List UInt8)(w:aU)(h:en 274 5 B b (eY l) w)(q:B<=w.heap.size):
 bF prog 197 #[.pointer (some ⟨b,0,none⟩)] w fun e s=>e=.returned (.string ⟨l.toArray⟩)/\(en 274 5 B b (eY l) s/\Below B w s):=Any.Builder_String_any_f Tryz.JZ Tryz.oO B b l w h q
def Tryz.Hq:ae:=⟨fun|144=>100|143=>150|219=>213|217=>126|225=>184|224=>183|267=>260|266=>179|314=>295|n=>n,fun|9=>9|4=>4|3=>3|5=>5|46=>127|146=>320|51=>245|n=>n,fun|1=>2|n=>n⟩
theorem Tryz.SD:nJ ap Tryz.Hq:={
 mixed:=by kernel_rfl
 f143:=ab func150 (by kernel_rfl)
 f144:=ab func100 (by kernel_rfl)
 f217:=ab ez (by kernel_rfl)
 f219:=ab pV (by kernel_rfl)
 f224:=ab fI (by kernel_rfl)
 f225:=ab fK (by kernel_rfl)
 f266:=ab eA (by kernel_rfl)
 f267:=ab pW (by kernel_rfl)
 f314:=ab p1 (by kernel_rfl)
 t3:=ak
 a3:=bz
 z3:=bc
 v3:=aQ
 t4:=az
 a4:=bA
 z4:=bj
 v4:=aS
 t5:=a2
 a5:=b_
 z5:=bW
 v5:=bu
 t9:=underlying9
 a9:=bT
 z9:=bB
 v9:=aX
 t46:=bh
 a46:=bX
 z46:=bQ
 v46:=bv
 t51:=bC
 a51:=co
 z51:=cf
 v51:=bP
 t146:=cL
 a146:=iF
 z146:=gw
 v146:=dA
 g1:=by kernel_rfl}
open Go.RowKit Go.Lib in
theorem Tryz.strings_Contains_one(s:ByteArray)(c:UInt8)(w:aU):
 bF prog 100 #[.string s,.string ⟨#[c]⟩] w fun e b=>e=.returned (.bool (decide (0<=fe s.data.toList c)))/\b=w:=Any.strings_Contains_one Tryz.SD s c w
def Tryz.Hr:ae:=⟨fun|145=>118|220=>169|219=>213|217=>126|225=>184|224=>183|267=>260|266=>179|314=>295|n=>n,fun|9=>9|4=>4|59=>195|3=>3|5=>5|46=>127|146=>320|51=>245|n=>n,fun|1=>2|n=>n⟩
theorem Tryz.SE:nK ap Tryz.Hr:={
 mixed:=by kernel_rfl
 f145:=ab func118 (by kernel_rfl)
 f217:=ab ez (by kernel_rfl)
 f219:=ab pV (by kernel_rfl)
 f220:=ab func169 (by kernel_rfl)
 f224:=ab fI (by kernel_rfl)
 f225:=ab fK (by kernel_rfl)
 f266:=ab eA (by kernel_rfl)
 f267:=ab pW (by kernel_rfl)
 f314:=ab p1 (by kernel_rfl)
 t3:=ak
 a3:=bz
 z3:=bc
 v3:=aQ
 t4:=az
 a4:=bA
 z4:=bj
 v4:=aS
 t5:=a2
 a5:=b_
 z5:=bW
 v5:=bu
 t9:=underlying9
 a9:=bT
 z9:=bB
 v9:=aX
 t46:=bh
 a46:=bX
 z46:=bQ
 v46:=bv
 t51:=bC
 a51:=co
 z51:=cf
 v51:=bP
 t59:=jH
 a59:=isAgg195
 z59:=sizeOf195
 v59:=kI
 t146:=cL
 a146:=iF
 z146:=gw
 v146:=dA
 g1:=by kernel_rfl}
open Go.RowKit Go.Lib in
theorem Tryz.strings_Cut(s b:ByteArray)(m:Int)(w:aU)(hs:s.size<4294967281)(q:w.cell? ⟨2,0,none⟩=some (.int .i64 m)):
 bF prog 118 #[.string s,.string b] w fun e y=>e=.returned (.tuple #[.string ⟨(p2 s.data.toList b.data.toList).1.toArray⟩,.string ⟨(p2 s.data.toList b.data.toList).2.1.toArray⟩,.bool (p2 s.data.toList b.data.toList).2.2])/\∃n,y=w.drewN n:=Any.strings_Cut Tryz.SE s b m w hs q
def Tryz.Ey:ae:=⟨fun|145=>118|220=>169|219=>213|217=>126|225=>184|224=>183|267=>260|266=>179|314=>295|n=>n,fun|9=>9|4=>4|59=>195|3=>3|5=>5|46=>127|146=>320|51=>245|n=>n,fun|1=>2|n=>n⟩
theorem Tryz.P3:mV ap Tryz.Ey:={
 mixed:=by kernel_rfl
 f145:=ab func118 (by kernel_rfl)
 f217:=ab ez (by kernel_rfl)
 f219:=ab pV (by kernel_rfl)
 f220:=ab func169 (by kernel_rfl)
 f224:=ab fI (by kernel_rfl)
 f225:=ab fK (by kernel_rfl)
 f266:=ab eA (by kernel_rfl)
 f267:=ab pW (by kernel_rfl)
 f314:=ab p1 (by kernel_rfl)
 t3:=ak
 a3:=bz
 z3:=bc
 v3:=aQ
 t4:=az
 a4:=bA
 z4:=bj
 v4:=aS
 t5:=a2
 a5:=b_
 z5:=bW
 v5:=bu
 t9:=underlying9
 a9:=bT
 z9:=bB
 v9:=aX
 t46:=bh
 a46:=bX
 z46:=bQ
 v46:=bv
 t51:=bC
 a51:=co
 z51:=cf
 v51:=bP
 t59:=jH
 a59:=isAgg195
 z59:=sizeOf195
 v59:=kI
 t146:=cL
 a146:=iF
 z146:=gw
 v146:=dA
 g1:=by kernel_rfl
 i3:=by kernel_rfl
 i4:=by kernel_rfl
 i5:=by kernel_rfl
 i9:=by kernel_rfl
 i46:=by kernel_rfl
 i51:=by kernel_rfl
 i59:=by kernel_rfl
 i146:=by kernel_rfl
 m1:=by kernel_rfl
 s1_3:=fun w h=>fM (zero:=#[.int .i64 0]) (t:=3) h (of_decide_eq_true (by kernel_rfl)) (by kernel_rfl) rfl (by kernel_rfl) (by kernel_rfl) ak}
def Tryz.Hs:ae:=⟨fun|189=>127|125=>107|257=>180|128=>162|129=>163|294=>228|295=>229|296=>230|297=>231|298=>232|299=>233|216=>234|300=>235|301=>236|328=>280|329=>216|330=>217|331=>281|332=>282|215=>178|343=>301|n=>n,fun|28=>49|3=>3|46=>127|0=>0|51=>245|53=>194|4=>4|183=>239|182=>238|131=>203|5=>5|9=>9|218=>289|222=>293|228=>333|229=>334|n=>n,fun|n=>n⟩
theorem Tryz.J0:n2 ap Tryz.Hs:={
 mixed:=by kernel_rfl
 f125:=ab kM (by kernel_rfl)
 f128:=ab k2 (by kernel_rfl)
 f129:=ab lc (by kernel_rfl)
 f189:=ab func127 (by kernel_rfl)
 f215:=ab pU (by kernel_rfl)
 f216:=ab func234 (by kernel_rfl)
 f257:=ab func180 (by kernel_rfl)
 f294:=ab func228 (by kernel_rfl)
 f295:=ab func229 (by kernel_rfl)
 f296:=ab func230 (by kernel_rfl)
 f297:=ab func231 (by kernel_rfl)
 f298:=ab func232 (by kernel_rfl)
 f299:=ab func233 (by kernel_rfl)
 f300:=ab func235 (by kernel_rfl)
 f301:=ab func236 (by kernel_rfl)
 f328:=ab func280 (by kernel_rfl)
 f329:=ab lq (by kernel_rfl)
 f330:=ab lr (by kernel_rfl)
 f331:=ab func281 (by kernel_rfl)
 f332:=ab func282 (by kernel_rfl)
 f343:=ab func301 (by kernel_rfl)
 t0:=aV
 a0:=bZ
 z0:=bM
 v0:=be
 t3:=ak
 a3:=bz
 z3:=bc
 v3:=aQ
 t4:=az
 a4:=bA
 z4:=bj
 v4:=aS
 t5:=a2
 a5:=b_
 z5:=bW
 v5:=bu
 t9:=underlying9
 a9:=bT
 z9:=bB
 v9:=aX
 t28:=fS
 a28:=qn
 z28:=mY
 v28:=hO
 t46:=bh
 a46:=bX
 z46:=bQ
 v46:=bv
 t51:=bC
 a51:=co
 z51:=cf
 v51:=bP
 t53:=cg
 a53:=fT
 z53:=eB
 v53:=cj
 t131:=cO
 a131:=iP
 z131:=g0
 v131:=dD
 t182:=cW
 a182:=iQ
 z182:=g5
 v182:=dF
 t183:=c1
 a183:=iR
 z183:=g6
 v183:=dJ
 t218:=c2
 a218:=iT
 z218:=g7
 v218:=dQ
 t222:=da
 a222:=iU
 z222:=g8
 v222:=dS
 t228:=de
 a228:=i0
 z228:=g9
 v228:=dT
 t229:=dg
 a229:=i1
 z229:=hm
 v229:=dU}
open Go.Sort Go.RowKit in
theorem Tryz.slices_Sort_int(b q cap:Nat)(s:List Int)(w:aU)(D:rc (di .i64) w b q s.toArray)(z:b<w.heap.size)(B:s.length<4611686018427387904):
 bF prog 127 #[.slice (some ⟨b,q,none⟩) s.length cap] w fun e G=>
  e=.returned (.tuple #[])/\∃n H,G=grow (pe (di .i64) (fl w n) b q (s.mergeSort fun x y=>decide (x<=y)).toArray) H:=Any.slices_Sort_int Tryz.J0 b q cap s w D z B
def Tryz.Ht:ae:=⟨fun|191=>167|189=>127|125=>107|257=>180|128=>162|129=>163|294=>228|295=>229|296=>230|297=>231|298=>232|299=>233|216=>234|300=>235|301=>236|328=>280|329=>216|330=>217|331=>281|332=>282|215=>178|343=>301|n=>n,fun|28=>49|0=>0|3=>3|46=>127|51=>245|53=>194|4=>4|183=>239|182=>238|131=>203|5=>5|9=>9|218=>289|222=>293|228=>333|229=>334|n=>n,fun|n=>n⟩
theorem Tryz.J1:n5 ap Tryz.Ht:={
 mixed:=by kernel_rfl
 f125:=ab kM (by kernel_rfl)
 f128:=ab k2 (by kernel_rfl)
 f129:=ab lc (by kernel_rfl)
 f189:=ab func127 (by kernel_rfl)
 f191:=ab func167 (by kernel_rfl)
 f215:=ab pU (by kernel_rfl)
 f216:=ab func234 (by kernel_rfl)
 f257:=ab func180 (by kernel_rfl)
 f294:=ab func228 (by kernel_rfl)
 f295:=ab func229 (by kernel_rfl)
 f296:=ab func230 (by kernel_rfl)
 f297:=ab func231 (by kernel_rfl)
 f298:=ab func232 (by kernel_rfl)
 f299:=ab func233 (by kernel_rfl)
 f300:=ab func235 (by kernel_rfl)
 f301:=ab func236 (by kernel_rfl)
 f328:=ab func280 (by kernel_rfl)
 f329:=ab lq (by kernel_rfl)
 f330:=ab lr (by kernel_rfl)
 f331:=ab func281 (by kernel_rfl)
 f332:=ab func282 (by kernel_rfl)
 f343:=ab func301 (by kernel_rfl)
 t0:=aV
 a0:=bZ
 z0:=bM
 v0:=be
 t3:=ak
 a3:=bz
 z3:=bc
 v3:=aQ
 t4:=az
 a4:=bA
 z4:=bj
 v4:=aS
 t5:=a2
 a5:=b_
 z5:=bW
 v5:=bu
 t9:=underlying9
 a9:=bT
 z9:=bB
 v9:=aX
 t28:=fS
 a28:=qn
 z28:=mY
 v28:=hO
 t46:=bh
 a46:=bX
 z46:=bQ
 v46:=bv
 t51:=bC
 a51:=co
 z51:=cf
 v51:=bP
 t53:=cg
 a53:=fT
 z53:=eB
 v53:=cj
 t131:=cO
 a131:=iP
 z131:=g0
 v131:=dD
 t182:=cW
 a182:=iQ
 z182:=g5
 v182:=dF
 t183:=c1
 a183:=iR
 z183:=g6
 v183:=dJ
 t218:=c2
 a218:=iT
 z218:=g7
 v218:=dQ
 t222:=da
 a222:=iU
 z222:=g8
 v222:=dS
 t228:=de
 a228:=i0
 z228:=g9
 v228:=dT
 t229:=dg
 a229:=i1
 z229:=hm
 v229:=dU}
open Go.Sort Go.RowKit in
theorem Tryz.sort_Ints(b q cap:Nat)(s:List Int)(w:aU)(D:rc (di .i64) w b q s.toArray)(z:b<w.heap.size)(B:s.length<4611686018427387904):
 bF prog 167 #[.slice (some ⟨b,q,none⟩) s.length cap] w fun e G=>
  e=.returned (.tuple #[])/\∃n H,G=grow (pe (di .i64) (fl w n) b q (s.mergeSort fun x y=>decide (x<=y)).toArray) H:=Any.sort_Ints Tryz.J1 b q cap s w D z B
def Tryz.J2:ae:=⟨fun|99=>60|206=>109|n=>n,fun|9=>9|4=>4|3=>3|n=>n,fun|n=>n⟩
theorem Tryz.UZ:pi ap Tryz.J2:={
 mixed:=by kernel_rfl
 f99:=ab func60 (by kernel_rfl)
 f206:=ab pT (by kernel_rfl)
 t3:=ak
 a3:=bz
 z3:=bc
 v3:=aQ
 t4:=az
 a4:=bA
 z4:=bj
 v4:=aS
 t9:=underlying9
 a9:=bT
 z9:=bB
 v9:=aX}
open Go.RowKit Go.Lib in
theorem Tryz.strings_HasPrefix(s p:ByteArray)(w:aU):
 bF prog 60 #[.string s,.string p] w fun e b=>e=.returned (.bool (jE s.data.toList p.data.toList))/\b=w:=Any.strings_HasPrefix Tryz.UZ s p w
def Tryz.Hu:ae:=⟨fun|152=>131|137=>72|119=>182|224=>183|225=>184|217=>126|266=>179|n=>n,fun|9=>9|21=>21|3=>3|4=>4|5=>5|0=>0|46=>127|n=>n,fun|n=>n⟩
theorem Tryz.SF:n9 ap Tryz.Hu:={
 mixed:=by kernel_rfl
 f119:=ab kq (by kernel_rfl)
 f137:=ab pb (by kernel_rfl)
 f152:=ab pR (by kernel_rfl)
 f217:=ab ez (by kernel_rfl)
 f224:=ab fI (by kernel_rfl)
 f225:=ab fK (by kernel_rfl)
 f266:=ab eA (by kernel_rfl)
 t0:=aV
 a0:=bZ
 z0:=bM
 v0:=be
 t3:=ak
 a3:=bz
 z3:=bc
 v3:=aQ
 t4:=az
 a4:=bA
 z4:=bj
 v4:=aS
 t5:=a2
 a5:=b_
 z5:=bW
 v5:=bu
 t9:=underlying9
 a9:=bT
 z9:=bB
 v9:=aX
 t21:=dr
 a21:=kr
 z21:=iu
 v21:=em
 t46:=bh
 a46:=bX
 z46:=bQ
 v46:=bv}
open Go.RowKit Go.Lib in
theorem Tryz.strings_IndexRune_ascii(s:ByteArray)(r:Int)(w:aU)(b:0<=r)(q:r<128):
 bF prog 131 #[.string s,.int .i32 r] w fun e y=>e=.returned (.int .i64 (fe s.data.toList r.toNat.toUInt8))/\y=w:=Any.strings_IndexRune_ascii Tryz.SF s r w b q
def Tryz.Hv:ae:=⟨fun|226=>132|n=>n,fun|3=>3|4=>4|n=>n,fun|n=>n⟩
theorem Tryz.SG:og ap Tryz.Hv:={
 mixed:=by kernel_rfl
 f226:=ab func132 (by kernel_rfl)
 t3:=ak
 a3:=bz
 z3:=bc
 v3:=aQ
 t4:=az
 a4:=bA
 z4:=bj
 v4:=aS}
open Go.RowKit Go.Lib in
theorem Tryz.strings_shouldUseASCIISet(n:Int)(w:aU):
 bF prog 132 #[.int .i64 n] w fun e b=>e=.returned (.bool (decide (8<n)))/\b=w:=Any.strings_shouldUseASCIISet Tryz.SG n w
def Tryz.Hw:ae:=⟨fun|153=>76|152=>131|226=>132|227=>133|228=>134|137=>72|119=>182|224=>183|225=>184|217=>126|266=>179|n=>n,fun|9=>9|3=>3|4=>4|5=>5|21=>21|117=>217|116=>216|0=>0|46=>127|124=>267|n=>n,fun|n=>n⟩
theorem Tryz.SH:oG ap Tryz.Hw:={
 mixed:=by kernel_rfl
 f119:=ab kq (by kernel_rfl)
 f137:=ab pb (by kernel_rfl)
 f152:=ab pR (by kernel_rfl)
 f153:=ab func76 (by kernel_rfl)
 f217:=ab ez (by kernel_rfl)
 f224:=ab fI (by kernel_rfl)
 f225:=ab fK (by kernel_rfl)
 f226:=ab func132 (by kernel_rfl)
 f227:=ab func133 (by kernel_rfl)
 f228:=ab func134 (by kernel_rfl)
 f266:=ab eA (by kernel_rfl)
 t0:=aV
 a0:=bZ
 z0:=bM
 v0:=be
 t3:=ak
 a3:=bz
 z3:=bc
 v3:=aQ
 t4:=az
 a4:=bA
 z4:=bj
 v4:=aS
 t5:=a2
 a5:=b_
 z5:=bW
 v5:=bu
 t9:=underlying9
 a9:=bT
 z9:=bB
 v9:=aX
 t21:=dr
 a21:=kr
 z21:=iu
 v21:=em
 t46:=bh
 a46:=bX
 z46:=bQ
 v46:=bv
 t116:=jh
 a116:=isAgg216
 z116:=sizeOf216
 t117:=ji
 a117:=isAgg217
 z117:=sizeOf217
 v117:=ks
 t124:=jk
 a124:=isAgg267
 z124:=sizeOf267
 v124:=kx}
open Go.RowKit Go.Lib in
theorem Tryz.strings_IndexAny_long(z:∀w,(zeroValue 216).run ap w=.ok (.agg (Array.replicate 256 (.bool false))) w)(s q:ByteArray)(w:aU)(D:2<=q.size)(G:8<s.size)(hs:s.size<4294967281)(B:q.size<4294967281)(y:∀(j:Nat) b,q.data.toList[j]?=some b->b.toNat<128):
 bF prog 76 #[.string s,.string q] w fun e H=>e=.returned (.int .i64 (Lib.indexAny s.data.toList q.data.toList))/\H=((w.alloc (.cells (lW q.data.toList) 216)).alloc (.cells (lW q.data.toList) 216)):=Any.strings_IndexAny_long Tryz.SH z (by kernel_rfl) s q w D G hs B y
def Tryz.xD:ae:=⟨fun|105=>139|212=>193|99=>60|165=>194|166=>195|170=>196|169=>197|263=>245|264=>246|206=>109|240=>247|241=>248|276=>286|277=>287|n=>n,fun|9=>9|3=>3|4=>4|20=>20|0=>0|46=>127|109=>270|5=>5|72=>274|76=>54|51=>245|146=>320|53=>194|148=>322|70=>272|37=>188|75=>29|127=>324|164=>252|80=>82|n=>n,fun|n=>n⟩
theorem Tryz.SI:oR ap Tryz.xD:={
 mixed:=by kernel_rfl
 f99:=ab func60 (by kernel_rfl)
 f105:=ab func139 (by kernel_rfl)
 f165:=ab func194 (by kernel_rfl)
 f166:=ab func195 (by kernel_rfl)
 f169:=ab func197 (by kernel_rfl)
 f170:=ab func196 (by kernel_rfl)
 f206:=ab pT (by kernel_rfl)
 f212:=ab func193 (by kernel_rfl)
 f240:=ab func247 (by kernel_rfl)
 f241:=ab func248 (by kernel_rfl)
 f263:=ab func245 (by kernel_rfl)
 f264:=ab func246 (by kernel_rfl)
 f276:=ab func286 (by kernel_rfl)
 f277:=ab func287 (by kernel_rfl)
 t0:=aV
 a0:=bZ
 z0:=bM
 v0:=be
 t3:=ak
 a3:=bz
 z3:=bc
 v3:=aQ
 t4:=az
 a4:=bA
 z4:=bj
 v4:=aS
 t5:=a2
 a5:=b_
 z5:=bW
 v5:=bu
 t9:=underlying9
 a9:=bT
 z9:=bB
 v9:=aX
 t20:=underlying20
 a20:=isAgg20
 z20:=sizeOf20
 v20:=zeroValue20
 t37:=underlying188
 a37:=mN
 z37:=jU
 v37:=fn
 t46:=bh
 a46:=bX
 z46:=bQ
 v46:=bv
 t51:=bC
 a51:=co
 z51:=cf
 v51:=bP
 t53:=cg
 a53:=fT
 z53:=eB
 v53:=cj
 t70:=eT
 a70:=mO
 z70:=jZ
 v70:=fy
 t72:=eV
 a72:=mQ
 z72:=kk
 v72:=fA
 t75:=underlying29
 a75:=isAgg29
 z75:=sizeOf29
 v75:=zeroValue29
 t76:=underlying54
 a76:=isAgg54
 z76:=sizeOf54
 v76:=zeroValue54
 t109:=underlying270
 a109:=isAgg270
 z109:=sizeOf270
 v109:=zeroValue270
 t127:=i6
 a127:=isAgg324
 z127:=sizeOf324
 v127:=ko
 t146:=cL
 a146:=iF
 z146:=gw
 v146:=dA
 t148:=underlying322
 a148:=isAgg322
 z148:=sizeOf322
 v148:=zeroValue322
 t164:=underlying252
 a164:=isAgg252
 z164:=sizeOf252
 v164:=zeroValue252}
theorem Tryz.wm:i7 ap Tryz.xD:={
 sizeBuilder:=by kernel_rfl
 liesBuilder:=by kernel_rfl
 t5:=a2
 a5:=b_
 z5:=bW
 v5:=bu
 infoByte:=by kernel_rfl
 cellsByte:=by kernel_rfl
 sizeByte:=by kernel_rfl
 neB5:=by decide}
open Go.RowKit Go.Lib in
theorem Tryz.strings_Repeat(s:ByteArray)(c:Nat)(w:aU)(hc:c<=9223372036854775807)(b:s.size*c<=140737488355328):
 bF prog 139 #[.string s,.int .i64 c] w fun e q=>e=.returned (.string ⟨(Lib.repeatL s.data.toList c).toArray⟩)/\Below w.heap.size w q:=Any.strings_Repeat Tryz.SI Tryz.wm s c w hc b
def Tryz.Cb:ae:=⟨fun|20=>128|n=>n,fun|22=>49|3=>3|4=>4|0=>0|n=>n,fun|n=>n⟩
theorem Tryz.Cc:o_ ap Tryz.Cb:={
 mixed:=by kernel_rfl
 f20:=ab func128 (by kernel_rfl)
 t0:=aV
 a0:=bZ
 z0:=bM
 v0:=be
 t3:=ak
 a3:=bz
 z3:=bc
 v3:=aQ
 t4:=az
 a4:=bA
 z4:=bj
 v4:=aS
 t22:=fS
 a22:=qn
 z22:=mY
 v22:=hO
 i3:=by kernel_rfl}
open Go.RowKit Go.Lib Go.Sort in
theorem Tryz.slices_Compact_int(b s cap:Nat)(y:List Int)(w:aU)(D:rc (di .i64) w b s y.toArray)(B:y.length<=9223372036854775807)(z:y.length<=cap):
 bF prog 128 #[.slice (some ⟨b,s,none⟩) y.length cap] w fun e G=>e=.returned (.slice (some ⟨b,s,none⟩) (ch y).length cap)/\∃q,G=pe (di .i64) (fl w q) b s (ch y++i2 (y.length-(ch y).length) 0).toArray:=Any.slices_Compact_int Tryz.Cc b s cap y w D B z
open Go.RowKit Go.Lib Go.Sort in
theorem Tryz.slices_Compact_int_empty(a:Option Addr)(cap:Nat)(w:aU):
 bF prog 128 #[.slice a 0 cap] w fun e b=>e=.returned (.slice a 0 cap)/\b=w:=Any.slices_Compact_int_empty Tryz.Cc a cap w
def Tryz.Hy:ae:=⟨fun|194=>66|n=>n,fun|31=>22|9=>9|3=>3|4=>4|0=>0|n=>n,fun|n=>n⟩
theorem Tryz.J3:pa ap Tryz.Hy:={
 mixed:=by kernel_rfl
 f194:=ab func66 (by kernel_rfl)
 t0:=aV
 a0:=bZ
 z0:=bM
 v0:=be
 t3:=ak
 a3:=bz
 z3:=bc
 v3:=aQ
 t4:=az
 a4:=bA
 z4:=bj
 v4:=aS
 t9:=underlying9
 a9:=bT
 z9:=bB
 v9:=aX
 t31:=underlying22
 a31:=isAgg22
 z31:=sizeOf22
 v31:=zeroValue22}
open Go.RowKit Go.Lib Go.Sort in
theorem Tryz.slices_Compact_string(b s cap:Nat)(y:List (List UInt8))(w:aU)(D:rc encStr w b s y.toArray)(B:y.length<=9223372036854775807)(z:y.length<=cap):
 bF prog 66 #[.slice (some ⟨b,s,none⟩) y.length cap] w fun e G=>e=.returned (.slice (some ⟨b,s,none⟩) (ch y).length cap)/\∃q,G=pe encStr (fl w q) b s (ch y++i2 (y.length-(ch y).length) []).toArray:=Any.slices_Compact_string Tryz.J3 b s cap y w D B z
open Go.RowKit Go.Lib Go.Sort in
theorem Tryz.slices_Compact_string_empty(a:Option Addr)(cap:Nat)(w:aU):
 bF prog 66 #[.slice a 0 cap] w fun e b=>e=.returned (.slice a 0 cap)/\b=w:=Any.slices_Compact_string_empty Tryz.J3 a cap w
open Go.RowKit Go.Sort in
theorem Tryz.slices_Sort_int_none(p:Option Addr)(cap:Nat)(w:aU):
 bF prog 127 #[.slice p 0 cap] w fun e b=>e=.returned (.tuple #[])/\b=w:=Any.slices_Sort_int_none Tryz.J0 p cap w
open Go.RowKit Go.Sort in
theorem Tryz.sort_Ints_none(p:Option Addr)(cap:Nat)(w:aU):
 bF prog 167 #[.slice p 0 cap] w fun e b=>e=.returned (.tuple #[])/\b=w:=Any.sort_Ints_none Tryz.J1 p cap w
end Go.Proofs
namespace Go.Proofs
open Go.Shelf
theorem aI{q:Type}{o:Option q}{a b:q}(h:o=some a)(e:a=b):o=some b:=e▸h
def Tryz.Bq:ae:=⟨fun|6=>97|15=>107|14=>149|28=>162|29=>163|20=>205|21=>206|22=>207|23=>208|24=>209|25=>210|26=>211|27=>212|46=>257|47=>216|48=>217|49=>258|50=>259|57=>294|n=>n,fun|22=>57|24=>104|25=>148|3=>3|39=>127|0=>0|53=>245|55=>194|4=>4|46=>239|45=>238|50=>203|5=>5|9=>9|66=>289|70=>293|76=>333|77=>334|n=>n,fun|n=>n⟩
theorem Tryz.zZ:ej ap Tryz.Bq:={
 mixed:=by kernel_rfl
 f6:=⟨f97.name,by decide,aI func97 (by kernel_rfl)⟩
 f14:=⟨f149.name,by decide,aI func149 (by kernel_rfl)⟩
 f15:=aI kM (by kernel_rfl)
 f20:=⟨f205.name,by decide,aI func205 (by kernel_rfl)⟩
 f21:=⟨f206.name,by decide,aI func206 (by kernel_rfl)⟩
 f22:=⟨f207.name,by decide,aI func207 (by kernel_rfl)⟩
 f23:=⟨f208.name,by decide,aI func208 (by kernel_rfl)⟩
 f24:=⟨f209.name,by decide,aI func209 (by kernel_rfl)⟩
 f25:=⟨f210.name,by decide,aI func210 (by kernel_rfl)⟩
 f26:=⟨f211.name,by decide,aI func211 (by kernel_rfl)⟩
 f27:=⟨f212.name,by decide,aI func212 (by kernel_rfl)⟩
 f28:=aI k2 (by kernel_rfl)
 f29:=aI lc (by kernel_rfl)
 f46:=⟨f257.name,by decide,aI func257 (by kernel_rfl)⟩
 f47:=aI lq (by kernel_rfl)
 f48:=aI lr (by kernel_rfl)
 f49:=⟨f258.name,by decide,aI func258 (by kernel_rfl)⟩
 f50:=⟨f259.name,by decide,aI func259 (by kernel_rfl)⟩
 f57:=⟨f294.name,by decide,aI func294 (by kernel_rfl)⟩
 t0:=aV
 a0:=bZ
 z0:=bM
 v0:=be
 t3:=ak
 a3:=bz
 z3:=bc
 v3:=aQ
 t4:=az
 a4:=bA
 z4:=bj
 v4:=aS
 t5:=a2
 a5:=b_
 z5:=bW
 v5:=bu
 t9:=underlying9
 a9:=bT
 z9:=bB
 v9:=aX
 t22:=cl
 a22:=h1
 z22:=gc
 v22:=cK
 t25:=underlying148
 a25:=isAgg148
 z25:=sizeOf148
 v25:=zeroValue148
 t39:=bh
 a39:=bX
 z39:=bQ
 v39:=bv
 t45:=cW
 a45:=iQ
 z45:=g5
 v45:=dF
 t46:=c1
 a46:=iR
 z46:=g6
 v46:=dJ
 t50:=cO
 a50:=iP
 z50:=g0
 v50:=dD
 t53:=bC
 a53:=co
 z53:=cf
 v53:=bP
 t55:=cg
 a55:=fT
 z55:=eB
 v55:=cj
 t66:=c2
 a66:=iT
 z66:=g7
 v66:=dQ
 t70:=da
 a70:=iU
 z70:=g8
 v70:=dS
 t76:=de
 a76:=i0
 z76:=g9
 v76:=dT
 t77:=dg
 a77:=i1
 z77:=hm
 v77:=dU}
def Tryz.wt:ae:=⟨fun|7=>153|6=>214|n=>n,fun|22=>57|24=>104|4=>4|0=>0|3=>3|n=>n,fun|n=>n⟩
theorem Tryz.Cd:m0 ap Tryz.wt:={
 mixed:=by kernel_rfl
 f6:=⟨f214.name,by decide,aI func214 (by kernel_rfl)⟩
 f7:=⟨f153.name,by decide,aI func153 (by kernel_rfl)⟩
 t0:=aV
 a0:=bZ
 z0:=bM
 v0:=be
 t3:=ak
 a3:=bz
 z3:=bc
 v3:=aQ
 t4:=az
 a4:=bA
 z4:=bj
 v4:=aS
 t22:=cl
 a22:=h1
 z22:=gc
 v22:=cK}
def Tryz.rS:ae:=⟨fun|8=>42|6=>85|n=>n,fun|22=>57|23=>104|25=>105|4=>4|3=>3|0=>0|n=>n,fun|n=>n⟩
theorem Tryz.wu:ms ap Tryz.rS:={
 mixed:=by kernel_rfl
 f6:=⟨f85.name,by decide,aI func85 (by kernel_rfl)⟩
 f8:=⟨f42.name,by decide,aI func42 (by kernel_rfl)⟩
 t0:=aV
 a0:=bZ
 z0:=bM
 v0:=be
 t3:=ak
 a3:=bz
 z3:=bc
 v3:=aQ
 t4:=az
 a4:=bA
 z4:=bj
 v4:=aS
 t22:=cl
 a22:=h1
 z22:=gc
 v22:=cK
 t25:=jT
 a25:=isAgg105
 z25:=sizeOf105
 v25:=l_}
def Tryz.vH:ae:=⟨fun|6=>85|n=>n,fun|22=>57|23=>104|25=>105|3=>3|0=>0|4=>4|n=>n,fun|n=>n⟩
theorem Tryz.Br:ek ap Tryz.vH:={
 mixed:=by kernel_rfl
 f6:=⟨f85.name,by decide,aI func85 (by kernel_rfl)⟩
 t0:=aV
 a0:=bZ
 z0:=bM
 v0:=be
 t3:=ak
 a3:=bz
 z3:=bc
 v3:=aQ
 t4:=az
 a4:=bA
 z4:=bj
 v4:=aS
 t22:=cl
 a22:=h1
 z22:=gc
 v22:=cK
 t25:=jT
 a25:=isAgg105
 z25:=sizeOf105
 v25:=l_}
def Tryz.yP:ae:=⟨fun|41=>112|n=>n,fun|22=>57|23=>104|4=>4|n=>n,fun|n=>n⟩
theorem Tryz.xE:md ap Tryz.yP:={
 mixed:=by kernel_rfl
 f41:=⟨f112.name,by decide,aI func112 (by kernel_rfl)⟩
 t4:=az
 a4:=bA
 z4:=bj
 v4:=aS
 t22:=cl
 a22:=h1
 z22:=gc
 v22:=cK}
def Tryz.Ez:ae:=⟨fun|6=>53|15=>107|14=>106|28=>162|29=>163|20=>154|21=>155|22=>156|23=>157|24=>158|25=>159|26=>160|27=>161|46=>215|47=>216|48=>217|49=>218|50=>219|57=>261|n=>n,fun|22=>41|24=>47|25=>119|3=>3|39=>127|0=>0|53=>245|55=>194|4=>4|46=>239|45=>238|50=>203|5=>5|9=>9|66=>289|70=>293|76=>333|77=>334|n=>n,fun|n=>n⟩
theorem Tryz.Ft:ej ap Tryz.Ez:={
 mixed:=by kernel_rfl
 f6:=⟨f53.name,by decide,aI func53 (by kernel_rfl)⟩
 f14:=⟨f106.name,by decide,aI func106 (by kernel_rfl)⟩
 f15:=aI kM (by kernel_rfl)
 f20:=⟨f154.name,by decide,aI func154 (by kernel_rfl)⟩
 f21:=⟨f155.name,by decide,aI func155 (by kernel_rfl)⟩
 f22:=⟨f156.name,by decide,aI func156 (by kernel_rfl)⟩
 f23:=⟨f157.name,by decide,aI func157 (by kernel_rfl)⟩
 f24:=⟨f158.name,by decide,aI func158 (by kernel_rfl)⟩
 f25:=⟨f159.name,by decide,aI func159 (by kernel_rfl)⟩
 f26:=⟨f160.name,by decide,aI func160 (by kernel_rfl)⟩
 f27:=⟨f161.name,by decide,aI func161 (by kernel_rfl)⟩
 f28:=aI k2 (by kernel_rfl)
 f29:=aI lc (by kernel_rfl)
 f46:=⟨f215.name,by decide,aI func215 (by kernel_rfl)⟩
 f47:=aI lq (by kernel_rfl)
 f48:=aI lr (by kernel_rfl)
 f49:=⟨f218.name,by decide,aI func218 (by kernel_rfl)⟩
 f50:=⟨f219.name,by decide,aI func219 (by kernel_rfl)⟩
 f57:=⟨f261.name,by decide,aI func261 (by kernel_rfl)⟩
 t0:=aV
 a0:=bZ
 z0:=bM
 v0:=be
 t3:=ak
 a3:=bz
 z3:=bc
 v3:=aQ
 t4:=az
 a4:=bA
 z4:=bj
 v4:=aS
 t5:=a2
 a5:=b_
 z5:=bW
 v5:=bu
 t9:=underlying9
 a9:=bT
 z9:=bB
 v9:=aX
 t22:=underlying41
 a22:=isAgg41
 z22:=sizeOf41
 v22:=zeroValue41
 t25:=underlying119
 a25:=isAgg119
 z25:=sizeOf119
 v25:=zeroValue119
 t39:=bh
 a39:=bX
 z39:=bQ
 v39:=bv
 t45:=cW
 a45:=iQ
 z45:=g5
 v45:=dF
 t46:=c1
 a46:=iR
 z46:=g6
 v46:=dJ
 t50:=cO
 a50:=iP
 z50:=g0
 v50:=dD
 t53:=bC
 a53:=co
 z53:=cf
 v53:=bP
 t55:=cg
 a55:=fT
 z55:=eB
 v55:=cj
 t66:=c2
 a66:=iT
 z66:=g7
 v66:=dQ
 t70:=da
 a70:=iU
 z70:=g8
 v70:=dS
 t76:=de
 a76:=i0
 z76:=g9
 v76:=dT
 t77:=dg
 a77:=i1
 z77:=hm
 v77:=dU}
def Tryz.wv:ae:=⟨fun|6=>91|n=>n,fun|22=>134|23=>140|25=>176|3=>3|0=>0|4=>4|n=>n,fun|n=>n⟩
theorem Tryz.Ce:ek ap Tryz.wv:={
 mixed:=by kernel_rfl
 f6:=⟨f91.name,by decide,aI func91 (by kernel_rfl)⟩
 t0:=aV
 a0:=bZ
 z0:=bM
 v0:=be
 t3:=ak
 a3:=bz
 z3:=bc
 v3:=aQ
 t4:=az
 a4:=bA
 z4:=bj
 v4:=aS
 t22:=underlying134
 a22:=isAgg134
 z22:=sizeOf134
 v22:=zeroValue134
 t25:=underlying176
 a25:=isAgg176
 z25:=sizeOf176
 v25:=zeroValue176}
end Go.Proofs
namespace Go.Proofs.YtldmhjbdahjhdaaGreatDoor
section
open Go Go.RowKit
def Gr(w w':aU):Prop:=Below w.heap.size w w'
theorem Gr.refl(w:aU):Gr w w:=Below.refl _ _
theorem Gr.trans{a b c:aU}(h:Gr a b)(k:Gr b c):Gr a c:=Below.trans h (Below.mono k h.size)
theorem Gr.alloc{a w:aU}(h:Gr a w)(o:Obj):Gr a (w.alloc o):=Below.alloc h h.size o
theorem Gr.drew{a w:aU}(h:Gr a w):Gr a w.drew:=Below.drew h
theorem Gr.drewN{a w:aU}(h:Gr a w)(n:Nat):Gr a (w.drewN n):=⟨h.os,h.tape,h.output,h.size,h.block⟩
theorem Gr.setCell{a w:aU}(h:Gr a w){p:Addr}(b:a.heap.size<=p.block)(u:bt):Gr a (w.setCell p u):=Below.setCell h b u
theorem Gr.cell{a w:aU}(h:Gr a w){b:Nat}(o:Nat)(q:b<a.heap.size):w.cell? ⟨b,o,none⟩=a.cell? ⟨b,o,none⟩:=Below.cell (p:=⟨b,o,none⟩) h q
theorem Gr.frozen{a w:aU}(h:Gr a w){b:Nat}(o:Nat)(q:b<a.heap.size):w.frozen? ⟨b,o,none⟩=a.frozen? ⟨b,o,none⟩:=Below.frozen (p:=⟨b,o,none⟩) h q
theorem ad{a:aU}{b o:Nat}{v:bt}(hc:a.cell? ⟨b,o,none⟩=some v):b<a.heap.size:=by
 rcases mm b a.heap.size with h|h
 ·exact h
 simp[m2,Array.getElem?_eq_none h]at hc
theorem Gr.keeps{a w:aU}(h:Gr a w){b o:Nat}{v:bt}(hc:a.cell? ⟨b,o,none⟩=some v):w.cell? ⟨b,o,none⟩=some v:=by
 rw[h.cell o (ad hc)];exact hc
def ar(w:aU)(v:bt)(e:Ending)(w':aU):Prop:=e=.returned v/\Gr w w'
theorem ar.mk{w w':aU}{v u:bt}(h:u=v)(g:Gr w w'):ar w v (.returned u) w':=⟨by rw[h],g⟩
theorem ar.of_same{P:ib}{f:FuncId}{args:Array bt}{w:aU}{v:bt}(h:bF P f args w fun e b=>e=.returned v/\b=w):bF P f args w (ar w v):=
 h.mono fun _ _ ⟨q,hw⟩=>⟨q,by rw[hw];exact Gr.refl _⟩
theorem bR{w w':aU}(h:∃p:Regrown,w'=eH (ik w p.d) p.os):Gr w w':=by
 obtain⟨p,rfl⟩:=h;exact below_regrown w p.d p.os
theorem ar.qR{P:ib}{f:FuncId}{args:Array bt}{w:aU}{d:Nat}{os:Array Obj}{v:bt}(h:bF P f args (eH (ik w d) os) (ar (eH (ik w d) os) v)):
 bF P f args (eH (ik w d) os) fun e b=>e=.returned v/\∃p:Regrown,b=eH (ik w p.d) p.os:=Calls.regrown_of h
theorem aF{w w':aU}{B:Nat}{e:dZ}{size n:Nat}{v:bt}{xs:List bt}(h:w.ownsRow B e size v n xs)(g:Gr w w'):w'.ownsRow B e size v n xs:=by
 obtain⟨z,q⟩:=h;refine⟨z,?_⟩;rcases q with q|⟨b,cap,s,hv,D,y,r⟩
 ·exact .inl q
 have G:=(cs.1 y).1;exact .inr ⟨b,cap,s,hv,D,by rw[g.block _ G];exact y,r⟩
theorem iG{a w w':aU}{row:Option Nat}(h:Gr a w)(b:w.grownBy w' row)(q:∀k,row=some k->a.heap.size<=k):Gr a w':=Below.grown h b h.size q
theorem aP{w:aU}{B:Nat}{e:dZ}{size n:Nat}{v:bt}{xs:List bt}(h:w.ownsRow B e size v n xs):∀k,v.ownBlock=some k->B<=k:=by
 intro k q;rcases h.2 with⟨rfl,_⟩|⟨b,cap,y,rfl,s,_⟩
 ·cases q
 cases q;exact s
theorem bK{P:ib}{a0 w:aU}{B:Array Oper}{rest:List Oper}{o:Oper}{a:Act}{Q:Exit->Act->aU->Prop}(H:o.guard=none)(s x:qr)(t:dZ)
  (S:o.op=.call {callee:=.builtin .append,args:=#[s,x],argTypes:=#[t,t]}) (e:dZ) (i:m3) (z:bt) (size bytes:Nat) (U:P.underlying t=some (.slice e)) (hi:P.info? e=some i)
  (V:i.zero=some z) (y:i.size=size) (I:i.bytes=bytes) (J:z.cells.size=size) (L:0<size) (v:bt) (n:Nat) (xs:List bt) (hs:a.eval s=v) (q:w.ownsRow a0.heap.size e size v n xs)
  (us:List bt) (M:us.length=size) (G:∀u∈us,u.oneCell'=true) (Y:a.eval x=.slice (some ⟨w.heap.size,0,none⟩) 1 1) (O:Gr a0 w) (a4:n+1<=4611686018427387904) (b:(n+1)*bytes<=140737488355328)
  (h:∀D w',w'.ownsRow a0.heap.size e size D (n+1) (xs++us)->Gr a0 w'->wpList P B Q rest (a.put o.dst D) w'):wpList P B Q (o::rest) a (w.alloc (.cells us.toArray e)):=by
 refine wpList_append_own _ H s x t S a0.heap.size e i z size bytes U hi V y I J L v n xs hs (q.alloc _) ⟨w.heap.size,0,none⟩ 1 1 us Y (by rw[M,m4]) ?_ G (by unfold maxLen;omega) b (by have:=O.size;simp;omega)
  (fun D w' G Z _=>h D w' G (iG (O.alloc _) Z (aP q)))
 intro j u hj;have he:(⟨w.heap.size,0,none⟩:Addr).add j=⟨w.heap.size,j,none⟩:=by
  unfold Addr.add
  split
  ·rename_i h0;rw[h0]
  simp
 rw[he,el];simpa using hj
theorem bd{w:aU}{B:Nat}{e:dZ}{size n:Nat}{v:bt}{xs:List bt}(h:w.ownsRow B e size v n xs):∀k,v.ownBlock=some k->k<w.heap.size:=by
 intro k q;rcases h.2 with⟨rfl,_⟩|⟨b,cap,y,rfl,_,s,_⟩
 ·cases q
 cases q;exact(cs.1 s).1
def yQ(v:bt)(w w':aU):Prop:=∀k o,k<w.heap.size->v.ownBlock≠some k->w'.cell? ⟨k,o,none⟩=w.cell? ⟨k,o,none⟩/\w'.frozen? ⟨k,o,none⟩=w.frozen? ⟨k,o,none⟩
theorem nX{P:ib}{a0 w:aU}{B:Array Oper}{rest:List Oper}{o:Oper}{a:Act}{Q:Exit->Act->aU->Prop}(H:o.guard=none)(s x:qr)(t:dZ)
  (Y:o.op=.call {callee:=.builtin .append,args:=#[s,x],argTypes:=#[t,t]}) (e:dZ) (i:m3) (z:bt) (size bytes:Nat) (Z:P.underlying t=some (.slice e)) (hi:P.info? e=some i)
  (hz:i.zero=some z) (y:i.size=size) (I:i.bytes=bytes) (J:z.cells.size=size) (L:0<size) (v:bt) (n:Nat) (xs:List bt) (hs:a.eval s=v) (q:w.ownsRow a0.heap.size e size v n xs)
  (us:List bt) (M:us.length=size) (G:∀u∈us,u.oneCell'=true) (hx:a.eval x=.slice (some ⟨w.heap.size,0,none⟩) 1 1) (S:Gr a0 w) (a7:n+1<=4611686018427387904) (b:(n+1)*bytes<=140737488355328)
  (h:∀D w',w'.ownsRow a0.heap.size e size D (n+1) (xs++us)->Gr a0 w'->yQ v w w'->wpList P B Q rest (a.put o.dst D) w'):wpList P B Q (o::rest) a (w.alloc (.cells us.toArray e)):=by
 refine wpList_append_own _ H s x t Y a0.heap.size e i z size bytes Z hi hz y I J L v n xs hs (q.alloc _) ⟨w.heap.size,0,none⟩ 1 1 us hx (by rw[M,m4]) ?_ G (by unfold maxLen;omega) b (by have:=S.size;simp;omega)
  (fun D w' G U _=>h D w' G (iG (S.alloc _) U (aP q)) (fun k o hk O=>by
   have V:w'.heap[k]?=w.heap[k]?:=(U.block k (by simp;omega) (fun e=>O e.symm)).trans (Below.heap_alloc _ _ _ hk);exact⟨es V,ea V⟩))
 intro j u hj;have he:(⟨w.heap.size,0,none⟩:Addr).add j=⟨w.heap.size,j,none⟩:=by
  unfold Addr.add
  split
  ·rename_i h0;rw[h0]
  simp
 rw[he,el];simpa using hj
theorem H8{P:ib}{a0 w:aU}{z:Array Oper}{rest:List Oper}{o:Oper}{a:Act}{Q:Exit->Act->aU->Prop}(G:o.guard=none)(D x:qr)(t u:dZ)
  (O:o.op=.call {callee:=.builtin .append,args:=#[D,x],argTypes:=#[t,u]}) (e:dZ) (i:m3) (S:P.underlying t=some (.slice e)) (hu:P.underlying u=some .string) (hi:P.info? e=some i) (U:i.zero=some (.int .u8 0))
  (y:i.size=1) (H:i.bytes=1) (v:bt) (n:Nat) (xs:List bt) (hs:a.eval D=v) (q:w.ownsRow a0.heap.size e 1 v n xs) (s:ByteArray) (V:a.eval x=.string s) (J:Gr a0 w)
  (b:n+s.size<=140737488355328)
  (h:∀B w',w'.ownsRow a0.heap.size e 1 B (n+s.size) (xs++Lib.strCells s)->Gr a0 w'->yQ v w w'->wpList P z Q rest (a.put o.dst B) w'):wpList P z Q (o::rest) a w:=
 Lib.wpList_append_own_string w G D x t u O a0.heap.size e i S hu hi U y H v n xs hs q s V (by unfold maxLen;omega) b J.size
  fun B w' Y L _=>h B w' Y (iG J L (aP q)) (fun k o Z I=>by
   have M:w'.heap[k]?=w.heap[k]?:=L.block k Z (fun e=>I e.symm);exact⟨es M,ea M⟩)
end
section
open Go
theorem Mu(a b:List UInt8):Op.bytesLess a b=true↔aJ a b=-1:=by
 induction a generalizing b with
 |nil=>cases b<;>simp[Op.bytesLess,aJ]
 |cons x B z=>
  cases b with
  |nil=>simp[Op.bytesLess,aJ]
  |cons y D=>
   simp only[Op.bytesLess,aJ,Bool.or_eq_true,decide_eq_true_eq,Bool.and_eq_true,beq_iff_eq,z];by_cases q:x<y
   ·simp[q]
   by_cases s:y<x
   ·have:x≠y:=by rintro rfl;exact q s
    simp[q,s,this]
   have:x=y:=gf (eb.1 s) (eb.1 q);simp[this]
theorem oP(a b:List UInt8):aJ a b=0↔a=b:=by
 induction a generalizing b with
 |nil=>cases b<;>simp[aJ]
 |cons x B z=>
  cases b with
  |nil=>simp[aJ]
  |cons y D=>
   simp only[aJ,qQ];by_cases q:x<y
   ·have:x≠y:=by rintro rfl;exact UInt8.lt_irrefl _ q
    simp[q,this]
   by_cases s:y<x
   ·have:x≠y:=by rintro rfl;exact q s
    simp[q,s,this]
   have:x=y:=gf (eb.1 s) (eb.1 q);simp[this,z]
theorem Ad(a b:List UInt8):aJ a b=-1\/aJ a b=0\/aJ a b=1:=by
 induction a generalizing b with
 |nil=>cases b<;>simp[aJ]
 |cons x z q=>
  cases b with
  |nil=>simp[aJ]
  |cons y s=>
   simp only[aJ]
   split
   ·simp
   split
   ·simp
   exact q s
theorem xH(y:Nat)(h:y<2^63):2^63+y=2^63^^^y:=by
 apply Nat.eq_of_testBit_eq;intro i;rw[Nat.testBit_xor];rcases Nat.lt_trichotomy i 63 with hi|hi|hi
 ·rw[Nat.testBit_two_pow_add_gt hi,cD (by omega)];simp
 ·subst hi;rw[Nat.testBit_two_pow_add_eq,Nat.testBit_two_pow_self];simp
 rw[cD (by omega),eh (x:=y) (Nat.lt_trans h (Nat.pow_lt_pow_right (by omega) hi)),eh]
 ·rfl
 have:2^64<=2^i:=Nat.pow_le_pow_right (by omega) hi;omega
theorem eU(a:Nat)(ha:a<18446744073709551616):(gs 64 (a:Int)).toNat=a:=by
 rw[BitVec.ofInt_natCast,BitVec.toNat_ofNat];exact Nat.mod_eq_of_lt ha
theorem P_(n:Int)(q:-9223372036854775808<=n)(s:n<=9223372036854775807):bits BinOp.xor ew (ew.wrap n) 9223372036854775808=((n+9223372036854775808).toNat:Int):=by
 have hw:ew.wrap n=(((n % 18446744073709551616).toNat:Nat):Int):=by
  simp only[hI];omega
 rw[hw];generalize z:(n % 18446744073709551616).toNat=x;have b:x<18446744073709551616:=by omega
 show ew.wrap ((gs 64 (x:Int)^^^gs 64 ((9223372036854775808:Nat):Int)).toNat:Int)=_;rw[BitVec.toNat_xor,eU x b,eU _ (by omega),hI];have e:x^^^9223372036854775808=(n+9223372036854775808).toNat:=by
  rcases mm x 9223372036854775808 with h|h
  ·have:=xH x h;rw[mp,show(9223372036854775808:Nat)=2^63 from rfl,<-this];omega
  obtain⟨y,rfl⟩:=Nat.exists_eq_add_of_le h;have:=xH y (by omega);rw[show(9223372036854775808:Nat)=2^63 from rfl,this,mp (2^63) y,Nat.xor_assoc,Nat.xor_self,Nat.xor_zero];omega
 rw[e];omega
end
section
open Go Go.RowKit
theorem size_data(s:ByteArray):s.size=s.data.toList.length:=by rw[Array.length_toList];rfl
def me(b:UInt8):bt:=.int .u8 (b.toNat:Int)
def eW(a0 w:aU)(v:bt)(l:List UInt8):Prop:=w.ownsRow a0.heap.size 5 1 v l.length (l.map me)
theorem eW.row{a0 w:aU}{v:bt}{l:List UInt8}(h:eW a0 w v l):w.ownsRow a0.heap.size 5 1 v l.length (l.map me):=h
theorem xI:(prog.info? 5).map (fun i=>(i.zero,i.size,i.bytes))=some (some (.int .u8 0),1,1):=by kernel_rfl
theorem U3(m d:Nat):(m:Int)/(d:Int) % 256=((m/d).toUInt8.toNat:Int):=by
 simp
theorem oC{a0 w:aU}{v:bt}{l:List UInt8}{c:UInt8}(h:w.ownsRow a0.heap.size 5 1 v (l.length+1) (l.map me++[me c])):eW a0 w v (l++[c]):=by
 unfold eW;rw[List.length_append,List.map_append];exact h
theorem pY{a0 w:aU}{v:bt}{l:List UInt8}(h:eW a0 w v l):(convert 188 9 v).run prog w=.ok (.string ⟨l.toArray⟩) w:=by
 obtain⟨I,z⟩:=h;rcases z with⟨rfl,b⟩|⟨g,cap,q,rfl,_,B,hn,_,y,D⟩
 ·have G:l=[]:=List.eq_nil_of_length_eq_zero b;subst G;exact run_convert_bytes_nil (P:=prog) w 188 5 underlying188 a2 0 0 9 underlying9
 refine run_convert_bytes_back (P:=prog) w 188 9 5 ⟨g,0,none⟩ cap l underlying188 a2 underlying9 (fun j s=>?_);have H:(⟨g,0,none⟩:Addr).add j=⟨g,j,none⟩:=by
  unfold Addr.add
  split
  ·rename_i b;rw[b]
  simp
 have hc:q.toList[j]?=some (me l[j]):=by
  have e:=congrArg (fun l:List bt=>l[j]?) D;simp only[Nat.mul_one]at e;rw[List.getElem?_take,if_pos s,List.getElem?_map,List.getElem?_eq_getElem s]at e;exact e
 rw[H];unfold m2;simp only[B];rw[<-Array.getElem?_toList];exact hc
theorem bm(s:ByteArray)(j:Nat)(b:j<s.size):s[j]=s.data.toList[j]'(by rw[<-size_data];exact b):=by
 rw[Array.getElem_toList];rfl
theorem yR{k c:UInt8}(h:k≠c):¬(k.toNat:Int)=(c.toNat:Int):=fun e=>h (UInt8.toNat_inj.1 (by omega))
theorem bE{a b:ByteArray}(h:a.data.toList=b.data.toList):a=b:=by
 cases a;cases b;simp only[pj];exact Array.ext' h
theorem Qa(t:ByteArray)(k:UInt8)(r:List UInt8)(h:t.data.toList=k::r):t.extract 1 t.size=⟨r.toArray⟩:=by
 apply bE;rw[Lib.extract_data,h,List.drop_one,List.tail_cons,List.take_of_length_le (by rw[size_data,h];simp)]
theorem SM(t:ByteArray)(k:UInt8)(r:List UInt8)(h:t.data.toList=k::r)(b:0<t.size):t[0]=k:=by
 rw[bm t 0 b];simp[h]
theorem cX{w:aU}{B:Nat}{e:dZ}{size n:Nat}{v:bt}{xs:List bt}(h:w.ownsRow B e size v n xs){a:Addr}{u:bt}(q:¬v.ownBlock=some a.block):(w.setCell a u).ownsRow B e size v n xs:=by
 obtain⟨y,b⟩:=h;refine⟨y,?_⟩;rcases b with b|⟨g,cap,s,rfl,z,D,r⟩
 ·exact .inl b
 exact .inr ⟨g,cap,s,rfl,z,by rw[Below.heap_setCell _ _ _ _ (fun e=>q (by rw[<-e];rfl))];exact D,r⟩
def lenOf:bt->Nat| .string t=>t.size|_=>0
theorem Cf{w:aU}{k:Nat}{x y u v:bt}(b:w.cell? ⟨k,0,none⟩=some x)(q:w.cell? ⟨k,1,none⟩=some y):
  ((w.setCell ⟨k,0,none⟩ u).setCell ⟨k,1,none⟩ v).cell? ⟨k,0,none⟩=some u/\((w.setCell ⟨k,0,none⟩ u).setCell ⟨k,1,none⟩ v).cell? ⟨k,1,none⟩=some v:=by
 have e:(⟨k,1,none⟩:Addr)≠⟨k,0,none⟩:=by simp
 have e':(⟨k,0,none⟩:Addr)≠⟨k,1,none⟩:=by simp
 refine⟨?_,dh _ _ _ ((cF _ _ _ _ e').trans q)⟩;rw[cF _ _ _ _ e];exact dh _ _ _ b
theorem lu(l:List UInt8):(⟨l.toArray⟩:ByteArray).size=l.length:=by show l.toArray.size=_;simp
