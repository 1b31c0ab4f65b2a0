/-
  Part 16 of the proof.
-/
import Derived.Test.YtldmhjbdahjhdaaGreatDoorZa1
import Derived.Stop.Asserts
import Derived.Test.YtldmhjbdahjhdaaGreatDoorRows
import Derived.ProofKit
import Derived.LaidMore
import Derived.OpenShut
import Derived.Stop.Joined
open Go.Proofs.Tryz
open Go renaming run_callFunc_extern->ae,World->az,Value->aQ,wp_loop_rounds->aV,rounds_succ->aX,run_typeAssert_lacksB->bc,method->bh,unsupported->bt,TypeId->bv,underlying->bz,storeVar->bA,Calls->bB,joinedFacts->bQ
open Go.World renaming cell?_alloc_lt->ak,frozen?_alloc_old->ap,cell?_alloc_new->aJ,cell?_setCell_same->a9,cell?_alloc_at->be
open Go.Result renaming andThen->aS
open Go.Instr renaming typeAssert->aU
open Go.Lib renaming hid->a5
open Go.Sem renaming run_bind->bj
open Option.some renaming inj->bu
open Go.Proofs.Tryz renaming underlying208->bC,underlying224->bF,ntmps68->bX,ntmps84->bZ,func68->cg,func84->ch
open Nat renaming ne_of_lt->bM,le_refl->bP
open Go.IntKind renaming u8->bT
open List renaming range->bW
open Go.OpenSpec renaming ofChange->b_
open Go.Value renaming int->cf
set_option maxRecDepth 100000
set_option maxHeartbeats 100000000
set_option linter.all false
namespace Go.Proofs.YtldmhjbdahjhdaaGreatDoor
section
open Go Go.RowKit Go.Extern.Stop Go.Stop Go.Extern
def dL(w:az):Prop:=w.cell? ⟨1,0,none⟩=some (.iface 301 (.agg #[.pointer (some ⟨5,29,none⟩)]))
theorem dL.gr{w w':az}(h:dL w)(g:Gr w w'):dL w':=g.keeps h
theorem z_(t:Addr)(w:az):(ReflectliteValue.unpack (.iface 208 (.pointer (some t)))).run prog w
 =.ok (.agg #[.pointer (some ⟨5,208,none⟩),.pointer (some ⟨w.heap.size,0,none⟩),.int .u64 150]) (w.alloc (.cells #[.pointer (some t)] 208)):=by kernel_rfl
theorem J4(a:Addr)(w:az):(ReflectliteValue.methodAny (ReflectliteValue.valueError "reflectlite.Value.Type" 0) (fun t _ _ _=>ReflectliteType.toType t) #[.agg #[.pointer (some ⟨5,208,none⟩),.pointer (some a),.int .u64 150]]).run prog w
 =.ok (.iface 301 (.agg #[.pointer (some ⟨5,208,none⟩)])) w:=by kernel_rfl
theorem Fu(h:aQ)(w:az):(bh 495 301 (.agg #[h]) "Kind").run prog w=.ok (321,h) w:=by kernel_rfl
theorem Fv(w:az):((ReflectliteType.abiMethod fun t=>(fun a:Nat=>cf bT (a:Int))<$>Rtype.kind t) #[.pointer (some ⟨5,208,none⟩)]).run prog w=.ok (.int .u8 22) w:=by kernel_rfl
theorem Fw(w:az):((ReflectliteType.abiMethod fun t=>(fun a:Nat=>cf bT (a:Int))<$>Rtype.kind t) #[.pointer (some ⟨5,24,none⟩)]).run prog w=.ok (.int .u8 2) w:=by kernel_rfl
theorem O1(z:Sem aQ)(f:bv->Addr->Nat->Nat->Sem aQ)(v:aQ):
 ReflectliteValue.method z f #[v]=(do match<-ReflectliteValue.parts v with|none=>z|some (t,a,fl)=>f t a fl (fl % 32)):=rfl
theorem Fx(a:Addr)(w:az):(ReflectliteValue.parts (.agg #[.pointer (some ⟨5,208,none⟩),.pointer (some a),.int .u64 150])).run prog w=.ok (some (208,a,150)) w:=by kernel_rfl
theorem Fy(a p:Addr)(W:az)(ha:W.cell? a=some (.pointer (some p))):
  (ReflectliteValue.method (ReflectliteValue.valueError "reflectlite.Value.IsNil" 0) ReflectliteValue.isNil #[.agg #[.pointer (some ⟨5,208,none⟩),.pointer (some a),.int .u64 150]]).run prog W=.ok (.bool false) W:=by
 rw[O1];simp only[bj,Fx,aS];simp[ReflectliteValue.isNil,loadVar,isAgg,bz,bC,ha,aS]
theorem Fz(h:aQ)(w:az):(bh 495 301 (.agg #[h]) "Elem").run prog w=.ok (335,.agg #[h]) w:=by kernel_rfl
theorem FB(h:aQ)(w:az):(bh 495 301 (.agg #[h]) "Implements").run prog w=.ok (336,.agg #[h]) w:=by kernel_rfl
theorem Aa(h:aQ)(w:az):(bh 495 301 (.agg #[h]) "AssignableTo").run prog w=.ok (333,.agg #[h]) w:=by kernel_rfl
theorem J5(w:az):(ReflectliteType.method ReflectliteType.elem #[.agg #[.pointer (some ⟨5,208,none⟩)]]).run prog w=.ok (.iface 301 (.agg #[.pointer (some ⟨5,24,none⟩)])) w:=by kernel_rfl
theorem J6(w:az):(ReflectliteType.relation "Implements" ReflectliteType.implements_ #[.agg #[.pointer (some ⟨5,24,none⟩)],.iface 301 (.agg #[.pointer (some ⟨5,29,none⟩)])]).run prog w=.ok (.bool true) w:=by kernel_rfl
theorem Ab(v:aQ)(w:az):(ReflectliteType.typeOf #[.iface 24 v]).run prog w=.ok (.iface 301 (.agg #[.pointer (some ⟨5,24,none⟩)])) w:=by kernel_rfl
theorem J7(v:aQ)(w:az):(ReflectliteType.typeOf #[.iface 190 v]).run prog w=.ok (.iface 301 (.agg #[.pointer (some ⟨5,190,none⟩)])) w:=by kernel_rfl
theorem Ac(w:az):(ReflectliteType.relation "AssignableTo" ReflectliteType.assignableTo #[.agg #[.pointer (some ⟨5,24,none⟩)],.iface 301 (.agg #[.pointer (some ⟨5,24,none⟩)])]).run prog w=.ok (.bool true) w:=by kernel_rfl
theorem J8(w:az):(ReflectliteType.relation "AssignableTo" ReflectliteType.assignableTo #[.agg #[.pointer (some ⟨5,190,none⟩)],.iface 301 (.agg #[.pointer (some ⟨5,24,none⟩)])]).run prog w=.ok (.bool false) w:=by kernel_rfl
theorem xF(n:Int)(w:az):(ReflectliteValue.unpack (.iface 24 (.int .i64 n))).run prog w
 =.ok (.agg #[.pointer (some ⟨5,24,none⟩),.pointer (some ⟨w.heap.size,0,none⟩),.int .u64 130]) (w.alloc (.cells #[.int .i64 n] 24)):=by kernel_rfl
theorem Mq(w:az):(Rtype.elem? 208).run prog w=.ok (some 24) w:=by kernel_rfl
theorem WL(p:Addr)(w:az):(ReflectliteValue.mk 24 p ReflectliteValue.flagAddr).run prog w=.ok (.agg #[.pointer (some ⟨5,24,none⟩),.pointer (some p),.int .u64 386]) w:=by kernel_rfl
theorem FC(a p:Addr)(W:az)(ha:W.cell? a=some (.pointer (some p))):
  (ReflectliteValue.method (ReflectliteValue.valueError "reflectlite.Value.Elem" 0) ReflectliteValue.elem #[.agg #[.pointer (some ⟨5,208,none⟩),.pointer (some a),.int .u64 150]]).run prog W
   =.ok (.agg #[.pointer (some ⟨5,24,none⟩),.pointer (some p),.int .u64 386]) W:=by
 rw[O1];simp only[bj,Fx,aS];simp[ReflectliteValue.elem,loadVar,isAgg,bz,bC,ha,aS,Mq,WL]
theorem U0(v x:aQ):ReflectliteValue.set #[v,x]=(do
 let (some (dst,a,s),some (q,b,_)):=(<-ReflectliteValue.parts v,<-ReflectliteValue.parts x)
  |bt (.noEntry "extern/(internal/reflectlite.Value).Set.zeroValue")
 if s/ReflectliteValue.flagAddr % 2==0 then bt (.noEntry "extern/(internal/reflectlite.Value).Set.unaddressable")
 let val<-loadVar q b
 if<-Rtype.directlyAssignable dst q then bA dst a val
 else if<-Rtype.implements dst q then
  if(<-Rtype.kind q)==20 then
   match val with
   | .nilIface=>bt (.noEntry "extern/reflectlite: a nil value of one interface type handed on as a value of another")
   |_=>bA dst a val
  else bA dst a (.iface q val)
 else panicString ("reflectlite.Set: value of type " ++(<-Rtype.spelt q)++ " is not assignable to type " ++(<-Rtype.spelt dst))
 pure (.tuple #[])):=rfl
theorem Mr(a:Addr)(w:az):(ReflectliteValue.parts (.agg #[.pointer (some ⟨5,24,none⟩),.pointer (some a),.int .u64 386])).run prog w=.ok (some (24,a,386)) w:=by kernel_rfl
theorem Ms(a:Addr)(w:az):(ReflectliteValue.parts (.agg #[.pointer (some ⟨5,24,none⟩),.pointer (some a),.int .u64 130])).run prog w=.ok (some (24,a,130)) w:=by kernel_rfl
theorem Mt(w:az):(Rtype.directlyAssignable 24 24).run prog w=.ok true w:=by kernel_rfl
theorem O2(q b:Addr)(n:Int)(old:aQ)(W:az)(s:W.cell? b=some (.int .i64 n))(y:W.cell? q=some old)(hf:W.frozen? q=false):
  (ReflectliteValue.set #[.agg #[.pointer (some ⟨5,24,none⟩),.pointer (some q),.int .u64 386],.agg #[.pointer (some ⟨5,24,none⟩),.pointer (some b),.int .u64 130]]).run prog W
   =.ok (.tuple #[]) (W.setCell q (.int .i64 n)):=by
 rw[U0];simp only[bj,Mr,Ms,aS];simp[ReflectliteValue.flagAddr,loadVar,isAgg,bz,underlying24,s,aS,Mt,bA,Value.cells,storeCells,Addr.add];rw[run_store prog W q _ _ (by rfl)];simp[y,hf]
def uY(n:Int)(b:Nat)(w:az)(e:Ending)(w':az):Prop:=
 e=.returned (.bool true)/\w'.cell? ⟨b,0,none⟩=some (.int .i64 n)/\∀a0:az,Gr a0 w->a0.heap.size<=b->Gr a0 w'
theorem uY.mk{n:Int}{b:Nat}{w w':az}(h:w'.cell? ⟨b,0,none⟩=some (.int .i64 n))(g:∀a0:az,Gr a0 w->a0.heap.size<=b->Gr a0 w'):uY n b w (.returned (.bool true)) w':=⟨rfl,h,g⟩
theorem P6(n:Int)(b:Nat)(old:aQ)(w:az)(B:dL w)(q:w.cell? ⟨b,0,none⟩=some old)(y:w.frozen? ⟨b,0,none⟩=false):
  bB prog 122 #[.iface 24 (.int .i64 n),.iface 208 (.pointer (some ⟨b,0,none⟩))] w (uY n b w):=by
 have Q:=@ae prog 174 _ (fun args=>ReflectliteValue.unpack (args.getD 0 (.tuple #[]))) func174 (by kernel_rfl) (by kernel_rfl) (by kernel_rfl) (by kernel_rfl);have S:=@ae prog 175 _ (ReflectliteValue.methodAny (ReflectliteValue.valueError "reflectlite.Value.Type" 0) (fun t _ _ _=>ReflectliteType.toType t)) func175 (by kernel_rfl) (by kernel_rfl) (by kernel_rfl) (by kernel_rfl);have U:=@ae prog 176 _ (ReflectliteValue.method (ReflectliteValue.valueError "reflectlite.Value.IsNil" 0) ReflectliteValue.isNil) func176 (by kernel_rfl) (by kernel_rfl) (by kernel_rfl) (by kernel_rfl);have D:=@ae prog 321 _ (ReflectliteType.abiMethod fun t=>do pure (.int .u8 (<-Rtype.kind t))) func321 (by kernel_rfl) (by kernel_rfl) (by kernel_rfl) (by kernel_rfl);have G:=@ae prog 335 _ (ReflectliteType.method ReflectliteType.elem) func335 (by kernel_rfl) (by kernel_rfl) (by kernel_rfl) (by kernel_rfl);have H:=@ae prog 336 _ (ReflectliteType.relation "Implements" ReflectliteType.implements_) func336 (by kernel_rfl) (by kernel_rfl) (by kernel_rfl) (by kernel_rfl);have I:=@ae prog 225 _ ReflectliteType.typeOf func225 (by kernel_rfl) (by kernel_rfl) (by kernel_rfl) (by kernel_rfl);have J:=@ae prog 333 _ (ReflectliteType.relation "AssignableTo" ReflectliteType.assignableTo) func333 (by kernel_rfl) (by kernel_rfl) (by kernel_rfl) (by kernel_rfl);have L:=@ae prog 226 _ (ReflectliteValue.method (ReflectliteValue.valueError "reflectlite.Value.Elem" 0) ReflectliteValue.elem) func226 (by kernel_rfl) (by kernel_rfl) (by kernel_rfl) (by kernel_rfl);have M:=@ae prog 227 _ ReflectliteValue.set func227 (by kernel_rfl) (by kernel_rfl) (by kernel_rfl) (by kernel_rfl);have f1:=Ab;have f2:=Aa;have f3:=Ac;have f4:=xF;have f5:=z_;have f6:=J4;have f7:=Fu;have f8:=Fz;have f9:=FB;have f10:=Fv;have f11:=Fw;have f12:=J5;have f13:=J6;have z:1<w.heap.size:=ad B;have s:b<w.heap.size:=ad q;have Y:=Fy ⟨w.heap.size,0,none⟩ ⟨b,0,none⟩ ((w.alloc (.cells #[.pointer (some ⟨b,0,none⟩)] 208)).alloc (.cells #[.pointer (some ⟨5,208,none⟩),.pointer (some ⟨w.heap.size,0,none⟩),.int .u64 150] 255)) (by simp);have V:((w.alloc (.cells #[.pointer (some ⟨b,0,none⟩)] 208)).alloc (.cells #[.pointer (some ⟨5,208,none⟩),.pointer (some ⟨w.heap.size,0,none⟩),.int .u64 150] 255)).cell? ⟨1,0,none⟩=some (.iface 301 (.agg #[.pointer (some ⟨5,29,none⟩)])):=by
  rw[ak _ _ ⟨1,0,none⟩ (by simp<;>omega),ak _ _ ⟨1,0,none⟩ z];exact B
 have Z:=FC ⟨w.heap.size,0,none⟩ ⟨b,0,none⟩ (((w.alloc (.cells #[.pointer (some ⟨b,0,none⟩)] 208)).alloc (.cells #[.pointer (some ⟨5,208,none⟩),.pointer (some ⟨w.heap.size,0,none⟩),.int .u64 150] 255)).alloc (.cells #[.pointer (some ⟨5,208,none⟩),.pointer (some ⟨w.heap.size,0,none⟩),.int .u64 150] 255)) (by rw[ak _ _ ⟨w.heap.size,0,none⟩ (by simp;omega)];simp);have st:=O2 ⟨b,0,none⟩ ⟨w.heap.size+1+1+1,0,none⟩ n old ((((w.alloc (.cells #[.pointer (some ⟨b,0,none⟩)] 208)).alloc (.cells #[.pointer (some ⟨5,208,none⟩),.pointer (some ⟨w.heap.size,0,none⟩),.int .u64 150] 255)).alloc (.cells #[.pointer (some ⟨5,208,none⟩),.pointer (some ⟨w.heap.size,0,none⟩),.int .u64 150] 255)).alloc (.cells #[.int .i64 n] 24))
  (by rw[be _ _ _ _ (by simp)];rfl)
  (by rw[ak _ _ ⟨b,0,none⟩ (by simp;omega),ak _ _ ⟨b,0,none⟩ (by simp;omega),ak _ _ ⟨b,0,none⟩ (by simp;omega),ak _ _ ⟨b,0,none⟩ s];exact q)
  (by rw[ap _ _ ⟨b,0,none⟩ (by simp;omega),ap _ _ ⟨b,0,none⟩ (by simp;omega),ap _ _ ⟨b,0,none⟩ (by simp;omega),ap _ _ ⟨b,0,none⟩ (bM s)];exact y)
 go_enter func122,ntmps122;go_wp2
 refine aV 1 ?_;rw[aX];go_wp2
 go_ret;refine uY.mk ?_ ?_
 ·exact a9 _ _ _ ((((((Gr.refl w).alloc _).alloc _).alloc _).alloc _).keeps q)
 intro a0 h O;exact((((h.alloc _).alloc _).alloc _).alloc _).setCell O _
theorem SJ(v:aQ)(b:bv)(w:az):(aU (.iface 190 v) b 306 true).run prog w=.ok (.tuple #[.nilIface,.bool false]) w:=bc underlying306 (by kernel_rfl) (by kernel_rfl) v b w
theorem H_(v:aQ)(b:bv)(w:az):(aU (.iface 190 v) b 224 true).run prog w=.ok (.tuple #[.iface 190 v,.bool true]) w:=run_typeAssert_hasB bF (by kernel_rfl) v b w
theorem Bs(v:aQ)(b:bv)(w:az):(aU (.iface 24 v) b 224 true).run prog w=.ok (.tuple #[.nilIface,.bool false]) w:=bc bF (by kernel_rfl) (by kernel_rfl) v b w
theorem J9(p:Option Addr)(w:az):(bh 495 190 (.pointer p) "Unwrap").run prog w=.ok (327,.pointer p) w:=by kernel_rfl
theorem P7(n:Int)(pb:Nat)(w:az)(q:w.cell? ⟨pb,0,none⟩=some (.int .i64 n)):bB prog 327 #[.pointer (some ⟨pb,0,none⟩)] w fun e b=>e=.returned (.iface 24 (.int .i64 n))/\b=w:=by
 go_enter func327,ntmps327;go_wp2
 go_ret;exact⟨rfl,rfl⟩
theorem WM(n:Int)(pb:Nat)(b:Nat)(old:aQ)(w:az)(B:dL w)(O:w.cell? ⟨pb,0,none⟩=some (.int .i64 n))(q:w.cell? ⟨b,0,none⟩=some old)(y:w.frozen? ⟨b,0,none⟩=false):
  bB prog 122 #[.iface 190 (.pointer (some ⟨pb,0,none⟩)),.iface 208 (.pointer (some ⟨b,0,none⟩))] w (uY n b w):=by
 have S:=@ae prog 174 _ (fun args=>ReflectliteValue.unpack (args.getD 0 (.tuple #[]))) func174 (by kernel_rfl) (by kernel_rfl) (by kernel_rfl) (by kernel_rfl);have U:=@ae prog 175 _ (ReflectliteValue.methodAny (ReflectliteValue.valueError "reflectlite.Value.Type" 0) (fun t _ _ _=>ReflectliteType.toType t)) func175 (by kernel_rfl) (by kernel_rfl) (by kernel_rfl) (by kernel_rfl);have V:=@ae prog 176 _ (ReflectliteValue.method (ReflectliteValue.valueError "reflectlite.Value.IsNil" 0) ReflectliteValue.isNil) func176 (by kernel_rfl) (by kernel_rfl) (by kernel_rfl) (by kernel_rfl);have D:=@ae prog 321 _ (ReflectliteType.abiMethod fun t=>do pure (.int .u8 (<-Rtype.kind t))) func321 (by kernel_rfl) (by kernel_rfl) (by kernel_rfl) (by kernel_rfl);have G:=@ae prog 335 _ (ReflectliteType.method ReflectliteType.elem) func335 (by kernel_rfl) (by kernel_rfl) (by kernel_rfl) (by kernel_rfl);have H:=@ae prog 336 _ (ReflectliteType.relation "Implements" ReflectliteType.implements_) func336 (by kernel_rfl) (by kernel_rfl) (by kernel_rfl) (by kernel_rfl);have I:=@ae prog 225 _ ReflectliteType.typeOf func225 (by kernel_rfl) (by kernel_rfl) (by kernel_rfl) (by kernel_rfl);have J:=@ae prog 333 _ (ReflectliteType.relation "AssignableTo" ReflectliteType.assignableTo) func333 (by kernel_rfl) (by kernel_rfl) (by kernel_rfl) (by kernel_rfl);have L:=@ae prog 226 _ (ReflectliteValue.method (ReflectliteValue.valueError "reflectlite.Value.Elem" 0) ReflectliteValue.elem) func226 (by kernel_rfl) (by kernel_rfl) (by kernel_rfl) (by kernel_rfl);have M:=@ae prog 227 _ ReflectliteValue.set func227 (by kernel_rfl) (by kernel_rfl) (by kernel_rfl) (by kernel_rfl);have f1:=Ab;have f2:=Aa;have f3:=Ac;have f4:=xF;have f5:=z_;have f6:=J4;have f7:=Fu;have f8:=Fz;have f9:=FB;have f10:=Fv;have f11:=Fw;have f12:=J5;have f13:=J6;have z:1<w.heap.size:=ad B;have g1:=J7;have Z:=J8;have g4:=SJ;have g5:=H_;have g6:=J9;have s:b<w.heap.size:=ad q;have n8:=Fy ⟨w.heap.size,0,none⟩ ⟨b,0,none⟩ ((w.alloc (.cells #[.pointer (some ⟨b,0,none⟩)] 208)).alloc (.cells #[.pointer (some ⟨5,208,none⟩),.pointer (some ⟨w.heap.size,0,none⟩),.int .u64 150] 255)) (by simp);have Y:((w.alloc (.cells #[.pointer (some ⟨b,0,none⟩)] 208)).alloc (.cells #[.pointer (some ⟨5,208,none⟩),.pointer (some ⟨w.heap.size,0,none⟩),.int .u64 150] 255)).cell? ⟨1,0,none⟩=some (.iface 301 (.agg #[.pointer (some ⟨5,29,none⟩)])):=by
  rw[ak _ _ ⟨1,0,none⟩ (by simp<;>omega),ak _ _ ⟨1,0,none⟩ z];exact B
 have el:=FC ⟨w.heap.size,0,none⟩ ⟨b,0,none⟩ (((w.alloc (.cells #[.pointer (some ⟨b,0,none⟩)] 208)).alloc (.cells #[.pointer (some ⟨5,208,none⟩),.pointer (some ⟨w.heap.size,0,none⟩),.int .u64 150] 255)).alloc (.cells #[.pointer (some ⟨5,208,none⟩),.pointer (some ⟨w.heap.size,0,none⟩),.int .u64 150] 255)) (by rw[ak _ _ ⟨w.heap.size,0,none⟩ (by simp;omega)];simp);have st:=O2 ⟨b,0,none⟩ ⟨w.heap.size+1+1+1,0,none⟩ n old ((((w.alloc (.cells #[.pointer (some ⟨b,0,none⟩)] 208)).alloc (.cells #[.pointer (some ⟨5,208,none⟩),.pointer (some ⟨w.heap.size,0,none⟩),.int .u64 150] 255)).alloc (.cells #[.pointer (some ⟨5,208,none⟩),.pointer (some ⟨w.heap.size,0,none⟩),.int .u64 150] 255)).alloc (.cells #[.int .i64 n] 24))
  (by rw[be _ _ _ _ (by simp)];rfl)
  (by rw[ak _ _ ⟨b,0,none⟩ (by simp;omega),ak _ _ ⟨b,0,none⟩ (by simp;omega),ak _ _ ⟨b,0,none⟩ (by simp;omega),ak _ _ ⟨b,0,none⟩ s];exact q)
  (by rw[ap _ _ ⟨b,0,none⟩ (by simp;omega),ap _ _ ⟨b,0,none⟩ (by simp;omega),ap _ _ ⟨b,0,none⟩ (by simp;omega),ap _ _ ⟨b,0,none⟩ (bM s)];exact y)
 go_enter func122,ntmps122;go_wp2
 refine aV 2 ?_;rw[aX];go_wp2_with(go_at_call 327;refine(P7 n pb _ ((((Gr.refl w).alloc _).alloc _).alloc _|>.keeps O)).mono ?_;rintro e w1 ⟨rfl,rfl⟩)
 rw[aX];go_wp2
 go_ret;refine uY.mk ?_ ?_
 ·exact a9 _ _ _ ((((((Gr.refl w).alloc _).alloc _).alloc _).alloc _).keeps q)
 intro a0 h Q;exact((((h.alloc _).alloc _).alloc _).alloc _).setCell Q _
def tG(w:az)(q:aQ)(n p:Int):Prop:=
 (q=.nilIface/\n=0/\p=-1)\/(q=.iface 24 (.int .i64 n)/\p=-1)\/
 (∃b,q=.iface 190 (.pointer (some ⟨b,0,none⟩))/\w.cell? ⟨b,0,none⟩=some (.int .i64 n)/\w.cell? ⟨b,1,none⟩=some (.int .i64 p))
theorem tG.gr{w w':az}{q:aQ}{n p:Int}(h:tG w q n p)(g:Gr w w'):tG w' q n p:=by
 rcases h with h|h|⟨b,s,y,z⟩
 ·exact .inl h
 ·exact .inr (.inl h)
 exact .inr (.inr ⟨b,s,g.keeps y,g.keeps z⟩)
theorem J_(v:aQ)(b:bv)(w:az):(aU (.iface 24 v) b 190 true).run prog w=.ok (.tuple #[.pointer none,.bool false]) w:=by kernel_rfl
theorem SK(v:aQ)(b:bv)(w:az):(aU (.iface 190 v) b 190 true).run prog w=.ok (.tuple #[v,.bool true]) w:=by kernel_rfl
theorem xG(y:aQ)(n p:Int)(w:az)(B:dL w)(h:tG w y n p):bB prog 68 #[y] w (ar w (.int .i64 n)):=by
 have D:=a5 B;clear B;rcases h with⟨rfl,rfl,_⟩|⟨rfl,_⟩|⟨b,rfl,G,_⟩
 ·go_enter cg,bX;go_wp2_with fail
  go_ret;exact ar.mk rfl (Gr.refl _)
 ·go_enter cg,bX;go_wp2_with fail
  refine(P6 n w.heap.size _ _ (D.out.gr ((Gr.refl w).alloc _)) (by rw[aJ];rfl) (by simp)).mono ?_;intro e H z;obtain⟨rfl,hc,s⟩:=z;have q:=s w ((Gr.refl w).alloc _) (bP _);clear s;go_wp2_with fail
  go_ret;exact ar.mk rfl q
 have I:=a5 G;clear G;go_enter cg,bX;go_wp2_with fail
 refine(WM n b w.heap.size _ _ (D.out.gr ((Gr.refl w).alloc _)) (((Gr.refl w).alloc _).keeps I.out) (by rw[aJ];rfl) (by simp)).mono ?_;intro e H z;obtain⟨rfl,hc,s⟩:=z;have q:=s w ((Gr.refl w).alloc _) (bP _);clear s;go_wp2_with fail
 go_ret;exact ar.mk rfl q
theorem SL(y:aQ)(n p:Int)(w:az)(G:dL w)(h:tG w y n p):bB prog 84 #[y] w (ar w (.tuple #[.int .i64 n,.int .i64 p])):=by
 have z:=a5 G;clear G;have J:=J_;have L:=SK;have M:=Bs;have B:=a5 h;rcases h with⟨rfl,rfl,rfl⟩|⟨rfl,rfl⟩|⟨b,rfl,D,s⟩
 ·go_enter ch,bZ;go_wp2_with fail
  refine(xG _ 0 (-1) _ z.out B.out).mono ?_;rintro e H ⟨rfl,q⟩;go_wp2_with fail
  refine aV 1 ?_;rw[aX];go_wp2_with fail
  go_ret2;exact ar.mk rfl q
 ·go_enter ch,bZ;go_wp2_with fail
  refine(xG _ n (-1) _ z.out B.out).mono ?_;rintro e H ⟨rfl,q⟩;go_wp2_with fail
  refine aV 1 ?_;rw[aX];go_wp2_with fail
  go_ret2;exact ar.mk rfl q
 have I:=a5 s;clear D s;go_enter ch,bZ;go_wp2_with fail
 refine(xG _ n p _ z.out B.out).mono ?_;rintro e H ⟨rfl,q⟩;have s:=q.keeps I.out;go_wp2_with fail
 refine aV 1 ?_;rw[aX];go_wp2_with fail
 go_region
 all_goals go_wp2_with fail
 all_goals go_ret2
 all_goals exact ar.mk rfl (by first|exact q.drew|exact q|exact q.drewN _)
theorem P8(e:Int)(w:az):bB prog 39 #[.int .i64 e] w (ar w (.agg #[.int .i64 e,.int .i64 (-1)])):=by
 go_enter func39,ntmps39;go_wp2
 refine bodyPost_ret (v:=.agg #[.int .i64 e,.int .i64 (-1)]) (by simp[results,Tryz.results39,go_sem]) rfl ?_;exact ar.mk rfl ((Gr.refl _).alloc _)
theorem XV(q:aQ)(n p s y:Int)(w:az)(z:dL w)(h:tG w q n p):bB prog 38 #[q,.agg #[.int .i64 s,.int .i64 y]] w (ar w (.bool (n==s&&p==y))):=by
 have D:=a5 z;have H:=a5 h;clear z h;go_enter func38,ntmps38;go_wp2_with fail
 refine(SL q n p _ (D.out.gr ((Gr.refl w).alloc _)) (H.out.gr ((Gr.refl w).alloc _))).mono ?_;rintro e B ⟨rfl,b⟩;have I:B.cell? ⟨w.heap.size,0,none⟩=some (.int .i64 s):=b.keeps (by rw[aJ];rfl);have J:B.cell? ⟨w.heap.size,1,none⟩=some (.int .i64 y):=b.keeps (by rw[aJ];rfl);have G:=((Gr.refl w).alloc _).trans b;clear b;go_wp2_with fail
 all_goals go_ret
 all_goals exact ar.mk (by simp_all) G
theorem U1(b:aQ)(n p e:Int)(w:az)(y:dL w)(h:tG w b n p):bB prog 9 #[b,.int .i64 e] w (ar w (.bool (n==e&&p==-1))):=by
 have z:=a5 y;have H:=a5 h;clear y h;go_enter func9,ntmps9;go_wp2_with fail
 refine(P8 e _).mono ?_;rintro B D ⟨rfl,q⟩;go_wp2_with fail
 refine(XV b n p e (-1) _ (z.out.gr q) (H.out.gr q)).mono ?_;rintro B G ⟨rfl,s⟩;go_wp2_with fail
 go_ret;exact ar.mk rfl (q.trans s)
end
section
open Go.ChangeShapes Go.WideShapes Go.ChangeAt Go.RowKit
theorem XW:prog.globalNamed "errors.errorType" =some 1:=by kernel_rfl
theorem WN:(prog.cutTypes.find? (·.1== "internal/reflectlite.rtype")).map (·.2)=some 301:=by kernel_rfl
theorem U2:((bW prog.types.size).filter fun t=>prog.rowNamed t [101,114,114,111,114])=[29]:=by kernel_rfl
theorem WO:typeHandle prog 29=.pointer (some ⟨5,29,none⟩):=by kernel_rfl
theorem Bt{hs:List (String×DataW Unit)}{W:az}(h:handlesMet prog hs W)(b:("errors.errorType",Rows.laid_errors_errorType)∈hs):dL W:=by
 obtain⟨name,u,ty,s,y,z,B,q⟩:=h _ b;have D:name=[101,114,114,111,114]:=(bu s).symm;subst D;obtain rfl:=bu (WN.symm.trans y);have b:ty∈(bW prog.types.size).filter fun t=>prog.rowNamed t [101,114,114,111,114]:=List.mem_filter.2 ⟨List.mem_range.2 z,B⟩;rw[U2]at b;obtain rfl:=List.mem_singleton.1 b;rw[WO]at q;have:=World.var?_cell XW q 0;unfold dL;simpa using this
end
section
open Go
theorem OZ{P:Program}{f:FuncId}{b:Func}{s:ChangeSpec}{c:OpenClaim}
  (k1:c.wf (b_ s)=true) (k2:laidOutB P=true) (k3:mapsRowed P=true) (k4:b.params.all (P.readableRec ·)=true) (k5:namedTie P c.named s.vars=true)
  (k6:(c.stops==[])=true) (k7:(P.stops==[])=true) (k8:(c.knobs==[])=true) (k9:(P.stopKnobs==[])=true)
  (q:(c.inPlace==P.inPlace f)=true) (y:(c.unfollowed==P.unfollowed f)=true) (z:(c.recurses==P.recurses f)=true) (B:(c.named==P.varsNamed f)=true)
  (D:(c.maps==(b.params.toList++s.plain.varTypes P).any (P.mapsRec ·))=true) (G:(c.ifaces==(b.params.toList++s.plain.varTypes P).any (P.ifacesRec ·))=true) (H:(c.mapsOut==P.mapsAmong b.resultTypes.toList)=true)
  (I:(c.loops==(b.params.toList++s.plain.varTypes P).any (P.loopsFrom ·))=true) (J:(c.wideKeys==(b.params.toList++s.plain.varTypes P++b.resultTypes.toList).any (P.wideKeysFrom ·))=true)
  (L:s.vars.all (P.varReadable ·)=true) (M:b.resultTypes.all (fun t=>P.readableRec t&&decide (t<P.types.size))=true) (O:(c.ifacesOut==b.resultTypes.toList.any (P.ifacesRec ·))=true) (Q:(c.loopsOut==b.resultTypes.toList.any (P.loopsFrom ·))=true) (S:(c.plainKeys==P.plainKeys)=true) (U:c.shortTexts.isNone=true) (V:P.stopsHeard=true) (Y:P.mayEnter=true) (Z:(c.lifted==P.liftsFinal)=true) (a0:(P.make==some c.make)=true)
  (a1:(c.kinds==(if c.domain.isEmpty then[]else b.params.toList.map fun t=>match P.underlying t with|some (.int k)=>some k|_=>none))=true) (a2:(c.pinned==c.pinnedBy)=true)
  (a3:(c.veiled==(b.params.toList++s.plain.varTypes P++b.resultTypes.toList).any (P.veiledRec ·))=true) (a4:c.veiledFits P b.params.toList (b.params.toList++s.plain.varTypes P++b.resultTypes.toList)=true):bQ P f b s c=true:=by
 unfold bQ;simp only[Bool.and_eq_true];exact⟨⟨⟨⟨⟨⟨⟨⟨⟨⟨⟨⟨⟨⟨⟨⟨⟨⟨⟨⟨⟨⟨⟨⟨⟨⟨⟨⟨⟨⟨⟨k1,k2⟩,k3⟩,k4⟩,k5⟩,k6⟩,k7⟩,k8⟩,k9⟩,q⟩,y⟩,z⟩,B⟩,D⟩,G⟩,H⟩,I⟩,J⟩,L⟩,M⟩,O⟩,Q⟩,S⟩,U⟩,V⟩,Y⟩,Z⟩,a0⟩,a1⟩,a2⟩,a3⟩,a4⟩
