/-
  Part 23 of the proof.
-/
import Derived.Test.YtldmhjbdahjhdaaGreatDoorZb1
import Derived.Stop.Asserts
import Derived.Test.YtldmhjbdahjhdaaGreatDoorRows
import Derived.ProofKit
import Derived.LaidMore
import Derived.OpenShut
import Derived.Stop.Joined
open Go.Proofs.Tryz renaming prog->atD,underlying208->atM,ntmps68->atO,func68->atT,ntmps122->atY,func174->atZ,func175->at1,func176->at2,func321->at3,func335->at4,func336->at5,func225->at6,func333->at7,func226->aua,func227->aub,func122->aud
open Go renaming run_callFunc_extern->atE,method->atL,unsupported->atQ,rounds_succ->atS,underlying->atV,storeVar->atW,wp_loop_rounds->atX
open Go.World renaming cell?_alloc_lt->atF,frozen?_alloc_old->atG,cell?_setCell_same->atI,cell?_alloc_new->atJ,cell?_alloc_at->atK
open Go.Result renaming andThen->atH
open Go.Sem renaming run_bind->atN
open Go.Instr renaming typeAssert->atP
open Option.some renaming inj->atU
open Nat renaming ne_of_lt->auc,le_refl->aue
open Go.IntKind renaming u8->auf
open List renaming range->aug
open Go.Value renaming int->auh
set_option maxRecDepth 100000
set_option maxHeartbeats 100000000
set_option linter.all false
namespace Go.Proofs.YtldmhjbdahjhdaaGreatDoor
section
open Go Go.RowKit Go.Extern.Stop Go.Stop Go.Extern
def eG(w:World):Prop:=w.cell? ⟨1,0,none⟩=some (.iface 301 (.agg #[.pointer (some ⟨5,29,none⟩)]))
theorem eG.gr{w w':World}(h:eG w)(g:Gr w w'):eG w':=g.keeps h
theorem yE(t:Addr)(w:World):(ReflectliteValue.unpack (.iface 208 (.pointer (some t)))).run atD w
 =.ok (.agg #[.pointer (some ⟨5,208,none⟩),.pointer (some ⟨w.heap.size,0,none⟩),.int .u64 150]) (w.alloc (.cells #[.pointer (some t)] 208)):=by kernel_rfl
theorem Ih(a:Addr)(w:World):(ReflectliteValue.methodAny (ReflectliteValue.valueError "reflectlite.Value.Type" 0) (fun t _ _ _=>ReflectliteType.toType t) #[.agg #[.pointer (some ⟨5,208,none⟩),.pointer (some a),.int .u64 150]]).run atD w
 =.ok (.iface 301 (.agg #[.pointer (some ⟨5,208,none⟩)])) w:=by kernel_rfl
theorem DD(h:Value)(w:World):(atL 495 301 (.agg #[h]) "Kind").run atD w=.ok (321,h) w:=by kernel_rfl
theorem DE(w:World):((ReflectliteType.abiMethod fun t=>(fun a:Nat=>auh auf (a:Int))<$>Rtype.kind t) #[.pointer (some ⟨5,208,none⟩)]).run atD w=.ok (.int .u8 22) w:=by kernel_rfl
theorem DF(w:World):((ReflectliteType.abiMethod fun t=>(fun a:Nat=>auh auf (a:Int))<$>Rtype.kind t) #[.pointer (some ⟨5,24,none⟩)]).run atD w=.ok (.int .u8 2) w:=by kernel_rfl
theorem M6(z:Sem Value)(f:TypeId->Addr->Nat->Nat->Sem Value)(v:Value):
 ReflectliteValue.method z f #[v]=(do match<-ReflectliteValue.parts v with|none=>z|some (t,a,fl)=>f t a fl (fl % 32)):=rfl
theorem DG(a:Addr)(w:World):(ReflectliteValue.parts (.agg #[.pointer (some ⟨5,208,none⟩),.pointer (some a),.int .u64 150])).run atD w=.ok (some (208,a,150)) w:=by kernel_rfl
theorem DH(a p:Addr)(W:World)(ha:W.cell? a=some (.pointer (some p))):
  (ReflectliteValue.method (ReflectliteValue.valueError "reflectlite.Value.IsNil" 0) ReflectliteValue.isNil #[.agg #[.pointer (some ⟨5,208,none⟩),.pointer (some a),.int .u64 150]]).run atD W=.ok (.bool false) W:=by
 rw[M6];simp only[atN,DG,atH];simp[ReflectliteValue.isNil,loadVar,isAgg,atV,atM,ha,atH]
theorem DI(h:Value)(w:World):(atL 495 301 (.agg #[h]) "Elem").run atD w=.ok (335,.agg #[h]) w:=by kernel_rfl
theorem DJ(h:Value)(w:World):(atL 495 301 (.agg #[h]) "Implements").run atD w=.ok (336,.agg #[h]) w:=by kernel_rfl
theorem yF(h:Value)(w:World):(atL 495 301 (.agg #[h]) "AssignableTo").run atD w=.ok (333,.agg #[h]) w:=by kernel_rfl
theorem Ii(w:World):(ReflectliteType.method ReflectliteType.elem #[.agg #[.pointer (some ⟨5,208,none⟩)]]).run atD w=.ok (.iface 301 (.agg #[.pointer (some ⟨5,24,none⟩)])) w:=by kernel_rfl
theorem Ij(w:World):(ReflectliteType.relation "Implements" ReflectliteType.implements_ #[.agg #[.pointer (some ⟨5,24,none⟩)],.iface 301 (.agg #[.pointer (some ⟨5,29,none⟩)])]).run atD w=.ok (.bool true) w:=by kernel_rfl
theorem yG(v:Value)(w:World):(ReflectliteType.typeOf #[.iface 24 v]).run atD w=.ok (.iface 301 (.agg #[.pointer (some ⟨5,24,none⟩)])) w:=by kernel_rfl
theorem Ik(v:Value)(w:World):(ReflectliteType.typeOf #[.iface 190 v]).run atD w=.ok (.iface 301 (.agg #[.pointer (some ⟨5,190,none⟩)])) w:=by kernel_rfl
theorem yH(w:World):(ReflectliteType.relation "AssignableTo" ReflectliteType.assignableTo #[.agg #[.pointer (some ⟨5,24,none⟩)],.iface 301 (.agg #[.pointer (some ⟨5,24,none⟩)])]).run atD w=.ok (.bool true) w:=by kernel_rfl
theorem Il(w:World):(ReflectliteType.relation "AssignableTo" ReflectliteType.assignableTo #[.agg #[.pointer (some ⟨5,190,none⟩)],.iface 301 (.agg #[.pointer (some ⟨5,24,none⟩)])]).run atD w=.ok (.bool false) w:=by kernel_rfl
theorem wh(n:Int)(w:World):(ReflectliteValue.unpack (.iface 24 (.int .i64 n))).run atD w
 =.ok (.agg #[.pointer (some ⟨5,24,none⟩),.pointer (some ⟨w.heap.size,0,none⟩),.int .u64 130]) (w.alloc (.cells #[.int .i64 n] 24)):=by kernel_rfl
theorem Ku(w:World):(Rtype.elem? 208).run atD w=.ok (some 24) w:=by kernel_rfl
theorem Uh(p:Addr)(w:World):(ReflectliteValue.mk 24 p ReflectliteValue.flagAddr).run atD w=.ok (.agg #[.pointer (some ⟨5,24,none⟩),.pointer (some p),.int .u64 386]) w:=by kernel_rfl
theorem DK(a p:Addr)(W:World)(ha:W.cell? a=some (.pointer (some p))):
  (ReflectliteValue.method (ReflectliteValue.valueError "reflectlite.Value.Elem" 0) ReflectliteValue.elem #[.agg #[.pointer (some ⟨5,208,none⟩),.pointer (some a),.int .u64 150]]).run atD W
   =.ok (.agg #[.pointer (some ⟨5,24,none⟩),.pointer (some p),.int .u64 386]) W:=by
 rw[M6];simp only[atN,DG,atH];simp[ReflectliteValue.elem,loadVar,isAgg,atV,atM,ha,atH,Ku,Uh]
theorem SN(v x:Value):ReflectliteValue.set #[v,x]=(do
 let (some (dst,a,s),some (q,b,_)):=(<-ReflectliteValue.parts v,<-ReflectliteValue.parts x)
  |atQ (.noEntry "extern/(internal/reflectlite.Value).Set.zeroValue")
 if s/ReflectliteValue.flagAddr % 2==0 then atQ (.noEntry "extern/(internal/reflectlite.Value).Set.unaddressable")
 let val<-loadVar q b
 if<-Rtype.directlyAssignable dst q then atW dst a val
 else if<-Rtype.implements dst q then
  if(<-Rtype.kind q)==20 then
   match val with
   | .nilIface=>atQ (.noEntry "extern/reflectlite: a nil value of one interface type handed on as a value of another")
   |_=>atW dst a val
  else atW dst a (.iface q val)
 else panicString ("reflectlite.Set: value of type " ++(<-Rtype.spelt q)++ " is not assignable to type " ++(<-Rtype.spelt dst))
 pure (.tuple #[])):=rfl
theorem Kv(a:Addr)(w:World):(ReflectliteValue.parts (.agg #[.pointer (some ⟨5,24,none⟩),.pointer (some a),.int .u64 386])).run atD w=.ok (some (24,a,386)) w:=by kernel_rfl
theorem Kw(a:Addr)(w:World):(ReflectliteValue.parts (.agg #[.pointer (some ⟨5,24,none⟩),.pointer (some a),.int .u64 130])).run atD w=.ok (some (24,a,130)) w:=by kernel_rfl
theorem Kx(w:World):(Rtype.directlyAssignable 24 24).run atD w=.ok true w:=by kernel_rfl
theorem M7(q b:Addr)(n:Int)(old:Value)(W:World)(s:W.cell? b=some (.int .i64 n))(y:W.cell? q=some old)(hf:W.frozen? q=false):
  (ReflectliteValue.set #[.agg #[.pointer (some ⟨5,24,none⟩),.pointer (some q),.int .u64 386],.agg #[.pointer (some ⟨5,24,none⟩),.pointer (some b),.int .u64 130]]).run atD W
   =.ok (.tuple #[]) (W.setCell q (.int .i64 n)):=by
 rw[SN];simp only[atN,Kv,Kw,atH];simp[ReflectliteValue.flagAddr,loadVar,isAgg,atV,Tryz.underlying24,s,atH,Kx,atW,Value.cells,storeCells,Addr.add];rw[run_store atD W q _ _ (by rfl)];simp[y,hf]
def tI(n:Int)(b:Nat)(w:World)(e:Ending)(w':World):Prop:=
 e=.returned (.bool true)/\w'.cell? ⟨b,0,none⟩=some (.int .i64 n)/\∀a0:World,Gr a0 w->a0.heap.size<=b->Gr a0 w'
theorem tI.mk{n:Int}{b:Nat}{w w':World}(h:w'.cell? ⟨b,0,none⟩=some (.int .i64 n))(g:∀a0:World,Gr a0 w->a0.heap.size<=b->Gr a0 w'):tI n b w (.returned (.bool true)) w':=⟨rfl,h,g⟩
theorem NY(n:Int)(b:Nat)(old:Value)(w:World)(B:eG w)(q:w.cell? ⟨b,0,none⟩=some old)(y:w.frozen? ⟨b,0,none⟩=false):
  Calls atD 122 #[.iface 24 (.int .i64 n),.iface 208 (.pointer (some ⟨b,0,none⟩))] w (tI n b w):=by
 have Q:=@atE atD 174 _ (fun args=>ReflectliteValue.unpack (args.getD 0 (.tuple #[]))) atZ (by kernel_rfl) (by kernel_rfl) (by kernel_rfl) (by kernel_rfl);have S:=@atE atD 175 _ (ReflectliteValue.methodAny (ReflectliteValue.valueError "reflectlite.Value.Type" 0) (fun t _ _ _=>ReflectliteType.toType t)) at1 (by kernel_rfl) (by kernel_rfl) (by kernel_rfl) (by kernel_rfl);have U:=@atE atD 176 _ (ReflectliteValue.method (ReflectliteValue.valueError "reflectlite.Value.IsNil" 0) ReflectliteValue.isNil) at2 (by kernel_rfl) (by kernel_rfl) (by kernel_rfl) (by kernel_rfl);have D:=@atE atD 321 _ (ReflectliteType.abiMethod fun t=>do pure (.int .u8 (<-Rtype.kind t))) at3 (by kernel_rfl) (by kernel_rfl) (by kernel_rfl) (by kernel_rfl);have G:=@atE atD 335 _ (ReflectliteType.method ReflectliteType.elem) at4 (by kernel_rfl) (by kernel_rfl) (by kernel_rfl) (by kernel_rfl);have H:=@atE atD 336 _ (ReflectliteType.relation "Implements" ReflectliteType.implements_) at5 (by kernel_rfl) (by kernel_rfl) (by kernel_rfl) (by kernel_rfl);have I:=@atE atD 225 _ ReflectliteType.typeOf at6 (by kernel_rfl) (by kernel_rfl) (by kernel_rfl) (by kernel_rfl);have J:=@atE atD 333 _ (ReflectliteType.relation "AssignableTo" ReflectliteType.assignableTo) at7 (by kernel_rfl) (by kernel_rfl) (by kernel_rfl) (by kernel_rfl);have L:=@atE atD 226 _ (ReflectliteValue.method (ReflectliteValue.valueError "reflectlite.Value.Elem" 0) ReflectliteValue.elem) aua (by kernel_rfl) (by kernel_rfl) (by kernel_rfl) (by kernel_rfl);have M:=@atE atD 227 _ ReflectliteValue.set aub (by kernel_rfl) (by kernel_rfl) (by kernel_rfl) (by kernel_rfl);have f1:=yG;have f2:=yF;have f3:=yH;have f4:=wh;have f5:=yE;have f6:=Ih;have f7:=DD;have f8:=DI;have f9:=DJ;have f10:=DE;have f11:=DF;have f12:=Ii;have f13:=Ij;have z:1<w.heap.size:=ad B;have s:b<w.heap.size:=ad q;have Y:=DH ⟨w.heap.size,0,none⟩ ⟨b,0,none⟩ ((w.alloc (.cells #[.pointer (some ⟨b,0,none⟩)] 208)).alloc (.cells #[.pointer (some ⟨5,208,none⟩),.pointer (some ⟨w.heap.size,0,none⟩),.int .u64 150] 255)) (by simp);have V:((w.alloc (.cells #[.pointer (some ⟨b,0,none⟩)] 208)).alloc (.cells #[.pointer (some ⟨5,208,none⟩),.pointer (some ⟨w.heap.size,0,none⟩),.int .u64 150] 255)).cell? ⟨1,0,none⟩=some (.iface 301 (.agg #[.pointer (some ⟨5,29,none⟩)])):=by
  rw[atF _ _ ⟨1,0,none⟩ (by simp<;>omega),atF _ _ ⟨1,0,none⟩ z];exact B
 have Z:=DK ⟨w.heap.size,0,none⟩ ⟨b,0,none⟩ (((w.alloc (.cells #[.pointer (some ⟨b,0,none⟩)] 208)).alloc (.cells #[.pointer (some ⟨5,208,none⟩),.pointer (some ⟨w.heap.size,0,none⟩),.int .u64 150] 255)).alloc (.cells #[.pointer (some ⟨5,208,none⟩),.pointer (some ⟨w.heap.size,0,none⟩),.int .u64 150] 255)) (by rw[atF _ _ ⟨w.heap.size,0,none⟩ (by simp;omega)];simp);have st:=M7 ⟨b,0,none⟩ ⟨w.heap.size+1+1+1,0,none⟩ n old ((((w.alloc (.cells #[.pointer (some ⟨b,0,none⟩)] 208)).alloc (.cells #[.pointer (some ⟨5,208,none⟩),.pointer (some ⟨w.heap.size,0,none⟩),.int .u64 150] 255)).alloc (.cells #[.pointer (some ⟨5,208,none⟩),.pointer (some ⟨w.heap.size,0,none⟩),.int .u64 150] 255)).alloc (.cells #[.int .i64 n] 24))
  (by rw[atK _ _ _ _ (by simp)];rfl)
  (by rw[atF _ _ ⟨b,0,none⟩ (by simp;omega),atF _ _ ⟨b,0,none⟩ (by simp;omega),atF _ _ ⟨b,0,none⟩ (by simp;omega),atF _ _ ⟨b,0,none⟩ s];exact q)
  (by rw[atG _ _ ⟨b,0,none⟩ (by simp;omega),atG _ _ ⟨b,0,none⟩ (by simp;omega),atG _ _ ⟨b,0,none⟩ (by simp;omega),atG _ _ ⟨b,0,none⟩ (auc s)];exact y)
 go_enter aud,atY;go_wp2
 refine atX 1 ?_;rw[atS];go_wp2
 go_ret;refine tI.mk ?_ ?_
 ·exact atI _ _ _ ((((((Gr.refl w).alloc _).alloc _).alloc _).alloc _).keeps q)
 ·intro a0 h O;exact((((h.alloc _).alloc _).alloc _).alloc _).setCell O _
theorem QG(v:Value)(b:TypeId)(w:World):(atP (.iface 190 v) b 306 true).run atD w=.ok (.tuple #[.nilIface,.bool false]) w:=run_typeAssert_lacksB Tryz.underlying306 (by kernel_rfl) (by kernel_rfl) v b w
theorem FC(v:Value)(b:TypeId)(w:World):(atP (.iface 190 v) b 224 true).run atD w=.ok (.tuple #[.iface 190 v,.bool true]) w:=run_typeAssert_hasB Tryz.underlying224 (by kernel_rfl) v b w
theorem Im(p:Option Addr)(w:World):(atL 495 190 (.pointer p) "Unwrap").run atD w=.ok (327,.pointer p) w:=by kernel_rfl
theorem NZ(n:Int)(pb:Nat)(w:World)(b:w.cell? ⟨pb,0,none⟩=some (.int .i64 n)):Calls atD 327 #[.pointer (some ⟨pb,0,none⟩)] w fun e w'=>e=.returned (.iface 24 (.int .i64 n))/\w'=w:=by
 go_enter Tryz.func327,Tryz.ntmps327;go_wp2
 go_ret;exact⟨rfl,rfl⟩
theorem Ui(n:Int)(pb:Nat)(b:Nat)(old:Value)(w:World)(B:eG w)(O:w.cell? ⟨pb,0,none⟩=some (.int .i64 n))(q:w.cell? ⟨b,0,none⟩=some old)(y:w.frozen? ⟨b,0,none⟩=false):
  Calls atD 122 #[.iface 190 (.pointer (some ⟨pb,0,none⟩)),.iface 208 (.pointer (some ⟨b,0,none⟩))] w (tI n b w):=by
 have S:=@atE atD 174 _ (fun args=>ReflectliteValue.unpack (args.getD 0 (.tuple #[]))) atZ (by kernel_rfl) (by kernel_rfl) (by kernel_rfl) (by kernel_rfl);have U:=@atE atD 175 _ (ReflectliteValue.methodAny (ReflectliteValue.valueError "reflectlite.Value.Type" 0) (fun t _ _ _=>ReflectliteType.toType t)) at1 (by kernel_rfl) (by kernel_rfl) (by kernel_rfl) (by kernel_rfl);have V:=@atE atD 176 _ (ReflectliteValue.method (ReflectliteValue.valueError "reflectlite.Value.IsNil" 0) ReflectliteValue.isNil) at2 (by kernel_rfl) (by kernel_rfl) (by kernel_rfl) (by kernel_rfl);have D:=@atE atD 321 _ (ReflectliteType.abiMethod fun t=>do pure (.int .u8 (<-Rtype.kind t))) at3 (by kernel_rfl) (by kernel_rfl) (by kernel_rfl) (by kernel_rfl);have G:=@atE atD 335 _ (ReflectliteType.method ReflectliteType.elem) at4 (by kernel_rfl) (by kernel_rfl) (by kernel_rfl) (by kernel_rfl);have H:=@atE atD 336 _ (ReflectliteType.relation "Implements" ReflectliteType.implements_) at5 (by kernel_rfl) (by kernel_rfl) (by kernel_rfl) (by kernel_rfl);have I:=@atE atD 225 _ ReflectliteType.typeOf at6 (by kernel_rfl) (by kernel_rfl) (by kernel_rfl) (by kernel_rfl);have J:=@atE atD 333 _ (ReflectliteType.relation "AssignableTo" ReflectliteType.assignableTo) at7 (by kernel_rfl) (by kernel_rfl) (by kernel_rfl) (by kernel_rfl);have L:=@atE atD 226 _ (ReflectliteValue.method (ReflectliteValue.valueError "reflectlite.Value.Elem" 0) ReflectliteValue.elem) aua (by kernel_rfl) (by kernel_rfl) (by kernel_rfl) (by kernel_rfl);have M:=@atE atD 227 _ ReflectliteValue.set aub (by kernel_rfl) (by kernel_rfl) (by kernel_rfl) (by kernel_rfl);have f1:=yG;have f2:=yF;have f3:=yH;have f4:=wh;have f5:=yE;have f6:=Ih;have f7:=DD;have f8:=DI;have f9:=DJ;have f10:=DE;have f11:=DF;have f12:=Ii;have f13:=Ij;have z:1<w.heap.size:=ad B;have g1:=Ik;have Z:=Il;have g4:=QG;have g5:=FC;have g6:=Im;have s:b<w.heap.size:=ad q;have n8:=DH ⟨w.heap.size,0,none⟩ ⟨b,0,none⟩ ((w.alloc (.cells #[.pointer (some ⟨b,0,none⟩)] 208)).alloc (.cells #[.pointer (some ⟨5,208,none⟩),.pointer (some ⟨w.heap.size,0,none⟩),.int .u64 150] 255)) (by simp);have Y:((w.alloc (.cells #[.pointer (some ⟨b,0,none⟩)] 208)).alloc (.cells #[.pointer (some ⟨5,208,none⟩),.pointer (some ⟨w.heap.size,0,none⟩),.int .u64 150] 255)).cell? ⟨1,0,none⟩=some (.iface 301 (.agg #[.pointer (some ⟨5,29,none⟩)])):=by
  rw[atF _ _ ⟨1,0,none⟩ (by simp<;>omega),atF _ _ ⟨1,0,none⟩ z];exact B
 have el:=DK ⟨w.heap.size,0,none⟩ ⟨b,0,none⟩ (((w.alloc (.cells #[.pointer (some ⟨b,0,none⟩)] 208)).alloc (.cells #[.pointer (some ⟨5,208,none⟩),.pointer (some ⟨w.heap.size,0,none⟩),.int .u64 150] 255)).alloc (.cells #[.pointer (some ⟨5,208,none⟩),.pointer (some ⟨w.heap.size,0,none⟩),.int .u64 150] 255)) (by rw[atF _ _ ⟨w.heap.size,0,none⟩ (by simp;omega)];simp);have st:=M7 ⟨b,0,none⟩ ⟨w.heap.size+1+1+1,0,none⟩ n old ((((w.alloc (.cells #[.pointer (some ⟨b,0,none⟩)] 208)).alloc (.cells #[.pointer (some ⟨5,208,none⟩),.pointer (some ⟨w.heap.size,0,none⟩),.int .u64 150] 255)).alloc (.cells #[.pointer (some ⟨5,208,none⟩),.pointer (some ⟨w.heap.size,0,none⟩),.int .u64 150] 255)).alloc (.cells #[.int .i64 n] 24))
  (by rw[atK _ _ _ _ (by simp)];rfl)
  (by rw[atF _ _ ⟨b,0,none⟩ (by simp;omega),atF _ _ ⟨b,0,none⟩ (by simp;omega),atF _ _ ⟨b,0,none⟩ (by simp;omega),atF _ _ ⟨b,0,none⟩ s];exact q)
  (by rw[atG _ _ ⟨b,0,none⟩ (by simp;omega),atG _ _ ⟨b,0,none⟩ (by simp;omega),atG _ _ ⟨b,0,none⟩ (by simp;omega),atG _ _ ⟨b,0,none⟩ (auc s)];exact y)
 go_enter aud,atY;go_wp2
 refine atX 2 ?_;rw[atS];go_wp2_with(go_at_call 327;refine(NZ n pb _ ((((Gr.refl w).alloc _).alloc _).alloc _|>.keeps O)).mono ?_;rintro e w1 ⟨rfl,rfl⟩)
 rw[atS];go_wp2
 go_ret;refine tI.mk ?_ ?_
 ·exact atI _ _ _ ((((((Gr.refl w).alloc _).alloc _).alloc _).alloc _).keeps q)
 ·intro a0 h Q;exact((((h.alloc _).alloc _).alloc _).alloc _).setCell Q _
def Uj(w:World)(q:Value)(n p:Int):Prop:=
 (q=.nilIface/\n=0/\p=-1)\/(q=.iface 24 (.int .i64 n)/\p=-1)\/
 (∃b,q=.iface 190 (.pointer (some ⟨b,0,none⟩))/\w.cell? ⟨b,0,none⟩=some (.int .i64 n)/\w.cell? ⟨b,1,none⟩=some (.int .i64 p))
theorem M8(y:Value)(n p:Int)(w:World)(B:eG w)(h:Uj w y n p):Calls atD 68 #[y] w (ar w (.int .i64 n)):=by
 have D:=Lib.hid B;clear B;rcases h with⟨rfl,rfl,_⟩|⟨rfl,_⟩|⟨b,rfl,G,_⟩
 ·go_enter atT,atO;go_wp2_with fail
  go_ret;exact ar.mk rfl (Gr.refl _)
 ·go_enter atT,atO;go_wp2_with fail
  refine(NY n w.heap.size _ _ (D.out.gr ((Gr.refl w).alloc _)) (by rw[atJ];rfl) (by simp)).mono ?_;intro e H z;obtain⟨rfl,hc,s⟩:=z;have q:=s w ((Gr.refl w).alloc _) (aue _);clear s;go_wp2_with fail
  go_ret;exact ar.mk rfl q
 ·have I:=Lib.hid G;clear G;go_enter atT,atO;go_wp2_with fail
  refine(Ui n b w.heap.size _ _ (D.out.gr ((Gr.refl w).alloc _)) (((Gr.refl w).alloc _).keeps I.out) (by rw[atJ];rfl) (by simp)).mono ?_;intro e H z;obtain⟨rfl,hc,s⟩:=z;have q:=s w ((Gr.refl w).alloc _) (aue _);clear s;go_wp2_with fail
  go_ret;exact ar.mk rfl q
end
section
open Go.ChangeShapes Go.WideShapes Go.ChangeAt Go.RowKit
theorem Vl:atD.globalNamed "errors.errorType" =some 1:=by kernel_rfl
theorem Uk:(atD.cutTypes.find? (·.1== "internal/reflectlite.rtype")).map (·.2)=some 301:=by kernel_rfl
theorem SO:((aug atD.types.size).filter fun t=>atD.rowNamed t [101,114,114,111,114])=[29]:=by kernel_rfl
theorem Ul:typeHandle atD 29=.pointer (some ⟨5,29,none⟩):=by kernel_rfl
theorem zX{hs:List (String×DataW Unit)}{W:World}(h:handlesMet atD hs W)(b:("errors.errorType",Rows.laid_errors_errorType)∈hs):eG W:=by
 obtain⟨name,u,ty,s,y,z,B,q⟩:=h _ b;have D:name=[101,114,114,111,114]:=(atU s).symm;subst D;obtain rfl:=atU (Uk.symm.trans y);have b:ty∈(aug atD.types.size).filter fun t=>atD.rowNamed t [101,114,114,111,114]:=List.mem_filter.2 ⟨List.mem_range.2 z,B⟩;rw[SO]at b;obtain rfl:=List.mem_singleton.1 b;rw[Ul]at q;have:=World.var?_cell Vl q 0;unfold eG;simpa using this
end
section
open Go
theorem M4{P:Program}{f:FuncId}{b:Func}{s:ChangeSpec}{c:OpenClaim}
  (k1:c.wf (OpenSpec.ofChange s)=true) (k2:laidOutB P=true) (k3:mapsRowed P=true) (k4:b.params.all (P.readableRec ·)=true) (k5:namedTie P c.named s.vars=true)
  (k6:(c.stops==[])=true) (k7:(P.stops==[])=true) (k8:(c.knobs==[])=true) (k9:(P.stopKnobs==[])=true)
  (q:(c.inPlace==P.inPlace f)=true) (y:(c.unfollowed==P.unfollowed f)=true) (z:(c.recurses==P.recurses f)=true) (B:(c.named==P.varsNamed f)=true)
  (D:(c.maps==(b.params.toList++s.plain.varTypes P).any (P.mapsRec ·))=true) (G:(c.ifaces==(b.params.toList++s.plain.varTypes P).any (P.ifacesRec ·))=true) (H:(c.mapsOut==P.mapsAmong b.resultTypes.toList)=true)
  (I:(c.loops==(b.params.toList++s.plain.varTypes P).any (P.loopsFrom ·))=true) (J:(c.wideKeys==(b.params.toList++s.plain.varTypes P++b.resultTypes.toList).any (P.wideKeysFrom ·))=true)
  (L:s.vars.all (P.varReadable ·)=true) (M:b.resultTypes.all (fun t=>P.readableRec t&&decide (t<P.types.size))=true) (O:(c.ifacesOut==b.resultTypes.toList.any (P.ifacesRec ·))=true) (Q:(c.loopsOut==b.resultTypes.toList.any (P.loopsFrom ·))=true) (S:(c.plainKeys==P.plainKeys)=true) (U:c.shortTexts.isNone=true) (V:P.stopsHeard=true) (Y:P.mayEnter=true) (Z:(c.lifted==P.liftsFinal)=true) (a0:(P.make==some c.make)=true)
  (a1:(c.kinds==(if c.domain.isEmpty then[]else b.params.toList.map fun t=>match P.underlying t with|some (.int k)=>some k|_=>none))=true) (a2:(c.pinned==c.pinnedBy)=true)
  (a3:(c.veiled==(b.params.toList++s.plain.varTypes P++b.resultTypes.toList).any (P.veiledRec ·))=true) (a4:c.veiledFits P b.params.toList (b.params.toList++s.plain.varTypes P++b.resultTypes.toList)=true):joinedFacts P f b s c=true:=by
 unfold joinedFacts;simp only[Bool.and_eq_true];exact⟨⟨⟨⟨⟨⟨⟨⟨⟨⟨⟨⟨⟨⟨⟨⟨⟨⟨⟨⟨⟨⟨⟨⟨⟨⟨⟨⟨⟨⟨⟨k1,k2⟩,k3⟩,k4⟩,k5⟩,k6⟩,k7⟩,k8⟩,k9⟩,q⟩,y⟩,z⟩,B⟩,D⟩,G⟩,H⟩,I⟩,J⟩,L⟩,M⟩,O⟩,Q⟩,S⟩,U⟩,V⟩,Y⟩,Z⟩,a0⟩,a1⟩,a2⟩,a3⟩,a4⟩
