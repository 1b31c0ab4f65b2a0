/-
  Part 23 of the proof.
-/
import Derived.Test.YtldmhjbdahjhdaaGreatDoorZc1
import Derived.Stop.Asserts
import Derived.Test.YtldmhjbdahjhdaaGreatDoorRows
import Derived.ProofKit
import Derived.LaidMore
import Derived.OpenShut
import Derived.Stop.Joined
set_option maxRecDepth 100000
set_option maxHeartbeats 100000000
set_option linter.all false
namespace Go.Proofs.YtldmhjbdahjhdaaGreatDoor
section
open Go Go.RowKit Go.Extern.Stop Go.Stop Go.Extern
def ErrTypeAt(w:World):Prop:=w.cell? ⟨1,0,none⟩=some (.iface 301 (.agg #[.pointer (some ⟨5,29,none⟩)]))
theorem ErrTypeAt.gr{w w':World}(h:ErrTypeAt w)(g:Gr w w'):ErrTypeAt w':=g.keeps h
theorem ea_valueOf(t:Addr)(w:World):(ReflectliteValue.unpack (.iface 208 (.pointer (some t)))).run Tryz.prog w
 =.ok (.agg #[.pointer (some ⟨5,208,none⟩),.pointer (some ⟨w.heap.size,0,none⟩),.int .u64 150]) (w.alloc (.cells #[.pointer (some t)] 208)):=by kernel_rfl
theorem ea_type(a:Addr)(w:World):(ReflectliteValue.methodAny (ReflectliteValue.valueError "reflectlite.Value.Type" 0) (fun t _ _ _=>ReflectliteType.toType t) #[.agg #[.pointer (some ⟨5,208,none⟩),.pointer (some a),.int .u64 150]]).run Tryz.prog w
 =.ok (.iface 301 (.agg #[.pointer (some ⟨5,208,none⟩)])) w:=by kernel_rfl
theorem ea_mKind(h:Value)(w:World):(Go.method 495 301 (.agg #[h]) "Kind").run Tryz.prog w=.ok (321,h) w:=by kernel_rfl
theorem ea_kindP(w:World):((ReflectliteType.abiMethod fun t=>(fun a:Nat=>Value.int IntKind.u8 (a:Int))<$>Rtype.kind t) #[.pointer (some ⟨5,208,none⟩)]).run Tryz.prog w=.ok (.int .u8 22) w:=by kernel_rfl
theorem ea_kindE(w:World):((ReflectliteType.abiMethod fun t=>(fun a:Nat=>Value.int IntKind.u8 (a:Int))<$>Rtype.kind t) #[.pointer (some ⟨5,24,none⟩)]).run Tryz.prog w=.ok (.int .u8 2) w:=by kernel_rfl
theorem ea_rlm(z:Sem Value)(f:TypeId->Addr->Nat->Nat->Sem Value)(v:Value):
 ReflectliteValue.method z f #[v]=(do match<-ReflectliteValue.parts v with|none=>z|some (t,a,fl)=>f t a fl (fl % 32)):=rfl
theorem ea_parts(a:Addr)(w:World):(ReflectliteValue.parts (.agg #[.pointer (some ⟨5,208,none⟩),.pointer (some a),.int .u64 150])).run Tryz.prog w=.ok (some (208,a,150)) w:=by kernel_rfl
theorem ea_isNil(a p:Addr)(W:World)(ha:W.cell? a=some (.pointer (some p))):
  (ReflectliteValue.method (ReflectliteValue.valueError "reflectlite.Value.IsNil" 0) ReflectliteValue.isNil #[.agg #[.pointer (some ⟨5,208,none⟩),.pointer (some a),.int .u64 150]]).run Tryz.prog W=.ok (.bool false) W:=by
 rw[ea_rlm]
 simp only[Sem.run_bind,ea_parts,Result.andThen]
 simp[ReflectliteValue.isNil,loadVar,isAgg,underlying,Tryz.underlying208,ha,Result.andThen]
theorem ea_mElem(h:Value)(w:World):(Go.method 495 301 (.agg #[h]) "Elem").run Tryz.prog w=.ok (335,.agg #[h]) w:=by kernel_rfl
theorem ea_mImpl(h:Value)(w:World):(Go.method 495 301 (.agg #[h]) "Implements").run Tryz.prog w=.ok (336,.agg #[h]) w:=by kernel_rfl
theorem ea_mAssign(h:Value)(w:World):(Go.method 495 301 (.agg #[h]) "AssignableTo").run Tryz.prog w=.ok (333,.agg #[h]) w:=by kernel_rfl
theorem ea_elem(w:World):(ReflectliteType.method ReflectliteType.elem #[.agg #[.pointer (some ⟨5,208,none⟩)]]).run Tryz.prog w=.ok (.iface 301 (.agg #[.pointer (some ⟨5,24,none⟩)])) w:=by kernel_rfl
theorem ea_impl(w:World):(ReflectliteType.relation "Implements" ReflectliteType.implements_ #[.agg #[.pointer (some ⟨5,24,none⟩)],.iface 301 (.agg #[.pointer (some ⟨5,29,none⟩)])]).run Tryz.prog w=.ok (.bool true) w:=by kernel_rfl
theorem ea_typeOfE(v:Value)(w:World):(ReflectliteType.typeOf #[.iface 24 v]).run Tryz.prog w=.ok (.iface 301 (.agg #[.pointer (some ⟨5,24,none⟩)])) w:=by kernel_rfl
theorem ea_typeOfA(v:Value)(w:World):(ReflectliteType.typeOf #[.iface 190 v]).run Tryz.prog w=.ok (.iface 301 (.agg #[.pointer (some ⟨5,190,none⟩)])) w:=by kernel_rfl
theorem ea_assignE(w:World):(ReflectliteType.relation "AssignableTo" ReflectliteType.assignableTo #[.agg #[.pointer (some ⟨5,24,none⟩)],.iface 301 (.agg #[.pointer (some ⟨5,24,none⟩)])]).run Tryz.prog w=.ok (.bool true) w:=by kernel_rfl
theorem ea_assignA(w:World):(ReflectliteType.relation "AssignableTo" ReflectliteType.assignableTo #[.agg #[.pointer (some ⟨5,190,none⟩)],.iface 301 (.agg #[.pointer (some ⟨5,24,none⟩)])]).run Tryz.prog w=.ok (.bool false) w:=by kernel_rfl
theorem ea_valueOfE(n:Int)(w:World):(ReflectliteValue.unpack (.iface 24 (.int .i64 n))).run Tryz.prog w
 =.ok (.agg #[.pointer (some ⟨5,24,none⟩),.pointer (some ⟨w.heap.size,0,none⟩),.int .u64 130]) (w.alloc (.cells #[.int .i64 n] 24)):=by kernel_rfl
theorem ea_elemOf(w:World):(Rtype.elem? 208).run Tryz.prog w=.ok (some 24) w:=by kernel_rfl
theorem ea_mk(p:Addr)(w:World):(ReflectliteValue.mk 24 p ReflectliteValue.flagAddr).run Tryz.prog w=.ok (.agg #[.pointer (some ⟨5,24,none⟩),.pointer (some p),.int .u64 386]) w:=by kernel_rfl
theorem ea_elemV(a p:Addr)(W:World)(ha:W.cell? a=some (.pointer (some p))):
  (ReflectliteValue.method (ReflectliteValue.valueError "reflectlite.Value.Elem" 0) ReflectliteValue.elem #[.agg #[.pointer (some ⟨5,208,none⟩),.pointer (some a),.int .u64 150]]).run Tryz.prog W
   =.ok (.agg #[.pointer (some ⟨5,24,none⟩),.pointer (some p),.int .u64 386]) W:=by
 rw[ea_rlm]
 simp only[Sem.run_bind,ea_parts,Result.andThen]
 simp[ReflectliteValue.elem,loadVar,isAgg,underlying,Tryz.underlying208,ha,Result.andThen,ea_elemOf,ea_mk]
theorem ea_rls(v x:Value):ReflectliteValue.set #[v,x]=(do
 let (some (dst,a,fl),some (src,b,_)):=(<-ReflectliteValue.parts v,<-ReflectliteValue.parts x)
  |unsupported (.noEntry "extern/(internal/reflectlite.Value).Set.zeroValue")
 if fl/ReflectliteValue.flagAddr % 2==0 then unsupported (.noEntry "extern/(internal/reflectlite.Value).Set.unaddressable")
 let val<-loadVar src b
 if<-Rtype.directlyAssignable dst src then storeVar dst a val
 else if<-Rtype.implements dst src then
  if(<-Rtype.kind src)==20 then
   match val with
   | .nilIface=>unsupported (.noEntry "extern/reflectlite: a nil value of one interface type handed on as a value of another")
   |_=>storeVar dst a val
  else storeVar dst a (.iface src val)
 else panicString ("reflectlite.Set: value of type " ++(<-Rtype.spelt src)++ " is not assignable to type " ++(<-Rtype.spelt dst))
 pure (.tuple #[])):=rfl
theorem ea_partsT(a:Addr)(w:World):(ReflectliteValue.parts (.agg #[.pointer (some ⟨5,24,none⟩),.pointer (some a),.int .u64 386])).run Tryz.prog w=.ok (some (24,a,386)) w:=by kernel_rfl
theorem ea_partsE(a:Addr)(w:World):(ReflectliteValue.parts (.agg #[.pointer (some ⟨5,24,none⟩),.pointer (some a),.int .u64 130])).run Tryz.prog w=.ok (some (24,a,130)) w:=by kernel_rfl
theorem ea_direct(w:World):(Rtype.directlyAssignable 24 24).run Tryz.prog w=.ok true w:=by kernel_rfl
theorem ea_set(ta b:Addr)(n:Int)(old:Value)(W:World)(hb:W.cell? b=some (.int .i64 n))(ht:W.cell? ta=some old)(hf:W.frozen? ta=false):
  (ReflectliteValue.set #[.agg #[.pointer (some ⟨5,24,none⟩),.pointer (some ta),.int .u64 386],.agg #[.pointer (some ⟨5,24,none⟩),.pointer (some b),.int .u64 130]]).run Tryz.prog W
   =.ok (.tuple #[]) (W.setCell ta (.int .i64 n)):=by
 rw[ea_rls]
 simp only[Sem.run_bind,ea_partsT,ea_partsE,Result.andThen]
 simp[ReflectliteValue.flagAddr,loadVar,isAgg,underlying,Tryz.underlying24,hb,Result.andThen,ea_direct,storeVar,Value.cells,storeCells,Addr.add]
 rw[run_store Tryz.prog W ta _ _ (by rfl)]
 simp[ht,hf]
def AsPost(n:Int)(b:Nat)(w:World)(e:Ending)(w':World):Prop:=
 e=.returned (.bool true)/\w'.cell? ⟨b,0,none⟩=some (.int .i64 n)/\∀a0:World,Gr a0 w->a0.heap.size<=b->Gr a0 w'
theorem AsPost.mk{n:Int}{b:Nat}{w w':World}(h:w'.cell? ⟨b,0,none⟩=some (.int .i64 n))(g:∀a0:World,Gr a0 w->a0.heap.size<=b->Gr a0 w'):AsPost n b w (.returned (.bool true)) w':=⟨rfl,h,g⟩
theorem as_errno(n:Int)(b:Nat)(old:Value)(w:World)(hg:ErrTypeAt w)(ht0:w.cell? ⟨b,0,none⟩=some old)(hf0:w.frozen? ⟨b,0,none⟩=false):
  Calls Tryz.prog 122 #[.iface 24 (.int .i64 n),.iface 208 (.pointer (some ⟨b,0,none⟩))] w (AsPost n b w):=by
 have h87:=@run_callFunc_extern Tryz.prog 174 _ (fun args=>ReflectliteValue.unpack (args.getD 0 (.tuple #[]))) Tryz.func174 (by kernel_rfl) (by kernel_rfl) (by kernel_rfl) (by kernel_rfl)
 have h88:=@run_callFunc_extern Tryz.prog 175 _ (ReflectliteValue.methodAny (ReflectliteValue.valueError "reflectlite.Value.Type" 0) (fun t _ _ _=>ReflectliteType.toType t)) Tryz.func175 (by kernel_rfl) (by kernel_rfl) (by kernel_rfl) (by kernel_rfl)
 have h89:=@run_callFunc_extern Tryz.prog 176 _ (ReflectliteValue.method (ReflectliteValue.valueError "reflectlite.Value.IsNil" 0) ReflectliteValue.isNil) Tryz.func176 (by kernel_rfl) (by kernel_rfl) (by kernel_rfl) (by kernel_rfl)
 have h155:=@run_callFunc_extern Tryz.prog 321 _ (ReflectliteType.abiMethod fun t=>do pure (.int .u8 (<-Rtype.kind t))) Tryz.func321 (by kernel_rfl) (by kernel_rfl) (by kernel_rfl) (by kernel_rfl)
 have h168:=@run_callFunc_extern Tryz.prog 335 _ (ReflectliteType.method ReflectliteType.elem) Tryz.func335 (by kernel_rfl) (by kernel_rfl) (by kernel_rfl) (by kernel_rfl)
 have h169:=@run_callFunc_extern Tryz.prog 336 _ (ReflectliteType.relation "Implements" ReflectliteType.implements_) Tryz.func336 (by kernel_rfl) (by kernel_rfl) (by kernel_rfl) (by kernel_rfl)
 have h105:=@run_callFunc_extern Tryz.prog 225 _ ReflectliteType.typeOf Tryz.func225 (by kernel_rfl) (by kernel_rfl) (by kernel_rfl) (by kernel_rfl)
 have h166:=@run_callFunc_extern Tryz.prog 333 _ (ReflectliteType.relation "AssignableTo" ReflectliteType.assignableTo) Tryz.func333 (by kernel_rfl) (by kernel_rfl) (by kernel_rfl) (by kernel_rfl)
 have h106:=@run_callFunc_extern Tryz.prog 226 _ (ReflectliteValue.method (ReflectliteValue.valueError "reflectlite.Value.Elem" 0) ReflectliteValue.elem) Tryz.func226 (by kernel_rfl) (by kernel_rfl) (by kernel_rfl) (by kernel_rfl)
 have h107:=@run_callFunc_extern Tryz.prog 227 _ ReflectliteValue.set Tryz.func227 (by kernel_rfl) (by kernel_rfl) (by kernel_rfl) (by kernel_rfl)
 have f1:=ea_typeOfE
 have f2:=ea_mAssign
 have f3:=ea_assignE
 have f4:=ea_valueOfE
 have f5:=ea_valueOf
 have f6:=ea_type
 have f7:=ea_mKind
 have f8:=ea_mElem
 have f9:=ea_mImpl
 have f10:=ea_kindP
 have f11:=ea_kindE
 have f12:=ea_elem
 have f13:=ea_impl
 have hlt:1<w.heap.size:=lt_of_cell hg
 have htl:b<w.heap.size:=lt_of_cell ht0
 have n8:=ea_isNil ⟨w.heap.size,0,none⟩ ⟨b,0,none⟩ ((w.alloc (.cells #[.pointer (some ⟨b,0,none⟩)] 208)).alloc (.cells #[.pointer (some ⟨5,208,none⟩),.pointer (some ⟨w.heap.size,0,none⟩),.int .u64 150] 255)) (by simp)
 have hg2:((w.alloc (.cells #[.pointer (some ⟨b,0,none⟩)] 208)).alloc (.cells #[.pointer (some ⟨5,208,none⟩),.pointer (some ⟨w.heap.size,0,none⟩),.int .u64 150] 255)).cell? ⟨1,0,none⟩=some (.iface 301 (.agg #[.pointer (some ⟨5,29,none⟩)])):=by
  rw[World.cell?_alloc_lt _ _ ⟨1,0,none⟩ (by simp<;>omega),World.cell?_alloc_lt _ _ ⟨1,0,none⟩ hlt];exact hg
 have el:=ea_elemV ⟨w.heap.size,0,none⟩ ⟨b,0,none⟩ (((w.alloc (.cells #[.pointer (some ⟨b,0,none⟩)] 208)).alloc (.cells #[.pointer (some ⟨5,208,none⟩),.pointer (some ⟨w.heap.size,0,none⟩),.int .u64 150] 255)).alloc (.cells #[.pointer (some ⟨5,208,none⟩),.pointer (some ⟨w.heap.size,0,none⟩),.int .u64 150] 255)) (by rw[World.cell?_alloc_lt _ _ ⟨w.heap.size,0,none⟩ (by simp;omega)];simp)
 have st:=ea_set ⟨b,0,none⟩ ⟨w.heap.size+1+1+1,0,none⟩ n old ((((w.alloc (.cells #[.pointer (some ⟨b,0,none⟩)] 208)).alloc (.cells #[.pointer (some ⟨5,208,none⟩),.pointer (some ⟨w.heap.size,0,none⟩),.int .u64 150] 255)).alloc (.cells #[.pointer (some ⟨5,208,none⟩),.pointer (some ⟨w.heap.size,0,none⟩),.int .u64 150] 255)).alloc (.cells #[.int .i64 n] 24))
  (by rw[World.cell?_alloc_at _ _ _ _ (by simp)];rfl)
  (by rw[World.cell?_alloc_lt _ _ ⟨b,0,none⟩ (by simp;omega),World.cell?_alloc_lt _ _ ⟨b,0,none⟩ (by simp;omega),World.cell?_alloc_lt _ _ ⟨b,0,none⟩ (by simp;omega),World.cell?_alloc_lt _ _ ⟨b,0,none⟩ htl];exact ht0)
  (by rw[World.frozen?_alloc_old _ _ ⟨b,0,none⟩ (by simp;omega),World.frozen?_alloc_old _ _ ⟨b,0,none⟩ (by simp;omega),World.frozen?_alloc_old _ _ ⟨b,0,none⟩ (by simp;omega),World.frozen?_alloc_old _ _ ⟨b,0,none⟩ (Nat.ne_of_lt htl)];exact hf0)
 go_enter Tryz.func122,Tryz.ntmps122
 go_wp2
 refine wp_loop_rounds 1 ?_
 rw[rounds_succ]
 go_wp2
 go_ret
 refine AsPost.mk ?_ ?_
 ·exact World.cell?_setCell_same _ _ _ ((((((Gr.refl w).alloc _).alloc _).alloc _).alloc _).keeps ht0)
 ·intro a0 h hb
  exact((((h.alloc _).alloc _).alloc _).alloc _).setCell hb _
theorem at_noAs(v:Value)(xT:TypeId)(w:World):(Instr.typeAssert (.iface 190 v) xT 306 true).run Tryz.prog w=.ok (.tuple #[.nilIface,.bool false]) w:=run_typeAssert_lacksB Tryz.underlying306 (by kernel_rfl) (by kernel_rfl) v xT w
theorem at_isUnwrap(v:Value)(xT:TypeId)(w:World):(Instr.typeAssert (.iface 190 v) xT 224 true).run Tryz.prog w=.ok (.tuple #[.iface 190 v,.bool true]) w:=run_typeAssert_hasB Tryz.underlying224 (by kernel_rfl) v xT w
theorem ea_mUnwrap(p:Option Addr)(w:World):(Go.method 495 190 (.pointer p) "Unwrap").run Tryz.prog w=.ok (327,.pointer p) w:=by kernel_rfl
theorem unwrap_t(n:Int)(pb:Nat)(w:World)(hp:w.cell? ⟨pb,0,none⟩=some (.int .i64 n)):Calls Tryz.prog 327 #[.pointer (some ⟨pb,0,none⟩)] w fun e w'=>e=.returned (.iface 24 (.int .i64 n))/\w'=w:=by
 go_enter Tryz.func327,Tryz.ntmps327
 go_wp2
 go_ret
 exact⟨rfl,rfl⟩
theorem as_at(n:Int)(pb:Nat)(b:Nat)(old:Value)(w:World)(hg:ErrTypeAt w)(hp:w.cell? ⟨pb,0,none⟩=some (.int .i64 n))(ht0:w.cell? ⟨b,0,none⟩=some old)(hf0:w.frozen? ⟨b,0,none⟩=false):
  Calls Tryz.prog 122 #[.iface 190 (.pointer (some ⟨pb,0,none⟩)),.iface 208 (.pointer (some ⟨b,0,none⟩))] w (AsPost n b w):=by
 have h87:=@run_callFunc_extern Tryz.prog 174 _ (fun args=>ReflectliteValue.unpack (args.getD 0 (.tuple #[]))) Tryz.func174 (by kernel_rfl) (by kernel_rfl) (by kernel_rfl) (by kernel_rfl)
 have h88:=@run_callFunc_extern Tryz.prog 175 _ (ReflectliteValue.methodAny (ReflectliteValue.valueError "reflectlite.Value.Type" 0) (fun t _ _ _=>ReflectliteType.toType t)) Tryz.func175 (by kernel_rfl) (by kernel_rfl) (by kernel_rfl) (by kernel_rfl)
 have h89:=@run_callFunc_extern Tryz.prog 176 _ (ReflectliteValue.method (ReflectliteValue.valueError "reflectlite.Value.IsNil" 0) ReflectliteValue.isNil) Tryz.func176 (by kernel_rfl) (by kernel_rfl) (by kernel_rfl) (by kernel_rfl)
 have h155:=@run_callFunc_extern Tryz.prog 321 _ (ReflectliteType.abiMethod fun t=>do pure (.int .u8 (<-Rtype.kind t))) Tryz.func321 (by kernel_rfl) (by kernel_rfl) (by kernel_rfl) (by kernel_rfl)
 have h168:=@run_callFunc_extern Tryz.prog 335 _ (ReflectliteType.method ReflectliteType.elem) Tryz.func335 (by kernel_rfl) (by kernel_rfl) (by kernel_rfl) (by kernel_rfl)
 have h169:=@run_callFunc_extern Tryz.prog 336 _ (ReflectliteType.relation "Implements" ReflectliteType.implements_) Tryz.func336 (by kernel_rfl) (by kernel_rfl) (by kernel_rfl) (by kernel_rfl)
 have h105:=@run_callFunc_extern Tryz.prog 225 _ ReflectliteType.typeOf Tryz.func225 (by kernel_rfl) (by kernel_rfl) (by kernel_rfl) (by kernel_rfl)
 have h166:=@run_callFunc_extern Tryz.prog 333 _ (ReflectliteType.relation "AssignableTo" ReflectliteType.assignableTo) Tryz.func333 (by kernel_rfl) (by kernel_rfl) (by kernel_rfl) (by kernel_rfl)
 have h106:=@run_callFunc_extern Tryz.prog 226 _ (ReflectliteValue.method (ReflectliteValue.valueError "reflectlite.Value.Elem" 0) ReflectliteValue.elem) Tryz.func226 (by kernel_rfl) (by kernel_rfl) (by kernel_rfl) (by kernel_rfl)
 have h107:=@run_callFunc_extern Tryz.prog 227 _ ReflectliteValue.set Tryz.func227 (by kernel_rfl) (by kernel_rfl) (by kernel_rfl) (by kernel_rfl)
 have f1:=ea_typeOfE
 have f2:=ea_mAssign
 have f3:=ea_assignE
 have f4:=ea_valueOfE
 have f5:=ea_valueOf
 have f6:=ea_type
 have f7:=ea_mKind
 have f8:=ea_mElem
 have f9:=ea_mImpl
 have f10:=ea_kindP
 have f11:=ea_kindE
 have f12:=ea_elem
 have f13:=ea_impl
 have hlt:1<w.heap.size:=lt_of_cell hg
 have g1:=ea_typeOfA
 have g3:=ea_assignA
 have g4:=at_noAs
 have g5:=at_isUnwrap
 have g6:=ea_mUnwrap
 have htl:b<w.heap.size:=lt_of_cell ht0
 have n8:=ea_isNil ⟨w.heap.size,0,none⟩ ⟨b,0,none⟩ ((w.alloc (.cells #[.pointer (some ⟨b,0,none⟩)] 208)).alloc (.cells #[.pointer (some ⟨5,208,none⟩),.pointer (some ⟨w.heap.size,0,none⟩),.int .u64 150] 255)) (by simp)
 have hg2:((w.alloc (.cells #[.pointer (some ⟨b,0,none⟩)] 208)).alloc (.cells #[.pointer (some ⟨5,208,none⟩),.pointer (some ⟨w.heap.size,0,none⟩),.int .u64 150] 255)).cell? ⟨1,0,none⟩=some (.iface 301 (.agg #[.pointer (some ⟨5,29,none⟩)])):=by
  rw[World.cell?_alloc_lt _ _ ⟨1,0,none⟩ (by simp<;>omega),World.cell?_alloc_lt _ _ ⟨1,0,none⟩ hlt];exact hg
 have el:=ea_elemV ⟨w.heap.size,0,none⟩ ⟨b,0,none⟩ (((w.alloc (.cells #[.pointer (some ⟨b,0,none⟩)] 208)).alloc (.cells #[.pointer (some ⟨5,208,none⟩),.pointer (some ⟨w.heap.size,0,none⟩),.int .u64 150] 255)).alloc (.cells #[.pointer (some ⟨5,208,none⟩),.pointer (some ⟨w.heap.size,0,none⟩),.int .u64 150] 255)) (by rw[World.cell?_alloc_lt _ _ ⟨w.heap.size,0,none⟩ (by simp;omega)];simp)
 have st:=ea_set ⟨b,0,none⟩ ⟨w.heap.size+1+1+1,0,none⟩ n old ((((w.alloc (.cells #[.pointer (some ⟨b,0,none⟩)] 208)).alloc (.cells #[.pointer (some ⟨5,208,none⟩),.pointer (some ⟨w.heap.size,0,none⟩),.int .u64 150] 255)).alloc (.cells #[.pointer (some ⟨5,208,none⟩),.pointer (some ⟨w.heap.size,0,none⟩),.int .u64 150] 255)).alloc (.cells #[.int .i64 n] 24))
  (by rw[World.cell?_alloc_at _ _ _ _ (by simp)];rfl)
  (by rw[World.cell?_alloc_lt _ _ ⟨b,0,none⟩ (by simp;omega),World.cell?_alloc_lt _ _ ⟨b,0,none⟩ (by simp;omega),World.cell?_alloc_lt _ _ ⟨b,0,none⟩ (by simp;omega),World.cell?_alloc_lt _ _ ⟨b,0,none⟩ htl];exact ht0)
  (by rw[World.frozen?_alloc_old _ _ ⟨b,0,none⟩ (by simp;omega),World.frozen?_alloc_old _ _ ⟨b,0,none⟩ (by simp;omega),World.frozen?_alloc_old _ _ ⟨b,0,none⟩ (by simp;omega),World.frozen?_alloc_old _ _ ⟨b,0,none⟩ (Nat.ne_of_lt htl)];exact hf0)
 go_enter Tryz.func122,Tryz.ntmps122
 go_wp2
 refine wp_loop_rounds 2 ?_
 rw[rounds_succ]
 go_wp2_with(go_at_call 327;refine(unwrap_t n pb _ ((((Gr.refl w).alloc _).alloc _).alloc _|>.keeps hp)).mono ?_;rintro e w1 ⟨rfl,rfl⟩)
 rw[rounds_succ]
 go_wp2
 go_ret
 refine AsPost.mk ?_ ?_
 ·exact World.cell?_setCell_same _ _ _ ((((((Gr.refl w).alloc _).alloc _).alloc _).alloc _).keeps ht0)
 ·intro a0 h hb
  exact((((h.alloc _).alloc _).alloc _).alloc _).setCell hb _
def ErrIs(w:World)(err:Value)(n p:Int):Prop:=
 (err=.nilIface/\n=0/\p=-1)\/(err=.iface 24 (.int .i64 n)/\p=-1)\/
 (∃b,err=.iface 190 (.pointer (some ⟨b,0,none⟩))/\w.cell? ⟨b,0,none⟩=some (.int .i64 n)/\w.cell? ⟨b,1,none⟩=some (.int .i64 p))
theorem tell_t(err:Value)(n p:Int)(w:World)(he:ErrTypeAt w)(h:ErrIs w err n p):Calls Tryz.prog 68 #[err] w (Ret w (.int .i64 n)):=by
 have HE:=Lib.hid he
 clear he
 rcases h with⟨rfl,rfl,_⟩|⟨rfl,_⟩|⟨b,rfl,h1,_⟩
 ·go_enter Tryz.func68,Tryz.ntmps68
  go_wp2_with fail
  go_ret
  exact Ret.mk rfl (Gr.refl _)
 ·go_enter Tryz.func68,Tryz.ntmps68
  go_wp2_with fail
  refine(as_errno n w.heap.size _ _ (HE.out.gr ((Gr.refl w).alloc _)) (by rw[World.cell?_alloc_new];rfl) (by simp)).mono ?_
  intro e w1 hp
  obtain⟨rfl,hc,hg⟩:=hp
  have hg1:=hg w ((Gr.refl w).alloc _) (Nat.le_refl _)
  clear hg
  go_wp2_with fail
  go_ret
  exact Ret.mk rfl hg1
 ·have H1:=Lib.hid h1
  clear h1
  go_enter Tryz.func68,Tryz.ntmps68
  go_wp2_with fail
  refine(as_at n b w.heap.size _ _ (HE.out.gr ((Gr.refl w).alloc _)) (((Gr.refl w).alloc _).keeps H1.out) (by rw[World.cell?_alloc_new];rfl) (by simp)).mono ?_
  intro e w1 hp
  obtain⟨rfl,hc,hg⟩:=hp
  have hg1:=hg w ((Gr.refl w).alloc _) (Nat.le_refl _)
  clear hg
  go_wp2_with fail
  go_ret
  exact Ret.mk rfl hg1
end
section
open Go.ChangeShapes Go.WideShapes Go.ChangeAt Go.RowKit
theorem gErr:Tryz.prog.globalNamed "errors.errorType" =some 1:=by kernel_rfl
theorem rtErr:(Tryz.prog.cutTypes.find? (·.1== "internal/reflectlite.rtype")).map (·.2)=some 301:=by kernel_rfl
theorem oneErr:((List.range Tryz.prog.types.size).filter fun t=>Tryz.prog.rowNamed t [101,114,114,111,114])=[29]:=by kernel_rfl
theorem hdErr:typeHandle Tryz.prog 29=.pointer (some ⟨5,29,none⟩):=by kernel_rfl
theorem err_of_handles{hs:List (String×DataW Unit)}{W:World}(h:handlesMet Tryz.prog hs W)(hm:("errors.errorType",Rows.laid_errors_errorType)∈hs):ErrTypeAt W:=by
 obtain⟨name,u,ty,e1,e2,e3,e4,e5⟩:=h _ hm
 have en:name=[101,114,114,111,114]:=(Option.some.inj e1).symm
 subst en
 obtain rfl:=Option.some.inj (rtErr.symm.trans e2)
 have hm:ty∈(List.range Tryz.prog.types.size).filter fun t=>Tryz.prog.rowNamed t [101,114,114,111,114]:=List.mem_filter.2 ⟨List.mem_range.2 e3,e4⟩
 rw[oneErr]at hm
 obtain rfl:=List.mem_singleton.1 hm
 rw[hdErr]at e5
 have:=World.var?_cell gErr e5 0
 unfold ErrTypeAt
 simpa using this
end
section
open Go
theorem joined_of{P:Program}{f:FuncId}{fn:Func}{s:ChangeSpec}{c:OpenClaim}
  (k1:c.wf (OpenSpec.ofChange s)=true) (k2:laidOutB P=true) (k3:mapsRowed P=true) (k4:fn.params.all (P.readableRec ·)=true) (k5:namedTie P c.named s.vars=true)
  (k6:(c.stops==[])=true) (k7:(P.stops==[])=true) (k8:(c.knobs==[])=true) (k9:(P.stopKnobs==[])=true)
  (k10:(c.inPlace==P.inPlace f)=true) (k11:(c.unfollowed==P.unfollowed f)=true) (k12:(c.recurses==P.recurses f)=true) (k13:(c.named==P.varsNamed f)=true)
  (k14:(c.maps==(fn.params.toList++s.plain.varTypes P).any (P.mapsRec ·))=true) (k15:(c.ifaces==(fn.params.toList++s.plain.varTypes P).any (P.ifacesRec ·))=true) (k16:(c.mapsOut==P.mapsAmong fn.resultTypes.toList)=true)
  (k17:(c.loops==(fn.params.toList++s.plain.varTypes P).any (P.loopsFrom ·))=true) (k18:(c.wideKeys==(fn.params.toList++s.plain.varTypes P++fn.resultTypes.toList).any (P.wideKeysFrom ·))=true)
  (k19:s.vars.all (P.varReadable ·)=true) (k20:fn.resultTypes.all (fun t=>P.readableRec t&&decide (t<P.types.size))=true) (k21:(c.ifacesOut==fn.resultTypes.toList.any (P.ifacesRec ·))=true) (k22:(c.loopsOut==fn.resultTypes.toList.any (P.loopsFrom ·))=true) (k23:(c.plainKeys==P.plainKeys)=true) (k24:c.shortTexts.isNone=true) (k25:P.stopsHeard=true) (k26:P.mayEnter=true) (k27:(c.lifted==P.liftsFinal)=true) (k28:(P.make==some c.make)=true)
  (k29:(c.kinds==(if c.domain.isEmpty then[]else fn.params.toList.map fun t=>match P.underlying t with|some (.int k)=>some k|_=>none))=true) (k30:(c.pinned==c.pinnedBy)=true)
  (k31:(c.veiled==(fn.params.toList++s.plain.varTypes P++fn.resultTypes.toList).any (P.veiledRec ·))=true) (k32:c.veiledFits P fn.params.toList (fn.params.toList++s.plain.varTypes P++fn.resultTypes.toList)=true):joinedFacts P f fn s c=true:=by
 unfold joinedFacts
 simp only[Bool.and_eq_true]
 exact⟨⟨⟨⟨⟨⟨⟨⟨⟨⟨⟨⟨⟨⟨⟨⟨⟨⟨⟨⟨⟨⟨⟨⟨⟨⟨⟨⟨⟨⟨⟨k1,k2⟩,k3⟩,k4⟩,k5⟩,k6⟩,k7⟩,k8⟩,k9⟩,k10⟩,k11⟩,k12⟩,k13⟩,k14⟩,k15⟩,k16⟩,k17⟩,k18⟩,k19⟩,k20⟩,k21⟩,k22⟩,k23⟩,k24⟩,k25⟩,k26⟩,k27⟩,k28⟩,k29⟩,k30⟩,k31⟩,k32⟩
