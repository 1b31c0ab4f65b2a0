/-
  Part 21 of the proof.
-/
import Derived.Test.YtldmhjbdahjhdaaGreatDoorZc1
set_option maxRecDepth 100000
set_option maxHeartbeats 100000000
set_option linter.all false
namespace Go.Proofs.YtldmhjbdahjhdaaGreatDoor
section
open Go Go.RowKit Go.Maps
def rawElem(v:Value):Option (DataW Value×List MemPlace):=some (.held v,[])
structure KeyK(K:TypeId)(κ:Type) where
 kv:κ->Value
 kl:κ->Lit
 ok:κ->Prop
 law:Keyed Tryz.prog K
 key:∀k,ok k->Go.keyOf Tryz.prog K (kv k)=some (kl k)
 inj:∀a b,kl a=kl b->a=b
 isk:∀k,WideAt.IsKeyLit (kl k)
 inv:∀v l,Go.keyOf Tryz.prog K v=some l->∃k,ok k/\v=kv k/\l=kl k
section
variable{K:TypeId}{κ:Type}(kk:KeyK K κ)
def Views(D:DataW Value)(F:κ->Option Value):Prop:=∀k:κ,kk.ok k->Maps.has D (kk.kl k)=(F k).isSome/\∀z,D.atKey (kk.kl k) z=match F k with|none=>z|some v=>.held v
def MapK(w:World)(M n:Nat)(F:κ->Option Value):Prop:=∃D:DataW Value,w.ownsMap Tryz.prog K rawElem M n D/\Views kk D F
variable{kk}
theorem MapK.block{w w':World}{M n:Nat}{F:κ->Option Value}(h:MapK kk w M n F)(hb:w'.heap[M]?=w.heap[M]?):MapK kk w' M n F:=by
 obtain⟨D,⟨es,clock,h1,h2⟩,h3⟩:=h
 exact⟨D,⟨es,clock,hb.trans h1,h2⟩,h3⟩
theorem MapK.lt{w:World}{M n:Nat}{F:κ->Option Value}(h:MapK kk w M n F):M<w.heap.size:=by
 obtain⟨D,h1,_⟩:=h
 exact h1.lt
theorem MapK.gr{w w':World}{M n:Nat}{F:κ->Option Value}(h:MapK kk w M n F)(g:Gr w w'):MapK kk w' M n F:=h.block (g.block _ h.lt)
theorem MapK.made(w:World):MapK kk (w.alloc (.map #[] 0)) w.heap.size 0 (fun _=>none):=
 ⟨.map [],World.ownsMap_made w _ _ _,fun _ _=>⟨rfl,fun _=>rfl⟩⟩
theorem rawElem_inv{v:Value}{d:DataW Value}{ps:List MemPlace}(h:rawElem v=some (d,ps)):d=.held v:=by
 unfold rawElem at h
 cases h
 rfl
variable{T E:TypeId}(ht:Tryz.prog.underlying T=some (.map K E)){z0:Value}(hz:∀w,(zeroValue E).run Tryz.prog w=.ok z0 w)
include ht hz
theorem MapK.look{w:World}{M n:Nat}{F:κ->Option Value}(h:MapK kk w M n F){k:κ}(hk:kk.ok k):
  (Instr.lookup T (.map (some M)) (kk.kv k) false).run Tryz.prog w=.ok ((F k).getD z0) w:=by
 obtain⟨D,h1,h2⟩:=h
 obtain⟨e1,e2⟩:=h2 k hk
 obtain⟨v,ps,hrun,hv⟩:=h1.lookup (t:=T) (e:=E) kk.law ht (hz w) (rfl:rawElem z0=_) (kk.key k hk)
 rw[hrun]
 have h3:=rawElem_inv hv
 rw[e2]at h3
 cases hF:F k with
 |none=>rw[hF]at h3;cases h3;rfl
 |some u=>rw[hF]at h3;cases h3;rfl
theorem MapK.look_ok{w:World}{M n:Nat}{F:κ->Option Value}(h:MapK kk w M n F){k:κ}(hk:kk.ok k):
  (Instr.lookup T (.map (some M)) (kk.kv k) true).run Tryz.prog w=.ok (.tuple #[(F k).getD z0,.bool (F k).isSome]) w:=by
 obtain⟨D,h1,h2⟩:=h
 obtain⟨e1,e2⟩:=h2 k hk
 obtain⟨v,ps,hrun,hv⟩:=h1.look_ok (t:=T) (e:=E) kk.law ht (hz w) (rfl:rawElem z0=_) (kk.key k hk)
 rw[hrun,e1]
 have h3:=rawElem_inv hv
 rw[e2]at h3
 cases hF:F k with
 |none=>rw[hF]at h3;cases h3;rfl
 |some u=>rw[hF]at h3;cases h3;rfl
omit hz in
theorem MapK.store[DecidableEq κ]{w:World}{M n:Nat}{F:κ->Option Value}(h:MapK kk w M n F)(hn:n<1000000){k:κ}(hk:kk.ok k)(v:Value):
  ∃w',(Instr.mapUpdate T (.map (some M)) (kk.kv k) v).run Tryz.prog w=.ok () w'/\MapK kk w' M (n+1) (fun i=>if i=k then some v else F i)/\w.grownBy w' (some M):=by
 obtain⟨D,h1,h2⟩:=h
 obtain⟨w',hrun,ho,hg⟩:=h1.update (t:=T) (e:=E) kk.law ht (by unfold maxLen;omega) (kk.key k hk) (rfl:rawElem v=_)
 refine⟨w',hrun,⟨_,ho,fun i hi=>?_⟩,hg⟩
 have hmap:=h1.isMap
 by_cases e:i=k
 ·subst e
  simp only[if_true]
  exact⟨Maps.has_put_same hmap (kk.isk i) _,fun z=>Maps.atKey_put_same hmap (kk.isk i) _ z⟩
 ·have hne:kk.kl i≠kk.kl k:=fun h=>e (kk.inj _ _ h)
  simp only[if_neg e]
  rw[Maps.has_put_other hne]
  exact⟨(h2 i hi).1,fun z=>by rw[Maps.atKey_put_other hne];exact(h2 i hi).2 z⟩
omit hz in
theorem MapK.drop[DecidableEq κ]{w:World}{M n:Nat}{F:κ->Option Value}(h:MapK kk w M n F){k:κ}(hk:kk.ok k)(ty:TypeId):
  ∃w',(Builtin.delete_ #[T,K] ty #[.map (some M),kk.kv k]).run Tryz.prog w=.ok (.tuple #[]) w'/\MapK kk w' M n (fun i=>if i=k then none else F i)/\w.grownBy w' (some M):=by
 obtain⟨D,h1,h2⟩:=h
 obtain⟨w',hrun,ho,hg⟩:=h1.drop (t:=T) (e:=E) kk.law ht (kk.key k hk) ty
 refine⟨w',hrun,⟨_,ho,fun i hi=>?_⟩,hg.grown⟩
 by_cases e:i=k
 ·subst e
  simp only[if_true]
  exact⟨Maps.has_del_same,fun z=>Maps.atKey_del_same z⟩
 ·have hne:kk.kl i≠kk.kl k:=fun h=>e (kk.inj _ _ h)
  simp only[if_neg e]
  rw[Maps.has_del_other hne]
  exact⟨(h2 i hi).1,fun z=>by rw[Maps.atKey_del_other hne];exact(h2 i hi).2 z⟩
omit ht hz
variable(kk)
def RangeK(w:World)(M r n:Nat)(F:κ->Option Value)(left:κ->Bool)(cnt:Nat):Prop:=
 ∃(D:DataW Value) (lf:Lit->Bool),w.ranges Tryz.prog K rawElem M r n D lf cnt/\Views kk D F/\∀k,kk.ok k->lf (kk.kl k)=left k
variable{kk}
theorem RangeK.map{w:World}{M r n:Nat}{F:κ->Option Value}{left:κ->Bool}{cnt:Nat}(h:RangeK kk w M r n F left cnt):MapK kk w M n F:=by
 obtain⟨D,lf,h1,h2,_⟩:=h
 exact⟨D,h1.owns,h2⟩
theorem RangeK.left_eq{w:World}{M r n:Nat}{F:κ->Option Value}{left:κ->Bool}{cnt:Nat}(h:RangeK kk w M r n F left cnt):w.rangeLeft M r=cnt:=by
 obtain⟨D,lf,h1,h2,_⟩:=h
 exact h1.left_eq
theorem RangeK.lt{w:World}{M r n:Nat}{F:κ->Option Value}{left:κ->Bool}{cnt:Nat}(h:RangeK kk w M r n F left cnt):r<w.heap.size:=by
 obtain⟨D,lf,h1,h2,_⟩:=h
 exact h1.lt
theorem RangeK.blocks{w w':World}{M r n:Nat}{F:κ->Option Value}{left:κ->Bool}{cnt:Nat}(h:RangeK kk w M r n F left cnt)(hb:w'.heap[M]?=w.heap[M]?)(hr:w'.heap[r]?=w.heap[r]?):RangeK kk w' M r n F left cnt:=by
 obtain⟨D,lf,⟨es,clock,since,seen,c0,h1,h2,h3,h4,h5,rest⟩,h6⟩:=h
 exact⟨D,lf,⟨es,clock,since,seen,c0,hb.trans h1,h2,h3,h4,hr.trans h5,rest⟩,h6⟩
theorem RangeK.gr{w w':World}{M r n:Nat}{F:κ->Option Value}{left:κ->Bool}{cnt:Nat}(h:RangeK kk w M r n F left cnt)(g:Gr w w'):RangeK kk w' M r n F left cnt:=
 h.blocks (g.block _ h.map.lt) (g.block _ h.lt)
include ht in
theorem MapK.range{w:World}{M n:Nat}{F:κ->Option Value}(h:MapK kk w M n F):
  ∃w' cnt,(Instr.range T (.map (some M))).run Tryz.prog w=.ok (.pointer (some ⟨w.heap.size,0,none⟩)) w'/\RangeK kk w' M w.heap.size n F (fun k=>(F k).isSome) cnt/\w.grownBy w' none/\w'.heap.size=w.heap.size+1:=by
 obtain⟨D,h1,h2⟩:=h
 obtain⟨w',hrun,hr,hg,hs⟩:=h1.range (t:=T) (e:=E) kk.law ht
 exact⟨w',_,hrun,⟨D,_,hr,h2,fun k hk=>(h2 k hk).1⟩,hg,hs⟩
theorem RangeK.next[DecidableEq κ]{w:World}{M r n:Nat}{F:κ->Option Value}{left:κ->Bool}{cnt:Nat}(h:RangeK kk w M r n F left cnt)(ty:TypeId):
  (cnt=0/\(∀k,kk.ok k->left k=false)/\(Instr.next (.pointer (some ⟨r,0,none⟩)) false ty).run Tryz.prog w=.ok (.tuple #[.bool false]) w)\/
  ∃k v w' cnt',kk.ok k/\left k=true/\F k=some v/\(Instr.next (.pointer (some ⟨r,0,none⟩)) false ty).run Tryz.prog w=.ok (.tuple #[.bool true,kk.kv k,v]) w'/\
   RangeK kk w' M r n F (fun x=>left x&&!decide (x=k)) cnt'/\cnt'<cnt/\w.grownBy w' (some r)/\w'.heap.size=w.heap.size/\(Instr.entry (.pointer (some ⟨r,0,none⟩))).run Tryz.prog w'=.ok (.tuple #[kk.kv k,v]) w':=by
 obtain⟨D,lf,h1,h2,h3⟩:=h
 rcases h1.next kk.law ty with⟨a1,a2,a3⟩|⟨key,v,l,y,w',cnt',b1,b2,b3,b4,b5,b6,b7,b8,b9,b10⟩
 ·exact .inl ⟨a1,fun k hk=>by rw[<-h3 k hk];exact a2 _,a3⟩
 ·obtain⟨k,hk,rfl,rfl⟩:=kk.inv _ _ b1
  have hF:F k=some v:=by
   have e2:=(h2 k hk).2 .nil
   rw[b4,rawElem_inv (b3:rawElem v=some (y.1,y.2))]at e2
   cases hF:F k with
   |none=>rw[hF]at e2;cases e2
   |some u=>rw[hF]at e2;cases e2;rfl
  refine .inr ⟨k,v,w',cnt',hk,by rw[<-h3 k hk];exact b2,hF,b5,⟨D,_,b6,h2,fun x hx=>?_⟩,b7,b8,b9,b10⟩
  have hs:(kk.kl x).sameKey (kk.kl k)=decide (x=k):=by
   by_cases e:x=k
   ·subst e
    rw[decide_eq_true rfl]
    exact WideAt.sameKey_self (kk.isk x)
   ·rw[decide_eq_false e]
    exact Maps.sameKey_ne fun h=>e (kk.inj _ _ h)
  show(lf (kk.kl x)&&!(kk.kl x).sameKey (kk.kl k))=_
  rw[hs,h3 x hx]
def setK[DecidableEq κ](F:κ->Option Value)(k:κ)(s:Option Value):κ->Option Value:=fun i=>if i=k then s else F i
theorem setK_same[DecidableEq κ](F:κ->Option Value)(k:κ)(s:Option Value):setK F k s k=s:=if_pos rfl
theorem setK_other[DecidableEq κ](F:κ->Option Value){k i:κ}(s:Option Value)(h:i≠k):setK F k s i=F i:=if_neg h
variable{ops:Array Oper}{rest:List Oper}{o:Oper}{a:Act}{Q:Exit->Act->World->Prop}{w:World}{M n:Nat}{F:κ->Option Value}
section
variable(hg:o.guard=none)
include hg
include ht hz in
theorem wpList_lookK(m x:Operand)(hop:o.op=Op.lookup T m x false)(h:MapK kk w M n F)(hm:a.eval m=.map (some M)){k:κ}(hx:a.eval x=kk.kv k)(hk:kk.ok k){v:Value}(hv:(F k).getD z0=v)
  (hK:wpList Tryz.prog ops Q rest (a.put o.dst v) w):wpList Tryz.prog ops Q (o::rest) a w:=by
 refine wpList_plain hg fun K' hK'=>?_
 have hrun:=h.look ht hz hk
 rw[hv]at hrun
 unfold Oper.wp
 simp[execOp,hop,hm,hx,hrun,Result.andThen]
 exact hK' _ _ hK
include ht hz in
theorem wpList_lookK_ok(m x:Operand)(hop:o.op=Op.lookup T m x true)(h:MapK kk w M n F)(hm:a.eval m=.map (some M)){k:κ}(hx:a.eval x=kk.kv k)(hk:kk.ok k){v:Value}{b:Bool}(hv:(F k).getD z0=v)(hb:(F k).isSome=b)
  (hK:wpList Tryz.prog ops Q rest (a.put o.dst (.tuple #[v,.bool b])) w):wpList Tryz.prog ops Q (o::rest) a w:=by
 refine wpList_plain hg fun K' hK'=>?_
 have hrun:=h.look_ok ht hz hk
 rw[hv,hb]at hrun
 unfold Oper.wp
 simp[execOp,hop,hm,hx,hrun,Result.andThen]
 exact hK' _ _ hK
include ht in
theorem wpList_storeK[DecidableEq κ](m x v:Operand)(hop:o.op=Op.mapUpdate T m x v)(h:MapK kk w M n F)(hn:n<1000000)(hm:a.eval m=.map (some M)){k:κ}(hx:a.eval x=kk.kv k)(hk:kk.ok k){val:Value}(hv:a.eval v=val)
  (hK:∀w',MapK kk w' M (n+1) (setK F k (some val))->w.grownBy w' (some M)->wpList Tryz.prog ops Q rest (a.put o.dst undef) w'):wpList Tryz.prog ops Q (o::rest) a w:=by
 refine wpList_plain hg fun K' hK'=>?_
 obtain⟨w',hrun,r1,r2⟩:=h.store ht hn hk val
 unfold Oper.wp
 simp[execOp,hop,hm,hx,hv,hrun,Result.andThen]
 exact hK' _ _ (hK w' r1 r2)
include ht in
theorem wpList_delK[DecidableEq κ](m x:Operand)(hop:o.op=Op.call {callee:=Callee.builtin Builtin.delete,args:=#[m,x],argTypes:=#[T,K]})(h:MapK kk w M n F)(hm:a.eval m=.map (some M)){k:κ}(hx:a.eval x=kk.kv k)(hk:kk.ok k)
  (hK:∀w',MapK kk w' M n (setK F k none)->w.grownBy w' (some M)->wpList Tryz.prog ops Q rest (a.put o.dst (.tuple #[])) w'):wpList Tryz.prog ops Q (o::rest) a w:=by
 refine wpList_plain hg fun K' hK'=>?_
 obtain⟨w',hrun,r1,r2⟩:=h.drop ht hk o.type
 unfold Oper.wp
 simp[execOp,hop,resolve,invoke,builtin,hm,hx,hrun,Result.andThen]
 exact hK' _ _ (hK w' r1 r2)
include ht in
theorem wpList_rangeK(m:Operand)(hop:o.op=Op.range T m)(h:MapK kk w M n F)(hm:a.eval m=.map (some M))
  (hK:∀w' cnt,RangeK kk w' M w.heap.size n F (fun k=>(F k).isSome) cnt->w.grownBy w' none->w'.heap.size=w.heap.size+1->wpList Tryz.prog ops Q rest (a.put o.dst (.pointer (some ⟨w.heap.size,0,none⟩))) w'):wpList Tryz.prog ops Q (o::rest) a w:=by
 refine wpList_plain hg fun K' hK'=>?_
 obtain⟨w',cnt,hrun,r1,r2,r3⟩:=h.range ht
 unfold Oper.wp
 simp[execOp,hop,hm,hrun,Result.andThen]
 exact hK' _ _ (hK w' cnt r1 r2 r3)
theorem wpList_nextK[DecidableEq κ](it:Operand)(hop:o.op=Op.next it false){r:Nat}{left:κ->Bool}{cnt:Nat}(hit:a.eval it=.pointer (some ⟨r,0,none⟩))(h:RangeK kk w M r n F left cnt)
  (hDone:cnt=0->(∀k,kk.ok k->left k=false)->wpList Tryz.prog ops Q rest (a.put o.dst (.tuple #[.bool false])) w)
  (hMore:∀(k:κ) (v:Value) (w':World) (cnt':Nat),kk.ok k->left k=true->F k=some v->RangeK kk w' M r n F (fun x=>left x&&!decide (x=k)) cnt'->cnt'<cnt->w.grownBy w' (some r)->w'.heap.size=w.heap.size->
   (Instr.entry (.pointer (some ⟨r,0,none⟩))).run Tryz.prog w'=.ok (.tuple #[kk.kv k,v]) w'->wpList Tryz.prog ops Q rest (a.put o.dst (.tuple #[.bool true,kk.kv k,v])) w'):wpList Tryz.prog ops Q (o::rest) a w:=by
 refine wpList_plain hg fun K' hK'=>?_
 unfold Oper.wp
 rcases h.next o.type with⟨h0,hl,hrun⟩|⟨k,v,w',cnt',hk,hlk,hv,hrun,hrg,hlt,hgr,hsz,hen⟩
 ·simp[execOp,hop,hit,hrun,Result.andThen]
  exact hK' _ _ (hDone h0 hl)
 ·simp[execOp,hop,hit,hrun,Result.andThen]
  exact hK' _ _ (hMore k v w' cnt' hk hlk hv hrg hlt hgr hsz hen)
end
end
def keyS:KeyK 9 ByteArray where
 kv:=.string
 kl s:=.string s.data.toList
 ok s:=s.size<=maxLen
 law:=string_keyed Tryz.underlying9
 key _ hs:=Go.WideMaps.keyOf_string_mk Tryz.underlying9 hs
 inj a b h:=by
  injection h with h
  exact ByteArray.ext (Array.ext' h)
 isk _:=trivial
 inv v l h:=by
  rw[keyOf_string Tryz.underlying9]at h
  unfold mapKey at h
  rw[Tryz.underlying9]at h
  cases v with
  |string s=>
   simp only at h
   split at h
   ·rename_i hs
    cases h
    exact⟨s,hs,rfl,rfl⟩
   ·cases h
  |_=>cases h
