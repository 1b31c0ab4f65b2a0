/-
  Part 20 of the proof.
-/
import Derived.Test.YtldmhjbdahjhdaaGreatDoorZb16
import Derived.Test.YtldmhjbdahjhdaaGreatDoorZb15
import Derived.Test.YtldmhjbdahjhdaaGreatDoorZb19
open List renaming mem_singleton->arx,length_append->arB,length_cons->arC,eq_nil_of_length_eq_zero->arD,mem_append->arE,pairwise_append->arH,pairwise_singleton->arI,mem_cons->arJ,mem_append_right->arK,pairwise_map->arM,cons_append->arP,length_drop->arQ,pairwise_iff_getElem->arR,pairwise_cons->arS,take_succ_eq_append_getElem->arT,mem_append_left->arX,length_nil->arY,getElem_of_mem->arZ,mem_map->ar0,getD_eq_getElem?_getD->ar1,mem_flatMap->ar4,getElem_mem->ar5,mem_filter->ar7,flatMap_append->asb,flatMap_cons->asd,append_assoc->asf,getElem_take->asg,findIdx_cons->ash,drop_sublist->asi,filter_cons->asj,length_take->asl
open Go.Proofs.Tryz renaming prog->ary,underlying9->arU,zeroCells89->arV,underlying3->ar3,func117->asq
open Go.Lib renaming compareBytes->arz,hid->arA,idxByFrom->arW,idxBy->asa
open Go.Result renaming andThen->arF
open Nat renaming eq_zero_or_pos->arG,le_refl->arN,zero_add->asp
open Go.World renaming cell?_alloc_new->arL
open Go renaming wpList_plain->arO,Operand->ar9
open List.Pairwise renaming nil->ar2,and->ast
open UInt8 renaming not_lt->ar6,le_antisymm->ase,lt_irrefl->asm
open Int renaming le_refl->ar8
open Go.Oper renaming wp->ar_
open Go.Instr renaming lookup->asc,range->asr,entry->ass
open Option.some renaming inj->asn
open Go.WideMaps renaming keyOf_string_mk->aso
set_option maxRecDepth 100000
set_option maxHeartbeats 100000000
set_option linter.all false
namespace Go.Proofs.YtldmhjbdahjhdaaGreatDoor
section
open Go Go.RowKit Go.Maps
def jK(v:Value):Option (DataW Value×List MemPlace):=some (.held v,[])
structure M9(K:TypeId)(κ:Type) where
 kv:κ->Value
 kl:κ->Lit
 ok:κ->Prop
 law:Keyed ary K
 key:∀k,ok k->Go.keyOf ary K (kv k)=some (kl k)
 inj:∀a b,kl a=kl b->a=b
 KZ:∀k,WideAt.IsKeyLit (kl k)
 inv:∀v l,Go.keyOf ary K v=some l->∃k,ok k/\v=kv k/\l=kl k
section
variable{K:TypeId}{κ:Type}(kk:M9 K κ)
def K2(D:DataW Value)(F:κ->Option Value):Prop:=∀k:κ,kk.ok k->Maps.has D (kk.kl k)=(F k).isSome/\∀z,D.atKey (kk.kl k) z=match F k with|none=>z|some v=>.held v
def db(w:World)(M n:Nat)(F:κ->Option Value):Prop:=∃D:DataW Value,w.ownsMap ary K jK M n D/\K2 kk D F
variable{kk}
theorem db.block{w w':World}{M n:Nat}{F:κ->Option Value}(h:db kk w M n F)(q:w'.heap[M]?=w.heap[M]?):db kk w' M n F:=by
 obtain⟨D,⟨s,b,y,z⟩,B⟩:=h;exact⟨D,⟨s,b,q.trans y,z⟩,B⟩
theorem db.lt{w:World}{M n:Nat}{F:κ->Option Value}(h:db kk w M n F):M<w.heap.size:=by
 obtain⟨D,b,_⟩:=h;exact b.lt
theorem db.gr{w w':World}{M n:Nat}{F:κ->Option Value}(h:db kk w M n F)(g:Gr w w'):db kk w' M n F:=h.block (g.block _ h.lt)
theorem db.made(w:World):db kk (w.alloc (.map #[] 0)) w.heap.size 0 (fun _=>none):=
 ⟨.map [],World.ownsMap_made w _ _ _,fun _ _=>⟨rfl,fun _=>rfl⟩⟩
theorem qO{v:Value}{d:DataW Value}{b:List MemPlace}(h:jK v=some (d,b)):d=.held v:=by
 unfold jK at h;cases h
 rfl
variable{T E:TypeId}(ht:ary.underlying T=some (.map K E)){z0:Value}(hz:∀w,(zeroValue E).run ary w=.ok z0 w)
include ht hz
theorem db.look{w:World}{M n:Nat}{F:κ->Option Value}(h:db kk w M n F){k:κ}(s:kk.ok k):
  (asc T (.map (some M)) (kk.kv k) false).run ary w=.ok ((F k).getD z0) w:=by
 obtain⟨D,z,B⟩:=h;obtain⟨H,G⟩:=B k s;obtain⟨v,I,q,hv⟩:=z.lookup (t:=T) (e:=E) kk.law ht (hz w) (rfl:jK z0=_) (kk.key k s);rw[q];have b:=qO hv;rw[G]at b;cases y:F k with
 |none=>rw[y]at b;cases b;rfl
 |some u=>rw[y]at b;cases b;rfl
theorem db.look_ok{w:World}{M n:Nat}{F:κ->Option Value}(h:db kk w M n F){k:κ}(s:kk.ok k):
  (asc T (.map (some M)) (kk.kv k) true).run ary w=.ok (.tuple #[(F k).getD z0,.bool (F k).isSome]) w:=by
 obtain⟨D,z,B⟩:=h;obtain⟨G,H⟩:=B k s;obtain⟨v,I,q,hv⟩:=z.look_ok (t:=T) (e:=E) kk.law ht (hz w) (rfl:jK z0=_) (kk.key k s);rw[q,G];have b:=qO hv;rw[H]at b;cases y:F k with
 |none=>rw[y]at b;cases b;rfl
 |some u=>rw[y]at b;cases b;rfl
omit hz in
theorem db.store[DecidableEq κ]{w:World}{M n:Nat}{F:κ->Option Value}(h:db kk w M n F)(hn:n<1000000){k:κ}(G:kk.ok k)(v:Value):
  ∃w',(Instr.mapUpdate T (.map (some M)) (kk.kv k) v).run ary w=.ok () w'/\db kk w' M (n+1) (fun i=>if i=k then some v else F i)/\w.grownBy w' (some M):=by
 obtain⟨D,y,B⟩:=h;obtain⟨w',s,H,hg⟩:=y.update (t:=T) (e:=E) kk.law ht (by unfold maxLen;omega) (kk.key k G) (rfl:jK v=_);refine⟨w',s,⟨_,H,fun i hi=>?_⟩,hg⟩;have b:=y.isMap;by_cases e:i=k
 ·subst e;simp only[if_true];exact⟨Maps.has_put_same b (kk.KZ i) _,fun z=>Maps.atKey_put_same b (kk.KZ i) _ z⟩
 ·have q:kk.kl i≠kk.kl k:=fun h=>e (kk.inj _ _ h);simp only[if_neg e];rw[Maps.has_put_other q];exact⟨(B i hi).1,fun z=>by rw[Maps.atKey_put_other q];exact(B i hi).2 z⟩
omit hz in
theorem db.drop[DecidableEq κ]{w:World}{M n:Nat}{F:κ->Option Value}(h:db kk w M n F){k:κ}(y:kk.ok k)(ty:TypeId):
  ∃w',(Builtin.delete_ #[T,K] ty #[.map (some M),kk.kv k]).run ary w=.ok (.tuple #[]) w'/\db kk w' M n (fun i=>if i=k then none else F i)/\w.grownBy w' (some M):=by
 obtain⟨D,B,s⟩:=h;obtain⟨w',q,G,hg⟩:=B.drop (t:=T) (e:=E) kk.law ht (kk.key k y) ty;refine⟨w',q,⟨_,G,fun i hi=>?_⟩,hg.grown⟩;by_cases e:i=k
 ·subst e;simp only[if_true];exact⟨Maps.has_del_same,fun z=>Maps.atKey_del_same z⟩
 ·have b:kk.kl i≠kk.kl k:=fun h=>e (kk.inj _ _ h);simp only[if_neg e];rw[Maps.has_del_other b];exact⟨(s i hi).1,fun z=>by rw[Maps.atKey_del_other b];exact(s i hi).2 z⟩
omit ht hz
variable(kk)
def dG(w:World)(M r n:Nat)(F:κ->Option Value)(left:κ->Bool)(b:Nat):Prop:=
 ∃(D:DataW Value) (q:Lit->Bool),w.ranges ary K jK M r n D q b/\K2 kk D F/\∀k,kk.ok k->q (kk.kl k)=left k
variable{kk}
theorem dG.map{w:World}{M r n:Nat}{F:κ->Option Value}{left:κ->Bool}{b:Nat}(h:dG kk w M r n F left b):db kk w M n F:=by
 obtain⟨D,y,q,s,_⟩:=h;exact⟨D,q.owns,s⟩
theorem dG.left_eq{w:World}{M r n:Nat}{F:κ->Option Value}{left:κ->Bool}{b:Nat}(h:dG kk w M r n F left b):w.rangeLeft M r=b:=by
 obtain⟨D,s,q,y,_⟩:=h;exact q.left_eq
theorem dG.lt{w:World}{M r n:Nat}{F:κ->Option Value}{left:κ->Bool}{b:Nat}(h:dG kk w M r n F left b):r<w.heap.size:=by
 obtain⟨D,s,q,y,_⟩:=h;exact q.lt
theorem dG.blocks{w w':World}{M r n:Nat}{F:κ->Option Value}{left:κ->Bool}{s:Nat}(h:dG kk w M r n F left s)(y:w'.heap[M]?=w.heap[M]?)(z:w'.heap[r]?=w.heap[r]?):dG kk w' M r n F left s:=by
 obtain⟨D,B,⟨G,b,q,seen,H,I,J,L,O,Q,rest⟩,S⟩:=h;exact⟨D,B,⟨G,b,q,seen,H,y.trans I,J,L,O,z.trans Q,rest⟩,S⟩
theorem dG.gr{w w':World}{M r n:Nat}{F:κ->Option Value}{left:κ->Bool}{b:Nat}(h:dG kk w M r n F left b)(g:Gr w w'):dG kk w' M r n F left b:=
 h.blocks (g.block _ h.map.lt) (g.block _ h.lt)
include ht in
theorem db.range{w:World}{M n:Nat}{F:κ->Option Value}(h:db kk w M n F):
  ∃w' q,(asr T (.map (some M))).run ary w=.ok (.pointer (some ⟨w.heap.size,0,none⟩)) w'/\dG kk w' M w.heap.size n F (fun k=>(F k).isSome) q/\w.grownBy w' none/\w'.heap.size=w.heap.size+1:=by
 obtain⟨D,y,s⟩:=h;obtain⟨w',b,z,hg,hs⟩:=y.range (t:=T) (e:=E) kk.law ht;exact⟨w',_,b,⟨D,_,z,s,fun k B=>(s k B).1⟩,hg,hs⟩
theorem dG.next[DecidableEq κ]{w:World}{M r n:Nat}{F:κ->Option Value}{left:κ->Bool}{q:Nat}(h:dG kk w M r n F left q)(ty:TypeId):
  (q=0/\(∀k,kk.ok k->left k=false)/\(Instr.next (.pointer (some ⟨r,0,none⟩)) false ty).run ary w=.ok (.tuple #[.bool false]) w)\/
  ∃k v w' b,kk.ok k/\left k=true/\F k=some v/\(Instr.next (.pointer (some ⟨r,0,none⟩)) false ty).run ary w=.ok (.tuple #[.bool true,kk.kv k,v]) w'/\
   dG kk w' M r n F (fun x=>left x&&!decide (x=k)) b/\b<q/\w.grownBy w' (some r)/\w'.heap.size=w.heap.size/\(ass (.pointer (some ⟨r,0,none⟩))).run ary w'=.ok (.tuple #[kk.kv k,v]) w':=by
 obtain⟨D,J,L,I,G⟩:=h;rcases L.next kk.law ty with⟨O,Q,S⟩|⟨a9,v,l,y,w',b,U,V,Y,Z,b5,b6,b7,b8,b9,H⟩
 ·exact .inl ⟨O,fun k s=>by rw[<-G k s];exact Q _,S⟩
 ·obtain⟨k,s,rfl,rfl⟩:=kk.inv _ _ U;have B:F k=some v:=by
   have z:=(I k s).2 .nil;rw[Z,qO (Y:jK v=some (y.1,y.2))]at z;cases B:F k with
   |none=>rw[B]at z;cases z
   |some u=>rw[B]at z;cases z;rfl
  refine .inr ⟨k,v,w',b,s,by rw[<-G k s];exact V,B,b5,⟨D,_,b6,I,fun x hx=>?_⟩,b7,b8,b9,H⟩;have hs:(kk.kl x).sameKey (kk.kl k)=decide (x=k):=by
   by_cases e:x=k
   ·subst e;rw[decide_eq_true rfl];exact WideAt.sameKey_self (kk.KZ x)
   ·rw[decide_eq_false e];exact Maps.sameKey_ne fun h=>e (kk.inj _ _ h)
  show(J (kk.kl x)&&!(kk.kl x).sameKey (kk.kl k))=_;rw[hs,G x hx]
def uC[DecidableEq κ](F:κ->Option Value)(k:κ)(s:Option Value):κ->Option Value:=fun i=>if i=k then s else F i
theorem jT[DecidableEq κ](F:κ->Option Value)(k:κ)(s:Option Value):uC F k s k=s:=if_pos rfl
theorem ic[DecidableEq κ](F:κ->Option Value){k i:κ}(s:Option Value)(h:i≠k):uC F k s i=F i:=if_neg h
variable{ops:Array Oper}{rest:List Oper}{o:Oper}{a:Act}{Q:Exit->Act->World->Prop}{w:World}{M n:Nat}{F:κ->Option Value}
section
variable(hg:o.guard=none)
include hg
include ht hz in
theorem C8(m x:ar9)(q:o.op=Op.lookup T m x false)(h:db kk w M n F)(y:a.eval m=.map (some M)){k:κ}(z:a.eval x=kk.kv k)(B:kk.ok k){v:Value}(hv:(F k).getD z0=v)
  (D:wpList ary ops Q rest (a.put o.dst v) w):wpList ary ops Q (o::rest) a w:=by
 refine arO hg fun G s=>?_;have b:=h.look ht hz B;rw[hv]at b;unfold ar_;simp[execOp,q,y,z,b,arF];exact s _ _ D
include ht hz in
theorem qc(m x:ar9)(s:o.op=Op.lookup T m x true)(h:db kk w M n F)(z:a.eval m=.map (some M)){k:κ}(B:a.eval x=kk.kv k)(D:kk.ok k){v:Value}{b:Bool}(hv:(F k).getD z0=v)(G:(F k).isSome=b)
  (H:wpList ary ops Q rest (a.put o.dst (.tuple #[v,.bool b])) w):wpList ary ops Q (o::rest) a w:=by
 refine arO hg fun I y=>?_;have q:=h.look_ok ht hz D;rw[hv,G]at q;unfold ar_;simp[execOp,s,z,B,q,arF];exact y _ _ H
include ht in
theorem AW[DecidableEq κ](m x v:ar9)(q:o.op=Op.mapUpdate T m x v)(h:db kk w M n F)(hn:n<1000000)(y:a.eval m=.map (some M)){k:κ}(z:a.eval x=kk.kv k)(B:kk.ok k){val:Value}(hv:a.eval v=val)
  (D:∀w',db kk w' M (n+1) (uC F k (some val))->w.grownBy w' (some M)->wpList ary ops Q rest (a.put o.dst undef) w'):wpList ary ops Q (o::rest) a w:=by
 refine arO hg fun G s=>?_;obtain⟨w',b,r1,r2⟩:=h.store ht hn B val;unfold ar_;simp[execOp,q,y,z,hv,b,arF];exact s _ _ (D w' r1 r2)
include ht in
theorem FJ[DecidableEq κ](m x:ar9)(q:o.op=Op.call {callee:=Callee.builtin Builtin.delete,args:=#[m,x],argTypes:=#[T,K]})(h:db kk w M n F)(y:a.eval m=.map (some M)){k:κ}(z:a.eval x=kk.kv k)(B:kk.ok k)
  (D:∀w',db kk w' M n (uC F k none)->w.grownBy w' (some M)->wpList ary ops Q rest (a.put o.dst (.tuple #[])) w'):wpList ary ops Q (o::rest) a w:=by
 refine arO hg fun G s=>?_;obtain⟨w',b,r1,r2⟩:=h.drop ht B o.type;unfold ar_;simp[execOp,q,resolve,invoke,builtin,y,z,b,arF];exact s _ _ (D w' r1 r2)
include ht in
theorem AX(m:ar9)(s:o.op=Op.range T m)(h:db kk w M n F)(z:a.eval m=.map (some M))
  (B:∀w' b,dG kk w' M w.heap.size n F (fun k=>(F k).isSome) b->w.grownBy w' none->w'.heap.size=w.heap.size+1->wpList ary ops Q rest (a.put o.dst (.pointer (some ⟨w.heap.size,0,none⟩))) w'):wpList ary ops Q (o::rest) a w:=by
 refine arO hg fun G y=>?_;obtain⟨w',b,q,r1,r2,D⟩:=h.range ht;unfold ar_;simp[execOp,s,z,q,arF];exact y _ _ (B w' b r1 r2 D)
theorem uD[DecidableEq κ](it:ar9)(B:o.op=Op.next it false){r:Nat}{left:κ->Bool}{s:Nat}(hit:a.eval it=.pointer (some ⟨r,0,none⟩))(h:dG kk w M r n F left s)
  (y:s=0->(∀k,kk.ok k->left k=false)->wpList ary ops Q rest (a.put o.dst (.tuple #[.bool false])) w)
  (z:∀(k:κ) (v:Value) (w':World) (b:Nat),kk.ok k->left k=true->F k=some v->dG kk w' M r n F (fun x=>left x&&!decide (x=k)) b->b<s->w.grownBy w' (some r)->w'.heap.size=w.heap.size->
   (ass (.pointer (some ⟨r,0,none⟩))).run ary w'=.ok (.tuple #[kk.kv k,v]) w'->wpList ary ops Q rest (a.put o.dst (.tuple #[.bool true,kk.kv k,v])) w'):wpList ary ops Q (o::rest) a w:=by
 refine arO hg fun Y D=>?_;unfold ar_;rcases h.next o.type with⟨S,U,q⟩|⟨k,v,w',b,V,G,hv,q,H,I,J,L,O⟩
 ·simp[execOp,B,hit,q,arF];exact D _ _ (y S U)
 ·simp[execOp,B,hit,q,arF];exact D _ _ (z k v w' b V G hv H I J L O)
end
end
def lf:M9 9 ByteArray where
 kv:=.string
 kl s:=.string s.data.toList
 ok s:=s.size<=maxLen
 law:=string_keyed arU
 key _ hs:=aso arU hs
 inj a b h:=by
  injection h with h
  exact ByteArray.ext (Array.ext' h)
 KZ _:=trivial
 inv v l h:=by
  rw[keyOf_string arU]at h;unfold mapKey at h;rw[arU]at h;cases v with
  |string s=>
   simp only at h
   split at h
   ·rename_i hs
    cases h;exact⟨s,hs,rfl,rfl⟩
   ·cases h
  |_=>cases h
def ke:M9 3 Int where
 kv:=.int .i64
 kl k:=.int .i64 k
 ok k:=(Lit.int .i64 k).wf=true
 law:=int_keyed ar3
 key _ hk:=keyOf_int_mk ar3 hk
 inj a b h:=by
  injection h
 KZ _:=trivial
 inv v l h:=by
  obtain⟨x,rfl,rfl,q⟩:=Maps.keyOf_int_inv ar3 h;exact⟨x,q,rfl,rfl⟩
section
variable{K:TypeId}{κ:Type}{kk:M9 K κ}{T E:TypeId}(ht:ary.underlying T=some (.map K E))
include ht
theorem db.SU{w:World}{M n:Nat}{F:κ->Option Value}(h:db kk w M n F):
  ∃w' b,(asr T (.map (some M))).run ary w=.ok (.pointer (some ⟨w.heap.size,0,none⟩)) w'/\dG kk w' M w.heap.size n F (fun k=>(F k).isSome) b/\w.grownBy w' none/\w'.heap.size=w.heap.size+1/\b<=n:=by
 obtain⟨D,s,y⟩:=h;obtain⟨w',q,z,B,hs⟩:=s.range (t:=T) (e:=E) kk.law ht;exact⟨w',_,q,⟨D,_,z,y,fun k G=>(y k G).1⟩,B,hs,s.size_le⟩
theorem AY{q:Array Oper}{rest:List Oper}{o:Oper}{a:Act}{Q:Exit->Act->World->Prop}{w:World}{M n:Nat}{F:κ->Option Value}(B:o.guard=none)(m:ar9)(y:o.op=Op.range T m)(h:db kk w M n F)(D:a.eval m=.map (some M))
  (G:∀w' b,dG kk w' M w.heap.size n F (fun k=>(F k).isSome) b->w.grownBy w' none->w'.heap.size=w.heap.size+1->b<=n->wpList ary q Q rest (a.put o.dst (.pointer (some ⟨w.heap.size,0,none⟩))) w'):wpList ary q Q (o::rest) a w:=by
 refine arO B fun J z=>?_;obtain⟨w',b,s,r1,r2,H,I⟩:=h.SU ht;unfold ar_;simp[execOp,y,D,s,arF];exact z _ _ (G w' b r1 r2 H I)
end
theorem qP:ary.underlying 44=some (.map 3 3):=by kernel_rfl
theorem SV(w:World):(zeroValue 3).run ary w=.ok (.int .i64 0) w:=by kernel_rfl
theorem Vm{k:Int}(h:-9223372036854775808<=k/\k<=9223372036854775807):ke.ok k:=by
 show(Lit.int .i64 k).wf=true;simp[Lit.wf,IntKind.min,IntKind.max,IntKind.bits,IntKind.signed];omega
def cntF(H:Int->Nat):Int->Option Value:=fun r=>if H r=0 then none else some (.int .i64 (H r:Int))
theorem Oi(H:Int->Nat)(r:Int):(cntF H r).getD (.int .i64 0)=.int .i64 (H r:Int):=by
 unfold cntF;by_cases h:H r=0
 ·rw[if_pos h,h]
  rfl
 ·rw[if_neg h]
  rfl
def oS(w:World)(M n:Nat)(H:Int->Nat):Prop:=db ke w M n (cntF H)
theorem oS.gr{w w':World}{M n:Nat}{H:Int->Nat}(h:oS w M n H)(g:Gr w w'):oS w' M n H:=db.gr h g
theorem oS.look{w:World}{M n:Nat}{H:Int->Nat}(h:oS w M n H){r:Int}(b:-9223372036854775808<=r/\r<=9223372036854775807):
  (asc 44 (.map (some M)) (.int .i64 r) false).run ary w=.ok (.int .i64 (H r:Int)) w:=by
 have:=db.look (kk:=ke) qP SV h (Vm b);rw[Oi]at this;exact this
def IA(H:Int->Nat)(r:Int)(v:Nat):Int->Nat:=fun i=>if i=r then v else H i
theorem Oj(H:Int->Nat)(r:Int){v:Nat}(hv:0<v):uC (cntF H) r (some (.int .i64 (v:Int)))=cntF (IA H r v):=by
 funext i
 unfold uC cntF IA;by_cases e:i=r
 ·subst e;rw[if_pos rfl];simp only[if_true];rw[if_neg (by omega)]
 ·rw[if_neg e];simp only[if_neg e]
end
section
open Go Go.RowKit
abbrev bh:Type:=Int×Int
def de(l:List aa)(r:Int):Nat:=(l.filter fun p=>p.1==r).length
theorem Bf(a b:List aa)(r:Int):de (a++b) r=de a r+de b r:=by
 unfold de;rw[List.filter_append,arB]
theorem FZ(p:aa)(b:List aa)(r:Int):de (p::b) r=(if p.1=r then 1 else 0)+de b r:=by
 unfold de;rw[asj];by_cases h:p.1=r
 ·rw[if_pos (by simpa using h),if_pos h,arC];omega
 ·rw[if_neg (by simpa using h),if_neg h,asp]
theorem lX{l:List aa}{r:Int}:0<de l r↔∃p∈l,p.1=r:=by
 unfold de;rw[List.length_pos_iff_exists_mem]
 constructor
 ·rintro⟨p,s⟩;obtain⟨b,q⟩:=ar7.1 s;exact⟨p,b,by simpa using q⟩
 ·rintro⟨p,b,q⟩;exact⟨p,ar7.2 ⟨b,by simpa using q⟩⟩
theorem Bg(l:List aa)(r:Int):de l r<=l.length:=List.length_filter_le _ _
structure jR(l:List bh)(H:Int->Nat):Prop where
 up:l.Pairwise fun a b=>a.1<b.1
 val:∀x∈l,x.2=(H x.1:Int)/\0<H x.1
 all:∀r,0<H r->∃x∈l,x.1=r
def mU(out:List bh)(p:aa):List bh:=match out.getLast? with
 |some x=>if x.1=p.1 then out.dropLast++[(x.1,x.2+1)]else out++[(p.1,1)]
 |none=>[(p.1,1)]
def eS(l:List aa):List bh:=l.foldl mU []
theorem yR(l:List aa)(p:aa):eS (l++[p])=mU (eS l) p:=by
 unfold eS;rw[List.foldl_append]
 rfl
theorem IM{l:List aa}(h:l.Pairwise fun a b=>a.1<=b.1):jR (eS l) (de l)/\(eS l).length<=l.length:=by
 suffices hs:∀(n:Nat) (l:List aa),l.length=n->l.Pairwise (fun a b=>a.1<=b.1)->jR (eS l) (de l)/\(eS l).length<=l.length from hs _ l rfl h
 intro n
 induction n with
 |zero=>
  intro l L _;have:l=[]:=arD L;subst this;exact⟨⟨ar2,(fun x G=>by cases G),(fun r B=>by simp[de]at B)⟩,arN _⟩
 |succ n ih=>
  intro l L hp;obtain⟨m,p,rfl⟩:∃m p,l=m++[p]:=by
   cases B:l.reverse with
   |nil=>
    rw[List.reverse_eq_nil_iff]at B;subst B;simp at L
   |cons p r=>exact⟨r.reverse,p,by rw[<-List.reverse_reverse l,B,List.reverse_cons]⟩
  have hm:m.length=n:=by
   rw[arB]at L;simpa using L
  obtain⟨U,_,V⟩:=arH.1 hp;obtain⟨⟨u1,u2,u3⟩,u4⟩:=ih m hm U;have Y:∀q∈m,q.1<=p.1:=fun q O=>V q O p (arx.2 rfl);have J:∀x∈eS m,x.1<=p.1:=fun x G=>by
   obtain⟨q,O,e⟩:=lX.1 (u2 x G).2;have:=Y q O;omega
  have hc:∀r,de (m++[p]) r=de m r+if p.1=r then 1 else 0:=fun r=>by
   rw[Bf,FZ];simp[de]
  rw[yR,arB];unfold mU;cases Z:(eS m).getLast? with
  |none=>
   have h0:eS m=[]:=List.getLast?_eq_none_iff.1 Z;have H:∀r,de m r=0:=fun r=>by
    rcases arG (de m r)with e|e
    ·exact e
    ·obtain⟨x,G,_⟩:=u3 r e;rw[h0]at G;cases G
   refine⟨⟨arI _ _,fun x G=>?_,fun r B=>?_⟩,by simp⟩
   ·rw[arx.1 G];simp only[hc,H,if_true];omega
   ·rw[hc,H]at B
    split at B
    ·rename_i e
     exact⟨_,arx.2 rfl,e⟩
    ·omega
  |some x=>
   obtain⟨d,hd⟩:∃d,eS m=d++[x]:=⟨_,(List.getLast?_eq_some_iff.1 Z).choose_spec⟩;have a7:(d++[x]).length=d.length+1:=by simp
   rw[hd]at u1 u2 u3 u4 J;obtain⟨v1,_,v3⟩:=arH.1 u1;have D:∀y∈d,y.1<x.1:=fun y s=>v3 y s x (arx.2 rfl);have a8:=J x (arK _ (arx.2 rfl));obtain⟨w1,w2⟩:=u2 x (arK _ (arx.2 rfl));simp only;by_cases e:x.1=p.1
   ·rw[if_pos e,hd,List.dropLast_concat];refine⟨⟨arH.2 ⟨v1,arI _ _,fun y s z H=>?_⟩,fun y s=>?_,fun r B=>?_⟩,?_⟩
    ·rw[arx.1 H];exact D y s
    ·rcases arE.1 s with s|s
     ·have Q:=u2 y (arX _ s);have h2:=D y s;rw[hc,if_neg (by omega)];exact Q
     ·rw[arx.1 s];simp only[hc,if_pos e.symm];omega
    ·rw[hc]at B;by_cases M:p.1=r
     ·exact⟨(x.1,x.2+1),arK _ (arx.2 rfl),by show x.1=r;omega⟩
     ·rw[if_neg M]at B;obtain⟨y,s,I⟩:=u3 r (by omega);rcases arE.1 s with s|s
      ·exact⟨y,arX _ s,I⟩
      ·rw[arx.1 s]at I;exact absurd (by omega) M
    ·rw[arB]at u4⊢;simp only[arC,arY]at u4⊢;omega
   ·rw[if_neg e,hd];refine⟨⟨arH.2 ⟨u1,arI _ _,fun y s z H=>?_⟩,fun y s=>?_,fun r B=>?_⟩,?_⟩
    ·rw[arx.1 H];show y.1<p.1;rcases arE.1 s with s|s
     ·have:=D y s;omega
     ·rw[arx.1 s];omega
    ·rcases arE.1 s with s|s
     ·have Q:=u2 y s;have h2:y.1<p.1:=by
       rcases arE.1 s with s|s
       ·have:=D y s;omega
       ·rw[arx.1 s];omega
      rw[hc,if_neg (by omega)];exact Q
     ·rw[arx.1 s];have H:de m p.1=0:=by
       rcases arG (de m p.1)with S|S
       ·exact S
       ·obtain⟨y,s,I⟩:=u3 p.1 S;rcases arE.1 s with s|s
        ·have:=D y s;omega
        ·rw[arx.1 s]at I;exact absurd I e
      simp only[hc,H,if_true];omega
    ·rw[hc]at B;by_cases M:p.1=r
     ·exact⟨(p.1,1),arK _ (arx.2 rfl),M⟩
     ·rw[if_neg M]at B;obtain⟨y,s,I⟩:=u3 r (by omega);exact⟨y,arX _ s,I⟩
    ·rw[arB];simp only[arC,arY];omega
def dq:List bh->Int->Int
 |[],_=>0
 |x::l,r=>if x.1=r then x.2 else dq l r
theorem nn{l:List bh}{H:Int->Nat}(h:jR l H)(r:Int):dq l r=(H r:Int):=by
 have main:∀l:List bh,(∀x∈l,x.2=(H x.1:Int))->(0<H r->∃x∈l,x.1=r)->dq l r=(H r:Int):=by
  intro l
  induction l with
  |nil=>
   intro _ q;show(0:Int)=_;rcases arG (H r)with e|e
   ·rw[e]
    rfl
   ·obtain⟨x,s,_⟩:=q e;cases s
  |cons x l D=>
   intro B q;unfold dq;by_cases e:x.1=r
   ·rw[if_pos e,B x List.mem_cons_self,e]
   ·rw[if_neg e];refine D (fun y b=>B y (List.mem_cons_of_mem _ b)) fun G=>?_;obtain⟨y,b,z⟩:=q G;rcases arJ.1 b with I|b
    ·rw[I]at z;exact absurd z e
    ·exact⟨y,b,z⟩
 exact main l (fun x s=>(h.val x s).1) (h.all r)
def cf(kind:Int)(a b:Nat):Nat:=if kind=4 then(if 0<a/\0<b then a+b else 0)else if kind=5 then a+b else if kind=6 then(if b=0 then a else 0)else 0
def fh(kind:Int)(lb:List bh)(h:bh):List bh:=if(kind=4/\0<dq lb h.1)\/kind=5 then[(h.1,h.2+dq lb h.1)]else if kind=6/\dq lb h.1=0 then[h]else[]
def iF(kind:Int)(b lb:List bh):List bh:=b.flatMap (fh kind lb)
def gZ(kind:Int)(b:List bh)(h:bh):List bh:=if kind=5/\dq b h.1=0 then[h]else[]
def iG(kind:Int)(b lb:List bh):List bh:=lb.flatMap (gZ kind b)
theorem jW(kind:Int)(lb:List bh)(h:bh):(fh kind lb h).length<=1:=by
 unfold fh
 split
 ·simp
 ·split
  ·simp
  ·simp
theorem qY(kind:Int)(lb:List bh)(h:bh):(gZ kind lb h).length<=1:=by
 unfold gZ
 split
 ·simp
 ·simp
theorem jN{b q:Type}(f:b->List q)(hf:∀x,(f x).length<=1):∀l:List b,(l.flatMap f).length<=l.length
 |[]=>arN _
 |x::l=>by
  have:=jN f hf l;have:=hf x;rw[asd,arB,arC];omega
theorem vj(kind:Int)(b lb:List bh)(i:Nat)(h:i<b.length):iF kind (b.take (i+1)) lb=iF kind (b.take i) lb++fh kind lb b[i]:=by
 unfold iF;rw[arT h,asb];simp
theorem vl(kind:Int)(b lb:List bh)(i:Nat)(h:i<lb.length):iG kind b (lb.take (i+1))=iG kind b (lb.take i)++gZ kind b lb[i]:=by
 unfold iG;rw[arT h,asb];simp
theorem vm{kind:Int}(hk:kind=4\/kind=5\/kind=6){s lb out:List bh}{A B:Int->Nat}(ha:jR s A)(H:jR lb B)(I:out.Perm (iF kind s lb++iG kind s lb))(hs:out.Pairwise fun a b=>a.1<=b.1):
  jR out (fun r=>cf kind (A r) (B r)):=by
 have M:∀x,x∈iF kind s lb↔∃h∈s,x∈fh kind lb h:=fun x=>ar4;have mB:∀x,x∈iG kind s lb↔∃h∈lb,x∈gZ kind s h:=fun x=>ar4;have V:∀x∈iF kind s lb,x.2=(cf kind (A x.1) (B x.1):Nat)/\0<cf kind (A x.1) (B x.1)/\0<A x.1:=fun x q=>by
  obtain⟨h,z,q⟩:=(M x).1 q;obtain⟨Y,J⟩:=ha.val h z;have hf:=nn H h.1;unfold fh at q;rw[hf]at q
  split at q
  ·rename_i hc
   rw[arx.1 q];unfold cf;rcases hk with rfl|rfl|rfl
   ·have:0<B h.1:=by omega
    simp only[if_true,if_pos (And.intro J this)];omega
   ·simp only[show¬((5:Int)=4)by omega,if_false,if_true];omega
   ·omega
  ·split at q
   ·rename_i _ hc
    rw[arx.1 q];unfold cf;obtain⟨rfl,hc⟩:=hc;have:B h.1=0:=by omega
    simp only[show¬((6:Int)=4)by omega,show¬((6:Int)=5)by omega,if_false,if_true,this];exact⟨Y,J,J⟩
   ·cases q
 have Z:∀x∈iG kind s lb,x.2=(cf kind (A x.1) (B x.1):Nat)/\0<cf kind (A x.1) (B x.1)/\A x.1=0:=fun x q=>by
  obtain⟨h,z,q⟩:=(mB x).1 q;obtain⟨Y,J⟩:=H.val h z;have hf:=nn ha h.1;unfold gZ at q;rw[hf]at q
  split at q
  ·rename_i hc
   rw[arx.1 q];obtain⟨rfl,hc⟩:=hc;have h0:A h.1=0:=by omega
   have e:cf 5 (A h.1) (B h.1)=B h.1:=by
    unfold cf;rw[if_neg (by omega),if_pos rfl,h0,asp]
   rw[e];exact⟨Y,J,h0⟩
  ·cases q
 have O:∀(f:bh->List bh) (_:∀h,(f h).length<=1) (_:∀h x,x∈f h->x.1=h.1) (l:List bh),l.Pairwise (fun a b=>a.1<b.1)->(l.flatMap f).Pairwise fun a b=>a.1<b.1:=by
  intro f a0 Q l
  induction l with
  |nil=>intro _;exact ar2
  |cons h l ih=>
   intro I;obtain⟨p1,p2⟩:=arS.1 I;rw[asd];refine arH.2 ⟨?_,ih p2,fun x q y L=>?_⟩
   ·have:=a0 h;cases a1:f h with
    |nil=>exact ar2
    |cons a r=>
     rw[a1]at this;have:r=[]:=arD (by simpa using this);rw[this];exact arI _ _
   ·obtain⟨S,a2,L⟩:=ar4.1 L;have:=p1 S a2;rw[Q h x q,Q S y L];exact this
 have rA:∀h x,x∈fh kind lb h->x.1=h.1:=fun h x q=>by
  unfold fh at q
  split at q
  ·rw[arx.1 q]
  ·split at q
   ·rw[arx.1 q]
   ·cases q
 have rB:∀h x,x∈gZ kind s h->x.1=h.1:=fun h x q=>by
  unfold gZ at q
  split at q
  ·rw[arx.1 q]
  ·cases q
 have a3:(out.map (·.1)).Nodup:=by
  rw[(I.map (·.1)).nodup_iff,List.map_append];refine List.nodup_append.2 ⟨?_,?_,fun x q y L e=>?_⟩
  ·exact arM.2 ((O _ (jW kind lb) rA s ha.up).imp fun h=>by omega)
  ·exact arM.2 ((O _ (qY kind s) rB lb H.up).imp fun h=>by omega)
  ·obtain⟨u,hu,rfl⟩:=ar0.1 q;obtain⟨v,hv,rfl⟩:=ar0.1 L;have h1:=(V u hu).2.2;have S:=(Z v hv).2.2;have e:u.1=v.1:=e;rw[e]at h1;omega
 refine⟨?_,fun x q=>?_,fun r G=>?_⟩
 ·refine(ast hs (arM.1 a3)).imp fun{a b} h=>?_;have h1:=h.1;have S:=h.2;omega
 ·rcases arE.1 (I.mem_iff.1 q)with h|h
  ·exact⟨(V x h).1,(V x h).2.1⟩
  ·exact⟨(Z x h).1,(Z x h).2.1⟩
 ·have D:∀x,(x∈iF kind s lb\/x∈iG kind s lb)->x.1=r->∃x∈out,x.1=r:=fun x q e=>⟨x,I.mem_iff.2 (arE.2 q),e⟩;have U:=nn H r;have a4:=nn ha r;unfold cf at G;rcases hk with rfl|rfl|rfl
  ·simp only[if_true]at G
   split at G
   ·rename_i hc
    obtain⟨h,z,e⟩:=ha.all r hc.1;refine D (h.1,h.2+dq lb h.1) (.inl ((M _).2 ⟨h,z,?_⟩)) e;unfold fh;rw[if_pos (.inl ⟨rfl,by rw[e,U];omega⟩)];exact arx.2 rfl
   ·omega
  ·simp only[show¬((5:Int)=4)by omega,if_false,if_true]at G;by_cases hA:0<A r
   ·obtain⟨h,z,e⟩:=ha.all r hA;refine D (h.1,h.2+dq lb h.1) (.inl ((M _).2 ⟨h,z,?_⟩)) e;unfold fh;rw[if_pos (.inr rfl)];exact arx.2 rfl
   ·obtain⟨h,z,e⟩:=H.all r (by omega);refine D h (.inr ((mB _).2 ⟨h,z,?_⟩)) e;unfold gZ;rw[if_pos ⟨rfl,by rw[e,a4];omega⟩];exact arx.2 rfl
  ·simp only[show¬((6:Int)=4)by omega,show¬((6:Int)=5)by omega,if_false,if_true]at G
   split at G
   ·rename_i hc
    obtain⟨h,z,e⟩:=ha.all r G;refine D h (.inl ((M _).2 ⟨h,z,?_⟩)) e;unfold fh;rw[if_neg (by omega),if_pos ⟨rfl,by rw[e,U,hc];rfl⟩];exact arx.2 rfl
   ·omega
abbrev Cw:Type:=(ByteArray->Bool)->List aa
def iH(a b:List aa):List aa:=b.filter (fun x=>!!mT a x)
def QV(C:Cw):List aa->List ByteArray->List aa
 |a,[]=>a
 |a,x::r=>QV C (iH a (C fun y=>decide (y=x))) r
def Uv(C:Cw)(kind:Int)(ws:List ByteArray)(dT:Int)(r:Int):Nat:=
 if kind=1 then de (QV C (C fun y=>decide (y=ws.headD ⟨#[]⟩)) ws.tail) r
 else if kind=2 then de (C fun y=>(ws.headD ⟨#[]⟩).data.toList.isPrefixOf y.data.toList) r
 else if r∈setOf bU (bY dT (C fun y=>decide (y=ws.headD ⟨#[]⟩)) (C fun y=>decide (y=ws.tail.headD ⟨#[]⟩)))then 1 else 0
def HQ(C:Cw):Qy->Int->Nat
 | .leaf kind ws dT,r=>Uv C kind ws dT r
 | .node kind a b,r=>cf kind (HQ C a r) (HQ C b r)
def kC:Qy->Nat
 | .leaf _ _ _=>1
 | .node _ a b=>kC a+kC b
theorem D3(kind:Int)(a b:Nat):cf kind a b<=a+b:=by
 unfold cf
 split
 ·split<;>omega
 ·split
  ·omega
  ·split
   ·split<;>omega
   ·omega
theorem JC:∀(h a b x:List UInt8),arz (h++a) x≠1->arz x (h++b)≠1->∃t,x=h++t
 |[],_,_,x,_,_=>⟨x,rfl⟩
 |c::h,a,b,[],q,_=>absurd rfl q
 |c::h,a,b,d::x,q,s=>by
  rw[arP]at q s;simp only[arz]at q s;by_cases y:c<d
  ·have z:¬d<c:=fun h=>asm _ (UInt8.lt_trans y h);simp[y,z]at s
  ·by_cases z:d<c
   ·simp[y,z]at q
   ·have e:c=d:=ase (ar6.1 z) (ar6.1 y);subst e;simp only[y,if_false]at q s;obtain⟨t,B⟩:=JC h a b x q s;exact⟨t,by rw[B];rfl⟩
theorem BW:∀(h x t:List UInt8),arz h x≠1->(∀u,x≠h++u)->arz (h++t) x=-1
 |[],x,t,_,s=>absurd rfl (s x)
 |c::h,[],t,b,_=>absurd rfl b
 |c::h,d::x,t,b,s=>by
  rw[arP];simp only[arz]at b⊢;by_cases q:c<d
  ·simp[q]
  ·by_cases y:d<c
   ·simp[q,y]at b
   ·have e:c=d:=ase (ar6.1 y) (ar6.1 q);subst e;simp only[q,if_false]at b⊢;exact BW h x t b fun u hu=>s u (by rw[hu];rfl)
theorem uM:∀(h t:List UInt8),arz h (h++t)≠1
 |[],[]=>by decide
 |[],_::_=>by simp[arz]
 |c::h,t=>by
  rw[arP];simp only[arz,asm,if_false];exact uM h t
def preB(h x:ByteArray):Bool:=h.data.toList.isPrefixOf x.data.toList
theorem fE{h x:ByteArray}:preB h x=true↔∃t,x.data.toList=h.data.toList++t:=by
 unfold preB;rw[List.isPrefixOf_iff_prefix]
 constructor
 ·rintro⟨t,e⟩;exact⟨t,e.symm⟩
 ·rintro⟨t,e⟩;exact⟨t,e.symm⟩
theorem le_iff{a b:ByteArray}:¬ay b a↔gh a b≠1:=by
 rw[jO,vC a b];rcases BG a b with h|h|h<;>omega
theorem Au{h x:ByteArray}(b:preB h x=true):¬ay x h:=by
 obtain⟨t,e⟩:=fE.1 b;rw[le_iff];unfold gh;rw[e];exact uM _ _
theorem Rx{h a b x:ByteArray}(ha:preB h a=true)(y:preB h b=true)(q:¬ay x a)(s:¬ay b x):preB h x=true:=by
 obtain⟨t,e⟩:=fE.1 ha;obtain⟨u,f⟩:=fE.1 y;rw[le_iff]at q s;unfold gh at q s;rw[e]at q;rw[f]at s;exact fE.2 (JC _ _ _ _ q s)
theorem L5{h x y:ByteArray}(b:¬ay x h)(q:preB h x=false)(s:preB h y=true):ay y x:=by
 obtain⟨t,e⟩:=fE.1 s;rw[le_iff]at b;rw[jO];unfold gh at b⊢;rw[e];refine BW _ _ _ b fun u hu=>?_;have:preB h x=true:=fE.2 ⟨u,hu⟩;rw[q]at this;cases this
theorem takeWhile_filter{b:Type}{p:b->Bool}:∀{l:List b},l.Pairwise (fun x y=>p y=true->p x=true)->l.takeWhile p=l.filter p
 |[],_=>rfl
 |x::l,h=>by
  obtain⟨s,z⟩:=arS.1 h;rw[List.takeWhile_cons,asj];cases q:p x with
  |true=>
   simp only[if_true];rw[takeWhile_filter z]
  |false=>
   simp only[Bool.false_eq_true,if_false];refine(lE fun y B=>?_).symm;cases D:p y with
   |false=>rfl
   |true=>
    rw[s y B D]at q;cases q
def eF(l:LP)(s:ByteArray):LP:=l.filter fun x=>preB s x.1
theorem EJ{l:LP}(hs:dM l)(s:ByteArray):(iT l s).takeWhile (fun x=>preB s x.1)=eF l s:=by
 have B:(iT l s).Pairwise fun x y=>preB s y.1=true->preB s x.1=true:=by
  have D:dM (iT l s):=px hs _;have G:=arM.1 D;refine G.imp_of_mem fun{x y} H J z q=>?_;have I:¬ay x.1 s:=by simpa using(ar7.1 H).2
  refine Rx (a:=s) (b:=y.1) (fE.2 ⟨[],by simp⟩) q I (di z)
 rw[takeWhile_filter B];unfold iT eF;rw[List.filter_filter];refine List.filter_congr fun x _=>?_;cases q:preB s x.1 with
 |false=>simp
 |true=>
  have:=Au q;simp[this]
def gu(s:ByteArray):cD:=⟨2,0,s⟩
def kT(n:Int):cD:=⟨1,n,⟨#[]⟩⟩
def sq(l:List UInt8):ByteArray:=⟨l.toArray⟩
theorem yr(l:List UInt8):(sq l).data.toList=l:=rfl
theorem qA(l:List UInt8):(sq l).size=l.length:=by
 show l.toArray.size=_;simp
def bS(n w:ByteArray)(r:Int):ByteArray:=sq (dW [gu n,gu w,kT r])
def cN(n w:ByteArray):ByteArray:=sq (dW [gu n,gu w])
def ji(n:ByteArray):ByteArray:=sq (dW [gu n])
def aW:ByteArray:=⟨#[1]⟩
structure bQ(w:ByteArray):Prop where
 nz:w.data.toList.all (·!=0)=true
 len:w.data.toList.length<=40
theorem bQ.aA{w:ByteArray}(h:bQ w):jh (gu w):=by
 refine⟨?_,by show(-9223372036854775808:Int)<=0;omega,by show(0:Int)<=9223372036854775807;omega⟩;unfold eD gu;have b:=h.nz;have q:=h.len;have s:w.size<=40:=by rw[size_data];exact q
 simp[b,s]
theorem qB{r:Int}(h:1<=r/\r<=1073741824):jh (kT r):=by
 refine⟨?_,by show(-9223372036854775808:Int)<=r;omega,by show r<=9223372036854775807;omega⟩;unfold eD kT;simp
theorem wY(w:ByteArray):fv (gu w)=3::(w.data.toList++[0]):=rfl
theorem kp(n w:ByteArray):(cN n w).data.toList=fv (gu n)++(fv (gu w)++[]):=rfl
theorem rD(n w:ByteArray)(r:Int):(bS n w r).data.toList=(cN n w).data.toList++fv (kT r):=by
 rw[kp];show fv (gu n)++(fv (gu w)++(fv (kT r)++[]))=_;simp
theorem kq(n w:ByteArray)(r:Int):preB (cN n w) (bS n w r)=true:=fE.2 ⟨_,rD n w r⟩
theorem BX(n w:ByteArray)(r:Int):preB (ji n) (bS n w r)=true:=fE.2 ⟨fv (gu w)++fv (kT r),by
 rw[rD,kp];show _=(fv (gu n)++[])++_;simp⟩
theorem oD(n w:ByteArray)(r:Int):(bS n w r).size=n.size+w.size+13:=by
 have b:∀s:ByteArray,s.data.toList.length=s.size:=fun s=>by rw[Array.length_toList];rfl
 rw[<-b (bS n w r),rD,kp,wY,wY];have:(fv (kT r)).length=9:=rfl;simp only[arB,arC,arY,this,b];omega
theorem BY:∀(x y s t:List UInt8),x.all (·!=0)=true->y.all (·!=0)=true->x++0::s=y++0::t->x=y/\s=t
 |[],[],s,t,_,_,h=>⟨rfl,by injection h⟩
 |[],c::y,s,t,_,b,h=>by
  injection h with q B
  rw[<-q]at b;simp at b
 |c::x,[],s,t,z,_,h=>by
  injection h with q B
  rw[q]at z;simp at z
 |c::x,d::y,s,t,z,b,h=>by
  injection h with q B
  simp only[List.all_cons,Bool.and_eq_true]at z b;obtain⟨D,G⟩:=BY x y s t z.2 b.2 B;exact⟨by rw[q,D],G⟩
theorem EK{n w b:ByteArray}(hw:bQ w)(q:bQ b){r:Int}(h:preB (cN n w) (bS n b r)=true):w=b:=by
 obtain⟨t,e⟩:=fE.1 h;rw[rD,kp,kp,wY,wY]at e;simp only[asf,List.append_nil]at e;have e:=List.append_cancel_left e;simp only[arP]at e;injection e with _ e
 simp only[asf,List.singleton_append]at e;have s:b.data.toList++0::fv (kT r)=w.data.toList++0::t:=e.trans (by
  show(w.data.toList++[0])++t=_;simp)
 obtain⟨y,_⟩:=BY _ _ _ _ q.nz hw.nz s;exact(bz y).symm
theorem Dm{n w b:ByteArray}(hw:bQ w)(q:bQ b)(r:Int):preB (cN n w) (bS n b r)=decide (w=b):=by
 cases h:preB (cN n w) (bS n b r)with
 |true=>rw[EK hw q h];simp
 |false=>
  by_cases e:w=b
  ·subst e;rw[kq]at h;cases h
  ·rw[decide_eq_false e]
theorem BZ(n:ByteArray){x:ByteArray}(h:preB (ji n) x=true):ay aW x:=by
 obtain⟨t,e⟩:=fE.1 h;rw[jO];unfold gh;rw[e];show arz [1] ((3::(n.data.toList++[0])++[])++t)=-1;simp only[arP,arz]
 rfl
theorem vI(n w:ByteArray)(r:Int):ay aW (bS n w r):=BZ n (BX n w r)
theorem JD(n w:ByteArray):preB (ji n) (cN n w)=true:=fE.2 ⟨fv (gu w)++[],by
 rw[kp];show _=(fv (gu n)++[])++_;simp⟩
theorem zw(n w:ByteArray):ay aW (cN n w):=BZ n (JD n w)
theorem zx(n:ByteArray):ay aW (ji n):=BZ n (fE.2 ⟨[],by simp⟩)
theorem Dn(n w:ByteArray):preB (cN n w) aW=false:=by
 cases h:preB (cN n w) aW with
 |false=>rfl
 |true=>exact absurd (zw n w) (Au h)
theorem B_(n:ByteArray):preB (ji n) aW=false:=by
 cases h:preB (ji n) aW with
 |false=>rfl
 |true=>exact absurd (zx n) (Au h)
theorem EL{n w:ByteArray}(hn:bQ n)(hw:bQ w){r s:Int}(y:1<=r/\r<=1073741824)(hs:1<=s/\s<=1073741824):gh (bS n w r) (bS n w s)=if r<s then-1 else if s<r then 1 else 0:=by
 have h:=L4 [gu n,gu w,kT r] [gu n,gu w,kT s] (fun v hv=>by
  rcases arJ.1 hv with e|hv
  ·rw[e];exact hn.aA
  rcases arJ.1 hv with e|hv
  ·rw[e];exact hw.aA
  rw[arx.1 hv];exact qB y) (fun v hv=>by
  rcases arJ.1 hv with e|hv
  ·rw[e];exact hn.aA
  rcases arJ.1 hv with e|hv
  ·rw[e];exact hw.aA
  rw[arx.1 hv];exact qB hs)
 have z:∀x:ByteArray,arz x.data.toList x.data.toList=0:=fun x=>(nM _ _).2 rfl;have B:∀x:ByteArray,qy (gu x) (gu x)=0:=fun x=>by
  unfold qy gu;simp[z]
 have D:qy (kT r) (kT s)=if r<s then-1 else if s<r then 1 else 0:=by
  unfold qy kT;by_cases b:r<s
  ·simp[b]
  ·by_cases q:s<r
   ·simp[b,q]
   ·simp[b,q]
    rfl
 unfold gh bS;rw[yr,yr,h];simp only[GZ,B,D,if_true];by_cases b:r<s
 ·simp[b]
 ·by_cases q:s<r
  ·simp[b,q]
  ·simp[b,q]
theorem wZ{n w:ByteArray}(hn:bQ n)(hw:bQ w){r s:Int}(q:1<=r/\r<=1073741824)(hs:1<=s/\s<=1073741824):ay (bS n w r) (bS n w s)↔r<s:=by
 rw[jO,EL hn hw q hs]
 constructor
 ·intro h;by_cases b:r<s
  ·exact b
  ·rw[if_neg b]at h
   split at h<;>omega
 ·intro h;rw[if_pos h]
end
section
open Go Go.RowKit Go.Shelf Go.Lib
def vJ(w:World)(v:Value)(l:List cM):Prop:=(v=.slice none 0 0/\l=[])\/∃B cap,v=.slice (some ⟨B,0,none⟩) l.length cap/\l.length<=cap/\B<w.heap.size/\∀i (h:i<l.length),w.cell? ⟨B,i*2,none⟩=some (.string l[i].1)/\w.cell? ⟨B,i*2+1,none⟩=some (.string l[i].2)
theorem fS.WA{n:Nat}{w:World}{v:Value}{l:List cM}(h:fS n w v l):vJ w v l:=by
 rcases h.at' with b|⟨B,cap,b,q,_,s,y,_⟩
 ·exact .inl b
 ·exact .inr ⟨B,cap,b,q,s,y⟩
theorem vJ.gr{w w':World}{v:Value}{l:List cM}(h:vJ w v l)(g:Gr w w'):vJ w' v l:=by
 rcases h with b|⟨B,cap,b,s,y,q⟩
 ·exact .inl b
 ·exact .inr ⟨B,cap,b,s,Nat.lt_of_lt_of_le y g.size,fun i hi=>⟨g.keeps (q i hi).1,g.keeps (q i hi).2⟩⟩
theorem vJ.form{w:World}{v:Value}{l:List cM}(h:vJ w v l):∃b c,v=.slice b l.length c:=by
 rcases h with⟨rfl,rfl⟩|⟨B,cap,rfl,_⟩
 ·exact⟨none,0,rfl⟩
 ·exact⟨_,cap,rfl⟩
theorem vJ.take{w:World}{l:List cM}{y:Option Addr}{n c k:Nat}(h:vJ w (.slice y n c) l)(D:k<=l.length):vJ w (.slice y k c) (l.take k):=by
 have b:(l.take k).length=k:=by rw[asl];omega
 rcases h with⟨q,z⟩|⟨B,cap,q,z,G,H⟩
 ·cases q;subst z;have:k=0:=by simpa using D
  subst this;exact .inl ⟨rfl,rfl⟩
 ·cases q;refine .inr ⟨B,c,by rw[b],by rw[b];omega,G,fun i hi=>?_⟩;have s:i<l.length:=by rw[b]at hi;omega
  rw[asg];exact H i s
theorem JE(w:World)(b:Value):
  Calls ary 91 #[.slice none 0 0,b] w (ar w (.int .i64 (-1))):=by
 go_enter Tryz.func91,Tryz.ntmps91;go_wp2_with fail
 go_loop [8] (fun i=>i=.int .i64 0) (fun _=>1)
 case atStart=>rfl
 case round=>
  subst hrel;go_wp2_with fail
  go_ret;exact ar.mk rfl (Gr.refl _)
theorem JF(xs:List cM)(v:Value)(g:Nat)(lb:Array Value)(q:cM->Bool)(w:World)(h:vJ w v xs)(L:xs.length<=1000000)(G:∀args w,(callFunc g args).run ary w=.ok (.enter g args) w)
  (H:∀(W:World) (x:cM),Gr w W->Calls ary g (#[.agg #[.string x.1,.string x.2]]++lb) W (ar W (.bool (q x)))):
  Calls ary 91 #[v,.func (.func g) #[] lb] w (ar w (.int .i64 (asa (fun _ y=>q y) xs default))):=by
 rcases h with⟨rfl,rfl⟩|⟨b,c,rfl,hc,I,J⟩
 ·exact JE w _
 ·refine Calls.mono (AnyQ.slices_IndexFunc Tryz.Az 2 Tryz.isAgg140 Tryz.sizeOf140 pr (fun _=>rfl) q g lb G b 0 xs.length c xs w (fun W x z=>(H W x z).mono fun e w' h=>⟨h.1,Gr.trans z h.2⟩) (arN _) (by omega) I (fun j B i v hi=>?_)) ?_
  ·have D:=J j B;have s:xs[j]! =xs[j]:=by simp[B]
   rw[s]at hi
   match i,hi with
   |0,hi=>
    have:=asn hi;rw[<-this];simpa using D.1
   |1,hi=>
    have:=asn hi;rw[<-this];simpa using D.2
   |i+2,hi=>simp[pr]at hi
  ·rintro e w' ⟨rfl,s⟩;rw[List.take_length];exact ar.mk rfl s
theorem ti(q:cM->Bool):∀(xs:List cM) (i:Nat),(arW (fun _ y=>q y) default xs i=-1/\xs.takeWhile (fun x=>!q x)=xs)\/∃k,k<xs.length/\arW (fun _ y=>q y) default xs i=((i+k:Nat):Int)/\xs.takeWhile (fun x=>!q x)=xs.take k
 |[],i=>.inl ⟨rfl,rfl⟩
 |x::xs,i=>by
  by_cases s:q x=true
  ·exact .inr ⟨0,by simp,by simp[arW,s],by simp[s]⟩
  ·have b:q x=false:=by simpa using s
   rcases ti q xs (i+1)with⟨z,B⟩|⟨k,h,z,B⟩
   ·exact .inl ⟨by simp[arW,b,z],by simp[b,B]⟩
   ·refine .inr ⟨k+1,by simp;omega,?_,by simp[b,B]⟩;simp only[arW,b,z];simp;omega
theorem tj(s x:ByteArray):Lib.hasPrefix x.data.toList s.data.toList=preB s x:=rfl
theorem L6(W:World)(B:Nat)(s:ByteArray)(x:cM)(h:W.cell? ⟨B,0,none⟩=some (.string s)):
  Calls ary 117 #[.agg #[.string x.1,.string x.2],.pointer (some ⟨B,0,none⟩)] W (ar W (.bool (!preB s x.1))):=by
 obtain⟨b,q⟩:=x;have g1:Gr W (W.alloc (.cells #[.string b,.string q] 140)):=(Gr.refl W).alloc _;have y:(W.alloc (.cells #[.string b,.string q] 140)).cell? ⟨W.heap.size,0,none⟩=some (.string b):=by rw[arL];rfl
 have z:=g1.keeps h;go_enter asq,Tryz.ntmps117;go_wp2_with(go_at_call 60;refine(Tryz.strings_HasPrefix _ _ _).mono ?_;rintro e D ⟨rfl,rfl⟩)
 go_ret;exact ar.mk rfl g1
section
variable{w:World}{PB DB M:Nat}{c:Ch}{sv:Head}{t:Int}{d:Dk}
theorem EM(h:bF w PB DB M c sv t d){TP root:Nat}(ht:bc w TP PB root)(hr:root<8)(s:ByteArray){U:Tr}(hl:U.lays c d.pg root)(D:(lA U s).length<=1000000):
  Calls ary 64 #[.pointer (some ⟨TP,0,none⟩),.string s] w fun e w'=>∃v,e=.returned (.tuple #[v,.nilIface])/\vJ w' v ((lA U s).takeWhile fun x=>preB s x.1)/\Gr w w':=by
 obtain⟨b,V⟩:∃b,lA U s=b:=⟨_,rfl⟩;have Y:Gr w (w.alloc (.cells #[.string s] 9)):=(Gr.refl w).alloc _;have Z:=jx w (.string s) 9;have O:=Tp (h.gr Y) (ht.gr Y) hr s hl;rw[V]at O D⊢;have a0:=arA O;have a1:=arA Y;clear O Y h ht hl V;go_enter Tryz.func64,Tryz.ntmps64;go_wp2_with fail
 obtain⟨W1,a2⟩:∃W1,w.alloc (.cells #[.string s] 9)=W1:=⟨_,rfl⟩;rw[a2]at Z a0 a1⊢;clear a2;obtain⟨B0,a4⟩:∃B0,w.heap.size=B0:=⟨_,rfl⟩;rw[a4]at Z⊢;clear a4;refine a0.out.mono ?_;rintro e w2 ⟨v,rfl,hv,Q⟩;have b2:=Q.keeps Z;have hq:=hv.WA;have a5:=a1.out.trans Q;have a6:=arA a5;have HQ:=arA hq;have a7:=JF b v 117 #[.pointer (some ⟨B0,0,none⟩)] (fun x=>!preB s x.1) w2 hq D (enters_of asq (by kernel_rfl) rfl) (fun W x g=>L6 W B0 s x (g.keeps b2));have a8:=arA a7;have q:=ti (fun x=>!preB s x.1) b 0;have q:(asa (fun _ y=>!preB s y.1) b default=-1/\b.takeWhile (fun x=>preB s x.1)=b)\/∃k,k<b.length/\asa (fun _ y=>!preB s y.1) b default=(k:Int)/\b.takeWhile (fun x=>preB s x.1)=b.take k:=by
  rcases q with⟨H,z⟩|⟨k,I,H,z⟩
  ·exact .inl ⟨H,by simpa using z⟩
  ·exact .inr ⟨k,I,by
    have:asa (fun _ y=>!preB s y.1) b default=((0+k:Nat):Int):=H;rw[this];simp,by simpa using z⟩
 obtain⟨ix,J⟩:∃ix,asa (fun _ (y:cM)=>!preB s y.1) b default=ix:=⟨_,rfl⟩;rw[J]at q a8;have b6:=arA q;clear a7 q J a5 hq Q Z b2 D;obtain⟨av,S,b7⟩:=hv.form;clear hv;subst b7;have L:0<b.length->∃B1,av=some ⟨B1,0,none⟩/\b.length<=S:=fun I=>by
  rcases HQ.out with⟨_,e⟩|⟨B,cap,e1,e2,_⟩
  ·rw[e]at I;simp at I
  ·cases e1;exact⟨B,rfl,e2⟩
 have b3:=arA L;clear L;go_wp2_with fail
 refine a8.out.mono ?_;rintro e w3 ⟨rfl,b1⟩;have G:=arA b1;clear b1;rcases b6.out with⟨H,z⟩|⟨k,I,H,z⟩
 ·subst H;have HR:Hid (vJ w3 (.slice av b.length S) (b.takeWhile fun x=>preB s x.1)/\Gr w w3):=arA ⟨by rw[z];exact HQ.out.gr G.out,a6.out.trans G.out⟩;clear z;go_wp2_with fail
  go_ret2;exact⟨_,rfl,HR.out⟩
 ·subst H;obtain⟨B1,rfl,b8⟩:=b3.out (by omega);have c9:(0:Int)<=(k:Int):=by omega
  have d0:(k:Int)<=(S:Int):=by omega
  have d1:k<=S:=by omega
  have HR:Hid (vJ w3 (.slice (some ⟨B1,0,none⟩) k S) (b.takeWhile fun x=>preB s x.1)/\Gr w w3):=arA ⟨by rw[z];exact(HQ.out.gr G.out).take (by omega),a6.out.trans G.out⟩;clear z I b8;go_wp2_with fail
  go_ret2;exact⟨_,rfl,HR.out⟩
end
end
section
open Go Go.RowKit
section
variable{w:World}{PB DB M:Nat}{c:Ch}{sv:Head}{t:Int}{d:Dk}
theorem T_(h:bF w PB DB M c sv t d){root:Nat}(I:root<8):
  Calls ary 36 #[.pointer (some ⟨PB,0,none⟩),.int .i64 (root:Int)] w fun e w'=>∃z,e=.returned (.tuple #[.pointer (some ⟨z,0,none⟩),.nilIface])/\bc w' z PB root/\w.heap.size<=z/\Gr w w':=by
 have y:=GC h.s root I;have D:=arA y;clear y;go_enter Tryz.func36,Tryz.ntmps36;go_wp2_with fail
 refine D.out.mono ?_;rintro e b ⟨rfl,q⟩;have gA:Gr b (b.alloc (.cells #[.pointer (some ⟨PB,0,none⟩),.int .i64 (root:Int)] 167)):=(Gr.refl b).alloc _;have G:(b.alloc (.cells #[.pointer (some ⟨PB,0,none⟩),.int .i64 (root:Int)] 167)).cell? ⟨b.heap.size,0,none⟩=some (.pointer (some ⟨PB,0,none⟩)):=by rw[arL];rfl
 have H:(b.alloc (.cells #[.pointer (some ⟨PB,0,none⟩),.int .i64 (root:Int)] 167)).cell? ⟨b.heap.size,1,none⟩=some (.int .i64 (root:Int)):=by rw[arL];rfl
 have B:=arA (And.intro (bc.mk G H) (And.intro q.size (q.trans gA)));clear gA G H q;go_wp2_with fail
 go_ret2;exact⟨_,rfl,B.out.1,B.out.2.1,B.out.2.2⟩
end
structure fR(w:World)(FP TP PB DB M:Nat)(c:Ch)(sv:Head)(t:Int)(d:Dk):Prop where
 pg:bF w PB DB M c sv t d
 p:w.cell? ⟨FP,0,none⟩=some (.pointer (some ⟨TP,0,none⟩))
 t:bc w TP PB 3
 fn:FP≠PB/\FP≠DB/\FP≠M
 tn:TP≠PB/\TP≠DB/\TP≠M
theorem fR.gr{w w':World}{b TP PB DB M:Nat}{c:Ch}{sv:Head}{t:Int}{d:Dk}(h:fR w b TP PB DB M c sv t d)(g:Gr w w'):fR w' b TP PB DB M c sv t d:=⟨h.pg.gr g,g.keeps h.p,h.t.gr g,h.fn,h.tn⟩
theorem fR.act{w w':World}{b TP PB DB M:Nat}{c q:Ch}{sv:Head}{t:Int}{d:Dk}(h:fR w b TP PB DB M c sv t d)(s:bF w' PB DB M q sv t d)(g:aM PB DB M M w w'):fR w' b TP PB DB M q sv t d:=⟨s,g.keeps h.fn.1 h.fn.2.1 h.fn.2.2 h.p,h.t.pg g h.tn.1 h.tn.2.1 h.tn.2.2,h.fn,h.tn⟩
theorem fR.lt{w:World}{b TP PB DB M:Nat}{c:Ch}{sv:Head}{t:Int}{d:Dk}(h:fR w b TP PB DB M c sv t d):b<w.heap.size/\TP<w.heap.size/\PB<w.heap.size/\DB<w.heap.size/\M<w.heap.size:=⟨ad h.p,ad h.t.p,h.pg.lt.1,h.pg.lt.2.1,h.pg.lt.2.2⟩
theorem NC(TP:Nat)(w:World):Calls ary 37 #[.pointer (some ⟨TP,0,none⟩)] w fun e w'=>∃b,e=.returned (.tuple #[.pointer (some ⟨b,0,none⟩),.nilIface])/\w'.cell? ⟨b,0,none⟩=some (.pointer (some ⟨TP,0,none⟩))/\b=w.heap.size/\b<w'.heap.size/\Gr w w':=by
 have gA:Gr w (w.alloc (.cells #[.pointer (some ⟨TP,0,none⟩)] 137)):=(Gr.refl w).alloc _;have q:(w.alloc (.cells #[.pointer (some ⟨TP,0,none⟩)] 137)).cell? ⟨w.heap.size,0,none⟩=some (.pointer (some ⟨TP,0,none⟩)):=by rw[arL];rfl
 have s:=arA (And.intro q (And.intro (ad q) gA));clear gA q;go_enter Tryz.func37,Tryz.ntmps37;go_wp2_with fail
 go_ret2;exact⟨_,rfl,s.out.1,rfl,s.out.2.1,s.out.2.2⟩
theorem G1(n:Nat)(h:n<=1999):bL n (Ch.new fV).h:=by
 refine⟨(List.range 1999).map fun i=>i+1,?_,by simp;omega,fun k q=>?_⟩
 ·exact arM.2 (List.nodup_range.imp fun{a b} h e=>h (by
   have e:a+1=b+1:=e;omega))
 ·obtain⟨i,hi,rfl⟩:=ar0.1 q;have:=List.mem_range.1 hi;refine⟨by omega,by omega,?_⟩;show decide (i+1=0)=false;simp
theorem TG.empty(ω:Wt):TG ω rF.pg aW 3 (Ch.new fV) none [] aW 0 347 (fun _=>False):=
 ⟨Ch.xR pB,rfl,trivial,rfl,⟨(fun e h=>by cases h),trivial⟩,G1 _ (by omega),rfl,bg _,arN _,fun y b=>by cases b⟩
theorem V9(w:World):Calls ary 8 #[] w fun e w'=>∃D q PB DB M,e=.returned (.pointer (some ⟨D,0,none⟩))/\fR w' D q PB DB M (Ch.new fV) fV 0 rF/\(w.heap.size<=D/\w.heap.size<=q/\w.heap.size<=PB/\w.heap.size<=DB/\w.heap.size<=M)/\Gr w w':=by
 go_enter Tryz.func8,Tryz.ntmps8;go_wp2_with fail
 have I:Gr w (w.alloc (.cells arV 89)):=(Gr.refl w).alloc _;have J:=Cc w;generalize(arV)=Z at*;have L:=arA I;have a0:=arA J;clear I J;generalize O:w.heap.size=DB at*;have a1:=arA O;clear O;refine(NA DB rF fV _ a0.out Nz (by decide)).mono ?_;rintro e w1 ⟨PB,M,rfl,hs,V,Y,Q⟩;rw[tk]at hs;have HB:Hid (w.heap.size<=PB/\w.heap.size<=DB/\w.heap.size<=M):=arA (by have:=L.out.size;have:=a1.out;omega);have S:bF w1 PB DB M (Ch.new fV) fV 0 rF:=⟨hs.mono (by omega),Ch.xR pB⟩;have G:=arA S;have U:=arA (Q.gr L.out (fun k e=>by have e2:k=DB:=e;rw[e2];exact HB.out.2.1));clear hs V Y Q S;go_wp2_with fail
 refine(T_ G.out (root:=3) (by omega)).mono ?_;rintro e w2 ⟨q,rfl,y,H,b⟩;have a2:=G.out.lt;have z:q≠PB/\q≠DB/\q≠M:=by omega
 have s:=G.out.gr b;have a3:=arA (And.intro s (And.intro y (And.intro z (And.intro H b))));clear s y z H b a2;go_wp2_with fail
 refine(NC q w2).mono ?_;rintro e w3 ⟨D,rfl,k0,a4,a5,B⟩;have hR:fR w3 D q PB DB M (Ch.new fV) fV 0 rF/\(w.heap.size<=D/\w.heap.size<=q/\w.heap.size<=PB/\w.heap.size<=DB/\w.heap.size<=M)/\Gr w w3:=by
  obtain⟨s,y,z,H,b⟩:=a3.out;have h1:=s.lt;have h2:=U.out.size;have h3:=b.size;have h4:=HB.out;exact⟨⟨s.gr B,k0,y.gr B,by omega,z⟩,by omega,(U.out.trans b).trans B⟩
 have HR:=arA hR;clear hR k0 a4 a5 B;go_wp2_with fail
 go_ret;exact⟨_,_,_,_,_,rfl,HR.out⟩
theorem RE(w:World):Calls ary 15 #[] w fun e w'=>∃D q PB DB M,e=.returned (.pointer (some ⟨D,0,none⟩))/\fR w' D q PB DB M (Ch.new fV) fV 0 rF/\(w.heap.size<=D/\w.heap.size<=q/\w.heap.size<=PB/\w.heap.size<=DB/\w.heap.size<=M)/\Gr w w':=by
 go_enter Tryz.func15,Tryz.ntmps15;go_wp2_with fail
 have I:Gr w (w.alloc (.cells arV 89)):=(Gr.refl w).alloc _;have J:=Cc w;generalize(arV)=Z at*;have L:=arA I;have a0:=arA J;clear I J;generalize O:w.heap.size=DB at*;have a1:=arA O;clear O;refine(NA DB rF fV _ a0.out Nz (by decide)).mono ?_;rintro e w1 ⟨PB,M,rfl,hs,V,Y,Q⟩;rw[tk]at hs;have HB:Hid (w.heap.size<=PB/\w.heap.size<=DB/\w.heap.size<=M):=arA (by have:=L.out.size;have:=a1.out;omega);have S:bF w1 PB DB M (Ch.new fV) fV 0 rF:=⟨hs.mono (by omega),Ch.xR pB⟩;have G:=arA S;have U:=arA (Q.gr L.out (fun k e=>by have e2:k=DB:=e;rw[e2];exact HB.out.2.1));clear hs V Y Q S;go_wp2_with fail
 refine(T_ G.out (root:=3) (by omega)).mono ?_;rintro e w2 ⟨q,rfl,y,H,b⟩;have a2:=G.out.lt;have z:q≠PB/\q≠DB/\q≠M:=by omega
 have s:=G.out.gr b;have a3:=arA (And.intro s (And.intro y (And.intro z (And.intro H b))));clear s y z H b a2;go_wp2_with fail
 refine(NC q w2).mono ?_;rintro e w3 ⟨D,rfl,k0,a4,a5,B⟩;have hR:fR w3 D q PB DB M (Ch.new fV) fV 0 rF/\(w.heap.size<=D/\w.heap.size<=q/\w.heap.size<=PB/\w.heap.size<=DB/\w.heap.size<=M)/\Gr w w3:=by
  obtain⟨s,y,z,H,b⟩:=a3.out;have h1:=s.lt;have h2:=U.out.size;have h3:=b.size;have h4:=HB.out;exact⟨⟨s.gr B,k0,y.gr B,by omega,z⟩,by omega,(U.out.trans b).trans B⟩
 have HR:=arA hR;clear hR k0 a4 a5 B;go_wp2_with fail
 go_ret;exact⟨_,_,_,_,_,rfl,HR.out⟩
theorem Md{a p:aa}(ha:0<=a.1/\0<=a.2)(b:0<=p.1/\p.1<=8000/\0<=p.2/\p.2<=63):(qd a p).length<=3:=by
 unfold qd
 split
 ·rw[gH _ (by omega)];simp
 ·have:=lT 1 (2*(p.1-a.1)+1).toNat (by omega);rw[arB,gH p.2.toNat (by omega)];simp only[arC,arY];omega
theorem Dp{l:List aa}(h:∀p∈l,0<=p.1/\p.1<=8000/\0<=p.2/\p.2<=63):(bV l).length<=3*l.length:=by
 have hd:∀i,0<=(l.getD i (0,0)).1/\(l.getD i (0,0)).1<=8000/\0<=(l.getD i (0,0)).2/\(l.getD i (0,0)).2<=63:=fun i=>by
  rw[ar1];cases b:l[i]? with
  |none=>simp
  |some p=>exact h p (List.mem_of_getElem? b)
 have main:∀k,(xE l k).length<=3*k:=by
  intro k
  induction k with
  |zero=>simp[xE]
  |succ k s=>
   rw[xF,arB];have q:0<=(dQ l k).1/\0<=(dQ l k).2:=by
    cases k with
    |zero=>exact⟨ar8 _,ar8 _⟩
    |succ k=>exact⟨(hd k).1,(hd k).2.2.1⟩
   have y:=Md q (hd k);omega
 exact main l.length
def rowOf(l:List aa):Int:=(l.headD (0,0)).1
def eO(l:List aa):Int:=(setOf bU (l.map (·.1))).getD ((setOf bU (l.map (·.1))).length/2) 0
def fx(l:List aa)(c:Int):Nat:=l.findIdx fun p=>p.1==c
def pP(l:List aa):Nat->Nat->Nat
 |0,n=>n
 |f+1,n=>if(bV (l.take n)).length<=100 then n else pP l f (fx l (eO (l.take n)))
def mm(l:List aa):Nat:=pP l l.length l.length
def qD:Nat->List aa->List (List aa)
 |0,_=>[]
 |_+1,[]=>[]
 |f+1,p::l=>((p::l).take (mm (p::l)))::qD f ((p::l).drop (mm (p::l)))
def jP(l:List aa):List (List aa):=qD l.length l
def Whole(l:List aa)(n:Nat):Prop:=∀p∈l.take n,∀q∈l.drop n,p.1<q.1
structure fj(l:List aa):Prop where
 up:l.Pairwise fun a b=>ae a b=true
 one:∀c:Int,∀m:List aa,m.Sublist l->(∀p∈m,p.1=c)->(bV m).length<=100
theorem fj.rows{l:List aa}(h:fj l):l.Pairwise fun a b=>a.1<=b.1:=h.up.imp fun{a b} q=>by
 rw[dL]at q;omega
theorem tl{l:List aa}(h:l.Pairwise fun a b=>a.1<=b.1)(c:Int):Whole l (fx l c):=by
 induction l with
 |nil=>intro p s;simp at s
 |cons x l B=>
  obtain⟨I,J⟩:=arS.1 h;unfold fx;rw[ash];by_cases L:x.1=c
  ·rw[show(x.1==c)=true by simpa using L];intro p s;simp at s
  ·rw[show(x.1==c)=false by simpa using L];simp only[cond_false];have B:=B J;intro p s q z;rw[List.take_succ_cons]at s;rw[List.drop_succ_cons]at z;rcases arJ.1 s with e|s
   ·subst e;have G:q∈l:=List.mem_of_mem_drop z;have H:=I q G;rcases Int.lt_or_eq_of_le H with M|M
    ·exact M
    ·exfalso;obtain⟨i,hi,D⟩:=arZ z;rw[List.getElem_drop]at D;rw[arQ]at hi;have y:l.findIdx (fun p=>p.1==c)<l.length:=by omega
     have hc:=List.findIdx_getElem (w:=y);have hc:l[l.findIdx (fun p=>p.1==c)].1=c:=by simpa using hc
     have O:l[l.findIdx (fun p=>p.1==c)].1<=q.1:=by
      rcases arG i with e|e
      ·subst e;rw[<-D];exact ar8 _
      ·rw[<-D];exact(arR.1 J) _ _ y (by omega) (by omega)
     have Q:=I _ (ar5 y);omega
   ·exact B p s q z
theorem JK:∀{l:List aa} {c:Int} (h:0<l.length),fx l c=0->l[0].1=c
 |a::r,c,_,e=>by
  unfold fx at e;rw[ash]at e;cases b:(a.1==c)with
  |true=>simpa using b
  |false=>
   rw[b]at e;simp at e
theorem JL{l:List aa}(h:fj l){n:Nat}(hn:n<=l.length)(s:¬(bV (l.take n)).length<=100):0<fx l (eO (l.take n))/\fx l (eO (l.take n))<n:=by
 have L:(l.take n).Sublist l:=List.take_sublist n l;obtain⟨R,O⟩:∃R,setOf bU ((l.take n).map (·.1))=R:=⟨_,rfl⟩;have U:bH bU R:=by rw[<-O];exact bT qS _
 have y:∀x,x∈R↔x∈(l.take n).map (·.1):=fun x=>by rw[<-O];exact bm bU _ x
 have h2:2<=R.length:=by
  rcases R with _|⟨a,_|⟨b,r⟩⟩
  ·exfalso;have:l.take n=[]:=by
    cases Y:l.take n with
    |nil=>rfl
    |cons p r=>
     have:=(y p.1).2 (by rw[Y];simp);simp at this
   rw[this]at s;exact s (by simp[bV,xE])
  ·exfalso;refine s (h.one a (l.take n) L fun p H=>?_);have:=(y p.1).2 (List.mem_map_of_mem H);simpa using this
  ·simp
 have z:eO (l.take n)=R[R.length/2]'(by omega):=by
  unfold eO;rw[O,ar1,List.getElem?_eq_getElem (by omega)]
  rfl
 have M:eO (l.take n)∈(l.take n).map (·.1):=(y _).1 (by rw[z];exact ar5 _);obtain⟨p,H,B⟩:=ar0.1 M;have S:R[0]'(by omega)<eO (l.take n):=by
  rw[z];have:=(arR.1 U) 0 (R.length/2) (by omega) (by omega) (by omega);simpa[bU]using this
 constructor
 ·rcases arG (fx l (eO (l.take n)))with e|e
  ·exfalso;have D:0<l.length:=by
    cases l with
    |nil=>simp at H
    |cons a r=>simp
   have I:fx l (eO (l.take n))<l.length:=by rw[e];exact D
   have a0:l[0].1=eO (l.take n):=JK D e;obtain⟨q,Z,J⟩:=ar0.1 ((y (R[0]'(by omega))).1 (ar5 _));have V:q∈l:=List.mem_of_mem_take Z;obtain⟨i,hi,G⟩:=arZ V;have h3:l[0].1<=q.1:=by
    rcases arG i with Q|Q
    ·subst Q;rw[<-G];exact ar8 _
    ·rw[<-G];exact(arR.1 h.rows) _ _ D hi Q
   have J:q.1=R[0]'(by omega):=J;omega
  ·exact e
 ·obtain⟨i,hi,G⟩:=arZ H;rw[asl]at hi;rw[asg]at G;have:fx l (eO (l.take n))<=i:=by
   refine Nat.le_of_not_lt fun I=>?_;have:=List.not_of_lt_findIdx (p:=fun p:aa=>p.1==eO (l.take n)) (xs:=l) (i:=i) I;rw[G]at this;have B:p.1=eO (l.take n):=B;simp[B]at this
  omega
theorem EO{l:List aa}(h:fj l)(s:l≠[]):∀f n,n<=f->0<n->n<=l.length->Whole l n->0<pP l f n/\pP l f n<=l.length/\Whole l (pP l f n)/\(bV (l.take (pP l f n))).length<=100
 |0,n,y,b,_,_=>by omega
 |f+1,n,y,b,q,z=>by
  unfold pP
  split
  ·rename_i hs
   exact⟨b,q,z,hs⟩
  ·rename_i hs
   obtain⟨B,D⟩:=JL h q hs;exact EO h s f _ (by omega) B (by omega) (tl h.rows _)
theorem Ce{l:List aa}(h:fj l)(b:l≠[]):0<mm l/\mm l<=l.length/\Whole l (mm l)/\(bV (l.take (mm l))).length<=100:=
 EO h b _ _ (arN _) (List.length_pos_iff.2 b) (arN _) (fun p _ q s=>by simp at s)
theorem fj.drop{l:List aa}(h:fj l)(n:Nat):fj (l.drop n):=⟨h.up.sublist (asi n l),fun c m b hc=>h.one c m (b.trans (asi n l)) hc⟩
structure RJ(PS:List (List aa)):Prop where
 ne:∀l∈PS,l≠[]/\(bV l).length<=100
 apart:PS.Pairwise fun a b=>∀p∈a,∀q∈b,p.1<q.1
theorem JM:∀(f:Nat) (l:List aa),l.length<=f->fj l->(qD f l).flatten=l/\RJ (qD f l)
 |0,l,h,_=>by
  have:l=[]:=arD (by omega);subst this;exact⟨rfl,⟨fun l s=>by simp[qD]at s,by simp[qD]⟩⟩
 |f+1,[],_,_=>⟨rfl,⟨fun l s=>by simp[qD]at s,by simp[qD]⟩⟩
 |f+1,p::l,h,hc=>by
  obtain⟨J,L,D,G⟩:=Ce hc (by simp);obtain⟨y,z⟩:=JM f ((p::l).drop (mm (p::l))) (by rw[arQ];omega) (hc.drop _);refine⟨?_,⟨fun m q=>?_,?_⟩⟩
  ·show((p::l).take (mm (p::l)))++(qD f ((p::l).drop (mm (p::l)))).flatten=p::l;rw[y,List.take_append_drop]
  ·rcases arJ.1 q with e|q
   ·rw[e];refine⟨fun H=>?_,G⟩;rcases List.take_eq_nil_iff.1 H with B|B
    ·omega
    ·cases B
   ·exact z.ne m q
  ·refine arS.2 ⟨fun m q a ha b I=>?_,z.apart⟩;refine D a ha b ?_;rw[<-y];exact List.mem_flatten.2 ⟨m,q,I⟩
theorem xb{l:List aa}(h:fj l):(jP l).flatten=l/\RJ (jP l):=JM _ l (arN _) h
theorem JN:∀(f g:Nat) (l:List aa),l.length<=f->l.length<=g->fj l->qD f l=qD g l
 |0,g,l,h,_,_=>by
  have:l=[]:=arD (by omega);subst this;cases g<;>rfl
 |f+1,g,[],_,_,_=>by cases g<;>rfl
 |f+1,0,p::l,_,h,_=>by simp at h
 |f+1,g+1,p::l,b,q,hc=>by
  obtain⟨s,y,_⟩:=Ce hc (by simp);unfold qD
  congr 1
  exact JN f g _ (by rw[arQ];omega) (by rw[arQ];omega) (hc.drop _)
theorem Pt{l:List aa}(h:fj l)(b:l≠[]):jP l=l.take (mm l)::jP (l.drop (mm l)):=by
 cases l with
 |nil=>exact absurd rfl b
 |cons p r=>
  obtain⟨s,q,_⟩:=Ce h b;show(p::r).take (mm (p::r))::qD r.length ((p::r).drop (mm (p::r)))=_
  congr 1
  refine JN _ _ _ ?_ (arN _) (h.drop _);rw[arC]at q;rw[arQ,arC];omega
