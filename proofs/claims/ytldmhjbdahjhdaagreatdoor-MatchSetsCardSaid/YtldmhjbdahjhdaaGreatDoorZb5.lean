/-
  Part 5 of the proof.
-/
import Derived.Test.YtldmhjbdahjhdaaGreatDoorZb3
import Derived.Shelf.Spec.SlicesInsertGrow
import Derived.Lib.SlicesDelete
open List renaming length_append->afq,length_take->afy,take_append_of_le_length->afz,append_assoc->afB,length_drop->afC,length_cons->afE,length_nil->afF,size_toArray->afG,take_of_length_le->afI,getElem?_take->afM,length_insertIdx_of_le_length->afN,take_append_drop->afP,mem_cons_of_mem->afR,map_nil->afT,sum_nil->afU,mem_cons_self->afW,getElem?_drop->afY,take_take->afZ,take_zero->af7,drop_left->af8,flatMap_cons->agf,take_length->agm,getElem_mem->agn,append_nil->agp,length_map->agq,take_left->ags,map_cons->agv,sum_cons->agw
open Prod renaming snd->afr,fst->afu
open Array renaming getElem?_eq_some_iff->afs,length_toList->afx,getElem?_eq_getElem->af0
open Go.Proofs.Tryz renaming prog->aft,underlying198->afw,ntmps253->af2,func253->af4,ntmps121->agc,func121->agj,ntmps293->agx,ntmps292->agy,func293->agB,func292->agD,func172->agE
open Go.Lib renaming hid->afv,frozen_of_heap->afH,wpList_append_run->af6
open Go.Builtin renaming zeroCells->afA,copy_->afL,clear_->aga,firstCells->age
open Nat renaming min_eq_left->afD,le_refl->afS,zero_add->afV,lt_of_lt_of_le->afX,le_of_eq->af5,min_def->af9,lt_or_ge->agh,zero_le->ago,add_zero->agC
open Option.some renaming inj->afJ
open Go.World renaming cell?_alloc_new->afK,setCells->agu,setRow->agz,shape?->agA
open Go.RowKit renaming intOf->afO
open Go.Departure renaming mixedOrders->afQ
open Go renaming setRow_heap->af1,run_underlying->agr
open Go.Value renaming agg->af3,cells->agb,slice->agG
open Go.Act renaming eval->af_,put->agi
open Bool renaming false_eq_true->agd
open Go.Extern.SlicesOverlaps renaming overlaps->agk
open Go.IntKind renaming wrap_i64->agl,i64->agF
open Go.Proofs renaming step_copy_runI->agt
open Go.World.ownsRow renaming cells->agH
set_option maxRecDepth 100000
set_option maxHeartbeats 100000000
set_option linter.all false
namespace Go.Proofs.YtldmhjbdahjhdaaGreatDoor
section
open Go Go.RowKit
def eZ:ByteArray:=⟨#[]⟩
structure En where
 key:ByteArray
 item:ByteArray
 b_:Nat
def En.sz(e:En)(leaf:Bool):Nat:=if leaf then 2+e.key.size+e.item.size else 3+e.key.size
def cH(leaf:Bool)(l:List En):Nat:=(l.map fun e=>e.sz leaf).sum
def ah(leaf:Bool)(l:List En):Nat:=3+cH leaf l
def En.head(e:En)(leaf:Bool):List UInt8:=if leaf then[e.key.size.toUInt8,e.item.size.toUInt8]else e.key.size.toUInt8::fC (e.b_:Int)
def En.xS(e:En)(leaf:Bool):List UInt8:=e.head leaf++(e.key.data.toList++e.item.data.toList)
def ed(leaf:Bool)(l:List En):List UInt8:=l.flatMap fun e=>e.xS leaf
def Ee(leaf:Bool)(l:List En):List UInt8:=(if leaf then 1 else 2)::(fC (l.length:Int)++(ed leaf l++List.replicate (1024-ah leaf l) 0))
def au(leaf:Bool)(l:List En):ByteArray:=⟨(Ee leaf l).toArray⟩
structure En.ok(e:En)(leaf:Bool):Prop where
 key:e.key.size<=60
 item:e.item.size<=100
 b_:e.b_<2000
 Uz:leaf=true->e.b_=0
 node:leaf=false->e.item=eZ
theorem En.Q5{leaf:Bool}{e:En}(h:e.ok leaf):(e.xS leaf).length=e.sz leaf:=by
 unfold En.xS En.sz En.head;have b:∀s:ByteArray,s.data.toList.length=s.size:=fun s=>by rw[afx];rfl
 cases leaf with
 |true=>
  simp only[if_true,afq,b,afE,afF];omega
 |false=>
  have:e.item.size=0:=by rw[h.node rfl];rfl
  simp only[agd,if_false,afq,b,afE,fC,afF];omega
theorem j_{leaf:Bool}:∀{l:List En},(∀e∈l,e.ok leaf)->(ed leaf l).length=cH leaf l
 |[],_=>rfl
 |e::l,h=>by
  have b:=j_ (l:=l) fun x q=>h x (afR _ q);unfold ed cH at*;rw[agf,afq,b,En.Q5 (h e afW),agv,agw]
theorem OM{leaf:Bool}{l:List En}(h:∀e∈l,e.ok leaf)(b:ah leaf l<=1024):(Ee leaf l).length=1024:=by
 unfold Ee;unfold ah at*;simp only[afE,afq,fC,afF,j_ h,List.length_replicate];omega
theorem dA{leaf:Bool}{l:List En}(h:∀e∈l,e.ok leaf)(b:ah leaf l<=1024):(au leaf l).size=1024:=by
 unfold au;rw[kF,OM h b]
theorem En.Td(e:En)(leaf:Bool):2<=e.sz leaf:=by
 unfold En.sz
 split<;>omega
theorem En.og{leaf:Bool}{e:En}(h:e.ok leaf):e.sz leaf<=162:=by
 have:=h.key;have:=h.item;unfold En.sz
 split<;>omega
theorem kN(leaf:Bool)(a b:List En):cH leaf (a++b)=cH leaf a+cH leaf b:=by
 unfold cH;rw[List.map_append,List.sum_append]
theorem bK(leaf:Bool)(e:En)(b:List En):cH leaf (e::b)=e.sz leaf+cH leaf b:=by
 unfold cH;rw[agv,agw]
theorem dC(leaf:Bool):∀l:List En,2*l.length<=cH leaf l
 |[]=>afS _
 |e::l=>by
  have:=dC leaf l;have:=e.Td leaf;rw[bK,afE];omega
def T:Nat->Type
 |0=>Nat×List (ByteArray×ByteArray)
 |d+1=>Nat×List (ByteArray×T d)
def T.pg:{d:Nat}->T d->Nat
 |0,t=>afu t
 |_+1,t=>afu t
def bE(x:ByteArray×ByteArray):En:=⟨x.1,x.2,0⟩
def aH{d:Nat}(x:ByteArray×T d):En:=⟨x.1,eZ,x.2.pg⟩
def T.aI:{d:Nat}->T d->List En
 |0,t=>(afr t).map bE
 |_+1,t=>(afr t).map aH
def bA:Nat->Bool
 |0=>true
 |_+1=>false
def T.af:{d:Nat}->T d->List Nat
 |0,t=>[afu t]
 |_+1,t=>afu t::(afr t).flatMap fun x=>x.2.af
def T.kv:{d:Nat}->T d->List (ByteArray×ByteArray)
 |0,t=>afr t
 |_+1,t=>(afr t).flatMap fun x=>x.2.kv
def gO(c:Ch)(pg:Nat->ByteArray)(leaf:Bool)(p:Nat)(l:List En):Prop:=(1<=p/\p<2000/\c.h.used p=true)/\eT pg c.F p=au leaf l
def T.lays(c:Ch)(pg:Nat->ByteArray):{d:Nat}->T d->Prop
 |0,t=>gO c pg true (afu t) ((afr t).map bE)
 |_+1,t=>gO c pg false (afu t) ((afr t).map aH)/\∀x∈afr t,x.2.lays c pg
def pM(leaf:Bool)(l:List En):Prop:=l≠[]/\ah leaf l<=1024/\∀e∈l,e.ok leaf
def T.eU:{d:Nat}->T d->Prop
 |0,t=>pM true ((afr t).map bE)
 |_+1,t=>pM false ((afr t).map aH)/\∀x∈afr t,x.2.eU
def gh(a b:ByteArray):Int:=Lib.compareBytes a.data.toList b.data.toList
def xT(lt:Nat->Bool):Nat->Nat->Nat->Nat
 |0,i,_=>i
 |f+1,i,j=>if i<j then(if lt ((i+j)/2)then xT lt f ((i+j)/2+1) j else xT lt f i ((i+j)/2))else i
theorem Gw(lt:Nat->Bool):∀f i j,i<=j->i<=xT lt f i j/\xT lt f i j<=j
 |0,i,j,h=>⟨afS _,h⟩
 |f+1,i,j,h=>by
  unfold xT
  split
  ·split
   ·have:=Gw lt f ((i+j)/2+1) j (by omega);omega
   ·have:=Gw lt f i ((i+j)/2) (by omega);omega
  ·omega
def Gx(b:List ByteArray)(k:ByteArray)(h:Nat):Bool:=decide (gh (b.getD h eZ) k<0)
def ai(b:List ByteArray)(k:ByteArray):Nat:=xT (Gx b k) b.length 0 b.length
def dm(b:List ByteArray)(k:ByteArray):Bool:=decide (ai b k<b.length)&&decide (gh (b.getD (ai b k) eZ) k=0)
theorem jg(b:List ByteArray)(k:ByteArray):ai b k<=b.length:=(Gw _ _ _ _ (ago _)).2
theorem oh{b:List ByteArray}{k:ByteArray}(h:dm b k=true):ai b k<b.length:=by
 unfold dm at h;rw[Bool.and_eq_true,decide_eq_true_eq]at h;exact h.1
def aG(b:List ByteArray)(k:ByteArray):Nat:=if dm b k then ai b k else ai b k-1
theorem nw{b:List ByteArray}(h:b≠[])(k:ByteArray):aG b k<b.length:=by
 have s:0<b.length:=List.length_pos_iff.2 h;have:=jg b k;unfold aG
 split
 ·rename_i q
  exact oh q
 ·omega
def o_(leaf:Bool)(b:Nat):Nat->List En->Nat
 |_,[]=>0
 |acc,e::l=>if acc<b then o_ leaf b (acc+e.sz leaf) l+1 else 0
def cC(leaf:Bool)(l:List En):Nat:=o_ leaf (ah leaf l/2) 0 l
theorem rh(leaf:Bool)(b:Nat):∀(l:List En) (acc:Nat),(∀e∈l,e.sz leaf<=162)->b<=acc+cH leaf l->b<=acc+cH leaf (l.take (o_ leaf b acc l))/\(acc<b->acc+cH leaf (l.take (o_ leaf b acc l))<b+162)/\o_ leaf b acc l<=l.length
 |[],acc,_,h=>by
  unfold o_;simp only[List.take_nil,afF];refine⟨h,fun s=>?_,afS _⟩;simp only[cH,afT,afU]at*;omega
 |e::l,acc,hs,h=>by
  have D:=hs e afW;rw[bK]at h;unfold o_
  split
  ·rename_i B
   obtain⟨G,s,H⟩:=rh leaf b l (acc+e.sz leaf) (fun x y=>hs x (afR _ y)) (by omega);rw[List.take_succ_cons,bK,afE];refine⟨by omega,fun _=>?_,by omega⟩;by_cases hc:acc+e.sz leaf<b
   ·have:=s hc;omega
   ·have z:o_ leaf b (acc+e.sz leaf) l=0:=by
     cases l with
     |nil=>rfl
     |cons a r=>unfold o_;rw[if_neg hc]
    rw[z,af7];simp only[cH,afT,afU];omega
  ·rename_i q
   rw[af7];simp only[cH,afT,afU];exact⟨by omega,fun h=>absurd h q,by simp⟩
theorem ri{leaf:Bool}{l:List En}(hs:∀e∈l,e.ok leaf)(D:1024<ah leaf l)(G:ah leaf l<=1400):
  0<cC leaf l/\cC leaf l<l.length/\ah leaf (l.take (cC leaf l))<=1024/\ah leaf (l.drop (cC leaf l))<=1024:=by
 have H:ah leaf l=3+cH leaf l:=rfl;obtain⟨q,s,y⟩:=rh leaf (ah leaf l/2) l 0 (fun e z=>En.og (hs e z)) (by omega);have B:=s (by omega);have b:cH leaf (l.take (cC leaf l))+cH leaf (l.drop (cC leaf l))=cH leaf l:=by
  rw[<-kN,afP]
 change _<=0+cH leaf (l.take (cC leaf l))at q
 change 0+cH leaf (l.take (cC leaf l))<_ at B
 change cC leaf l<=_ at y;have I:ah leaf (l.take (cC leaf l))=3+cH leaf (l.take (cC leaf l)):=rfl;have J:ah leaf (l.drop (cC leaf l))=3+cH leaf (l.drop (cC leaf l)):=rfl;refine⟨?_,?_,by omega,by omega⟩
 ·rcases Nat.eq_zero_or_pos (cC leaf l)with e|e
  ·rw[e,af7]at q;simp only[cH,afT,afU]at q;omega
  ·exact e
 ·rcases agh (cC leaf l) l.length with e|e
  ·exact e
  ·rw[List.drop_eq_nil_of_le e]at b;simp only[cH,afT,afU]at b;simp only[cH]at*;omega
section
variable{X:Type}
abbrev Q6 (X:Type):Type:=Ch×X×Option (Option (ByteArray×X))
def keyOf(l:List (ByteArray×X)):ByteArray:=((l.head?).map afu).getD eZ
def bI(en:ByteArray×X->En)(leaf:Bool)(c:Ch)(p:Nat)(l old:List (ByteArray×X)):Q6 (Nat×List (ByteArray×X)):=
 if ah leaf (l.map en)<=1024 then(c.write p (au leaf (l.map en)),(p,l),some none)
 else match bZ c.h with
  |none=>(c,(p,old),none)
  |some q=>((c.alloc.write p (au leaf ((l.map en).take (cC leaf (l.map en))))).write q (au leaf ((l.map en).drop (cC leaf (l.map en)))),(p,l.take (cC leaf (l.map en))),some (some (keyOf (l.drop (cC leaf (l.map en))),(q,l.drop (cC leaf (l.map en))))))
def ee(l:List (ByteArray×ByteArray))(key item:ByteArray):List (ByteArray×ByteArray):=
 if dm (l.map afu) key then l.set (ai (l.map afu) key) (key,item)else l.insertIdx (ai (l.map afu) key) (key,item)
end
def cK:{d:Nat}->Ch->T d->ByteArray->ByteArray->Q6 (T d)
 |0,c,t,key,item=>bI bE true c (afu t) (ee (afr t) key item) (afr t)
 |d+1,c,t,key,item=>
  match(afr t)[aG ((afr t).map afu) key]? with
  |none=>(c,t,none)
  |some x=>
   match cK c x.2 key item with
   |(c1,u,none)=>(c1,(afu t,(afr t).set (aG ((afr t).map afu) key) (x.1,u)),none)
   |(c1,u,some none)=>bI (X:=T d) aH false c1 (afu t) ((afr t).set (aG ((afr t).map afu) key) (x.1,u)) ((afr t).set (aG ((afr t).map afu) key) (x.1,u))
   |(c1,u,some (some m))=>bI (X:=T d) aH false c1 (afu t) (((afr t).set (aG ((afr t).map afu) key) (x.1,u)).insertIdx (aG ((afr t).map afu) key+1) m) ((afr t).set (aG ((afr t).map afu) key) (x.1,u))
def ki(key:ByteArray):{d:Nat}->T d->Option ByteArray
 |0,t=>if dm ((afr t).map afu) key then((afr t)[ai ((afr t).map afu) key]?).map afr else none
 |_+1,t=>((afr t)[aG ((afr t).map afu) key]?).bind fun x=>ki key x.2
def vr{X:Type}(k:ByteArray):List (ByteArray×X)->List (ByteArray×X)
 |[]=>[]
 |x::r=>(k,x.2)::r
def lO(k:ByteArray):List En->List En
 |[]=>[]
 |x::r=>⟨k,x.item,x.b_⟩::r
def T.meet:{d:Nat}->T d->ByteArray->T d->T d
 |0,a,_,b=>(afu a,afr a++afr b)
 |_+1,a,k,b=>(afu a,afr a++vr k (afr b))
def cL{d:Nat}(c:Ch)(l:List (ByteArray×T d))(k:Nat)(u:T d):Ch×List (ByteArray×T d):=
 if 341<ah (bA d) u.aI\/l.length<2 then(c,l)
 else match l[k-1]?,l[k-1+1]? with
  |some a,some b=>
   if 1024<ah (bA d) (a.2.meet b.1 b.2).aI then(c,l)
   else((c.write a.2.pg (au (bA d) (a.2.meet b.1 b.2).aI)).free b.2.pg,(l.set (k-1) (a.1,a.2.meet b.1 b.2)).eraseIdx (k-1+1))
  |_,_=>(c,l)
def dh:{d:Nat}->Ch->T d->ByteArray->Ch×T d
 |0,c,t,key=>(c.write (afu t:Nat) (au true (((afr t).eraseIdx (ai ((afr t).map afu) key)).map bE)),(afu t,(afr t).eraseIdx (ai ((afr t).map afu) key)))
 |d+1,c,t,key=>
  match(afr t)[aG ((afr t).map afu) key]? with
  |none=>(c,t)
  |some x=>
   let r:=dh c x.2 key
   let l:=(afr t).set (aG ((afr t).map afu) key) (x.1,r.2)
   let s:Ch×List (ByteArray×T d):=if r.2.aI.isEmpty then(r.1.free (r.2.pg:Nat),l.eraseIdx (aG ((afr t).map afu) key))else cL r.1 l (aG ((afr t).map afu) key) r.2
   (s.1.write (afu t:Nat) (au false (s.2.map aH)),(afu t,s.2))
def hI(s:ByteArray):{d:Nat}->T d->List (ByteArray×ByteArray)
 |0,t=>(afr t).drop (ai ((afr t).map afu) s)
 |d+1,t=>((afr t).drop (aG ((afr t).map afu) s)).flatMap fun(x:ByteArray×T d)=>hI s x.2
abbrev Tr:Type:=Option ((d:Nat)×T d)
def Tr.af:Tr->List Nat
 |none=>[]
 |some t=>t.2.af
def Tr.lays(c:Ch)(pg:Nat->ByteArray)(i:Nat):Tr->Prop
 |none=>c.h.roots i=0
 |some t=>c.h.roots i=(t.2.pg:Nat)/\t.2.lays c pg/\t.2.eU/\t.2.af.Nodup
def Ch.root(c:Ch)(i:Nat)(p:Int):Ch:=⟨c.h.dE i p (c.h.notes i),c.F⟩
def bj(c:Ch)(i:Nat)(t:Tr)(key item:ByteArray):Ch×Tr×Nat:=
 match t with
 |none=>match bZ c.h with
  |none=>(c,none,12)
  |some k=>((c.alloc.write (k:Nat) (au true [⟨key,item,0⟩])).root i (k:Nat),some ⟨0,(k,[(key,item)])⟩,0)
 |some ⟨d,t⟩=>match cK c t key item with
  |( c1,u,none)=>(c1,some ⟨d,u⟩,12)
  |( c1,u,some none)=>(c1,some ⟨d,u⟩,0)
  |( c1,u,some (some m))=>match bZ c1.h with
    |none=>(c1,some ⟨d,u⟩,12)
    |some k=>((c1.alloc.write (k:Nat) (au false [⟨(u.aI.head?.map En.key).getD eZ,eZ,u.pg⟩,⟨m.1,eZ,m.2.pg⟩])).root i (k:Nat),some ⟨d+1,(k,[((u.aI.head?.map En.key).getD eZ,u),m])⟩,0)
def dJ(c:Ch)(i:Nat)(more:Int):Ch×Nat:=if 0<=c.h.notes i+more/\c.h.notes i+more<65536 then(⟨c.h.dE i (c.h.roots i) (c.h.notes i+more),c.F⟩,0)else(c,2)
def Tr.get(t:Tr)(key:ByteArray):Option ByteArray:=match t with|none=>none|some t=>ki key t.2
def mI(t:Tr)(key item:ByteArray):Int:=match t.get key with|none=>2+(key.size:Int)+item.size|some old=>(item.size:Int)-old.size
def jC(c:Ch)(i:Nat)(t:Tr)(key item:ByteArray):Ch×Tr×Nat:=
 if key.size<1\/60<key.size\/100<item.size then(c,t,1)
 else if 30000<c.h.notes i+mI t key item then(c,t,12)
 else match bj c i t key item with
  |(c1,u,0)=>((dJ c1 i (mI t key item)).1,u,(dJ c1 i (mI t key item)).2)
  |r=>r
def bP(c:Ch)(i:Nat)(t:Tr)(key:ByteArray):Ch×Tr:=
 match t with
 |none=>(c,none)
 |some ⟨0,t⟩=>if(dh c t key).2.aI.isEmpty then(((dh c t key).1.free (t.pg:Nat)).root i 0,none)else((dh c t key).1,some ⟨0,(dh c t key).2⟩)
 |some ⟨d+1,t⟩=>
  if(dh c t key).2.aI.isEmpty then(((dh c t key).1.free (t.pg:Nat)).root i 0,none)
  else match afr (dh c t key).2 with
   |[x]=>(((dh c t key).1.free (t.pg:Nat)).root i (T.pg (d:=d) x.2:Nat),some ⟨d,x.2⟩)
   |_=>((dh c t key).1,some ⟨d+1,(dh c t key).2⟩)
def lz(c:Ch)(i:Nat)(t:Tr)(key:ByteArray):Ch×Tr×Nat:=
 match t.get key with
 |none=>(c,t,7)
 |some old=>((dJ (bP c i t key).1 i (-2-(key.size:Int)-old.size)).1,(bP c i t key).2,(dJ (bP c i t key).1 i (-2-(key.size:Int)-old.size)).2)
def lA(t:Tr)(s:ByteArray):List (ByteArray×ByteArray):=match t with
 |none=>[]
 |some t=>hI s t.2
end
section
open Go Go.RowKit Go.Lib
def En.val(e:En):Value:=.agg #[.string e.key,.string e.item,.int .i64 (e.b_:Int)]
def En.cells(e:En):List Value:=[.string e.key,.string e.item,.int .i64 (e.b_:Int)]
def ax(l:List En):List Value:=l.flatMap En.cells
def aT(a0 w:World)(v:Value)(l:List En):Prop:=w.ownsRow a0.heap.size 206 3 v l.length (ax l)
theorem aT.row{a0 w:World}{v:Value}{l:List En}(h:aT a0 w v l):w.ownsRow a0.heap.size 206 3 v l.length (ax l):=h
theorem I3:(aft.info? 206).map (fun i=>(i.zero,i.size,i.bytes))=some (some (.agg #[.string ⟨#[]⟩,.string ⟨#[]⟩,.int .i64 0]),3,40):=by kernel_rfl
theorem fK(a b:List En):ax (a++b)=ax a++ax b:=by
 unfold ax;rw[List.flatMap_append]
theorem cT:∀l:List En,(ax l).length=l.length*3
 |[]=>rfl
 |e::l=>by
  have:=cT l;unfold ax at*;rw[agf,afq,this];simp only[En.cells,afE,afF];omega
theorem En.cells_one(e:En):∀u∈e.cells,u.oneCell'=true:=by
 intro u hu;unfold En.cells at hu;simp only[List.mem_cons,List.not_mem_nil,or_false]at hu;rcases hu with h|h|h<;>(rw[h];rfl)
theorem pd(l:List En):∀u∈ax l,u.oneCell'=true:=by
 intro u hu;unfold ax at hu;obtain⟨e,_,h⟩:=List.mem_flatMap.1 hu;exact e.cells_one u h
theorem sL:∀(l:List En) (i:Nat) (h:i<l.length),(ax l)[i*3]?=some (.string l[i].key)/\(ax l)[i*3+1]?=some (.string l[i].item)/\(ax l)[i*3+2]?=some (.int .i64 (l[i].b_:Int))
 |e::l,0,_=>⟨rfl,rfl,rfl⟩
 |e::l,i+1,h=>by
  obtain⟨b,q,s⟩:=sL l i (by simpa using h);have y:ax (e::l)=.string e.key::.string e.item::.int .i64 (e.b_:Int)::ax l:=rfl;rw[y,show(i+1)*3=i*3+1+1+1 by omega];simp only[List.getElem?_cons_succ,List.getElem_cons_succ,b,q,s,and_self]
def eh(w:World)(b q:Nat)(l:List En):Prop:=
 ∀i (h:i<l.length),w.cell? ⟨b,q+i*3,none⟩=some (.string l[i].key)/\w.cell? ⟨b,q+i*3+1,none⟩=some (.string l[i].item)/\w.cell? ⟨b,q+i*3+2,none⟩=some (.int .i64 (l[i].b_:Int))
theorem eh.gr{w w':World}{b q:Nat}{l:List En}(h:eh w b q l)(g:Gr w w'):eh w' b q l:=fun i hi=>⟨g.keeps (h i hi).1,g.keeps (h i hi).2.1,g.keeps (h i hi).2.2⟩
theorem eh.aC{S:Nat->Prop}{w w':World}{b q:Nat}{l:List En}(h:eh w b q l)(g:ag S w w')(hs:¬S b):eh w' b q l:=fun i hi=>⟨g.keeps hs (h i hi).1,g.keeps hs (h i hi).2.1,g.keeps hs (h i hi).2.2⟩
def oi(w:World)(v:Value)(l:List En):Prop:=(v=.slice none 0 0/\l=[])\/∃b q c,v=.slice (some ⟨b,q,none⟩) l.length c/\b<w.heap.size/\eh w b q l
theorem oi.gr{w w':World}{v:Value}{l:List En}(h:oi w v l)(g:Gr w w'):oi w' v l:=by
 rcases h with h|⟨b,q,c,s,y,z⟩
 ·exact .inl h
 ·exact .inr ⟨b,q,c,s,afX y g.size,z.gr g⟩
theorem oi.form{w:World}{v:Value}{l:List En}(h:oi w v l):∃q c,v=.slice q l.length c:=by
 rcases h with⟨rfl,rfl⟩|⟨b,s,c,rfl,_⟩
 ·exact⟨none,0,rfl⟩
 ·exact⟨_,c,rfl⟩
theorem eh.cells{w:World}{b q:Nat}{l:List En}(h:eh w b q l):∀j u,(ax l)[j]?=some u->w.cell? ((⟨b,q,none⟩:Addr).add j)=some u:=by
 intro j u s;have B:j<l.length*3:=by
  rw[<-cT];exact(List.getElem?_eq_some_iff.1 s).1
 have ha:(⟨b,q,none⟩:Addr).add j=⟨b,q+j,none⟩:=by
  unfold Addr.add
  split<;>simp_all
 have y:=sL l (j/3) (by omega);have z:=h (j/3) (by omega);rw[ha];rcases(show j % 3=0\/j % 3=1\/j % 3=2 by omega)with e|e|e
 ·rw[show j/3*3=j by omega]at y z;rw[y.1]at s;rw[z.1,afJ s]
 ·rw[show j/3*3+1=j by omega]at y;rw[show q+j/3*3+1=q+j by omega]at z;rw[y.2.1]at s;rw[z.2.1,afJ s]
 ·rw[show j/3*3+2=j by omega]at y;rw[show q+j/3*3+2=q+j by omega]at z;rw[y.2.2]at s;rw[z.2.2,afJ s]
theorem aT.at'{a0 w:World}{v:Value}{l:List En}(h:aT a0 w v l):(v=.slice none 0 0/\l=[])\/∃B cap,v=.slice (some ⟨B,0,none⟩) l.length cap/\l.length<=cap/\a0.heap.size<=B/\B<w.heap.size/\eh w B 0 l/\∀o,w.frozen? ⟨B,o,none⟩=false:=by
 have hc:=fun g b=>agH (g:=g) h.row b;rcases h.row.2 with⟨rfl,G⟩|⟨g,cap,I,rfl,H,s,q,_⟩
 ·exact .inl ⟨rfl,List.eq_nil_of_length_eq_zero G⟩
 ·refine .inr ⟨g,cap,rfl,q,H,(afs.1 s).1,fun i hi=>?_,fun o=>afH s _⟩;have b:=sL l i hi;have y:=hc g rfl _ _ b.1;have z:=hc g rfl _ _ b.2.1;have D:=hc g rfl _ _ b.2.2;have e:∀j,(⟨g,0,none⟩:Addr).add j=⟨g,j,none⟩:=by
   intro j;unfold Addr.add;split<;>simp_all
  rw[e]at y z D;rw[afV];exact⟨y,z,D⟩
theorem aT.qn{a0 w:World}{v:Value}{l:List En}(h:aT a0 w v l):oi w v l:=by
 rcases h.at' with h|⟨B,cap,b,y,z,q,s,_⟩
 ·exact .inl h
 ·exact .inr ⟨B,0,cap,b,q,s⟩
theorem aT.form{a0 w:World}{v:Value}{l:List En}(h:aT a0 w v l):∃b c,v=.slice b l.length c:=h.qn.form
theorem aT.back{a0 s w:World}{v:Value}{l:List En}(h:aT s w v l)(g:Gr a0 s):aT a0 w v l:=by
 refine⟨h.row.1,?_⟩;rcases h.row.2 with b|⟨g',cap,q,b,y,z⟩
 ·exact .inl b
 ·exact .inr ⟨g',cap,q,b,Nat.le_trans g.size y,z⟩
theorem aT.gr{a0 w w':World}{v:Value}{l:List En}(h:aT a0 w v l)(g:Gr w w'):aT a0 w' v l:=aL h g
theorem aT.nil(a0 w:World):aT a0 w (.slice none 0 0) []:=World.ownsRow_nil _ _ _ _
theorem aT.aC{S:Nat->Prop}{a0 w w':World}{v:Value}{l:List En}(h:aT a0 w v l)(g:ag S w w')(hs:∀b,v.ownBlock=some b->¬S b):aT a0 w' v l:=by
 refine⟨h.row.1,?_⟩;rcases h.row.2 with q|⟨g',cap,s,q,z,y,B⟩
 ·exact .inl q
 ·exact .inr ⟨g',cap,s,q,z,(g.block (afs.1 y).1 (hs g' (by rw[q];rfl))).trans y,B⟩
theorem Lv{a0 w:World}{v:Value}{l:List En}{e:En}(h:w.ownsRow a0.heap.size 206 3 v (l.length+1) (ax l++e.cells)):aT a0 w v (l++[e]):=by
 unfold aT;rw[afq,fK];have:ax [e]=e.cells:=by unfold ax;simp
 rw[this];exact h
theorem kO{P:Program}(w:World)(M O ty q:TypeId)(K g o y z D:Nat)(a:Addr)(B G m:Nat)(b:Array Value)(t:TypeId)(s:List Value)
  (hu:P.underlying M=some (.slice q)) (hs:(P.info? q).map (·.size)=some K)
  (Q:w.heap[g]?=some (.cells b t (0,0))) (hn:m=Nat.min B z) (hc:s.length=m*K) (V:y=o*K)
  (H:∀j v,s[j]?=some v->w.cell? (a.add j)=some v) (I:y+s.length<=b.size) (S:∀v∈s,v.oneCell'=true):
  (afL #[M,O] ty #[.slice (some ⟨g,y,none⟩) z D,.slice (some a) B G]).run P w=
   .ok (goInt m) (w.setRow g (b.toList.take y++s++b.toList.drop (y+s.length)).toArray):=by
 have U:=run_loadCells_list (P:=P) w a s H;have L:=run_storeCells_at P g y t s 0 b w Q (by simpa using I) S;cases J:P.info? q with
 |none=>simp[J]at hs
 |some i=>
  have hi:i.size=K:=by simpa[J]using hs
  simp[afL,agr hu,Builtin.lenOf,age,sizeOf,typeInfo,J,hi,<-hn,<-hc,U,L]
theorem rj{b:Type}(x:b):∀(l:List b) (i:Nat),i<=l.length->l.insertIdx i x=l.take i++x::l.drop i
 |l,0,_=>by simp
 |[],i+1,h=>by simp at h
 |a::l,i+1,h=>by
  have:=rj x l i (by simpa using h);simp[List.insertIdx_succ_cons,this]
theorem gi:∃b,aft.info? 206=some b/\b.zero=some (.agg #[.string ⟨#[]⟩,.string ⟨#[]⟩,.int .i64 0])/\b.size=3/\b.bytes=40:=by
 have h:=I3;cases q:aft.info? 206 with
 |none=>rw[q]at h;cases h
 |some b=>
  rw[q]at h;have h:=afJ h;simp only[Prod.mk.injEq]at h;exact⟨b,rfl,h.1,h.2.1,h.2.2⟩
theorem pe:(aft.info? 206).map (·.size)=some 3:=by
 obtain⟨s,b,_,q,_⟩:=gi;rw[b];simp[q]
theorem cell_of_heap{w:World}{g:Nat}{b:Array Value}{t:TypeId}(h:w.heap[g]?=some (.cells b t (0,0)))(j:Nat):w.cell? ⟨g,j,none⟩=b[j]?:=by
 simp[World.cell?,h]
theorem lB(g o j:Nat):(⟨g,o,none⟩:Addr).add j=⟨g,o+j,none⟩:=by
 unfold Addr.add
 split<;>simp_all
theorem ju(l:List En)(i:Nat)(hi:i<=l.length):(ax l).take (i*3)=ax (l.take i)/\(ax l).drop (i*3)=ax (l.drop i):=by
 have h:ax l=ax (l.take i)++ax (l.drop i):=by rw[<-fK,afP]
 have b:(ax (l.take i)).length=i*3:=by rw[cT,afy,afD hi]
 constructor
 ·rw[h,<-b,ags]
 ·rw[h,<-b,af8]
structure ph(w:World)(vb:Nat)(e:En):Prop where
 at_:w.heap[vb]?=some (.cells e.cells.toArray 206 (0,0))
theorem ph.cell{w:World}{b:Nat}{e:En}(h:ph w b e)(j:Nat)(v:Value)(q:e.cells[j]?=some v):w.cell? ((⟨b,0,none⟩:Addr).add j)=some v:=by
 rw[lB,cell_of_heap h.at_,afV];simpa using q
theorem mZ{a0 w:World}{D:Array Oper}{rest:List Oper}{o:Oper}{a:Act}{Q:Exit->Act->World->Prop}(G:o.guard=none)(s x:Operand)
  (O:o.op=.call {callee:=.builtin .append,args:=#[s,x],argTypes:=#[198,198]}) (v:Value) (us:List En) (hs:a.eval s=v) (q:aT a0 w v us)
  (vs:Value) (xs:List En) (S:a.eval x=vs) (hi:oi w vs xs) (hl:us.length+xs.length<=1000000) (H:Gr a0 w)
  (h:∀y w',aT a0 w' y (us++xs)->Gr a0 w'->ag (fun b=>v.ownBlock=some b) w w'->(y.ownBlock=v.ownBlock\/y.ownBlock=some w.heap.size)->wpList aft D Q rest (a.put o.dst y) w'):wpList aft D Q (o::rest) a w:=by
 obtain⟨U,z,I,J,L⟩:=gi;rcases hi with⟨rfl,rfl⟩|⟨b,M,c,rfl,hb,V⟩
 ·rw[agp]at h;exact af6 w G s x 198 198 O v (.slice none 0 0) hs S v w (run_append_owned_none w a0.heap.size 198 o.type 206 U 3 afw z v us.length (ax us) q) (h v w q H (ag.refl _ _) (.inl rfl))
 ·refine wpList_append_own_at w G s x 198 O a0.heap.size 206 U (.agg #[.string ⟨#[]⟩,.string ⟨#[]⟩,.int .i64 0]) 3 40 afw z I J L rfl (by decide) v us.length (ax us) hs q ⟨b,M,none⟩ xs.length c (ax xs) S (cT xs) V.cells (pd xs) (by unfold maxLen;omega) (by omega) H.size
   (fun y w' Y B _ Z=>h y w' ?_ (iM H B (aP q)) ⟨B.os,B.tape,B.output,B.size,fun k hk hs=>B.block k hk (fun e=>hs e.symm)⟩ Z)
  unfold aT;rw[afq,fK];exact Y
end
section
open Go Go.RowKit Go.Lib Go.Shelf
def oj(v q:Value)(w:World):Prop:=∀b,q.ownBlock=some b->v.ownBlock=some b\/w.heap.size<=b
theorem sM{a0 w:World}{B n cap:Nat}{b:Array Value}{l:List En}(y:a0.heap.size<=B)(G:B<w.heap.size)(hc:cap<=maxLen)(hn:n<=cap)(q:l.length=n)(s:b.size=cap*3)(z:b.toList.take (n*3)=ax l){old:Array Value}
  (D:w.heap[B]?=some (.cells old 206 (0,0))):aT a0 (w.setRow B b) (.slice (some ⟨B,0,none⟩) n cap) l:=by
 refine⟨cT l,.inr ⟨B,cap,b,by rw[q],y,af1 w B old _ _ _ D,by rw[q];exact hn,hc,s,by rw[q];exact z⟩⟩
theorem kj{w:World}{B:Nat}{q:Array Value}:ag (fun b=>b=B) w (w.setRow B q):=by
 refine⟨rfl,rfl,rfl,by simp[agz],fun k y s=>?_⟩;unfold agz;simp[Array.getElem?_modify,Ne.symm s]
theorem Dh(a0 w:World)(B n cap k Q:Nat)(l:List En)(e:En)(h:aT a0 w (.slice (some ⟨B,0,none⟩) n cap) l)(J:l.length=n)(hk:k<n)(a8:n+1<=cap)(hg:Gr a0 w)(hl:n<=10000)(hv:ph w Q e)(b0:Q≠B):
  Calls aft 253 #[.slice (some ⟨B,0,none⟩) n cap,.int .i64 k,.slice (some ⟨Q,0,none⟩) 1 1] w fun ex w'=>
   ex=.returned (.slice (some ⟨B,0,none⟩) (n+1) cap)/\aT a0 w' (.slice (some ⟨B,0,none⟩) (n+1) cap) (l.insertIdx k e)/\ag (fun b=>b=B) w w':=by
 obtain⟨q,hB,U,hc,H,ht⟩:∃q:Array Value,a0.heap.size<=B/\w.heap[B]?=some (.cells q 206 (0,0))/\cap<=maxLen/\q.size=cap*3/\q.toList.take (n*3)=ax l:=by
  rcases h.row.2 with⟨e1,_⟩|⟨g,cp,q,e1,hb,U,_,hc,H,ht⟩
  ·cases e1
  ·cases e1;exact⟨q,hb,U,hc,H,by rw[J]at ht;exact ht⟩
 have b7:B<w.heap.size:=(afs.1 U).1;have b8:(ax l).length=n*3:=by rw[cT,J]
 obtain⟨ct,cd⟩:=ju l k (by omega);have G:(ax (l.drop k)).length=(n-k)*3:=by rw[cT,afC,J]
 have a7:(ax (l.take k)).length=k*3:=by rw[cT,afy,J,afD (by omega)]
 have a2:∀j v,(ax l)[j]?=some v->q[j]?=some v:=fun j v L=>by
  rw[<-ht,afM]at L
  split at L
  ·simpa using L
  ·cases L
 have c3:cap<=9223372036854775807:=by unfold maxLen at hc;exact hc
 obtain⟨s,z⟩:∃s:Array Value,s=(q.toList.take ((k+1)*3)++ax (l.drop k)++q.toList.drop ((k+1)*3+(ax (l.drop k)).length)).toArray:=⟨_,rfl⟩;have a3:∀ty Z sc,(afL #[198,198] ty #[.slice (some ⟨B,(k+1)*3,none⟩) (n-k) Z,.slice (some ⟨B,k*3,none⟩) (n+1-k) sc]).run aft w.drew=.ok (goInt ((n-k:Nat):Int)) (w.drew.setRow B s):=fun ty Z sc=>by
  rw[z];exact kO w.drew _ _ ty 206 3 B (k+1) ((k+1)*3) (n-k) Z ⟨B,k*3,none⟩ (n+1-k) sc (n-k) q _ (ax (l.drop k)) afw pe U (by simp only[af9];split<;>omega) G rfl
   (fun j v L=>by
    rw[lB];rw[<-cd,afY]at L;rw[cell_of_heap (w:=w.drew) U];exact a2 _ _ L) (by rw[G,H];omega) (pd _)
 have a4:s.size=cap*3:=by
  rw[z];simp only[afG,afq,afy,afC,G,afx,H];omega
 have a5:s.toList=q.toList.take ((k+1)*3)++ax (l.drop k)++q.toList.drop ((k+1)*3+(n-k)*3):=by rw[z,G]
 obtain⟨I,V⟩:∃I,I=w.drew.setRow B s:=⟨_,rfl⟩;have O:I.heap[B]?=some (.cells s 206 (0,0)):=by
  rw[V];exact af1 w.drew B q _ _ _ U
 have Y:ag (fun b=>b=B) w I:=by
  rw[V];exact(ag.drew (S:=fun b=>b=B) w).trans kj
 have b1:ph I Q e:=⟨(Y.block (afs.1 hv.at_).1 b0).trans hv.at_⟩;obtain⟨y,D⟩:∃y:Array Value,y=(s.toList.take (k*3)++e.cells++s.toList.drop (k*3+e.cells.length)).toArray:=⟨_,rfl⟩;have M:e.cells.length=3:=rfl;have b3:∀ty Z,(afL #[198,198] ty #[.slice (some ⟨B,k*3,none⟩) (n+1-k) Z,.slice (some ⟨Q,0,none⟩) 1 1]).run aft I=.ok (goInt 1) (I.setRow B y):=fun ty Z=>by
  rw[D];exact kO I _ _ ty 206 3 B k (k*3) (n+1-k) Z ⟨Q,0,none⟩ 1 1 1 s _ e.cells afw pe O (by simp only[af9];split<;>omega) rfl rfl (fun j v L=>b1.cell j v L) (by rw[M,a4];omega) e.cells_one
 have a6:y.size=cap*3:=by
  rw[D];simp only[afG,afq,afy,afC,M,afx,a4];omega
 have b2:y.toList.take ((n+1)*3)=ax (l.insertIdx k e):=by
  rw[rj e l k (by omega),fK];have e1:ax (e::l.drop k)=e.cells++ax (l.drop k):=rfl;rw[e1,D];show((s.toList.take (k*3)++e.cells++s.toList.drop (k*3+e.cells.length))).take ((n+1)*3)=_;rw[a5,M];have c9:(q.toList.take ((k+1)*3)).length=(k+1)*3:=by rw[afy,afx,H,afD (by omega)]
  have t1:(q.toList.take ((k+1)*3)++ax (l.drop k)++q.toList.drop ((k+1)*3+(n-k)*3)).take (k*3)=ax (l.take k):=by
   rw[afB,afz (by omega),afZ,afD (by omega),<-ct,<-ht,afZ,afD (by omega)]
  have t2:(q.toList.take ((k+1)*3)++ax (l.drop k)++q.toList.drop ((k+1)*3+(n-k)*3)).drop (k*3+3)=ax (l.drop k)++q.toList.drop ((k+1)*3+(n-k)*3):=by
   rw[afB,show k*3+3=(q.toList.take ((k+1)*3)).length by omega,af8]
  rw[t1,t2,afB,<-afB e.cells,<-afB];rw[afz (by simp only[afq,a7,G,M];omega),afI (by simp only[afq,a7,G,M];omega)]
 have b9:∀lb cb,(callFunc 289 #[.slice (some ⟨Q,0,none⟩) 1 1,.slice (some ⟨B,(k+1)*3,none⟩) lb cb]).run aft w=.ok (.value (.bool false)) w:=fun lb cb=>by
  rw[run_callFunc_extern Tryz.func289 (by kernel_rfl) (by kernel_rfl) (by kernel_rfl) (e:=agk #[198,198] #[4]) (by kernel_rfl),
   Lib.run_overlaps_apart w 198 4 206 afw 3 (fun _=>by kernel_rfl) ⟨Q,0,none⟩ ⟨B,(k+1)*3,none⟩ 1 1 lb cb b0 206 206 3 (cap*3) (by unfold agA;rw[hv.at_];rfl) (by unfold agA;simp only;rw[U];simp only[H]) (by omega) (afH hv.at_ _) (afH hv.at_ _)]
  rfl
 have c2:aft.follows afQ=true:=by kernel_rfl
 have d0:¬((k:Int)=(n:Int)):=by omega
 have b6:¬((cap:Int)<(n:Int)+1):=by omega
 have d1:agF.wrap ((k:Int)+1)=(k:Int)+1:=by rw[agl];omega
 have d2:(0:Int)<=(k:Int)+1:=by omega
 have d3:k<=n:=by omega
 have d4:((k:Int)+1).toNat=k+1:=by omega
 have d5:¬(cap=k+1):=by omega
 have d6:(k:Int)<=(n:Int)+1:=by omega
 have d7:¬(cap=k):=by omega
 rw[<-V]at a3;have HR:aT a0 (I.setRow B y) (.slice (some ⟨B,0,none⟩) (n+1) cap) (l.insertIdx k e):=sM hB (afX b7 Y.2.2.2.1) hc a8 (by rw[afN (by omega),J]) a6 b2 O;have HG:ag (fun b=>b=B) w (I.setRow B y):=Y.trans kj;clear b2 a6 a5 z D a2 h ht Y b1 V O U b8 ct cd G a7;go_enter af4,af2;go_wp2_with(simp only[b9])
 go_region_law_o (refine agt rfl _ _ 198 198 rfl _ _ (by simp[af_,agi]) (by simp[af_,agi]) (a3 _ _ _) ?_)
 go_wp2_with(at_builtin;refine wpList_copy_runI _ rfl _ _ 198 198 rfl _ _ rfl rfl (b3 _ _) ?_)
 go_ret;exact⟨rfl,HR,HG⟩
theorem Gy(a0 w:World)(B n cap k vb:Nat)(l:List En)(e:En)(h:aT a0 w (.slice (some ⟨B,0,none⟩) n cap) l)(V:l.length=n)(hk:k<n)(g9:n<=cap)(e4:cap<n+1)(hg:Gr a0 w)(hl:n<=10000)(hv:ph w vb e)(h0:vb≠B):
  Calls aft 253 #[.slice (some ⟨B,0,none⟩) n cap,.int .i64 k,.slice (some ⟨vb,0,none⟩) 1 1] w fun ex w'=>
    ∃G,ex=.returned (.slice (some ⟨w.heap.size,0,none⟩) (n+1) G)/\aT a0 w' (.slice (some ⟨w.heap.size,0,none⟩) (n+1) G) (l.insertIdx k e)/\Gr w w':=by
 obtain⟨D,hB,hh,hc,c1,ht⟩:∃D:Array Value,a0.heap.size<=B/\w.heap[B]?=some (.cells D 206 (0,0))/\cap<=maxLen/\D.size=cap*3/\D.toList.take (n*3)=ax l:=by
  rcases h.row.2 with⟨e1,_⟩|⟨g,cp,D,e1,hb,hh,_,hc,c1,ht⟩
  · cases e1
  · cases e1
    exact⟨D,hb,hh,hc,c1,by rw[V]at ht;exact ht⟩
 obtain⟨i0,d5,d6,d7,c2⟩:=gi;have d8:B<w.heap.size:=(afs.1 hh).1;have d0:vb<w.heap.size:=(afs.1 hv.at_).1;have d9:(ax l).length=n*3:=by rw[cT,V]
 obtain⟨ct,cd⟩:=ju l k (by omega);have Q:(ax (l.drop k)).length=(n-k)*3:=by rw[cT,afC,V]
 have z:(ax (l.take k)).length=k*3:=by rw[cT,afy,V,afD (by omega)]
 have Y:∀j v,(ax l)[j]?=some v->D[j]?=some v:=fun j v H=>by
  rw[<-ht,afM]at H
  split at H
  · simpa using H
  · cases H
 have e9:cap<=9223372036854775807:=by unfold maxLen at hc;exact hc
 have c3:(n:Int)+1-(k:Int)=((n+1-k:Nat):Int):=by omega
 have b3:k+(n+1-k)=n+1:=by omega
 have b0:(age i0.size k (.slice (some ⟨B,0,none⟩) k cap)).run aft w.drew=.ok (ax (l.take k)).toArray w.drew:=by
  rw[d7];exact run_firstCells_some w.drew 3 k ⟨B,0,none⟩ k cap (ax (l.take k)) z (fun j v H=>by
    rw[lB,cell_of_heap (w:=w.drew) hh,afV];refine Y j v ?_;rw[<-ct,afM]at H
    split at H
    · exact H
    · cases H)
 obtain⟨G,hG⟩:∃G,G=grownCap w (n+1) cap 206:=⟨_,rfl⟩;have e0:n+1<=G:=by rw[hG];exact grownCap_ge w _ _ _
 have b4:G<=maxLen:=by rw[hG];exact grownCap_le_maxLen w (n+1) cap 206 (by unfold maxLen;omega)
 have g0:G<=9223372036854775807:=by unfold maxLen at b4;exact b4
 obtain⟨Z,hZ⟩:∃Z:List Value,Z=(afA (af3 #[.string ⟨#[]⟩,.string ⟨#[]⟩,.int .i64 0]).cells (n+1-k)++afA (af3 #[.string ⟨#[]⟩,.string ⟨#[]⟩,.int .i64 0]).cells (G-(n+1))).toList:=⟨_,rfl⟩;have b5:Z.length=(G-k)*3:=by
  rw[hZ];have e1:∀m,(afA (af3 #[.string ⟨#[]⟩,.string ⟨#[]⟩,.int .i64 0]).cells m).size=m*3:=fun m=>by
    rw[size_zeroCells]
    rfl
  rw[afx,Array.size_append,e1,e1];omega
 obtain⟨s,S⟩:∃s:Array Value,s=(ax (l.take k)++Z).toArray:=⟨_,rfl⟩;have c5:s.size=G*3:=by
  rw[S,afG,afq,z,b5];omega
 have c6:∀ty,(Builtin.append_ #[198,3] ty #[.slice (some ⟨B,0,none⟩) k cap,.int .i64 ((n:Int)+1-(k:Int))]).run aft w=
    .ok (.slice (some ⟨w.heap.size,0,none⟩) (n+1) G) (w.drew.alloc (.cells s 206)):=fun ty=>by
  have h:=Lib.run_append_grow_zeros w 198 3 ty 206 i0 _ .i64 .i64 afw Tryz.underlying3 d5 d6 (some ⟨B,0,none⟩) k cap (ax (l.take k)) b0 (n+1-k) (by omega) (by omega) (by omega) (by omega) (by rw[c2];omega) (by rw[c2,b3];exact growslice_fits (by omega) (by omega));rw[b3,<-hG]at h;rw[c3];have e2:s=(ax (l.take k)).toArray++afA (af3 #[.string ⟨#[]⟩,.string ⟨#[]⟩,.int .i64 0]).cells (n+1-k)++afA (af3 #[.string ⟨#[]⟩,.string ⟨#[]⟩,.int .i64 0]).cells (G-(n+1)):=by
    rw[S,hZ];apply Array.ext';simp
  rw[e2];exact h
 obtain⟨M,a5⟩:∃M,M=w.drew.alloc (.cells s 206):=⟨_,rfl⟩;rw[<-a5]at c6;have a6:Gr w M:=by
  rw[a5];exact((Gr.refl w).drew).alloc _
 have a1:M.heap[w.heap.size]?=some (.cells s 206 (0,0)):=by
  rw[a5];exact heap_alloc_new w.drew _
 have c7:ph M vb e:=⟨(a6.block vb d0).trans hv.at_⟩;have b6:M.heap[B]?=some (.cells D 206 (0,0)):=(a6.block B d8).trans hh;have L:e.cells.length=3:=rfl;obtain⟨q,O⟩:∃q:Array Value,q=(s.toList.take (k*3)++e.cells++s.toList.drop (k*3+e.cells.length)).toArray:=⟨_,rfl⟩;have b1:∀ty dc,(afL #[198,198] ty #[.slice (some ⟨w.heap.size,k*3,none⟩) (n+1-k) dc,.slice (some ⟨vb,0,none⟩) 1 1]).run aft M=.ok (goInt 1) (M.setRow w.heap.size q):=fun ty dc=>by
  rw[O];exact kO M _ _ ty 206 3 w.heap.size k (k*3) (n+1-k) dc ⟨vb,0,none⟩ 1 1 1 s _ e.cells afw pe a1 (by simp only[af9];split<;>omega) rfl rfl (fun j v H=>c7.cell j v H) (by rw[L,c5];omega) e.cells_one
 have b7:q.toList=ax (l.take k)++(e.cells++Z.drop 3):=by
  rw[O,S,L];show((ax (l.take k)++Z).take (k*3)++e.cells++(ax (l.take k)++Z).drop (k*3+3))=_;have e3:(ax (l.take k)++Z).drop (k*3+3)=Z.drop 3:=by
    rw[<-z,<-List.drop_drop,af8]
  rw[e3,<-z,ags,afB]
 have a2:q.size=G*3:=by
  rw[<-afx,b7];simp only[afq,afC,z,L,b5];omega
 obtain⟨I,a7⟩:∃I,I=M.setRow w.heap.size q:=⟨_,rfl⟩;rw[<-a7]at b1;have U:I.heap[w.heap.size]?=some (.cells q 206 (0,0)):=by
  rw[a7];exact af1 M w.heap.size s _ _ _ a1
 have b8:ag (fun b=>b=w.heap.size) M I:=by
  rw[a7];exact kj
 have c8:I.heap[B]?=some (.cells D 206 (0,0)):=(b8.block (afs.1 b6).1 (by omega)).trans b6;obtain⟨y,J⟩:∃y:Array Value,y=(q.toList.take ((k+1)*3)++ax (l.drop k)++q.toList.drop ((k+1)*3+(ax (l.drop k)).length)).toArray:=⟨_,rfl⟩;have d1:∀ty dc sc,(afL #[198,198] ty #[.slice (some ⟨w.heap.size,(k+1)*3,none⟩) (n-k) dc,.slice (some ⟨B,k*3,none⟩) (n-k) sc]).run aft I.drew=.ok (goInt ((n-k:Nat):Int)) (I.drew.setRow w.heap.size y):=fun ty dc sc=>by
  rw[J];exact kO I.drew _ _ ty 206 3 w.heap.size (k+1) ((k+1)*3) (n-k) dc ⟨B,k*3,none⟩ (n-k) sc (n-k) q _ (ax (l.drop k)) afw pe U (by simp only[af9];split<;>omega) Q rfl
    (fun j v H=>by
      rw[lB];rw[<-cd,afY]at H;rw[cell_of_heap (w:=I.drew) c8];exact Y _ _ H) (by rw[Q,a2];omega) (pd _)
 have b2:y.size=G*3:=by
  rw[J];simp only[afG,afq,afy,afC,Q,afx,a2];omega
 have c9:y.toList.take ((n+1)*3)=ax (l.insertIdx k e):=by
  rw[rj e l k (by omega),fK];have e1:ax (e::l.drop k)=e.cells++ax (l.drop k):=rfl;rw[e1,J];show(q.toList.take ((k+1)*3)++ax (l.drop k)++q.toList.drop ((k+1)*3+(ax (l.drop k)).length)).take ((n+1)*3)=_;have t1:q.toList.take ((k+1)*3)=ax (l.take k)++e.cells:=by
    rw[b7,<-afB,afz (by simp only[afq,z,L];omega),afI (by simp only[afq,z,L];omega)]
  rw[t1,afz (by simp only[afq,z,Q,L];omega),afI (by simp only[afq,z,Q,L];omega),afB]
 have e8:aft.follows afQ=true:=by kernel_rfl
 have h1:¬((k:Int)=(n:Int)):=by omega
 have d4:(cap:Int)<(n:Int)+1:=by omega
 have h2:agF.wrap ((k:Int)+1)=(k:Int)+1:=by rw[agl];omega
 have h3:(0:Int)<=(k:Int)+1:=by omega
 have h4:k<=n:=by omega
 have h5:((k:Int)+1).toNat=k+1:=by omega
 have h6:¬(G=k):=by omega
 have g3:¬(G=k+1):=by omega
 have h7:¬(cap=k):=by omega
 have h8:(k:Int)<=(n:Int):=by omega
 have h9:(k:Int)<=(n:Int)+1:=by omega
 have HG:Gr w (I.drew.setRow w.heap.size y):=(kj (w:=I.drew)).gr ((b8.gr a6 (fun b hb=>af5 hb.symm)).drew) (fun b hb=>af5 hb.symm);have HR:aT a0 (I.drew.setRow w.heap.size y) (.slice (some ⟨w.heap.size,0,none⟩) (n+1) G) (l.insertIdx k e):=sM hg.size (by show w.heap.size<I.drew.heap.size;have:=(afs.1 U).1;exact this) b4 e0 (by rw[afN (by omega),V]) b2 c9 (w:=I.drew) U;clear c9 b2 a2 b7 O J Y h ht a6 c7 a5 a1 hh d9 ct cd Q z c5 S hZ b5 b0 hG c3 b3 b6 c8 a7 U b8;go_enter af4,af2;go_wp2_with(first
  |( at_builtin;refine af6 _ rfl _ _ _ _ rfl _ _ rfl rfl _ _ (c6 _) ?_)
  |( at_builtin;refine wpList_copy_runI _ rfl _ _ 198 198 rfl _ _ rfl rfl (b1 _ _) ?_))
 go_region_law_o (refine agt rfl _ _ 198 198 rfl _ _ (by simp[af_,agi]) (by simp[af_,agi]) (d1 _ _ _) ?_)
 go_wp2_with fail
 go_ret;exact⟨G,rfl,HR,HG⟩
theorem ph.qn{w:World}{b:Nat}{e:En}(h:ph w b e):oi w (.slice (some ⟨b,0,none⟩) 1 1) [e]:=by
 refine .inr ⟨b,0,1,rfl,(afs.1 h.at_).1,fun i hi=>?_⟩;have q:i=0:=by simpa using hi
 subst q;rw[cell_of_heap h.at_,cell_of_heap h.at_,cell_of_heap h.at_];exact⟨rfl,rfl,rfl⟩
theorem Ef{v q:Value}{w:World}(h:q.ownBlock=v.ownBlock\/q.ownBlock=some w.heap.size):oj v q w:=fun b s=>by
 rcases h with y|y
 ·exact .inl (y.symm.trans s)
 ·rw[y]at s;exact .inr (af5 (afJ s))
theorem Lw{a0 w w':World}{v:Value}{l:List En}(h:aT a0 w v l)(q:Gr a0 w)(g:ag (fun b=>v.ownBlock=some b) w w'):Gr a0 w':=g.gr q fun _ s=>aP h _ s
theorem I4(a0 w:World)(v:Value)(l:List En)(L:Nat)(e:En)(h:aT a0 w v l)(G:Gr a0 w)(Y:l.length<=10000)(hv:ph w L e):
  Calls aft 253 #[v,.int .i64 l.length,.slice (some ⟨L,0,none⟩) 1 1] w fun ex w'=>
   ∃I,ex=.returned I/\aT a0 w' I (l++[e])/\Gr a0 w'/\ag (fun b=>v.ownBlock=some b) w w'/\oj v I w:=by
 have H:=afv h;have M:=afv G;have O:=afv hv.qn;have D:l.length+[e].length<=1000000:=by simp;omega
 rcases h.at' with⟨rfl,rfl⟩|⟨B,cap,rfl,Q,_⟩
 ·clear h G hv;go_enter af4,af2;go_wp2_with(at_builtin;refine mZ (a0:=a0) rfl _ _ rfl _ [] rfl H.out _ [e] rfl O.out D M.out ?_;intro S U q s y z)
  all_goals
   go_ret;exact⟨_,rfl,q,s,y,Ef z⟩
 ·have hc:l.length<=cap:=Q;have Z:cap<=9223372036854775807:=by
   rcases h.row.2 with⟨J,_⟩|⟨g,cp,V,J,_,_,_,hc,_⟩
   ·cases J
   ·cases J;unfold maxLen at hc;exact hc
  clear h G hv;go_enter af4,af2;go_wp2_with(at_builtin;refine mZ (a0:=a0) rfl _ _ rfl _ l rfl H.out _ [e] rfl O.out D M.out ?_;intro S U q s y z)
  all_goals
   go_ret;exact⟨_,rfl,q,s,y,Ef z⟩
theorem Eg(a0 w:World)(v:Value)(l:List En)(k y:Nat)(e:En)(h:aT a0 w v l)(Y:k<=l.length)(z:Gr a0 w)(J:l.length<=10000)(hv:ph w y e)(Q:v.ownBlock≠some y):
  Calls aft 253 #[v,.int .i64 k,.slice (some ⟨y,0,none⟩) 1 1] w fun ex w'=>
   ∃L,ex=.returned L/\aT a0 w' L (l.insertIdx k e)/\Gr a0 w'/\ag (fun b=>v.ownBlock=some b) w w'/\oj v L w:=by
 rcases agh k l.length with s|V
 ·rcases h.at' with⟨_,M⟩|⟨B,cap,rfl,U,Z,h4,_⟩
  ·rw[M]at s;exact absurd s (by simp)
  ·have I:y≠B:=fun D=>Q (by rw[D];rfl);rcases agh cap (l.length+1)with hc|hc
   ·refine(Gy a0 w B l.length cap k y l e h rfl s U hc z J hv I).mono ?_;rintro ex w' ⟨G,rfl,O,q⟩;exact⟨_,rfl,O,z.trans q,ag.ak q,fun b H=>.inr (af5 (afJ H))⟩
   ·refine(Dh a0 w B l.length cap k y l e h rfl s hc z J hv I).mono ?_;rintro ex w' ⟨rfl,O,q⟩;have S:ag (fun b=>(agG (some ⟨B,0,none⟩) l.length cap).ownBlock=some b) w w':=⟨q.1,q.2.1,q.2.2.1,q.2.2.2.1,fun b H hn=>q.2.2.2.2 b H fun D=>hn (by rw[D];rfl)⟩;exact⟨_,rfl,O,Lw h z S,S,fun b H=>.inl H⟩
 ·have D:k=l.length:=by omega
  subst D;have M:l.insertIdx l.length e=l++[e]:=by
   rw[rj e l l.length (afS _),agm,List.drop_length]
  rw[M];exact I4 a0 w v l y e h z J hv
theorem Q7(l:List En)(v:Value)(w:World)(h:oi w v l)(Y:l.length<=10000):
  Calls aft 293 #[v] w fun ex w'=>∃I,ex=.returned I/\aT w w' I l/\Gr w w':=by
 have H:=afv h;have Q:∀(w:World) (a:Option Addr) (n c z B:Nat),(binOp .eql 198 (.slice a n c) (.slice none z B)).run aft w=.ok (.bool a.isNone) w:=fun w a n c z B=>Lib.run_eql_slice_nil w _ _ a n c z B afw;rcases h with⟨rfl,rfl⟩|⟨b,S,c,rfl,L,M⟩
 ·go_enter agB,agx;go_wp2_with fail
  go_ret;exact⟨_,rfl,aT.nil _ _,Gr.refl _⟩
 ·have q:Gr w (w.alloc (.cells #[] 206)):=(Gr.refl w).alloc _;have J:aT w (w.alloc (.cells #[] 206)) (.slice (some ⟨w.heap.size,0,none⟩) 0 0) []:=World.ownsRow_lit w #[] 0 (afS _) (by decide) rfl;have O:=afv J;have s:=afv q;have D:([]:List En).length+l.length<=1000000:=by simp;omega
  clear J q M L;go_enter agB,agx;go_wp2_with(at_builtin;refine mZ (a0:=w) rfl _ _ rfl _ [] rfl O.out _ l rfl (H.out.gr s.out) D s.out ?_;intro Z w3 y G U V)
  go_ret;exact⟨_,rfl,by rw[List.nil_append]at y;exact y,G⟩
theorem lP{t:TypeId}(B:Nat):∀(vs:List Value) (o:Nat) (b:Array Value) (w:World),w.heap[B]?=some (.cells b t (0,0))->o+vs.length<=b.size->w.setCells B o vs=w.setRow B (b.toList.take o++vs++b.toList.drop (o+vs.length)).toArray
 |[],o,b,w,q,_=>by
  simp only[agu,agp,afF,agC,afP,Array.toArray_toList];rw[setRow_self w B b t (0,0) q]
 |v::r,o,b,w,q,s=>by
  rw[agu,setCell_eq_setRow w B o b t (0,0) v q];have y:=lP B r (o+1) (b.setIfInBounds o v) (w.setRow B (b.setIfInBounds o v)) (af1 w B b _ t _ q) (by simp at s⊢;omega);rw[y,setRow_setRow]
  congr 2
  have e:=list_seg_step b.toList o v r (by simp at s⊢;omega);simpa[Array.toList_setIfInBounds,Nat.add_assoc]using e
def hJ:List Value:=[.string ⟨#[]⟩,.string ⟨#[]⟩,.int .i64 0]
theorem xU(w:World)(ty:TypeId)(b o c:Nat)(hc:∀j,j<3->(w.cell? ⟨b,o+j,none⟩).isSome=true)(hf:∀j,j<3->w.frozen? ⟨b,o+j,none⟩=false):
  (aga #[198] ty #[.slice (some ⟨b,o,none⟩) 1 c]).run aft w=.ok (.tuple #[]) (w.setCells b o hJ):=by
 have hv:∀w,(zeroValue 206).run aft w=.ok (.agg #[.string ⟨#[]⟩,.string ⟨#[]⟩,.int .i64 0]) w:=Tryz.zeroValue206;have y:(afA (af3 #[.string ⟨#[]⟩,.string ⟨#[]⟩,.int .i64 0]).cells 1).toList=hJ:=by
  apply List.ext_getElem
  ·simp[afA,agb,hJ]
  ·intro i B z;have hi:i<3:=by simpa[hJ]using z
   match i,hi with
   |0,_=>simp[afA,agb,hJ]
   |1,_=>simp[afA,agb,hJ]
   |2,_=>simp[afA,agb,hJ]
 have q:=run_storeCells_cells (P:=aft) b o hJ 0 w (by simpa[hJ]using hc) (by simpa[hJ]using hf) (by intro v s;simp[hJ]at s;rcases s with h|h<;>(rw[h];rfl));simp only[agC]at q;simp[aga,agr afw,hv,y,q]
theorem wI{b:Type}:∀(l:List b) (i:Nat),i<l.length->l.eraseIdx i=l.take i++l.drop (i+1)
 |[],i,h=>by simp at h
 |a::l,0,_=>by simp
 |a::l,i+1,h=>by
  have:=wI l i (by simpa using h);simp[this]
theorem ON(a0 w:World)(v:Value)(l:List En)(k:Nat)(h:aT a0 w v l)(hk:k<l.length)(hg:Gr a0 w)(hl:l.length<=10000):
  Calls aft 255 #[v,.int .i64 k,.int .i64 ((k:Int)+1)] w fun ex w'=>
   ∃v',ex=.returned v'/\aT a0 w' v' (l.eraseIdx k)/\Gr a0 w'/\ag (fun b=>v.ownBlock=some b) w w'/\v'.ownBlock=v.ownBlock:=by
 rcases h.row.2 with⟨_,e2⟩|⟨B,cap,H,rfl,hB,V,a6,hc,a7,ht⟩
 ·omega
 obtain⟨n,M⟩:∃n,l.length=n:=⟨_,rfl⟩;rw[M]at hk a6 ht hl⊢;obtain⟨i0,b7,e7,b8,e8⟩:=gi;have b9:B<w.heap.size:=(afs.1 V).1;have c0:(ax l).length=n*3:=by rw[cT,M]
 obtain⟨ct,cd⟩:=ju l k (by omega);obtain⟨c1,a9⟩:=ju l (k+1) (by omega);have G:(ax (l.drop (k+1))).length=(n-(k+1))*3:=by rw[cT,afC,M]
 have a3:(ax (l.take k)).length=k*3:=by rw[cT,afy,M,afD (by omega)]
 have Z:∀j v,(ax l)[j]?=some v->H[j]?=some v:=fun j v hj=>by
  rw[<-ht,afM]at hj
  split at hj
  ·simpa using hj
  ·cases hj
 have c9:cap<=9223372036854775807:=by unfold maxLen at hc;exact hc
 obtain⟨q,z⟩:∃q,q=ax (l.drop (k+1)):=⟨_,rfl⟩;rw[<-z]at G;obtain⟨A,hA,b3⟩:∃A:Addr,(if cap=k+1 then some (⟨B,0,none⟩:Addr)else some ⟨B,(k+1)*3,none⟩)=some A/\Hid (∀t u,q[t]?=some u->w.drew.cell? (A.add t)=some u):=by
  by_cases h:cap=k+1
  ·refine⟨⟨B,0,none⟩,by simp[h],fun t u hu=>?_⟩;have h0:q.length=0:=by rw[G];omega
   rw[List.length_eq_zero_iff.1 h0]at hu;simp at hu
  ·refine⟨⟨B,(k+1)*3,none⟩,by simp[h],fun t u hu=>?_⟩;rw[lB,cell_of_heap (w:=w.drew) V];refine Z _ _ ?_;rw[z,<-a9,afY]at hu;exact hu
 have s1:Hid (q.length=(n-(k+1))*3):=G;have s2:Hid (∀u∈q,u.oneCell'=true):=by rw[z];exact pd _
 have s3:Hid (∀t,t<q.length->(w.drew.cell? ⟨B,0+k*3+t,none⟩).isSome=true/\w.drew.frozen? ⟨B,0+k*3+t,none⟩=false):=by
  intro t c2;rw[G]at c2;rw[cell_of_heap (w:=w.drew) V,afV];exact⟨by rw[af0 (by omega)];rfl,afH (w:=w.drew) V _⟩
 obtain⟨D,a4⟩:∃D,D=w.drew.setCells B (0+k*3) q:=⟨_,rfl⟩;obtain⟨s,I⟩:∃s:Array Value,s=(H.toList.take (k*3)++q++H.toList.drop (k*3+q.length)).toArray:=⟨_,rfl⟩;have O:D=w.drew.setRow B s:=by
  rw[a4,I,afV];exact lP B q (k*3) H w.drew V (by rw[G,a7];omega)
 have Q:s.size=cap*3:=by
  rw[I];simp only[afG,afq,afy,afC,G,afx,a7];omega
 have L:D.heap[B]?=some (.cells s 206 (0,0)):=by
  rw[O];exact af1 w.drew B H _ _ _ V
 have d0:∀ty c,(aga #[198] ty #[.slice (some ⟨B,(n-1)*3,none⟩) 1 c]).run aft D=.ok (.tuple #[]) (D.setCells B ((n-1)*3) hJ):=fun ty c=>
  xU D ty B ((n-1)*3) c (fun j hj=>by rw[cell_of_heap L,af0 (by omega)];rfl) (fun j hj=>afH L _)
 obtain⟨y,J⟩:∃y:Array Value,y=(s.toList.take ((n-1)*3)++hJ++s.toList.drop ((n-1)*3+hJ.length)).toArray:=⟨_,rfl⟩;have b0:D.setCells B ((n-1)*3) hJ=D.setRow B y:=by
  rw[J];exact lP B hJ ((n-1)*3) s D L (by simp[hJ];omega)
 have a2:y.size=cap*3:=by
  rw[J];simp only[afG,afq,afy,afC,afx,Q,hJ,afE,afF];omega
 have b1:y.toList.take ((n-1)*3)=ax (l.eraseIdx k):=by
  rw[wI l k (by omega),fK,J,<-z];show(s.toList.take ((n-1)*3)++hJ++s.toList.drop ((n-1)*3+hJ.length)).take ((n-1)*3)=_;have t0:(s.toList.take ((n-1)*3)).length=(n-1)*3:=by rw[afy,afx,Q,afD (by omega)]
  rw[afB,afz (by omega),afZ,Nat.min_self,I];show(H.toList.take (k*3)++q++H.toList.drop (k*3+q.length)).take ((n-1)*3)=_;have t1:H.toList.take (k*3)=ax (l.take k):=by
   rw[<-ct,<-ht,afZ,afD (by omega)]
  rw[t1,afz (by simp only[afq,a3,G];omega),afI (by simp only[afq,a3,G];omega)]
 have a5:ag (fun b=>b=B) w D:=by
  rw[O];exact(ag.drew (S:=fun b=>b=B) w).trans kj
 have HR:aT a0 (D.setRow B y) (.slice (some ⟨B,0,none⟩) (n-1) cap) (l.eraseIdx k):=sM hB (afX b9 a5.2.2.2.1) hc (by omega) (by rw[List.length_eraseIdx_of_lt (by omega),M]) a2 b1 L;have Y:ag (fun b=>b=B) w (D.setRow B y):=a5.trans kj;have HX:ag (fun b=>(agG (some ⟨B,0,none⟩) n cap).ownBlock=some b) w (D.setRow B y):=⟨Y.1,Y.2.1,Y.2.2.1,Y.2.2.2.1,fun b hb hn=>Y.2.2.2.2 b hb fun e1=>hn (by rw[e1];rfl)⟩;have b2:Gr a0 (D.setRow B y):=Y.gr hg fun b hb=>by rw[hb];exact hB
 have c8:aft.follows afQ=true:=by kernel_rfl
 have hW:Hid (D=w.drew.setCells B (0+k*3) q):=a4;have c3:=afv HR;have c4:=afv HX;have b4:=afv b2;have U:=afv b0;have e9:¬((k:Int)=(k:Int)+1):=by omega
 have g0:k<=cap:=by omega
 have d1:k+1<=cap:=by omega
 have g3:((k:Int)+1).toNat=k+1:=by omega
 have g4:(0:Int)<=(k:Int)+1:=by omega
 have g5:(k:Int)+1<=(n:Int):=by omega
 have d2:k+1<=n:=by omega
 have g6:n<=cap:=a6;have g7:k+(n-(k+1))=n-1:=by omega
 have g8:n-(n-1)=1:=by omega
 have g9:¬(cap=n-1):=by omega
 clear b1 a2 Q I J Z h ht a5 a4 O L V c0 ct cd c1 a9 G a3 z HR HX Y b2 b0;go_enter Tryz.func255,Tryz.ntmps255;go_wp2_with fail
 go_region_law_o (refine step_append_room rfl (.tmp 22) (.tmp 25) 198 rfl 206 i0 3 afw b7 b8 B 0 k cap (by simp[af_,agi]) A (n-(k+1)) (cap-(k+1)) q (by simp[af_,agi]) s1.out b3.out s2.out (by omega) s3.out ?_;rw[<-hW.out])
 go_wp2_with fail
 go_ret;exact⟨_,rfl,by rw[U.out];exact c3.out,by rw[U.out];exact b4.out,by rw[U.out];exact c4.out,rfl⟩
end
section
open Go Go.RowKit Go.Lib
def aU(p:Nat)(leaf:Bool)(s:Value):Value:=.agg #[.int .i64 (p:Int),.bool leaf,s]
theorem Ng(p:Nat)(leaf:Bool)(s:Value)(e:En)(h:e.ok leaf)(w:World):Calls aft 292 #[aU p leaf s,e.val] w (ar w (.int .i64 (e.sz leaf:Nat))):=by
 have G:=h.key;have hi:=h.item;obtain⟨y,q,z⟩:=e;simp only at G hi;unfold aU En.val En.sz;obtain⟨a,ha⟩:∃a,y.size=a:=⟨_,rfl⟩;obtain⟨b,B⟩:∃b,q.size=b:=⟨_,rfl⟩;have D:Gr w ((w.alloc (.cells #[.int .i64 (p:Int),.bool leaf,s] 200)).alloc (.cells #[.string y,.string q,.int .i64 (z:Int)] 206)):=((Gr.refl w).alloc _).alloc _;simp only[ha,B];cases leaf with
 |true=>
  go_enter agD,agy;go_wp2_with fail
  go_ret;refine ar.mk ?_ D;simp only[ha,B];go_num
 |false=>
  go_enter agD,agy;go_wp2_with fail
  go_ret;refine ar.mk ?_ D;simp only[ha];go_num
theorem rT(leaf:Bool)(l:List En)(i:Nat)(h:i<l.length):cH leaf (l.take (i+1))=cH leaf (l.take i)+(l[i]).sz leaf:=by
 rw[List.take_succ_eq_append_getElem h,kN];simp[cH]
theorem qo(leaf:Bool):∀l:List En,(∀e∈l,e.ok leaf)->cH leaf l<=162*l.length
 |[],_=>by simp[cH]
 |e::l,h=>by
  have q:=qo leaf l fun x b=>h x (afR _ b);have s:=En.og (h e afW);rw[bK,afE];omega
theorem sN(p:Nat)(leaf:Bool)(s:Value)(l:List En)(w:World)(h:oi w s l)(O:∀e∈l,e.ok leaf)(hl:l.length<=10000):Calls aft 291 #[aU p leaf s] w (ar w (.int .i64 (ah leaf l:Nat))):=by
 have H:=afv h;have D:=afv O;obtain⟨J,L,rfl⟩:=h.form;unfold aU;have Q:Gr w (w.alloc (.cells #[.int .i64 (p:Int),.bool leaf,.slice J l.length L] 200)):=(Gr.refl w).alloc _;have c0:∀w',Gr (w.alloc (.cells #[.int .i64 (p:Int),.bool leaf,.slice J l.length L] 200)) w'->w'.cell? ⟨w.heap.size,0,none⟩=some (.int .i64 (p:Int))/\w'.cell? ⟨w.heap.size,1,none⟩=some (.bool leaf)/\w'.cell? ⟨w.heap.size,2,none⟩=some (.slice J l.length L):=fun w' g=>⟨g.keeps (by rw[afK];rfl),g.keeps (by rw[afK];rfl),g.keeps (by rw[afK];rfl)⟩;have C0:=afv c0;have G:=afv Q;clear h O c0 Q;go_enter Tryz.func291,Tryz.ntmps291;go_wp2_with fail
 obtain⟨NB,U⟩:∃NB,w.heap.size=NB:=⟨_,rfl⟩;obtain⟨W0,V⟩:∃W0,w.alloc (.cells #[.int .i64 (p:Int),.bool leaf,.slice J l.length L] 200)=W0:=⟨_,rfl⟩;rw[U]at C0⊢;rw[V]at C0 G⊢;clear U V;go_loopw [3,9] (fun kv iv w'=>∃i:Nat,i<=l.length/\iv=.int .i64 i/\kv=.int .i64 (ah leaf (l.take i):Nat)/\Gr W0 w') (fun _ iv _=>l.length-(afO iv).toNat)
 case atStart=>exact⟨0,ago _,rfl,rfl,Gr.refl _⟩
 case round=>
  obtain⟨i,hi,rfl,rfl,M⟩:=hrel;obtain⟨n0,n1,n2⟩:=C0.out _ M;have HG:=afv M;by_cases q:i<l.length
  ·obtain⟨b,y,rfl,hb,Y⟩:∃b y,J=some ⟨b,y,none⟩/\b<w.heap.size/\eh w b y l:=by
    rcases H.out with⟨_,e2⟩|⟨b,y,c,e,hb,Y⟩
    ·rw[e2]at q;exact absurd q (by simp)
    ·cases e;exact⟨b,y,rfl,hb,Y⟩
   have c4:(i:Int)<(l.length:Int):=by omega
   obtain⟨c1,c2,c3⟩:=(Y.gr (G.out.trans M)) i q;have a4:=rT leaf l i q;have c5:=En.og (D.out l[i] (agn q));have a5:=qo leaf (l.take i) fun e he=>D.out e (List.mem_of_mem_take he);have a6:(l.take i).length<=10000:=by rw[afy];omega
   have I:=Ng p leaf (.slice (some ⟨b,y,none⟩) l.length L) l[i] (D.out l[i] (agn q));have B:Gr wr (wr.alloc (.cells #[.string l[i].key,.string l[i].item,.int .i64 (l[i].b_:Int)] 206)):=(Gr.refl wr).alloc _;have m0:=B.keeps n0;have m1:=B.keeps n1;have m2:=B.keeps n2;have a7:=afv B;unfold aU En.val at I;obtain⟨S,hS⟩:∃S,ah leaf (l.take i)=S:=⟨_,rfl⟩;have Z:ah leaf (l.take (i+1))=S+(l[i]).sz leaf:=by
    rw[<-hS];unfold ah;omega
   have c6:S<=2000000:=by
    rw[<-hS];unfold ah;omega
   rw[hS];have a8:=afv Z;generalize l[i].sz leaf=z at*;generalize l[i].key=ky at*;generalize l[i].item=it at*;generalize(l[i].b_:Int)=pgi at*;clear Y a4 a5 a6 hS Z M;go_wp2_with fail
   refine(I _).mono ?_;rintro e w3 ⟨rfl,a0⟩;have a9:=afv ((HG.out.trans a7.out).trans a0);clear a0 I;go_wp2_with fail
   exact⟨⟨i+1,by omega,by go_num,by rw[a8.out];go_num,a9.out⟩,by simp[afO];omega⟩
  ·have b0:i=l.length:=by omega
   subst b0;rw[agm];clear M n0 n1 n2;go_wp2_with fail
   go_ret;exact ar.mk rfl (G.out.trans HG.out)
end
section
open Go Go.RowKit
theorem Q8(e:En)(key:ByteArray)(w:World):Calls aft 172 #[e.val,.string key] w (ar w (.int .i64 (gh e.key key))):=by
 obtain⟨q,it,b⟩:=e;unfold En.val gh;have s:Gr w (w.alloc (.cells #[.string q,.string it,.int .i64 (b:Int)] 206)):=(Gr.refl w).alloc _;go_enter agE,Tryz.ntmps172;go_wp2_with(go_at_call 173;refine(Tryz.strings_Compare _ _ _).mono ?_;rintro e w' ⟨rfl,rfl⟩)
 go_ret;exact ar.mk rfl s
theorem OO(lt:Nat->Bool):∀f i,xT lt f i i=i
 |0,_=>rfl
 |f+1,i=>by
  unfold xT;rw[if_neg (Nat.lt_irrefl i)]
def aD(l:List En):List ByteArray:=l.map En.key
theorem OP(l:List En)(s:Value)(key:ByteArray)(w:World)(h:oi w s l)(hl:l.length<=10000):
  Calls aft 171 #[s,.string key,.func (.func 172) #[] #[]] w (ar w (.tuple #[.int .i64 (ai (aD l) key:Nat),.bool (dm (aD l) key)])):=by
 have H:=afv h;obtain⟨ao,ca,rfl⟩:=h.form;have eg:∀args w,(callFunc 172 args).run aft w=.ok (.enter 172 args) w:=enters_of agE (by kernel_rfl) rfl;have V:(aD l).length=l.length:=by unfold aD;rw[agq]
 have Y:∀i (hi:i<l.length),(aD l).getD i eZ=l[i].key:=fun i hi=>by unfold aD;simp[List.getD_eq_getElem?_getD,hi]
 have Z:=afv Y;have a0:=afv V;clear h V Y;obtain⟨S,hS⟩:∃S,ai (aD l) key=S:=⟨_,rfl⟩;obtain⟨T0,B⟩:∃T0,dm (aD l) key=T0:=⟨_,rfl⟩;have HS:=afv hS;have HT:=afv B;rw[hS,B];clear hS B;go_enter Tryz.func171,Tryz.ntmps171;go_wp2_with fail
 go_loopw [9,10] (fun iv jv w'=>∃i j f:Nat,i<=j/\j<=l.length/\j-i<=f/\iv=.int .i64 i/\jv=.int .i64 j/\xT (Gx (aD l) key) f i j=S/\Gr w w') (fun iv jv _=>(afO jv).toNat-(afO iv).toNat)
 case atStart=>exact⟨0,l.length,l.length,ago _,afS _,by omega,rfl,rfl,by
  have:=HS.out;unfold ai at this;rw[a0.out]at this;exact this,Gr.refl _⟩
 case round=>
  obtain⟨i,j,f,d0,hj,hf,rfl,rfl,z,M⟩:=hrel;by_cases b8:i<j
  ·obtain⟨f',rfl⟩:∃f',f=f'+1:=⟨f-1,by omega⟩;obtain⟨b,y,rfl,U,G⟩:∃b y,ao=some ⟨b,y,none⟩/\b<w.heap.size/\eh w b y l:=by
    rcases H.out with⟨_,e2⟩|⟨b,y,c,e,U,G⟩
    ·rw[e2]at hj;simp at hj;omega
    ·cases e;exact⟨b,y,rfl,U,G⟩
   have c5:(i:Int)<(j:Int):=by omega
   obtain⟨m,hm⟩:∃m,(i+j)/2=m:=⟨_,rfl⟩;have a3:m<l.length:=by omega
   have d1:i<=m/\m<j:=by omega
   unfold xT at z;rw[if_pos b8,hm]at z;have c6:(((i:Int)+(j:Int))/2)=(m:Int):=by omega
   have c7:(m:Int)<(l.length:Int):=by omega
   obtain⟨c1,c2,c3⟩:=(G.gr M) m a3;have a4:Gx (aD l) key m=decide (gh l[m].key key<0):=by
    unfold Gx;rw[Z.out m a3]
   rw[a4]at z;have hc:=Q8 l[m] key;unfold En.val at hc;generalize l[m].key=O at*;generalize l[m].item=it at*;generalize(l[m].b_:Int)=pgi at*;have a5:=afv z;have HG:=afv M;clear G z a4 M;go_wp2_with fail
   refine(hc wr).mono ?_;rintro e w3 ⟨rfl,I⟩;have L:=afv (HG.out.trans I);clear I hc c1 c2 c3;by_cases a6:gh O key<0
   ·have J:=a5.out;rw[decide_eq_true a6,if_pos rfl]at J;generalize gh O key=q at*;go_wp2_with fail
    exact⟨⟨m+1,j,f',by omega,hj,by omega,by go_num,rfl,J,L.out⟩,by simp[afO];omega⟩
   ·have J:=a5.out;rw[decide_eq_false a6,if_neg (by simp)]at J;generalize gh O key=q at*;go_wp2_with fail
    exact⟨⟨i,m,f',by omega,by omega,by omega,rfl,rfl,J,L.out⟩,by simp[afO];omega⟩
  ·have a7:i=j:=by omega
   subst a7;rw[OO]at z;subst z;have B:=HT.out;unfold dm at B;rw[HS.out,a0.out]at B;by_cases D:i<l.length
   ·obtain⟨b,y,rfl,U,G⟩:∃b y,ao=some ⟨b,y,none⟩/\b<w.heap.size/\eh w b y l:=by
     rcases H.out with⟨_,e2⟩|⟨b,y,c,e,U,G⟩
     ·rw[e2]at D;exact absurd D (by simp)
     ·cases e;exact⟨b,y,rfl,U,G⟩
    have b9:(i:Int)<(l.length:Int):=by omega
    obtain⟨c1,c2,c3⟩:=(G.gr M) i D;rw[decide_eq_true D,Bool.true_and,Z.out i D]at B;have hc:=Q8 l[i] key;unfold En.val at hc;generalize l[i].key=O at*;generalize l[i].item=it at*;generalize(l[i].b_:Int)=pgi at*;have Q:=afv B;have HG:=afv M;clear G B M HT HS;go_wp2_with fail
    refine(hc wr).mono ?_;rintro e w3 ⟨rfl,I⟩;have L:=afv (HG.out.trans I);clear I hc c1 c2 c3;have c0:(gh O key==0)=T0:=by
     rw[<-Q.out,Bool.eq_iff_iff];simp
    generalize gh O key=q at*;go_wp2_with fail
    go_ret2;exact ar.mk (by simp[c0]) L.out
   ·rw[decide_eq_false D,Bool.false_and]at B;have Q:=afv B;have b9:¬(i:Int)<(l.length:Int):=by omega
    clear B HT HS;go_wp2_with fail
    go_ret2;exact ar.mk (by rw[<-Q.out];rfl) M
theorem pj(p:Nat)(leaf:Bool)(l:List En)(s:Value)(key:ByteArray)(w:World)(h:oi w s l)(Y:l.length<=10000):
  Calls aft 121 #[aU p leaf s,.string key] w (ar w (.tuple #[.int .i64 (if leaf then ai (aD l) key else aG (aD l) key:Nat),.bool (dm (aD l) key)])):=by
 have H:=afv h;obtain⟨I,J,rfl⟩:=h.form;unfold aU;have q:Gr w (w.alloc (.cells #[.int .i64 (p:Int),.bool leaf,.slice I l.length J] 200)):=(Gr.refl w).alloc _;have O:∀w',Gr (w.alloc (.cells #[.int .i64 (p:Int),.bool leaf,.slice I l.length J] 200)) w'->w'.cell? ⟨w.heap.size,1,none⟩=some (.bool leaf):=fun w' g=>g.keeps (by rw[afK];rfl);have hs:=OP l (.slice I l.length J) key _ (h.gr q) Y;have L:=jg (aD l) key;have D:(aD l).length=l.length:=by unfold aD;rw[agq]
 rw[D]at L;have hd:aG (aD l) key=if dm (aD l) key then ai (aD l) key else ai (aD l) key-1:=rfl
 rw[hd];have y:=afv O;have z:=afv hs;clear h O hs hd D;generalize ai (aD l) key=S at*;generalize dm (aD l) key=Z at*;cases leaf with
 |true=>
  go_enter agj,agc;go_wp2_with fail
  refine z.out.mono ?_;rintro e Q ⟨rfl,b⟩;have U:=y.out _ b;have B:=afv (q.trans b);clear b z y q;go_wp2_with fail
  go_ret2;exact ar.mk (by simp) B.out
 |false=>
  cases Z with
  |true=>
   go_enter agj,agc;go_wp2_with fail
   refine z.out.mono ?_;rintro e Q ⟨rfl,b⟩;have U:=y.out _ b;have B:=afv (q.trans b);clear b z y q;go_wp2_with fail
   go_ret2;exact ar.mk (by simp) B.out
  |false=>
   have M:max ((S:Int)-1) 0=((S-1:Nat):Int):=by omega
   obtain⟨V,G⟩:∃V,S-1=V:=⟨_,rfl⟩;rw[G]at M;simp only[agd,if_false,G];go_enter agj,agc;go_wp2_with fail
   refine z.out.mono ?_;rintro e Q ⟨rfl,b⟩;have U:=y.out _ b;have B:=afv (q.trans b);clear b z y q;go_wp2_with fail
   go_ret2;exact ar.mk (by simp) B.out
