/-
  Part 4 of the proof.
-/
import Derived.Test.YtldmhjbdahjhdaaGreatDoorZa2
import Derived.Shelf.Spec.SlicesInsertGrow
import Derived.Lib.SlicesDelete
open Go.Proofs.Tryz
open List renaming length_append->ae,length_take->aS,append_assoc->aU,take_append_of_le_length->bh,mem_of_mem_take->bj,mem_cons_self->bv,length_drop->bz,replicate->bA,length_nil->bF,length_cons->bP,mem_cons_of_mem->bT,mem_singleton->bZ,size_toArray->b_,mem_of_mem_drop->cf,mem_flatMap->cg,take_of_length_le->ch,take_append_drop->cj,mem_cons->cl,getElem?_take->cs,length_insertIdx_of_le_length->cD,take_succ_eq_append_getElem->cL,length_replicate->cO,take_length->de,getElem_mem->dg,flatMap_append->dr,map_nil->dD,sum_nil->dF,getElem?_drop->dS,take_take->dT,getElem?_eq_some_iff->dU,length_map->em,take_zero->ew,drop_left->ez,map_take->fn,map_drop->fy,flatMap_cons->fK,nodup_append->gf,append_nil->hO,nodup_cons->ik,take_left->iF,map_cons->iT,sum_cons->iU,length->ko
open Go.Lib renaming hid->ak,byteCells_length->aV,byteCells->be,cell_of_heap->bB,frozen_of_heap->bQ,BuilderAt->eh,wpList_append_run->es,byteCells_append->eY
open Array renaming getElem?_eq_some_iff->ap,length_toList->aX,getElem?_eq_getElem->dZ
open Prod renaming snd->az,fst->aQ
open Go.World renaming cell?_alloc_new->aJ,cell?_setCell_same->ej,setCells->iR,setRow->js,shape?->jE
open Go renaming World->bc,Value->bt,Calls->dA,setRow_heap->eb,run_callFunc_extern->fe,run_underlying->iu,TypeId->jk,bodyPost_end->jU,info_parts->kx,goInt->kE
open Go.Builtin renaming zeroCells->bu,copy_->co,clear_->eT,firstCells->fA,append_->kM,lenOf->lc
open Go.Proofs.Tryz renaming underlying198->bC,underlying272->fl,results247->ib,ntmps253->iP,underlying252->jh,func253->jH,ntmps121->kk,func121->kI
open Nat renaming min_eq_left->bM,zero_add->cF,le_trans->cK,le_refl->di,lt_of_lt_of_le->dQ,zero_le->ea,le_of_eq->el,min_def->eA,lt_or_ge->fM,add_zero->jT
open Option.some renaming inj->bW
open Go.RowKit renaming intOf->bX
open Go.Departure renaming mixedOrders->cW
open Go.IntKind renaming wrap_i64->da,u8->dh,i64->eB
open Bool renaming false_eq_true->dJ
open Go.Value renaming agg->ek,cells->eV,slice->jZ
open Go.Act renaming eval->eH,put->fS
open Go.RowKit.Below renaming heap_setCell->fI,heap_alloc->gw,trans->hI,refl->kr
open Go.Lib.BuilderAt renaming put->fT
open Go.Lib.IsBuilderF renaming of->gc
open Go.Extern.SlicesOverlaps renaming overlaps->gs
open Go.Proofs renaming step_copy_runI->iQ
open Go.Extern.AbiNoEscape renaming same->ji
open Go.World.ownsRow renaming cells->kq
open Prod.mk renaming injEq->lq
set_option maxRecDepth 100000
set_option maxHeartbeats 100000000
set_option linter.all false
namespace Go.Proofs.YtldmhjbdahjhdaaGreatDoor
section
open Go Go.RowKit
def fJ:ByteArray:=⟨#[]⟩
structure En where
 key:ByteArray
 item:ByteArray
 cU:Nat
def En.sz(e:En)(leaf:Bool):Nat:=if leaf then 2+e.key.size+e.item.size else 3+e.key.size
def dq(leaf:Bool)(l:List En):Nat:=(l.map fun e=>e.sz leaf).sum
def aj(leaf:Bool)(l:List En):Nat:=3+dq leaf l
def En.head(e:En)(leaf:Bool):List UInt8:=if leaf then[e.key.size.toUInt8,e.item.size.toUInt8]else e.key.size.toUInt8::gm (e.cU:Int)
def En.yY(e:En)(leaf:Bool):List UInt8:=e.head leaf++(e.key.data.toList++e.item.data.toList)
def eM(leaf:Bool)(l:List En):List UInt8:=l.flatMap fun e=>e.yY leaf
def FL(leaf:Bool)(l:List En):List UInt8:=(if leaf then 1 else 2)::(gm (l.length:Int)++(eM leaf l++bA (1024-aj leaf l) 0))
def aw(leaf:Bool)(l:List En):ByteArray:=⟨(FL leaf l).toArray⟩
structure En.ok(e:En)(leaf:Bool):Prop where
 key:e.key.size<=60
 item:e.item.size<=100
 cU:e.cU<2000
 WS:leaf=true->e.cU=0
 node:leaf=false->e.item=fJ
theorem En.S0{leaf:Bool}{e:En}(h:e.ok leaf):(e.yY leaf).length=e.sz leaf:=by
 unfold En.yY En.sz En.head;have b:∀s:ByteArray,s.data.toList.length=s.size:=fun s=>by rw[aX];rfl
 cases leaf with
 |true=>
  simp only[if_true,ae,b,bP,bF];omega
 |false=>
  have:e.item.size=0:=by rw[h.node rfl];rfl
  simp only[dJ,if_false,ae,b,bP,gm,bF];omega
theorem kL{leaf:Bool}:∀{l:List En},(∀e∈l,e.ok leaf)->(eM leaf l).length=dq leaf l
 |[],_=>rfl
 |e::l,h=>by
  have b:=kL (l:=l) fun x q=>h x (bT _ q);unfold eM dq at*;rw[fK,ae,b,En.S0 (h e bv),iT,iU]
theorem Qj{leaf:Bool}{l:List En}(h:∀e∈l,e.ok leaf)(b:aj leaf l<=1024):(FL leaf l).length=1024:=by
 unfold FL;unfold aj at*;simp only[bP,ae,gm,bF,kL h,cO];omega
theorem dY{leaf:Bool}{l:List En}(h:∀e∈l,e.ok leaf)(b:aj leaf l<=1024):(aw leaf l).size=1024:=by
 unfold aw;rw[lu,Qj h b]
theorem En.U6(e:En)(leaf:Bool):2<=e.sz leaf:=by
 unfold En.sz
 split<;>omega
theorem En.oV{leaf:Bool}{e:En}(h:e.ok leaf):e.sz leaf<=162:=by
 have:=h.key;have:=h.item;unfold En.sz
 split<;>omega
theorem ly(leaf:Bool)(a b:List En):dq leaf (a++b)=dq leaf a+dq leaf b:=by
 unfold dq;rw[List.map_append,List.sum_append]
theorem cE(leaf:Bool)(e:En)(b:List En):dq leaf (e::b)=e.sz leaf+dq leaf b:=by
 unfold dq;rw[iT,iU]
theorem d_(leaf:Bool):∀l:List En,2*l.length<=dq leaf l
 |[]=>di _
 |e::l=>by
  have:=d_ leaf l;have:=e.U6 leaf;rw[cE,bP];omega
def T:Nat->Type
 |0=>Nat×List (ByteArray×ByteArray)
 |d+1=>Nat×List (ByteArray×T d)
def T.pg:{d:Nat}->T d->Nat
 |0,t=>aQ t
 |_+1,t=>aQ t
def cy(x:ByteArray×ByteArray):En:=⟨x.1,x.2,0⟩
def aM{d:Nat}(x:ByteArray×T d):En:=⟨x.1,fJ,x.2.pg⟩
def T.aO:{d:Nat}->T d->List En
 |0,t=>(az t).map cy
 |_+1,t=>(az t).map aM
def cn:Nat->Bool
 |0=>true
 |_+1=>false
def T.ai:{d:Nat}->T d->List Nat
 |0,t=>[aQ t]
 |_+1,t=>aQ t::(az t).flatMap fun x=>x.2.ai
def T.kv:{d:Nat}->T d->List (ByteArray×ByteArray)
 |0,t=>az t
 |_+1,t=>(az t).flatMap fun x=>x.2.kv
def iy(c:Ch)(pg:Nat->ByteArray)(leaf:Bool)(p:Nat)(l:List En):Prop:=(1<=p/\p<2000/\c.h.used p=true)/\fB pg c.F p=aw leaf l
def T.lays(c:Ch)(pg:Nat->ByteArray):{d:Nat}->T d->Prop
 |0,t=>iy c pg true (aQ t) ((az t).map cy)
 |_+1,t=>iy c pg false (aQ t) ((az t).map aM)/\∀x∈az t,x.2.lays c pg
def qG(leaf:Bool)(l:List En):Prop:=l≠[]/\aj leaf l<=1024/\∀e∈l,e.ok leaf
def T.fC:{d:Nat}->T d->Prop
 |0,t=>qG true ((az t).map cy)
 |_+1,t=>qG false ((az t).map aM)/\∀x∈az t,x.2.fC
def g_(a b:ByteArray):Int:=Lib.compareBytes a.data.toList b.data.toList
def yZ(lt:Nat->Bool):Nat->Nat->Nat->Nat
 |0,i,_=>i
 |f+1,i,j=>if i<j then(if lt ((i+j)/2)then yZ lt f ((i+j)/2+1) j else yZ lt f i ((i+j)/2))else i
theorem Iv(lt:Nat->Bool):∀f i j,i<=j->i<=yZ lt f i j/\yZ lt f i j<=j
 |0,i,j,h=>⟨di _,h⟩
 |f+1,i,j,h=>by
  unfold yZ
  split
  ·split
   ·have:=Iv lt f ((i+j)/2+1) j (by omega);omega
   have:=Iv lt f i ((i+j)/2) (by omega);omega
  omega
def Iw(b:List ByteArray)(k:ByteArray)(h:Nat):Bool:=decide (g_ (b.getD h fJ) k<0)
def am(b:List ByteArray)(k:ByteArray):Nat:=yZ (Iw b k) b.length 0 b.length
def dR(b:List ByteArray)(k:ByteArray):Bool:=decide (am b k<b.length)&&decide (g_ (b.getD (am b k) fJ) k=0)
theorem jJ(b:List ByteArray)(k:ByteArray):am b k<=b.length:=(Iv _ _ _ _ (ea _)).2
theorem oW{b:List ByteArray}{k:ByteArray}(h:dR b k=true):am b k<b.length:=by
 unfold dR at h;rw[Bool.and_eq_true,decide_eq_true_eq]at h;exact h.1
def aL(b:List ByteArray)(k:ByteArray):Nat:=if dR b k then am b k else am b k-1
theorem oE{b:List ByteArray}(h:b≠[])(k:ByteArray):aL b k<b.length:=by
 have s:0<b.length:=List.length_pos_iff.2 h;have:=jJ b k;unfold aL
 split
 ·rename_i q
  exact oW q
 omega
def qc(leaf:Bool)(b:Nat):Nat->List En->Nat
 |_,[]=>0
 |acc,e::l=>if acc<b then qc leaf b (acc+e.sz leaf) l+1 else 0
def dj(leaf:Bool)(l:List En):Nat:=qc leaf (aj leaf l/2) 0 l
theorem rW(leaf:Bool)(b:Nat):∀(l:List En) (acc:Nat),(∀e∈l,e.sz leaf<=162)->b<=acc+dq leaf l->b<=acc+dq leaf (l.take (qc leaf b acc l))/\(acc<b->acc+dq leaf (l.take (qc leaf b acc l))<b+162)/\qc leaf b acc l<=l.length
 |[],acc,_,h=>by
  unfold qc;simp only[List.take_nil,bF];refine⟨h,fun s=>?_,di _⟩;simp only[dq,dD,dF]at*;omega
 |e::l,acc,hs,h=>by
  have D:=hs e bv;rw[cE]at h;unfold qc
  split
  ·rename_i B
   obtain⟨G,s,H⟩:=rW leaf b l (acc+e.sz leaf) (fun x y=>hs x (bT _ y)) (by omega);rw[List.take_succ_cons,cE,bP];refine⟨by omega,fun _=>?_,by omega⟩;by_cases hc:acc+e.sz leaf<b
   ·have:=s hc;omega
   have z:qc leaf b (acc+e.sz leaf) l=0:=by
    cases l with
    |nil=>rfl
    |cons a r=>unfold qc;rw[if_neg hc]
   rw[z,ew];simp only[dq,dD,dF];omega
  rename_i q
  rw[ew];simp only[dq,dD,dF];exact⟨by omega,fun h=>absurd h q,by simp⟩
theorem rX{leaf:Bool}{l:List En}(hs:∀e∈l,e.ok leaf)(D:1024<aj leaf l)(G:aj leaf l<=1400):
  0<dj leaf l/\dj leaf l<l.length/\aj leaf (l.take (dj leaf l))<=1024/\aj leaf (l.drop (dj leaf l))<=1024:=by
 have H:aj leaf l=3+dq leaf l:=rfl;obtain⟨q,s,y⟩:=rW leaf (aj leaf l/2) l 0 (fun e z=>En.oV (hs e z)) (by omega);have B:=s (by omega);have b:dq leaf (l.take (dj leaf l))+dq leaf (l.drop (dj leaf l))=dq leaf l:=by
  rw[<-ly,cj]
 change _<=0+dq leaf (l.take (dj leaf l))at q
 change 0+dq leaf (l.take (dj leaf l))<_ at B
 change dj leaf l<=_ at y;have I:aj leaf (l.take (dj leaf l))=3+dq leaf (l.take (dj leaf l)):=rfl;have J:aj leaf (l.drop (dj leaf l))=3+dq leaf (l.drop (dj leaf l)):=rfl;refine⟨?_,?_,by omega,by omega⟩
 ·rcases Nat.eq_zero_or_pos (dj leaf l)with e|e
  ·rw[e,ew]at q;simp only[dq,dD,dF]at q;omega
  exact e
 rcases fM (dj leaf l) l.length with e|e
 ·exact e
 rw[List.drop_eq_nil_of_le e]at b;simp only[dq,dD,dF]at b;simp only[dq]at*;omega
section
variable{X:Type}
abbrev S1 (X:Type):Type:=Ch×X×Option (Option (ByteArray×X))
def keyOf(l:List (ByteArray×X)):ByteArray:=((l.head?).map aQ).getD fJ
def cz(en:ByteArray×X->En)(leaf:Bool)(c:Ch)(p:Nat)(l old:List (ByteArray×X)):S1 (Nat×List (ByteArray×X)):=
 if aj leaf (l.map en)<=1024 then(c.write p (aw leaf (l.map en)),(p,l),some none)
 else match cS c.h with
  |none=>(c,(p,old),none)
  |some q=>((c.alloc.write p (aw leaf ((l.map en).take (dj leaf (l.map en))))).write q (aw leaf ((l.map en).drop (dj leaf (l.map en)))),(p,l.take (dj leaf (l.map en))),some (some (keyOf (l.drop (dj leaf (l.map en))),(q,l.drop (dj leaf (l.map en))))))
def eN(l:List (ByteArray×ByteArray))(key item:ByteArray):List (ByteArray×ByteArray):=
 if dR (l.map aQ) key then l.set (am (l.map aQ) key) (key,item)else l.insertIdx (am (l.map aQ) key) (key,item)
end
def dt:{d:Nat}->Ch->T d->ByteArray->ByteArray->S1 (T d)
 |0,c,t,key,item=>cz cy true c (aQ t) (eN (az t) key item) (az t)
 |d+1,c,t,key,item=>
  match(az t)[aL ((az t).map aQ) key]? with
  |none=>(c,t,none)
  |some x=>
   match dt c x.2 key item with
   |(c1,u,none)=>(c1,(aQ t,(az t).set (aL ((az t).map aQ) key) (x.1,u)),none)
   |(c1,u,some none)=>cz (X:=T d) aM false c1 (aQ t) ((az t).set (aL ((az t).map aQ) key) (x.1,u)) ((az t).set (aL ((az t).map aQ) key) (x.1,u))
   |(c1,u,some (some m))=>cz (X:=T d) aM false c1 (aQ t) (((az t).set (aL ((az t).map aQ) key) (x.1,u)).insertIdx (aL ((az t).map aQ) key+1) m) ((az t).set (aL ((az t).map aQ) key) (x.1,u))
def kZ(key:ByteArray):{d:Nat}->T d->Option ByteArray
 |0,t=>if dR ((az t).map aQ) key then((az t)[am ((az t).map aQ) key]?).map az else none
 |_+1,t=>((az t)[aL ((az t).map aQ) key]?).bind fun x=>kZ key x.2
def wE{X:Type}(k:ByteArray):List (ByteArray×X)->List (ByteArray×X)
 |[]=>[]
 |x::r=>(k,x.2)::r
def mL(k:ByteArray):List En->List En
 |[]=>[]
 |x::r=>⟨k,x.item,x.cU⟩::r
def T.meet:{d:Nat}->T d->ByteArray->T d->T d
 |0,a,_,b=>(aQ a,az a++az b)
 |_+1,a,k,b=>(aQ a,az a++wE k (az b))
def du{d:Nat}(c:Ch)(l:List (ByteArray×T d))(k:Nat)(u:T d):Ch×List (ByteArray×T d):=
 if 341<aj (cn d) u.aO\/l.length<2 then(c,l)
 else match l[k-1]?,l[k-1+1]? with
  |some a,some b=>
   if 1024<aj (cn d) (a.2.meet b.1 b.2).aO then(c,l)
   else((c.write a.2.pg (aw (cn d) (a.2.meet b.1 b.2).aO)).free b.2.pg,(l.set (k-1) (a.1,a.2.meet b.1 b.2)).eraseIdx (k-1+1))
  |_,_=>(c,l)
def dN:{d:Nat}->Ch->T d->ByteArray->Ch×T d
 |0,c,t,key=>(c.write (aQ t:Nat) (aw true (((az t).eraseIdx (am ((az t).map aQ) key)).map cy)),(aQ t,(az t).eraseIdx (am ((az t).map aQ) key)))
 |d+1,c,t,key=>
  match(az t)[aL ((az t).map aQ) key]? with
  |none=>(c,t)
  |some x=>
   let r:=dN c x.2 key
   let l:=(az t).set (aL ((az t).map aQ) key) (x.1,r.2)
   let s:Ch×List (ByteArray×T d):=if r.2.aO.isEmpty then(r.1.free (r.2.pg:Nat),l.eraseIdx (aL ((az t).map aQ) key))else du r.1 l (aL ((az t).map aQ) key) r.2
   (s.1.write (aQ t:Nat) (aw false (s.2.map aM)),(aQ t,s.2))
def iI(s:ByteArray):{d:Nat}->T d->List (ByteArray×ByteArray)
 |0,t=>(az t).drop (am ((az t).map aQ) s)
 |d+1,t=>((az t).drop (aL ((az t).map aQ) s)).flatMap fun(x:ByteArray×T d)=>iI s x.2
abbrev Tr:Type:=Option ((d:Nat)×T d)
def Tr.ai:Tr->List Nat
 |none=>[]
 |some t=>t.2.ai
def Tr.lays(c:Ch)(pg:Nat->ByteArray)(i:Nat):Tr->Prop
 |none=>c.h.roots i=0
 |some t=>c.h.roots i=(t.2.pg:Nat)/\t.2.lays c pg/\t.2.fC/\t.2.ai.Nodup
def Ch.root(c:Ch)(i:Nat)(p:Int):Ch:=⟨c.h.ed i p (c.h.notes i),c.F⟩
def bN(c:Ch)(i:Nat)(t:Tr)(key item:ByteArray):Ch×Tr×Nat:=
 match t with
 |none=>match cS c.h with
  |none=>(c,none,12)
  |some k=>((c.alloc.write (k:Nat) (aw true [⟨key,item,0⟩])).root i (k:Nat),some ⟨0,(k,[(key,item)])⟩,0)
 |some ⟨d,t⟩=>match dt c t key item with
  |( c1,u,none)=>(c1,some ⟨d,u⟩,12)
  |( c1,u,some none)=>(c1,some ⟨d,u⟩,0)
  |( c1,u,some (some m))=>match cS c1.h with
    |none=>(c1,some ⟨d,u⟩,12)
    |some k=>((c1.alloc.write (k:Nat) (aw false [⟨(u.aO.head?.map En.key).getD fJ,fJ,u.pg⟩,⟨m.1,fJ,m.2.pg⟩])).root i (k:Nat),some ⟨d+1,(k,[((u.aO.head?.map En.key).getD fJ,u),m])⟩,0)
def ey(c:Ch)(i:Nat)(more:Int):Ch×Nat:=if 0<=c.h.notes i+more/\c.h.notes i+more<65536 then(⟨c.h.ed i (c.h.roots i) (c.h.notes i+more),c.F⟩,0)else(c,2)
def Tr.get(t:Tr)(key:ByteArray):Option ByteArray:=match t with|none=>none|some t=>kZ key t.2
def nM(t:Tr)(key item:ByteArray):Int:=match t.get key with|none=>2+(key.size:Int)+item.size|some old=>(item.size:Int)-old.size
def kh(c:Ch)(i:Nat)(t:Tr)(key item:ByteArray):Ch×Tr×Nat:=
 if key.size<1\/60<key.size\/100<item.size then(c,t,1)
 else if 30000<c.h.notes i+nM t key item then(c,t,12)
 else match bN c i t key item with
  |(c1,u,0)=>((ey c1 i (nM t key item)).1,u,(ey c1 i (nM t key item)).2)
  |r=>r
def cM(c:Ch)(i:Nat)(t:Tr)(key:ByteArray):Ch×Tr:=
 match t with
 |none=>(c,none)
 |some ⟨0,t⟩=>if(dN c t key).2.aO.isEmpty then(((dN c t key).1.free (t.pg:Nat)).root i 0,none)else((dN c t key).1,some ⟨0,(dN c t key).2⟩)
 |some ⟨d+1,t⟩=>
  if(dN c t key).2.aO.isEmpty then(((dN c t key).1.free (t.pg:Nat)).root i 0,none)
  else match az (dN c t key).2 with
   |[x]=>(((dN c t key).1.free (t.pg:Nat)).root i (T.pg (d:=d) x.2:Nat),some ⟨d,x.2⟩)
   |_=>((dN c t key).1,some ⟨d+1,(dN c t key).2⟩)
def mo(c:Ch)(i:Nat)(t:Tr)(key:ByteArray):Ch×Tr×Nat:=
 match t.get key with
 |none=>(c,t,7)
 |some old=>((ey (cM c i t key).1 i (-2-(key.size:Int)-old.size)).1,(cM c i t key).2,(ey (cM c i t key).1 i (-2-(key.size:Int)-old.size)).2)
def mq(t:Tr)(s:ByteArray):List (ByteArray×ByteArray):=match t with
 |none=>[]
 |some t=>iI s t.2
end
section
open Go Go.RowKit Go.Lib
def En.val(e:En):bt:=.agg #[.string e.key,.string e.item,.int .i64 (e.cU:Int)]
def En.cells(e:En):List bt:=[.string e.key,.string e.item,.int .i64 (e.cU:Int)]
def ax(l:List En):List bt:=l.flatMap En.cells
def ba(a0 w:bc)(v:bt)(l:List En):Prop:=w.ownsRow a0.heap.size 206 3 v l.length (ax l)
theorem ba.row{a0 w:bc}{v:bt}{l:List En}(h:ba a0 w v l):w.ownsRow a0.heap.size 206 3 v l.length (ax l):=h
theorem Ko:(prog.info? 206).map (fun i=>(i.zero,i.size,i.bytes))=some (some (.agg #[.string ⟨#[]⟩,.string ⟨#[]⟩,.int .i64 0]),3,40):=by kernel_rfl
theorem gz(a b:List En):ax (a++b)=ax a++ax b:=by
 unfold ax;rw[dr]
theorem dC:∀l:List En,(ax l).length=l.length*3
 |[]=>rfl
 |e::l=>by
  have:=dC l;unfold ax at*;rw[fK,ae,this];simp only[En.cells,bP,bF];omega
theorem En.cells_one(e:En):∀u∈e.cells,u.oneCell'=true:=by
 intro u hu;unfold En.cells at hu;simp only[cl,List.not_mem_nil,or_false]at hu;rcases hu with h|h|h<;>(rw[h];rfl)
theorem qd(l:List En):∀u∈ax l,u.oneCell'=true:=by
 intro u hu;unfold ax at hu;obtain⟨e,_,h⟩:=cg.1 hu;exact e.cells_one u h
theorem tN:∀(l:List En) (i:Nat) (h:i<l.length),(ax l)[i*3]?=some (.string l[i].key)/\(ax l)[i*3+1]?=some (.string l[i].item)/\(ax l)[i*3+2]?=some (.int .i64 (l[i].cU:Int))
 |e::l,0,_=>⟨rfl,rfl,rfl⟩
 |e::l,i+1,h=>by
  obtain⟨b,q,s⟩:=tN l i (by simpa using h);have y:ax (e::l)=.string e.key::.string e.item::.int .i64 (e.cU:Int)::ax l:=rfl;rw[y,show(i+1)*3=i*3+1+1+1 by omega];simp only[List.getElem?_cons_succ,List.getElem_cons_succ,b,q,s,and_self]
def eO(w:bc)(b q:Nat)(l:List En):Prop:=
 ∀i (h:i<l.length),w.cell? ⟨b,q+i*3,none⟩=some (.string l[i].key)/\w.cell? ⟨b,q+i*3+1,none⟩=some (.string l[i].item)/\w.cell? ⟨b,q+i*3+2,none⟩=some (.int .i64 (l[i].cU:Int))
theorem eO.gr{w w':bc}{b q:Nat}{l:List En}(h:eO w b q l)(g:Gr w w'):eO w' b q l:=fun i hi=>⟨g.keeps (h i hi).1,g.keeps (h i hi).2.1,g.keeps (h i hi).2.2⟩
theorem eO.ay{S:Nat->Prop}{w w':bc}{b q:Nat}{l:List En}(h:eO w b q l)(g:ag S w w')(hs:¬S b):eO w' b q l:=fun i hi=>⟨g.keeps hs (h i hi).1,g.keeps hs (h i hi).2.1,g.keeps hs (h i hi).2.2⟩
def oX(w:bc)(v:bt)(l:List En):Prop:=(v=.slice none 0 0/\l=[])\/∃b q c,v=.slice (some ⟨b,q,none⟩) l.length c/\b<w.heap.size/\eO w b q l
theorem oX.gr{w w':bc}{v:bt}{l:List En}(h:oX w v l)(g:Gr w w'):oX w' v l:=by
 rcases h with h|⟨b,q,c,s,y,z⟩
 ·exact .inl h
 exact .inr ⟨b,q,c,s,dQ y g.size,z.gr g⟩
theorem oX.form{w:bc}{v:bt}{l:List En}(h:oX w v l):∃q c,v=.slice q l.length c:=by
 rcases h with⟨rfl,rfl⟩|⟨b,s,c,rfl,_⟩
 ·exact⟨none,0,rfl⟩
 exact⟨_,c,rfl⟩
theorem eO.cells{w:bc}{b q:Nat}{l:List En}(h:eO w b q l):∀j u,(ax l)[j]?=some u->w.cell? ((⟨b,q,none⟩:Addr).add j)=some u:=by
 intro j u s;have B:j<l.length*3:=by
  rw[<-dC];exact(dU.1 s).1
 have ha:(⟨b,q,none⟩:Addr).add j=⟨b,q+j,none⟩:=by
  unfold Addr.add
  split<;>simp_all
 have y:=tN l (j/3) (by omega);have z:=h (j/3) (by omega);rw[ha];rcases(show j % 3=0\/j % 3=1\/j % 3=2 by omega)with e|e|e
 ·rw[show j/3*3=j by omega]at y z;rw[y.1]at s;rw[z.1,bW s]
 ·rw[show j/3*3+1=j by omega]at y;rw[show q+j/3*3+1=q+j by omega]at z;rw[y.2.1]at s;rw[z.2.1,bW s]
 rw[show j/3*3+2=j by omega]at y;rw[show q+j/3*3+2=q+j by omega]at z;rw[y.2.2]at s;rw[z.2.2,bW s]
theorem ba.at'{a0 w:bc}{v:bt}{l:List En}(h:ba a0 w v l):(v=.slice none 0 0/\l=[])\/∃B cap,v=.slice (some ⟨B,0,none⟩) l.length cap/\l.length<=cap/\a0.heap.size<=B/\B<w.heap.size/\eO w B 0 l/\∀o,w.frozen? ⟨B,o,none⟩=false:=by
 have hc:=fun g b=>kq (g:=g) h.row b;rcases h.row.2 with⟨rfl,G⟩|⟨g,cap,I,rfl,H,s,q,_⟩
 ·exact .inl ⟨rfl,List.eq_nil_of_length_eq_zero G⟩
 refine .inr ⟨g,cap,rfl,q,H,(ap.1 s).1,fun i hi=>?_,fun o=>bQ s _⟩;have b:=tN l i hi;have y:=hc g rfl _ _ b.1;have z:=hc g rfl _ _ b.2.1;have D:=hc g rfl _ _ b.2.2;have e:∀j,(⟨g,0,none⟩:Addr).add j=⟨g,j,none⟩:=by
  intro j;unfold Addr.add;split<;>simp_all
 rw[e]at y z D;rw[cF];exact⟨y,z,D⟩
theorem ba.qW{a0 w:bc}{v:bt}{l:List En}(h:ba a0 w v l):oX w v l:=by
 rcases h.at' with h|⟨B,cap,b,y,z,q,s,_⟩
 ·exact .inl h
 exact .inr ⟨B,0,cap,b,q,s⟩
theorem ba.form{a0 w:bc}{v:bt}{l:List En}(h:ba a0 w v l):∃b c,v=.slice b l.length c:=h.qW.form
theorem ba.back{a0 s w:bc}{v:bt}{l:List En}(h:ba s w v l)(g:Gr a0 s):ba a0 w v l:=by
 refine⟨h.row.1,?_⟩;rcases h.row.2 with b|⟨g',cap,q,b,y,z⟩
 ·exact .inl b
 exact .inr ⟨g',cap,q,b,cK g.size y,z⟩
theorem ba.gr{a0 w w':bc}{v:bt}{l:List En}(h:ba a0 w v l)(g:Gr w w'):ba a0 w' v l:=aF h g
theorem ba.nil(a0 w:bc):ba a0 w (.slice none 0 0) []:=World.ownsRow_nil _ _ _ _
theorem ba.ay{S:Nat->Prop}{a0 w w':bc}{v:bt}{l:List En}(h:ba a0 w v l)(g:ag S w w')(hs:∀b,v.ownBlock=some b->¬S b):ba a0 w' v l:=by
 refine⟨h.row.1,?_⟩;rcases h.row.2 with q|⟨g',cap,s,q,z,y,B⟩
 ·exact .inl q
 exact .inr ⟨g',cap,s,q,z,(g.block (ap.1 y).1 (hs g' (by rw[q];rfl))).trans y,B⟩
theorem MM{a0 w:bc}{v:bt}{l:List En}{e:En}(h:w.ownsRow a0.heap.size 206 3 v (l.length+1) (ax l++e.cells)):ba a0 w v (l++[e]):=by
 unfold ba;rw[ae,gz];have:ax [e]=e.cells:=by unfold ax;simp
 rw[this];exact h
theorem lz{P:Program}(w:bc)(M O ty q:jk)(K g o y z D:Nat)(a:Addr)(B G m:Nat)(b:Array bt)(t:jk)(s:List bt)
  (hu:P.underlying M=some (.slice q)) (hs:(P.info? q).map (·.size)=some K)
  (Q:w.heap[g]?=some (.cells b t (0,0))) (hn:m=Nat.min B z) (hc:s.length=m*K) (V:y=o*K)
  (H:∀j v,s[j]?=some v->w.cell? (a.add j)=some v) (I:y+s.length<=b.size) (S:∀v∈s,v.oneCell'=true):
  (co #[M,O] ty #[.slice (some ⟨g,y,none⟩) z D,.slice (some a) B G]).run P w=
   .ok (kE m) (w.setRow g (b.toList.take y++s++b.toList.drop (y+s.length)).toArray):=by
 have U:=run_loadCells_list (P:=P) w a s H;have L:=run_storeCells_at P g y t s 0 b w Q (by simpa using I) S;cases J:P.info? q with
 |none=>simp[J]at hs
 |some i=>
  have hi:i.size=K:=by simpa[J]using hs
  simp[co,iu hu,lc,fA,sizeOf,typeInfo,J,hi,<-hn,<-hc,U,L]
theorem rY{b:Type}(x:b):∀(l:List b) (i:Nat),i<=l.length->l.insertIdx i x=l.take i++x::l.drop i
 |l,0,_=>by simp
 |[],i+1,h=>by simp at h
 |a::l,i+1,h=>by
  have:=rY x l i (by simpa using h);simp[List.insertIdx_succ_cons,this]
theorem hH:∃b,prog.info? 206=some b/\b.zero=some (.agg #[.string ⟨#[]⟩,.string ⟨#[]⟩,.int .i64 0])/\b.size=3/\b.bytes=40:=by
 have h:=Ko;cases q:prog.info? 206 with
 |none=>rw[q]at h;cases h
 |some b=>
  rw[q]at h;have h:=bW h;simp only[lq]at h;exact⟨b,rfl,h.1,h.2.1,h.2.2⟩
theorem qe:(prog.info? 206).map (·.size)=some 3:=by
 obtain⟨s,b,_,q,_⟩:=hH;rw[b];simp[q]
theorem cell_of_heap{w:bc}{g:Nat}{b:Array bt}{t:jk}(h:w.heap[g]?=some (.cells b t (0,0)))(j:Nat):w.cell? ⟨g,j,none⟩=b[j]?:=by
 simp[World.cell?,h]
theorem mr(g o j:Nat):(⟨g,o,none⟩:Addr).add j=⟨g,o+j,none⟩:=by
 unfold Addr.add
 split<;>simp_all
theorem jY(l:List En)(i:Nat)(hi:i<=l.length):(ax l).take (i*3)=ax (l.take i)/\(ax l).drop (i*3)=ax (l.drop i):=by
 have h:ax l=ax (l.take i)++ax (l.drop i):=by rw[<-gz,cj]
 have b:(ax (l.take i)).length=i*3:=by rw[dC,aS,bM hi]
 constructor
 ·rw[h,<-b,iF]
 rw[h,<-b,ez]
structure qg(w:bc)(vb:Nat)(e:En):Prop where
 at_:w.heap[vb]?=some (.cells e.cells.toArray 206 (0,0))
theorem qg.cell{w:bc}{b:Nat}{e:En}(h:qg w b e)(j:Nat)(v:bt)(q:e.cells[j]?=some v):w.cell? ((⟨b,0,none⟩:Addr).add j)=some v:=by
 rw[mr,cell_of_heap h.at_,cF];simpa using q
theorem oe{a0 w:bc}{D:Array Oper}{rest:List Oper}{o:Oper}{a:Act}{Q:Exit->Act->bc->Prop}(G:o.guard=none)(s x:Operand)
  (O:o.op=.call {callee:=.builtin .append,args:=#[s,x],argTypes:=#[198,198]}) (v:bt) (us:List En) (hs:a.eval s=v) (q:ba a0 w v us)
  (vs:bt) (xs:List En) (S:a.eval x=vs) (hi:oX w vs xs) (hl:us.length+xs.length<=1000000) (H:Gr a0 w)
  (h:∀y w',ba a0 w' y (us++xs)->Gr a0 w'->ag (fun b=>v.ownBlock=some b) w w'->(y.ownBlock=v.ownBlock\/y.ownBlock=some w.heap.size)->wpList prog D Q rest (a.put o.dst y) w'):wpList prog D Q (o::rest) a w:=by
 obtain⟨U,z,I,J,L⟩:=hH;rcases hi with⟨rfl,rfl⟩|⟨b,M,c,rfl,hb,V⟩
 ·rw[hO]at h;exact es w G s x 198 198 O v (.slice none 0 0) hs S v w (run_append_owned_none w a0.heap.size 198 o.type 206 U 3 bC z v us.length (ax us) q) (h v w q H (ag.refl _ _) (.inl rfl))
 refine wpList_append_own_at w G s x 198 O a0.heap.size 206 U (.agg #[.string ⟨#[]⟩,.string ⟨#[]⟩,.int .i64 0]) 3 40 bC z I J L rfl (by decide) v us.length (ax us) hs q ⟨b,M,none⟩ xs.length c (ax xs) S (dC xs) V.cells (qd xs) (by unfold maxLen;omega) (by omega) H.size
  (fun y w' Y B _ Z=>h y w' ?_ (iG H B (aP q)) ⟨B.os,B.tape,B.output,B.size,fun k hk hs=>B.block k hk (fun e=>hs e.symm)⟩ Z)
 unfold ba;rw[ae,gz];exact Y
end
section
open Go Go.RowKit Go.Lib Go.Shelf
def oY(v q:bt)(w:bc):Prop:=∀b,q.ownBlock=some b->v.ownBlock=some b\/w.heap.size<=b
theorem tO{a0 w:bc}{B n cap:Nat}{b:Array bt}{l:List En}(y:a0.heap.size<=B)(G:B<w.heap.size)(hc:cap<=maxLen)(hn:n<=cap)(q:l.length=n)(s:b.size=cap*3)(z:b.toList.take (n*3)=ax l){old:Array bt}
  (D:w.heap[B]?=some (.cells old 206 (0,0))):ba a0 (w.setRow B b) (.slice (some ⟨B,0,none⟩) n cap) l:=by
 refine⟨dC l,.inr ⟨B,cap,b,by rw[q],y,eb w B old _ _ _ D,by rw[q];exact hn,hc,s,by rw[q];exact z⟩⟩
theorem k_{w:bc}{B:Nat}{q:Array bt}:ag (fun b=>b=B) w (w.setRow B q):=by
 refine⟨rfl,rfl,rfl,by simp[js],fun k y s=>?_⟩;unfold js;simp[Array.getElem?_modify,Ne.symm s]
theorem EJ(a0 w:bc)(B n cap k Q:Nat)(l:List En)(e:En)(h:ba a0 w (.slice (some ⟨B,0,none⟩) n cap) l)(J:l.length=n)(hk:k<n)(a8:n+1<=cap)(hg:Gr a0 w)(hl:n<=10000)(hv:qg w Q e)(b0:Q≠B):
  dA prog 253 #[.slice (some ⟨B,0,none⟩) n cap,.int .i64 k,.slice (some ⟨Q,0,none⟩) 1 1] w fun ex w'=>
   ex=.returned (.slice (some ⟨B,0,none⟩) (n+1) cap)/\ba a0 w' (.slice (some ⟨B,0,none⟩) (n+1) cap) (l.insertIdx k e)/\ag (fun b=>b=B) w w':=by
 obtain⟨q,hB,U,hc,H,ht⟩:∃q:Array bt,a0.heap.size<=B/\w.heap[B]?=some (.cells q 206 (0,0))/\cap<=maxLen/\q.size=cap*3/\q.toList.take (n*3)=ax l:=by
  rcases h.row.2 with⟨e1,_⟩|⟨g,cp,q,e1,hb,U,_,hc,H,ht⟩
  ·cases e1
  cases e1;exact⟨q,hb,U,hc,H,by rw[J]at ht;exact ht⟩
 have b7:B<w.heap.size:=(ap.1 U).1;have b8:(ax l).length=n*3:=by rw[dC,J]
 obtain⟨ct,cd⟩:=jY l k (by omega);have G:(ax (l.drop k)).length=(n-k)*3:=by rw[dC,bz,J]
 have a7:(ax (l.take k)).length=k*3:=by rw[dC,aS,J,bM (by omega)]
 have a2:∀j v,(ax l)[j]?=some v->q[j]?=some v:=fun j v L=>by
  rw[<-ht,cs]at L
  split at L
  ·simpa using L
  cases L
 have c4:cap<=9223372036854775807:=by unfold maxLen at hc;exact hc
 obtain⟨s,z⟩:∃s:Array bt,s=(q.toList.take ((k+1)*3)++ax (l.drop k)++q.toList.drop ((k+1)*3+(ax (l.drop k)).length)).toArray:=⟨_,rfl⟩;have a3:∀ty Z sc,(co #[198,198] ty #[.slice (some ⟨B,(k+1)*3,none⟩) (n-k) Z,.slice (some ⟨B,k*3,none⟩) (n+1-k) sc]).run prog w.drew=.ok (kE ((n-k:Nat):Int)) (w.drew.setRow B s):=fun ty Z sc=>by
  rw[z];exact lz w.drew _ _ ty 206 3 B (k+1) ((k+1)*3) (n-k) Z ⟨B,k*3,none⟩ (n+1-k) sc (n-k) q _ (ax (l.drop k)) bC qe U (by simp only[eA];split<;>omega) G rfl
   (fun j v L=>by
    rw[mr];rw[<-cd,dS]at L;rw[cell_of_heap (w:=w.drew) U];exact a2 _ _ L) (by rw[G,H];omega) (qd _)
 have a4:s.size=cap*3:=by
  rw[z];simp only[b_,ae,aS,bz,G,aX,H];omega
 have a5:s.toList=q.toList.take ((k+1)*3)++ax (l.drop k)++q.toList.drop ((k+1)*3+(n-k)*3):=by rw[z,G]
 obtain⟨I,V⟩:∃I,I=w.drew.setRow B s:=⟨_,rfl⟩;have O:I.heap[B]?=some (.cells s 206 (0,0)):=by
  rw[V];exact eb w.drew B q _ _ _ U
 have Y:ag (fun b=>b=B) w I:=by
  rw[V];exact(ag.drew (S:=fun b=>b=B) w).trans k_
 have b1:qg I Q e:=⟨(Y.block (ap.1 hv.at_).1 b0).trans hv.at_⟩;obtain⟨y,D⟩:∃y:Array bt,y=(s.toList.take (k*3)++e.cells++s.toList.drop (k*3+e.cells.length)).toArray:=⟨_,rfl⟩;have M:e.cells.length=3:=rfl;have b3:∀ty Z,(co #[198,198] ty #[.slice (some ⟨B,k*3,none⟩) (n+1-k) Z,.slice (some ⟨Q,0,none⟩) 1 1]).run prog I=.ok (kE 1) (I.setRow B y):=fun ty Z=>by
  rw[D];exact lz I _ _ ty 206 3 B k (k*3) (n+1-k) Z ⟨Q,0,none⟩ 1 1 1 s _ e.cells bC qe O (by simp only[eA];split<;>omega) rfl rfl (fun j v L=>b1.cell j v L) (by rw[M,a4];omega) e.cells_one
 have a6:y.size=cap*3:=by
  rw[D];simp only[b_,ae,aS,bz,M,aX,a4];omega
 have b2:y.toList.take ((n+1)*3)=ax (l.insertIdx k e):=by
  rw[rY e l k (by omega),gz];have e1:ax (e::l.drop k)=e.cells++ax (l.drop k):=rfl;rw[e1,D];show((s.toList.take (k*3)++e.cells++s.toList.drop (k*3+e.cells.length))).take ((n+1)*3)=_;rw[a5,M];have d0:(q.toList.take ((k+1)*3)).length=(k+1)*3:=by rw[aS,aX,H,bM (by omega)]
  have t1:(q.toList.take ((k+1)*3)++ax (l.drop k)++q.toList.drop ((k+1)*3+(n-k)*3)).take (k*3)=ax (l.take k):=by
   rw[aU,bh (by omega),dT,bM (by omega),<-ct,<-ht,dT,bM (by omega)]
  have t2:(q.toList.take ((k+1)*3)++ax (l.drop k)++q.toList.drop ((k+1)*3+(n-k)*3)).drop (k*3+3)=ax (l.drop k)++q.toList.drop ((k+1)*3+(n-k)*3):=by
   rw[aU,show k*3+3=(q.toList.take ((k+1)*3)).length by omega,ez]
  rw[t1,t2,aU,<-aU e.cells,<-aU];rw[bh (by simp only[ae,a7,G,M];omega),ch (by simp only[ae,a7,G,M];omega)]
 have b9:∀lb cb,(callFunc 289 #[.slice (some ⟨Q,0,none⟩) 1 1,.slice (some ⟨B,(k+1)*3,none⟩) lb cb]).run prog w=.ok (.value (.bool false)) w:=fun lb cb=>by
  rw[fe func289 (by kernel_rfl) (by kernel_rfl) (by kernel_rfl) (e:=gs #[198,198] #[4]) (by kernel_rfl),
   Lib.run_overlaps_apart w 198 4 206 bC 3 (fun _=>by kernel_rfl) ⟨Q,0,none⟩ ⟨B,(k+1)*3,none⟩ 1 1 lb cb b0 206 206 3 (cap*3) (by unfold jE;rw[hv.at_];rfl) (by unfold jE;simp only;rw[U];simp only[H]) (by omega) (bQ hv.at_ _) (bQ hv.at_ _)]
  rfl
 have c3:prog.follows cW=true:=by kernel_rfl
 have d1:¬((k:Int)=(n:Int)):=by omega
 have b6:¬((cap:Int)<(n:Int)+1):=by omega
 have d2:eB.wrap ((k:Int)+1)=(k:Int)+1:=by rw[da];omega
 have d3:(0:Int)<=(k:Int)+1:=by omega
 have d4:k<=n:=by omega
 have d5:((k:Int)+1).toNat=k+1:=by omega
 have d6:¬(cap=k+1):=by omega
 have d7:(k:Int)<=(n:Int)+1:=by omega
 have d8:¬(cap=k):=by omega
 rw[<-V]at a3;have HR:ba a0 (I.setRow B y) (.slice (some ⟨B,0,none⟩) (n+1) cap) (l.insertIdx k e):=tO hB (dQ b7 Y.2.2.2.1) hc a8 (by rw[cD (by omega),J]) a6 b2 O;have HG:ag (fun b=>b=B) w (I.setRow B y):=Y.trans k_;clear b2 a6 a5 z D a2 h ht Y b1 V O U b8 ct cd G a7;go_enter jH,iP;go_wp2_with(simp only[b9])
 go_region_law_o (refine iQ rfl _ _ 198 198 rfl _ _ (by simp[eH,fS]) (by simp[eH,fS]) (a3 _ _ _) ?_)
 go_wp2_with(at_builtin;refine wpList_copy_runI _ rfl _ _ 198 198 rfl _ _ rfl rfl (b3 _ _) ?_)
 go_ret;exact⟨rfl,HR,HG⟩
theorem Iy(a0 w:bc)(B n cap k vb:Nat)(l:List En)(e:En)(h:ba a0 w (.slice (some ⟨B,0,none⟩) n cap) l)(V:l.length=n)(hk:k<n)(h0:n<=cap)(e4:cap<n+1)(hg:Gr a0 w)(hl:n<=10000)(hv:qg w vb e)(h1:vb≠B):
  dA prog 253 #[.slice (some ⟨B,0,none⟩) n cap,.int .i64 k,.slice (some ⟨vb,0,none⟩) 1 1] w fun ex w'=>
    ∃G,ex=.returned (.slice (some ⟨w.heap.size,0,none⟩) (n+1) G)/\ba a0 w' (.slice (some ⟨w.heap.size,0,none⟩) (n+1) G) (l.insertIdx k e)/\Gr w w':=by
 obtain⟨D,hB,hh,hc,c1,ht⟩:∃D:Array bt,a0.heap.size<=B/\w.heap[B]?=some (.cells D 206 (0,0))/\cap<=maxLen/\D.size=cap*3/\D.toList.take (n*3)=ax l:=by
  rcases h.row.2 with⟨e1,_⟩|⟨g,cp,D,e1,hb,hh,_,hc,c1,ht⟩
  · cases e1
  cases e1;exact⟨D,hb,hh,hc,c1,by rw[V]at ht;exact ht⟩
 obtain⟨i0,d5,d6,d7,c2⟩:=hH;have d8:B<w.heap.size:=(ap.1 hh).1;have d0:vb<w.heap.size:=(ap.1 hv.at_).1;have d9:(ax l).length=n*3:=by rw[dC,V]
 obtain⟨ct,cd⟩:=jY l k (by omega);have Q:(ax (l.drop k)).length=(n-k)*3:=by rw[dC,bz,V]
 have z:(ax (l.take k)).length=k*3:=by rw[dC,aS,V,bM (by omega)]
 have Y:∀j v,(ax l)[j]?=some v->D[j]?=some v:=fun j v H=>by
  rw[<-ht,cs]at H
  split at H
  · simpa using H
  cases H
 have g0:cap<=9223372036854775807:=by unfold maxLen at hc;exact hc
 have c3:(n:Int)+1-(k:Int)=((n+1-k:Nat):Int):=by omega
 have b3:k+(n+1-k)=n+1:=by omega
 have b0:(fA i0.size k (.slice (some ⟨B,0,none⟩) k cap)).run prog w.drew=.ok (ax (l.take k)).toArray w.drew:=by
  rw[d7];exact run_firstCells_some w.drew 3 k ⟨B,0,none⟩ k cap (ax (l.take k)) z (fun j v H=>by
    rw[mr,cell_of_heap (w:=w.drew) hh,cF];refine Y j v ?_;rw[<-ct,cs]at H
    split at H
    · exact H
    cases H)
 obtain⟨G,hG⟩:∃G,G=grownCap w (n+1) cap 206:=⟨_,rfl⟩;have e0:n+1<=G:=by rw[hG];exact grownCap_ge w _ _ _
 have b4:G<=maxLen:=by rw[hG];exact grownCap_le_maxLen w (n+1) cap 206 (by unfold maxLen;omega)
 have g3:G<=9223372036854775807:=by unfold maxLen at b4;exact b4
 obtain⟨Z,hZ⟩:∃Z:List bt,Z=(bu (ek #[.string ⟨#[]⟩,.string ⟨#[]⟩,.int .i64 0]).cells (n+1-k)++bu (ek #[.string ⟨#[]⟩,.string ⟨#[]⟩,.int .i64 0]).cells (G-(n+1))).toList:=⟨_,rfl⟩;have b5:Z.length=(G-k)*3:=by
  rw[hZ];have e1:∀m,(bu (ek #[.string ⟨#[]⟩,.string ⟨#[]⟩,.int .i64 0]).cells m).size=m*3:=fun m=>by
    rw[size_zeroCells]
    rfl
  rw[aX,Array.size_append,e1,e1];omega
 obtain⟨s,S⟩:∃s:Array bt,s=(ax (l.take k)++Z).toArray:=⟨_,rfl⟩;have c5:s.size=G*3:=by
  rw[S,b_,ae,z,b5];omega
 have c6:∀ty,(kM #[198,3] ty #[.slice (some ⟨B,0,none⟩) k cap,.int .i64 ((n:Int)+1-(k:Int))]).run prog w=
    .ok (.slice (some ⟨w.heap.size,0,none⟩) (n+1) G) (w.drew.alloc (.cells s 206)):=fun ty=>by
  have h:=Lib.run_append_grow_zeros w 198 3 ty 206 i0 _ .i64 .i64 bC underlying3 d5 d6 (some ⟨B,0,none⟩) k cap (ax (l.take k)) b0 (n+1-k) (by omega) (by omega) (by omega) (by omega) (by rw[c2];omega) (by rw[c2,b3];exact growslice_fits (by omega) (by omega));rw[b3,<-hG]at h;rw[c3];have e2:s=(ax (l.take k)).toArray++bu (ek #[.string ⟨#[]⟩,.string ⟨#[]⟩,.int .i64 0]).cells (n+1-k)++bu (ek #[.string ⟨#[]⟩,.string ⟨#[]⟩,.int .i64 0]).cells (G-(n+1)):=by
    rw[S,hZ];apply Array.ext';simp
  rw[e2];exact h
 obtain⟨M,a5⟩:∃M,M=w.drew.alloc (.cells s 206):=⟨_,rfl⟩;rw[<-a5]at c6;have a6:Gr w M:=by
  rw[a5];exact((Gr.refl w).drew).alloc _
 have a1:M.heap[w.heap.size]?=some (.cells s 206 (0,0)):=by
  rw[a5];exact heap_alloc_new w.drew _
 have c7:qg M vb e:=⟨(a6.block vb d0).trans hv.at_⟩;have b6:M.heap[B]?=some (.cells D 206 (0,0)):=(a6.block B d8).trans hh;have L:e.cells.length=3:=rfl;obtain⟨q,O⟩:∃q:Array bt,q=(s.toList.take (k*3)++e.cells++s.toList.drop (k*3+e.cells.length)).toArray:=⟨_,rfl⟩;have b1:∀ty dc,(co #[198,198] ty #[.slice (some ⟨w.heap.size,k*3,none⟩) (n+1-k) dc,.slice (some ⟨vb,0,none⟩) 1 1]).run prog M=.ok (kE 1) (M.setRow w.heap.size q):=fun ty dc=>by
  rw[O];exact lz M _ _ ty 206 3 w.heap.size k (k*3) (n+1-k) dc ⟨vb,0,none⟩ 1 1 1 s _ e.cells bC qe a1 (by simp only[eA];split<;>omega) rfl rfl (fun j v H=>c7.cell j v H) (by rw[L,c5];omega) e.cells_one
 have b7:q.toList=ax (l.take k)++(e.cells++Z.drop 3):=by
  rw[O,S,L];show((ax (l.take k)++Z).take (k*3)++e.cells++(ax (l.take k)++Z).drop (k*3+3))=_;have e3:(ax (l.take k)++Z).drop (k*3+3)=Z.drop 3:=by
    rw[<-z,<-List.drop_drop,ez]
  rw[e3,<-z,iF,aU]
 have a2:q.size=G*3:=by
  rw[<-aX,b7];simp only[ae,bz,z,L,b5];omega
 obtain⟨I,a7⟩:∃I,I=M.setRow w.heap.size q:=⟨_,rfl⟩;rw[<-a7]at b1;have U:I.heap[w.heap.size]?=some (.cells q 206 (0,0)):=by
  rw[a7];exact eb M w.heap.size s _ _ _ a1
 have b8:ag (fun b=>b=w.heap.size) M I:=by
  rw[a7];exact k_
 have c8:I.heap[B]?=some (.cells D 206 (0,0)):=(b8.block (ap.1 b6).1 (by omega)).trans b6;obtain⟨y,J⟩:∃y:Array bt,y=(q.toList.take ((k+1)*3)++ax (l.drop k)++q.toList.drop ((k+1)*3+(ax (l.drop k)).length)).toArray:=⟨_,rfl⟩;have d1:∀ty dc sc,(co #[198,198] ty #[.slice (some ⟨w.heap.size,(k+1)*3,none⟩) (n-k) dc,.slice (some ⟨B,k*3,none⟩) (n-k) sc]).run prog I.drew=.ok (kE ((n-k:Nat):Int)) (I.drew.setRow w.heap.size y):=fun ty dc sc=>by
  rw[J];exact lz I.drew _ _ ty 206 3 w.heap.size (k+1) ((k+1)*3) (n-k) dc ⟨B,k*3,none⟩ (n-k) sc (n-k) q _ (ax (l.drop k)) bC qe U (by simp only[eA];split<;>omega) Q rfl
    (fun j v H=>by
      rw[mr];rw[<-cd,dS]at H;rw[cell_of_heap (w:=I.drew) c8];exact Y _ _ H) (by rw[Q,a2];omega) (qd _)
 have b2:y.size=G*3:=by
  rw[J];simp only[b_,ae,aS,bz,Q,aX,a2];omega
 have c9:y.toList.take ((n+1)*3)=ax (l.insertIdx k e):=by
  rw[rY e l k (by omega),gz];have e1:ax (e::l.drop k)=e.cells++ax (l.drop k):=rfl;rw[e1,J];show(q.toList.take ((k+1)*3)++ax (l.drop k)++q.toList.drop ((k+1)*3+(ax (l.drop k)).length)).take ((n+1)*3)=_;have t1:q.toList.take ((k+1)*3)=ax (l.take k)++e.cells:=by
    rw[b7,<-aU,bh (by simp only[ae,z,L];omega),ch (by simp only[ae,z,L];omega)]
  rw[t1,bh (by simp only[ae,z,Q,L];omega),ch (by simp only[ae,z,Q,L];omega),aU]
 have e9:prog.follows cW=true:=by kernel_rfl
 have h2:¬((k:Int)=(n:Int)):=by omega
 have d4:(cap:Int)<(n:Int)+1:=by omega
 have h3:eB.wrap ((k:Int)+1)=(k:Int)+1:=by rw[da];omega
 have h4:(0:Int)<=(k:Int)+1:=by omega
 have h5:k<=n:=by omega
 have h6:((k:Int)+1).toNat=k+1:=by omega
 have h7:¬(G=k):=by omega
 have g4:¬(G=k+1):=by omega
 have h8:¬(cap=k):=by omega
 have h9:(k:Int)<=(n:Int):=by omega
 have i1:(k:Int)<=(n:Int)+1:=by omega
 have HG:Gr w (I.drew.setRow w.heap.size y):=(k_ (w:=I.drew)).gr ((b8.gr a6 (fun b hb=>el hb.symm)).drew) (fun b hb=>el hb.symm);have HR:ba a0 (I.drew.setRow w.heap.size y) (.slice (some ⟨w.heap.size,0,none⟩) (n+1) G) (l.insertIdx k e):=tO hg.size (by show w.heap.size<I.drew.heap.size;have:=(ap.1 U).1;exact this) b4 e0 (by rw[cD (by omega),V]) b2 c9 (w:=I.drew) U;clear c9 b2 a2 b7 O J Y h ht a6 c7 a5 a1 hh d9 ct cd Q z c5 S hZ b5 b0 hG c3 b3 b6 c8 a7 U b8;go_enter jH,iP;go_wp2_with(first
  |( at_builtin;refine es _ rfl _ _ _ _ rfl _ _ rfl rfl _ _ (c6 _) ?_)
  |( at_builtin;refine wpList_copy_runI _ rfl _ _ 198 198 rfl _ _ rfl rfl (b1 _ _) ?_))
 go_region_law_o (refine iQ rfl _ _ 198 198 rfl _ _ (by simp[eH,fS]) (by simp[eH,fS]) (d1 _ _ _) ?_)
 go_wp2_with fail
 go_ret;exact⟨G,rfl,HR,HG⟩
theorem qg.qW{w:bc}{b:Nat}{e:En}(h:qg w b e):oX w (.slice (some ⟨b,0,none⟩) 1 1) [e]:=by
 refine .inr ⟨b,0,1,rfl,(ap.1 h.at_).1,fun i hi=>?_⟩;have q:i=0:=by simpa using hi
 subst q;rw[cell_of_heap h.at_,cell_of_heap h.at_,cell_of_heap h.at_];exact⟨rfl,rfl,rfl⟩
theorem FN{v q:bt}{w:bc}(h:q.ownBlock=v.ownBlock\/q.ownBlock=some w.heap.size):oY v q w:=fun b s=>by
 rcases h with y|y
 ·exact .inl (y.symm.trans s)
 rw[y]at s;exact .inr (el (bW s))
theorem MN{a0 w w':bc}{v:bt}{l:List En}(h:ba a0 w v l)(q:Gr a0 w)(g:ag (fun b=>v.ownBlock=some b) w w'):Gr a0 w':=g.gr q fun _ s=>aP h _ s
theorem Kp(a0 w:bc)(v:bt)(l:List En)(M:Nat)(e:En)(h:ba a0 w v l)(G:Gr a0 w)(Z:l.length<=10000)(hv:qg w M e):
  dA prog 253 #[v,.int .i64 l.length,.slice (some ⟨M,0,none⟩) 1 1] w fun ex I=>
   ∃J,ex=.returned J/\ba a0 I J (l++[e])/\Gr a0 I/\ag (fun b=>v.ownBlock=some b) w I/\oY v J w:=by
 have H:=ak h;have O:=ak G;have Q:=ak hv.qW;have D:l.length+[e].length<=1000000:=by simp;omega
 rcases h.at' with⟨rfl,rfl⟩|⟨B,cap,rfl,S,_⟩
 ·clear h G hv;go_enter jH,iP;go_wp2_with(at_builtin;refine oe (a0:=a0) rfl _ _ rfl _ [] rfl H.out _ [e] rfl Q.out D O.out ?_;intro U V q s y z)
  all_goals
   go_ret;exact⟨_,rfl,q,s,y,FN z⟩
 have hc:l.length<=cap:=S;have hm:cap<=9223372036854775807:=by
  rcases h.row.2 with⟨L,_⟩|⟨g,cp,Y,L,_,_,_,hc,_⟩
  ·cases L
  cases L;unfold maxLen at hc;exact hc
 clear h G hv;go_enter jH,iP;go_wp2_with(at_builtin;refine oe (a0:=a0) rfl _ _ rfl _ l rfl H.out _ [e] rfl Q.out D O.out ?_;intro U V q s y z)
 all_goals
  go_ret;exact⟨_,rfl,q,s,y,FN z⟩
theorem FQ(a0 w:bc)(v:bt)(l:List En)(k y:Nat)(e:En)(h:ba a0 w v l)(Z:k<=l.length)(D:Gr a0 w)(L:l.length<=10000)(hv:qg w y e)(S:v.ownBlock≠some y):
  dA prog 253 #[v,.int .i64 k,.slice (some ⟨y,0,none⟩) 1 1] w fun ex z=>
   ∃M,ex=.returned M/\ba a0 z M (l.insertIdx k e)/\Gr a0 z/\ag (fun b=>v.ownBlock=some b) w z/\oY v M w:=by
 rcases fM k l.length with s|Y
 ·rcases h.at' with⟨_,O⟩|⟨B,cap,rfl,V,h3,h4,_⟩
  ·rw[O]at s;exact absurd s (by simp)
  have J:y≠B:=fun H=>S (by rw[H];rfl);rcases fM cap (l.length+1)with hc|hc
  ·refine(Iy a0 w B l.length cap k y l e h rfl s V hc D L hv J).mono ?_;rintro ex z ⟨G,rfl,Q,q⟩;exact⟨_,rfl,Q,D.trans q,ag.ah q,fun b I=>.inr (el (bW I))⟩
  refine(EJ a0 w B l.length cap k y l e h rfl s hc D L hv J).mono ?_;rintro ex z ⟨rfl,Q,q⟩;have U:ag (fun b=>(jZ (some ⟨B,0,none⟩) l.length cap).ownBlock=some b) w z:=⟨q.1,q.2.1,q.2.2.1,q.2.2.2.1,fun b I hn=>q.2.2.2.2 b I fun H=>hn (by rw[H];rfl)⟩;exact⟨_,rfl,Q,MN h D U,U,fun b I=>.inl I⟩
 have H:k=l.length:=by omega
 subst H;have O:l.insertIdx l.length e=l++[e]:=by
  rw[rY e l l.length (di _),de,List.drop_length]
 rw[O];exact Kp a0 w v l y e h D L hv
theorem S2(l:List En)(v:bt)(w:bc)(h:oX w v l)(Z:l.length<=10000):
  dA prog 293 #[v] w fun ex I=>∃J,ex=.returned J/\ba w I J l/\Gr w I:=by
 have H:=ak h;have S:∀(w:bc) (a:Option Addr) (n c z B:Nat),(binOp .eql 198 (.slice a n c) (.slice none z B)).run prog w=.ok (.bool a.isNone) w:=fun w a n c z B=>Lib.run_eql_slice_nil w _ _ a n c z B bC;rcases h with⟨rfl,rfl⟩|⟨b,U,c,rfl,M,O⟩
 ·go_enter func293,ntmps293;go_wp2_with fail
  go_ret;exact⟨_,rfl,ba.nil _ _,Gr.refl _⟩
 have q:Gr w (w.alloc (.cells #[] 206)):=(Gr.refl w).alloc _;have L:ba w (w.alloc (.cells #[] 206)) (.slice (some ⟨w.heap.size,0,none⟩) 0 0) []:=World.ownsRow_lit w #[] 0 (di _) (by decide) rfl;have Q:=ak L;have s:=ak q;have D:([]:List En).length+l.length<=1000000:=by simp;omega
 clear L q O M;go_enter func293,ntmps293;go_wp2_with(at_builtin;refine oe (a0:=w) rfl _ _ rfl _ [] rfl Q.out _ l rfl (H.out.gr s.out) D s.out ?_;intro v3 w3 y G V Y)
 go_ret;exact⟨_,rfl,by rw[List.nil_append]at y;exact y,G⟩
theorem mM{t:jk}(B:Nat):∀(vs:List bt) (o:Nat) (b:Array bt) (w:bc),w.heap[B]?=some (.cells b t (0,0))->o+vs.length<=b.size->w.setCells B o vs=w.setRow B (b.toList.take o++vs++b.toList.drop (o+vs.length)).toArray
 |[],o,b,w,q,_=>by
  simp only[iR,hO,bF,jT,cj,Array.toArray_toList];rw[setRow_self w B b t (0,0) q]
 |v::r,o,b,w,q,s=>by
  rw[iR,setCell_eq_setRow w B o b t (0,0) v q];have y:=mM B r (o+1) (b.setIfInBounds o v) (w.setRow B (b.setIfInBounds o v)) (eb w B b _ t _ q) (by simp at s⊢;omega);rw[y,setRow_setRow]
  congr 2
  have e:=list_seg_step b.toList o v r (by simp at s⊢;omega);simpa[Array.toList_setIfInBounds,Nat.add_assoc]using e
def iJ:List bt:=[.string ⟨#[]⟩,.string ⟨#[]⟩,.int .i64 0]
theorem y_(w:bc)(ty:jk)(b o c:Nat)(hc:∀j,j<3->(w.cell? ⟨b,o+j,none⟩).isSome=true)(hf:∀j,j<3->w.frozen? ⟨b,o+j,none⟩=false):
  (eT #[198] ty #[.slice (some ⟨b,o,none⟩) 1 c]).run prog w=.ok (.tuple #[]) (w.setCells b o iJ):=by
 have hv:∀w,(zeroValue 206).run prog w=.ok (.agg #[.string ⟨#[]⟩,.string ⟨#[]⟩,.int .i64 0]) w:=zeroValue206;have y:(bu (ek #[.string ⟨#[]⟩,.string ⟨#[]⟩,.int .i64 0]).cells 1).toList=iJ:=by
  apply List.ext_getElem
  ·simp[bu,eV,iJ]
  intro i B z;have hi:i<3:=by simpa[iJ]using z
  match i,hi with
  |0,_=>simp[bu,eV,iJ]
  |1,_=>simp[bu,eV,iJ]
  |2,_=>simp[bu,eV,iJ]
 have q:=run_storeCells_cells (P:=prog) b o iJ 0 w (by simpa[iJ]using hc) (by simpa[iJ]using hf) (by intro v s;simp[iJ]at s;rcases s with h|h<;>(rw[h];rfl));simp only[jT]at q;simp[eT,iu bC,hv,y,q]
theorem xQ{b:Type}:∀(l:List b) (i:Nat),i<l.length->l.eraseIdx i=l.take i++l.drop (i+1)
 |[],i,h=>by simp at h
 |a::l,0,_=>by simp
 |a::l,i+1,h=>by
  have:=xQ l i (by simpa using h);simp[this]
theorem Qk(a0 w:bc)(v:bt)(l:List En)(k:Nat)(h:ba a0 w v l)(hk:k<l.length)(hg:Gr a0 w)(hl:l.length<=10000):
  dA prog 255 #[v,.int .i64 k,.int .i64 ((k:Int)+1)] w fun ex w'=>
   ∃v',ex=.returned v'/\ba a0 w' v' (l.eraseIdx k)/\Gr a0 w'/\ag (fun b=>v.ownBlock=some b) w w'/\v'.ownBlock=v.ownBlock:=by
 rcases h.row.2 with⟨_,e2⟩|⟨B,cap,H,rfl,hB,V,a6,hc,a7,ht⟩
 ·omega
 obtain⟨n,M⟩:∃n,l.length=n:=⟨_,rfl⟩;rw[M]at hk a6 ht hl⊢;obtain⟨i0,b8,e8,b9,e9⟩:=hH;have c0:B<w.heap.size:=(ap.1 V).1;have c1:(ax l).length=n*3:=by rw[dC,M]
 obtain⟨ct,cd⟩:=jY l k (by omega);obtain⟨c2,a9⟩:=jY l (k+1) (by omega);have G:(ax (l.drop (k+1))).length=(n-(k+1))*3:=by rw[dC,bz,M]
 have a3:(ax (l.take k)).length=k*3:=by rw[dC,aS,M,bM (by omega)]
 have Z:∀j v,(ax l)[j]?=some v->H[j]?=some v:=fun j v hj=>by
  rw[<-ht,cs]at hj
  split at hj
  ·simpa using hj
  cases hj
 have d0:cap<=9223372036854775807:=by unfold maxLen at hc;exact hc
 obtain⟨q,z⟩:∃q,q=ax (l.drop (k+1)):=⟨_,rfl⟩;rw[<-z]at G;obtain⟨A,hA,b3⟩:∃A:Addr,(if cap=k+1 then some (⟨B,0,none⟩:Addr)else some ⟨B,(k+1)*3,none⟩)=some A/\Hid (∀t u,q[t]?=some u->w.drew.cell? (A.add t)=some u):=by
  by_cases h:cap=k+1
  ·refine⟨⟨B,0,none⟩,by simp[h],fun t u hu=>?_⟩;have h0:q.length=0:=by rw[G];omega
   rw[List.length_eq_zero_iff.1 h0]at hu;simp at hu
  refine⟨⟨B,(k+1)*3,none⟩,by simp[h],fun t u hu=>?_⟩;rw[mr,cell_of_heap (w:=w.drew) V];refine Z _ _ ?_;rw[z,<-a9,dS]at hu;exact hu
 have s1:Hid (q.length=(n-(k+1))*3):=G;have s2:Hid (∀u∈q,u.oneCell'=true):=by rw[z];exact qd _
 have s3:Hid (∀t,t<q.length->(w.drew.cell? ⟨B,0+k*3+t,none⟩).isSome=true/\w.drew.frozen? ⟨B,0+k*3+t,none⟩=false):=by
  intro t c3;rw[G]at c3;rw[cell_of_heap (w:=w.drew) V,cF];exact⟨by rw[dZ (by omega)];rfl,bQ (w:=w.drew) V _⟩
 obtain⟨D,a4⟩:∃D,D=w.drew.setCells B (0+k*3) q:=⟨_,rfl⟩;obtain⟨s,I⟩:∃s:Array bt,s=(H.toList.take (k*3)++q++H.toList.drop (k*3+q.length)).toArray:=⟨_,rfl⟩;have O:D=w.drew.setRow B s:=by
  rw[a4,I,cF];exact mM B q (k*3) H w.drew V (by rw[G,a7];omega)
 have Q:s.size=cap*3:=by
  rw[I];simp only[b_,ae,aS,bz,G,aX,a7];omega
 have L:D.heap[B]?=some (.cells s 206 (0,0)):=by
  rw[O];exact eb w.drew B H _ _ _ V
 have d1:∀ty c,(eT #[198] ty #[.slice (some ⟨B,(n-1)*3,none⟩) 1 c]).run prog D=.ok (.tuple #[]) (D.setCells B ((n-1)*3) iJ):=fun ty c=>
  y_ D ty B ((n-1)*3) c (fun j hj=>by rw[cell_of_heap L,dZ (by omega)];rfl) (fun j hj=>bQ L _)
 obtain⟨y,J⟩:∃y:Array bt,y=(s.toList.take ((n-1)*3)++iJ++s.toList.drop ((n-1)*3+iJ.length)).toArray:=⟨_,rfl⟩;have b0:D.setCells B ((n-1)*3) iJ=D.setRow B y:=by
  rw[J];exact mM B iJ ((n-1)*3) s D L (by simp[iJ];omega)
 have a2:y.size=cap*3:=by
  rw[J];simp only[b_,ae,aS,bz,aX,Q,iJ,bP,bF];omega
 have b1:y.toList.take ((n-1)*3)=ax (l.eraseIdx k):=by
  rw[xQ l k (by omega),gz,J,<-z];show(s.toList.take ((n-1)*3)++iJ++s.toList.drop ((n-1)*3+iJ.length)).take ((n-1)*3)=_;have t0:(s.toList.take ((n-1)*3)).length=(n-1)*3:=by rw[aS,aX,Q,bM (by omega)]
  rw[aU,bh (by omega),dT,Nat.min_self,I];show(H.toList.take (k*3)++q++H.toList.drop (k*3+q.length)).take ((n-1)*3)=_;have t1:H.toList.take (k*3)=ax (l.take k):=by
   rw[<-ct,<-ht,dT,bM (by omega)]
  rw[t1,bh (by simp only[ae,a3,G];omega),ch (by simp only[ae,a3,G];omega)]
 have a5:ag (fun b=>b=B) w D:=by
  rw[O];exact(ag.drew (S:=fun b=>b=B) w).trans k_
 have HR:ba a0 (D.setRow B y) (.slice (some ⟨B,0,none⟩) (n-1) cap) (l.eraseIdx k):=tO hB (dQ c0 a5.2.2.2.1) hc (by omega) (by rw[List.length_eraseIdx_of_lt (by omega),M]) a2 b1 L;have Y:ag (fun b=>b=B) w (D.setRow B y):=a5.trans k_;have HX:ag (fun b=>(jZ (some ⟨B,0,none⟩) n cap).ownBlock=some b) w (D.setRow B y):=⟨Y.1,Y.2.1,Y.2.2.1,Y.2.2.2.1,fun b hb hn=>Y.2.2.2.2 b hb fun e1=>hn (by rw[e1];rfl)⟩;have b2:Gr a0 (D.setRow B y):=Y.gr hg fun b hb=>by rw[hb];exact hB
 have c9:prog.follows cW=true:=by kernel_rfl
 have hW:Hid (D=w.drew.setCells B (0+k*3) q):=a4;have c4:=ak HR;have c5:=ak HX;have b4:=ak b2;have U:=ak b0;have g0:¬((k:Int)=(k:Int)+1):=by omega
 have g3:k<=cap:=by omega
 have d2:k+1<=cap:=by omega
 have g4:((k:Int)+1).toNat=k+1:=by omega
 have g5:(0:Int)<=(k:Int)+1:=by omega
 have g6:(k:Int)+1<=(n:Int):=by omega
 have d3:k+1<=n:=by omega
 have g7:n<=cap:=a6;have g8:k+(n-(k+1))=n-1:=by omega
 have g9:n-(n-1)=1:=by omega
 have h1:¬(cap=n-1):=by omega
 clear b1 a2 Q I J Z h ht a5 a4 O L V c1 ct cd c2 a9 G a3 z HR HX Y b2 b0;go_enter func255,ntmps255;go_wp2_with fail
 go_region_law_o (refine step_append_room rfl (.tmp 22) (.tmp 25) 198 rfl 206 i0 3 bC b8 b9 B 0 k cap (by simp[eH,fS]) A (n-(k+1)) (cap-(k+1)) q (by simp[eH,fS]) s1.out b3.out s2.out (by omega) s3.out ?_;rw[<-hW.out])
 go_wp2_with fail
 go_ret;exact⟨_,rfl,by rw[U.out];exact c4.out,by rw[U.out];exact b4.out,by rw[U.out];exact c5.out,rfl⟩
end
section
open Go Go.RowKit Go.Lib
def bi(p:Nat)(leaf:Bool)(s:bt):bt:=.agg #[.int .i64 (p:Int),.bool leaf,s]
theorem O6(p:Nat)(leaf:Bool)(s:bt)(e:En)(h:e.ok leaf)(w:bc):dA prog 292 #[bi p leaf s,e.val] w (ar w (.int .i64 (e.sz leaf:Nat))):=by
 have G:=h.key;have hi:=h.item;obtain⟨y,q,z⟩:=e;simp only at G hi;unfold bi En.val En.sz;obtain⟨a,ha⟩:∃a,y.size=a:=⟨_,rfl⟩;obtain⟨b,B⟩:∃b,q.size=b:=⟨_,rfl⟩;have D:Gr w ((w.alloc (.cells #[.int .i64 (p:Int),.bool leaf,s] 200)).alloc (.cells #[.string y,.string q,.int .i64 (z:Int)] 206)):=((Gr.refl w).alloc _).alloc _;simp only[ha,B];cases leaf with
 |true=>
  go_enter func292,ntmps292;go_wp2_with fail
  go_ret;refine ar.mk ?_ D;simp only[ha,B];go_num
 |false=>
  go_enter func292,ntmps292;go_wp2_with fail
  go_ret;refine ar.mk ?_ D;simp only[ha];go_num
theorem s_(leaf:Bool)(l:List En)(i:Nat)(h:i<l.length):dq leaf (l.take (i+1))=dq leaf (l.take i)+(l[i]).sz leaf:=by
 rw[cL h,ly];simp[dq]
theorem qX(leaf:Bool):∀l:List En,(∀e∈l,e.ok leaf)->dq leaf l<=162*l.length
 |[],_=>by simp[dq]
 |e::l,h=>by
  have q:=qX leaf l fun x b=>h x (bT _ b);have s:=En.oV (h e bv);rw[cE,bP];omega
theorem tP(p:Nat)(leaf:Bool)(s:bt)(l:List En)(w:bc)(h:oX w s l)(Q:∀e∈l,e.ok leaf)(hl:l.length<=10000):dA prog 291 #[bi p leaf s] w (ar w (.int .i64 (aj leaf l:Nat))):=by
 have H:=ak h;have G:=ak Q;obtain⟨L,M,rfl⟩:=h.form;unfold bi;have U:Gr w (w.alloc (.cells #[.int .i64 (p:Int),.bool leaf,.slice L l.length M] 200)):=(Gr.refl w).alloc _;have c0:∀D,Gr (w.alloc (.cells #[.int .i64 (p:Int),.bool leaf,.slice L l.length M] 200)) D->D.cell? ⟨w.heap.size,0,none⟩=some (.int .i64 (p:Int))/\D.cell? ⟨w.heap.size,1,none⟩=some (.bool leaf)/\D.cell? ⟨w.heap.size,2,none⟩=some (.slice L l.length M):=fun D g=>⟨g.keeps (by rw[aJ];rfl),g.keeps (by rw[aJ];rfl),g.keeps (by rw[aJ];rfl)⟩;have C0:=ak c0;have I:=ak U;clear h Q c0 U;go_enter func291,ntmps291;go_wp2_with fail
 obtain⟨NB,V⟩:∃NB,w.heap.size=NB:=⟨_,rfl⟩;obtain⟨W0,Y⟩:∃W0,w.alloc (.cells #[.int .i64 (p:Int),.bool leaf,.slice L l.length M] 200)=W0:=⟨_,rfl⟩;rw[V]at C0⊢;rw[Y]at C0 I⊢;clear V Y;go_loopw [3,9] (fun kv iv D=>∃i:Nat,i<=l.length/\iv=.int .i64 i/\kv=.int .i64 (aj leaf (l.take i):Nat)/\Gr W0 D) (fun _ iv _=>l.length-(bX iv).toNat)
 case atStart=>exact⟨0,ea _,rfl,rfl,Gr.refl _⟩
 case round=>
  obtain⟨i,hi,rfl,rfl,O⟩:=hrel;obtain⟨n0,n1,n2⟩:=C0.out _ O;have HG:=ak O;by_cases q:i<l.length
  ·obtain⟨b,y,rfl,hb,Z⟩:∃b y,L=some ⟨b,y,none⟩/\b<w.heap.size/\eO w b y l:=by
    rcases H.out with⟨_,e2⟩|⟨b,y,c,e,hb,Z⟩
    ·rw[e2]at q;exact absurd q (by simp)
    cases e;exact⟨b,y,rfl,hb,Z⟩
   have c5:(i:Int)<(l.length:Int):=by omega
   obtain⟨c1,c2,c3⟩:=(Z.gr (I.out.trans O)) i q;have a5:=s_ leaf l i q;have c6:=En.oV (G.out l[i] (dg q));have a6:=qX leaf (l.take i) fun e he=>G.out e (bj he);have a7:(l.take i).length<=10000:=by rw[aS];omega
   have J:=O6 p leaf (.slice (some ⟨b,y,none⟩) l.length M) l[i] (G.out l[i] (dg q));have B:Gr wr (wr.alloc (.cells #[.string l[i].key,.string l[i].item,.int .i64 (l[i].cU:Int)] 206)):=(Gr.refl wr).alloc _;have m0:=B.keeps n0;have m1:=B.keeps n1;have m2:=B.keeps n2;have a8:=ak B;unfold bi En.val at J;obtain⟨S,hS⟩:∃S,aj leaf (l.take i)=S:=⟨_,rfl⟩;have a0:aj leaf (l.take (i+1))=S+(l[i]).sz leaf:=by
    rw[<-hS];unfold aj;omega
   have c7:S<=2000000:=by
    rw[<-hS];unfold aj;omega
   rw[hS];have a9:=ak a0;generalize l[i].sz leaf=z at*;generalize l[i].key=ky at*;generalize l[i].item=it at*;generalize(l[i].cU:Int)=pgi at*;clear Z a5 a6 a7 hS a0 O;go_wp2_with fail
   refine(J _).mono ?_;rintro e w3 ⟨rfl,a1⟩;have b0:=ak ((HG.out.trans a8.out).trans a1);clear a1 J;go_wp2_with fail
   exact⟨⟨i+1,by omega,by go_num,by rw[a9.out];go_num,b0.out⟩,by simp[bX];omega⟩
  have b1:i=l.length:=by omega
  subst b1;rw[de];clear O n0 n1 n2;go_wp2_with fail
  go_ret;exact ar.mk rfl (I.out.trans HG.out)
end
section
open Go Go.RowKit
theorem S3(e:En)(key:ByteArray)(w:bc):dA prog 172 #[e.val,.string key] w (ar w (.int .i64 (g_ e.key key))):=by
 obtain⟨q,it,b⟩:=e;unfold En.val g_;have s:Gr w (w.alloc (.cells #[.string q,.string it,.int .i64 (b:Int)] 206)):=(Gr.refl w).alloc _;go_enter func172,ntmps172;go_wp2_with(go_at_call 173;refine(Tryz.strings_Compare _ _ _).mono ?_;rintro e y ⟨rfl,rfl⟩)
 go_ret;exact ar.mk rfl s
theorem Ql(lt:Nat->Bool):∀f i,yZ lt f i i=i
 |0,_=>rfl
 |f+1,i=>by
  unfold yZ;rw[if_neg (Nat.lt_irrefl i)]
def aH(l:List En):List ByteArray:=l.map En.key
theorem Qm(l:List En)(s:bt)(key:ByteArray)(w:bc)(h:oX w s l)(hl:l.length<=10000):
  dA prog 171 #[s,.string key,.func (.func 172) #[] #[]] w (ar w (.tuple #[.int .i64 (am (aH l) key:Nat),.bool (dR (aH l) key)])):=by
 have H:=ak h;obtain⟨ao,ca,rfl⟩:=h.form;have eg:∀args w,(callFunc 172 args).run prog w=.ok (.enter 172 args) w:=enters_of func172 (by kernel_rfl) rfl;have V:(aH l).length=l.length:=by unfold aH;rw[em]
 have Y:∀i (hi:i<l.length),(aH l).getD i fJ=l[i].key:=fun i hi=>by unfold aH;simp[List.getD_eq_getElem?_getD,hi]
 have Z:=ak Y;have a0:=ak V;clear h V Y;obtain⟨S,hS⟩:∃S,am (aH l) key=S:=⟨_,rfl⟩;obtain⟨T0,B⟩:∃T0,dR (aH l) key=T0:=⟨_,rfl⟩;have HS:=ak hS;have HT:=ak B;rw[hS,B];clear hS B;go_enter func171,ntmps171;go_wp2_with fail
 go_loopw [9,10] (fun iv jv w'=>∃i j f:Nat,i<=j/\j<=l.length/\j-i<=f/\iv=.int .i64 i/\jv=.int .i64 j/\yZ (Iw (aH l) key) f i j=S/\Gr w w') (fun iv jv _=>(bX jv).toNat-(bX iv).toNat)
 case atStart=>exact⟨0,l.length,l.length,ea _,di _,by omega,rfl,rfl,by
  have:=HS.out;unfold am at this;rw[a0.out]at this;exact this,Gr.refl _⟩
 case round=>
  obtain⟨i,j,f,d1,hj,hf,rfl,rfl,z,M⟩:=hrel;by_cases b8:i<j
  ·obtain⟨f',rfl⟩:∃f',f=f'+1:=⟨f-1,by omega⟩;obtain⟨b,y,rfl,U,G⟩:∃b y,ao=some ⟨b,y,none⟩/\b<w.heap.size/\eO w b y l:=by
    rcases H.out with⟨_,e2⟩|⟨b,y,c,e,U,G⟩
    ·rw[e2]at hj;simp at hj;omega
    cases e;exact⟨b,y,rfl,U,G⟩
   have c5:(i:Int)<(j:Int):=by omega
   obtain⟨m,hm⟩:∃m,(i+j)/2=m:=⟨_,rfl⟩;have a3:m<l.length:=by omega
   have d2:i<=m/\m<j:=by omega
   unfold yZ at z;rw[if_pos b8,hm]at z;have c6:(((i:Int)+(j:Int))/2)=(m:Int):=by omega
   have c7:(m:Int)<(l.length:Int):=by omega
   obtain⟨c1,c2,c3⟩:=(G.gr M) m a3;have a4:Iw (aH l) key m=decide (g_ l[m].key key<0):=by
    unfold Iw;rw[Z.out m a3]
   rw[a4]at z;have hc:=S3 l[m] key;unfold En.val at hc;generalize l[m].key=O at*;generalize l[m].item=it at*;generalize(l[m].cU:Int)=pgi at*;have a5:=ak z;have HG:=ak M;clear G z a4 M;go_wp2_with fail
   refine(hc wr).mono ?_;rintro e w3 ⟨rfl,I⟩;have L:=ak (HG.out.trans I);clear I hc c1 c2 c3;by_cases a6:g_ O key<0
   ·have J:=a5.out;rw[decide_eq_true a6,if_pos rfl]at J;generalize g_ O key=q at*;go_wp2_with fail
    exact⟨⟨m+1,j,f',by omega,hj,by omega,by go_num,rfl,J,L.out⟩,by simp[bX];omega⟩
   have J:=a5.out;rw[decide_eq_false a6,if_neg (by simp)]at J;generalize g_ O key=q at*;go_wp2_with fail
   exact⟨⟨i,m,f',by omega,by omega,by omega,rfl,rfl,J,L.out⟩,by simp[bX];omega⟩
  have a7:i=j:=by omega
  subst a7;rw[Ql]at z;subst z;have B:=HT.out;unfold dR at B;rw[HS.out,a0.out]at B;by_cases D:i<l.length
  ·obtain⟨b,y,rfl,U,G⟩:∃b y,ao=some ⟨b,y,none⟩/\b<w.heap.size/\eO w b y l:=by
    rcases H.out with⟨_,e2⟩|⟨b,y,c,e,U,G⟩
    ·rw[e2]at D;exact absurd D (by simp)
    cases e;exact⟨b,y,rfl,U,G⟩
   have b9:(i:Int)<(l.length:Int):=by omega
   obtain⟨c1,c2,c3⟩:=(G.gr M) i D;rw[decide_eq_true D,Bool.true_and,Z.out i D]at B;have hc:=S3 l[i] key;unfold En.val at hc;generalize l[i].key=O at*;generalize l[i].item=it at*;generalize(l[i].cU:Int)=pgi at*;have Q:=ak B;have HG:=ak M;clear G B M HT HS;go_wp2_with fail
   refine(hc wr).mono ?_;rintro e w3 ⟨rfl,I⟩;have L:=ak (HG.out.trans I);clear I hc c1 c2 c3;have c0:(g_ O key==0)=T0:=by
    rw[<-Q.out,Bool.eq_iff_iff];simp
   generalize g_ O key=q at*;go_wp2_with fail
   go_ret2;exact ar.mk (by simp[c0]) L.out
  rw[decide_eq_false D,Bool.false_and]at B;have Q:=ak B;have b9:¬(i:Int)<(l.length:Int):=by omega
  clear B HT HS;go_wp2_with fail
  go_ret2;exact ar.mk (by rw[<-Q.out];rfl) M
theorem qh(p:Nat)(leaf:Bool)(l:List En)(s:bt)(key:ByteArray)(w:bc)(h:oX w s l)(Z:l.length<=10000):
  dA prog 121 #[bi p leaf s,.string key] w (ar w (.tuple #[.int .i64 (if leaf then am (aH l) key else aL (aH l) key:Nat),.bool (dR (aH l) key)])):=by
 have H:=ak h;obtain⟨I,J,rfl⟩:=h.form;unfold bi;have q:Gr w (w.alloc (.cells #[.int .i64 (p:Int),.bool leaf,.slice I l.length J] 200)):=(Gr.refl w).alloc _;have Q:∀L,Gr (w.alloc (.cells #[.int .i64 (p:Int),.bool leaf,.slice I l.length J] 200)) L->L.cell? ⟨w.heap.size,1,none⟩=some (.bool leaf):=fun L g=>g.keeps (by rw[aJ];rfl);have hs:=Qm l (.slice I l.length J) key _ (h.gr q) Z;have M:=jJ (aH l) key;have D:(aH l).length=l.length:=by unfold aH;rw[em]
 rw[D]at M;have hd:aL (aH l) key=if dR (aH l) key then am (aH l) key else am (aH l) key-1:=rfl
 rw[hd];have y:=ak Q;have z:=ak hs;clear h Q hs hd D;generalize am (aH l) key=S at*;generalize dR (aH l) key=T0 at*;cases leaf with
 |true=>
  go_enter kI,kk;go_wp2_with fail
  refine z.out.mono ?_;rintro e U ⟨rfl,b⟩;have V:=y.out _ b;have B:=ak (q.trans b);clear b z y q;go_wp2_with fail
  go_ret2;exact ar.mk (by simp) B.out
 |false=>
  cases T0 with
  |true=>
   go_enter kI,kk;go_wp2_with fail
   refine z.out.mono ?_;rintro e U ⟨rfl,b⟩;have V:=y.out _ b;have B:=ak (q.trans b);clear b z y q;go_wp2_with fail
   go_ret2;exact ar.mk (by simp) B.out
  |false=>
   have O:max ((S:Int)-1) 0=((S-1:Nat):Int):=by omega
   obtain⟨Y,G⟩:∃Y,S-1=Y:=⟨_,rfl⟩;rw[G]at O;simp only[dJ,if_false,G];go_enter kI,kk;go_wp2_with fail
   refine z.out.mono ?_;rintro e U ⟨rfl,b⟩;have V:=y.out _ b;have B:=ak (q.trans b);clear b z y q;go_wp2_with fail
   go_ret2;exact ar.mk (by simp) B.out
def xR(b k:Nat)(w:bc):Prop:=∀v,w.cell? ⟨b,1,none⟩=some v->v.ownBlock≠some k
def zb(b:Nat)(w w':bc):Prop:=w.heap.size<=w'.heap.size/\∀k,k<w.heap.size->k≠b->xR b k w->w'.heap[k]?=w.heap[k]?/\xR b k w'
theorem zb.keeps{b k o:Nat}{w w':bc}{u:bt}(h:zb b w w')(q:k≠b)(hn:xR b k w)(hc:w.cell? ⟨k,o,none⟩=some u):w'.cell? ⟨k,o,none⟩=some u:=
 (World.cell?_of_block (h.2 k (ad hc) q hn).1).trans hc
theorem Am{B b:Nat}{l:List UInt8}{w:bc}(h:mU B b l w)(o:Obj):xR b w.heap.size (w.alloc o):=by
 intro v hv e;have q:∀p,eh 274 5 B b p (be l) w->False:=fun p y=>by
  obtain⟨_,u,s,z,_⟩:=y;have H:b<w.heap.size:=(ap.1 s).1;have D:w.cell? ⟨b,1,none⟩=some u:=by rw[bB s];rfl
  have G:(w.alloc o).cell? ⟨b,1,none⟩=some u:=((Gr.refl w).alloc o).keeps D;rw[G]at hv;injection hv with hv
  rw[<-hv]at e;have:=(z.lt _ e).2;omega
 rcases h with h|h
 ·exact q _ h
 exact q _ h
def S4(w:bc)(g:Nat)(l:List UInt8):Prop:=∀j (h:j<l.length),w.cell? ⟨g,j,none⟩=some (me l[j])
theorem xS(B b:Nat)(z:List bt)(w:bc)(h:Lib.IsBuilder 274 5 B b z w):
  dA prog 247 #[.pointer (some ⟨b,0,none⟩)] w fun e q=>e=.returned (.tuple #[])/\eh 274 5 B b (.pointer (some ⟨b,0,none⟩)) z q/\Below B w q/\ag (fun k=>k=b) w q/\q.cell? ⟨b,1,none⟩=w.cell? ⟨b,1,none⟩:=by
 obtain⟨j,s,y⟩:=Option.map_eq_some_iff.1 FG;rcases h with h|h
 ·have D:=h.cell0;have hf:=h.frozen0;have hu:=Lib.run_to_unsafe (P:=prog) (w:=w) ⟨b,0,none⟩ fl jh s (by rw[y];decide) h.shape (Nat.zero_lt_succ 1);have hv:=Lib.run_from_unsafe (P:=prog) (w:=w) ⟨b,0,none⟩ jh fl s h.shape FH;have H:=ak h;clear h;go_enter func247,ntmps247;go_wp2_with fail
  rw[fe func286 (by kernel_rfl) (by kernel_rfl) (by kernel_rfl) (e:=ji) (by kernel_rfl),Lib.run_noEscape];simp only[Result.andThen];rw[Oper.upon_value];go_wp2_with fail
  refine jU (v:=.tuple #[]) (by simp[results,ib,go_sem]) rfl ?_;exact⟨rfl,H.out.used _,(kr B w).setCell (p:=⟨b,0,none⟩) H.out.1 _,ag.setCell (S:=fun k=>k=b) (p:=⟨b,0,none⟩) w _ rfl,World.cell?_setCell_other _ _ _ _ (by simp)⟩
 have D:=h.cell0;have hn:=Lib.run_neq_ptr_same (P:=prog) (w:=w) ⟨b,0,none⟩ fl s;have H:=ak h;clear h;go_enter func247,ntmps247;go_wp2_with fail
 refine jU (v:=.tuple #[]) (by simp[results,ib,go_sem]) rfl ?_;exact⟨rfl,H.out,kr B _,ag.refl _ _,rfl⟩
theorem Cr(B b g c:Nat)(l m:List UInt8)(w:bc)(h:mU B b l w)(hl:l.length+m.length<=1000000)(hB:B<=w.heap.size)(hm:S4 w g m)(a5:g≠b):
  dA prog 288 #[.pointer (some ⟨b,0,none⟩),.slice (some ⟨g,0,none⟩) m.length c] w fun e w'=>e=.returned (.tuple #[.int .i64 m.length,.nilIface])/\mU B b (l++m) w'/\Below B w w'/\zb b w w':=by
 obtain⟨i0,hi,a6,a7,a8⟩:=kx vf;have H:=ak h;have HM:=ak hm;clear h hm;obtain⟨n,hn⟩:∃n,m.length=n:=⟨_,rfl⟩;rw[hn];have HN:=ak hn;rw[hn]at hl;clear hn;go_enter func288,ntmps288;go_wp2_with fail
 refine(xS B b _ w H.out).mono ?_;rintro e w1 ⟨rfl,h1,Q,L,S⟩;have U:=ak S;clear S;have H1:=ak h1;obtain⟨V,v,D,z,a9⟩:=h1;have b9:(be l).length=l.length:=aV l;have b0:(be m).length=n:=by rw[aV,HN.out]
 have c0:w1.cell? ⟨b,0,none⟩=some (.pointer (some ⟨b,0,none⟩)):=by rw[bB D];rfl
 have c1:w1.cell? ⟨b,1,none⟩=some v:=by rw[bB D];rfl
 have c9:=Q.size;have a1:∀j u,(be m)[j]?=some u->w1.cell? ((⟨g,0,none⟩:Addr).add j)=some u:=by
  intro j u hj;have Y:j<m.length:=by
   have:=(dU.1 hj).1;rwa [aV]at this
  rw[Addr.add_lit,cF,L.keeps a5 (HM.out j Y),<-hj];simp[be,me,Y]
 go_wp2_with(at_builtin;refine wpList_append_own_at _ rfl _ _ 188 rfl B 5 i0 (.int .u8 0) 1 1 underlying188 hi a6 a7 a8 rfl (by decide) _ _ _ rfl z ⟨g,0,none⟩ n c (be m) rfl (by rw[b0,Nat.mul_one]) a1 (fun u hu=>by simp[be]at hu;obtain⟨x,_,rfl⟩:=hu;rfl) (by unfold maxLen;omega) (by omega) (by omega) ?_)
 intro O G s q _ Z;have y:=xM D q rfl a9;have d0:G.cell? ⟨b,0,none⟩=some (.pointer (some ⟨b,0,none⟩)):=by rw[bB y];rfl
 have d1:G.cell? ⟨b,1,none⟩=some v:=by rw[bB y];rfl
 have f1:G.frozen? ⟨b,1,none⟩=false:=bQ y 1;have I:eh 274 5 B b (.pointer (some ⟨b,0,none⟩)) (be (l++m)) (G.setCell ⟨b,1,none⟩ O):=by
  refine fT V y ?_ BM;rw[eY,ae,aV m,aV l,HN.out];exact s
 have J:=(Q.grown q (by omega) (fun k hk=>(z.lt k hk).1)).setCell (p:=⟨b,1,none⟩) V O;have a0:zb b w (G.setCell ⟨b,1,none⟩ O):=by
  have d2:=L.2.2.2.1;have d3:=q.size;refine⟨by simp;omega,fun k hk hb hn=>⟨?_,fun u hu e=>?_⟩⟩
  ·have e1:(G.setCell ⟨b,1,none⟩ O).heap[k]?=G.heap[k]?:=fI _ _ _ _ (fun e=>hb e);have M:v.ownBlock≠some k:=hn v (U.out.symm.trans c1);exact e1.trans ((q.block k (by omega) (fun e=>M e.symm)).trans (L.block hk hb))
  rw[ej _ _ _ d1]at hu;injection hu with hu
  rw[<-hu]at e;have M:v.ownBlock≠some k:=hn v (U.out.symm.trans c1);rcases Z with h|h
  ·rw[h]at e;exact M e
  rw[h]at e;have:=bW e;omega
 have HP:=ak I;have HB:=ak J;have b1:=ak a0;clear I J a0;obtain⟨ao,n',cap,rfl⟩:∃ao n' cap,O=.slice ao n' cap:=by
  rcases s.2 with⟨hv,_⟩|⟨g,cap,d4,hv,_⟩
  ·exact⟨_,_,_,hv⟩
  exact⟨_,_,_,hv⟩
 clear z s q y D Z;go_wp2_with fail
 go_ret2;exact⟨rfl,.inr HP.out,HB.out,b1.out⟩
theorem rZ(B b:Nat)(l:List UInt8)(c:UInt8)(w:bc)(h:mU B b l w)(hl:l.length+1<=1000000)(hB:B<=w.heap.size):
  dA prog 244 #[.pointer (some ⟨b,0,none⟩),.int .u8 (c.toNat:Int)] w fun e w'=>e=.returned .nilIface/\mU B b (l++[c]) w'/\Below B w w'/\zb b w w':=by
 obtain⟨i0,hi,a6,a7,a8⟩:=kx vf;have H:=ak h;clear h;generalize hq:((c.toNat:Nat):Int)=q;have HQ:=ak hq;clear hq;go_enter func244,ntmps244;go_wp2_with fail
 refine(xS B b _ w H.out).mono ?_;rintro e I ⟨rfl,h1,S,U,V⟩;have Y:=ak V;clear V;have H1:=ak h1;obtain⟨Z,v,z,G,a9⟩:=h1;have b8:(be l).length=l.length:=aV l;have c0:I.cell? ⟨b,0,none⟩=some (.pointer (some ⟨b,0,none⟩)):=by rw[bB z];rfl
 have c1:I.cell? ⟨b,1,none⟩=some v:=by rw[bB z];rfl
 have c7:=S.size;have a3:∀j u,([Value.int .u8 q])[j]?=some u->(I.alloc (.cells #[.int .u8 q] 5)).cell? ((⟨I.heap.size,0,none⟩:Addr).add j)=some u:=by
  intro j u hj
  match j,hj with
  |0,hj=>simp at hj;subst hj;simp[Addr.add]
 go_wp2_with(at_builtin;refine wpList_append_own_at _ rfl _ _ 188 rfl B 5 i0 (.int .u8 0) 1 1 underlying188 hi a6 a7 a8 rfl (by decide) _ _ _ rfl (G.alloc _) ⟨I.heap.size,0,none⟩ 1 1 [.int .u8 q] rfl rfl a3 (by intro u hu;simp at hu;subst hu;rfl) (by unfold maxLen;omega) (by omega) (by simp;omega) ?_)
 intro Q J y s _ a1;have D:=xM (v:=v) ((gw I (.cells #[.int .u8 q] 5) b (ap.1 z).1).trans z) s rfl a9;have d0:J.cell? ⟨b,0,none⟩=some (.pointer (some ⟨b,0,none⟩)):=by rw[bB D];rfl
 have d1:J.cell? ⟨b,1,none⟩=some v:=by rw[bB D];rfl
 have f1:J.frozen? ⟨b,1,none⟩=false:=bQ D 1;have L:eh 274 5 B b (.pointer (some ⟨b,0,none⟩)) (be (l++[c])) (J.setCell ⟨b,1,none⟩ Q):=by
  refine fT Z D ?_ BM;rw[eY,ae,aV [c]];have e:be [c]=[.int .u8 q]:=by
   rw[<-HQ.out]
   rfl
  rw[e,aV l];exact y
 have M:=((S.alloc (by omega) (.cells #[.int .u8 q] 5)).grown s (by simp;omega) (fun k hk=>(G.lt k hk).1)).setCell (p:=⟨b,1,none⟩) Z Q;have a2:zb b w (J.setCell ⟨b,1,none⟩ Q):=by
  have c8:=U.2.2.2.1;have b0:=s.size;simp only[World.size_alloc]at b0;refine⟨by simp;omega,fun k hk hb hn=>⟨?_,fun u hu e=>?_⟩⟩
  ·have e1:(J.setCell ⟨b,1,none⟩ Q).heap[k]?=J.heap[k]?:=fI _ _ _ _ (fun e=>hb e);have O:v.ownBlock≠some k:=hn v (Y.out.symm.trans c1);have e2:=s.block k (by simp;omega) (fun e=>O e.symm);exact e1.trans (e2.trans ((gw I _ k (by omega)).trans (U.block hk hb)))
  rw[ej _ _ _ d1]at hu;injection hu with hu
  rw[<-hu]at e;have O:v.ownBlock≠some k:=hn v (Y.out.symm.trans c1);rcases a1 with h|h
  ·rw[h]at e;exact O e
  rw[h]at e;have:=bW e
  first|omega|(simp at this;omega)
 have HP:=ak L;have HB:=ak M;have b1:=ak a2;clear L M a2;obtain⟨ao,n',cap,rfl⟩:∃ao n' cap,Q=.slice ao n' cap:=by
  rcases y.2 with⟨hv,_⟩|⟨g,cap,c9,hv,_⟩
  ·exact⟨_,_,_,hv⟩
  exact⟨_,_,_,hv⟩
 clear G y s D z a1;go_wp2_with fail
 go_ret;exact⟨rfl,.inr HP.out,HB.out,b1.out⟩
theorem An(leaf:Bool)(l:List En)(i:Nat)(h:i<l.length):eM leaf (l.take (i+1))=eM leaf (l.take i)++(l[i]).yY leaf:=by
 unfold eM;rw[cL h,dr];simp
def nN(leaf:Bool):UInt8:=if leaf then 1 else 2
def fD(leaf:Bool)(n:Nat):List UInt8:=nN leaf::gm (n:Int)
theorem oZ(n:Nat):((n.toUInt8.toNat:Nat):Int)=(n:Int) % 256:=by
 simp
theorem vg(n:Nat)(h:n<65536):gm (n:Int)=[(n/256).toUInt8,n.toUInt8]:=by
 unfold gm;have b:(((n:Int)/256) % 256).toNat=n/256:=by omega
 have q:((n:Int) % 256).toNat=n % 256:=by omega
 rw[b,q]
 congr 2
 apply UInt8.toNat_inj.1;simp
theorem BP{B b:Nat}{l:List UInt8}{w:bc}(h:mU B b l w):b<w.heap.size:=by
 rcases h with⟨_,_,q,_⟩|⟨_,_,q,_⟩
 ·exact(ap.1 q).1
 exact(ap.1 q).1
theorem la{b W q:bc}{B:Nat}(h:Gr b W)(s:b.heap.size=B)(k:Below B W q):Gr b q:=by
 subst s;exact hI h k
theorem Kq(s t:ByteArray)(h:s.size+t.size<=100000000000):∀w,(Op.stringOp .add s t).run prog w=.ok (.string ⟨(s.data.toList++t.data.toList).toArray⟩) w:=fun w=>by
 have b:s=⟨s.data.toList.toArray⟩:=bE (by simp);have q:t=⟨t.data.toList.toArray⟩:=bE (by simp);have:=mi s.data.toList t.data.toList (by rw[<-size_data,<-size_data];exact h) w;rw[<-b,<-q]at this;exact this
theorem U7(p:Nat)(leaf:Bool)(l:List En)(s:bt)(w:bc)(h:oX w s l)(k9:∀e∈l,e.ok leaf)(hb:aj leaf l<=1024):
  dA prog 252 #[bi p leaf s] w (ar w (.string (aw leaf l))):=by
 have H:=ak h;have a6:=ak k9;obtain⟨ao,ca,rfl⟩:=h.form;have h3:=d_ leaf l;have hl:l.length<=600:=by unfold aj at hb;omega
 unfold bi;have l0:Gr w (w.alloc (.cells #[.int .i64 (p:Int),.bool leaf,.slice ao l.length ca] 200)):=(Gr.refl w).alloc _;have c0:∀w',Gr (w.alloc (.cells #[.int .i64 (p:Int),.bool leaf,.slice ao l.length ca] 200)) w'->w'.cell? ⟨w.heap.size,1,none⟩=some (.bool leaf)/\w'.cell? ⟨w.heap.size,2,none⟩=some (.slice ao l.length ca):=fun w' g=>⟨g.keeps (by rw[aJ];rfl),g.keeps (by rw[aJ];rfl)⟩;have M:(w.alloc (.cells #[.int .i64 (p:Int),.bool leaf,.slice ao l.length ca] 200)).heap.size=w.heap.size+1:=by simp
 have C0:=ak c0;have h4:=ak l0;have a4:=mU.new (w.alloc (.cells #[.int .i64 (p:Int),.bool leaf,.slice ao l.length ca] 200));have z:=(Gr.refl (w.alloc (.cells #[.int .i64 (p:Int),.bool leaf,.slice ao l.length ca] 200))).alloc (.cells #[.pointer none,.slice none 0 0] 274);rw[M]at a4;have h5:=ak a4;have l1:=ak z;obtain⟨b1,b2⟩:=c0 _ z;clear h k9 a4 z c0 l0;have HH:Hid (fD leaf l.length=[nN leaf,(l.length/256).toUInt8,l.length.toUInt8]):=ak (by unfold fD;rw[vg _ (by omega)]);have n8:dh.wrap ((l.length:Int)/256)=(((l.length/256).toUInt8.toNat:Nat):Int):=by
  rw[oZ];show(l.length:Int)/256 % 256=_;omega
 have n9:dh.wrap (l.length:Int)=((l.length.toUInt8.toNat:Nat):Int):=(oZ _).symm;generalize(l.length/256).toUInt8=c1 at*;generalize l.length.toUInt8=c2 at*;cases leaf with
 |true=>
  have d4:=fun W=>Cr (w.heap.size+1) (w.heap.size+1) (w.heap.size+1+1) 3 [] [1,c1,c2] W;go_enter func252,ntmps252;go_wp2_with fail
  refine(d4 _ (h5.out.gr ((Gr.refl _).alloc _)) (by simp) (by simp) (fun j hj=>by
   have e1:w.heap.size+1+1=((w.alloc (.cells #[.int .i64 (p:Int),.bool true,.slice ao l.length ca] 200)).alloc (.cells #[.pointer none,.slice none 0 0] 274)).heap.size:=by simp
   rw[e1,aJ]
   match j,hj with
   |0,_=>rfl
   |1,_=>rfl
   |2,_=>rfl) (by omega)).mono ?_
  rintro e w1 ⟨rfl,S,I,_⟩;have S:mU (w.heap.size+1) (w.heap.size+1) (fD true l.length++eM true (l.take 0)) w1:=by
   rw[HH.out];exact S
  have a0:Gr (w.alloc (.cells #[.int .i64 (p:Int),.bool true,.slice ao l.length ca] 200)) w1:=by
   rw[<-M]at I;exact hI (l1.out.alloc _) I
  clear d4 I;generalize w.alloc (.cells #[.int .i64 (p:Int),.bool true,.slice ao l.length ca] 200)=A0 at*;obtain⟨B,hB⟩:∃B,w.heap.size+1=B:=⟨_,rfl⟩;obtain⟨NB,d5⟩:∃NB,w.heap.size=NB:=⟨_,rfl⟩;rw[hB]at S M h5⊢;rw[d5]at C0⊢;have m7:=ak hB;clear hB d5 b1 b2;obtain⟨b1,b2⟩:=C0.out _ a0;have b5:=ak S;have i3:=ak a0;have U:=ak M;clear S a0 M;go_wp2_with fail
  go_loopw [24] (fun iv w'=>∃i:Nat,i<=l.length/\iv=.int .i64 i/\mU B B (fD true l.length++eM true (l.take i)) w'/\Gr A0 w') (fun iv _=>l.length-(bX iv).toNat)
  case atStart=>exact⟨0,ea _,rfl,b5.out,i3.out⟩
  case round=>
   obtain⟨i,hi,rfl,a4,z⟩:=hrel;obtain⟨b1,b2⟩:=C0.out _ z;have D:=ak a4;have a8:=ak z;have d6:Hid (B<=wr.heap.size):=ak (by have:=z.size;rw[U.out]at this;exact this);clear a4;by_cases V:i<l.length
   ·obtain⟨b,Y,rfl,hb,hp⟩:∃b Y,ao=some ⟨b,Y,none⟩/\b<w.heap.size/\eO w b Y l:=by
     rcases H.out with⟨_,e2⟩|⟨b,Y,c,e,hb,hp⟩
     ·rw[e2]at V;exact absurd V (by simp)
     cases e;exact⟨b,Y,rfl,hb,hp⟩
    have m8:(i:Int)<(l.length:Int):=by omega
    obtain⟨d1,d2,d3⟩:=(hp.gr (h4.out.trans z)) i V;have a1:=a6.out l[i] (dg V);have i4:Hid (fD true l.length++eM true (l.take (i+1))=(fD true l.length++eM true (l.take i))++(l[i]).yY true):=ak (by rw[An true l i V,aU]);have d8:(fD true l.length++eM true (l.take i)).length<=98000:=by
     rw[ae,kL (fun e he=>a6.out e (bj he))];have h1:=qX true (l.take i) fun e he=>a6.out e (bj he);rw[aS]at h1;have h2:(fD true l.length).length=3:=rfl;omega
    have g4:=a1.key;have g5:=a1.item;have g6:=a1.cU;generalize l[i]=en at*;obtain⟨y,it,q⟩:=en;simp only at d1 d2 d3 g4 g5 g6;generalize fD true l.length++eM true (l.take i)=acc at*;have O:Gr wr (wr.alloc (.cells #[.string y,.string it,.int .i64 (q:Int)] 206)):=(Gr.refl wr).alloc _;have k0:(wr.alloc (.cells #[.string y,.string it,.int .i64 (q:Int)] 206)).cell? ⟨wr.heap.size,0,none⟩=some (.string y):=by rw[aJ];rfl
    have k1:(wr.alloc (.cells #[.string y,.string it,.int .i64 (q:Int)] 206)).cell? ⟨wr.heap.size,1,none⟩=some (.string it):=by rw[aJ];rfl
    have k2:(wr.alloc (.cells #[.string y,.string it,.int .i64 (q:Int)] 206)).cell? ⟨wr.heap.size,2,none⟩=some (.int .i64 (q:Int)):=by rw[aJ];rfl
    have bn:=Am D.out (.cells #[.string y,.string it,.int .i64 (q:Int)] 206);have Q:wr.heap.size≠B:=by have:=BP D.out;omega
    have i5:=O.keeps b1;have i6:=O.keeps b2;have b5:=ak (D.out.gr O);have i7:=ak (a8.out.trans O);have a9:Hid (B<=(wr.alloc (.cells #[.string y,.string it,.int .i64 (q:Int)] 206)).heap.size):=ak (by have:=O.size;have:=d6.out;omega);have BN:=ak bn;have l3:=Kq y it (by omega);have b6:=fun(a:List UInt8) (W:bc)=>oQ B B a ⟨(y.data.toList++it.data.toList).toArray⟩ W;have i9:(⟨(y.data.toList++it.data.toList).toArray⟩:ByteArray).size=y.size+it.size:=by rw[lu,ae,<-size_data,<-size_data]
    have d9:(⟨(y.data.toList++it.data.toList).toArray⟩:ByteArray).data.toList=y.data.toList++it.data.toList:=by simp
    rw[d9]at b6;have m9:dh.wrap (y.size:Int)=((y.size.toUInt8.toNat:Nat):Int):=(oZ _).symm;have o0:dh.wrap (it.size:Int)=((it.size.toUInt8.toNat:Nat):Int):=(oZ _).symm;have j0:Hid (En.yY ⟨y,it,q⟩ true=[y.size.toUInt8]++([it.size.toUInt8]++(y.data.toList++it.data.toList))):=ak rfl;generalize y.size.toUInt8=q1 at*;generalize it.size.toUInt8=q2 at*;generalize y.data.toList++it.data.toList=kt at*;generalize(⟨kt.toArray⟩:ByteArray)=ks at*;clear hp bn z O d9;go_wp2_with fail
    refine(rZ B B acc q1 _ b5.out (by omega) a9.out).mono ?_;rintro e w2 ⟨rfl,e0,J,G⟩;have m1:=G.keeps Q BN.out k1;have m0:=G.keeps Q BN.out k0;have h6:=ak (G.2 _ (ad k0) Q BN.out).2;have a5:=ak (la i7.out U.out J);have e3:=ak e0;have b0:Hid (B<=w2.heap.size):=ak (cK a9.out J.size);obtain⟨b1,b2⟩:=C0.out _ a5.out;clear e0 J G k0 k1 k2 i5 i6;have h3:(acc++[q1]).length+1<=1000000:=by rw[ae];simp;omega
    go_wp2_with fail
    refine(rZ B B _ q2 _ e3.out h3 b0.out).mono ?_;rintro e w3 ⟨rfl,e4,L,a2⟩;have n1:=a2.keeps Q h6.out m1;have n0:=a2.keeps Q h6.out m0;have e5:=ak (la a5.out U.out L);have j1:=ak e4;have g7:Hid (B<=w3.heap.size):=ak (cK b0.out L.size);obtain⟨b1,b2⟩:=C0.out _ e5.out;clear e4 L a2 m0 m1;have j2:(acc++[q1]++[q2]).length+ks.size<=1000000:=by rw[ae,ae,i9];simp;omega
    go_wp2_with fail
    refine(b6 _ _ j1.out j2 g7.out).mono ?_;rintro e w4 ⟨rfl,e6,a3⟩;have b7:=ak (la e5.out U.out a3);have j3:Hid (mU B B (fD true l.length++eM true (l.take (i+1))) w4):=ak (by
     rw[i4.out,j0.out];simpa[aU]using e6)
    clear e6 a3 b6;go_wp2_with fail
    exact⟨⟨i+1,by omega,by go_num,j3.out,b7.out⟩,by simp[bX];omega⟩
   have j4:i=l.length:=by omega
   subst j4;rw[de]at D;have d8:=kL (leaf:=true) (l:=l) a6.out;have b8:(fD true l.length++eM true l).length=aj true l:=by
    rw[ae,d8]
    rfl
   have e7:Hid (aw true l=⟨((fD true l.length++eM true l)++bA (1024-aj true l) 0).toArray⟩):=ak (by
    unfold aw FL fD nN;simp)
   generalize fD true l.length++eM true l=tx at*;obtain⟨Z,hZ⟩:∃Z,aj true l=Z:=⟨_,rfl⟩;rw[hZ]at b8 hb e7;have j5:(be tx).length=Z:=by rw[aV,b8]
   have e8:=Tryz.Builder_String_any_f B B tx wr (gc D.out) d6.out;have b9:=fun W h=>Tryz.Builder_Len_f B B (be tx) W h;rw[j5]at b9;have e9:∀W,dA prog 139 #[.string ⟨#[0]⟩,.int .i64 (1024-(Z:Int))] W (ar W (.string ⟨(bA (1024-Z) (0:UInt8)).toArray⟩)):=fun W=>by
    have:=u_ ⟨#[0]⟩ (1024-Z) W (by omega) (show 1<=100000 by omega);rw[show((1024-Z:Nat):Int)=1024-(Z:Int)by omega]at this;rw[<-gZ];exact this
   have l4:=mi tx (bA (1024-Z) (0:UInt8)) (by rw[b8,cO];omega);have n2:eB.wrap (1024-(Z:Int))=1024-(Z:Int):=by rw[da];omega
   generalize(⟨(bA (1024-Z) (0:UInt8)).toArray⟩:ByteArray)=zs at*;generalize(⟨(tx++bA (1024-Z) (0:UInt8)).toArray⟩:ByteArray)=res at*;generalize(⟨tx.toArray⟩:ByteArray)=ts at*;clear z hZ;go_wp2_with fail
   refine e8.mono ?_;rintro e w2 ⟨rfl,g0,b4⟩;have a5:=ak (la a8.out U.out b4);clear b4 e8;go_wp2_with fail
   refine(b9 w2 g0).mono ?_;rintro e w3 ⟨rfl,rfl⟩;clear g0 b9;go_wp2_with fail
   refine(e9 w3).mono ?_;rintro e w4 ⟨rfl,g3⟩;have b7:=ak ((h4.out.trans a5.out).trans g3);clear g3 e9;go_wp2_with fail
   go_ret;exact ar.mk (by rw[e7.out];rfl) b7.out
 |false=>
  have d4:=fun W=>Cr (w.heap.size+1) (w.heap.size+1) (w.heap.size+1+1) 3 [] [2,c1,c2] W;go_enter func252,ntmps252;go_wp2_with fail
  refine(d4 _ (h5.out.gr ((Gr.refl _).alloc _)) (by simp) (by simp) (fun j hj=>by
   have e1:w.heap.size+1+1=((w.alloc (.cells #[.int .i64 (p:Int),.bool false,.slice ao l.length ca] 200)).alloc (.cells #[.pointer none,.slice none 0 0] 274)).heap.size:=by simp
   rw[e1,aJ]
   match j,hj with
   |0,_=>rfl
   |1,_=>rfl
   |2,_=>rfl) (by omega)).mono ?_
  rintro e w1 ⟨rfl,S,I,_⟩;have S:mU (w.heap.size+1) (w.heap.size+1) (fD false l.length++eM false (l.take 0)) w1:=by
   rw[HH.out];exact S
  have a0:Gr (w.alloc (.cells #[.int .i64 (p:Int),.bool false,.slice ao l.length ca] 200)) w1:=by
   rw[<-M]at I;exact hI (l1.out.alloc _) I
  clear d4 I;generalize w.alloc (.cells #[.int .i64 (p:Int),.bool false,.slice ao l.length ca] 200)=A0 at*;obtain⟨B,hB⟩:∃B,w.heap.size+1=B:=⟨_,rfl⟩;obtain⟨NB,d5⟩:∃NB,w.heap.size=NB:=⟨_,rfl⟩;rw[hB]at S M h5⊢;rw[d5]at C0⊢;have m7:=ak hB;clear hB d5 b1 b2;obtain⟨b1,b2⟩:=C0.out _ a0;have b5:=ak S;have i3:=ak a0;have U:=ak M;clear S a0 M;go_wp2_with fail
  go_loopw [24] (fun iv w'=>∃i:Nat,i<=l.length/\iv=.int .i64 i/\mU B B (fD false l.length++eM false (l.take i)) w'/\Gr A0 w') (fun iv _=>l.length-(bX iv).toNat)
  case atStart=>exact⟨0,ea _,rfl,b5.out,i3.out⟩
  case round=>
   obtain⟨i,hi,rfl,a4,z⟩:=hrel;obtain⟨b1,b2⟩:=C0.out _ z;have D:=ak a4;have a8:=ak z;have d6:Hid (B<=wr.heap.size):=ak (by have:=z.size;rw[U.out]at this;exact this);clear a4;by_cases V:i<l.length
   ·obtain⟨b,Y,rfl,hb,hp⟩:∃b Y,ao=some ⟨b,Y,none⟩/\b<w.heap.size/\eO w b Y l:=by
     rcases H.out with⟨_,e2⟩|⟨b,Y,c,e,hb,hp⟩
     ·rw[e2]at V;exact absurd V (by simp)
     cases e;exact⟨b,Y,rfl,hb,hp⟩
    have m8:(i:Int)<(l.length:Int):=by omega
    obtain⟨d1,d2,d3⟩:=(hp.gr (h4.out.trans z)) i V;have a1:=a6.out l[i] (dg V);have i4:Hid (fD false l.length++eM false (l.take (i+1))=(fD false l.length++eM false (l.take i))++(l[i]).yY false):=ak (by rw[An false l i V,aU]);have d8:(fD false l.length++eM false (l.take i)).length<=98000:=by
     rw[ae,kL (fun e he=>a6.out e (bj he))];have h1:=qX false (l.take i) fun e he=>a6.out e (bj he);rw[aS]at h1;have h2:(fD false l.length).length=3:=rfl;omega
    have g4:=a1.key;have g5:=a1.item;have g6:=a1.cU;generalize l[i]=en at*;obtain⟨y,it,q⟩:=en;simp only at d1 d2 d3 g4 g5 g6;generalize fD false l.length++eM false (l.take i)=acc at*;have O:Gr wr (wr.alloc (.cells #[.string y,.string it,.int .i64 (q:Int)] 206)):=(Gr.refl wr).alloc _;have k0:(wr.alloc (.cells #[.string y,.string it,.int .i64 (q:Int)] 206)).cell? ⟨wr.heap.size,0,none⟩=some (.string y):=by rw[aJ];rfl
    have k1:(wr.alloc (.cells #[.string y,.string it,.int .i64 (q:Int)] 206)).cell? ⟨wr.heap.size,1,none⟩=some (.string it):=by rw[aJ];rfl
    have k2:(wr.alloc (.cells #[.string y,.string it,.int .i64 (q:Int)] 206)).cell? ⟨wr.heap.size,2,none⟩=some (.int .i64 (q:Int)):=by rw[aJ];rfl
    have bn:=Am D.out (.cells #[.string y,.string it,.int .i64 (q:Int)] 206);have Q:wr.heap.size≠B:=by have:=BP D.out;omega
    have i5:=O.keeps b1;have i6:=O.keeps b2;have b5:=ak (D.out.gr O);have i7:=ak (a8.out.trans O);have a9:Hid (B<=(wr.alloc (.cells #[.string y,.string it,.int .i64 (q:Int)] 206)).heap.size):=ak (by have:=O.size;have:=d6.out;omega);have BN:=ak bn;have l3:=Kq y it (by omega);have b6:=fun(a:List UInt8) (W:bc)=>oQ B B a ⟨(y.data.toList++it.data.toList).toArray⟩ W;have i9:(⟨(y.data.toList++it.data.toList).toArray⟩:ByteArray).size=y.size+it.size:=by rw[lu,ae,<-size_data,<-size_data]
    have d9:(⟨(y.data.toList++it.data.toList).toArray⟩:ByteArray).data.toList=y.data.toList++it.data.toList:=by simp
    rw[d9]at b6;have m9:dh.wrap (y.size:Int)=((y.size.toUInt8.toNat:Nat):Int):=(oZ _).symm;have o1:dh.wrap ((q:Int)/256)=(((q/256).toUInt8.toNat:Nat):Int):=by
     rw[oZ];show(q:Int)/256 % 256=_;omega
    have o2:dh.wrap (q:Int)=((q.toUInt8.toNat:Nat):Int):=(oZ _).symm;have j0:Hid (En.yY ⟨y,it,q⟩ false=[y.size.toUInt8]++([(q/256).toUInt8,q.toUInt8]++(y.data.toList++it.data.toList))):=ak (by
     unfold En.yY En.head;simp only[dJ,if_false];rw[vg _ (by omega)]
     rfl)
    generalize y.size.toUInt8=q1 at*;generalize(q/256).toUInt8=q2 at*;generalize q.toUInt8=q3 at*;generalize y.data.toList++it.data.toList=kt at*;generalize(⟨kt.toArray⟩:ByteArray)=ks at*;clear hp bn z O d9;go_wp2_with fail
    refine(rZ B B acc q1 _ b5.out (by omega) a9.out).mono ?_;rintro e w2 ⟨rfl,e0,J,G⟩;have m2:=G.keeps Q BN.out k2;have m1:=G.keeps Q BN.out k1;have m0:=G.keeps Q BN.out k0;have h6:=ak (G.2 _ (ad k0) Q BN.out).2;have a5:=ak (la i7.out U.out J);have e3:=ak e0;have b0:Hid (B<=w2.heap.size):=ak (cK a9.out J.size);obtain⟨b1,b2⟩:=C0.out _ a5.out;clear e0 J G k0 k1 k2 i5 i6;have h3:(acc++[q1]).length+[q2,q3].length<=1000000:=by rw[ae];simp;omega
    have c3:Gr w2 (w2.alloc (.cells #[.int .u8 (q2.toNat:Int),.int .u8 (q3.toNat:Int)] 5)):=(Gr.refl w2).alloc _;have i2:=Cr B B w2.heap.size 2 (acc++[q1]) [q2,q3] _ (e3.out.gr c3) h3 (by have:=b0.out;have:=c3.size;omega) (fun j hj=>by
     rw[aJ]
     match j,hj with
     |0,_=>rfl
     |1,_=>rfl) (by have:=BP e3.out;omega)
    have n3:=ak i2;clear i2;go_wp2_with fail
    refine n3.out.mono ?_;rintro e w3 ⟨rfl,e4,L,a2⟩;have g8:xR B wr.heap.size (w2.alloc (.cells #[.int .u8 (q2.toNat:Int),.int .u8 (q3.toNat:Int)] 5)):=fun v hv=>by
     have l5:=BP e3.out;rw[(c3.cell 1 l5)]at hv;exact h6.out v hv
    have n1:=a2.keeps Q g8 (c3.keeps m1);have n0:=a2.keeps Q g8 (c3.keeps m0);have e5:=ak (la (a5.out.alloc _) U.out L);have j1:=ak e4;have g7:Hid (B<=w3.heap.size):=ak (cK b0.out (cK c3.size L.size));obtain⟨b1,b2⟩:=C0.out _ e5.out;clear e4 L a2 m0 m1 m2 c3 g8;have j2:(acc++[q1]++[q2,q3]).length+ks.size<=1000000:=by rw[ae,ae,i9];simp;omega
    go_wp2_with fail
    refine(b6 _ _ j1.out j2 g7.out).mono ?_;rintro e w4 ⟨rfl,e6,a3⟩;have b7:=ak (la e5.out U.out a3);have j3:Hid (mU B B (fD false l.length++eM false (l.take (i+1))) w4):=ak (by
     rw[i4.out,j0.out];simpa[aU]using e6)
    clear e6 a3 b6;go_wp2_with fail
    exact⟨⟨i+1,by omega,by go_num,j3.out,b7.out⟩,by simp[bX];omega⟩
   have j4:i=l.length:=by omega
   subst j4;rw[de]at D;have d8:=kL (leaf:=false) (l:=l) a6.out;have b8:(fD false l.length++eM false l).length=aj false l:=by
    rw[ae,d8]
    rfl
   have e7:Hid (aw false l=⟨((fD false l.length++eM false l)++bA (1024-aj false l) 0).toArray⟩):=ak (by
    unfold aw FL fD nN;simp)
   generalize fD false l.length++eM false l=tx at*;obtain⟨Z,hZ⟩:∃Z,aj false l=Z:=⟨_,rfl⟩;rw[hZ]at b8 hb e7;have j5:(be tx).length=Z:=by rw[aV,b8]
   have e8:=Tryz.Builder_String_any_f B B tx wr (gc D.out) d6.out;have b9:=fun W h=>Tryz.Builder_Len_f B B (be tx) W h;rw[j5]at b9;have e9:∀W,dA prog 139 #[.string ⟨#[0]⟩,.int .i64 (1024-(Z:Int))] W (ar W (.string ⟨(bA (1024-Z) (0:UInt8)).toArray⟩)):=fun W=>by
    have:=u_ ⟨#[0]⟩ (1024-Z) W (by omega) (show 1<=100000 by omega);rw[show((1024-Z:Nat):Int)=1024-(Z:Int)by omega]at this;rw[<-gZ];exact this
   have l4:=mi tx (bA (1024-Z) (0:UInt8)) (by rw[b8,cO];omega);have n2:eB.wrap (1024-(Z:Int))=1024-(Z:Int):=by rw[da];omega
   generalize(⟨(bA (1024-Z) (0:UInt8)).toArray⟩:ByteArray)=zs at*;generalize(⟨(tx++bA (1024-Z) (0:UInt8)).toArray⟩:ByteArray)=res at*;generalize(⟨tx.toArray⟩:ByteArray)=ts at*;clear z hZ;go_wp2_with fail
   refine e8.mono ?_;rintro e w2 ⟨rfl,g0,b4⟩;have a5:=ak (la a8.out U.out b4);clear b4 e8;go_wp2_with fail
   refine(b9 w2 g0).mono ?_;rintro e w3 ⟨rfl,rfl⟩;clear g0 b9;go_wp2_with fail
   refine(e9 w3).mono ?_;rintro e w4 ⟨rfl,g3⟩;have b7:=ak ((h4.out.trans a5.out).trans g3);clear g3 e9;go_wp2_with fail
   go_ret;exact ar.mk (by rw[e7.out];rfl) b7.out
structure Fr(pg:Nat->ByteArray)(S:List Nat)(c c':Ch):Prop where
 aE:c'.aE
 keep:∀k,1<=k->k<2000->c.h.used k=true->k∉S->c'.h.used k=true/\fB pg c'.F k=fB pg c.F k
 roots:c'.h.roots=c.h.roots
 notes:c'.h.notes=c.h.notes
theorem Fr.refl{pg:Nat->ByteArray}{c:Ch}(h:c.aE)(S:List Nat):Fr pg S c c:=⟨h,fun _ _ _ hu _=>⟨hu,rfl⟩,rfl,rfl⟩
theorem Fr.trans{pg:Nat->ByteArray}{S S':List Nat}{c c1 q:Ch}(h:Fr pg S c c1)(b:Fr pg S' c1 q)(hs:∀k∈S',k∈S\/c.h.used k=false):Fr pg S c q:=
 ⟨b.aE,fun k s y hu hn=>by
  obtain⟨z,B⟩:=h.keep k s y hu hn;obtain⟨D,G⟩:=b.keep k s y z (fun H=>by
   rcases hs k H with e|e
   ·exact hn e
   rw[e]at hu;cases hu)
  exact⟨D,G.trans B⟩,b.roots.trans h.roots,b.notes.trans h.notes⟩
theorem Fr.wide{pg:Nat->ByteArray}{S S':List Nat}{c b:Ch}(h:Fr pg S c b)(hs:∀k∈S,k∈S'\/c.h.used k=false):Fr pg S' c b:=
 ⟨h.aE,fun k q s hu hn=>h.keep k q s hu fun y=>by
  rcases hs k y with e|e
  ·exact hn e
  rw[e]at hu;exact Bool.noConfusion hu,h.roots,h.notes⟩
def fE(c:Ch)(p:Nat):Prop:=1<=p/\p<2000/\c.h.used p=true
theorem fE.eL{c:Ch}{p:Nat}(h:fE c p):eL c.h (p:Int)=true:=im.2 ⟨p,rfl,h.1,h.2.1,h.2.2⟩
theorem qY{c:Ch}{p:Nat}(h:fE c p)(s:ByteArray):c.write (p:Nat) s=⟨c.h,lx c.F p (some s)⟩:=by
 unfold Ch.write;rw[if_pos h.eL]
theorem tR{c:Ch}{p:Nat}(h:fE c p):c.free (p:Nat)=⟨c.h.put p false,lx c.F p none⟩:=by
 unfold Ch.free;rw[if_pos h.eL]
 rfl
theorem Te{pg:Nat->ByteArray}{F:Int->Option ByteArray}{p:Nat}{s:ByteArray}:fB pg (lx F (p:Nat) (some s)) p=s:=by
 unfold fB lx;rw[if_pos rfl]
theorem wH{pg:Nat->ByteArray}{F:Int->Option ByteArray}{p k:Nat}(h:k≠p)(o:Option ByteArray):fB pg (lx F (p:Nat) o) k=fB pg F k:=by
 unfold fB lx;rw[if_neg (by omega)]
theorem gV{pg:Nat->ByteArray}{c:Ch}{p:Nat}(hc:c.aE)(h:fE c p){s:ByteArray}(hs:s.size=1024):Fr pg [p] c (c.write (p:Nat) s)/\fE (c.write (p:Nat) s) p/\fB pg (c.write (p:Nat) s).F p=s:=by
 refine⟨⟨hc.tM _ hs,?_,?_,?_⟩,?_,?_⟩
 ·intro k b q hu hn;rw[qY h];exact⟨hu,wH (by simpa using hn) _⟩
 ·rw[qY h]
 ·rw[qY h]
 ·rw[qY h];exact h
 rw[qY h];exact Te
theorem Cy{pg:Nat->ByteArray}{c:Ch}{p:Nat}(hc:c.aE)(h:fE c p):Fr pg [p] c (c.free (p:Nat)):=by
 refine⟨hc.oU _,?_,?_,?_⟩
 ·intro k b q hu hn;rw[tR h];refine⟨?_,wH (by simpa using hn) _⟩;show(if k=p then false else c.h.used k)=true;rw[if_neg (by simpa using hn)];exact hu
 ·rw[tR h];rfl
 rw[tR h];rfl
theorem alloc_eq{c:Ch}{q:Nat}(h:cS c.h=some q):c.alloc=⟨c.h.put q true,lx c.F q (some e_)⟩:=by
 unfold Ch.alloc;rw[h]
theorem oH{pg:Nat->ByteArray}{c:Ch}{q:Nat}(hc:c.aE)(h:cS c.h=some q):Fr pg [] c c.alloc/\fE c.alloc q/\c.h.used q=false/\1<=q/\q<2000:=by
 obtain⟨s,y,z,_⟩:=xP hc.head h;refine⟨⟨hc.p_,?_,?_,?_⟩,⟨s,y,?_⟩,z,s,y⟩
 ·intro k B D hu _;have b:k≠q:=fun e=>by rw[e,z]at hu;cases hu
  rw[alloc_eq h];refine⟨?_,wH b _⟩;show(if k=q then true else c.h.used k)=true;rw[if_neg b];exact hu
 ·rw[alloc_eq h];rfl
 ·rw[alloc_eq h];rfl
 rw[alloc_eq h];show(if q=q then true else c.h.used q)=true;rw[if_pos rfl]
theorem Fr.IE{pg:Nat->ByteArray}{S:List Nat}{c q:Ch}(h:Fr pg S c q){k:Nat}(b:fE c k)(hn:k∉S):fE q k:=⟨b.1,b.2.1,(h.keep k b.1 b.2.1 b.2.2 hn).1⟩
theorem Fr.Ga{pg:Nat->ByteArray}{S:List Nat}{c q:Ch}(h:Fr pg S c q){leaf:Bool}{p:Nat}{l:List En}(b:iy c pg leaf p l)(hn:p∉S):iy q pg leaf p l:=
 ⟨h.IE b.1 hn,(h.keep p b.1.1 b.1.2.1 b.1.2.2 hn).2.trans b.2⟩
theorem T.cY{c:Ch}{pg:Nat->ByteArray}:{d:Nat}->{t:T d}->t.lays c pg->∀k∈t.ai,fE c k
 |0,t,h,k,b=>by
  unfold T.ai at b;rw[bZ.1 b];exact h.1
 |d+1,t,h,k,b=>by
  unfold T.ai at b;rcases cl.1 b with e|b
  ·rw[e];exact h.1.1
  obtain⟨x,q,b⟩:=cg.1 b;exact T.cY (h.2 x q) k b
theorem T.hJ{pg:Nat->ByteArray}{S:List Nat}{c b:Ch}(g:Fr pg S c b):{d:Nat}->{t:T d}->t.lays c pg->(∀k∈t.ai,k∉S)->t.lays b pg
 |0,t,h,hn=>g.Ga h (hn _ (by unfold T.ai;exact bZ.2 rfl))
 |d+1,t,h,hn=>⟨g.Ga h.1 (hn _ (by unfold T.ai;exact bv)),fun x q=>T.hJ g (h.2 x q) fun k s=>hn k (by
  unfold T.ai;exact bT _ (cg.2 ⟨x,q,s⟩))⟩
theorem T.eP:{d:Nat}->(t:T d)->t.pg∈t.ai
 |0,t=>by unfold T.ai T.pg;exact bZ.2 rfl
 |d+1,t=>by unfold T.ai T.pg;exact bv
structure tT{X:Type}(pg:Nat->ByteArray)(Y7:X->Nat)(pgs:X->List Nat)(lay:Ch->X->Prop)(ok:X->Prop)(p:Nat)(c:Ch)(S:List Nat)(r:S1 X):Prop where
 fr:Fr pg S c r.1
 cU:Y7 r.2.1=p
 lays:lay r.1 r.2.1
 fits:ok r.2.1
 sub:∀k∈pgs r.2.1,k∈S\/c.h.used k=false
 nd:(pgs r.2.1).Nodup
 more:∀m,r.2.2=some (some m)->lay r.1 m.2/\ok m.2/\m.1.size<=60/\(∀k∈pgs m.2,k∈S\/c.h.used k=false)/\(pgs r.2.1++pgs m.2).Nodup
section
variable{X:Type}{pg:Nat->ByteArray}
def eG(pgs:X->List Nat)(n:Nat×List (ByteArray×X)):List Nat:=n.1::n.2.flatMap fun x=>pgs x.2
def IF(pg:Nat->ByteArray)(en:ByteArray×X->En)(leaf:Bool)(lay:Ch->X->Prop)(c:Ch)(n:Nat×List (ByteArray×X)):Prop:=iy c pg leaf n.1 (n.2.map en)/\∀x∈n.2,lay c x.2
def WY(en:ByteArray×X->En)(leaf:Bool)(ok:X->Prop)(n:Nat×List (ByteArray×X)):Prop:=qG leaf (n.2.map en)/\∀x∈n.2,ok x.2
theorem zd{en:ByteArray×X->En}{leaf:Bool}{pgs:X->List Nat}{lay:Ch->X->Prop}{ok:X->Prop}
  (a7:∀(c c':Ch) S x,Fr pg S c c'->lay c x->(∀k∈pgs x,k∉S)->lay c' x) (c5:∀(c:Ch) x,lay c x->∀k∈pgs x,fE c k) (b7:∀x,(en x).key=x.1)
  {c:Ch} {p:Nat} {l old:List (ByteArray×X)} (hc:c.aE) (hp:fE c p) (I:∀x∈l,lay c x.2/\ok x.2) (J:∀e∈l.map en,e.ok leaf) (c6:l≠[]) (V:aj leaf (l.map en)<=1400)
  (H:(eG pgs (p,l)).Nodup) (b8:IF pg en leaf lay c (p,old)) (Y:WY en leaf ok (p,old)) (Z:(eG pgs (p,old)).Nodup) (a0:∀k∈eG pgs (p,old),k∈eG pgs (p,l)):
  tT pg aQ (eG pgs) (IF pg en leaf lay) (WY en leaf ok) p c (eG pgs (p,l)) (cz en leaf c p l old):=by
 have a8:∀x∈l,∀k∈pgs x.2,k≠p:=fun x s k z e=>by
  have:=(ik.1 H).1;exact this (cg.2 ⟨x,s,by rw[<-e];exact z⟩)
 by_cases D:aj leaf (l.map en)<=1024
 ·have e:cz en leaf c p l old=(c.write p (aw leaf (l.map en)),(p,l),some none):=by
   unfold cz;rw[if_pos D]
  obtain⟨L,w2,w3⟩:=gV (pg:=pg) hc hp (dY J D);rw[e];refine⟨L.wide fun k z=>.inl ?_,rfl,⟨⟨w2,w3⟩,fun x s=>a7 _ _ _ _ L (I x s).1 fun k z y=>a8 x s k z (by simpa using y)⟩,⟨⟨by simpa using c6,D,J⟩,fun x s=>(I x s).2⟩,fun k z=>.inl z,H,fun m y=>by cases y⟩;rw[bZ.1 z];exact bv
 cases ha:cS c.h with
 |none=>
  have e:cz en leaf c p l old=(c,(p,old),none):=by
   unfold cz;rw[if_neg D,ha]
  rw[e];exact⟨Fr.refl hc _,rfl,b8,Y,fun k z=>.inl (a0 k z),Z,fun m y=>by cases y⟩
 |some q=>
  obtain⟨k,z⟩:∃k,dj leaf (l.map en)=k:=⟨_,rfl⟩;have e:cz en leaf c p l old=((c.alloc.write p (aw leaf ((l.map en).take k))).write q (aw leaf ((l.map en).drop k)),(p,l.take k),some (some (keyOf (l.drop k),(q,l.drop k)))):=by
   unfold cz;rw[if_neg D,ha];simp only[z]
  obtain⟨b1,b2,b3,b4⟩:=rX J (by omega) V;rw[z]at b1 b2 b3 b4;rw[em]at b2;obtain⟨a1,a2,a3,a4,a5⟩:=oH (pg:=pg) hc ha;have a9:∀e∈(l.map en).take k,e.ok leaf:=fun e h=>J e (bj h);have b0:∀e∈(l.map en).drop k,e.ok leaf:=fun e h=>J e (cf h);have U:p≠q:=fun e=>by rw[<-e,hp.2.2]at a3;cases a3
  obtain⟨L,w2,w3⟩:=gV (pg:=pg) a1.aE (a1.IE hp (by simp)) (dY a9 b3);have c7:=L.IE a2 (by simpa using U.symm);obtain⟨v1,v2,v3⟩:=gV (pg:=pg) L.aE c7 (dY b0 b4);have c8:Fr pg [p] c (c.alloc.write p (aw leaf ((l.map en).take k))):=(a1.wide (S':=[p]) (fun k z=>absurd z (by simp))).trans L fun k z=>.inl z;have b5:Fr pg [p] c ((c.alloc.write p (aw leaf ((l.map en).take k))).write q (aw leaf ((l.map en).drop k))):=c8.trans v1 fun k z=>.inr (by rw[bZ.1 z];exact a3);have M:∀x∈l,lay ((c.alloc.write p (aw leaf ((l.map en).take k))).write q (aw leaf ((l.map en).drop k))) x.2:=fun x s=>a7 _ _ _ _ b5 (I x s).1 fun k z y=>a8 x s k z (by simpa using y);have b6:∀x∈l,q∉pgs x.2:=fun x s y=>by
   have:=(c5 _ _ (I x s).1 q y).2.2;rw[a3]at this;cases this
  have B:l.flatMap (fun x=>pgs x.2)=(l.take k).flatMap (fun x=>pgs x.2)++(l.drop k).flatMap (fun x=>pgs x.2):=by
   rw[<-dr,cj]
  have O:((eG pgs (p,l.take k))++(eG pgs (q,l.drop k))).Nodup:=by
   unfold eG at H⊢;simp only at H⊢;rw[B]at H;have h1:((p::(l.take k).flatMap (fun x=>pgs x.2))++(l.drop k).flatMap (fun x=>pgs x.2)).Nodup:=by rw[List.cons_append];exact H
   rw[gf]at h1⊢;obtain⟨g1,g2,g3⟩:=h1;refine⟨g1,ik.2 ⟨fun y=>?_,g2⟩,fun a ha b V=>?_⟩
   ·obtain⟨x,s,y⟩:=cg.1 y;exact b6 x (cf s) y
   rcases cl.1 V with e|V
   ·rw[e];intro e2;rw[e2]at ha;rcases cl.1 ha with e3|ha
    ·exact U e3.symm
    obtain⟨x,s,y⟩:=cg.1 ha;exact b6 x (bj s) y
   exact g3 a ha b V
  have c9:l.take k≠[]:=fun e=>by
   have:=congrArg ko e;rw[aS,bF]at this;omega
  have Q:l.drop k≠[]:=fun e=>by
   have:=congrArg ko e;rw[bz,bF]at this;omega
  rw[e];refine⟨b5.wide fun j G=>.inl ?_,rfl,⟨?_,fun x s=>M x (bj s)⟩,⟨⟨?_,?_,?_⟩,fun x s=>(I x (bj s)).2⟩,fun j G=>.inl ?_,(gf.1 O).1,fun m y=>?_⟩
  ·rw[bZ.1 G];exact bv
  ·show iy _ pg leaf p ((l.take k).map en);rw[fn];exact v1.Ga ⟨w2,w3⟩ (by simpa using U)
  ·simpa using c9
  ·show aj leaf ((l.take k).map en)<=1024;rw[fn];exact b3
  ·show∀e∈(l.take k).map en,e.ok leaf;rw[fn];exact a9
  ·unfold eG at G⊢;rcases cl.1 G with e|G
   ·rw[e];exact bv
   refine bT _ ?_;rw[B];exact List.mem_append_left _ G
  injection y with y
  injection y with y
  subst y;have g1:iy ((c.alloc.write p (aw leaf ((l.map en).take k))).write q (aw leaf ((l.map en).drop k))) pg leaf q ((l.drop k).map en):=by
   rw[fy];exact⟨v2,v3⟩
  have g2:qG leaf ((l.drop k).map en):=by
   rw[fy];exact⟨by rw[<-fy];simpa using Q,b4,b0⟩
  refine⟨⟨g1,fun x s=>M x (cf s)⟩,⟨g2,fun x s=>(I x (cf s)).2⟩,?_,fun j G=>?_,O⟩
  ·unfold keyOf;cases hd:l.drop k with
   |nil=>exact absurd hd Q
   |cons x r=>
    have s:x∈l:=cf (i:=k) (by rw[hd];exact bv);have:=(J (en x) (List.mem_map_of_mem s)).key;rw[b7]at this;simpa using this
  unfold eG at G⊢;rcases cl.1 G with e|G
  ·rw[e];exact .inr a3
  refine .inl (bT _ ?_);rw[B];exact List.mem_append_right _ G
end
