/-
  Part 5 of the proof.
-/
import Derived.Test.YtldmhjbdahjhdaaGreatDoorZc3
import Derived.Shelf.Spec.SlicesInsertGrow
import Derived.Lib.SlicesDelete
set_option maxRecDepth 100000
set_option maxHeartbeats 100000000
set_option linter.all false
namespace Go.Proofs.YtldmhjbdahjhdaaGreatDoor
section
open Go Go.RowKit
def noB:ByteArray:=⟨#[]⟩
structure En where
 key:ByteArray
 item:ByteArray
 page:Nat
def En.sz(e:En)(leaf:Bool):Nat:=if leaf then 2+e.key.size+e.item.size else 3+e.key.size
def sumE(leaf:Bool)(l:List En):Nat:=(l.map fun e=>e.sz leaf).sum
def bytesE(leaf:Bool)(l:List En):Nat:=3+sumE leaf l
def En.head(e:En)(leaf:Bool):List UInt8:=if leaf then[e.key.size.toUInt8,e.item.size.toUInt8]else e.key.size.toUInt8::two8 (e.page:Int)
def En.txt(e:En)(leaf:Bool):List UInt8:=e.head leaf++(e.key.data.toList++e.item.data.toList)
def restE(leaf:Bool)(l:List En):List UInt8:=l.flatMap fun e=>e.txt leaf
def txtE(leaf:Bool)(l:List En):List UInt8:=(if leaf then 1 else 2)::(two8 (l.length:Int)++(restE leaf l++List.replicate (1024-bytesE leaf l) 0))
def pageE(leaf:Bool)(l:List En):ByteArray:=⟨(txtE leaf l).toArray⟩
structure En.ok(e:En)(leaf:Bool):Prop where
 key:e.key.size<=60
 item:e.item.size<=100
 page:e.page<2000
 isL:leaf=true->e.page=0
 node:leaf=false->e.item=noB
theorem En.txt_len{leaf:Bool}{e:En}(h:e.ok leaf):(e.txt leaf).length=e.sz leaf:=by
 unfold En.txt En.sz En.head
 have h1:∀s:ByteArray,s.data.toList.length=s.size:=fun s=>by rw[Array.length_toList];rfl
 cases leaf with
 |true=>
  simp only[if_true,List.length_append,h1,List.length_cons,List.length_nil]
  omega
 |false=>
  have:e.item.size=0:=by rw[h.node rfl];rfl
  simp only[Bool.false_eq_true,if_false,List.length_append,h1,List.length_cons,two8,List.length_nil]
  omega
theorem restE_len{leaf:Bool}:∀{l:List En},(∀e∈l,e.ok leaf)->(restE leaf l).length=sumE leaf l
 |[],_=>rfl
 |e::l,h=>by
  have ih:=restE_len (l:=l) fun x hx=>h x (List.mem_cons_of_mem _ hx)
  unfold restE sumE at*
  rw[List.flatMap_cons,List.length_append,ih,En.txt_len (h e List.mem_cons_self),List.map_cons,List.sum_cons]
theorem txtE_len{leaf:Bool}{l:List En}(h:∀e∈l,e.ok leaf)(hb:bytesE leaf l<=1024):(txtE leaf l).length=1024:=by
 unfold txtE
 unfold bytesE at*
 simp only[List.length_cons,List.length_append,two8,List.length_nil,restE_len h,List.length_replicate]
 omega
theorem pageE_size{leaf:Bool}{l:List En}(h:∀e∈l,e.ok leaf)(hb:bytesE leaf l<=1024):(pageE leaf l).size=1024:=by
 unfold pageE
 rw[ba_len,txtE_len h hb]
theorem En.sz_pos(e:En)(leaf:Bool):2<=e.sz leaf:=by
 unfold En.sz
 split<;>omega
theorem En.sz_le{leaf:Bool}{e:En}(h:e.ok leaf):e.sz leaf<=162:=by
 have:=h.key
 have:=h.item
 unfold En.sz
 split<;>omega
theorem sumE_append(leaf:Bool)(a b:List En):sumE leaf (a++b)=sumE leaf a+sumE leaf b:=by
 unfold sumE
 rw[List.map_append,List.sum_append]
theorem sumE_cons(leaf:Bool)(e:En)(b:List En):sumE leaf (e::b)=e.sz leaf+sumE leaf b:=by
 unfold sumE
 rw[List.map_cons,List.sum_cons]
theorem sumE_len(leaf:Bool):∀l:List En,2*l.length<=sumE leaf l
 |[]=>Nat.le_refl _
 |e::l=>by
  have:=sumE_len leaf l
  have:=e.sz_pos leaf
  rw[sumE_cons,List.length_cons]
  omega
def T:Nat->Type
 |0=>Nat×List (ByteArray×ByteArray)
 |d+1=>Nat×List (ByteArray×T d)
def T.pg:{d:Nat}->T d->Nat
 |0,t=>Prod.fst t
 |_+1,t=>Prod.fst t
def enL(x:ByteArray×ByteArray):En:=⟨x.1,x.2,0⟩
def enN{d:Nat}(x:ByteArray×T d):En:=⟨x.1,noB,x.2.pg⟩
def T.ents:{d:Nat}->T d->List En
 |0,t=>(Prod.snd t).map enL
 |_+1,t=>(Prod.snd t).map enN
def isLeaf:Nat->Bool
 |0=>true
 |_+1=>false
def T.pages:{d:Nat}->T d->List Nat
 |0,t=>[Prod.fst t]
 |_+1,t=>Prod.fst t::(Prod.snd t).flatMap fun x=>x.2.pages
def T.kv:{d:Nat}->T d->List (ByteArray×ByteArray)
 |0,t=>Prod.snd t
 |_+1,t=>(Prod.snd t).flatMap fun x=>x.2.kv
def HasN(c:Ch)(pg:Nat->ByteArray)(leaf:Bool)(p:Nat)(l:List En):Prop:=(1<=p/\p<2000/\c.h.used p=true)/\pageNow pg c.F p=pageE leaf l
def T.lays(c:Ch)(pg:Nat->ByteArray):{d:Nat}->T d->Prop
 |0,t=>HasN c pg true (Prod.fst t) ((Prod.snd t).map enL)
 |_+1,t=>HasN c pg false (Prod.fst t) ((Prod.snd t).map enN)/\∀x∈Prod.snd t,x.2.lays c pg
def OkN(leaf:Bool)(l:List En):Prop:=l≠[]/\bytesE leaf l<=1024/\∀e∈l,e.ok leaf
def T.okT:{d:Nat}->T d->Prop
 |0,t=>OkN true ((Prod.snd t).map enL)
 |_+1,t=>OkN false ((Prod.snd t).map enN)/\∀x∈Prod.snd t,x.2.okT
def cmpB(a b:ByteArray):Int:=Lib.compareBytes a.data.toList b.data.toList
def bsI(lt:Nat->Bool):Nat->Nat->Nat->Nat
 |0,i,_=>i
 |f+1,i,j=>if i<j then(if lt ((i+j)/2)then bsI lt f ((i+j)/2+1) j else bsI lt f i ((i+j)/2))else i
theorem bsI_le(lt:Nat->Bool):∀f i j,i<=j->i<=bsI lt f i j/\bsI lt f i j<=j
 |0,i,j,h=>⟨Nat.le_refl _,h⟩
 |f+1,i,j,h=>by
  unfold bsI
  split
  ·split
   ·have:=bsI_le lt f ((i+j)/2+1) j (by omega)
    omega
   ·have:=bsI_le lt f i ((i+j)/2) (by omega)
    omega
  ·omega
def ltK(keys:List ByteArray)(k:ByteArray)(h:Nat):Bool:=decide (cmpB (keys.getD h noB) k<0)
def searchE(keys:List ByteArray)(k:ByteArray):Nat:=bsI (ltK keys k) keys.length 0 keys.length
def hitE(keys:List ByteArray)(k:ByteArray):Bool:=decide (searchE keys k<keys.length)&&decide (cmpB (keys.getD (searchE keys k) noB) k=0)
theorem searchE_le(keys:List ByteArray)(k:ByteArray):searchE keys k<=keys.length:=(bsI_le _ _ _ _ (Nat.zero_le _)).2
theorem hitE_lt{keys:List ByteArray}{k:ByteArray}(h:hitE keys k=true):searchE keys k<keys.length:=by
 unfold hitE at h
 rw[Bool.and_eq_true,decide_eq_true_eq]at h
 exact h.1
def downE(keys:List ByteArray)(k:ByteArray):Nat:=if hitE keys k then searchE keys k else searchE keys k-1
theorem downE_lt{keys:List ByteArray}(h:keys≠[])(k:ByteArray):downE keys k<keys.length:=by
 have h0:0<keys.length:=List.length_pos_iff.2 h
 have:=searchE_le keys k
 unfold downE
 split
 ·rename_i hh
  exact hitE_lt hh
 ·omega
def cutK(leaf:Bool)(half:Nat):Nat->List En->Nat
 |_,[]=>0
 |acc,e::l=>if acc<half then cutK leaf half (acc+e.sz leaf) l+1 else 0
def cutE(leaf:Bool)(l:List En):Nat:=cutK leaf (bytesE leaf l/2) 0 l
theorem cutK_bounds(leaf:Bool)(half:Nat):∀(l:List En) (acc:Nat),(∀e∈l,e.sz leaf<=162)->half<=acc+sumE leaf l->half<=acc+sumE leaf (l.take (cutK leaf half acc l))/\(acc<half->acc+sumE leaf (l.take (cutK leaf half acc l))<half+162)/\cutK leaf half acc l<=l.length
 |[],acc,_,h=>by
  unfold cutK
  simp only[List.take_nil,List.length_nil]
  refine⟨h,fun h2=>?_,Nat.le_refl _⟩
  simp only[sumE,List.map_nil,List.sum_nil]at*
  omega
 |e::l,acc,hs,h=>by
  have he:=hs e List.mem_cons_self
  rw[sumE_cons]at h
  unfold cutK
  split
  ·rename_i hlt
   obtain⟨h1,h2,h3⟩:=cutK_bounds leaf half l (acc+e.sz leaf) (fun x hx=>hs x (List.mem_cons_of_mem _ hx)) (by omega)
   rw[List.take_succ_cons,sumE_cons,List.length_cons]
   refine⟨by omega,fun _=>?_,by omega⟩
   by_cases hc:acc+e.sz leaf<half
   ·have:=h2 hc
    omega
   ·have hz:cutK leaf half (acc+e.sz leaf) l=0:=by
     cases l with
     |nil=>rfl
     |cons a r=>unfold cutK;rw[if_neg hc]
    rw[hz,List.take_zero]
    simp only[sumE,List.map_nil,List.sum_nil]
    omega
  ·rename_i hge
   rw[List.take_zero]
   simp only[sumE,List.map_nil,List.sum_nil]
   exact⟨by omega,fun h=>absurd h hge,by simp⟩
theorem cutE_bounds{leaf:Bool}{l:List En}(hs:∀e∈l,e.ok leaf)(h1:1024<bytesE leaf l)(h2:bytesE leaf l<=1400):
  0<cutE leaf l/\cutE leaf l<l.length/\bytesE leaf (l.take (cutE leaf l))<=1024/\bytesE leaf (l.drop (cutE leaf l))<=1024:=by
 have h3:bytesE leaf l=3+sumE leaf l:=rfl
 obtain⟨b1,b2,b3⟩:=cutK_bounds leaf (bytesE leaf l/2) l 0 (fun e he=>En.sz_le (hs e he)) (by omega)
 have b4:=b2 (by omega)
 have hsum:sumE leaf (l.take (cutE leaf l))+sumE leaf (l.drop (cutE leaf l))=sumE leaf l:=by
  rw[<-sumE_append,List.take_append_drop]
 change _<=0+sumE leaf (l.take (cutE leaf l))at b1
 change 0+sumE leaf (l.take (cutE leaf l))<_ at b4
 change cutE leaf l<=_ at b3
 have h5:bytesE leaf (l.take (cutE leaf l))=3+sumE leaf (l.take (cutE leaf l)):=rfl
 have h6:bytesE leaf (l.drop (cutE leaf l))=3+sumE leaf (l.drop (cutE leaf l)):=rfl
 refine⟨?_,?_,by omega,by omega⟩
 ·rcases Nat.eq_zero_or_pos (cutE leaf l)with e|e
  ·rw[e,List.take_zero]at b1
   simp only[sumE,List.map_nil,List.sum_nil]at b1
   omega
  ·exact e
 ·rcases Nat.lt_or_ge (cutE leaf l) l.length with e|e
  ·exact e
  ·rw[List.drop_eq_nil_of_le e]at hsum
   simp only[sumE,List.map_nil,List.sum_nil]at hsum
   simp only[sumE]at*
   omega
section
variable{X:Type}
abbrev Res (X:Type):Type:=Ch×X×Option (Option (ByteArray×X))
def keyOf(l:List (ByteArray×X)):ByteArray:=((l.head?).map Prod.fst).getD noB
def splitL(en:ByteArray×X->En)(leaf:Bool)(c:Ch)(p:Nat)(l old:List (ByteArray×X)):Res (Nat×List (ByteArray×X)):=
 if bytesE leaf (l.map en)<=1024 then(c.write p (pageE leaf (l.map en)),(p,l),some none)
 else match allocF c.h with
  |none=>(c,(p,old),none)
  |some q=>((c.alloc.write p (pageE leaf ((l.map en).take (cutE leaf (l.map en))))).write q (pageE leaf ((l.map en).drop (cutE leaf (l.map en)))),(p,l.take (cutE leaf (l.map en))),some (some (keyOf (l.drop (cutE leaf (l.map en))),(q,l.drop (cutE leaf (l.map en))))))
def putL(l:List (ByteArray×ByteArray))(key item:ByteArray):List (ByteArray×ByteArray):=
 if hitE (l.map Prod.fst) key then l.set (searchE (l.map Prod.fst) key) (key,item)else l.insertIdx (searchE (l.map Prod.fst) key) (key,item)
end
def putT:{d:Nat}->Ch->T d->ByteArray->ByteArray->Res (T d)
 |0,c,t,key,item=>splitL enL true c (Prod.fst t) (putL (Prod.snd t) key item) (Prod.snd t)
 |d+1,c,t,key,item=>
  match(Prod.snd t)[downE ((Prod.snd t).map Prod.fst) key]? with
  |none=>(c,t,none)
  |some x=>
   match putT c x.2 key item with
   |(c1,u,none)=>(c1,(Prod.fst t,(Prod.snd t).set (downE ((Prod.snd t).map Prod.fst) key) (x.1,u)),none)
   |(c1,u,some none)=>splitL (X:=T d) enN false c1 (Prod.fst t) ((Prod.snd t).set (downE ((Prod.snd t).map Prod.fst) key) (x.1,u)) ((Prod.snd t).set (downE ((Prod.snd t).map Prod.fst) key) (x.1,u))
   |(c1,u,some (some m))=>splitL (X:=T d) enN false c1 (Prod.fst t) (((Prod.snd t).set (downE ((Prod.snd t).map Prod.fst) key) (x.1,u)).insertIdx (downE ((Prod.snd t).map Prod.fst) key+1) m) ((Prod.snd t).set (downE ((Prod.snd t).map Prod.fst) key) (x.1,u))
def getT(key:ByteArray):{d:Nat}->T d->Option ByteArray
 |0,t=>if hitE ((Prod.snd t).map Prod.fst) key then((Prod.snd t)[searchE ((Prod.snd t).map Prod.fst) key]?).map Prod.snd else none
 |_+1,t=>((Prod.snd t)[downE ((Prod.snd t).map Prod.fst) key]?).bind fun x=>getT key x.2
def reKey{X:Type}(k:ByteArray):List (ByteArray×X)->List (ByteArray×X)
 |[]=>[]
 |x::r=>(k,x.2)::r
def reKeyE(k:ByteArray):List En->List En
 |[]=>[]
 |x::r=>⟨k,x.item,x.page⟩::r
def T.meet:{d:Nat}->T d->ByteArray->T d->T d
 |0,a,_,b=>(Prod.fst a,Prod.snd a++Prod.snd b)
 |_+1,a,k,b=>(Prod.fst a,Prod.snd a++reKey k (Prod.snd b))
def joinT{d:Nat}(c:Ch)(l:List (ByteArray×T d))(k:Nat)(u:T d):Ch×List (ByteArray×T d):=
 if 341<bytesE (isLeaf d) u.ents\/l.length<2 then(c,l)
 else match l[k-1]?,l[k-1+1]? with
  |some a,some b=>
   if 1024<bytesE (isLeaf d) (a.2.meet b.1 b.2).ents then(c,l)
   else((c.write a.2.pg (pageE (isLeaf d) (a.2.meet b.1 b.2).ents)).free b.2.pg,(l.set (k-1) (a.1,a.2.meet b.1 b.2)).eraseIdx (k-1+1))
  |_,_=>(c,l)
def dropT:{d:Nat}->Ch->T d->ByteArray->Ch×T d
 |0,c,t,key=>(c.write (Prod.fst t:Nat) (pageE true (((Prod.snd t).eraseIdx (searchE ((Prod.snd t).map Prod.fst) key)).map enL)),(Prod.fst t,(Prod.snd t).eraseIdx (searchE ((Prod.snd t).map Prod.fst) key)))
 |d+1,c,t,key=>
  match(Prod.snd t)[downE ((Prod.snd t).map Prod.fst) key]? with
  |none=>(c,t)
  |some x=>
   let r:=dropT c x.2 key
   let l:=(Prod.snd t).set (downE ((Prod.snd t).map Prod.fst) key) (x.1,r.2)
   let s:Ch×List (ByteArray×T d):=if r.2.ents.isEmpty then(r.1.free (r.2.pg:Nat),l.eraseIdx (downE ((Prod.snd t).map Prod.fst) key))else joinT r.1 l (downE ((Prod.snd t).map Prod.fst) key) r.2
   (s.1.write (Prod.fst t:Nat) (pageE false (s.2.map enN)),(Prod.fst t,s.2))
def walkT(s:ByteArray):{d:Nat}->T d->List (ByteArray×ByteArray)
 |0,t=>(Prod.snd t).drop (searchE ((Prod.snd t).map Prod.fst) s)
 |d+1,t=>((Prod.snd t).drop (downE ((Prod.snd t).map Prod.fst) s)).flatMap fun(x:ByteArray×T d)=>walkT s x.2
abbrev Tr:Type:=Option ((d:Nat)×T d)
def Tr.pages:Tr->List Nat
 |none=>[]
 |some t=>t.2.pages
def Tr.lays(c:Ch)(pg:Nat->ByteArray)(i:Nat):Tr->Prop
 |none=>c.h.roots i=0
 |some t=>c.h.roots i=(t.2.pg:Nat)/\t.2.lays c pg/\t.2.okT/\t.2.pages.Nodup
def Ch.root(c:Ch)(i:Nat)(p:Int):Ch:=⟨c.h.setRoot i p (c.h.notes i),c.F⟩
def putsT(c:Ch)(i:Nat)(t:Tr)(key item:ByteArray):Ch×Tr×Nat:=
 match t with
 |none=>match allocF c.h with
  |none=>(c,none,12)
  |some k=>((c.alloc.write (k:Nat) (pageE true [⟨key,item,0⟩])).root i (k:Nat),some ⟨0,(k,[(key,item)])⟩,0)
 |some ⟨d,t⟩=>match putT c t key item with
  |( c1,u,none)=>(c1,some ⟨d,u⟩,12)
  |( c1,u,some none)=>(c1,some ⟨d,u⟩,0)
  |( c1,u,some (some m))=>match allocF c1.h with
    |none=>(c1,some ⟨d,u⟩,12)
    |some k=>((c1.alloc.write (k:Nat) (pageE false [⟨(u.ents.head?.map En.key).getD noB,noB,u.pg⟩,⟨m.1,noB,m.2.pg⟩])).root i (k:Nat),some ⟨d+1,(k,[((u.ents.head?.map En.key).getD noB,u),m])⟩,0)
def moreT(c:Ch)(i:Nat)(more:Int):Ch×Nat:=if 0<=c.h.notes i+more/\c.h.notes i+more<65536 then(⟨c.h.setRoot i (c.h.roots i) (c.h.notes i+more),c.F⟩,0)else(c,2)
def Tr.get(t:Tr)(key:ByteArray):Option ByteArray:=match t with|none=>none|some t=>getT key t.2
def moreP(t:Tr)(key item:ByteArray):Int:=match t.get key with|none=>2+(key.size:Int)+item.size|some old=>(item.size:Int)-old.size
def putR(c:Ch)(i:Nat)(t:Tr)(key item:ByteArray):Ch×Tr×Nat:=
 if key.size<1\/60<key.size\/100<item.size then(c,t,1)
 else if 30000<c.h.notes i+moreP t key item then(c,t,12)
 else match putsT c i t key item with
  |(c1,u,0)=>((moreT c1 i (moreP t key item)).1,u,(moreT c1 i (moreP t key item)).2)
  |r=>r
def dropsT(c:Ch)(i:Nat)(t:Tr)(key:ByteArray):Ch×Tr:=
 match t with
 |none=>(c,none)
 |some ⟨0,t⟩=>if(dropT c t key).2.ents.isEmpty then(((dropT c t key).1.free (t.pg:Nat)).root i 0,none)else((dropT c t key).1,some ⟨0,(dropT c t key).2⟩)
 |some ⟨d+1,t⟩=>
  if(dropT c t key).2.ents.isEmpty then(((dropT c t key).1.free (t.pg:Nat)).root i 0,none)
  else match Prod.snd (dropT c t key).2 with
   |[x]=>(((dropT c t key).1.free (t.pg:Nat)).root i (T.pg (d:=d) x.2:Nat),some ⟨d,x.2⟩)
   |_=>((dropT c t key).1,some ⟨d+1,(dropT c t key).2⟩)
def dropR(c:Ch)(i:Nat)(t:Tr)(key:ByteArray):Ch×Tr×Nat:=
 match t.get key with
 |none=>(c,t,7)
 |some old=>((moreT (dropsT c i t key).1 i (-2-(key.size:Int)-old.size)).1,(dropsT c i t key).2,(moreT (dropsT c i t key).1 i (-2-(key.size:Int)-old.size)).2)
def walkR(t:Tr)(s:ByteArray):List (ByteArray×ByteArray):=match t with
 |none=>[]
 |some t=>walkT s t.2
end
section
open Go Go.RowKit Go.Lib
def En.val(e:En):Value:=.agg #[.string e.key,.string e.item,.int .i64 (e.page:Int)]
def En.cells(e:En):List Value:=[.string e.key,.string e.item,.int .i64 (e.page:Int)]
def cellsE(l:List En):List Value:=l.flatMap En.cells
def OwnE(a0 w:World)(v:Value)(l:List En):Prop:=w.ownsRow a0.heap.size 206 3 v l.length (cellsE l)
theorem OwnE.row{a0 w:World}{v:Value}{l:List En}(h:OwnE a0 w v l):w.ownsRow a0.heap.size 206 3 v l.length (cellsE l):=h
theorem info_entry:(Tryz.prog.info? 206).map (fun i=>(i.zero,i.size,i.bytes))=some (some (.agg #[.string ⟨#[]⟩,.string ⟨#[]⟩,.int .i64 0]),3,40):=by kernel_rfl
theorem cellsE_append(a b:List En):cellsE (a++b)=cellsE a++cellsE b:=by
 unfold cellsE
 rw[List.flatMap_append]
theorem cellsE_len:∀l:List En,(cellsE l).length=l.length*3
 |[]=>rfl
 |e::l=>by
  have:=cellsE_len l
  unfold cellsE at*
  rw[List.flatMap_cons,List.length_append,this]
  simp only[En.cells,List.length_cons,List.length_nil]
  omega
theorem En.cells_one(e:En):∀u∈e.cells,u.oneCell'=true:=by
 intro u hu
 unfold En.cells at hu
 simp only[List.mem_cons,List.not_mem_nil,or_false]at hu
 rcases hu with h|h|h<;>(rw[h];rfl)
theorem cellsE_one(l:List En):∀u∈cellsE l,u.oneCell'=true:=by
 intro u hu
 unfold cellsE at hu
 obtain⟨e,_,h⟩:=List.mem_flatMap.1 hu
 exact e.cells_one u h
theorem cellsE_get:∀(l:List En) (i:Nat) (h:i<l.length),(cellsE l)[i*3]?=some (.string l[i].key)/\(cellsE l)[i*3+1]?=some (.string l[i].item)/\(cellsE l)[i*3+2]?=some (.int .i64 (l[i].page:Int))
 |e::l,0,_=>⟨rfl,rfl,rfl⟩
 |e::l,i+1,h=>by
  obtain⟨h1,h2,h3⟩:=cellsE_get l i (by simpa using h)
  have e1:cellsE (e::l)=.string e.key::.string e.item::.int .i64 (e.page:Int)::cellsE l:=rfl
  rw[e1,show(i+1)*3=i*3+1+1+1 by omega]
  simp only[List.getElem?_cons_succ,List.getElem_cons_succ,h1,h2,h3,and_self]
def EntsAt(w:World)(b off:Nat)(l:List En):Prop:=
 ∀i (h:i<l.length),w.cell? ⟨b,off+i*3,none⟩=some (.string l[i].key)/\w.cell? ⟨b,off+i*3+1,none⟩=some (.string l[i].item)/\w.cell? ⟨b,off+i*3+2,none⟩=some (.int .i64 (l[i].page:Int))
theorem EntsAt.gr{w w':World}{b off:Nat}{l:List En}(h:EntsAt w b off l)(g:Gr w w'):EntsAt w' b off l:=fun i hi=>⟨g.keeps (h i hi).1,g.keeps (h i hi).2.1,g.keeps (h i hi).2.2⟩
theorem EntsAt.keepX{S:Nat->Prop}{w w':World}{b off:Nat}{l:List En}(h:EntsAt w b off l)(g:GrX S w w')(hs:¬S b):EntsAt w' b off l:=fun i hi=>⟨g.keeps hs (h i hi).1,g.keeps hs (h i hi).2.1,g.keeps hs (h i hi).2.2⟩
def IsE(w:World)(v:Value)(l:List En):Prop:=(v=.slice none 0 0/\l=[])\/∃b off c,v=.slice (some ⟨b,off,none⟩) l.length c/\b<w.heap.size/\EntsAt w b off l
theorem IsE.gr{w w':World}{v:Value}{l:List En}(h:IsE w v l)(g:Gr w w'):IsE w' v l:=by
 rcases h with h|⟨b,off,c,h1,h2,h3⟩
 ·exact .inl h
 ·exact .inr ⟨b,off,c,h1,Nat.lt_of_lt_of_le h2 g.size,h3.gr g⟩
theorem IsE.form{w:World}{v:Value}{l:List En}(h:IsE w v l):∃ao c,v=.slice ao l.length c:=by
 rcases h with⟨rfl,rfl⟩|⟨b,off,c,rfl,_⟩
 ·exact⟨none,0,rfl⟩
 ·exact⟨_,c,rfl⟩
theorem EntsAt.cells{w:World}{b off:Nat}{l:List En}(h:EntsAt w b off l):∀j u,(cellsE l)[j]?=some u->w.cell? ((⟨b,off,none⟩:Addr).add j)=some u:=by
 intro j u hj
 have hlt:j<l.length*3:=by
  rw[<-cellsE_len]
  exact(List.getElem?_eq_some_iff.1 hj).1
 have ha:(⟨b,off,none⟩:Addr).add j=⟨b,off+j,none⟩:=by
  unfold Addr.add
  split<;>simp_all
 have hg:=cellsE_get l (j/3) (by omega)
 have hp:=h (j/3) (by omega)
 rw[ha]
 rcases(show j % 3=0\/j % 3=1\/j % 3=2 by omega)with e|e|e
 ·rw[show j/3*3=j by omega]at hg hp
  rw[hg.1]at hj
  rw[hp.1,Option.some.inj hj]
 ·rw[show j/3*3+1=j by omega]at hg
  rw[show off+j/3*3+1=off+j by omega]at hp
  rw[hg.2.1]at hj
  rw[hp.2.1,Option.some.inj hj]
 ·rw[show j/3*3+2=j by omega]at hg
  rw[show off+j/3*3+2=off+j by omega]at hp
  rw[hg.2.2]at hj
  rw[hp.2.2,Option.some.inj hj]
theorem OwnE.at'{a0 w:World}{v:Value}{l:List En}(h:OwnE a0 w v l):(v=.slice none 0 0/\l=[])\/∃B cap,v=.slice (some ⟨B,0,none⟩) l.length cap/\l.length<=cap/\a0.heap.size<=B/\B<w.heap.size/\EntsAt w B 0 l/\∀o,w.frozen? ⟨B,o,none⟩=false:=by
 have hc:=fun g hg=>World.ownsRow.cells (g:=g) h.row hg
 rcases h.row.2 with⟨rfl,h0⟩|⟨g,cap,cur,rfl,hb,hh,hle,_⟩
 ·exact .inl ⟨rfl,List.eq_nil_of_length_eq_zero h0⟩
 ·refine .inr ⟨g,cap,rfl,hle,hb,(Array.getElem?_eq_some_iff.1 hh).1,fun i hi=>?_,fun o=>Lib.frozen_of_heap hh _⟩
  have hg:=cellsE_get l i hi
  have c1:=hc g rfl _ _ hg.1
  have c2:=hc g rfl _ _ hg.2.1
  have c3:=hc g rfl _ _ hg.2.2
  have e:∀j,(⟨g,0,none⟩:Addr).add j=⟨g,j,none⟩:=by
   intro j;unfold Addr.add;split<;>simp_all
  rw[e]at c1 c2 c3
  rw[Nat.zero_add]
  exact⟨c1,c2,c3⟩
theorem OwnE.isE{a0 w:World}{v:Value}{l:List En}(h:OwnE a0 w v l):IsE w v l:=by
 rcases h.at' with h|⟨B,cap,h1,h2,h3,h4,h5,_⟩
 ·exact .inl h
 ·exact .inr ⟨B,0,cap,h1,h4,h5⟩
theorem OwnE.form{a0 w:World}{v:Value}{l:List En}(h:OwnE a0 w v l):∃ao c,v=.slice ao l.length c:=h.isE.form
theorem OwnE.back{a0 a1 w:World}{v:Value}{l:List En}(h:OwnE a1 w v l)(g:Gr a0 a1):OwnE a0 w v l:=by
 refine⟨h.row.1,?_⟩
 rcases h.row.2 with h1|⟨g',cap,cur,h1,hb,hh⟩
 ·exact .inl h1
 ·exact .inr ⟨g',cap,cur,h1,Nat.le_trans g.size hb,hh⟩
theorem OwnE.gr{a0 w w':World}{v:Value}{l:List En}(h:OwnE a0 w v l)(g:Gr w w'):OwnE a0 w' v l:=ownsRow_gr h g
theorem OwnE.nil(a0 w:World):OwnE a0 w (.slice none 0 0) []:=World.ownsRow_nil _ _ _ _
theorem OwnE.keepX{S:Nat->Prop}{a0 w w':World}{v:Value}{l:List En}(h:OwnE a0 w v l)(g:GrX S w w')(hs:∀b,v.ownBlock=some b->¬S b):OwnE a0 w' v l:=by
 refine⟨h.row.1,?_⟩
 rcases h.row.2 with h1|⟨g',cap,cur,h1,hb,hh,h2⟩
 ·exact .inl h1
 ·exact .inr ⟨g',cap,cur,h1,hb,(g.block (Array.getElem?_eq_some_iff.1 hh).1 (hs g' (by rw[h1];rfl))).trans hh,h2⟩
theorem ownE_snoc{a0 w:World}{v:Value}{l:List En}{e:En}(h:w.ownsRow a0.heap.size 206 3 v (l.length+1) (cellsE l++e.cells)):OwnE a0 w v (l++[e]):=by
 unfold OwnE
 rw[List.length_append,cellsE_append]
 have:cellsE [e]=e.cells:=by unfold cellsE;simp
 rw[this]
 exact h
theorem run_copy_rowK{P:Program}(w:World)(dT sT ty elem:TypeId)(K g o oc dLen dCap:Nat)(a:Addr)(sLen sCap m:Nat)(cur:Array Value)(t:TypeId)(cs:List Value)
  (hu:P.underlying dT=some (.slice elem)) (hs:(P.info? elem).map (·.size)=some K)
  (hg:w.heap[g]?=some (.cells cur t (0,0))) (hn:m=Nat.min sLen dLen) (hc:cs.length=m*K) (hoc:oc=o*K)
  (hsrc:∀j v,cs[j]?=some v->w.cell? (a.add j)=some v) (hfit:oc+cs.length<=cur.size) (h1:∀v∈cs,v.oneCell'=true):
  (Builtin.copy_ #[dT,sT] ty #[.slice (some ⟨g,oc,none⟩) dLen dCap,.slice (some a) sLen sCap]).run P w=
   .ok (goInt m) (w.setRow g (cur.toList.take oc++cs++cur.toList.drop (oc+cs.length)).toArray):=by
 have hl:=run_loadCells_list (P:=P) w a cs hsrc
 have hst:=run_storeCells_at P g oc t cs 0 cur w hg (by simpa using hfit) h1
 cases hq:P.info? elem with
 |none=>simp[hq]at hs
 |some i=>
  have hi:i.size=K:=by simpa[hq]using hs
  simp[Builtin.copy_,run_underlying hu,Builtin.lenOf,Builtin.firstCells,sizeOf,typeInfo,hq,hi,<-hn,<-hc,hl,hst]
theorem insert_td{α:Type}(x:α):∀(l:List α) (i:Nat),i<=l.length->l.insertIdx i x=l.take i++x::l.drop i
 |l,0,_=>by simp
 |[],i+1,h=>by simp at h
 |a::l,i+1,h=>by
  have:=insert_td x l i (by simpa using h)
  simp[List.insertIdx_succ_cons,this]
theorem info_entry_parts:∃i0,Tryz.prog.info? 206=some i0/\i0.zero=some (.agg #[.string ⟨#[]⟩,.string ⟨#[]⟩,.int .i64 0])/\i0.size=3/\i0.bytes=40:=by
 have h:=info_entry
 cases h0:Tryz.prog.info? 206 with
 |none=>rw[h0]at h;cases h
 |some i0=>
  rw[h0]at h
  have h:=Option.some.inj h
  simp only[Prod.mk.injEq]at h
  exact⟨i0,rfl,h.1,h.2.1,h.2.2⟩
theorem size_entry:(Tryz.prog.info? 206).map (·.size)=some 3:=by
 obtain⟨i0,h1,_,h2,_⟩:=info_entry_parts
 rw[h1]
 simp[h2]
theorem cell_of_heap{w:World}{g:Nat}{cur:Array Value}{t:TypeId}(h:w.heap[g]?=some (.cells cur t (0,0)))(j:Nat):w.cell? ⟨g,j,none⟩=cur[j]?:=by
 simp[World.cell?,h]
theorem add_lit3(g o j:Nat):(⟨g,o,none⟩:Addr).add j=⟨g,o+j,none⟩:=by
 unfold Addr.add
 split<;>simp_all
theorem cellsE_take(l:List En)(i:Nat)(hi:i<=l.length):(cellsE l).take (i*3)=cellsE (l.take i)/\(cellsE l).drop (i*3)=cellsE (l.drop i):=by
 have h:cellsE l=cellsE (l.take i)++cellsE (l.drop i):=by rw[<-cellsE_append,List.take_append_drop]
 have h2:(cellsE (l.take i)).length=i*3:=by rw[cellsE_len,List.length_take,Nat.min_eq_left hi]
 constructor
 ·rw[h,<-h2,List.take_left]
 ·rw[h,<-h2,List.drop_left]
structure OneE(w:World)(vb:Nat)(e:En):Prop where
 at_:w.heap[vb]?=some (.cells e.cells.toArray 206 (0,0))
theorem OneE.cell{w:World}{vb:Nat}{e:En}(h:OneE w vb e)(j:Nat)(v:Value)(hj:e.cells[j]?=some v):w.cell? ((⟨vb,0,none⟩:Addr).add j)=some v:=by
 rw[add_lit3,cell_of_heap h.at_,Nat.zero_add]
 simpa using hj
theorem append_ents{a0 w:World}{ops:Array Oper}{rest:List Oper}{o:Oper}{a:Act}{Q:Exit->Act->World->Prop}(hgd:o.guard=none)(s x:Operand)
  (ho:o.op=.call {callee:=.builtin .append,args:=#[s,x],argTypes:=#[198,198]}) (v:Value) (us:List En) (hs:a.eval s=v) (hown:OwnE a0 w v us)
  (vs:Value) (xs:List En) (hx:a.eval x=vs) (hi:IsE w vs xs) (hl:us.length+xs.length<=1000000) (hg:Gr a0 w)
  (h:∀v' w',OwnE a0 w' v' (us++xs)->Gr a0 w'->GrX (fun b=>v.ownBlock=some b) w w'->(v'.ownBlock=v.ownBlock\/v'.ownBlock=some w.heap.size)->wpList Tryz.prog ops Q rest (a.put o.dst v') w'):wpList Tryz.prog ops Q (o::rest) a w:=by
 obtain⟨i0,hinf,hz0,hz1,hz2⟩:=info_entry_parts
 rcases hi with⟨rfl,rfl⟩|⟨b,off,c,rfl,hb,hp⟩
 ·rw[List.append_nil]at h
  exact Lib.wpList_append_run w hgd s x 198 198 ho v (.slice none 0 0) hs hx v w (run_append_owned_none w a0.heap.size 198 o.type 206 i0 3 Tryz.underlying198 hinf v us.length (cellsE us) hown) (h v w hown hg (GrX.refl _ _) (.inl rfl))
 ·refine wpList_append_own_at w hgd s x 198 ho a0.heap.size 206 i0 (.agg #[.string ⟨#[]⟩,.string ⟨#[]⟩,.int .i64 0]) 3 40 Tryz.underlying198 hinf hz0 hz1 hz2 rfl (by decide) v us.length (cellsE us) hs hown ⟨b,off,none⟩ xs.length c (cellsE xs) hx (cellsE_len xs) hp.cells (cellsE_one xs) (by unfold maxLen;omega) (by omega) hg.size
   (fun v' w' h1 h2 _ h4=>h v' w' ?_ (gr_grown hg h2 (ownBlock_ge hown)) ⟨h2.os,h2.tape,h2.output,h2.size,fun k hk hs=>h2.block k hk (fun e=>hs e.symm)⟩ h4)
  unfold OwnE
  rw[List.length_append,cellsE_append]
  exact h1
end
section
open Go Go.RowKit Go.Lib Go.Shelf
def OwnTo(v v':Value)(w:World):Prop:=∀b,v'.ownBlock=some b->v.ownBlock=some b\/w.heap.size<=b
theorem row_put{a0 w:World}{B n cap:Nat}{cur:Array Value}{l:List En}(hB:a0.heap.size<=B)(hlt:B<w.heap.size)(hc:cap<=maxLen)(hn:n<=cap)(hln:l.length=n)(hsz:cur.size=cap*3)(ht:cur.toList.take (n*3)=cellsE l){old:Array Value}
  (ho:w.heap[B]?=some (.cells old 206 (0,0))):OwnE a0 (w.setRow B cur) (.slice (some ⟨B,0,none⟩) n cap) l:=by
 refine⟨cellsE_len l,.inr ⟨B,cap,cur,by rw[hln],hB,setRow_heap w B old _ _ _ ho,by rw[hln];exact hn,hc,hsz,by rw[hln];exact ht⟩⟩
theorem setRow_grX{w:World}{B:Nat}{cur:Array Value}:GrX (fun b=>b=B) w (w.setRow B cur):=by
 refine⟨rfl,rfl,rfl,by simp[World.setRow],fun k hk hne=>?_⟩
 unfold World.setRow
 simp[Array.getElem?_modify,Ne.symm hne]
theorem insert_shift(a0 w:World)(B n cap k vb:Nat)(l:List En)(e:En)(h:OwnE a0 w (.slice (some ⟨B,0,none⟩) n cap) l)(hln:l.length=n)(hk:k<n)(hroom:n+1<=cap)(hg:Gr a0 w)(hl:n<=10000)(hv:OneE w vb e)(hvb:vb≠B):
  Calls Tryz.prog 253 #[.slice (some ⟨B,0,none⟩) n cap,.int .i64 k,.slice (some ⟨vb,0,none⟩) 1 1] w fun ex w'=>
   ex=.returned (.slice (some ⟨B,0,none⟩) (n+1) cap)/\OwnE a0 w' (.slice (some ⟨B,0,none⟩) (n+1) cap) (l.insertIdx k e)/\GrX (fun b=>b=B) w w':=by
 obtain⟨cur,hB,hh,hc,hsz,ht⟩:∃cur:Array Value,a0.heap.size<=B/\w.heap[B]?=some (.cells cur 206 (0,0))/\cap<=maxLen/\cur.size=cap*3/\cur.toList.take (n*3)=cellsE l:=by
  rcases h.row.2 with⟨e1,_⟩|⟨g,cp,cur,e1,hb,hh,_,hc,hsz,ht⟩
  ·cases e1
  ·cases e1
   exact⟨cur,hb,hh,hc,hsz,by rw[hln]at ht;exact ht⟩
 have hlt:B<w.heap.size:=(Array.getElem?_eq_some_iff.1 hh).1
 have hcl:(cellsE l).length=n*3:=by rw[cellsE_len,hln]
 obtain⟨ct,cd⟩:=cellsE_take l k (by omega)
 have hdl:(cellsE (l.drop k)).length=(n-k)*3:=by rw[cellsE_len,List.length_drop,hln]
 have htl:(cellsE (l.take k)).length=k*3:=by rw[cellsE_len,List.length_take,hln,Nat.min_eq_left (by omega)]
 have hcur:∀j v,(cellsE l)[j]?=some v->cur[j]?=some v:=fun j v hj=>by
  rw[<-ht,List.getElem?_take]at hj
  split at hj
  ·simpa using hj
  ·cases hj
 have hm63:cap<=9223372036854775807:=by unfold maxLen at hc;exact hc
 obtain⟨cur1,hcur1⟩:∃cur1:Array Value,cur1=(cur.toList.take ((k+1)*3)++cellsE (l.drop k)++cur.toList.drop ((k+1)*3+(cellsE (l.drop k)).length)).toArray:=⟨_,rfl⟩
 have hcp1:∀ty dc sc,(Builtin.copy_ #[198,198] ty #[.slice (some ⟨B,(k+1)*3,none⟩) (n-k) dc,.slice (some ⟨B,k*3,none⟩) (n+1-k) sc]).run Tryz.prog w.drew=.ok (goInt ((n-k:Nat):Int)) (w.drew.setRow B cur1):=fun ty dc sc=>by
  rw[hcur1]
  exact run_copy_rowK w.drew _ _ ty 206 3 B (k+1) ((k+1)*3) (n-k) dc ⟨B,k*3,none⟩ (n+1-k) sc (n-k) cur _ (cellsE (l.drop k)) Tryz.underlying198 size_entry hh (by simp only[Nat.min_def];split<;>omega) hdl rfl
   (fun j v hj=>by
    rw[add_lit3]
    rw[<-cd,List.getElem?_drop]at hj
    rw[cell_of_heap (w:=w.drew) hh]
    exact hcur _ _ hj) (by rw[hdl,hsz];omega) (cellsE_one _)
 have hsz1:cur1.size=cap*3:=by
  rw[hcur1]
  simp only[List.size_toArray,List.length_append,List.length_take,List.length_drop,hdl,Array.length_toList,hsz]
  omega
 have hcl1:cur1.toList=cur.toList.take ((k+1)*3)++cellsE (l.drop k)++cur.toList.drop ((k+1)*3+(n-k)*3):=by rw[hcur1,hdl]
 obtain⟨W1,hW1⟩:∃W1,W1=w.drew.setRow B cur1:=⟨_,rfl⟩
 have hW1h:W1.heap[B]?=some (.cells cur1 206 (0,0)):=by
  rw[hW1]
  exact setRow_heap w.drew B cur _ _ _ hh
 have hg1:GrX (fun b=>b=B) w W1:=by
  rw[hW1]
  exact(GrX.drew (S:=fun b=>b=B) w).trans setRow_grX
 have hv1:OneE W1 vb e:=⟨(hg1.block (Array.getElem?_eq_some_iff.1 hv.at_).1 hvb).trans hv.at_⟩
 obtain⟨cur2,hcur2⟩:∃cur2:Array Value,cur2=(cur1.toList.take (k*3)++e.cells++cur1.toList.drop (k*3+e.cells.length)).toArray:=⟨_,rfl⟩
 have hel:e.cells.length=3:=rfl
 have hcp2:∀ty dc,(Builtin.copy_ #[198,198] ty #[.slice (some ⟨B,k*3,none⟩) (n+1-k) dc,.slice (some ⟨vb,0,none⟩) 1 1]).run Tryz.prog W1=.ok (goInt 1) (W1.setRow B cur2):=fun ty dc=>by
  rw[hcur2]
  exact run_copy_rowK W1 _ _ ty 206 3 B k (k*3) (n+1-k) dc ⟨vb,0,none⟩ 1 1 1 cur1 _ e.cells Tryz.underlying198 size_entry hW1h (by simp only[Nat.min_def];split<;>omega) rfl rfl (fun j v hj=>hv1.cell j v hj) (by rw[hel,hsz1];omega) e.cells_one
 have hsz2:cur2.size=cap*3:=by
  rw[hcur2]
  simp only[List.size_toArray,List.length_append,List.length_take,List.length_drop,hel,Array.length_toList,hsz1]
  omega
 have ht2:cur2.toList.take ((n+1)*3)=cellsE (l.insertIdx k e):=by
  rw[insert_td e l k (by omega),cellsE_append]
  have e1:cellsE (e::l.drop k)=e.cells++cellsE (l.drop k):=rfl
  rw[e1,hcur2]
  show((cur1.toList.take (k*3)++e.cells++cur1.toList.drop (k*3+e.cells.length))).take ((n+1)*3)=_
  rw[hcl1,hel]
  have hct:(cur.toList.take ((k+1)*3)).length=(k+1)*3:=by rw[List.length_take,Array.length_toList,hsz,Nat.min_eq_left (by omega)]
  have t1:(cur.toList.take ((k+1)*3)++cellsE (l.drop k)++cur.toList.drop ((k+1)*3+(n-k)*3)).take (k*3)=cellsE (l.take k):=by
   rw[List.append_assoc,List.take_append_of_le_length (by omega),List.take_take,Nat.min_eq_left (by omega),<-ct,<-ht,List.take_take,Nat.min_eq_left (by omega)]
  have t2:(cur.toList.take ((k+1)*3)++cellsE (l.drop k)++cur.toList.drop ((k+1)*3+(n-k)*3)).drop (k*3+3)=cellsE (l.drop k)++cur.toList.drop ((k+1)*3+(n-k)*3):=by
   rw[List.append_assoc,show k*3+3=(cur.toList.take ((k+1)*3)).length by omega,List.drop_left]
  rw[t1,t2,List.append_assoc,<-List.append_assoc e.cells,<-List.append_assoc]
  rw[List.take_append_of_le_length (by simp only[List.length_append,htl,hdl,hel];omega),List.take_of_length_le (by simp only[List.length_append,htl,hdl,hel];omega)]
 have hov:∀lb cb,(callFunc 289 #[.slice (some ⟨vb,0,none⟩) 1 1,.slice (some ⟨B,(k+1)*3,none⟩) lb cb]).run Tryz.prog w=.ok (.value (.bool false)) w:=fun lb cb=>by
  rw[run_callFunc_extern Tryz.func289 (by kernel_rfl) (by kernel_rfl) (by kernel_rfl) (e:=Extern.SlicesOverlaps.overlaps #[198,198] #[4]) (by kernel_rfl),
   Lib.run_overlaps_apart w 198 4 206 Tryz.underlying198 3 (fun _=>by kernel_rfl) ⟨vb,0,none⟩ ⟨B,(k+1)*3,none⟩ 1 1 lb cb hvb 206 206 3 (cap*3) (by unfold World.shape?;rw[hv.at_];rfl) (by unfold World.shape?;simp only;rw[hh];simp only[hsz]) (by omega) (Lib.frozen_of_heap hv.at_ _) (Lib.frozen_of_heap hv.at_ _)]
  rfl
 have mixed:Tryz.prog.follows Departure.mixedOrders=true:=by kernel_rfl
 have hz2:¬((k:Int)=(n:Int)):=by omega
 have hroom':¬((cap:Int)<(n:Int)+1):=by omega
 have hw1:IntKind.i64.wrap ((k:Int)+1)=(k:Int)+1:=by rw[IntKind.wrap_i64];omega
 have hb1:(0:Int)<=(k:Int)+1:=by omega
 have hin:k<=n:=by omega
 have htn:((k:Int)+1).toNat=k+1:=by omega
 have hb2:¬(cap=k+1):=by omega
 have hb3:(k:Int)<=(n:Int)+1:=by omega
 have hb4:¬(cap=k):=by omega
 rw[<-hW1]at hcp1
 have HR:OwnE a0 (W1.setRow B cur2) (.slice (some ⟨B,0,none⟩) (n+1) cap) (l.insertIdx k e):=row_put hB (Nat.lt_of_lt_of_le hlt hg1.2.2.2.1) hc hroom (by rw[List.length_insertIdx_of_le_length (by omega),hln]) hsz2 ht2 hW1h
 have HG:GrX (fun b=>b=B) w (W1.setRow B cur2):=hg1.trans setRow_grX
 clear ht2 hsz2 hcl1 hcur1 hcur2 hcur h ht hg1 hv1 hW1 hW1h hh hcl ct cd hdl htl
 go_enter Tryz.func253,Tryz.ntmps253
 go_wp2_with(simp only[hov])
 go_region_law_o (refine step_copy_runI rfl _ _ 198 198 rfl _ _ (by simp[Act.eval,Act.put]) (by simp[Act.eval,Act.put]) (hcp1 _ _ _) ?_)
 go_wp2_with(at_builtin;refine wpList_copy_runI _ rfl _ _ 198 198 rfl _ _ rfl rfl (hcp2 _ _) ?_)
 go_ret
 exact⟨rfl,HR,HG⟩
theorem insert_grow(a0 w:World)(B n cap k vb:Nat)(l:List En)(e:En)(h:OwnE a0 w (.slice (some ⟨B,0,none⟩) n cap) l)(hln:l.length=n)(hk:k<n)(hnc:n<=cap)(hroom:cap<n+1)(hg:Gr a0 w)(hl:n<=10000)(hv:OneE w vb e)(hvb:vb≠B):
  Calls Tryz.prog 253 #[.slice (some ⟨B,0,none⟩) n cap,.int .i64 k,.slice (some ⟨vb,0,none⟩) 1 1] w fun ex w'=>
    ∃G,ex=.returned (.slice (some ⟨w.heap.size,0,none⟩) (n+1) G)/\OwnE a0 w' (.slice (some ⟨w.heap.size,0,none⟩) (n+1) G) (l.insertIdx k e)/\Gr w w':=by
 obtain⟨cur,hB,hh,hc,hsz,ht⟩:∃cur:Array Value,a0.heap.size<=B/\w.heap[B]?=some (.cells cur 206 (0,0))/\cap<=maxLen/\cur.size=cap*3/\cur.toList.take (n*3)=cellsE l:=by
  rcases h.row.2 with⟨e1,_⟩|⟨g,cp,cur,e1,hb,hh,_,hc,hsz,ht⟩
  · cases e1
  · cases e1
    exact⟨cur,hb,hh,hc,hsz,by rw[hln]at ht;exact ht⟩
 obtain⟨i0,hi0,hz0,hzs,hzb⟩:=info_entry_parts
 have hlt:B<w.heap.size:=(Array.getElem?_eq_some_iff.1 hh).1
 have hvlt:vb<w.heap.size:=(Array.getElem?_eq_some_iff.1 hv.at_).1
 have hcl:(cellsE l).length=n*3:=by rw[cellsE_len,hln]
 obtain⟨ct,cd⟩:=cellsE_take l k (by omega)
 have hdl:(cellsE (l.drop k)).length=(n-k)*3:=by rw[cellsE_len,List.length_drop,hln]
 have htl:(cellsE (l.take k)).length=k*3:=by rw[cellsE_len,List.length_take,hln,Nat.min_eq_left (by omega)]
 have hcur:∀j v,(cellsE l)[j]?=some v->cur[j]?=some v:=fun j v hj=>by
  rw[<-ht,List.getElem?_take]at hj
  split at hj
  · simpa using hj
  · cases hj
 have hm63:cap<=9223372036854775807:=by unfold maxLen at hc;exact hc
 have hkk:(n:Int)+1-(k:Int)=((n+1-k:Nat):Int):=by omega
 have hik:k+(n+1-k)=n+1:=by omega
 have hold:(Builtin.firstCells i0.size k (.slice (some ⟨B,0,none⟩) k cap)).run Tryz.prog w.drew=.ok (cellsE (l.take k)).toArray w.drew:=by
  rw[hzs]
  exact run_firstCells_some w.drew 3 k ⟨B,0,none⟩ k cap (cellsE (l.take k)) htl (fun j v hj=>by
    rw[add_lit3,cell_of_heap (w:=w.drew) hh,Nat.zero_add]
    refine hcur j v ?_
    rw[<-ct,List.getElem?_take]at hj
    split at hj
    · exact hj
    · cases hj)
 obtain⟨G,hG⟩:∃G,G=grownCap w (n+1) cap 206:=⟨_,rfl⟩
 have hGn:n+1<=G:=by rw[hG];exact grownCap_ge w _ _ _
 have hGm:G<=maxLen:=by rw[hG];exact grownCap_le_maxLen w (n+1) cap 206 (by unfold maxLen;omega)
 have hG63:G<=9223372036854775807:=by unfold maxLen at hGm;exact hGm
 obtain⟨Z,hZ⟩:∃Z:List Value,Z=(Builtin.zeroCells (Value.agg #[.string ⟨#[]⟩,.string ⟨#[]⟩,.int .i64 0]).cells (n+1-k)++Builtin.zeroCells (Value.agg #[.string ⟨#[]⟩,.string ⟨#[]⟩,.int .i64 0]).cells (G-(n+1))).toList:=⟨_,rfl⟩
 have hZl:Z.length=(G-k)*3:=by
  rw[hZ]
  have e1:∀m,(Builtin.zeroCells (Value.agg #[.string ⟨#[]⟩,.string ⟨#[]⟩,.int .i64 0]).cells m).size=m*3:=fun m=>by
    rw[size_zeroCells]
    rfl
  rw[Array.length_toList,Array.size_append,e1,e1]
  omega
 obtain⟨ROW,hROW⟩:∃ROW:Array Value,ROW=(cellsE (l.take k)++Z).toArray:=⟨_,rfl⟩
 have hRs:ROW.size=G*3:=by
  rw[hROW,List.size_toArray,List.length_append,htl,hZl]
  omega
 have hrz:∀ty,(Builtin.append_ #[198,3] ty #[.slice (some ⟨B,0,none⟩) k cap,.int .i64 ((n:Int)+1-(k:Int))]).run Tryz.prog w=
    .ok (.slice (some ⟨w.heap.size,0,none⟩) (n+1) G) (w.drew.alloc (.cells ROW 206)):=fun ty=>by
  have h:=Lib.run_append_grow_zeros w 198 3 ty 206 i0 _ .i64 .i64 Tryz.underlying198 Tryz.underlying3 hi0 hz0 (some ⟨B,0,none⟩) k cap (cellsE (l.take k)) hold (n+1-k) (by omega) (by omega) (by omega) (by omega) (by rw[hzb];omega) (by rw[hzb,hik];exact growslice_fits (by omega) (by omega))
  rw[hik,<-hG]at h
  rw[hkk]
  have e2:ROW=(cellsE (l.take k)).toArray++Builtin.zeroCells (Value.agg #[.string ⟨#[]⟩,.string ⟨#[]⟩,.int .i64 0]).cells (n+1-k)++Builtin.zeroCells (Value.agg #[.string ⟨#[]⟩,.string ⟨#[]⟩,.int .i64 0]).cells (G-(n+1)):=by
    rw[hROW,hZ]
    apply Array.ext'
    simp
  rw[e2]
  exact h
 obtain⟨W1,hW1⟩:∃W1,W1=w.drew.alloc (.cells ROW 206):=⟨_,rfl⟩
 rw[<-hW1]at hrz
 have hg1:Gr w W1:=by
  rw[hW1]
  exact((Gr.refl w).drew).alloc _
 have hW1h:W1.heap[w.heap.size]?=some (.cells ROW 206 (0,0)):=by
  rw[hW1]
  exact heap_alloc_new w.drew _
 have hv1:OneE W1 vb e:=⟨(hg1.block vb hvlt).trans hv.at_⟩
 have hB1:W1.heap[B]?=some (.cells cur 206 (0,0)):=(hg1.block B hlt).trans hh
 have hel:e.cells.length=3:=rfl
 obtain⟨cur2,hcur2⟩:∃cur2:Array Value,cur2=(ROW.toList.take (k*3)++e.cells++ROW.toList.drop (k*3+e.cells.length)).toArray:=⟨_,rfl⟩
 have hcp1:∀ty dc,(Builtin.copy_ #[198,198] ty #[.slice (some ⟨w.heap.size,k*3,none⟩) (n+1-k) dc,.slice (some ⟨vb,0,none⟩) 1 1]).run Tryz.prog W1=.ok (goInt 1) (W1.setRow w.heap.size cur2):=fun ty dc=>by
  rw[hcur2]
  exact run_copy_rowK W1 _ _ ty 206 3 w.heap.size k (k*3) (n+1-k) dc ⟨vb,0,none⟩ 1 1 1 ROW _ e.cells Tryz.underlying198 size_entry hW1h (by simp only[Nat.min_def];split<;>omega) rfl rfl (fun j v hj=>hv1.cell j v hj) (by rw[hel,hRs];omega) e.cells_one
 have hl2:cur2.toList=cellsE (l.take k)++(e.cells++Z.drop 3):=by
  rw[hcur2,hROW,hel]
  show((cellsE (l.take k)++Z).take (k*3)++e.cells++(cellsE (l.take k)++Z).drop (k*3+3))=_
  have e3:(cellsE (l.take k)++Z).drop (k*3+3)=Z.drop 3:=by
    rw[<-htl,<-List.drop_drop,List.drop_left]
  rw[e3,<-htl,List.take_left,List.append_assoc]
 have hsz2:cur2.size=G*3:=by
  rw[<-Array.length_toList,hl2]
  simp only[List.length_append,List.length_drop,htl,hel,hZl]
  omega
 obtain⟨W2,hW2⟩:∃W2,W2=W1.setRow w.heap.size cur2:=⟨_,rfl⟩
 rw[<-hW2]at hcp1
 have hW2h:W2.heap[w.heap.size]?=some (.cells cur2 206 (0,0)):=by
  rw[hW2]
  exact setRow_heap W1 w.heap.size ROW _ _ _ hW1h
 have hg2:GrX (fun b=>b=w.heap.size) W1 W2:=by
  rw[hW2]
  exact setRow_grX
 have hB2:W2.heap[B]?=some (.cells cur 206 (0,0)):=(hg2.block (Array.getElem?_eq_some_iff.1 hB1).1 (by omega)).trans hB1
 obtain⟨cur3,hcur3⟩:∃cur3:Array Value,cur3=(cur2.toList.take ((k+1)*3)++cellsE (l.drop k)++cur2.toList.drop ((k+1)*3+(cellsE (l.drop k)).length)).toArray:=⟨_,rfl⟩
 have hcp2:∀ty dc sc,(Builtin.copy_ #[198,198] ty #[.slice (some ⟨w.heap.size,(k+1)*3,none⟩) (n-k) dc,.slice (some ⟨B,k*3,none⟩) (n-k) sc]).run Tryz.prog W2.drew=.ok (goInt ((n-k:Nat):Int)) (W2.drew.setRow w.heap.size cur3):=fun ty dc sc=>by
  rw[hcur3]
  exact run_copy_rowK W2.drew _ _ ty 206 3 w.heap.size (k+1) ((k+1)*3) (n-k) dc ⟨B,k*3,none⟩ (n-k) sc (n-k) cur2 _ (cellsE (l.drop k)) Tryz.underlying198 size_entry hW2h (by simp only[Nat.min_def];split<;>omega) hdl rfl
    (fun j v hj=>by
      rw[add_lit3]
      rw[<-cd,List.getElem?_drop]at hj
      rw[cell_of_heap (w:=W2.drew) hB2]
      exact hcur _ _ hj) (by rw[hdl,hsz2];omega) (cellsE_one _)
 have hsz3:cur3.size=G*3:=by
  rw[hcur3]
  simp only[List.size_toArray,List.length_append,List.length_take,List.length_drop,hdl,Array.length_toList,hsz2]
  omega
 have ht3:cur3.toList.take ((n+1)*3)=cellsE (l.insertIdx k e):=by
  rw[insert_td e l k (by omega),cellsE_append]
  have e1:cellsE (e::l.drop k)=e.cells++cellsE (l.drop k):=rfl
  rw[e1,hcur3]
  show(cur2.toList.take ((k+1)*3)++cellsE (l.drop k)++cur2.toList.drop ((k+1)*3+(cellsE (l.drop k)).length)).take ((n+1)*3)=_
  have t1:cur2.toList.take ((k+1)*3)=cellsE (l.take k)++e.cells:=by
    rw[hl2,<-List.append_assoc,List.take_append_of_le_length (by simp only[List.length_append,htl,hel];omega),List.take_of_length_le (by simp only[List.length_append,htl,hel];omega)]
  rw[t1,List.take_append_of_le_length (by simp only[List.length_append,htl,hdl,hel];omega),List.take_of_length_le (by simp only[List.length_append,htl,hdl,hel];omega),List.append_assoc]
 have mixed:Tryz.prog.follows Departure.mixedOrders=true:=by kernel_rfl
 have hz2:¬((k:Int)=(n:Int)):=by omega
 have hroom':(cap:Int)<(n:Int)+1:=by omega
 have hw1:IntKind.i64.wrap ((k:Int)+1)=(k:Int)+1:=by rw[IntKind.wrap_i64];omega
 have hb1:(0:Int)<=(k:Int)+1:=by omega
 have hin:k<=n:=by omega
 have htn:((k:Int)+1).toNat=k+1:=by omega
 have hGi:¬(G=k):=by omega
 have hGim:¬(G=k+1):=by omega
 have hci:¬(cap=k):=by omega
 have hb3:(k:Int)<=(n:Int):=by omega
 have hb5:(k:Int)<=(n:Int)+1:=by omega
 have HG:Gr w (W2.drew.setRow w.heap.size cur3):=(setRow_grX (w:=W2.drew)).gr ((hg2.gr hg1 (fun b hb=>Nat.le_of_eq hb.symm)).drew) (fun b hb=>Nat.le_of_eq hb.symm)
 have HR:OwnE a0 (W2.drew.setRow w.heap.size cur3) (.slice (some ⟨w.heap.size,0,none⟩) (n+1) G) (l.insertIdx k e):=row_put hg.size (by show w.heap.size<W2.drew.heap.size;have:=(Array.getElem?_eq_some_iff.1 hW2h).1;exact this) hGm hGn (by rw[List.length_insertIdx_of_le_length (by omega),hln]) hsz3 ht3 (w:=W2.drew) hW2h
 clear ht3 hsz3 hsz2 hl2 hcur2 hcur3 hcur h ht hg1 hv1 hW1 hW1h hh hcl ct cd hdl htl hRs hROW hZ hZl hold hG hkk hik hB1 hB2 hW2 hW2h hg2
 go_enter Tryz.func253,Tryz.ntmps253
 go_wp2_with(first
  |( at_builtin;refine Lib.wpList_append_run _ rfl _ _ _ _ rfl _ _ rfl rfl _ _ (hrz _) ?_)
  |( at_builtin;refine wpList_copy_runI _ rfl _ _ 198 198 rfl _ _ rfl rfl (hcp1 _ _) ?_))
 go_region_law_o (refine step_copy_runI rfl _ _ 198 198 rfl _ _ (by simp[Act.eval,Act.put]) (by simp[Act.eval,Act.put]) (hcp2 _ _ _) ?_)
 go_wp2_with fail
 go_ret
 exact⟨G,rfl,HR,HG⟩
theorem OneE.isE{w:World}{vb:Nat}{e:En}(h:OneE w vb e):IsE w (.slice (some ⟨vb,0,none⟩) 1 1) [e]:=by
 refine .inr ⟨vb,0,1,rfl,(Array.getElem?_eq_some_iff.1 h.at_).1,fun i hi=>?_⟩
 have hi0:i=0:=by simpa using hi
 subst hi0
 rw[cell_of_heap h.at_,cell_of_heap h.at_,cell_of_heap h.at_]
 exact⟨rfl,rfl,rfl⟩
theorem ownTo_of{v v':Value}{w:World}(h:v'.ownBlock=v.ownBlock\/v'.ownBlock=some w.heap.size):OwnTo v v' w:=fun b hb=>by
 rcases h with e1|e1
 ·exact .inl (e1.symm.trans hb)
 ·rw[e1]at hb
  exact .inr (Nat.le_of_eq (Option.some.inj hb))
theorem gr_of_own{a0 w w':World}{v:Value}{l:List En}(h:OwnE a0 w v l)(hg:Gr a0 w)(g:GrX (fun b=>v.ownBlock=some b) w w'):Gr a0 w':=g.gr hg fun _ hk=>ownBlock_ge h _ hk
theorem insert_end(a0 w:World)(v:Value)(l:List En)(vb:Nat)(e:En)(h:OwnE a0 w v l)(hg:Gr a0 w)(hl:l.length<=10000)(hv:OneE w vb e):
  Calls Tryz.prog 253 #[v,.int .i64 l.length,.slice (some ⟨vb,0,none⟩) 1 1] w fun ex w'=>
   ∃v',ex=.returned v'/\OwnE a0 w' v' (l++[e])/\Gr a0 w'/\GrX (fun b=>v.ownBlock=some b) w w'/\OwnTo v v' w:=by
 have H:=Lib.hid h
 have HG:=Lib.hid hg
 have HV:=Lib.hid hv.isE
 have hl1:l.length+[e].length<=1000000:=by simp;omega
 rcases h.at' with⟨rfl,rfl⟩|⟨B,cap,rfl,h2,_⟩
 ·clear h hg hv
  go_enter Tryz.func253,Tryz.ntmps253
  go_wp2_with(at_builtin;refine append_ents (a0:=a0) rfl _ _ rfl _ [] rfl H.out _ [e] rfl HV.out hl1 HG.out ?_;intro v3 w3 ho3 hg3 hx3 hb3)
  all_goals
   go_ret
   exact⟨_,rfl,ho3,hg3,hx3,ownTo_of hb3⟩
 ·have hc:l.length<=cap:=h2
  have hm:cap<=9223372036854775807:=by
   rcases h.row.2 with⟨e1,_⟩|⟨g,cp,cur,e1,_,_,_,hc,_⟩
   ·cases e1
   ·cases e1
    unfold maxLen at hc
    exact hc
  clear h hg hv
  go_enter Tryz.func253,Tryz.ntmps253
  go_wp2_with(at_builtin;refine append_ents (a0:=a0) rfl _ _ rfl _ l rfl H.out _ [e] rfl HV.out hl1 HG.out ?_;intro v3 w3 ho3 hg3 hx3 hb3)
  all_goals
   go_ret
   exact⟨_,rfl,ho3,hg3,hx3,ownTo_of hb3⟩
theorem insert_e(a0 w:World)(v:Value)(l:List En)(k vb:Nat)(e:En)(h:OwnE a0 w v l)(hk:k<=l.length)(hg:Gr a0 w)(hl:l.length<=10000)(hv:OneE w vb e)(hvb:v.ownBlock≠some vb):
  Calls Tryz.prog 253 #[v,.int .i64 k,.slice (some ⟨vb,0,none⟩) 1 1] w fun ex w'=>
   ∃v',ex=.returned v'/\OwnE a0 w' v' (l.insertIdx k e)/\Gr a0 w'/\GrX (fun b=>v.ownBlock=some b) w w'/\OwnTo v v' w:=by
 rcases Nat.lt_or_ge k l.length with hlt|hge
 ·rcases h.at' with⟨_,e2⟩|⟨B,cap,rfl,h2,h3,h4,_⟩
  ·rw[e2]at hlt
   exact absurd hlt (by simp)
  ·have hne:vb≠B:=fun e1=>hvb (by rw[e1];rfl)
   rcases Nat.lt_or_ge cap (l.length+1)with hc|hc
   ·refine(insert_grow a0 w B l.length cap k vb l e h rfl hlt h2 hc hg hl hv hne).mono ?_
    rintro ex w' ⟨G,rfl,h5,h6⟩
    exact⟨_,rfl,h5,hg.trans h6,GrX.of_gr h6,fun b hb=>.inr (Nat.le_of_eq (Option.some.inj hb))⟩
   ·refine(insert_shift a0 w B l.length cap k vb l e h rfl hlt hc hg hl hv hne).mono ?_
    rintro ex w' ⟨rfl,h5,h6⟩
    have h7:GrX (fun b=>(Value.slice (some ⟨B,0,none⟩) l.length cap).ownBlock=some b) w w':=⟨h6.1,h6.2.1,h6.2.2.1,h6.2.2.2.1,fun b hb hn=>h6.2.2.2.2 b hb fun e1=>hn (by rw[e1];rfl)⟩
    exact⟨_,rfl,h5,gr_of_own h hg h7,h7,fun b hb=>.inl hb⟩
 ·have e1:k=l.length:=by omega
  subst e1
  have e2:l.insertIdx l.length e=l++[e]:=by
   rw[insert_td e l l.length (Nat.le_refl _),List.take_length,List.drop_length]
  rw[e2]
  exact insert_end a0 w v l vb e h hg hl hv
theorem clone_e(l:List En)(v:Value)(w:World)(h:IsE w v l)(hl:l.length<=10000):
  Calls Tryz.prog 293 #[v] w fun ex w'=>∃v',ex=.returned v'/\OwnE w w' v' l/\Gr w w':=by
 have H:=Lib.hid h
 have q82:∀(w:World) (a:Option Addr) (n c n' c':Nat),(binOp .eql 198 (.slice a n c) (.slice none n' c')).run Tryz.prog w=.ok (.bool a.isNone) w:=fun w a n c n' c'=>Lib.run_eql_slice_nil w _ _ a n c n' c' Tryz.underlying198
 rcases h with⟨rfl,rfl⟩|⟨b,off,c,rfl,hb,hp⟩
 ·go_enter Tryz.func293,Tryz.ntmps293
  go_wp2_with fail
  go_ret
  exact⟨_,rfl,OwnE.nil _ _,Gr.refl _⟩
 ·have hga:Gr w (w.alloc (.cells #[] 206)):=(Gr.refl w).alloc _
  have h0:OwnE w (w.alloc (.cells #[] 206)) (.slice (some ⟨w.heap.size,0,none⟩) 0 0) []:=World.ownsRow_lit w #[] 0 (Nat.le_refl _) (by decide) rfl
  have H0:=Lib.hid h0
  have HGA:=Lib.hid hga
  have hl1:([]:List En).length+l.length<=1000000:=by simp;omega
  clear h0 hga hp hb
  go_enter Tryz.func293,Tryz.ntmps293
  go_wp2_with(at_builtin;refine append_ents (a0:=w) rfl _ _ rfl _ [] rfl H0.out _ l rfl (H.out.gr HGA.out) hl1 HGA.out ?_;intro v3 w3 ho3 hg3 hx3 hb3)
  go_ret
  exact⟨_,rfl,by rw[List.nil_append]at ho3;exact ho3,hg3⟩
theorem setCells_row{t:TypeId}(B:Nat):∀(vs:List Value) (o:Nat) (cur:Array Value) (w:World),w.heap[B]?=some (.cells cur t (0,0))->o+vs.length<=cur.size->w.setCells B o vs=w.setRow B (cur.toList.take o++vs++cur.toList.drop (o+vs.length)).toArray
 |[],o,cur,w,hh,_=>by
  simp only[World.setCells,List.append_nil,List.length_nil,Nat.add_zero,List.take_append_drop,Array.toArray_toList]
  rw[setRow_self w B cur t (0,0) hh]
 |v::r,o,cur,w,hh,hl=>by
  rw[World.setCells,setCell_eq_setRow w B o cur t (0,0) v hh]
  have ih:=setCells_row B r (o+1) (cur.setIfInBounds o v) (w.setRow B (cur.setIfInBounds o v)) (setRow_heap w B cur _ t _ hh) (by simp at hl⊢;omega)
  rw[ih,setRow_setRow]
  congr 2
  have e:=list_seg_step cur.toList o v r (by simp at hl⊢;omega)
  simpa[Array.toList_setIfInBounds,Nat.add_assoc]using e
def zeroE:List Value:=[.string ⟨#[]⟩,.string ⟨#[]⟩,.int .i64 0]
theorem run_clear_entry(w:World)(ty:TypeId)(b o c:Nat)(hc:∀j,j<3->(w.cell? ⟨b,o+j,none⟩).isSome=true)(hf:∀j,j<3->w.frozen? ⟨b,o+j,none⟩=false):
  (Builtin.clear_ #[198] ty #[.slice (some ⟨b,o,none⟩) 1 c]).run Tryz.prog w=.ok (.tuple #[]) (w.setCells b o zeroE):=by
 have hv:∀w,(zeroValue 206).run Tryz.prog w=.ok (.agg #[.string ⟨#[]⟩,.string ⟨#[]⟩,.int .i64 0]) w:=Tryz.zeroValue206
 have hzc:(Builtin.zeroCells (Value.agg #[.string ⟨#[]⟩,.string ⟨#[]⟩,.int .i64 0]).cells 1).toList=zeroE:=by
  apply List.ext_getElem
  ·simp[Builtin.zeroCells,Value.cells,zeroE]
  ·intro i h1 h2
   have hi:i<3:=by simpa[zeroE]using h2
   match i,hi with
   |0,_=>simp[Builtin.zeroCells,Value.cells,zeroE]
   |1,_=>simp[Builtin.zeroCells,Value.cells,zeroE]
   |2,_=>simp[Builtin.zeroCells,Value.cells,zeroE]
 have hst:=run_storeCells_cells (P:=Tryz.prog) b o zeroE 0 w (by simpa[zeroE]using hc) (by simpa[zeroE]using hf) (by intro v hv';simp[zeroE]at hv';rcases hv' with h|h<;>(rw[h];rfl))
 simp only[Nat.add_zero]at hst
 simp[Builtin.clear_,run_underlying Tryz.underlying198,hv,hzc,hst]
theorem eraseIdx_td{α:Type}:∀(l:List α) (i:Nat),i<l.length->l.eraseIdx i=l.take i++l.drop (i+1)
 |[],i,h=>by simp at h
 |a::l,0,_=>by simp
 |a::l,i+1,h=>by
  have:=eraseIdx_td l i (by simpa using h)
  simp[this]
theorem delete_e(a0 w:World)(v:Value)(l:List En)(k:Nat)(h:OwnE a0 w v l)(hk:k<l.length)(hg:Gr a0 w)(hl:l.length<=10000):
  Calls Tryz.prog 255 #[v,.int .i64 k,.int .i64 ((k:Int)+1)] w fun ex w'=>
   ∃v',ex=.returned v'/\OwnE a0 w' v' (l.eraseIdx k)/\Gr a0 w'/\GrX (fun b=>v.ownBlock=some b) w w'/\v'.ownBlock=v.ownBlock:=by
 rcases h.row.2 with⟨_,e2⟩|⟨B,cap,cur,rfl,hB,hh,hnc,hc,hsz,ht⟩
 ·omega
 obtain⟨n,hln⟩:∃n,l.length=n:=⟨_,rfl⟩
 rw[hln]at hk hnc ht hl⊢
 obtain⟨i0,hi0,hz0,hzs,hzb⟩:=info_entry_parts
 have hlt:B<w.heap.size:=(Array.getElem?_eq_some_iff.1 hh).1
 have hcl:(cellsE l).length=n*3:=by rw[cellsE_len,hln]
 obtain⟨ct,cd⟩:=cellsE_take l k (by omega)
 obtain⟨ct1,cd1⟩:=cellsE_take l (k+1) (by omega)
 have hdl:(cellsE (l.drop (k+1))).length=(n-(k+1))*3:=by rw[cellsE_len,List.length_drop,hln]
 have htl:(cellsE (l.take k)).length=k*3:=by rw[cellsE_len,List.length_take,hln,Nat.min_eq_left (by omega)]
 have hcur:∀j v,(cellsE l)[j]?=some v->cur[j]?=some v:=fun j v hj=>by
  rw[<-ht,List.getElem?_take]at hj
  split at hj
  ·simpa using hj
  ·cases hj
 have hm63:cap<=9223372036854775807:=by unfold maxLen at hc;exact hc
 obtain⟨news,hnews⟩:∃news,news=cellsE (l.drop (k+1)):=⟨_,rfl⟩
 rw[<-hnews]at hdl
 obtain⟨A,hA,hsrc⟩:∃A:Addr,(if cap=k+1 then some (⟨B,0,none⟩:Addr)else some ⟨B,(k+1)*3,none⟩)=some A/\Hid (∀t u,news[t]?=some u->w.drew.cell? (A.add t)=some u):=by
  by_cases h:cap=k+1
  ·refine⟨⟨B,0,none⟩,by simp[h],fun t u hu=>?_⟩
   have h0:news.length=0:=by rw[hdl];omega
   rw[List.length_eq_zero_iff.1 h0]at hu
   simp at hu
  ·refine⟨⟨B,(k+1)*3,none⟩,by simp[h],fun t u hu=>?_⟩
   rw[add_lit3,cell_of_heap (w:=w.drew) hh]
   refine hcur _ _ ?_
   rw[hnews,<-cd1,List.getElem?_drop]at hu
   exact hu
 have s1:Hid (news.length=(n-(k+1))*3):=hdl
 have s2:Hid (∀u∈news,u.oneCell'=true):=by rw[hnews];exact cellsE_one _
 have s3:Hid (∀t,t<news.length->(w.drew.cell? ⟨B,0+k*3+t,none⟩).isSome=true/\w.drew.frozen? ⟨B,0+k*3+t,none⟩=false):=by
  intro t ht'
  rw[hdl]at ht'
  rw[cell_of_heap (w:=w.drew) hh,Nat.zero_add]
  exact⟨by rw[Array.getElem?_eq_getElem (by omega)];rfl,Lib.frozen_of_heap (w:=w.drew) hh _⟩
 obtain⟨W1,hW1⟩:∃W1,W1=w.drew.setCells B (0+k*3) news:=⟨_,rfl⟩
 obtain⟨cur1,hcur1⟩:∃cur1:Array Value,cur1=(cur.toList.take (k*3)++news++cur.toList.drop (k*3+news.length)).toArray:=⟨_,rfl⟩
 have hW1r:W1=w.drew.setRow B cur1:=by
  rw[hW1,hcur1,Nat.zero_add]
  exact setCells_row B news (k*3) cur w.drew hh (by rw[hdl,hsz];omega)
 have hsz1:cur1.size=cap*3:=by
  rw[hcur1]
  simp only[List.size_toArray,List.length_append,List.length_take,List.length_drop,hdl,Array.length_toList,hsz]
  omega
 have hW1h:W1.heap[B]?=some (.cells cur1 206 (0,0)):=by
  rw[hW1r]
  exact setRow_heap w.drew B cur _ _ _ hh
 have hcl1:∀ty c,(Builtin.clear_ #[198] ty #[.slice (some ⟨B,(n-1)*3,none⟩) 1 c]).run Tryz.prog W1=.ok (.tuple #[]) (W1.setCells B ((n-1)*3) zeroE):=fun ty c=>
  run_clear_entry W1 ty B ((n-1)*3) c (fun j hj=>by rw[cell_of_heap hW1h,Array.getElem?_eq_getElem (by omega)];rfl) (fun j hj=>Lib.frozen_of_heap hW1h _)
 obtain⟨cur2,hcur2⟩:∃cur2:Array Value,cur2=(cur1.toList.take ((n-1)*3)++zeroE++cur1.toList.drop ((n-1)*3+zeroE.length)).toArray:=⟨_,rfl⟩
 have hW2:W1.setCells B ((n-1)*3) zeroE=W1.setRow B cur2:=by
  rw[hcur2]
  exact setCells_row B zeroE ((n-1)*3) cur1 W1 hW1h (by simp[zeroE];omega)
 have hsz2:cur2.size=cap*3:=by
  rw[hcur2]
  simp only[List.size_toArray,List.length_append,List.length_take,List.length_drop,Array.length_toList,hsz1,zeroE,List.length_cons,List.length_nil]
  omega
 have ht2:cur2.toList.take ((n-1)*3)=cellsE (l.eraseIdx k):=by
  rw[eraseIdx_td l k (by omega),cellsE_append,hcur2,<-hnews]
  show(cur1.toList.take ((n-1)*3)++zeroE++cur1.toList.drop ((n-1)*3+zeroE.length)).take ((n-1)*3)=_
  have t0:(cur1.toList.take ((n-1)*3)).length=(n-1)*3:=by rw[List.length_take,Array.length_toList,hsz1,Nat.min_eq_left (by omega)]
  rw[List.append_assoc,List.take_append_of_le_length (by omega),List.take_take,Nat.min_self,hcur1]
  show(cur.toList.take (k*3)++news++cur.toList.drop (k*3+news.length)).take ((n-1)*3)=_
  have t1:cur.toList.take (k*3)=cellsE (l.take k):=by
   rw[<-ct,<-ht,List.take_take,Nat.min_eq_left (by omega)]
  rw[t1,List.take_append_of_le_length (by simp only[List.length_append,htl,hdl];omega),List.take_of_length_le (by simp only[List.length_append,htl,hdl];omega)]
 have hg1:GrX (fun b=>b=B) w W1:=by
  rw[hW1r]
  exact(GrX.drew (S:=fun b=>b=B) w).trans setRow_grX
 have HR:OwnE a0 (W1.setRow B cur2) (.slice (some ⟨B,0,none⟩) (n-1) cap) (l.eraseIdx k):=row_put hB (Nat.lt_of_lt_of_le hlt hg1.2.2.2.1) hc (by omega) (by rw[List.length_eraseIdx_of_lt (by omega),hln]) hsz2 ht2 hW1h
 have HG:GrX (fun b=>b=B) w (W1.setRow B cur2):=hg1.trans setRow_grX
 have HX:GrX (fun b=>(Value.slice (some ⟨B,0,none⟩) n cap).ownBlock=some b) w (W1.setRow B cur2):=⟨HG.1,HG.2.1,HG.2.2.1,HG.2.2.2.1,fun b hb hn=>HG.2.2.2.2 b hb fun e1=>hn (by rw[e1];rfl)⟩
 have HGa:Gr a0 (W1.setRow B cur2):=HG.gr hg fun b hb=>by rw[hb];exact hB
 have mixed:Tryz.prog.follows Departure.mixedOrders=true:=by kernel_rfl
 have hW:Hid (W1=w.drew.setCells B (0+k*3) news):=hW1
 have HR':=Lib.hid HR
 have HX':=Lib.hid HX
 have HGa':=Lib.hid HGa
 have hW2':=Lib.hid hW2
 have hne:¬((k:Int)=(k:Int)+1):=by omega
 have hkc:k<=cap:=by omega
 have hkc1:k+1<=cap:=by omega
 have hk1:((k:Int)+1).toNat=k+1:=by omega
 have hk0:(0:Int)<=(k:Int)+1:=by omega
 have hkn:(k:Int)+1<=(n:Int):=by omega
 have hkn':k+1<=n:=by omega
 have hnn:n<=cap:=hnc
 have hn1:k+(n-(k+1))=n-1:=by omega
 have hn2:n-(n-1)=1:=by omega
 have hn3:¬(cap=n-1):=by omega
 clear ht2 hsz2 hsz1 hcur1 hcur2 hcur h ht hg1 hW1 hW1r hW1h hh hcl ct cd ct1 cd1 hdl htl hnews HR HX HG HGa hW2
 go_enter Tryz.func255,Tryz.ntmps255
 go_wp2_with fail
 go_region_law_o (refine step_append_room rfl (.tmp 22) (.tmp 25) 198 rfl 206 i0 3 Tryz.underlying198 hi0 hzs B 0 k cap (by simp[Act.eval,Act.put]) A (n-(k+1)) (cap-(k+1)) news (by simp[Act.eval,Act.put]) s1.out hsrc.out s2.out (by omega) s3.out ?_;rw[<-hW.out])
 go_wp2_with fail
 go_ret
 exact⟨_,rfl,by rw[hW2'.out];exact HR'.out,by rw[hW2'.out];exact HGa'.out,by rw[hW2'.out];exact HX'.out,rfl⟩
