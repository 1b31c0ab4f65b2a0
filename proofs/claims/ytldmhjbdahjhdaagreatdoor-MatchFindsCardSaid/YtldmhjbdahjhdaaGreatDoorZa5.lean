/-
  Part 5 of the proof.
-/
import Derived.Test.YtldmhjbdahjhdaaGreatDoorZa4
import Derived.Test.YtldmhjbdahjhdaaGreatDoorZa3
open Go.Proofs.Tryz
open Go.World renaming cell?_alloc_new->ae,cell?_setCell_other->ak,cell?_setCell_same->az,frozen?_of_block->bC,frozen?_setCell->bF,cell?_drew->cO
open Go.Lib renaming hid->ap
open List renaming length_append->aJ,mem_append->aQ,mem_flatMap->aS,mem_cons_of_mem->aU,mem_append_right->aV,mem_cons->aX,mem_append_left->bc,flatMap_append->be,map_append->bh,length_take->bt,mem_cons_self->bu,nodup_append->bv,length_cons->bz,length_drop->bB,length_nil->bP,flatMap_cons->bT,take_succ_eq_append_getElem->bZ,cons_append->b_,getElem_mem->cf,mem_or_eq_of_mem_set->cs,insertIdx_succ_cons->cD,map_cons->cF,take_length->cL,append_eq_nil_iff->cW,take_of_length_le->de,nodup_cons->dg,length_map->dh,length_singleton->dA,mem_of_mem_drop->dJ,mem_of_mem_take->dQ,set_cons_succ->dS,mem_insertIdx->dT,mem_singleton->dU,append_assoc->ea,take_append->eh,length->ej,length_set->el,drop_left->ew,replicate->ez
open Go renaming World->bj,Value->bA,Calls->cj,bodyPost_ret->eB
open Array renaming getElem?_eq_some_iff->bM,toList_extract->dF
open Nat renaming lt_of_lt_of_le->bQ,zero_add->bW,le_trans->cg,add_sub_cancel_left->cK,min_eq_left->dr,le_refl->dD,zero_le->ek,le_of_eq->eA
open Go.RowKit renaming intOf->bX,wrap64->cl
open Prod renaming fst->ch,snd->dZ
open Go.Value renaming ownBlock->co,slice->eH
open ByteArray renaming data_extract->da
open Option.some renaming inj->di
open Go.RowKit.Below renaming heap_alloc->eb
open Go.Proofs.Tryz renaming results120->em
open Go.Ending renaming returned->es
open Go.World.ownsRow renaming cells->eT
open Go.Maps renaming size->eV
open Go.IntWalk renaming i64_in->eY
open Prod.mk renaming injEq->fe
open Go.IntKind renaming i64->fl
set_option maxRecDepth 100000
set_option maxHeartbeats 100000000
set_option linter.all false
namespace Go.Proofs.YtldmhjbdahjhdaaGreatDoor
section
open Go Go.RowKit
theorem mv{s:Type}:∀{l:List s} {k:Nat} {x:s},l[k]?=some x->∃b q,l=b++x::q/\b.length=k
 |[],k,x,h=>by simp at h
 |a::l,0,x,h=>⟨[],l,by simpa using h,rfl⟩
 |a::l,k+1,x,h=>by
  obtain⟨b,q,e,y⟩:=mv (l:=l) (k:=k) (x:=x) (by simpa using h);exact⟨a::b,q,by rw[e];rfl,by rw[bz,y]⟩
theorem mW{q:Type}(x y:q)(s:List q):∀b:List q,(b++x::s).set b.length y=b++y::s
 |[]=>rfl
 |a::b=>by
  have:=mW x y s b;simp only[b_,bz,dS,this]
theorem tU{q:Type}(m y:q)(s:List q):∀b:List q,(b++y::s).insertIdx (b.length+1) m=b++y::m::s
 |[]=>by simp
 |a::b=>by
  have:=tU m y s b;simp only[b_,bz,cD,this]
theorem pd{q:Type}(x:q)(s:List q):∀b:List q,(b++x::s).eraseIdx b.length=b++s
 |[]=>rfl
 |a::b=>by
  have:=pd x s b;simp only[b_,bz,List.eraseIdx_cons_succ,this]
theorem Gd{l:List (ByteArray×ByteArray)}{key item:ByteArray}{x:ByteArray×ByteArray}(h:x∈eN l key item):x∈l\/x=(key,item):=by
 unfold eN at h
 split at h
 ·rcases cs h with h|h
  ·exact .inl h
  exact .inr h
 rw[dT (by have:=jJ (l.map ch) key;simpa using this)]at h;exact h.elim .inr .inl
theorem Tf{l:List (ByteArray×ByteArray)}{key item:ByteArray}(h:l≠[]):eN l key item≠[]:=by
 have b:=List.length_pos_iff.2 h;unfold eN
 split
 ·intro e;have:=congrArg ej e;rw[el,bP]at this;omega
 intro e;have:=congrArg ej e;rw[List.length_insertIdx,bP]at this
 split at this<;>omega
theorem ze{leaf:Bool}{y:En}:∀(l:List En) (i:Nat),dq leaf (l.set i y)<=dq leaf l+y.sz leaf
 |[],i=>by simp[dq]
 |a::l,0=>by
  rw[List.set_cons_zero,cE,cE];omega
 |a::l,i+1=>by
  have:=ze (leaf:=leaf) (y:=y) l i;rw[dS,cE,cE];omega
theorem oh{leaf:Bool}{y:En}:∀(l:List En) (i:Nat),dq leaf (l.insertIdx i y)<=dq leaf l+y.sz leaf
 |l,0=>by
  rw[List.insertIdx_zero,cE];omega
 |[],i+1=>by simp[dq]
 |a::l,i+1=>by
  have:=oh (leaf:=leaf) (y:=y) l i;rw[cD,cE,cE];omega
theorem kF{b q:Type}(f:b->q)(y:b):∀(l:List b) (i:Nat),(l.insertIdx i y).map f=(l.map f).insertIdx i (f y)
 |l,0=>by simp
 |[],i+1=>by simp
 |a::l,i+1=>by simp[kF f y l i]
theorem Ao{l:List (ByteArray×ByteArray)}{key item:ByteArray}:aj true ((eN l key item).map cy)<=aj true (l.map cy)+(cy (key,item)).sz true:=by
 unfold eN aj
 split
 ·rw[List.map_set];have:=ze (leaf:=true) (y:=cy (key,item)) (l.map cy) (am (l.map ch) key);omega
 rw[kF];have:=oh (leaf:=true) (y:=cy (key,item)) (l.map cy) (am (l.map ch) key);omega
theorem tT.X5{X:Type}{pg:Nat->ByteArray}{z b:X->Nat}{pgs q:X->List Nat}{lay s:Ch->X->Prop}{ok B:X->Prop}{p:Nat}{c:Ch}{S S':List Nat}{r:S1 X}
  (h:tT pg z pgs lay ok p c S r) (J:∀x,z x=b x) (y:∀x,pgs x=q x) (H:∀c x,lay c x->s c x) (I:∀x,ok x->B x) (D:∀k∈S,k∈S'\/c.h.used k=false):tT pg b q s B p c S' r:=
 ⟨h.fr.wide D,(J _).symm.trans h.cU,H _ _ h.lays,I _ h.fits,fun k G=>(h.sub k (by rw[y];exact G)).elim (D k) .inr,by rw[<-y];exact h.nd,fun m L=>by
  obtain⟨M,O,Q,U,V⟩:=h.more m L;exact⟨H _ _ M,I _ O,Q,fun k G=>(U k (by rw[y];exact G)).elim (D k) .inr,by rw[<-y,<-y];exact V⟩⟩
theorem tT.after{X:Type}{pg:Nat->ByteArray}{z:X->Nat}{pgs:X->List Nat}{lay:Ch->X->Prop}{ok:X->Prop}{p:Nat}{s c:Ch}{y S:List Nat}{r:S1 X}
  (h:tT pg z pgs lay ok p c S r) (G:Fr pg y s c) (hS:∀k∈S,k∈y\/s.h.used k=false) (q:∀(c:Ch) x,lay c x->∀k∈pgs x,fE c k):tT pg z pgs lay ok p s y r:=by
 have B:∀k,1<=k->k<2000->k∈S\/c.h.used k=false->k∈y\/s.h.used k=false:=fun k I J b=>by
  rcases b with b|b
  ·exact hS k b
  by_cases H:k∈y
  ·exact .inl H
  cases L:s.h.used k with
  |false=>exact .inr rfl
  |true=>
   have:=(G.keep k I J L H).1;rw[b]at this;cases this
 exact⟨G.trans h.fr hS,h.cU,h.lays,h.fits,fun k b=>B k (q _ _ h.lays k b).1 (q _ _ h.lays k b).2.1 (h.sub k b),h.nd,fun m e=>by
  obtain⟨D,M,O,Q,U⟩:=h.more m e;exact⟨D,M,O,fun k b=>B k (q _ _ D k b).1 (q _ _ D k b).2.1 (Q k b),U⟩⟩
theorem Qr{b q:Type}(l:List b):l.flatMap (fun _=>([]:List q))=[]:=by
 induction l with
 |nil=>rfl
 |cons a l s=>rw[bT,s];rfl
theorem mX{X:Type}(n:Nat×List (ByteArray×X)):eG (fun _=>[]) n=[n.1]:=by
 unfold eG;rw[Qr]
theorem wI{p:Nat}{a x b m:List Nat}{U:Nat->Prop}(h:(p::(a++(x++b))).Nodup)(B:m.Nodup)(hs:∀k∈m,k∈x\/¬U k)(hu:∀k∈p::(a++b),U k):(p::(a++(m++b))).Nodup:=by
 obtain⟨y,D⟩:=dg.1 h;obtain⟨G,H,z⟩:=bv.1 D;obtain⟨L,I,J⟩:=bv.1 H;refine dg.2 ⟨fun q=>?_,bv.2 ⟨G,bv.2 ⟨B,I,fun i hi j s e=>?_⟩,fun i hi j s e=>?_⟩⟩
 ·rcases aQ.1 q with q|q
  ·exact y (bc _ q)
  rcases aQ.1 q with q|q
  ·rcases hs p q with q|q
   ·exact y (aV _ (bc _ q))
   exact q (hu p bu)
  exact y (aV _ (aV _ q))
 ·subst e;rcases hs i hi with h|h
  ·exact J i h i s rfl
  exact h (hu i (aU _ (aV _ s)))
 subst e;rcases aQ.1 s with s|s
 ·rcases hs i s with h|h
  ·exact z i hi i (bc _ h) rfl
  exact h (hu i (aU _ (bc _ hi)))
 exact z i hi i (aV _ s) rfl
theorem xU{pg:Nat->ByteArray}{key item:ByteArray}(L:key.size<=60)(hi:item.size<=100):∀{d:Nat} {c:Ch} {t:T d},c.aE->t.lays c pg->t.fC->t.ai.Nodup->
  tT pg T.pg T.ai (fun c (t:T d)=>t.lays c pg) T.fC t.pg c t.ai (dt c t key item)
 |0,c,t,hc,hl,V,hn=>by
  have ha:=zd (X:=ByteArray) (pg:=pg) (en:=cy) (leaf:=true) (pgs:=fun _=>[]) (lay:=fun _ _=>True) (ok:=fun _=>True) (fun _ _ _ _ _ _ _=>trivial) (fun _ _ _ _ h=>absurd h (by simp)) (fun _=>rfl)
   (c:=c) (p:=ch t) (l:=eN (dZ t) key item) (old:=dZ t) hc hl.1 (fun _ _=>⟨trivial,trivial⟩)
   (fun e he=>by
    obtain⟨x,hx,rfl⟩:=List.mem_map.1 he;rcases Gd hx with h|h
    ·exact V.2.2 _ (List.mem_map_of_mem h)
    rw[h];exact⟨L,hi,by show 0<2000;omega,fun _=>rfl,fun h=>by cases h⟩)
   (Tf (fun e=>V.1 (by rw[e];rfl)))
   (by
    have Y:=Ao (l:=dZ t) (key:=key) (item:=item);have M:=V.2.1;have h3:(cy (key,item)).sz true<=162:=En.oV ⟨L,hi,by show 0<2000;omega,fun _=>rfl,fun h=>by cases h⟩;omega)
   (by rw[mX];simp) ⟨hl,fun _ _=>trivial⟩ ⟨V,fun _ _=>trivial⟩ (by rw[mX];simp) (fun k h=>by rw[mX]at h⊢;exact h)
  exact ha.X5 (fun _=>rfl) (fun x=>mX x) (fun _ _ h=>h.1) (fun _ h=>h.1) (fun k h=>.inl (by rw[mX]at h;exact h))
 |d+1,c,t,hc,hl,V,hn=>by
  obtain⟨p,l⟩:Nat×List (ByteArray×T d):=t;have d8:l.map ch≠[]:=fun e=>V.1.1 (by
   have:l=[]:=List.map_eq_nil_iff.1 e;show l.map aM=[];rw[this]
   rfl)
  have c2:=oE d8 key;rw[dh]at c2;obtain⟨x,hx⟩:∃x,l[aL (l.map ch) key]?=some x:=⟨_,List.getElem?_eq_getElem c2⟩;obtain⟨q,s,H,c3⟩:=mv hx;have b2:x∈l:=by rw[H];simp
  have c4:(p::(q.flatMap (fun y=>y.2.ai)++(x.2.ai++s.flatMap fun y=>y.2.ai))).Nodup:=by
   have h:(p::l.flatMap fun y=>y.2.ai).Nodup:=hn;rw[H,be,bT]at h;exact h
  obtain⟨n1,n2⟩:=dg.1 c4;obtain⟨n3,n4,n5⟩:=bv.1 n2;obtain⟨n6,n7,n8⟩:=bv.1 n4;have a3:∀y∈l,y.2.lays c pg:=hl.2;have c5:∀y∈l,y.2.fC:=V.2;have d9:fE c p:=hl.1.1;have b6:iy c pg false p (l.map aM):=hl.1;have d4:qG false (l.map aM):=V.1;have Z:=xU (pg:=pg) L hi hc (a3 x b2) (c5 x b2) n6;have hS:∀k∈x.2.ai,k∈p::l.flatMap (fun y=>y.2.ai):=fun k h=>aU _ (aS.2 ⟨x,b2,h⟩);have B:∀y,y∈q\/y∈s->y∈l/\∀k∈y.2.ai,k∉x.2.ai:=fun y b=>by
   rcases b with b|b
   ·refine⟨by rw[H];exact bc _ b,fun k Y M=>n5 k (aS.2 ⟨y,b,Y⟩) k (bc _ M) rfl⟩
   refine⟨by rw[H];exact aV _ (aU _ b),fun k Y M=>n8 k M k (aS.2 ⟨y,b,Y⟩) rfl⟩
  have d5:∀k∈p::(q.flatMap (fun y=>y.2.ai)++s.flatMap fun y=>y.2.ai),fE c k:=fun k h=>by
   rcases aX.1 h with e|h
   ·rw[e];exact d9
   rcases aQ.1 h with h|h
   ·obtain⟨y,b,h⟩:=aS.1 h;exact T.cY (a3 y (B y (.inl b)).1) k h
   obtain⟨y,b,h⟩:=aS.1 h;exact T.cY (a3 y (B y (.inr b)).1) k h
  have e1:p∉x.2.ai:=fun h=>n1 (aV _ (bc _ h));rcases hr:dt c x.2 key item with⟨D,u,r⟩
  rw[hr]at Z;have I:=Z.fr;have e2:u.pg=x.2.pg:=Z.cU;have b3:u.lays D pg:=Z.lays;have c7:u.fC:=Z.fits;have c8:∀k∈u.ai,k∈x.2.ai\/c.h.used k=false:=Z.sub;have e3:u.ai.Nodup:=Z.nd;have c9:=Z.more;simp only at I c9;have O:l.set (aL (l.map ch) key) (x.1,u)=q++(x.1,u)::s:=by rw[<-c3,H,mW]
  have d6:∀m,(q++(x.1,u)::s).insertIdx (aL (l.map ch) key+1) m=q++(x.1,u)::m::s:=fun m=>by rw[<-c3,tU]
  have a8:(q++(x.1,u)::s).map aM=l.map aM:=by
   rw[H];simp only[bh,cF];have:aM (x.1,u)=aM x:=by
    unfold aM;rw[e2]
   rw[this]
  have a4:∀y,y∈q\/y∈s->y.2.lays D pg/\y.2.fC:=fun y b=>⟨T.hJ I (a3 y (B y b).1) (B y b).2,c5 y (B y b).1⟩;have d0:iy D pg false p (l.map aM):=I.Ga b6 e1;have a9:∀ms:List (ByteArray×T d),(ms.flatMap fun y=>y.2.ai).Nodup->(∀y∈ms,∀k∈y.2.ai,k∈x.2.ai\/c.h.used k=false)->(eG T.ai (p,q++(ms++s))).Nodup:=fun ms Y M=>by
   unfold eG;simp only;rw[be,be];refine wI (U:=fun k=>c.h.used k=true) c4 Y (fun k h=>?_) (fun k h=>(d5 k h).2.2);obtain⟨y,b,h⟩:=aS.1 h;rcases M y b k h with e|e
   ·exact .inl e
   exact .inr (by rw[e];simp)
  have a1:∀ms:List (ByteArray×T d),(∀y∈ms,∀k∈y.2.ai,k∈x.2.ai\/c.h.used k=false)->∀k∈eG T.ai (p,q++(ms++s)),k∈(p::l.flatMap fun y=>y.2.ai)\/c.h.used k=false:=fun ms M k h=>by
   unfold eG at h;simp only at h;rcases aX.1 h with e|h
   ·exact .inl (by rw[e];exact bu)
   rw[be,be]at h;rcases aQ.1 h with h|h
   ·obtain⟨y,b,h⟩:=aS.1 h;exact .inl (aU _ (aS.2 ⟨y,(B y (.inl b)).1,h⟩))
   rcases aQ.1 h with h|h
   ·obtain⟨y,b,h⟩:=aS.1 h;rcases M y b k h with e|e
    ·exact .inl (hS k e)
    exact .inr e
   obtain⟨y,b,h⟩:=aS.1 h;exact .inl (aU _ (aS.2 ⟨y,(B y (.inr b)).1,h⟩))
  have d1:∀y∈[(x.1,u)],∀k∈y.2.ai,k∈x.2.ai\/c.h.used k=false:=fun y b k h=>by
   rw[dU.1 b]at h;exact c8 k h
  have J:(eG T.ai (p,q++(x.1,u)::s)).Nodup:=a9 [(x.1,u)] (by simpa using e3) d1;have a2:∀k∈eG T.ai (p,q++(x.1,u)::s),k∈(p::l.flatMap fun y=>y.2.ai)\/c.h.used k=false:=a1 [(x.1,u)] d1;have G:∀y∈q++(x.1,u)::s,y.2.lays D pg/\y.2.fC:=fun y b=>by
   rcases aQ.1 b with h|h
   ·exact a4 y (.inl h)
   rcases aX.1 h with e|h
   ·rw[e];exact⟨b3,c7⟩
   exact a4 y (.inr h)
  have b0:fE D p:=d0.1;have Q:IF pg aM false (fun c (t:T d)=>t.lays c pg) D (p,q++(x.1,u)::s):=⟨by
   show iy D pg false p ((q++(x.1,u)::s).map aM);rw[a8];exact d0,fun y b=>(G y b).1⟩
  have z:WY aM false (fun t:T d=>t.fC) (p,q++(x.1,u)::s):=⟨by
   show qG false ((q++(x.1,u)::s).map aM);rw[a8];exact d4,fun y b=>(G y b).2⟩
  have b4:∀(c:Ch) (t:T d),t.lays c pg->∀k∈t.ai,fE c k:=fun c t h=>T.cY h;have b1:∀(c:Ch) (n:Nat×List (ByteArray×T d)),IF pg aM false (fun c (t:T d)=>t.lays c pg) c n->∀k∈eG T.ai n,fE c k:=fun c n h k L=>by
   unfold eG at L;rcases aX.1 L with e|L
   ·rw[e];exact h.1.1
   obtain⟨y,b,L⟩:=aS.1 L;exact b4 c _ (h.2 y b) k L
  have b5:Fr pg (p::l.flatMap fun y=>y.2.ai) c D:=I.wide fun k h=>.inl (hS k h);have h4:fE D u.pg:=T.cY b3 _ (T.eP u);cases r with
  |none=>
   have e0:dt (d:=d+1) c (p,l) key item=(D,(p,q++(x.1,u)::s),none):=by
    refine(dt.eq_2 c key item d ((p,l):Nat×List (ByteArray×T d))).trans ?_;simp only[hx,hr,O]
    rfl
   rw[e0];exact⟨b5,rfl,Q,z,a2,J,fun m hm=>by cases hm⟩
  |some r=>
   cases r with
   |none=>
    have e0:dt (d:=d+1) c (p,l) key item=cz (X:=T d) aM false D p (q++(x.1,u)::s) (q++(x.1,u)::s):=by
     refine(dt.eq_2 c key item d ((p,l):Nat×List (ByteArray×T d))).trans ?_;simp only[hx,hr,O]
     rfl
    rw[e0];have ha:=zd (X:=T d) (pg:=pg) (en:=aM) (leaf:=false) (pgs:=T.ai) (lay:=fun c (t:T d)=>t.lays c pg) (ok:=T.fC) (fun c c' S t g h hn=>T.hJ g h hn) b4 (fun _=>rfl)
     (c:=D) (p:=p) (l:=q++(x.1,u)::s) (old:=q++(x.1,u)::s) I.aE b0 G z.1.2.2 (by simp) (by have:=z.1.2.1;simp only at this;omega) J Q z J (fun k h=>h)
    exact ha.after b5 a2 b1
   |some m=>
    obtain⟨m1,m2,m3,m4,m5⟩:=c9 m rfl;have e0:dt (d:=d+1) c (p,l) key item=cz (X:=T d) aM false D p (q++(x.1,u)::m::s) (q++(x.1,u)::s):=by
     refine(dt.eq_2 c key item d ((p,l):Nat×List (ByteArray×T d))).trans ?_;simp only[hx,hr,O,d6]
     rfl
    rw[e0];have d2:∀y∈[(x.1,u),m],∀k∈y.2.ai,k∈x.2.ai\/c.h.used k=false:=fun y b k h=>by
     rcases aX.1 b with e|b
     ·rw[e]at h;exact c8 k h
     rw[dU.1 b]at h;exact m4 k h
    have d7:(eG T.ai (p,q++(x.1,u)::m::s)).Nodup:=a9 [(x.1,u),m] (by simpa using m5) d2;have b8:∀k∈eG T.ai (p,q++(x.1,u)::m::s),k∈(p::l.flatMap fun y=>y.2.ai)\/c.h.used k=false:=a1 [(x.1,u),m] d2;have b9:∀y∈q++(x.1,u)::m::s,y.2.lays D pg/\y.2.fC:=fun y b=>by
     rcases aQ.1 b with h|h
     ·exact a4 y (.inl h)
     rcases aX.1 h with e|h
     ·rw[e];exact⟨b3,c7⟩
     rcases aX.1 h with e|h
     ·rw[e];exact⟨m1,m2⟩
     exact a4 y (.inr h)
    have e4:fE D m.2.pg:=T.cY m1 _ (T.eP m.2);have d3:(aM m).ok false:=⟨m3,by show(0:Nat)<=100;omega,e4.2.1,fun h=>(by cases h),fun _=>rfl⟩;have a5:=z.1.2.2;simp only[bh,cF]at a5;have e5:aj false ((q++(x.1,u)::m::s).map aM)<=1400:=by
     have Y:=z.1.2.1;have M:=En.oV d3;simp only[bh,cF,aj,ly,cE]at Y⊢;omega
    have ha:=zd (X:=T d) (pg:=pg) (en:=aM) (leaf:=false) (pgs:=T.ai) (lay:=fun c (t:T d)=>t.lays c pg) (ok:=T.fC) (fun c c' S t g h hn=>T.hJ g h hn) b4 (fun _=>rfl)
     (c:=D) (p:=p) (l:=q++(x.1,u)::m::s) (old:=q++(x.1,u)::s) I.aE b0 b9 (fun e he=>by
      simp only[bh,cF]at he;rcases aQ.1 he with h|h
      ·exact a5 e (bc _ h)
      rcases aX.1 h with h|h
      ·exact a5 e (aV _ (by rw[h];exact bu))
      rcases aX.1 h with h|h
      ·rw[h];exact d3
      ·exact a5 e (aV _ (aU _ h))) (by simp) e5 d7 Q z J (fun k h=>by
      unfold eG at h⊢;simp only[be,bT,aX,aQ]at h⊢;rcases h with h|h|h|h
      ·exact .inl h
      ·exact .inr (.inl h)
      ·exact .inr (.inr (.inl h))
      exact .inr (.inr (.inr (.inr h))))
    exact ha.after b5 b8 b1
def T.qZ(c:Ch)(pg:Nat->ByteArray):{d:Nat}->T d->Prop
 |0,_=>True
 |_+1,t=>∀x∈dZ t,x.2.lays c pg
def T.Vd:{d:Nat}->T d->Prop
 |0,_=>True
 |_+1,t=>∀x∈dZ t,x.2.fC
theorem T.oI{c:Ch}{pg:Nat->ByteArray}:{d:Nat}->{t:T d}->(t.lays c pg↔iy c pg (cn d) t.pg t.aO/\t.qZ c pg)
 |0,t=>⟨fun h=>⟨h,trivial⟩,fun h=>h.1⟩
 |d+1,t=>Iff.rfl
theorem T.lA:{d:Nat}->{t:T d}->(t.fC↔qG (cn d) t.aO/\t.Vd)
 |0,t=>⟨fun h=>⟨h,trivial⟩,fun h=>h.1⟩
 |d+1,t=>Iff.rfl
theorem T.q_:{d:Nat}->(t:T d)->t.ai=t.pg::t.ai.tail
 |0,t=>by unfold T.ai T.pg;rfl
 |d+1,t=>by unfold T.ai T.pg;rfl
theorem T.Kv{pg:Nat->ByteArray}{S:List Nat}{c b:Ch}(g:Fr pg S c b):{d:Nat}->{t:T d}->t.qZ c pg->(∀k∈t.ai.tail,k∉S)->t.qZ b pg
 |0,t,h,hn=>trivial
 |d+1,t,h,hn=>fun x q=>T.hJ g (h x q) fun k s=>hn k (by
  unfold T.ai;exact aS.2 ⟨x,q,s⟩)
theorem Kw:{d:Nat}->(a:T d)->(k:ByteArray)->(b:T d)->(a.meet k b).ai=a.ai++b.ai.tail
 |0,a,k,b=>by unfold T.ai T.meet;rfl
 |d+1,a,k,b=>by
  obtain⟨p,l⟩:Nat×List (ByteArray×T d):=a;obtain⟨q,m⟩:Nat×List (ByteArray×T d):=b;show(p::(l++wE k m).flatMap fun x=>x.2.ai)=(p::l.flatMap fun x=>x.2.ai)++m.flatMap fun x=>x.2.ai;rw[b_,be];cases m<;>rfl
theorem Cz:{d:Nat}->(a:T d)->(k:ByteArray)->(b:T d)->(a.meet k b).pg=a.pg
 |0,a,k,b=>rfl
 |d+1,a,k,b=>rfl
theorem MU{c:Ch}{pg:Nat->ByteArray}:{d:Nat}->{a:T d}->{k:ByteArray}->{b:T d}->a.qZ c pg->b.qZ c pg->(a.meet k b).qZ c pg
 |0,a,k,b,_,_=>trivial
 |d+1,a,k,b,ha,z=>fun x s=>by
  obtain⟨p,l⟩:Nat×List (ByteArray×T d):=a;obtain⟨q,m⟩:Nat×List (ByteArray×T d):=b;have s:x∈l++wE k m:=s;rcases aQ.1 s with h|h
  ·exact ha x h
  cases m with
  |nil=>cases h
  |cons y r=>
   rcases aX.1 h with e|h
   ·rw[e];exact z y bu
   exact z x (aU _ h)
def IG(leaf:Bool)(a:List En)(k:ByteArray)(b:List En):List En:=a++(if leaf then b else mL k b)
theorem wJ:{d:Nat}->(a:T d)->(k:ByteArray)->(b:T d)->(a.meet k b).aO=IG (cn d) a.aO k b.aO
 |0,a,k,b=>by
  obtain⟨p,l⟩:Nat×List (ByteArray×ByteArray):=a;obtain⟨q,m⟩:Nat×List (ByteArray×ByteArray):=b;show(l++m).map cy=l.map cy++m.map cy;rw[bh]
 |d+1,a,k,b=>by
  obtain⟨p,l⟩:Nat×List (ByteArray×T d):=a;obtain⟨q,m⟩:Nat×List (ByteArray×T d):=b;show(l++wE k m).map aM=l.map aM++mL k (m.map aM);rw[bh];cases m<;>rfl
theorem Tg:{d:Nat}->{a:T d}->{k:ByteArray}->{b:T d}->a.fC->b.fC->k.size<=60->aj (cn d) (a.meet k b).aO<=1024->(a.meet k b).fC
 |0,a,k,b,ha,z,H,hs=>by
  obtain⟨p,l⟩:Nat×List (ByteArray×ByteArray):=a;obtain⟨q,m⟩:Nat×List (ByteArray×ByteArray):=b;refine⟨fun e=>ha.1 ?_,hs,fun e s=>?_⟩
  ·have:(l++m).map cy=[]:=e;rw[bh]at this;exact(cW.1 this).1
  have s:e∈(l++m).map cy:=s;rw[bh]at s;rcases aQ.1 s with h|h
  ·exact ha.2.2 e h
  exact z.2.2 e h
 |d+1,a,k,b,ha,z,H,hs=>by
  obtain⟨p,l⟩:Nat×List (ByteArray×T d):=a;obtain⟨q,m⟩:Nat×List (ByteArray×T d):=b;have B:qG false (l.map aM):=ha.1;have D:qG false (m.map aM):=z.1;refine⟨⟨fun e=>B.1 ?_,hs,fun e s=>?_⟩,fun x G=>?_⟩
  ·have:(l++wE k m).map aM=[]:=e;rw[bh]at this;exact(cW.1 this).1
  ·have s:e∈(l++wE k m).map aM:=s;rw[bh]at s;rcases aQ.1 s with h|h
   ·exact B.2.2 e h
   cases m with
   |nil=>cases h
   |cons y r=>
    rcases aX.1 h with I|h
    ·rw[I];have:=D.2.2 (aM y) bu;exact⟨H,this.item,this.cU,this.WS,this.node⟩
    exact D.2.2 e (aU _ h)
  have G:x∈l++wE k m:=G;rcases aQ.1 G with h|h
  ·exact ha.2 x h
  cases m with
  |nil=>cases h
  |cons y r=>
   rcases aX.1 h with e|h
   ·rw[e];exact z.2 y bu
   exact z.2 x (aU _ h)
structure Pb(pg:Nat->ByteArray){d:Nat}(c:Ch)(t:T d)(r:Ch×T d):Prop where
 fr:Fr pg t.ai c r.1
 cU:r.2.pg=t.pg
 lays:r.2.lays r.1 pg
 fits:r.2.aO≠[]->r.2.fC
 sub:∀k∈r.2.ai,k∈t.ai
 nd:r.2.ai.Nodup
theorem Ge{leaf:Bool}{a b:List En}(h:a.Sublist b):dq leaf a<=dq leaf b:=by
 induction h with
 |slnil=>exact dD _
 |cons x _ q=>rw[cE];omega
 |cons_cons x _ q=>rw[cE,cE];omega
theorem CA(leaf:Bool):aj leaf []<=1024:=by
 unfold aj dq;simp
def II(v b:bA)(w w':bj):Prop:=w.heap.size<=w'.heap.size/\∀k,k<w.heap.size->v.ownBlock≠some k->b.ownBlock≠some k/\w'.heap[k]?=w.heap[k]?
theorem II.keeps{v b:bA}{w w':bj}(h:II v b w w'){k o:Nat}{u:bA}(hv:v.ownBlock≠some k)(hc:w.cell? ⟨k,o,none⟩=some u):w'.cell? ⟨k,o,none⟩=some u:=
 (World.cell?_of_block (h.2 k (ad hc) hv).2).trans hc
theorem Ap{a0 w:bj}{D:Array Oper}{rest:List Oper}{o:Oper}{a:Act}{Q:Exit->Act->bj->Prop}(J:o.guard=none)(s x:Operand)
  (U:o.op=.call {callee:=.builtin .append,args:=#[s,x],argTypes:=#[198,198]}) (v:bA) (us:List En) (e:En) (hs:a.eval s=v) (b:ba a0 w v us) (B:Nat) (V:w.heap.size=B) (Y:a.eval x=.slice (some ⟨B,0,none⟩) 1 1) (hl:us.length<=100000) (S:Gr a0 w)
  (h:∀q w',ba a0 w' q (us++[e])->Gr a0 w'->II v q w w'->wpList prog D Q rest (a.put o.dst q) w'):wpList prog D Q (o::rest) a (w.alloc (.cells #[.string e.key,.string e.item,.int .i64 (e.cU:Int)] 206)):=by
 obtain⟨Z,H,L,M,O⟩:=hH;subst V;refine wpList_append_own_at _ J s x 198 U a0.heap.size 206 Z (.agg #[.string ⟨#[]⟩,.string ⟨#[]⟩,.int .i64 0]) 3 40 underlying198 H L M O rfl (by decide) v us.length (ax us) hs (b.alloc _) ⟨w.heap.size,0,none⟩ 1 1 e.cells Y rfl ?_ e.cells_one (by unfold maxLen;omega) (by omega) (by have:=S.size;simp;omega)
  (fun q w' h1 I _ y=>h q w' (MM h1) (iG (S.alloc _) I (aP b)) ⟨by have:=I.size;simp at this;omega,fun k hk G=>⟨fun z=>by
   rcases y with y|y
   ·exact G (y.symm.trans z)
   rw[y]at z;have:=di z;simp at this;omega,(I.block k (by simp;omega) (fun z=>G z.symm)).trans (eb _ _ _ hk)⟩⟩)
 intro j u hj;rw[mr,ae,bW];simpa[En.cells]using hj
theorem zg(s:ByteArray)(a b c:List UInt8)(h:s.data.toList=a++(b++c)):s.extract a.length (a.length+b.length)=⟨b.toArray⟩:=by
 apply bE;rw[da,dF,h];show((a++(b++c)).drop a.length).take (a.length+b.length-a.length)=b;rw[ew,cK,List.take_left]
theorem zh(s:ByteArray)(a c:List UInt8)(h:s.data.toList=a++c):s.extract a.length s.size=⟨c.toArray⟩:=by
 apply bE;rw[da,dF,h];have hs:s.size=a.length+c.length:=by rw[size_data,h,aJ]
 show((a++c).drop a.length).take (s.size-a.length)=c;rw[ew,hs,cK,cL]
theorem get_at(s:ByteArray)(j:Nat)(b:j<s.size)(l:List UInt8)(h:s.data.toList=l)(q:j<l.length):s[j]=l[j]:=by
 rw[bm s j b];subst h
 rfl
def km(leaf:Bool)(l:List En)(i:Nat):ByteArray:=⟨(eM leaf (l.drop i)++ez (1024-aj leaf l) 0).toArray⟩
theorem qj(leaf:Bool)(l:List En)(i:Nat):(km leaf l i).data.toList=eM leaf (l.drop i)++ez (1024-aj leaf l) 0:=by
 unfold km;simp
theorem Aq(leaf:Bool)(l:List En)(i:Nat)(h:i<l.length):(km leaf l i).data.toList=(l[i]).yY leaf++(km leaf l (i+1)).data.toList:=by
 rw[qj,qj,<-ea]
 congr 1
 unfold eM;rw[List.drop_eq_getElem_cons h,bT]
theorem Ar(leaf:Bool)(l:List En)(i:Nat)(b:∀e∈l,e.ok leaf)(s:aj leaf l<=1024):(km leaf l i).size<=1021:=by
 rw[size_data,qj,aJ,kL (fun e q=>b e (dJ q)),List.length_replicate];have:=Ge (leaf:=leaf) (List.drop_sublist i l);unfold aj at*;omega
theorem vl(s:ByteArray):(⟨s.data.toList.toArray⟩:ByteArray)=s:=bE (by simp)
structure bH(w:bj)(TP PB root:Nat):Prop where
 p:w.cell? ⟨TP,0,none⟩=some (.pointer (some ⟨PB,0,none⟩))
 r:w.cell? ⟨TP,1,none⟩=some (.int .i64 (root:Int))
theorem bH.gr{w w':bj}{TP PB root:Nat}(h:bH w TP PB root)(g:Gr w w'):bH w' TP PB root:=⟨g.keeps h.p,g.keeps h.r⟩
theorem bH.pg{w w':bj}{TP PB DB M y root:Nat}(h:bH w TP PB root)(g:aY PB DB M y w w')(b:TP≠PB)(q:TP≠DB)(s:TP≠M):bH w' TP PB root:=⟨g.keeps b q s h.p,g.keeps b q s h.r⟩
end
section
open Go Go.RowKit Go.Lib
abbrev dv:Type:=ByteArray×ByteArray
def qk(x:dv):List bA:=[.string x.1,.string x.2]
def j_(l:List dv):List bA:=l.flatMap qk
def gL(n:Nat)(w:bj)(v:bA)(l:List dv):Prop:=w.ownsRow n 140 2 v l.length (j_ l)
theorem gL.row{n:Nat}{w:bj}{v:bA}{l:List dv}(h:gL n w v l):w.ownsRow n 140 2 v l.length (j_ l):=h
theorem MV:(prog.info? 140).map (fun i=>(i.zero,i.size,i.bytes))=some (some (.agg #[.string ⟨#[]⟩,.string ⟨#[]⟩]),2,32):=by kernel_rfl
theorem zi:∃b,prog.info? 140=some b/\b.zero=some (.agg #[.string ⟨#[]⟩,.string ⟨#[]⟩])/\b.size=2/\b.bytes=32:=by
 have h:=MV;cases q:prog.info? 140 with
 |none=>rw[q]at h;cases h
 |some b=>
  rw[q]at h;have h:=di h;simp only[fe]at h;exact⟨b,rfl,h.1,h.2.1,h.2.2⟩
theorem CB(a b:List dv):j_ (a++b)=j_ a++j_ b:=by
 unfold j_;rw[be]
theorem As:∀(l:List dv) (i:Nat) (h:i<l.length),(j_ l)[i*2]?=some (.string l[i].1)/\(j_ l)[i*2+1]?=some (.string l[i].2)
 |e::l,0,_=>⟨rfl,rfl⟩
 |e::l,i+1,h=>by
  obtain⟨b,q⟩:=As l i (by simpa using h);have s:j_ (e::l)=.string e.1::.string e.2::j_ l:=rfl;rw[s,show(i+1)*2=i*2+1+1 by omega];simp only[List.getElem?_cons_succ,List.getElem_cons_succ,b,q,and_self]
theorem gL.at'{n:Nat}{w:bj}{v:bA}{l:List dv}(h:gL n w v l):(v=.slice none 0 0/\l=[])\/∃B cap,v=.slice (some ⟨B,0,none⟩) l.length cap/\l.length<=cap/\n<=B/\B<w.heap.size/\(∀i (h:i<l.length),w.cell? ⟨B,i*2,none⟩=some (.string l[i].1)/\w.cell? ⟨B,i*2+1,none⟩=some (.string l[i].2))/\∀o,w.frozen? ⟨B,o,none⟩=false:=by
 have hc:=fun g b=>eT (g:=g) h.row b;rcases h.row.2 with⟨rfl,D⟩|⟨g,cap,H,rfl,G,s,q,_⟩
 ·exact .inl ⟨rfl,List.eq_nil_of_length_eq_zero D⟩
 refine .inr ⟨g,cap,rfl,q,G,(bM.1 s).1,fun i hi=>?_,fun o=>Lib.frozen_of_heap s _⟩;have b:=As l i hi;have y:=hc g rfl _ _ b.1;have z:=hc g rfl _ _ b.2;have e:∀j,(⟨g,0,none⟩:Addr).add j=⟨g,j,none⟩:=by
  intro j;unfold Addr.add;split<;>simp_all
 rw[e]at y z;exact⟨y,z⟩
theorem gL.form{n:Nat}{w:bj}{v:bA}{l:List dv}(h:gL n w v l):∃b c,v=.slice b l.length c:=by
 rcases h.at' with⟨rfl,rfl⟩|⟨B,cap,rfl,_⟩
 ·exact⟨none,0,rfl⟩
 exact⟨_,cap,rfl⟩
theorem gL.gr{n:Nat}{w w':bj}{v:bA}{l:List dv}(h:gL n w v l)(g:Gr w w'):gL n w' v l:=aF h g
theorem gL.nil(n:Nat)(w:bj):gL n w (.slice none 0 0) []:=World.ownsRow_nil _ _ _ _
theorem gL.ay{S:Nat->Prop}{n:Nat}{w w':bj}{v:bA}{l:List dv}(h:gL n w v l)(g:ag S w w')(hs:∀b,v.ownBlock=some b->¬S b):gL n w' v l:=by
 refine⟨h.row.1,?_⟩;rcases h.row.2 with q|⟨g',cap,s,q,z,y,B⟩
 ·exact .inl q
 exact .inr ⟨g',cap,s,q,z,(g.block (bM.1 y).1 (hs g' (by rw[q];rfl))).trans y,B⟩
theorem xV{n:Nat}{w:bj}{v:bA}{l:List dv}(h:gL n w v l):∀b,v.ownBlock=some b->n<=b:=aP h
theorem Kx{n:Nat}{w:bj}{v:bA}{l:List dv}(h:gL n w v l):∀b,v.ownBlock=some b->b<w.heap.size:=bd h
theorem Ky(x:dv):∀u∈qk x,u.oneCell'=true:=by
 intro u hu;unfold qk at hu;simp only[aX,List.not_mem_nil,or_false]at hu;rcases hu with h|h<;>(rw[h];rfl)
theorem IJ{n:Nat}{w:bj}{D:Array Oper}{rest:List Oper}{o:Oper}{a:Act}{Q:Exit->Act->bj->Prop}(I:o.guard=none)(s x:Operand)
  (O:o.op=.call {callee:=.builtin .append,args:=#[s,x],argTypes:=#[134,134]}) (v:bA) (us:List dv) (e:dv) (hs:a.eval s=v) (G:gL n w v us) (B:Nat) (S:w.heap.size=B) (U:a.eval x=.slice (some ⟨B,0,none⟩) 1 1) (hl:us.length<=100000000) (hn:n<=w.heap.size)
  (h:∀q w',gL n w' q (us++[e])->ag (fun b=>v.ownBlock=some b) w w'->(q.ownBlock=v.ownBlock\/∃b,q.ownBlock=some b/\w.heap.size<=b)->wpList prog D Q rest (a.put o.dst q) w'):wpList prog D Q (o::rest) a (w.alloc (.cells #[.string e.1,.string e.2] 140)):=by
 obtain⟨V,H,J,L,M⟩:=zi;subst S;refine wpList_append_own_at _ I s x 134 O n 140 V (.agg #[.string ⟨#[]⟩,.string ⟨#[]⟩]) 2 32 underlying134 H J L M rfl (by decide) v us.length (j_ us) hs (G.gr ((Gr.refl w).alloc _)) ⟨w.heap.size,0,none⟩ 1 1 (qk e) U rfl ?_ (Ky e) (by unfold maxLen;omega) (by omega) (by simp;omega)
  (fun q w' Y y _ z=>h q w' ?_ ⟨y.os,y.tape,y.output,by have:=y.size;simp at this;omega,fun k Z hs=>(y.block k (by simp;omega) (fun e=>hs e.symm)).trans (eb _ _ _ Z)⟩ ?_)
 ·intro j u hj;rw[mr,ae,bW];simpa[qk]using hj
 ·unfold gL;rw[aJ,CB];have:j_ [e]=qk e:=by unfold j_;simp
  rw[this];exact Y
 rcases z with z|z
 ·exact .inl z
 refine .inr ⟨_,z,?_⟩;simp
end
section
open Go Go.RowKit
section
variable{w:bj}{PB DB M n:Nat}{c:Ch}{sv:Head}{t:Int}{d:Dk}
theorem MW(h:nO w PB DB M n c sv t d){leaf:Bool}{p:Nat}{l:List En}(b:iy c d.pg leaf p l):
  cj prog 170 #[.pointer (some ⟨PB,0,none⟩),.int .i64 (p:Int)] w (ar w (.tuple #[.string (aw leaf l),.nilIface])):=by
 have q:=Vc h (p:Int);have hu:eL c.h (p:Int)=true:=im.2 ⟨p,rfl,b.1.1,b.1.2.1,b.1.2.2⟩;rw[hu,if_pos rfl,Int.toNat_natCast,b.2]at q;exact q
theorem mP(h:nO w PB DB M n c sv t d){TP root:Nat}(ht:bH w TP PB root){leaf:Bool}{p:Nat}{l:List En}(hp:iy c d.pg leaf p l)(d7:∀e∈l,e.ok leaf)(hb:aj leaf l<=1024):
  cj prog 120 #[.pointer (some ⟨TP,0,none⟩),.int .i64 (p:Int)] w fun e I=>∃s',e=.returned (.tuple #[bi p leaf s',.nilIface])/\ba w I s' l/\Gr w I:=by
 have h7:Gr w (w.alloc (.cells #[.int .i64 0,.bool false,.slice none 0 0] 200)):=(Gr.refl w).alloc _;have l9:=MW (h.gr h7) hp;have tp:=(ht.gr h7).p;have s3:=dY d7 hb;have s4:=d_ leaf l;have hl:l.length<=600:=by unfold aj at hb;omega
 have hd:(aw leaf l).data.toList=nN leaf::(gm (l.length:Int)++(km leaf l 0).data.toList):=by
  rw[qj];unfold aw FL nN;simp
 rw[vg _ (by omega)]at hd;have z0:0<(aw leaf l).size:=by omega
 have z1:1<(aw leaf l).size:=by omega
 have z2:2<(aw leaf l).size:=by omega
 have g0:(aw leaf l)[0]=nN leaf:=get_at _ 0 z0 _ hd (by simp);have g1:(aw leaf l)[1]=(l.length/256).toUInt8:=get_at _ 1 z1 _ hd (by simp);have g2:(aw leaf l)[2]=l.length.toUInt8:=get_at _ 2 z2 _ hd (by simp);have gx:(aw leaf l).extract 3 (aw leaf l).size=km leaf l 0:=by
  have:=zh (aw leaf l) [nN leaf,(l.length/256).toUInt8,l.length.toUInt8] (km leaf l 0).data.toList hd;rw[vl]at this;exact this
 rw[s3]at gx;have ho:=ww (l.length/256).toUInt8.toNat l.length.toUInt8.toNat (l.length/256).toUInt8.toNat_lt l.length.toUInt8.toNat_lt;have hm:256*(((l.length/256).toUInt8.toNat:Nat):Int)+((l.length.toUInt8.toNat:Nat):Int)=(l.length:Int):=by
  rw[oZ,oZ];omega
 rw[hm]at ho;have HM:=ap hm;clear hm hd s4;generalize(l.length/256).toUInt8=q1 at*;generalize l.length.toUInt8=q2 at*;generalize aw leaf l=S at*;have i3:cl ((q1.toNat:Int)*256)=(q1.toNat:Int)*256:=by
  have:=q1.toNat_lt;unfold cl;omega
 have i4:cl (q1.toNat:Int)=(q1.toNat:Int):=by
  have:=q1.toNat_lt;unfold cl;omega
 have i5:cl (q2.toNat:Int)=(q2.toNat:Int):=by
  have:=q2.toNat_lt;unfold cl;omega
 have m0:=ap l9;have m3:=ap h7;clear l9 h ht hp h7;cases leaf with
 |true=>
  have gk:(nN true).toNat=1:=rfl;generalize nN true=q0 at*;go_enter func120,ntmps120;go_wp2_with fail
  refine m0.out.mono ?_;rintro e H ⟨rfl,b3⟩;have hR:∀I,Gr (w.alloc (.cells #[.int .i64 0,.bool false,.slice none 0 0] 200)) I->(I.cell? ⟨w.heap.size,0,none⟩=some (.int .i64 0)/\I.cell? ⟨w.heap.size,1,none⟩=some (.bool false)/\I.cell? ⟨w.heap.size,2,none⟩=some (.slice none 0 0))/\∀o,I.frozen? ⟨w.heap.size,o,none⟩=false:=fun I g=>
   ⟨⟨g.keeps (by rw[ae];rfl),g.keeps (by rw[ae];rfl),g.keeps (by rw[ae];rfl)⟩,fun o=>(g.frozen o (by simp)).trans (by simp)⟩
  have c6:Gr H (H.alloc (.cells #[.int .i64 (p:Int),.bool true,.slice none 0 0] 200)):=(Gr.refl H).alloc _;have c7:=hR _ (b3.trans c6);have k0:(H.alloc (.cells #[.int .i64 (p:Int),.bool true,.slice none 0 0] 200)).cell? ⟨H.heap.size,0,none⟩=some (.int .i64 (p:Int)):=by rw[ae];rfl
  have k1:(H.alloc (.cells #[.int .i64 (p:Int),.bool true,.slice none 0 0] 200)).cell? ⟨H.heap.size,1,none⟩=some (.bool true):=by rw[ae];rfl
  have k2:(H.alloc (.cells #[.int .i64 (p:Int),.bool true,.slice none 0 0] 200)).cell? ⟨H.heap.size,2,none⟩=some (.slice none 0 0):=by rw[ae];rfl
  have kf:∀o,(H.alloc (.cells #[.int .i64 (p:Int),.bool true,.slice none 0 0] 200)).frozen? ⟨H.heap.size,o,none⟩=false:=fun o=>by simp
  have b0:H.heap.size<(H.alloc (.cells #[.int .i64 (p:Int),.bool true,.slice none 0 0] 200)).heap.size:=by simp
  have d9:=(m3.out.trans b3).trans c6;have c8:w.heap.size<H.heap.size:=by have:=b3.size;simp at this;omega
  clear hR b3 c6;go_wp2_with fail
  go_region
  go_wp2_with fail
  obtain⟨s,e3⟩:∃s,H.heap.size=s:=⟨_,rfl⟩;obtain⟨q,c9⟩:∃q,w.heap.size=q:=⟨_,rfl⟩;have HS:Hid (w.heap.size=q):=ap c9;rw[e3]at k0 k1 k2 kf b0 c8⊢;rw[c9]at c7 c8⊢;generalize H.alloc (.cells #[.int .i64 (p:Int),.bool true,.slice none 0 0] 200)=W0 at*;have HI:Hid ((W0.cell? ⟨s,0,none⟩=some (.int .i64 (p:Int))/\W0.cell? ⟨s,1,none⟩=some (.bool true)/\W0.cell? ⟨s,2,none⟩=some (.slice none 0 0)/\∀o,W0.frozen? ⟨s,o,none⟩=false)/\((W0.cell? ⟨q,0,none⟩=some (.int .i64 0)/\W0.cell? ⟨q,1,none⟩=some (.bool false)/\W0.cell? ⟨q,2,none⟩=some (.slice none 0 0))/\∀o,W0.frozen? ⟨q,o,none⟩=false)/\s<W0.heap.size/\Gr w W0):=ap ⟨⟨k0,k1,k2,kf⟩,c7,b0,d9⟩;clear k0 k1 k2 kf c7 b0 d9 e3 c9 g0 g1 g2 ho i3 i4 i5 gk z0 z1 z2;go_loopw [6,42] (fun sv iv I=>∃(i:Nat) (v:bA),i<=l.length/\iv=.int .i64 i/\sv=.string (km true l i)/\(I.cell? ⟨s,0,none⟩=some (.int .i64 (p:Int))/\I.cell? ⟨s,1,none⟩=some (.bool true)/\I.cell? ⟨s,2,none⟩=some v/\∀o,I.frozen? ⟨s,o,none⟩=false)/\((I.cell? ⟨q,0,none⟩=some (.int .i64 0)/\I.cell? ⟨q,1,none⟩=some (.bool false)/\I.cell? ⟨q,2,none⟩=some (.slice none 0 0))/\∀o,I.frozen? ⟨q,o,none⟩=false)/\s<I.heap.size/\Gr w I/\ba w I v (l.take i)/\v.ownBlock≠some s/\v.ownBlock≠some q) (fun _ iv _=>l.length-(bX iv).toNat)
  case atStart=>
   obtain⟨h1,h2,h3,h4⟩:=HI.out;exact⟨0,.slice none 0 0,ek _,rfl,by first|rfl|rw[gx],h1,h2,h3,h4.drew,ba.nil _ _,by simp[co],by simp[co]⟩
  case round=>
   obtain⟨i,v,hi,rfl,rfl,⟨k0,k1,k2,kf⟩,⟨⟨r0,r1,r2⟩,rf⟩,i6,hg,ho,e4,e5⟩:=hrel;have HO:=ap ho;have HG:=ap hg;have Y:=ap e4;have Z:=ap e5;have s5:q<s:=c8;clear ho hg e4 e5;by_cases d0:i<l.length
   ·have s6:(i:Int)<(l.length:Int):=by omega
    have O:=Aq true l i d0;have e7:=Ar true l i d7 hb;have i7:Hid (l.take (i+1)=l.take i++[l[i]]):=ap (bZ d0);have a2:=d7 _ (cf d0);have i9:(l.take i).length<=100000:=by rw[bt];omega
    generalize l[i]=en at*;obtain⟨G,it,z⟩:=en;generalize km true l i=T0 at*;generalize e8:km true l (i+1)=T1 at*;have j0:=ap e8;clear e8;obtain⟨J,b4⟩:∃J,G.size=J:=⟨_,rfl⟩;obtain⟨iz,h8⟩:∃iz,it.size=iz:=⟨_,rfl⟩;have m5:J<=60:=by rw[<-b4];exact a2.key
    have t7:iz<=100:=by rw[<-h8];exact a2.item
    have s7:z=0:=a2.WS rfl;have e1:En.yY ⟨G,it,z⟩ true=[J.toUInt8,iz.toUInt8]++(G.data.toList++it.data.toList):=by rw[<-b4,<-h8];rfl
    have b2:G.data.toList.length=J:=by rw[<-size_data,b4]
    have d6:it.data.toList.length=iz:=by rw[<-size_data,h8]
    rw[e1]at O;have e9:T0.size=2+J+iz+T1.size:=by
     rw[size_data,O];simp only[aJ,bz,bP,b2,d6,<-size_data];omega
    have y0:0<T0.size:=by omega
    have y1:1<T0.size:=by omega
    have t0:T0[0]=J.toUInt8:=get_at _ 0 y0 _ O (by simp);have t1:T0[1]=iz.toUInt8:=get_at _ 1 y1 _ O (by simp);have f1:T0.extract 2 (2+J)=G:=by
     have:=zg T0 [J.toUInt8,iz.toUInt8] G.data.toList (it.data.toList++T1.data.toList) (by rw[O];simp);rw[b2,vl]at this;exact this
    have f2:T0.extract (2+J) (2+J+iz)=it:=by
     have:=zg T0 ([J.toUInt8,iz.toUInt8]++G.data.toList) it.data.toList T1.data.toList (by rw[O];simp);rw[aJ,b2,d6,vl]at this;exact this
    have f3:T0.extract (2+J+iz) T0.size=T1:=by
     have:=zh T0 ([J.toUInt8,iz.toUInt8]++(G.data.toList++it.data.toList)) T1.data.toList O;rw[aJ,aJ,b2,d6,vl]at this;rw[show 2+J+iz=[J.toUInt8,iz.toUInt8].length+(J+iz)by simp;omega];exact this
    have s8:(J.toUInt8).toNat=J:=by simp;omega
    have v5:(iz.toUInt8).toNat=iz:=by simp;omega
    generalize J.toUInt8=q1 at*;generalize iz.toUInt8=q2 at*;rw[e9]at f3 e7;obtain⟨d1,c5⟩:∃d1,T1.size=d1:=⟨_,rfl⟩;rw[c5]at f3 e7 e9;clear c5;clear O e1 b2 d6 b4 h8 a2;have g3:Gr wr (wr.alloc (.cells #[.string ⟨#[]⟩,.string ⟨#[]⟩,.int .i64 0] 206)):=(Gr.refl wr).alloc _;have e0:(wr.alloc (.cells #[.string ⟨#[]⟩,.string ⟨#[]⟩,.int .i64 0] 206)).cell? ⟨wr.heap.size,0,none⟩=some (.string ⟨#[]⟩):=by rw[ae];rfl
    have e1:(wr.alloc (.cells #[.string ⟨#[]⟩,.string ⟨#[]⟩,.int .i64 0] 206)).cell? ⟨wr.heap.size,1,none⟩=some (.string ⟨#[]⟩):=by rw[ae];rfl
    have e2:(wr.alloc (.cells #[.string ⟨#[]⟩,.string ⟨#[]⟩,.int .i64 0] 206)).cell? ⟨wr.heap.size,2,none⟩=some (.int .i64 0):=by rw[ae];rfl
    have ef:∀o,(wr.alloc (.cells #[.string ⟨#[]⟩,.string ⟨#[]⟩,.int .i64 0] 206)).frozen? ⟨wr.heap.size,o,none⟩=false:=fun o=>by simp
    have m1:=g3.keeps k1;clear g3;go_wp2_with fail
    generalize g4:wr.alloc (.cells #[.string ⟨#[]⟩,.string ⟨#[]⟩,.int .i64 0] 206)=V at*;have a6:=ap g4;clear g4;go_region
    have j1:=ap f3;have g5:(l.take i++[(⟨G,it,0⟩:En)]).length=i+1:=by rw[aJ,bt,dA];omega
    have j2:=ap g5;clear g5;obtain⟨y,g6⟩:∃y,wr.heap.size=y:=⟨_,rfl⟩;have b5:y≠s:=by omega
    have b6:y≠q:=by omega
    have L:ag (fun b=>b=y) wr (((V.setCell ⟨y,0,none⟩ (.string G)).setCell ⟨y,1,none⟩ (.string it)).drew):=by
     have a1:ag (fun b=>b=y) wr V:=by rw[<-a6.out];exact ag.ah ((Gr.refl wr).alloc _)
     exact((a1.trans (ag.setCell (S:=fun b=>b=y) (p:=⟨y,0,none⟩) V _ rfl)).trans (ag.setCell (S:=fun b=>b=y) (p:=⟨y,1,none⟩) _ _ rfl)).trans (ag.drew _)
    have m6:wr.heap.size<(((V.setCell ⟨y,0,none⟩ (.string G)).setCell ⟨y,1,none⟩ (.string it)).drew).heap.size:=by
     rw[<-a6.out];show wr.heap.size<((((wr.alloc _).setCell _ _).setCell _ _)).heap.size;simp
    rw[g6]at e0 e1 e2 ef⊢;have y0:(((V.setCell ⟨y,0,none⟩ (.string G)).setCell ⟨y,1,none⟩ (.string it)).drew).cell? ⟨y,0,none⟩=some (.string G):=by
     show((V.setCell ⟨y,0,none⟩ (.string G)).setCell ⟨y,1,none⟩ (.string it)).cell? ⟨y,0,none⟩=_;rw[ak _ _ _ _ (by simp),az _ _ _ e0]
    have y1:(((V.setCell ⟨y,0,none⟩ (.string G)).setCell ⟨y,1,none⟩ (.string it)).drew).cell? ⟨y,1,none⟩=some (.string it):=by
     show((V.setCell ⟨y,0,none⟩ (.string G)).setCell ⟨y,1,none⟩ (.string it)).cell? ⟨y,1,none⟩=_;rw[az _ _ _ ((ak _ _ _ _ (by simp)).trans e1)]
    have y2:(((V.setCell ⟨y,0,none⟩ (.string G)).setCell ⟨y,1,none⟩ (.string it)).drew).cell? ⟨y,2,none⟩=some (.int .i64 0):=by
     show((V.setCell ⟨y,0,none⟩ (.string G)).setCell ⟨y,1,none⟩ (.string it)).cell? ⟨y,2,none⟩=_;rw[ak _ _ _ _ (by simp),ak _ _ _ _ (by simp)];exact e2
    generalize((V.setCell ⟨y,0,none⟩ (.string G)).setCell ⟨y,1,none⟩ (.string it)).drew=W2 at*;have j3:∀b,v.ownBlock=some b->¬b=y:=fun b hb e=>by
     have:=bd HO.out b hb;omega
    have j4:=ap (HO.out.ay L j3);have j5:Hid (Gr w W2):=ap (L.gr HG.out fun b hb=>by rw[hb,<-g6];exact HG.out.size);have n0:=L.keeps b5.symm k0;have n1:=L.keeps b5.symm k1;have n2:=L.keeps b5.symm k2;have nf:∀o,W2.frozen? ⟨s,o,none⟩=false:=fun o=>(L.frozen o i6 b5.symm).trans (kf o);have j6:q<wr.heap.size:=by omega
    have x0:=L.keeps b6.symm r0;have x1:=L.keeps b6.symm r1;have x2:=L.keeps b6.symm r2;have xf:∀o,W2.frozen? ⟨q,o,none⟩=false:=fun o=>(L.frozen o j6 b6.symm).trans (rf o);have d2:s<W2.heap.size:=by omega
    have g7:q<W2.heap.size:=by omega
    clear e0 e1 e2 ef m1 k0 k1 k2 kf r0 r1 r2 rf L HO HG a6 t0 t1 f1 f2 f3;have m2:=((Gr.refl W2).alloc (.cells #[.string G,.string it,.int .i64 0] 206)).keeps n2;go_wp2_with(at_builtin;(refine Ap (a0:=w) (w:=W2) rfl _ _ rfl v (l.take i) ⟨G,it,0⟩ rfl j4.out _ rfl rfl i9 j5.out ?_);intro v3 Q b7 j7 D;(have p2:=D.keeps Y.out n2);(have pf:∀o,Q.frozen? ⟨s,o,none⟩=false:=fun o=>(bC (D.2 s d2 Y.out).2).trans (nf o));(obtain⟨B,U,rfl⟩:=b7.form);rw[j2.out]at b7 D⊢;(have d3:=ap b7);clear b7)
    have p0:=D.keeps Y.out n0;have p1:=D.keeps Y.out n1;have s0:=D.keeps Z.out x0;have s1:=D.keeps Z.out x1;have s2:=D.keeps Z.out x2;have sf:∀o,Q.frozen? ⟨q,o,none⟩=false:=fun o=>(bC (D.2 q g7 Z.out).2).trans (xf o);have m7:(⟨s,0,none⟩:Addr)≠⟨s,2,none⟩:=by simp
    have m8:(⟨s,1,none⟩:Addr)≠⟨s,2,none⟩:=by simp
    have m9:∀o,(⟨q,o,none⟩:Addr)≠⟨s,2,none⟩:=fun o e=>by
     have:=congrArg Addr.block e;simp at this;omega
    have a7:ag (fun b=>b=s) Q (Q.setCell ⟨s,2,none⟩ (.slice B (i+1) U)):=ag.setCell (S:=fun b=>b=s) (p:=⟨s,2,none⟩) Q _ rfl;have j8:ba w (Q.setCell ⟨s,2,none⟩ (.slice B (i+1) U)) (.slice B (i+1) U) (l.take i++[(⟨G,it,0⟩:En)]):=d3.out.ay a7 fun b hb e=>(D.2 s d2 Y.out).1 (by rw[hb,e]);have b1:q≠s:=by omega
    subst s7;have j9:w.heap.size<=s:=by have:=HS.out;omega
    have u0:(Q.setCell ⟨s,2,none⟩ (.slice B (i+1) U)).cell? ⟨s,0,none⟩=some (.int .i64 (p:Int)):=by rw[ak _ _ _ _ (by simp)];exact p0
    have u1:(Q.setCell ⟨s,2,none⟩ (.slice B (i+1) U)).cell? ⟨s,1,none⟩=some (.bool true):=by rw[ak _ _ _ _ (by simp)];exact p1
    have u2:(Q.setCell ⟨s,2,none⟩ (.slice B (i+1) U)).cell? ⟨s,2,none⟩=some (.slice B (i+1) U):=az _ _ _ p2;have uf:∀o,(Q.setCell ⟨s,2,none⟩ (.slice B (i+1) U)).frozen? ⟨s,o,none⟩=false:=fun o=>by rw[bF];exact pf o
    have uz:∀o,(Q.setCell ⟨s,2,none⟩ (.slice B (i+1) U)).frozen? ⟨q,o,none⟩=false:=fun o=>by rw[bF];exact sf o
    have v0:=a7.keeps b1 s0;have v1:=a7.keeps b1 s1;have v2:=a7.keeps b1 s2;have ug:Gr w (Q.setCell ⟨s,2,none⟩ (.slice B (i+1) U)):=j7.setCell j9 _;have us:s<(Q.setCell ⟨s,2,none⟩ (.slice B (i+1) U)).heap.size:=by
     have:=D.1;have:=a7.2.2.2.1;omega
    have k3:i+1<=l.length:=by omega
    have ut:(.string (T0.extract (2+J+iz) (2+J+iz+d1)):bA)=.string (km true l (i+1)):=by rw[j1.out,j0.out]
    have k4:=(D.2 s d2 Y.out).1;have k5:=(D.2 q g7 Z.out).1;have k6:ba w (Q.setCell ⟨s,2,none⟩ (.slice B (i+1) U)) (.slice B (i+1) U) (l.take (i+1)):=by
     rw[i7.out];exact j8
    exact⟨⟨i+1,.slice B (i+1) U,k3,by go_num,ut,⟨u0,u1,u2,uf⟩,⟨⟨v0,v1,v2⟩,uz⟩,us,ug,k6,k4,k5⟩,by simp[bX];omega⟩
   have k7:i=l.length:=by omega
   subst k7;rw[cL]at HO;obtain⟨ao,ca,rfl⟩:=HO.out.form;have g8:ba w (((wr.setCell ⟨q,0,none⟩ (.int .i64 (p:Int))).setCell ⟨q,1,none⟩ (.bool true)).setCell ⟨q,2,none⟩ (.slice ao l.length ca)) (.slice ao l.length ca) l:=HO.out.ay (((ag.setCell (S:=fun b=>b=q) (p:=⟨q,0,none⟩) wr _ rfl).trans (ag.setCell (S:=fun b=>b=q) (p:=⟨q,1,none⟩) _ _ rfl)).trans (ag.setCell (S:=fun b=>b=q) (p:=⟨q,2,none⟩) _ _ rfl)) fun b hb e=>Z.out (by rw[hb,e]);have d4:w.heap.size<=q:=eA HS.out;have g9:Gr w (((wr.setCell ⟨q,0,none⟩ (.int .i64 (p:Int))).setCell ⟨q,1,none⟩ (.bool true)).setCell ⟨q,2,none⟩ (.slice ao l.length ca)):=((HG.out.setCell d4 _).setCell d4 _).setCell d4 _;have w0:(((wr.setCell ⟨q,0,none⟩ (.int .i64 (p:Int))).setCell ⟨q,1,none⟩ (.bool true)).setCell ⟨q,2,none⟩ (.slice ao l.length ca)).cell? ⟨q,0,none⟩=some (.int .i64 (p:Int)):=by
    rw[ak _ _ _ _ (by simp),ak _ _ _ _ (by simp),az _ _ _ r0]
   have H:(((wr.setCell ⟨q,0,none⟩ (.int .i64 (p:Int))).setCell ⟨q,1,none⟩ (.bool true)).setCell ⟨q,2,none⟩ (.slice ao l.length ca)).cell? ⟨q,1,none⟩=some (.bool true):=by
    rw[ak _ _ _ _ (by simp),az _ _ _ ((ak _ _ _ _ (by simp)).trans r1)]
   have w2:(((wr.setCell ⟨q,0,none⟩ (.int .i64 (p:Int))).setCell ⟨q,1,none⟩ (.bool true)).setCell ⟨q,2,none⟩ (.slice ao l.length ca)).cell? ⟨q,2,none⟩=some (.slice ao l.length ca):=by
    rw[az _ _ _ ((ak _ _ _ _ (by simp)).trans ((ak _ _ _ _ (by simp)).trans r2))]
   have d3:=ap g8;have k8:=ap g9;have k9:=ap w0;have a6:=ap H;have l0:=ap w2;clear g8 g9 w0 H w2;go_wp2_with fail
   have w0:=k9.out;have H:=a6.out;have w2:=l0.out;generalize(((wr.setCell ⟨q,0,none⟩ (.int .i64 (p:Int))).setCell ⟨q,1,none⟩ (.bool true)).setCell ⟨q,2,none⟩ (.slice ao l.length ca))=W9 at*;refine eB (v:=.tuple #[bi p true (.slice ao l.length ca),.nilIface]) (by simp[results,em,go_sem,bi,w0,H,w2]) rfl ⟨_,rfl,d3.out,k8.out⟩
 |false=>
  have gk:(nN false).toNat=2:=rfl;generalize nN false=q0 at*;go_enter func120,ntmps120;go_wp2_with fail
  refine m0.out.mono ?_;rintro e H ⟨rfl,b3⟩;have hR:∀I,Gr (w.alloc (.cells #[.int .i64 0,.bool false,.slice none 0 0] 200)) I->(I.cell? ⟨w.heap.size,0,none⟩=some (.int .i64 0)/\I.cell? ⟨w.heap.size,1,none⟩=some (.bool false)/\I.cell? ⟨w.heap.size,2,none⟩=some (.slice none 0 0))/\∀o,I.frozen? ⟨w.heap.size,o,none⟩=false:=fun I g=>
   ⟨⟨g.keeps (by rw[ae];rfl),g.keeps (by rw[ae];rfl),g.keeps (by rw[ae];rfl)⟩,fun o=>(g.frozen o (by simp)).trans (by simp)⟩
  have c6:Gr H (H.alloc (.cells #[.int .i64 (p:Int),.bool false,.slice none 0 0] 200)):=(Gr.refl H).alloc _;have c7:=hR _ (b3.trans c6);have k0:(H.alloc (.cells #[.int .i64 (p:Int),.bool false,.slice none 0 0] 200)).cell? ⟨H.heap.size,0,none⟩=some (.int .i64 (p:Int)):=by rw[ae];rfl
  have k1:(H.alloc (.cells #[.int .i64 (p:Int),.bool false,.slice none 0 0] 200)).cell? ⟨H.heap.size,1,none⟩=some (.bool false):=by rw[ae];rfl
  have k2:(H.alloc (.cells #[.int .i64 (p:Int),.bool false,.slice none 0 0] 200)).cell? ⟨H.heap.size,2,none⟩=some (.slice none 0 0):=by rw[ae];rfl
  have kf:∀o,(H.alloc (.cells #[.int .i64 (p:Int),.bool false,.slice none 0 0] 200)).frozen? ⟨H.heap.size,o,none⟩=false:=fun o=>by simp
  have b0:H.heap.size<(H.alloc (.cells #[.int .i64 (p:Int),.bool false,.slice none 0 0] 200)).heap.size:=by simp
  have d9:=(m3.out.trans b3).trans c6;have c8:w.heap.size<H.heap.size:=by have:=b3.size;simp at this;omega
  clear hR b3 c6;go_wp2_with fail
  go_region
  go_wp2_with fail
  obtain⟨s,e3⟩:∃s,H.heap.size=s:=⟨_,rfl⟩;obtain⟨q,c9⟩:∃q,w.heap.size=q:=⟨_,rfl⟩;have HS:Hid (w.heap.size=q):=ap c9;rw[e3]at k0 k1 k2 kf b0 c8⊢;rw[c9]at c7 c8⊢;generalize H.alloc (.cells #[.int .i64 (p:Int),.bool false,.slice none 0 0] 200)=W0 at*;have HI:Hid ((W0.cell? ⟨s,0,none⟩=some (.int .i64 (p:Int))/\W0.cell? ⟨s,1,none⟩=some (.bool false)/\W0.cell? ⟨s,2,none⟩=some (.slice none 0 0)/\∀o,W0.frozen? ⟨s,o,none⟩=false)/\((W0.cell? ⟨q,0,none⟩=some (.int .i64 0)/\W0.cell? ⟨q,1,none⟩=some (.bool false)/\W0.cell? ⟨q,2,none⟩=some (.slice none 0 0))/\∀o,W0.frozen? ⟨q,o,none⟩=false)/\s<W0.heap.size/\Gr w W0):=ap ⟨⟨k0,k1,k2,kf⟩,c7,b0,d9⟩;clear k0 k1 k2 kf c7 b0 d9 e3 c9 g0 g1 g2 ho i3 i4 i5 gk z0 z1 z2;go_loopw [6,42] (fun sv iv I=>∃(i:Nat) (v:bA),i<=l.length/\iv=.int .i64 i/\sv=.string (km false l i)/\(I.cell? ⟨s,0,none⟩=some (.int .i64 (p:Int))/\I.cell? ⟨s,1,none⟩=some (.bool false)/\I.cell? ⟨s,2,none⟩=some v/\∀o,I.frozen? ⟨s,o,none⟩=false)/\((I.cell? ⟨q,0,none⟩=some (.int .i64 0)/\I.cell? ⟨q,1,none⟩=some (.bool false)/\I.cell? ⟨q,2,none⟩=some (.slice none 0 0))/\∀o,I.frozen? ⟨q,o,none⟩=false)/\s<I.heap.size/\Gr w I/\ba w I v (l.take i)/\v.ownBlock≠some s/\v.ownBlock≠some q) (fun _ iv _=>l.length-(bX iv).toNat)
  case atStart=>
   obtain⟨h1,h2,h3,h4⟩:=HI.out;exact⟨0,.slice none 0 0,ek _,rfl,by first|rfl|rw[gx],h1,h2,h3,h4.drew,ba.nil _ _,by simp[co],by simp[co]⟩
  case round=>
   obtain⟨i,v,hi,rfl,rfl,⟨k0,k1,k2,kf⟩,⟨⟨r0,r1,r2⟩,rf⟩,i6,hg,ho,e4,e5⟩:=hrel;have HO:=ap ho;have HG:=ap hg;have Y:=ap e4;have Z:=ap e5;have s5:q<s:=c8;clear ho hg e4 e5;by_cases d0:i<l.length
   ·have s6:(i:Int)<(l.length:Int):=by omega
    have O:=Aq false l i d0;have e7:=Ar false l i d7 hb;have i7:Hid (l.take (i+1)=l.take i++[l[i]]):=ap (bZ d0);have a2:=d7 _ (cf d0);have i9:(l.take i).length<=100000:=by rw[bt];omega
    generalize l[i]=en at*;obtain⟨G,it,z⟩:=en;generalize km false l i=T0 at*;generalize e8:km false l (i+1)=T1 at*;have j0:=ap e8;clear e8;obtain⟨J,b4⟩:∃J,G.size=J:=⟨_,rfl⟩;have m5:J<=60:=by rw[<-b4];exact a2.key
    have r9:z<2000:=a2.cU;have hit:it=fJ:=a2.node rfl;subst hit;have e1:En.yY ⟨G,fJ,z⟩ false=[J.toUInt8,(z/256).toUInt8,z.toUInt8]++G.data.toList:=by
     rw[<-b4];unfold En.yY En.head;simp only[Bool.false_eq_true,if_false];rw[vg _ (by omega)];simp[fJ]
    have b2:G.data.toList.length=J:=by rw[<-size_data,b4]
    rw[e1]at O;have e9:T0.size=3+J+T1.size:=by
     rw[size_data,O];simp only[aJ,bz,bP,b2,<-size_data]
    have y0:0<T0.size:=by omega
    have y1:1<T0.size:=by omega
    have y2:2<T0.size:=by omega
    have t0:T0[0]=J.toUInt8:=get_at _ 0 y0 _ O (by simp);have t1:T0[1]=(z/256).toUInt8:=get_at _ 1 y1 _ O (by simp);have t2:T0[2]=z.toUInt8:=get_at _ 2 y2 _ O (by simp);have f1:T0.extract 3 (3+J)=G:=by
     have:=zg T0 [J.toUInt8,(z/256).toUInt8,z.toUInt8] G.data.toList T1.data.toList (by rw[O];simp);rw[b2,vl]at this;exact this
    have f3:T0.extract (3+J) T0.size=T1:=by
     have:=zh T0 ([J.toUInt8,(z/256).toUInt8,z.toUInt8]++G.data.toList) T1.data.toList O;rw[aJ,b2,vl]at this;exact this
    have s8:(J.toUInt8).toNat=J:=by simp;omega
    have s9:=ww (z/256).toUInt8.toNat z.toUInt8.toNat (z/256).toUInt8.toNat_lt z.toUInt8.toNat_lt;have m4:256*(((z/256).toUInt8.toNat:Nat):Int)+((z.toUInt8.toNat:Nat):Int)=(z:Int):=by
     rw[oZ,oZ];omega
    rw[m4]at s9;clear m4;generalize J.toUInt8=q1 at*;generalize(z/256).toUInt8=q2 at*;generalize z.toUInt8=q3 at*;have i3:cl ((q2.toNat:Int)*256)=(q2.toNat:Int)*256:=by
     have:=q2.toNat_lt;unfold cl;omega
    have i4:cl (q2.toNat:Int)=(q2.toNat:Int):=by
     have:=q2.toNat_lt;unfold cl;omega
    have i5:cl (q3.toNat:Int)=(q3.toNat:Int):=by
     have:=q3.toNat_lt;unfold cl;omega
    rw[e9]at f3 e7;obtain⟨d1,c5⟩:∃d1,T1.size=d1:=⟨_,rfl⟩;rw[c5]at f3 e7 e9;clear c5;clear O e1 b2 b4 a2;have g3:Gr wr (wr.alloc (.cells #[.string ⟨#[]⟩,.string ⟨#[]⟩,.int .i64 0] 206)):=(Gr.refl wr).alloc _;have e0:(wr.alloc (.cells #[.string ⟨#[]⟩,.string ⟨#[]⟩,.int .i64 0] 206)).cell? ⟨wr.heap.size,0,none⟩=some (.string ⟨#[]⟩):=by rw[ae];rfl
    have e1:(wr.alloc (.cells #[.string ⟨#[]⟩,.string ⟨#[]⟩,.int .i64 0] 206)).cell? ⟨wr.heap.size,1,none⟩=some (.string ⟨#[]⟩):=by rw[ae];rfl
    have e2:(wr.alloc (.cells #[.string ⟨#[]⟩,.string ⟨#[]⟩,.int .i64 0] 206)).cell? ⟨wr.heap.size,2,none⟩=some (.int .i64 0):=by rw[ae];rfl
    have ef:∀o,(wr.alloc (.cells #[.string ⟨#[]⟩,.string ⟨#[]⟩,.int .i64 0] 206)).frozen? ⟨wr.heap.size,o,none⟩=false:=fun o=>by simp
    have m1:=g3.keeps k1;clear g3;go_wp2_with fail
    generalize g4:wr.alloc (.cells #[.string ⟨#[]⟩,.string ⟨#[]⟩,.int .i64 0] 206)=V at*;have a6:=ap g4;clear g4;go_region
    have j1:=ap f3;have g5:(l.take i++[(⟨G,fJ,z⟩:En)]).length=i+1:=by rw[aJ,bt,dA];omega
    have j2:=ap g5;clear g5;obtain⟨y,g6⟩:∃y,wr.heap.size=y:=⟨_,rfl⟩;have b5:y≠s:=by omega
    have b6:y≠q:=by omega
    have L:ag (fun b=>b=y) wr (((V.setCell ⟨y,2,none⟩ (.int .i64 (z:Int))).setCell ⟨y,0,none⟩ (.string G)).drew):=by
     have a1:ag (fun b=>b=y) wr V:=by rw[<-a6.out];exact ag.ah ((Gr.refl wr).alloc _)
     exact((a1.trans (ag.setCell (S:=fun b=>b=y) (p:=⟨y,2,none⟩) V _ rfl)).trans (ag.setCell (S:=fun b=>b=y) (p:=⟨y,0,none⟩) _ _ rfl)).trans (ag.drew _)
    have m6:wr.heap.size<(((V.setCell ⟨y,2,none⟩ (.int .i64 (z:Int))).setCell ⟨y,0,none⟩ (.string G)).drew).heap.size:=by
     rw[<-a6.out];show wr.heap.size<((((wr.alloc _).setCell _ _).setCell _ _)).heap.size;simp
    rw[g6]at e0 e1 e2 ef⊢;have y0:(((V.setCell ⟨y,2,none⟩ (.int .i64 (z:Int))).setCell ⟨y,0,none⟩ (.string G)).drew).cell? ⟨y,0,none⟩=some (.string G):=by
     show((V.setCell ⟨y,2,none⟩ (.int .i64 (z:Int))).setCell ⟨y,0,none⟩ (.string G)).cell? ⟨y,0,none⟩=_;rw[az _ _ _ ((ak _ _ _ _ (by simp)).trans e0)]
    have y1:(((V.setCell ⟨y,2,none⟩ (.int .i64 (z:Int))).setCell ⟨y,0,none⟩ (.string G)).drew).cell? ⟨y,1,none⟩=some ((.string fJ)):=by
     show((V.setCell ⟨y,2,none⟩ (.int .i64 (z:Int))).setCell ⟨y,0,none⟩ (.string G)).cell? ⟨y,1,none⟩=_;rw[ak _ _ _ _ (by simp),ak _ _ _ _ (by simp)];exact e1
    have y2:(((V.setCell ⟨y,2,none⟩ (.int .i64 (z:Int))).setCell ⟨y,0,none⟩ (.string G)).drew).cell? ⟨y,2,none⟩=some (.int .i64 (z:Int)):=by
     show((V.setCell ⟨y,2,none⟩ (.int .i64 (z:Int))).setCell ⟨y,0,none⟩ (.string G)).cell? ⟨y,2,none⟩=_;rw[ak _ _ _ _ (by simp),az _ _ _ e2]
    generalize((V.setCell ⟨y,2,none⟩ (.int .i64 (z:Int))).setCell ⟨y,0,none⟩ (.string G)).drew=W2 at*;have j3:∀b,v.ownBlock=some b->¬b=y:=fun b hb e=>by
     have:=bd HO.out b hb;omega
    have j4:=ap (HO.out.ay L j3);have j5:Hid (Gr w W2):=ap (L.gr HG.out fun b hb=>by rw[hb,<-g6];exact HG.out.size);have n0:=L.keeps b5.symm k0;have n1:=L.keeps b5.symm k1;have n2:=L.keeps b5.symm k2;have nf:∀o,W2.frozen? ⟨s,o,none⟩=false:=fun o=>(L.frozen o i6 b5.symm).trans (kf o);have j6:q<wr.heap.size:=by omega
    have x0:=L.keeps b6.symm r0;have x1:=L.keeps b6.symm r1;have x2:=L.keeps b6.symm r2;have xf:∀o,W2.frozen? ⟨q,o,none⟩=false:=fun o=>(L.frozen o j6 b6.symm).trans (rf o);have d2:s<W2.heap.size:=by omega
    have g7:q<W2.heap.size:=by omega
    clear e0 e1 e2 ef m1 k0 k1 k2 kf r0 r1 r2 rf L HO HG a6 t0 t1 t2 f1 f3;have m2:=((Gr.refl W2).alloc (.cells #[.string G,Value.string fJ,.int .i64 (z:Int)] 206)).keeps n2;go_wp2_with(at_builtin;(refine Ap (a0:=w) (w:=W2) rfl _ _ rfl v (l.take i) ⟨G,fJ,z⟩ rfl j4.out _ rfl rfl i9 j5.out ?_);intro v3 Q b7 j7 D;(have p2:=D.keeps Y.out n2);(have pf:∀o,Q.frozen? ⟨s,o,none⟩=false:=fun o=>(bC (D.2 s d2 Y.out).2).trans (nf o));(obtain⟨B,U,rfl⟩:=b7.form);rw[j2.out]at b7 D⊢;(have d3:=ap b7);clear b7)
    have p0:=D.keeps Y.out n0;have p1:=D.keeps Y.out n1;have s0:=D.keeps Z.out x0;have s1:=D.keeps Z.out x1;have s2:=D.keeps Z.out x2;have sf:∀o,Q.frozen? ⟨q,o,none⟩=false:=fun o=>(bC (D.2 q g7 Z.out).2).trans (xf o);have m7:(⟨s,0,none⟩:Addr)≠⟨s,2,none⟩:=by simp
    have m8:(⟨s,1,none⟩:Addr)≠⟨s,2,none⟩:=by simp
    have m9:∀o,(⟨q,o,none⟩:Addr)≠⟨s,2,none⟩:=fun o e=>by
     have:=congrArg Addr.block e;simp at this;omega
    have a7:ag (fun b=>b=s) Q (Q.setCell ⟨s,2,none⟩ (.slice B (i+1) U)):=ag.setCell (S:=fun b=>b=s) (p:=⟨s,2,none⟩) Q _ rfl;have j8:ba w (Q.setCell ⟨s,2,none⟩ (.slice B (i+1) U)) (.slice B (i+1) U) (l.take i++[(⟨G,fJ,z⟩:En)]):=d3.out.ay a7 fun b hb e=>(D.2 s d2 Y.out).1 (by rw[hb,e]);have b1:q≠s:=by omega
    have j9:w.heap.size<=s:=by have:=HS.out;omega
    have u0:(Q.setCell ⟨s,2,none⟩ (.slice B (i+1) U)).cell? ⟨s,0,none⟩=some (.int .i64 (p:Int)):=by rw[ak _ _ _ _ (by simp)];exact p0
    have u1:(Q.setCell ⟨s,2,none⟩ (.slice B (i+1) U)).cell? ⟨s,1,none⟩=some (.bool false):=by rw[ak _ _ _ _ (by simp)];exact p1
    have u2:(Q.setCell ⟨s,2,none⟩ (.slice B (i+1) U)).cell? ⟨s,2,none⟩=some (.slice B (i+1) U):=az _ _ _ p2;have uf:∀o,(Q.setCell ⟨s,2,none⟩ (.slice B (i+1) U)).frozen? ⟨s,o,none⟩=false:=fun o=>by rw[bF];exact pf o
    have uz:∀o,(Q.setCell ⟨s,2,none⟩ (.slice B (i+1) U)).frozen? ⟨q,o,none⟩=false:=fun o=>by rw[bF];exact sf o
    have v0:=a7.keeps b1 s0;have v1:=a7.keeps b1 s1;have v2:=a7.keeps b1 s2;have ug:Gr w (Q.setCell ⟨s,2,none⟩ (.slice B (i+1) U)):=j7.setCell j9 _;have us:s<(Q.setCell ⟨s,2,none⟩ (.slice B (i+1) U)).heap.size:=by
     have:=D.1;have:=a7.2.2.2.1;omega
    have k3:i+1<=l.length:=by omega
    have ut:(.string (T0.extract (3+J) (3+J+d1)):bA)=.string (km false l (i+1)):=by rw[j1.out,j0.out]
    have k4:=(D.2 s d2 Y.out).1;have k5:=(D.2 q g7 Z.out).1;have k6:ba w (Q.setCell ⟨s,2,none⟩ (.slice B (i+1) U)) (.slice B (i+1) U) (l.take (i+1)):=by
     rw[i7.out];exact j8
    exact⟨⟨i+1,.slice B (i+1) U,k3,by go_num,ut,⟨u0,u1,u2,uf⟩,⟨⟨v0,v1,v2⟩,uz⟩,us,ug,k6,k4,k5⟩,by simp[bX];omega⟩
   have k7:i=l.length:=by omega
   subst k7;rw[cL]at HO;obtain⟨ao,ca,rfl⟩:=HO.out.form;have g8:ba w (((wr.setCell ⟨q,0,none⟩ (.int .i64 (p:Int))).setCell ⟨q,1,none⟩ (.bool false)).setCell ⟨q,2,none⟩ (.slice ao l.length ca)) (.slice ao l.length ca) l:=HO.out.ay (((ag.setCell (S:=fun b=>b=q) (p:=⟨q,0,none⟩) wr _ rfl).trans (ag.setCell (S:=fun b=>b=q) (p:=⟨q,1,none⟩) _ _ rfl)).trans (ag.setCell (S:=fun b=>b=q) (p:=⟨q,2,none⟩) _ _ rfl)) fun b hb e=>Z.out (by rw[hb,e]);have d4:w.heap.size<=q:=eA HS.out;have g9:Gr w (((wr.setCell ⟨q,0,none⟩ (.int .i64 (p:Int))).setCell ⟨q,1,none⟩ (.bool false)).setCell ⟨q,2,none⟩ (.slice ao l.length ca)):=((HG.out.setCell d4 _).setCell d4 _).setCell d4 _;have w0:(((wr.setCell ⟨q,0,none⟩ (.int .i64 (p:Int))).setCell ⟨q,1,none⟩ (.bool false)).setCell ⟨q,2,none⟩ (.slice ao l.length ca)).cell? ⟨q,0,none⟩=some (.int .i64 (p:Int)):=by
    rw[ak _ _ _ _ (by simp),ak _ _ _ _ (by simp),az _ _ _ r0]
   have H:(((wr.setCell ⟨q,0,none⟩ (.int .i64 (p:Int))).setCell ⟨q,1,none⟩ (.bool false)).setCell ⟨q,2,none⟩ (.slice ao l.length ca)).cell? ⟨q,1,none⟩=some (.bool false):=by
    rw[ak _ _ _ _ (by simp),az _ _ _ ((ak _ _ _ _ (by simp)).trans r1)]
   have w2:(((wr.setCell ⟨q,0,none⟩ (.int .i64 (p:Int))).setCell ⟨q,1,none⟩ (.bool false)).setCell ⟨q,2,none⟩ (.slice ao l.length ca)).cell? ⟨q,2,none⟩=some (.slice ao l.length ca):=by
    rw[az _ _ _ ((ak _ _ _ _ (by simp)).trans ((ak _ _ _ _ (by simp)).trans r2))]
   have d3:=ap g8;have k8:=ap g9;have k9:=ap w0;have a6:=ap H;have l0:=ap w2;clear g8 g9 w0 H w2;go_wp2_with fail
   have w0:=k9.out;have H:=a6.out;have w2:=l0.out;generalize(((wr.setCell ⟨q,0,none⟩ (.int .i64 (p:Int))).setCell ⟨q,1,none⟩ (.bool false)).setCell ⟨q,2,none⟩ (.slice ao l.length ca))=W9 at*;refine eB (v:=.tuple #[bi p false (.slice ao l.length ca),.nilIface]) (by simp[results,em,go_sem,bi,w0,H,w2]) rfl ⟨_,rfl,d3.out,k8.out⟩
end
end
section
open Go Go.RowKit Go.Maps
theorem MapAt.small{w:bj}{M n:Nat}{F:Int->Option ByteArray}(h:MapAt w M n F)(L:tL F):MapAt w M 2000 F:=by
 obtain⟨D,O,G⟩:=h;obtain⟨q,b,s,H,Y,rfl⟩:=O;obtain⟨Q,I,S⟩:=MapAt.keys ⟨_,⟨q,b,s,H,dD _,rfl⟩,G⟩ L;have y:eV Q=(MI F).length:=by
  obtain⟨V,rfl,_⟩:=I.entries Ke;have:=S.length_eq;simp only[intKeys,dh]at this;exact this.symm
 have Z:=SV F;obtain⟨z,c2,f1,f2,f3,rfl⟩:=I;rw[s]at f1;have B:q=z:=by
  have:=di f1;injection this
 subst B;have U:q.size<=2000:=by
  have J:=y;unfold eV at J;simp only[length_read]at J;omega
 exact⟨_,⟨q,b,s,H,U,rfl⟩,G⟩
theorem nO.small{w:bj}{PB DB M n:Nat}{c:Ch}{sv:Head}{t:Int}{d:Dk}(h:nO w PB DB M n c sv t d)(hc:c.aE):nO w PB DB M 2000 c sv t d:=by
 obtain⟨⟨z,B,b⟩,q,s,y⟩:=h;exact⟨⟨2000,dD _,⟨b.pZ,b.head,b.map,b.saved,b.down,b.times,b.free,b.iH.small hc.iH,b.ne⟩⟩,q,s,y⟩
structure cG(w:bj)(PB DB M:Nat)(c:Ch)(sv:Head)(t:Int)(d:Dk):Prop where
 s:nO w PB DB M 2000 c sv t d
 f:c.aE
section
variable{w:bj}{PB DB M:Nat}{c:Ch}{sv:Head}{t:Int}{d:Dk}
theorem cG.gr{w':bj}(h:cG w PB DB M c sv t d)(g:Gr w w'):cG w' PB DB M c sv t d:=⟨h.s.gr g,h.f⟩
theorem cG.lt(h:cG w PB DB M c sv t d):PB<w.heap.size/\DB<w.heap.size/\M<w.heap.size:=h.s.lt
theorem xW(h:cG w PB DB M c sv t d):cj prog 199 #[.pointer (some ⟨PB,0,none⟩)] w fun e b=>e=.returned (iX c)/\cG b PB DB M c.alloc sv t d/\aY PB DB M M w b:=
 (Tc h.s (by omega)).mono fun _ _ ⟨q,y,z⟩=>⟨q,⟨y.small h.f.p_,h.f.p_⟩,z⟩
theorem BT(h:cG w PB DB M c sv t d){k:Nat}(q:fE c k):cj prog 204 #[.pointer (some ⟨PB,0,none⟩),.int .i64 (k:Int)] w fun e b=>e=.returned .nilIface/\cG b PB DB M (c.free (k:Nat)) sv t d/\aY PB DB M M w b:=
 (Vb h.s (k:Int)).mono fun _ _ ⟨y,z,B⟩=>⟨by rw[y,q.eL];rfl,⟨z.small (h.f.oU _),h.f.oU _⟩,B⟩
theorem Qs(h:cG w PB DB M c sv t d){k:Nat}(q:fE c k)(s:ByteArray)(hs:s.size=1024):cj prog 251 #[.pointer (some ⟨PB,0,none⟩),.int .i64 (k:Int),.string s] w fun e b=>e=.returned .nilIface/\cG b PB DB M (c.write (k:Nat) s) sv t d/\aY PB DB M M w b:=
 (Td h.s (by omega) (k:Int) s hs).mono fun _ _ ⟨y,z,B⟩=>⟨by rw[y,q.eL];rfl,⟨z.small (h.f.tM _ hs),h.f.tM _ hs⟩,B⟩
end
end
section
open Go Go.RowKit
theorem fg{w w':bj}(h:Gr w.drew w'):Gr w w':=((Gr.refl w).drew).trans h
section
variable{w:bj}{PB DB M:Nat}{c:Ch}{sv:Head}{t:Int}{d:Dk}
theorem mZ(h:cG w PB DB M c sv t d){TP root:Nat}(q:bH w TP PB root)(y:root<8):
  cj prog 119 #[.pointer (some ⟨TP,0,none⟩)] w (ar w (.int .i64 (c.h.roots root))):=by
 have hs:=fun z (g:Gr w z)=>ID (h.s.gr g) root y;have B:=q.p;have D:=q.r;go_enter func119,ntmps119;go_wp2_with fail
 go_region_with(go_at_call 83;refine(hs _ (by repeat(with_reducible first|exact Gr.refl _|refine Gr.drew ?_))).mono ?_;rintro e G ⟨rfl,b⟩)
 all_goals
  go_wp2_with fail
  go_ret;exact ar.mk rfl (fg b)
theorem MX(h:cG w PB DB M c sv t d){TP root:Nat}(q:bH w TP PB root)(y:root<8):
  cj prog 143 #[.pointer (some ⟨TP,0,none⟩)] w (ar w (.int .i64 (c.h.notes root))):=by
 have hs:=fun z (g:Gr w z)=>ID (h.s.gr g) root y;have B:=q.p;have D:=q.r;go_enter func143,ntmps143;go_wp2_with fail
 go_region_with(go_at_call 83;refine(hs _ (by repeat(with_reducible first|exact Gr.refl _|refine Gr.drew ?_))).mono ?_;rintro e G ⟨rfl,b⟩)
 all_goals
  go_wp2_with fail
  go_ret;exact ar.mk rfl (fg b)
theorem m_(h:cG w PB DB M c sv t d){TP root:Nat}(O:bH w TP PB root){leaf:Bool}{p:Nat}{l:List En}{s:bA}(hs:oX w s l)(z:∀e∈l,e.ok leaf)(Q:aj leaf l<=1024)(U:fE c p):
  cj prog 200 #[.pointer (some ⟨TP,0,none⟩),bi p leaf s] w fun e b=>e=.returned .nilIface/\cG b PB DB M (c.write (p:Nat) (aw leaf l)) sv t d/\aY PB DB M M w b:=by
 have J:=fun b (g:Gr w b)=>U7 p leaf l s b (hs.gr g) z Q;obtain⟨H,I,rfl⟩:=hs.form;have L:=dY z Q;have hw:=fun b (g:Gr w b)=>Qs (h.gr g) U (aw leaf l) L;unfold bi at*;have y:Gr w (w.alloc (.cells #[.int .i64 (p:Int),.bool leaf,.slice H l.length I] 200)):=(Gr.refl w).alloc _;have S:∀b,Gr (w.alloc (.cells #[.int .i64 (p:Int),.bool leaf,.slice H l.length I] 200)) b->b.cell? ⟨w.heap.size,0,none⟩=some (.int .i64 (p:Int))/\b.cell? ⟨w.heap.size,1,none⟩=some (.bool leaf)/\b.cell? ⟨w.heap.size,2,none⟩=some (.slice H l.length I):=fun b g=>⟨g.keeps (by rw[ae];rfl),g.keeps (by rw[ae];rfl),g.keeps (by rw[ae];rfl)⟩;obtain⟨V,Y,Z⟩:=S _ (Gr.refl _);have tp:=(O.gr y).p;have HW:=ap hw;clear hw;go_enter func200,ntmps200;go_wp2_with fail
 go_region_with(first
  |( go_at_call 252;refine(J _ ?_).mono ?_;(with_reducible exact y.drew);rintro e w1 ⟨rfl,B⟩;have q:=y.trans (fg B);obtain⟨V,Y,Z⟩:=S _ (fg B);have tp:=(O.gr q).p)
  |( go_at_call 251;refine(HW.out _ ?_).mono ?_;(with_reducible first|exact q|exact q.drew);rintro e w2 ⟨rfl,D,G⟩))
 all_goals
  go_wp2_with fail
  go_ret
  first
    |exact⟨rfl,D,(aY.ah PB DB M q).trans G⟩
    |exact⟨rfl,D,(aY.ah PB DB M q.drew).trans G⟩
end
def eJ(n:Nat):bA:=if n=0 then .nilIface else .iface 24 (.int .i64 (n:Int))
theorem aY.own{T:Nat->Prop}{PB DB M:Nat}{w b q:bj}(h:aY PB DB M M w b)(k:ag T b q)(y:∀j,T j->w.heap.size<=j):aY PB DB M M w q:=
 ⟨.inl rfl,k.1.trans h.2.1,k.2.1.trans h.2.2.1,k.2.2.1.trans h.2.2.2.1,cg h.size k.2.2.2.1,fun j s hs=>(k.block (bQ s h.size) (fun e=>by have:=y j e;omega)).trans (h.2.block s hs)⟩
def tV(c:Ch)(i:Nat)(p more:Int):Ch×Nat:=if 0<=c.h.notes i+more/\c.h.notes i+more<65536 then(⟨c.h.ed i p (c.h.notes i+more),c.F⟩,0)else(c,2)
section
variable{w:bj}{PB DB M:Nat}{c:Ch}{sv:Head}{t:Int}{d:Dk}
theorem cG.ay{S:Nat->Prop}{w':bj}(h:cG w PB DB M c sv t d)(g:ag S w w')(b:¬S PB)(q:¬S DB)(y:¬S M):cG w' PB DB M c sv t d:=by
 obtain⟨z,hn,B⟩:=h.s.pg;exact⟨⟨⟨z,hn,B.ay g b y⟩,h.s.dk.ay g q,h.s.YZ,h.s.Y6⟩,h.f⟩
theorem MY(h:cG w PB DB M c sv t d){i:Nat}(hi:i<8){k m:Int}(z:0<=k/\k<2000):cj prog 202 #[.pointer (some ⟨PB,0,none⟩),.int .i64 i,.int .i64 k,.int .i64 m] w fun e B=>
  e=.returned (eJ (if 0<=m/\m<65536 then 0 else 2))/\cG B PB DB M (if 0<=m/\m<65536 then⟨c.h.ed i k m,c.F⟩else c) sv t d/\aY PB DB M M w B:=by
 by_cases b:0<=m/\m<65536
 ·simp only[if_pos b];have hf:(⟨c.h.ed i k m,c.F⟩:Ch).aE:=⟨FJ h.f.head i z b,h.f.iH⟩;exact(MT h.s i k m hi z b).mono fun _ _ ⟨y,q,D⟩=>⟨y,⟨q.small hf,hf⟩,D⟩
 simp only[if_neg b];obtain⟨G,_,H⟩:=h.s.pg;exact(By PB DB M G c.h sv c.F false t (i:Int) k m (by omega) w H).mono fun _ _ ⟨y,q⟩=>⟨y,h.gr q,aY.ah _ _ _ q⟩
theorem Kz(h:cG w PB DB M c sv t d){i:Nat}(hi:i<8){p more:Int}(y:0<=p/\p<2000):cj prog 202 #[.pointer (some ⟨PB,0,none⟩),.int .i64 i,.int .i64 p,.int .i64 (c.h.notes i+more)] w fun e q=>
  e=.returned (eJ (tV c i p more).2)/\cG q PB DB M (tV c i p more).1 sv t d/\aY PB DB M M w q:=by
 refine(MY h hi y).mono ?_;intro e q b;unfold tV;by_cases s:0<=c.h.notes i+more/\c.h.notes i+more<65536
 ·simp only[if_pos s]at b⊢;exact b
 simp only[if_neg s]at b⊢;exact b
theorem wL(h:cG w PB DB M c sv t d){TP root:Nat}(s:bH w TP PB root)(z:TP≠PB/\TP≠DB/\TP≠M)(J:root<8){p more:Int}(Y:0<=p/\p<2000)(hm:-1000000<=more/\more<=1000000):
  cj prog 145 #[.pointer (some ⟨TP,0,none⟩),.int .i64 p,.int .i64 more] w fun e b=>e=.returned (eJ (tV c root p more).2)/\cG b PB DB M (tV c root p more).1 sv t d/\aY PB DB M M w b:=by
 have hs:=fun b (g:Gr w b)=>MX (h.gr g) (s.gr g) J;have hw:=fun b (g:Gr w b)=>Kz (h.gr g) (i:=root) J (p:=p) (more:=more) Y;have a2:=h.f.head.note root J;have Q:=s.p;have S:=s.r;have U:∀q,Gr w q->q.cell? ⟨TP,0,none⟩=some (.pointer (some ⟨PB,0,none⟩))/\q.cell? ⟨TP,1,none⟩=some (.int .i64 (root:Int)):=fun q g=>⟨(s.gr g).p,(s.gr g).r⟩;generalize eJ (tV c root p more).2=E at*;generalize(tV c root p more).1=C at*;generalize c.h.notes root=nt at*;have D:∀(q G:bj) {o:Nat} {v:bA},aY PB DB M M q G->q.cell? ⟨TP,o,none⟩=some v->G.cell? ⟨TP,o,none⟩=some v:=fun q G _ _ hf hc=>hf.keeps z.1 z.2.1 z.2.2 hc;have V:=ap D;clear D;have Z:=ap hw;have HS:=ap hs;have K1:=ap U;clear hw hs U h s;go_enter func145,ntmps145;go_wp2_with fail
 have a3:fl.wrap (nt+more)=nt+more:=eY _ (by omega);have H:w.drew.cell? ⟨TP,0,none⟩=some (.pointer (some ⟨PB,0,none⟩)):=Q;have I:w.drew.cell? ⟨TP,1,none⟩=some (.int .i64 (root:Int)):=S;have y:Gr w w.drew:=(Gr.refl w).drew;go_region_held3(fun b=>b.cell? ⟨TP,0,none⟩=some (.pointer (some ⟨PB,0,none⟩))/\b.cell? ⟨TP,1,none⟩=some (.int .i64 (root:Int))) (first|exact⟨H,I⟩|exact⟨Q,S⟩|(refine⟨?_,?_⟩<;>assumption)) (first
  |(go_at_call 143;refine(HS.out _ y).mono ?_;rintro e q ⟨rfl,L⟩;have y:=y.trans L;obtain⟨H,I⟩:=K1.out _ y)
  |(go_at_call 202;refine(Z.out _ y).mono ?_;rintro e G ⟨rfl,O,B⟩;have H:=V.out _ _ B H;have I:=V.out _ _ B I))
 all_goals
  go_wp2_with fail
  go_ret;exact⟨rfl,O,(aY.ah PB DB M y).trans B⟩
end
def dK(leaf:Bool)(c:Ch)(p:Nat)(l:List En):Ch×Option (Option En):=
 if aj leaf l<=1024 then(c.write (p:Nat) (aw leaf l),some none)
 else match cS c.h with
  |none=>(c,none)
  |some q=>((c.alloc.write (p:Nat) (aw leaf (l.take (dj leaf l)))).write (q:Nat) (aw leaf (l.drop (dj leaf l))),some (some ⟨((l.drop (dj leaf l)).head?.map En.key).getD fJ,fJ,q⟩))
def iY(w w':bj)(v:bA):Option (Option En)->Prop
 |none=>v=.tuple #[.pointer none,eJ 12]
 |some none=>v=.tuple #[.pointer none,.nilIface]
 |some (some e)=>∃b,v=.tuple #[.pointer (some ⟨b,0,none⟩),.nilIface]/\w.heap.size<=b/\w'.cell? ⟨b,0,none⟩=some (.string e.key)/\w'.cell? ⟨b,1,none⟩=some (.string e.item)/\w'.cell? ⟨b,2,none⟩=some (.int .i64 (e.cU:Int))
section
variable{w:bj}{PB DB M:Nat}{c:Ch}{sv:Head}{t:Int}{d:Dk}
theorem KA(h:cG w PB DB M c sv t d){TP root:Nat}(S:bH w TP PB root){leaf:Bool}{p:Nat}{l:List En}{s:bA}(hs:oX w s l)(q:∀e∈l,e.ok leaf)(O:aj leaf l<=1024)(U:fE c p):
  cj prog 254 #[.pointer (some ⟨TP,0,none⟩),bi p leaf s] w fun e b=>e=.returned (.tuple #[.pointer none,.nilIface])/\cG b PB DB M (c.write (p:Nat) (aw leaf l)) sv t d/\aY PB DB M M w b:=by
 have hl:l.length<=600:=by
  have:=d_ leaf l;unfold aj at O;omega
 have I:=fun b (g:Gr w b)=>tP p leaf s l b (hs.gr g) q (by omega);have y:=fun b (g:Gr w b)=>m_ (h.gr g) (S.gr g) (hs.gr g) q O U;obtain⟨G,H,rfl⟩:=hs.form;unfold bi at*;have z:Gr w (w.alloc (.cells #[.int .i64 (p:Int),.bool leaf,.slice G l.length H] 200)):=(Gr.refl w).alloc _;have Q:∀b,Gr (w.alloc (.cells #[.int .i64 (p:Int),.bool leaf,.slice G l.length H] 200)) b->b.cell? ⟨w.heap.size,0,none⟩=some (.int .i64 (p:Int))/\b.cell? ⟨w.heap.size,1,none⟩=some (.bool leaf)/\b.cell? ⟨w.heap.size,2,none⟩=some (.slice G l.length H):=fun b g=>⟨g.keeps (by rw[ae];rfl),g.keeps (by rw[ae];rfl),g.keeps (by rw[ae];rfl)⟩;obtain⟨V,Y,Z⟩:=Q _ (Gr.refl _);have a1:(aj leaf l:Int)<=1024:=by omega
 have HW:=ap y;clear y;go_enter func254,ntmps254;go_wp2_with(go_at_call 291;refine(I _ z).mono ?_;rintro e w1 ⟨rfl,B⟩;have D:=z.trans B;obtain⟨V,Y,Z⟩:=Q _ B)
 go_wp2_with(go_at_call 200;refine(HW.out _ D).mono ?_;rintro e w2 ⟨rfl,J,L⟩)
 go_ret2;exact⟨rfl,J,(aY.ah PB DB M D).trans L⟩
structure CC(w6 W:bj)(MB:Nat)(a7:Option Addr)(c7 q:Nat)(leaf:Bool)(m:List En):Prop where
 g:Gr w6 W
 own:ba w6 W (.slice a7 m.length c7) m
 ge:w6.heap.size<=MB
 c0:W.cell? ⟨MB,0,none⟩=some (.int .i64 (q:Int))
 c1:W.cell? ⟨MB,1,none⟩=some (.bool leaf)
 c2:W.cell? ⟨MB,2,none⟩=some (.slice a7 m.length c7)
theorem Ve{s b:bj}{y:Option Addr}{z q:Nat}{leaf:Bool}{m:List En}(B:Gr s.drew b)(D:ba s.drew b (.slice y m.length z) m):
  CC s (b.alloc (.cells #[.int .i64 (q:Int),.bool leaf,.slice y m.length z] 200)) b.heap.size y z q leaf m:=by
 have G:=fg B;exact⟨G.alloc _,(D.back (Gr.refl s).drew).gr ((Gr.refl b).alloc _),G.size,by rw[ae];rfl,by rw[ae];rfl,by rw[ae];rfl⟩
theorem Vf{s y:bj}{z:Option Addr}{B q:Nat}{leaf:Bool}{m:List En}(I:Gr (s.alloc (.cells #[.int .i64 0,.bool false,.slice none 0 0] 200)).drew y)(D:ba (s.alloc (.cells #[.int .i64 0,.bool false,.slice none 0 0] 200)).drew y (.slice z m.length B) m)
  (z0:y.cell? ⟨s.heap.size,0,none⟩=some (.int .i64 0)) (L:y.cell? ⟨s.heap.size,1,none⟩=some (.bool false)) (M:y.cell? ⟨s.heap.size,2,none⟩=some (.slice none 0 0)):
  CC s (((y.setCell ⟨s.heap.size,0,none⟩ (.int .i64 (q:Int))).setCell ⟨s.heap.size,1,none⟩ (.bool leaf)).setCell ⟨s.heap.size,2,none⟩ (.slice z m.length B)) s.heap.size z B q leaf m:=by
 have G:Gr s (s.alloc (.cells #[.int .i64 0,.bool false,.slice none 0 0] 200)).drew:=((Gr.refl s).alloc _).drew;have O:=G.trans I;have H:=((ag.setCell (S:=fun b=>b=s.heap.size) (p:=⟨s.heap.size,0,none⟩) y (.int .i64 (q:Int)) rfl).trans (ag.setCell (S:=fun b=>b=s.heap.size) (p:=⟨s.heap.size,1,none⟩) _ (.bool leaf) rfl)).trans (ag.setCell (S:=fun b=>b=s.heap.size) (p:=⟨s.heap.size,2,none⟩) _ (.slice z m.length B) rfl);refine⟨H.gr O fun b J=>by omega,(D.back G).ay H fun b J e=>?_,dD _,?_,?_,?_⟩
 ·have:=aP D b J;have Q:(s.alloc (.cells #[.int .i64 0,.bool false,.slice none 0 0] 200)).drew.heap.size=s.heap.size+1:=by simp
  omega
 ·rw[ak _ _ _ _ (by simp),ak _ _ _ _ (by simp),az _ _ _ z0]
 ·rw[ak _ _ _ _ (by simp),az _ _ _ ((ak _ _ _ _ (by simp)).trans L)]
 rw[az _ _ _ ((ak _ _ _ _ (by simp)).trans ((ak _ _ _ _ (by simp)).trans M))]
theorem Gg(leaf:Bool)(b:Nat):∀(l:List En) (acc i:Nat),i<=qc leaf b acc l->i<l.length->(acc+dq leaf (l.take i)<b↔i<qc leaf b acc l)
 |[],acc,i,_,h=>by simp at h
 |e::l,acc,0,_,_=>by
  unfold qc;rw[List.take_zero];simp only[dq,List.map_nil,List.sum_nil,Nat.add_zero]
  split<;>rename_i hc
  ·exact⟨fun _=>Nat.succ_pos _,fun _=>hc⟩
  exact⟨fun h=>absurd h hc,fun h=>absurd h (by omega)⟩
 |e::l,acc,i+1,h,s=>by
  unfold qc at h⊢
  split at h<;>rename_i hc
  ·rw[if_pos hc];have q:=Gg leaf b l (acc+e.sz leaf) i (by omega) (by simpa using s);rw[List.take_succ_cons,cE]
   constructor
   ·intro y;have:=q.1 (by omega);omega
   intro y;have:=q.2 (by omega);omega
  omega
theorem eO.drop{w:bj}{b q:Nat}{l:List En}(h:eO w b q l)(k:Nat):eO w b (q+k*3) (l.drop k):=fun i hi=>by
 rw[bB]at hi;have:=h (k+i) (by omega);rw[List.getElem_drop,show q+k*3+i*3=q+(k+i)*3 by omega];exact this
theorem eO.take{w:bj}{b q:Nat}{l:List En}(h:eO w b q l)(k:Nat):eO w b q (l.take k):=fun i hi=>by
 rw[bt]at hi;rw[List.getElem_take];exact h i (by omega)
theorem MZ(h:cG w PB DB M c sv t d){TP root:Nat}(ht:bH w TP PB root){leaf:Bool}{p:Nat}{l:List En}{B cap:Nat}(hB:B<w.heap.size)(g9:B≠PB/\B≠DB/\B≠M)(a2:TP≠PB/\TP≠DB/\TP≠M)(s7:l.length<=cap)(hE:eO w B 0 l)(c8:∀e∈l,e.ok leaf)(hb:1024<aj leaf l)(h0:aj leaf l<=1400)(hp:fE c p):
  cj prog 254 #[.pointer (some ⟨TP,0,none⟩),bi p leaf (.slice (some ⟨B,0,none⟩) l.length cap)] w fun e O=>∃v,e=.returned v/\iY w O v (dK leaf c p l).2/\cG O PB DB M (dK leaf c p l).1 sv t d/\aY PB DB M M w O:=by
 have hl:l.length<=800:=by
  have:=d_ leaf l;unfold aj at h0;omega
 have hs:oX w (.slice (some ⟨B,0,none⟩) l.length cap) l:=.inr ⟨B,0,cap,rfl,hB,hE⟩;have d0:=fun O (g:Gr w O)=>tP p leaf _ l O (hs.gr g) c8 (by omega);unfold bi at*;have i3:Gr w (w.alloc (.cells #[.int .i64 (p:Int),.bool leaf,.slice (some ⟨B,0,none⟩) l.length cap] 200)):=(Gr.refl w).alloc _;have c0:∀O,Gr (w.alloc (.cells #[.int .i64 (p:Int),.bool leaf,.slice (some ⟨B,0,none⟩) l.length cap] 200)) O->O.cell? ⟨w.heap.size,0,none⟩=some (.int .i64 (p:Int))/\O.cell? ⟨w.heap.size,1,none⟩=some (.bool leaf)/\O.cell? ⟨w.heap.size,2,none⟩=some (.slice (some ⟨B,0,none⟩) l.length cap):=fun O g=>⟨g.keeps (by rw[ae];rfl),g.keeps (by rw[ae];rfl),g.keeps (by rw[ae];rfl)⟩;obtain⟨k0,k1,k2⟩:=c0 _ (Gr.refl _);have n6:¬(aj leaf l:Int)<=1024:=by omega
 obtain⟨Q,n7⟩:∃Q,w.heap.size=Q:=⟨_,rfl⟩;obtain⟨n8,i4,h1,i5⟩:=rX c8 hb h0;obtain⟨Bz,d1⟩:∃Bz,aj leaf l=Bz:=⟨_,rfl⟩;obtain⟨K,hK⟩:∃K,dj leaf l=K:=⟨_,rfl⟩;have b8:=fun i=>Gg leaf (Bz/2) l 0 i;have i7:qc leaf (Bz/2) 0 l=K:=by rw[<-hK,<-d1];rfl
 rw[i7]at b8;rw[hK]at n8 i4 h1 i5;rw[d1]at n6 d0 hb h0;have HK:=ap hK;have i9:=ap d1;have n9:=ap b8;have a8:=ap c8;have Z:=ap n7;clear hK d1 i7 b8 c8;go_enter func254,ntmps254;go_wp2_with(go_at_call 291;refine(d0 _ i3).mono ?_;rintro e w1 ⟨rfl,d2⟩;have j0:=i3.trans d2;obtain⟨k0,k1,k2⟩:=c0 _ d2)
 have d3:=ap d2;clear d2 k0 k1 k2;have o0:=ap j0;have C0:=ap c0;rw[Z.out]at C0;have o1:=hE.gr j0;go_loopw [6,7] (fun hv kv O=>∃i:Nat,i<=K/\kv=.int .i64 i/\hv=.int .i64 (dq leaf (l.take i):Nat)/\Gr w1 O) (fun _ kv _=>K-(bX kv).toNat)
 case atStart=>exact⟨0,ek _,rfl,rfl,Gr.refl _⟩
 case round=>
  obtain⟨i,hi,rfl,rfl,hg⟩:=hrel;obtain⟨n0,n1,n2⟩:=C0.out _ (d3.out.trans hg);have a9:i<l.length:=by omega
  have d4:=n9.out i hi a9;rw[bW]at d4;obtain⟨c1,c2,c3⟩:=o1.gr hg i a9;have h2:=s_ leaf l i a9;have x5:=En.oV (a8.out l[i] (cf a9));have j2:=O6 p leaf (.slice (some ⟨B,0,none⟩) l.length cap) l[i] (a8.out l[i] (cf a9));unfold bi En.val at j2;rw[bW]at c1 c2 c3;generalize l[i].sz leaf=z at*;generalize l[i].key=ky at*;generalize l[i].item=it at*;generalize(l[i].cU:Int)=pgi at*;have o2:=h2;have x6:dq leaf (l.take i)<=200000:=by
   have:=qX leaf (l.take i) fun e he=>a8.out e (dQ he);have:(l.take i).length<=800:=by rw[bt];omega
   omega
  generalize dq leaf (l.take i)=S at*;have o3:=ap h2;clear h2 o2;have o4:Int.tdiv (Bz:Int) 2=((Bz/2:Nat):Int):=by
   rw[Int.tdiv_eq_ediv_of_nonneg (by omega)];omega
  obtain⟨H2,o5⟩:∃H2,Bz/2=H2:=⟨_,rfl⟩;rw[o5]at d4 o4;have b3:=o0.out.trans hg;have j3:=ap d0;clear d0;by_cases j4:i<K
  ·have hh:S<H2:=d4.2 j4;have o6:(S:Int)<(H2:Int):=by omega
   have s8:(i:Int)<(l.length:Int):=by omega
   go_wp2_with(go_at_call 291;refine(j3.out _ b3).mono ?_;rintro e w3 ⟨rfl,D⟩;obtain⟨n0,n1,n2⟩:=C0.out _ ((d3.out.trans hg).trans D);(have c1:=D.keeps c1);(have c2:=D.keeps c2);(have c3:=D.keeps c3))
   have U:=b3.trans D;have o7:=hg.trans D;clear D;go_region_with(go_at_call 292;refine(j2 _).mono ?_;rintro e w5 ⟨rfl,o8⟩)
   all_goals
    go_wp2_with fail
    refine⟨⟨i+1,by omega,by go_num,?_,o7.trans (fg o8)⟩,by simp[bX];omega⟩;rw[o3.out];go_num
  have o9:i=K:=by omega
  subst o9;have hh:¬S<H2:=fun e=>j4 (d4.1 e);have o6:¬(S:Int)<(H2:Int):=by omega
  have tp:=(ht.gr b3).p;go_wp2_with(go_at_call 291;refine(j3.out _ b3).mono ?_;rintro e w3 ⟨rfl,D⟩;obtain⟨n0,n1,n2⟩:=C0.out _ ((d3.out.trans hg).trans D);(have tp:=D.keeps tp))
  have U:=b3.trans D;have j5:=(d3.out.trans hg).trans D;cases ha:cS c.h with
  |none=>
   have hv:iX c=.tuple #[.int .i64 0,.iface 24 (.int .i64 12)]:=by unfold iX;rw[ha]
   have b4:=xW (h.gr U);have p0:c.alloc=c:=by unfold Ch.alloc;rw[ha]
   rw[hv,p0]at b4;have j6:dK leaf c p l=(c,none):=by
    unfold dK;rw[if_neg (by rw[i9.out];omega),ha]
   have d5:=ap j6;clear j6;refine b4.mono ?_;rintro e Y ⟨rfl,a3,I⟩;go_wp2_with fail
   go_ret2;rw[d5.out];exact⟨_,rfl,rfl,a3,(aY.ah PB DB M U).trans I⟩
  |some q=>
   have hv:iX c=.tuple #[.int .i64 (q:Int),.nilIface]:=by unfold iX;rw[ha]
   have b4:=xW (h.gr U);rw[hv]at b4;refine b4.mono ?_;rintro e Y ⟨rfl,a3,I⟩;have y:Q≠PB/\Q≠DB/\Q≠M:=by
    have:=h.lt;have:=Z.out;omega
   have n0:=I.keeps y.1 y.2.1 y.2.2 n0;have n1:=I.keeps y.1 y.2.1 y.2.2 n1;have n2:=I.keeps y.1 y.2.1 y.2.2 n2;have nf:∀o,Y.frozen? ⟨Q,o,none⟩=false:=fun o=>by
    have:=Z.out;rw[I.2.frozen o (by have:=j5.size;simp at this;omega) (fun e=>e.elim y.1 fun e=>e.elim y.2.1 y.2.2),j5.frozen o (by simp;omega),<-Z.out];simp
   have j7:=(hE.gr U).ay I.2 (fun e=>e.elim g9.1 fun e=>e.elim g9.2.1 g9.2.2);have j8:=(ht.gr U).pg I a2.1 a2.2.1 a2.2.2;go_wp2_with fail
   have x7:(i:Int)<=(l.length:Int):=by omega
   have x8:¬cap=i:=by omega
   have j9:∀W,Gr Y W->cj prog 293 #[.slice (some ⟨B,i*3,none⟩) (l.length-i) (cap-i)] W fun ex O=>∃v',ex=.returned v'/\ba W O v' (l.drop i)/\Gr W O:=fun W g=>
    S2 (l.drop i) _ W (.inr ⟨B,i*3,cap-i,by rw[bB],bQ hB (cg (cg U.size I.size) g.size),by have:=(j7.gr g).drop i;rwa [bW]at this⟩) (by rw[bB];omega)
   have h3:=ap j9;clear j9;have hz:∀W',Gr (Y.alloc (.cells #[.int .i64 0,.bool false,.slice none 0 0] 200)).drew W'->(W'.cell? ⟨Y.heap.size,0,none⟩=some (.int .i64 0)/\W'.cell? ⟨Y.heap.size,1,none⟩=some (.bool false)/\W'.cell? ⟨Y.heap.size,2,none⟩=some (.slice none 0 0))/\∀o,W'.frozen? ⟨Y.heap.size,o,none⟩=false:=fun W' g=>by
    have g':=fg g;exact⟨⟨g'.keeps (by rw[ae];rfl),g'.keeps (by rw[ae];rfl),g'.keeps (by rw[ae];rfl)⟩,fun o=>(g'.frozen o (by simp)).trans (by simp)⟩
   have HZ:=ap hz;clear hz;have g6:Gr Y (Y.alloc (.cells #[.int .i64 0,.bool false,.slice none 0 0] 200)):=(Gr.refl Y).alloc _;have y0:=g6.keeps n0;have y1:=g6.keeps n1;have y2:=g6.keeps n2;clear g6;have p1:=ap (bB (i:=i) (l:=l));go_cut [10] (fun p2 wx=>∃MB a7 c7,p2=.pointer (some ⟨MB,0,none⟩)/\CC Y wx MB a7 c7 q leaf (List.drop i l))
   case first=>
    go_region_with(go_at_call 293;first
     |( (with_reducible refine(h3.out Y.drew ?_).mono ?_);(repeat(with_reducible first|exact Gr.refl _|refine Gr.drew ?_|refine Gr.alloc ?_ _));rintro e w7 ⟨v7,rfl,b5,J⟩;obtain⟨a7,c7,rfl⟩:=b5.form;(have q0:=(fg J).keeps n0);(have q1:=(fg J).keeps n1);(have q2:=(fg J).keeps n2);(have r1:=((Gr.refl w7).alloc (.cells #[.int .i64 0,.bool false,.slice none 0 0] 200)).keeps q1))
     |( (with_reducible refine(h3.out (Y.alloc (.cells #[.int .i64 0,.bool false,.slice none 0 0] 200)).drew ?_).mono ?_);(repeat(with_reducible first|exact Gr.refl _|refine Gr.drew ?_|refine Gr.alloc ?_ _));rintro e w7 ⟨v7,rfl,b5,J⟩;obtain⟨a7,c7,rfl⟩:=b5.form;obtain⟨⟨z0,z1,z2⟩,zf⟩:=HZ.out _ J;(have q0:=(fg J).keeps y0);(have q1:=(fg J).keeps y1);(have q2:=(fg J).keeps y2)))
    all_goals
     go_wp2_with fail
     go_meet
     rw[<-p1.out]
     first
       |exact⟨_,_,_,rfl,Ve J b5⟩
       |exact⟨_,_,_,rfl,Vf J b5 z0 z1 z2⟩
   case rest=>
    obtain⟨MB,a7,c7,rfl,hC⟩:=hcut;have m0:=hC.g.keeps n0;have m1:=hC.g.keeps n1;have m2:=hC.g.keeps n2;have mf:wc.frozen? ⟨Q,2,none⟩=false:=(hC.g.frozen 2 (ad n0)).trans (nf 2);have HC:=ap hC;have e0:=hC.c0;have e1:=hC.c1;have e2:=hC.c2;clear hC y0 y1 y2 HZ h3;have k6:TP≠Q:=by
     have:=ad ht.p;have:=Z.out;omega
    have h4:MB≠Q:=by
     have:=ad n0;have:=HC.out.ge;omega
    have gS:ag (fun b=>b=Q) wc (wc.setCell ⟨Q,2,none⟩ (.slice (some ⟨B,0,none⟩) i cap)):=ag.setCell (S:=fun b=>b=Q) (p:=⟨Q,2,none⟩) wc _ rfl;have pS:=(a3.gr HC.out.g).ay gS (fun e=>y.1 e.symm) (fun e=>y.2.1 e.symm) (fun e=>y.2.2 e.symm);have tS:bH (wc.setCell ⟨Q,2,none⟩ (.slice (some ⟨B,0,none⟩) i cap)) TP PB root:=⟨gS.keeps k6 (j8.gr HC.out.g).p,gS.keeps k6 (j8.gr HC.out.g).r⟩;have p3:B≠Q:=by
     have:=Z.out;omega
    have iS:oX (wc.setCell ⟨Q,2,none⟩ (.slice (some ⟨B,0,none⟩) i cap)) (.slice (some ⟨B,0,none⟩) i cap) (l.take i):=by
     refine .inr ⟨B,0,cap,?_,?_,((j7.gr HC.out.g).ay gS p3).take i⟩
     · rw[bt,dr (Nat.le_of_lt i4)]
     have:=HC.out.g.size;have:=gS.2.2.2.1;have:=U.size;have:=I.size;omega
    have k7:∀e∈l.take i,e.ok leaf:=fun e he=>a8.out e (dQ he);have k8:∀e∈l.drop i,e.ok leaf:=fun e he=>a8.out e (dJ he);obtain⟨u1,u2,u3,u4,u5⟩:=oH (pg:=d.pg) h.f ha;have l0:fE c.alloc p:=u1.IE hp (by simp);have l1:=m_ pS tS iS k7 h1 l0;have g4:=HC.out.own.ay gS (fun b hb e=>by
     have:=aP HC.out.own b hb;have:=ad n0;omega)
    have s0:=gS.keeps h4 e0;have s1:=gS.keeps h4 e1;have s2:=gS.keeps h4 e2;have x9:=ap pS;have p4:=ap tS;have G:MB≠PB/\MB≠DB/\MB≠M:=by
     have:=a3.lt;have:=HC.out.ge;omega
    have p5:=ap gS;unfold bi at l1;clear pS tS gS e0 e1 e2;go_wp2_with(refine l1.mono ?_;rintro e s ⟨rfl,d6,a4⟩)
    have s0:=a4.keeps G.1 G.2.1 G.2.2 s0;have s1:=a4.keeps G.1 G.2.1 G.2.2 s1;have s2:=a4.keeps G.1 G.2.1 G.2.2 s2;have b9:=g4.ay a4.2 (fun b hb e=>by
     have:=aP g4 b hb;have:=a3.lt;omega)
    have F8:aY PB DB M M w s:=by
     have x1:=((aY.ah PB DB M U).trans I).trans (aY.ah PB DB M HC.out.g);exact(x1.own p5.out (fun j e=>by have:=Z.out;omega)).trans a4
    cases d7:l.drop i with
    |nil=>
     have:=congrArg ej d7;rw[bB,bP]at this;omega
    |cons e9 r9=>
     rw[d7]at b9 k8 s2;obtain⟨A,c9,p6,_,_,hA,p7,_⟩:∃A cap,(.slice a7 (e9::r9).length c7:bA)=.slice (some ⟨A,0,none⟩) (e9::r9).length cap/\(e9::r9).length<=cap/\Y.heap.size<=A/\A<s.heap.size/\eO s A 0 (e9::r9)/\∀o,s.frozen? ⟨A,o,none⟩=false:=b9.at'.resolve_left (fun h=>by simpa using h.2);obtain⟨rfl,rfl⟩:a7=some ⟨A,0,none⟩/\c7=c9:=by
       injection p6 with e1 e2 e3
       exact⟨e1,e3⟩
     have q1:=(p7 0 (by simp)).1;have g7:dK leaf c p l=(((c.alloc.write (p:Nat) (aw leaf (l.take i))).write (q:Nat) (aw leaf (e9::r9))),some (some ⟨e9.key,fJ,q⟩)):=by
       unfold dK;rw[if_neg (by rw[i9.out];omega),ha];simp only[HK.out,d7]
       rfl
     have d5:=ap g7;have p8:fE (c.alloc.write (p:Nat) (aw leaf (l.take i))) q:=by
       obtain⟨v1,v2,v3⟩:=gV (pg:=d.pg) u1.aE l0 (dY k7 h1);exact v1.IE u2 (by
         intro e;have:q=p:=by simpa using e
         rw[this,hp.2.2]at u3;exact Bool.noConfusion u3)
     have T8:bH s TP PB root:=p4.out.pg a4 a2.1 a2.2.1 a2.2.2;have p9:aj leaf (e9::r9)<=1024:=by rw[<-d7];exact i5
     obtain⟨L,hL⟩:∃L,(e9::r9).length=L:=⟨_,rfl⟩;have y3:0<L:=by rw[<-hL];simp
     have y4:(0:Int)<(L:Int):=by omega
     have h5:=b9.qW;rw[hL]at h5 s2;have h6:=fun W (g:Gr s W)=>m_ (d6.gr g) (T8.gr g) (h5.gr g) k8 p9 p8;unfold bi at h6;have l4:=ap h6;clear h6 g7 h5 hL;have q3:s.cell? ⟨A,0,none⟩=some (.string e9.key):=q1;have h7:A≠PB/\A≠DB/\A≠M:=by
       have:=a3.lt;omega
     generalize aw leaf (e9::r9)=P9 at*;generalize e9.key=k9 at*;have Y0:s.drew.cell? ⟨MB,0,none⟩=some (.int .i64 (q:Int)):=s0;have Y1:s.drew.cell? ⟨MB,1,none⟩=some (.bool leaf):=s1;have Y2:s.drew.cell? ⟨MB,2,none⟩=some (.slice (some ⟨A,0,none⟩) L c7):=s2;have Y3:s.drew.cell? ⟨A,0,none⟩=some (.string k9):=q3;have Gc:Gr s s.drew:=(Gr.refl s).drew;have ga:Gr s (s.alloc (.cells #[.string k9,.string ⟨#[]⟩,.int .i64 (q:Int)] 206)):=(Gr.refl s).alloc _;have b0:=ga.keeps s0;have b1:=ga.keeps s1;have b2:=ga.keeps s2;have l5:=ap ga;have h8:=ap F8;have y5:=ap d6;have V:s.heap.size≠PB/\s.heap.size≠DB/\s.heap.size≠M:=by
       have:=d6.lt;omega
     have c5:∀H,cG H PB DB M ((c.alloc.write (p:Nat) (aw leaf (l.take i))).write (q:Nat) P9) sv t d->aY PB DB M M s.drew H->∃v,(es (.tuple #[.pointer (some ⟨H.heap.size,0,none⟩),.nilIface]):Ending)=.returned v/\iY w (H.alloc (.cells #[.string k9,.string ⟨#[]⟩,.int .i64 (q:Int)] 206)) v (dK leaf c p l).2/\cG (H.alloc (.cells #[.string k9,.string ⟨#[]⟩,.int .i64 (q:Int)] 206)) PB DB M (dK leaf c p l).1 sv t d/\aY PB DB M M w (H.alloc (.cells #[.string k9,.string ⟨#[]⟩,.int .i64 (q:Int)] 206)):=by
       intro H x1 x2;rw[d5.out];have x3:=h8.out.trans ((aY.ah PB DB M Gc).trans x2);have x4:Gr H (H.alloc (.cells #[.string k9,.string ⟨#[]⟩,.int .i64 (q:Int)] 206)):=(Gr.refl H).alloc _;exact⟨_,rfl,⟨H.heap.size,rfl,x3.size,by rw[ae];rfl,by rw[ae];rfl,by rw[ae];rfl⟩,x1.gr x4,x3.trans (aY.ah PB DB M x4)⟩
     have c6:∀H,cG H PB DB M ((c.alloc.write (p:Nat) (aw leaf (l.take i))).write (q:Nat) P9) sv t d->aY PB DB M M (s.alloc (.cells #[.string k9,.string ⟨#[]⟩,.int .i64 (q:Int)] 206)).drew H->∃v,(es (.tuple #[.pointer (some ⟨s.heap.size,0,none⟩),.nilIface]):Ending)=.returned v/\iY w H v (dK leaf c p l).2/\cG H PB DB M (dK leaf c p l).1 sv t d/\aY PB DB M M w H:=by
       intro H x1 x2;rw[d5.out];have x3:=(aY.ah PB DB M l5.out.drew).trans x2;exact⟨_,rfl,⟨s.heap.size,rfl,h8.out.size,x2.keeps V.1 V.2.1 V.2.2 (by rw[cO,ae];rfl),x2.keeps V.1 V.2.1 V.2.2 (by rw[cO,ae];rfl),x2.keeps V.1 V.2.1 V.2.2 (by rw[cO,ae];rfl)⟩,x1,h8.out.trans x3⟩
     have l7:=ap c5;have l8:=ap c6;clear c5 c6;clear ga F8 d6;go_region_with(go_at_call 200;first
       |( (with_reducible refine(l4.out s.drew ?_).mono ?_);(with_reducible exact Gc);rintro e H ⟨rfl,h9,b7⟩;(have t2:=b7.keeps G.1 G.2.1 G.2.2 Y2);(have t3:=b7.keeps h7.1 h7.2.1 h7.2.2 Y3))
       |( (with_reducible refine(l4.out (s.alloc (.cells #[.string k9,.string ⟨#[]⟩,.int .i64 (q:Int)] 206)).drew ?_).mono ?_);(with_reducible exact l5.out.drew);rintro e H ⟨rfl,h9,b7⟩))
     all_goals
       go_wp2_with fail
       go_ret2
       first
         |exact l7.out _ h9 b7
         |exact l8.out _ h9 b7
end
section
variable{w:bj}{PB DB M:Nat}{c:Ch}{sv:Head}{t:Int}{d:Dk}
theorem xX(h:cG w PB DB M c sv t d){TP root:Nat}(D:bH w TP PB root)(z:TP≠PB/\TP≠DB/\TP≠M){leaf:Bool}{p:Nat}{l:List En}{s:bA}{a0:bj}(hs:ba a0 w s l)(ha:PB<a0.heap.size/\DB<a0.heap.size/\M<a0.heap.size)
  (b:∀e∈l,e.ok leaf) (I:aj leaf l<=1400) (G:fE c p):
  cj prog 254 #[.pointer (some ⟨TP,0,none⟩),bi p leaf s] w fun e q=>∃v,e=.returned v/\iY w q v (dK leaf c p l).2/\cG q PB DB M (dK leaf c p l).1 sv t d/\aY PB DB M M w q:=by
 by_cases hf:aj leaf l<=1024
 ·have e:dK leaf c p l=(c.write (p:Nat) (aw leaf l),some none):=by
   unfold dK;rw[if_pos hf]
  rw[e];exact(KA h D hs.qW b hf G).mono fun _ _ ⟨J,y,H⟩=>⟨_,J,rfl,y,H⟩
 rcases hs.at' with⟨_,rfl⟩|⟨B,cap,rfl,y,H,L,O,_⟩
 ·exact absurd (CA leaf) hf
 exact MZ h D L (by omega) z y O b (by omega) I G
end
section
variable{X:Type}
theorem Qw{en:ByteArray×X->En}(s:∀x,(en x).key=x.1)(leaf:Bool)(c:Ch)(p:Nat)(l old:List (ByteArray×X)):
  (cz en leaf c p l old).1=(dK leaf c p (l.map en)).1/\
  (∀m,(cz en leaf c p l old).2.2=some (some m)->(dK leaf c p (l.map en)).2=some (some ⟨m.1,fJ,m.2.1⟩))/\
  ((cz en leaf c p l old).2.2=some none->(dK leaf c p (l.map en)).2=some none)/\((cz en leaf c p l old).2.2=none->(dK leaf c p (l.map en)).2=none):=by
 have y:∀(l:List (ByteArray×X)),((l.map en).head?.map En.key).getD fJ=keyOf l:=fun l=>by
  unfold keyOf;cases l with
  |nil=>rfl
  |cons x r=>simp[s]
 unfold cz dK
 split
 ·exact⟨rfl,fun m b=>(by simp at b),fun _=>rfl,fun b=>(by simp at b)⟩
 cases cS c.h with
 |none=>exact⟨rfl,fun m b=>(by simp at b),fun b=>(by simp at b),fun _=>rfl⟩
 |some q=>
  refine⟨rfl,fun m b=>?_,fun b=>(by simp at b),fun b=>(by simp at b)⟩;have e:some (some (keyOf (l.drop (dj leaf (l.map en))),(q,l.drop (dj leaf (l.map en)))))=some (some m):=b;injection e with e
  injection e with e
  subst e;show some (some _)=some (some _);rw[<-List.map_drop,y]
end
theorem iY.form{w w':bj}{v:bA}{o:Option (Option En)}(h:iY w w' v o):∃a b,v=.tuple #[a,b]:=by
 rcases o with _|_|e
 ·exact⟨_,_,h⟩
 ·exact⟨_,_,h⟩
 obtain⟨s,q,_⟩:=h;exact⟨_,_,q⟩
theorem iY.mono{w q w':bj}{v:bA}{o:Option (Option En)}(h:iY w w' v o)(b:q.heap.size<=w.heap.size):iY q w' v o:=by
 rcases o with _|_|e
 ·exact h
 ·exact h
 obtain⟨s,y,z,B⟩:=h;exact⟨s,y,cg b z,B⟩
theorem Tl{leaf:Bool}{l:List En}{k:Nat}{e:En}(h:∀x∈l,x.ok leaf)(q:e.ok leaf):∀x∈l.set k e,x.ok leaf:=fun x b=>by
 rcases cs b with b|b
 ·exact h x b
 rw[b];exact q
theorem Av{leaf:Bool}{l:List En}{k:Nat}{e:En}(h:∀x∈l,x.ok leaf)(q:e.ok leaf):∀x∈l.insertIdx k e,x.ok leaf:=fun x b=>by
 by_cases s:k<=l.length
 ·rcases(dT s).1 b with b|b
  ·rw[b];exact q
  exact h x b
 rw[List.insertIdx_of_length_lt (by omega)]at b;exact h x b
theorem Qx{a0 w:bj}{l:List En}{B cap:Nat}(h:ba a0 w (.slice (some ⟨B,0,none⟩) l.length cap) l){k:Nat}(L:k<l.length)(e:En):
  ba a0 (w.setCells B (k*3) e.cells) (.slice (some ⟨B,0,none⟩) l.length cap) (l.set k e):=by
 rcases h.row.2 with⟨_,M⟩|⟨O,y,b,hv,Q,D,G,hc,H,J⟩
 ·omega
 obtain⟨rfl,rfl⟩:B=O/\cap=y:=by
  injection hv with q M S
  injection q with q
  injection q with q
  exact⟨q,S⟩
 have I:B<w.heap.size:=(bM.1 D).1;have a2:=dC l;have s:e.cells.length=3:=rfl;rw[mM B e.cells (k*3) b w D (by rw[s];omega)];have z:(b.toList.take (k*3)++e.cells++b.toList.drop (k*3+e.cells.length)).toArray.size=cap*3:=by
  simp only[List.size_toArray,aJ,bt,bB,s,Array.length_toList,H];omega
 obtain⟨U,_⟩:=jY l k (by omega);obtain⟨_,V⟩:=jY l (k+1) (by omega);refine tO Q I hc G (by rw[el]) z ?_ D;show(b.toList.take (k*3)++e.cells++b.toList.drop (k*3+e.cells.length)).take (l.length*3)=_;have Y:b.toList.take (k*3)=ax (l.take k):=by
  rw[<-U,<-J,List.take_take,dr (by omega)]
 have Z:(ax (l.take k)).length=k*3:=by rw[dC,bt,dr (by omega)]
 have t3:(b.toList.drop (k*3+3)).take (l.length*3-(k*3+3))=ax (l.drop (k+1)):=by
  rw[<-V,<-J,List.drop_take,show(k+1)*3=k*3+3 by omega]
 rw[List.set_eq_take_append_cons_drop,if_pos L,gz,Y,ea,eh,Z,de (by omega),eh,s,de (l:=e.cells) (by rw[s];omega),show l.length*3-k*3-3=l.length*3-(k*3+3)by omega,t3]
 rfl
section
variable{w:bj}{PB DB M:Nat}{c:Ch}{sv:Head}{t:Int}{d:Dk}
theorem Qz(h:cG w PB DB M c sv t d){TP root:Nat}(ht:bH w TP PB root)(c6:TP≠PB/\TP≠DB/\TP≠M){p:Nat}{l:List En}(hp:iy c d.pg true p l)(c0:∀e∈l,e.ok true)(hb:aj true l<=1024)(key item:ByteArray)(hk:key.size<=60)(hi:item.size<=100):
  cj prog 201 #[.pointer (some ⟨TP,0,none⟩),.int .i64 (p:Int),.agg #[.string key,.string item,.int .i64 0]] w fun e w'=>∃v,e=.returned v/\iY w w' v (dK true c p (if dR (aH l) key then l.set (am (aH l) key) ⟨key,item,0⟩else l.insertIdx (am (aH l) key) ⟨key,item,0⟩)).2/\
   cG w' PB DB M (dK true c p (if dR (aH l) key then l.set (am (aH l) key) ⟨key,item,0⟩else l.insertIdx (am (aH l) key) ⟨key,item,0⟩)).1 sv t d/\aY PB DB M M w w':=by
 have U:=fun W (g:Gr w W)=>mP (h.gr g).s (ht.gr g) hp c0 hb;have e8:=ap U;clear U;obtain⟨R,hR⟩:∃R,(if dR (aH l) key then l.set (am (aH l) key) ⟨key,item,0⟩else l.insertIdx (am (aH l) key) ⟨key,item,0⟩)=R:=⟨_,rfl⟩;rw[hR];go_enter func201,ntmps201;go_wp2_with fail
 have c8:Gr w (w.alloc (.cells #[.string key,.string item,.int .i64 0] 206)):=(Gr.refl w).alloc _;have U:=e8.out _ c8;have f0:(w.alloc (.cells #[.string key,.string item,.int .i64 0] 206)).cell? ⟨w.heap.size,0,none⟩=some (.string key):=by rw[ae];rfl
 have f1:(w.alloc (.cells #[.string key,.string item,.int .i64 0] 206)).cell? ⟨w.heap.size,1,none⟩=some (.string item):=by rw[ae];rfl
 have f2:(w.alloc (.cells #[.string key,.string item,.int .i64 0] 206)).cell? ⟨w.heap.size,2,none⟩=some (.int .i64 0):=by rw[ae];rfl
 have I:=ap c8;have b8:Hid (w.heap.size<(w.alloc (.cells #[.string key,.string item,.int .i64 0] 206)).heap.size):=ap (by simp);obtain⟨WB,d0⟩:∃WB,w.alloc (.cells #[.string key,.string item,.int .i64 0] 206)=WB:=⟨_,rfl⟩;rw[d0]at U f0 f1 f2 I b8⊢;clear d0;have e9:∃EB,w.heap.size=EB:=⟨_,rfl⟩;obtain⟨EB,d1⟩:=e9;rw[d1]at f0 f1 f2⊢;have d2:(aH l).length=l.length:=by unfold aH;rw[dh]
 have d3:=jJ (aH l) key;rw[d2]at d3;refine U.mono ?_;rintro e H ⟨s',rfl,V,J⟩;obtain⟨ao,Z,rfl⟩:=V.form;have hl:l.length<=600:=by
  have:=d_ true l;unfold aj at hb;omega
 have c1:=fun W (g:Gr H W)=>qh p true l (.slice ao l.length Z) key W (V.qW.gr g) (by omega);simp only[if_true]at c1;have L:Gr H (H.alloc (.cells #[.int .i64 (p:Int),.bool true,.slice ao l.length Z] 200)):=(Gr.refl H).alloc _;unfold bi at*;have a6:=ap c1;have f0:=J.keeps f0;have f1:=J.keeps f1;have f2:=J.keeps f2;have f0:=L.keeps f0;have f1:=L.keeps f1;have f2:=L.keeps f2;have k0:(H.alloc (.cells #[.int .i64 (p:Int),.bool true,.slice ao l.length Z] 200)).cell? ⟨H.heap.size,0,none⟩=some (.int .i64 (p:Int)):=by rw[ae];rfl
 have k1:(H.alloc (.cells #[.int .i64 (p:Int),.bool true,.slice ao l.length Z] 200)).cell? ⟨H.heap.size,1,none⟩=some (.bool true):=by rw[ae];rfl
 have k2:(H.alloc (.cells #[.int .i64 (p:Int),.bool true,.slice ao l.length Z] 200)).cell? ⟨H.heap.size,2,none⟩=some (.slice ao l.length Z):=by rw[ae];rfl
 have kf:∀o,(H.alloc (.cells #[.int .i64 (p:Int),.bool true,.slice ao l.length Z] 200)).frozen? ⟨H.heap.size,o,none⟩=false:=fun o=>by simp
 clear U c1;go_wp2_with fail
 obtain⟨Q,c2⟩:∃Q,H.heap.size=Q:=⟨_,rfl⟩;have j4:EB<Q:=by
  rw[<-c2];exact bQ (by rw[<-d1];exact b8.out) J.size
 rw[c2]at k0 k1 k2 kf⊢;by_cases hh:dR (aH l) key=true
 ·have a7:am (aH l) key<l.length:=by rw[<-d2];exact oW hh
  rw[hh]at a6;rw[if_pos hh]at hR;rcases V.at' with⟨_,e2⟩|⟨B,cap,e3,h2,h3,h4,h5,h6⟩
  ·rw[e2]at a7;exact absurd a7 (by simp)
  obtain⟨rfl,rfl⟩:ao=some ⟨B,0,none⟩/\Z=cap:=by
   injection e3 with e1 e2 e3
   exact⟨e1,e3⟩
  generalize am (aH l) key=K at*;refine(a6.out _ L).mono ?_;rintro e D ⟨rfl,q⟩;have O:=L.trans q;have f0:=q.keeps f0;have f1:=q.keeps f1;have f2:=q.keeps f2;have k0:=q.keeps k0;have k1:=q.keeps k1;have k2:=q.keeps k2;have a8:=V.gr O;have j5:(K:Int)<(l.length:Int):=by omega
  obtain⟨b0,b1,b2⟩:=(h5.gr O) K a7;rw[bW]at b0 b1 b2;have bf:∀o,D.frozen? ⟨B,o,none⟩=false:=fun o=>(O.frozen o h4).trans (h6 o);generalize l[K].key=x0 at*;generalize l[K].item=x1 at*;generalize(l[K].cU:Int)=x2 at*;have g0:=ap (Qx a8 a7 ⟨key,item,0⟩);clear h5 h6;go_wp2_with fail
  have g3:ag (fun b=>b=B) D (((D.setCell ⟨B,K*3,none⟩ (.string key)).setCell ⟨B,K*3+1,none⟩ (.string item)).setCell ⟨B,K*3+2,none⟩ (.int .i64 0)):=((ag.setCell (S:=fun b=>b=B) (p:=⟨B,K*3,none⟩) D _ rfl).trans (ag.setCell (S:=fun b=>b=B) (p:=⟨B,K*3+1,none⟩) _ _ rfl)).trans (ag.setCell (S:=fun b=>b=B) (p:=⟨B,K*3+2,none⟩) _ _ rfl);have Y:ba WB (((D.setCell ⟨B,K*3,none⟩ (.string key)).setCell ⟨B,K*3+1,none⟩ (.string item)).setCell ⟨B,K*3+2,none⟩ (.int .i64 0)) (.slice (some ⟨B,0,none⟩) l.length Z) (l.set K ⟨key,item,0⟩):=g0.out;have z:Gr w (((D.setCell ⟨B,K*3,none⟩ (.string key)).setCell ⟨B,K*3+1,none⟩ (.string item)).setCell ⟨B,K*3+2,none⟩ (.int .i64 0)):=g3.gr ((I.out.trans J).trans O) (fun b hb=>by rw[hb];exact cg I.out.size h3);generalize((D.setCell ⟨B,K*3,none⟩ (.string key)).setCell ⟨B,K*3+1,none⟩ (.string item)).setCell ⟨B,K*3+2,none⟩ (.int .i64 0)=w3 at*;have a2:=xX (h.gr z) (ht.gr z) c6 Y (by have:=h.lt;have:=I.out.size;omega) (Tl c0 ⟨hk,hi,by show 0<2000;omega,fun _=>rfl,fun e=>by cases e⟩) (by
   have:=ze (leaf:=true) (y:=⟨key,item,0⟩) l K;have h9:(⟨key,item,0⟩:En).sz true<=162:=En.oV ⟨hk,hi,by show 0<2000;omega,fun _=>rfl,fun e=>by cases e⟩;unfold aj at hb⊢;omega) hp.1
  unfold bi at a2;refine a2.mono ?_;rintro e w4 ⟨v,rfl,hm,a9,c4⟩;obtain⟨v1,v2,rfl⟩:=hm.form;go_wp2_with fail
  go_ret2;rw[hR]at hm a9;exact⟨_,rfl,hm.mono z.size,a9,(aY.ah PB DB M z).trans c4⟩
 have g4:dR (aH l) key=false:=by simpa using hh
 rw[g4]at a6;rw[if_neg hh]at hR;generalize am (aH l) key=K at*;refine(a6.out _ L).mono ?_;rintro e D ⟨rfl,q⟩;have O:=L.trans q;have f0:=q.keeps f0;have f1:=q.keeps f1;have f2:=q.keeps f2;have k0:=q.keeps k0;have k1:=q.keeps k1;have k2:=q.keeps k2;have a8:=V.gr O;go_wp2_with fail
 have g5:qg (D.alloc (.cells #[.string key,.string item,.int .i64 0] 206)) D.heap.size ⟨key,item,0⟩:=⟨by show(D.heap.push _)[D.heap.size]?=_;rw[Array.getElem?_push_size];rfl⟩;have G:Gr D (D.alloc (.cells #[.string key,.string item,.int .i64 0] 206)):=(Gr.refl D).alloc _;have g6:=FQ WB _ _ l K D.heap.size ⟨key,item,0⟩ (a8.gr G) d3 ((J.trans O).trans G) (by omega) g5 (fun e=>by have:=bd a8 _ e;omega);have d4:=ad k0;refine g6.mono ?_;rintro e w3 ⟨v3,rfl,d5,g7,b3,g8⟩;have a4:(eH ao l.length Z).ownBlock≠some Q:=fun e=>by
  have:=bd V _ e;omega
 have k0:=b3.keeps a4 (G.keeps k0);have k1:=b3.keeps a4 (G.keeps k1);have k2:=b3.keeps a4 (G.keeps k2);have j6:w3.frozen? ⟨Q,2,none⟩=false:=by
  rw[b3.frozen 2 (bQ d4 G.size) a4,G.frozen 2 d4,q.frozen 2 (by rw[<-c2];simp)];exact kf 2
 obtain⟨a3,c3,rfl⟩:=d5.form;go_wp2_with fail
 have d8:ag (fun b=>b=Q) w3 (w3.setCell ⟨Q,2,none⟩ (.slice a3 (l.insertIdx K ⟨key,item,0⟩).length c3)):=ag.setCell (S:=fun b=>b=Q) (p:=⟨Q,2,none⟩) w3 _ rfl;have g9:∀b,(eH a3 (l.insertIdx K ⟨key,item,0⟩).length c3).ownBlock=some b->¬b=Q:=fun b hb e=>by
  rcases g8 b hb with h1|h1
  ·exact a4 (by rw[h1,e])
  have:=G.size;omega
 have Y:=d5.ay d8 g9;have z:Gr w (w3.setCell ⟨Q,2,none⟩ (.slice a3 (l.insertIdx K ⟨key,item,0⟩).length c3)):=d8.gr (I.out.trans g7) (fun b hb=>by
  have:=I.out.size;have:=J.size;omega)
 rw[hR]at Y z;have d9:∀e∈R,e.ok true:=by
  rw[<-hR];exact Av c0 ⟨hk,hi,by show 0<2000;omega,fun _=>rfl,fun e=>by cases e⟩
 have h0:aj true R<=1400:=by
  rw[<-hR];have:=oh (leaf:=true) (y:=⟨key,item,0⟩) l K;have h9:(⟨key,item,0⟩:En).sz true<=162:=En.oV ⟨hk,hi,by show 0<2000;omega,fun _=>rfl,fun e=>by cases e⟩;unfold aj at hb⊢;omega
 generalize w3.setCell ⟨Q,2,none⟩ (.slice a3 R.length c3)=w5 at*;have a2:=xX (h.gr z) (ht.gr z) c6 Y (by have:=h.lt;have:=I.out.size;omega) d9 h0 hp.1;unfold bi at a2;refine a2.mono ?_;rintro e w4 ⟨v,rfl,hm,a9,c4⟩;obtain⟨v1,v2,rfl⟩:=hm.form;go_wp2_with fail
 go_ret2;exact⟨_,rfl,hm.mono z.size,a9,(aY.ah PB DB M z).trans c4⟩
end
