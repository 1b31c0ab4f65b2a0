/-
  Part 10 of the proof.
-/
import Derived.Test.YtldmhjbdahjhdaaGreatDoorZb9
open Prod renaming fst->ajZ,snd->akj
open List renaming mem_cons_of_mem->aj0,mem_append_right->aj1,length_append->aj2,map_append->aj3,mem_cons_self->aj4,mem_append_left->aj5,mem_append->aj6,mem_singleton->aj7,getElem?_append_right->aj8,take_append_drop->aj9,length_cons->aj_,append_assoc->aka,mem_cons->akb,mem_map_of_mem->akc,map_cons->akd,append_nil->ake,mem_map->akf,mem_of_mem_take->akg,nil_append->akh,singleton_append->aki,length_nil->akm,pairwise_cons->akn,getElem?_cons_succ->ako,filter_cons_of_pos->akp,length_map->akq,pairwise_append->akr,mem_of_getElem?->aks,mem_of_mem_drop->akt,flatMap_cons->aku,mem_flatMap->akv,length_take->akw,flatMap_def->akx,sum_append->aky,nodup_cons->akz,drop_left->akA,map_take->akB,sum_cons->akC
open Nat renaming le_refl->akk,sub_self->akl,lt_or_ge->akD
open Option.some renaming inj->akE
set_option maxRecDepth 100000
set_option maxHeartbeats 100000000
set_option linter.all false
namespace Go.Proofs.YtldmhjbdahjhdaaGreatDoor
section
open Go Go.RowKit
abbrev KL:Type:=ByteArray×T 0
def KL.kv(x:KL):LP:=T.kv x.2
def dI(ls:List KL):LP:=ls.flatMap KL.kv
theorem cV(a b:List KL):dI (a++b)=dI a++dI b:=List.flatMap_append
theorem cF(x:KL)(b:List KL):dI (x::b)=x.kv++dI b:=aku
theorem mi:dI []=[]:=rfl
structure eX(ls:List KL):Prop where
 keys:Jp (ls.map ajZ)
 leaf:∀x∈ls,dM x.kv/\∀e∈x.kv,¬ay e.1 x.1
 next:ls.Pairwise fun x y=>∀e∈x.kv,ay e.1 y.1
theorem iq{a b:List KL}:eX (a++b)↔eX a/\eX b/\∀x∈a,∀y∈b,ay x.1 y.1/\∀e∈x.kv,ay e.1 y.1:=by
 constructor
 ·intro h;have D:=h.keys;rw[aj3]at D;obtain⟨H,I,J⟩:=ko.1 D;obtain⟨L,M,O⟩:=akr.1 h.next;exact⟨⟨H,fun x q=>h.leaf x (aj5 _ q),L⟩,⟨I,fun x q=>h.leaf x (aj1 _ q),M⟩,fun x q y s=>⟨J x.1 (akc q) y.1 (akc s),O x q y s⟩⟩
 ·rintro⟨z,B,G⟩;refine⟨?_,fun x q=>(aj6.1 q).elim (z.leaf x) (B.leaf x),akr.2 ⟨z.next,B.next,fun x q y s=>(G x q y s).2⟩⟩;rw[aj3];refine ko.2 ⟨z.keys,B.keys,fun x q y s=>?_⟩;obtain⟨u,hu,rfl⟩:=akf.1 q;obtain⟨v,hv,rfl⟩:=akf.1 s;exact(G u hu v hv).1
theorem ir{x:KL}{b:List KL}:eX (x::b)↔(dM x.kv/\∀e∈x.kv,¬ay e.1 x.1)/\eX b/\∀y∈b,ay x.1 y.1/\∀e∈x.kv,ay e.1 y.1:=by
 have:=iq (a:=[x]) (b:=b);rw[aki]at this;rw[this]
 constructor
 ·rintro⟨s,z,B⟩;exact⟨s.leaf x (by simp),z,fun y q=>B x (by simp) y q⟩
 ·rintro⟨s,z,B⟩;refine⟨⟨by simp,fun y q=>?_,by simp⟩,z,fun u hu y q=>?_⟩
  ·rw[aj7.1 q];exact s
  ·rw[aj7.1 hu];exact B y q
theorem wW{ls:List KL}{e:ByteArray×ByteArray}:e∈dI ls↔∃x∈ls,e∈x.kv:=akv
theorem Jr:∀{ls:List KL},eX ls->dM (dI ls)
 |[],_=>by simp[dM,dI]
 |x::b,h=>by
  obtain⟨B,s,D⟩:=ir.1 h;unfold dM;rw[cF,aj3];refine ko.2 ⟨B.1,Jr s,fun u hu v hv=>?_⟩;obtain⟨e,G,rfl⟩:=akf.1 hu;obtain⟨f,hf,rfl⟩:=akf.1 hv;obtain⟨y,z,q⟩:=wW.1 hf;exact fD ((D y z).2 e G) ((s.leaf y z).2 f q)
theorem gl{ls:List KL}(h:eX ls){k:ByteArray}{x0:KL}{r0:List KL}(V:ls=x0::r0)(Y:¬ay k x0.1):
  ∃a x b,ls=a++x::b/\a.length=aG (ls.map ajZ) k/\¬ay k x.1/\(∀y∈b,ay k y.1)/\(∀e∈dI a,ay e.1 k)/\(∀e∈dI b,ay k e.1)/\eX a/\(dM x.kv/\∀e∈x.kv,¬ay e.1 x.1)/\eX b/\(∀y∈b,ay x.1 y.1/\∀e∈x.kv,ay e.1 y.1)/\∀y∈a,ay y.1 x.1/\∀e∈y.kv,ay e.1 x.1:=by
 obtain⟨Z,p2,p3⟩:=BH h.keys k;have main:∀(a:List KL) (x:KL) (b:List KL),ls=a++x::b->a.length=aG (ls.map ajZ) k->¬ay k x.1->(∀y∈b,ay k y.1)->∃a x b,ls=a++x::b/\a.length=aG (ls.map ajZ) k/\¬ay k x.1/\(∀y∈b,ay k y.1)/\(∀e∈dI a,ay e.1 k)/\(∀e∈dI b,ay k e.1)/\eX a/\(dM x.kv/\∀e∈x.kv,¬ay e.1 x.1)/\eX b/\(∀y∈b,ay x.1 y.1/\∀e∈x.kv,ay e.1 y.1)/\∀y∈a,ay y.1 x.1/\∀e∈y.kv,ay e.1 x.1:=by
  intro a x b J e2 L M;rw[J]at h;obtain⟨o1,o2,O⟩:=iq.1 h;obtain⟨c1,Q,c3⟩:=ir.1 o2;refine⟨a,x,b,J,e2,L,M,fun e D=>?_,fun e D=>?_,o1,c1,Q,c3,fun y q=>O y q x aj4⟩
  ·obtain⟨y,q,s⟩:=wW.1 D;exact fD ((O y q x aj4).2 e s) L
  ·obtain⟨y,q,s⟩:=wW.1 D;exact fD (M y q) ((Q.leaf y q).2 e s)
 cases z:dm (ls.map ajZ) k with
 |true=>
  obtain⟨x,e,hx,q⟩:=p2 z;refine main (ls.take (ai (ls.map ajZ) k)) x (ls.drop (ai (ls.map ajZ) k+1)) ?_ ?_ ?_ q
  ·rw[<-e,aj9]
  ·have:=oh z;rw[akq]at this;unfold aG;rw[z,if_pos rfl,akw];omega
  ·rw[hx];exact bg k
 |false=>
  have G:=p3 z;have U:1<=ai (ls.map ajZ) k:=by
   rcases Nat.eq_zero_or_pos (ai (ls.map ajZ) k)with e|e
   ·rw[e,List.drop_zero,V]at G;exact absurd (G x0 aj4) Y
   ·exact e
  have H:=jg (ls.map ajZ) k;rw[akq]at H;have I:ai (ls.map ajZ) k-1<ls.length:=by omega
  have B:ls.take (ai (ls.map ajZ) k)=ls.take (ai (ls.map ajZ) k-1)++[ls[ai (ls.map ajZ) k-1]]:=by
   have:=List.take_succ_eq_append_getElem I;rw[show ai (ls.map ajZ) k-1+1=ai (ls.map ajZ) k by omega]at this;exact this
  refine main (ls.take (ai (ls.map ajZ) k-1)) ls[ai (ls.map ajZ) k-1] (ls.drop (ai (ls.map ajZ) k)) ?_ ?_ ?_ G
  ·have S:=(aj9 (ai (ls.map ajZ) k) ls).symm;rw[B,aka,aki]at S;exact S
  ·unfold aG;rw[z,if_neg (by simp),akw];omega
  ·refine di (Z _ ?_);rw[B];exact aj1 _ (aj7.2 rfl)
section
variable{a b:List KL}{x:KL}{k:ByteArray}(ha:∀e∈dI a,ay e.1 k)(hb:∀e∈dI b,ay k e.1)
include ha hb
theorem Ru(v:ByteArray):aq (dI (a++x::b)) k v=dI a++aq x.kv k v++dI b:=by
 rw[cV,cF,<-aka];exact lF _ _ _ k v ha hb
theorem O8:cy (dI (a++x::b)) k=dI a++cy x.kv k++dI b:=by
 rw[cV,cF,<-aka];exact ow _ _ _ k ha hb
theorem BK:bq (dI (a++x::b)) k=bq x.kv k:=by
 rw[cV,cF,<-aka];exact nE _ _ _ k ha hb
theorem O9:iT (dI (a++x::b)) k=iT x.kv k++dI b:=by
 rw[cV,cF,<-aka];exact vD _ _ _ k ha hb
end
def oy(b:ByteArray)(l:LP):Prop:=∃v r,l=(b,v)::r
def kd(b:ByteArray):Tr->Prop
 |none=>True
 |some ⟨0,t⟩=>dM (T.kv t)/\oy b (T.kv t)
 |some ⟨1,t⟩=>eX (akj t:List KL)/\∃x0 r,(akj t:List KL)=x0::r/\x0.1=b/\oy b (KL.kv x0)
 |some ⟨_+2,_⟩=>False
def sn:Tr->LP
 |none=>[]
 |some t=>t.2.kv
theorem LU{b:ByteArray}:∀{t:Tr},kd b t->dM (sn t)
 |none,_=>by simp[dM,sn]
 |some ⟨0,t⟩,h=>h.1
 |some ⟨1,t⟩,h=>by
  obtain⟨p,ls⟩:Nat×List KL:=t;exact Jr h.1
 |some ⟨_+2,_⟩,h=>h.elim
theorem O_{b:ByteArray}{l:LP}(hs:dM l)(h:oy b l):∀e∈l,¬ay e.1 b:=fun e q=>by
 obtain⟨v,r,rfl⟩:=h;rcases akb.1 q with s|q
 ·rw[s];exact bg b
 ·have:=(akn.1 hs).1 e.1 (akc q);exact di this
theorem Pb{z k:ByteArray}(D:¬ay k z):∀{t:Tr},kd z t->t.get k=bq (sn t) k
 |none,_=>rfl
 |some ⟨0,t⟩,h=>by
  obtain⟨p,l⟩:Nat×LP:=t;exact LS (l:=l) h.1 k
 |some ⟨1,t⟩,h=>by
  obtain⟨p,ls⟩:Nat×List KL:=t;obtain⟨s,G,r,e,H,_⟩:=h;have s:eX ls:=s;have e:ls=G::r:=e;obtain⟨a,x,b,B,I,_,_,J,L,_,M,_⟩:=gl s e (k:=k) (by rw[H];exact D);have O:ls[aG (ls.map ajZ) k]?=some x:=by
   rw[<-I,B,aj8 (akk _),akl]
   rfl
  show((ls[aG (ls.map ajZ) k]?).bind fun y=>ki k y.2)=bq (dI ls) k;rw[O,B,BK J L];obtain⟨Q,q⟩:=x;obtain⟨q,l⟩:Nat×LP:=q;exact LS (l:=l) M.1 k
 |some ⟨_+2,_⟩,h=>h.elim
theorem LV{G s:ByteArray}(L:¬ay s G):∀{t:Tr},kd G t->lA t s=iT (sn t) s
 |none,_=>rfl
 |some ⟨0,t⟩,h=>by
  obtain⟨p,l⟩:Nat×LP:=t;exact Nt (l:=l) h.1 s
 |some ⟨1,t⟩,h=>by
  obtain⟨p,ls⟩:Nat×List KL:=t;obtain⟨D,M,r,e,O,_⟩:=h;have D:eX ls:=D;have e:ls=M::r:=e;obtain⟨a,x,b,H,Q,_,_,S,I,_,U,V,_⟩:=gl D e (k:=s) (by rw[O];exact L);have hd:ls.drop (aG (ls.map ajZ) s)=x::b:=by
   rw[<-Q,H,akA]
  have J:∀y:KL,dM y.kv->hI s y.2=iT y.kv s:=fun y B=>by
   obtain⟨Z,q⟩:=y;obtain⟨q,l⟩:Nat×LP:=q;exact Nt (l:=l) B s
  show((ls.drop (aG (ls.map ajZ) s)).flatMap fun y=>hI s y.2)=iT (dI ls) s;rw[hd,H,O9 S I,aku,J x U.1]
  congr 1
  unfold dI;rw[akx,akx]
  congr 1
  refine List.map_congr_left fun y B=>?_;rw[J y (V.leaf y B).1];exact filter_all fun z Y=>decide_eq_true (di (I z (wW.2 ⟨y,B,Y⟩)))
 |some ⟨_+2,_⟩,h=>h.elim
theorem yj{a b m:List KL}{s:ByteArray}(ha:eX a)(I:eX b)(J:eX m)(H:∀y∈a,ay y.1 s/\∀e∈y.kv,ay e.1 s)(B:∀z∈m,¬ay z.1 s/\∀y∈b,ay z.1 y.1/\∀e∈z.kv,ay e.1 y.1)(G:∀x∈a,∀y∈b,ay x.1 y.1/\∀e∈x.kv,ay e.1 y.1):eX (a++(m++b)):=by
 refine iq.2 ⟨ha,iq.2 ⟨J,I,fun z L y q=>(B z L).2 y q⟩,fun x D y q=>?_⟩;rcases aj6.1 q with q|q
 ·exact⟨fD (H x D).1 (B y q).1,fun e M=>fD ((H x D).2 e M) (B y q).1⟩
 ·exact G x D y q
def bL(n:Nat)(h:Head):Prop:=∃b:List Nat,b.Nodup/\n<=b.length/\∀k∈b,1<=k/\k<2000/\h.used k=false
theorem bL.mono{n m:Nat}{h:Head}(f:bL n h)(y:m<=n):bL m h:=by
 obtain⟨b,q,z,s⟩:=f;exact⟨b,q,by omega,s⟩
theorem bL.used{n:Nat}{h b:Head}(f:bL n h)(e:b.used=h.used):bL n b:=by
 obtain⟨q,s,y,z⟩:=f;exact⟨q,s,y,fun k B=>by rw[e];exact z k B⟩
theorem bL.alloc{n:Nat}{h:Head}(hf:h.aA)(f:bL (n+1) h):∃k,bZ h=some k/\bL n (h.put k true):=by
 obtain⟨s,z,D,q⟩:=f;cases ha:bZ h with
 |none=>
  cases s with
  |nil=>simp at D
  |cons k r=>
   obtain⟨I,G,H⟩:=q k aj4;unfold bZ at ha;have:=List.find?_eq_none.1 ha k (List.mem_range.2 G);rw[H]at this;exact absurd rfl this
 |some k=>
  refine⟨k,rfl,s.erase k,z.erase k,?_,fun j b=>?_⟩
  ·by_cases B:k∈s
   ·rw[List.length_erase_of_mem B];omega
   ·rw[List.erase_of_not_mem B];omega
  ·obtain⟨y,b⟩:=(z.mem_erase_iff).1 b;refine⟨(q j b).1,(q j b).2.1,?_⟩;show(if j=k then true else h.used j)=false;rw[if_neg y];exact(q j b).2.2
theorem iu(c:Ch)(k:Int)(s:ByteArray):(c.write k s).h=c.h:=by
 unfold Ch.write
 split<;>rfl
theorem bL.write{n:Nat}{c:Ch}(f:bL n c.h)(k:Int)(s:ByteArray):bL n (c.write k s).h:=by rw[iu];exact f
theorem bL.nG{n:Nat}{c:Ch}(hc:c.aA)(f:bL (n+1) c.h):∃k,bZ c.h=some k/\bL n c.alloc.h:=by
 obtain⟨k,b,q⟩:=f.alloc hc.head;refine⟨k,b,?_⟩;rw[alloc_eq b];exact q
def lb(l:LP):Nat:=ah true (l.map bE)
def hQ(l:LP):Nat:=cH true (l.map bE)
theorem ru(l:LP):lb l=3+hQ l:=rfl
theorem GS(a b:LP):hQ (a++b)=hQ a+hQ b:=by
 unfold hQ;rw[aj3,kN]
theorem Js{R:LP}(b:∀e∈R.map bE,e.ok true)(G:1024<lb R)(H:lb R<=1400):R.take (cC true (R.map bE))≠[]/\R.drop (cC true (R.map bE))≠[]/\lb (R.take (cC true (R.map bE)))<=1024/\lb (R.drop (cC true (R.map bE)))<=1024/\350<=lb (R.take (cC true (R.map bE)))/\350<=lb (R.drop (cC true (R.map bE)))/\lb (R.take (cC true (R.map bE)))+lb (R.drop (cC true (R.map bE)))=lb R+3:=by
 obtain⟨L,q,z,B⟩:=ri b G H;rw[akq]at q;rw[<-akB]at z;rw[<-List.map_drop]at B;have D:hQ R=hQ (R.take (cC true (R.map bE)))+hQ (R.drop (cC true (R.map bE))):=by rw[<-GS,aj9]
 obtain⟨s,I,M⟩:=rh true (ah true (R.map bE)/2) (R.map bE) 0 (fun e J=>En.og (b e J)) (by
  have O:lb R=3+hQ R:=rfl;show lb R/2<=0+hQ R;omega)
 have y:=I (by show 0<lb R/2;omega);rw[<-akB]at s y;have s:lb R/2<=0+hQ (R.take (cC true (R.map bE))):=s;have y:0+hQ (R.take (cC true (R.map bE)))<lb R/2+162:=y;have Q:=ru R;have S:=ru (R.take (cC true (R.map bE)));have U:=ru (R.drop (cC true (R.map bE)));refine⟨fun e=>?_,fun e=>?_,z,B,by omega,by omega,by omega⟩
 ·rcases List.take_eq_nil_iff.1 e with e|e
  ·omega
  ·rw[e]at q;simp at q
 ·have:=List.drop_eq_nil_iff.1 e;omega
theorem rv{X:Type}{en:ByteArray×X->En}{leaf:Bool}{c:Ch}{p:Nat}{l old:List (ByteArray×X)}(h:ah leaf (l.map en)<=1024):bI en leaf c p l old=(c.write (p:Nat) (au leaf (l.map en)),(p,l),some none):=by
 unfold bI;rw[if_pos h]
theorem Jt{X:Type}{en:ByteArray×X->En}{leaf:Bool}{c:Ch}{p q:Nat}{l old:List (ByteArray×X)}(h:1024<ah leaf (l.map en))(ha:bZ c.h=some q):bI en leaf c p l old=((c.alloc.write (p:Nat) (au leaf ((l.map en).take (cC leaf (l.map en))))).write (q:Nat) (au leaf ((l.map en).drop (cC leaf (l.map en)))),(p,l.take (cC leaf (l.map en))),some (some (keyOf (l.drop (cC leaf (l.map en))),(q,l.drop (cC leaf (l.map en)))))):=by
 unfold bI;rw[if_neg (by omega),ha]
theorem rX{c:Ch}{p:Nat}{l:LP}{k v:ByteArray}(h:lb (ee l k v)<=1024):cK (d:=0) c ((p,l):Nat×LP) k v=(c.write (p:Nat) (au true ((ee l k v).map bE)),((p,ee l k v):Nat×LP),some none):=by
 have e:cK (d:=0) c ((p,l):Nat×LP) k v=bI bE true c p (ee l k v) l:=by
  refine(cK.eq_1 c k v ((p,l):Nat×LP)).trans ?_
  rfl
 exact e.trans (rv h)
theorem qu{c:Ch}{p q:Nat}{l:LP}{k v:ByteArray}(h:1024<lb (ee l k v))(ha:bZ c.h=some q):∃b,cK (d:=0) c ((p,l):Nat×LP) k v=(b,((p,(ee l k v).take (cC true ((ee l k v).map bE))):Nat×LP),some (some (keyOf ((ee l k v).drop (cC true ((ee l k v).map bE))),((q,(ee l k v).drop (cC true ((ee l k v).map bE))):Nat×LP))))/\b.h=c.alloc.h:=by
 have e:cK (d:=0) c ((p,l):Nat×LP) k v=bI bE true c p (ee l k v) l:=by
  refine(cK.eq_1 c k v ((p,l):Nat×LP)).trans ?_
  rfl
 refine⟨(c.alloc.write (p:Nat) (au true (((ee l k v).map bE).take (cC true ((ee l k v).map bE))))).write (q:Nat) (au true (((ee l k v).map bE).drop (cC true ((ee l k v).map bE)))),?_,by rw[iu,iu]⟩;exact e.trans (Jt h ha)
theorem BL{c:Ch}{p:Nat}{a b:List KL}{x:KL}{k v:ByteArray}(q:a.length=aG ((a++x::b).map ajZ) k){c1:Ch}{u:T 0}{r:Option (Option (ByteArray×T 0))}(s:cK c x.2 k v=(c1,u,r)):
  cK (d:=1) c ((p,a++x::b):Nat×List KL) k v=match r with
   |none=>(c1,((p,a++(x.1,u)::b):Nat×List KL),none)
   |some none=>bI (X:=T 0) (aH (d:=0)) false c1 p (a++(x.1,u)::b) (a++(x.1,u)::b)
   |some (some m)=>bI (X:=T 0) (aH (d:=0)) false c1 p (a++(x.1,u)::m::b) (a++(x.1,u)::b):=by
 have y:(a++x::b)[aG ((a++x::b).map ajZ) k]?=some x:=by
  rw[<-q,aj8 (akk _),akl]
  rfl
 have hs:(a++x::b).set (aG ((a++x::b).map ajZ) k) (x.1,u)=a++(x.1,u)::b:=by
  rw[<-q];exact mb x (x.1,u) b a
 rcases r with _|_|m
 ·refine(cK.eq_2 c k v 0 ((p,a++x::b):Nat×List KL)).trans ?_;simp only[y,s];rw[hs]
 ·refine(cK.eq_2 c k v 0 ((p,a++x::b):Nat×List KL)).trans ?_;simp only[y,s];rw[hs]
 ·have hi:(a++(x.1,u)::b).insertIdx (aG ((a++x::b).map ajZ) k+1) m=a++(x.1,u)::m::b:=by
   rw[<-q];exact sU m (x.1,u) b a
  refine(cK.eq_2 c k v 0 ((p,a++x::b):Nat×List KL)).trans ?_;simp only[y,s];rw[hs,hi]
theorem Ju{c:Ch}{p:Nat}{a b:List KL}{x:KL}{k v:ByteArray}(q:a.length=aG ((a++x::b).map ajZ) k){c1:Ch}{u:T 0}(s:cK c x.2 k v=(c1,u,some none)):
 cK (d:=1) c ((p,a++x::b):Nat×List KL) k v=bI (X:=T 0) (aH (d:=0)) false c1 p (a++(x.1,u)::b) (a++(x.1,u)::b):=BL q s
theorem Jv{c:Ch}{p:Nat}{a b:List KL}{x:KL}{k v:ByteArray}(q:a.length=aG ((a++x::b).map ajZ) k){c1:Ch}{u:T 0}{m:KL}(s:cK c x.2 k v=(c1,u,some (some m))):
 cK (d:=1) c ((p,a++x::b):Nat×List KL) k v=bI (X:=T 0) (aH (d:=0)) false c1 p (a++(x.1,u)::m::b) (a++(x.1,u)::b):=BL q s
theorem jy{a b:List KL}{x:KL}{k:ByteArray}(h:eX (a++x::b)){x0:KL}{r0:List KL}(G:a++x::b=x0::r0)(H:¬ay k x0.1)(I:¬ay k x.1)(J:∀y∈b,ay k y.1):a.length=aG ((a++x::b).map ajZ) k:=by
 obtain⟨a',s,L,D,M,O,Q,_⟩:=gl h G H;rw[<-M];rcases Nat.lt_trichotomy a.length a'.length with z|z|z
 ·exfalso;have q:(a++x::b)[a'.length]?=some s:=by
   rw[D,aj8 (akk _),akl]
   rfl
  rw[aj8 (by omega)]at q;obtain⟨j,B⟩:∃j,a'.length-a.length=j+1:=⟨a'.length-a.length-1,by omega⟩;rw[B,ako]at q;exact O (J s (aks q))
 ·exact z
 ·exfalso;have q:(a'++s::L)[a.length]?=some x:=by
   rw[<-D,aj8 (akk _),akl]
   rfl
  rw[aj8 (by omega)]at q;obtain⟨j,B⟩:∃j,a.length-a'.length=j+1:=⟨a.length-a'.length-1,by omega⟩;rw[B,ako]at q;exact I (Q x (aks q))
abbrev Wt:Type:=ByteArray->ByteArray->Nat
def pz(k v:ByteArray):Nat:=2+k.size+v.size
def aN(ω:Wt)(l:LP):Nat:=(l.map fun x=>ω x.1 x.2).sum
theorem fz(ω:Wt)(a b:LP):aN ω (a++b)=aN ω a+aN ω b:=by
 unfold aN;rw[aj3,aky]
theorem fL(ω:Wt)(x:ByteArray×ByteArray)(l:LP):aN ω (x::l)=ω x.1 x.2+aN ω l:=by
 unfold aN;rw[akd,akC]
theorem BM(x:ByteArray×ByteArray)(l:LP):hQ (x::l)=pz x.1 x.2+hQ l:=by
 unfold hQ;rw[akd,bK]
 rfl
theorem tb:∀l:LP,hQ l=aN pz l
 |[]=>rfl
 |x::l=>by rw[BM,fL,tb l]
theorem oA{ω:Wt}(b:∀k v,pz k v<=ω k v):∀l:LP,hQ l<=aN ω l
 |[]=>akk _
 |x::l=>by
  have:=oA b l;have:=b x.1 x.2;rw[BM,fL];omega
def oz(ω:Wt)(l:LP)(k:ByteArray):Nat:=match bq l k with
 |none=>0
 |some v=>ω k v
theorem qw{l:LP}(hs:dM l)(k:ByteArray):∃a r,(∀x∈a,ay x.1 k)/\(∀y∈r,ay k y.1)/\(∀v,aq l k v=a++(k,v)::r)/\cy l k=a++r/\((∃u,l=a++(k,u)::r/\bq l k=some u)\/(l=a++r/\bq l k=none)):=by
 obtain⟨a,b,e,I,J,s,B⟩:=mh hs k;have D:¬ay k k:=bg k;rcases B with⟨G,u,r,H,q⟩|⟨G,q⟩
 ·have z:l=a++[(k,u)]++r:=by rw[e,H];simp
  refine⟨a,r,s,q,fun v=>?_,?_,.inl ⟨u,by rw[z];simp,?_⟩⟩
  ·rw[z,lF a [(k,u)] r k v s q];unfold aq;simp[D]
  ·rw[z,ow a [(k,u)] r k s q];unfold cy;simp
  ·rw[z,nE a [(k,u)] r k s q];unfold bq;simp
 ·have z:l=a++[]++b:=by rw[e];simp
  refine⟨a,b,s,q,fun v=>?_,?_,.inr ⟨e,?_⟩⟩
  ·rw[z,lF a [] b k v s q];unfold aq;simp
  ·rw[z,ow a [] b k s q];unfold cy;simp
  ·rw[z,nE a [] b k s q]
   rfl
theorem tX(ω:Wt){l:LP}(hs:dM l)(k v:ByteArray):aN ω (aq l k v)+oz ω l k=aN ω l+ω k v:=by
 obtain⟨a,r,_,_,q,_,s⟩:=qw hs k;rw[q v,fz,fL];rcases s with⟨u,e,b⟩|⟨e,b⟩
 ·unfold oz;rw[b,e,fz,fL];simp only;omega
 ·unfold oz;rw[b,e,fz];simp only;omega
theorem ry(ω:Wt){l:LP}(hs:dM l){k v0:ByteArray}(h:bq l k=some v0):aN ω (cy l k)+ω k v0=aN ω l:=by
 obtain⟨a,r,_,_,_,q,s⟩:=qw hs k;rw[q,fz];rcases s with⟨u,e,b⟩|⟨e,b⟩
 ·rw[h]at b;obtain rfl:=akE b;rw[e,fz,fL];show _=aN ω a+(ω k v0+aN ω r);omega
 ·rw[h]at b;cases b
section
variable{ω:Wt}
def wl(ω:Wt)(l:LP):Nat:=max (aN ω l) 347
def VS(ω:Wt)(ls:List KL):Nat:=(ls.map fun x=>wl ω x.kv).sum
theorem oB(a b:List KL):VS ω (a++b)=VS ω a+VS ω b:=by
 unfold VS;rw[aj3,aky]
theorem kR(x:KL)(b:List KL):VS ω (x::b)=wl ω x.kv+VS ω b:=by
 unfold VS;rw[akd,akC]
theorem Nu:∀ls:List KL,347*ls.length<=VS ω ls
 |[]=>by simp
 |x::b=>by
  have:=Nu b;rw[kR,aj_];unfold wl;omega
def jD(ω:Wt):Tr->ByteArray->Nat->Nat
 |none,_,s=>max s 347
 |some ⟨0,t⟩,_,s=>max (aN ω (T.kv t)+s) 347
 |some ⟨1,t⟩,k,s=>VS ω ((akj t:List KL).take (aG ((akj t:List KL).map ajZ) k))+((((akj t:List KL)[aG ((akj t:List KL).map ajZ) k]?).map fun x=>max (aN ω (KL.kv x)+s) 347).getD 0)+VS ω ((akj t:List KL).drop (aG ((akj t:List KL).map ajZ) k+1))
 |some ⟨_+2,_⟩,_,_=>0
def VT(ω:Wt):Tr->Nat
 |none=>347
 |some ⟨0,t⟩=>wl ω (T.kv t)
 |some ⟨1,t⟩=>VS ω (akj t:List KL)
 |some ⟨_+2,_⟩=>0
theorem dx{p:Nat}{a b:List KL}{x:KL}{k:ByteArray}{s:Nat}(q:a.length=aG ((a++x::b).map ajZ) k):jD ω (some ⟨1,((p,a++x::b):Nat×List KL)⟩) k s=VS ω a+max (aN ω x.kv+s) 347+VS ω b:=by
 show VS ω ((a++x::b).take (aG ((a++x::b).map ajZ) k))+((((a++x::b)[aG ((a++x::b).map ajZ) k]?).map fun x=>max (aN ω (KL.kv x)+s) 347).getD 0)+VS ω ((a++x::b).drop (aG ((a++x::b).map ajZ) k+1))=_;rw[<-q];have y:(a++x::b).take a.length=a:=List.take_left;have z:(a++x::b)[a.length]?=some x:=by
  rw[aj8 (akk _),akl]
  rfl
 have B:(a++x::b).drop (a.length+1)=b:=by
  rw[<-List.drop_drop,akA]
  rfl
 rw[y,z,B]
 rfl
def yk:Tr->List ByteArray
 |some ⟨1,t⟩=>(akj t:List KL).map ajZ
 |_=>[]
theorem vE{z k:ByteArray}(B:¬ay k z):∀{t:Tr},kd z t->jD ω t k 0=VT ω t
 |none,_=>rfl
 |some ⟨0,t⟩,_=>rfl
 |some ⟨1,t⟩,h=>by
  obtain⟨p,ls⟩:Nat×List KL:=t;obtain⟨q,D,G,s,y,_⟩:=h;have q:eX ls:=q;have s:ls=D::G:=s;obtain⟨a,x,b,H,I,_⟩:=gl q s (k:=k) (by rw[y];exact B);subst H;rw[dx I];show _=VS ω (a++x::b);rw[oB,kR];unfold wl;omega
 |some ⟨_+2,_⟩,h=>h.elim
theorem Pc{B k:ByteArray}(G:¬ay k B)(s e:Nat):∀{t:Tr},kd B t->jD ω t k (s+e)<=jD ω t k s+e
 |none,_=>by
  show max (s+e) 347<=max s 347+e;omega
 |some ⟨0,t⟩,_=>by
  show max (aN ω (T.kv t)+(s+e)) 347<=max (aN ω (T.kv t)+s) 347+e;omega
 |some ⟨1,t⟩,h=>by
  obtain⟨p,ls⟩:Nat×List KL:=t;obtain⟨q,H,I,y,z,_⟩:=h;have q:eX ls:=q;have y:ls=H::I:=y;obtain⟨a,x,b,J,D,_⟩:=gl q y (k:=k) (by rw[z];exact G);subst J;rw[dx D,dx D];omega
 |some ⟨_+2,_⟩,h=>h.elim
theorem LW{L k k2:ByteArray}(M:¬ay k L)(J:¬ay k2 k)(s:Nat):∀{t:Tr},kd L t->(∀y∈yk t,ay k y->ay k2 y)->jD ω t k2 s=jD ω t k s
 |none,_,_=>rfl
 |some ⟨0,t⟩,_,_=>rfl
 |some ⟨1,t⟩,h,hs=>by
  obtain⟨p,ls⟩:Nat×List KL:=t;obtain⟨B,S,U,D,G,_⟩:=h;have B:eX ls:=B;have D:ls=S::U:=D;obtain⟨a,x,b,V,Y,Z,h4,_⟩:=gl B D (k:=k) (by rw[G];exact M);subst V;have O:∀z,¬ay k z->¬ay k2 z:=fun z I H=>by
   rcases ka k k2 with q|q|q
   ·exact I (eL q H)
   ·rw[q]at I;exact I H
   ·exact J q
  have H:=jy B D (k:=k2) (O _ (by rw[G];exact M)) (O _ Z) (fun y Q=>hs y.1 (akc (aj1 _ (aj0 _ Q))) (h4 y Q));rw[dx Y,dx H]
 |some ⟨_+2,_⟩,h,_=>h.elim
theorem zo{p:Nat}{a b:List KL}{x y:KL}{k:ByteArray}{r:Nat}(s:eX (a++(x::y::b))){x0:KL}{r0:List KL}(B:a++(x::y::b)=x0::r0)(H:¬ay k x0.1)(J:¬ay k x.1)(I:∀z∈b,ay k z.1)(O:347<=aN ω x.kv)(Q:347<=aN ω y.kv):
  jD ω (some ⟨1,((p,a++(x::y::b)):Nat×List KL)⟩) k r=VS ω a+(aN ω x.kv+aN ω y.kv+r)+VS ω b:=by
 have L:wl ω x.kv=aN ω x.kv:=by unfold wl;omega
 have M:wl ω y.kv=aN ω y.kv:=by unfold wl;omega
 by_cases q:ay k y.1
 ·have D:=jy s B H J (fun z G=>by
   rcases akb.1 G with e|G
   ·rw[e];exact q
   ·exact I z G)
  rw[dx D,kR,M];omega
 ·have e:a++(x::y::b)=(a++[x])++y::b:=by simp
  rw[e]at s B⊢;have D:=jy s B H q I;rw[dx D,oB,kR,L];have S:VS ω []=0:=rfl;omega
def so:Tr->Nat
 |none=>0
 |some ⟨0,_⟩=>1
 |some ⟨1,t⟩=>(akj t:List KL).length+1
 |some ⟨_+2,_⟩=>0
def py(t:Tr):Prop:=(∀e∈sn t,e.1.size<=26)/\match t with
 |some ⟨1,t⟩=>∀x∈(akj t:List KL),x.1.size<=26
 |_=>True
end
theorem BO{ls:List KL}(h:∀x∈ls,x.1.size<=26)(B:ls.length<=35):ah false (ls.map (aH (d:=0)))<=1024:=by
 have q:∀m:List KL,(∀x∈m,x.1.size<=26)->cH false (m.map (aH (d:=0)))<=29*m.length:=by
  intro m
  induction m with
  |nil=>intro _;simp[cH]
  |cons x m s=>
   intro b;have D:=s fun y z=>b y (aj0 _ z);have G:=b x aj4;rw[akd,bK,aj_];have H:(aH (d:=0) x).sz false=3+x.1.size:=rfl;omega
 have:=q ls h;unfold ah;omega
theorem Jw{b0:ByteArray}{l:LP}(hs:dM l)(h:oy b0 l){k:ByteArray}(y:¬ay k b0)(v:ByteArray):oy b0 (aq l k v):=by
 obtain⟨u,r,rfl⟩:=h;rcases ka b0 k with b|b|b
 ·refine⟨u,(r.filter fun x=>decide (ay x.1 k))++(k,v)::((b0,u)::r).filter fun x=>decide (ay k x.1),?_⟩;unfold aq;rw[akp (by simpa using b)]
  rfl
 ·subst b;have z:∀x∈r,ay b0 x.1:=fun x q=>(akn.1 hs).1 x.1 (akc q);refine⟨v,r,?_⟩;have s:=lF [] [(b0,u)] r b0 v (fun x q=>by cases q) z;simp only[akh,aki]at s;rw[s];unfold aq;have B:¬ay b0 b0:=bg b0;simp[B]
 ·exact absurd b y
theorem Jx{kx:ByteArray}{R:LP}{n p q:Nat}(hs:dM R)(L:∀e∈R,¬ay e.1 kx)(M:R.take n≠[])(O:R.drop n≠[]):
  eX [(kx,((p,R.take n):Nat×LP)),(keyOf (R.drop n),((q,R.drop n):Nat×LP))]/\(∃v,(keyOf (R.drop n),v)∈R)/\ay kx (keyOf (R.drop n)):=by
 have s:dM (R.take n++R.drop n):=by rw[aj9];exact hs
 unfold dM at s;rw[aj3]at s;obtain⟨Q,I,S⟩:=ko.1 s;obtain⟨D,Z,B⟩:∃e r,R.drop n=e::r:=by
  cases h:R.drop n with
  |nil=>exact absurd h O
  |cons a r=>exact⟨a,r,rfl⟩
 have z:keyOf (R.drop n)=D.1:=by rw[B];rfl
 have U:D∈R:=akt (by rw[B];exact aj4);have G:∀e∈R.take n,ay e.1 (keyOf (R.drop n)):=fun e b=>by
  rw[z];exact S e.1 (akc b) D.1 (akc (by rw[B];exact aj4))
 have H:ay kx (keyOf (R.drop n)):=by
  cases h:R.take n with
  |nil=>exact absurd h M
  |cons a r=>
   have V:=G a (by rw[h];exact aj4);exact uL (L a (akg (by rw[h];exact aj4))) V
 refine⟨ir.2 ⟨⟨Q,fun e b=>L e (akg b)⟩,ir.2 ⟨⟨I,fun e b=>?_⟩,⟨by simp,fun x b=>by simp at b,by simp⟩,fun y J=>by simp at J⟩,fun y J=>?_⟩,⟨D.2,by rw[z];exact U⟩,H⟩
 ·have b:e∈R.drop n:=b;show¬ay e.1 (keyOf (R.drop n));rw[z];rw[B]at b;rcases akb.1 b with Y|b
  ·rw[Y];exact bg _
  ·rw[B,akd]at I;exact di ((akn.1 I).1 e.1 (akc b))
 ·rw[aj7.1 J];exact⟨H,G⟩
theorem Nv{l:LP}{k v:ByteArray}(b:∀e∈l.map bE,e.ok true)(q:k.size<=60)(hv:v.size<=100):∀e∈(ee l k v).map bE,e.ok true:=fun e s=>by
 obtain⟨x,y,rfl⟩:=akf.1 s;rcases Et y with h|h
 ·exact b _ (akc h)
 ·rw[h];exact⟨q,hv,by show(0:Nat)<2000;omega,fun _=>rfl,(fun h=>by cases h)⟩
theorem Nw{l:LP}{k v:ByteArray}(h:lb l<=1024)(b:k.size<=60)(hv:v.size<=100):lb (ee l k v)<=1400:=by
 have q:=ze (l:=l) (key:=k) (item:=v);have s:(bE (k,v)).sz true<=162:=En.og ⟨b,hv,by show(0:Nat)<2000;omega,fun _=>rfl,(fun h=>by cases h)⟩;have y:lb l=ah true (l.map bE):=rfl;have z:lb (ee l k v)=ah true ((ee l k v).map bE):=rfl;omega
structure Nx(ω:Wt)(b0:ByteArray)(t:Tr)(k v:ByteArray)(c:Ch)(c':Ch)(t':Tr):Prop where
 hX:kd b0 t'
 kv:sn t'=aq (sn t) k v
 short:py t'
 vF:∀r,jD ω t' k r<=jD ω t k (r+(ω k v-oz ω (sn t) k))
 sep:∀y∈yk t',y∈yk t\/y∈(aq (sn t) k v).map ajZ
 free:∀n,so t+2<=n->bL (n-so t) c.h->bL (n-so t') c'.h
theorem BP{t:Tr}{k v:ByteArray}(h:∀e∈sn t,e.1.size<=26)(q:k.size<=26):∀e∈aq (sn t) k v,e.1.size<=26:=fun e s=>by
 rcases nF s with b|b
 ·exact h e b
 ·rw[b];exact q
theorem BQ{b0:ByteArray}{R:LP}{n:Nat}(h:oy b0 R)(b:R.take n≠[]):oy b0 (R.take n):=by
 obtain⟨v,r,rfl⟩:=h;cases n with
 |zero=>exact absurd rfl b
 |succ n=>exact⟨v,r.take n,rfl⟩
section
variable{ω:Wt}(LX:∀k v,pz k v<=ω k v){pg:Nat->ByteArray}{i:Nat}{c:Ch}{b0 k v:ByteArray}
theorem Ad(hc:c.aA)(H:k=b0)(b:k.size<=26)(hv:v.size<=100)(hf:bL 2 c.h):∃D G,bj c i none k v=(D,G,0)/\Nx ω b0 none k v c D G:=by
 obtain⟨q,I,_⟩:=bL.nG (n:=1) hc hf;refine⟨(c.alloc.write (q:Nat) (au true [⟨k,v,0⟩])).root i (q:Nat),some ⟨0,(q,[(k,v)])⟩,?_,?_,rfl,⟨fun e s=>?_,trivial⟩,fun r=>?_,(fun y J=>by cases J),fun n hn f=>?_⟩
 ·unfold bj;rw[I]
 ·exact⟨by simp[dM,T.kv],⟨v,[],by rw[<-H];rfl⟩⟩
 ·have s:e∈[(k,v)]:=s;rw[aj7.1 s];exact b
 ·show max (aN ω [(k,v)]+r) 347<=max (r+(ω k v-oz ω [] k)) 347;have L:aN ω [(k,v)]=ω k v+aN ω []:=fL _ _ _;have M:aN ω []=0:=rfl;have O:oz ω [] k=0:=rfl;omega
 ·have z:so none=0:=rfl;have B:so (some ⟨0,((q,[(k,v)]):Nat×LP)⟩)=1:=rfl;rw[z]at f hn;obtain⟨_,_,f2⟩:=bL.nG (n:=n-1) hc (f.mono (by omega));refine bL.used (h:=(c.alloc.write (q:Nat) (au true [⟨k,v,0⟩])).h) ?_ rfl;rw[B];exact f2.write _ _
include LX in
theorem Ae{p:Nat}{l:LP}(hc:c.aA)(Z:pM true (l.map bE))(hg:kd b0 (some ⟨0,((p,l):Nat×LP)⟩))(hk:¬ay k b0)(b5:py (some ⟨0,((p,l):Nat×LP)⟩))(a5:k.size<=26)(hv:v.size<=100)(hf:bL 2 c.h):
  ∃c' t',bj c i (some ⟨0,((p,l):Nat×LP)⟩) k v=(c',t',0)/\Nx ω b0 (some ⟨0,((p,l):Nat×LP)⟩) k v c c' t':=by
 have hs:dM l:=hg.1;have hh:oy b0 l:=hg.2;have hR:=Ns hs k v;have c5:=tX ω hs k v;have Q:=EE hs k v;have S:=Jw hs hh hk v;have a6:=Nv (k:=k) (v:=v) Z.2.2 (by omega) hv;have b6:=Nw (l:=l) (k:=k) (v:=v) Z.2.1 (by omega) hv;have D:∀e∈aq l k v,e.1.size<=26:=BP (t:=some ⟨0,((p,l):Nat×LP)⟩) b5.1 a5;have H:∀s,jD ω (some ⟨0,((p,l):Nat×LP)⟩) k s=max (aN ω l+s) 347:=fun _=>rfl;have a1:oz ω (sn (some ⟨0,((p,l):Nat×LP)⟩)) k=oz ω l k:=rfl;rcases akD 1024 (lb (ee l k v))with G|M
 ·obtain⟨n1,n2,f1,f2,f3,f4,f5⟩:=Js a6 G b6;obtain⟨q,hq,a3⟩:=bL.nG (n:=1) hc hf;obtain⟨U,O,e2⟩:=qu (p:=p) G hq;rw[<-e2]at a3;have a4:U.h.aA:=by rw[e2];exact hc.oZ.head
  obtain⟨r,hr,_⟩:=a3.alloc (n:=0) a4;rw[hR]at n1 n2 f1 f2 f3 f4 f5 O G;obtain⟨cut,hcut⟩:∃cut,cC true ((aq l k v).map bE)=cut:=⟨_,rfl⟩;rw[hcut]at n1 n2 f1 f2 f3 f4 f5 O;obtain⟨o1,⟨v2,o2⟩,o3⟩:=Jx (kx:=b0) (R:=aq l k v) (n:=cut) (p:=p) (q:=q) Q (O_ Q S) n1 n2;obtain⟨v3,r3,I⟩:=BQ S n1;have V:((T.aI (d:=0) ((p,(aq l k v).take cut):Nat×LP)).head?.map En.key).getD eZ=b0:=by
   show((((aq l k v).take cut).map bE).head?.map En.key).getD eZ=b0;rw[I]
   rfl
  obtain⟨B,b7⟩:∃B,keyOf ((aq l k v).drop cut)=B:=⟨_,rfl⟩;rw[b7]at O o1 o2 o3;refine⟨(U.alloc.write (r:Nat) (au false [⟨b0,eZ,p⟩,⟨B,eZ,q⟩])).root i (r:Nat),some ⟨1,((r,[(b0,((p,(aq l k v).take cut):Nat×LP)),(B,((q,(aq l k v).drop cut):Nat×LP))]):Nat×List KL)⟩,?_,?_,?_,⟨?_,?_⟩,fun s=>?_,fun y J=>?_,fun n hn f=>?_⟩
  ·unfold bj;simp only[O,hr,V]
   rfl
  ·exact⟨o1,_,_,rfl,rfl,v3,r3,I⟩
  ·show dI [(b0,((p,(aq l k v).take cut):Nat×LP)),(B,((q,(aq l k v).drop cut):Nat×LP))]=aq l k v;rw[cF,cF,mi,ake];exact aj9 cut _
  ·intro e L;have L:e∈dI [(b0,((p,(aq l k v).take cut):Nat×LP)),(B,((q,(aq l k v).drop cut):Nat×LP))]:=L;rw[cF,cF,mi,ake]at L;have L:e∈(aq l k v).take cut++(aq l k v).drop cut:=L;rw[aj9]at L;exact D e L
  ·intro x Y;have Y:x∈[(b0,((p,(aq l k v).take cut):Nat×LP)),(B,((q,(aq l k v).drop cut):Nat×LP))]:=Y;rcases akb.1 Y with e|Y
   ·rw[e];exact D (b0,v3) (akg (by rw[I];exact aj4))
   ·rw[aj7.1 Y];exact D _ o2
  ·rw[ru]at f3 f4 f5;rw[ru,ru]at f5;have z1:=oA LX ((aq l k v).take cut);have z2:=oA LX ((aq l k v).drop cut);have z3:aN ω (aq l k v)=aN ω ((aq l k v).take cut)+aN ω ((aq l k v).drop cut):=by rw[<-fz,aj9]
   have hp:=zo (ω:=ω) (a:=[]) (b:=[]) (p:=r) (x:=(b0,((p,(aq l k v).take cut):Nat×LP))) (y:=(B,((q,(aq l k v).drop cut):Nat×LP))) (k:=k) (r:=s) o1 rfl hk hk (fun z hz=>by cases hz) (show 347<=aN ω ((aq l k v).take cut)by omega) (show 347<=aN ω ((aq l k v).drop cut)by omega);have hp:jD ω (some ⟨1,((r,[(b0,((p,(aq l k v).take cut):Nat×LP)),(B,((q,(aq l k v).drop cut):Nat×LP))]):Nat×List KL)⟩) k s=VS ω []+(aN ω ((aq l k v).take cut)+aN ω ((aq l k v).drop cut)+s)+VS ω []:=hp;have h1:VS ω []=0:=rfl;rw[hp,H,a1,h1];omega
  ·have J:y∈[b0,B]:=J;refine .inr ?_;show y∈(aq l k v).map ajZ;rcases akb.1 J with e|J
   ·rw[e];exact akf.2 ⟨(b0,v3),akg (by rw[I];exact aj4),rfl⟩
   ·rw[aj7.1 J];exact akf.2 ⟨_,o2,rfl⟩
  ·have g1:so (some ⟨0,((p,l):Nat×LP)⟩)=1:=rfl;have g2:so (some ⟨1,((r,[(b0,((p,(aq l k v).take cut):Nat×LP)),(B,((q,(aq l k v).drop cut):Nat×LP))]):Nat×List KL)⟩)=3:=rfl;rw[g1]at f hn;rw[g2];obtain⟨_,_,h2⟩:=bL.nG (n:=n-2) hc (f.mono (by omega));rw[<-e2]at h2;have h3:bL (n-3) U.alloc.h:=by
    have b8:bL (n-3+1) U.h:=h2.mono (by omega);obtain⟨r',b9,h4⟩:=b8.alloc a4;unfold Ch.alloc;rw[b9];exact h4
   refine bL.used (h:=(U.alloc.write (r:Nat) (au false [⟨b0,eZ,p⟩,⟨B,eZ,q⟩])).h) ?_ rfl;exact h3.write _ _
 ·rw[hR]at M;refine⟨c.write (p:Nat) (au true ((ee l k v).map bE)),some ⟨0,((p,aq l k v):Nat×LP)⟩,?_,⟨Q,S⟩,rfl,⟨D,trivial⟩,fun s=>?_,(fun y J=>by cases J),fun n hn f=>f.write _ _⟩
  ·have O:=rX (c:=c) (p:=p) (l:=l) (k:=k) (v:=v) (by rw[hR];exact M);unfold bj;simp only[O];rw[hR]
  ·show max (aN ω (aq l k v)+s) 347<=_;rw[H,a1];omega
end
abbrev bd (k:ByteArray) (p:Nat) (l:LP):KL:=(k,((p,l):Nat×LP))
section
variable{ω:Wt}(LX:∀k v,pz k v<=ω k v){pg:Nat->ByteArray}{i:Nat}{c:Ch}{b0 k v:ByteArray}
theorem wX{a b m:List KL}{x x0 z:KL}{r m':List KL}(e:a++x::b=x0::r)(B:x0.1=b0)(D:oy b0 x0.kv)(G:m=z::m')(H:z.1=x.1)(y:oy b0 x.kv->oy b0 z.kv):∃q I,a++(m++b)=q::I/\q.1=b0/\oy b0 q.kv:=by
 cases a with
 |nil=>
  rw[akh]at e;injection e with s J
  subst s;exact⟨z,m'++b,by rw[G];rfl,H.trans B,y D⟩
 |cons u a=>
  injection e with s J
  subst s;exact⟨u,a++(m++b),rfl,B,D⟩
include LX in
theorem Af{p:Nat}{ls:List KL}(hc:c.aA)(e7:T.eU (d:=1) ((p,ls):Nat×List KL))(hg:kd b0 (some ⟨1,((p,ls):Nat×List KL)⟩))(hk:¬ay k b0)(b9:py (some ⟨1,((p,ls):Nat×List KL)⟩))(c9:k.size<=26)(hv:v.size<=100)(hf:bL 1 c.h)(b4:ls.length<=34):
  ∃c' t',bj c i (some ⟨1,((p,ls):Nat×List KL)⟩) k v=(c',t',0)/\Nx ω b0 (some ⟨1,((p,ls):Nat×List KL)⟩) k v c c' t':=by
 obtain⟨ho,x0,r0,e0,S,a3⟩:=hg;have ho:eX ls:=ho;have e0:ls=x0::r0:=e0;obtain⟨a,x,b,h1,h2,h3,h4,h5,h6,oa,ox,ob,U,a4⟩:=gl ho e0 (k:=k) (by rw[S];exact hk);subst h1;have Q:pM true (x.kv.map bE):=e7.2 x (by simp);have J:∀y∈a++x::b,y.1.size<=26:=b9.2;obtain⟨kx,q⟩:=x;obtain⟨q,l⟩:Nat×LP:=q;have Q:pM true (l.map bE):=Q;have a5:dM l:=ox.1;have e8:∀e∈l,¬ay e.1 kx:=ox.2;have hR:=Ns a5 k v;have h7:=tX ω a5 k v;have c2:=EE a5 k v;have b6:¬ay k kx:=h3;have c3:∀e∈aq l k v,¬ay e.1 kx:=fun e G=>by
  rcases nF G with h|h
  ·exact e8 e h
  ·rw[h];exact b6
 have a6:∀e∈aq l k v,∀y∈b,ay e.1 y.1:=fun e G y B=>by
  rcases nF G with h|h
  ·exact(U y B).2 e h
  ·rw[h];exact h4 y B
 have d0:∀e∈(ee l k v).map bE,e.ok true:=Nv (k:=k) (v:=v) Q.2.2 (by omega) hv;have e9:=Nw (l:=l) (k:=k) (v:=v) Q.2.1 (by omega) hv;have d1:sn (some ⟨1,((p,a++(bd kx q l)::b):Nat×List KL)⟩)=dI (a++(bd kx q l)::b):=rfl;have H:aq (dI (a++(bd kx q l)::b)) k v=dI a++aq l k v++dI b:=Ru h5 h6 v;have Y:∀e∈aq (dI (a++(bd kx q l)::b)) k v,e.1.size<=26:=BP (t:=some ⟨1,((p,a++(bd kx q l)::b):Nat×List KL)⟩) b9.1 c9;have a1:∀s,jD ω (some ⟨1,((p,a++(bd kx q l)::b):Nat×List KL)⟩) k s=VS ω a+max (aN ω l+s) 347+VS ω b:=fun s=>dx h2;have c4:oz ω (sn (some ⟨1,((p,a++(bd kx q l)::b):Nat×List KL)⟩)) k=oz ω l k:=by
  rw[d1];unfold oz;rw[BK h5 h6]
  rfl
 have a7:oy b0 l->oy b0 (aq l k v):=fun h=>Jw a5 h hk v;have c5:∀u∈a,∀y∈b,ay u.1 y.1/\∀e∈u.kv,ay e.1 y.1:=fun u hu y B=>⟨eL (a4 u hu).1 (U y B).1,fun e G=>eL ((a4 u hu).2 e G) (U y B).1⟩;have Z:(a++(bd kx q l)::b).length=a.length+(b.length+1):=by rw[aj2,aj_]
 rcases akD 1024 (lb (ee l k v))with a0|b5
 ·obtain⟨n1,n2,f1,f2,f3,f4,f5⟩:=Js d0 a0 e9;obtain⟨I,hq,i7⟩:=bL.nG (n:=0) hc hf;obtain⟨c1,e1,e2⟩:=qu (p:=q) a0 hq;rw[hR]at n1 n2 f1 f2 f3 f4 f5 e1 a0;obtain⟨cut,hcut⟩:∃cut,cC true ((aq l k v).map bE)=cut:=⟨_,rfl⟩;rw[hcut]at n1 n2 f1 f2 f3 f4 f5 e1;obtain⟨o1,⟨v2,o2⟩,o3⟩:=Jx (kx:=kx) (R:=aq l k v) (n:=cut) (p:=q) (q:=I) c2 c3 n1 n2;obtain⟨D,g0⟩:∃D,keyOf ((aq l k v).drop cut)=D:=⟨_,rfl⟩;rw[g0]at e1 o1 o2 o3;have M:=Jv (p:=p) h2 e1;have hm:∀z∈[(bd kx q ((aq l k v).take cut)),(bd D I ((aq l k v).drop cut))],¬ay z.1 kx/\∀y∈b,ay z.1 y.1/\∀e∈KL.kv z,ay e.1 y.1:=fun z hz=>by
   rcases akb.1 hz with e|hz
   ·rw[e];exact⟨bg kx,fun y B=>⟨(U y B).1,fun e G=>a6 e (akg G) y B⟩⟩
   ·rw[aj7.1 hz];exact⟨di o3,fun y B=>⟨a6 _ o2 y B,fun e G=>a6 e (akt G) y B⟩⟩
  have L:=yj oa ob o1 a4 hm c5;have d2:D.size<=26:=Y (D,v2) (by rw[H];exact aj5 _ (aj1 _ o2));have V:∀y∈a++([(bd kx q ((aq l k v).take cut)),(bd D I ((aq l k v).drop cut))]++b),y.1.size<=26:=fun y B=>by
   rcases aj6.1 B with B|B
   ·exact J y (aj5 _ B)
   ·rcases aj6.1 B with B|B
    ·rcases akb.1 B with e|B
     ·rw[e];exact J (bd kx q l) (by simp)
     ·rw[aj7.1 B];exact d2
    ·exact J y (aj1 _ (aj0 _ B))
  have O:=BO V (by
   rw[aj2,aj2];rw[Z]at b4;simp only[aj_,akm];omega)
  refine⟨c1.write (p:Nat) (au false ((a++([(bd kx q ((aq l k v).take cut)),(bd D I ((aq l k v).drop cut))]++b)).map (aH (d:=0)))),some ⟨1,((p,a++([(bd kx q ((aq l k v).take cut)),(bd D I ((aq l k v).drop cut))]++b)):Nat×List KL)⟩,?_,⟨L,?_⟩,?_,⟨?_,V⟩,fun s=>?_,fun y B=>?_,fun n hn f=>?_⟩
  ·have e3:cK (d:=1) c ((p,a++(bd kx q l)::b):Nat×List KL) k v=(c1.write (p:Nat) (au false ((a++([(bd kx q ((aq l k v).take cut)),(bd D I ((aq l k v).drop cut))]++b)).map (aH (d:=0)))),((p,a++([(bd kx q ((aq l k v).take cut)),(bd D I ((aq l k v).drop cut))]++b)):Nat×List KL),some none):=M.trans (rv O);unfold bj;simp only[e3]
  ·exact wX e0 S a3 rfl rfl (fun h=>BQ (a7 h) n1)
  ·show dI (a++([(bd kx q ((aq l k v).take cut)),(bd D I ((aq l k v).drop cut))]++b))=aq (dI (a++(bd kx q l)::b)) k v;have e5:KL.kv (bd kx q ((aq l k v).take cut))++KL.kv (bd D I ((aq l k v).drop cut))=aq l k v:=aj9 cut _;rw[H,cV,cV,cF,cF,mi,ake,e5,aka (dI a)]
  ·intro e G;have G:e∈dI (a++([(bd kx q ((aq l k v).take cut)),(bd D I ((aq l k v).drop cut))]++b)):=G;refine Y e ?_;rw[H];rw[cV,cV,cF,cF,mi,ake]at G;rw[aka (dI a)];have e5:KL.kv (bd kx q ((aq l k v).take cut))++KL.kv (bd D I ((aq l k v).drop cut))=aq l k v:=aj9 cut _;rw[e5]at G;exact G
  ·rw[ru]at f3 f4 f5;rw[ru,ru]at f5;obtain⟨y0,r',e4,e5,_⟩:=wX (m:=[(bd kx q ((aq l k v).take cut)),(bd D I ((aq l k v).drop cut))]) (z:=bd kx q ((aq l k v).take cut)) (m':=[bd D I ((aq l k v).drop cut)]) e0 S a3 rfl rfl (fun h=>BQ (a7 h) n1);have z1:=oA LX ((aq l k v).take cut);have z2:=oA LX ((aq l k v).drop cut);have z3:aN ω (aq l k v)=aN ω ((aq l k v).take cut)+aN ω ((aq l k v).drop cut):=by rw[<-fz,aj9]
   have hp:=zo (ω:=ω) (p:=p) (a:=a) (b:=b) (x:=bd kx q ((aq l k v).take cut)) (y:=bd D I ((aq l k v).drop cut)) (k:=k) (r:=s) L e4 (by rw[e5];exact hk) b6 h4 (show 347<=aN ω ((aq l k v).take cut)by omega) (show 347<=aN ω ((aq l k v).drop cut)by omega);have hp:jD ω (some ⟨1,((p,a++([(bd kx q ((aq l k v).take cut)),(bd D I ((aq l k v).drop cut))]++b)):Nat×List KL)⟩) k s=VS ω a+(aN ω ((aq l k v).take cut)+aN ω ((aq l k v).drop cut)+s)+VS ω b:=hp;rw[hp,a1,c4];omega
  ·have B:y∈(a++([(bd kx q ((aq l k v).take cut)),(bd D I ((aq l k v).drop cut))]++b)).map ajZ:=B;rw[aj3,aj3]at B;rcases aj6.1 B with B|B
   ·refine .inl ?_;show y∈(a++(bd kx q l)::b).map ajZ;rw[aj3];exact aj5 _ B
   ·rcases aj6.1 B with B|B
    ·have B:y∈[kx,D]:=B;rcases akb.1 B with e|B
     ·refine .inl ?_;show y∈(a++(bd kx q l)::b).map ajZ;rw[e];exact akf.2 ⟨bd kx q l,by simp,rfl⟩
     ·refine .inr ?_;rw[aj7.1 B];refine akf.2 ⟨(D,v2),?_,rfl⟩;show(D,v2)∈aq (dI (a++(bd kx q l)::b)) k v;rw[H];exact aj5 _ (aj1 _ o2)
    ·refine .inl ?_;show y∈(a++(bd kx q l)::b).map ajZ;rw[aj3,akd];exact aj1 _ (aj0 _ B)
  ·have g1:so (some ⟨1,((p,a++(bd kx q l)::b):Nat×List KL)⟩)=(a.length+(b.length+1))+1:=by
    show(a++(bd kx q l)::b).length+1=_;rw[Z]
   have g2:so (some ⟨1,((p,a++([(bd kx q ((aq l k v).take cut)),(bd D I ((aq l k v).drop cut))]++b)):Nat×List KL)⟩)=(a.length+(b.length+1))+2:=by
    show(a++([(bd kx q ((aq l k v).take cut)),(bd D I ((aq l k v).drop cut))]++b)).length+1=_;rw[aj2,aj2];simp only[aj_,akm];omega
   rw[g1]at f hn;rw[g2];obtain⟨_,_,f3⟩:=bL.nG (n:=n-(a.length+(b.length+1)+2)) hc (f.mono (by omega));rw[<-e2]at f3;exact f3.write _ _
 ·rw[hR]at b5;have e1:=rX (c:=c) (p:=q) (l:=l) (k:=k) (v:=v) (by rw[hR];exact b5);rw[hR]at e1;have o1:eX [(bd kx q (aq l k v))]:=ir.2 ⟨⟨c2,c3⟩,⟨by simp,(fun y B=>by cases B),by simp⟩,fun y B=>by cases B⟩;have hm:∀z∈[(bd kx q (aq l k v))],¬ay z.1 kx/\∀y∈b,ay z.1 y.1/\∀e∈KL.kv z,ay e.1 y.1:=fun z hz=>by
   rw[aj7.1 hz];exact⟨bg kx,fun y B=>⟨(U y B).1,fun e G=>a6 e G y B⟩⟩
  have L:=yj oa ob o1 a4 hm c5;have V:∀y∈a++([(bd kx q (aq l k v))]++b),y.1.size<=26:=fun y B=>by
   rcases aj6.1 B with B|B
   ·exact J y (aj5 _ B)
   ·rcases aj6.1 B with B|B
    ·rw[aj7.1 B];exact J (bd kx q l) (by simp)
    ·exact J y (aj1 _ (aj0 _ B))
  have O:=BO V (by
   rw[aj2,aj2];rw[Z]at b4;simp only[aj_,akm];omega)
  obtain⟨c1,c8⟩:∃c1,c.write (q:Nat) (au true ((aq l k v).map bE))=c1:=⟨_,rfl⟩;rw[c8]at e1;have M:=Ju (p:=p) h2 e1;refine⟨c1.write (p:Nat) (au false ((a++([(bd kx q (aq l k v))]++b)).map (aH (d:=0)))),some ⟨1,((p,a++([(bd kx q (aq l k v))]++b)):Nat×List KL)⟩,?_,⟨L,?_⟩,?_,⟨?_,V⟩,fun s=>?_,fun y B=>?_,fun n hn f=>?_⟩
  ·have e3:cK (d:=1) c ((p,a++(bd kx q l)::b):Nat×List KL) k v=(c1.write (p:Nat) (au false ((a++([(bd kx q (aq l k v))]++b)).map (aH (d:=0)))),((p,a++([(bd kx q (aq l k v))]++b)):Nat×List KL),some none):=M.trans (rv O);unfold bj;simp only[e3]
  ·exact wX e0 S a3 rfl rfl (fun h=>a7 h)
  ·show dI (a++([(bd kx q (aq l k v))]++b))=aq (dI (a++(bd kx q l)::b)) k v;rw[H,cV,cV,cF,mi,ake,aka (dI a)]
   rfl
  ·intro e G;have G:e∈dI (a++([(bd kx q (aq l k v))]++b)):=G;refine Y e ?_;rw[H];rw[cV,cV,cF,mi,ake]at G;rw[aka (dI a)];exact G
  ·obtain⟨y0,r',e4,e5,_⟩:=wX (m:=[bd kx q (aq l k v)]) (z:=bd kx q (aq l k v)) (m':=[]) e0 S a3 rfl rfl (fun h=>a7 h);have hz:=jy (a:=a) (b:=b) (x:=bd kx q (aq l k v)) (k:=k) L e4 (by rw[e5];exact hk) b6 h4;have hp:=dx (ω:=ω) (p:=p) (s:=s) hz;have hp:jD ω (some ⟨1,((p,a++([(bd kx q (aq l k v))]++b)):Nat×List KL)⟩) k s=VS ω a+max (aN ω (aq l k v)+s) 347+VS ω b:=hp;rw[hp,a1,c4];omega
  ·refine .inl ?_;have B:y∈(a++(bd kx q (aq l k v))::b).map ajZ:=B;show y∈(a++(bd kx q l)::b).map ajZ;rw[aj3,akd]at B⊢;exact B
  ·have g1:so (some ⟨1,((p,a++(bd kx q l)::b):Nat×List KL)⟩)=so (some ⟨1,((p,a++([(bd kx q (aq l k v))]++b)):Nat×List KL)⟩):=by
    show(a++(bd kx q l)::b).length+1=(a++([(bd kx q (aq l k v))]++b)).length+1;rw[aj2,aj2]
    rfl
   rw[<-g1];rw[<-c8];exact(f.write _ _).write _ _
end
theorem bL.LY{n:Nat}{c:Ch}{p:Nat}(f:bL n c.h)(q:eW c p):bL (n+1) (c.free (p:Nat)).h:=by
 obtain⟨z,B,G,s⟩:=f;have y:p∉z:=fun D=>by
  have:=(s p D).2.2;rw[q.2.2]at this;cases this
 rw[sS q];refine⟨p::z,akz.2 ⟨y,B⟩,by rw[aj_];omega,fun j b=>?_⟩;rcases akb.1 b with e|b
 ·rw[e];refine⟨q.1,q.2.1,?_⟩;show(if p=p then false else c.h.used p)=false;rw[if_pos rfl]
 ·refine⟨(s j b).1,(s j b).2.1,?_⟩;show(if j=p then false else c.h.used j)=false
  split
  ·rfl
  ·exact(s j b).2.2
theorem zp(c:Ch)(p:Nat)(l:LP)(k:ByteArray):dh (d:=0) c ((p,l):Nat×LP) k=(c.write (p:Nat) (au true ((l.eraseIdx (ai (l.map ajZ) k)).map bE)),((p,l.eraseIdx (ai (l.map ajZ) k)):Nat×LP)):=rfl
theorem tc{c:Ch}{p:Nat}{a b:List KL}{x:KL}{k:ByteArray}(q:a.length=aG ((a++x::b).map ajZ) k){c1:Ch}{u:T 0}(hd:dh c x.2 k=(c1,u)){s:Ch×List KL}(hs:(if u.aI.isEmpty then(c1.free (u.pg:Nat),a++b)else cL (d:=0) c1 (a++(x.1,u)::b) a.length u)=s):
  dh (d:=1) c ((p,a++x::b):Nat×List KL) k=(s.1.write (p:Nat) (au false (s.2.map (aH (d:=0)))),((p,s.2):Nat×List KL)):=by
 have y:(a++x::b)[aG ((a++x::b).map ajZ) k]?=some x:=by
  rw[<-q,aj8 (akk _),akl]
  rfl
 have z:(a++x::b).set (aG ((a++x::b).map ajZ) k) (x.1,u)=a++(x.1,u)::b:=by
  rw[<-q];exact mb x (x.1,u) b a
 have B:(a++(x.1,u)::b).eraseIdx (aG ((a++x::b).map ajZ) k)=a++b:=by
  rw[<-q];exact ot (x.1,u) b a
 refine(dh.eq_2 c k 0 ((p,a++x::b):Nat×List KL)).trans ?_;simp only[y,hd];rw[z,B,<-q];rw[hs]
 rfl
theorem LZ(c:Ch)(l:List KL)(K:Nat)(u:T 0):cL (d:=0) c l K u=(c,l)\/∃D y z H,l=D++y::z::H/\D.length=K-1/\ah true (T.aI (d:=0) (T.meet (d:=0) y.2 z.1 z.2))<=1024/\cL (d:=0) c l K u=((c.write (y.2.pg:Nat) (au true (T.aI (d:=0) (T.meet (d:=0) y.2 z.1 z.2)))).free (z.2.pg:Nat),D++(y.1,T.meet (d:=0) y.2 z.1 z.2)::H):=by
 by_cases b:341<ah (bA 0) u.aI\/l.length<2
 ·left;unfold cL;rw[if_pos b]
 cases ha:l[K-1]? with
 |none=>
  left;unfold cL;rw[if_neg b,ha]
 |some y=>
  cases q:l[K-1+1]? with
  |none=>
   left;unfold cL;rw[if_neg b,ha,q]
  |some z=>
   by_cases G:1024<ah (bA 0) (T.aI (d:=0) (T.meet (d:=0) y.2 z.1 z.2))
   ·left;unfold cL;rw[if_neg b,ha,q];exact if_pos G
   ·right;obtain⟨I,J,s,B⟩:=GQ ha q;refine⟨I,y,z,J,s,B,by have L:¬1024<ah true (T.aI (d:=0) (T.meet (d:=0) y.2 z.1 z.2)):=G;omega,?_⟩;unfold cL;rw[if_neg b,ha,q];refine(if_neg G).trans ?_;rw[<-B,s,mb];have:=ot z J (I++[(y.1,T.meet (d:=0) y.2 z.1 z.2)]);rw[aj2,List.length_singleton]at this;simp only[aka,aki]at this;rw[this]
    rfl
theorem zq{l:LP}(hs:dM l){k v0:ByteArray}(h:bq l k=some v0):dm (l.map ajZ) k=true:=by
 cases b:dm (l.map ajZ) k with
 |true=>rfl
 |false=>
  have:=LS hs k;rw[b,if_neg (by simp),h]at this;cases this
theorem yl{b:ByteArray}{l:LP}(h:oy b l){k:ByteArray}(q:k≠b):oy b (cy l k):=by
 obtain⟨v,r,rfl⟩:=h;refine⟨v,cy r k,?_⟩;unfold cy;rw[akp (by simpa using fun e=>q e.symm)]
theorem oC{l:LP}{k:ByteArray}{x:ByteArray×ByteArray}(h:x∈cy l k):x∈l:=(List.mem_filter.1 h).1
structure GU(ω:Wt)(b0:ByteArray)(t:Tr)(k:ByteArray)(s:Nat)(c:Ch)(c':Ch)(t':Tr):Prop where
 hX:kd b0 t'
 kv:sn t'=cy (sn t) k
 short:py t'
 vF:jD ω t' k s<=VT ω t
 sep:∀y∈yk t',y∈yk t
 free:∀n,so t<=n->bL (n-so t) c.h->bL (n-so t') c'.h
section
variable{ω:Wt}{pg:Nat->ByteArray}{i:Nat}{c:Ch}{b0 k v0:ByteArray}
theorem ym{p:Nat}{l:LP}(s:kd b0 (some ⟨0,((p,l):Nat×LP)⟩))(G:k≠b0)(hv:bq l k=some v0)(q:py (some ⟨0,((p,l):Nat×LP)⟩)):
  ∃z B,bP c i (some ⟨0,((p,l):Nat×LP)⟩) k=(z,B)/\GU ω b0 (some ⟨0,((p,l):Nat×LP)⟩) k (ω k v0) c z B:=by
 have hs:dM l:=s.1;have H:oy b0 l:=s.2;have I:=Jq hs k (zq hs hv);have b:=yl H G;refine⟨c.write (p:Nat) (au true ((cy l k).map bE)),some ⟨0,((p,cy l k):Nat×LP)⟩,?_,⟨BJ hs k,b⟩,rfl,⟨fun e h=>q.1 e (oC h),trivial⟩,?_,(fun y J=>by cases J),fun n hn f=>f.write _ _⟩
 ·have D:=zp c p l k;rw[I]at D;unfold bP;simp only[D];rw[if_neg];intro h;obtain⟨v,r,L⟩:=b;have h:((cy l k).map bE).isEmpty=true:=h;rw[L]at h;cases h
 ·show max (aN ω (cy l k)+ω k v0) 347<=max (aN ω l) 347;rw[ry ω hs hv];exact akk _
structure UN(ω:Wt)(b0:ByteArray)(p:Nat)(ls:List KL)(k:ByteArray)(s:Nat)(c c1:Ch)(L0:List KL):Prop where
 ord:eX L0
 hd:∃y0 r,L0=y0::r/\y0.1=b0/\oy b0 y0.kv
 kv:dI L0=cy (dI ls) k
 keys:∀x∈L0,x.1.size<=26
 vF:jD ω (some ⟨1,((p,L0):Nat×List KL)⟩) k s<=VS ω ls
 sep:∀y∈L0.map ajZ,y∈ls.map ajZ
 used:eW c1 p
 free:∀n,ls.length+1<=n->bL (n-(ls.length+1)) c.h->bL (n-(L0.length+1)) c1.h
theorem td{p:Nat}{ls q:List KL}{c1:Ch}{s:Nat}(O:py (some ⟨1,((p,ls):Nat×List KL)⟩))(hd:dh (d:=1) c ((p,ls):Nat×List KL) k=(c1.write (p:Nat) (au false (q.map (aH (d:=0)))),((p,q):Nat×List KL)))(z:UN ω b0 p ls k s c c1 q)(hk:¬ay k b0):
  ∃Q S,bP c i (some ⟨1,((p,ls):Nat×List KL)⟩) k=(Q,S)/\GU ω b0 (some ⟨1,((p,ls):Nat×List KL)⟩) k s c Q S:=by
 obtain⟨B,r,G,U,V⟩:=z.hd;have H:¬(T.aI (d:=1) ((p,q):Nat×List KL)).isEmpty=true:=by
  intro h;have h:(q.map (aH (d:=0))).isEmpty=true:=h;rw[G]at h;cases h
 have I:∀e∈dI q,e.1.size<=26:=fun e h=>O.1 e (oC (by rw[z.kv]at h;exact h));have J:eW (c1.write (p:Nat) (au false (q.map (aH (d:=0))))) p:=⟨z.used.1,z.used.2.1,by rw[iu];exact z.used.2.2⟩;cases r with
 |nil=>
  have D:q=[B]:=G;refine⟨((c1.write (p:Nat) (au false (q.map (aH (d:=0))))).free (p:Nat)).root i (T.pg (d:=0) B.2:Nat),some ⟨0,B.2⟩,?_,?_,?_,⟨?_,trivial⟩,?_,(fun y M=>by cases M),fun n hn f=>?_⟩
  ·unfold bP;simp only[hd];rw[if_neg H];subst D
   rfl
  ·rw[D]at z;exact⟨(z.ord.leaf B (by simp)).1,V⟩
  ·show KL.kv B=cy (dI ls) k;rw[<-z.kv,D,cF,mi,ake]
  ·intro e h;have h:e∈KL.kv B:=h;refine I e ?_;rw[D,cF,mi,ake];exact h
  ·have hv:=z.vF;rw[D]at hv;have ho:eX ([]++B::[]):=by
    have Y:=z.ord;rw[D]at Y;exact Y
   have L:¬ay k B.1:=by rw[U];exact hk
   have hz:=jy (a:=[]) (b:=[]) (x:=B) (k:=k) ho (x0:=B) (r0:=[]) rfl L L (fun y M=>by cases M);have Z:=dx (ω:=ω) (p:=p) (s:=s) hz;rw[akh]at Z;rw[Z]at hv;have h0:VS ω []=0:=rfl;rw[h0]at hv;show max (aN ω B.kv+s) 347<=VS ω ls;omega
  ·have g1:so (some ⟨1,((p,ls):Nat×List KL)⟩)=ls.length+1:=rfl;have g2:so (some ⟨0,B.2⟩)=1:=rfl;rw[g1]at f hn;rw[g2];have f1:=z.free n hn f;rw[D]at f1;have f2:=(f1.write (p:Int) (au false ([B].map (aH (d:=0))))).LY (by rw[D]at J;exact J);refine bL.used (h:=((c1.write (p:Nat) (au false (q.map (aH (d:=0))))).free (p:Nat)).h) ?_ rfl;rw[D];refine f2.mono ?_;simp only[aj_,akm];omega
 |cons y1 r=>
  refine⟨c1.write (p:Nat) (au false (q.map (aH (d:=0)))),some ⟨1,((p,q):Nat×List KL)⟩,?_,⟨z.ord,B,y1::r,G,U,V⟩,z.kv,⟨I,z.keys⟩,z.vF,z.sep,fun n hn f=>(z.free n hn f).write _ _⟩;unfold bP;simp only[hd];rw[if_neg H];subst G
  rfl
end
def mL(y z:KL):KL:=(y.1,T.meet (d:=0) y.2 z.1 z.2)
theorem nH(y z:KL):(mL y z).kv=y.kv++z.kv:=rfl
theorem yn{a b:List KL}{y z:KL}(h:eX (a++y::z::b)):eX (a++mL y z::b):=by
 obtain⟨J,L,H⟩:=iq.1 h;obtain⟨I,M,B⟩:=ir.1 L;obtain⟨D,O,Q⟩:=ir.1 M;refine iq.2 ⟨J,ir.2 ⟨⟨?_,?_⟩,O,fun u hu=>⟨(B u (aj0 _ hu)).1,fun e s=>?_⟩⟩,fun u hu w hw=>?_⟩
 ·rw[nH];unfold dM;rw[aj3];refine ko.2 ⟨I.1,D.1,fun p S q U=>?_⟩;obtain⟨e,s,rfl⟩:=akf.1 S;obtain⟨f,hf,rfl⟩:=akf.1 U;exact fD ((B z aj4).2 e s) (D.2 f hf)
 ·intro e s;rw[nH]at s;rcases aj6.1 s with s|s
  ·exact I.2 e s
  ·intro G;exact D.2 e s (eL G (B z aj4).1)
 ·rw[nH]at s;rcases aj6.1 s with s|s
  ·exact(B u (aj0 _ hu)).2 e s
  ·exact(Q u hu).2 e s
 ·rcases akb.1 hw with e|hw
  ·rw[e];exact H u hu y aj4
  ·exact H u hu w (aj0 _ (aj0 _ hw))
theorem Pd(a b:List KL)(y z:KL):dI (a++mL y z::b)=dI (a++y::z::b):=by
 rw[cV,cV,cF,cF,cF,nH,aka]
section
variable{ω:Wt}{pg:Nat->ByteArray}{i:Nat}{c:Ch}{b0 k v0:ByteArray}
theorem yo{p:Nat}{ls:List KL}(hl:T.lays (d:=1) c pg ((p,ls):Nat×List KL))(e4:(T.af (d:=1) ((p,ls):Nat×List KL)).Nodup)(hg:kd b0 (some ⟨1,((p,ls):Nat×List KL)⟩))(O:¬ay k b0)(g9:k≠b0)(hv:bq (dI ls) k=some v0)(c7:py (some ⟨1,((p,ls):Nat×List KL)⟩)):
  ∃c' t',bP c i (some ⟨1,((p,ls):Nat×List KL)⟩) k=(c',t')/\GU ω b0 (some ⟨1,((p,ls):Nat×List KL)⟩) k (ω k v0) c c' t':=by
 obtain⟨ho,x0,r0,e0,g0,c8⟩:=hg;have ho:eX ls:=ho;have e0:ls=x0::r0:=e0;have e4:(p::ls.flatMap fun y=>T.af y.2).Nodup:=e4;obtain⟨np,_⟩:=akz.1 e4;have g4:eW c p:=hl.1.1;have a9:∀y∈ls,eW c (T.pg y.2)/\T.pg y.2≠p:=fun y B=>by
  have h1:T.lays c pg y.2:=hl.2 y B;refine⟨T.cx h1 _ (T.ei y.2),fun e=>np ?_⟩;rw[<-e];exact akv.2 ⟨y,B,T.ei y.2⟩
 obtain⟨a,x,b,h1,h2,h3,h4,h5,h6,oa,ox,ob,c9,b1⟩:=gl ho e0 (k:=k) (by rw[g0];exact O);subst h1;have S:∀y∈a++x::b,y.1.size<=26:=c7.2;have k4:bq x.kv k=some v0:=by rw[BK h5 h6]at hv;exact hv
 have j3:cy (dI (a++x::b)) k=dI a++cy x.kv k++dI b:=O8 h5 h6;obtain⟨D,q⟩:=x;obtain⟨q,l⟩:Nat×LP:=q;have d0:dM l:=ox.1;have k5:∀e∈l,¬ay e.1 D:=ox.2;have i0:bq l k=some v0:=k4;have d1:¬ay k D:=h3;have b3:eW c q/\q≠p:=a9 (bd D q l) (by simp);have k6:=ry ω d0 i0;have i1:=Jq d0 k (zq d0 i0);have i2:∀u∈a,∀y∈b,ay u.1 y.1/\∀e∈u.kv,ay e.1 y.1:=fun u hu y B=>⟨eL (b1 u hu).1 (c9 y B).1,fun e he=>eL ((b1 u hu).2 e he) (c9 y B).1⟩;have d2:VS ω (a++bd D q l::b)=VS ω a+(max (aN ω l) 347+VS ω b):=by
  rw[oB,kR]
  rfl
 obtain⟨G,Z⟩:∃G,cy l k=G:=⟨_,rfl⟩;have c6:cy (dI (a++bd D q l::b)) k=dI a++G++dI b:=by rw[<-Z];exact j3
 rw[Z]at k6 i1;have b4:=zp c q l k;rw[i1]at b4;obtain⟨L,i3⟩:∃L,c.write (q:Nat) (au true (G.map bE))=L:=⟨_,rfl⟩;rw[i3]at b4;have a0:L.h=c.h:=by rw[<-i3];exact iu _ _ _
 have Q:∀j,eW c j->eW L j:=fun j Y=>⟨Y.1,Y.2.1,by rw[a0];exact Y.2.2⟩;have d5:(a++bd D q l::b).length=a.length+(b.length+1):=by rw[aj2,aj_]
 have a6:∀(U:Ch) (z:Nat),eW U p->eW U z->z≠p->eW (U.free (z:Nat)) p:=fun U z I J h9=>by
  rw[sS J];refine⟨I.1,I.2.1,?_⟩;show(if p=z then false else U.h.used p)=true;rw[if_neg (fun e=>h9 e.symm)];exact I.2.2
 by_cases b5:G=[]
 ·
  have b9:a≠[]:=fun e=>by
   subst e;rw[akh]at e0;injection e0 with e1 e2
   have I:oy b0 l:=by rw[<-e1]at c8;exact c8
   obtain⟨u,r,J⟩:=yl I g9;rw[Z,b5]at J;cases J
  obtain⟨V,y,ha⟩:∃V y,a=V++[y]:=⟨a.dropLast,a.getLast b9,(List.dropLast_concat_getLast b9).symm⟩;have hd:=tc (p:=p) (c:=c) (s:=(L.free (q:Nat),a++b)) h2 b4 (by
   rw[b5]
   rfl)
  have c0:eX (a++b):=iq.2 ⟨oa,ob,i2⟩;have H:∃(M:KL) (r:List KL),a++b=M::r/\M.1=b0/\oy b0 M.kv:=by
   cases i4:a with
   |nil=>exact absurd i4 b9
   |cons u a2=>
    rw[i4]at e0;injection e0 with e1 e2
    exact⟨u,a2++b,rfl,by rw[e1];exact g0,by rw[e1];exact c8⟩
  refine td c7 hd ⟨c0,H,?_,fun y B=>?_,?_,fun y B=>?_,a6 L q (Q p g4) (Q q b3.1) b3.2,fun n hn f=>?_⟩ O
  ·show dI (a++b)=_;rw[cV,c6,b5,ake]
  ·rcases aj6.1 B with B|B
   ·exact S y (aj5 _ B)
   ·exact S y (aj1 _ (aj0 _ B))
  ·obtain⟨M,r,I,J,_⟩:=H;have b6:a++b=V++y::b:=by rw[ha];simp
   have g5:¬ay k y.1:=di (fD (b1 y (by rw[ha];simp)).1 d1);rw[b6]at c0 I;have hz:=jy c0 I (k:=k) (by rw[J];exact O) g5 h4;have hp:=dx (ω:=ω) (p:=p) (s:=ω k v0) hz;show jD ω (some ⟨1,((p,a++b):Nat×List KL)⟩) k (ω k v0)<=VS ω (a++bd D q l::b);rw[b6,hp,d2,ha,oB,kR];have g1:VS ω []=0:=rfl;have g2:wl ω y.kv=max (aN ω y.kv) 347:=rfl;have g3:aN ω G=0:=by rw[b5];rfl
   rw[g1,g2];omega
  ·rw[aj3]at B;rw[aj3,akd];rcases aj6.1 B with B|B
   ·exact aj5 _ B
   ·exact aj1 _ (aj0 _ B)
  ·have f1:bL (n-((a++bd D q l::b).length+1)) L.h:=by rw[a0];exact f
   have hn:(a++bd D q l::b).length+1<=n:=hn;refine(f1.LY (Q q b3.1)).mono ?_;show n-((a++b).length+1)<=_;rw[aj2];rw[d5]at hn⊢;omega
 ·
  have i6:∀e∈G,e∈l:=fun e he=>by
   rw[<-Z]at he;exact oC he
  have c3:eX (a++bd D q G::b):=by
   have o1:eX [bd D q G]:=ir.2 ⟨⟨by rw[<-Z];exact BJ d0 k,fun e he=>k5 e (i6 e he)⟩,⟨by simp,(fun y B=>by cases B),by simp⟩,fun y B=>by cases B⟩;have hm:∀z∈[bd D q G],¬ay z.1 D/\∀y∈b,ay z.1 y.1/\∀e∈KL.kv z,ay e.1 y.1:=fun z hz=>by
    rw[aj7.1 hz];exact⟨bg D,fun y B=>⟨(c9 y B).1,fun e he=>(c9 y B).2 e (i6 e he)⟩⟩
   exact yj oa ob o1 b1 hm i2
  have H:∃(M:KL) (r:List KL),a++bd D q G::b=M::r/\M.1=b0/\oy b0 M.kv:=wX (m:=[bd D q G]) (m':=[]) (z:=bd D q G) e0 g0 c8 rfl rfl (fun h=>by
   have I:oy b0 l:=h;have J:=yl I g9;rw[Z]at J;exact J)
  have d7:dI (a++bd D q G::b)=cy (dI (a++bd D q l::b)) k:=by
   rw[c6,cV,cF,aka (dI a)]
   rfl
  have i7:∀y∈a++bd D q G::b,y.1.size<=26:=fun y B=>by
   rcases aj6.1 B with B|B
   ·exact S y (aj5 _ B)
   ·rcases akb.1 B with e|B
    ·rw[e];exact S (bd D q l) (by simp)
    ·exact S y (aj1 _ (aj0 _ B))
  have i9:(if(T.aI (d:=0) ((q,G):Nat×LP)).isEmpty then(L.free (T.pg (d:=0) ((q,G):Nat×LP):Nat),a++b)else cL (d:=0) L (a++bd D q G::b) a.length ((q,G):Nat×LP))=cL (d:=0) L (a++bd D q G::b) a.length ((q,G):Nat×LP):=by
   rw[if_neg];intro h;have h:(G.map bE).isEmpty=true:=h;cases j0:G with
   |nil=>exact b5 j0
   |cons e r=>rw[j0]at h;cases h
  have j4:∀y∈a++bd D q G::b,eW L (T.pg y.2)/\T.pg y.2≠p:=fun y B=>by
   rcases aj6.1 B with B|B
   ·exact⟨Q _ (a9 y (aj5 _ B)).1,(a9 y (aj5 _ B)).2⟩
   ·rcases akb.1 B with e|B
    ·rw[e];exact⟨Q _ b3.1,b3.2⟩
    ·exact⟨Q _ (a9 y (aj1 _ (aj0 _ B))).1,(a9 y (aj1 _ (aj0 _ B))).2⟩
  rcases LZ L (a++bd D q G::b) a.length ((q,G):Nat×LP)with Y|⟨V,(y:KL),(z:KL),b2,hj1,hj2,hj3,Y⟩
  ·have hd:=tc (p:=p) (c:=c) (s:=(L,a++bd D q G::b)) h2 b4 (i9.trans Y);refine td c7 hd ⟨c3,H,d7,i7,?_,fun y B=>?_,Q p g4,fun n hn f=>?_⟩ O
   ·obtain⟨M,r,I,J,_⟩:=H;have hz:=jy c3 I (k:=k) (by rw[J];exact O) d1 h4;have hp:=dx (ω:=ω) (p:=p) (s:=ω k v0) hz;show jD ω (some ⟨1,((p,a++bd D q G::b):Nat×List KL)⟩) k (ω k v0)<=VS ω (a++bd D q l::b);rw[hp,d2];have g1:aN ω (bd D q G).kv=aN ω G:=rfl;rw[g1];omega
   ·rw[aj3,akd]at B⊢;exact B
   ·rw[a0];have e9:(a++bd D q l::b).length=(a++bd D q G::b).length:=by rw[aj2,aj2];rfl
    have f:bL (n-((a++bd D q l::b).length+1)) c.h:=f;rw[e9]at f;exact f
  ·obtain⟨U,j1⟩:∃U,L.write (T.pg y.2:Nat) (au true (T.aI (d:=0) (T.meet (d:=0) y.2 z.1 z.2)))=U:=⟨_,rfl⟩;rw[j1]at Y;have d8:U.h=L.h:=by rw[<-j1];exact iu _ _ _
   have g6:∀j,eW L j->eW U j:=fun j Y=>⟨Y.1,Y.2.1,by rw[d8];exact Y.2.2⟩;have hd:=tc (p:=p) (c:=c) (s:=(U.free (T.pg z.2:Nat),V++mL y z::b2)) h2 b4 (i9.trans Y);have g7:=j4 z (by rw[hj1];simp);have j5:=congrArg List.length hj1;rw[aj2,aj2,aj_,aj_,aj_]at j5;have a4:=c3;rw[hj1]at a4;have a5:=i7;rw[hj1]at a5;have d9:=d7;rw[hj1]at d9;have a8:∃(M:KL) (r:List KL),V++mL y z::b2=M::r/\M.1=b0/\oy b0 M.kv:=by
    obtain⟨M,r,I,J,h9⟩:=H;rw[hj1]at I;cases V with
    |nil=>
     injection I with e1 e2
     subst e1;refine⟨mL y z,b2,rfl,J,?_⟩;obtain⟨u,r,e3⟩:=h9;exact⟨u,r++z.kv,by rw[nH,e3];rfl⟩
    |cons u a2=>
     injection I with e1 e2
     subst e1;exact⟨u,a2++mL y z::b2,rfl,J,h9⟩
   refine td c7 hd ⟨yn a4,a8,by rw[Pd];exact d9,fun w hw=>?_,?_,fun w hw=>?_,a6 U _ (g6 p (Q p g4)) (g6 _ g7.1) g7.2,fun n hn f=>?_⟩ O
   ·rcases aj6.1 hw with hw|hw
    ·exact a5 w (aj5 _ hw)
    ·rcases akb.1 hw with e|hw
     ·rw[e];exact a5 y (by simp)
     ·exact a5 w (aj1 _ (aj0 _ (aj0 _ hw)))
   ·show jD ω (some ⟨1,((p,V++mL y z::b2):Nat×List KL)⟩) k (ω k v0)<=VS ω (a++bd D q l::b);obtain⟨M,r,I,J,_⟩:=a8;have b6:aN ω (mL y z).kv=aN ω y.kv+aN ω z.kv:=by rw[nH,fz]
    rcases List.eq_nil_or_concat a with j6|⟨a3,y3,g8⟩
    ·subst j6;have k7:V=[]:=List.eq_nil_of_length_eq_zero (by rw[hj2];rfl);subst k7;rw[akh,akh]at hj1;injection hj1 with e1 e2
     subst e1;have k8:∀w∈b2,ay k w.1:=fun w hw=>h4 w (by rw[e2];exact aj0 _ hw);have hz:=jy (yn a4) I (k:=k) (by rw[J];exact O) (x:=mL (bd D q G) z) d1 k8;have hp:=dx (ω:=ω) (p:=p) (s:=ω k v0) hz;rw[hp,d2,e2,kR,b6];have g1:aN ω (bd D q G).kv=aN ω G:=rfl;have g2:wl ω z.kv=max (aN ω z.kv) 347:=rfl;have g3:VS ω []=0:=rfl;rw[g1,g2,g3];omega
    ·have g8:a=a3++[y3]:=by rw[g8];simp
     subst g8;have k9:V=a3/\y::z::b2=y3::bd D q G::b:=by
      have e5:a3++(y3::bd D q G::b)=V++(y::z::b2):=by rw[<-hj1];simp
      have e6:a3.length=V.length:=by rw[hj2,aj2];rfl
      obtain⟨e7,e8⟩:=List.append_inj e5 e6;exact⟨e7.symm,e8.symm⟩
     obtain⟨rfl,e8⟩:=k9;injection e8 with e9 l0
     injection l0 with l1 l2
     subst e9 l1 l2;have g5:¬ay k y.1:=di (fD (b1 y (by simp)).1 d1);have hz:=jy (yn a4) I (k:=k) (by rw[J];exact O) (x:=mL y (bd D q G)) g5 h4;have hp:=dx (ω:=ω) (p:=p) (s:=ω k v0) hz;rw[hp,d2,oB,kR,b6];have g1:aN ω (bd D q G).kv=aN ω G:=rfl;have g2:wl ω y.kv=max (aN ω y.kv) 347:=rfl;have g3:VS ω []=0:=rfl;rw[g1,g2,g3];omega
   ·have h9:w∈(a++bd D q G::b).map ajZ:=by
     rw[hj1,aj3,akd,akd];rw[aj3,akd]at hw;rcases aj6.1 hw with hw|hw
     ·exact aj5 _ hw
     ·rcases akb.1 hw with e|hw
      ·rw[e];exact aj1 _ aj4
      ·exact aj1 _ (aj0 _ (aj0 _ hw))
    rw[aj3,akd]at h9⊢;exact h9
   ·have f1:bL (n-((a++bd D q l::b).length+1)) U.h:=by rw[d8,a0];exact f
    have hn:(a++bd D q l::b).length+1<=n:=hn;refine(f1.LY (g6 _ g7.1)).mono ?_;show n-((V++mL y z::b2).length+1)<=_;rw[aj2,aj_];rw[d5]at hn⊢;omega
end
