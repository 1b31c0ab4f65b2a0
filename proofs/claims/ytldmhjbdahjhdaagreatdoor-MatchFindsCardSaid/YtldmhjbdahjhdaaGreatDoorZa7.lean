/-
  Part 7 of the proof.
-/
import Derived.Test.YtldmhjbdahjhdaaGreatDoorZa6
open Go.Proofs.Tryz
open Go.Lib renaming hid->ae
open Go.World renaming cell?_alloc_new->ak,cell?_setCell_other->aU,cell?_setCell_same->bF
open List renaming mem_cons_of_mem->ap,length_append->az,mem_append_right->aJ,mem_append_left->aS,mem_append->aV,map_append->aX,mem_cons_self->bc,mem_singleton->bh,length_cons->bj,take_append_drop->bt,mem_cons->bu,append_nil->bv,append_assoc->bz,mem_map_of_mem->bA,map_cons->bB,mem_of_mem_take->bC,nil_append->bP,mem_map->bQ,getElem?_eq_getElem->bT,mem_of_getElem?->bX,length_nil->bZ,length_map->b_,filter_cons_of_pos->cg,singleton_append->ch,mem_of_mem_drop->cj,pairwise_cons->cl,getElem?_map->cs,nodup_cons->cL
open Prod renaming fst->aQ,snd->da
open Nat renaming le_trans->bM,lt_of_lt_of_le->co,zero_add->cD,le_refl->cK,lt_or_ge->dh,le_of_lt->di,zero_le->dr
open Go renaming World->bW,bodyPost_ret->cF,Value->de,Calls->dg,results->dA
open Go.Value renaming slice->cf
open Option.some renaming inj->cO
open Go.Proofs.Tryz renaming results256->cW
set_option maxRecDepth 100000
set_option maxHeartbeats 100000000
set_option linter.all false
namespace Go.Proofs.YtldmhjbdahjhdaaGreatDoor
section
open Go Go.RowKit
theorem KQ{b0:ByteArray}{l:LP}(hs:eC l)(h:pm b0 l){k:ByteArray}(y:¬aC k b0)(v:ByteArray):pm b0 (au l k v):=by
 obtain⟨u,r,rfl⟩:=h;rcases kN b0 k with b|b|b
 ·refine⟨u,(r.filter fun x=>decide (aC x.1 k))++(k,v)::((b0,u)::r).filter fun x=>decide (aC k x.1),?_⟩;unfold au;rw[cg (by simpa using b)]
  rfl
 ·subst b;have z:∀x∈r,aC b0 x.1:=fun x q=>(cl.1 hs).1 x.1 (bA q);refine⟨v,r,?_⟩;have s:=mz [] [(b0,u)] r b0 v (fun x q=>by cases q) z;simp only[bP,ch]at s;rw[s];unfold au;have B:¬aC b0 b0:=bL b0;simp[B]
 exact absurd b y
theorem KR{kx:ByteArray}{R:LP}{n p q:Nat}(hs:eC R)(L:∀e∈R,¬aC e.1 kx)(M:R.take n≠[])(O:R.drop n≠[]):
  fF [(kx,((p,R.take n):Nat×LP)),(keyOf (R.drop n),((q,R.drop n):Nat×LP))]/\(∃v,(keyOf (R.drop n),v)∈R)/\aC kx (keyOf (R.drop n)):=by
 have s:eC (R.take n++R.drop n):=by rw[bt];exact hs
 unfold eC at s;rw[aX]at s;obtain⟨Q,I,S⟩:=lf.1 s;obtain⟨D,Z,B⟩:∃e r,R.drop n=e::r:=by
  cases h:R.drop n with
  |nil=>exact absurd h O
  |cons a r=>exact⟨a,r,rfl⟩
 have z:keyOf (R.drop n)=D.1:=by rw[B];rfl
 have U:D∈R:=cj (by rw[B];exact bc);have G:∀e∈R.take n,aC e.1 (keyOf (R.drop n)):=fun e b=>by
  rw[z];exact S e.1 (bA b) D.1 (bA (by rw[B];exact bc))
 have H:aC kx (keyOf (R.drop n)):=by
  cases h:R.take n with
  |nil=>exact absurd h M
  |cons a r=>
   have V:=G a (by rw[h];exact bc);exact vT (L a (bC (by rw[h];exact bc))) V
 refine⟨i_.2 ⟨⟨Q,fun e b=>L e (bC b)⟩,i_.2 ⟨⟨I,fun e b=>?_⟩,⟨by simp,fun x b=>by simp at b,by simp⟩,fun y J=>by simp at J⟩,fun y J=>?_⟩,⟨D.2,by rw[z];exact U⟩,H⟩
 ·have b:e∈R.drop n:=b;show¬aC e.1 (keyOf (R.drop n));rw[z];rw[B]at b;rcases bu.1 b with Y|b
  ·rw[Y];exact bL _
  rw[B,bB]at I;exact dO ((cl.1 I).1 e.1 (bA b))
 rw[bh.1 J];exact⟨H,G⟩
theorem Pq{l:LP}{k v:ByteArray}(b:∀e∈l.map cy,e.ok true)(q:k.size<=60)(hv:v.size<=100):∀e∈(eN l k v).map cy,e.ok true:=fun e s=>by
 obtain⟨x,y,rfl⟩:=bQ.1 s;rcases Gd y with h|h
 ·exact b _ (bA h)
 rw[h];exact⟨q,hv,by show(0:Nat)<2000;omega,fun _=>rfl,(fun h=>by cases h)⟩
theorem Pr{l:LP}{k v:ByteArray}(h:lb l<=1024)(b:k.size<=60)(hv:v.size<=100):lb (eN l k v)<=1400:=by
 have q:=Ao (l:=l) (key:=k) (item:=v);have s:(cy (k,v)).sz true<=162:=En.oV ⟨b,hv,by show(0:Nat)<2000;omega,fun _=>rfl,(fun h=>by cases h)⟩;have y:lb l=aj true (l.map cy):=rfl;have z:lb (eN l k v)=aj true ((eN l k v).map cy):=rfl;omega
structure Ps(ω:Wt)(b0:ByteArray)(t:Tr)(k v:ByteArray)(c:Ch)(c':Ch)(t':Tr):Prop where
 iL:kO b0 t'
 kv:tB t'=au (tB t) k v
 short:qq t'
 wR:∀r,ki ω t' k r<=ki ω t k (r+(ω k v-oz ω (tB t) k))
 sep:∀y∈zq t',y∈zq t\/y∈(au (tB t) k v).map aQ
 free:∀n,tC t+2<=n->cH (n-tC t) c.h->cH (n-tC t') c'.h
theorem CT{t:Tr}{k v:ByteArray}(h:∀e∈tB t,e.1.size<=26)(q:k.size<=26):∀e∈au (tB t) k v,e.1.size<=26:=fun e s=>by
 rcases oL s with b|b
 ·exact h e b
 rw[b];exact q
theorem CU{b0:ByteArray}{R:LP}{n:Nat}(h:pm b0 R)(b:R.take n≠[]):pm b0 (R.take n):=by
 obtain⟨v,r,rfl⟩:=h;cases n with
 |zero=>exact absurd rfl b
 |succ n=>exact⟨v,r.take n,rfl⟩
section
variable{ω:Wt}(Na:∀k v,pz k v<=ω k v){pg:Nat->ByteArray}{i:Nat}{c:Ch}{b0 k v:ByteArray}
theorem BD(hc:c.aE)(H:k=b0)(b:k.size<=26)(hv:v.size<=100)(hf:cH 2 c.h):∃D G,bN c i none k v=(D,G,0)/\Ps ω b0 none k v c D G:=by
 obtain⟨q,I,_⟩:=cH.oM (n:=1) hc hf;refine⟨(c.alloc.write (q:Nat) (aw true [⟨k,v,0⟩])).root i (q:Nat),some ⟨0,(q,[(k,v)])⟩,?_,?_,rfl,⟨fun e s=>?_,trivial⟩,fun r=>?_,(fun y J=>by cases J),fun n hn f=>?_⟩
 ·unfold bN;rw[I]
 ·exact⟨by simp[eC,T.kv],⟨v,[],by rw[<-H];rfl⟩⟩
 ·have s:e∈[(k,v)]:=s;rw[bh.1 s];exact b
 ·show max (aZ ω [(k,v)]+r) 347<=max (r+(ω k v-oz ω [] k)) 347;have L:aZ ω [(k,v)]=ω k v+aZ ω []:=gC _ _ _;have M:aZ ω []=0:=rfl;have O:oz ω [] k=0:=rfl;omega
 have z:tC none=0:=rfl;have B:tC (some ⟨0,((q,[(k,v)]):Nat×LP)⟩)=1:=rfl;rw[z]at f hn;obtain⟨_,_,f2⟩:=cH.oM (n:=n-1) hc (f.mono (by omega));refine cH.used (h:=(c.alloc.write (q:Nat) (aw true [⟨k,v,0⟩])).h) ?_ rfl;rw[B];exact f2.write _ _
include Na in
theorem BE{p:Nat}{l:LP}(hc:c.aE)(Z:qG true (l.map cy))(hg:kO b0 (some ⟨0,((p,l):Nat×LP)⟩))(hk:¬aC k b0)(b5:qq (some ⟨0,((p,l):Nat×LP)⟩))(a5:k.size<=26)(hv:v.size<=100)(hf:cH 2 c.h):
  ∃c' t',bN c i (some ⟨0,((p,l):Nat×LP)⟩) k v=(c',t',0)/\Ps ω b0 (some ⟨0,((p,l):Nat×LP)⟩) k v c c' t':=by
 have hs:eC l:=hg.1;have hh:pm b0 l:=hg.2;have hR:=Pn hs k v;have c5:=vq ω hs k v;have Q:=Gl hs k v;have S:=KQ hs hh hk v;have a6:=Pq (k:=k) (v:=v) Z.2.2 (by omega) hv;have b6:=Pr (l:=l) (k:=k) (v:=v) Z.2.1 (by omega) hv;have D:∀e∈au l k v,e.1.size<=26:=CT (t:=some ⟨0,((p,l):Nat×LP)⟩) b5.1 a5;have H:∀s,ki ω (some ⟨0,((p,l):Nat×LP)⟩) k s=max (aZ ω l+s) 347:=fun _=>rfl;have a1:oz ω (tB (some ⟨0,((p,l):Nat×LP)⟩)) k=oz ω l k:=rfl;rcases dh 1024 (lb (eN l k v))with G|M
 ·obtain⟨n1,n2,f1,f2,f3,f4,f5⟩:=KM a6 G b6;obtain⟨q,hq,a3⟩:=cH.oM (n:=1) hc hf;obtain⟨U,O,e2⟩:=rh (p:=p) G hq;rw[<-e2]at a3;have a4:U.h.aE:=by rw[e2];exact hc.p_.head
  obtain⟨r,hr,_⟩:=a3.alloc (n:=0) a4;rw[hR]at n1 n2 f1 f2 f3 f4 f5 O G;obtain⟨cut,hcut⟩:∃cut,dj true ((au l k v).map cy)=cut:=⟨_,rfl⟩;rw[hcut]at n1 n2 f1 f2 f3 f4 f5 O;obtain⟨o1,⟨v2,o2⟩,o3⟩:=KR (kx:=b0) (R:=au l k v) (n:=cut) (p:=p) (q:=q) Q (QJ Q S) n1 n2;obtain⟨v3,r3,I⟩:=CU S n1;have V:((T.aO (d:=0) ((p,(au l k v).take cut):Nat×LP)).head?.map En.key).getD fJ=b0:=by
   show((((au l k v).take cut).map cy).head?.map En.key).getD fJ=b0;rw[I]
   rfl
  obtain⟨B,b7⟩:∃B,keyOf ((au l k v).drop cut)=B:=⟨_,rfl⟩;rw[b7]at O o1 o2 o3;refine⟨(U.alloc.write (r:Nat) (aw false [⟨b0,fJ,p⟩,⟨B,fJ,q⟩])).root i (r:Nat),some ⟨1,((r,[(b0,((p,(au l k v).take cut):Nat×LP)),(B,((q,(au l k v).drop cut):Nat×LP))]):Nat×List KL)⟩,?_,?_,?_,⟨?_,?_⟩,fun s=>?_,fun y J=>?_,fun n hn f=>?_⟩
  ·unfold bN;simp only[O,hr,V]
   rfl
  ·exact⟨o1,_,_,rfl,rfl,v3,r3,I⟩
  ·show eo [(b0,((p,(au l k v).take cut):Nat×LP)),(B,((q,(au l k v).drop cut):Nat×LP))]=au l k v;rw[dm,dm,ng,bv];exact bt cut _
  ·intro e L;have L:e∈eo [(b0,((p,(au l k v).take cut):Nat×LP)),(B,((q,(au l k v).drop cut):Nat×LP))]:=L;rw[dm,dm,ng,bv]at L;have L:e∈(au l k v).take cut++(au l k v).drop cut:=L;rw[bt]at L;exact D e L
  ·intro x Y;have Y:x∈[(b0,((p,(au l k v).take cut):Nat×LP)),(B,((q,(au l k v).drop cut):Nat×LP))]:=Y;rcases bu.1 Y with e|Y
   ·rw[e];exact D (b0,v3) (bC (by rw[I];exact bc))
   rw[bh.1 Y];exact D _ o2
  ·rw[sj]at f3 f4 f5;rw[sj,sj]at f5;have z1:=pn Na ((au l k v).take cut);have z2:=pn Na ((au l k v).drop cut);have z3:aZ ω (au l k v)=aZ ω ((au l k v).take cut)+aZ ω ((au l k v).drop cut):=by rw[<-gg,bt]
   have hp:=Ay (ω:=ω) (a:=[]) (b:=[]) (p:=r) (x:=(b0,((p,(au l k v).take cut):Nat×LP))) (y:=(B,((q,(au l k v).drop cut):Nat×LP))) (k:=k) (r:=s) o1 rfl hk hk (fun z hz=>by cases hz) (show 347<=aZ ω ((au l k v).take cut)by omega) (show 347<=aZ ω ((au l k v).drop cut)by omega);have hp:ki ω (some ⟨1,((r,[(b0,((p,(au l k v).take cut):Nat×LP)),(B,((q,(au l k v).drop cut):Nat×LP))]):Nat×List KL)⟩) k s=VS ω []+(aZ ω ((au l k v).take cut)+aZ ω ((au l k v).drop cut)+s)+VS ω []:=hp;have h1:VS ω []=0:=rfl;rw[hp,H,a1,h1];omega
  ·have J:y∈[b0,B]:=J;refine .inr ?_;show y∈(au l k v).map aQ;rcases bu.1 J with e|J
   ·rw[e];exact bQ.2 ⟨(b0,v3),bC (by rw[I];exact bc),rfl⟩
   rw[bh.1 J];exact bQ.2 ⟨_,o2,rfl⟩
  have g1:tC (some ⟨0,((p,l):Nat×LP)⟩)=1:=rfl;have g2:tC (some ⟨1,((r,[(b0,((p,(au l k v).take cut):Nat×LP)),(B,((q,(au l k v).drop cut):Nat×LP))]):Nat×List KL)⟩)=3:=rfl;rw[g1]at f hn;rw[g2];obtain⟨_,_,h2⟩:=cH.oM (n:=n-2) hc (f.mono (by omega));rw[<-e2]at h2;have h3:cH (n-3) U.alloc.h:=by
   have b8:cH (n-3+1) U.h:=h2.mono (by omega);obtain⟨r',b9,h4⟩:=b8.alloc a4;unfold Ch.alloc;rw[b9];exact h4
  refine cH.used (h:=(U.alloc.write (r:Nat) (aw false [⟨b0,fJ,p⟩,⟨B,fJ,q⟩])).h) ?_ rfl;exact h3.write _ _
 rw[hR]at M;refine⟨c.write (p:Nat) (aw true ((eN l k v).map cy)),some ⟨0,((p,au l k v):Nat×LP)⟩,?_,⟨Q,S⟩,rfl,⟨D,trivial⟩,fun s=>?_,(fun y J=>by cases J),fun n hn f=>f.write _ _⟩
 ·have O:=te (c:=c) (p:=p) (l:=l) (k:=k) (v:=v) (by rw[hR];exact M);unfold bN;simp only[O];rw[hR]
 show max (aZ ω (au l k v)+s) 347<=_;rw[H,a1];omega
end
abbrev bJ (k:ByteArray) (p:Nat) (l:LP):KL:=(k,((p,l):Nat×LP))
section
variable{ω:Wt}(Na:∀k v,pz k v<=ω k v){pg:Nat->ByteArray}{i:Nat}{c:Ch}{b0 k v:ByteArray}
theorem yb{a b m:List KL}{x x0 z:KL}{r m':List KL}(e:a++x::b=x0::r)(B:x0.1=b0)(D:pm b0 x0.kv)(G:m=z::m')(H:z.1=x.1)(y:pm b0 x.kv->pm b0 z.kv):∃q I,a++(m++b)=q::I/\q.1=b0/\pm b0 q.kv:=by
 cases a with
 |nil=>
  rw[bP]at e;injection e with s J
  subst s;exact⟨z,m'++b,by rw[G];rfl,H.trans B,y D⟩
 |cons u a=>
  injection e with s J
  subst s;exact⟨u,a++(m++b),rfl,B,D⟩
include Na in
theorem BF{p:Nat}{ls:List KL}(hc:c.aE)(e7:T.fC (d:=1) ((p,ls):Nat×List KL))(hg:kO b0 (some ⟨1,((p,ls):Nat×List KL)⟩))(hk:¬aC k b0)(b9:qq (some ⟨1,((p,ls):Nat×List KL)⟩))(c9:k.size<=26)(hv:v.size<=100)(hf:cH 1 c.h)(b4:ls.length<=34):
  ∃c' t',bN c i (some ⟨1,((p,ls):Nat×List KL)⟩) k v=(c',t',0)/\Ps ω b0 (some ⟨1,((p,ls):Nat×List KL)⟩) k v c c' t':=by
 obtain⟨ho,x0,r0,e0,S,a3⟩:=hg;have ho:fF ls:=ho;have e0:ls=x0::r0:=e0;obtain⟨a,x,b,h1,h2,h3,h4,h5,h6,oa,ox,ob,U,a4⟩:=hQ ho e0 (k:=k) (by rw[S];exact hk);subst h1;have Q:qG true (x.kv.map cy):=e7.2 x (by simp);have J:∀y∈a++x::b,y.1.size<=26:=b9.2;obtain⟨kx,q⟩:=x;obtain⟨q,l⟩:Nat×LP:=q;have Q:qG true (l.map cy):=Q;have a5:eC l:=ox.1;have e8:∀e∈l,¬aC e.1 kx:=ox.2;have hR:=Pn a5 k v;have h7:=vq ω a5 k v;have c2:=Gl a5 k v;have b6:¬aC k kx:=h3;have c3:∀e∈au l k v,¬aC e.1 kx:=fun e G=>by
  rcases oL G with h|h
  ·exact e8 e h
  rw[h];exact b6
 have a6:∀e∈au l k v,∀y∈b,aC e.1 y.1:=fun e G y B=>by
  rcases oL G with h|h
  ·exact(U y B).2 e h
  rw[h];exact h4 y B
 have d0:∀e∈(eN l k v).map cy,e.ok true:=Pq (k:=k) (v:=v) Q.2.2 (by omega) hv;have e9:=Pr (l:=l) (k:=k) (v:=v) Q.2.1 (by omega) hv;have d1:tB (some ⟨1,((p,a++(bJ kx q l)::b):Nat×List KL)⟩)=eo (a++(bJ kx q l)::b):=rfl;have H:au (eo (a++(bJ kx q l)::b)) k v=eo a++au l k v++eo b:=Tq h5 h6 v;have Y:∀e∈au (eo (a++(bJ kx q l)::b)) k v,e.1.size<=26:=CT (t:=some ⟨1,((p,a++(bJ kx q l)::b):Nat×List KL)⟩) b9.1 c9;have a1:∀s,ki ω (some ⟨1,((p,a++(bJ kx q l)::b):Nat×List KL)⟩) k s=VS ω a+max (aZ ω l+s) 347+VS ω b:=fun s=>dW h2;have c4:oz ω (tB (some ⟨1,((p,a++(bJ kx q l)::b):Nat×List KL)⟩)) k=oz ω l k:=by
  rw[d1];unfold oz;rw[CP h5 h6]
  rfl
 have a7:pm b0 l->pm b0 (au l k v):=fun h=>KQ a5 h hk v;have c5:∀u∈a,∀y∈b,aC u.1 y.1/\∀e∈u.kv,aC e.1 y.1:=fun u hu y B=>⟨fi (a4 u hu).1 (U y B).1,fun e G=>fi ((a4 u hu).2 e G) (U y B).1⟩;have Z:(a++(bJ kx q l)::b).length=a.length+(b.length+1):=by rw[az,bj]
 rcases dh 1024 (lb (eN l k v))with a0|b5
 ·obtain⟨n1,n2,f1,f2,f3,f4,f5⟩:=KM d0 a0 e9;obtain⟨I,hq,i7⟩:=cH.oM (n:=0) hc hf;obtain⟨c1,e1,e2⟩:=rh (p:=q) a0 hq;rw[hR]at n1 n2 f1 f2 f3 f4 f5 e1 a0;obtain⟨cut,hcut⟩:∃cut,dj true ((au l k v).map cy)=cut:=⟨_,rfl⟩;rw[hcut]at n1 n2 f1 f2 f3 f4 f5 e1;obtain⟨o1,⟨v2,o2⟩,o3⟩:=KR (kx:=kx) (R:=au l k v) (n:=cut) (p:=q) (q:=I) c2 c3 n1 n2;obtain⟨D,g0⟩:∃D,keyOf ((au l k v).drop cut)=D:=⟨_,rfl⟩;rw[g0]at e1 o1 o2 o3;have M:=KP (p:=p) h2 e1;have hm:∀z∈[(bJ kx q ((au l k v).take cut)),(bJ D I ((au l k v).drop cut))],¬aC z.1 kx/\∀y∈b,aC z.1 y.1/\∀e∈KL.kv z,aC e.1 y.1:=fun z hz=>by
   rcases bu.1 hz with e|hz
   ·rw[e];exact⟨bL kx,fun y B=>⟨(U y B).1,fun e G=>a6 e (bC G) y B⟩⟩
   rw[bh.1 hz];exact⟨dO o3,fun y B=>⟨a6 _ o2 y B,fun e G=>a6 e (cj G) y B⟩⟩
  have L:=zp oa ob o1 a4 hm c5;have d2:D.size<=26:=Y (D,v2) (by rw[H];exact aS _ (aJ _ o2));have V:∀y∈a++([(bJ kx q ((au l k v).take cut)),(bJ D I ((au l k v).drop cut))]++b),y.1.size<=26:=fun y B=>by
   rcases aV.1 B with B|B
   ·exact J y (aS _ B)
   rcases aV.1 B with B|B
   ·rcases bu.1 B with e|B
    ·rw[e];exact J (bJ kx q l) (by simp)
    rw[bh.1 B];exact d2
   exact J y (aJ _ (ap _ B))
  have O:=CS V (by
   rw[az,az];rw[Z]at b4;simp only[bj,bZ];omega)
  refine⟨c1.write (p:Nat) (aw false ((a++([(bJ kx q ((au l k v).take cut)),(bJ D I ((au l k v).drop cut))]++b)).map (aM (d:=0)))),some ⟨1,((p,a++([(bJ kx q ((au l k v).take cut)),(bJ D I ((au l k v).drop cut))]++b)):Nat×List KL)⟩,?_,⟨L,?_⟩,?_,⟨?_,V⟩,fun s=>?_,fun y B=>?_,fun n hn f=>?_⟩
  ·have e3:dt (d:=1) c ((p,a++(bJ kx q l)::b):Nat×List KL) k v=(c1.write (p:Nat) (aw false ((a++([(bJ kx q ((au l k v).take cut)),(bJ D I ((au l k v).drop cut))]++b)).map (aM (d:=0)))),((p,a++([(bJ kx q ((au l k v).take cut)),(bJ D I ((au l k v).drop cut))]++b)):Nat×List KL),some none):=M.trans (sk O);unfold bN;simp only[e3]
  ·exact yb e0 S a3 rfl rfl (fun h=>CU (a7 h) n1)
  ·show eo (a++([(bJ kx q ((au l k v).take cut)),(bJ D I ((au l k v).drop cut))]++b))=au (eo (a++(bJ kx q l)::b)) k v;have e5:KL.kv (bJ kx q ((au l k v).take cut))++KL.kv (bJ D I ((au l k v).drop cut))=au l k v:=bt cut _;rw[H,dE,dE,dm,dm,ng,bv,e5,bz (eo a)]
  ·intro e G;have G:e∈eo (a++([(bJ kx q ((au l k v).take cut)),(bJ D I ((au l k v).drop cut))]++b)):=G;refine Y e ?_;rw[H];rw[dE,dE,dm,dm,ng,bv]at G;rw[bz (eo a)];have e5:KL.kv (bJ kx q ((au l k v).take cut))++KL.kv (bJ D I ((au l k v).drop cut))=au l k v:=bt cut _;rw[e5]at G;exact G
  ·rw[sj]at f3 f4 f5;rw[sj,sj]at f5;obtain⟨y0,r',e4,e5,_⟩:=yb (m:=[(bJ kx q ((au l k v).take cut)),(bJ D I ((au l k v).drop cut))]) (z:=bJ kx q ((au l k v).take cut)) (m':=[bJ D I ((au l k v).drop cut)]) e0 S a3 rfl rfl (fun h=>CU (a7 h) n1);have z1:=pn Na ((au l k v).take cut);have z2:=pn Na ((au l k v).drop cut);have z3:aZ ω (au l k v)=aZ ω ((au l k v).take cut)+aZ ω ((au l k v).drop cut):=by rw[<-gg,bt]
   have hp:=Ay (ω:=ω) (p:=p) (a:=a) (b:=b) (x:=bJ kx q ((au l k v).take cut)) (y:=bJ D I ((au l k v).drop cut)) (k:=k) (r:=s) L e4 (by rw[e5];exact hk) b6 h4 (show 347<=aZ ω ((au l k v).take cut)by omega) (show 347<=aZ ω ((au l k v).drop cut)by omega);have hp:ki ω (some ⟨1,((p,a++([(bJ kx q ((au l k v).take cut)),(bJ D I ((au l k v).drop cut))]++b)):Nat×List KL)⟩) k s=VS ω a+(aZ ω ((au l k v).take cut)+aZ ω ((au l k v).drop cut)+s)+VS ω b:=hp;rw[hp,a1,c4];omega
  ·have B:y∈(a++([(bJ kx q ((au l k v).take cut)),(bJ D I ((au l k v).drop cut))]++b)).map aQ:=B;rw[aX,aX]at B;rcases aV.1 B with B|B
   ·refine .inl ?_;show y∈(a++(bJ kx q l)::b).map aQ;rw[aX];exact aS _ B
   rcases aV.1 B with B|B
   ·have B:y∈[kx,D]:=B;rcases bu.1 B with e|B
    ·refine .inl ?_;show y∈(a++(bJ kx q l)::b).map aQ;rw[e];exact bQ.2 ⟨bJ kx q l,by simp,rfl⟩
    refine .inr ?_;rw[bh.1 B];refine bQ.2 ⟨(D,v2),?_,rfl⟩;show(D,v2)∈au (eo (a++(bJ kx q l)::b)) k v;rw[H];exact aS _ (aJ _ o2)
   refine .inl ?_;show y∈(a++(bJ kx q l)::b).map aQ;rw[aX,bB];exact aJ _ (ap _ B)
  have g1:tC (some ⟨1,((p,a++(bJ kx q l)::b):Nat×List KL)⟩)=(a.length+(b.length+1))+1:=by
   show(a++(bJ kx q l)::b).length+1=_;rw[Z]
  have g2:tC (some ⟨1,((p,a++([(bJ kx q ((au l k v).take cut)),(bJ D I ((au l k v).drop cut))]++b)):Nat×List KL)⟩)=(a.length+(b.length+1))+2:=by
   show(a++([(bJ kx q ((au l k v).take cut)),(bJ D I ((au l k v).drop cut))]++b)).length+1=_;rw[az,az];simp only[bj,bZ];omega
  rw[g1]at f hn;rw[g2];obtain⟨_,_,f3⟩:=cH.oM (n:=n-(a.length+(b.length+1)+2)) hc (f.mono (by omega));rw[<-e2]at f3;exact f3.write _ _
 rw[hR]at b5;have e1:=te (c:=c) (p:=q) (l:=l) (k:=k) (v:=v) (by rw[hR];exact b5);rw[hR]at e1;have o1:fF [(bJ kx q (au l k v))]:=i_.2 ⟨⟨c2,c3⟩,⟨by simp,(fun y B=>by cases B),by simp⟩,fun y B=>by cases B⟩;have hm:∀z∈[(bJ kx q (au l k v))],¬aC z.1 kx/\∀y∈b,aC z.1 y.1/\∀e∈KL.kv z,aC e.1 y.1:=fun z hz=>by
  rw[bh.1 hz];exact⟨bL kx,fun y B=>⟨(U y B).1,fun e G=>a6 e G y B⟩⟩
 have L:=zp oa ob o1 a4 hm c5;have V:∀y∈a++([(bJ kx q (au l k v))]++b),y.1.size<=26:=fun y B=>by
  rcases aV.1 B with B|B
  ·exact J y (aS _ B)
  rcases aV.1 B with B|B
  ·rw[bh.1 B];exact J (bJ kx q l) (by simp)
  exact J y (aJ _ (ap _ B))
 have O:=CS V (by
  rw[az,az];rw[Z]at b4;simp only[bj,bZ];omega)
 obtain⟨c1,c8⟩:∃c1,c.write (q:Nat) (aw true ((au l k v).map cy))=c1:=⟨_,rfl⟩;rw[c8]at e1;have M:=KO (p:=p) h2 e1;refine⟨c1.write (p:Nat) (aw false ((a++([(bJ kx q (au l k v))]++b)).map (aM (d:=0)))),some ⟨1,((p,a++([(bJ kx q (au l k v))]++b)):Nat×List KL)⟩,?_,⟨L,?_⟩,?_,⟨?_,V⟩,fun s=>?_,fun y B=>?_,fun n hn f=>?_⟩
 ·have e3:dt (d:=1) c ((p,a++(bJ kx q l)::b):Nat×List KL) k v=(c1.write (p:Nat) (aw false ((a++([(bJ kx q (au l k v))]++b)).map (aM (d:=0)))),((p,a++([(bJ kx q (au l k v))]++b)):Nat×List KL),some none):=M.trans (sk O);unfold bN;simp only[e3]
 ·exact yb e0 S a3 rfl rfl (fun h=>a7 h)
 ·show eo (a++([(bJ kx q (au l k v))]++b))=au (eo (a++(bJ kx q l)::b)) k v;rw[H,dE,dE,dm,ng,bv,bz (eo a)]
  rfl
 ·intro e G;have G:e∈eo (a++([(bJ kx q (au l k v))]++b)):=G;refine Y e ?_;rw[H];rw[dE,dE,dm,ng,bv]at G;rw[bz (eo a)];exact G
 ·obtain⟨y0,r',e4,e5,_⟩:=yb (m:=[bJ kx q (au l k v)]) (z:=bJ kx q (au l k v)) (m':=[]) e0 S a3 rfl rfl (fun h=>a7 h);have hz:=ka (a:=a) (b:=b) (x:=bJ kx q (au l k v)) (k:=k) L e4 (by rw[e5];exact hk) b6 h4;have hp:=dW (ω:=ω) (p:=p) (s:=s) hz;have hp:ki ω (some ⟨1,((p,a++([(bJ kx q (au l k v))]++b)):Nat×List KL)⟩) k s=VS ω a+max (aZ ω (au l k v)+s) 347+VS ω b:=hp;rw[hp,a1,c4];omega
 ·refine .inl ?_;have B:y∈(a++(bJ kx q (au l k v))::b).map aQ:=B;show y∈(a++(bJ kx q l)::b).map aQ;rw[aX,bB]at B⊢;exact B
 have g1:tC (some ⟨1,((p,a++(bJ kx q l)::b):Nat×List KL)⟩)=tC (some ⟨1,((p,a++([(bJ kx q (au l k v))]++b)):Nat×List KL)⟩):=by
  show(a++(bJ kx q l)::b).length+1=(a++([(bJ kx q (au l k v))]++b)).length+1;rw[az,az]
  rfl
 rw[<-g1];rw[<-c8];exact(f.write _ _).write _ _
end
theorem cH.Nb{n:Nat}{c:Ch}{p:Nat}(f:cH n c.h)(q:fE c p):cH (n+1) (c.free (p:Nat)).h:=by
 obtain⟨z,B,G,s⟩:=f;have y:p∉z:=fun D=>by
  have:=(s p D).2.2;rw[q.2.2]at this;cases this
 rw[tR q];refine⟨p::z,cL.2 ⟨y,B⟩,by rw[bj];omega,fun j b=>?_⟩;rcases bu.1 b with e|b
 ·rw[e];refine⟨q.1,q.2.1,?_⟩;show(if p=p then false else c.h.used p)=false;rw[if_pos rfl]
 refine⟨(s j b).1,(s j b).2.1,?_⟩;show(if j=p then false else c.h.used j)=false
 split
 ·rfl
 exact(s j b).2.2
theorem Az(c:Ch)(p:Nat)(l:LP)(k:ByteArray):dN (d:=0) c ((p,l):Nat×LP) k=(c.write (p:Nat) (aw true ((l.eraseIdx (am (l.map aQ) k)).map cy)),((p,l.eraseIdx (am (l.map aQ) k)):Nat×LP)):=rfl
theorem ub{c:Ch}{p:Nat}{a b:List KL}{x:KL}{k:ByteArray}(q:a.length=aL ((a++x::b).map aQ) k){c1:Ch}{u:T 0}(hd:dN c x.2 k=(c1,u)){s:Ch×List KL}(hs:(if u.aO.isEmpty then(c1.free (u.pg:Nat),a++b)else du (d:=0) c1 (a++(x.1,u)::b) a.length u)=s):
  dN (d:=1) c ((p,a++x::b):Nat×List KL) k=(s.1.write (p:Nat) (aw false (s.2.map (aM (d:=0)))),((p,s.2):Nat×List KL)):=by
 have y:(a++x::b)[aL ((a++x::b).map aQ) k]?=some x:=by
  rw[<-q,List.getElem?_append_right (cK _),Nat.sub_self]
  rfl
 have z:(a++x::b).set (aL ((a++x::b).map aQ) k) (x.1,u)=a++(x.1,u)::b:=by
  rw[<-q];exact mW x (x.1,u) b a
 have B:(a++(x.1,u)::b).eraseIdx (aL ((a++x::b).map aQ) k)=a++b:=by
  rw[<-q];exact pd (x.1,u) b a
 refine(dN.eq_2 c k 0 ((p,a++x::b):Nat×List KL)).trans ?_;simp only[y,hd];rw[z,B,<-q];rw[hs]
 rfl
theorem Nc(c:Ch)(l:List KL)(K:Nat)(u:T 0):du (d:=0) c l K u=(c,l)\/∃D y z H,l=D++y::z::H/\D.length=K-1/\aj true (T.aO (d:=0) (T.meet (d:=0) y.2 z.1 z.2))<=1024/\du (d:=0) c l K u=((c.write (y.2.pg:Nat) (aw true (T.aO (d:=0) (T.meet (d:=0) y.2 z.1 z.2)))).free (z.2.pg:Nat),D++(y.1,T.meet (d:=0) y.2 z.1 z.2)::H):=by
 by_cases b:341<aj (cn 0) u.aO\/l.length<2
 ·left;unfold du;rw[if_pos b]
 cases ha:l[K-1]? with
 |none=>
  left;unfold du;rw[if_neg b,ha]
 |some y=>
  cases q:l[K-1+1]? with
  |none=>
   left;unfold du;rw[if_neg b,ha,q]
  |some z=>
   by_cases G:1024<aj (cn 0) (T.aO (d:=0) (T.meet (d:=0) y.2 z.1 z.2))
   ·left;unfold du;rw[if_neg b,ha,q];exact if_pos G
   right;obtain⟨I,J,s,B⟩:=IS ha q;refine⟨I,y,z,J,s,B,by have L:¬1024<aj true (T.aO (d:=0) (T.meet (d:=0) y.2 z.1 z.2)):=G;omega,?_⟩;unfold du;rw[if_neg b,ha,q];refine(if_neg G).trans ?_;rw[<-B,s,mW];have:=pd z J (I++[(y.1,T.meet (d:=0) y.2 z.1 z.2)]);rw[az,List.length_singleton]at this;simp only[bz,ch]at this;rw[this]
   rfl
theorem AA{l:LP}(hs:eC l){k v0:ByteArray}(h:bV l k=some v0):dR (l.map aQ) k=true:=by
 cases b:dR (l.map aQ) k with
 |true=>rfl
 |false=>
  have:=M7 hs k;rw[b,if_neg (by simp),h]at this;cases this
theorem zr{b:ByteArray}{l:LP}(h:pm b l){k:ByteArray}(q:k≠b):pm b (cZ l k):=by
 obtain⟨v,r,rfl⟩:=h;refine⟨v,cZ r k,?_⟩;unfold cZ;rw[cg (by simpa using fun e=>q e.symm)]
theorem pq{l:LP}{k:ByteArray}{x:ByteArray×ByteArray}(h:x∈cZ l k):x∈l:=(List.mem_filter.1 h).1
structure IW(ω:Wt)(b0:ByteArray)(t:Tr)(k:ByteArray)(s:Nat)(c:Ch)(c':Ch)(t':Tr):Prop where
 iL:kO b0 t'
 kv:tB t'=cZ (tB t) k
 short:qq t'
 wR:ki ω t' k s<=VT ω t
 sep:∀y∈zq t',y∈zq t
 free:∀n,tC t<=n->cH (n-tC t) c.h->cH (n-tC t') c'.h
section
variable{ω:Wt}{pg:Nat->ByteArray}{i:Nat}{c:Ch}{b0 k v0:ByteArray}
theorem zt{p:Nat}{l:LP}(s:kO b0 (some ⟨0,((p,l):Nat×LP)⟩))(G:k≠b0)(hv:bV l k=some v0)(q:qq (some ⟨0,((p,l):Nat×LP)⟩)):
  ∃z B,cM c i (some ⟨0,((p,l):Nat×LP)⟩) k=(z,B)/\IW ω b0 (some ⟨0,((p,l):Nat×LP)⟩) k (ω k v0) c z B:=by
 have hs:eC l:=s.1;have H:pm b0 l:=s.2;have I:=KJ hs k (AA hs hv);have b:=zr H G;refine⟨c.write (p:Nat) (aw true ((cZ l k).map cy)),some ⟨0,((p,cZ l k):Nat×LP)⟩,?_,⟨CO hs k,b⟩,rfl,⟨fun e h=>q.1 e (pq h),trivial⟩,?_,(fun y J=>by cases J),fun n hn f=>f.write _ _⟩
 ·have D:=Az c p l k;rw[I]at D;unfold cM;simp only[D];rw[if_neg];intro h;obtain⟨v,r,L⟩:=b;have h:((cZ l k).map cy).isEmpty=true:=h;rw[L]at h;cases h
 show max (aZ ω (cZ l k)+ω k v0) 347<=max (aZ ω l) 347;rw[sl ω hs hv];exact cK _
structure Xa(ω:Wt)(b0:ByteArray)(p:Nat)(ls:List KL)(k:ByteArray)(s:Nat)(c c1:Ch)(Nd:List KL):Prop where
 ord:fF Nd
 hd:∃y0 r,Nd=y0::r/\y0.1=b0/\pm b0 y0.kv
 kv:eo Nd=cZ (eo ls) k
 keys:∀x∈Nd,x.1.size<=26
 wR:ki ω (some ⟨1,((p,Nd):Nat×List KL)⟩) k s<=VS ω ls
 sep:∀y∈Nd.map aQ,y∈ls.map aQ
 used:fE c1 p
 free:∀n,ls.length+1<=n->cH (n-(ls.length+1)) c.h->cH (n-(Nd.length+1)) c1.h
theorem ud{p:Nat}{ls q:List KL}{c1:Ch}{s:Nat}(O:qq (some ⟨1,((p,ls):Nat×List KL)⟩))(hd:dN (d:=1) c ((p,ls):Nat×List KL) k=(c1.write (p:Nat) (aw false (q.map (aM (d:=0)))),((p,q):Nat×List KL)))(z:Xa ω b0 p ls k s c c1 q)(hk:¬aC k b0):
  ∃Q S,cM c i (some ⟨1,((p,ls):Nat×List KL)⟩) k=(Q,S)/\IW ω b0 (some ⟨1,((p,ls):Nat×List KL)⟩) k s c Q S:=by
 obtain⟨B,r,G,U,V⟩:=z.hd;have H:¬(T.aO (d:=1) ((p,q):Nat×List KL)).isEmpty=true:=by
  intro h;have h:(q.map (aM (d:=0))).isEmpty=true:=h;rw[G]at h;cases h
 have I:∀e∈eo q,e.1.size<=26:=fun e h=>O.1 e (pq (by rw[z.kv]at h;exact h));have J:fE (c1.write (p:Nat) (aw false (q.map (aM (d:=0))))) p:=⟨z.used.1,z.used.2.1,by rw[ja];exact z.used.2.2⟩;cases r with
 |nil=>
  have D:q=[B]:=G;refine⟨((c1.write (p:Nat) (aw false (q.map (aM (d:=0))))).free (p:Nat)).root i (T.pg (d:=0) B.2:Nat),some ⟨0,B.2⟩,?_,?_,?_,⟨?_,trivial⟩,?_,(fun y M=>by cases M),fun n hn f=>?_⟩
  ·unfold cM;simp only[hd];rw[if_neg H];subst D
   rfl
  ·rw[D]at z;exact⟨(z.ord.leaf B (by simp)).1,V⟩
  ·show KL.kv B=cZ (eo ls) k;rw[<-z.kv,D,dm,ng,bv]
  ·intro e h;have h:e∈KL.kv B:=h;refine I e ?_;rw[D,dm,ng,bv];exact h
  ·have hv:=z.wR;rw[D]at hv;have ho:fF ([]++B::[]):=by
    have Y:=z.ord;rw[D]at Y;exact Y
   have L:¬aC k B.1:=by rw[U];exact hk
   have hz:=ka (a:=[]) (b:=[]) (x:=B) (k:=k) ho (x0:=B) (r0:=[]) rfl L L (fun y M=>by cases M);have Z:=dW (ω:=ω) (p:=p) (s:=s) hz;rw[bP]at Z;rw[Z]at hv;have h0:VS ω []=0:=rfl;rw[h0]at hv;show max (aZ ω B.kv+s) 347<=VS ω ls;omega
  have g1:tC (some ⟨1,((p,ls):Nat×List KL)⟩)=ls.length+1:=rfl;have g2:tC (some ⟨0,B.2⟩)=1:=rfl;rw[g1]at f hn;rw[g2];have f1:=z.free n hn f;rw[D]at f1;have f2:=(f1.write (p:Int) (aw false ([B].map (aM (d:=0))))).Nb (by rw[D]at J;exact J);refine cH.used (h:=((c1.write (p:Nat) (aw false (q.map (aM (d:=0))))).free (p:Nat)).h) ?_ rfl;rw[D];refine f2.mono ?_;simp only[bj,bZ];omega
 |cons y1 r=>
  refine⟨c1.write (p:Nat) (aw false (q.map (aM (d:=0)))),some ⟨1,((p,q):Nat×List KL)⟩,?_,⟨z.ord,B,y1::r,G,U,V⟩,z.kv,⟨I,z.keys⟩,z.wR,z.sep,fun n hn f=>(z.free n hn f).write _ _⟩;unfold cM;simp only[hd];rw[if_neg H];subst G
  rfl
end
def nP(y z:KL):KL:=(y.1,T.meet (d:=0) y.2 z.1 z.2)
theorem oN(y z:KL):(nP y z).kv=y.kv++z.kv:=rfl
theorem zu{a b:List KL}{y z:KL}(h:fF (a++y::z::b)):fF (a++nP y z::b):=by
 obtain⟨J,L,H⟩:=iZ.1 h;obtain⟨I,M,B⟩:=i_.1 L;obtain⟨D,O,Q⟩:=i_.1 M;refine iZ.2 ⟨J,i_.2 ⟨⟨?_,?_⟩,O,fun u hu=>⟨(B u (ap _ hu)).1,fun e s=>?_⟩⟩,fun u hu w hw=>?_⟩
 ·rw[oN];unfold eC;rw[aX];refine lf.2 ⟨I.1,D.1,fun p S q U=>?_⟩;obtain⟨e,s,rfl⟩:=bQ.1 S;obtain⟨f,hf,rfl⟩:=bQ.1 U;exact gn ((B z bc).2 e s) (D.2 f hf)
 ·intro e s;rw[oN]at s;rcases aV.1 s with s|s
  ·exact I.2 e s
  intro G;exact D.2 e s (fi G (B z bc).1)
 ·rw[oN]at s;rcases aV.1 s with s|s
  ·exact(B u (ap _ hu)).2 e s
  exact(Q u hu).2 e s
 rcases bu.1 hw with e|hw
 ·rw[e];exact H u hu y bc
 exact H u hu w (ap _ (ap _ hw))
theorem QM(a b:List KL)(y z:KL):eo (a++nP y z::b)=eo (a++y::z::b):=by
 rw[dE,dE,dm,dm,dm,oN,bz]
section
variable{ω:Wt}{pg:Nat->ByteArray}{i:Nat}{c:Ch}{b0 k v0:ByteArray}
theorem zv{p:Nat}{ls:List KL}(hl:T.lays (d:=1) c pg ((p,ls):Nat×List KL))(e4:(T.ai (d:=1) ((p,ls):Nat×List KL)).Nodup)(hg:kO b0 (some ⟨1,((p,ls):Nat×List KL)⟩))(O:¬aC k b0)(g9:k≠b0)(hv:bV (eo ls) k=some v0)(c7:qq (some ⟨1,((p,ls):Nat×List KL)⟩)):
  ∃c' t',cM c i (some ⟨1,((p,ls):Nat×List KL)⟩) k=(c',t')/\IW ω b0 (some ⟨1,((p,ls):Nat×List KL)⟩) k (ω k v0) c c' t':=by
 obtain⟨ho,x0,r0,e0,g0,c8⟩:=hg;have ho:fF ls:=ho;have e0:ls=x0::r0:=e0;have e4:(p::ls.flatMap fun y=>T.ai y.2).Nodup:=e4;obtain⟨np,_⟩:=cL.1 e4;have g4:fE c p:=hl.1.1;have a9:∀y∈ls,fE c (T.pg y.2)/\T.pg y.2≠p:=fun y B=>by
  have h1:T.lays c pg y.2:=hl.2 y B;refine⟨T.cY h1 _ (T.eP y.2),fun e=>np ?_⟩;rw[<-e];exact List.mem_flatMap.2 ⟨y,B,T.eP y.2⟩
 obtain⟨a,x,b,h1,h2,h3,h4,h5,h6,oa,ox,ob,c9,b1⟩:=hQ ho e0 (k:=k) (by rw[g0];exact O);subst h1;have S:∀y∈a++x::b,y.1.size<=26:=c7.2;have k4:bV x.kv k=some v0:=by rw[CP h5 h6]at hv;exact hv
 have j3:cZ (eo (a++x::b)) k=eo a++cZ x.kv k++eo b:=QH h5 h6;obtain⟨D,q⟩:=x;obtain⟨q,l⟩:Nat×LP:=q;have d0:eC l:=ox.1;have k5:∀e∈l,¬aC e.1 D:=ox.2;have i0:bV l k=some v0:=k4;have d1:¬aC k D:=h3;have b3:fE c q/\q≠p:=a9 (bJ D q l) (by simp);have k6:=sl ω d0 i0;have i1:=KJ d0 k (AA d0 i0);have i2:∀u∈a,∀y∈b,aC u.1 y.1/\∀e∈u.kv,aC e.1 y.1:=fun u hu y B=>⟨fi (b1 u hu).1 (c9 y B).1,fun e he=>fi ((b1 u hu).2 e he) (c9 y B).1⟩;have d2:VS ω (a++bJ D q l::b)=VS ω a+(max (aZ ω l) 347+VS ω b):=by
  rw[pp,lC]
  rfl
 obtain⟨G,Z⟩:∃G,cZ l k=G:=⟨_,rfl⟩;have c6:cZ (eo (a++bJ D q l::b)) k=eo a++G++eo b:=by rw[<-Z];exact j3
 rw[Z]at k6 i1;have b4:=Az c q l k;rw[i1]at b4;obtain⟨L,i3⟩:∃L,c.write (q:Nat) (aw true (G.map cy))=L:=⟨_,rfl⟩;rw[i3]at b4;have a0:L.h=c.h:=by rw[<-i3];exact ja _ _ _
 have Q:∀j,fE c j->fE L j:=fun j Y=>⟨Y.1,Y.2.1,by rw[a0];exact Y.2.2⟩;have d5:(a++bJ D q l::b).length=a.length+(b.length+1):=by rw[az,bj]
 have a6:∀(U:Ch) (z:Nat),fE U p->fE U z->z≠p->fE (U.free (z:Nat)) p:=fun U z I J h9=>by
  rw[tR J];refine⟨I.1,I.2.1,?_⟩;show(if p=z then false else U.h.used p)=true;rw[if_neg (fun e=>h9 e.symm)];exact I.2.2
 by_cases b5:G=[]
 ·
  have b9:a≠[]:=fun e=>by
   subst e;rw[bP]at e0;injection e0 with e1 e2
   have I:pm b0 l:=by rw[<-e1]at c8;exact c8
   obtain⟨u,r,J⟩:=zr I g9;rw[Z,b5]at J;cases J
  obtain⟨V,y,ha⟩:∃V y,a=V++[y]:=⟨a.dropLast,a.getLast b9,(List.dropLast_concat_getLast b9).symm⟩;have hd:=ub (p:=p) (c:=c) (s:=(L.free (q:Nat),a++b)) h2 b4 (by
   rw[b5]
   rfl)
  have c0:fF (a++b):=iZ.2 ⟨oa,ob,i2⟩;have H:∃(M:KL) (r:List KL),a++b=M::r/\M.1=b0/\pm b0 M.kv:=by
   cases i4:a with
   |nil=>exact absurd i4 b9
   |cons u a2=>
    rw[i4]at e0;injection e0 with e1 e2
    exact⟨u,a2++b,rfl,by rw[e1];exact g0,by rw[e1];exact c8⟩
  refine ud c7 hd ⟨c0,H,?_,fun y B=>?_,?_,fun y B=>?_,a6 L q (Q p g4) (Q q b3.1) b3.2,fun n hn f=>?_⟩ O
  ·show eo (a++b)=_;rw[dE,c6,b5,bv]
  ·rcases aV.1 B with B|B
   ·exact S y (aS _ B)
   exact S y (aJ _ (ap _ B))
  ·obtain⟨M,r,I,J,_⟩:=H;have b6:a++b=V++y::b:=by rw[ha];simp
   have g5:¬aC k y.1:=dO (gn (b1 y (by rw[ha];simp)).1 d1);rw[b6]at c0 I;have hz:=ka c0 I (k:=k) (by rw[J];exact O) g5 h4;have hp:=dW (ω:=ω) (p:=p) (s:=ω k v0) hz;show ki ω (some ⟨1,((p,a++b):Nat×List KL)⟩) k (ω k v0)<=VS ω (a++bJ D q l::b);rw[b6,hp,d2,ha,pp,lC];have g1:VS ω []=0:=rfl;have g2:wl ω y.kv=max (aZ ω y.kv) 347:=rfl;have g3:aZ ω G=0:=by rw[b5];rfl
   rw[g1,g2];omega
  ·rw[aX]at B;rw[aX,bB];rcases aV.1 B with B|B
   ·exact aS _ B
   exact aJ _ (ap _ B)
  have f1:cH (n-((a++bJ D q l::b).length+1)) L.h:=by rw[a0];exact f
  have hn:(a++bJ D q l::b).length+1<=n:=hn;refine(f1.Nb (Q q b3.1)).mono ?_;show n-((a++b).length+1)<=_;rw[az];rw[d5]at hn⊢;omega
 ·
  have i6:∀e∈G,e∈l:=fun e he=>by
   rw[<-Z]at he;exact pq he
  have c3:fF (a++bJ D q G::b):=by
   have o1:fF [bJ D q G]:=i_.2 ⟨⟨by rw[<-Z];exact CO d0 k,fun e he=>k5 e (i6 e he)⟩,⟨by simp,(fun y B=>by cases B),by simp⟩,fun y B=>by cases B⟩;have hm:∀z∈[bJ D q G],¬aC z.1 D/\∀y∈b,aC z.1 y.1/\∀e∈KL.kv z,aC e.1 y.1:=fun z hz=>by
    rw[bh.1 hz];exact⟨bL D,fun y B=>⟨(c9 y B).1,fun e he=>(c9 y B).2 e (i6 e he)⟩⟩
   exact zp oa ob o1 b1 hm i2
  have H:∃(M:KL) (r:List KL),a++bJ D q G::b=M::r/\M.1=b0/\pm b0 M.kv:=yb (m:=[bJ D q G]) (m':=[]) (z:=bJ D q G) e0 g0 c8 rfl rfl (fun h=>by
   have I:pm b0 l:=h;have J:=zr I g9;rw[Z]at J;exact J)
  have d7:eo (a++bJ D q G::b)=cZ (eo (a++bJ D q l::b)) k:=by
   rw[c6,dE,dm,bz (eo a)]
   rfl
  have i7:∀y∈a++bJ D q G::b,y.1.size<=26:=fun y B=>by
   rcases aV.1 B with B|B
   ·exact S y (aS _ B)
   rcases bu.1 B with e|B
   ·rw[e];exact S (bJ D q l) (by simp)
   exact S y (aJ _ (ap _ B))
  have i9:(if(T.aO (d:=0) ((q,G):Nat×LP)).isEmpty then(L.free (T.pg (d:=0) ((q,G):Nat×LP):Nat),a++b)else du (d:=0) L (a++bJ D q G::b) a.length ((q,G):Nat×LP))=du (d:=0) L (a++bJ D q G::b) a.length ((q,G):Nat×LP):=by
   rw[if_neg];intro h;have h:(G.map cy).isEmpty=true:=h;cases j0:G with
   |nil=>exact b5 j0
   |cons e r=>rw[j0]at h;cases h
  have j4:∀y∈a++bJ D q G::b,fE L (T.pg y.2)/\T.pg y.2≠p:=fun y B=>by
   rcases aV.1 B with B|B
   ·exact⟨Q _ (a9 y (aS _ B)).1,(a9 y (aS _ B)).2⟩
   rcases bu.1 B with e|B
   ·rw[e];exact⟨Q _ b3.1,b3.2⟩
   exact⟨Q _ (a9 y (aJ _ (ap _ B))).1,(a9 y (aJ _ (ap _ B))).2⟩
  rcases Nc L (a++bJ D q G::b) a.length ((q,G):Nat×LP)with Y|⟨V,(y:KL),(z:KL),b2,hj1,hj2,hj3,Y⟩
  ·have hd:=ub (p:=p) (c:=c) (s:=(L,a++bJ D q G::b)) h2 b4 (i9.trans Y);refine ud c7 hd ⟨c3,H,d7,i7,?_,fun y B=>?_,Q p g4,fun n hn f=>?_⟩ O
   ·obtain⟨M,r,I,J,_⟩:=H;have hz:=ka c3 I (k:=k) (by rw[J];exact O) d1 h4;have hp:=dW (ω:=ω) (p:=p) (s:=ω k v0) hz;show ki ω (some ⟨1,((p,a++bJ D q G::b):Nat×List KL)⟩) k (ω k v0)<=VS ω (a++bJ D q l::b);rw[hp,d2];have g1:aZ ω (bJ D q G).kv=aZ ω G:=rfl;rw[g1];omega
   ·rw[aX,bB]at B⊢;exact B
   rw[a0];have e9:(a++bJ D q l::b).length=(a++bJ D q G::b).length:=by rw[az,az];rfl
   have f:cH (n-((a++bJ D q l::b).length+1)) c.h:=f;rw[e9]at f;exact f
  obtain⟨U,j1⟩:∃U,L.write (T.pg y.2:Nat) (aw true (T.aO (d:=0) (T.meet (d:=0) y.2 z.1 z.2)))=U:=⟨_,rfl⟩;rw[j1]at Y;have d8:U.h=L.h:=by rw[<-j1];exact ja _ _ _
  have g6:∀j,fE L j->fE U j:=fun j Y=>⟨Y.1,Y.2.1,by rw[d8];exact Y.2.2⟩;have hd:=ub (p:=p) (c:=c) (s:=(U.free (T.pg z.2:Nat),V++nP y z::b2)) h2 b4 (i9.trans Y);have g7:=j4 z (by rw[hj1];simp);have j5:=congrArg List.length hj1;rw[az,az,bj,bj,bj]at j5;have a4:=c3;rw[hj1]at a4;have a5:=i7;rw[hj1]at a5;have d9:=d7;rw[hj1]at d9;have a8:∃(M:KL) (r:List KL),V++nP y z::b2=M::r/\M.1=b0/\pm b0 M.kv:=by
   obtain⟨M,r,I,J,h9⟩:=H;rw[hj1]at I;cases V with
   |nil=>
    injection I with e1 e2
    subst e1;refine⟨nP y z,b2,rfl,J,?_⟩;obtain⟨u,r,e3⟩:=h9;exact⟨u,r++z.kv,by rw[oN,e3];rfl⟩
   |cons u a2=>
    injection I with e1 e2
    subst e1;exact⟨u,a2++nP y z::b2,rfl,J,h9⟩
  refine ud c7 hd ⟨zu a4,a8,by rw[QM];exact d9,fun w hw=>?_,?_,fun w hw=>?_,a6 U _ (g6 p (Q p g4)) (g6 _ g7.1) g7.2,fun n hn f=>?_⟩ O
  ·rcases aV.1 hw with hw|hw
   ·exact a5 w (aS _ hw)
   rcases bu.1 hw with e|hw
   ·rw[e];exact a5 y (by simp)
   exact a5 w (aJ _ (ap _ (ap _ hw)))
  ·show ki ω (some ⟨1,((p,V++nP y z::b2):Nat×List KL)⟩) k (ω k v0)<=VS ω (a++bJ D q l::b);obtain⟨M,r,I,J,_⟩:=a8;have b6:aZ ω (nP y z).kv=aZ ω y.kv+aZ ω z.kv:=by rw[oN,gg]
   rcases List.eq_nil_or_concat a with j6|⟨a3,y3,g8⟩
   ·subst j6;have k7:V=[]:=List.eq_nil_of_length_eq_zero (by rw[hj2];rfl);subst k7;rw[bP,bP]at hj1;injection hj1 with e1 e2
    subst e1;have k8:∀w∈b2,aC k w.1:=fun w hw=>h4 w (by rw[e2];exact ap _ hw);have hz:=ka (zu a4) I (k:=k) (by rw[J];exact O) (x:=nP (bJ D q G) z) d1 k8;have hp:=dW (ω:=ω) (p:=p) (s:=ω k v0) hz;rw[hp,d2,e2,lC,b6];have g1:aZ ω (bJ D q G).kv=aZ ω G:=rfl;have g2:wl ω z.kv=max (aZ ω z.kv) 347:=rfl;have g3:VS ω []=0:=rfl;rw[g1,g2,g3];omega
   have g8:a=a3++[y3]:=by rw[g8];simp
   subst g8;have k9:V=a3/\y::z::b2=y3::bJ D q G::b:=by
    have e5:a3++(y3::bJ D q G::b)=V++(y::z::b2):=by rw[<-hj1];simp
    have e6:a3.length=V.length:=by rw[hj2,az];rfl
    obtain⟨e7,e8⟩:=List.append_inj e5 e6;exact⟨e7.symm,e8.symm⟩
   obtain⟨rfl,e8⟩:=k9;injection e8 with e9 l0
   injection l0 with l1 l2
   subst e9 l1 l2;have g5:¬aC k y.1:=dO (gn (b1 y (by simp)).1 d1);have hz:=ka (zu a4) I (k:=k) (by rw[J];exact O) (x:=nP y (bJ D q G)) g5 h4;have hp:=dW (ω:=ω) (p:=p) (s:=ω k v0) hz;rw[hp,d2,pp,lC,b6];have g1:aZ ω (bJ D q G).kv=aZ ω G:=rfl;have g2:wl ω y.kv=max (aZ ω y.kv) 347:=rfl;have g3:VS ω []=0:=rfl;rw[g1,g2,g3];omega
  ·have h9:w∈(a++bJ D q G::b).map aQ:=by
    rw[hj1,aX,bB,bB];rw[aX,bB]at hw;rcases aV.1 hw with hw|hw
    ·exact aS _ hw
    rcases bu.1 hw with e|hw
    ·rw[e];exact aJ _ bc
    exact aJ _ (ap _ (ap _ hw))
   rw[aX,bB]at h9⊢;exact h9
  have f1:cH (n-((a++bJ D q l::b).length+1)) U.h:=by rw[d8,a0];exact f
  have hn:(a++bJ D q l::b).length+1<=n:=hn;refine(f1.Nb (g6 _ g7.1)).mono ?_;show n-((V++nP y z::b2).length+1)<=_;rw[az,bj];rw[d5]at hn⊢;omega
end
theorem hY(c:Ch)(k:Int)(s:ByteArray):(c.write k s).h.notes=c.h.notes:=by rw[ja]
theorem sn(c:Ch):c.alloc.h.notes=c.h.notes:=by
 unfold Ch.alloc
 split<;>rfl
theorem nh(c:Ch)(k:Int):(c.free k).h.notes=c.h.notes:=by
 unfold Ch.free
 split<;>rfl
theorem lD(c:Ch)(i:Nat)(p:Int):(c.root i p).h.notes=c.h.notes:=by
 show(fun j=>if j=i then c.h.notes i else c.h.notes j)=c.h.notes
 funext j
 by_cases h:j=i
 ·rw[h,if_pos rfl]
 rw[if_neg h]
theorem qH{X:Type}(en:ByteArray×X->En)(leaf:Bool)(c:Ch)(p:Nat)(l old:List (ByteArray×X)):(cz en leaf c p l old).1.h.notes=c.h.notes:=by
 unfold cz
 split
 ·exact hY _ _ _
 split
 ·rfl
 show((c.alloc.write _ _).write _ _).h.notes=_;rw[hY,hY,sn]
theorem AB:∀{d:Nat} (c:Ch) (t:T d) (k v:ByteArray),(dt c t k v).1.h.notes=c.h.notes
 |0,c,t,k,v=>by
  rw[show dt (d:=0) c t k v=cz cy true c (aQ t) (eN (da t) k v) (da t)from dt.eq_1 c k v t];exact qH _ _ _ _ _ _
 |d+1,c,t,k,v=>by
  obtain⟨p,l⟩:Nat×List (ByteArray×T d):=t;cases q:l[aL (l.map aQ) k]? with
  |none=>
   have e:dt (d:=d+1) c ((p,l):Nat×List (ByteArray×T d)) k v=(c,((p,l):Nat×List (ByteArray×T d)),none):=by
    refine(dt.eq_2 c k v d ((p,l):Nat×List (ByteArray×T d))).trans ?_;simp only[q]
    rfl
   rw[e]
  |some x=>
   have b:=AB c x.2 k v;rcases s:dt c x.2 k v with⟨y,u,r⟩
   rw[s]at b;have b:y.h.notes=c.h.notes:=b;rcases r with _|_|m
   ·have e:(dt (d:=d+1) c ((p,l):Nat×List (ByteArray×T d)) k v).1=y:=by
     refine(congrArg aQ (dt.eq_2 c k v d ((p,l):Nat×List (ByteArray×T d)))).trans ?_;simp only[q,s]
    rw[e];exact b
   ·have e:(dt (d:=d+1) c ((p,l):Nat×List (ByteArray×T d)) k v).1.h.notes=y.h.notes:=by
     refine(congrArg (fun z=>z.1.h.notes) (dt.eq_2 c k v d ((p,l):Nat×List (ByteArray×T d)))).trans ?_;simp only[q,s];exact qH _ _ _ _ _ _
    rw[e];exact b
   have e:(dt (d:=d+1) c ((p,l):Nat×List (ByteArray×T d)) k v).1.h.notes=y.h.notes:=by
    refine(congrArg (fun z=>z.1.h.notes) (dt.eq_2 c k v d ((p,l):Nat×List (ByteArray×T d)))).trans ?_;simp only[q,s];exact qH _ _ _ _ _ _
   rw[e];exact b
theorem IX(c:Ch)(i:Nat)(t:Tr)(k v:ByteArray):(bN c i t k v).1.h.notes=c.h.notes:=by
 cases t with
 |none=>
  cases ha:cS c.h with
  |none=>
   unfold bN;rw[ha]
  |some q=>
   unfold bN;rw[ha];show((c.alloc.write _ _).root _ _).h.notes=_;rw[lD,hY,sn]
 |some x=>
  obtain⟨d,t⟩:=x;have h:=AB c t k v;rcases b:dt c t k v with⟨s,u,r⟩
  rw[b]at h;have h:s.h.notes=c.h.notes:=h;rcases r with _|_|m
  ·unfold bN;simp only[b];exact h
  ·unfold bN;simp only[b];exact h
  cases ha:cS s.h with
  |none=>
   unfold bN;simp only[b,ha];exact h
  |some q=>
   unfold bN;simp only[b,ha];rw[lD,hY,sn];exact h
theorem IY{d:Nat}(c:Ch)(l:List (ByteArray×T d))(k:Nat)(u:T d):(du c l k u).1.h.notes=c.h.notes:=by
 unfold du
 split
 ·rfl
 split
 ·split
  ·rfl
  rw[nh,hY]
 rfl
theorem sp:∀{d:Nat} (c:Ch) (t:T d) (k:ByteArray),(dN c t k).1.h.notes=c.h.notes
 |0,c,t,k=>hY _ _ _
 |d+1,c,t,k=>by
  obtain⟨p,l⟩:Nat×List (ByteArray×T d):=t;cases q:l[aL (l.map aQ) k]? with
  |none=>
   have e:dN (d:=d+1) c ((p,l):Nat×List (ByteArray×T d)) k=(c,((p,l):Nat×List (ByteArray×T d))):=by
    refine(dN.eq_2 c k d ((p,l):Nat×List (ByteArray×T d))).trans ?_;simp only[q]
    rfl
   rw[e]
  |some x=>
   have b:=sp c x.2 k;rcases s:dN c x.2 k with⟨y,u⟩
   rw[s]at b;have b:y.h.notes=c.h.notes:=b;have e:(dN (d:=d+1) c ((p,l):Nat×List (ByteArray×T d)) k).1.h.notes=y.h.notes:=by
    refine(congrArg (fun z=>z.1.h.notes) (dN.eq_2 c k d ((p,l):Nat×List (ByteArray×T d)))).trans ?_;simp only[q,s];rw[hY]
    split
    ·exact nh _ _
    exact IY _ _ _ _
   rw[e];exact b
theorem ES(c:Ch)(i:Nat)(t:Tr)(k:ByteArray):(cM c i t k).1.h.notes=c.h.notes:=by
 rcases t with _|⟨_|d,t⟩
 ·rfl
 ·have h:=sp c t k;unfold cM;simp only
  split
  ·rw[lD,nh];exact h
  exact h
 have h:=sp c t k;unfold cM;simp only
 split
 ·rw[lD,nh];exact h
 split
 ·rw[lD,nh];exact h
 exact h
theorem wU{ω:Wt}{b0 k:ByteArray}(D:¬aC k b0){s e:Nat}(J:s<=e):∀{t:Tr},kO b0 t->ki ω t k s<=ki ω t k e
 |none,_=>by
  show max s 347<=max e 347;omega
 |some ⟨0,t⟩,_=>by
  show max (aZ ω (T.kv t)+s) 347<=max (aZ ω (T.kv t)+e) 347;omega
 |some ⟨1,t⟩,h=>by
  obtain⟨p,ls⟩:Nat×List KL:=t;obtain⟨q,G,H,y,z,_⟩:=h;have q:fF ls:=q;have y:ls=G::H:=y;obtain⟨a,x,b,I,B,_⟩:=hQ q y (k:=k) (by rw[z];exact D);subst I;rw[dW B,dW B];omega
 |some ⟨_+2,_⟩,h=>h.elim
structure TG(ω:Wt)(pg:Nat->ByteArray)(b0:ByteArray)(i:Nat)(c:Ch)(X:Tr)(K:LP)(k:ByteArray)(r V:Nat)(A:ByteArray->Prop):Prop where
 aE:c.aE
 lays:X.lays c pg i
 iL:kO b0 X
 kv:tB X=K
 short:qq X
 free:cH (1999-tC X) c.h
 sum:c.h.notes i=(iK K:Nat)
 key:¬aC k b0
 wR:ki ω X k r<=V
 sep:∀y∈zq X,A y
section
variable{ω:Wt}{pg:Nat->ByteArray}{b0 k:ByteArray}{i:Nat}{c:Ch}{X:Tr}{K:LP}{r V:Nat}{A:ByteArray->Prop}
theorem TG.IZ(h:TG ω pg b0 i c X K k r V A):eC K:=by
 have:=M8 h.iL;rw[h.kv]at this;exact this
theorem TG.get(h:TG ω pg b0 i c X K k r V A){k2:ByteArray}(b:¬aC k2 b0):X.get k2=bV K k2:=by
 have:=QK b h.iL;rw[h.kv]at this;exact this
theorem TG.walk(h:TG ω pg b0 i c X K k r V A){s:ByteArray}(hs:¬aC s b0):mq X s=jt K s:=by
 have:=M9 hs h.iL;rw[h.kv]at this;exact this
theorem TG.move(h:TG ω pg b0 i c X K k r V A){k2:ByteArray}(q:¬aC k2 k)(hs:∀y,A y->aC k y->aC k2 y):TG ω pg b0 i c X K k2 r V A:=by
 refine⟨h.aE,h.lays,h.iL,h.kv,h.short,h.free,h.sum,fun s=>?_,?_,h.sep⟩
 ·rcases kN k k2 with b|b|b
  ·exact h.key (fi b s)
  ·rw[<-b]at s;exact h.key s
  exact q b
 rw[M_ h.key q r h.iL (fun y z=>hs y (h.sep y z))];exact h.wR
theorem TG.add(h:TG ω pg b0 i c X K k r V A)(e:Nat):TG ω pg b0 i c X K k (r+e) (V+e) A:=
 ⟨h.aE,h.lays,h.iL,h.kv,h.short,h.free,h.sum,h.key,bM (QL h.key r e h.iL) (Nat.add_le_add_right h.wR e),h.sep⟩
theorem TG.less(h:TG ω pg b0 i c X K k r V A){r' V':Nat}{A':ByteArray->Prop}(b:r'<=r)(q:V<=V')(hA:∀y,A y->A' y):TG ω pg b0 i c X K k r' V' A':=
 ⟨h.aE,h.lays,h.iL,h.kv,h.short,h.free,h.sum,h.key,bM (bM (wU h.key b h.iL) h.wR) q,fun y s=>hA y (h.sep y s)⟩
theorem TG.rest(h:TG ω pg b0 i c X K k r V A){k2:ByteArray}(b:¬aC k2 b0):TG ω pg b0 i c X K k2 0 V A:=
 ⟨h.aE,h.lays,h.iL,h.kv,h.short,h.free,h.sum,b,by
  rw[wQ b h.iL,<-wQ h.key h.iL];exact bM (wU h.key (dr r) h.iL) h.wR,h.sep⟩
theorem TG.vt(h:TG ω pg b0 i c X K k r V A):VT ω X<=V:=by
 rw[<-wQ h.key h.iL];exact bM (wU h.key (dr r) h.iL) h.wR
theorem TG.np(h:TG ω pg b0 i c X K k r V A)(B:V<12145):tC X<=35/\∀p ls,X=some ⟨1,((p,ls):Nat×List KL)⟩->ls.length<=34:=by
 have hv:=h.vt;rcases X with _|⟨_|_|d,t⟩
 ·exact⟨by show 0<=35;omega,fun p ls e=>by cases e⟩
 ·exact⟨by show 1<=35;omega,fun p ls e=>by cases e⟩
 ·obtain⟨p,ls⟩:Nat×List KL:=t;have D:=Pp (ω:=ω) ls;have G:VS ω ls<=V:=hv;have s:ls.length<=34:=by omega
  refine⟨by show ls.length+1<=35;omega,fun q b e=>?_⟩;have e:(⟨1,((p,ls):Nat×List KL)⟩:(d:Nat)×T d)=⟨1,((q,b):Nat×List KL)⟩:=cO e;have y:((p,ls):Nat×List KL)=((q,b):Nat×List KL):=by
   injection e with _ e
  injection y with _ z
  rw[<-z];exact s
 exact h.iL.elim
theorem CV{l:LP}{k:ByteArray}(h:bV l k=none):oz ω l k=0:=by
 unfold oz;rw[h]
theorem KT{l:LP}{k v:ByteArray}(h:bV l k=some v):oz ω l k=ω k v:=by
 unfold oz;rw[h]
theorem Nf(b:∀k v,pz k v<=ω k v){v:ByteArray}{X:Tr}(h:TG ω pg b0 i c X K k r V A)(B:K=[]->k=b0)(s:k.size<=26)(hv:v.size<=100)(D:V<12145):∃y z,bN c i X k v=(y,z,0)/\Ps ω b0 X k v c y z:=by
 obtain⟨hn,q⟩:=h.np D;have hf:=h.free.mono (m:=2) (by omega);rcases X with _|⟨_|_|d,t⟩
 ·exact BD h.aE (B h.kv.symm) s hv hf
 ·obtain⟨p,l⟩:Nat×LP:=t;exact BE b h.aE h.lays.2.2.1 h.iL h.key h.short s hv hf
 ·obtain⟨p,ls⟩:Nat×List KL:=t;exact BF b h.aE h.lays.2.2.1 h.iL h.key h.short s hv (hf.mono (by omega)) (q p ls rfl)
 exact h.iL.elim
theorem KU{k2 v0:ByteArray}{X:Tr}(h:TG ω pg b0 i c X K k r V A)(B:¬aC k2 b0)(s:k2≠b0)(hv:bV K k2=some v0):∃y z,cM c i X k2=(y,z)/\IW ω b0 X k2 (ω k2 v0) c y z:=by
 have b:=h.kv;rcases X with _|⟨_|_|d,t⟩
 ·have q:([]:LP)=K:=b;rw[<-q]at hv;cases hv
 ·obtain⟨p,l⟩:Nat×LP:=t;have q:l=K:=b;exact zt h.iL s (by rw[q];exact hv) h.short
 ·obtain⟨p,ls⟩:Nat×List KL:=t;have q:eo ls=K:=b;exact zv h.lays.2.1 h.lays.2.2.2 h.iL B s (by rw[q];exact hv) h.short
 exact h.iL.elim
theorem AD(c:Ch)(i:Nat)(p n:Int)(F:Int->Option ByteArray):(⟨c.h.ed i p n,F⟩:Ch).h.notes i=n:=by
 show(if i=i then n else _)=n;rw[if_pos rfl]
theorem Gn{c:Ch}{i:Nat}{m n:Int}(h:c.h.notes i+m=n)(b:0<=n/\n<65536):ey c i m=(⟨c.h.ed i (c.h.roots i) n,c.F⟩,0):=by
 unfold ey;rw[h,if_pos b]
theorem KV:∀ls:List KL,aZ ω (eo ls)<=VS ω ls
 |[]=>cK _
 |x::b=>by
  have:=KV b;rw[dm,gg,lC];unfold wl;omega
theorem Ts{X:Tr}(h:kO b0 X):aZ ω (tB X)<=VT ω X:=by
 rcases X with _|⟨_|_|d,t⟩
 ·show 0<=347;omega
 ·show aZ ω (T.kv t)<=max (aZ ω (T.kv t)) 347;omega
 ·obtain⟨p,ls⟩:Nat×List KL:=t;exact KV ls
 exact h.elim
theorem TG.aZ(h:TG ω pg b0 i c X K k r V A):aZ ω K<=V:=by
 have b:=Ts (ω:=ω) h.iL;rw[h.kv]at b;exact bM b h.vt
theorem TG.put(H:∀k v,pz k v<=ω k v){v:ByteArray}(h:TG ω pg b0 i c X K k (r+(ω k v-oz ω K k)) V A)(hi:i<8)(hb:K=[]->k=b0)(hk:1<=k.size/\k.size<=26)(hv:v.size<=100)(L:V<12145)(hA:∀y∈(au K k v).map aQ,A y):
  ∃M O,kh c i X k v=(M,O,0)/\TG ω pg b0 i M O (au K k v) k r V A:=by
 obtain⟨b,Q,S,g⟩:=Nf H h hb hk.2 hv L;have q:=vq pz h.IZ k v;rw[<-ua,<-ua]at q;have hS:iK (au K k v)<=30000:=by
  have G:=h.aZ;have h3:=pn H K;have U:pz k v=2+k.size+v.size:=rfl;omega
 obtain⟨hn,_⟩:=h.np L;have B:=To h.aE h.lays hi k v;have I:=h.get h.key;have z:=q;have s:c.h.notes i+nM X k v=(iK (au K k v):Nat):=by
  rw[h.sum];unfold nM;rw[I];cases Y:bV K k with
  |none=>
   rw[CV (ω:=pz) Y]at z;have U:pz k v=2+k.size+v.size:=rfl;show(iK K:Int)+(2+(k.size:Int)+v.size)=_;omega
  |some D=>
   rw[KT (ω:=pz) Y]at z;have U:pz k v=2+k.size+v.size:=rfl;have h5:pz k D=2+k.size+D.size:=rfl;show(iK K:Int)+((v.size:Int)-D.size)=_;omega
 have J:b.h.notes=c.h.notes:=by
  have:=IX c i X k v;rw[S]at this;exact this
 have hm:ey b i (nM X k v)=(⟨b.h.ed i (b.h.roots i) (iK (au K k v):Nat),b.F⟩,0):=Gn (by rw[J];exact s) ⟨by omega,by omega⟩;have Z:kh c i X k v=(⟨b.h.ed i (b.h.roots i) (iK (au K k v):Nat),b.F⟩,Q,0):=by
  unfold kh;rw[if_neg (by omega),if_neg (by rw[s];omega),S];show((ey b i (nM X k v)).1,Q,(ey b i (nM X k v)).2)=_;rw[hm]
 rw[Z]at B;refine⟨_,_,Z,B.k.aE,B.lays,g.iL,by rw[g.kv,h.kv],g.short,?_,AD _ _ _ _ _,h.key,?_,fun y hy=>?_⟩
 ·exact cH.used (h:=b.h) (g.free 1999 (by omega) h.free) rfl
 ·have:=g.wR r;rw[h.kv]at this;exact bM this h.wR
 rcases g.sep y hy with G|G
 ·exact h.sep y G
 rw[h.kv]at G;exact hA y G
theorem TG.drop{k2 v0:ByteArray}(h:TG ω pg b0 i c X K k r V A)(hi:i<8)(z:¬aC k2 b0)(B:k2≠b0)(D:∀k v,pz k v<=ω k v)(hv:bV K k2=some v0)(M:V<12145):
  ∃H I,mo c i X k2=(H,I,0)/\TG ω pg b0 i H I (cZ K k2) k2 (ω k2 v0) V A:=by
 obtain⟨b,O,J,g⟩:=KU h z B hv;obtain⟨hn,_⟩:=h.np M;have q:=QG h.aE h.lays hi k2;have s:=h.get z;have hd:=sl pz h.IZ hv;rw[<-ua,<-ua]at hd;have hS:iK K<=30000:=by
  have U:=h.aZ;have Y:=pn D K;omega
 have G:b.h.notes=c.h.notes:=by
  have:=ES c i X k2;rw[J]at this;exact this
 have Q:ey b i (-2-(k2.size:Int)-v0.size)=(⟨b.h.ed i (b.h.roots i) (iK (cZ K k2):Nat),b.F⟩,0):=Gn (by
  rw[G,h.sum];have Z:pz k2 v0=2+k2.size+v0.size:=rfl;omega) ⟨by omega,by omega⟩
 have L:mo c i X k2=(⟨b.h.ed i (b.h.roots i) (iK (cZ K k2):Nat),b.F⟩,O,0):=by
  unfold mo;rw[s,hv];show((ey (cM c i X k2).1 i (-2-(k2.size:Int)-v0.size)).1,(cM c i X k2).2,(ey (cM c i X k2).1 i (-2-(k2.size:Int)-v0.size)).2)=_;rw[J,Q]
 rw[L]at q;refine⟨_,_,L,q.k.aE,q.lays,g.iL,by rw[g.kv,h.kv],g.short,?_,AD _ _ _ _ _,z,bM g.wR h.vt,fun y S=>h.sep y (g.sep y S)⟩;exact cH.used (h:=b.h) (g.free 1999 (by omega) h.free) rfl
end
def ye:Option ByteArray->de
 |none=>.tuple #[.string fJ,eJ 7]
 |some s=>.tuple #[.string s,.nilIface]
section
variable{w:bW}{PB DB M:Nat}{c:Ch}{sv:Head}{t:Int}{d:Dk}
theorem QR{key:ByteArray}:{n:Nat}->(x:T n)->x.fC->x.lays c d.pg->
  (cn n=true/\iy c d.pg true x.pg x.aO/\qG true x.aO/\kZ key x=if dR (aH x.aO) key then(x.aO[am (aH x.aO) key]?).map En.item else none)\/
  (cn n=false/\iy c d.pg false x.pg x.aO/\qG false x.aO/\aL (aH x.aO) key<x.aO.length/\∃m,n=m+1/\∃y:T m,(∃e,x.aO[aL (aH x.aO) key]?=some e/\e.cU=y.pg)/\y.fC/\y.lays c d.pg/\kZ key x=kZ key y)
 |0,x,q,s=>by
  obtain⟨p,l⟩:Nat×List (ByteArray×ByteArray):=x;refine .inl ⟨rfl,s,q,?_⟩;have z:aH (T.aO (d:=0) (p,l))=l.map aQ:=tX l;rw[z];show(if dR (l.map aQ) key then(l[am (l.map aQ) key]?).map da else none)=if dR (l.map aQ) key then((l.map cy)[am (l.map aQ) key]?).map En.item else none
  rw[cs,Option.map_map]
  rfl
 |n+1,x,q,s=>by
  obtain⟨p,l⟩:Nat×List (ByteArray×T n):=x;have z:aH (T.aO (d:=n+1) (p,l))=l.map aQ:=xY l;have G:l.map aQ≠[]:=fun e=>q.1.1 (by
   have:l=[]:=List.map_eq_nil_iff.1 e;show l.map aM=[];rw[this]
   rfl)
  have b:=oE G key;have H:=b;rw[b_]at b;refine .inr ⟨rfl,s.1,q.1,?_,n,rfl,?_⟩
  ·rw[z];show _<(l.map aM).length;rw[b_];exact b
  rw[z];obtain⟨y,D⟩:∃y,l[aL (l.map aQ) key]?=some y:=⟨_,bT b⟩;have B:y∈l:=bX D;refine⟨y.2,⟨aM y,?_,rfl⟩,q.2 y B,s.2 y B,?_⟩
  ·show(l.map aM)[aL (l.map aQ) key]?=_;rw[cs,D]
   rfl
  show((l[aL (l.map aQ) key]?).bind fun x=>kZ key x.2)=_;rw[D]
  rfl
theorem Nl(h:cG w PB DB M c sv t d){TP root:Nat}(ht:bH w TP PB root)(hr:root<8)(key:ByteArray){tr:Tr}(Z:tr.lays c d.pg root):
  dg prog 67 #[.pointer (some ⟨TP,0,none⟩),.string key] w (ar w (ye (tr.get key))):=by
 have a4:=mZ h ht hr;have e8:=ae a4;have c9:=fun(W:bW) (g:Gr w W) {leaf:Bool} {p:Nat} {l:List En} (hp:iy c d.pg leaf p l) (d0:qG leaf l)=>mP (h.gr g).s (ht.gr g) hp d0.2.2 d0.2.1;have d1:=ae c9;obtain⟨G,U⟩:∃G,tr.get key=G:=⟨_,rfl⟩;rw[U];have HP:Hid ((c.h.roots root=0/\G=none)\/∃n,∃x:T n,c.h.roots root=(x.pg:Nat)/\x.fC/\x.lays c d.pg/\kZ key x=G):=by
  cases tr with
  |none=>exact .inl ⟨Z,U.symm⟩
  |some x=>exact .inr ⟨x.1,x.2,Z.1,Z.2.2.1,Z.2.1,U⟩
 clear a4 c9 U Z;go_enter func67,ntmps67;go_wp2_with(go_at_call 119;refine e8.out.mono ?_;rintro e w1 ⟨rfl,d2⟩)
 have e9:=ae d2;have HH:=ae (And.intro h ht);obtain⟨N0,d3⟩:∃N0:Nat,(c.h.roots root=0/\G=none)\/∃n,N0=n+1/\∃x:T n,c.h.roots root=(x.pg:Nat)/\x.fC/\x.lays c d.pg/\kZ key x=G:=by
  rcases HP.out with hz|⟨n,x,hx⟩
  ·exact⟨0,.inl hz⟩
  exact⟨n+1,.inr ⟨n,rfl,x,hx⟩⟩
 have g0:=ae d3;clear d3 d2 HP;go_loopg [6] N0 (fun k pv wr=>Gr w wr/\∃pg:Nat,pv=.int .i64 (pg:Int)/\((pg=0/\G=none)\/∃n,k=n+1/\∃x:T n,pg=x.pg/\x.fC/\x.lays c d.pg/\kZ key x=G))
 case atStart=>
  refine⟨e9.out,?_⟩;rcases g0.out with⟨e1,e2⟩|⟨n,e1,x,e2,V⟩
  ·exact⟨0,by rw[e1];rfl,.inl ⟨rfl,e2⟩⟩
  exact⟨x.pg,by rw[e2],.inr ⟨n,e1,x,rfl,V⟩⟩
 case round=>
  obtain⟨hg,pg,rfl,hk⟩:=hrel;rcases hk with⟨rfl,U⟩|⟨n,rfl,x,rfl,ho,Z,U⟩
  ·have b5:ye G=.tuple #[.string fJ,eJ 7]:=by rw[U];rfl
   have j7:=ae b5;have z:ar w (ye G) (.returned (.tuple #[.string fJ,eJ 7])) wr:=by rw[b5];exact ar.mk rfl hg
   have L:=ae z;clear b5 z U hg;go_wp2_with fail
   go_ret2;exact L.out
  have d5:=(T.cY Z _ (T.eP x)).1;have a4:=QR (key:=key) x ho Z;have d6:(0:Int)<(x.pg:Int):=by omega
  have d7:=ae hg;rcases a4 with⟨i1,i2,i3,i4⟩|⟨i1,i2,i3,i4,m,rfl,y,⟨en,i6,i7⟩,i8,i9,b6⟩
  ·have b:=d1.out _ hg i2 i3;unfold bi at b;have b7:x.aO.length<=600:=by
    have h1:=d_ true x.aO;have h2:=i3.2.1;unfold aj at h2;omega
   obtain⟨l,Y⟩:∃l,x.aO=l:=⟨_,rfl⟩;obtain⟨p,a2⟩:∃p,x.pg=p:=⟨_,rfl⟩;rw[Y]at b b7;rw[U,Y]at i4;have b8:=ae i4;clear i4 U;rw[a2]at b d6⊢;have a3:=ae b;clear b hg i2 i3 Y a2 ho Z d5;go_wp2_with fail
   refine a3.out.mono ?_;rintro e q ⟨s3,rfl,O,b9⟩;obtain⟨I,J,rfl⟩:=O.form;have H:=fun W (g:Gr q W)=>qh p true l (.slice I l.length J) key W (O.qW.gr g) (by omega);unfold bi at H;simp only[if_true]at H;have c0:=ae H;clear H;have Q:Gr q (q.alloc (.cells #[.int .i64 (p:Int),.bool true,.slice I l.length J] 200)):=(Gr.refl q).alloc _;have k0:(q.alloc (.cells #[.int .i64 (p:Int),.bool true,.slice I l.length J] 200)).cell? ⟨q.heap.size,0,none⟩=some (.int .i64 (p:Int)):=by rw[ak];rfl
   have k1:(q.alloc (.cells #[.int .i64 (p:Int),.bool true,.slice I l.length J] 200)).cell? ⟨q.heap.size,1,none⟩=some (.bool true):=by rw[ak];rfl
   have k2:(q.alloc (.cells #[.int .i64 (p:Int),.bool true,.slice I l.length J] 200)).cell? ⟨q.heap.size,2,none⟩=some (.slice I l.length J):=by rw[ak];rfl
   go_wp2_with fail
   obtain⟨NB,c1⟩:∃NB,q.heap.size=NB:=⟨_,rfl⟩;rw[c1]at k0 k1 k2⊢;refine(c0.out _ Q).mono ?_;rintro e w4 ⟨rfl,D⟩;replace k0:=D.keeps k0;replace k1:=D.keeps k1;replace k2:=D.keeps k2;have a5:=ae (((d7.out.trans b9).trans Q).trans D);have c2:=O.gr (Q.trans D);cases hh:dR (aH l) key with
   |false=>
    have z:ar w (ye G) (.returned (.tuple #[.string fJ,eJ 7])) w4:=by
     rw[b8.out,hh];exact ar.mk rfl a5.out
    have L:=ae z;clear z;go_wp2_with fail
    go_ret2;exact L.out
   |true=>
    have g3:=oW hh;have g4:(aH l).length=l.length:=by unfold aH;rw[b_]
    obtain⟨S,hS⟩:∃S,am (aH l) key=S:=⟨_,rfl⟩;rw[hS]at g3 b8⊢;have a6:S<l.length:=by omega
    rcases c2.at' with⟨_,e2⟩|⟨B,cap,V,h2,h3,h4,h5,h6⟩
    ·rw[e2]at a6;exact absurd a6 (by simp)
    obtain⟨rfl,rfl⟩:I=some ⟨B,0,none⟩/\J=cap:=by
     injection V with e1 e2 V
     exact⟨e1,V⟩
    obtain⟨_,b1,_⟩:=h5 S a6;rw[cD]at b1;have z:ar w (ye G) (.returned (.tuple #[.string l[S].item,.nilIface])) w4:=by
     rw[b8.out,hh,if_pos rfl,bT a6];exact ar.mk rfl a5.out
    have L:=ae z;generalize l[S].item=it at*;have j8:(S:Int)<(l.length:Int):=by omega
    clear z h5 h6 V g4;go_wp2_with fail
    go_ret2;exact L.out
  have b:=d1.out _ hg i2 i3;unfold bi at b;have b7:x.aO.length<=600:=by
   have h1:=d_ false x.aO;have h2:=i3.2.1;unfold aj at h2;omega
  obtain⟨l,Y⟩:∃l,x.aO=l:=⟨_,rfl⟩;obtain⟨p,a2⟩:∃p,x.pg=p:=⟨_,rfl⟩;rw[Y]at b i4 i6 b7;rw[a2]at b d6⊢;have a3:=ae b;rw[U]at b6;have HN:=ae (And.intro i8 (And.intro i9 b6.symm));clear i8 i9 b6 U;clear b hg i2 i3 Y a2 ho Z d5;go_wp2_with fail
  refine a3.out.mono ?_;rintro e q ⟨s3,rfl,O,b9⟩;obtain⟨I,J,rfl⟩:=O.form;have H:=fun W (g:Gr q W)=>qh p false l (.slice I l.length J) key W (O.qW.gr g) (by omega);unfold bi at H;simp only[Bool.false_eq_true,if_false]at H;have c0:=ae H;clear H;have Q:Gr q (q.alloc (.cells #[.int .i64 (p:Int),.bool false,.slice I l.length J] 200)):=(Gr.refl q).alloc _;have k0:(q.alloc (.cells #[.int .i64 (p:Int),.bool false,.slice I l.length J] 200)).cell? ⟨q.heap.size,0,none⟩=some (.int .i64 (p:Int)):=by rw[ak];rfl
  have k1:(q.alloc (.cells #[.int .i64 (p:Int),.bool false,.slice I l.length J] 200)).cell? ⟨q.heap.size,1,none⟩=some (.bool false):=by rw[ak];rfl
  have k2:(q.alloc (.cells #[.int .i64 (p:Int),.bool false,.slice I l.length J] 200)).cell? ⟨q.heap.size,2,none⟩=some (.slice I l.length J):=by rw[ak];rfl
  go_wp2_with fail
  obtain⟨NB,c1⟩:∃NB,q.heap.size=NB:=⟨_,rfl⟩;rw[c1]at k0 k1 k2⊢;refine(c0.out _ Q).mono ?_;rintro e w4 ⟨rfl,D⟩;replace k0:=D.keeps k0;replace k1:=D.keeps k1;replace k2:=D.keeps k2;have a5:=ae (((d7.out.trans b9).trans Q).trans D);have c2:=O.gr (Q.trans D);obtain⟨K,hK⟩:∃K,aL (aH l) key=K:=⟨_,rfl⟩;rw[hK]at i4 i6⊢;rcases c2.at' with⟨_,e2⟩|⟨B,cap,V,h2,h3,h4,h5,h6⟩
  ·rw[e2]at i4;exact absurd i4 (by simp)
  obtain⟨rfl,rfl⟩:I=some ⟨B,0,none⟩/\J=cap:=by
   injection V with e1 e2 V
   exact⟨e1,V⟩
  obtain⟨_,_,b2⟩:=h5 K i4;rw[cD]at b2;have d8:l[K]=en:=by
   rw[bT i4]at i6;exact cO i6
  rw[d8,i7]at b2;have j9:(K:Int)<(l.length:Int):=by omega
  clear h5 h6 V i6 i7 d8;generalize dR (aH l) key=hit at*;go_wp2_with fail
  go_roundg (m+1)
  case rel=>exact⟨a5.out,y.pg,rfl,.inr ⟨m,rfl,y,rfl,HN.out.1,HN.out.2.1,HN.out.2.2⟩⟩
  case measure=>omega
end
theorem sr{c:Ch}(h:c.aE){i:Nat}(hi:i<8)(p:Int):tV c i p 0=(c.root i p,0):=by
 have hn:=h.head.note i hi;unfold tV Ch.root;rw[Int.add_zero,if_pos hn]
theorem Tv(w:bW)(key item:ByteArray)(pg:Nat):oX (w.alloc (.cells #[.string key,.string item,.int .i64 (pg:Int)] 206)) (.slice (some ⟨w.heap.size,0,none⟩) 1 1) [⟨key,item,pg⟩]:=by
 have:qg (w.alloc (.cells #[.string key,.string item,.int .i64 (pg:Int)] 206)) w.heap.size ⟨key,item,pg⟩:=⟨by show(w.heap.push _)[w.heap.size]?=_;rw[Array.getElem?_push_size];rfl⟩;exact this.qW
section
variable{w:bW}{PB DB M:Nat}{c:Ch}{sv:Head}{t:Int}{d:Dk}
theorem Nn(h:cG w PB DB M c sv t d){TP root:Nat}(ht:bH w TP PB root)(s:TP≠PB/\TP≠DB/\TP≠M)(hr:root<8)(key item:ByteArray)(hk:key.size<=60)(hi:item.size<=100)(h0:c.h.roots root=0):
  dg prog 144 #[.pointer (some ⟨TP,0,none⟩),.agg #[.string key,.string item,.int .i64 0]] w fun e w'=>e=.returned (eJ (bN c root none key item).2.2)/\cG w' PB DB M (bN c root none key item).1 sv t d/\aY PB DB M M w w':=by
 have c3:=h.lt;have c4:=ad ht.p;have gE:Gr w (w.alloc (.cells #[.string key,.string item,.int .i64 0] 206)):=(Gr.refl w).alloc _;have J:(w.alloc (.cells #[.string key,.string item,.int .i64 0] 206)).cell? ⟨w.heap.size,0,none⟩=some (.string key):=by rw[ak];rfl
 have O:(w.alloc (.cells #[.string key,.string item,.int .i64 0] 206)).cell? ⟨w.heap.size,1,none⟩=some (.string item):=by rw[ak];rfl
 have Q:(w.alloc (.cells #[.string key,.string item,.int .i64 0] 206)).cell? ⟨w.heap.size,2,none⟩=some (.int .i64 0):=by rw[ak];rfl
 have y:=mZ (h.gr gE) (ht.gr gE) hr;rw[h0]at y;have a6:=ae y;have HE:=ae gE;have a7:w.heap.size<(w.alloc (.cells #[.string key,.string item,.int .i64 0] 206)).heap.size:=by simp
 obtain⟨PR,U⟩:∃PR,bN c root none key item=PR:=⟨_,rfl⟩;rw[U];have a9:=ae U;clear y gE U;go_enter func144,ntmps144;go_wp2_with fail
 obtain⟨WE,b0⟩:∃WE,w.alloc (.cells #[.string key,.string item,.int .i64 0] 206)=WE:=⟨_,rfl⟩;rw[b0]at J O Q a6 HE a7⊢;clear b0;obtain⟨L,V⟩:∃L,w.heap.size=L:=⟨_,rfl⟩;rw[V]at J O Q a7 c3 c4⊢;have e5:=ae V;clear V;refine a6.out.mono ?_;rintro e w1 ⟨rfl,z⟩;replace J:=z.keeps J;replace O:=z.keeps O;replace Q:=z.keeps Q;have c5:L<w1.heap.size:=ad J;have H:=HE.out.trans z;have Y:=ht.gr H;have tp:=Y.p;have b1:=xW (h.gr H);have I:=ae b1;have c6:=ae Y;have b2:=ae H;have q:L≠PB/\L≠DB/\L≠M:=by omega
 have HF:=ae h.f;clear z H Y b1;cases ha:cS c.h with
 |none=>
  have B:iX c=.tuple #[.int .i64 0,.iface 24 (.int .i64 12)]:=by
   unfold iX;rw[ha]
  have b3:c.alloc=c:=by
   unfold Ch.alloc;rw[ha]
  rw[B,b3]at I;have D:PR=(c,none,12):=by
   rw[<-a9.out];unfold bN;rw[ha]
  have HP:=ae D;clear B b3 ha D;go_wp2_with fail
  refine I.out.mono ?_;rintro e S ⟨rfl,G,b⟩;have HX:=ae (And.intro G b);clear G b;go_wp2_with fail
  go_ret;exact⟨by rw[HP.out];rfl,by rw[HP.out];exact HX.out.1,(aY.ah PB DB M b2.out).trans HX.out.2⟩
 |some k=>
  have B:iX c=.tuple #[.int .i64 (k:Int),.nilIface]:=by
   unfold iX;rw[ha]
  rw[B]at I;obtain⟨f1,u1,n1,k1,k2⟩:=oH (pg:=d.pg) HF.out ha;have ho:=KE (key:=key) (item:=item) hk hi;obtain⟨f2,u2,_⟩:=gV (pg:=d.pg) f1.aE u1 (dY ho.2.2 ho.2.1);have D:PR=((c.alloc.write (k:Nat) (aw true [⟨key,item,0⟩])).root root (k:Nat),some ⟨0,(k,[(key,item)])⟩,0):=by
   rw[<-a9.out];unfold bN;rw[ha]
  have b5:=sr f2.aE hr (k:Nat);have HP:=ae D;have c7:=ae b5;have b6:=ae ho;have c8:=ae u1;clear B ha D b5 ho u1 u2 f1 f2 n1;go_wp2_with fail
  refine I.out.mono ?_;rintro e S ⟨rfl,G,b⟩;have e6:L<S.heap.size:=co c5 b.size;replace J:=b.keeps q.1 q.2.1 q.2.2 J;replace O:=b.keeps q.1 q.2.1 q.2.2 O;replace Q:=b.keeps q.1 q.2.1 q.2.2 Q;have Z:=c6.out.pg b s.1 s.2.1 s.2.2;have gS:Gr S (S.alloc (.cells #[.string key,.string item,.int .i64 0] 206)):=(Gr.refl S).alloc _;have a0:=m_ (G.gr gS) (Z.gr gS) (p:=k) (Tv S key item 0) b6.out.2.2 b6.out.2.1 c8.out;unfold bi at a0;have c9:=ae a0;have d0:=ae (Z.gr gS);have d1:=ae (((aY.ah PB DB M b2.out).trans b).trans (aY.ah PB DB M gS));clear G b Z gS a0;go_wp2_with fail
  refine c9.out.mono ?_;rintro e w4 ⟨rfl,b7,a1⟩;have y:=wL b7 (d0.out.pg a1 s.1 s.2.1 s.2.2) s hr (p:=(k:Int)) (more:=0) (by omega) (by omega);rw[c7.out]at y;have c0:=ae y;have d2:=ae (d1.out.trans a1);clear b7 a1 y;go_wp2_with fail
  refine c0.out.mono ?_;rintro e w5 ⟨rfl,b8,b9⟩;have HX:=ae (And.intro b8 (d2.out.trans b9));clear b8 b9;have d3:eJ 0=.nilIface:=rfl;rw[d3];go_wp2_with fail
  go_ret;exact⟨by rw[HP.out];rfl,by rw[HP.out];exact HX.out.1,HX.out.2⟩
end
theorem Tw(w:bW)(b q k2 s:ByteArray)(p1 p2:Nat):oX (w.alloc (.cells #[.string b,.string q,.int .i64 (p1:Int),.string k2,.string s,.int .i64 (p2:Int)] 206)) (.slice (some ⟨w.heap.size,0,none⟩) 2 2) [⟨b,q,p1⟩,⟨k2,s,p2⟩]:=by
 have hc:∀j,(w.alloc (.cells #[.string b,.string q,.int .i64 (p1:Int),.string k2,.string s,.int .i64 (p2:Int)] 206)).cell? ⟨w.heap.size,j,none⟩=#[Value.string b,.string q,.int .i64 (p1:Int),.string k2,.string s,.int .i64 (p2:Int)][j]?:=fun j=>by rw[ak]
 refine .inr ⟨w.heap.size,0,2,rfl,by simp,fun i hi=>?_⟩;have:i=0\/i=1:=by simp at hi;omega
 rcases this with rfl|rfl
 ·rw[hc,hc,hc];exact⟨rfl,rfl,rfl⟩
 rw[hc,hc,hc];exact⟨rfl,rfl,rfl⟩
section
variable{w:bW}{PB DB M:Nat}{c:Ch}{sv:Head}{t:Int}{d:Dk}
theorem No(h:cG w PB DB M c sv t d){TP root:Nat}(ht:bH w TP PB root)(y:TP≠PB/\TP≠DB/\TP≠M)(hr:root<8)(key item:ByteArray)(hk:key.size<=60)(hi:item.size<=100){n:Nat}{x:T n}(hx:Tr.lays c d.pg root (some ⟨n,x⟩)):
  dg prog 144 #[.pointer (some ⟨TP,0,none⟩),.agg #[.string key,.string item,.int .i64 0]] w fun e w'=>e=.returned (eJ (bN c root (some ⟨n,x⟩) key item).2.2)/\cG w' PB DB M (bN c root (some ⟨n,x⟩) key item).1 sv t d/\aY PB DB M M w w':=by
 obtain⟨i3,hl,ho,hn⟩:=hx;have i5:=T.cY hl;have d7:=(i5 _ (T.eP x)).1;have m2:=h.lt;have m3:=ad ht.p;have gE:Gr w (w.alloc (.cells #[.string key,.string item,.int .i64 0] 206)):=(Gr.refl w).alloc _;have e0:(w.alloc (.cells #[.string key,.string item,.int .i64 0] 206)).cell? ⟨w.heap.size,0,none⟩=some (.string key):=by rw[ak];rfl
 have e1:(w.alloc (.cells #[.string key,.string item,.int .i64 0] 206)).cell? ⟨w.heap.size,1,none⟩=some (.string item):=by rw[ak];rfl
 have e2:(w.alloc (.cells #[.string key,.string item,.int .i64 0] 206)).cell? ⟨w.heap.size,2,none⟩=some (.int .i64 0):=by rw[ak];rfl
 have a0:=mZ (h.gr gE) (ht.gr gE) hr;rw[i3]at a0;have c2:=ae a0;have HE:=ae gE;have i7:w.heap.size<(w.alloc (.cells #[.string key,.string item,.int .i64 0] 206)).heap.size:=by simp
 obtain⟨PR,e8⟩:∃PR,bN c root (some ⟨n,x⟩) key item=PR:=⟨_,rfl⟩;rw[e8];have c3:=ae e8;have J:=xU (pg:=d.pg) hk hi h.f hl ho hn;have c4:=fun W (g:Gr w W)=>Tm y key item hk hi (h.gr g) (ht.gr g) hl ho hn;rcases c5:dt c x key item with⟨H,u,r⟩
 rw[c5]at J;simp only[c5]at c4;have i9:u.pg=x.pg:=J.cU;have j0:u.lays H d.pg:=J.lays;have j1:u.fC:=J.fits;have l5:H.aE:=J.fr.aE;have j2:=J.more;have j3:x.pg=u.pg:=i9.symm;rw[j3]at c4 c2 d7;have j4:=ae c4;have c6:=ae c5;have m4:=ae j2;have m5:=ae j0;have j5:=ae j1;clear a0 gE e8 J c4 c5 i9 j2 j0 j1 j3 i5 hl ho hn i3;go_enter func144,ntmps144;go_wp2_with fail
 obtain⟨WE,j6⟩:∃WE,w.alloc (.cells #[.string key,.string item,.int .i64 0] 206)=WE:=⟨_,rfl⟩;rw[j6]at e0 e1 e2 c2 HE i7⊢;clear j6;obtain⟨EB,e9⟩:∃EB,w.heap.size=EB:=⟨_,rfl⟩;rw[e9]at e0 e1 e2 i7 m2 m3⊢;have m6:=ae e9;clear e9;refine c2.out.mono ?_;rintro e w1 ⟨rfl,b2⟩;replace e0:=b2.keeps e0;replace e1:=b2.keeps e1;replace e2:=b2.keeps e2;have j7:EB<w1.heap.size:=ad e0;have c7:=HE.out.trans b2;have m7:=ae (ht.gr c7);have m8:=ae c7;have t1:EB≠PB/\EB≠DB/\EB≠M:=by omega
 have m9:¬(u.pg:Int)=0:=by omega
 have l6:¬u.pg=0:=by omega
 have e3:=j4.out _ c7;have e4:=ae e3;clear b2 c7 e3 j4 c2;obtain⟨Y,g0⟩:∃Y,u.pg=Y:=⟨_,rfl⟩;rw[g0]at e4 m9 l6 d7⊢;have j8:=ae g0;clear g0;go_wp2_with fail
 refine e4.out.mono ?_;rintro e w2 ⟨v,rfl,hm,L,a6⟩;have b3:=m7.out.pg a6 y.1 y.2.1 y.2.2;have F2:=(aY.ah PB DB M m8.out).trans a6;rcases r with _|_|m
 ·obtain rfl:v=.tuple #[.pointer none,eJ 12]:=hm;have g3:eJ 12=.iface 24 (.int .i64 12):=rfl;rw[g3];have z:PR=(H,some ⟨n,u⟩,12):=by
   rw[<-c3.out];unfold bN;simp only[c6.out]
  have Z:=ae z;have U:=ae (And.intro L F2);clear z L F2 a6 b3;go_wp2_with fail
  go_ret;exact⟨by rw[Z.out];rfl,by rw[Z.out];exact U.out.1,U.out.2⟩
 ·obtain rfl:v=.tuple #[.pointer none,.nilIface]:=hm;have z:PR=(H,some ⟨n,u⟩,0):=by
   rw[<-c3.out];unfold bN;simp only[c6.out]
  have Z:=ae z;have U:=ae (And.intro L F2);clear z L F2 a6 b3;go_wp2_with fail
  go_ret;exact⟨by rw[Z.out];rfl,by rw[Z.out];exact U.out.1,U.out.2⟩
 obtain⟨q,rfl,n3,y0,y1,y2⟩:=hm;have hN:=(T.oI.1 m5.out).1;have hO:=(T.lA.1 j5.out).1;rw[j8.out]at hN;have c8:=mP L.s b3 hN hO.2.2 hO.2.1;unfold bi at c8;have j9:=Gk j5.out;have g4:=m4.out m rfl;have a7:m.1.size<=60:=g4.2.2.1;have k0:=T.cY g4.1 _ (T.eP m.2);obtain⟨I,b4⟩:∃I,(u.aO.head?.map En.key).getD fJ=I:=⟨_,rfl⟩;obtain⟨l,g5⟩:∃l,u.aO=l:=⟨_,rfl⟩;have n4:=m6;have G:w2.cell? ⟨q,0,none⟩=some (.string m.1):=y0;have O:w2.cell? ⟨q,1,none⟩=some (.string fJ):=y1;have Q:w2.cell? ⟨q,2,none⟩=some (.int .i64 (m.2.pg:Int)):=y2;have g6:=KD (p1:=Y) (p2:=m.2.pg) j9 a7 hN.1.2.1 k0.2.1;rw[b4]at g6;have n5:=ae b4;rw[g5]at c8 hO b4;have k3:=hO.1;have t2:=ae hN.1;have n6:=ae c8;have c9:=ae g6;have t3:=ae g5;have n7:EB<w2.heap.size:=co j7 a6.size;have r0:q<w2.heap.size:=ad G;have r3:EB<=w1.heap.size:=di j7;have b:q≠PB/\q≠DB/\q≠M:=by omega
 have n8:=ae L;have n9:=ae b3;have o0:=ae F2;have t4:EB<=w2.heap.size:=di n7;have r4:w1.heap.size<=q:=n3;clear hN hO c8 j9 g4 a7 g6 g5 L b3 F2 a6 y0 y1 y2 n4 k0 e0 e1 e2;have d0:0<l.length:=List.length_pos_iff.2 k3;have o1:(l[0]'d0).key=I:=by
  rw[<-b4];cases l with
  |nil=>exact absurd rfl k3
  |cons a r=>rfl
 clear b4;go_wp2_with fail
 refine n6.out.mono ?_;rintro e w3 ⟨s3,rfl,k4,S⟩;rcases k4.at' with⟨_,e2⟩|⟨B,cap,rfl,h2,h3,h4,h5,h6⟩
 ·rw[e2]at d0;exact absurd d0 (by simp)
 obtain⟨b0,_,_⟩:=h5 0 d0;rw[o1]at b0;simp only[Nat.zero_mul,cD]at b0;have gN:Gr w3 (w3.alloc (.cells #[.int .i64 (Y:Int),.bool (cn n),.slice (some ⟨B,0,none⟩) l.length cap] 200)):=(Gr.refl w3).alloc _;have n2:(w3.alloc (.cells #[.int .i64 (Y:Int),.bool (cn n),.slice (some ⟨B,0,none⟩) l.length cap] 200)).cell? ⟨w3.heap.size,2,none⟩=some (.slice (some ⟨B,0,none⟩) l.length cap):=by rw[ak];rfl
 replace b0:=gN.keeps b0;replace G:=gN.keeps (S.keeps G);replace O:=gN.keeps (S.keeps O);replace Q:=gN.keeps (S.keeps Q);have k5:=xW (n8.out.gr (S.trans gN));have d1:=ae k5;have g7:=n9.out.gr (S.trans gN);have tp:=g7.p;have o2:=ae g7;have k6:=ae (o0.out.trans (aY.ah PB DB M (S.trans gN)));have o3:w2.heap.size<=w3.heap.size:=S.size;have r5:(0:Int)<(l.length:Int):=by omega
 clear h5 h6 k4 k5 g7;go_wp2_with fail
 obtain⟨NB,e6⟩:∃NB,w3.heap.size=NB:=⟨_,rfl⟩;rw[e6]at n2 o3⊢;clear e6;generalize w3.alloc (.cells #[.int .i64 (Y:Int),.bool (cn n),.slice (some ⟨B,0,none⟩) l.length cap] 200)=w4 at*;cases ha:cS H.h with
 |none=>
  have b6:iX H=.tuple #[.int .i64 0,.iface 24 (.int .i64 12)]:=by
   unfold iX;rw[ha]
  have k7:H.alloc=H:=by
   unfold Ch.alloc;rw[ha]
  rw[b6,k7]at d1;have z:PR=(H,some ⟨n,u⟩,12):=by
   rw[<-c3.out];unfold bN;simp only[c6.out,ha]
  have Z:=ae z;clear b6 k7 ha z;refine d1.out.mono ?_;rintro e V ⟨rfl,b7,D⟩;have U:=ae (And.intro b7 (k6.out.trans D));clear b7 D;go_wp2_with fail
  go_ret;exact⟨by rw[Z.out];rfl,by rw[Z.out];exact U.out.1,U.out.2⟩
 |some k=>
  have b6:iX H=.tuple #[.int .i64 (k:Int),.nilIface]:=by
   unfold iX;rw[ha]
  rw[b6]at d1;obtain⟨f1,u1,n1,k1,k2⟩:=oH (pg:=d.pg) l5 ha;obtain⟨f2,u2,_⟩:=gV (pg:=d.pg) f1.aE u1 (dY c9.out.2.2 c9.out.2.1);have z:PR=((H.alloc.write (k:Nat) (aw false (Aw I Y m.1 m.2.pg))).root root (k:Nat),some ⟨n+1,(k,[(I,u),m])⟩,0):=by
   rw[<-c3.out];unfold bN;simp only[c6.out,ha,n5.out,j8.out]
   rfl
  have k8:=sr f2.aE hr (k:Nat);have Z:=ae z;have o4:=ae k8;have o5:=ae u1;clear b6 ha z k8 u1 u2 f1 f2 n1;refine d1.out.mono ?_;rintro e V ⟨rfl,b7,D⟩;have a8:NB≠PB/\NB≠DB/\NB≠M:=by omega
  have a9:B≠PB/\B≠DB/\B≠M:=by omega
  replace n2:=D.keeps a8.1 a8.2.1 a8.2.2 n2;replace b0:=D.keeps a9.1 a9.2.1 a9.2.2 b0;replace G:=D.keeps b.1 b.2.1 b.2.2 G;replace O:=D.keeps b.1 b.2.1 b.2.2 O;replace Q:=D.keeps b.1 b.2.1 b.2.2 Q;have g8:=o2.out.pg D y.1 y.2.1 y.2.2;have gA:=fun W:bW=>(Gr.refl W).alloc (.cells #[.string I,.string fJ,.int .i64 (Y:Int),.string m.1,.string fJ,.int .i64 (m.2.pg:Int)] 206);have g9:=fun W (g:Gr V W)=>m_ (b7.gr (g.trans (gA W))) (g8.gr (g.trans (gA W))) (p:=k) (Tw W I fJ m.1 fJ Y m.2.pg) c9.out.2.2 c9.out.2.1 o5.out;unfold bi at g9;have h0:=ae g9;have o6:=ae g8;have o7:=ae (k6.out.trans D);have d2:=ae gA;obtain⟨mk,a7⟩:∃mk,m.1=mk:=⟨_,rfl⟩;obtain⟨mp,k9⟩:∃mp,(m.2.pg:Int)=mp:=⟨_,rfl⟩;have l0:fJ=(⟨#[]⟩:ByteArray):=rfl;rw[a7]at G;rw[k9]at Q;rw[a7,k9]at h0 d2;rw[l0]at O h0 d2;clear b7 D g8 gA g9 l0;go_wp2_with fail
  have Gc:Gr V V.drew:=(Gr.refl V).drew;have ga:=d2.out V.drew;have Y1:V.drew.cell? ⟨NB,2,none⟩=some (.slice (some ⟨B,0,none⟩) l.length cap):=n2;have Y2:V.drew.cell? ⟨B,0,none⟩=some (.string I):=b0;have Y3:V.drew.cell? ⟨q,0,none⟩=some (.string mk):=G;have Y4:V.drew.cell? ⟨q,1,none⟩=some (.string ⟨#[]⟩):=O;have Y5:V.drew.cell? ⟨q,2,none⟩=some (.int .i64 mp):=Q;have Z1:=ga.keeps Y1;have Z2:=ga.keeps Y2;have Z3:=ga.keeps Y3;have Z4:=ga.keeps Y4;have Z5:=ga.keeps Y5;have kf:∀W W':bW,aY PB DB M M W W'->(W.cell? ⟨NB,2,none⟩=some (.slice (some ⟨B,0,none⟩) l.length cap)/\W.cell? ⟨B,0,none⟩=some (.string I)/\W.cell? ⟨q,0,none⟩=some (.string mk)/\W.cell? ⟨q,1,none⟩=some (.string ⟨#[]⟩)/\W.cell? ⟨q,2,none⟩=some (.int .i64 mp))->(W'.cell? ⟨NB,2,none⟩=some (.slice (some ⟨B,0,none⟩) l.length cap)/\W'.cell? ⟨B,0,none⟩=some (.string I)/\W'.cell? ⟨q,0,none⟩=some (.string mk)/\W'.cell? ⟨q,1,none⟩=some (.string ⟨#[]⟩)/\W'.cell? ⟨q,2,none⟩=some (.int .i64 mp)):=fun W W' f ⟨a1,a2,a3,a4,a5⟩=>⟨f.keeps a8.1 a8.2.1 a8.2.2 a1,f.keeps a9.1 a9.2.1 a9.2.2 a2,f.keeps b.1 b.2.1 b.2.2 a3,f.keeps b.1 b.2.1 b.2.2 a4,f.keeps b.1 b.2.1 b.2.2 a5⟩;have KF:=ae kf;clear kf ga;go_region_held3(fun w'=>w'.cell? ⟨NB,2,none⟩=some (.slice (some ⟨B,0,none⟩) l.length cap)/\w'.cell? ⟨B,0,none⟩=some (.string I)/\w'.cell? ⟨q,0,none⟩=some (.string mk)/\w'.cell? ⟨q,1,none⟩=some (.string ⟨#[]⟩)/\w'.cell? ⟨q,2,none⟩=some (.int .i64 mp)) (first|exact⟨Y1,Y2,Y3,Y4,Y5⟩|exact⟨Z1,Z2,Z3,Z4,Z5⟩|exact⟨V1,V2,V3,V4,V5⟩|exact⟨n2,b0,G,O,Q⟩) (first|(go_at_call 200;refine(h0.out _ Gc).mono ?_;rintro e w6 ⟨rfl,l1,h1⟩;obtain⟨V1,V2,V3,V4,V5⟩:=KF.out _ _ h1 ⟨Z1,Z2,Z3,Z4,Z5⟩))
  all_goals
   have h7:=(aY.ah PB DB M (Gc.trans (d2.out V.drew))).trans h1;have a0:=wL l1 (o6.out.pg h7 y.1 y.2.1 y.2.2) y hr (p:=(k:Int)) (more:=0) (by omega) (by omega);have l7:=ae a0;have o8:=ae (o7.out.trans h7);clear h7 l1 h1 a0;go_wp2_with fail
   refine l7.out.mono ?_;rintro e w7 ⟨rfl,l2,l3⟩;have l4:tV (H.alloc.write (k:Nat) (aw false [⟨I,⟨#[]⟩,Y⟩,⟨mk,⟨#[]⟩,m.2.pg⟩])) root (k:Nat) 0=((H.alloc.write (k:Nat) (aw false (Aw I Y m.1 m.2.pg))).root root (k:Nat),0):=by
    rw[<-a7];exact o4.out
   have U:=ae (And.intro l2 (o8.out.trans l3));rw[l4]at U⊢;clear l2 l3 l4;have g3:eJ 0=.nilIface:=rfl;rw[g3];go_wp2_with fail
   go_ret;exact⟨by rw[Z.out];rfl,by rw[Z.out];exact U.out.1,U.out.2⟩
end
theorem wY(c:Ch)(i:Nat)(m:Int):tV c i (c.h.roots i) m=ey c i m:=rfl
theorem Db{key:ByteArray}:∀{n:Nat} {x:T n} {s:ByteArray},x.fC->kZ key x=some s->s.size<=100
 |0,x,s,q,h=>by
  obtain⟨p,l⟩:Nat×List (ByteArray×ByteArray):=x;have h:(if dR (l.map aQ) key then(l[am (l.map aQ) key]?).map da else none)=some s:=h
  split at h
  ·cases b:l[am (l.map aQ) key]? with
   |none=>rw[b]at h;cases h
   |some y=>
    rw[b]at h;have z:y.2=s:=by simpa using h
    have B:=bX b;have:=(q.2.2 (cy y) (bA B)).item;rw[<-z];exact this
  cases h
 |n+1,x,s,q,h=>by
  obtain⟨p,l⟩:Nat×List (ByteArray×T n):=x;have h:((l[aL (l.map aQ) key]?).bind fun x=>kZ key x.2)=some s:=h;cases b:l[aL (l.map aQ) key]? with
  |none=>rw[b]at h;cases h
  |some y=>
   rw[b]at h;exact Db (q.2 y (bX b)) h
theorem zz{c:Ch}{pg:Nat->ByteArray}{i:Nat}{b:Tr}(q:b.lays c pg i){key s:ByteArray}(h:b.get key=some s):s.size<=100:=by
 cases b with
 |none=>cases h
 |some x=>exact Db q.2.2.1 h
theorem Dc(c:Ch)(i:Nat)(q:Tr)(key item:ByteArray):(bN c i q key item).2.2=0\/(bN c i q key item).2.2=12:=by
 cases q with
 |none=>
  cases ha:cS c.h with
  |none=>
   refine .inr ?_;unfold bN;simp only[ha]
  |some k=>
   refine .inl ?_;unfold bN;simp only[ha]
 |some x=>
  obtain⟨d,t⟩:=x;rcases b:dt c t key item with⟨s,u,r⟩
  rcases r with _|_|m
  ·refine .inr ?_;unfold bN;simp only[b]
  ·refine .inl ?_;unfold bN;simp only[b]
  cases ha:cS s.h with
  |none=>
   refine .inr ?_;unfold bN;simp only[b,ha]
  |some k=>
   refine .inl ?_;unfold bN;simp only[b,ha]
section
variable{w:bW}{PB DB M:Nat}{c:Ch}{sv:Head}{t:Int}{d:Dk}
theorem Pu(h:cG w PB DB M c sv t d){TP root:Nat}(s:bH w TP PB root)(b:TP≠PB/\TP≠DB/\TP≠M)(y:root<8)(key item:ByteArray)(z:key.size<=60)(hi:item.size<=100){q:Tr}(B:q.lays c d.pg root):
  dg prog 144 #[.pointer (some ⟨TP,0,none⟩),.agg #[.string key,.string item,.int .i64 0]] w fun e D=>e=.returned (eJ (bN c root q key item).2.2)/\cG D PB DB M (bN c root q key item).1 sv t d/\aY PB DB M M w D:=by
 cases q with
 |none=>exact Nn h s b y key item z hi B
 |some x=>exact No h s b y key item z hi B
theorem Ty(h:cG w PB DB M c sv t d){TP root:Nat}(ht:bH w TP PB root)(S:TP≠PB/\TP≠DB/\TP≠M)(Z:root<8)(key item:ByteArray){I:Tr}(hl:I.lays c d.pg root):
  dg prog 89 #[.pointer (some ⟨TP,0,none⟩),.string key,.string item] w fun e w'=>e=.returned (eJ (kh c root I key item).2.2)/\cG w' PB DB M (kh c root I key item).1 sv t d/\aY PB DB M M w w':=by
 obtain⟨J,d0⟩:∃J,kh c root I key item=J:=⟨_,rfl⟩;rw[d0];have b5:=ae d0;have tp:=ht.p;have e2:=h.f.head.note root Z;have O:=ae (And.intro h (And.intro ht hl));clear d0 h ht;by_cases hs:key.size<1\/60<key.size\/100<item.size
 ·have q:J=(c,I,1):=by
   rw[<-b5.out];unfold kh;rw[if_pos hs]
  have HP:=ae q;clear q hl;go_enter func89,ntmps89;have g7:(key.size:Int)<1\/60<(key.size:Int)\/100<(item.size:Int):=by omega
  clear hs;have s:eJ J.2.2=.iface 24 (.int .i64 1)/\cG w PB DB M J.1 sv t d:=by
   rw[HP.out];exact⟨rfl,O.out.1⟩
  have b:=ae s;clear s;rcases g7 with h1|h1
  ·go_wp2_with fail
   go_ret;exact⟨by rw[b.out.1];rfl,b.out.2,aY.ah PB DB M (Gr.refl w)⟩
  by_cases h0:(key.size:Int)<1
  ·go_wp2_with fail
   go_ret;exact⟨by rw[b.out.1];rfl,b.out.2,aY.ah PB DB M (Gr.refl w)⟩
  rcases h1 with h1|h1
  ·go_wp2_with fail
   go_ret;exact⟨by rw[b.out.1];rfl,b.out.2,aY.ah PB DB M (Gr.refl w)⟩
  by_cases h2:60<(key.size:Int)
  ·go_wp2_with fail
   go_ret;exact⟨by rw[b.out.1];rfl,b.out.2,aY.ah PB DB M (Gr.refl w)⟩
  go_wp2_with fail
  go_ret;exact⟨by rw[b.out.1];rfl,b.out.2,aY.ah PB DB M (Gr.refl w)⟩
 have i0:¬(key.size:Int)<1:=by omega
 have i1:¬60<(key.size:Int):=by omega
 have i2:¬100<(item.size:Int):=by omega
 have b3:key.size<=60:=by omega
 have a0:item.size<=100:=by omega
 have e4:=IQ O.out.1;have g8:=ae e4;have e5:=fun W (g:Gr w W)=>Nl (O.out.1.gr g) (O.out.2.1.gr g) Z key hl;have g9:=ae e5;obtain⟨U,e6⟩:∃U,nM I key item=U:=⟨_,rfl⟩;have a3:=ae e6;have HS:=ae hs;have HL:=ae hl;clear hs e4 e5 e6;go_enter func89,ntmps89;go_wp2_with fail
 refine g8.out.mono ?_;rintro e w1 ⟨rfl,d1⟩;have c9:=g9.out _ d1;have e9:=ae c9;have h3:=ae d1;clear c9 d1;go_wp2_with fail
 have i3:-200<=U/\U<=200:=by
  rw[<-a3.out];unfold nM;cases a4:I.get key with
  |none=>dsimp only;omega
  |some a5=>
   have:=zz HL.out a4
   dsimp only;omega
 refine e9.out.mono ?_;rintro e w2 ⟨rfl,e8⟩;have b4:=ae (h3.out.trans e8);clear e8;cases a4:I.get key with
 |none=>
  have hm:U=2+(key.size:Int)+item.size:=by
   rw[<-a3.out];unfold nM;rw[a4]
  have HM:=ae hm;have b6:ye none=.tuple #[.string fJ,.iface 24 (.int .i64 7)]:=rfl;rw[b6];clear hm a4 b6;have b7:=MX (O.out.1.gr b4.out) (O.out.2.1.gr b4.out) Z;have d2:=ae b7;clear b7;go_wp2_with fail
  refine d2.out.mono ?_;rintro e w3 ⟨rfl,b8⟩;have y:=ae (b4.out.trans b8);clear b8;obtain⟨nt,Q⟩:∃nt,c.h.notes root=nt:=⟨_,rfl⟩;rw[Q]at e2⊢;have b9:=ae Q;clear Q;by_cases hf:30000<nt+(2+(key.size:Int)+item.size)
  ·have q:J=(c,I,12):=by
    rw[<-b5.out];unfold kh;rw[if_neg HS.out,a3.out,b9.out,HM.out,if_pos hf]
   have s:eJ J.2.2=.iface 24 (.int .i64 12)/\cG w3 PB DB M J.1 sv t d:=by
    rw[q];exact⟨rfl,O.out.1.gr y.out⟩
   have b:=ae s;clear s q;go_wp2_with fail
   go_ret;exact⟨by rw[b.out.1];rfl,b.out.2,aY.ah PB DB M y.out⟩
  have a6:=Pu (O.out.1.gr y.out) (O.out.2.1.gr y.out) S Z key item b3 a0 HL.out;have a7:=zm (pg:=d.pg) O.out.1.f HL.out Z b3 a0;have z:=Dc c root I key item;have B:kh c root I key item=match bN c root I key item with
   |( H,u,0)=>((ey H root U).1,u,(ey H root U).2)
   |r=>r:=by
   unfold kh;rw[if_neg HS.out,a3.out,b9.out,HM.out,if_neg hf];generalize bN c root I key item=r;obtain⟨ra,rb,rn⟩:=r;cases rn<;>rfl
  rw[b5.out]at B;rcases a8:bN c root I key item with⟨H,u,en⟩
  rw[a8]at a7 B;simp only[a8]at z a6;have a9:H.aE:=a7.k.aE;have d3:=a9.head.root root Z;have V:=ae a6;have a2:=ae B;have h4:=ae a9;clear a6 B a7 a9 a8;rcases z with z|z
  ·subst z;have q:J=((ey H root U).1,u,(ey H root U).2):=a2.out;have HP:=ae q;have L:eJ 0=.nilIface:=rfl;rw[L]at V;clear q L;go_wp2_with fail
   refine V.out.mono ?_;rintro e w4 ⟨rfl,D,G⟩;have b0:=(O.out.2.1.gr y.out).pg G S.1 S.2.1 S.2.2;have c0:=mZ D b0 Z;have d4:=ae c0;have d5:=ae D;have d6:=ae b0;have d7:=ae ((aY.ah PB DB M y.out).trans G);clear c0 D b0 G;go_wp2_with fail
   refine d4.out.mono ?_;rintro e w5 ⟨rfl,Y⟩;have b1:=wL (d5.out.gr Y) (d6.out.gr Y) S Z (p:=H.h.roots root) (more:=U) d3 (by omega);rw[wY]at b1;have c2:=ae b1;have d8:=ae (d7.out.trans (aY.ah PB DB M Y));clear b1 Y;rw[HM.out]at c2 HP;go_wp2_with fail
   refine c2.out.mono ?_;rintro e w6 ⟨rfl,c3,c4⟩;have HX:=ae (And.intro c3 (d8.out.trans c4));have s:eJ J.2.2=eJ (ey H root ((2+(key.size:Int)+item.size))).2/\cG w6 PB DB M J.1 sv t d:=by
     rw[HP.out];exact⟨rfl,HX.out.1⟩
   have b:=ae s;clear s c3 c4;obtain⟨EV,c5⟩:∃EV,eJ (ey H root ((2+(key.size:Int)+item.size))).2=EV:=⟨_,rfl⟩;rw[c5]at b⊢;clear c5;go_wp2_with fail
   go_ret;exact⟨by rw[b.out.1];rfl,b.out.2,HX.out.2⟩
  subst z;have q:J=(H,u,12):=a2.out;have HP:=ae q;have L:eJ 12=.iface 24 (.int .i64 12):=rfl;rw[L]at V;clear q L;go_wp2_with fail
  refine V.out.mono ?_;rintro e w4 ⟨rfl,D,G⟩;have HX:=ae (And.intro D ((aY.ah PB DB M y.out).trans G));clear D G;go_wp2_with fail
  go_ret;exact⟨by rw[HP.out];rfl,by rw[HP.out];exact HX.out.1,HX.out.2⟩
 |some a5=>
  have hm:U=(item.size:Int)-a5.size:=by
   rw[<-a3.out];unfold nM;rw[a4]
  have HM:=ae hm;have i4:=zz HL.out a4;have b6:ye (some a5)=.tuple #[.string a5,.nilIface]:=rfl;rw[b6];clear hm a4 b6;have b7:=MX (O.out.1.gr b4.out) (O.out.2.1.gr b4.out) Z;have d2:=ae b7;clear b7;go_wp2_with fail
  refine d2.out.mono ?_;rintro e w3 ⟨rfl,b8⟩;have y:=ae (b4.out.trans b8);clear b8;obtain⟨nt,Q⟩:∃nt,c.h.notes root=nt:=⟨_,rfl⟩;rw[Q]at e2⊢;have b9:=ae Q;clear Q;by_cases hf:30000<nt+((item.size:Int)-a5.size)
  ·have q:J=(c,I,12):=by
    rw[<-b5.out];unfold kh;rw[if_neg HS.out,a3.out,b9.out,HM.out,if_pos hf]
   have s:eJ J.2.2=.iface 24 (.int .i64 12)/\cG w3 PB DB M J.1 sv t d:=by
    rw[q];exact⟨rfl,O.out.1.gr y.out⟩
   have b:=ae s;clear s q;go_wp2_with fail
   go_ret;exact⟨by rw[b.out.1];rfl,b.out.2,aY.ah PB DB M y.out⟩
  have a6:=Pu (O.out.1.gr y.out) (O.out.2.1.gr y.out) S Z key item b3 a0 HL.out;have a7:=zm (pg:=d.pg) O.out.1.f HL.out Z b3 a0;have z:=Dc c root I key item;have B:kh c root I key item=match bN c root I key item with
   |( H,u,0)=>((ey H root U).1,u,(ey H root U).2)
   |r=>r:=by
   unfold kh;rw[if_neg HS.out,a3.out,b9.out,HM.out,if_neg hf];generalize bN c root I key item=r;obtain⟨ra,rb,rn⟩:=r;cases rn<;>rfl
  rw[b5.out]at B;rcases a8:bN c root I key item with⟨H,u,en⟩
  rw[a8]at a7 B;simp only[a8]at z a6;have a9:H.aE:=a7.k.aE;have d3:=a9.head.root root Z;have V:=ae a6;have a2:=ae B;have h4:=ae a9;clear a6 B a7 a9 a8;rcases z with z|z
  ·subst z;have q:J=((ey H root U).1,u,(ey H root U).2):=a2.out;have HP:=ae q;have L:eJ 0=.nilIface:=rfl;rw[L]at V;clear q L;go_wp2_with fail
   refine V.out.mono ?_;rintro e w4 ⟨rfl,D,G⟩;have b0:=(O.out.2.1.gr y.out).pg G S.1 S.2.1 S.2.2;have c0:=mZ D b0 Z;have d4:=ae c0;have d5:=ae D;have d6:=ae b0;have d7:=ae ((aY.ah PB DB M y.out).trans G);clear c0 D b0 G;go_wp2_with fail
   refine d4.out.mono ?_;rintro e w5 ⟨rfl,Y⟩;have b1:=wL (d5.out.gr Y) (d6.out.gr Y) S Z (p:=H.h.roots root) (more:=U) d3 (by omega);rw[wY]at b1;have c2:=ae b1;have d8:=ae (d7.out.trans (aY.ah PB DB M Y));clear b1 Y;rw[HM.out]at c2 HP;go_wp2_with fail
   refine c2.out.mono ?_;rintro e w6 ⟨rfl,c3,c4⟩;have HX:=ae (And.intro c3 (d8.out.trans c4));have s:eJ J.2.2=eJ (ey H root (((item.size:Int)-a5.size))).2/\cG w6 PB DB M J.1 sv t d:=by
     rw[HP.out];exact⟨rfl,HX.out.1⟩
   have b:=ae s;clear s c3 c4;obtain⟨EV,c5⟩:∃EV,eJ (ey H root (((item.size:Int)-a5.size))).2=EV:=⟨_,rfl⟩;rw[c5]at b⊢;clear c5;go_wp2_with fail
   go_ret;exact⟨by rw[b.out.1];rfl,b.out.2,HX.out.2⟩
  subst z;have q:J=(H,u,12):=a2.out;have HP:=ae q;have L:eJ 12=.iface 24 (.int .i64 12):=rfl;rw[L]at V;clear q L;go_wp2_with fail
  refine V.out.mono ?_;rintro e w4 ⟨rfl,D,G⟩;have HX:=ae (And.intro D ((aY.ah PB DB M y.out).trans G));clear D G;go_wp2_with fail
  go_ret;exact⟨by rw[HP.out];rfl,by rw[HP.out];exact HX.out.1,HX.out.2⟩
end
theorem DN{w q:bW}{PB DB M:Nat}{c:Ch}{sv:Head}{t:Int}{d:Dk}{RB:Nat}{s:de}{R:List En}(G:w.heap.size<=RB)(y:aY PB DB M M w q)(z:cG q PB DB M c sv t d)(B:ba w q s R)(D:∀b,s.ownBlock=some b->¬b=RB)(H:PB<w.heap.size/\DB<w.heap.size/\M<w.heap.size)(v0 v1 v2:de):
  ba w (((q.setCell ⟨RB,0,none⟩ v0).setCell ⟨RB,1,none⟩ v1).setCell ⟨RB,2,none⟩ v2) s R/\cG (((q.setCell ⟨RB,0,none⟩ v0).setCell ⟨RB,1,none⟩ v1).setCell ⟨RB,2,none⟩ v2) PB DB M c sv t d/\aY PB DB M M w (((q.setCell ⟨RB,0,none⟩ v0).setCell ⟨RB,1,none⟩ v1).setCell ⟨RB,2,none⟩ v2):=by
 have g:ag (fun b=>b=RB) q (((q.setCell ⟨RB,0,none⟩ v0).setCell ⟨RB,1,none⟩ v1).setCell ⟨RB,2,none⟩ v2):=((ag.setCell (S:=fun b=>b=RB) (p:=⟨RB,0,none⟩) q _ rfl).trans (ag.setCell (S:=fun b=>b=RB) (p:=⟨RB,1,none⟩) _ _ rfl)).trans (ag.setCell (S:=fun b=>b=RB) (p:=⟨RB,2,none⟩) _ _ rfl);exact⟨B.ay g D,z.ay g (by omega) (by omega) (by omega),y.own g (fun j e=>by omega)⟩
theorem mE{w:bW}{B:Nat}{x0 b x2 v0 v1 v2:de}(r0:w.cell? ⟨B,0,none⟩=some x0)(r1:w.cell? ⟨B,1,none⟩=some b)(r2:w.cell? ⟨B,2,none⟩=some x2):
  (((w.setCell ⟨B,0,none⟩ v0).setCell ⟨B,1,none⟩ v1).setCell ⟨B,2,none⟩ v2).cell? ⟨B,0,none⟩=some v0/\(((w.setCell ⟨B,0,none⟩ v0).setCell ⟨B,1,none⟩ v1).setCell ⟨B,2,none⟩ v2).cell? ⟨B,1,none⟩=some v1/\(((w.setCell ⟨B,0,none⟩ v0).setCell ⟨B,1,none⟩ v1).setCell ⟨B,2,none⟩ v2).cell? ⟨B,2,none⟩=some v2:=by
 refine⟨?_,?_,?_⟩
 ·rw[aU _ _ _ _ (by simp),aU _ _ _ _ (by simp),bF _ _ _ r0]
 ·rw[aU _ _ _ _ (by simp),bF _ _ _ ((aU _ _ _ _ (by simp)).trans r1)]
 rw[bF _ _ _ ((aU _ _ _ _ (by simp)).trans ((aU _ _ _ _ (by simp)).trans r2))]
section
variable{w:bW}{PB DB M:Nat}{c:Ch}{sv:Head}{t:Int}{d:Dk}
theorem N9(h:cG w PB DB M c sv t d){TP root:Nat}(ht:bH w TP PB root)(i4:TP≠PB/\TP≠DB/\TP≠M){p:Nat}{l:List En}(hp:iy c d.pg true p l)(c8:∀e∈l,e.ok true)(U:aj true l<=1024)(key:ByteArray)(hh:dR (aH l) key=true):
  dg prog 203 #[.pointer (some ⟨TP,0,none⟩),.int .i64 (p:Int),.string key] w fun e w'=>∃s,e=.returned (.tuple #[bi p true s,.nilIface])/\ba w w' s (l.eraseIdx (am (aH l) key))/\cG w' PB DB M (c.write (p:Nat) (aw true (l.eraseIdx (am (aH l) key)))) sv t d/\aY PB DB M M w w':=by
 have a7:Gr w (w.alloc (.cells #[.int .i64 0,.bool false,.slice none 0 0] 200)):=(Gr.refl w).alloc _;have b5:=mP (h.gr a7).s (ht.gr a7) hp c8 U;have J:(w.alloc (.cells #[.int .i64 0,.bool false,.slice none 0 0] 200)).cell? ⟨w.heap.size,0,none⟩=some (.int .i64 0):=by rw[ak];rfl
 have r1:(w.alloc (.cells #[.int .i64 0,.bool false,.slice none 0 0] 200)).cell? ⟨w.heap.size,1,none⟩=some (.bool false):=by rw[ak];rfl
 have r2:(w.alloc (.cells #[.int .i64 0,.bool false,.slice none 0 0] 200)).cell? ⟨w.heap.size,2,none⟩=some (.slice none 0 0):=by rw[ak];rfl
 have rf:∀o,(w.alloc (.cells #[.int .i64 0,.bool false,.slice none 0 0] 200)).frozen? ⟨w.heap.size,o,none⟩=false:=fun o=>by simp
 have hl:l.length<=600:=by
  have:=d_ true l;unfold aj at U;omega
 have e5:(aH l).length=l.length:=by unfold aH;rw[b_]
 have c9:am (aH l) key<l.length:=by rw[<-e5];exact oW hh
 obtain⟨K,hK⟩:∃K,am (aH l) key=K:=⟨_,rfl⟩;rw[hK]at c9⊢;obtain⟨R,hR⟩:∃R,l.eraseIdx K=R:=⟨_,rfl⟩;rw[hR];go_enter func203,ntmps203;go_wp2_with fail
 have V:Hid (w.heap.size<(w.alloc (.cells #[.int .i64 0,.bool false,.slice none 0 0] 200)).heap.size):=ae (by simp);have a8:=ae a7;obtain⟨WB,d0⟩:∃WB,w.alloc (.cells #[.int .i64 0,.bool false,.slice none 0 0] 200)=WB:=⟨_,rfl⟩;rw[d0]at b5 J r1 r2 rf a8 V⊢;clear d0 a7;obtain⟨RB,d1⟩:∃RB,w.heap.size=RB:=⟨_,rfl⟩;have e6:=ae d1;rw[d1]at J r1 r2 rf V⊢;refine b5.mono ?_;rintro e L ⟨s',rfl,Y,d2⟩;obtain⟨Z,ca,rfl⟩:=Y.form;have b6:=fun W (g:Gr L W)=>qh p true l (.slice Z l.length ca) key W (Y.qW.gr g) (by omega);simp only[if_true,hh,hK]at b6;have b7:Gr L (L.alloc (.cells #[.int .i64 (p:Int),.bool true,.slice Z l.length ca] 200)):=(Gr.refl L).alloc _;unfold bi at*;have e7:=ae b6;have a9:=d2.trans b7;have J:=a9.keeps J;have r1:=a9.keeps r1;have r2:=a9.keeps r2;have k0:(L.alloc (.cells #[.int .i64 (p:Int),.bool true,.slice Z l.length ca] 200)).cell? ⟨L.heap.size,0,none⟩=some (.int .i64 (p:Int)):=by rw[ak];rfl
 have k1:(L.alloc (.cells #[.int .i64 (p:Int),.bool true,.slice Z l.length ca] 200)).cell? ⟨L.heap.size,1,none⟩=some (.bool true):=by rw[ak];rfl
 have k2:(L.alloc (.cells #[.int .i64 (p:Int),.bool true,.slice Z l.length ca] 200)).cell? ⟨L.heap.size,2,none⟩=some (.slice Z l.length ca):=by rw[ak];rfl
 have kf:∀o,(L.alloc (.cells #[.int .i64 (p:Int),.bool true,.slice Z l.length ca] 200)).frozen? ⟨L.heap.size,o,none⟩=false:=fun o=>by simp
 clear b5 b6;go_wp2_with fail
 obtain⟨z,d3⟩:∃z,L.heap.size=z:=⟨_,rfl⟩;rw[d3]at k0 k1 k2 kf⊢;refine(e7.out _ b7).mono ?_;rintro e w2 ⟨rfl,G⟩;have J:=G.keeps J;have r1:=G.keeps r1;have r2:=G.keeps r2;have k0:=G.keeps k0;have k1:=G.keeps k1;have k2:=G.keeps k2;have e8:=Y.gr (b7.trans G);have b0:=a9.trans G;have b8:=zj WB w2 _ l K e8 c9 b0.size (by omega);rw[hR]at b8;have e9:=ae b8;clear b8;have a6:=CI (List.eraseIdx_sublist l K) ⟨c8,U⟩;rw[hR]at a6;have d9:z<w2.heap.size:=ad k0;have a2:¬((cf Z l.length ca).ownBlock=some z):=fun e=>by
  have:=bd Y _ e;omega
 have a4:¬((cf Z l.length ca).ownBlock=some RB):=fun e=>by
  have:=aP Y _ e;have:=V.out;omega
 have i5:WB.heap.size<=z:=by
  have:=d2.size;omega
 have b9:=a8.out.trans b0;go_wp2_with(refine e9.out.mono ?_;rintro e w3 ⟨v3,rfl,d4,B,c0⟩;obtain⟨O,Q,rfl⟩:=d4.form;(have J:=B.keeps a4 J);(have r1:=B.keeps a4 r1);(have r2:=B.keeps a4 r2);(have k0:=B.keeps a2 k0);(have k1:=B.keeps a2 k1);(have k2:=B.keeps a2 k2);(have kz:w3.frozen? ⟨z,2,none⟩=false:=by(rw[B.frozen 2 d9 a2,G.frozen 2 (by rw[<-d3];simp)];exact kf 2)))
 have gS:ag (fun b=>b=z) w3 (w3.setCell ⟨z,2,none⟩ (.slice O R.length Q)):=ag.setCell (S:=fun b=>b=z) (p:=⟨z,2,none⟩) w3 _ rfl;have g0:∀b,(cf O R.length Q).ownBlock=some b->¬b=z:=fun b U e=>a2 (by rw[<-c0,U,e]);have g3:∀b,(cf O R.length Q).ownBlock=some b->¬b=RB:=fun b U e=>a4 (by rw[<-c0,U,e]);have I:∀b,(cf Z l.length ca).ownBlock=some b->WB.heap.size<=b:=fun b U=>aP Y b U;have i6:=a8.out.size;have g4:=h.lt;have c1:=(d4.ay gS g0).back a8.out;have c2:¬PB=z/\¬DB=z/\¬M=z:=by omega
 have d5:=((h.gr b9).ay B (fun e=>by have:=I _ e;omega) (fun e=>by have:=I _ e;omega) (fun e=>by have:=I _ e;omega)).ay gS c2.1 c2.2.1 c2.2.2;have i7:=ad ht.p;have g5:=((ht.gr b9).ay B (fun e=>by have:=I _ e;omega)).ay gS (by omega);have d6:=((aY.ah PB DB M b9).own B (fun j e=>by have:=I _ e;omega)).own gS (fun j e=>by omega);have b1:RB≠z:=by
  have:=V.out;omega
 have J:=gS.keeps b1 J;have r1:=gS.keeps b1 r1;have r2:=gS.keeps b1 r2;have g6:(w3.setCell ⟨z,2,none⟩ (.slice O R.length Q)).cell? ⟨z,0,none⟩=some (.int .i64 (p:Int)):=by
  rw[aU _ _ _ _ (by simp)];exact k0
 have g7:(w3.setCell ⟨z,2,none⟩ (.slice O R.length Q)).cell? ⟨z,1,none⟩=some (.bool true):=by
  rw[aU _ _ _ _ (by simp)];exact k1
 have g8:=bF w3 ⟨z,2,none⟩ (.slice O R.length Q) k2;have g9:∀o,(w3.setCell ⟨z,2,none⟩ (.slice O R.length Q)).frozen? ⟨RB,o,none⟩=false:=fun o=>by
  have:=V.out;have:=b0.size;have:=B.2.2.2.1;rw[gS.frozen o (by omega) b1,B.frozen o (by omega) a4,b0.frozen o V.out];exact rf o
 have e0:RB<(w3.setCell ⟨z,2,none⟩ (.slice O R.length Q)).heap.size:=ad J;generalize w3.setCell ⟨z,2,none⟩ (.slice O R.length Q)=w4 at*;have d7:=fun W (g:Gr w4 W)=>m_ (d5.gr g) (g5.gr g) (c1.qW.gr g) a6.1 a6.2 hp.1;have d8:=ae d7;have h0:=ae d6;have h1:=ae c1;unfold bi at d8;clear d7 d6 d5 c1 gS B;have D:RB≠PB/\RB≠DB/\RB≠M:=by omega
 have H:z≠PB/\z≠DB/\z≠M:=by omega
 have h2:∀(w5:bW) (o:Nat),aY PB DB M M w4 w5->w5.frozen? ⟨RB,o,none⟩=false:=fun w5 o f5=>(f5.2.frozen o e0 (fun e=>e.elim D.1 fun e=>e.elim D.2.1 D.2.2)).trans (g9 o);have c4:=ae h2;go_region_with(go_at_call 200;refine(d8.out _ ?_).mono ?_;(with_reducible exact(Gr.refl _).drew);rintro e w5 ⟨rfl,h3,h4⟩;(have q:=(aY.ah PB DB M (Gr.refl w4).drew).trans h4);(have J:=q.keeps D.1 D.2.1 D.2.2 J);(have r1:=q.keeps D.1 D.2.1 D.2.2 r1);(have r2:=q.keeps D.1 D.2.1 D.2.2 r2);(have x0:=c4.out _ 0 q);(have x1:=c4.out _ 1 q);(have x2:=c4.out _ 2 q);(have q0:=q.keeps H.1 H.2.1 H.2.2 g6);(have q1:=q.keeps H.1 H.2.1 H.2.2 g7);(have q2:=q.keeps H.1 H.2.1 H.2.2 g8))
 all_goals
  have y:=ae (mE (v0:=.int .i64 (p:Int)) (v1:=.bool true) (v2:=.slice O R.length Q) J r1 r2);have tn:=ae (DN (RB:=RB) (Nat.le_of_eq e6.out) (h0.out.trans q) h3 (h1.out.ay q.2 (fun b U e=>by have:=I b (by rw[<-c0];exact U);omega)) g3 g4 (.int .i64 (p:Int)) (.bool true) (.slice O R.length Q));go_wp2_with fail
  obtain⟨y0,y1,y2⟩:=y.out;have c5:=tn.out;generalize(((w5.setCell ⟨RB,0,none⟩ (.int .i64 (p:Int))).setCell ⟨RB,1,none⟩ (.bool true)).setCell ⟨RB,2,none⟩ (.slice O R.length Q))=w9 at*;refine cF (v:=.tuple #[.agg #[.int .i64 (p:Int),.bool true,.slice O R.length Q],.nilIface]) (by simp[dA,Tryz.results203,go_sem,y0,y1,y2]) rfl ⟨_,rfl,c5.1,c5.2.1,c5.2.2⟩
end
structure Jn(w W:bW)(NB RB p:Nat)(s:de):Prop where
 g:Gr w W
 nb:NB=w.heap.size
 rb:RB=w.heap.size+1+1
 Xl:RB<W.heap.size
 n0:W.cell? ⟨NB,0,none⟩=some (.int .i64 (p:Int))
 n1:W.cell? ⟨NB,1,none⟩=some (.bool false)
 n2:W.cell? ⟨NB,2,none⟩=some s
 nf:∀o,W.frozen? ⟨NB,o,none⟩=false
 r0:W.cell? ⟨RB,0,none⟩=some (.int .i64 0)
 r1:W.cell? ⟨RB,1,none⟩=some (.bool false)
 r2:W.cell? ⟨RB,2,none⟩=some (.slice none 0 0)
 rf:∀o,W.frozen? ⟨RB,o,none⟩=false
theorem Jn.made(w:bW)(p:Nat)(s q y z:de)(hs:s.oneCell'=true):Jn w (((w.alloc (.cells #[.int .i64 (p:Int),.bool false,s] 200)).alloc (.cells #[q,y,z] 200)).alloc (.cells #[.int .i64 0,.bool false,.slice none 0 0] 200)) w.heap.size (w.heap.size+1+1) p s:=by
 have g1:Gr w (w.alloc (.cells #[.int .i64 (p:Int),.bool false,s] 200)):=(Gr.refl w).alloc _;have g2:Gr (w.alloc (.cells #[.int .i64 (p:Int),.bool false,s] 200)) (((w.alloc (.cells #[.int .i64 (p:Int),.bool false,s] 200)).alloc (.cells #[q,y,z] 200)).alloc (.cells #[.int .i64 0,.bool false,.slice none 0 0] 200)):=((Gr.refl _).alloc _).alloc _;have b:((w.alloc (.cells #[.int .i64 (p:Int),.bool false,s] 200)).alloc (.cells #[q,y,z] 200)).heap.size=w.heap.size+1+1:=by simp
 refine⟨g1.trans g2,rfl,rfl,by simp,g2.keeps (by rw[ak];rfl),g2.keeps (by rw[ak];rfl),g2.keeps (by rw[ak];rfl),fun o=>(g2.frozen o (by simp)).trans (by simp),?_,?_,?_,fun o=>?_⟩
 ·rw[<-b,ak];rfl
 ·rw[<-b,ak];rfl
 ·rw[<-b,ak];rfl
 have B:∀X:bW,(X.alloc (.cells #[.int .i64 0,.bool false,.slice none 0 0] 200)).frozen? ⟨X.heap.size,o,none⟩=false:=fun X=>by simp
 rw[<-b];exact B _
section
variable{w:bW}{PB DB M:Nat}{c:Ch}{sv:Head}{t:Int}{d:Dk}
theorem N_{TP:Nat}{p:Nat}{nl:List En}{s:de}{a0:bW}(ho:ba a0 w s nl){k:Nat}{lc:Bool}{pb:Nat}{be:List En}{M:de}(I:oX w M be)(G:∀e∈be,e.ok lc)(a8:be.length<=600)
  (hc:341<aj lc be\/nl.length<2):
  dg prog 256 #[.pointer (some ⟨TP,0,none⟩),bi p false s,.int .i64 (k:Int),bi pb lc M] w fun e w'=>e=.returned (.tuple #[bi p false s,.nilIface])/\Gr w w':=by
 have J:=fun W (g:Gr w W)=>tP pb lc M be W (I.gr g) G (by omega);obtain⟨B,D,rfl⟩:=ho.form;obtain⟨Z,cb,rfl⟩:=I.form;unfold bi at*;have V:=ae J;clear J;go_enter func256,ntmps256;go_wp2_with fail
 have q:=Jn.made w p (.slice B nl.length D) (.int .i64 (pb:Int)) (.bool lc) (.slice Z be.length cb) rfl;generalize((w.alloc (.cells #[.int .i64 (p:Int),.bool false,.slice B nl.length D] 200)).alloc (.cells #[.int .i64 (pb:Int),.bool lc,.slice Z be.length cb] 200)).alloc (.cells #[.int .i64 0,.bool false,.slice none 0 0] 200)=W3 at*;generalize a9:w.heap.size+1+1=z at*;generalize b0:w.heap.size=NB at*;refine(V.out _ q.g).mono ?_;rintro e L ⟨rfl,b⟩;have n0:=b.keeps q.n0;have n1:=b.keeps q.n1;have n2:=b.keeps q.n2;have r0:=b.keeps q.r0;have r1:=b.keeps q.r1;have r2:=b.keeps q.r2;have rf:∀o,L.frozen? ⟨z,o,none⟩=false:=fun o=>(b.frozen o q.Xl).trans (q.rf o);have HJ:=ae q;have HG:=ae (q.g.trans b);have y:=ae (mE (v0:=.int .i64 (p:Int)) (v1:=.bool false) (v2:=.slice B nl.length D) r0 r1 r2);have H:Gr w (((L.setCell ⟨z,0,none⟩ (.int .i64 (p:Int))).setCell ⟨z,1,none⟩ (.bool false)).setCell ⟨z,2,none⟩ (.slice B nl.length D)):=by
  have O:w.heap.size<=z:=by omega
  exact((HG.out.setCell O _).setCell O _).setCell O _
 have HR:=ae H;clear q H;have a2:(aj lc be:Int)<=2000000:=by
  have:=qX lc be G;unfold aj;omega
 by_cases h1:341<aj lc be
 ·have Y:(341:Int)<(aj lc be:Int):=by omega
  go_wp2_with fail
  obtain⟨Q,S,U⟩:=y.out;have H:=HR.out;generalize(((L.setCell ⟨z,0,none⟩ (.int .i64 (p:Int))).setCell ⟨z,1,none⟩ (.bool false)).setCell ⟨z,2,none⟩ (.slice B nl.length D))=w9 at*;exact cF (v:=.tuple #[.agg #[.int .i64 (p:Int),.bool false,.slice B nl.length D],.nilIface]) (by simp[dA,cW,go_sem,Q,S,U]) rfl ⟨rfl,H⟩
 have Y:¬(341:Int)<(aj lc be:Int):=by omega
 have h2:nl.length<2:=hc.resolve_left h1;have b1:(nl.length:Int)<2:=by omega
 go_wp2_with fail
 obtain⟨Q,S,U⟩:=y.out;have H:=HR.out;generalize(((L.setCell ⟨z,0,none⟩ (.int .i64 (p:Int))).setCell ⟨z,1,none⟩ (.bool false)).setCell ⟨z,2,none⟩ (.slice B nl.length D))=w9 at*;exact cF (v:=.tuple #[.agg #[.int .i64 (p:Int),.bool false,.slice B nl.length D],.nilIface]) (by simp[dA,cW,go_sem,Q,S,U]) rfl ⟨rfl,H⟩
end
