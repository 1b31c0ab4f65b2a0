/-
  Part 11 of the proof.
-/
import Derived.Test.YtldmhjbdahjhdaaGreatDoorZb10
open Go.Lib renaming hid->akF
open Go.World renaming cell?_alloc_new->akG,cell?_setCell_other->akH,cell?_setCell_same->akJ
open Prod renaming fst->akI,snd->akU
open Nat renaming le_trans->akK,lt_of_lt_of_le->akQ,zero_add->akS,le_of_lt->akX,zero_le->akZ
open List renaming getElem?_eq_getElem->akL,mem_of_getElem?->akM,length_map->akN,getElem?_map->akR
open Go.Value renaming slice->akO
open Go.Proofs.Tryz renaming prog->akP,ntmps144->akV,func144->akW,ntmps89->akY,func89->ak0
open Option.some renaming inj->akT
set_option maxRecDepth 100000
set_option maxHeartbeats 100000000
set_option linter.all false
namespace Go.Proofs.YtldmhjbdahjhdaaGreatDoor
section
open Go Go.RowKit
theorem gm(c:Ch)(k:Int)(s:ByteArray):(c.write k s).h.notes=c.h.notes:=by rw[iu]
theorem rz(c:Ch):c.alloc.h.notes=c.h.notes:=by
 unfold Ch.alloc
 split<;>rfl
theorem mj(c:Ch)(k:Int):(c.free k).h.notes=c.h.notes:=by
 unfold Ch.free
 split<;>rfl
theorem kS(c:Ch)(i:Nat)(p:Int):(c.root i p).h.notes=c.h.notes:=by
 show(fun j=>if j=i then c.h.notes i else c.h.notes j)=c.h.notes
 funext j
 by_cases h:j=i
 ·rw[h,if_pos rfl]
 ·rw[if_neg h]
theorem pN{X:Type}(en:ByteArray×X->En)(leaf:Bool)(c:Ch)(p:Nat)(l old:List (ByteArray×X)):(bI en leaf c p l old).1.h.notes=c.h.notes:=by
 unfold bI
 split
 ·exact gm _ _ _
 ·split
  ·rfl
  ·show((c.alloc.write _ _).write _ _).h.notes=_;rw[gm,gm,rz]
theorem zr:∀{d:Nat} (c:Ch) (t:T d) (k v:ByteArray),(cK c t k v).1.h.notes=c.h.notes
 |0,c,t,k,v=>by
  rw[show cK (d:=0) c t k v=bI bE true c (akI t) (ee (akU t) k v) (akU t)from cK.eq_1 c k v t];exact pN _ _ _ _ _ _
 |d+1,c,t,k,v=>by
  obtain⟨p,l⟩:Nat×List (ByteArray×T d):=t;cases q:l[aG (l.map akI) k]? with
  |none=>
   have e:cK (d:=d+1) c ((p,l):Nat×List (ByteArray×T d)) k v=(c,((p,l):Nat×List (ByteArray×T d)),none):=by
    refine(cK.eq_2 c k v d ((p,l):Nat×List (ByteArray×T d))).trans ?_;simp only[q]
    rfl
   rw[e]
  |some x=>
   have b:=zr c x.2 k v;rcases s:cK c x.2 k v with⟨y,u,r⟩
   rw[s]at b;have b:y.h.notes=c.h.notes:=b;rcases r with _|_|m
   ·have e:(cK (d:=d+1) c ((p,l):Nat×List (ByteArray×T d)) k v).1=y:=by
     refine(congrArg akI (cK.eq_2 c k v d ((p,l):Nat×List (ByteArray×T d)))).trans ?_;simp only[q,s]
    rw[e];exact b
   ·have e:(cK (d:=d+1) c ((p,l):Nat×List (ByteArray×T d)) k v).1.h.notes=y.h.notes:=by
     refine(congrArg (fun z=>z.1.h.notes) (cK.eq_2 c k v d ((p,l):Nat×List (ByteArray×T d)))).trans ?_;simp only[q,s];exact pN _ _ _ _ _ _
    rw[e];exact b
   ·have e:(cK (d:=d+1) c ((p,l):Nat×List (ByteArray×T d)) k v).1.h.notes=y.h.notes:=by
     refine(congrArg (fun z=>z.1.h.notes) (cK.eq_2 c k v d ((p,l):Nat×List (ByteArray×T d)))).trans ?_;simp only[q,s];exact pN _ _ _ _ _ _
    rw[e];exact b
theorem GV(c:Ch)(i:Nat)(t:Tr)(k v:ByteArray):(bj c i t k v).1.h.notes=c.h.notes:=by
 cases t with
 |none=>
  cases ha:bZ c.h with
  |none=>
   unfold bj;rw[ha]
  |some q=>
   unfold bj;rw[ha];show((c.alloc.write _ _).root _ _).h.notes=_;rw[kS,gm,rz]
 |some x=>
  obtain⟨d,t⟩:=x;have h:=zr c t k v;rcases b:cK c t k v with⟨s,u,r⟩
  rw[b]at h;have h:s.h.notes=c.h.notes:=h;rcases r with _|_|m
  ·unfold bj;simp only[b];exact h
  ·unfold bj;simp only[b];exact h
  ·cases ha:bZ s.h with
   |none=>
    unfold bj;simp only[b,ha];exact h
   |some q=>
    unfold bj;simp only[b,ha];rw[kS,gm,rz];exact h
theorem GX{d:Nat}(c:Ch)(l:List (ByteArray×T d))(k:Nat)(u:T d):(cL c l k u).1.h.notes=c.h.notes:=by
 unfold cL
 split
 ·rfl
 ·split
  ·split
   ·rfl
   ·rw[mj,gm]
  ·rfl
theorem rC:∀{d:Nat} (c:Ch) (t:T d) (k:ByteArray),(dh c t k).1.h.notes=c.h.notes
 |0,c,t,k=>gm _ _ _
 |d+1,c,t,k=>by
  obtain⟨p,l⟩:Nat×List (ByteArray×T d):=t;cases q:l[aG (l.map akI) k]? with
  |none=>
   have e:dh (d:=d+1) c ((p,l):Nat×List (ByteArray×T d)) k=(c,((p,l):Nat×List (ByteArray×T d))):=by
    refine(dh.eq_2 c k d ((p,l):Nat×List (ByteArray×T d))).trans ?_;simp only[q]
    rfl
   rw[e]
  |some x=>
   have b:=rC c x.2 k;rcases s:dh c x.2 k with⟨y,u⟩
   rw[s]at b;have b:y.h.notes=c.h.notes:=b;have e:(dh (d:=d+1) c ((p,l):Nat×List (ByteArray×T d)) k).1.h.notes=y.h.notes:=by
    refine(congrArg (fun z=>z.1.h.notes) (dh.eq_2 c k d ((p,l):Nat×List (ByteArray×T d)))).trans ?_;simp only[q,s];rw[gm]
    split
    ·exact mj _ _
    ·exact GX _ _ _ _
   rw[e];exact b
theorem Dl(c:Ch)(i:Nat)(t:Tr)(k:ByteArray):(bP c i t k).1.h.notes=c.h.notes:=by
 rcases t with _|⟨_|d,t⟩
 ·rfl
 ·have h:=rC c t k;unfold bP;simp only
  split
  ·rw[kS,mj];exact h
  ·exact h
 ·have h:=rC c t k;unfold bP;simp only
  split
  ·rw[kS,mj];exact h
  ·split
   ·rw[kS,mj];exact h
   ·exact h
theorem vG{ω:Wt}{b0 k:ByteArray}(D:¬ay k b0){s e:Nat}(J:s<=e):∀{t:Tr},kd b0 t->jD ω t k s<=jD ω t k e
 |none,_=>by
  show max s 347<=max e 347;omega
 |some ⟨0,t⟩,_=>by
  show max (aN ω (T.kv t)+s) 347<=max (aN ω (T.kv t)+e) 347;omega
 |some ⟨1,t⟩,h=>by
  obtain⟨p,ls⟩:Nat×List KL:=t;obtain⟨q,G,H,y,z,_⟩:=h;have q:eX ls:=q;have y:ls=G::H:=y;obtain⟨a,x,b,I,B,_⟩:=gl q y (k:=k) (by rw[z];exact D);subst I;rw[dx B,dx B];omega
 |some ⟨_+2,_⟩,h=>h.elim
structure TG(ω:Wt)(pg:Nat->ByteArray)(b0:ByteArray)(i:Nat)(c:Ch)(X:Tr)(K:LP)(k:ByteArray)(r V:Nat)(A:ByteArray->Prop):Prop where
 aA:c.aA
 lays:X.lays c pg i
 hX:kd b0 X
 kv:sn X=K
 short:py X
 free:bL (1999-so X) c.h
 sum:c.h.notes i=(hQ K:Nat)
 key:¬ay k b0
 vF:jD ω X k r<=V
 sep:∀y∈yk X,A y
section
variable{ω:Wt}{pg:Nat->ByteArray}{b0 k:ByteArray}{i:Nat}{c:Ch}{X:Tr}{K:LP}{r V:Nat}{A:ByteArray->Prop}
theorem TG.GY(h:TG ω pg b0 i c X K k r V A):dM K:=by
 have:=LU h.hX;rw[h.kv]at this;exact this
theorem TG.get(h:TG ω pg b0 i c X K k r V A){k2:ByteArray}(b:¬ay k2 b0):X.get k2=bq K k2:=by
 have:=Pb b h.hX;rw[h.kv]at this;exact this
theorem TG.walk(h:TG ω pg b0 i c X K k r V A){s:ByteArray}(hs:¬ay s b0):lA X s=iT K s:=by
 have:=LV hs h.hX;rw[h.kv]at this;exact this
theorem TG.move(h:TG ω pg b0 i c X K k r V A){k2:ByteArray}(q:¬ay k2 k)(hs:∀y,A y->ay k y->ay k2 y):TG ω pg b0 i c X K k2 r V A:=by
 refine⟨h.aA,h.lays,h.hX,h.kv,h.short,h.free,h.sum,fun s=>?_,?_,h.sep⟩
 ·rcases ka k k2 with b|b|b
  ·exact h.key (eL b s)
  ·rw[<-b]at s;exact h.key s
  ·exact q b
 ·rw[LW h.key q r h.hX (fun y z=>hs y (h.sep y z))];exact h.vF
theorem TG.add(h:TG ω pg b0 i c X K k r V A)(e:Nat):TG ω pg b0 i c X K k (r+e) (V+e) A:=
 ⟨h.aA,h.lays,h.hX,h.kv,h.short,h.free,h.sum,h.key,akK (Pc h.key r e h.hX) (Nat.add_le_add_right h.vF e),h.sep⟩
theorem TG.less(h:TG ω pg b0 i c X K k r V A){r' V':Nat}{A':ByteArray->Prop}(b:r'<=r)(q:V<=V')(hA:∀y,A y->A' y):TG ω pg b0 i c X K k r' V' A':=
 ⟨h.aA,h.lays,h.hX,h.kv,h.short,h.free,h.sum,h.key,akK (akK (vG h.key b h.hX) h.vF) q,fun y s=>hA y (h.sep y s)⟩
theorem TG.rest(h:TG ω pg b0 i c X K k r V A){k2:ByteArray}(b:¬ay k2 b0):TG ω pg b0 i c X K k2 0 V A:=
 ⟨h.aA,h.lays,h.hX,h.kv,h.short,h.free,h.sum,b,by
  rw[vE b h.hX,<-vE h.key h.hX];exact akK (vG h.key (akZ r) h.hX) h.vF,h.sep⟩
theorem TG.vt(h:TG ω pg b0 i c X K k r V A):VT ω X<=V:=by
 rw[<-vE h.key h.hX];exact akK (vG h.key (akZ r) h.hX) h.vF
theorem TG.np(h:TG ω pg b0 i c X K k r V A)(B:V<12145):so X<=35/\∀p ls,X=some ⟨1,((p,ls):Nat×List KL)⟩->ls.length<=34:=by
 have hv:=h.vt;rcases X with _|⟨_|_|d,t⟩
 ·exact⟨by show 0<=35;omega,fun p ls e=>by cases e⟩
 ·exact⟨by show 1<=35;omega,fun p ls e=>by cases e⟩
 ·obtain⟨p,ls⟩:Nat×List KL:=t;have D:=Nu (ω:=ω) ls;have G:VS ω ls<=V:=hv;have s:ls.length<=34:=by omega
  refine⟨by show ls.length+1<=35;omega,fun q b e=>?_⟩;have e:(⟨1,((p,ls):Nat×List KL)⟩:(d:Nat)×T d)=⟨1,((q,b):Nat×List KL)⟩:=akT e;have y:((p,ls):Nat×List KL)=((q,b):Nat×List KL):=by
   injection e with _ e
  injection y with _ z
  rw[<-z];exact s
 ·exact h.hX.elim
theorem BS{l:LP}{k:ByteArray}(h:bq l k=none):oz ω l k=0:=by
 unfold oz;rw[h]
theorem Jy{l:LP}{k v:ByteArray}(h:bq l k=some v):oz ω l k=ω k v:=by
 unfold oz;rw[h]
theorem L1(b:∀k v,pz k v<=ω k v){v:ByteArray}{X:Tr}(h:TG ω pg b0 i c X K k r V A)(B:K=[]->k=b0)(s:k.size<=26)(hv:v.size<=100)(D:V<12145):∃y z,bj c i X k v=(y,z,0)/\Nx ω b0 X k v c y z:=by
 obtain⟨hn,q⟩:=h.np D;have hf:=h.free.mono (m:=2) (by omega);rcases X with _|⟨_|_|d,t⟩
 ·exact Ad h.aA (B h.kv.symm) s hv hf
 ·obtain⟨p,l⟩:Nat×LP:=t;exact Ae b h.aA h.lays.2.2.1 h.hX h.key h.short s hv hf
 ·obtain⟨p,ls⟩:Nat×List KL:=t;exact Af b h.aA h.lays.2.2.1 h.hX h.key h.short s hv (hf.mono (by omega)) (q p ls rfl)
 ·exact h.hX.elim
theorem Jz{k2 v0:ByteArray}{X:Tr}(h:TG ω pg b0 i c X K k r V A)(B:¬ay k2 b0)(s:k2≠b0)(hv:bq K k2=some v0):∃y z,bP c i X k2=(y,z)/\GU ω b0 X k2 (ω k2 v0) c y z:=by
 have b:=h.kv;rcases X with _|⟨_|_|d,t⟩
 ·have q:([]:LP)=K:=b;rw[<-q]at hv;cases hv
 ·obtain⟨p,l⟩:Nat×LP:=t;have q:l=K:=b;exact ym h.hX s (by rw[q];exact hv) h.short
 ·obtain⟨p,ls⟩:Nat×List KL:=t;have q:dI ls=K:=b;exact yo h.lays.2.1 h.lays.2.2.2 h.hX B s (by rw[q];exact hv) h.short
 ·exact h.hX.elim
theorem zt(c:Ch)(i:Nat)(p n:Int)(F:Int->Option ByteArray):(⟨c.h.dE i p n,F⟩:Ch).h.notes i=n:=by
 show(if i=i then n else _)=n;rw[if_pos rfl]
theorem EH{c:Ch}{i:Nat}{m n:Int}(h:c.h.notes i+m=n)(b:0<=n/\n<65536):dJ c i m=(⟨c.h.dE i (c.h.roots i) n,c.F⟩,0):=by
 unfold dJ;rw[h,if_pos b]
theorem JA:∀ls:List KL,aN ω (dI ls)<=VS ω ls
 |[]=>Nat.le_refl _
 |x::b=>by
  have:=JA b;rw[cF,fz,kR];unfold wl;omega
theorem Rv{X:Tr}(h:kd b0 X):aN ω (sn X)<=VT ω X:=by
 rcases X with _|⟨_|_|d,t⟩
 ·show 0<=347;omega
 ·show aN ω (T.kv t)<=max (aN ω (T.kv t)) 347;omega
 ·obtain⟨p,ls⟩:Nat×List KL:=t;exact JA ls
 ·exact h.elim
theorem TG.aN(h:TG ω pg b0 i c X K k r V A):aN ω K<=V:=by
 have b:=Rv (ω:=ω) h.hX;rw[h.kv]at b;exact akK b h.vt
theorem TG.put(H:∀k v,pz k v<=ω k v){v:ByteArray}(h:TG ω pg b0 i c X K k (r+(ω k v-oz ω K k)) V A)(hi:i<8)(hb:K=[]->k=b0)(hk:1<=k.size/\k.size<=26)(hv:v.size<=100)(L:V<12145)(hA:∀y∈(aq K k v).map akI,A y):
  ∃M O,jC c i X k v=(M,O,0)/\TG ω pg b0 i M O (aq K k v) k r V A:=by
 obtain⟨b,Q,S,g⟩:=L1 H h hb hk.2 hv L;have q:=tX pz h.GY k v;rw[<-tb,<-tb]at q;have hS:hQ (aq K k v)<=30000:=by
  have G:=h.aN;have h3:=oA H K;have U:pz k v=2+k.size+v.size:=rfl;omega
 obtain⟨hn,_⟩:=h.np L;have B:=Rs h.aA h.lays hi k v;have I:=h.get h.key;have z:=q;have s:c.h.notes i+mI X k v=(hQ (aq K k v):Nat):=by
  rw[h.sum];unfold mI;rw[I];cases Y:bq K k with
  |none=>
   rw[BS (ω:=pz) Y]at z;have U:pz k v=2+k.size+v.size:=rfl;show(hQ K:Int)+(2+(k.size:Int)+v.size)=_;omega
  |some D=>
   rw[Jy (ω:=pz) Y]at z;have U:pz k v=2+k.size+v.size:=rfl;have h5:pz k D=2+k.size+D.size:=rfl;show(hQ K:Int)+((v.size:Int)-D.size)=_;omega
 have J:b.h.notes=c.h.notes:=by
  have:=GV c i X k v;rw[S]at this;exact this
 have hm:dJ b i (mI X k v)=(⟨b.h.dE i (b.h.roots i) (hQ (aq K k v):Nat),b.F⟩,0):=EH (by rw[J];exact s) ⟨by omega,by omega⟩;have Z:jC c i X k v=(⟨b.h.dE i (b.h.roots i) (hQ (aq K k v):Nat),b.F⟩,Q,0):=by
  unfold jC;rw[if_neg (by omega),if_neg (by rw[s];omega),S];show((dJ b i (mI X k v)).1,Q,(dJ b i (mI X k v)).2)=_;rw[hm]
 rw[Z]at B;refine⟨_,_,Z,B.k.aA,B.lays,g.hX,by rw[g.kv,h.kv],g.short,?_,zt _ _ _ _ _,h.key,?_,fun y hy=>?_⟩
 ·exact bL.used (h:=b.h) (g.free 1999 (by omega) h.free) rfl
 ·have:=g.vF r;rw[h.kv]at this;exact akK this h.vF
 ·rcases g.sep y hy with G|G
  ·exact h.sep y G
  ·rw[h.kv]at G;exact hA y G
theorem TG.drop{k2 v0:ByteArray}(h:TG ω pg b0 i c X K k r V A)(hi:i<8)(z:¬ay k2 b0)(B:k2≠b0)(D:∀k v,pz k v<=ω k v)(hv:bq K k2=some v0)(M:V<12145):
  ∃H I,lz c i X k2=(H,I,0)/\TG ω pg b0 i H I (cy K k2) k2 (ω k2 v0) V A:=by
 obtain⟨b,O,J,g⟩:=Jz h z B hv;obtain⟨hn,_⟩:=h.np M;have q:=O7 h.aA h.lays hi k2;have s:=h.get z;have hd:=ry pz h.GY hv;rw[<-tb,<-tb]at hd;have hS:hQ K<=30000:=by
  have U:=h.aN;have Y:=oA D K;omega
 have G:b.h.notes=c.h.notes:=by
  have:=Dl c i X k2;rw[J]at this;exact this
 have Q:dJ b i (-2-(k2.size:Int)-v0.size)=(⟨b.h.dE i (b.h.roots i) (hQ (cy K k2):Nat),b.F⟩,0):=EH (by
  rw[G,h.sum];have Z:pz k2 v0=2+k2.size+v0.size:=rfl;omega) ⟨by omega,by omega⟩
 have L:lz c i X k2=(⟨b.h.dE i (b.h.roots i) (hQ (cy K k2):Nat),b.F⟩,O,0):=by
  unfold lz;rw[s,hv];show((dJ (bP c i X k2).1 i (-2-(k2.size:Int)-v0.size)).1,(bP c i X k2).2,(dJ (bP c i X k2).1 i (-2-(k2.size:Int)-v0.size)).2)=_;rw[J,Q]
 rw[L]at q;refine⟨_,_,L,q.k.aA,q.lays,g.hX,by rw[g.kv,h.kv],g.short,?_,zt _ _ _ _ _,z,akK g.vF h.vt,fun y S=>h.sep y (g.sep y S)⟩;exact bL.used (h:=b.h) (g.free 1999 (by omega) h.free) rfl
end
def w_:Option ByteArray->Value
 |none=>.tuple #[.string eZ,dV 7]
 |some s=>.tuple #[.string s,.nilIface]
section
variable{w:World}{PB DB M:Nat}{c:Ch}{sv:Head}{t:Int}{d:Dk}
theorem Pj{key:ByteArray}:{n:Nat}->(x:T n)->x.eU->x.lays c d.pg->
  (bA n=true/\gO c d.pg true x.pg x.aI/\pM true x.aI/\ki key x=if dm (aD x.aI) key then(x.aI[ai (aD x.aI) key]?).map En.item else none)\/
  (bA n=false/\gO c d.pg false x.pg x.aI/\pM false x.aI/\aG (aD x.aI) key<x.aI.length/\∃m,n=m+1/\∃y:T m,(∃e,x.aI[aG (aD x.aI) key]?=some e/\e.b_=y.pg)/\y.eU/\y.lays c d.pg/\ki key x=ki key y)
 |0,x,q,s=>by
  obtain⟨p,l⟩:Nat×List (ByteArray×ByteArray):=x;refine .inl ⟨rfl,s,q,?_⟩;have z:aD (T.aI (d:=0) (p,l))=l.map akI:=sX l;rw[z];show(if dm (l.map akI) key then(l[ai (l.map akI) key]?).map akU else none)=if dm (l.map akI) key then((l.map bE)[ai (l.map akI) key]?).map En.item else none
  rw[akR,Option.map_map]
  rfl
 |n+1,x,q,s=>by
  obtain⟨p,l⟩:Nat×List (ByteArray×T n):=x;have z:aD (T.aI (d:=n+1) (p,l))=l.map akI:=wR l;have G:l.map akI≠[]:=fun e=>q.1.1 (by
   have:l=[]:=List.map_eq_nil_iff.1 e;show l.map aH=[];rw[this]
   rfl)
  have b:=nw G key;have H:=b;rw[akN]at b;refine .inr ⟨rfl,s.1,q.1,?_,n,rfl,?_⟩
  ·rw[z];show _<(l.map aH).length;rw[akN];exact b
  rw[z];obtain⟨y,D⟩:∃y,l[aG (l.map akI) key]?=some y:=⟨_,akL b⟩;have B:y∈l:=akM D;refine⟨y.2,⟨aH y,?_,rfl⟩,q.2 y B,s.2 y B,?_⟩
  ·show(l.map aH)[aG (l.map akI) key]?=_;rw[akR,D]
   rfl
  ·show((l[aG (l.map akI) key]?).bind fun x=>ki key x.2)=_;rw[D]
   rfl
theorem L7(h:bF w PB DB M c sv t d){TP root:Nat}(ht:bc w TP PB root)(hr:root<8)(key:ByteArray){tr:Tr}(Z:tr.lays c d.pg root):
  Calls akP 67 #[.pointer (some ⟨TP,0,none⟩),.string key] w (ar w (w_ (tr.get key))):=by
 have a4:=me h ht hr;have e8:=akF a4;have c9:=fun(W:World) (g:Gr w W) {leaf:Bool} {p:Nat} {l:List En} (hp:gO c d.pg leaf p l) (d0:pM leaf l)=>lQ (h.gr g).s (ht.gr g) hp d0.2.2 d0.2.1;have d1:=akF c9;obtain⟨G,U⟩:∃G,tr.get key=G:=⟨_,rfl⟩;rw[U];have HP:Hid ((c.h.roots root=0/\G=none)\/∃n,∃x:T n,c.h.roots root=(x.pg:Nat)/\x.eU/\x.lays c d.pg/\ki key x=G):=by
  cases tr with
  |none=>exact .inl ⟨Z,U.symm⟩
  |some x=>exact .inr ⟨x.1,x.2,Z.1,Z.2.2.1,Z.2.1,U⟩
 clear a4 c9 U Z;go_enter Tryz.func67,Tryz.ntmps67;go_wp2_with(go_at_call 119;refine e8.out.mono ?_;rintro e w1 ⟨rfl,d2⟩)
 have e9:=akF d2;have HH:=akF (And.intro h ht);obtain⟨N0,d3⟩:∃N0:Nat,(c.h.roots root=0/\G=none)\/∃n,N0=n+1/\∃x:T n,c.h.roots root=(x.pg:Nat)/\x.eU/\x.lays c d.pg/\ki key x=G:=by
  rcases HP.out with hz|⟨n,x,hx⟩
  ·exact⟨0,.inl hz⟩
  ·exact⟨n+1,.inr ⟨n,rfl,x,hx⟩⟩
 have g0:=akF d3;clear d3 d2 HP;go_loopg [6] N0 (fun k pv wr=>Gr w wr/\∃pg:Nat,pv=.int .i64 (pg:Int)/\((pg=0/\G=none)\/∃n,k=n+1/\∃x:T n,pg=x.pg/\x.eU/\x.lays c d.pg/\ki key x=G))
 case atStart=>
  refine⟨e9.out,?_⟩;rcases g0.out with⟨e1,e2⟩|⟨n,e1,x,e2,V⟩
  ·exact⟨0,by rw[e1];rfl,.inl ⟨rfl,e2⟩⟩
  ·exact⟨x.pg,by rw[e2],.inr ⟨n,e1,x,rfl,V⟩⟩
 case round=>
  obtain⟨hg,pg,rfl,hk⟩:=hrel;rcases hk with⟨rfl,U⟩|⟨n,rfl,x,rfl,ho,Z,U⟩
  ·have b5:w_ G=.tuple #[.string eZ,dV 7]:=by rw[U];rfl
   have j7:=akF b5;have z:ar w (w_ G) (.returned (.tuple #[.string eZ,dV 7])) wr:=by rw[b5];exact ar.mk rfl hg
   have L:=akF z;clear b5 z U hg;go_wp2_with fail
   go_ret2;exact L.out
  ·have d5:=(T.cx Z _ (T.ei x)).1;have a4:=Pj (key:=key) x ho Z;have d6:(0:Int)<(x.pg:Int):=by omega
   have d7:=akF hg;rcases a4 with⟨i1,i2,i3,i4⟩|⟨i1,i2,i3,i4,m,rfl,y,⟨en,i6,i7⟩,i8,i9,b6⟩
   ·have b:=d1.out _ hg i2 i3;unfold aU at b;have b7:x.aI.length<=600:=by
     have h1:=dC true x.aI;have h2:=i3.2.1;unfold ah at h2;omega
    obtain⟨l,Y⟩:∃l,x.aI=l:=⟨_,rfl⟩;obtain⟨p,a2⟩:∃p,x.pg=p:=⟨_,rfl⟩;rw[Y]at b b7;rw[U,Y]at i4;have b8:=akF i4;clear i4 U;rw[a2]at b d6⊢;have a3:=akF b;clear b hg i2 i3 Y a2 ho Z d5;go_wp2_with fail
    refine a3.out.mono ?_;rintro e q ⟨s3,rfl,O,b9⟩;obtain⟨I,J,rfl⟩:=O.form;have H:=fun W (g:Gr q W)=>pj p true l (.slice I l.length J) key W (O.qn.gr g) (by omega);unfold aU at H;simp only[if_true]at H;have c0:=akF H;clear H;have Q:Gr q (q.alloc (.cells #[.int .i64 (p:Int),.bool true,.slice I l.length J] 200)):=(Gr.refl q).alloc _;have k0:(q.alloc (.cells #[.int .i64 (p:Int),.bool true,.slice I l.length J] 200)).cell? ⟨q.heap.size,0,none⟩=some (.int .i64 (p:Int)):=by rw[akG];rfl
    have k1:(q.alloc (.cells #[.int .i64 (p:Int),.bool true,.slice I l.length J] 200)).cell? ⟨q.heap.size,1,none⟩=some (.bool true):=by rw[akG];rfl
    have k2:(q.alloc (.cells #[.int .i64 (p:Int),.bool true,.slice I l.length J] 200)).cell? ⟨q.heap.size,2,none⟩=some (.slice I l.length J):=by rw[akG];rfl
    go_wp2_with fail
    obtain⟨NB,c1⟩:∃NB,q.heap.size=NB:=⟨_,rfl⟩;rw[c1]at k0 k1 k2⊢;refine(c0.out _ Q).mono ?_;rintro e w4 ⟨rfl,D⟩;replace k0:=D.keeps k0;replace k1:=D.keeps k1;replace k2:=D.keeps k2;have a5:=akF (((d7.out.trans b9).trans Q).trans D);have c2:=O.gr (Q.trans D);cases hh:dm (aD l) key with
    |false=>
     have z:ar w (w_ G) (.returned (.tuple #[.string eZ,dV 7])) w4:=by
      rw[b8.out,hh];exact ar.mk rfl a5.out
     have L:=akF z;clear z;go_wp2_with fail
     go_ret2;exact L.out
    |true=>
     have g3:=oh hh;have g4:(aD l).length=l.length:=by unfold aD;rw[akN]
     obtain⟨S,hS⟩:∃S,ai (aD l) key=S:=⟨_,rfl⟩;rw[hS]at g3 b8⊢;have a6:S<l.length:=by omega
     rcases c2.at' with⟨_,e2⟩|⟨B,cap,V,h2,h3,h4,h5,h6⟩
     ·rw[e2]at a6;exact absurd a6 (by simp)
     obtain⟨rfl,rfl⟩:I=some ⟨B,0,none⟩/\J=cap:=by
      injection V with e1 e2 V
      exact⟨e1,V⟩
     obtain⟨_,b1,_⟩:=h5 S a6;rw[akS]at b1;have z:ar w (w_ G) (.returned (.tuple #[.string l[S].item,.nilIface])) w4:=by
      rw[b8.out,hh,if_pos rfl,akL a6];exact ar.mk rfl a5.out
     have L:=akF z;generalize l[S].item=it at*;have j8:(S:Int)<(l.length:Int):=by omega
     clear z h5 h6 V g4;go_wp2_with fail
     go_ret2;exact L.out
   ·have b:=d1.out _ hg i2 i3;unfold aU at b;have b7:x.aI.length<=600:=by
     have h1:=dC false x.aI;have h2:=i3.2.1;unfold ah at h2;omega
    obtain⟨l,Y⟩:∃l,x.aI=l:=⟨_,rfl⟩;obtain⟨p,a2⟩:∃p,x.pg=p:=⟨_,rfl⟩;rw[Y]at b i4 i6 b7;rw[a2]at b d6⊢;have a3:=akF b;rw[U]at b6;have HN:=akF (And.intro i8 (And.intro i9 b6.symm));clear i8 i9 b6 U;clear b hg i2 i3 Y a2 ho Z d5;go_wp2_with fail
    refine a3.out.mono ?_;rintro e q ⟨s3,rfl,O,b9⟩;obtain⟨I,J,rfl⟩:=O.form;have H:=fun W (g:Gr q W)=>pj p false l (.slice I l.length J) key W (O.qn.gr g) (by omega);unfold aU at H;simp only[Bool.false_eq_true,if_false]at H;have c0:=akF H;clear H;have Q:Gr q (q.alloc (.cells #[.int .i64 (p:Int),.bool false,.slice I l.length J] 200)):=(Gr.refl q).alloc _;have k0:(q.alloc (.cells #[.int .i64 (p:Int),.bool false,.slice I l.length J] 200)).cell? ⟨q.heap.size,0,none⟩=some (.int .i64 (p:Int)):=by rw[akG];rfl
    have k1:(q.alloc (.cells #[.int .i64 (p:Int),.bool false,.slice I l.length J] 200)).cell? ⟨q.heap.size,1,none⟩=some (.bool false):=by rw[akG];rfl
    have k2:(q.alloc (.cells #[.int .i64 (p:Int),.bool false,.slice I l.length J] 200)).cell? ⟨q.heap.size,2,none⟩=some (.slice I l.length J):=by rw[akG];rfl
    go_wp2_with fail
    obtain⟨NB,c1⟩:∃NB,q.heap.size=NB:=⟨_,rfl⟩;rw[c1]at k0 k1 k2⊢;refine(c0.out _ Q).mono ?_;rintro e w4 ⟨rfl,D⟩;replace k0:=D.keeps k0;replace k1:=D.keeps k1;replace k2:=D.keeps k2;have a5:=akF (((d7.out.trans b9).trans Q).trans D);have c2:=O.gr (Q.trans D);obtain⟨K,hK⟩:∃K,aG (aD l) key=K:=⟨_,rfl⟩;rw[hK]at i4 i6⊢;rcases c2.at' with⟨_,e2⟩|⟨B,cap,V,h2,h3,h4,h5,h6⟩
    ·rw[e2]at i4;exact absurd i4 (by simp)
    obtain⟨rfl,rfl⟩:I=some ⟨B,0,none⟩/\J=cap:=by
     injection V with e1 e2 V
     exact⟨e1,V⟩
    obtain⟨_,_,b2⟩:=h5 K i4;rw[akS]at b2;have d8:l[K]=en:=by
     rw[akL i4]at i6;exact akT i6
    rw[d8,i7]at b2;have j9:(K:Int)<(l.length:Int):=by omega
    clear h5 h6 V i6 i7 d8;generalize dm (aD l) key=hit at*;go_wp2_with fail
    go_roundg (m+1)
    case rel=>exact⟨a5.out,y.pg,rfl,.inr ⟨m,rfl,y,rfl,HN.out.1,HN.out.2.1,HN.out.2.2⟩⟩
    case measure=>omega
end
theorem rE{c:Ch}(h:c.aA){i:Nat}(hi:i<8)(p:Int):sV c i p 0=(c.root i p,0):=by
 have hn:=h.head.note i hi;unfold sV Ch.root;rw[Int.add_zero,if_pos hn]
theorem Rz(w:World)(key item:ByteArray)(pg:Nat):oi (w.alloc (.cells #[.string key,.string item,.int .i64 (pg:Int)] 206)) (.slice (some ⟨w.heap.size,0,none⟩) 1 1) [⟨key,item,pg⟩]:=by
 have:ph (w.alloc (.cells #[.string key,.string item,.int .i64 (pg:Int)] 206)) w.heap.size ⟨key,item,pg⟩:=⟨by show(w.heap.push _)[w.heap.size]?=_;rw[Array.getElem?_push_size];rfl⟩;exact this.qn
section
variable{w:World}{PB DB M:Nat}{c:Ch}{sv:Head}{t:Int}{d:Dk}
theorem L8(h:bF w PB DB M c sv t d){TP root:Nat}(ht:bc w TP PB root)(s:TP≠PB/\TP≠DB/\TP≠M)(hr:root<8)(key item:ByteArray)(hk:key.size<=60)(hi:item.size<=100)(h0:c.h.roots root=0):
  Calls akP 144 #[.pointer (some ⟨TP,0,none⟩),.agg #[.string key,.string item,.int .i64 0]] w fun e w'=>e=.returned (dV (bj c root none key item).2.2)/\bF w' PB DB M (bj c root none key item).1 sv t d/\aM PB DB M M w w':=by
 have c3:=h.lt;have c4:=ad ht.p;have gE:Gr w (w.alloc (.cells #[.string key,.string item,.int .i64 0] 206)):=(Gr.refl w).alloc _;have J:(w.alloc (.cells #[.string key,.string item,.int .i64 0] 206)).cell? ⟨w.heap.size,0,none⟩=some (.string key):=by rw[akG];rfl
 have O:(w.alloc (.cells #[.string key,.string item,.int .i64 0] 206)).cell? ⟨w.heap.size,1,none⟩=some (.string item):=by rw[akG];rfl
 have Q:(w.alloc (.cells #[.string key,.string item,.int .i64 0] 206)).cell? ⟨w.heap.size,2,none⟩=some (.int .i64 0):=by rw[akG];rfl
 have y:=me (h.gr gE) (ht.gr gE) hr;rw[h0]at y;have a6:=akF y;have HE:=akF gE;have a7:w.heap.size<(w.alloc (.cells #[.string key,.string item,.int .i64 0] 206)).heap.size:=by simp
 obtain⟨PR,U⟩:∃PR,bj c root none key item=PR:=⟨_,rfl⟩;rw[U];have a9:=akF U;clear y gE U;go_enter akW,akV;go_wp2_with fail
 obtain⟨WE,b0⟩:∃WE,w.alloc (.cells #[.string key,.string item,.int .i64 0] 206)=WE:=⟨_,rfl⟩;rw[b0]at J O Q a6 HE a7⊢;clear b0;obtain⟨L,V⟩:∃L,w.heap.size=L:=⟨_,rfl⟩;rw[V]at J O Q a7 c3 c4⊢;have e4:=akF V;clear V;refine a6.out.mono ?_;rintro e w1 ⟨rfl,z⟩;replace J:=z.keeps J;replace O:=z.keeps O;replace Q:=z.keeps Q;have c5:L<w1.heap.size:=ad J;have H:=HE.out.trans z;have Y:=ht.gr H;have tp:=Y.p;have b1:=wP (h.gr H);have I:=akF b1;have c6:=akF Y;have b2:=akF H;have q:L≠PB/\L≠DB/\L≠M:=by omega
 have HF:=akF h.f;clear z H Y b1;cases ha:bZ c.h with
 |none=>
  have B:ik c=.tuple #[.int .i64 0,.iface 24 (.int .i64 12)]:=by
   unfold ik;rw[ha]
  have b3:c.alloc=c:=by
   unfold Ch.alloc;rw[ha]
  rw[B,b3]at I;have D:PR=(c,none,12):=by
   rw[<-a9.out];unfold bj;rw[ha]
  have HP:=akF D;clear B b3 ha D;go_wp2_with fail
  refine I.out.mono ?_;rintro e S ⟨rfl,G,b⟩;have HX:=akF (And.intro G b);clear G b;go_wp2_with fail
  go_ret;exact⟨by rw[HP.out];rfl,by rw[HP.out];exact HX.out.1,(aM.ak PB DB M b2.out).trans HX.out.2⟩
 |some k=>
  have B:ik c=.tuple #[.int .i64 (k:Int),.nilIface]:=by
   unfold ik;rw[ha]
  rw[B]at I;obtain⟨f1,u1,n1,k1,k2⟩:=ny (pg:=d.pg) HF.out ha;have ho:=Jl (key:=key) (item:=item) hk hi;obtain⟨f2,u2,_⟩:=gb (pg:=d.pg) f1.aA u1 (dA ho.2.2 ho.2.1);have D:PR=((c.alloc.write (k:Nat) (au true [⟨key,item,0⟩])).root root (k:Nat),some ⟨0,(k,[(key,item)])⟩,0):=by
   rw[<-a9.out];unfold bj;rw[ha]
  have b5:=rE f2.aA hr (k:Nat);have HP:=akF D;have c7:=akF b5;have b6:=akF ho;have c8:=akF u1;clear B ha D b5 ho u1 u2 f1 f2 n1;go_wp2_with fail
  refine I.out.mono ?_;rintro e S ⟨rfl,G,b⟩;have e5:L<S.heap.size:=akQ c5 b.size;replace J:=b.keeps q.1 q.2.1 q.2.2 J;replace O:=b.keeps q.1 q.2.1 q.2.2 O;replace Q:=b.keeps q.1 q.2.1 q.2.2 Q;have Z:=c6.out.pg b s.1 s.2.1 s.2.2;have gS:Gr S (S.alloc (.cells #[.string key,.string item,.int .i64 0] 206)):=(Gr.refl S).alloc _;have a0:=mg (G.gr gS) (Z.gr gS) (p:=k) (Rz S key item 0) b6.out.2.2 b6.out.2.1 c8.out;unfold aU at a0;have c9:=akF a0;have d0:=akF (Z.gr gS);have d1:=akF (((aM.ak PB DB M b2.out).trans b).trans (aM.ak PB DB M gS));clear G b Z gS a0;go_wp2_with fail
  refine c9.out.mono ?_;rintro e w4 ⟨rfl,b7,a1⟩;have y:=vz b7 (d0.out.pg a1 s.1 s.2.1 s.2.2) s hr (p:=(k:Int)) (more:=0) (by omega) (by omega);rw[c7.out]at y;have c0:=akF y;have d2:=akF (d1.out.trans a1);clear b7 a1 y;go_wp2_with fail
  refine c0.out.mono ?_;rintro e w5 ⟨rfl,b8,b9⟩;have HX:=akF (And.intro b8 (d2.out.trans b9));clear b8 b9;have d3:dV 0=.nilIface:=rfl;rw[d3];go_wp2_with fail
  go_ret;exact⟨by rw[HP.out];rfl,by rw[HP.out];exact HX.out.1,HX.out.2⟩
end
theorem RA(w:World)(b q k2 s:ByteArray)(p1 p2:Nat):oi (w.alloc (.cells #[.string b,.string q,.int .i64 (p1:Int),.string k2,.string s,.int .i64 (p2:Int)] 206)) (.slice (some ⟨w.heap.size,0,none⟩) 2 2) [⟨b,q,p1⟩,⟨k2,s,p2⟩]:=by
 have hc:∀j,(w.alloc (.cells #[.string b,.string q,.int .i64 (p1:Int),.string k2,.string s,.int .i64 (p2:Int)] 206)).cell? ⟨w.heap.size,j,none⟩=#[Value.string b,.string q,.int .i64 (p1:Int),.string k2,.string s,.int .i64 (p2:Int)][j]?:=fun j=>by rw[akG]
 refine .inr ⟨w.heap.size,0,2,rfl,by simp,fun i hi=>?_⟩;have:i=0\/i=1:=by simp at hi;omega
 rcases this with rfl|rfl
 ·rw[hc,hc,hc];exact⟨rfl,rfl,rfl⟩
 ·rw[hc,hc,hc];exact⟨rfl,rfl,rfl⟩
section
variable{w:World}{PB DB M:Nat}{c:Ch}{sv:Head}{t:Int}{d:Dk}
theorem L9(h:bF w PB DB M c sv t d){TP root:Nat}(ht:bc w TP PB root)(y:TP≠PB/\TP≠DB/\TP≠M)(hr:root<8)(key item:ByteArray)(hk:key.size<=60)(hi:item.size<=100){n:Nat}{x:T n}(hx:Tr.lays c d.pg root (some ⟨n,x⟩)):
  Calls akP 144 #[.pointer (some ⟨TP,0,none⟩),.agg #[.string key,.string item,.int .i64 0]] w fun e w'=>e=.returned (dV (bj c root (some ⟨n,x⟩) key item).2.2)/\bF w' PB DB M (bj c root (some ⟨n,x⟩) key item).1 sv t d/\aM PB DB M M w w':=by
 obtain⟨i2,hl,ho,hn⟩:=hx;have i4:=T.cx hl;have d6:=(i4 _ (T.ei x)).1;have m1:=h.lt;have m2:=ad ht.p;have gE:Gr w (w.alloc (.cells #[.string key,.string item,.int .i64 0] 206)):=(Gr.refl w).alloc _;have e0:(w.alloc (.cells #[.string key,.string item,.int .i64 0] 206)).cell? ⟨w.heap.size,0,none⟩=some (.string key):=by rw[akG];rfl
 have e1:(w.alloc (.cells #[.string key,.string item,.int .i64 0] 206)).cell? ⟨w.heap.size,1,none⟩=some (.string item):=by rw[akG];rfl
 have e2:(w.alloc (.cells #[.string key,.string item,.int .i64 0] 206)).cell? ⟨w.heap.size,2,none⟩=some (.int .i64 0):=by rw[akG];rfl
 have a0:=me (h.gr gE) (ht.gr gE) hr;rw[i2]at a0;have c0:=akF a0;have HE:=akF gE;have i6:w.heap.size<(w.alloc (.cells #[.string key,.string item,.int .i64 0] 206)).heap.size:=by simp
 obtain⟨PR,e7⟩:∃PR,bj c root (some ⟨n,x⟩) key item=PR:=⟨_,rfl⟩;rw[e7];have c2:=akF e7;have J:=wN (pg:=d.pg) hk hi h.f hl ho hn;have c3:=fun W (g:Gr w W)=>Rq y key item hk hi (h.gr g) (ht.gr g) hl ho hn;rcases c4:cK c x key item with⟨H,u,r⟩
 rw[c4]at J;simp only[c4]at c3;have i7:u.pg=x.pg:=J.b_;have i9:u.lays H d.pg:=J.lays;have j0:u.eU:=J.fits;have l4:H.aA:=J.fr.aA;have j1:=J.more;have j2:x.pg=u.pg:=i7.symm;rw[j2]at c3 c0 d6;have j3:=akF c3;have c5:=akF c4;have m3:=akF j1;have m4:=akF i9;have j4:=akF j0;clear a0 gE e7 J c3 c4 i7 j1 i9 j0 j2 i4 hl ho hn i2;go_enter akW,akV;go_wp2_with fail
 obtain⟨WE,j5⟩:∃WE,w.alloc (.cells #[.string key,.string item,.int .i64 0] 206)=WE:=⟨_,rfl⟩;rw[j5]at e0 e1 e2 c0 HE i6⊢;clear j5;obtain⟨EB,e8⟩:∃EB,w.heap.size=EB:=⟨_,rfl⟩;rw[e8]at e0 e1 e2 i6 m1 m2⊢;have m5:=akF e8;clear e8;refine c0.out.mono ?_;rintro e w1 ⟨rfl,b2⟩;replace e0:=b2.keeps e0;replace e1:=b2.keeps e1;replace e2:=b2.keeps e2;have j6:EB<w1.heap.size:=ad e0;have c6:=HE.out.trans b2;have m6:=akF (ht.gr c6);have m7:=akF c6;have t0:EB≠PB/\EB≠DB/\EB≠M:=by omega
 have m8:¬(u.pg:Int)=0:=by omega
 have l5:¬u.pg=0:=by omega
 have d9:=j3.out _ c6;have e3:=akF d9;clear b2 c6 d9 j3 c0;obtain⟨Y,e9⟩:∃Y,u.pg=Y:=⟨_,rfl⟩;rw[e9]at e3 m8 l5 d6⊢;have j7:=akF e9;clear e9;go_wp2_with fail
 refine e3.out.mono ?_;rintro e w2 ⟨v,rfl,hm,L,a6⟩;have b3:=m6.out.pg a6 y.1 y.2.1 y.2.2;have F2:=(aM.ak PB DB M m7.out).trans a6;rcases r with _|_|m
 ·obtain rfl:v=.tuple #[.pointer none,dV 12]:=hm;have g0:dV 12=.iface 24 (.int .i64 12):=rfl;rw[g0];have z:PR=(H,some ⟨n,u⟩,12):=by
   rw[<-c2.out];unfold bj;simp only[c5.out]
  have Z:=akF z;have U:=akF (And.intro L F2);clear z L F2 a6 b3;go_wp2_with fail
  go_ret;exact⟨by rw[Z.out];rfl,by rw[Z.out];exact U.out.1,U.out.2⟩
 ·obtain rfl:v=.tuple #[.pointer none,.nilIface]:=hm;have z:PR=(H,some ⟨n,u⟩,0):=by
   rw[<-c2.out];unfold bj;simp only[c5.out]
  have Z:=akF z;have U:=akF (And.intro L F2);clear z L F2 a6 b3;go_wp2_with fail
  go_ret;exact⟨by rw[Z.out];rfl,by rw[Z.out];exact U.out.1,U.out.2⟩
 ·obtain⟨q,rfl,m9,y0,y1,y2⟩:=hm;have hN:=(T.nC.1 m4.out).1;have hO:=(T.kP.1 j4.out).1;rw[j7.out]at hN;have c7:=lQ L.s b3 hN hO.2.2 hO.2.1;unfold aU at c7;have j8:=ED j4.out;have g3:=m3.out m rfl;have a7:m.1.size<=60:=g3.2.2.1;have j9:=T.cx g3.1 _ (T.ei m.2);obtain⟨I,b4⟩:∃I,(u.aI.head?.map En.key).getD eZ=I:=⟨_,rfl⟩;obtain⟨l,g4⟩:∃l,u.aI=l:=⟨_,rfl⟩;have n3:=m5;have G:w2.cell? ⟨q,0,none⟩=some (.string m.1):=y0;have O:w2.cell? ⟨q,1,none⟩=some (.string eZ):=y1;have Q:w2.cell? ⟨q,2,none⟩=some (.int .i64 (m.2.pg:Int)):=y2;have g5:=Jk (p1:=Y) (p2:=m.2.pg) j8 a7 hN.1.2.1 j9.2.1;rw[b4]at g5;have n4:=akF b4;rw[g4]at c7 hO b4;have k0:=hO.1;have t1:=akF hN.1;have n5:=akF c7;have c8:=akF g5;have t2:=akF g4;have n6:EB<w2.heap.size:=akQ j6 a6.size;have q9:q<w2.heap.size:=ad G;have r0:EB<=w1.heap.size:=akX j6;have b:q≠PB/\q≠DB/\q≠M:=by omega
  have n7:=akF L;have n8:=akF b3;have n9:=akF F2;have t3:EB<=w2.heap.size:=akX n6;have r3:w1.heap.size<=q:=m9;clear hN hO c7 j8 g3 a7 g5 g4 L b3 F2 a6 y0 y1 y2 n3 j9 e0 e1 e2;have c9:0<l.length:=List.length_pos_iff.2 k0;have o0:(l[0]'c9).key=I:=by
   rw[<-b4];cases l with
   |nil=>exact absurd rfl k0
   |cons a r=>rfl
  clear b4;go_wp2_with fail
  refine n5.out.mono ?_;rintro e w3 ⟨s3,rfl,k3,S⟩;rcases k3.at' with⟨_,e2⟩|⟨B,cap,rfl,h2,h3,h4,h5,h6⟩
  ·rw[e2]at c9;exact absurd c9 (by simp)
  obtain⟨b0,_,_⟩:=h5 0 c9;rw[o0]at b0;simp only[Nat.zero_mul,akS]at b0;have gN:Gr w3 (w3.alloc (.cells #[.int .i64 (Y:Int),.bool (bA n),.slice (some ⟨B,0,none⟩) l.length cap] 200)):=(Gr.refl w3).alloc _;have n2:(w3.alloc (.cells #[.int .i64 (Y:Int),.bool (bA n),.slice (some ⟨B,0,none⟩) l.length cap] 200)).cell? ⟨w3.heap.size,2,none⟩=some (.slice (some ⟨B,0,none⟩) l.length cap):=by rw[akG];rfl
  replace b0:=gN.keeps b0;replace G:=gN.keeps (S.keeps G);replace O:=gN.keeps (S.keeps O);replace Q:=gN.keeps (S.keeps Q);have k4:=wP (n7.out.gr (S.trans gN));have d0:=akF k4;have g6:=n8.out.gr (S.trans gN);have tp:=g6.p;have o1:=akF g6;have k5:=akF (n9.out.trans (aM.ak PB DB M (S.trans gN)));have o2:w2.heap.size<=w3.heap.size:=S.size;have r4:(0:Int)<(l.length:Int):=by omega
  clear h5 h6 k3 k4 g6;go_wp2_with fail
  obtain⟨NB,e5⟩:∃NB,w3.heap.size=NB:=⟨_,rfl⟩;rw[e5]at n2 o2⊢;clear e5;generalize w3.alloc (.cells #[.int .i64 (Y:Int),.bool (bA n),.slice (some ⟨B,0,none⟩) l.length cap] 200)=w4 at*;cases ha:bZ H.h with
  |none=>
   have b6:ik H=.tuple #[.int .i64 0,.iface 24 (.int .i64 12)]:=by
    unfold ik;rw[ha]
   have k6:H.alloc=H:=by
    unfold Ch.alloc;rw[ha]
   rw[b6,k6]at d0;have z:PR=(H,some ⟨n,u⟩,12):=by
    rw[<-c2.out];unfold bj;simp only[c5.out,ha]
   have Z:=akF z;clear b6 k6 ha z;refine d0.out.mono ?_;rintro e V ⟨rfl,b7,D⟩;have U:=akF (And.intro b7 (k5.out.trans D));clear b7 D;go_wp2_with fail
   go_ret;exact⟨by rw[Z.out];rfl,by rw[Z.out];exact U.out.1,U.out.2⟩
  |some k=>
   have b6:ik H=.tuple #[.int .i64 (k:Int),.nilIface]:=by
    unfold ik;rw[ha]
   rw[b6]at d0;obtain⟨f1,u1,n1,k1,k2⟩:=ny (pg:=d.pg) l4 ha;obtain⟨f2,u2,_⟩:=gb (pg:=d.pg) f1.aA u1 (dA c8.out.2.2 c8.out.2.1);have z:PR=((H.alloc.write (k:Nat) (au false (zm I Y m.1 m.2.pg))).root root (k:Nat),some ⟨n+1,(k,[(I,u),m])⟩,0):=by
    rw[<-c2.out];unfold bj;simp only[c5.out,ha,n4.out,j7.out]
    rfl
   have k7:=rE f2.aA hr (k:Nat);have Z:=akF z;have o3:=akF k7;have o4:=akF u1;clear b6 ha z k7 u1 u2 f1 f2 n1;refine d0.out.mono ?_;rintro e V ⟨rfl,b7,D⟩;have a8:NB≠PB/\NB≠DB/\NB≠M:=by omega
   have a9:B≠PB/\B≠DB/\B≠M:=by omega
   replace n2:=D.keeps a8.1 a8.2.1 a8.2.2 n2;replace b0:=D.keeps a9.1 a9.2.1 a9.2.2 b0;replace G:=D.keeps b.1 b.2.1 b.2.2 G;replace O:=D.keeps b.1 b.2.1 b.2.2 O;replace Q:=D.keeps b.1 b.2.1 b.2.2 Q;have g7:=o1.out.pg D y.1 y.2.1 y.2.2;have gA:=fun W:World=>(Gr.refl W).alloc (.cells #[.string I,.string eZ,.int .i64 (Y:Int),.string m.1,.string eZ,.int .i64 (m.2.pg:Int)] 206);have g8:=fun W (g:Gr V W)=>mg (b7.gr (g.trans (gA W))) (g7.gr (g.trans (gA W))) (p:=k) (RA W I eZ m.1 eZ Y m.2.pg) c8.out.2.2 c8.out.2.1 o4.out;unfold aU at g8;have g9:=akF g8;have o5:=akF g7;have o6:=akF (k5.out.trans D);have d1:=akF gA;obtain⟨mk,a7⟩:∃mk,m.1=mk:=⟨_,rfl⟩;obtain⟨mp,k8⟩:∃mp,(m.2.pg:Int)=mp:=⟨_,rfl⟩;have k9:eZ=(⟨#[]⟩:ByteArray):=rfl;rw[a7]at G;rw[k8]at Q;rw[a7,k8]at g9 d1;rw[k9]at O g9 d1;clear b7 D g7 gA g8 k9;go_wp2_with fail
   have Gc:Gr V V.drew:=(Gr.refl V).drew;have ga:=d1.out V.drew;have Y1:V.drew.cell? ⟨NB,2,none⟩=some (.slice (some ⟨B,0,none⟩) l.length cap):=n2;have Y2:V.drew.cell? ⟨B,0,none⟩=some (.string I):=b0;have Y3:V.drew.cell? ⟨q,0,none⟩=some (.string mk):=G;have Y4:V.drew.cell? ⟨q,1,none⟩=some (.string ⟨#[]⟩):=O;have Y5:V.drew.cell? ⟨q,2,none⟩=some (.int .i64 mp):=Q;have Z1:=ga.keeps Y1;have Z2:=ga.keeps Y2;have Z3:=ga.keeps Y3;have Z4:=ga.keeps Y4;have Z5:=ga.keeps Y5;have kf:∀W W':World,aM PB DB M M W W'->(W.cell? ⟨NB,2,none⟩=some (.slice (some ⟨B,0,none⟩) l.length cap)/\W.cell? ⟨B,0,none⟩=some (.string I)/\W.cell? ⟨q,0,none⟩=some (.string mk)/\W.cell? ⟨q,1,none⟩=some (.string ⟨#[]⟩)/\W.cell? ⟨q,2,none⟩=some (.int .i64 mp))->(W'.cell? ⟨NB,2,none⟩=some (.slice (some ⟨B,0,none⟩) l.length cap)/\W'.cell? ⟨B,0,none⟩=some (.string I)/\W'.cell? ⟨q,0,none⟩=some (.string mk)/\W'.cell? ⟨q,1,none⟩=some (.string ⟨#[]⟩)/\W'.cell? ⟨q,2,none⟩=some (.int .i64 mp)):=fun W W' f ⟨a1,a2,a3,a4,a5⟩=>⟨f.keeps a8.1 a8.2.1 a8.2.2 a1,f.keeps a9.1 a9.2.1 a9.2.2 a2,f.keeps b.1 b.2.1 b.2.2 a3,f.keeps b.1 b.2.1 b.2.2 a4,f.keeps b.1 b.2.1 b.2.2 a5⟩;have KF:=akF kf;clear kf ga;go_region_held3(fun w'=>w'.cell? ⟨NB,2,none⟩=some (.slice (some ⟨B,0,none⟩) l.length cap)/\w'.cell? ⟨B,0,none⟩=some (.string I)/\w'.cell? ⟨q,0,none⟩=some (.string mk)/\w'.cell? ⟨q,1,none⟩=some (.string ⟨#[]⟩)/\w'.cell? ⟨q,2,none⟩=some (.int .i64 mp)) (first|exact⟨Y1,Y2,Y3,Y4,Y5⟩|exact⟨Z1,Z2,Z3,Z4,Z5⟩|exact⟨V1,V2,V3,V4,V5⟩|exact⟨n2,b0,G,O,Q⟩) (first|(go_at_call 200;refine(g9.out _ Gc).mono ?_;rintro e w6 ⟨rfl,l0,h0⟩;obtain⟨V1,V2,V3,V4,V5⟩:=KF.out _ _ h0 ⟨Z1,Z2,Z3,Z4,Z5⟩))
   all_goals
    have h1:=(aM.ak PB DB M (Gc.trans (d1.out V.drew))).trans h0;have a0:=vz l0 (o5.out.pg h1 y.1 y.2.1 y.2.2) y hr (p:=(k:Int)) (more:=0) (by omega) (by omega);have l6:=akF a0;have o7:=akF (o6.out.trans h1);clear h1 l0 h0 a0;go_wp2_with fail
    refine l6.out.mono ?_;rintro e w7 ⟨rfl,l1,l2⟩;have l3:sV (H.alloc.write (k:Nat) (au false [⟨I,⟨#[]⟩,Y⟩,⟨mk,⟨#[]⟩,m.2.pg⟩])) root (k:Nat) 0=((H.alloc.write (k:Nat) (au false (zm I Y m.1 m.2.pg))).root root (k:Nat),0):=by
     rw[<-a7];exact o3.out
    have U:=akF (And.intro l1 (o7.out.trans l2));rw[l3]at U⊢;clear l1 l2 l3;have g0:dV 0=.nilIface:=rfl;rw[g0];go_wp2_with fail
    go_ret;exact⟨by rw[Z.out];rfl,by rw[Z.out];exact U.out.1,U.out.2⟩
end
theorem vK(c:Ch)(i:Nat)(m:Int):sV c i (c.h.roots i) m=dJ c i m:=rfl
theorem Ca{key:ByteArray}:∀{n:Nat} {x:T n} {s:ByteArray},x.eU->ki key x=some s->s.size<=100
 |0,x,s,q,h=>by
  obtain⟨p,l⟩:Nat×List (ByteArray×ByteArray):=x;have h:(if dm (l.map akI) key then(l[ai (l.map akI) key]?).map akU else none)=some s:=h
  split at h
  ·cases b:l[ai (l.map akI) key]? with
   |none=>rw[b]at h;cases h
   |some y=>
    rw[b]at h;have z:y.2=s:=by simpa using h
    have B:=akM b;have:=(q.2.2 (bE y) (List.mem_map_of_mem B)).item;rw[<-z];exact this
  ·cases h
 |n+1,x,s,q,h=>by
  obtain⟨p,l⟩:Nat×List (ByteArray×T n):=x;have h:((l[aG (l.map akI) key]?).bind fun x=>ki key x.2)=some s:=h;cases b:l[aG (l.map akI) key]? with
  |none=>rw[b]at h;cases h
  |some y=>
   rw[b]at h;exact Ca (q.2 y (akM b)) h
theorem yt{c:Ch}{pg:Nat->ByteArray}{i:Nat}{b:Tr}(q:b.lays c pg i){key s:ByteArray}(h:b.get key=some s):s.size<=100:=by
 cases b with
 |none=>cases h
 |some x=>exact Ca q.2.2.1 h
theorem Cb(c:Ch)(i:Nat)(q:Tr)(key item:ByteArray):(bj c i q key item).2.2=0\/(bj c i q key item).2.2=12:=by
 cases q with
 |none=>
  cases ha:bZ c.h with
  |none=>
   refine .inr ?_;unfold bj;simp only[ha]
  |some k=>
   refine .inl ?_;unfold bj;simp only[ha]
 |some x=>
  obtain⟨d,t⟩:=x;rcases b:cK c t key item with⟨s,u,r⟩
  rcases r with _|_|m
  ·refine .inr ?_;unfold bj;simp only[b]
  ·refine .inl ?_;unfold bj;simp only[b]
  ·cases ha:bZ s.h with
   |none=>
    refine .inr ?_;unfold bj;simp only[b,ha]
   |some k=>
    refine .inl ?_;unfold bj;simp only[b,ha]
section
variable{w:World}{PB DB M:Nat}{c:Ch}{sv:Head}{t:Int}{d:Dk}
theorem Ny(h:bF w PB DB M c sv t d){TP root:Nat}(s:bc w TP PB root)(b:TP≠PB/\TP≠DB/\TP≠M)(y:root<8)(key item:ByteArray)(z:key.size<=60)(hi:item.size<=100){q:Tr}(B:q.lays c d.pg root):
  Calls akP 144 #[.pointer (some ⟨TP,0,none⟩),.agg #[.string key,.string item,.int .i64 0]] w fun e w'=>e=.returned (dV (bj c root q key item).2.2)/\bF w' PB DB M (bj c root q key item).1 sv t d/\aM PB DB M M w w':=by
 cases q with
 |none=>exact L8 h s b y key item z hi B
 |some x=>exact L9 h s b y key item z hi B
theorem RD(h:bF w PB DB M c sv t d){TP root:Nat}(ht:bc w TP PB root)(S:TP≠PB/\TP≠DB/\TP≠M)(Z:root<8)(key item:ByteArray){I:Tr}(hl:I.lays c d.pg root):
  Calls akP 89 #[.pointer (some ⟨TP,0,none⟩),.string key,.string item] w fun e w'=>e=.returned (dV (jC c root I key item).2.2)/\bF w' PB DB M (jC c root I key item).1 sv t d/\aM PB DB M M w w':=by
 obtain⟨J,d0⟩:∃J,jC c root I key item=J:=⟨_,rfl⟩;rw[d0];have b5:=akF d0;have tp:=ht.p;have e2:=h.f.head.note root Z;have O:=akF (And.intro h (And.intro ht hl));clear d0 h ht;by_cases hs:key.size<1\/60<key.size\/100<item.size
 ·have q:J=(c,I,1):=by
   rw[<-b5.out];unfold jC;rw[if_pos hs]
  have HP:=akF q;clear q hl;go_enter ak0,akY;have g7:(key.size:Int)<1\/60<(key.size:Int)\/100<(item.size:Int):=by omega
  clear hs;have s:dV J.2.2=.iface 24 (.int .i64 1)/\bF w PB DB M J.1 sv t d:=by
   rw[HP.out];exact⟨rfl,O.out.1⟩
  have b:=akF s;clear s;rcases g7 with h1|h1
  ·go_wp2_with fail
   go_ret;exact⟨by rw[b.out.1];rfl,b.out.2,aM.ak PB DB M (Gr.refl w)⟩
  ·by_cases h0:(key.size:Int)<1
   ·go_wp2_with fail
    go_ret;exact⟨by rw[b.out.1];rfl,b.out.2,aM.ak PB DB M (Gr.refl w)⟩
   rcases h1 with h1|h1
   ·go_wp2_with fail
    go_ret;exact⟨by rw[b.out.1];rfl,b.out.2,aM.ak PB DB M (Gr.refl w)⟩
   ·by_cases h2:60<(key.size:Int)
    ·go_wp2_with fail
     go_ret;exact⟨by rw[b.out.1];rfl,b.out.2,aM.ak PB DB M (Gr.refl w)⟩
    ·go_wp2_with fail
     go_ret;exact⟨by rw[b.out.1];rfl,b.out.2,aM.ak PB DB M (Gr.refl w)⟩
 ·have h9:¬(key.size:Int)<1:=by omega
  have i0:¬60<(key.size:Int):=by omega
  have i1:¬100<(item.size:Int):=by omega
  have b3:key.size<=60:=by omega
  have a0:item.size<=100:=by omega
  have e4:=GO O.out.1;have g8:=akF e4;have e5:=fun W (g:Gr w W)=>L7 (O.out.1.gr g) (O.out.2.1.gr g) Z key hl;have g9:=akF e5;obtain⟨U,e6⟩:∃U,mI I key item=U:=⟨_,rfl⟩;have a3:=akF e6;have HS:=akF hs;have HL:=akF hl;clear hs e4 e5 e6;go_enter ak0,akY;go_wp2_with fail
  refine g8.out.mono ?_;rintro e w1 ⟨rfl,d1⟩;have c9:=g9.out _ d1;have e9:=akF c9;have h3:=akF d1;clear c9 d1;go_wp2_with fail
  have i2:-200<=U/\U<=200:=by
   rw[<-a3.out];unfold mI;cases a4:I.get key with
   |none=>dsimp only;omega
   |some a5=>
    have:=yt HL.out a4
    dsimp only;omega
  refine e9.out.mono ?_;rintro e w2 ⟨rfl,e8⟩;have b4:=akF (h3.out.trans e8);clear e8;cases a4:I.get key with
  |none=>
   have hm:U=2+(key.size:Int)+item.size:=by
    rw[<-a3.out];unfold mI;rw[a4]
   have HM:=akF hm;have b6:w_ none=.tuple #[.string eZ,.iface 24 (.int .i64 7)]:=rfl;rw[b6];clear hm a4 b6;have b7:=LJ (O.out.1.gr b4.out) (O.out.2.1.gr b4.out) Z;have d2:=akF b7;clear b7;go_wp2_with fail
   refine d2.out.mono ?_;rintro e w3 ⟨rfl,b8⟩;have y:=akF (b4.out.trans b8);clear b8;obtain⟨nt,Q⟩:∃nt,c.h.notes root=nt:=⟨_,rfl⟩;rw[Q]at e2⊢;have b9:=akF Q;clear Q;by_cases hf:30000<nt+(2+(key.size:Int)+item.size)
   ·have q:J=(c,I,12):=by
     rw[<-b5.out];unfold jC;rw[if_neg HS.out,a3.out,b9.out,HM.out,if_pos hf]
    have s:dV J.2.2=.iface 24 (.int .i64 12)/\bF w3 PB DB M J.1 sv t d:=by
     rw[q];exact⟨rfl,O.out.1.gr y.out⟩
    have b:=akF s;clear s q;go_wp2_with fail
    go_ret;exact⟨by rw[b.out.1];rfl,b.out.2,aM.ak PB DB M y.out⟩
   ·have a6:=Ny (O.out.1.gr y.out) (O.out.2.1.gr y.out) S Z key item b3 a0 HL.out;have a7:=yg (pg:=d.pg) O.out.1.f HL.out Z b3 a0;have z:=Cb c root I key item;have B:jC c root I key item=match bj c root I key item with
     |( H,u,0)=>((dJ H root U).1,u,(dJ H root U).2)
     |r=>r:=by
     unfold jC;rw[if_neg HS.out,a3.out,b9.out,HM.out,if_neg hf];generalize bj c root I key item=r;obtain⟨ra,rb,rn⟩:=r;cases rn<;>rfl
    rw[b5.out]at B;rcases a8:bj c root I key item with⟨H,u,en⟩
    rw[a8]at a7 B;simp only[a8]at z a6;have a9:H.aA:=a7.k.aA;have d3:=a9.head.root root Z;have V:=akF a6;have a2:=akF B;have h4:=akF a9;clear a6 B a7 a9 a8;rcases z with z|z
    ·subst z;have q:J=((dJ H root U).1,u,(dJ H root U).2):=a2.out;have HP:=akF q;have L:dV 0=.nilIface:=rfl;rw[L]at V;clear q L;go_wp2_with fail
     refine V.out.mono ?_;rintro e w4 ⟨rfl,D,G⟩;have b0:=(O.out.2.1.gr y.out).pg G S.1 S.2.1 S.2.2;have c0:=me D b0 Z;have d4:=akF c0;have d5:=akF D;have d6:=akF b0;have d7:=akF ((aM.ak PB DB M y.out).trans G);clear c0 D b0 G;go_wp2_with fail
     refine d4.out.mono ?_;rintro e w5 ⟨rfl,Y⟩;have b1:=vz (d5.out.gr Y) (d6.out.gr Y) S Z (p:=H.h.roots root) (more:=U) d3 (by omega);rw[vK]at b1;have c2:=akF b1;have d8:=akF (d7.out.trans (aM.ak PB DB M Y));clear b1 Y;rw[HM.out]at c2 HP;go_wp2_with fail
     refine c2.out.mono ?_;rintro e w6 ⟨rfl,c3,c4⟩;have HX:=akF (And.intro c3 (d8.out.trans c4));have s:dV J.2.2=dV (dJ H root ((2+(key.size:Int)+item.size))).2/\bF w6 PB DB M J.1 sv t d:=by
       rw[HP.out];exact⟨rfl,HX.out.1⟩
     have b:=akF s;clear s c3 c4;obtain⟨EV,c5⟩:∃EV,dV (dJ H root ((2+(key.size:Int)+item.size))).2=EV:=⟨_,rfl⟩;rw[c5]at b⊢;clear c5;go_wp2_with fail
     go_ret;exact⟨by rw[b.out.1];rfl,b.out.2,HX.out.2⟩
    ·subst z;have q:J=(H,u,12):=a2.out;have HP:=akF q;have L:dV 12=.iface 24 (.int .i64 12):=rfl;rw[L]at V;clear q L;go_wp2_with fail
     refine V.out.mono ?_;rintro e w4 ⟨rfl,D,G⟩;have HX:=akF (And.intro D ((aM.ak PB DB M y.out).trans G));clear D G;go_wp2_with fail
     go_ret;exact⟨by rw[HP.out];rfl,by rw[HP.out];exact HX.out.1,HX.out.2⟩
  |some a5=>
   have hm:U=(item.size:Int)-a5.size:=by
    rw[<-a3.out];unfold mI;rw[a4]
   have HM:=akF hm;have i3:=yt HL.out a4;have b6:w_ (some a5)=.tuple #[.string a5,.nilIface]:=rfl;rw[b6];clear hm a4 b6;have b7:=LJ (O.out.1.gr b4.out) (O.out.2.1.gr b4.out) Z;have d2:=akF b7;clear b7;go_wp2_with fail
   refine d2.out.mono ?_;rintro e w3 ⟨rfl,b8⟩;have y:=akF (b4.out.trans b8);clear b8;obtain⟨nt,Q⟩:∃nt,c.h.notes root=nt:=⟨_,rfl⟩;rw[Q]at e2⊢;have b9:=akF Q;clear Q;by_cases hf:30000<nt+((item.size:Int)-a5.size)
   ·have q:J=(c,I,12):=by
     rw[<-b5.out];unfold jC;rw[if_neg HS.out,a3.out,b9.out,HM.out,if_pos hf]
    have s:dV J.2.2=.iface 24 (.int .i64 12)/\bF w3 PB DB M J.1 sv t d:=by
     rw[q];exact⟨rfl,O.out.1.gr y.out⟩
    have b:=akF s;clear s q;go_wp2_with fail
    go_ret;exact⟨by rw[b.out.1];rfl,b.out.2,aM.ak PB DB M y.out⟩
   ·have a6:=Ny (O.out.1.gr y.out) (O.out.2.1.gr y.out) S Z key item b3 a0 HL.out;have a7:=yg (pg:=d.pg) O.out.1.f HL.out Z b3 a0;have z:=Cb c root I key item;have B:jC c root I key item=match bj c root I key item with
     |( H,u,0)=>((dJ H root U).1,u,(dJ H root U).2)
     |r=>r:=by
     unfold jC;rw[if_neg HS.out,a3.out,b9.out,HM.out,if_neg hf];generalize bj c root I key item=r;obtain⟨ra,rb,rn⟩:=r;cases rn<;>rfl
    rw[b5.out]at B;rcases a8:bj c root I key item with⟨H,u,en⟩
    rw[a8]at a7 B;simp only[a8]at z a6;have a9:H.aA:=a7.k.aA;have d3:=a9.head.root root Z;have V:=akF a6;have a2:=akF B;have h4:=akF a9;clear a6 B a7 a9 a8;rcases z with z|z
    ·subst z;have q:J=((dJ H root U).1,u,(dJ H root U).2):=a2.out;have HP:=akF q;have L:dV 0=.nilIface:=rfl;rw[L]at V;clear q L;go_wp2_with fail
     refine V.out.mono ?_;rintro e w4 ⟨rfl,D,G⟩;have b0:=(O.out.2.1.gr y.out).pg G S.1 S.2.1 S.2.2;have c0:=me D b0 Z;have d4:=akF c0;have d5:=akF D;have d6:=akF b0;have d7:=akF ((aM.ak PB DB M y.out).trans G);clear c0 D b0 G;go_wp2_with fail
     refine d4.out.mono ?_;rintro e w5 ⟨rfl,Y⟩;have b1:=vz (d5.out.gr Y) (d6.out.gr Y) S Z (p:=H.h.roots root) (more:=U) d3 (by omega);rw[vK]at b1;have c2:=akF b1;have d8:=akF (d7.out.trans (aM.ak PB DB M Y));clear b1 Y;rw[HM.out]at c2 HP;go_wp2_with fail
     refine c2.out.mono ?_;rintro e w6 ⟨rfl,c3,c4⟩;have HX:=akF (And.intro c3 (d8.out.trans c4));have s:dV J.2.2=dV (dJ H root (((item.size:Int)-a5.size))).2/\bF w6 PB DB M J.1 sv t d:=by
       rw[HP.out];exact⟨rfl,HX.out.1⟩
     have b:=akF s;clear s c3 c4;obtain⟨EV,c5⟩:∃EV,dV (dJ H root (((item.size:Int)-a5.size))).2=EV:=⟨_,rfl⟩;rw[c5]at b⊢;clear c5;go_wp2_with fail
     go_ret;exact⟨by rw[b.out.1];rfl,b.out.2,HX.out.2⟩
    ·subst z;have q:J=(H,u,12):=a2.out;have HP:=akF q;have L:dV 12=.iface 24 (.int .i64 12):=rfl;rw[L]at V;clear q L;go_wp2_with fail
     refine V.out.mono ?_;rintro e w4 ⟨rfl,D,G⟩;have HX:=akF (And.intro D ((aM.ak PB DB M y.out).trans G));clear D G;go_wp2_with fail
     go_ret;exact⟨by rw[HP.out];rfl,by rw[HP.out];exact HX.out.1,HX.out.2⟩
end
theorem CC{w q:World}{PB DB M:Nat}{c:Ch}{sv:Head}{t:Int}{d:Dk}{RB:Nat}{s:Value}{R:List En}(G:w.heap.size<=RB)(y:aM PB DB M M w q)(z:bF q PB DB M c sv t d)(B:aT w q s R)(D:∀b,s.ownBlock=some b->¬b=RB)(H:PB<w.heap.size/\DB<w.heap.size/\M<w.heap.size)(v0 v1 v2:Value):
  aT w (((q.setCell ⟨RB,0,none⟩ v0).setCell ⟨RB,1,none⟩ v1).setCell ⟨RB,2,none⟩ v2) s R/\bF (((q.setCell ⟨RB,0,none⟩ v0).setCell ⟨RB,1,none⟩ v1).setCell ⟨RB,2,none⟩ v2) PB DB M c sv t d/\aM PB DB M M w (((q.setCell ⟨RB,0,none⟩ v0).setCell ⟨RB,1,none⟩ v1).setCell ⟨RB,2,none⟩ v2):=by
 have g:ag (fun b=>b=RB) q (((q.setCell ⟨RB,0,none⟩ v0).setCell ⟨RB,1,none⟩ v1).setCell ⟨RB,2,none⟩ v2):=((ag.setCell (S:=fun b=>b=RB) (p:=⟨RB,0,none⟩) q _ rfl).trans (ag.setCell (S:=fun b=>b=RB) (p:=⟨RB,1,none⟩) _ _ rfl)).trans (ag.setCell (S:=fun b=>b=RB) (p:=⟨RB,2,none⟩) _ _ rfl);exact⟨B.aC g D,z.aC g (by omega) (by omega) (by omega),y.own g (fun j e=>by omega)⟩
theorem lI{w:World}{B:Nat}{x0 b x2 v0 v1 v2:Value}(r0:w.cell? ⟨B,0,none⟩=some x0)(r1:w.cell? ⟨B,1,none⟩=some b)(r2:w.cell? ⟨B,2,none⟩=some x2):
  (((w.setCell ⟨B,0,none⟩ v0).setCell ⟨B,1,none⟩ v1).setCell ⟨B,2,none⟩ v2).cell? ⟨B,0,none⟩=some v0/\(((w.setCell ⟨B,0,none⟩ v0).setCell ⟨B,1,none⟩ v1).setCell ⟨B,2,none⟩ v2).cell? ⟨B,1,none⟩=some v1/\(((w.setCell ⟨B,0,none⟩ v0).setCell ⟨B,1,none⟩ v1).setCell ⟨B,2,none⟩ v2).cell? ⟨B,2,none⟩=some v2:=by
 refine⟨?_,?_,?_⟩
 ·rw[akH _ _ _ _ (by simp),akH _ _ _ _ (by simp),akJ _ _ _ r0]
 ·rw[akH _ _ _ _ (by simp),akJ _ _ _ ((akH _ _ _ _ (by simp)).trans r1)]
 ·rw[akJ _ _ _ ((akH _ _ _ _ (by simp)).trans ((akH _ _ _ _ (by simp)).trans r2))]
section
variable{w:World}{PB DB M:Nat}{c:Ch}{sv:Head}{t:Int}{d:Dk}
theorem MH(h:bF w PB DB M c sv t d){TP root:Nat}(ht:bc w TP PB root)(i3:TP≠PB/\TP≠DB/\TP≠M){p:Nat}{l:List En}(hp:gO c d.pg true p l)(c8:∀e∈l,e.ok true)(U:ah true l<=1024)(key:ByteArray)(hh:dm (aD l) key=true):
  Calls akP 203 #[.pointer (some ⟨TP,0,none⟩),.int .i64 (p:Int),.string key] w fun e w'=>∃s,e=.returned (.tuple #[aU p true s,.nilIface])/\aT w w' s (l.eraseIdx (ai (aD l) key))/\bF w' PB DB M (c.write (p:Nat) (au true (l.eraseIdx (ai (aD l) key)))) sv t d/\aM PB DB M M w w':=by
 have a7:Gr w (w.alloc (.cells #[.int .i64 0,.bool false,.slice none 0 0] 200)):=(Gr.refl w).alloc _;have b5:=lQ (h.gr a7).s (ht.gr a7) hp c8 U;have J:(w.alloc (.cells #[.int .i64 0,.bool false,.slice none 0 0] 200)).cell? ⟨w.heap.size,0,none⟩=some (.int .i64 0):=by rw[akG];rfl
 have r1:(w.alloc (.cells #[.int .i64 0,.bool false,.slice none 0 0] 200)).cell? ⟨w.heap.size,1,none⟩=some (.bool false):=by rw[akG];rfl
 have r2:(w.alloc (.cells #[.int .i64 0,.bool false,.slice none 0 0] 200)).cell? ⟨w.heap.size,2,none⟩=some (.slice none 0 0):=by rw[akG];rfl
 have rf:∀o,(w.alloc (.cells #[.int .i64 0,.bool false,.slice none 0 0] 200)).frozen? ⟨w.heap.size,o,none⟩=false:=fun o=>by simp
 have hl:l.length<=600:=by
  have:=dC true l;unfold ah at U;omega
 have e4:(aD l).length=l.length:=by unfold aD;rw[akN]
 have c9:ai (aD l) key<l.length:=by rw[<-e4];exact oh hh
 obtain⟨K,hK⟩:∃K,ai (aD l) key=K:=⟨_,rfl⟩;rw[hK]at c9⊢;obtain⟨R,hR⟩:∃R,l.eraseIdx K=R:=⟨_,rfl⟩;rw[hR];go_enter Tryz.func203,Tryz.ntmps203;go_wp2_with fail
 have V:Hid (w.heap.size<(w.alloc (.cells #[.int .i64 0,.bool false,.slice none 0 0] 200)).heap.size):=akF (by simp);have a8:=akF a7;obtain⟨WB,d0⟩:∃WB,w.alloc (.cells #[.int .i64 0,.bool false,.slice none 0 0] 200)=WB:=⟨_,rfl⟩;rw[d0]at b5 J r1 r2 rf a8 V⊢;clear d0 a7;obtain⟨RB,d1⟩:∃RB,w.heap.size=RB:=⟨_,rfl⟩;have e5:=akF d1;rw[d1]at J r1 r2 rf V⊢;refine b5.mono ?_;rintro e L ⟨s',rfl,Y,d2⟩;obtain⟨Z,ca,rfl⟩:=Y.form;have b6:=fun W (g:Gr L W)=>pj p true l (.slice Z l.length ca) key W (Y.qn.gr g) (by omega);simp only[if_true,hh,hK]at b6;have b7:Gr L (L.alloc (.cells #[.int .i64 (p:Int),.bool true,.slice Z l.length ca] 200)):=(Gr.refl L).alloc _;unfold aU at*;have e6:=akF b6;have a9:=d2.trans b7;have J:=a9.keeps J;have r1:=a9.keeps r1;have r2:=a9.keeps r2;have k0:(L.alloc (.cells #[.int .i64 (p:Int),.bool true,.slice Z l.length ca] 200)).cell? ⟨L.heap.size,0,none⟩=some (.int .i64 (p:Int)):=by rw[akG];rfl
 have k1:(L.alloc (.cells #[.int .i64 (p:Int),.bool true,.slice Z l.length ca] 200)).cell? ⟨L.heap.size,1,none⟩=some (.bool true):=by rw[akG];rfl
 have k2:(L.alloc (.cells #[.int .i64 (p:Int),.bool true,.slice Z l.length ca] 200)).cell? ⟨L.heap.size,2,none⟩=some (.slice Z l.length ca):=by rw[akG];rfl
 have kf:∀o,(L.alloc (.cells #[.int .i64 (p:Int),.bool true,.slice Z l.length ca] 200)).frozen? ⟨L.heap.size,o,none⟩=false:=fun o=>by simp
 clear b5 b6;go_wp2_with fail
 obtain⟨z,d3⟩:∃z,L.heap.size=z:=⟨_,rfl⟩;rw[d3]at k0 k1 k2 kf⊢;refine(e6.out _ b7).mono ?_;rintro e w2 ⟨rfl,G⟩;have J:=G.keeps J;have r1:=G.keeps r1;have r2:=G.keeps r2;have k0:=G.keeps k0;have k1:=G.keeps k1;have k2:=G.keeps k2;have e7:=Y.gr (b7.trans G);have b0:=a9.trans G;have b8:=ye WB w2 _ l K e7 c9 b0.size (by omega);rw[hR]at b8;have e8:=akF b8;clear b8;have a6:=BE (List.eraseIdx_sublist l K) ⟨c8,U⟩;rw[hR]at a6;have d9:z<w2.heap.size:=ad k0;have a2:¬((akO Z l.length ca).ownBlock=some z):=fun e=>by
  have:=ba Y _ e;omega
 have a4:¬((akO Z l.length ca).ownBlock=some RB):=fun e=>by
  have:=aP Y _ e;have:=V.out;omega
 have i4:WB.heap.size<=z:=by
  have:=d2.size;omega
 have b9:=a8.out.trans b0;go_wp2_with(refine e8.out.mono ?_;rintro e w3 ⟨v3,rfl,d4,B,c0⟩;obtain⟨O,Q,rfl⟩:=d4.form;(have J:=B.keeps a4 J);(have r1:=B.keeps a4 r1);(have r2:=B.keeps a4 r2);(have k0:=B.keeps a2 k0);(have k1:=B.keeps a2 k1);(have k2:=B.keeps a2 k2);(have kz:w3.frozen? ⟨z,2,none⟩=false:=by(rw[B.frozen 2 d9 a2,G.frozen 2 (by rw[<-d3];simp)];exact kf 2)))
 have gS:ag (fun b=>b=z) w3 (w3.setCell ⟨z,2,none⟩ (.slice O R.length Q)):=ag.setCell (S:=fun b=>b=z) (p:=⟨z,2,none⟩) w3 _ rfl;have e9:∀b,(akO O R.length Q).ownBlock=some b->¬b=z:=fun b U e=>a2 (by rw[<-c0,U,e]);have g0:∀b,(akO O R.length Q).ownBlock=some b->¬b=RB:=fun b U e=>a4 (by rw[<-c0,U,e]);have I:∀b,(akO Z l.length ca).ownBlock=some b->WB.heap.size<=b:=fun b U=>aP Y b U;have i5:=a8.out.size;have g3:=h.lt;have c1:=(d4.aC gS e9).back a8.out;have c2:¬PB=z/\¬DB=z/\¬M=z:=by omega
 have d5:=((h.gr b9).aC B (fun e=>by have:=I _ e;omega) (fun e=>by have:=I _ e;omega) (fun e=>by have:=I _ e;omega)).aC gS c2.1 c2.2.1 c2.2.2;have i6:=ad ht.p;have g4:=((ht.gr b9).aC B (fun e=>by have:=I _ e;omega)).aC gS (by omega);have d6:=((aM.ak PB DB M b9).own B (fun j e=>by have:=I _ e;omega)).own gS (fun j e=>by omega);have b1:RB≠z:=by
  have:=V.out;omega
 have J:=gS.keeps b1 J;have r1:=gS.keeps b1 r1;have r2:=gS.keeps b1 r2;have g5:(w3.setCell ⟨z,2,none⟩ (.slice O R.length Q)).cell? ⟨z,0,none⟩=some (.int .i64 (p:Int)):=by
  rw[akH _ _ _ _ (by simp)];exact k0
 have g6:(w3.setCell ⟨z,2,none⟩ (.slice O R.length Q)).cell? ⟨z,1,none⟩=some (.bool true):=by
  rw[akH _ _ _ _ (by simp)];exact k1
 have g7:=akJ w3 ⟨z,2,none⟩ (.slice O R.length Q) k2;have g8:∀o,(w3.setCell ⟨z,2,none⟩ (.slice O R.length Q)).frozen? ⟨RB,o,none⟩=false:=fun o=>by
  have:=V.out;have:=b0.size;have:=B.2.2.2.1;rw[gS.frozen o (by omega) b1,B.frozen o (by omega) a4,b0.frozen o V.out];exact rf o
 have e0:RB<(w3.setCell ⟨z,2,none⟩ (.slice O R.length Q)).heap.size:=ad J;generalize w3.setCell ⟨z,2,none⟩ (.slice O R.length Q)=w4 at*;have d7:=fun W (g:Gr w4 W)=>mg (d5.gr g) (g4.gr g) (c1.qn.gr g) a6.1 a6.2 hp.1;have d8:=akF d7;have g9:=akF d6;have h0:=akF c1;unfold aU at d8;clear d7 d6 d5 c1 gS B;have D:RB≠PB/\RB≠DB/\RB≠M:=by omega
 have H:z≠PB/\z≠DB/\z≠M:=by omega
 have h1:∀(w5:World) (o:Nat),aM PB DB M M w4 w5->w5.frozen? ⟨RB,o,none⟩=false:=fun w5 o f5=>(f5.2.frozen o e0 (fun e=>e.elim D.1 fun e=>e.elim D.2.1 D.2.2)).trans (g8 o);have c4:=akF h1;go_region_with(go_at_call 200;refine(d8.out _ ?_).mono ?_;(with_reducible exact(Gr.refl _).drew);rintro e w5 ⟨rfl,h2,h3⟩;(have q:=(aM.ak PB DB M (Gr.refl w4).drew).trans h3);(have J:=q.keeps D.1 D.2.1 D.2.2 J);(have r1:=q.keeps D.1 D.2.1 D.2.2 r1);(have r2:=q.keeps D.1 D.2.1 D.2.2 r2);(have x0:=c4.out _ 0 q);(have x1:=c4.out _ 1 q);(have x2:=c4.out _ 2 q);(have q0:=q.keeps H.1 H.2.1 H.2.2 g5);(have q1:=q.keeps H.1 H.2.1 H.2.2 g6);(have q2:=q.keeps H.1 H.2.1 H.2.2 g7))
 all_goals
  have y:=akF (lI (v0:=.int .i64 (p:Int)) (v1:=.bool true) (v2:=.slice O R.length Q) J r1 r2);have tn:=akF (CC (RB:=RB) (Nat.le_of_eq e5.out) (g9.out.trans q) h2 (h0.out.aC q.2 (fun b U e=>by have:=I b (by rw[<-c0];exact U);omega)) g0 g3 (.int .i64 (p:Int)) (.bool true) (.slice O R.length Q));go_wp2_with fail
  obtain⟨y0,y1,y2⟩:=y.out;have c5:=tn.out;generalize(((w5.setCell ⟨RB,0,none⟩ (.int .i64 (p:Int))).setCell ⟨RB,1,none⟩ (.bool true)).setCell ⟨RB,2,none⟩ (.slice O R.length Q))=w9 at*;refine bodyPost_ret (v:=.tuple #[.agg #[.int .i64 (p:Int),.bool true,.slice O R.length Q],.nilIface]) (by simp[results,Tryz.results203,go_sem,y0,y1,y2]) rfl ⟨_,rfl,c5.1,c5.2.1,c5.2.2⟩
end
