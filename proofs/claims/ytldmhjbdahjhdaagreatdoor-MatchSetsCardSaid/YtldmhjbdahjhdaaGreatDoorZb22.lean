/-
  Part 22 of the proof.
-/
import Derived.Test.YtldmhjbdahjhdaaGreatDoorZb20
open List renaming length_append->asU,cons_append->asX,length_cons->asY,mem_singleton->asZ,takeWhile_cons->as0,take_succ_eq_append_getElem->as3,eq_nil_of_length_eq_zero->as6,mem_cons_of_mem->as7,length_map->as8,mem_cons_self->as_,getElem_concat_length->ata,pairwise_iff_getElem->atb,length_drop->atc,take_of_length_le->atf,mem_append_right->atg,dropWhile_cons->ath,length_take->atm,getElem_map->atn,length_nil->atq,mem_append->atr,drop_zero->att
open Go.Proofs.Tryz renaming prog->asV,func54->atw
open Go.Lib renaming hid->asW,frozen_of_heap->ati
open Nat renaming le_refl->as1,zero_add->atl,zero_le->atp
open Option renaming map_eq_some_iff->as2
open Go.World renaming cell?_alloc_new->as4
open Go.Sort renaming ahead->as5,putRowK->ate,alloc_eq_grow->atj,mapBlock->ats,grow->atu
open Array renaming length_toList->as9,ext'->atA
open Go.IntKind renaming wrap_i64->atd,i64->ato
open Option.some renaming injEq->atk,inj->atC
open Go.World.ownsRow renaming stored->atv,cells->atz
open Go.Sort.HoldsK renaming cell->atx
open Go.Value renaming slice->aty
open List.Pairwise renaming nil->atB
set_option maxRecDepth 100000
set_option maxHeartbeats 100000000
set_option linter.all false
namespace Go.Proofs.YtldmhjbdahjhdaaGreatDoor
section
open Go Go.RowKit
theorem AN:∀(n m:Nat) (l:List UInt8),l.length<=n->l.length<=m->bB n l=bB m l:=by
 intro n
 induction n with
 |zero=>
  intro m l s b;have:l=[]:=as6 (by omega);subst this;cases m<;>rfl
 |succ n q=>
  intro m l s b;cases l with
  |nil=>cases m<;>rfl
  |cons c r=>
   cases m with
   |zero=>simp at b
   |succ m=>
    simp only[asY]at s b;have y:bB n r=bB m r:=q m r (by omega) (by omega);have z:bB n (r.drop ((r.takeWhile (·!=34)).length+1))=bB m (r.drop ((r.takeWhile (·!=34)).length+1)):=q m _ (by rw[atc];omega) (by rw[atc];omega);have B:bt c=false->bB n ((c::r).dropWhile (fun x=>!bt x))=bB m ((c::r).dropWhile (fun x=>!bt x)):=fun hc=>by
     have D:(c::r).dropWhile (fun x=>!bt x)=r.dropWhile (fun x=>!bt x):=by simp[hc]
     have H:=su (fun x=>!bt x) r;rw[D];exact q m _ (by omega) (by omega)
    simp only[bB]
    split
    ·exact y
    ·split
     ·split
      ·rfl
      ·rw[z]
     ·split
      ·rw[y]
      ·rename_i G
       rw[B (by simpa using G)]
theorem xB{b:Type}(p:b->Bool)(c:b)(hc:p c=false)(r:List b):∀l:List b,(l++c::r).takeWhile p=l.takeWhile p/\(l++c::r).dropWhile p=l.dropWhile p++c::r
 |[]=>by simp[hc]
 |a::l=>by
  have q:=xB p c hc r l;rw[asX,as0,ath,as0,ath];cases p a
  ·simp
  ·simp[q.1,q.2]
theorem DQ{b:Type}(p:b->Bool)(s:List b):∀l:List b,l.all p=false->(l++s).takeWhile p=l.takeWhile p/\(l++s).drop ((l.takeWhile p).length+1)=l.drop ((l.takeWhile p).length+1)++s/\(l++s).all p=false
 |[],h=>by simp at h
 |a::l,h=>by
  rw[asX,as0,as0];cases ha:p a
  ·simp[ha]
  ·have q:l.all p=false:=by simpa[ha]using h
   have y:=DQ p s l q;simp[y.1,y.2.1,q]
def fA(l:List UInt8):Option (List ByteArray):=bB l.length l
theorem AO{c:UInt8}(r:List UInt8)(h:bt c=true)(b:¬c=32)(q:¬c=34):fA (c::r)=(fA r).map (iX [c]::·):=xA r.length r h b q
theorem DS(x:Option (List ByteArray)):x.map (([]:List ByteArray)++·)=x:=by cases x<;>rfl
theorem map_cons(p:ByteArray)(b:List ByteArray)(x:Option (List ByteArray)):(x.map (b++·)).map (p::·)=x.map ((p::b)++·):=by cases x<;>rfl
theorem Ir(c:UInt8)(hc:bt c=true)(r:List UInt8):∀(n:Nat) (l:List UInt8) (z:List ByteArray),bB n l=some z->∀m,(l++c::r).length<=m->bB m (l++c::r)=(bB m (c::r)).map (z++·):=by
 intro n
 induction n with
 |zero=>
  intro l z h m H;cases l with
  |nil=>
   simp only[bB,atk]at h;subst h;rw[DS]
   rfl
  |cons a t=>simp[bB]at h
 |succ n B=>
  intro l z h m H;cases l with
  |nil=>
   simp only[bB,atk]at h;subst h;rw[DS]
   rfl
  |cons a t=>
   cases m with
   |zero=>simp at H
   |succ m=>
    simp only[asX,asY,asU]at H;have J:bB (m+1) (c::r)=bB m (c::r):=AN _ _ _ (by simp;omega) (by simp;omega);rw[J];simp only[bB]at h;rw[asX];by_cases b:a=32
    ·rw[if_pos b]at h;subst b;rw[AK];exact B _ _ h m (by simp;omega)
    ·rw[if_neg b]at h;by_cases q:a=34
     ·rw[if_pos q]at h;subst q
      split at h
      ·cases h
      ·rename_i s
       have s:t.all (·!=34)=false:=by simpa using s
       obtain⟨D,G,L⟩:=DQ (·!=34) (c::r) t s;obtain⟨I,y,rfl⟩:=as2.1 h;rw[uZ m _ L,D,G,B _ _ y m (by rw[asU,atc];simp;omega),map_cons]
     ·rw[if_neg q]at h
      split at h
      ·rename_i hs
       obtain⟨I,y,rfl⟩:=as2.1 h;rw[xA m _ hs b q,B _ _ y m (by simp;omega),map_cons]
      ·rename_i hs
       have hs:bt a=false:=by simpa using hs
       obtain⟨I,y,rfl⟩:=as2.1 h;obtain⟨D,G⟩:=xB (fun x=>!bt x) c (by simp[hc]) r (a::t);have M:(a::t).dropWhile (fun x=>!bt x)=t.dropWhile (fun x=>!bt x):=by simp[hs]
       have O:=su (fun x=>!bt x) t;rw[asX]at D G;rw[DN m hs,D,G,B _ _ y m (by rw[M,asU];simp;omega),map_cons]
theorem jo{c:UInt8}(hc:bt c=true)(r:List UInt8){l:List UInt8}{b:List ByteArray}(h:fA l=some b):fA (l++c::r)=(fA (c::r)).map (b++·):=by
 unfold fA at*;rw[Ir c hc r _ _ _ h _ (as1 _)];rw[AN (l++c::r).length (c::r).length (c::r) (by simp) (as1 _)]
def jE(a q b:List UInt8):List UInt8:=40::(a++41::(q++40::(b++[41])))
def sx(pa ts pb:List ByteArray):List ByteArray:=aQ::(pa++az::(ts++aQ::(pb++[az])))
theorem nR(r:List UInt8):fA (40::r)=(fA r).map (aQ::·):=AO r (by decide) (by decide) (by decide)
theorem nS(r:List UInt8):fA (41::r)=(fA r).map (az::·):=AO r (by decide) (by decide) (by decide)
theorem DT{a q b:List UInt8}{pa ts pb:List ByteArray}(ha:fA a=some pa)(hs:fA q=some ts)(s:fA b=some pb):fA (jE a q b)=some (sx pa ts pb):=by
 unfold jE;rw[nR,jo (by decide) _ ha,nS,jo (by decide) _ hs,nR,jo (by decide) _ s,nS]
 rfl
theorem KQ{a q b:List UInt8}{pa ts pb:List ByteArray}(ha:fA a=some pa)(hs:fA q=some ts)(s:fA b=some pb):fA (40::(40::(a++41::(q++40::(b++[41,41])))))=some (aQ::aQ::(pa++az::(ts++aQ::(pb++[az,az])))):=by
 rw[nR,nR,jo (by decide) _ ha,nS,jo (by decide) _ hs,nR,jo (by decide) _ s,nS,nS]
 rfl
def pJ(f g:List ByteArray->Rd):Prop:=∀l q r,f l=.ok q r->g l=.ok q r
def KR(f:List ByteArray->Rd)(l:List ByteArray)(q:Qy)(r:List ByteArray):Prop:=f l=.ok q r/\∀t,f (l++az::t)=.ok q (r++az::t)
def DU(f:List ByteArray->Rd)(l:List ByteArray):Prop:=(∃n,f l=.bad n)/\∀t,∃n,f (l++az::t)=.bad n
def lM(f g:List ByteArray->Rd):Prop:=∀l q r,g l=.ok q r->KR f l q r\/DU f l
theorem fe{f:List ByteArray->Rd}{n:Nat}{q:Qy}{l:List ByteArray}(h:fy (aS l)):e_ f n q l=.ok q l:=by
 cases n<;>(unfold e_;rw[if_pos h])
theorem dY{f:List ByteArray->Rd}{n:Nat}{q:Qy}{l:List ByteArray}(h:¬fy (aS l)):e_ f (n+1) q l=match f (if aS l=ez\/aS l=fp then l.tail else l)with
  | .bad m=>.bad m
  | .ok b r=>e_ f n (.node (if aS l=ez then 6 else 4) q b) r:=by
 rw[e_,if_neg h]
 rfl
theorem gD{f:List ByteArray->Rd}{n:Nat}{q:Qy}{l:List ByteArray}(h:¬aS l=k_):fq f n q l=.ok q l:=by
 cases n<;>(unfold fq;rw[if_neg h])
theorem gG{f:List ByteArray->Rd}{n:Nat}{q:Qy}{l:List ByteArray}(h:aS l=k_):fq f (n+1) q l=match f l.tail with
  | .bad m=>.bad m
  | .ok b r=>fq f n (.node 5 q b) r:=by
 rw[fq,if_pos h]
 rfl
theorem u_:fy gC:=.inl rfl
theorem KT:fy az:=.inr (.inl rfl)
theorem KU{f g:List ByteArray->Rd}(h:pJ f g):∀n q l b r,e_ f n q l=.ok b r->e_ g n q l=.ok b r:=by
 intro n
 induction n with
 |zero=>
  intro q l b r hf;by_cases hs:fy (aS l)
  ·rw[fe hs]at hf⊢;exact hf
  ·unfold e_ at hf;rw[if_neg hs]at hf;cases hf
 |succ n s=>
  intro q l b r hf;by_cases hs:fy (aS l)
  ·rw[fe hs]at hf⊢;exact hf
  ·rw[dY hs]at hf⊢
   revert hf;cases y:f (if aS l=ez\/aS l=fp then l.tail else l)with
   |bad m=>intro hf;cases hf
   |ok z r1=>
    intro hf;rw[h _ _ _ y];exact s _ _ _ _ hf
theorem AP{f g:List ByteArray->Rd}(h:pJ f g):pJ (iB f) (iB g):=by
 intro l q r hf;unfold iB at hf⊢;cases b:f l with
 |bad m=>rw[b]at hf;cases hf
 |ok s r1=>
  rw[b]at hf;rw[h _ _ _ b];exact KU h _ _ _ _ _ hf
theorem KV{f g:List ByteArray->Rd}(h:pJ f g):∀n q l b r,fq f n q l=.ok b r->fq g n q l=.ok b r:=by
 intro n
 induction n with
 |zero=>
  intro q l b r hf;by_cases hs:aS l=k_
  ·unfold fq at hf;rw[if_pos hs]at hf;cases hf
  ·rw[gD hs]at hf⊢;exact hf
 |succ n s=>
  intro q l b r hf;by_cases hs:aS l=k_
  ·rw[gG hs]at hf⊢
   revert hf;cases y:f l.tail with
   |bad m=>intro hf;cases hf
   |ok z r1=>
    intro hf;rw[h _ _ _ y];exact s _ _ _ _ hf
  ·rw[gD hs]at hf⊢;exact hf
theorem AQ{f g:List ByteArray->Rd}(h:pJ f g):pJ (iC f) (iC g):=by
 intro l q r hf;unfold iC at hf⊢;cases b:f l with
 |bad m=>rw[b]at hf;cases hf
 |ok s r1=>
  rw[b]at hf;rw[h _ _ _ b];exact KV h _ _ _ _ _ hf
def vd(a:ByteArray):Prop:=a=gC\/a=az\/a=kG\/a=fp\/a=k_\/a=ez\/a=nO
theorem Is{f:List ByteArray->Rd}{a:ByteArray}{l:List ByteArray}(h:vd a):jJ f (a::l)=.bad 3:=by
 unfold jJ;exact if_pos h
theorem QL:¬vd aQ:=by unfold vd;decide
theorem ie{f:List ByteArray->Rd}{l:List ByteArray}:jJ f (aQ::l)=match f l with
  | .bad n=>.bad n
  | .ok q r=>if aS r=az then .ok q r.tail else .bad 3:=by
 unfold jJ;exact(if_neg QL).trans (if_pos rfl)
def It(a:ByteArray)(l:List ByteArray):Rd:=
 if fT a=34 then(if aB (iX a.data.toList.tail)=[]then .bad 3 else .ok (.leaf 1 (aB (iX a.data.toList.tail)) 0) l)
 else if aS l=kG then
  (if(cX a).data.toList.all lL=true/\a.size<=12 then .ok (.leaf 2 [cX a] 0) l.tail else .bad 3)
 else
  match aB a with
  |[x]=>
   if aS l=nO then
    (if aS l.tail=gC\/gY (fT (aS l.tail))=true then .bad 3
     else match aB (aS l.tail)with
      |[b]=>.ok (.leaf 3 [x,b] 3) l.tail.tail
      |_=>.bad 3)
   else .ok (.leaf 1 [x] 0) l
  |_=>.bad 3
theorem nT{f:List ByteArray->Rd}{a:ByteArray}{l:List ByteArray}(b:¬vd a)(q:¬a=aQ):jJ f (a::l)=It a l:=by
 unfold jJ;exact(if_neg b).trans (if_neg q)
theorem KW{f g:List ByteArray->Rd}(h:pJ f g):pJ (jJ f) (jJ g):=by
 intro l q r hf;cases l with
 |nil=>cases hf
 |cons a l=>
  by_cases b:vd a
  ·rw[Is b]at hf;cases hf
  ·by_cases s:a=aQ
   ·subst s;rw[ie]at hf⊢
    revert hf;cases y:f l with
    |bad m=>intro hf;cases hf
    |ok z r1=>
     intro hf;rw[h _ _ _ y];exact hf
   ·rw[nT b s]at hf⊢;exact hf
theorem DV:∀k d,pJ (jb k) (jb (k+d))
 |0,d=>fun l q r h=>by cases h
 |k+1,d=>by
  rw[show k+1+d=(k+d)+1 by omega];exact KW (AQ (AP (DV k d)))
theorem Og(k d:Nat):pJ (dX k) (dX (k+d)):=AQ (AP (DV k d))
theorem pY{l:List ByteArray}(h:aS l≠gC)(s:List ByteArray):aS (l++s)=aS l/\(l++s).tail=l.tail++s:=by
 obtain⟨a,t,rfl,_⟩:=jc h;exact⟨rfl,rfl⟩
theorem Iu(l t:List ByteArray):(l=[]/\aS (l++az::t)=az)\/aS (l++az::t)=aS l:=by
 cases l with
 |nil=>exact .inl ⟨rfl,rfl⟩
 |cons a l=>exact .inr rfl
theorem Ak{x:ByteArray}(b:x≠az){l:List ByteArray}(h:¬aS l=x)(t:List ByteArray):¬aS (l++az::t)=x:=by
 rcases Iu l t with⟨_,e⟩|e
 ·rw[e];exact fun e=>b e.symm
 ·rw[e];exact h
theorem AR{l:List ByteArray}(h:fy (aS l))(t:List ByteArray):fy (aS (l++az::t)):=by
 rcases Iu l t with⟨_,e⟩|e
 ·rw[e];exact KT
 ·rw[e];exact h
theorem Um{l:List ByteArray}(h:¬fy (aS l)):aS l≠gC:=fun e=>h (by rw[e];exact u_)
theorem Iv{f g:List ByteArray->Rd}(h:lM f g):∀n q l z r,e_ g n q l=.ok z r->
  (∀m,n<=m->e_ f m q l=.ok z r/\∀t,e_ f m q (l++az::t)=.ok z (r++az::t))\/∀m,n<=m->(∃k,e_ f m q l=.bad k)/\∀t,∃k,e_ f m q (l++az::t)=.bad k:=by
 intro n
 induction n with
 |zero=>
  intro q l z r s;by_cases hs:fy (aS l)
  ·rw[fe hs]at s;cases s;exact .inl fun m _=>⟨fe hs,fun t=>fe (AR hs t)⟩
  ·unfold e_ at s;rw[if_neg hs]at s;cases s
 |succ n V=>
  intro q l z r s;by_cases hs:fy (aS l)
  ·rw[fe hs]at s;cases s;exact .inl fun m _=>⟨fe hs,fun t=>fe (AR hs t)⟩
  ·rw[dY hs]at s;have G:=fun t=>pY (Um hs) (az::t);have B:∀t,¬fy (aS (l++az::t)):=fun t=>by rw[(G t).1];exact hs
   obtain⟨I,y⟩:∃I,(if aS l=ez\/aS l=fp then l.tail else l)=I:=⟨_,rfl⟩;have D:∀t,(if aS (l++az::t)=ez\/aS (l++az::t)=fp then(l++az::t).tail else l++az::t)=I++az::t:=fun t=>by
    rw[(G t).1,(G t).2,<-y]
    split<;>rfl
   rw[y]at s;cases O:g I with
   |bad k=>rw[O]at s;cases s
   |ok Y r1=>
    rw[O]at s;have U:e_ g n (.node (if aS l=ez then 6 else 4) q Y) r1=.ok z r:=s;rcases h _ _ _ O with⟨J,L⟩|⟨⟨Z,J⟩,L⟩
    ·rcases V _ _ _ _ U with b|b
     ·refine .inl fun m M=>?_;obtain⟨m,rfl⟩:∃H,m=H+1:=⟨m-1,by omega⟩;obtain⟨Q,S⟩:=b m (by omega);refine⟨?_,fun t=>?_⟩
      ·rw[dY hs,y,J];exact Q
      ·rw[dY (B t),D t,L t,(G t).1];exact S t
     ·refine .inr fun m M=>?_;obtain⟨m,rfl⟩:∃H,m=H+1:=⟨m-1,by omega⟩;obtain⟨Q,S⟩:=b m (by omega);refine⟨?_,fun t=>?_⟩
      ·rw[dY hs,y,J];exact Q
      ·rw[dY (B t),D t,L t,(G t).1];exact S t
    ·refine .inr fun m M=>?_;obtain⟨m,rfl⟩:∃H,m=H+1:=⟨m-1,by omega⟩;refine⟨⟨Z,?_⟩,fun t=>?_⟩
     ·rw[dY hs,y,J]
     ·obtain⟨k2,a3⟩:=L t;exact⟨k2,by rw[dY (B t),D t,a3]⟩
theorem yK{f g:List ByteArray->Rd}(h:lM f g):lM (iB f) (iB g):=by
 intro l q r s;unfold iB at s;cases B:g l with
 |bad k=>rw[B]at s;cases s
 |ok G r1=>
  rw[B]at s;have D:e_ g r1.length G r1=.ok q r:=s;rcases h _ _ _ B with⟨y,z⟩|⟨⟨H,y⟩,z⟩
  ·rcases Iv h _ _ _ _ _ D with b|b
   ·refine .inl ⟨?_,fun t=>?_⟩
    ·unfold iB;rw[y];exact(b r1.length (as1 _)).1
    ·unfold iB;rw[z t];exact(b (r1++az::t).length (by simp)).2 t
   ·refine .inr ⟨?_,fun t=>?_⟩
    ·unfold iB;rw[y];exact(b r1.length (as1 _)).1
    ·unfold iB;rw[z t];exact(b (r1++az::t).length (by simp)).2 t
  ·refine .inr ⟨⟨H,?_⟩,fun t=>?_⟩
   ·unfold iB;rw[y]
   ·obtain⟨I,J⟩:=z t;exact⟨I,by unfold iB;rw[J]⟩
theorem Iw{f g:List ByteArray->Rd}(h:lM f g):∀n q l y r,fq g n q l=.ok y r->
  (∀m,n<=m->fq f m q l=.ok y r/\∀t,fq f m q (l++az::t)=.ok y (r++az::t))\/∀m,n<=m->(∃k,fq f m q l=.bad k)/\∀t,∃k,fq f m q (l++az::t)=.bad k:=by
 intro n
 induction n with
 |zero=>
  intro q l y r s;by_cases hs:aS l=k_
  ·unfold fq at s;rw[if_pos hs]at s;cases s
  ·rw[gD hs]at s;cases s;exact .inl fun m _=>⟨gD hs,fun t=>gD (Ak (by decide) hs t)⟩
 |succ n Q=>
  intro q l y r s;by_cases hs:aS l=k_
  ·rw[gG hs]at s;have D:=fun t=>pY (l:=l) (by rw[hs];decide) (az::t);have z:∀t,aS (l++az::t)=k_:=fun t=>by rw[(D t).1];exact hs
   cases J:g l.tail with
   |bad k=>rw[J]at s;cases s
   |ok S r1=>
    rw[J]at s;have O:fq g n (.node 5 q S) r1=.ok y r:=s;rcases h _ _ _ J with⟨G,H⟩|⟨⟨U,G⟩,H⟩
    ·rcases Q _ _ _ _ O with b|b
     ·refine .inl fun m I=>?_;obtain⟨m,rfl⟩:∃B,m=B+1:=⟨m-1,by omega⟩;obtain⟨L,M⟩:=b m (by omega);refine⟨?_,fun t=>?_⟩
      ·rw[gG hs,G];exact L
      ·rw[gG (z t),(D t).2,H t];exact M t
     ·refine .inr fun m I=>?_;obtain⟨m,rfl⟩:∃B,m=B+1:=⟨m-1,by omega⟩;obtain⟨L,M⟩:=b m (by omega);refine⟨?_,fun t=>?_⟩
      ·rw[gG hs,G];exact L
      ·rw[gG (z t),(D t).2,H t];exact M t
    ·refine .inr fun m I=>?_;obtain⟨m,rfl⟩:∃B,m=B+1:=⟨m-1,by omega⟩;refine⟨⟨U,?_⟩,fun t=>?_⟩
     ·rw[gG hs,G]
     ·obtain⟨V,Y⟩:=H t;exact⟨V,by rw[gG (z t),(D t).2,Y]⟩
  ·rw[gD hs]at s;cases s;exact .inl fun m _=>⟨gD hs,fun t=>gD (Ak (by decide) hs t)⟩
theorem yL{f g:List ByteArray->Rd}(h:lM f g):lM (iC f) (iC g):=by
 intro l q r s;unfold iC at s;cases B:g l with
 |bad k=>rw[B]at s;cases s
 |ok G r1=>
  rw[B]at s;have D:fq g r1.length G r1=.ok q r:=s;rcases h _ _ _ B with⟨y,z⟩|⟨⟨H,y⟩,z⟩
  ·rcases Iw h _ _ _ _ _ D with b|b
   ·refine .inl ⟨?_,fun t=>?_⟩
    ·unfold iC;rw[y];exact(b r1.length (as1 _)).1
    ·unfold iC;rw[z t];exact(b (r1++az::t).length (by simp)).2 t
   ·refine .inr ⟨?_,fun t=>?_⟩
    ·unfold iC;rw[y];exact(b r1.length (as1 _)).1
    ·unfold iC;rw[z t];exact(b (r1++az::t).length (by simp)).2 t
  ·refine .inr ⟨⟨H,?_⟩,fun t=>?_⟩
   ·unfold iC;rw[y]
   ·obtain⟨I,J⟩:=z t;exact⟨I,by unfold iC;rw[J]⟩
theorem KX{a:ByteArray}{l:List ByteArray}{q:Qy}{r:List ByteArray}(h:It a l=.ok q r)(t:List ByteArray):It a (l++az::t)=.ok q (r++az::t):=by
 unfold It at h⊢;by_cases D:fT a=34
 ·rw[if_pos D]at h⊢
  split at h
  ·cases h
  ·rename_i z
   cases h;rw[if_neg z]
 ·rw[if_neg D]at h⊢;by_cases s:aS l=kG
  ·have B:=pY (l:=l) (by rw[s];decide) (az::t);rw[if_pos s]at h;rw[B.1,B.2,if_pos s]
   split at h
   ·rename_i z
    cases h;rw[if_pos z]
   ·cases h
  ·rw[if_neg s]at h;rw[if_neg (Ak (by decide) s t)]
   split at h
   ·rename_i x H
    by_cases y:aS l=nO
    ·have B:=pY (l:=l) (by rw[y];decide) (az::t);rw[if_pos y]at h;rw[B.1,B.2,if_pos y]
     split at h
     ·cases h
     ·rename_i z
      have G:=pY (l:=l.tail) (fun e=>z (.inl e)) (az::t);rw[G.1,G.2,if_neg z]
      split at h
      ·rename_i b I
       cases h
       rfl
      ·cases h
    ·rw[if_neg y]at h;cases h;rw[if_neg (Ak (by decide) y t)]
   ·cases h
theorem Ix{f g:List ByteArray->Rd}(h:lM f g):lM (jJ f) (jJ g):=by
 intro l q r b;cases l with
 |nil=>cases b
 |cons a l=>
  by_cases y:vd a
  ·rw[Is y]at b;cases b
  ·by_cases z:a=aQ
   ·subst z;rw[ie]at b;cases B:g l with
    |bad k=>rw[B]at b;cases b
    |ok I r1=>
     rw[B]at b;have b:(if aS r1=az then Rd.ok I r1.tail else Rd.bad 3)=Rd.ok q r:=b
     split at b
     ·rename_i s
      cases b;rcases h _ _ _ B with⟨D,G⟩|⟨⟨J,D⟩,G⟩
      ·have H:=fun t=>pY (l:=r1) (by rw[s];decide) (az::t);refine .inl ⟨?_,fun t=>?_⟩
       ·rw[ie,D];exact if_pos s
       ·rw[asX,ie,G t];simp only[(H t).1,(H t).2];exact if_pos s
      ·refine .inr ⟨⟨J,by rw[ie,D]⟩,fun t=>?_⟩;obtain⟨L,M⟩:=G t;exact⟨L,by rw[asX,ie,M]⟩
     ·cases b
   ·rw[nT y z]at b;exact .inl ⟨by rw[nT y z];exact b,fun t=>by rw[asX,nT y z];exact KX b t⟩
theorem AS:∀k d,lM (jb k) (jb (k+d))
 |0,d=>fun l q r _=>.inr ⟨⟨4,rfl⟩,fun t=>⟨4,rfl⟩⟩
 |k+1,d=>by
  rw[show k+1+d=(k+d)+1 by omega];exact Ix (yL (yK (AS k d)))
theorem nU(k d:Nat):lM (dX k) (dX (k+d)):=yL (yK (AS k d))
theorem xC{k:Nat}{pa:List ByteArray}{qa:Qy}(h:KR (dX k) pa qa [])(X:List ByteArray):jb (k+1) (aQ::(pa++az::X))=.ok qa X:=by
 show jJ (dX k) _=_;rw[ie,h.2 X]
 rfl
theorem AT{k:Nat}{pa:List ByteArray}(h:DU (dX k) pa)(X:List ByteArray):∃n,jb (k+1) (aQ::(pa++az::X))=.bad n:=by
 obtain⟨n,hn⟩:=h.2 X;refine⟨n,?_⟩;show jJ (dX k) _=_;rw[ie,hn]
def DW(ts:List ByteArray)(kind:Int):Prop:=(ts=[fp]/\kind=4)\/(ts=[]/\kind=4)\/(ts=[ez]/\kind=6)\/(ts=[k_]/\kind=5)
theorem Iy(ts X:List ByteArray)(x:ByteArray):∃n,(ts++x::X).length=n+1:=⟨ts.length+X.length,by simp;omega⟩
theorem pZ{f:List ByteArray->Rd}{l r:List ByteArray}{q:Qy}(h:f l=.ok q r):iC f l=fq f r.length q r:=by
 unfold iC;rw[h]
theorem wm{f:List ByteArray->Rd}{l r:List ByteArray}{q:Qy}(h:f l=.ok q r):iB f l=e_ f r.length q r:=by
 unfold iB;rw[h]
theorem p_{f:List ByteArray->Rd}{l:List ByteArray}{n:Int}(h:f l=.bad n):iC f l=.bad n:=by
 unfold iC;rw[h]
theorem xD{f:List ByteArray->Rd}{l:List ByteArray}{n:Int}(h:f l=.bad n):iB f l=.bad n:=by
 unfold iB;rw[h]
theorem QM{k:Nat}{pa pb:List ByteArray}{qa s:Qy}(ha:KR (dX k) pa qa [])(G:KR (dX k) pb s []){ts:List ByteArray}{kind:Int}(hs:DW ts kind):dX (k+1) (sx pa ts pb)=.ok (.node kind qa s) []:=by
 have H:=xC ha (ts++aQ::(pb++[az]));have y:=xC G [];obtain⟨n,hn⟩:=Iy ts (pb++[az]) aQ;have z:lS (k+1) (sx pa ts pb)=e_ (jb (k+1)) (n+1) qa (ts++aQ::(pb++[az])):=by
  rw[<-hn];exact wm H
 have B:∀m q,e_ (jb (k+1)) m q []=.ok q []:=fun m q=>fe u_;have D:∀m q,fq (lS (k+1)) m q []=.ok q []:=fun m q=>gD (by decide);rcases hs with⟨rfl,rfl⟩|⟨rfl,rfl⟩|⟨rfl,rfl⟩|⟨rfl,rfl⟩
 ·have b:lS (k+1) (sx pa [fp] pb)=.ok (.node 4 qa s) []:=by
   rw[z,dY (by show¬fy fp;decide)];rw[if_pos (.inr rfl)];show(match jb (k+1) (aQ::(pb++[az]))with| .bad m=>Rd.bad m| .ok q' r=>_)=_;rw[y];exact B _ _
  exact(pZ b).trans (D _ _)
 ·have b:lS (k+1) (sx pa [] pb)=.ok (.node 4 qa s) []:=by
   rw[z,dY (by show¬fy aQ;decide)];have hc:¬(aS ([]++aQ::(pb++[az]))=ez\/aS ([]++aQ::(pb++[az]))=fp):=by
    show¬(aQ=ez\/aQ=fp)
    decide
   rw[if_neg hc];show(match jb (k+1) (aQ::(pb++[az]))with| .bad m=>Rd.bad m| .ok q' r=>_)=_;rw[y];exact B _ _
  exact(pZ b).trans (D _ _)
 ·have b:lS (k+1) (sx pa [ez] pb)=.ok (.node 6 qa s) []:=by
   rw[z,dY (by show¬fy ez;decide)];rw[if_pos (.inl rfl)];show(match jb (k+1) (aQ::(pb++[az]))with| .bad m=>Rd.bad m| .ok q' r=>_)=_;rw[y];exact B _ _
  exact(pZ b).trans (D _ _)
 ·have b:lS (k+1) (sx pa [k_] pb)=.ok qa (k_::aQ::(pb++[az])):=by
   rw[z];exact fe (.inr (.inr rfl))
  have I:lS (k+1) (aQ::(pb++[az]))=.ok s []:=(wm y).trans (B _ _);refine(pZ b).trans ?_;rw[asY,gG rfl];show(match lS (k+1) (aQ::(pb++[az]))with| .bad m=>Rd.bad m| .ok q' r=>_)=_;rw[I];exact D _ _
def FI(k:Nat)(pa pb:List ByteArray)(qa:Qy):Prop:=DU (dX k) pa\/(KR (dX k) pa qa []/\DU (dX k) pb)
theorem DX{k:Nat}{pa pb:List ByteArray}{qa:Qy}(h:FI k pa pb qa){ts:List ByteArray}{kind:Int}(hs:DW ts kind)(Y:List ByteArray):∃n,dX (k+1) (aQ::(pa++az::(ts++aQ::(pb++az::Y))))=.bad n:=by
 rcases h with h|⟨ha,s⟩
 ·obtain⟨n,hn⟩:=AT h (ts++aQ::(pb++az::Y));exact⟨n,p_ (xD hn)⟩
 ·have y:=xC ha (ts++aQ::(pb++az::Y));obtain⟨e,b⟩:=AT s Y;refine⟨e,?_⟩;obtain⟨n,hn⟩:=Iy ts (pb++az::Y) aQ;have q:lS (k+1) (aQ::(pa++az::(ts++aQ::(pb++az::Y))))=e_ (jb (k+1)) (n+1) qa (ts++aQ::(pb++az::Y)):=by
   rw[<-hn];exact wm y
  rcases hs with⟨rfl,rfl⟩|⟨rfl,rfl⟩|⟨rfl,rfl⟩|⟨rfl,rfl⟩
  ·refine p_ (q.trans ?_);rw[dY (by show¬fy fp;decide)];rw[if_pos (.inr rfl)];show(match jb (k+1) (aQ::(pb++az::Y))with| .bad m=>Rd.bad m| .ok q' r=>_)=_;rw[b]
  ·refine p_ (q.trans ?_);rw[dY (by show¬fy aQ;decide)];have hc:¬(aS ([]++aQ::(pb++az::Y))=ez\/aS ([]++aQ::(pb++az::Y))=fp):=by
    show¬(aQ=ez\/aQ=fp)
    decide
   rw[if_neg hc];show(match jb (k+1) (aQ::(pb++az::Y))with| .bad m=>Rd.bad m| .ok q' r=>_)=_;rw[b]
  ·refine p_ (q.trans ?_);rw[dY (by show¬fy ez;decide)];rw[if_pos (.inl rfl)];show(match jb (k+1) (aQ::(pb++az::Y))with| .bad m=>Rd.bad m| .ok q' r=>_)=_;rw[b]
  ·have z:lS (k+1) (aQ::(pa++az::([k_]++aQ::(pb++az::Y))))=.ok qa (k_::aQ::(pb++az::Y)):=by
    rw[q];exact fe (.inr (.inr rfl))
   refine(pZ z).trans ?_;rw[asY,gG rfl];show(match lS (k+1) (aQ::(pb++az::Y))with| .bad m=>Rd.bad m| .ok q' r=>_)=_;rw[show lS (k+1) (aQ::(pb++az::Y))=.bad e from xD b]
def Iz(l:List ByteArray):Option Qy×Int:=match dX 13 l with
 | .bad n=>(none,n)
 | .ok q r=>if r=[]then(some q,0)else(none,3)
theorem tJ{s:ByteArray}{l:List ByteArray}(h:fA s.data.toList=some l):fH s=Iz l:=by
 unfold fH;rw[show bB s.size s.data.toList=some l by rw[size_data];exact h]
 rfl
theorem AU{s:ByteArray}{q:Qy}{n:Int}(h:fH s=(some q,n)):∃l,fA s.data.toList=some l/\dX 13 l=.ok q []:=by
 unfold fH at h;rw[size_data]at h;cases hc:bB s.data.toList.length s.data.toList with
 |none=>rw[hc]at h;cases h
 |some l=>
  rw[hc]at h;refine⟨l,hc,?_⟩
  revert h;simp only;cases dX 13 l with
  |bad m=>intro h;cases h
  |ok b r=>
   simp only;intro h
   split at h
   ·rename_i e
    cases h;rw[e]
   ·cases h
theorem Oh{a b:ByteArray}{qa I:Qy}{na nb:Int}(ha:fH a=(some qa,na))(O:fH b=(some I,nb)):
  ((∀(q:List UInt8) (ts:List ByteArray) (kind:Int) (s:ByteArray),fA q=some ts->DW ts kind->s.data.toList=jE a.data.toList q b.data.toList->fH s=(some (.node kind qa I),0))/\
   ∀s:ByteArray,s.data.toList=jE b.data.toList [32] a.data.toList->fH s=(some (.node 4 I qa),0))\/
  ((∀(q:List UInt8) (ts:List ByteArray) (kind:Int) (s:ByteArray),fA q=some ts->DW ts kind->s.data.toList=jE a.data.toList q b.data.toList->∃n,fH s=(none,n))/\
   (∀s:ByteArray,s.data.toList=jE b.data.toList [32] a.data.toList->∃n,fH s=(none,n))/\
   ∀s:ByteArray,s.data.toList=40::(40::(a.data.toList++41::([32,79,82,32]++40::(b.data.toList++[41,41]))))->∃n,fH s=(none,n)):=by
 obtain⟨y,G,ha⟩:=AU ha;obtain⟨B,H,O⟩:=AU O;have U:fA [32]=some []:=rfl;have c2:fA [32,79,82,32]=some [k_]:=rfl;have V:∀{a b:ByteArray} {y B:List ByteArray} {qa I:Qy} (q:List UInt8) (ts:List ByteArray) (kind:Int) (s:ByteArray),fA a.data.toList=some y->fA b.data.toList=some B->KR (dX 12) y qa []->KR (dX 12) B I []->fA q=some ts->DW ts kind->s.data.toList=jE a.data.toList q b.data.toList->fH s=(some (.node kind qa I),0):=by
  intro a b y B qa I q ts kind s G H Q J hc hs z;rw[tJ (by rw[z];exact DT G hc H)];unfold Iz;rw[QM Q J hs]
  rfl
 have D:∀{a b:ByteArray} {y B:List ByteArray} {qa:Qy} (q:List UInt8) (ts:List ByteArray) (kind:Int) (s:ByteArray),fA a.data.toList=some y->fA b.data.toList=some B->FI 12 y B qa->fA q=some ts->DW ts kind->s.data.toList=jE a.data.toList q b.data.toList->∃n,fH s=(none,n):=by
  intro a b y B qa q ts kind s G H Y hc hs z;rw[tJ (by rw[z];exact DT G hc H)];unfold Iz;obtain⟨n,hn⟩:=DX Y hs [];exact⟨n,by rw[show dX 13 (sx y ts B)=.bad n from hn]⟩
 have L:∀{y:List ByteArray} {qa:Qy},dX 13 y=.ok qa []->DU (dX 12) y->DU (dX 11) y:=by
  intro y qa a0 ⟨⟨n,a1⟩,_⟩;rcases nU 11 2 _ _ _ a0 with h|h
  ·have:=Og 11 1 _ _ _ h.1;rw[show dX (11+1) y=dX 12 y from rfl,a1]at this;cases this
  ·exact h
 have M:∀{qa:Qy},FI 11 y B qa->∀s:ByteArray,s.data.toList=40::(40::(a.data.toList++41::([32,79,82,32]++40::(b.data.toList++[41,41]))))->∃n,fH s=(none,n):=by
  intro qa Y s z;rw[tJ (by rw[z];exact KQ G c2 H)];unfold Iz;obtain⟨n,hn⟩:=DX Y (.inr (.inr (.inr ⟨rfl,rfl⟩))) [az];have h2:jb 13 (aQ::aQ::(y++az::([k_]++aQ::(B++[az,az]))))=.bad n:=by
   show jJ (dX 12) _=_;rw[ie,show dX 12 (aQ::(y++az::([k_]++aQ::(B++[az,az]))))=.bad n from hn]
  exact⟨n,by rw[show dX 13 (aQ::aQ::(y++az::([k_]++aQ::(B++[az,az]))))=.bad n from p_ (xD h2)]⟩
 rcases nU 12 1 _ _ _ ha with Q|Z
 ·rcases nU 12 1 _ _ _ O with J|S
  ·exact .inl ⟨fun q ts kind s hc hs z=>V q ts kind s G H Q J hc hs z,fun s z=>V [32] [] 4 s H G J Q U (.inr (.inl ⟨rfl,rfl⟩)) z⟩
  ·refine .inr ⟨fun q ts kind s hc hs z=>D (qa:=qa) q ts kind s G H (.inr ⟨Q,S⟩) hc hs z,fun s z=>D (qa:=I) [32] [] 4 s H G (.inl S) U (.inr (.inl ⟨rfl,rfl⟩)) z,?_⟩;rcases nU 11 2 _ _ _ ha with a2|a3
   ·exact M (qa:=qa) (.inr ⟨a2,L O S⟩)
   ·exact M (qa:=qa) (.inl a3)
 ·refine .inr ⟨fun q ts kind s hc hs z=>D (qa:=qa) q ts kind s G H (.inl Z) hc hs z,fun s z=>?_,M (qa:=qa) (.inl (L ha Z))⟩;rcases nU 12 1 _ _ _ O with J|S
  ·exact D (qa:=I) [32] [] 4 s H G (.inr ⟨J,Z⟩) U (.inr (.inl ⟨rfl,rfl⟩)) z
  ·exact D (qa:=I) [32] [] 4 s H G (.inl S) U (.inr (.inl ⟨rfl,rfl⟩)) z
theorem KY{t s:ByteArray}(q:t.data.toList.all (·!=34)=true)(y:aB t≠[])(hs:s.data.toList=34::(t.data.toList++[34])):fH s=(some (.leaf 1 (aB t) 0),0):=by
 have D:(t.data.toList++[34]).all (·!=34)=false:=by simp
 have G:(t.data.toList++[34]).takeWhile (·!=34)=t.data.toList:=by
  rw[(xB (·!=34) 34 (by decide) [] t.data.toList).1];exact(sw _ _).1 q
 have hc:fA s.data.toList=some [iX (34::t.data.toList)]:=by
  rw[hs];unfold fA;rw[asY,uZ _ _ D,G];have z:(t.data.toList++[(34:UInt8)]).drop (t.data.toList.length+1)=[]:=by simp
  rw[z];cases(t.data.toList++[34]).length<;>rfl
 rw[tJ hc];obtain⟨p,B⟩:∃p,iX (34::t.data.toList)=p:=⟨_,rfl⟩;have hd:p.data.toList=34::t.data.toList:=by rw[<-B,fX]
 rw[B];have b:∀x:ByteArray,x.data.toList.headD 0≠34->¬p=x:=fun x b e=>by
  rw[<-e,hd]at b;exact b rfl
 have H:¬vd p:=by
  rintro(h|h|h|h|h|h|h)
  ·exact b gC (by decide) h
  ·exact b az (by decide) h
  ·exact b kG (by decide) h
  ·exact b fp (by decide) h
  ·exact b k_ (by decide) h
  ·exact b ez (by decide) h
  ·exact b nO (by decide) h
 have I:iX p.data.toList.tail=t:=by
  rw[hd];exact bz (by rw[fX];rfl)
 have J:jb 13 [p]=.ok (.leaf 1 (aB t) 0) []:=by
  show jJ (dX 12) _=_;rw[nT H (b aQ (by decide))];unfold It;rw[if_pos (by unfold fT;rw[hd];rfl),I,if_neg y]
 have L:lS 13 [p]=.ok (.leaf 1 (aB t) 0) []:=(wm J).trans (fe u_);have M:dX 13 [p]=.ok (.leaf 1 (aB t) 0) []:=(pZ L).trans (gD (by decide));unfold Iz;rw[M]
 rfl
end
section
open Go Go.RowKit Go.Maps
def lg(w:World)(M n:Nat)(H:Int->Nat):Prop:=∃D:DataW Value,w.ownsMap asV 3 jK M n D/\K2 ke D (cntF H)/\Maps.size D=n
section
variable{w w':World}{M n:Nat}{H:Int->Nat}
theorem lg.map(h:lg w M n H):oS w M n H:=by
 obtain⟨D,b,q,_⟩:=h;exact⟨D,b,q⟩
theorem lg.lt(h:lg w M n H):M<w.heap.size:=db.lt h.map
theorem lg.gr(h:lg w M n H)(g:Gr w w'):lg w' M n H:=by
 have q:=h.lt;obtain⟨D,⟨s,b,y,z⟩,B⟩:=h;exact⟨D,⟨s,b,(g.block _ q).trans y,z⟩,B⟩
theorem lg.made(w:World):lg (w.alloc (.map #[] 0)) w.heap.size 0 (fun _=>0):=
 ⟨.map [],World.ownsMap_made w _ _ _,fun _ _=>⟨rfl,fun _=>rfl⟩,rfl⟩
theorem lg.store(h:lg w M n H)(hn:n<1000000){r:Int}(L:-9223372036854775808<=r/\r<=9223372036854775807){val:Nat}(O:0<val)(s:H r=0):
  ∃w',(Instr.mapUpdate 44 (.map (some M)) (.int .i64 r) (.int .i64 (val:Int))).run asV w=.ok () w'/\lg w' M (n+1) (IA H r val)/\w.grownBy w' (some M):=by
 obtain⟨D,G,I,Q⟩:=h;have J:ke.ok r:=Vm L;obtain⟨w',y,S,U⟩:=G.store (t:=44) (e:=3) ke.law qP (by unfold maxLen;omega) (ke.key r J) (rfl:jK (.int .i64 (val:Int))=_);have b:=G.isMap;have B:Maps.has D (ke.kl r)=false:=by
  rw[(I r J).1];unfold cntF;rw[if_pos s]
  rfl
 refine⟨w',y,⟨_,S,fun i hi=>?_,?_⟩,U.grown⟩
 ·rw[<-Oj H r O];unfold uC;by_cases e:i=r
  ·subst e;simp only[if_true];exact⟨Maps.has_put_same b (ke.KZ i) _,fun z=>Maps.atKey_put_same b (ke.KZ i) _ z⟩
  ·have q:ke.kl i≠ke.kl r:=fun h=>e (ke.inj _ _ h);simp only[if_neg e];rw[Maps.has_put_other q];exact⟨(I i hi).1,fun z=>by rw[Maps.atKey_put_other q];exact(I i hi).2 z⟩
 ·rw[Maps.size_put (G.tidy ke.law),B,Q]
  rfl
theorem lg.len(h:lg w M n H)(ty:TypeId):(Builtin.len_ #[44] ty #[.map (some M)]).run asV w=.ok (.int .i64 (n:Int)) w:=by
 obtain⟨D,b,_,q⟩:=h;have:=b.len (t:=44) (e:=3) qP ty;rw[q]at this;exact this
variable{ops:Array Oper}{rest:List Oper}{o:Oper}{a:Act}{Q:Exit->Act->World->Prop}
theorem F_(s:o.guard=none)(m:Operand)(b:o.op=Op.call {callee:=Callee.builtin Builtin.len,args:=#[m],argTypes:=#[44]})(h:lg w M n H)(y:a.eval m=.map (some M))
  (z:wpList asV ops Q rest (a.put o.dst (.int .i64 (n:Int))) w):wpList asV ops Q (o::rest) a w:=by
 refine wpList_plain s fun B q=>?_;unfold Oper.wp;simp[execOp,b,resolve,invoke,builtin,y,h.len o.type,Result.andThen];exact q _ _ z
end
def yS(l:List bh):Int->Nat:=fun r=>(dq l r).toNat
theorem yT{x:bh}(r:Int):∀{a:List bh},(∀y∈a,y.1≠x.1)->dq (a++[x]) r=if r=x.1 then x.2 else dq a r
 |[],_=>by
  show(if x.1=r then x.2 else 0)=if r=x.1 then x.2 else 0
  by_cases e:x.1=r
  ·rw[if_pos e,if_pos e.symm]
  ·rw[if_neg e,if_neg (fun h=>e h.symm)]
 |y::a,h=>by
  have b:=yT r (a:=a) fun z q=>h z (as7 _ q);show(if y.1=r then y.2 else dq (a++[x]) r)=if r=x.1 then x.2 else if y.1=r then y.2 else dq a r
  rw[b];by_cases e:y.1=r
  ·rw[if_pos e,if_pos e,if_neg (fun s=>h y as_ (e.trans s))]
  ·rw[if_neg e,if_neg e]
theorem yU{r:Int}:∀{a:List bh},(∀y∈a,y.1≠r)->dq a r=0
 |[],_=>rfl
 |y::a,h=>(if_neg (h y as_)).trans (yU fun z b=>h z (as7 _ b))
theorem Ld{out:List bh}{H:Int->Nat}(h:jR out H)(i:Nat)(hi:i<out.length):
  yS (out.take (i+1))=IA (yS (out.take i)) out[i].1 (H out[i].1)/\yS (out.take i) out[i].1=0:=by
 have b:∀y∈out.take i,y.1≠out[i].1:=fun y q=>by
  obtain⟨j,s,e⟩:=List.mem_iff_getElem.1 q;rw[atm]at s;rw[List.getElem_take]at e;have:=atb.1 h.up j i (by omega) hi (by omega);rw[e]at this;omega
 have hv:=(h.val _ (List.getElem_mem hi)).1;refine⟨?_,?_⟩
 ·funext r
  unfold yS IA;rw[as3 hi,yT r b];by_cases e:r=out[i].1
  ·rw[if_pos e,if_pos e,hv];simp
  ·rw[if_neg e,if_neg e]
 ·unfold yS;rw[yU b]
  rfl
theorem OC{out:List bh}{H:Int->Nat}(h:jR out H):yS out=H:=by
 funext r
 unfold yS;rw[nn h r];simp
end
section
open Go Go.RowKit Go.Shelf Go.Lib Go.Sort
def bh.val(p:bh):Value:=.agg #[.int .i64 p.1,.int .i64 p.2]
def eo(a0 w:World)(v:Value)(xs:List bh):Prop:=w.ownsRow a0.heap.size 47 2 v xs.length (cO xs)
theorem eo.row{a0 w:World}{v:Value}{xs:List bh}(h:eo a0 w v xs):w.ownsRow a0.heap.size 47 2 v xs.length (cO xs):=h
theorem eo.gr{a0 w w':World}{v:Value}{xs:List bh}(h:eo a0 w v xs)(g:Gr w w'):eo a0 w' v xs:=aL h g
theorem eo.back{a0 s w:World}{v:Value}{xs:List bh}(h:eo s w v xs)(g:Gr a0 s):eo a0 w v xs:=by
 refine⟨h.row.1,?_⟩;rcases h.row.2 with b|⟨g',cap,q,b,y,z⟩
 ·exact .inl b
 ·exact .inr ⟨g',cap,q,b,Nat.le_trans g.size y,z⟩
theorem PJ:(asV.info? 47).map (fun i=>(i.zero,i.size,i.bytes))=some (some (.agg #[.int .i64 0,.int .i64 0]),2,16):=by kernel_rfl
theorem eo.sD{a0 w:World}{v:Value}{xs:List bh}(h:eo a0 w v xs):(v=.slice none 0 0/\xs=[])\/∃B cap,v=.slice (some ⟨B,0,none⟩) xs.length cap/\xs.length<=cap/\a0.heap.size<=B/\B<w.heap.size/\iV w B xs:=by
 have hc:=fun g b=>atz (g:=g) h.row b;rcases h.row.2 with⟨rfl,D⟩|⟨g,cap,H,rfl,G,q,s,_⟩
 ·exact .inl ⟨rfl,as6 D⟩
 ·refine .inr ⟨g,cap,rfl,s,G,(Array.getElem?_eq_some_iff.1 q).1,fun i hi=>?_⟩;have b:=lW xs i hi;have y:=hc g rfl _ _ b.1;have z:=hc g rfl _ _ b.2;have e:∀j,(⟨g,0,none⟩:Addr).add j=⟨g,j,none⟩:=by
   intro j;unfold Addr.add;split<;>simp_all
  rw[e]at y z;exact⟨⟨y,ati q _⟩,⟨z,ati q _⟩⟩
theorem eo.own{a0 w:World}{v:Value}{xs:List bh}(h:eo a0 w v xs):dj a0 w v xs:=h.sD
theorem jl{a0 w:World}{q:Array Oper}{rest:List Oper}{o:Oper}{a:Act}{Q:Exit->Act->World->Prop}(D:o.guard=none)(s x:Operand)
  (M:o.op=.call {callee:=.builtin .append,args:=#[s,x],argTypes:=#[41,41]}) (v:Value) (us:List bh) (hs:a.eval s=v) (z:eo a0 w v us) (p:bh)
  (O:a.eval x=.slice (some ⟨w.heap.size,0,none⟩) 1 1) (Y:us.length+1<=1000000) (S:Gr a0 w)
  (h:∀y w',eo a0 w' y (us++[p])->Gr a0 w'->wpList asV q Q rest (a.put o.dst y) w'):wpList asV q Q (o::rest) a (w.alloc (.cells #[.int .i64 p.1,.int .i64 p.2] 47)):=by
 obtain⟨b,B,J⟩:∃b,asV.info? 47=some b/\(b.zero,b.size,b.bytes)=(some (.agg #[.int .i64 0,.int .i64 0]),2,16):=by
  have h:=PJ;cases L:asV.info? 47 with
  |none=>rw[L]at h;cases h
  |some b=>rw[L]at h;exact⟨b,rfl,atC h⟩
 simp only[Prod.mk.injEq]at J;obtain⟨G,H,I⟩:=J;refine dK (P:=asV) D s x 41 M 47 b (.agg #[.int .i64 0,.int .i64 0]) 2 16 Tryz.underlying41 B G H I rfl (by decide) v us.length (cO us) hs z.row [.int .i64 p.1,.int .i64 p.2] rfl (by intro u hu;simp only[List.mem_cons,List.not_mem_nil,or_false]at hu;rcases hu with rfl|rfl<;>rfl) O S (by omega) (by omega)
  (fun y w' U V=>h y w' ?_ V)
 unfold eo;rw[asU,kK];exact U
theorem JZ(xs:List bh)(r o b:Int):(cO (xs++[(r,o)])).set (xs.length*2+1) (.int .i64 b)=cO (xs++[(r,b)]):=by
 rw[kK,kK,List.set_append_right _ _ (by rw[kg];omega),kg];have:xs.length*2+1-xs.length*2=1:=by omega
 rw[this]
 rfl
theorem eo.again{a0 w:World}{g cap:Nat}{xs:List bh}{r o:Int}(h:eo a0 w (.slice (some ⟨g,0,none⟩) (xs.length+1) cap) (xs++[(r,o)]))(b:Int):
  eo a0 (w.setCell ⟨g,xs.length*2+1,none⟩ (.int .i64 b)) (.slice (some ⟨g,0,none⟩) (xs.length+1) cap) (xs++[(r,b)]):=by
 have q:=h.row;rw[asU]at q;have s:=atv q (xs.length*2+1) (.int .i64 b);rw[JZ]at s;unfold eo;rw[asU];exact s.1
abbrev tA:Type:={p:bh//0<=p.1/\p.1<=2147483648}
instance:Inhabited tA:=⟨⟨(0,0),by decide⟩⟩
def r_(x:tA):List Value:=[.int .i64 x.1.1,.int .i64 x.1.2]
def Cs(x y:tA):Int:=x.1.1-y.1.1
theorem xj(x y:tA):ltOf Cs x y=decide (x.1.1<y.1.1):=by
 unfold ltOf Cs;by_cases h:x.1.1<y.1.1
 ·rw[decide_eq_true h];simp;omega
 ·rw[decide_eq_false h];simp;omega
theorem RX:SWO (ltOf Cs) where
 irrefl x:=by rw[xj];simp
 trans x y z h1 h2:=by
  rw[xj]at*;simp only[decide_eq_true_eq]at*;omega
 ntrans x y z h1 h2:=by
  rw[xj]at*;simp only[decide_eq_false_iff_not]at*;omega
theorem UR(w:World)(a b:Obj):(w.alloc a).alloc b=atu (w.drewN 0) #[a,b]:=by
 rw[atj,atj,Sort.grow_grow]
 rfl
theorem Tw(x y:tA)(w:World):Calls asV 54 #[bh.val x.1,bh.val y.1] w fun e w'=>e=.returned (.int .i64 (Cs x y))/\∃q z,w'=atu (w.drewN q) z:=by
 obtain⟨⟨b,B⟩,ha⟩:=x;obtain⟨⟨s,D⟩,G⟩:=y;unfold bh.val Cs;simp only at ha G⊢;have hw:ato.wrap (b-s)=b-s:=by rw[atd];omega
 go_enter atw,Tryz.ntmps54;go_wp2_with fail
 go_ret;refine⟨rfl,0,#[.cells #[.int .i64 b,.int .i64 B] 47,.cells #[.int .i64 s,.int .i64 D] 47],?_⟩;exact UR w _ _
theorem RY(b q size:Nat)(w:World):CmpLays asV 54 #[] r_ 2 Cs b q size w:=
 fun _ _ _ _ x y=>Tw x y _
theorem Mk{w:World}{B:Nat}{xs:List tA}(h:iV w B (xs.map (·.1))):HoldsK r_ 2 w B 0 xs.toArray:=by
 intro j b;rw[size_flatK]at b;rw[get_flatK _ _ _ _ b];have hi:j/2<xs.length:=by simp at b;omega
 obtain⟨q,s⟩:=h (j/2) (by rw[as8];exact hi);simp only[atn]at q s;have z:xs.toArray[j/2]! =xs[j/2]:=by simp[hi]
 rw[z,atl];rcases Nat.mod_two_eq_zero_or_one j with e|e
 ·rw[e];have y:j/2*2=j:=by omega
  rw[y]at q;exact q
 ·rw[e];have y:j/2*2+1=j:=by omega
  rw[y]at s;exact s
theorem Ml{w:World}{B:Nat}{d:Array tA}(h:HoldsK r_ 2 w B 0 d):iV w B (d.toList.map (·.1)):=by
 intro i hi;have b:i<d.size:=by simpa using hi
 have q:=atx h (i:=i) (c:=0) b (by omega);have s:=atx h (i:=i) (c:=1) b (by omega);have y:d[i]! =d[i]:=by simp[b]
 rw[y,atl,Nat.add_zero]at q;rw[y,atl]at s;simp only[atn,Array.getElem_toList];exact⟨q,s⟩
theorem uv(w:World)(b q:Nat)(d:Array tA)(k:Nat)(h:k≠b):(ate r_ 2 w b q d).heap[k]?=w.heap[k]?:=by
 unfold ate putRow ats;simp[Array.getElem?_modify,Ne.symm h]
theorem Mm(xs:List tA)(B cap:Nat)(w:World)(h:iV w B (xs.map (·.1)))(U:B<w.heap.size)(hl:xs.length<=1000000):
  Calls asV 53 #[.slice (some ⟨B,0,none⟩) xs.length cap,.func (.func 54) #[] #[]] w fun e w'=>
   e=.returned (.tuple #[])/\∃H:List tA,H.Perm xs/\(H.Pairwise fun a b=>a.1.1<=b.1.1)/\iV w' B (H.map (·.1))/\ag (fun i=>i=B) w w':=by
 have eg:∀args w,(callFunc 54 args).run asV w=.ok (.enter 54 args) w:=enters_of atw (by kernel_rfl) rfl;have V:=Mk h;have y:xs.toArray.size=xs.length:=by simp
 have s:=AnyQ.slices_SortFunc Tryz.DC 2 Tryz.isAgg47 Tryz.sizeOf47 r_ (fun _=>rfl) (fun x v hv=>by simp[r_]at hv;rcases hv with rfl|rfl<;>rfl) Cs RX 54 #[] B 0 cap xs.toArray w eg (RY B 0 xs.toArray.size w) V U (by rw[y];omega);rw[y]at s
 change Calls asV 53 _ _ _ at s;refine s.mono ?_;rintro e w' ⟨rfl,q,n,Y,⟨z,_,D⟩,hs,rfl⟩;have I:=holdsK_putRowK r_ 2 (as5 w n) B 0 xs.toArray q (holdsK_ahead r_ 2 w n B 0 _ V) z;have J:B<(ate r_ 2 (as5 w n) B 0 q).heap.size:=by
  unfold ate putRow ats;simpa[as5]using U
 have G:q.toList.length=xs.length:=by rw[as9,z,y]
 refine⟨rfl,q.toList,?_,?_,Ml (holdsK_grow r_ 2 _ Y B 0 q J I),?_⟩
 ·have e1:(q.extract 0 xs.length)=q:=by
   apply atA;simp only[Array.toList_extract,att,Nat.sub_zero];exact atf (Nat.le_of_eq G)
  have e2:(xs.toArray.extract 0 xs.length)=xs.toArray:=by
   apply atA;simp
  rw[e1,e2]at D;simpa using D
 ·rw[atb];intro i j hi hj L;have Z:=hs i j (atp _) L (by omega);have M:i<q.size:=by rw[<-as9];exact hi
  have O:j<q.size:=by rw[<-as9];exact hj
  rw[xj]at Z;simpa[M,O]using Z
 ·refine⟨rfl,rfl,rfl,?_,fun k hk Q=>?_⟩
  ·unfold sortWorldK;simp only[atu,Array.size_append];have:(ate r_ 2 (as5 w n) B 0 q).heap.size=w.heap.size:=by
    unfold ate putRow ats;simp[as5]
   omega
  ·unfold sortWorldK;have S:k<(ate r_ 2 (as5 w n) B 0 q).heap.size:=by
    unfold ate putRow ats;simpa[as5]using hk
   rw[heap_grow_old _ Y S,uv _ _ _ _ _ Q]
   rfl
theorem He(w:World)(b:Value):
  Calls asV 53 #[.slice none 0 0,b] w (ar w (.tuple #[])):=by
 exact ar.of_same (AnyF.slices_SortFunc_none Tryz.DC none 0 b w)
theorem Cu:∀(xs:List bh),(∀x∈xs,0<=x.1/\x.1<=2147483648)->∃b:List tA,b.map (·.1)=xs
 |[],_=>⟨[],rfl⟩
 |x::xs,h=>by
  obtain⟨b,e⟩:=Cu xs fun y q=>h y (as7 _ q);exact⟨⟨x,h x as_⟩::b,by rw[List.map_cons,e]⟩
theorem rL(a0 w:World)(v:Value)(xs:List bh)(h:dj a0 w v xs)(D:Gr a0 w)(G:xs.length<=1000000)(s:∀x∈xs,0<=x.1/\x.1<=2147483648):
  Calls asV 53 #[v,.func (.func 54) #[] #[]] w fun e w'=>
   e=.returned (.tuple #[])/\∃q:List bh,q.Perm xs/\(q.Pairwise fun a b=>a.1<=b.1)/\dj a0 w' v q/\Gr a0 w':=by
 rcases h with⟨rfl,rfl⟩|⟨B,cap,rfl,H,I,J,L⟩
 ·refine(He w _).mono ?_;rintro e w' ⟨rfl,z⟩;exact⟨rfl,[],List.Perm.refl _,atB,.inl ⟨rfl,rfl⟩,D.trans z⟩
 ·obtain⟨M,rfl⟩:=Cu xs s;rw[as8]at H G⊢;refine(Mm M B cap w L J G).mono ?_;rintro e w' ⟨rfl,q,y,hw,O,s⟩;refine⟨rfl,q.map (·.1),y.map _,List.pairwise_map.2 hw,.inr ⟨B,cap,by rw[as8,y.length_eq],by rw[as8,y.length_eq];exact H,I,Nat.lt_of_lt_of_le J s.2.2.2.1,O⟩,s.gr D (fun k Q=>by rw[Q];exact I)⟩
theorem ud(xs:List bh)(v:Value)(row:Int)(w:World)(G:mG w v xs)(hl:xs.length<=1000000):
  Calls asV 52 #[v,.int .i64 row] w (ar w (.int .i64 (dq xs row))):=by
 have U:=asW G;obtain⟨V,ca,rfl⟩:=G.form;obtain⟨R,J⟩:∃R,dq xs row=R:=⟨_,rfl⟩;rw[J];have HR:=asW J;clear G J;go_enter Tryz.func52,Tryz.ntmps52;go_wp2_with fail
 go_loopw [9] (fun L w'=>∃i:Nat,i<=xs.length/\L=.int .i64 i/\dq (xs.drop i) row=R/\Gr w w') (fun L _=>xs.length-(intOf L).toNat)
 case atStart=>exact⟨0,atp _,rfl,by rw[att];exact HR.out,Gr.refl _⟩
 case round=>
  obtain⟨i,hi,rfl,hf,z⟩:=hrel;have HF:=asW hf;have Y:=asW z;by_cases q:i<xs.length
  ·obtain⟨b,s,rfl,S,H⟩:∃b s,V=some ⟨b,s,none⟩/\b<w.heap.size/\bC w b s xs:=by
    rcases U.out with⟨_,Z⟩|⟨b,s,c,e,S,H⟩
    ·rw[Z]at q;exact absurd q (by simp)
    ·cases e;exact⟨b,s,rfl,S,H⟩
   have O:(i:Int)<(xs.length:Int):=by omega
   have c1:=z.keeps (H i q).1;have c2:=z.keeps (H i q).2;have hd:xs.drop i=xs[i]::xs.drop (i+1):=List.drop_eq_getElem_cons q;rw[hd]at hf;generalize G:xs[i]=x at*;obtain⟨D,I⟩:=x;simp only at c1 c2;have y:=z.alloc (.cells #[.int .i64 D,.int .i64 I] 47);have k1:(wr.alloc (.cells #[.int .i64 D,.int .i64 I] 47)).cell? ⟨wr.heap.size,0,none⟩=some (.int .i64 D):=by
    rw[as4]
    rfl
   have k2:(wr.alloc (.cells #[.int .i64 D,.int .i64 I] 47)).cell? ⟨wr.heap.size,1,none⟩=some (.int .i64 I):=by
    rw[as4]
    rfl
   unfold dq at hf;by_cases M:D=row
   ·rw[if_pos M]at hf;subst M;subst hf;have B:=asW y;clear z y hd;go_wp2_with fail
    go_ret;exact ar.mk rfl B.out
   ·rw[if_neg M]at hf;have Q:=asW hf;have B:=asW y;clear hf z y hd;go_wp2_with fail
    exact⟨⟨i+1,q,by go_num,Q.out,B.out⟩,by simp[intOf];omega⟩
  ·have O:¬(i:Int)<(xs.length:Int):=by omega
   have hd:xs.drop i=[]:=List.drop_eq_nil_of_le (by omega);rw[hd]at hf;have hf:(0:Int)=R:=hf;subst hf;clear z hd;go_wp2_with fail
   go_ret;exact ar.mk rfl Y.out
theorem tB(l:List aa)(i:Nat)(h:i<l.length):eS (l.take (i+1))=mU (eS (l.take i)) l[i]:=by
 rw[as3 h,yR]
theorem pQ(out:List bh)(p:aa):(out=[]/\mU out p=[(p.1,1)])\/(∃d r o,out=d++[(r,o)]/\r=p.1/\mU out p=d++[(r,o+1)])\/∃d r o,out=d++[(r,o)]/\r≠p.1/\mU out p=out++[(p.1,1)]:=by
 unfold mU;cases b:out.getLast? with
 |none=>exact .inl ⟨List.getLast?_eq_none_iff.1 b,rfl⟩
 |some x=>
  obtain⟨d,hd⟩:=List.getLast?_eq_some_iff.1 b;obtain⟨r,o⟩:=x;by_cases e:r=p.1
  ·refine .inr (.inl ⟨d,r,o,hd,e,?_⟩);rw[hd,List.dropLast_concat];exact if_pos e
  ·exact .inr (.inr ⟨d,r,o,hd,e,if_neg e⟩)
theorem PK:∀(l:List aa),(eS l).length<=l.length:=by
 intro l;suffices h:∀i,i<=l.length->(eS (l.take i)).length<=i by
  have:=h l.length (as1 _);rw[List.take_length]at this;exact this
 intro i
 induction i with
 |zero=>intro _;simp[eS]
 |succ i b=>
  intro hi;have b:=b (by omega);rw[tB l i (by omega)];rcases pQ (eS (l.take i)) l[i]with⟨_,e⟩|⟨d,r,o,q,_,e⟩|⟨d,r,o,_,_,e⟩
  ·rw[e];simp
  ·rw[e];rw[q,asU]at b;rw[asU];simp only[asY,atq]at b⊢;omega
  ·rw[e,asU];simp only[asY,atq];omega
theorem Hf(l:List aa):∀i,i<=l.length->∀x∈eS (l.take i),1<=x.2/\x.2<=(i:Int):=by
 intro i
 induction i with
 |zero=>intro _ x b;simp[eS]at b
 |succ i q=>
  intro hi x b;have q:=q (by omega);rw[tB l i (by omega)]at b;rcases pQ (eS (l.take i)) l[i]with⟨_,e⟩|⟨d,r,o,s,_,e⟩|⟨d,r,o,_,_,e⟩
  ·rw[e]at b;rw[asZ.1 b];show(1:Int)<=1/\(1:Int)<=_;omega
  ·rw[e]at b;rw[s]at q;rcases atr.1 b with b|b
   ·have:=q x (List.mem_append_left _ b);omega
   ·have:=q (r,o) (atg _ (asZ.2 rfl));rw[asZ.1 b];show 1<=o+1/\o+1<=_;have y:1<=o/\o<=(i:Int):=this;omega
  ·rw[e]at b;rcases atr.1 b with b|b
   ·have:=q x b;omega
   ·rw[asZ.1 b];show(1:Int)<=1/\(1:Int)<=_;omega
theorem NP(xs:List aa)(v:Value)(w:World)(hx:mG w v xs)(hl:xs.length<=100000):
  Calls asV 103 #[v] w fun e w'=>∃v',e=.returned v'/\eo w w' v' (eS xs)/\Gr w w':=by
 have HX:=asW hx;obtain⟨ao,ca,rfl⟩:=hx.form;clear hx;go_enter Tryz.func103,Tryz.ntmps103;go_wp2_with fail
 go_loopw [3,9] (fun ov iv w'=>∃i:Nat,i<=xs.length/\iv=.int .i64 i/\eo w w' ov (eS (xs.take i))/\Gr w w') (fun _ iv _=>xs.length-(intOf iv).toNat)
 case atStart=>exact⟨0,atp _,rfl,World.ownsRow_nil _ _ _ _,Gr.refl _⟩
 case round=>
  obtain⟨i,hi,rfl,V,Z⟩:=hrel;have HO:=asW V;have HG:=asW Z;by_cases I:i<xs.length
  ·obtain⟨b,Q,rfl,hb,hp⟩:∃b Q,ao=some ⟨b,Q,none⟩/\b<w.heap.size/\bC w b Q xs:=by
    rcases HX.out with⟨_,B⟩|⟨b,Q,c,e,hb,hp⟩
    ·rw[B]at I;exact absurd I (by simp)
    ·cases e;exact⟨b,Q,rfl,hb,hp⟩
   have d0:(i:Int)<(xs.length:Int):=by omega
   have c1:=Z.keeps (hp i I).1;have c2:=Z.keeps (hp i I).2;have a4:=tB xs i I;have J:=PK (xs.take i);have a5:=Hf xs i hi;rw[atm]at J;generalize hx:xs[i]=x at*;obtain⟨M,x2⟩:=x;simp only at c1 c2;have gA:Gr wr (wr.alloc (.cells #[.int .i64 M,.int .i64 x2] 104)):=(Gr.refl wr).alloc _;have k1:(wr.alloc (.cells #[.int .i64 M,.int .i64 x2] 104)).cell? ⟨wr.heap.size,0,none⟩=some (.int .i64 M):=by
    rw[as4]
    rfl
   have b6:=Z.trans gA;have Y:=V.gr gA;generalize hW:wr.alloc (.cells #[.int .i64 M,.int .i64 x2] 104)=w1 at*;obtain⟨out,c4⟩:∃out,eS (xs.take i)=out:=⟨_,rfl⟩;rw[c4]at a4 J Y a5;have d1:=asW a5;clear a5;have b7:=asW hW;clear HO V Z gA hW;have b8:∀(z:List bh),mU out (M,x2)=z->eS (xs.take (i+1))=z:=fun z hz=>a4.trans hz;have a6:=asW b8;have y:=asW Y;have a7:=asW b6;obtain⟨av,cv,d2⟩:=Y.own.form;subst d2;rw[<-b7.out]at k1;clear b8 a4 Y b6;go_upto_region 6 with fail
   rw[b7.out]at k1⊢;rcases pQ out (M,x2)with⟨rfl,hA⟩|⟨q,r,o,rfl,er,hA⟩|⟨q,r,o,rfl,er,hA⟩
   ·have HA:=asW (a6.out _ hA);have b9:¬(0:Int)<((([]:List bh).length:Nat):Int):=by simp
    clear hA;go_quiet (fail)
    go_wp2_with(at_builtin;refine jl (a0:=w) rfl _ _ rfl _ [] rfl (y.out.gr ((Gr.refl _).drewN _)) (M,1) rfl (by simp) (a7.out.drewN _) ?_;intro v2 w2 H a8)
    refine⟨⟨i+1,I,by go_num,?_,a8⟩,by simp[intOf];omega⟩;rw[HA.out];exact H
   ·have HA:=asW (a6.out _ hA);obtain⟨g,cap,a9⟩:∃g cap,aty av (q++[(r,o)]).length cv=.slice (some ⟨g,0,none⟩) (q++[(r,o)]).length cap:=by
     rcases y.out.sD with⟨_,B⟩|⟨g,cap,B,_⟩
     ·simp at B
     ·exact⟨g,cap,B⟩
    cases a9;have s:(q++[(r,o)]).length=q.length+1:=by simp
    obtain⟨rr,oo,U⟩:w1.cell? ⟨g,q.length*2,none⟩=some (.int .i64 r)/\w1.cell? ⟨g,q.length*2+1,none⟩=some (.int .i64 o)/\True:=by
     rcases y.out.sD with⟨O,_⟩|⟨g2,c2,B,_,_,_,D⟩
     ·cases O
     ·cases B;have h7:=D q.length (by rw[s];omega);simp only[ata]at h7;exact⟨h7.1.1,h7.2.1,trivial⟩
    have d3:w1.frozen? ⟨g,q.length*2+1,none⟩=false:=by
     rcases y.out.sD with⟨O,_⟩|⟨g2,c2,B,_,_,_,D⟩
     ·cases O
     ·cases B;exact(D q.length (by rw[s];omega)).2.2
    have c0:w.heap.size<=g:=by
     rcases y.out.sD with⟨O,_⟩|⟨g2,c2,B,_,h3,_⟩
     ·cases O
     ·cases B;exact h3
    have H:=(by simpa only[s]using y.out:eo w w1 (.slice (some ⟨g,0,none⟩) (q.length+1) cv) (q++[(r,o)]));have S:=asW H;rw[s]at J⊢;obtain⟨G,L⟩:∃G,q.length+1=G:=⟨_,rfl⟩;rw[L]at J S⊢;have c3:=asW L;have b9:(0:Int)<(G:Int):=by omega
    have c5:0<G:=by omega
    have d4:ato.wrap ((G:Int)-1)=(q.length:Int):=by
     rw[atd];omega
    have d5:wrap64 (q.length:Int)=(q.length:Int):=by
     unfold wrap64;omega
    have c6:(q.length:Int)<(G:Int):=by omega
    have c7:q.length<G:=by omega
    replace er:r=M:=er;subst er;clear H y hA U J s L;have V:wrap64 (o+1)=o+1:=by
     have:=d1.out (r,o) (atg _ (asZ.2 rfl));have h2:1<=o/\o<=(i:Int):=this;unfold wrap64;omega
    go_quiet (fail)
    go_wp2_with fail
    refine⟨⟨i+1,I,by go_num,?_,(a7.out.drewN _).setCell c0 _⟩,by simp[intOf];omega⟩;rw[HA.out];have b0:=(S.out.gr ((Gr.refl _).drewN nq));rw[<-c3.out]at b0⊢
    first|exact b0.again (o+1)|(rw[V];exact b0.again (o+1))
   ·have HA:=asW (a6.out _ hA);obtain⟨g,cap,a9⟩:∃g cap,aty av (q++[(r,o)]).length cv=.slice (some ⟨g,0,none⟩) (q++[(r,o)]).length cap:=by
     rcases y.out.sD with⟨_,B⟩|⟨g,cap,B,_⟩
     ·simp at B
     ·exact⟨g,cap,B⟩
    cases a9;have s:(q++[(r,o)]).length=q.length+1:=by simp
    obtain⟨rr,oo,U⟩:w1.cell? ⟨g,q.length*2,none⟩=some (.int .i64 r)/\w1.cell? ⟨g,q.length*2+1,none⟩=some (.int .i64 o)/\True:=by
     rcases y.out.sD with⟨O,_⟩|⟨g2,c2,B,_,_,_,D⟩
     ·cases O
     ·cases B;have h7:=D q.length (by rw[s];omega);simp only[ata]at h7;exact⟨h7.1.1,h7.2.1,trivial⟩
    have d3:w1.frozen? ⟨g,q.length*2+1,none⟩=false:=by
     rcases y.out.sD with⟨O,_⟩|⟨g2,c2,B,_,_,_,D⟩
     ·cases O
     ·cases B;exact(D q.length (by rw[s];omega)).2.2
    have c0:w.heap.size<=g:=by
     rcases y.out.sD with⟨O,_⟩|⟨g2,c2,B,_,h3,_⟩
     ·cases O
     ·cases B;exact h3
    have H:=(by simpa only[s]using y.out:eo w w1 (.slice (some ⟨g,0,none⟩) (q.length+1) cv) (q++[(r,o)]));have S:=asW H;rw[s]at J⊢;obtain⟨G,L⟩:∃G,q.length+1=G:=⟨_,rfl⟩;rw[L]at J S⊢;have c3:=asW L;have d6:Hid (eo w w1 (.slice (some ⟨g,0,none⟩) G cv) (q++[(r,o)])):=S;have d7:Hid ((q++[(r,o)]).length<=100000):=asW (by rw[s];omega);have b9:(0:Int)<(G:Int):=by omega
    have c5:0<G:=by omega
    have d4:ato.wrap ((G:Int)-1)=(q.length:Int):=by
     rw[atd];omega
    have d5:wrap64 (q.length:Int)=(q.length:Int):=by
     unfold wrap64;omega
    have c6:(q.length:Int)<(G:Int):=by omega
    have c7:q.length<G:=by omega
    have g9:(r==M)=false:=by simpa using er
    have h0:¬r=M:=er;clear er;clear H y hA U J s L;go_quiet (fail)
    go_wp2_with(at_builtin;refine jl (a0:=w) rfl _ _ rfl _ (q++[(r,o)]) rfl (d6.out.gr ((Gr.refl _).drewN _)) (M,1) rfl (by have:=d7.out;omega) (a7.out.drewN _) ?_;intro v2 w2 H a8)
    refine⟨⟨i+1,I,by go_num,?_,a8⟩,by simp[intOf];omega⟩;rw[HA.out];exact H
  ·have d0:¬(i:Int)<(xs.length:Int):=by omega
   have ht:xs.take i=xs:=atf (by omega);rw[ht]at V;have HE:=asW (And.intro V Z);clear V Z ht;go_wp2_with fail
   go_ret;exact⟨_,rfl,HE.out.1,HE.out.2⟩
