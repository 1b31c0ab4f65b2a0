/-
  Part 19 of the proof.
-/
import Derived.Test.YtldmhjbdahjhdaaGreatDoorZb14
open Go.World renaming cell?_alloc_new->aqk,size_alloc->aqB,cell?_setCell_other->aqK,cell?_drew->aqQ
open Go.Lib renaming compareBytes->aql,hid->aqo,cut->aqZ,indexByte->aq2
open List renaming cons_append->aqm,length_append->aqn,length_cons->aqp,append_assoc->aqq,take_succ_eq_append_getElem->aqt,take_of_length_le->aqv,mem_cons_of_mem->aqx,all_cons->aqy,mem_cons_self->aqz,eq_nil_of_length_eq_zero->aqC,drop_append_of_le_length->aqD,takeWhile_cons->aqF,flatMap_cons->aqM,drop_eq_nil_of_le->aqR,getElem_cons_zero->aqS,foldl_cons->aqU,map_append->aqV,takeWhile_prefix->aqW,take_succ_cons->aq0,flatMap_append->aq1,length_take->aq9,length_drop->aq_,nil_append->arb,range->arj,flatMap->ars
open Go.Proofs.Tryz renaming underlying188->aqr,underlying133->aqI,results65->aqJ,prog->aqO,results63->ari
open Nat renaming mul_le_mul_right->aqs,lt_of_lt_of_le->aqH,add_mul->aqX,pow_le_pow_right->aqY,pow_succ'->aq4,lt_irrefl->aq5,xor_comm->aq7,mul_assoc->ark,add_assoc->arl,zero_mul->arn,zero_add->aro,le_trans->arq,le_refl->art
open Bool renaming and_eq_true->aqu,or_eq_true->ara
open UInt8 renaming lt_iff_toNat_lt->aqw,toNat_lt->aqG,toNat_inj->arc,lt_irrefl->ard,lt_trans->arf,not_lt->arp
open Go renaming bodyPost_ret->aqA,results->aq6,info_parts->arh
open Go.ByteArray renaming toList_eq->aqE
open Option.some renaming injEq->aqL
open Go.IntKind renaming u64->aqN,wrap_u64->aq8
open Go.Value renaming int->aqP
open BitVec renaming ofInt->aqT
open Prod.mk renaming injEq->aq3
open Go.World.ownsRow renaming cells->aru
open ByteArray.mk renaming injEq->arv
open Go.BinOp renaming xor->arw
set_option maxRecDepth 100000
set_option maxHeartbeats 100000000
set_option linter.all false
namespace Go.Proofs.YtldmhjbdahjhdaaGreatDoor
section
open Go Go.RowKit
structure cD where
 kind:Int
 num:Int
 text:ByteArray
def cD.val(v:cD):Value:=.agg #[.int .i64 v.kind,.int .i64 v.num,.string v.text]
def eD(v:cD):Bool:=
 (v.kind==0&&v.num==0&&v.text.data.toList.isEmpty)||(v.kind==1&&v.text.data.toList.isEmpty)||
  (v.kind==2&&v.num==0&&decide (v.text.data.toList.length<=40)&&v.text.data.toList.all (·!=0))
def qy(a b:cD):Int:=if a.kind<b.kind then-1 else if b.kind<a.kind then 1 else if a.num<b.num then-1 else if b.num<a.num then 1 else aql a.text.data.toList b.text.data.toList
theorem te(l:List UInt8)(c:UInt8):decide (aq2 l c<0)=l.all (·!=c):=by
 have z:=Lib.indexByte_ge l c;by_cases h:aq2 l c=-1
 ·have b:=Lib.indexByte_none h;rw[h];have:l.all (·!=c)=true:=by
   rw[List.all_eq_true];intro x s;obtain⟨k,y⟩:=List.getElem?_of_mem s;rw[bne_iff_ne];rintro rfl;exact b k y
  rw[this];rfl
 ·obtain⟨o,q⟩:=Int.eq_ofNat_of_zero_le (show 0<=aq2 l c by omega);have b:=(Lib.indexByte_some q).1;rw[q];have:l.all (·!=c)=false:=by
   rw[List.all_eq_false];exact⟨c,List.mem_of_getElem? b,by simp⟩
  rw[this];simp
theorem ml(v:cD)(hs:v.text.size<=9223372036854775807)(w:World):Calls aqO 114 #[v.val] w (ar w (.bool (eD v))):=by
 obtain⟨k,n,s⟩:=v;unfold cD.val;simp only at hs⊢;go_enter Tryz.func114,Tryz.ntmps114;go_wp2_with(go_at_call 72;refine(Tryz.strings_IndexByte _ _ _).mono ?_;rintro e w' ⟨rfl,rfl⟩)
 all_goals
  go_ret;refine ar.mk ?_ (by repeat(first|exact Gr.refl _|assumption|refine Gr.alloc ?_ _|refine Gr.drew ?_));simp only[size_data,aqE,beq_iff_eq,beq_eq_false_iff_ne,ne_eq]at*;unfold eD;simp only;generalize s.data.toList=l at*;simp[te, *]
  try omega
end
section
open Go
def nc(l:List UInt8):Nat:=l.foldl (fun n c=>n*256+c.toNat) 0
def fb:List UInt8->Option (cD×List UInt8)
 |[]=>none
 |k::s=>
  if k=1 then some (⟨0,0,⟨#[]⟩⟩,s)
  else if k=2 then(if s.length<8 then none else some (⟨1,(nc (s.take 8):Int)-9223372036854775808,⟨#[]⟩⟩,s.drop 8))
  else if k=3 then(if s.all (·!=0)then none else if 40<(s.takeWhile (·!=0)).length then none else some (⟨2,0,⟨(s.takeWhile (·!=0)).toArray⟩⟩,s.drop ((s.takeWhile (·!=0)).length+1)))
  else none
def tf:Nat->List UInt8->Option (List cD)
 |0,[]=>some []
 |0,_::_=>none
 |_+1,[]=>some []
 |n+1,c::s=>match fb (c::s)with
  |none=>none
  |some (v,r)=>(tf n r).map (v::·)
def fi(l:List UInt8):Option (List cD):=tf l.length l
theorem BT{l r:List UInt8}{v:cD}(h:fb l=some (v,r)):r.length<l.length:=by
 cases l with
 |nil=>cases h
 |cons k s=>
  rw[fb]at h;by_cases q:k=1
  ·rw[if_pos q]at h;simp only[aqL,aq3]at h;rw[<-h.2];simp
  rw[if_neg q]at h;by_cases y:k=2
  ·rw[if_pos y]at h;by_cases b:s.length<8
   ·rw[if_pos b]at h;cases h
   ·rw[if_neg b]at h;simp only[aqL,aq3]at h;rw[<-h.2];simp;omega
  rw[if_neg y]at h;by_cases b:k=3
  ·rw[if_pos b]at h;by_cases z:s.all (·!=0)=true
   ·rw[if_pos z]at h;cases h
   ·rw[if_neg z]at h;by_cases B:40<(s.takeWhile (·!=0)).length
    ·rw[if_pos B]at h;cases h
    ·rw[if_neg B]at h;simp only[aqL,aq3]at h;rw[<-h.2];simp;omega
  rw[if_neg b]at h;cases h
theorem Pe:∀(n m:Nat) (l:List UInt8),l.length<=n->l.length<=m->tf n l=tf m l:=by
 intro n
 induction n with
 |zero=>
  intro m l hn _;have:l=[]:=aqC (by omega);subst this;cases m<;>rfl
 |succ n y=>
  intro m l hn q;cases l with
  |nil=>cases m<;>rfl
  |cons c s=>
   cases m with
   |zero=>simp at q
   |succ m=>
    simp only[tf];cases z:fb (c::s)with
    |none=>rfl
    |some p=>
     obtain⟨v,r⟩:=p;have b:=BT z;simp only[aqp]at b hn q;simp only;rw[y m r (by omega) (by omega)]
theorem JB(c:UInt8)(s:List UInt8)(h:fb (c::s)=none):fi (c::s)=none:=by
 unfold fi;simp only[aqp,tf,h]
theorem zu(c:UInt8)(s r:List UInt8)(v:cD)(h:fb (c::s)=some (v,r)):fi (c::s)=(fi r).map (v::·):=by
 have b:=BT h;simp only[aqp]at b;unfold fi;simp only[aqp,tf,h];rw[Pe s.length r.length r (by omega) (art _)]
theorem zv(l:List UInt8):Lib.index l [0]=if l.all (·!=0)then-1 else((l.takeWhile (·!=0)).length:Int):=by
 induction l with
 |nil=>rfl
 |cons b l s=>
  rw[Lib.index];by_cases q:b=0
  ·subst q;simp
  ·have y:[(0:UInt8)].isPrefixOf (b::l)=false:=by
    simp[List.isPrefixOf];exact fun h=>q h.symm
   rw[y,s];have z:(b !=0)=true:=by simpa using q
   simp only[aqy,z,Bool.true_and,aqF];by_cases ha:l.all (·!=0)=true
   ·simp[ha]
   ·simp only[ha];simp
theorem Pf(l:List UInt8)(h:l.all (·!=0)=true):aqZ l [0]=(l,[],false):=by
 unfold aqZ;rw[zv,if_pos h,if_neg (by decide)]
theorem Pg(l:List UInt8)(h:l.all (·!=0)=false):aqZ l [0]=(l.takeWhile (·!=0),l.drop ((l.takeWhile (·!=0)).length+1),true):=by
 unfold aqZ;rw[zv,h];simp only[Bool.false_eq_true,if_false];rw[if_pos (by omega),Int.toNat_natCast]
 congr 1
 exact(List.prefix_iff_eq_take.1 (aqW _)).symm
theorem Tq(l:List UInt8):(l.takeWhile (·!=0)).all (·!=0)=true:=by
 induction l with
 |nil=>rfl
 |cons b l q=>
  rw[aqF]
  split
  ·rename_i h;rw[aqy,q,h];rfl
  ·rfl
end
section
open Go Go.RowKit
def lR(w:World)(b q:Nat)(xs:List cD):Prop:=
 ∀i (h:i<xs.length),w.cell? ⟨b,q+i*3,none⟩=some (.int .i64 xs[i].kind)/\w.cell? ⟨b,q+i*3+1,none⟩=some (.int .i64 xs[i].num)/\w.cell? ⟨b,q+i*3+2,none⟩=some (.string xs[i].text)
theorem lR.gr{w w':World}{b q:Nat}{xs:List cD}(h:lR w b q xs)(g:Gr w w'):lR w' b q xs:=
 fun i hi=>⟨g.keeps (h i hi).1,g.keeps (h i hi).2.1,g.keeps (h i hi).2.2⟩
def GZ:List cD->List cD->Int
 |[],[]=>0
 |[],_::_=>-1
 |_::_,[]=>1
 |a::x,b::y=>if qy a b=0 then GZ x y else qy a b
end
section
open Go
def th(m:Nat):List UInt8:=[(m/72057594037927936).toUInt8,(m/281474976710656).toUInt8,(m/1099511627776).toUInt8,(m/4294967296).toUInt8,(m/16777216).toUInt8,(m/65536).toUInt8,(m/256).toUInt8,(m/1).toUInt8]
theorem gn(m:Nat):(th m).length=8:=rfl
def fv(v:cD):List UInt8:=if v.kind=1 then 2::th (v.num+9223372036854775808).toNat else if v.kind=2 then 3::(v.text.data.toList++[0])else[1]
def dW(xs:List cD):List UInt8:=xs.flatMap fv
def fc:List cD->Option Nat
 |[]=>none
 |v::xs=>if eD v then(fc xs).map (·+1)else some 0
theorem G0(v:cD)(h:eD v=true):v.kind=0\/v.kind=1\/v.kind=2:=by
 unfold eD at h;simp only[ara,aqu,beq_iff_eq]at h;omega
def jh(v:cD):Prop:=eD v=true/\-9223372036854775808<=v.num/\v.num<=9223372036854775807
theorem EI{s:ByteArray}(h:s.data.toList=[]):s=⟨#[]⟩:=by
 cases s;simp only[arv];exact Array.ext' h
theorem pA(v:cD)(h:jh v):v=⟨0,0,⟨#[]⟩⟩\/(∃n:Int,v=⟨1,n,⟨#[]⟩⟩/\-9223372036854775808<=n/\n<=9223372036854775807)\/(∃s:ByteArray,v=⟨2,0,s⟩/\s.data.toList.all (·!=0)=true/\s.data.toList.length<=40):=by
 obtain⟨k,n,s⟩:=v;obtain⟨h,b,q⟩:=h;unfold eD at h;simp only[ara,aqu,beq_iff_eq,decide_eq_true_eq,List.isEmpty_iff]at h;rcases h with(⟨⟨rfl,rfl⟩,h⟩|⟨rfl,h⟩)|⟨⟨⟨rfl,rfl⟩,h⟩,y⟩
 ·left;rw[EI h]
 ·right;left;exact⟨n,by rw[EI h],b,q⟩
 ·right;right;exact⟨s,rfl,y,h⟩
theorem BU(m:Nat)(h:m<18446744073709551616):nc (th m)=m:=by
 unfold nc th;simp only[aqU,List.foldl_nil,Nat.toUInt8,UInt8.toNat_ofNat'];omega
theorem Ag(x rest:List UInt8)(h:x.all (·!=0)=true):(x++0::rest).takeWhile (·!=0)=x:=by
 induction x with
 |nil=>rfl
 |cons c x b=>
  simp only[aqy,aqu]at h;rw[aqm,aqF,if_pos h.1,b h.2]
theorem L2(v:cD)(rest:List UInt8)(h:jh v):fb (fv v++rest)=some (v,rest):=by
 rcases pA v h with rfl|⟨n,rfl,y,z⟩|⟨s,rfl,q,B⟩
 ·rfl
 ·have b:fv ⟨1,n,⟨#[]⟩⟩=2::th (n+9223372036854775808).toNat:=rfl;rw[b,aqm,fb,if_neg (by decide),if_pos rfl,if_neg (by rw[aqn,gn];omega),
   List.take_append_of_le_length (by rw[gn];omega),aqv (by rw[gn];omega),BU _ (by omega),aqD (by rw[gn];omega),
   aqR (by rw[gn];omega),arb]
  have e:(((n+9223372036854775808).toNat:Nat):Int)-9223372036854775808=n:=by omega
  rw[e]
 ·have b:fv ⟨2,0,s⟩=3::(s.data.toList++[0]):=rfl;have ha:((s.data.toList++[0])++rest).all (·!=0)=false:=by simp
  have hw:((s.data.toList++[0])++rest).takeWhile (·!=0)=s.data.toList:=by
   rw[aqq];exact Ag _ _ q
  rw[b,aqm,fb,if_neg (by decide),if_neg (by decide),if_pos rfl,if_neg (by rw[ha];decide),hw,if_neg (by omega)];have hd:((s.data.toList++[0])++rest).drop (s.data.toList.length+1)=rest:=by
   rw[aqD (by simp),aqR (by simp),arb]
  rw[hd]
theorem vH(v:cD):∃c l,fv v=c::l:=by
 unfold fv
 split
 ·exact⟨_,_,rfl⟩
 ·split
  ·exact⟨_,_,rfl⟩
  ·exact⟨_,_,rfl⟩
theorem yp(xs:List cD)(h:∀v∈xs,jh v):fi (dW xs)=some xs:=by
 induction xs with
 |nil=>rfl
 |cons v xs q=>
  have hv:=h v aqz;have b:=L2 v (dW xs) hv;have e:dW (v::xs)=fv v++dW xs:=rfl;obtain⟨c,l,hc⟩:=vH v;rw[hc,aqm]at b;rw[e,hc,aqm,zu _ _ _ _ b,q (fun u hu=>h u (aqx _ hu))]
  rfl
theorem yq(c:UInt8)(l:List UInt8):nc (c::l)=c.toNat*256^l.length+nc l:=by
 have:∀(l:List UInt8) (n:Nat),l.foldl (fun n c=>n*256+c.toNat) n=n*256^l.length+nc l:=by
  intro l
  induction l with
  |nil=>intro n;simp[nc]
  |cons d l b=>
   intro n;rw[aqU,b,aqp,aq4,show nc (d::l)=l.foldl (fun n c=>n*256+c.toNat) (0*256+d.toNat)from rfl,b];simp only[arn,aro];rw[aqX,ark];omega
 have h:=this l c.toNat;show l.foldl (fun n c=>n*256+c.toNat) (0*256+c.toNat)=_;rw[arn,aro];exact h
theorem BV(l:List UInt8):nc l<256^l.length:=by
 induction l with
 |nil=>simp[nc]
 |cons c l b=>
  rw[yq,aqp,aq4];have hc:=aqG c;have:(c.toNat+1)*256^l.length<=256*256^l.length:=aqs _ (by omega);rw[aqX]at this;omega
theorem L3:∀(a b s t:List UInt8),a.length=b.length->aql (a++s) (b++t)=if nc a<nc b then-1 else if nc b<nc a then 1 else aql s t:=by
 intro a
 induction a with
 |nil=>
  intro b s t h;have:b=[]:=aqC h.symm;subst this;simp[nc]
 |cons x a D=>
  intro b s t h;cases b with
  |nil=>simp at h
  |cons y b=>
   have B:a.length=b.length:=by simpa using h
   simp only[aqm,aql];have H:=BV a;have G:=BV b;rw[yq,yq,<-B];rw[<-B]at G;by_cases q:x<y
   ·have hn:x.toNat+1<=y.toNat:=aqw.1 q;have:=aqs (256^a.length) hn;rw[aqX]at this;rw[if_pos q,if_pos (by omega)]
   ·rw[if_neg q];by_cases z:y<x
    ·have hn:y.toNat+1<=x.toNat:=aqw.1 z;have:=aqs (256^a.length) hn;rw[aqX]at this;rw[if_pos z,if_neg (by omega),if_pos (by omega)]
    ·have e:x=y:=UInt8.le_antisymm (arp.1 z) (arp.1 q);subst e;rw[if_neg z,D b s t B];simp only[Nat.add_lt_add_iff_left]
theorem Ph:∀(x y s t:List UInt8),x.all (·!=0)=true->y.all (·!=0)=true->aql (x++0::s) (y++0::t)=if aql x y=0 then aql s t else aql x y:=by
 intro x
 induction x with
 |nil=>
  intro y s t _ b;cases y with
  |nil=>simp[aql]
  |cons c y=>
   simp only[aqy,aqu,bne_iff_ne]at b;have:(0:UInt8)<c:=by
    rw[aqw];have:c.toNat≠0:=fun h=>b.1 (arc.1 (by simpa using h));simp;omega
   simp[aql,this]
 |cons d x D=>
  intro y s t z b;simp only[aqy,aqu,bne_iff_ne]at z;cases y with
  |nil=>
   have:(0:UInt8)<d:=by
    rw[aqw];have:d.toNat≠0:=fun h=>z.1 (arc.1 (by simpa using h));simp;omega
   have q:¬d<0:=fun h=>ard _ (arf h this);simp[aql,this,q]
  |cons c y=>
   simp only[aqy,aqu,bne_iff_ne]at b;simp only[aqm,aql];by_cases B:d<c
   ·simp[B]
   ·by_cases q:c<d
    ·simp[B,q]
    ·simp only[B,q,if_false];exact D y s t z.2 b.2
theorem Rw(v u:cD)(s t:List UInt8)(hv:jh v)(hu:jh u):aql (fv v++s) (fv u++t)=if qy v u=0 then aql s t else qy v u:=by
 have B:∀n,fv ⟨1,n,⟨#[]⟩⟩=2::th (n+9223372036854775808).toNat:=fun _=>rfl;have D:∀s,fv ⟨2,0,s⟩=3::(s.data.toList++[0]):=fun _=>rfl;have G:fv ⟨0,0,⟨#[]⟩⟩=[1]:=rfl;have O:aql=aql:=rfl;have step:∀(c:UInt8) (a b:List UInt8),aql (c::a) (c::b)=aql a b:=fun c a b=>by simp[aql]
 have q:∀(c d:UInt8) (a b:List UInt8),c<d->aql (c::a) (d::b)=-1:=fun c d a b h=>by simp[aql,h]
 have z:∀(c d:UInt8) (a b:List UInt8),d<c->aql (c::a) (d::b)=1:=fun c d a b h=>by
  have:¬c<d:=fun H=>ard _ (arf h H);simp[aql,h,this]
 rcases pA v hv with rfl|⟨n,rfl,Q,H⟩|⟨x,rfl,L,_⟩<;>rcases pA u hu with rfl|⟨m,rfl,g1,g2⟩|⟨y,rfl,M,_⟩
 ·rw[G];simp[step,qy,aql]
 ·rw[G,B,aqm,aqm,q _ _ _ _ (by decide)];rfl
 ·rw[G,D,aqm,aqm,q _ _ _ _ (by decide)];rfl
 ·rw[G,B,aqm,aqm,z _ _ _ _ (by decide)];rfl
 ·rw[B,B,aqm,aqm,step,L3 (th (n+9223372036854775808).toNat) (th (m+9223372036854775808).toNat) _ _ (by rw[gn,gn]),BU _ (by omega),BU _ (by omega)];have hc:qy ⟨1,n,⟨#[]⟩⟩ ⟨1,m,⟨#[]⟩⟩=if n<m then-1 else if m<n then 1 else 0:=by
   unfold qy;simp[aql]
  rw[hc];by_cases I:n<m
  ·rw[if_pos (by omega),if_pos I];rfl
  ·rw[if_neg (by omega),if_neg I];by_cases J:m<n
   ·rw[if_pos (by omega),if_pos J];rfl
   ·rw[if_neg (by omega),if_neg J];rfl
 ·rw[B,D,aqm,aqm,q _ _ _ _ (by decide)];rfl
 ·rw[G,D,aqm,aqm,z _ _ _ _ (by decide)];rfl
 ·rw[B,D,aqm,aqm,z _ _ _ _ (by decide)];rfl
 ·rw[D,D,aqm,aqm,step,aqq,aqq];have hc:qy ⟨2,0,x⟩ ⟨2,0,y⟩=aql x.data.toList y.data.toList:=by
   unfold qy;simp
  rw[hc];exact Ph _ _ _ _ L M
theorem L4:∀(a b:List cD),(∀v∈a,jh v)->(∀v∈b,jh v)->aql (dW a) (dW b)=GZ a b:=by
 intro a
 induction a with
 |nil=>
  intro b _ _;cases b with
  |nil=>rfl
  |cons u b=>
   obtain⟨c,l,hc⟩:=vH u;rw[show dW (u::b)=fv u++dW b from rfl,hc]
   rfl
 |cons v a y=>
  intro b ha s;cases b with
  |nil=>
   obtain⟨c,l,hc⟩:=vH v;rw[show dW (v::a)=fv v++dW a from rfl,hc]
   rfl
  |cons u b=>
   rw[show dW (v::a)=fv v++dW a from rfl,show dW (u::b)=fv u++dW b from rfl,Rw v u _ _ (ha v aqz) (s u aqz),
    y b (fun x q=>ha x (aqx _ q)) (fun x q=>s x (aqx _ q))]
   rfl
end
section
open Go Go.RowKit
theorem Ma{a0 b:World}{v4:Value}{l:List UInt8}{m k:Nat}{q:Int}{c:UInt8}(hc:(th m)[k]?=some c)(s:q=(c.toNat:Int))
  (h:b.ownsRow a0.heap.size 5 1 v4 ((l++(th m).take k).length+1) ((l++(th m).take k).map lk++[.int .u8 q])):ey a0 b v4 (l++(th m).take (k+1)):=by
 obtain⟨y,z⟩:=List.getElem?_eq_some_iff.1 hc;have e:l++(th m).take (k+1)=(l++(th m).take k)++[c]:=by rw[aqt y,z,aqq]
 unfold ey;rw[e,aqn,aqV];have B:[c].map lk=[aqP .u8 q]:=by rw[s];rfl
 rw[B];exact h
theorem UP(a0 w:World)(v:Value)(l:List UInt8)(n:Int)(hn:-9223372036854775808<=n/\n<=9223372036854775807)(Z:l.length<=100000000000)(s:Gr a0 w)(b:ey a0 w v l):
  Calls aqO 115 #[v,.int .i64 n] w fun e w'=>∃M,e=.returned M/\ey a0 w' M (l++th (n+9223372036854775808).toNat)/\Gr a0 w':=by
 obtain⟨U,hi,G,H,I⟩:=arh wj;go_enter Tryz.func115,Tryz.ntmps115;go_wp2_with fail
 have y:=N6 n hn.1 hn.2;rw[y];clear y;have O:(n+9223372036854775808).toNat<18446744073709551616:=by omega
 generalize z:(n+9223372036854775808).toNat=m at*;have J:=aqo z;clear z;have V:Hid (∃k:Nat,k<=8/\(7:Int)=7-(k:Int)/\ey a0 w v (l++(th m).take k)):=aqo ⟨0,by omega,by omega,by simpa using b⟩;clear b;have HM:=aqo O;clear O;go_loopw [6,0] (fun i u w'=>∃k:Nat,k<=8/\i=.int .i64 (7-(k:Int))/\Gr a0 w'/\ey a0 w' u (l++(th m).take k)) (fun i _ _=>(intOf i+1).toNat)
 case atStart=>
  obtain⟨k,Q,Y,b⟩:=V.out;exact⟨k,Q,by rw[<-Y],s,b⟩
 case round=>
  obtain⟨k,Q,rfl,s,b⟩:=hrel;have B:=aqo b;clear b;have D:k=0\/k=1\/k=2\/k=3\/k=4\/k=5\/k=6\/k=7\/k=8:=by omega
  rcases D with rfl|rfl|rfl|rfl|rfl|rfl|rfl|rfl|rfl
  all_goals try clear D
  rotate_right
  ·go_wp2_with fail
   go_ret;refine⟨_,rfl,?_,s⟩;have S:=B.out;rw[aqv (by rw[gn];omega),<-J.out]at S;exact S
  all_goals
   go_wp2_with(at_builtin;(refine dK (a0:=a0) rfl _ _ 188 rfl 5 U (.int .u8 0) 1 1 aqr hi G H I rfl (by decide) _ _ _ rfl (ey.row B.out) [_] rfl (by simp;rfl) rfl s (by simp;omega) (by simp;omega) ?_);intro v4 w4 q L)
   refine⟨⟨_+1,?_,?_,L,Ma rfl ?_ q⟩,?_⟩
  all_goals first|omega|(simp[intOf];done)|exact SP m _|(simp;done)
def xa(w:World)(xs:List cD)(e:Ending)(w':World):Prop:=
 match fc xs with
 |none=>e=.returned (.tuple #[.string ⟨(dW xs).toArray⟩,.nilIface])/\Gr w w'
 |some i=>∃b,e=.returned (.tuple #[.string ⟨#[]⟩,.iface 190 (.pointer (some ⟨b,0,none⟩))])/\w.heap.size<=b/\w'.cell? ⟨b,0,none⟩=some (.int .i64 1)/\w'.cell? ⟨b,1,none⟩=some (.int .i64 (i:Int))/\Gr w w'
theorem G2(xs:List cD)(j:Nat)(h:j<xs.length)(b:fc (xs.take j)=none)(q:eD xs[j]=false):fc xs=some j:=by
 induction xs generalizing j with
 |nil=>simp at h
 |cons v xs s=>
  cases j with
  |zero=>
   simp only[aqS]at q;rw[fc,if_neg (by rw[q];decide)]
  |succ j=>
   rw[aq0,fc]at b;by_cases hv:eD v=true
   ·rw[if_pos hv]at b;rw[fc,if_pos hv,s j (by simpa using h) (by simpa using b) (by simpa using q)]
    rfl
   ·rw[if_neg hv]at b;cases b
theorem Cd(xs:List cD)(j:Nat)(h:j<xs.length)(b:fc (xs.take j)=none)(q:eD xs[j]=true):fc (xs.take (j+1))=none:=by
 induction xs generalizing j with
 |nil=>simp at h
 |cons v xs s=>
  cases j with
  |zero=>
   simp only[aqS]at q;simp[fc,q]
  |succ j=>
   rw[aq0,fc]at b⊢;by_cases hv:eD v=true
   ·rw[if_pos hv]at b⊢;rw[s j (by simpa using h) (by simpa using b) (by simpa using q)]
    rfl
   ·rw[if_neg hv]at b;cases b
theorem Mb(xs:List cD)(j:Nat)(h:j<xs.length):dW (xs.take (j+1))=dW (xs.take j)++fv xs[j]:=by
 unfold dW;rw[aqt h,aq1];simp
theorem Pn(xs:List cD)(j:Nat)(h:∀i (hi:i<xs.length),xs[i].text.size<=1000000):(dW (xs.take j)).length<=xs.length*1000009:=by
 have:∀(l:List cD),(∀v∈l,v.text.size<=1000000)->(dW l).length<=l.length*1000009:=by
  intro l
  induction l with
  |nil=>intro _;simp[dW]
  |cons v l s=>
   intro hv;have b:=s (fun u hu=>hv u (aqx _ hu));have q:=hv v aqz;have z:(fv v).length<=1000009:=by
    unfold fv;have y:=q;rw[size_data]at y
    split
    ·simp[gn]
    ·split<;>simp<;>omega
   unfold dW at b⊢;rw[aqM,aqn,aqp];omega
 have b:=this (xs.take j) (fun v hv=>by
  obtain⟨i,hi,rfl⟩:=List.getElem_of_mem (List.mem_of_mem_take hv);exact h i hi)
 have q:(xs.take j).length<=xs.length:=List.length_take_le' _ _;exact arq b (aqs 1000009 q)
theorem UQ(xs:List cD)(b b7 c:Nat)(ao:Option Addr)(b8:0<xs.length->ao=some ⟨b,b7,none⟩)(hl:xs.length<=1000)(hr:∀i (h:i<xs.length),(-9223372036854775808<=xs[i].num/\xs[i].num<=9223372036854775807)/\xs[i].text.size<=1000000)(w:World)(hc:lR w b b7 xs):
  Calls aqO 63 #[.slice ao xs.length c] w (xa w xs):=by
 obtain⟨i0,hi,L,M,O⟩:=arh wj;have HC:=aqo hc;have HA:=aqo b8;have HR:=aqo hr;clear hc b8 hr;go_enter Tryz.func63,Tryz.ntmps63;go_wp2_with fail
 go_loopw [9,4] (fun i u w'=>∃j:Nat,j<=xs.length/\i=.int .i64 j/\Gr w w'/\fc (xs.take j)=none/\ey w w' u (dW (xs.take j))) (fun i _ _=>xs.length-(intOf i).toNat)
 case atStart=>exact⟨0,Nat.zero_le _,rfl,Gr.refl _,rfl,⟨rfl,.inl ⟨rfl,rfl⟩⟩⟩
 case round=>
  obtain⟨j,hj,rfl,hg,D,ho⟩:=hrel;have HO:=aqo ho;have HF:=aqo D;clear ho D;by_cases G:j<xs.length
  ·obtain rfl:=HA.out (by omega);have hv:=HC.out.gr hg j G;obtain⟨c0,c1,c2⟩:=hv;have c8:=(HR.out j G).2;generalize b9:xs[j]=x at*;have HX:=aqo b9;clear b9;cases H:eD x
   ·have HB:=aqo H;clear H;go_wp2_with(go_at_call 114;refine(ml x (by omega) _).mono ?_;rintro e w1 ⟨rfl,q⟩;rw[HB.out])
    have D:=G2 xs j G HF.out (by rw[HX.out];exact HB.out);refine aqA (v:=.tuple #[.string ⟨#[]⟩,.iface 190 (.pointer (some ⟨w1.heap.size,0,none⟩))]) (by simp[aq6,ari,go_sem]) rfl ?_;unfold xa;rw[D];have B:=(hg.alloc _).trans q;exact⟨_,rfl,B.size,by rw[aqk];rfl,by rw[aqk];rfl,B.alloc _⟩
   ·have HB:=aqo H;have c5:=G0 x H;have a7:=aqo (Cd xs j G HF.out (by rw[HX.out];exact H));have a8:=Mb xs j G;rw[HX.out]at a8;have a9:=aqo a8;have g0:=Pn xs j (fun i h=>(HR.out i h).2);have z:¬u4.ownBlock=some wr.heap.size:=fun h=>aq5 _ (ba (ey.row HO.out) _ h);have b0:=(HR.out j G).1;rw[HX.out]at b0;have I:x.text.size<=9223372036854775807:=by omega
    clear H a8;obtain⟨kx,nx,V⟩:=x;simp only at c0 c1 c2 c8 c5 b0 I;rcases c5 with rfl|rfl|rfl
    ·go_wp2_with fail
     refine(ml ⟨0,nx,V⟩ I _).mono ?_;rintro e w1 ⟨rfl,q⟩;rw[HB.out];have Y:=q.keeps (b:=wr.heap.size) (o:=0) (v:=.int .i64 0) (by rw[aqk];rfl);have Z:=q.keeps (b:=wr.heap.size) (o:=1) (v:=.int .i64 nx) (by rw[aqk];rfl);have k2:=q.keeps (b:=wr.heap.size) (o:=2) (v:=.string V) (by rw[aqk];rfl);have Q:=q.size;have S:=aL (ey.row HO.out) (((Gr.refl _).alloc _).trans q);have B:=(hg.alloc _).trans q;simp only[aqB]at Q;go_wp2_with(first|(at_builtin;refine mS (a0:=w) rfl _ _ 188 rfl 5 i0 (.int .u8 0) 1 1 aqr hi L M O rfl (by decide) _ _ _ rfl S [_] rfl (by simp;rfl) rfl B (by omega) (by omega) ?_;intro v3 w3 s U y;have m0:=(y wr.heap.size 0 (by omega) z).1.trans Y;have m1:=(y wr.heap.size 1 (by omega) z).1.trans Z;have m2:=(y wr.heap.size 2 (by omega) z).1.trans k2;clear Y Z k2;have H3:Hid (ey w w3 v3 (dW (xs.take j)++[1])):=aqo (nm s);clear s;have J:Hid ((dW (xs.take j)++[(1:UInt8)]).length=(dW (xs.take j)).length+1):=aqo (by rw[aqn];rfl)))
     refine⟨⟨j+1,by omega,by go_num,U,a7.out,?_⟩,by simp[intOf];omega⟩;rw[a9.out];exact H3.out
    ·go_wp2_with fail
     refine(ml ⟨1,nx,V⟩ I _).mono ?_;rintro e w1 ⟨rfl,q⟩;rw[HB.out];have Y:=q.keeps (b:=wr.heap.size) (o:=0) (v:=.int .i64 1) (by rw[aqk];rfl);have Z:=q.keeps (b:=wr.heap.size) (o:=1) (v:=.int .i64 nx) (by rw[aqk];rfl);have k2:=q.keeps (b:=wr.heap.size) (o:=2) (v:=.string V) (by rw[aqk];rfl);have Q:=q.size;have S:=aL (ey.row HO.out) (((Gr.refl _).alloc _).trans q);have B:=(hg.alloc _).trans q;simp only[aqB]at Q;go_wp2_with(first|(at_builtin;refine mS (a0:=w) rfl _ _ 188 rfl 5 i0 (.int .u8 0) 1 1 aqr hi L M O rfl (by decide) _ _ _ rfl S [_] rfl (by simp;rfl) rfl B (by omega) (by omega) ?_;intro v3 w3 s U y;have m0:=(y wr.heap.size 0 (by omega) z).1.trans Y;have m1:=(y wr.heap.size 1 (by omega) z).1.trans Z;have m2:=(y wr.heap.size 2 (by omega) z).1.trans k2;clear Y Z k2;have H3:Hid (ey w w3 v3 (dW (xs.take j)++[2])):=aqo (nm s);clear s;have J:Hid ((dW (xs.take j)++[(2:UInt8)]).length=(dW (xs.take j)).length+1):=aqo (by rw[aqn];rfl))|(go_at_call 115;refine(UP w w3 v3 _ nx b0 (by rw[J.out];omega) U H3.out).mono ?_;rintro e w4 ⟨v4,rfl,c6,b1⟩;have H4:=aqo c6;clear c6))
     refine⟨⟨j+1,by omega,by go_num,b1,a7.out,?_⟩,by simp[intOf];omega⟩;rw[a9.out];have h4:=H4.out;rw[aqq]at h4;exact h4
    ·go_wp2_with fail
     refine(ml ⟨2,nx,V⟩ I _).mono ?_;rintro e w1 ⟨rfl,q⟩;rw[HB.out];have Y:=q.keeps (b:=wr.heap.size) (o:=0) (v:=.int .i64 2) (by rw[aqk];rfl);have Z:=q.keeps (b:=wr.heap.size) (o:=1) (v:=.int .i64 nx) (by rw[aqk];rfl);have k2:=q.keeps (b:=wr.heap.size) (o:=2) (v:=.string V) (by rw[aqk];rfl);have Q:=q.size;have S:=aL (ey.row HO.out) (((Gr.refl _).alloc _).trans q);have B:=(hg.alloc _).trans q;simp only[aqB]at Q;go_wp2_with(first|(at_builtin;refine mS (a0:=w) rfl _ _ 188 rfl 5 i0 (.int .u8 0) 1 1 aqr hi L M O rfl (by decide) _ _ _ rfl S [_] rfl (by simp;rfl) rfl B (by omega) (by omega) ?_;intro v3 w3 s U y;have m0:=(y wr.heap.size 0 (by omega) z).1.trans Y;have m1:=(y wr.heap.size 1 (by omega) z).1.trans Z;have m2:=(y wr.heap.size 2 (by omega) z).1.trans k2;clear Y Z k2;have H3:Hid (ey w w3 v3 (dW (xs.take j)++[3])):=aqo (nm s);clear s;have J:Hid ((dW (xs.take j)++[(3:UInt8)]).length=(dW (xs.take j)).length+1):=aqo (by rw[aqn];rfl))|(at_builtin;refine FB (a0:=w) rfl _ _ 188 9 rfl 5 i0 aqr Tryz.underlying9 hi L M O _ _ _ rfl (ey.row H3.out) V rfl U (by rw[J.out];omega) ?_;intro v4 w4 b5 b1 d8)|(at_builtin;refine mS (a0:=w) rfl _ _ 188 rfl 5 i0 (.int .u8 0) 1 1 aqr hi L M O rfl (by decide) _ _ _ rfl b5 [_] rfl (by simp;rfl) rfl b1 (by rw[J.out];omega) (by rw[J.out];omega) ?_;intro v5 w5 b6 c9 d9))
     refine⟨⟨j+1,by omega,by go_num,c9,a7.out,?_⟩,by simp[intOf];omega⟩;rw[a9.out];have h5:ey w w5 v5 ((dW (xs.take j)++[3])++V.data.toList++[0]):=by
      unfold ey;rw[aqn,aqV,aqn,aqV,<-size_data];exact b6
     rw[aqq,aqq]at h5;exact h5
  ·have g3:=oQ HO.out;go_wp2_with fail
   refine aqA (v:=.tuple #[.string ⟨(dW (xs.take j)).toArray⟩,.nilIface]) (by simp[aq6,ari,go_sem]) rfl ?_;have e:xs.take j=xs:=aqv (by omega);have D:=HF.out;rw[e]at D;rw[e];unfold xa;rw[D];exact⟨rfl,hg⟩
def rY(a0 w:World)(v:Value)(xs:List cD):Prop:=w.ownsRow a0.heap.size 132 3 v xs.length (xs.flatMap fun x=>[.int .i64 x.kind,.int .i64 x.num,.string x.text])
def kr(w:World)(l:List UInt8)(e:Ending)(w':World):Prop:=
 match fi l with
 |none=>e=.returned (.tuple #[.slice none 0 0,.iface 24 (.int .i64 3)])/\Gr w w'
 |some xs=>∃v,e=.returned (.tuple #[v,.nilIface])/\rY w w' v xs/\Gr w w'
theorem Po:(aqO.info? 132).map (fun i=>(i.zero,i.size,i.bytes))=some (some (.agg #[.int .i64 0,.int .i64 0,.string ⟨#[]⟩]),3,32):=by kernel_rfl
def jj(w:World):Prop:=∃m:Int,w.cell? ⟨2,0,none⟩=some (.int .i64 m)
theorem jj.gr{w w':World}(h:jj w)(g:Gr w w'):jj w':=by
 obtain⟨m,h⟩:=h;exact⟨m,g.keeps h⟩
theorem mM(s b:ByteArray)(w:World)(hs:s.size<4294967281)(q:jj w):
  Calls aqO 118 #[.string s,.string b] w (ar w (.tuple #[.string ⟨(aqZ s.data.toList b.data.toList).1.toArray⟩,.string ⟨(aqZ s.data.toList b.data.toList).2.1.toArray⟩,.bool (aqZ s.data.toList b.data.toList).2.2])):=by
 obtain⟨m,q⟩:=q;refine(Tryz.strings_Cut s b m w hs q).mono ?_;rintro e w' ⟨rfl,n,rfl⟩;exact⟨rfl,(Gr.refl w).drewN n⟩
theorem vL{a0 w:World}{v:Value}{xs:List cD}{x:cD}(h:w.ownsRow a0.heap.size 132 3 v (xs.length+1) ((xs.flatMap fun x=>[.int .i64 x.kind,.int .i64 x.num,.string x.text])++[.int .i64 x.kind,.int .i64 x.num,.string x.text])):rY a0 w v (xs++[x]):=by
 unfold rY;rw[aqn,aq1];simpa using h
theorem rY.row{a0 w:World}{v:Value}{xs:List cD}(h:rY a0 w v xs):w.ownsRow a0.heap.size 132 3 v xs.length (xs.flatMap fun x=>[.int .i64 x.kind,.int .i64 x.num,.string x.text]):=h
theorem G3(x:List UInt8)(h:eD ⟨2,0,⟨x.toArray⟩⟩=true):¬40<x.length:=by
 unfold eD at h;simp at h;omega
theorem JG(x:List UInt8)(b:x.all (·!=0)=true)(h:eD ⟨2,0,⟨x.toArray⟩⟩=false):40<x.length:=by
 unfold eD at h;simp only[b]at h;simp at h;omega
theorem pO(a b:Int)(s:ByteArray):∀u∈[aqP .i64 a,aqP .i64 b,Value.string s],u.oneCell'=true:=by
 intro u hu;simp only[List.mem_cons,List.mem_nil_iff,or_false]at hu;rcases hu with rfl|rfl|rfl<;>rfl
theorem vM{l:List UInt8}{us:List cD}{k:UInt8}{s r:List UInt8}{v:cD}(h:fi l=(fi (k::s)).map (us++·))(b:fb (k::s)=some (v,r)):fi l=(fi r).map ((us++[v])++·):=by
 rw[h,zu _ _ _ _ b,Option.map_map]
 congr 1
 funext x
 simp
theorem tY{l:List UInt8}{us:List cD}{k:UInt8}{s:List UInt8}(h:fi l=(fi (k::s)).map (us++·))(b:fb (k::s)=none):fi l=none:=by
 rw[h,JB _ _ b];rfl
theorem RF(U c:Nat)(q:U<72057594037927936)(hc:c<256):bits BinOp.or aqN ((U:Int)*256) (c:Int)=((U*256+c:Nat):Int):=by
 have e:((U:Int)*256)=((U*256:Nat):Int):=by omega
 rw[e];show aqN.wrap ((aqT 64 ((U*256:Nat):Int)|||aqT 64 (c:Int)).toNat:Int)=_;rw[BitVec.toNat_or,et _ (by omega),et _ (by omega),aq8];have h:=Nat.two_pow_add_eq_or_of_lt (i:=8) (b:=c) hc U;rw[Nat.mul_comm]at h;rw[show(2:Nat)^8=256 from rfl]at h;rw[<-h];omega
theorem Pp(M:Nat)(h:M<18446744073709551616):wrap64 (bits arw aqN (M:Int) 9223372036854775808)=(M:Int)-9223372036854775808:=by
 have q:bits arw aqN (M:Int) 9223372036854775808=aqN.wrap ((aqT 64 (M:Int)^^^aqT 64 ((9223372036854775808:Nat):Int)).toNat:Int):=rfl;rw[q,BitVec.toNat_xor,et M h,et _ (by omega),aq8];have e:((M^^^9223372036854775808:Nat):Int)=if M<9223372036854775808 then(M:Int)+9223372036854775808 else(M:Int)-9223372036854775808:=by
  split
  ·rename_i b
   have:=wi M b;rw[aq7,show(9223372036854775808:Nat)=2^63 from rfl,<-this];omega
  ·rename_i b
   obtain⟨y,rfl⟩:=Nat.exists_eq_add_of_le (Nat.le_of_not_lt b);have:=wi y (by omega);rw[show(9223372036854775808:Nat)=2^63 from rfl,this,aq7 (2^63) y,Nat.xor_assoc,Nat.xor_self,Nat.xor_zero];rw[aq7,<-this];omega
 rw[e];unfold wrap64
 split<;>omega
theorem Pq(R:ByteArray)(q:Nat)(h:q<R.size):nc (R.data.toList.take (q+1))=nc (R.data.toList.take q)*256+R[q].toNat:=by
 have b:q<R.data.toList.length:=by rw[<-size_data];exact h
 unfold nc;rw[aqt b,List.foldl_append,eH R q h]
 rfl
theorem ND(l:List UInt8):nc l<256^l.length:=by
 have:∀(l:List UInt8) (n:Nat),l.foldl (fun n c=>n*256+c.toNat) n<(n+1)*256^l.length:=by
  intro l
  induction l with
  |nil=>intro n;simp
  |cons c l b=>
   intro n;have q:=b (n*256+c.toNat);have s:=aqG c;rw[aqU,aqp,aq4];refine aqH q ?_;rw[<-ark];refine aqs _ ?_;omega
 simpa[nc]using this l 0
def RG(w:World)(l:List UInt8)(b:Nat)(x u:Value)(w':World):Prop:=
 ∃(t:ByteArray) (us:List cD),x=.string t/\t.size+us.length<=b/\Gr w w'/\rY w w' u us/\fi l=(fi t.data.toList).map (us++·)
theorem NF(s:ByteArray)(hs:s.size<4294967281)(w:World)(hm:jj w):Calls aqO 65 #[.string s] w (kr w s.data.toList):=by
 obtain⟨i0,hi,a5,a6,a7⟩:=arh Po;have HM:=aqo hm;clear hm;go_enter Tryz.func65,Tryz.ntmps65;go_wp2_with fail
 go_loopw [0,4] (fun x u w'=>RG w s.data.toList s.size x u w') (fun x _ _=>lenOf x)
 case atStart=>exact⟨s,[],rfl,by simp,Gr.refl _,⟨rfl,.inl ⟨rfl,rfl⟩⟩,by simp⟩
 case round=>
  obtain⟨t,us,rfl,g9,S,ho,b5⟩:=hrel;have HO:=aqo ho;have HR:=aqo b5;clear ho b5;cases B:t.data.toList with
  |nil=>
   have hb:(!t.toList.isEmpty)=false:=by rw[aqE,B];rfl
   have HT:=aqo B;clear B;go_wp2_with fail
   go_ret2;unfold kr;rw[HR.out,HT.out];exact⟨_,rfl,by simpa[fi,tf]using HO.out,S⟩
  |cons k r=>
   have hb:(!t.toList.isEmpty)=true:=by rw[aqE,B];rfl
   have d0:0<t.size:=by rw[size_data,B];simp
   have hk:=QH t k r B d0;obtain⟨R,rfl⟩:∃R:ByteArray,R.data.toList=r:=⟨⟨r.toArray⟩,rfl⟩;have b6:t.size=R.size+1:=by rw[size_data,B,size_data];rfl
   have hx:t.extract 1 (R.size+1)=R:=by rw[<-b6,N7 t k _ B]
   have I:Hid (fi s.data.toList=(fi (k::R.data.toList)).map (us++·)):=aqo (by rw[HR.out,B]);have h0:=aqG k;have a8:=aqo b6;have h4:us.length+R.size+1<=s.size:=by omega
   clear B HR;have d3:k=1\/k=2\/k=3\/(k≠1/\k≠2/\k≠3):=by
    by_cases h1:k=1
    ·exact .inl h1
    ·by_cases h2:k=2
     ·exact .inr (.inl h2)
     ·by_cases h3:k=3
      ·exact .inr (.inr (.inl h3))
      ·exact .inr (.inr (.inr ⟨h1,h2,h3⟩))
   rcases d3 with rfl|rfl|rfl|⟨h1,h2,h3⟩
   ·go_wp2_with fail
    refine(ml ⟨0,0,⟨#[]⟩⟩ (by decide) _).mono ?_;rintro e w1 ⟨rfl,y⟩;rw[show eD ⟨0,0,⟨#[]⟩⟩=true from rfl];have k0:=y.keeps (b:=wr.heap.size) (o:=0) (v:=.int .i64 0) (by rw[aqk];rfl);have k1:=y.keeps (b:=wr.heap.size) (o:=1) (v:=.int .i64 0) (by rw[aqk];rfl);have k2:=y.keeps (b:=wr.heap.size) (o:=2) (v:=.string ⟨#[]⟩) (by rw[aqk];rfl);have J:=aL (rY.row HO.out) (((Gr.refl _).alloc _).trans y);have L:=(S.alloc _).trans y;go_wp2_with(at_builtin;refine dK (a0:=w) rfl _ _ 133 rfl 132 i0 (.agg #[.int .i64 0,.int .i64 0,.string ⟨#[]⟩]) 3 32 aqI hi a5 a6 a7 rfl (by decide) _ _ _ rfl J [_,_,_] rfl (pO _ _ _) rfl L (by omega) (by omega) ?_;intro v4 w4 D V)
    exact⟨⟨R,us++[⟨0,0,⟨#[]⟩⟩],rfl,by rw[aqn];simp;omega,V,vL D,vM I.out rfl⟩,by show R.size<t.size;rw[a8.out];omega⟩
   ·by_cases h8:R.size<8
    ·go_wp2_with fail
     refine aqA (v:=.tuple #[.slice none 0 0,.iface 24 (.int .i64 3)]) (by simp[aq6,aqJ,go_sem]) rfl ?_;unfold kr;rw[tY I.out (by rw[fb,if_neg (by decide),if_pos rfl,if_pos (by rw[<-size_data];exact h8)])];exact⟨rfl,S.alloc _⟩
    ·go_wp2_with fail
     go_loop [31,6] (fun i u=>∃q:Nat,q<=8/\i=.int .i64 q/\u=.int .u64 (nc (R.data.toList.take q))) (fun i _=>8-(intOf i).toNat)
     case atStart=>exact⟨0,by omega,rfl,rfl⟩
     case round=>
      obtain⟨q,hq,rfl,rfl⟩:=hrel;by_cases h5:q<8
      ·have d4:q<R.size:=by omega
       have Y:=ND (R.data.toList.take q);have c3:=Pq R q d4;generalize nc (R.data.toList.take q)=U at*;have d5:=aqo c3;clear c3;have d6:=aqG R[q];have hU:U<72057594037927936:=aqH Y (by
        rw[show(72057594037927936:Nat)=256^7 from rfl];exact aqY (by omega) (by rw[aq9];omega))
       clear Y;go_wp2_with fail
       refine⟨⟨q+1,by omega,by go_num,?_⟩,by simp[intOf];omega⟩;rw[d5.out,RF U R[q].toNat hU d6]
      ·obtain rfl:q=8:=by omega
       have Y:=ND (R.data.toList.take 8);have hM:nc (R.data.toList.take 8)<18446744073709551616:=aqH Y (by
        rw[show(18446744073709551616:Nat)=256^8 from rfl];exact aqY (by omega) (by rw[aq9];omega))
       clear Y;generalize c4:nc (R.data.toList.take 8)=M at*;have d7:=aqo c4;have HM:=aqo hM;clear c4 hM;go_wp2_with fail
       go_region
       go_wp2_with fail
       rw[Pp M HM.out];have z:fb (2::R.data.toList)=some (⟨1,(M:Int)-9223372036854775808,⟨#[]⟩⟩,(R.extract 8 R.size).data.toList):=by
        rw[fb,if_neg (by decide),if_pos rfl,if_neg (by rw[<-size_data];omega),d7.out,Lib.extract_data,aqv (by rw[aq_,<-size_data];omega)]
       have h6:(R.extract 8 R.size).size<=R.size:=by rw[ByteArray.size_extract];omega
       generalize c5:(M:Int)-9223372036854775808=n at*;generalize R.extract 8 R.size=R2 at*;have HP:=aqo z;have h7:=aqo c5;clear z c5;refine(ml ⟨1,n,⟨#[]⟩⟩ (by show(0:Nat)<=9223372036854775807;omega) _).mono ?_;rintro e w1 ⟨rfl,y⟩;rw[show eD ⟨1,n,⟨#[]⟩⟩=true from rfl];have k0:=y.keeps (b:=wr.heap.size) (o:=0) (v:=.int .i64 1) (by rw[aqQ,aqk];rfl);have k1:=y.keeps (b:=wr.heap.size) (o:=1) (v:=.int .i64 n) (by rw[aqQ,aqk];rfl);have k2:=y.keeps (b:=wr.heap.size) (o:=2) (v:=.string ⟨#[]⟩) (by rw[aqQ,aqk];rfl);have J:=aL (rY.row HO.out) (((Gr.refl _).alloc _).drew.trans y);have L:=(S.alloc _).drew.trans y;clear y;go_wp2_with(at_builtin;refine dK (a0:=w) rfl _ _ 133 rfl 132 i0 (.agg #[.int .i64 0,.int .i64 0,.string ⟨#[]⟩]) 3 32 aqI hi a5 a6 a7 rfl (by decide) _ _ _ rfl J [_,_,_] rfl (pO _ _ _) rfl L (by omega) (by omega) ?_;intro v4 w4 D V)
       exact⟨⟨R2,us++[⟨1,n,⟨#[]⟩⟩],rfl,by rw[aqn];simp;omega,V,vL D,vM I.out HP.out⟩,by show R2.size<t.size;rw[a8.out];omega⟩
   ·have c6:=mM R ⟨#[0]⟩;cases O:R.data.toList.all (·!=0)
    ·have Z:=Pg R.data.toList O;have c7:=Tq R.data.toList;have h9:(R.data.toList.takeWhile (·!=0)).length<=R.size:=by rw[size_data];exact(aqW _).length_le
     have z:fb (3::R.data.toList)=if 40<(R.data.toList.takeWhile (·!=0)).length then none else some (⟨2,0,⟨(R.data.toList.takeWhile (·!=0)).toArray⟩⟩,R.data.toList.drop ((R.data.toList.takeWhile (·!=0)).length+1)):=by
      rw[fb,if_neg (by decide),if_neg (by decide),if_pos rfl,if_neg (by rw[O];decide)]
     have d8:(R.data.toList.drop ((R.data.toList.takeWhile (·!=0)).length+1)).length<=R.size:=by rw[aq_,<-size_data];omega
     generalize R.data.toList.drop ((R.data.toList.takeWhile (·!=0)).length+1)=r2 at*;generalize R.data.toList.takeWhile (·!=0)=x at*;have a9:=aqo Z;have HP:=aqo z;have d9:=aqo c7;clear Z z c7 O c6;go_wp2_with fail
     refine(mM R ⟨#[0]⟩ _ (by omega) (HM.out.gr (S.alloc _))).mono ?_;rintro e w1 ⟨rfl,y⟩;rw[show(⟨#[0]⟩:ByteArray).data.toList=[0]from rfl,a9.out];simp only;have k0:=y.keeps (b:=wr.heap.size) (o:=0) (v:=.int .i64 2) (by rw[aqk];rfl);have k1:=y.keeps (b:=wr.heap.size) (o:=1) (v:=.int .i64 0) (by rw[aqk];rfl);have k2:=y.keeps (b:=wr.heap.size) (o:=2) (v:=.string ⟨#[]⟩) (by rw[aqk];rfl);have kf:=(y.frozen (b:=wr.heap.size) 2 (by simp)).trans (World.frozen?_alloc_new ..);have e0:=y.size;simp only[aqB]at e0;have J:=aL (rY.row HO.out) (((Gr.refl _).alloc _).trans y);have L:=(S.alloc _).trans y;have e1:=S.size;have c8:=cq J (a:=⟨wr.heap.size,2,none⟩) (u:=.string ⟨x.toArray⟩) (fun h=>aq5 _ (ba (rY.row HO.out) _ h));have b0:=L.setCell (p:=⟨wr.heap.size,2,none⟩) e1 (.string ⟨x.toArray⟩);clear y J L;cases Q:eD ⟨2,0,⟨x.toArray⟩⟩
     ·have b1:=aqo Q;have H:=JG x d9.out Q;have b2:=aqo H;clear Q H;go_wp2_with fail
      refine(ml ⟨2,0,⟨x.toArray⟩⟩ (by rw[size_data];show x.length<=_;omega) _).mono ?_;rintro e w2 ⟨rfl,G⟩;rw[b1.out];go_wp2_with fail
      refine aqA (v:=.tuple #[.slice none 0 0,.iface 24 (.int .i64 3)]) (by simp[aq6,aqJ,go_sem]) rfl ?_;unfold kr;rw[tY I.out (by rw[HP.out,if_pos b2.out])];exact⟨rfl,b0.trans G⟩
     ·have b1:=aqo Q;have H:=G3 x Q;have b2:=aqo H;clear Q H;go_wp2_with fail
      refine(ml ⟨2,0,⟨x.toArray⟩⟩ (by rw[size_data];show x.length<=_;omega) _).mono ?_;rintro e w2 ⟨rfl,G⟩;rw[b1.out];have c0:=G.keeps (b:=wr.heap.size) (o:=0) (v:=.int .i64 2) (by rw[aqK (h:=by intro h;injection h with _ h2 _;omega)];exact k0);have c1:=G.keeps (b:=wr.heap.size) (o:=1) (v:=.int .i64 0) (by rw[aqK (h:=by intro h;injection h with _ h2 _;omega)];exact k1);have c2:=G.keeps (b:=wr.heap.size) (o:=2) (v:=.string ⟨x.toArray⟩) (World.cell?_setCell_same (h:=k2) ..);clear k0 k1 k2 kf;have e2:=aL c8 G;have e3:=b0.trans G;clear c8 b0 G;go_wp2_with(at_builtin;refine dK (a0:=w) rfl _ _ 133 rfl 132 i0 (.agg #[.int .i64 0,.int .i64 0,.string ⟨#[]⟩]) 3 32 aqI hi a5 a6 a7 rfl (by decide) _ _ _ rfl e2 [_,_,_] rfl (pO _ _ _) rfl e3 (by omega) (by omega) ?_;intro v4 w4 D V)
      have c9:(⟨r2.toArray⟩:ByteArray).size<=R.size:=by rw[size_data];exact d8
      exact⟨⟨⟨r2.toArray⟩,us++[⟨2,0,⟨x.toArray⟩⟩],rfl,arq (Nat.add_le_add_right c9 _) (by rw[aqn];simp only[aqp,List.length_nil];omega),V,vL D,vM I.out (by rw[HP.out,if_neg b2.out])⟩,Nat.lt_of_le_of_lt c9 (by show R.size<t.size;rw[a8.out];omega)⟩
    ·have Z:=Pf R.data.toList O;have z:fb (3::R.data.toList)=none:=by
      rw[fb,if_neg (by decide),if_neg (by decide),if_pos rfl,if_pos O]
     have a9:=aqo Z;have HP:=aqo z;clear Z z O c6;go_wp2_with fail
     refine(mM R ⟨#[0]⟩ _ (by omega) (HM.out.gr (S.alloc _))).mono ?_;rintro e w1 ⟨rfl,y⟩;rw[show(⟨#[0]⟩:ByteArray).data.toList=[0]from rfl,a9.out];simp only;go_wp2_with fail
     refine aqA (v:=.tuple #[.slice none 0 0,.iface 24 (.int .i64 3)]) (by simp[aq6,aqJ,go_sem]) rfl ?_;unfold kr;rw[tY I.out HP.out];exact⟨rfl,(S.alloc _).trans y⟩
   ·have g1:((k.toNat:Int)-1==0)=false:=by have:=xx h1;simp at this⊢;omega
    have g2:((k.toNat:Int)-1==1)=false:=by have:=xx h2;simp at this⊢;omega
    have g3:((k.toNat:Int)-1==2)=false:=by have:=xx h3;simp at this⊢;omega
    have z:fb (k::R.data.toList)=none:=by rw[fb,if_neg h1,if_neg h2,if_neg h3]
    have HP:=aqo z;clear z h1 h2 h3;have g4:0<=(k.toNat:Int):=by omega
    go_wp2_with fail
    refine aqA (v:=.tuple #[.slice none 0 0,.iface 24 (.int .i64 3)]) (by simp[aq6,aqJ,go_sem]) rfl ?_;unfold kr;rw[tY I.out HP.out];exact⟨rfl,S.alloc _⟩
theorem NG:∀(xs:List cD) (i:Nat) (h:i<xs.length),(xs.flatMap fun x=>[aqP .i64 x.kind,.int .i64 x.num,.string x.text])[i*3]?=some (.int .i64 xs[i].kind)/\(xs.flatMap fun x=>[aqP .i64 x.kind,.int .i64 x.num,.string x.text])[i*3+1]?=some (.int .i64 xs[i].num)/\(xs.flatMap fun x=>[aqP .i64 x.kind,.int .i64 x.num,.string x.text])[i*3+2]?=some (.string xs[i].text)
 |[],i,h=>by simp at h
 |x::xs,0,_=>by simp
 |x::xs,i+1,h=>by
  have:=NG xs i (by simpa using h);have e:(i+1)*3=i*3+3:=by omega
  rw[e,aqM];simpa using this
theorem rY.Ub{a0 w:World}{v:Value}{xs:List cD}(h:rY a0 w v xs):∃y b c,v=.slice y xs.length c/\(0<xs.length->y=some ⟨b,0,none⟩)/\lR w b 0 xs:=by
 have hc:=fun g q=>aru (g:=g) h.row q;rcases h.row.2 with⟨rfl,G⟩|⟨g,cap,H,rfl,_⟩
 ·have s:xs.length=0:=G;exact⟨none,0,0,by rw[s],fun h=>by omega,fun i hi=>by omega⟩
 ·refine⟨_,g,cap,rfl,fun _=>rfl,fun i hi=>?_⟩;have q:=NG xs i hi;have z:=hc g rfl _ _ q.1;have B:=hc g rfl _ _ q.2.1;have D:=hc g rfl _ _ q.2.2;have e:∀j,(⟨g,0,none⟩:Addr).add j=⟨g,0+j,none⟩:=by
   intro j;unfold Addr.add;split<;>simp_all
  rw[e]at z B D;refine⟨z,?_,?_⟩
  ·rw[arl];exact B
  ·rw[arl];exact D
theorem pD:∀(k n:Nat) (r:List UInt8),n<128^k->0<k->fB k (gf n++r)=some (n,r)
 |0,_,_,_,h=>absurd h (aq5 0)
 |k+1,n,r,hn,_=>by
  by_cases h:n<128
  ·rw[gH n h];have hc:n.toUInt8.toNat=n:=by simp;omega
   simp[fB,hc,h]
  ·rw[oT n h];have hc:(128+n % 128).toUInt8.toNat=128+n % 128:=by simp;omega
   have b:0<k:=by
    rcases Nat.eq_zero_or_pos k with rfl|b
    ·simp at hn;omega
    ·exact b
   have q:=pD k (n/128) r (by rw[Nat.div_lt_iff_lt_mul (by omega)];rw[Nat.pow_succ]at hn;exact hn) b;rw[aqm];unfold fB;rw[hc,if_neg (by omega),q];simp;omega
theorem zz(n:Nat):1<=(gf n).length:=by
 by_cases h:n<128
 ·rw[gH n h];simp
 ·rw[oT n h];simp
def kV(a:aa):List aa->List UInt8
 |[]=>[]
 |p::t=>qd a p++kV p t
theorem Pu(a p:aa):1<=(qd a p).length:=by
 unfold qd
 split
 ·exact zz _
 ·rw[aqn];have:=zz (2*(p.1-a.1)+1).toNat;omega
theorem JP:∀(xs:List aa) (a:aa),xs.length<=(kV a xs).length
 |[],_=>art _
 |p::t,a=>by
  have:=JP t p;have:=Pu a p;unfold kV;rw[aqn,aqp];omega
theorem Ci:∀(xs:List aa) (a:aa),((arj xs.length).flatMap fun i=>qd (match i with|0=>a|k+1=>xs.getD k (0,0)) (xs.getD i (0,0)))=kV a xs
 |[],a=>rfl
 |p::t,a=>by
  have b:=Ci t p;rw[aqp,List.range_succ_eq_map,aqM,List.flatMap_map];unfold kV;rw[<-b]
  congr 1
  have:∀i,(match i+1 with|0=>a|k+1=>(p::t).getD k (0,0))=(match i with|0=>p|k+1=>t.getD k (0,0)):=fun i=>by
   cases i<;>simp
  refine congrArg (fun f=>ars f (arj t.length)) (funext fun i=>?_);cases i<;>simp
theorem zA(xs:List aa):bV xs=kV (0,0) xs:=by
 rw[<-Ci xs (0,0)];unfold bV xE;refine congrArg (fun f=>ars f (arj xs.length)) (funext fun i=>?_);cases i<;>rfl
def G9(a:aa):List aa->Prop
 |[]=>True
 |p::t=>(0<=a.1/\0<=a.2/\p.1<=1073741824/\0<=p.2/\p.2<=1073741823/\a.1<=p.1/\(a.1=p.1->a.2<=p.2))/\G9 p t
theorem Pv{xs:List aa}(h:eR xs=true):G9 (0,0) xs:=by
 have q:∀m k,k+m=xs.length->G9 (dQ xs k) (xs.drop k):=by
  intro m
  induction m with
  |zero=>
   intro k G;rw[List.drop_of_length_le (by omega)]
   trivial
  |succ m H=>
   intro k G;have b:k<xs.length:=by omega
   have s:=H (k+1) (by omega);have y:xs.getD k (0,0)=xs[k]:=by simp[List.getD_eq_getElem?_getD,b]
   obtain⟨z,I,L,J,M,B,D⟩:=sA b (fun i hi=>sy h i (by omega));rw[List.drop_eq_getElem_cons b];rw[y]at z B D;have hi:=iD.1 z;refine⟨⟨I,J,hi.2.1,hi.2.2.1,hi.2.2.2,B,D⟩,?_⟩;have:dQ xs (k+1)=xs[k]:=y;rw[<-this];exact s
 have:=q xs.length 0 (by omega);simpa[dQ]using this
theorem NJ:∀(xs:List aa) (a:aa),G9 a xs->la a (kV a xs)=some xs
 |[],a,_=>ID a
 |p::t,a,h=>by
  obtain⟨⟨I,J,L,M,O,Q,D⟩,S⟩:=h;have G:=NJ t p S;obtain⟨q,b⟩:=p;obtain⟨s,y⟩:=a;simp only at I J L M O Q D;unfold kV qd;simp only;by_cases H:q=s
  ·subst H;rw[if_pos rfl];have hd:=D rfl;have z:=pD 5 (2*(b-y)).toNat (kV (q,b) t) (by omega) (by omega);rw[DY z (by omega)];have e:(q,y+(((2*(b-y)).toNat/2:Nat):Int))=(q,b):=by
    congr 1
    omega
   simp only;rw[e,G]
   rfl
  ·rw[if_neg H,aqq];have z:=pD 5 (2*(q-s)+1).toNat (gf b.toNat++kV (q,b) t) (by omega) (by omega);have B:=pD 5 b.toNat (kV (q,b) t) (by omega) (by omega);rw[IE z (by omega) B];have e:(s+(((2*(q-s)+1).toNat/2:Nat):Int),((b.toNat:Nat):Int))=(q,b):=by
    congr 1<;>omega
   simp only;rw[e,G]
   rfl
theorem zB{xs:List aa}(h:eR xs=true):jU (bV xs)=some xs:=by
 unfold jU;rw[zA,NJ xs (0,0) (Pv h)];simp[h,zA]
