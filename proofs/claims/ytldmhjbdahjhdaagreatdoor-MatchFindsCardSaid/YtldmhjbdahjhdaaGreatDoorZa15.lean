/-
  Part 15 of the proof.
-/
import Derived.Test.YtldmhjbdahjhdaaGreatDoorZa7
import Derived.Test.YtldmhjbdahjhdaaGreatDoorZa14
import Derived.Test.YtldmhjbdahjhdaaGreatDoorZa11
open Go.Proofs.Tryz
open List renaming mem_singleton->ae,pairwise_append->ak,mem_append_right->az,mem_append->aJ,mem_append_left->aQ,mem_map->aS,length_append->aX,mem_cons_self->bc,pairwise_cons->bh,mem_cons->bt,filter_filter->bu,length_cons->bv,mem_flatten->bz,eq_nil_of_length_eq_zero->bA,pairwise_map->bB,getD_eq_getElem?_getD->bM,pairwise_iff_getElem->bT,pairwise_singleton->bW,map_append->bX,mem_cons_of_mem->b_,cons_append->cf,length_drop->cg,getElem?_eq_getElem->cj,mem_filter->cl,filter_congr->co,take_succ_eq_append_getElem->cs,getElem_mem->cD,length_nil->cK,getElem_of_mem->cL,mem_map_of_mem->cO,mem_flatMap->da,pairwise_flatten->dh,length_pos_iff->dA,flatMap_append->dD,map_cons->dJ,filter_append->dQ,find?_eq_none->dS,append_assoc->ea,getElem_take->eb,findIdx_cons->eh,drop_sublist->ej,find?_filter->ek,flatMap_cons->en,filter_cons->es,length_take->ew,append_nil->eH
open Go.Lib renaming compareBytes->aU,hid->bC,idxByFrom->cF,idxBy->di
open Nat renaming le_refl->aV,eq_zero_or_pos->bP,zero_add->el
open Go renaming Value->be,World->bj,wpList_plain->ch,Operand->dg,TypeId->dT,execOp->dU,Calls->eY,DataW->fA
open Prod renaming fst->bF
open Go.Result renaming andThen->bQ
open Go.World renaming cell?_alloc_new->bZ
open Int renaming le_refl->cW,toNat->fK
open List.Pairwise renaming nil->c2,and->fI
open UInt8 renaming not_lt->de,le_antisymm->dZ,lt_irrefl->eB
open Go.Oper renaming wp->dr
open Bool renaming and_comm->dF
open Go.Instr renaming lookup->em,range->fe,entry->fl
open Go.Proofs.Tryz renaming zeroCells89->ez,underlying3->eA
open Option.some renaming inj->eT
open Go.WideMaps renaming keyOf_string_mk->eV
open List.Sublist renaming refl->fy
open Go.Builtin renaming delete_->fM,delete->fS
open Go.IntKind renaming signed->fT,bits->gf
open Go.Lit renaming int->gc
set_option maxRecDepth 100000
set_option maxHeartbeats 100000000
set_option linter.all false
namespace Go.Proofs.YtldmhjbdahjhdaaGreatDoor
section
open Go Go.RowKit
theorem KX:∀(h a b x:List UInt8),aU (h++a) x≠1->aU x (h++b)≠1->∃t,x=h++t
 |[],_,_,x,_,_=>⟨x,rfl⟩
 |c::h,a,b,[],q,_=>absurd rfl q
 |c::h,a,b,d::x,q,s=>by
  rw[cf]at q s;simp only[aU]at q s;by_cases y:c<d
  ·have z:¬d<c:=fun h=>eB _ (UInt8.lt_trans y h);simp[y,z]at s
  by_cases z:d<c
  ·simp[y,z]at q
  have e:c=d:=dZ (de.1 z) (de.1 y);subst e;simp only[y,if_false]at q s;obtain⟨t,B⟩:=KX h a b x q s;exact⟨t,by rw[B];rfl⟩
theorem C4:∀(h x t:List UInt8),aU h x≠1->(∀u,x≠h++u)->aU (h++t) x=-1
 |[],x,t,_,s=>absurd rfl (s x)
 |c::h,[],t,b,_=>absurd rfl b
 |c::h,d::x,t,b,s=>by
  rw[cf];simp only[aU]at b⊢;by_cases q:c<d
  ·simp[q]
  by_cases y:d<c
  ·simp[q,y]at b
  have e:c=d:=dZ (de.1 y) (de.1 q);subst e;simp only[q,if_false]at b⊢;exact C4 h x t b fun u hu=>s u (by rw[hu];rfl)
theorem vU:∀(h t:List UInt8),aU h (h++t)≠1
 |[],[]=>by decide
 |[],_::_=>by simp[aU]
 |c::h,t=>by
  rw[cf];simp only[aU,eB,if_false];exact vU h t
def preB(h x:ByteArray):Bool:=h.data.toList.isPrefixOf x.data.toList
theorem gp{h x:ByteArray}:preB h x=true↔∃t,x.data.toList=h.data.toList++t:=by
 unfold preB;rw[List.isPrefixOf_iff_prefix]
 constructor
 ·rintro⟨t,e⟩;exact⟨t,e.symm⟩
 rintro⟨t,e⟩;exact⟨t,e.symm⟩
theorem le_iff{a b:ByteArray}:¬aC b a↔g_ a b≠1:=by
 rw[ku,wO a b];rcases CK a b with h|h|h<;>omega
theorem BV{h x:ByteArray}(b:preB h x=true):¬aC x h:=by
 obtain⟨t,e⟩:=gp.1 b;rw[le_iff];unfold g_;rw[e];exact vU _ _
theorem Tu{h a b x:ByteArray}(ha:preB h a=true)(y:preB h b=true)(q:¬aC x a)(s:¬aC b x):preB h x=true:=by
 obtain⟨t,e⟩:=gp.1 ha;obtain⟨u,f⟩:=gp.1 y;rw[le_iff]at q s;unfold g_ at q s;rw[e]at q;rw[f]at s;exact gp.2 (KX _ _ _ _ q s)
theorem Nj{h x y:ByteArray}(b:¬aC x h)(q:preB h x=false)(s:preB h y=true):aC y x:=by
 obtain⟨t,e⟩:=gp.1 s;rw[le_iff]at b;rw[ku];unfold g_ at b⊢;rw[e];refine C4 _ _ _ b fun u hu=>?_;have:preB h x=true:=gp.2 ⟨u,hu⟩;rw[q]at this;cases this
theorem takeWhile_filter{b:Type}{p:b->Bool}:∀{l:List b},l.Pairwise (fun x y=>p y=true->p x=true)->l.takeWhile p=l.filter p
 |[],_=>rfl
 |x::l,h=>by
  obtain⟨s,z⟩:=bh.1 h;rw[List.takeWhile_cons,es];cases q:p x with
  |true=>
   simp only[if_true];rw[takeWhile_filter z]
  |false=>
   simp only[Bool.false_eq_true,if_false];refine(my fun y B=>?_).symm;cases D:p y with
   |false=>rfl
   |true=>
    rw[s y B D]at q;cases q
def fd(l:LP)(s:ByteArray):LP:=l.filter fun x=>preB s x.1
theorem Gq{l:LP}(hs:eC l)(s:ByteArray):(jt l s).takeWhile (fun x=>preB s x.1)=fd l s:=by
 have B:(jt l s).Pairwise fun x y=>preB s y.1=true->preB s x.1=true:=by
  have D:eC (jt l s):=qp hs _;have G:=bB.1 D;refine G.imp_of_mem fun{x y} H J z q=>?_;have I:¬aC x.1 s:=by simpa using(cl.1 H).2
  refine Tu (a:=s) (b:=y.1) (gp.2 ⟨[],by simp⟩) q I (dO z)
 rw[takeWhile_filter B];unfold jt fd;rw[bu];refine co fun x _=>?_;cases q:preB s x.1 with
 |false=>simp
 |true=>
  have:=BV q;simp[this]
def ia(s:ByteArray):dl:=⟨2,0,s⟩
def lE(n:Int):dl:=⟨1,n,⟨#[]⟩⟩
def tD(l:List UInt8):ByteArray:=⟨l.toArray⟩
theorem zy(l:List UInt8):(tD l).data.toList=l:=rfl
theorem rm(l:List UInt8):(tD l).size=l.length:=by
 show l.toArray.size=_;simp
def cP(n w:ByteArray)(r:Int):ByteArray:=tD (eK [ia n,ia w,lE r])
def dx(n w:ByteArray):ByteArray:=tD (eK [ia n,ia w])
def jL(n:ByteArray):ByteArray:=tD (eK [ia n])
def bw:ByteArray:=⟨#[1]⟩
structure cI(w:ByteArray):Prop where
 nz:w.data.toList.all (·!=0)=true
 len:w.data.toList.length<=40
theorem cI.aE{w:ByteArray}(h:cI w):jK (ia w):=by
 refine⟨?_,by show(-9223372036854775808:Int)<=0;omega,by show(0:Int)<=9223372036854775807;omega⟩;unfold fb ia;have b:=h.nz;have q:=h.len;have s:w.size<=40:=by rw[size_data];exact q
 simp[b,s]
theorem ro{r:Int}(h:1<=r/\r<=1073741824):jK (lE r):=by
 refine⟨?_,by show(-9223372036854775808:Int)<=r;omega,by show r<=9223372036854775807;omega⟩;unfold fb lE;simp
theorem yc(w:ByteArray):fX (ia w)=3::(w.data.toList++[0]):=rfl
theorem lg(n w:ByteArray):(dx n w).data.toList=fX (ia n)++(fX (ia w)++[]):=rfl
theorem sq(n w:ByteArray)(r:Int):(cP n w r).data.toList=(dx n w).data.toList++fX (lE r):=by
 rw[lg];show fX (ia n)++(fX (ia w)++(fX (lE r)++[]))=_;simp
theorem lh(n w:ByteArray)(r:Int):preB (dx n w) (cP n w r)=true:=gp.2 ⟨_,sq n w r⟩
theorem C8(n w:ByteArray)(r:Int):preB (jL n) (cP n w r)=true:=gp.2 ⟨fX (ia w)++fX (lE r),by
 rw[sq,lg];show _=(fX (ia n)++[])++_;simp⟩
theorem pt(n w:ByteArray)(r:Int):(cP n w r).size=n.size+w.size+13:=by
 have b:∀s:ByteArray,s.data.toList.length=s.size:=fun s=>by rw[Array.length_toList];rfl
 rw[<-b (cP n w r),sq,lg,yc,yc];have:(fX (lE r)).length=9:=rfl;simp only[aX,bv,cK,this,b];omega
theorem C9:∀(x y s t:List UInt8),x.all (·!=0)=true->y.all (·!=0)=true->x++0::s=y++0::t->x=y/\s=t
 |[],[],s,t,_,_,h=>⟨rfl,by injection h⟩
 |[],c::y,s,t,_,b,h=>by
  injection h with q B
  rw[<-q]at b;simp at b
 |c::x,[],s,t,z,_,h=>by
  injection h with q B
  rw[q]at z;simp at z
 |c::x,d::y,s,t,z,b,h=>by
  injection h with q B
  simp only[List.all_cons,Bool.and_eq_true]at z b;obtain⟨D,G⟩:=C9 x y s t z.2 b.2 B;exact⟨by rw[q,D],G⟩
theorem Gs{n w b:ByteArray}(hw:cI w)(q:cI b){r:Int}(h:preB (dx n w) (cP n b r)=true):w=b:=by
 obtain⟨t,e⟩:=gp.1 h;rw[sq,lg,lg,yc,yc]at e;simp only[ea,eH]at e;have e:=List.append_cancel_left e;simp only[cf]at e;injection e with _ e
 simp only[ea,List.singleton_append]at e;have s:b.data.toList++0::fX (lE r)=w.data.toList++0::t:=e.trans (by
  show(w.data.toList++[0])++t=_;simp)
 obtain⟨y,_⟩:=C9 _ _ _ _ q.nz hw.nz s;exact(bE y).symm
theorem ET{n w b:ByteArray}(hw:cI w)(q:cI b)(r:Int):preB (dx n w) (cP n b r)=decide (w=b):=by
 cases h:preB (dx n w) (cP n b r)with
 |true=>rw[Gs hw q h];simp
 |false=>
  by_cases e:w=b
  ·subst e;rw[lh]at h;cases h
  rw[decide_eq_false e]
theorem C_(n:ByteArray){x:ByteArray}(h:preB (jL n) x=true):aC bw x:=by
 obtain⟨t,e⟩:=gp.1 h;rw[ku];unfold g_;rw[e];show aU [1] ((3::(n.data.toList++[0])++[])++t)=-1;simp only[cf,aU]
 rfl
theorem wW(n w:ByteArray)(r:Int):aC bw (cP n w r):=C_ n (C8 n w r)
theorem KY(n w:ByteArray):preB (jL n) (dx n w)=true:=gp.2 ⟨fX (ia w)++[],by
 rw[lg];show _=(fX (ia n)++[])++_;simp⟩
theorem AG(n w:ByteArray):aC bw (dx n w):=C_ n (KY n w)
theorem AH(n:ByteArray):aC bw (jL n):=C_ n (gp.2 ⟨[],by simp⟩)
theorem EU(n w:ByteArray):preB (dx n w) bw=false:=by
 cases h:preB (dx n w) bw with
 |false=>rfl
 |true=>exact absurd (AG n w) (BV h)
theorem Da(n:ByteArray):preB (jL n) bw=false:=by
 cases h:preB (jL n) bw with
 |false=>rfl
 |true=>exact absurd (AH n) (BV h)
theorem Gt{n w:ByteArray}(hn:cI n)(hw:cI w){r s:Int}(y:1<=r/\r<=1073741824)(hs:1<=s/\s<=1073741824):g_ (cP n w r) (cP n w s)=if r<s then-1 else if s<r then 1 else 0:=by
 have h:=Ni [ia n,ia w,lE r] [ia n,ia w,lE s] (fun v hv=>by
  rcases bt.1 hv with e|hv
  ·rw[e];exact hn.aE
  rcases bt.1 hv with e|hv
  ·rw[e];exact hw.aE
  rw[ae.1 hv];exact ro y) (fun v hv=>by
  rcases bt.1 hv with e|hv
  ·rw[e];exact hn.aE
  rcases bt.1 hv with e|hv
  ·rw[e];exact hw.aE
  rw[ae.1 hv];exact ro hs)
 have z:∀x:ByteArray,aU x.data.toList x.data.toList=0:=fun x=>(oP _ _).2 rfl;have B:∀x:ByteArray,rl (ia x) (ia x)=0:=fun x=>by
  unfold rl ia;simp[z]
 have D:rl (lE r) (lE s)=if r<s then-1 else if s<r then 1 else 0:=by
  unfold rl lE;by_cases b:r<s
  ·simp[b]
  by_cases q:s<r
  ·simp[b,q]
  simp[b,q]
  rfl
 unfold g_ cP;rw[zy,zy,h];simp only[I0,B,D,if_true];by_cases b:r<s
 ·simp[b]
 by_cases q:s<r
 ·simp[b,q]
 simp[b,q]
theorem yd{n w:ByteArray}(hn:cI n)(hw:cI w){r s:Int}(q:1<=r/\r<=1073741824)(hs:1<=s/\s<=1073741824):aC (cP n w r) (cP n w s)↔r<s:=by
 rw[ku,Gt hn hw q hs]
 constructor
 ·intro h;by_cases b:r<s
  ·exact b
  rw[if_neg b]at h
  split at h<;>omega
 intro h;rw[if_pos h]
end
section
open Go Go.RowKit Go.Shelf Go.Lib
def wX(w:bj)(v:be)(l:List dv):Prop:=(v=.slice none 0 0/\l=[])\/∃B cap,v=.slice (some ⟨B,0,none⟩) l.length cap/\l.length<=cap/\B<w.heap.size/\∀i (h:i<l.length),w.cell? ⟨B,i*2,none⟩=some (.string l[i].1)/\w.cell? ⟨B,i*2+1,none⟩=some (.string l[i].2)
theorem gL.Zh{n:Nat}{w:bj}{v:be}{l:List dv}(h:gL n w v l):wX w v l:=by
 rcases h.at' with b|⟨B,cap,b,q,_,s,y,_⟩
 ·exact .inl b
 exact .inr ⟨B,cap,b,q,s,y⟩
theorem wX.gr{w w':bj}{v:be}{l:List dv}(h:wX w v l)(g:Gr w w'):wX w' v l:=by
 rcases h with b|⟨B,cap,b,s,y,q⟩
 ·exact .inl b
 exact .inr ⟨B,cap,b,s,Nat.lt_of_lt_of_le y g.size,fun i hi=>⟨g.keeps (q i hi).1,g.keeps (q i hi).2⟩⟩
theorem wX.form{w:bj}{v:be}{l:List dv}(h:wX w v l):∃b c,v=.slice b l.length c:=by
 rcases h with⟨rfl,rfl⟩|⟨B,cap,rfl,_⟩
 ·exact⟨none,0,rfl⟩
 exact⟨_,cap,rfl⟩
theorem wX.take{w:bj}{l:List dv}{y:Option Addr}{n c k:Nat}(h:wX w (.slice y n c) l)(D:k<=l.length):wX w (.slice y k c) (l.take k):=by
 have b:(l.take k).length=k:=by rw[ew];omega
 rcases h with⟨q,z⟩|⟨B,cap,q,z,G,H⟩
 ·cases q;subst z;have:k=0:=by simpa using D
  subst this;exact .inl ⟨rfl,rfl⟩
 cases q;refine .inr ⟨B,c,by rw[b],by rw[b];omega,G,fun i hi=>?_⟩;have s:i<l.length:=by rw[b]at hi;omega
 rw[eb];exact H i s
theorem KZ(w:bj)(b:be):
  eY prog 91 #[.slice none 0 0,b] w (ar w (.int .i64 (-1))):=by
 go_enter func91,ntmps91;go_wp2_with fail
 go_loop [8] (fun i=>i=.int .i64 0) (fun _=>1)
 case atStart=>rfl
 case round=>
  subst hrel;go_wp2_with fail
  go_ret;exact ar.mk rfl (Gr.refl _)
theorem K7(xs:List dv)(v:be)(g:Nat)(lb:Array be)(q:dv->Bool)(w:bj)(h:wX w v xs)(M:xs.length<=1000000)(G:∀args w,(callFunc g args).run prog w=.ok (.enter g args) w)
  (H:∀(W:bj) (x:dv),Gr w W->eY prog g (#[.agg #[.string x.1,.string x.2]]++lb) W (ar W (.bool (q x)))):
  eY prog 91 #[v,.func (.func g) #[] lb] w (ar w (.int .i64 (di (fun _ y=>q y) xs default))):=by
 rcases h with⟨rfl,rfl⟩|⟨b,c,rfl,hc,I,J⟩
 ·exact KZ w _
 refine Calls.mono (AnyQ.slices_IndexFunc Tryz.Ce 2 isAgg140 sizeOf140 qk (fun _=>rfl) q g lb G b 0 xs.length c xs w (fun W x z=>(H W x z).mono fun e L h=>⟨h.1,Gr.trans z h.2⟩) (aV _) (by omega) I (fun j B i v hi=>?_)) ?_
 ·have D:=J j B;have s:xs[j]! =xs[j]:=by simp[B]
  rw[s]at hi
  match i,hi with
  |0,hi=>
   have:=eT hi;rw[<-this];simpa using D.1
  |1,hi=>
   have:=eT hi;rw[<-this];simpa using D.2
  |i+2,hi=>simp[qk]at hi
 rintro e L ⟨rfl,s⟩;rw[List.take_length];exact ar.mk rfl s
theorem ui(q:dv->Bool):∀(xs:List dv) (i:Nat),(cF (fun _ y=>q y) default xs i=-1/\xs.takeWhile (fun x=>!q x)=xs)\/∃k,k<xs.length/\cF (fun _ y=>q y) default xs i=((i+k:Nat):Int)/\xs.takeWhile (fun x=>!q x)=xs.take k
 |[],i=>.inl ⟨rfl,rfl⟩
 |x::xs,i=>by
  by_cases s:q x=true
  ·exact .inr ⟨0,by simp,by simp[cF,s],by simp[s]⟩
  have b:q x=false:=by simpa using s
  rcases ui q xs (i+1)with⟨z,B⟩|⟨k,h,z,B⟩
  ·exact .inl ⟨by simp[cF,b,z],by simp[b,B]⟩
  refine .inr ⟨k+1,by simp;omega,?_,by simp[b,B]⟩;simp only[cF,b,z];simp;omega
theorem pu(s x:ByteArray):Lib.hasPrefix x.data.toList s.data.toList=preB s x:=rfl
theorem Nk(W:bj)(B:Nat)(s:ByteArray)(x:dv)(h:W.cell? ⟨B,0,none⟩=some (.string s)):
  eY prog 117 #[.agg #[.string x.1,.string x.2],.pointer (some ⟨B,0,none⟩)] W (ar W (.bool (!preB s x.1))):=by
 obtain⟨b,q⟩:=x;have g1:Gr W (W.alloc (.cells #[.string b,.string q] 140)):=(Gr.refl W).alloc _;have y:(W.alloc (.cells #[.string b,.string q] 140)).cell? ⟨W.heap.size,0,none⟩=some (.string b):=by rw[bZ];rfl
 have z:=g1.keeps h;go_enter func117,ntmps117;go_wp2_with(go_at_call 60;refine(Tryz.strings_HasPrefix _ _ _).mono ?_;rintro e D ⟨rfl,rfl⟩)
 go_ret;exact ar.mk rfl g1
section
variable{w:bj}{PB DB M:Nat}{c:Ch}{sv:Head}{t:Int}{d:Dk}
theorem Gu(h:cG w PB DB M c sv t d){TP root:Nat}(ht:bH w TP PB root)(hr:root<8)(s:ByteArray){U:Tr}(hl:U.lays c d.pg root)(D:(mq U s).length<=1000000):
  eY prog 64 #[.pointer (some ⟨TP,0,none⟩),.string s] w fun e w'=>∃v,e=.returned (.tuple #[v,.nilIface])/\wX w' v ((mq U s).takeWhile fun x=>preB s x.1)/\Gr w w':=by
 obtain⟨b,V⟩:∃b,mq U s=b:=⟨_,rfl⟩;have Y:Gr w (w.alloc (.cells #[.string s] 9)):=(Gr.refl w).alloc _;have Z:=fh w (.string s) 9;have O:=Vj (h.gr Y) (ht.gr Y) hr s hl;rw[V]at O D⊢;have a0:=bC O;have a1:=bC Y;clear O Y h ht hl V;go_enter func64,ntmps64;go_wp2_with fail
 obtain⟨W1,a2⟩:∃W1,w.alloc (.cells #[.string s] 9)=W1:=⟨_,rfl⟩;rw[a2]at Z a0 a1⊢;clear a2;obtain⟨B0,a4⟩:∃B0,w.heap.size=B0:=⟨_,rfl⟩;rw[a4]at Z⊢;clear a4;refine a0.out.mono ?_;rintro e w2 ⟨v,rfl,hv,Q⟩;have b2:=Q.keeps Z;have hq:=hv.Zh;have a5:=a1.out.trans Q;have a6:=bC a5;have HQ:=bC hq;have a7:=K7 b v 117 #[.pointer (some ⟨B0,0,none⟩)] (fun x=>!preB s x.1) w2 hq D (enters_of func117 (by kernel_rfl) rfl) (fun W x g=>Nk W B0 s x (g.keeps b2));have a8:=bC a7;have q:=ui (fun x=>!preB s x.1) b 0;have q:(di (fun _ y=>!preB s y.1) b default=-1/\b.takeWhile (fun x=>preB s x.1)=b)\/∃k,k<b.length/\di (fun _ y=>!preB s y.1) b default=(k:Int)/\b.takeWhile (fun x=>preB s x.1)=b.take k:=by
  rcases q with⟨H,z⟩|⟨k,I,H,z⟩
  ·exact .inl ⟨H,by simpa using z⟩
  exact .inr ⟨k,I,by
   have:di (fun _ y=>!preB s y.1) b default=((0+k:Nat):Int):=H;rw[this];simp,by simpa using z⟩
 obtain⟨ix,J⟩:∃ix,di (fun _ (y:dv)=>!preB s y.1) b default=ix:=⟨_,rfl⟩;rw[J]at q a8;have b6:=bC q;clear a7 q J a5 hq Q Z b2 D;obtain⟨av,S,b7⟩:=hv.form;clear hv;subst b7;have L:0<b.length->∃B1,av=some ⟨B1,0,none⟩/\b.length<=S:=fun I=>by
  rcases HQ.out with⟨_,e⟩|⟨B,cap,e1,e2,_⟩
  ·rw[e]at I;simp at I
  cases e1;exact⟨B,rfl,e2⟩
 have b3:=bC L;clear L;go_wp2_with fail
 refine a8.out.mono ?_;rintro e w3 ⟨rfl,b1⟩;have G:=bC b1;clear b1;rcases b6.out with⟨H,z⟩|⟨k,I,H,z⟩
 ·subst H;have HR:Hid (wX w3 (.slice av b.length S) (b.takeWhile fun x=>preB s x.1)/\Gr w w3):=bC ⟨by rw[z];exact HQ.out.gr G.out,a6.out.trans G.out⟩;clear z;go_wp2_with fail
  go_ret2;exact⟨_,rfl,HR.out⟩
 subst H;obtain⟨B1,rfl,b8⟩:=b3.out (by omega);have d0:(0:Int)<=(k:Int):=by omega
 have d1:(k:Int)<=(S:Int):=by omega
 have d2:k<=S:=by omega
 have HR:Hid (wX w3 (.slice (some ⟨B1,0,none⟩) k S) (b.takeWhile fun x=>preB s x.1)/\Gr w w3):=bC ⟨by rw[z];exact(HQ.out.gr G.out).take (by omega),a6.out.trans G.out⟩;clear z I b8;go_wp2_with fail
 go_ret2;exact⟨_,rfl,HR.out⟩
end
end
section
open Go Go.RowKit
section
variable{w:bj}{PB DB M:Nat}{c:Ch}{sv:Head}{t:Int}{d:Dk}
theorem Yh(h:cG w PB DB M c sv t d){root:Nat}(J:root<8):
  eY prog 36 #[.pointer (some ⟨PB,0,none⟩),.int .i64 (root:Int)] w fun e G=>∃z,e=.returned (.tuple #[.pointer (some ⟨z,0,none⟩),.nilIface])/\bH G z PB root/\w.heap.size<=z/\Gr w G:=by
 have y:=ID h.s root J;have D:=bC y;clear y;go_enter func36,ntmps36;go_wp2_with fail
 refine D.out.mono ?_;rintro e b ⟨rfl,q⟩;have gA:Gr b (b.alloc (.cells #[.pointer (some ⟨PB,0,none⟩),.int .i64 (root:Int)] 167)):=(Gr.refl b).alloc _;have H:(b.alloc (.cells #[.pointer (some ⟨PB,0,none⟩),.int .i64 (root:Int)] 167)).cell? ⟨b.heap.size,0,none⟩=some (.pointer (some ⟨PB,0,none⟩)):=by rw[bZ];rfl
 have I:(b.alloc (.cells #[.pointer (some ⟨PB,0,none⟩),.int .i64 (root:Int)] 167)).cell? ⟨b.heap.size,1,none⟩=some (.int .i64 (root:Int)):=by rw[bZ];rfl
 have B:=bC (And.intro (bH.mk H I) (And.intro q.size (q.trans gA)));clear gA H I q;go_wp2_with fail
 go_ret2;exact⟨_,rfl,B.out.1,B.out.2.1,B.out.2.2⟩
end
structure jn(w:bj)(FP TP PB DB M:Nat)(c:Ch)(sv:Head)(t:Int)(d:Dk):Prop where
 pg:cG w PB DB M c sv t d
 p:w.cell? ⟨FP,0,none⟩=some (.pointer (some ⟨TP,0,none⟩))
 t:bH w TP PB 3
 fn:FP≠PB/\FP≠DB/\FP≠M
 tn:TP≠PB/\TP≠DB/\TP≠M
theorem jn.gr{w w':bj}{b TP PB DB M:Nat}{c:Ch}{sv:Head}{t:Int}{d:Dk}(h:jn w b TP PB DB M c sv t d)(g:Gr w w'):jn w' b TP PB DB M c sv t d:=⟨h.pg.gr g,g.keeps h.p,h.t.gr g,h.fn,h.tn⟩
theorem jn.act{w w':bj}{b TP PB DB M:Nat}{c q:Ch}{sv:Head}{t:Int}{d:Dk}(h:jn w b TP PB DB M c sv t d)(s:cG w' PB DB M q sv t d)(g:aY PB DB M M w w'):jn w' b TP PB DB M q sv t d:=⟨s,g.keeps h.fn.1 h.fn.2.1 h.fn.2.2 h.p,h.t.pg g h.tn.1 h.tn.2.1 h.tn.2.2,h.fn,h.tn⟩
theorem jn.lt{w:bj}{b TP PB DB M:Nat}{c:Ch}{sv:Head}{t:Int}{d:Dk}(h:jn w b TP PB DB M c sv t d):b<w.heap.size/\TP<w.heap.size/\PB<w.heap.size/\DB<w.heap.size/\M<w.heap.size:=⟨ad h.p,ad h.t.p,h.pg.lt.1,h.pg.lt.2.1,h.pg.lt.2.2⟩
theorem Vq(TP:Nat)(w:bj):eY prog 37 #[.pointer (some ⟨TP,0,none⟩)] w fun e q=>∃b,e=.returned (.tuple #[.pointer (some ⟨b,0,none⟩),.nilIface])/\q.cell? ⟨b,0,none⟩=some (.pointer (some ⟨TP,0,none⟩))/\b=w.heap.size/\b<q.heap.size/\Gr w q:=by
 have gA:Gr w (w.alloc (.cells #[.pointer (some ⟨TP,0,none⟩)] 137)):=(Gr.refl w).alloc _;have s:(w.alloc (.cells #[.pointer (some ⟨TP,0,none⟩)] 137)).cell? ⟨w.heap.size,0,none⟩=some (.pointer (some ⟨TP,0,none⟩)):=by rw[bZ];rfl
 have y:=bC (And.intro s (And.intro (ad s) gA));clear gA s;go_enter func37,ntmps37;go_wp2_with fail
 go_ret2;exact⟨_,rfl,y.out.1,rfl,y.out.2.1,y.out.2.2⟩
theorem I2(n:Nat)(h:n<=1999):cH n (Ch.new kP).h:=by
 refine⟨(List.range 1999).map fun i=>i+1,?_,by simp;omega,fun k q=>?_⟩
 ·exact bB.2 (List.nodup_range.imp fun{a b} h e=>h (by
   have e:a+1=b+1:=e;omega))
 obtain⟨i,hi,rfl⟩:=aS.1 q;have:=List.mem_range.1 hi;refine⟨by omega,by omega,?_⟩;show decide (i+1=0)=false;simp
theorem TG.empty(ω:Wt):TG ω wZ.pg bw 3 (Ch.new kP) none [] bw 0 347 (fun _=>False):=
 ⟨Ch.FK uk,rfl,trivial,rfl,⟨(fun e h=>by cases h),trivial⟩,I2 _ (by omega),rfl,bL _,aV _,fun y b=>by cases b⟩
theorem Pv(w:bj):eY prog 8 #[] w fun e w'=>∃D q PB DB M,e=.returned (.pointer (some ⟨D,0,none⟩))/\jn w' D q PB DB M (Ch.new kP) kP 0 wZ/\(w.heap.size<=D/\w.heap.size<=q/\w.heap.size<=PB/\w.heap.size<=DB/\w.heap.size<=M)/\Gr w w':=by
 go_enter func8,ntmps8;go_wp2_with fail
 have I:Gr w (w.alloc (.cells ez 89)):=(Gr.refl w).alloc _;have J:=Nq w;generalize(ez)=Z at*;have L:=bC I;have a0:=bC J;clear I J;generalize O:w.heap.size=DB at*;have a1:=bC O;clear O;refine(Vp DB wZ kP _ a0.out Vo (by decide)).mono ?_;rintro e w1 ⟨PB,M,rfl,hs,V,Y,Q⟩;rw[AI]at hs;have HB:Hid (w.heap.size<=PB/\w.heap.size<=DB/\w.heap.size<=M):=bC (by have:=L.out.size;have:=a1.out;omega);have S:cG w1 PB DB M (Ch.new kP) kP 0 wZ:=⟨hs.mono (by omega),Ch.FK uk⟩;have G:=bC S;have U:=bC (Q.gr L.out (fun k e=>by have e2:k=DB:=e;rw[e2];exact HB.out.2.1));clear hs V Y Q S;go_wp2_with fail
 refine(Yh G.out (root:=3) (by omega)).mono ?_;rintro e w2 ⟨q,rfl,y,H,b⟩;have a2:=G.out.lt;have z:q≠PB/\q≠DB/\q≠M:=by omega
 have s:=G.out.gr b;have a3:=bC (And.intro s (And.intro y (And.intro z (And.intro H b))));clear s y z H b a2;go_wp2_with fail
 refine(Vq q w2).mono ?_;rintro e w3 ⟨D,rfl,k0,a4,a5,B⟩;have hR:jn w3 D q PB DB M (Ch.new kP) kP 0 wZ/\(w.heap.size<=D/\w.heap.size<=q/\w.heap.size<=PB/\w.heap.size<=DB/\w.heap.size<=M)/\Gr w w3:=by
  obtain⟨s,y,z,H,b⟩:=a3.out;have h1:=s.lt;have h2:=U.out.size;have h3:=b.size;have h4:=HB.out;exact⟨⟨s.gr B,k0,y.gr B,by omega,z⟩,by omega,(U.out.trans b).trans B⟩
 have HR:=bC hR;clear hR k0 a4 a5 B;go_wp2_with fail
 go_ret;exact⟨_,_,_,_,_,rfl,HR.out⟩
theorem Nw{a p:aa}(ha:0<=a.1/\0<=a.2)(b:0<=p.1/\p.1<=8000/\0<=p.2/\p.2<=63):(rs a p).length<=3:=by
 unfold rs
 split
 ·rw[io _ (by omega)];simp
 have:=nm 1 (2*(p.1-a.1)+1).toNat (by omega);rw[aX,io p.2.toNat (by omega)];simp only[bv,cK];omega
theorem EY{l:List aa}(h:∀p∈l,0<=p.1/\p.1<=8000/\0<=p.2/\p.2<=63):(cT l).length<=3*l.length:=by
 have hd:∀i,0<=(l.getD i (0,0)).1/\(l.getD i (0,0)).1<=8000/\0<=(l.getD i (0,0)).2/\(l.getD i (0,0)).2<=63:=fun i=>by
  rw[bM];cases b:l[i]? with
  |none=>simp
  |some p=>exact h p (List.mem_of_getElem? b)
 have main:∀k,(zA l k).length<=3*k:=by
  intro k
  induction k with
  |zero=>simp[zA]
  |succ k s=>
   rw[zB,aX];have q:0<=(eq l k).1/\0<=(eq l k).2:=by
    cases k with
    |zero=>exact⟨cW _,cW _⟩
    |succ k=>exact⟨(hd k).1,(hd k).2.2.1⟩
   have y:=Nw q (hd k);omega
 exact main l.length
def rowOf(l:List aa):Int:=(l.headD (0,0)).1
def fu(l:List aa):Int:=(setOf aG (l.map (·.1))).getD ((setOf aG (l.map (·.1))).length/2) 0
def fY(l:List aa)(c:Int):Nat:=l.findIdx fun p=>p.1==c
def qK(l:List aa):Nat->Nat->Nat
 |0,n=>n
 |f+1,n=>if(cT (l.take n)).length<=100 then n else qK l f (fY l (fu (l.take n)))
def nn(l:List aa):Nat:=qK l l.length l.length
def ru:Nat->List aa->List (List aa)
 |0,_=>[]
 |_+1,[]=>[]
 |f+1,p::l=>((p::l).take (nn (p::l)))::ru f ((p::l).drop (nn (p::l)))
def kA(l:List aa):List (List aa):=ru l.length l
def Whole(l:List aa)(n:Nat):Prop:=∀p∈l.take n,∀q∈l.drop n,p.1<q.1
structure fV(l:List aa):Prop where
 up:l.Pairwise fun a b=>af a b=true
 one:∀c:Int,∀m:List aa,m.Sublist l->(∀p∈m,p.1=c)->(cT m).length<=100
theorem fV.rows{l:List aa}(h:fV l):l.Pairwise fun a b=>a.1<=b.1:=h.up.imp fun{a b} q=>by
 rw[eD]at q;omega
theorem uq{l:List aa}(h:l.Pairwise fun a b=>a.1<=b.1)(c:Int):Whole l (fY l c):=by
 induction l with
 |nil=>intro p s;simp at s
 |cons x l B=>
  obtain⟨I,J⟩:=bh.1 h;unfold fY;rw[eh];by_cases L:x.1=c
  ·rw[show(x.1==c)=true by simpa using L];intro p s;simp at s
  rw[show(x.1==c)=false by simpa using L];simp only[cond_false];have B:=B J;intro p s q z;rw[List.take_succ_cons]at s;rw[List.drop_succ_cons]at z;rcases bt.1 s with e|s
  ·subst e;have G:q∈l:=List.mem_of_mem_drop z;have H:=I q G;rcases Int.lt_or_eq_of_le H with M|M
   ·exact M
   exfalso;obtain⟨i,hi,D⟩:=cL z;rw[List.getElem_drop]at D;rw[cg]at hi;have y:l.findIdx (fun p=>p.1==c)<l.length:=by omega
   have hc:=List.findIdx_getElem (w:=y);have hc:l[l.findIdx (fun p=>p.1==c)].1=c:=by simpa using hc
   have O:l[l.findIdx (fun p=>p.1==c)].1<=q.1:=by
    rcases bP i with e|e
    ·subst e;rw[<-D];exact cW _
    rw[<-D];exact(bT.1 J) _ _ y (by omega) (by omega)
   have Q:=I _ (cD y);omega
  exact B p s q z
theorem Lg:∀{l:List aa} {c:Int} (h:0<l.length),fY l c=0->l[0].1=c
 |a::r,c,_,e=>by
  unfold fY at e;rw[eh]at e;cases b:(a.1==c)with
  |true=>simpa using b
  |false=>
   rw[b]at e;simp at e
theorem Lh{l:List aa}(h:fV l){n:Nat}(hn:n<=l.length)(s:¬(cT (l.take n)).length<=100):0<fY l (fu (l.take n))/\fY l (fu (l.take n))<n:=by
 have L:(l.take n).Sublist l:=List.take_sublist n l;obtain⟨R,O⟩:∃R,setOf aG ((l.take n).map (·.1))=R:=⟨_,rfl⟩;have U:bU aG R:=by rw[<-O];exact cx kR _
 have y:∀x,x∈R↔x∈(l.take n).map (·.1):=fun x=>by rw[<-O];exact bO aG _ x
 have h2:2<=R.length:=by
  rcases R with _|⟨a,_|⟨b,r⟩⟩
  ·exfalso;have:l.take n=[]:=by
    cases Y:l.take n with
    |nil=>rfl
    |cons p r=>
     have:=(y p.1).2 (by rw[Y];simp);simp at this
   rw[this]at s;exact s (by simp[cT,zA])
  ·exfalso;refine s (h.one a (l.take n) L fun p H=>?_);have:=(y p.1).2 (cO H);simpa using this
  simp
 have z:fu (l.take n)=R[R.length/2]'(by omega):=by
  unfold fu;rw[O,bM,cj (by omega)]
  rfl
 have M:fu (l.take n)∈(l.take n).map (·.1):=(y _).1 (by rw[z];exact cD _);obtain⟨p,H,B⟩:=aS.1 M;have S:R[0]'(by omega)<fu (l.take n):=by
  rw[z];have:=(bT.1 U) 0 (R.length/2) (by omega) (by omega) (by omega);simpa[aG]using this
 constructor
 ·rcases bP (fY l (fu (l.take n)))with e|e
  ·exfalso;have D:0<l.length:=by
    cases l with
    |nil=>simp at H
    |cons a r=>simp
   have I:fY l (fu (l.take n))<l.length:=by rw[e];exact D
   have a0:l[0].1=fu (l.take n):=Lg D e;obtain⟨q,Z,J⟩:=aS.1 ((y (R[0]'(by omega))).1 (cD _));have V:q∈l:=List.mem_of_mem_take Z;obtain⟨i,hi,G⟩:=cL V;have h3:l[0].1<=q.1:=by
    rcases bP i with Q|Q
    ·subst Q;rw[<-G];exact cW _
    rw[<-G];exact(bT.1 h.rows) _ _ D hi Q
   have J:q.1=R[0]'(by omega):=J;omega
  exact e
 obtain⟨i,hi,G⟩:=cL H;rw[ew]at hi;rw[eb]at G;have:fY l (fu (l.take n))<=i:=by
  refine Nat.le_of_not_lt fun I=>?_;have:=List.not_of_lt_findIdx (p:=fun p:aa=>p.1==fu (l.take n)) (xs:=l) (i:=i) I;rw[G]at this;have B:p.1=fu (l.take n):=B;simp[B]at this
 omega
theorem Gy{l:List aa}(h:fV l)(s:l≠[]):∀f n,n<=f->0<n->n<=l.length->Whole l n->0<qK l f n/\qK l f n<=l.length/\Whole l (qK l f n)/\(cT (l.take (qK l f n))).length<=100
 |0,n,y,b,_,_=>by omega
 |f+1,n,y,b,q,z=>by
  unfold qK
  split
  ·rename_i hs
   exact⟨b,q,z,hs⟩
  rename_i hs
  obtain⟨B,D⟩:=Lh h q hs;exact Gy h s f _ (by omega) B (by omega) (uq h.rows _)
theorem Dg{l:List aa}(h:fV l)(b:l≠[]):0<nn l/\nn l<=l.length/\Whole l (nn l)/\(cT (l.take (nn l))).length<=100:=
 Gy h b _ _ (aV _) (dA.2 b) (aV _) (fun p _ q s=>by simp at s)
theorem fV.drop{l:List aa}(h:fV l)(n:Nat):fV (l.drop n):=⟨h.up.sublist (ej n l),fun c m b hc=>h.one c m (b.trans (ej n l)) hc⟩
structure TF(PS:List (List aa)):Prop where
 ne:∀l∈PS,l≠[]/\(cT l).length<=100
 apart:PS.Pairwise fun a b=>∀p∈a,∀q∈b,p.1<q.1
theorem Li:∀(f:Nat) (l:List aa),l.length<=f->fV l->(ru f l).flatten=l/\TF (ru f l)
 |0,l,h,_=>by
  have:l=[]:=bA (by omega);subst this;exact⟨rfl,⟨fun l s=>by simp[ru]at s,by simp[ru]⟩⟩
 |f+1,[],_,_=>⟨rfl,⟨fun l s=>by simp[ru]at s,by simp[ru]⟩⟩
 |f+1,p::l,h,hc=>by
  obtain⟨J,L,D,G⟩:=Dg hc (by simp);obtain⟨y,z⟩:=Li f ((p::l).drop (nn (p::l))) (by rw[cg];omega) (hc.drop _);refine⟨?_,⟨fun m q=>?_,?_⟩⟩
  ·show((p::l).take (nn (p::l)))++(ru f ((p::l).drop (nn (p::l)))).flatten=p::l;rw[y,List.take_append_drop]
  ·rcases bt.1 q with e|q
   ·rw[e];refine⟨fun H=>?_,G⟩;rcases List.take_eq_nil_iff.1 H with B|B
    ·omega
    cases B
   exact z.ne m q
  refine bh.2 ⟨fun m q a ha b I=>?_,z.apart⟩;refine D a ha b ?_;rw[<-y];exact bz.2 ⟨m,q,I⟩
theorem yk{l:List aa}(h:fV l):(kA l).flatten=l/\TF (kA l):=Li _ l (aV _) h
theorem Lj:∀(f g:Nat) (l:List aa),l.length<=f->l.length<=g->fV l->ru f l=ru g l
 |0,g,l,h,_,_=>by
  have:l=[]:=bA (by omega);subst this;cases g<;>rfl
 |f+1,g,[],_,_,_=>by cases g<;>rfl
 |f+1,0,p::l,_,h,_=>by simp at h
 |f+1,g+1,p::l,b,q,hc=>by
  obtain⟨s,y,_⟩:=Dg hc (by simp);unfold ru
  congr 1
  exact Lj f g _ (by rw[cg];omega) (by rw[cg];omega) (hc.drop _)
theorem Q4{l:List aa}(h:fV l)(b:l≠[]):kA l=l.take (nn l)::kA (l.drop (nn l)):=by
 cases l with
 |nil=>exact absurd rfl b
 |cons p r=>
  obtain⟨s,q,_⟩:=Dg h b;show(p::r).take (nn (p::r))::ru r.length ((p::r).drop (nn (p::r)))=_
  congr 1
  refine Lj _ _ _ ?_ (aV _) (h.drop _);rw[bv]at q;rw[cg,bv];omega
theorem oj(a b:LP)(s:ByteArray):fd (a++b) s=fd a s++fd b s:=dQ ..
theorem TH{k v s:ByteArray}(h:preB s k=true)(r:LP):fd ((k,v)::r) s=(k,v)::fd r s:=List.filter_cons_of_pos (by simpa using h)
theorem Gz{k v s:ByteArray}(h:preB s k=false)(r:LP):fd ((k,v)::r) s=fd r s:=List.filter_cons_of_neg (by simp[h])
theorem I8(K:LP){k s:ByteArray}(v:ByteArray)(h:preB s k=true):fd (au K k v) s=au (fd K s) k v:=by
 unfold au;rw[oj,TH h];unfold fd;rw[bu,bu,bu,bu]
 congr 1
 ·exact co fun x _=>dF _ _
 congr 1
 exact co fun x _=>dF _ _
theorem vV{K:LP}(hs:eC K){k s:ByteArray}(v:ByteArray)(h:preB s k=false):fd (au K k v) s=fd K s:=by
 obtain⟨a,r,_,_,b,_,q⟩:=ri hs k;rw[b v,oj,Gz h];rcases q with⟨u,e,_⟩|⟨e,_⟩
 ·rw[e,oj,Gz h]
 rw[e,oj]
theorem Dh(K:LP)(k s:ByteArray):fd (cZ K k) s=cZ (fd K s) k:=by
 unfold fd cZ;rw[bu,bu];exact co fun x _=>dF _ _
theorem Di(K:LP){k s:ByteArray}(h:preB s k=false):fd (cZ K k) s=fd K s:=by
 rw[Dh];refine filter_all fun x q=>?_;have b:preB s x.1=true:=by
  have:=(cl.1 q).2;simpa using this
 refine decide_eq_true fun e=>?_;rw[e,h]at b;cases b
theorem lH(a b:LP)(k:ByteArray):bV (a++b) k=(bV a k).or (bV b k):=by
 unfold bV;rw[List.find?_append];cases a.find? fun x=>decide (x.1=k)<;>rfl
theorem vW{k k2 v:ByteArray}(h:k2≠k)(r:LP):bV ((k2,v)::r) k=bV r k:=by
 unfold bV;rw[List.find?_cons_of_neg (by simpa using h)]
theorem vX(k v:ByteArray)(r:LP):bV ((k,v)::r) k=some v:=by
 unfold bV;rw[List.find?_cons_of_pos (by simp)]
 rfl
theorem I9{K:LP}(hs:eC K){k k2:ByteArray}(v:ByteArray)(h:k2≠k):bV (au K k2 v) k=bV K k:=by
 obtain⟨a,r,_,_,b,_,q⟩:=ri hs k2;rw[b v,lH,vW h];rcases q with⟨u,e,_⟩|⟨e,_⟩
 ·rw[e,lH,vW h]
 rw[e,lH]
theorem AK{a:LP}{k:ByteArray}(h:∀x∈a,aC x.1 k):bV a k=none:=by
 unfold bV;rw[dS.2 fun x b=>?_]
 ·rfl
 simp only[decide_eq_true_eq];intro e;have:=h x b;rw[e]at this;exact bL _ this
theorem yl{K:LP}(hs:eC K)(k v:ByteArray):bV (au K k v) k=some v:=by
 obtain⟨a,r,b,_,q,_,_⟩:=ri hs k;rw[q v,lH,vX,AK b]
 rfl
theorem EZ{K:LP}{k k2:ByteArray}(h:k2≠k):bV (cZ K k2) k=bV K k:=by
 unfold bV cZ;rw[ek]
 congr 2
 funext x
 by_cases e:x.1=k
 ·have b:¬k=k2:=fun q=>h q.symm;simp[e,b]
 simp[e]
def bp(n w:ByteArray)(l:List aa):ByteArray×ByteArray:=(cP n w (rowOf l),tD (cT l))
theorem ip{l:List aa}(h:l≠[]):∃p∈l,p.1=rowOf l:=by
 cases l with
 |nil=>exact absurd rfl h
 |cons a r=>exact⟨a,bc,rfl⟩
structure ie(PS:List (List aa)):Prop where
 pc:TF PS
 aE:∀l∈PS,∀p∈l,iD p=true
 up:∀l∈PS,bU af l
theorem ie.sub{PS q:List (List aa)}(h:ie PS)(hs:q.Sublist PS):ie q:=⟨⟨fun l b=>h.pc.ne l (hs.subset b),h.pc.apart.sublist hs⟩,fun l b=>h.aE l (hs.subset b),fun l b=>h.up l (hs.subset b)⟩
theorem ie.flat{PS:List (List aa)}(h:ie PS):bU af PS.flatten:=
 dh.2 ⟨h.up,h.pc.apart.imp fun{a b} s p y q z=>eD.2 (.inl (s p y q z))⟩
theorem ie.row{PS:List (List aa)}(h:ie PS){l:List aa}(b:l∈PS):1<=rowOf l/\rowOf l<=1073741824:=by
 obtain⟨p,q,e⟩:=ip (h.pc.ne l b).1;have:=iM.1 (h.aE l b p q);omega
theorem ym{a b:List aa}(ha:a≠[])(s:b≠[])(h:∀p∈a,∀q∈b,p.1<q.1):rowOf a<rowOf b:=by
 obtain⟨p,y,e⟩:=ip ha;obtain⟨q,z,B⟩:=ip s;rw[<-e,<-B];exact h p y q z
section
variable{n w:ByteArray}(hn:cI n)(hw:cI w)
include hn hw
theorem Vs{a b:List aa}(ha:a≠[])(s:b≠[])(h:∀p∈a,∀q∈b,p.1<q.1)(y:1<=rowOf a/\rowOf a<=1073741824)(z:1<=rowOf b/\rowOf b<=1073741824):aC (bp n w a).1 (bp n w b).1:=(yd hn hw y z).2 (ym ha s h)
theorem qw:∀{PS:List (List aa)},ie PS->PS.Pairwise fun a b=>aC (bp n w a).1 (bp n w b).1:=fun{PS} h=>by
 refine h.pc.apart.imp_of_mem fun{a b} ha s q=>?_;exact Vs hn hw (h.pc.ne a ha).1 (h.pc.ne b s).1 q (h.row ha) (h.row s)
theorem Lk{A B:List (List aa)}{c:List aa}(h:ie (A++c::B)):au ((A++B).map (bp n w)) (bp n w c).1 (bp n w c).2=(A++c::B).map (bp n w):=by
 have hs:=qw hn hw h;obtain⟨_,y,z⟩:=ak.1 hs;obtain⟨D,_⟩:=bh.1 y;have s:=mz (A.map (bp n w)) [] (B.map (bp n w)) (bp n w c).1 (bp n w c).2 (fun x q=>by
  obtain⟨a,ha,rfl⟩:=aS.1 q;exact z a ha c bc) (fun x q=>by
  obtain⟨b,G,rfl⟩:=aS.1 q;exact D b G)
 rw[eH]at s;rw[bX,s];unfold au;simp
theorem I_{A B:List (List aa)}{c:List aa}(h:ie (A++c::B)):cZ ((A++c::B).map (bp n w)) (bp n w c).1=(A++B).map (bp n w)/\bV ((A++c::B).map (bp n w)) (bp n w c).1=some (bp n w c).2:=by
 have hs:=qw hn hw h;obtain⟨_,y,z⟩:=ak.1 hs;obtain⟨D,_⟩:=bh.1 y;have ha:∀x∈A.map (bp n w),aC x.1 (bp n w c).1:=fun x s=>by
  obtain⟨a,ha,rfl⟩:=aS.1 s;exact z a ha c bc
 have q:∀x∈B.map (bp n w),aC (bp n w c).1 x.1:=fun x s=>by
  obtain⟨b,q,rfl⟩:=aS.1 s;exact D b q
 have e:(A++c::B).map (bp n w)=A.map (bp n w)++[bp n w c]++B.map (bp n w):=by simp
 constructor
 ·rw[e,pl _ _ _ _ ha q];unfold cZ;simp
 rw[e,oK _ _ _ _ ha q];exact vX _ _ _
end
structure Rest(n w:ByteArray)(K0 K:LP):Prop where
 Vy:∀w2,cI w2->w2≠w->fd K (dx n w2)=fd K0 (dx n w2)
 BI:bV K bw=bV K0 bw
 keys:∀e∈K,e∈K0\/∃r,(1<=r/\r<=1073741824)/\e.1=cP n w r
theorem Rest.refl(n w:ByteArray)(K:LP):Rest n w K K:=⟨fun _ _ _=>rfl,rfl,fun _ h=>.inl h⟩
theorem uv{n w b:ByteArray}(hw:cI w)(q:cI b)(h:b≠w)(r:Int):preB (dx n b) (cP n w r)=false:=by
 rw[ET q hw r];exact decide_eq_false h
theorem xe(n w:ByteArray)(r:Int):cP n w r≠bw:=fun e=>by
 have h:=wW n w r;rw[e]at h;exact bL _ h
theorem Rest.put{n w:ByteArray}(hw:cI w){K0 K:LP}(h:Rest n w K0 K)(hs:eC K){r:Int}(y:1<=r/\r<=1073741824)(v:ByteArray):Rest n w K0 (au K (cP n w r) v):=by
 refine⟨fun z s b=>?_,?_,fun e B=>?_⟩
 ·rw[vV hs v (uv hw s b r),h.Vy z s b]
 ·rw[I9 hs v (xe n w r),h.BI]
 rcases oL B with q|q
 ·exact h.keys e q
 rw[q];exact .inr ⟨r,y,rfl⟩
theorem Rest.drop{n w:ByteArray}(hw:cI w){K0 K:LP}(h:Rest n w K0 K)(r:Int):Rest n w K0 (cZ K (cP n w r)):=by
 refine⟨fun s q b=>?_,?_,fun e y=>h.keys e (pq y)⟩
 ·rw[Di K (uv hw q b r),h.Vy s q b]
 rw[EZ (xe n w r),h.BI]
def ny(ω:Wt)(n w:ByteArray)(ls:List (List aa)):Nat:=aZ ω (ls.map (bp n w))
theorem sC(ω:Wt)(n w:ByteArray)(l:List aa)(ls:List (List aa)):ny ω n w (l::ls)=ω (bp n w l).1 (bp n w l).2+ny ω n w ls:=by
 unfold ny;rw[dJ,gC]
structure E_(ω:Wt)(pg:Nat->ByteArray)(i:Nat)(n w:ByteArray)(c:Ch)(X:Tr)(K K0:LP)(A todo B:List (List aa))(V S:Nat):Prop where
 tg:∃k r,TG ω pg bw i c X K k r V (fun y=>y∈K0.map bF\/y∈K.map bF)/\ny ω n w todo<=r/\(∀l∈todo,¬aC (bp n w l).1 k)/\∀y,(y∈K0.map bF\/y∈K.map bF)->aC k y->∀l∈todo,aC (bp n w l).1 y
 is:fd K (dx n w)=(A++B).map (bp n w)
 ok:ie (A++(todo++B))
 rest:Rest n w K0 K
 sum:aZ ω K+ny ω n w todo=S
 some:bV K0 bw≠none
theorem GH{K:LP}{k s:ByteArray}(h:preB s k=true):bV (fd K s) k=bV K k:=by
 unfold bV fd;rw[ek]
 congr 2
 funext x
 by_cases e:x.1=k
 ·rw[e,h];simp
 simp[e]
section
variable{ω:Wt}{pg:Nat->ByteArray}{i:Nat}{n w:ByteArray}{c:Ch}{X:Tr}{K K0:LP}{A B todo:List (List aa)}{V S:Nat}{l:List aa}
theorem E_.put(a6:∀k v,pz k v<=ω k v)(hi:i<8)(hn:cI n)(hw:cI w)(c5:n.size+w.size<=13)(hV:V<12145)(h:E_ ω pg i n w c X K K0 A (l::todo) B V S):
  ∃Z X',kh c i X (bp n w l).1 (bp n w l).2=(Z,X',0)/\E_ ω pg i n w Z X' (au K (bp n w l).1 (bp n w l).2) K0 (A++[l]) todo B V S:=by
 obtain⟨k,r,tg,hr,a7,L⟩:=h.tg;have H:ie (A++(l::(todo++B))):=h.ok;have hl:l∈A++(l::(todo++B)):=by simp
 have a2:=H.row hl;have a8:=H.pc.ne l hl;have M:ie (A++l::B):=H.sub ((fy A).append ((List.sublist_append_right todo B).cons_cons l));have J:=tg.IZ;have a1:¬aC (bp n w l).1 k:=a7 l bc;have O:bV K (bp n w l).1=none:=by
  rw[<-GH (k:=(bp n w l).1) (s:=dx n w) (lh n w (rowOf l)),h.is];have hs:=qw hn hw M;obtain⟨_,G,Q⟩:=ak.1 hs;obtain⟨h4,_⟩:=bh.1 G;rw[bX,lH];have e1:bV (A.map (bp n w)) (bp n w l).1=none:=AK fun x hx=>by
   obtain⟨a,ha,rfl⟩:=aS.1 hx;exact Q a ha l bc
  have e2:bV (B.map (bp n w)) (bp n w l).1=none:=by
   unfold bV;rw[dS.2 fun x hx=>?_]
   ·rfl
   obtain⟨b,hb,rfl⟩:=aS.1 hx;simp only[decide_eq_true_eq];intro e;have:=h4 b hb;rw[e]at this;exact bL _ this
  rw[e1,e2]
  rfl
 have a9:oz ω K (bp n w l).1=0:=CV O;have t1:=tg.move (k2:=(bp n w l).1) a1 (fun y z I=>L y z I l bc);have t2:TG ω pg bw i c X K (bp n w l).1 ((r-ω (bp n w l).1 (bp n w l).2)+(ω (bp n w l).1 (bp n w l).2-oz ω K (bp n w l).1)) V (fun y=>y∈K0.map bF\/y∈(au K (bp n w l).1 (bp n w l).2).map bF\/y∈K.map bF):=by
  refine t1.less ?_ (aV _) (fun y z=>?_)
  ·rw[a9];rw[sC]at hr;omega
  rcases z with D|D
  ·exact .inl D
  exact .inr (.inr D)
 have b0:K≠[]:=fun e=>h.some (by
  rw[<-h.rest.BI,e]
  rfl)
 have b7:(bp n w l).1.size=n.size+w.size+13:=pt n w (rowOf l);obtain⟨Z,X',D,g⟩:=t2.put a6 hi (fun e=>absurd e b0) ⟨by omega,by omega⟩ (v:=(bp n w l).2) (by
  show(tD (cT l)).size<=100;rw[rm];exact a8.2) hV (fun y z=>.inr (.inl z))
 have U:∀y,y∈K.map bF->y∈(au K (bp n w l).1 (bp n w l).2).map bF:=fun y z=>by
  obtain⟨a,q,_,_,Q,_,h4⟩:=ri J (bp n w l).1;rw[Q (bp n w l).2,bX,dJ];rcases h4 with⟨u,e,_⟩|⟨e,_⟩
  ·rw[e,bX,dJ]at z;exact z
  rw[e,bX]at z;rcases aJ.1 z with z|z
  ·exact aQ _ z
  exact az _ (b_ _ z)
 have Y:=qw hn hw H;obtain⟨_,b1,_⟩:=ak.1 Y;obtain⟨b2,_⟩:=bh.1 b1;refine⟨Z,X',D,⟨(bp n w l).1,r-ω (bp n w l).1 (bp n w l).2,g.less (aV _) (aV _) (fun y z=>?_),?_,fun m hm=>?_,fun y z I m hm=>?_⟩,?_,?_,h.rest.put hw J a2 _,?_,h.some⟩
 ·rcases z with D|D|D
  ·exact .inl D
  ·exact .inr D
  exact .inr (U y D)
 ·rw[sC]at hr;omega
 ·exact dO (b2 m (aQ _ hm))
 ·have b3:(y∈K0.map bF\/y∈K.map bF)\/y=(bp n w l).1:=by
   rcases z with D|D
   ·exact .inl (.inl D)
   obtain⟨e,he,rfl⟩:=aS.1 D;rcases oL he with G|G
   ·exact .inl (.inr (cO G))
   rw[G];exact .inr rfl
  rcases b3 with G|G
  ·exact L y G (vT a1 I) m (b_ _ hm)
  rw[G]at I;exact absurd I (bL _)
 ·rw[I8 K (k:=(bp n w l).1) _ (lh n w (rowOf l)),h.is,Lk hn hw M];simp
 ·have e:(A++[l])++(todo++B)=A++(l::(todo++B)):=by simp
  rw[e];exact H
 have G:=vq ω J (bp n w l).1 (bp n w l).2;have Q:=h.sum;rw[sC]at Q;omega
theorem E_.done(h:E_ ω pg i n w c X K K0 A [] B V S)(b:∀y∈K0.map bF,y∈K.map bF):TG ω pg bw i c X K bw 0 V (fun y=>y∈K.map bF)/\aZ ω K=S:=by
 obtain⟨k,r,q,_⟩:=h.tg;exact⟨(q.rest (bL _)).less (aV _) (aV _) (fun y s=>s.elim (b y) id),h.sum⟩
end
structure sD(PS A P B:List (List aa))(row:Int):Prop where
 is:PS=A++(P++B)
 one:P.length<=1
 none:P=[]->A=[]
 low:∀l∈P,rowOf l<=row
 high:∀l∈B,row<rowOf l
theorem ol{l:List aa}(h:bU af l):∀p∈l,rowOf l<=p.1:=by
 intro p b;cases l with
 |nil=>cases b
 |cons a r=>
  rcases bt.1 b with e|b
  ·rw[e];exact cW _
  have:=eD.1 ((bh.1 h).1 p b);show a.1<=p.1;omega
theorem sD.Ln{PS A P B:List (List aa)}{row:Int}(h:sD PS A P B row)(ok:ie PS){l:List aa}(O:∀p∈l,p.1=row):
  (∀a∈A,∀p∈a,∀q∈setOf af (P.flatten++l),p.1<q.1)/\(∀q∈setOf af (P.flatten++l),∀b∈B,∀p∈b,q.1<p.1):=by
 have Q:=ok.pc.apart;rw[h.is]at Q;obtain⟨_,L,G⟩:=ak.1 Q;obtain⟨_,_,M⟩:=ak.1 L
 constructor
 ·intro a ha p D q s;rcases aJ.1 ((bO _ _ _).1 s)with s|s
  ·obtain⟨m,y,s⟩:=bz.1 s;exact G a ha m (aQ _ y) p D q s
  rw[O q s];cases S:P with
  |nil=>
   rw[h.none S]at ha;cases ha
  |cons m r=>
   have y:m∈P:=by rw[S];exact bc
   have H:m∈PS:=by rw[h.is];exact az _ (aQ _ y)
   obtain⟨z,U,e⟩:=ip (ok.pc.ne m H).1;have V:=G a ha m (aQ _ y) p D z U;have Y:=h.low m y;omega
 intro q s b J p D;rcases aJ.1 ((bO _ _ _).1 s)with s|s
 ·obtain⟨m,y,s⟩:=bz.1 s;exact M m y b J q s p D
 rw[O q s];have V:=h.high b J;have I:b∈PS:=by rw[h.is];exact az _ (az _ J)
 have Y:=ol (ok.up b I) p D;omega
theorem sD.ok{PS A P B:List (List aa)}{row:Int}(h:sD PS A P B row)(ok:ie PS){l:List aa}(hl:∀p∈l,p.1=row)(S:∀p∈l,iD p=true)(hc:fV (setOf af (P.flatten++l))):
  ie (A++(kA (setOf af (P.flatten++l))++B))/\(A++(kA (setOf af (P.flatten++l))++B)).flatten=setOf af (PS.flatten++l):=by
 obtain⟨b1,b2⟩:=h.Ln ok hl;obtain⟨M,Q⟩:=yk hc;obtain⟨C,hC⟩:∃C,kA (setOf af (P.flatten++l))=C:=⟨_,rfl⟩;rw[hC]at M Q⊢;have G:∀c∈C,∀p∈c,p∈setOf af (P.flatten++l):=fun c hc p H=>by
  rw[<-M];exact bz.2 ⟨c,hc,H⟩
 have I:∀m,m∈A\/m∈P\/m∈B->m∈PS:=fun m s=>by
  rw[h.is];rcases s with s|s|s
  ·exact aQ _ s
  ·exact az _ (aQ _ s)
  exact az _ (az _ s)
 have ap:=ok.pc.apart;rw[h.is]at ap;obtain⟨U,V,Y⟩:=ak.1 ap;obtain⟨_,Z,a7⟩:=ak.1 V;have J:∀m∈A++(C++B),m∈PS\/m∈C:=fun m s=>by
  rcases aJ.1 s with s|s
  ·exact .inl (I m (.inl s))
  rcases aJ.1 s with s|s
  ·exact .inr s
  exact .inl (I m (.inr (.inr s)))
 have O:ie (A++(C++B)):=by
  refine⟨⟨fun m s=>(J m s).elim (ok.pc.ne m) (Q.ne m),?_⟩,fun m s=>(J m s).elim (ok.aE m) fun L p H=>?_,fun m s=>(J m s).elim (ok.up m) fun L=>?_⟩
  ·refine ak.2 ⟨U,ak.2 ⟨Q.apart,Z,fun c hc b hb p H q D=>b2 p (G c hc p H) b hb q D⟩,fun a ha m s p H q D=>?_⟩;rcases aJ.1 s with s|s
   ·exact b1 a ha p H q (G m s q D)
   exact Y a ha m (az _ s) p H q D
  ·rcases aJ.1 ((bO _ _ _).1 (G m L p H))with D|D
   ·obtain⟨z,hz,D⟩:=bz.1 D;exact ok.aE z (I z (.inr (.inl hz))) p D
   exact S p D
  have y:bU af C.flatten:=by rw[M];exact cx bI _
  exact(dh.1 y).1 m L
 refine⟨O,mC bI O.flat fun x=>?_⟩;rw[h.is];simp only[List.flatten_append,aJ,M,bO]
 constructor
 ·rintro(y|(y|y)|y)
  ·exact .inl (.inl y)
  ·exact .inl (.inr (.inl y))
  ·exact .inr y
  exact .inl (.inr (.inr y))
 rintro((y|y|y)|y)
 ·exact .inl y
 ·exact .inr (.inl (.inl y))
 ·exact .inr (.inr y)
 exact .inr (.inl (.inr y))
section
variable{ω:Wt}{pg:Nat->ByteArray}{i:Nat}{n w:ByteArray}{c:Ch}{X:Tr}{K:LP}{PS A B:List (List aa)}{P l:List aa}{row:Int}{V:Nat}
theorem TN(b4:∀k v,pz k v<=ω k v)(hi:i<8)(hn:cI n)(hw:cI w)(hV:V<12145)
  (tg:TG ω pg bw i c X K bw 0 V (fun y=>y∈K.map bF)) (O:bV K bw≠none) (H:fd K (dx n w)=PS.map (bp n w)) (ok:ie PS) (h:sD PS A [P] B row) (hl:∀p∈l,p.1=row) (b5:∀p∈l,iD p=true) (hc:fV (setOf af (P++l)))
  (b6:ω (bp n w P).1 (bp n w P).2<=ny ω n w (kA (setOf af (P++l)))):
  ∃Y Z,mo c i X (bp n w P).1=(Y,Z,0)/\E_ ω pg i n w Y Z (cZ K (bp n w P).1) K A (kA (setOf af (P++l))) B (V+(ny ω n w (kA (setOf af (P++l)))-ω (bp n w P).1 (bp n w P).2)) (aZ ω K-ω (bp n w P).1 (bp n w P).2+ny ω n w (kA (setOf af (P++l)))):=by
 have hf:[P].flatten=P:=by simp
 have b7:fV (setOf af ([P].flatten++l)):=by rw[hf];exact hc
 obtain⟨G,_⟩:=h.ok ok hl b5 b7;obtain⟨b1,b2⟩:=h.Ln ok hl;rw[hf]at G b1 b2;have b8:PS=A++P::B:=h.is;have z:=ok;rw[b8]at z H;have M:P∈A++P::B:=by simp
 have a0:=z.row M;obtain⟨d1,d2⟩:=I_ hn hw z;have J:bV K (bp n w P).1=some (bp n w P).2:=by rw[<-GH (k:=(bp n w P).1) (s:=dx n w) (lh n w (rowOf P)),H,d2]
 obtain⟨Y,Z,e,g⟩:=tg.drop hi (dO (wW n w (rowOf P))) (xe n w (rowOf P)) b4 J hV;obtain⟨C,hC⟩:∃C,kA (setOf af (P++l))=C:=⟨_,rfl⟩;rw[hC]at b6 G⊢;obtain⟨p1,p2⟩:=yk hc;rw[hC]at p1 p2;have a1:∀m∈C,m∈A++(C++B):=fun m D=>az _ (aQ _ D);have Q:∀m∈C,rowOf P<=rowOf m:=fun m D=>by
  obtain⟨p,L,ep⟩:=ip (p2.ne m D).1;have:p∈setOf af (P++l):=by rw[<-p1];exact bz.2 ⟨m,D,L⟩
  rcases aJ.1 ((bO _ _ _).1 this)with S|S
  ·have:=ol (z.up P M) p S;omega
  have I:=hl p S;have h2:=h.low P (by simp);omega
 have hd:=sl ω tg.IZ J;refine⟨Y,Z,e,⟨(bp n w P).1,ω (bp n w P).1 (bp n w P).2+(ny ω n w C-ω (bp n w P).1 (bp n w P).2),(g.add _).less (aV _) (aV _) (fun y hy=>.inl hy),by omega,fun m D=>?_,fun y hy a3 m D=>?_⟩,?_,G,(Rest.refl n w K).drop hw _,by omega,O⟩
 ·rw[le_iff];show g_ (cP n w (rowOf P)) (cP n w (rowOf m))≠1;rw[Gt hn hw a0 (G.row (a1 m D))];have:=Q m D
  split
  ·omega
  rw[if_neg (by omega)];omega
 ·have b9:y∈K.map bF:=by
   rcases hy with I|I
   ·exact I
   obtain⟨e,he,rfl⟩:=aS.1 I;exact cO (pq he)
  obtain⟨e,he,rfl⟩:=aS.1 b9;cases L:preB (dx n w) e.1 with
  |true=>
   have I:e∈fd K (dx n w):=cl.2 ⟨he,L⟩;rw[H]at I;obtain⟨b,hb,rfl⟩:=aS.1 I;have a5:=z.row hb;have a6:rowOf P<rowOf b:=(yd hn hw a0 a5).1 a3;have c0:b∈B:=by
    rcases aJ.1 hb with h2|h2
    ·have ap:=z.pc.apart;have U:=(ak.1 ap).2.2 b h2 P bc;have h4:=ym (z.pc.ne b hb).1 (z.pc.ne P M).1 U;omega
    rcases bt.1 h2 with U|U
    ·rw[U]at a6;omega
    exact U
   refine(yd hn hw (G.row (a1 m D)) a5).2 ?_;refine ym (p2.ne m D).1 (z.pc.ne b hb).1 fun p L q S=>b2 p ?_ b c0 q S;rw[<-p1];exact bz.2 ⟨m,D,L⟩
  |false=>
   refine Nj (fun c1=>?_) L (lh n w (rowOf m));exact absurd (fi a3 c1) (BV (lh n w (rowOf P)))
 rw[Dh,H];exact d1
theorem TO(hn:cI n)(hw:cI w)
  (Y:TG ω pg bw i c X K bw 0 V (fun y=>y∈K.map bF)) (z:bV K bw≠none) (G:fd K (dx n w)=PS.map (bp n w)) (ok:ie PS) (h:sD PS [] [] B row) (L:∀p∈l,p.1=row) (H:∀p∈l,iD p=true) (hc:fV (setOf af l)):
  E_ ω pg i n w c X K K [] (kA (setOf af l)) B (V+ny ω n w (kA (setOf af l))) (aZ ω K+ny ω n w (kA (setOf af l))):=by
 have I:fV (setOf af ([].flatten++l)):=hc;obtain⟨q,_⟩:=h.ok ok L H I;have q:ie ([]++(kA (setOf af l)++B)):=q;have Z:PS=B:=h.is;obtain⟨C,M⟩:∃C,kA (setOf af l)=C:=⟨_,rfl⟩;rw[M]at q⊢;obtain⟨O,Q⟩:=yk hc;rw[M]at O Q;have D:∀m∈C,rowOf m=row:=fun m b=>by
  obtain⟨p,hp,ep⟩:=ip (Q.ne m b).1;have:p∈setOf af l:=by rw[<-O];exact bz.2 ⟨m,b,hp⟩
  rw[<-ep];exact L p ((bO _ _ _).1 this)
 have s:∀m∈C,(bp n w m).1=cP n w row:=fun m b=>by
  show cP n w (rowOf m)=_;rw[D m b]
 have S:=(Y.rest (dO (wW n w row))).add (ny ω n w C);rw[el]at S;refine⟨⟨cP n w row,ny ω n w C,S.less (aV _) (aV _) (fun y U=>.inl U),aV _,fun m b=>?_,fun y U J m b=>?_⟩,?_,q,Rest.refl n w K,rfl,z⟩
 ·rw[s m b];exact bL _
 ·rw[s m b];exact J
 rw[G,Z]
 rfl
end
def pX:Wt:=fun k v=>max (pz k v) (match fU k.data.toList,kQ v.data.toList with
 |some [_,u,_],some l=>(19+u.text.size)*l.length
 |_,_=>0)
theorem vu:∀k v,pz k v<=pX k v:=fun _ _=>Nat.le_max_left _ _
def gI(p:aa):Prop:=1<=p.1/\p.1<=8000/\0<=p.2/\p.2<=19
theorem gI.iD{p:aa}(h:gI p):iD p=true:=by
 unfold gI at h;exact iM.2 (by omega)
theorem NI{l:List aa}(h:∀p∈l,iD p=true)(q:bU af l):dG l=true:=by
 refine qJ fun k b=>?_;unfold nj;have s:l.getD k (0,0)=l[k]:=by
  rw[bM,cj b]
  rfl
 rw[s,h _ (cD b),Bool.true_and,Bool.or_eq_true];cases k with
 |zero=>exact .inl rfl
 |succ k=>
  refine .inr ?_;have y:=(bT.1 q) k (k+1) (by omega) b (by omega);show af (l.getD k (0,0)) l[k+1]=true;rw[bM,cj (by omega)];exact y
theorem Dr{l:List aa}(h:∀p∈l,gI p):(cT l).length<=3*l.length:=EY fun p b=>by
 have:=h p b;unfold gI at this;omega
theorem PH{n w:ByteArray}(hn:cI n)(hw:cI w)(O:n.size<=1){l:List aa}(s:l≠[])(hs:∀p∈l,gI p)(B:bU af l):pX (bp n w l).1 (bp n w l).2=(19+w.size)*l.length:=by
 obtain⟨p,D,e⟩:=ip s;have b:1<=rowOf l/\rowOf l<=1073741824:=by
  have:=hs p D;unfold gI at this;omega
 have G:fU (cP n w (rowOf l)).data.toList=some [ia n,ia w,lE (rowOf l)]:=by
  refine zw [ia n,ia w,lE (rowOf l)] fun v hv=>?_;rcases bt.1 hv with e|hv
  ·rw[e];exact hn.aE
  rcases bt.1 hv with e|hv
  ·rw[e];exact hw.aE
  rw[ae.1 hv];exact ro b
 have H:kQ (tD (cT l)).data.toList=some l:=AP (NI (fun q I=>(hs q I).iD) B);have y:=Dr hs;have J:1<=l.length:=dA.2 s;have Q:pz (bp n w l).1 (bp n w l).2=2+(n.size+w.size+13)+(cT l).length:=by
  unfold pz bp;simp only;rw[pt,rm]
 have z:(19+w.size)*l.length=3*l.length+(16+w.size)*l.length:=by
  rw[<-Nat.add_mul]
  congr 1
  omega
 have M:16+w.size<=(16+w.size)*l.length:=Nat.le_mul_of_pos_right _ J;unfold pX;show max (pz (bp n w l).1 (bp n w l).2) (match fU (cP n w (rowOf l)).data.toList,kQ (tD (cT l)).data.toList with
  |some [_,u,_],some l=>(19+u.text.size)*l.length
  |_,_=>0)=_
 rw[G,H];simp only;have L:(ia w).text.size=w.size:=rfl;rw[L];omega
theorem Ds{n w:ByteArray}(hn:cI n)(hw:cI w)(b:n.size<=1):∀{PS:List (List aa)},(∀l∈PS,l≠[]/\(∀p∈l,gI p)/\bU af l)->ny pX n w PS=(19+w.size)*PS.flatten.length
 |[],_=>rfl
 |l::PS,h=>by
  have q:=Ds hn hw b (PS:=PS) fun m s=>h m (b_ _ s);obtain⟨y,z,B⟩:=h l bc;rw[sC,q,PH hn hw b y z B,List.flatten_cons,aX,Nat.mul_add]
theorem GJ{l:List Int}(h:l.Pairwise (·<·)){n:Nat}(q:∀x∈l,0<=x/\x<n):l.length<=n:=by
 have y:(l.map fK).Nodup:=by
  refine bB.2 (h.imp_of_mem fun{a b} ha s D=>?_);have:=q a ha;have:=q b s;omega
 have:=vm n (l.map fK) y fun k z=>by
  obtain⟨x,B,rfl⟩:=aS.1 z;have:=q x B;omega
 simpa using this
theorem xg{l:List aa}(z:bU af l)(hs:∀p∈l,gI p):fV l:=by
 refine⟨z,fun c m B hc=>?_⟩;have q:∀p∈m,gI p:=fun p s=>hs p (B.subset s);have I:=Dr q;have D:(m.map (·.2)).length<=20:=by
  refine GJ (n:=20) ?_ fun x G=>?_
  ·refine bB.2 ((z.sublist B).imp_of_mem fun{a b} ha H y=>?_);have J:=hc a ha;have L:=hc b H;have:=eD.1 y;omega
  obtain⟨p,s,rfl⟩:=aS.1 G;have:=q p s;unfold gI at this;omega
 rw[List.length_map]at D;omega
end
section
open Go Go.RowKit Go.Maps
def nD(v:be):Option (fA be×List MemPlace):=some (.held v,[])
structure LJ(K:dT)(κ:Type) where
 kv:κ->be
 kl:κ->Lit
 ok:κ->Prop
 law:Keyed prog K
 key:∀k,ok k->Go.keyOf prog K (kv k)=some (kl k)
 inj:∀a b,kl a=kl b->a=b
 T6:∀k,WideAt.IsKeyLit (kl k)
 inv:∀v l,Go.keyOf prog K v=some l->∃k,ok k/\v=kv k/\l=kl k
section
variable{K:dT}{κ:Type}(kk:LJ K κ)
def T7(D:fA be)(F:κ->Option be):Prop:=∀k:κ,kk.ok k->Maps.has D (kk.kl k)=(F k).isSome/\∀z,D.atKey (kk.kl k) z=match F k with|none=>z|some v=>.held v
def dy(w:bj)(M n:Nat)(F:κ->Option be):Prop:=∃D:fA be,w.ownsMap prog K nD M n D/\T7 kk D F
variable{kk}
theorem dy.block{w w':bj}{M n:Nat}{F:κ->Option be}(h:dy kk w M n F)(q:w'.heap[M]?=w.heap[M]?):dy kk w' M n F:=by
 obtain⟨D,⟨s,b,y,z⟩,B⟩:=h;exact⟨D,⟨s,b,q.trans y,z⟩,B⟩
theorem dy.lt{w:bj}{M n:Nat}{F:κ->Option be}(h:dy kk w M n F):M<w.heap.size:=by
 obtain⟨D,b,_⟩:=h;exact b.lt
theorem dy.gr{w w':bj}{M n:Nat}{F:κ->Option be}(h:dy kk w M n F)(g:Gr w w'):dy kk w' M n F:=h.block (g.block _ h.lt)
theorem dy.made(w:bj):dy kk (w.alloc (.map #[] 0)) w.heap.size 0 (fun _=>none):=
 ⟨.map [],World.ownsMap_made w _ _ _,fun _ _=>⟨rfl,fun _=>rfl⟩⟩
theorem sO{v:be}{d:fA be}{b:List MemPlace}(h:nD v=some (d,b)):d=.held v:=by
 unfold nD at h;cases h
 rfl
variable{T E:dT}(ht:prog.underlying T=some (.map K E)){z0:be}(hz:∀w,(zeroValue E).run prog w=.ok z0 w)
include ht hz
theorem dy.look{w:bj}{M n:Nat}{F:κ->Option be}(h:dy kk w M n F){k:κ}(s:kk.ok k):
  (em T (.map (some M)) (kk.kv k) false).run prog w=.ok ((F k).getD z0) w:=by
 obtain⟨D,z,B⟩:=h;obtain⟨H,G⟩:=B k s;obtain⟨v,I,q,hv⟩:=z.lookup (t:=T) (e:=E) kk.law ht (hz w) (rfl:nD z0=_) (kk.key k s);rw[q];have b:=sO hv;rw[G]at b;cases y:F k with
 |none=>rw[y]at b;cases b;rfl
 |some u=>rw[y]at b;cases b;rfl
theorem dy.look_ok{w:bj}{M n:Nat}{F:κ->Option be}(h:dy kk w M n F){k:κ}(s:kk.ok k):
  (em T (.map (some M)) (kk.kv k) true).run prog w=.ok (.tuple #[(F k).getD z0,.bool (F k).isSome]) w:=by
 obtain⟨D,z,B⟩:=h;obtain⟨G,H⟩:=B k s;obtain⟨v,I,q,hv⟩:=z.look_ok (t:=T) (e:=E) kk.law ht (hz w) (rfl:nD z0=_) (kk.key k s);rw[q,G];have b:=sO hv;rw[H]at b;cases y:F k with
 |none=>rw[y]at b;cases b;rfl
 |some u=>rw[y]at b;cases b;rfl
omit hz in
theorem dy.store[DecidableEq κ]{w:bj}{M n:Nat}{F:κ->Option be}(h:dy kk w M n F)(hn:n<1000000){k:κ}(H:kk.ok k)(v:be):
  ∃q,(Instr.mapUpdate T (.map (some M)) (kk.kv k) v).run prog w=.ok () q/\dy kk q M (n+1) (fun i=>if i=k then some v else F i)/\w.grownBy q (some M):=by
 obtain⟨D,B,G⟩:=h;obtain⟨q,y,I,hg⟩:=B.update (t:=T) (e:=E) kk.law ht (by unfold maxLen;omega) (kk.key k H) (rfl:nD v=_);refine⟨q,y,⟨_,I,fun i hi=>?_⟩,hg⟩;have b:=B.isMap;by_cases e:i=k
 ·subst e;simp only[if_true];exact⟨Maps.has_put_same b (kk.T6 i) _,fun z=>Maps.atKey_put_same b (kk.T6 i) _ z⟩
 have s:kk.kl i≠kk.kl k:=fun h=>e (kk.inj _ _ h);simp only[if_neg e];rw[Maps.has_put_other s];exact⟨(G i hi).1,fun z=>by rw[Maps.atKey_put_other s];exact(G i hi).2 z⟩
omit hz in
theorem dy.drop[DecidableEq κ]{w:bj}{M n:Nat}{F:κ->Option be}(h:dy kk w M n F){k:κ}(B:kk.ok k)(ty:dT):
  ∃b,(fM #[T,K] ty #[.map (some M),kk.kv k]).run prog w=.ok (.tuple #[]) b/\dy kk b M n (fun i=>if i=k then none else F i)/\w.grownBy b (some M):=by
 obtain⟨D,G,y⟩:=h;obtain⟨b,s,H,hg⟩:=G.drop (t:=T) (e:=E) kk.law ht (kk.key k B) ty;refine⟨b,s,⟨_,H,fun i hi=>?_⟩,hg.grown⟩;by_cases e:i=k
 ·subst e;simp only[if_true];exact⟨Maps.has_del_same,fun z=>Maps.atKey_del_same z⟩
 have q:kk.kl i≠kk.kl k:=fun h=>e (kk.inj _ _ h);simp only[if_neg e];rw[Maps.has_del_other q];exact⟨(y i hi).1,fun z=>by rw[Maps.atKey_del_other q];exact(y i hi).2 z⟩
omit ht hz
variable(kk)
def dB(w:bj)(M r n:Nat)(F:κ->Option be)(left:κ->Bool)(b:Nat):Prop:=
 ∃(D:fA be) (q:Lit->Bool),w.ranges prog K nD M r n D q b/\T7 kk D F/\∀k,kk.ok k->q (kk.kl k)=left k
variable{kk}
theorem dB.map{w:bj}{M r n:Nat}{F:κ->Option be}{left:κ->Bool}{b:Nat}(h:dB kk w M r n F left b):dy kk w M n F:=by
 obtain⟨D,y,q,s,_⟩:=h;exact⟨D,q.owns,s⟩
theorem dB.left_eq{w:bj}{M r n:Nat}{F:κ->Option be}{left:κ->Bool}{b:Nat}(h:dB kk w M r n F left b):w.rangeLeft M r=b:=by
 obtain⟨D,s,q,y,_⟩:=h;exact q.left_eq
theorem dB.lt{w:bj}{M r n:Nat}{F:κ->Option be}{left:κ->Bool}{b:Nat}(h:dB kk w M r n F left b):r<w.heap.size:=by
 obtain⟨D,s,q,y,_⟩:=h;exact q.lt
theorem dB.blocks{w w':bj}{M r n:Nat}{F:κ->Option be}{left:κ->Bool}{s:Nat}(h:dB kk w M r n F left s)(y:w'.heap[M]?=w.heap[M]?)(z:w'.heap[r]?=w.heap[r]?):dB kk w' M r n F left s:=by
 obtain⟨D,B,⟨G,b,q,seen,H,I,J,L,O,Q,rest⟩,S⟩:=h;exact⟨D,B,⟨G,b,q,seen,H,y.trans I,J,L,O,z.trans Q,rest⟩,S⟩
theorem dB.gr{w w':bj}{M r n:Nat}{F:κ->Option be}{left:κ->Bool}{b:Nat}(h:dB kk w M r n F left b)(g:Gr w w'):dB kk w' M r n F left b:=
 h.blocks (g.block _ h.map.lt) (g.block _ h.lt)
include ht in
theorem dy.range{w:bj}{M n:Nat}{F:κ->Option be}(h:dy kk w M n F):
  ∃b s,(fe T (.map (some M))).run prog w=.ok (.pointer (some ⟨w.heap.size,0,none⟩)) b/\dB kk b M w.heap.size n F (fun k=>(F k).isSome) s/\w.grownBy b none/\b.heap.size=w.heap.size+1:=by
 obtain⟨D,z,y⟩:=h;obtain⟨b,q,B,hg,hs⟩:=z.range (t:=T) (e:=E) kk.law ht;exact⟨b,_,q,⟨D,_,B,y,fun k G=>(y k G).1⟩,hg,hs⟩
theorem dB.next[DecidableEq κ]{w:bj}{M r n:Nat}{F:κ->Option be}{left:κ->Bool}{s:Nat}(h:dB kk w M r n F left s)(ty:dT):
  (s=0/\(∀k,kk.ok k->left k=false)/\(Instr.next (.pointer (some ⟨r,0,none⟩)) false ty).run prog w=.ok (.tuple #[.bool false]) w)\/
  ∃k v q b,kk.ok k/\left k=true/\F k=some v/\(Instr.next (.pointer (some ⟨r,0,none⟩)) false ty).run prog w=.ok (.tuple #[.bool true,kk.kv k,v]) q/\
   dB kk q M r n F (fun x=>left x&&!decide (x=k)) b/\b<s/\w.grownBy q (some r)/\q.heap.size=w.heap.size/\(fl (.pointer (some ⟨r,0,none⟩))).run prog q=.ok (.tuple #[kk.kv k,v]) q:=by
 obtain⟨D,L,O,J,H⟩:=h;rcases O.next kk.law ty with⟨Q,S,U⟩|⟨b0,v,l,y,q,b,V,Y,Z,b4,b5,b6,b7,b8,b9,I⟩
 ·exact .inl ⟨Q,fun k z=>by rw[<-H k z];exact S _,U⟩
 obtain⟨k,z,rfl,rfl⟩:=kk.inv _ _ V;have G:F k=some v:=by
  have B:=(J k z).2 .nil;rw[b4,sO (Z:nD v=some (y.1,y.2))]at B;cases G:F k with
  |none=>rw[G]at B;cases B
  |some u=>rw[G]at B;cases B;rfl
 refine .inr ⟨k,v,q,b,z,by rw[<-H k z];exact Y,G,b5,⟨D,_,b6,J,fun x hx=>?_⟩,b7,b8,b9,I⟩;have hs:(kk.kl x).sameKey (kk.kl k)=decide (x=k):=by
  by_cases e:x=k
  ·subst e;rw[decide_eq_true rfl];exact WideAt.sameKey_self (kk.T6 x)
  rw[decide_eq_false e];exact Maps.sameKey_ne fun h=>e (kk.inj _ _ h)
 show(L (kk.kl x)&&!(kk.kl x).sameKey (kk.kl k))=_;rw[hs,H x hx]
def yx[DecidableEq κ](F:κ->Option be)(k:κ)(s:Option be):κ->Option be:=fun i=>if i=k then s else F i
theorem kU[DecidableEq κ](F:κ->Option be)(k:κ)(s:Option be):yx F k s k=s:=if_pos rfl
theorem iV[DecidableEq κ](F:κ->Option be){k i:κ}(s:Option be)(h:i≠k):yx F k s i=F i:=if_neg h
variable{ops:Array Oper}{rest:List Oper}{o:Oper}{a:Act}{Q:Exit->Act->bj->Prop}{w:bj}{M n:Nat}{F:κ->Option be}
section
variable(hg:o.guard=none)
include hg
include ht hz in
theorem Fj(m x:dg)(q:o.op=Op.lookup T m x false)(h:dy kk w M n F)(y:a.eval m=.map (some M)){k:κ}(z:a.eval x=kk.kv k)(B:kk.ok k){v:be}(hv:(F k).getD z0=v)
  (D:wpList prog ops Q rest (a.put o.dst v) w):wpList prog ops Q (o::rest) a w:=by
 refine ch hg fun G s=>?_;have b:=h.look ht hz B;rw[hv]at b;unfold dr;simp[dU,q,y,z,b,bQ];exact s _ _ D
include ht hz in
theorem rG(m x:dg)(s:o.op=Op.lookup T m x true)(h:dy kk w M n F)(z:a.eval m=.map (some M)){k:κ}(B:a.eval x=kk.kv k)(D:kk.ok k){v:be}{b:Bool}(hv:(F k).getD z0=v)(G:(F k).isSome=b)
  (H:wpList prog ops Q rest (a.put o.dst (.tuple #[v,.bool b])) w):wpList prog ops Q (o::rest) a w:=by
 refine ch hg fun I y=>?_;have q:=h.look_ok ht hz D;rw[hv,G]at q;unfold dr;simp[dU,s,z,B,q,bQ];exact y _ _ H
include ht in
theorem uH[DecidableEq κ](m x v:dg)(q:o.op=Op.mapUpdate T m x v)(h:dy kk w M n F)(hn:n<1000000)(y:a.eval m=.map (some M)){k:κ}(z:a.eval x=kk.kv k)(B:kk.ok k){val:be}(hv:a.eval v=val)
  (D:∀w',dy kk w' M (n+1) (yx F k (some val))->w.grownBy w' (some M)->wpList prog ops Q rest (a.put o.dst undef) w'):wpList prog ops Q (o::rest) a w:=by
 refine ch hg fun G s=>?_;obtain⟨w',b,r1,r2⟩:=h.store ht hn B val;unfold dr;simp[dU,q,y,z,hv,b,bQ];exact s _ _ (D w' r1 r2)
include ht in
theorem Jr[DecidableEq κ](m x:dg)(q:o.op=Op.call {callee:=Callee.builtin fS,args:=#[m,x],argTypes:=#[T,K]})(h:dy kk w M n F)(y:a.eval m=.map (some M)){k:κ}(z:a.eval x=kk.kv k)(B:kk.ok k)
  (D:∀w',dy kk w' M n (yx F k none)->w.grownBy w' (some M)->wpList prog ops Q rest (a.put o.dst (.tuple #[])) w'):wpList prog ops Q (o::rest) a w:=by
 refine ch hg fun G s=>?_;obtain⟨w',b,r1,r2⟩:=h.drop ht B o.type;unfold dr;simp[dU,q,resolve,invoke,builtin,y,z,b,bQ];exact s _ _ (D w' r1 r2)
include ht in
theorem DM(m:dg)(s:o.op=Op.range T m)(h:dy kk w M n F)(z:a.eval m=.map (some M))
  (B:∀w' b,dB kk w' M w.heap.size n F (fun k=>(F k).isSome) b->w.grownBy w' none->w'.heap.size=w.heap.size+1->wpList prog ops Q rest (a.put o.dst (.pointer (some ⟨w.heap.size,0,none⟩))) w'):wpList prog ops Q (o::rest) a w:=by
 refine ch hg fun G y=>?_;obtain⟨w',b,q,r1,r2,D⟩:=h.range ht;unfold dr;simp[dU,s,z,q,bQ];exact y _ _ (B w' b r1 r2 D)
theorem kB[DecidableEq κ](it:dg)(B:o.op=Op.next it false){r:Nat}{left:κ->Bool}{s:Nat}(hit:a.eval it=.pointer (some ⟨r,0,none⟩))(h:dB kk w M r n F left s)
  (y:s=0->(∀k,kk.ok k->left k=false)->wpList prog ops Q rest (a.put o.dst (.tuple #[.bool false])) w)
  (z:∀(k:κ) (v:be) (w':bj) (b:Nat),kk.ok k->left k=true->F k=some v->dB kk w' M r n F (fun x=>left x&&!decide (x=k)) b->b<s->w.grownBy w' (some r)->w'.heap.size=w.heap.size->
   (fl (.pointer (some ⟨r,0,none⟩))).run prog w'=.ok (.tuple #[kk.kv k,v]) w'->wpList prog ops Q rest (a.put o.dst (.tuple #[.bool true,kk.kv k,v])) w'):wpList prog ops Q (o::rest) a w:=by
 refine ch hg fun Y D=>?_;unfold dr;rcases h.next o.type with⟨S,U,q⟩|⟨k,v,w',b,V,G,hv,q,H,I,J,L,O⟩
 ·simp[dU,B,hit,q,bQ];exact D _ _ (y S U)
 simp[dU,B,hit,q,bQ];exact D _ _ (z k v w' b V G hv H I J L O)
end
end
def mb:LJ 9 ByteArray where
 kv:=.string
 kl s:=.string s.data.toList
 ok s:=s.size<=maxLen
 law:=string_keyed underlying9
 key _ hs:=eV underlying9 hs
 inj a b h:=by
  injection h with h
  exact ByteArray.ext (Array.ext' h)
 T6 _:=trivial
 inv v l h:=by
  rw[keyOf_string underlying9]at h;unfold mapKey at h;rw[underlying9]at h;cases v with
  |string s=>
   simp only at h
   split at h
   ·rename_i hs
    cases h;exact⟨s,hs,rfl,rfl⟩
   cases h
  |_=>cases h
def kj:LJ 3 Int where
 kv:=.int .i64
 kl k:=.int .i64 k
 ok k:=(gc .i64 k).wf=true
 law:=int_keyed eA
 key _ hk:=keyOf_int_mk eA hk
 inj a b h:=by
  injection h
 T6 _:=trivial
 inv v l h:=by
  obtain⟨x,rfl,rfl,q⟩:=Maps.keyOf_int_inv eA h;exact⟨x,q,rfl,rfl⟩
end
section
open Go Go.RowKit
abbrev bS:Type:=Int×Int
def cC(l:List aa)(r:Int):Nat:=(l.filter fun p=>p.1==r).length
theorem uM(a b:List aa)(r:Int):cC (a++b) r=cC a r+cC b r:=by
 unfold cC;rw[dQ,aX]
theorem yB(p:aa)(b:List aa)(r:Int):cC (p::b) r=(if p.1=r then 1 else 0)+cC b r:=by
 unfold cC;rw[es];by_cases h:p.1=r
 ·rw[if_pos (by simpa using h),if_pos h,bv];omega
 rw[if_neg (by simpa using h),if_neg h,el]
theorem nF{l:List aa}{r:Int}:0<cC l r↔∃p∈l,p.1=r:=by
 unfold cC;rw[List.length_pos_iff_exists_mem]
 constructor
 ·rintro⟨p,s⟩;obtain⟨b,q⟩:=cl.1 s;exact⟨p,b,by simpa using q⟩
 rintro⟨p,b,q⟩;exact⟨p,cl.2 ⟨b,by simpa using q⟩⟩
theorem sP(l:List aa)(r:Int):cC l r<=l.length:=List.length_filter_le _ _
structure jF(l:List bS)(H:Int->Nat):Prop where
 up:l.Pairwise fun a b=>a.1<b.1
 val:∀x∈l,x.2=(H x.1:Int)/\0<H x.1
 all:∀r,0<H r->∃x∈l,x.1=r
def ow(out:List bS)(p:aa):List bS:=match out.getLast? with
 |some x=>if x.1=p.1 then out.dropLast++[(x.1,x.2+1)]else out++[(p.1,1)]
 |none=>[(p.1,1)]
def fH(l:List aa):List bS:=l.foldl ow []
theorem Bj(l:List aa)(p:aa):fH (l++[p])=ow (fH l) p:=by
 unfold fH;rw[List.foldl_append]
 rfl
theorem LO{l:List aa}(h:l.Pairwise fun a b=>a.1<=b.1):jF (fH l) (cC l)/\(fH l).length<=l.length:=by
 suffices hs:∀(n:Nat) (l:List aa),l.length=n->l.Pairwise (fun a b=>a.1<=b.1)->jF (fH l) (cC l)/\(fH l).length<=l.length from hs _ l rfl h
 intro n
 induction n with
 |zero=>
  intro l L _;have:l=[]:=bA L;subst this;exact⟨⟨c2,(fun x G=>by cases G),(fun r B=>by simp[cC]at B)⟩,aV _⟩
 |succ n ih=>
  intro l L hp;obtain⟨m,p,rfl⟩:∃m p,l=m++[p]:=by
   cases B:l.reverse with
   |nil=>
    rw[List.reverse_eq_nil_iff]at B;subst B;simp at L
   |cons p r=>exact⟨r.reverse,p,by rw[<-List.reverse_reverse l,B,List.reverse_cons]⟩
  have hm:m.length=n:=by
   rw[aX]at L;simpa using L
  obtain⟨U,_,V⟩:=ak.1 hp;obtain⟨⟨u1,u2,u3⟩,u4⟩:=ih m hm U;have Y:∀q∈m,q.1<=p.1:=fun q O=>V q O p (ae.2 rfl);have J:∀x∈fH m,x.1<=p.1:=fun x G=>by
   obtain⟨q,O,e⟩:=nF.1 (u2 x G).2;have:=Y q O;omega
  have hc:∀r,cC (m++[p]) r=cC m r+if p.1=r then 1 else 0:=fun r=>by
   rw[uM,yB];simp[cC]
  rw[Bj,aX];unfold ow;cases Z:(fH m).getLast? with
  |none=>
   have h0:fH m=[]:=List.getLast?_eq_none_iff.1 Z;have H:∀r,cC m r=0:=fun r=>by
    rcases bP (cC m r)with e|e
    ·exact e
    obtain⟨x,G,_⟩:=u3 r e;rw[h0]at G;cases G
   refine⟨⟨bW _ _,fun x G=>?_,fun r B=>?_⟩,by simp⟩
   ·rw[ae.1 G];simp only[hc,H,if_true];omega
   rw[hc,H]at B
   split at B
   ·rename_i e
    exact⟨_,ae.2 rfl,e⟩
   omega
  |some x=>
   obtain⟨d,hd⟩:∃d,fH m=d++[x]:=⟨_,(List.getLast?_eq_some_iff.1 Z).choose_spec⟩;have a7:(d++[x]).length=d.length+1:=by simp
   rw[hd]at u1 u2 u3 u4 J;obtain⟨v1,_,v3⟩:=ak.1 u1;have D:∀y∈d,y.1<x.1:=fun y s=>v3 y s x (ae.2 rfl);have a8:=J x (az _ (ae.2 rfl));obtain⟨w1,w2⟩:=u2 x (az _ (ae.2 rfl));simp only;by_cases e:x.1=p.1
   ·rw[if_pos e,hd,List.dropLast_concat];refine⟨⟨ak.2 ⟨v1,bW _ _,fun y s z H=>?_⟩,fun y s=>?_,fun r B=>?_⟩,?_⟩
    ·rw[ae.1 H];exact D y s
    ·rcases aJ.1 s with s|s
     ·have Q:=u2 y (aQ _ s);have h2:=D y s;rw[hc,if_neg (by omega)];exact Q
     rw[ae.1 s];simp only[hc,if_pos e.symm];omega
    ·rw[hc]at B;by_cases M:p.1=r
     ·exact⟨(x.1,x.2+1),az _ (ae.2 rfl),by show x.1=r;omega⟩
     rw[if_neg M]at B;obtain⟨y,s,I⟩:=u3 r (by omega);rcases aJ.1 s with s|s
     ·exact⟨y,aQ _ s,I⟩
     rw[ae.1 s]at I;exact absurd (by omega) M
    rw[aX]at u4⊢;simp only[bv,cK]at u4⊢;omega
   rw[if_neg e,hd];refine⟨⟨ak.2 ⟨u1,bW _ _,fun y s z H=>?_⟩,fun y s=>?_,fun r B=>?_⟩,?_⟩
   ·rw[ae.1 H];show y.1<p.1;rcases aJ.1 s with s|s
    ·have:=D y s;omega
    rw[ae.1 s];omega
   ·rcases aJ.1 s with s|s
    ·have Q:=u2 y s;have h2:y.1<p.1:=by
      rcases aJ.1 s with s|s
      ·have:=D y s;omega
      rw[ae.1 s];omega
     rw[hc,if_neg (by omega)];exact Q
    rw[ae.1 s];have H:cC m p.1=0:=by
     rcases bP (cC m p.1)with S|S
     ·exact S
     obtain⟨y,s,I⟩:=u3 p.1 S;rcases aJ.1 s with s|s
     ·have:=D y s;omega
     rw[ae.1 s]at I;exact absurd I e
    simp only[hc,H,if_true];omega
   ·rw[hc]at B;by_cases M:p.1=r
    ·exact⟨(p.1,1),az _ (ae.2 rfl),M⟩
    rw[if_neg M]at B;obtain⟨y,s,I⟩:=u3 r (by omega);exact⟨y,aQ _ s,I⟩
   rw[aX];simp only[bv,cK];omega
def gl:List bS->Int->Int
 |[],_=>0
 |x::l,r=>if x.1=r then x.2 else gl l r
theorem rI{l:List bS}{H:Int->Nat}(h:jF l H)(r:Int):gl l r=(H r:Int):=by
 have main:∀l:List bS,(∀x∈l,x.2=(H x.1:Int))->(0<H r->∃x∈l,x.1=r)->gl l r=(H r:Int):=by
  intro l
  induction l with
  |nil=>
   intro _ q;show(0:Int)=_;rcases bP (H r)with e|e
   ·rw[e]
    rfl
   obtain⟨x,s,_⟩:=q e;cases s
  |cons x l D=>
   intro B q;unfold gl;by_cases e:x.1=r
   ·rw[if_pos e,B x bc,e]
   rw[if_neg e];refine D (fun y b=>B y (b_ _ b)) fun G=>?_;obtain⟨y,b,z⟩:=q G;rcases bt.1 b with I|b
   ·rw[I]at z;exact absurd z e
   exact⟨y,b,z⟩
 exact main l (fun x s=>(h.val x s).1) (h.all r)
def eI(kind:Int)(a b:Nat):Nat:=if kind=4 then(if 0<a/\0<b then a+b else 0)else if kind=5 then a+b else if kind=6 then(if b=0 then a else 0)else 0
def iq(kind:Int)(lb:List bS)(h:bS):List bS:=if(kind=4/\0<gl lb h.1)\/kind=5 then[(h.1,h.2+gl lb h.1)]else if kind=6/\gl lb h.1=0 then[h]else[]
def pE(kind:Int)(b lb:List bS):List bS:=b.flatMap (iq kind lb)
def jz(kind:Int)(b:List bS)(h:bS):List bS:=if kind=5/\gl b h.1=0 then[h]else[]
def rJ(kind:Int)(b lb:List bS):List bS:=lb.flatMap (jz kind b)
theorem xr(kind:Int)(lb:List bS)(h:bS):(iq kind lb h).length<=1:=by
 unfold iq
 split
 ·simp
 split
 ·simp
 simp
theorem DV(kind:Int)(lb:List bS)(h:bS):(jz kind lb h).length<=1:=by
 unfold jz
 split
 ·simp
 simp
theorem yC{b q:Type}(f:b->List q)(hf:∀x,(f x).length<=1):∀l:List b,(l.flatMap f).length<=l.length
 |[]=>aV _
 |x::l=>by
  have:=yC f hf l;have:=hf x;rw[en,aX,bv];omega
theorem Oi(kind:Int)(b lb:List bS)(i:Nat)(h:i<b.length):pE kind (b.take (i+1)) lb=pE kind (b.take i) lb++iq kind lb b[i]:=by
 unfold pE;rw[cs h,dD];simp
theorem Oj(kind:Int)(b lb:List bS)(i:Nat)(h:i<lb.length):rJ kind b (lb.take (i+1))=rJ kind b (lb.take i)++jz kind b lb[i]:=by
 unfold rJ;rw[cs h,dD];simp
theorem Ol{kind:Int}(hk:kind=4\/kind=5\/kind=6){s lb out:List bS}{A B:Int->Nat}(ha:jF s A)(H:jF lb B)(I:out.Perm (pE kind s lb++rJ kind s lb))(hs:out.Pairwise fun a b=>a.1<=b.1):
  jF out (fun r=>eI kind (A r) (B r)):=by
 have M:∀x,x∈pE kind s lb↔∃h∈s,x∈iq kind lb h:=fun x=>da;have mB:∀x,x∈rJ kind s lb↔∃h∈lb,x∈jz kind s h:=fun x=>da;have V:∀x∈pE kind s lb,x.2=(eI kind (A x.1) (B x.1):Nat)/\0<eI kind (A x.1) (B x.1)/\0<A x.1:=fun x q=>by
  obtain⟨h,z,q⟩:=(M x).1 q;obtain⟨Y,J⟩:=ha.val h z;have hf:=rI H h.1;unfold iq at q;rw[hf]at q
  split at q
  ·rename_i hc
   rw[ae.1 q];unfold eI;rcases hk with rfl|rfl|rfl
   ·have:0<B h.1:=by omega
    simp only[if_true,if_pos (And.intro J this)];omega
   ·simp only[show¬((5:Int)=4)by omega,if_false,if_true];omega
   omega
  split at q
  ·rename_i _ hc
   rw[ae.1 q];unfold eI;obtain⟨rfl,hc⟩:=hc;have:B h.1=0:=by omega
   simp only[show¬((6:Int)=4)by omega,show¬((6:Int)=5)by omega,if_false,if_true,this];exact⟨Y,J,J⟩
  cases q
 have Z:∀x∈rJ kind s lb,x.2=(eI kind (A x.1) (B x.1):Nat)/\0<eI kind (A x.1) (B x.1)/\A x.1=0:=fun x q=>by
  obtain⟨h,z,q⟩:=(mB x).1 q;obtain⟨Y,J⟩:=H.val h z;have hf:=rI ha h.1;unfold jz at q;rw[hf]at q
  split at q
  ·rename_i hc
   rw[ae.1 q];obtain⟨rfl,hc⟩:=hc;have h0:A h.1=0:=by omega
   have e:eI 5 (A h.1) (B h.1)=B h.1:=by
    unfold eI;rw[if_neg (by omega),if_pos rfl,h0,el]
   rw[e];exact⟨Y,J,h0⟩
  cases q
 have O:∀(f:bS->List bS) (_:∀h,(f h).length<=1) (_:∀h x,x∈f h->x.1=h.1) (l:List bS),l.Pairwise (fun a b=>a.1<b.1)->(l.flatMap f).Pairwise fun a b=>a.1<b.1:=by
  intro f a0 Q l
  induction l with
  |nil=>intro _;exact c2
  |cons h l ih=>
   intro I;obtain⟨p1,p2⟩:=bh.1 I;rw[en];refine ak.2 ⟨?_,ih p2,fun x q y L=>?_⟩
   ·have:=a0 h;cases a1:f h with
    |nil=>exact c2
    |cons a r=>
     rw[a1]at this;have:r=[]:=bA (by simpa using this);rw[this];exact bW _ _
   obtain⟨S,a2,L⟩:=da.1 L;have:=p1 S a2;rw[Q h x q,Q S y L];exact this
 have rA:∀h x,x∈iq kind lb h->x.1=h.1:=fun h x q=>by
  unfold iq at q
  split at q
  ·rw[ae.1 q]
  split at q
  ·rw[ae.1 q]
  cases q
 have rB:∀h x,x∈jz kind s h->x.1=h.1:=fun h x q=>by
  unfold jz at q
  split at q
  ·rw[ae.1 q]
  cases q
 have a3:(out.map (·.1)).Nodup:=by
  rw[(I.map (·.1)).nodup_iff,bX];refine List.nodup_append.2 ⟨?_,?_,fun x q y L e=>?_⟩
  ·exact bB.2 ((O _ (xr kind lb) rA s ha.up).imp fun h=>by omega)
  ·exact bB.2 ((O _ (DV kind s) rB lb H.up).imp fun h=>by omega)
  obtain⟨u,hu,rfl⟩:=aS.1 q;obtain⟨v,hv,rfl⟩:=aS.1 L;have h1:=(V u hu).2.2;have S:=(Z v hv).2.2;have e:u.1=v.1:=e;rw[e]at h1;omega
 refine⟨?_,fun x q=>?_,fun r G=>?_⟩
 ·refine(fI hs (bB.1 a3)).imp fun{a b} h=>?_;have h1:=h.1;have S:=h.2;omega
 ·rcases aJ.1 (I.mem_iff.1 q)with h|h
  ·exact⟨(V x h).1,(V x h).2.1⟩
  exact⟨(Z x h).1,(Z x h).2.1⟩
 have D:∀x,(x∈pE kind s lb\/x∈rJ kind s lb)->x.1=r->∃x∈out,x.1=r:=fun x q e=>⟨x,I.mem_iff.2 (aJ.2 q),e⟩;have U:=rI H r;have a4:=rI ha r;unfold eI at G;rcases hk with rfl|rfl|rfl
 ·simp only[if_true]at G
  split at G
  ·rename_i hc
   obtain⟨h,z,e⟩:=ha.all r hc.1;refine D (h.1,h.2+gl lb h.1) (.inl ((M _).2 ⟨h,z,?_⟩)) e;unfold iq;rw[if_pos (.inl ⟨rfl,by rw[e,U];omega⟩)];exact ae.2 rfl
  omega
 ·simp only[show¬((5:Int)=4)by omega,if_false,if_true]at G;by_cases hA:0<A r
  ·obtain⟨h,z,e⟩:=ha.all r hA;refine D (h.1,h.2+gl lb h.1) (.inl ((M _).2 ⟨h,z,?_⟩)) e;unfold iq;rw[if_pos (.inr rfl)];exact ae.2 rfl
  obtain⟨h,z,e⟩:=H.all r (by omega);refine D h (.inr ((mB _).2 ⟨h,z,?_⟩)) e;unfold jz;rw[if_pos ⟨rfl,by rw[e,a4];omega⟩];exact ae.2 rfl
 simp only[show¬((6:Int)=4)by omega,show¬((6:Int)=5)by omega,if_false,if_true]at G
 split at G
 ·rename_i hc
  obtain⟨h,z,e⟩:=ha.all r G;refine D h (.inl ((M _).2 ⟨h,z,?_⟩)) e;unfold iq;rw[if_neg (by omega),if_pos ⟨rfl,by rw[e,U,hc];rfl⟩];exact ae.2 rfl
 omega
abbrev Cw:Type:=(ByteArray->Bool)->List aa
def kD(a b:List aa):List aa:=b.filter (fun x=>!!ou a x)
def Ug(C:Cw):List aa->List ByteArray->List aa
 |a,[]=>a
 |a,x::r=>Ug C (kD a (C fun y=>decide (y=x))) r
def Xn(C:Cw)(kind:Int)(ws:List ByteArray)(bg:Int)(r:Int):Nat:=
 if kind=1 then cC (Ug C (C fun y=>decide (y=ws.headD ⟨#[]⟩)) ws.tail) r
 else if kind=2 then cC (C fun y=>(ws.headD ⟨#[]⟩).data.toList.isPrefixOf y.data.toList) r
 else if r∈setOf aG (bG bg (C fun y=>decide (y=ws.headD ⟨#[]⟩)) (C fun y=>decide (y=ws.tail.headD ⟨#[]⟩)))then 1 else 0
def HQ(C:Cw):Qy->Int->Nat
 | .leaf kind ws bg,r=>Xn C kind ws bg r
 | .node kind a b,r=>eI kind (HQ C a r) (HQ C b r)
def jA:Qy->Nat
 | .leaf _ _ _=>1
 | .node _ a b=>jA a+jA b
theorem vz(kind:Int)(a b:Nat):eI kind a b<=a+b:=by
 unfold eI
 split
 ·split<;>omega
 split
 ·omega
 split
 ·split<;>omega
 omega
end
section
open Go Go.RowKit Go.Maps
section
variable{K:dT}{κ:Type}{kk:LJ K κ}{T E:dT}(ht:prog.underlying T=some (.map K E))
include ht
theorem dy.VQ{w:bj}{M n:Nat}{F:κ->Option be}(h:dy kk w M n F):
  ∃b q,(fe T (.map (some M))).run prog w=.ok (.pointer (some ⟨w.heap.size,0,none⟩)) b/\dB kk b M w.heap.size n F (fun k=>(F k).isSome) q/\w.grownBy b none/\b.heap.size=w.heap.size+1/\q<=n:=by
 obtain⟨D,y,z⟩:=h;obtain⟨b,s,B,G,hs⟩:=y.range (t:=T) (e:=E) kk.law ht;exact⟨b,_,s,⟨D,_,B,z,fun k H=>(z k H).1⟩,G,hs,y.size_le⟩
theorem lU{q:Array Oper}{rest:List Oper}{o:Oper}{a:Act}{Q:Exit->Act->bj->Prop}{w:bj}{M n:Nat}{F:κ->Option be}(B:o.guard=none)(m:dg)(y:o.op=Op.range T m)(h:dy kk w M n F)(D:a.eval m=.map (some M))
  (G:∀w' b,dB kk w' M w.heap.size n F (fun k=>(F k).isSome) b->w.grownBy w' none->w'.heap.size=w.heap.size+1->b<=n->wpList prog q Q rest (a.put o.dst (.pointer (some ⟨w.heap.size,0,none⟩))) w'):wpList prog q Q (o::rest) a w:=by
 refine ch B fun J z=>?_;obtain⟨w',b,s,r1,r2,H,I⟩:=h.VQ ht;unfold dr;simp[dU,y,D,s,bQ];exact z _ _ (G w' b r1 r2 H I)
end
theorem mH:prog.underlying 44=some (.map 3 3):=by kernel_rfl
theorem VR(w:bj):(zeroValue 3).run prog w=.ok (.int .i64 0) w:=by kernel_rfl
theorem Yw{k:Int}(h:-9223372036854775808<=k/\k<=9223372036854775807):kj.ok k:=by
 show(gc .i64 k).wf=true;simp[Lit.wf,IntKind.min,IntKind.max,gf,fT];omega
def cntF(H:Int->Nat):Int->Option be:=fun r=>if H r=0 then none else some (.int .i64 (H r:Int))
theorem RH(H:Int->Nat)(r:Int):(cntF H r).getD (.int .i64 0)=.int .i64 (H r:Int):=by
 unfold cntF;by_cases h:H r=0
 ·rw[if_pos h,h]
  rfl
 rw[if_neg h]
 rfl
def dz(w:bj)(M n:Nat)(H:Int->Nat):Prop:=dy kj w M n (cntF H)
theorem dz.gr{w w':bj}{M n:Nat}{H:Int->Nat}(h:dz w M n H)(g:Gr w w'):dz w' M n H:=dy.gr h g
theorem dy.mono{K:dT}{κ:Type}{kk:LJ K κ}{w:bj}{M n b:Nat}{F:κ->Option be}(h:dy kk w M n F)(hn:n<=b):dy kk w M b F:=by
 obtain⟨D,q,s⟩:=h;exact⟨D,q.mono hn,s⟩
theorem dz.look{w:bj}{M n:Nat}{H:Int->Nat}(h:dz w M n H){r:Int}(b:-9223372036854775808<=r/\r<=9223372036854775807):
  (em 44 (.map (some M)) (.int .i64 r) false).run prog w=.ok (.int .i64 (H r:Int)) w:=by
 have:=dy.look (kk:=kj) mH VR h (Yw b);rw[RH]at this;exact this
def uN(H:Int->Nat)(r:Int)(v:Nat):Int->Nat:=fun i=>if i=r then v else H i
theorem RI(H:Int->Nat)(r:Int){v:Nat}(hv:0<v):yx (cntF H) r (some (.int .i64 (v:Int)))=cntF (uN H r v):=by
 funext i
 unfold yx cntF uN;by_cases e:i=r
 ·subst e;rw[if_pos rfl];simp only[if_true];rw[if_neg (by omega)]
 rw[if_neg e];simp only[if_neg e]
theorem gH{b:Array Oper}{rest:List Oper}{o:Oper}{a:Act}{Q:Exit->Act->bj->Prop}{w:bj}{M n:Nat}{H:Int->Nat}(y:o.guard=none)(m x v:dg)(q:o.op=Op.mapUpdate 44 m x v)(h:dz w M n H)(hn:n<1000000)(z:a.eval m=.map (some M)){r:Int}(B:a.eval x=.int .i64 r)(D:-9223372036854775808<=r/\r<=9223372036854775807){val:Nat}(hv:a.eval v=.int .i64 (val:Int))(G:0<val)
  (I:∀w',dz w' M (n+1) (uN H r val)->w.grownBy w' (some M)->wpList prog b Q rest (a.put o.dst undef) w'):wpList prog b Q (o::rest) a w:=by
 refine uH (kk:=kj) mH y m x v q h hn z B (Yw D) hv fun w' s J=>I w' ?_ J;rw[RI H r G]at s;exact s
theorem dz.made(w:bj):dz (w.alloc (.map #[] 0)) w.heap.size 0 (fun _=>0):=dy.made w
